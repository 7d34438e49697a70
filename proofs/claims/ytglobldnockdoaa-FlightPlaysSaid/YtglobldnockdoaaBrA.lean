/- From a row's reading of an argument to what can be read in memory: the shapes of arguments (whole numbers, bools, strings, slices, structs), and what a reading of such a shape tells. No conditions: laws only. -/
import Derived.Test.YtglobldnockdoaaSlG
import Derived.Deep.Slices
import Derived.ChangeArms
namespace Go.Sl
open Go

inductive Sh where
  | int (k : IntKind)
  | bool
  | str
  | slice (e : Sh)
  | struct (fs : List Sh)

mutual
def Sh.size : Sh → Nat
  | .struct fs => Sh.sizes fs
  | _ => 1
def Sh.sizes : List Sh → Nat
  | [] => 0
  | s :: r => s.size + Sh.sizes r
end
mutual
def Sh.fits (P : Program) : Sh → TypeId → Bool
  | .int k, t => match P.underlying t with | some (.int k') => decide (k' = k) | _ => false
  | .bool, t => match P.underlying t with | some .bool => true | _ => false
  | .str, t => match P.underlying t with | some .string => true | _ => false
  | .slice e, t => match P.underlying t with | some (.slice u) => e.fits P u && Nat.beq (P.cellsOf u) e.size && Nat.blt 0 e.size | _ => false
  | .struct fs, t => match P.underlying t with | some (.struct a) => Sh.fitsAll P fs a.toList 0 && Nat.beq (P.cellsOf t) (Sh.sizes fs) | _ => false
def Sh.fitsAll (P : Program) : List Sh → List Field → Nat → Bool
  | [], [], _ => true
  | s :: r, f :: fs, off => s.fits P f.type && Nat.beq f.offset off && Nat.beq (P.cellsOf f.type) s.size && Sh.fitsAll P r fs (off + s.size)
  | _, _, _ => false
end
mutual
/-- these cells are of that shape, and what they lead to can be read -/
def Sh.rep (w : World) : Sh → List Value → Prop
  | .int k, cs => ∃ n, cs = [.int k n] ∧ k.min ≤ n ∧ n ≤ k.max
  | .bool, cs => ∃ b, cs = [.bool b]
  | .str, cs => ∃ s, cs = [.string s] ∧ s.size ≤ maxLen
  | .slice e, cs => ∃ sa n c, cs = [.slice sa n c] ∧ n ≤ c ∧ c ≤ maxLen ∧ (sa = none → n = 0) ∧ ∃ xs : List (List Value), xs.length = n ∧ (∀ x ∈ xs, x.length = e.size ∧ e.rep w x) ∧
      (0 < n → ∃ b off cells T fr, sa = some ⟨b, off, none⟩ ∧ w.heap[b]? = some (.cells cells T fr) ∧ ∀ j u, xs.flatten[j]? = some u → cells[off + j]? = some u)
  | .struct fs, cs => Sh.repAll w fs cs
def Sh.repAll (w : World) : List Sh → List Value → Prop
  | [], cs => cs = []
  | s :: r, cs => ∃ c1 c2, cs = c1 ++ c2 ∧ c1.length = s.size ∧ s.rep w c1 ∧ Sh.repAll w r c2
end

theorem cell_spot {w : World} {a : Addr} {v : Value} (h : w.cell? a = some v) : ∃ cells T fr, a = ⟨a.block, a.off, none⟩ ∧ w.heap[a.block]? = some (.cells cells T fr) ∧ cells[a.off]? = some v := by
  unfold World.cell? at h
  split at h
  · rename_i c T fr hh
    split at h
    · cases h
    · rename_i hs
      refine ⟨c, T, fr, ?_, hh, h⟩
      obtain ⟨b, o, sp⟩ := a
      cases sp with
      | none => rfl
      | some _ => simp at hs
  · cases h
theorem flatten_get {n sz : Nat} : ∀ (xs : List (List Value)), (∀ x ∈ xs, x.length = sz) → ∀ (j : Nat) (u : Value), xs.flatten[j]? = some u → ∃ i k x, xs[i]? = some x ∧ x[k]? = some u ∧ k < sz ∧ j = i * sz + k
  | [], _, _, _, h => by simp at h
  | x :: xs, hl, j, u, h => by
    rw [List.flatten_cons] at h
    have hx := hl x (by simp)
    by_cases hj : j < x.length
    · rw [List.getElem?_append_left hj] at h
      exact ⟨0, j, x, rfl, h, by omega, by omega⟩
    · rw [List.getElem?_append_right (by omega)] at h
      obtain ⟨i, k, y, h1, h2, h3, h4⟩ := flatten_get (n := n) xs (fun y hy => hl y (by simp [hy])) _ u h
      refine ⟨i + 1, k, y, by simpa using h1, h2, h3, ?_⟩
      rw [Nat.succ_mul]; omega

section
variable {H : Type} {enc : TypeId × Value → H} {P : Program} {w : World} {base : Nat} {spare : Nat → Bool} {held : Bool}
mutual
theorem Sh.rep_of : ∀ (s : Sh) {t : TypeId} {cs : List Value} {x : DataW H × List MemPlace} {fuel : Nat}, s.fits P t = true → DataW.trod enc P w base spare held fuel t cs = some x → s.rep w cs ∧ cs.length = s.size
  | .int k, t, cs, x, fuel, hf, h => by
    unfold Sh.fits at hf
    split at hf
    · rename_i k' hu
      have := of_decide_eq_true hf
      subst this
      obtain ⟨n, rfl, _, hw⟩ := DataW.trod_int hu h
      unfold Lit.wf at hw
      simp only [Bool.and_eq_true, decide_eq_true_eq] at hw
      exact ⟨by unfold Sh.rep; exact ⟨n, rfl, hw⟩, by simp [Sh.size]⟩
    · cases hf
  | .bool, t, cs, x, fuel, hf, h => by
    unfold Sh.fits at hf
    split at hf
    · rename_i hu
      obtain ⟨b, rfl, _⟩ := DataW.trod_bool hu h
      exact ⟨by unfold Sh.rep; exact ⟨b, rfl⟩, by simp [Sh.size]⟩
    · cases hf
  | .str, t, cs, x, fuel, hf, h => by
    unfold Sh.fits at hf
    split at hf
    · rename_i hu
      obtain ⟨b, rfl, _, hb⟩ := DataW.trod_string hu h
      exact ⟨by unfold Sh.rep; exact ⟨b, rfl, hb⟩, by simp [Sh.size]⟩
    · cases hf
  | .slice e, t, cs, x, fuel, hf, h => by
    unfold Sh.fits at hf
    split at hf
    · rename_i u hu
      simp only [Bool.and_eq_true] at hf
      have hc := Nat.eq_of_beq_eq_true hf.1.2
      have hpos : 0 < e.size := Nat.le_of_ble_eq_true hf.2
      refine ⟨?_, ?_⟩
      · unfold Sh.rep
        rcases Go.Deep.open_slice hu h with ⟨rfl, _⟩ | ⟨a, len, cap, m, n, D, Pl, rfl, hb, hl, hm, hmm, hxx, hx⟩
        · exact ⟨none, 0, 0, rfl, Nat.le_refl _, by simp [maxLen], fun _ => rfl, [], rfl, by simp, fun h => by omega⟩
        · have hlm : len ≤ m := by rw [hmm]; split <;> omega
          have hel : ∀ i, i < len → ∃ y : List Value, w.cells? base (a.add (i * e.size)) e.size = some y ∧ e.rep w y ∧ y.length = e.size := fun i hi => by
            obtain ⟨y, h1, h2⟩ := hx i (by omega)
            rw [hc] at h1
            exact ⟨y, h1, Sh.rep_of e hf.1.1 h2⟩
          have hxs : ∃ xs : List (List Value), xs.length = len ∧ ∀ i y, xs[i]? = some y → w.cells? base (a.add (i * e.size)) e.size = some y ∧ e.rep w y ∧ y.length = e.size := by
            clear hxx hx hl hm hmm hlm h
            induction len with
            | zero => exact ⟨[], rfl, by simp⟩
            | succ k ih =>
              obtain ⟨xs, h1, h2⟩ := ih (fun i hi => hel i (by omega))
              obtain ⟨y, hy⟩ := hel k (by omega)
              refine ⟨xs ++ [y], by simp [h1], fun i z hz => ?_⟩
              by_cases hi : i < k
              · rw [List.getElem?_append_left (by omega)] at hz
                exact h2 i z hz
              · rw [List.getElem?_append_right (by omega)] at hz
                have hik : i = k := by
                  have := (List.getElem?_eq_some_iff.1 hz).1
                  simp at this
                  omega
                subst hik
                rw [h1] at hz
                simp at hz
                subst hz
                exact hy
          obtain ⟨xs, hxl, hxe⟩ := hxs
          refine ⟨some a, len, cap, rfl, hl, hm, (fun h => by cases h), xs, hxl, fun y hy => ?_, fun h0 => ?_⟩
          · obtain ⟨i, hi⟩ := List.mem_iff_getElem?.1 hy
            have := hxe i y hi
            exact ⟨this.2.2, this.2.1⟩
          · have hcell : ∀ j u, xs.flatten[j]? = some u → w.cell? (a.add j) = some u := fun j u hu => by
              obtain ⟨i, k, y, h1, h2, h3, rfl⟩ := flatten_get (n := 0) (sz := e.size) xs (fun y hy => by
                obtain ⟨i, hi⟩ := List.mem_iff_getElem?.1 hy
                exact (hxe i y hi).2.2) j u hu
              obtain ⟨_, _, hcs⟩ := World.cells?_some (hxe i y h1).1
              have := hcs k h3
              rw [h2] at this
              rw [← this]
              congr 1
              unfold Addr.add
              by_cases e1 : i * e.size = 0 <;> by_cases e2 : k = 0 <;> simp [e1, e2]
              omega
            obtain ⟨y0, hy0⟩ : ∃ y, xs[0]? = some y := ⟨xs[0]'(by omega), by simp⟩
            have hy0l := (hxe 0 y0 hy0).2.2
            obtain ⟨v0, hv0⟩ : ∃ v, xs.flatten[0]? = some v := by
              cases xs with
              | nil => simp at hy0
              | cons z zs =>
                simp at hy0
                subst hy0
                cases z with
                | nil => simp at hy0l; omega
                | cons v _ => exact ⟨v, by simp⟩
            have h00 := hcell 0 v0 hv0
            have ha0 : a.add 0 = a := by simp [Addr.add]
            rw [ha0] at h00
            obtain ⟨cells, T, fr, hae, hh, _⟩ := cell_spot h00
            refine ⟨a.block, a.off, cells, T, fr, by rw [← hae], hh, fun j u hu => ?_⟩
            have := hcell j u hu
            rw [hae, add_lit, cell_of_row w _ _ _ _ _ hh] at this
            exact this
      · rcases Go.Deep.open_slice hu h with ⟨rfl, _⟩ | ⟨a, len, cap, m, n, D, Pl, rfl, _⟩ <;> simp [Sh.size]
    · cases hf
  | .struct fs, t, cs, x, fuel, hf, h => by
    unfold Sh.fits at hf
    split at hf
    · rename_i a hu
      simp only [Bool.and_eq_true] at hf
      obtain ⟨xs, n, _, _, hl, hxl, hx⟩ := DataW.trod_struct hu h
      have hc := Nat.eq_of_beq_eq_true hf.2
      have := Sh.repAll_of fs (off := 0) (n := n) (cs := cs) hf.1 (fun f hfm => by
        obtain ⟨i, hi⟩ := List.mem_iff_getElem?.1 hfm
        have h1 := hx i f (by simpa using hi)
        have hil : i < xs.length := by rw [hxl]; have := (List.getElem?_eq_some_iff.1 hi).1; simpa using this
        rw [List.getElem?_eq_getElem hil] at h1
        exact ⟨_, h1⟩) (by rw [hl, hc]; simp)
      refine ⟨by unfold Sh.rep; simpa using this, by rw [hl, hc]; simp [Sh.size]⟩
    · cases hf
theorem Sh.repAll_of : ∀ (fs : List Sh) {fields : List Field} {off n : Nat} {cs : List Value}, Sh.fitsAll P fs fields off = true → (∀ f ∈ fields, ∃ x, DataW.trod enc P w base spare held n f.type ((cs.drop f.offset).take (P.cellsOf f.type)) = some x) →
    cs.length = off + Sh.sizes fs → Sh.repAll w fs (cs.drop off)
  | [], fields, off, n, cs, hf, h, hl => by
    unfold Sh.repAll
    simp [Sh.sizes] at hl
    exact List.drop_eq_nil_of_le (by omega)
  | s :: r, [], off, n, cs, hf, h, hl => by simp [Sh.fitsAll] at hf
  | s :: r, f :: fields, off, n, cs, hf, h, hl => by
    rw [Sh.fitsAll] at hf
    simp only [Bool.and_eq_true] at hf
    have ho := Nat.eq_of_beq_eq_true hf.1.1.2
    have hc := Nat.eq_of_beq_eq_true hf.1.2
    obtain ⟨x, hx⟩ := h f (by simp)
    rw [ho, hc] at hx
    obtain ⟨h1, h2⟩ := Sh.rep_of s hf.1.1.1 hx
    have h3 := Sh.repAll_of r (off := off + s.size) (n := n) (cs := cs) hf.2 (fun g hg => h g (by simp [hg])) (by rw [hl, Sh.sizes]; omega)
    unfold Sh.repAll
    exact ⟨(cs.drop off).take s.size, cs.drop (off + s.size), by rw [← List.drop_drop, List.take_append_drop], h2, h1, h3⟩
end
end
end Go.Sl
