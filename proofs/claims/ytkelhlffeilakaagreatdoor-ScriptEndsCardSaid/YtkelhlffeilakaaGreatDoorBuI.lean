/- Some texts as one. From a row's reading of an argument to what can be read in memory: the shapes of arguments (whole numbers, bools, strings, slices, structs), and what a reading of such a shape tells. No conditions: laws only. From a contract of the logic to a row: a law that answers 'true' and leaves all memory as it was; and the blocks of a world as a frame. No conditions: laws only. From a row's reading of its arguments to what can be read in memory, second part: all arguments at once; slices as lists; bytes. No conditions: laws only. The arguments of laws: plain shapes, and their ranges. No conditions. -/
import Derived.Test.YtkelhlffeilakaaGreatDoorBuB
import Derived.Deep.Slices
import Derived.ChangeArms
import Derived.OpenShut
import Derived.ProofKit
import Derived.Below
namespace Go.Sl
open Go

inductive Sh where
  | int (k : IntKind)
  | bool
  | str
  | slice (e : Sh)
  | struct (fs : List Sh)
  | arr2 (k : IntKind)

mutual
def Sh.size : Sh → Nat
  | .struct fs => Sh.sizes fs
  | .arr2 _ => 2
  | _ => 1
def Sh.sizes : List Sh → Nat
  | [] => 0
  | s :: r => s.size + Sh.sizes r
end
mutual
def Sh.fits (P : Program) : Sh → TypeId → Bool
  | .int k, t => match P.underlying t with | some (.int k') => decide (k' = k) | _ => false
  | .bool, t => match P.underlying t with | some .bool => true | _ => false
  | .str, t => match P.underlying t with | some .string => true | _ => false
  | .slice e, t => match P.underlying t with | some (.slice u) => e.fits P u && Nat.beq (P.cellsOf u) e.size && Nat.blt 0 e.size | _ => false
  | .struct fs, t => match P.underlying t with | some (.struct a) => Sh.fitsAll P fs a.toList 0 && Nat.beq (P.cellsOf t) (Sh.sizes fs) | _ => false
  | .arr2 k, t => match P.underlying t with
    | some (.array n e) => match P.underlying e with
      | some (.int k') => (decide (k' = k) && Nat.beq n 2) && (Nat.beq (P.cellsOf e) 1 && Nat.beq (P.cellsOf t) 2)
      | _ => false
    | _ => false
def Sh.fitsAll (P : Program) : List Sh → List Field → Nat → Bool
  | [], [], _ => true
  | s :: r, f :: fs, off => s.fits P f.type && Nat.beq f.offset off && Nat.beq (P.cellsOf f.type) s.size && Sh.fitsAll P r fs (off + s.size)
  | _, _, _ => false
end
mutual
/-- these cells are of that shape, and what they lead to can be read -/
def Sh.rep (w : World) : Sh → List Value → Prop
  | .int k, cs => ∃ n, cs = [.int k n] ∧ k.min ≤ n ∧ n ≤ k.max
  | .bool, cs => ∃ b, cs = [.bool b]
  | .str, cs => ∃ s, cs = [.string s] ∧ s.size ≤ maxLen
  | .slice e, cs => ∃ sa n c, cs = [.slice sa n c] ∧ n ≤ c ∧ c ≤ maxLen ∧ (sa = none → n = 0) ∧ ∃ xs : List (List Value), xs.length = n ∧ (∀ x ∈ xs, x.length = e.size ∧ e.rep w x) ∧
      (0 < n → ∃ b off cells T fr, sa = some ⟨b, off, none⟩ ∧ w.heap[b]? = some (.cells cells T fr) ∧ ∀ j u, xs.flatten[j]? = some u → cells[off + j]? = some u)
  | .struct fs, cs => Sh.repAll w fs cs
  | .arr2 k, cs => ∃ a b, cs = [.int k a, .int k b] ∧ (k.min ≤ a ∧ a ≤ k.max) ∧ (k.min ≤ b ∧ b ≤ k.max)
def Sh.repAll (w : World) : List Sh → List Value → Prop
  | [], cs => cs = []
  | s :: r, cs => ∃ c1 c2, cs = c1 ++ c2 ∧ c1.length = s.size ∧ s.rep w c1 ∧ Sh.repAll w r c2
end

theorem cell_spot {w : World} {a : Addr} {v : Value} (h : w.cell? a = some v) : ∃ cells T fr, a = ⟨a.block, a.off, none⟩ ∧ w.heap[a.block]? = some (.cells cells T fr) ∧ cells[a.off]? = some v := by
  unfold World.cell? at h
  split at h
  · rename_i c T fr hh
    split at h
    · cases h
    · rename_i hs
      refine ⟨c, T, fr, ?_, hh, h⟩
      obtain ⟨b, o, sp⟩ := a
      cases sp with
      | none => rfl
      | some _ => simp at hs
  · cases h
theorem flatten_get {n sz : Nat} : ∀ (xs : List (List Value)), (∀ x ∈ xs, x.length = sz) → ∀ (j : Nat) (u : Value), xs.flatten[j]? = some u → ∃ i k x, xs[i]? = some x ∧ x[k]? = some u ∧ k < sz ∧ j = i * sz + k
  | [], _, _, _, h => by simp at h
  | x :: xs, hl, j, u, h => by
    rw [List.flatten_cons] at h
    have hx := hl x (by simp)
    by_cases hj : j < x.length
    · rw [List.getElem?_append_left hj] at h
      exact ⟨0, j, x, rfl, h, by omega, by omega⟩
    · rw [List.getElem?_append_right (by omega)] at h
      obtain ⟨i, k, y, h1, h2, h3, h4⟩ := flatten_get (n := n) xs (fun y hy => hl y (by simp [hy])) _ u h
      refine ⟨i + 1, k, y, by simpa using h1, h2, h3, ?_⟩
      rw [Nat.succ_mul]; omega

section
variable {H : Type} {enc : TypeId × Value → H} {P : Program} {w : World} {base : Nat} {spare : Nat → Bool} {held : Bool}
mutual
theorem Sh.rep_of : ∀ (s : Sh) {t : TypeId} {cs : List Value} {x : DataW H × List MemPlace} {fuel : Nat}, s.fits P t = true → DataW.trod enc P w base spare held fuel t cs = some x → s.rep w cs ∧ cs.length = s.size
  | .int k, t, cs, x, fuel, hf, h => by
    unfold Sh.fits at hf
    split at hf
    · rename_i k' hu
      have := of_decide_eq_true hf
      subst this
      obtain ⟨n, rfl, _, hw⟩ := DataW.trod_int hu h
      unfold Lit.wf at hw
      simp only [Bool.and_eq_true, decide_eq_true_eq] at hw
      exact ⟨by unfold Sh.rep; exact ⟨n, rfl, hw⟩, by simp [Sh.size]⟩
    · cases hf
  | .bool, t, cs, x, fuel, hf, h => by
    unfold Sh.fits at hf
    split at hf
    · rename_i hu
      obtain ⟨b, rfl, _⟩ := DataW.trod_bool hu h
      exact ⟨by unfold Sh.rep; exact ⟨b, rfl⟩, by simp [Sh.size]⟩
    · cases hf
  | .str, t, cs, x, fuel, hf, h => by
    unfold Sh.fits at hf
    split at hf
    · rename_i hu
      obtain ⟨b, rfl, _, hb⟩ := DataW.trod_string hu h
      exact ⟨by unfold Sh.rep; exact ⟨b, rfl, hb⟩, by simp [Sh.size]⟩
    · cases hf
  | .slice e, t, cs, x, fuel, hf, h => by
    unfold Sh.fits at hf
    split at hf
    · rename_i u hu
      simp only [Bool.and_eq_true] at hf
      have hc := Nat.eq_of_beq_eq_true hf.1.2
      have hpos : 0 < e.size := Nat.le_of_ble_eq_true hf.2
      refine ⟨?_, ?_⟩
      · unfold Sh.rep
        rcases Go.Deep.open_slice hu h with ⟨rfl, _⟩ | ⟨a, len, cap, m, n, D, Pl, rfl, hb, hl, hm, hmm, hxx, hx⟩
        · exact ⟨none, 0, 0, rfl, Nat.le_refl _, by simp [maxLen], fun _ => rfl, [], rfl, by simp, fun h => by omega⟩
        · have hlm : len ≤ m := by rw [hmm]; split <;> omega
          have hel : ∀ i, i < len → ∃ y : List Value, w.cells? base (a.add (i * e.size)) e.size = some y ∧ e.rep w y ∧ y.length = e.size := fun i hi => by
            obtain ⟨y, h1, h2⟩ := hx i (by omega)
            rw [hc] at h1
            exact ⟨y, h1, Sh.rep_of e hf.1.1 h2⟩
          have hxs : ∃ xs : List (List Value), xs.length = len ∧ ∀ i y, xs[i]? = some y → w.cells? base (a.add (i * e.size)) e.size = some y ∧ e.rep w y ∧ y.length = e.size := by
            clear hxx hx hl hm hmm hlm h
            induction len with
            | zero => exact ⟨[], rfl, by simp⟩
            | succ k ih =>
              obtain ⟨xs, h1, h2⟩ := ih (fun i hi => hel i (by omega))
              obtain ⟨y, hy⟩ := hel k (by omega)
              refine ⟨xs ++ [y], by simp [h1], fun i z hz => ?_⟩
              by_cases hi : i < k
              · rw [List.getElem?_append_left (by omega)] at hz
                exact h2 i z hz
              · rw [List.getElem?_append_right (by omega)] at hz
                have hik : i = k := by
                  have := (List.getElem?_eq_some_iff.1 hz).1
                  simp at this
                  omega
                subst hik
                rw [h1] at hz
                simp at hz
                subst hz
                exact hy
          obtain ⟨xs, hxl, hxe⟩ := hxs
          refine ⟨some a, len, cap, rfl, hl, hm, (fun h => by cases h), xs, hxl, fun y hy => ?_, fun h0 => ?_⟩
          · obtain ⟨i, hi⟩ := List.mem_iff_getElem?.1 hy
            have := hxe i y hi
            exact ⟨this.2.2, this.2.1⟩
          · have hcell : ∀ j u, xs.flatten[j]? = some u → w.cell? (a.add j) = some u := fun j u hu => by
              obtain ⟨i, k, y, h1, h2, h3, rfl⟩ := flatten_get (n := 0) (sz := e.size) xs (fun y hy => by
                obtain ⟨i, hi⟩ := List.mem_iff_getElem?.1 hy
                exact (hxe i y hi).2.2) j u hu
              obtain ⟨_, _, hcs⟩ := World.cells?_some (hxe i y h1).1
              have := hcs k h3
              rw [h2] at this
              rw [← this]
              congr 1
              unfold Addr.add
              by_cases e1 : i * e.size = 0 <;> by_cases e2 : k = 0 <;> simp [e1, e2]
              omega
            obtain ⟨y0, hy0⟩ : ∃ y, xs[0]? = some y := ⟨xs[0]'(by omega), by simp⟩
            have hy0l := (hxe 0 y0 hy0).2.2
            obtain ⟨v0, hv0⟩ : ∃ v, xs.flatten[0]? = some v := by
              cases xs with
              | nil => simp at hy0
              | cons z zs =>
                simp at hy0
                subst hy0
                cases z with
                | nil => simp at hy0l; omega
                | cons v _ => exact ⟨v, by simp⟩
            have h00 := hcell 0 v0 hv0
            have ha0 : a.add 0 = a := by simp [Addr.add]
            rw [ha0] at h00
            obtain ⟨cells, T, fr, hae, hh, _⟩ := cell_spot h00
            refine ⟨a.block, a.off, cells, T, fr, by rw [← hae], hh, fun j u hu => ?_⟩
            have := hcell j u hu
            rw [hae, add_lit, cell_of_row w _ _ _ _ _ hh] at this
            exact this
      · rcases Go.Deep.open_slice hu h with ⟨rfl, _⟩ | ⟨a, len, cap, m, n, D, Pl, rfl, _⟩ <;> simp [Sh.size]
    · cases hf
  | .struct fs, t, cs, x, fuel, hf, h => by
    unfold Sh.fits at hf
    split at hf
    · rename_i a hu
      simp only [Bool.and_eq_true] at hf
      obtain ⟨xs, n, _, _, hl, hxl, hx⟩ := DataW.trod_struct hu h
      have hc := Nat.eq_of_beq_eq_true hf.2
      have := Sh.repAll_of fs (off := 0) (n := n) (cs := cs) hf.1 (fun f hfm => by
        obtain ⟨i, hi⟩ := List.mem_iff_getElem?.1 hfm
        have h1 := hx i f (by simpa using hi)
        have hil : i < xs.length := by rw [hxl]; have := (List.getElem?_eq_some_iff.1 hi).1; simpa using this
        rw [List.getElem?_eq_getElem hil] at h1
        exact ⟨_, h1⟩) (by rw [hl, hc]; simp)
      refine ⟨by unfold Sh.rep; simpa using this, by rw [hl, hc]; simp [Sh.size]⟩
    · cases hf
  | .arr2 k, t, cs, x, fuel, hf, h => by
    unfold Sh.fits at hf
    split at hf
    · rename_i n e hu
      split at hf
      · rename_i k' he
        simp only [Bool.and_eq_true] at hf
        have hk := of_decide_eq_true hf.1.1
        subst hk
        have hn := Nat.eq_of_beq_eq_true hf.1.2
        subst hn
        have hc := Nat.eq_of_beq_eq_true hf.2.1
        have hct := Nat.eq_of_beq_eq_true hf.2.2
        obtain ⟨xs, m, _, _, hlen, hcl, hel⟩ := DataW.trod_array hu h
        have one : ∀ i, i < 2 → ∃ a, cs[i]? = some (.int k' a) ∧ (k'.min ≤ a ∧ a ≤ k'.max) := fun i hi => by
          have h1 := hel i hi
          rw [hc, Nat.mul_one, List.getElem?_eq_getElem (show i < xs.length by omega)] at h1
          obtain ⟨z, e1, _, e3⟩ := DataW.trod_int he h1
          unfold Lit.wf at e3
          simp only [Bool.and_eq_true, decide_eq_true_eq] at e3
          have h3 := congrArg (fun l => l[0]?) e1
          simp only [List.getElem?_take, List.getElem?_drop] at h3
          simp at h3
          exact ⟨z, h3, e3⟩
        obtain ⟨a, ha, hab⟩ := one 0 (by omega)
        obtain ⟨b, hb, hbb⟩ := one 1 (by omega)
        have hl2 : cs.length = 2 := by omega
        match cs, hl2, ha, hb with
        | [u, v], _, ha, hb =>
          simp at ha hb
          subst ha
          subst hb
          exact ⟨by unfold Sh.rep; exact ⟨a, b, rfl, hab, hbb⟩, rfl⟩
      · cases hf
    · cases hf
theorem Sh.repAll_of : ∀ (fs : List Sh) {fields : List Field} {off n : Nat} {cs : List Value}, Sh.fitsAll P fs fields off = true → (∀ f ∈ fields, ∃ x, DataW.trod enc P w base spare held n f.type ((cs.drop f.offset).take (P.cellsOf f.type)) = some x) →
    cs.length = off + Sh.sizes fs → Sh.repAll w fs (cs.drop off)
  | [], fields, off, n, cs, hf, h, hl => by
    unfold Sh.repAll
    simp [Sh.sizes] at hl
    exact List.drop_eq_nil_of_le (by omega)
  | s :: r, [], off, n, cs, hf, h, hl => by simp [Sh.fitsAll] at hf
  | s :: r, f :: fields, off, n, cs, hf, h, hl => by
    rw [Sh.fitsAll] at hf
    simp only [Bool.and_eq_true] at hf
    have ho := Nat.eq_of_beq_eq_true hf.1.1.2
    have hc := Nat.eq_of_beq_eq_true hf.1.2
    obtain ⟨x, hx⟩ := h f (by simp)
    rw [ho, hc] at hx
    obtain ⟨h1, h2⟩ := Sh.rep_of s hf.1.1.1 hx
    have h3 := Sh.repAll_of r (off := off + s.size) (n := n) (cs := cs) hf.2 (fun g hg => h g (by simp [hg])) (by rw [hl, Sh.sizes]; omega)
    unfold Sh.repAll
    exact ⟨(cs.drop off).take s.size, cs.drop (off + s.size), by rw [← List.drop_drop, List.take_append_drop], h2, h1, h3⟩
end
end
end Go.Sl
namespace Go.Sl
open Go Go.RowKit Go.WideShapes Go.ChangeShapes

/-- all that lies in a world's memory -/
def heapF (W : World) (b : Nat) : Option Obj := W.heap[b]?
theorem heapF_in (W : World) : In (heapF W) [] W := ⟨by simp, (fun _ h => by cases h), fun _ _ h => h, (fun _ h => by cases h)⟩
theorem below_of {W W' : World} (hi : In (heapF W) [] W') (hs : Same W W') : Below W.heap.size W W' :=
  ⟨hs.os, hs.tape, hs.output, hs.size, fun k hk => by
    have h1 : heapF W k = some W.heap[k] := by simp [heapF, hk]
    rw [hi.fr k _ h1]
    simp [hk]⟩

section
variable {H : Type} {enc : TypeId × Value → H} {P : Program}
theorem all_stay (hl : laidOutB P = true) {W W' : World} {sp : Nat → Bool} : ∀ (ts : List TypeId) (vs : List Value) (ds : List (DataW H)) (ps : List MemPlace), (∀ t ∈ ts, P.readableRec t = true ∧ t < P.types.size) →
    DataW.TrodAll enc P W 0 (fun _ => true) true ts vs ds ps → (∀ p ∈ ps, W.sameAt W' p) → (∀ p ∈ ps, sp p.block = true) → DataW.TrodAll enc P W' 0 sp true ts vs ds ps
  | [], [], [], ps, _, h, _, _ => h
  | t :: ts, v :: vs, d :: ds, ps, ht, h, hs, hp => by
    obtain ⟨p, q, h1, h2, rfl⟩ := h
    exact ⟨p, q, WideElems.Trod_stays hl (ht t (by simp)).1 (ht t (by simp)).2 h1 (fun x hx => hs x (by simp [hx])) (fun x hx => hp x (by simp [hx])),
      all_stay hl ts vs ds q (fun u hu => ht u (by simp [hu])) h2 (fun x hx => hs x (by simp [hx])) (fun x hx => hp x (by simp [hx])), rfl⟩
  | [], [], _ :: _, _, _, h, _, _ => by cases h
  | [], _ :: _, _, _, _, h, _, _ => by cases h
  | _ :: _, [], _, _, _, h, _, _ => by cases h
  | _ :: _, _ :: _, [], _, _, h, _, _ => by cases h

theorem post_true {f : Func} {s : ChangeSpec} {apart fresh handsOn again : Bool} {W W' : World} {args : Array Value} {ds gs : List (DataW H)} {before : List MemPlace} {tb : TypeId} (hl : laidOutB P = true)
    (hts : ∀ t ∈ f.params.toList, P.readableRec t = true ∧ t < P.types.size) (hrt : f.resultTypes = #[tb]) (htb : P.underlying tb = some .bool) (hv : s.vars = [])
    (hW : DataW.Whole enc P f.params.toList s.vars apart W args.toList ds gs before) (hres : (s.fn H (ds ++ gs)).results = [.lit (.bool true)]) (harg : (s.fn H (ds ++ gs)).args = ds) (hvar : (s.fn H (ds ++ gs)).vars = [])
    (hb : Below W.heap.size W W') : s.post enc P f apart fresh handsOn again W args (.bool true) W' := by
  have hlt := hW.lt
  have hW0 := hW
  obtain ⟨p, q, hA, hV, rfl, hz, hn⟩ := hW
  have hq : q = [] ∧ gs = [] := by
    rw [hv] at hV
    cases gs with
    | nil => exact ⟨hV, rfl⟩
    | cons _ _ => cases hV
  obtain ⟨rfl, rfl⟩ := hq
  simp only [List.append_nil] at *
  have hr : ∀ (b : Nat) (sp : Nat → Bool) (hd : Bool), DataW.TrodAll enc P W' b sp hd f.resultTypes.toList ((Value.bool true).resultList f.resultTypes.size) [.lit (.bool true)] [] := fun b sp hd => by
    rw [hrt]
    exact trodAll_mk1 (shut_bool htb true)
  have ha : ∀ sp : Nat → Bool, (∀ x ∈ p, sp x.block = true) → DataW.TrodAll enc P W' 0 sp true f.params.toList args.toList ds p := fun sp hsp =>
    all_stay hl _ _ _ _ hts hA (fun x hx => hb.same (hlt x hx)) hsp
  have hvv : ∀ sp : Nat → Bool, DataW.TrodVars enc P W' sp s.vars [] [] := fun sp => by rw [hv]; rfl
  refine ⟨ds, [], p, [], p, [], hW0, ?_, ?_, ?_, World.keptBut_mono (fun x hx => ⟨hx, .inr (.inl hx)⟩) (hb.frame (· ∈ p)), fun _ => ⟨?_, [.lit (.bool true)] ++ ds, [], p, ⟨[] ++ p, [], ?_, hvv _, by simp, ?_, ?_⟩, fun x hx _ => hx⟩⟩
  · rw [List.append_nil, hres]; exact hr _ _ _
  · rw [List.append_nil, harg]; exact ha _ (fun x hx => by simpa using hlt x hx)
  · rw [List.append_nil, hvar]; exact hvv _
  · exact ok_one hrt rfl (okWide_bool_mk htb true)
  · exact trodAll_append (ha _ (fun _ _ => rfl)) (hr _ _ _)
  · intro b off hx
    rw [hb.frozen (hlt _ hx)]
    exact hz b off hx
  · exact hn
end
end Go.Sl
namespace Go.Sl
open Go Go.RowKit Go.WideShapes Go.ChangeShapes

/-- a value is a struct, or one cell -/
def Sh.val : Sh → Value → List Value → Prop
  | .struct _, v, cs => v = .agg cs.toArray
  | .arr2 _, v, cs => v = .agg cs.toArray
  | _, v, cs => cs = [v]
section
variable {H : Type} {enc : TypeId × Value → H} {P : Program} {w : World}
theorem cell_noagg {r : Reach} {base : Nat} {t : TypeId} {v : Value} (h : Cell.okWide P w r base t v) : v.cells.toList = [v] := by
  cases v with
  | agg c =>
    exfalso
    unfold Cell.okWide at h
    split at h
    any_goals (rename_i he; cases he)
    unfold Cell.ok at h
    split at h
    any_goals (rename_i he; cases he)
    exact h
  | _ => rfl
theorem Sh.val_of {r : Reach} {base : Nat} (s : Sh) {t : TypeId} {v : Value} (hf : s.fits P t = true) (h : Value.okWide P w r base t v) : s.val v v.cells.toList := by
  unfold Value.okWide at h
  cases s with
  | arr2 k =>
    unfold Sh.fits at hf
    split at hf
    · rename_i n e hu
      rw [hu] at h
      obtain ⟨cs, rfl, _⟩ := h
      simp [Sh.val, Value.cells]
    · cases hf
  | struct fs =>
    unfold Sh.fits at hf
    split at hf
    · rename_i a hu
      rw [hu] at h
      obtain ⟨cs, rfl, _⟩ := h
      simp [Sh.val, Value.cells]
    · cases hf
  | int k =>
    unfold Sh.fits at hf
    split at hf
    · rename_i k' hu
      rw [hu] at h
      exact cell_noagg h
    · cases hf
  | bool =>
    unfold Sh.fits at hf
    split at hf
    · rename_i hu
      rw [hu] at h
      exact cell_noagg h
    · cases hf
  | str =>
    unfold Sh.fits at hf
    split at hf
    · rename_i hu
      rw [hu] at h
      exact cell_noagg h
    · cases hf
  | slice e =>
    unfold Sh.fits at hf
    split at hf
    · rename_i u hu
      rw [hu] at h
      exact cell_noagg h
    · cases hf
/-- all arguments are of their shapes -/
def Reps (w : World) : List Sh → List Value → Prop
  | [], vs => vs = []
  | s :: r, vs => ∃ v vr cs, vs = v :: vr ∧ s.val v cs ∧ s.rep w cs ∧ cs.length = s.size ∧ Reps w r vr
def fitsL (P : Program) : List Sh → List TypeId → Bool
  | [], [] => true
  | s :: r, t :: ts => s.fits P t && fitsL P r ts
  | _, _ => false
theorem Reps.of {rc : Reach} {base : Nat} : ∀ (shs : List Sh) (ts : List TypeId) (vs : List Value) (ds : List (DataW H)) (ps : List MemPlace), fitsL P shs ts = true → (∀ (j : Nat) t v, ts[j]? = some t → vs[j]? = some v → Value.okWide P w rc base t v) →
    DataW.TrodAll enc P w 0 (fun _ => true) true ts vs ds ps → Reps w shs vs
  | [], [], vs, ds, ps, _, _, h => by
    match vs, ds, h with
    | [], [], _ => rfl
    | [], _ :: _, h => cases h
    | _ :: _, _, h => cases h
  | [], _ :: _, _, _, _, hf, _, _ => by cases hf
  | _ :: _, [], _, _, _, hf, _, _ => by cases hf
  | s :: r, t :: ts, vs, ds, ps, hf, hv, h => by
    unfold fitsL at hf
    rw [Bool.and_eq_true] at hf
    match vs, ds, h with
    | v :: vs, d :: ds, ⟨p, q, h1, h2, h3⟩ =>
      obtain ⟨fuel, hfuel⟩ := h1
      obtain ⟨hrep, hlen⟩ := Sh.rep_of s hf.1 hfuel
      exact ⟨v, vs, _, rfl, s.val_of hf.1 (hv 0 t v rfl rfl), hrep, hlen, Reps.of r ts vs ds q hf.2 (fun j t v h1 h2 => hv (j + 1) t v (by simpa using h1) (by simpa using h2)) h2⟩
    | [], _, h => cases h
    | _ :: _, [], h => cases h
end

theorem lst_dec {α : Type} {w : World} {e : Sh} (cells : α → List Value) (Q : α → Prop) (dec : ∀ x, x.length = e.size → e.rep w x → ∃ a, x = cells a ∧ Q a) : ∀ (xs : List (List Value)), (∀ x ∈ xs, x.length = e.size ∧ e.rep w x) → ∃ l : List α, xs = l.map cells ∧ ∀ a ∈ l, Q a
  | [], _ => ⟨[], rfl, fun _ h => by cases h⟩
  | x :: xs, h => by
    obtain ⟨l, rfl, hl⟩ := lst_dec cells Q dec xs (fun y hy => h y (by simp [hy]))
    obtain ⟨a, rfl, ha⟩ := dec x (h x (by simp)).1 (h x (by simp)).2
    exact ⟨a :: l, rfl, fun b hb => by
      rcases List.mem_cons.1 hb with rfl | hb
      · exact ha
      · exact hl b hb⟩
/-- a slice as a list -/
theorem Sh.lst {α : Type} {w : World} {e : Sh} (cells : α → List Value) (Q : α → Prop) (dec : ∀ x, x.length = e.size → e.rep w x → ∃ a, x = cells a ∧ Q a) {sa : Option Addr} {n c : Nat} (h : (Sh.slice e).rep w [.slice sa n c]) :
    ∃ l : List α, l.length = n ∧ Lst (heapF w) [] e.size (l.flatMap cells) sa n c ∧ (∀ a ∈ l, Q a) ∧ n ≤ c ∧ c ≤ maxLen := by
  simp only [Sh.rep] at h
  obtain ⟨sa', n', c', he, hnc, hm, hnone, xs, hlen, hx, hcan⟩ := h
  cases he
  obtain ⟨l, rfl, hl⟩ := lst_dec cells Q dec xs hx
  have hsz : ∀ a ∈ l, (cells a).length = e.size := fun a ha => (hx (cells a) (List.mem_map.2 ⟨a, ha, rfl⟩)).1
  have hfl : ∀ (l : List α), (∀ a ∈ l, (cells a).length = e.size) → (l.flatMap cells).length = l.length * e.size := fun l => by
    induction l with
    | nil => simp
    | cons a l ih => intro h; rw [List.flatMap_cons, List.length_append, ih (fun b hb => h b (by simp [hb])), h a (by simp), List.length_cons, Nat.succ_mul]; omega
  rw [List.length_map] at hlen
  refine ⟨l, hlen, ⟨by rw [hfl l hsz, hlen], hnc, fun h0 => ?_, hnone⟩, hl, hnc, hm⟩
  obtain ⟨b, off, cs, T, fr, rfl, hb, hj⟩ := hcan h0
  refine ⟨b, off, rfl, Can.fr (F := heapF w) hb ?_⟩
  rw [List.flatten_eq_flatMap, List.flatMap_map] at hj
  exact hj

theorem byte_dec {w : World} (x : List Value) (_ : x.length = (Sh.int .u8).size) (h : (Sh.int .u8).rep w x) : ∃ b : UInt8, x = [B b] ∧ True := by
  simp only [Sh.rep] at h
  obtain ⟨n, rfl, h1, h2⟩ := h
  simp [IntKind.min, IntKind.max, IntKind.bits, IntKind.signed] at h1 h2
  refine ⟨UInt8.ofNat n.toNat, ?_, trivial⟩
  unfold B
  congr 2
  rw [UInt8.toNat_ofNat']
  omega
/-- a slice of bytes -/
theorem Sh.bytes {w : World} {sa : Option Addr} {n c : Nat} (h : (Sh.slice (.int .u8)).rep w [.slice sa n c]) : ∃ bs : List UInt8, bs.length = n ∧ Lst (heapF w) [] 1 (bs.map B) sa n c ∧ n ≤ c ∧ c ≤ maxLen := by
  obtain ⟨l, h1, h2, _, h3⟩ := Sh.lst (fun b => [B b]) (fun _ => True) byte_dec h
  have : l.flatMap (fun b => [B b]) = l.map B := by
    clear h1 h2 h3
    induction l with
    | nil => rfl
    | cons b l ih => simp [ih]
  rw [this] at h2
  exact ⟨l, h1, h2, h3⟩
theorem TrodAll_len {H : Type} {enc : TypeId × Value → H} {P : Program} {w : World} : ∀ {ts : List TypeId} {vs : List Value} {ds : List (DataW H)} {ps : List MemPlace}, DataW.TrodAll enc P w 0 (fun _ => true) true ts vs ds ps → ts.length = ds.length
  | [], [], [], _, _ => rfl
  | _ :: _, _ :: _, _ :: _, _, ⟨_, _, _, h, _⟩ => by simp [TrodAll_len h]
  | [], [], _ :: _, _, h => by cases h
  | [], _ :: _, _, _, h => by cases h
  | _ :: _, [], _, _, h => by cases h
  | _ :: _, _ :: _, [], _, h => by cases h
theorem len3 {α : Type _} : ∀ {l : List α}, 3 = l.length → ∃ a0 a1 a2, l = [a0, a1, a2]
  | [a0, a1, a2], _ => ⟨a0, a1, a2, rfl⟩
end Go.Sl
namespace Go.Sl
open Go
theorem rgU8 {n : Int} (h1 : IntKind.u8.min ≤ n) (h2 : n ≤ IntKind.u8.max) : 0 ≤ n ∧ n < 256 := by simp [IntKind.min, IntKind.max, IntKind.bits, IntKind.signed] at h1 h2; omega
theorem rgI64 {n : Int} (h1 : IntKind.i64.min ≤ n) (h2 : n ≤ IntKind.i64.max) : -9223372036854775808 ≤ n ∧ n ≤ 9223372036854775807 := by simp [IntKind.min, IntKind.max, IntKind.bits, IntKind.signed] at h1 h2; omega
theorem shI {w : World} {k : IntKind} {v : Value} {x : List Value} (hv : (Sh.int k).val v x) (h : (Sh.int k).rep w x) : ∃ n, v = .int k n ∧ k.min ≤ n ∧ n ≤ k.max := by
  simp only [Sh.rep] at h
  obtain ⟨n, rfl, h1, h2⟩ := h
  exact ⟨n, by simpa [Sh.val] using hv.symm, h1, h2⟩
end Go.Sl
