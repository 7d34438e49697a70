/- From a row's reading of its arguments to what can be read in memory, second part: all arguments at once; slices as lists; bytes. No conditions: laws only. -/
import Derived.Test.YtglobldnockdoaaBrB
namespace Go.Sl
open Go Go.RowKit Go.WideShapes Go.ChangeShapes

/-- a value is a struct, or one cell -/
def Sh.val : Sh → Value → List Value → Prop
  | .struct _, v, cs => v = .agg cs.toArray
  | _, v, cs => cs = [v]
section
variable {H : Type} {enc : TypeId × Value → H} {P : Program} {w : World}
theorem cell_noagg {r : Reach} {base : Nat} {t : TypeId} {v : Value} (h : Cell.okWide P w r base t v) : v.cells.toList = [v] := by
  cases v with
  | agg c =>
    exfalso
    unfold Cell.okWide at h
    split at h
    any_goals (rename_i he; cases he)
    unfold Cell.ok at h
    split at h
    any_goals (rename_i he; cases he)
    exact h
  | _ => rfl
theorem Sh.val_of {r : Reach} {base : Nat} (s : Sh) {t : TypeId} {v : Value} (hf : s.fits P t = true) (h : Value.okWide P w r base t v) : s.val v v.cells.toList := by
  unfold Value.okWide at h
  cases s with
  | struct fs =>
    unfold Sh.fits at hf
    split at hf
    · rename_i a hu
      rw [hu] at h
      obtain ⟨cs, rfl, _⟩ := h
      simp [Sh.val, Value.cells]
    · cases hf
  | int k =>
    unfold Sh.fits at hf
    split at hf
    · rename_i k' hu
      rw [hu] at h
      exact cell_noagg h
    · cases hf
  | bool =>
    unfold Sh.fits at hf
    split at hf
    · rename_i hu
      rw [hu] at h
      exact cell_noagg h
    · cases hf
  | str =>
    unfold Sh.fits at hf
    split at hf
    · rename_i hu
      rw [hu] at h
      exact cell_noagg h
    · cases hf
  | slice e =>
    unfold Sh.fits at hf
    split at hf
    · rename_i u hu
      rw [hu] at h
      exact cell_noagg h
    · cases hf
/-- all arguments are of their shapes -/
def Reps (w : World) : List Sh → List Value → Prop
  | [], vs => vs = []
  | s :: r, vs => ∃ v vr cs, vs = v :: vr ∧ s.val v cs ∧ s.rep w cs ∧ cs.length = s.size ∧ Reps w r vr
def fitsL (P : Program) : List Sh → List TypeId → Bool
  | [], [] => true
  | s :: r, t :: ts => s.fits P t && fitsL P r ts
  | _, _ => false
theorem Reps.of {rc : Reach} {base : Nat} : ∀ (shs : List Sh) (ts : List TypeId) (vs : List Value) (ds : List (DataW H)) (ps : List MemPlace), fitsL P shs ts = true → (∀ (j : Nat) t v, ts[j]? = some t → vs[j]? = some v → Value.okWide P w rc base t v) →
    DataW.TrodAll enc P w 0 (fun _ => true) true ts vs ds ps → Reps w shs vs
  | [], [], vs, ds, ps, _, _, h => by
    match vs, ds, h with
    | [], [], _ => rfl
    | [], _ :: _, h => cases h
    | _ :: _, _, h => cases h
  | [], _ :: _, _, _, _, hf, _, _ => by cases hf
  | _ :: _, [], _, _, _, hf, _, _ => by cases hf
  | s :: r, t :: ts, vs, ds, ps, hf, hv, h => by
    unfold fitsL at hf
    rw [Bool.and_eq_true] at hf
    match vs, ds, h with
    | v :: vs, d :: ds, ⟨p, q, h1, h2, h3⟩ =>
      obtain ⟨fuel, hfuel⟩ := h1
      obtain ⟨hrep, hlen⟩ := Sh.rep_of s hf.1 hfuel
      exact ⟨v, vs, _, rfl, s.val_of hf.1 (hv 0 t v rfl rfl), hrep, hlen, Reps.of r ts vs ds q hf.2 (fun j t v h1 h2 => hv (j + 1) t v (by simpa using h1) (by simpa using h2)) h2⟩
    | [], _, h => cases h
    | _ :: _, [], h => cases h
end

theorem lst_dec {α : Type} {w : World} {e : Sh} (cells : α → List Value) (Q : α → Prop) (dec : ∀ x, x.length = e.size → e.rep w x → ∃ a, x = cells a ∧ Q a) : ∀ (xs : List (List Value)), (∀ x ∈ xs, x.length = e.size ∧ e.rep w x) → ∃ l : List α, xs = l.map cells ∧ ∀ a ∈ l, Q a
  | [], _ => ⟨[], rfl, fun _ h => by cases h⟩
  | x :: xs, h => by
    obtain ⟨l, rfl, hl⟩ := lst_dec cells Q dec xs (fun y hy => h y (by simp [hy]))
    obtain ⟨a, rfl, ha⟩ := dec x (h x (by simp)).1 (h x (by simp)).2
    exact ⟨a :: l, rfl, fun b hb => by
      rcases List.mem_cons.1 hb with rfl | hb
      · exact ha
      · exact hl b hb⟩
/-- a slice as a list -/
theorem Sh.lst {α : Type} {w : World} {e : Sh} (cells : α → List Value) (Q : α → Prop) (dec : ∀ x, x.length = e.size → e.rep w x → ∃ a, x = cells a ∧ Q a) {sa : Option Addr} {n c : Nat} (h : (Sh.slice e).rep w [.slice sa n c]) :
    ∃ l : List α, l.length = n ∧ Lst (heapF w) [] e.size (l.flatMap cells) sa n c ∧ (∀ a ∈ l, Q a) ∧ n ≤ c ∧ c ≤ maxLen := by
  simp only [Sh.rep] at h
  obtain ⟨sa', n', c', he, hnc, hm, hnone, xs, hlen, hx, hcan⟩ := h
  cases he
  obtain ⟨l, rfl, hl⟩ := lst_dec cells Q dec xs hx
  have hsz : ∀ a ∈ l, (cells a).length = e.size := fun a ha => (hx (cells a) (List.mem_map.2 ⟨a, ha, rfl⟩)).1
  have hfl : ∀ (l : List α), (∀ a ∈ l, (cells a).length = e.size) → (l.flatMap cells).length = l.length * e.size := fun l => by
    induction l with
    | nil => simp
    | cons a l ih => intro h; rw [List.flatMap_cons, List.length_append, ih (fun b hb => h b (by simp [hb])), h a (by simp), List.length_cons, Nat.succ_mul]; omega
  rw [List.length_map] at hlen
  refine ⟨l, hlen, ⟨by rw [hfl l hsz, hlen], hnc, fun h0 => ?_, hnone⟩, hl, hnc, hm⟩
  obtain ⟨b, off, cs, T, fr, rfl, hb, hj⟩ := hcan h0
  refine ⟨b, off, rfl, Can.fr (F := heapF w) hb ?_⟩
  rw [List.flatten_eq_flatMap, List.flatMap_map] at hj
  exact hj

theorem byte_dec {w : World} (x : List Value) (_ : x.length = (Sh.int .u8).size) (h : (Sh.int .u8).rep w x) : ∃ b : UInt8, x = [B b] ∧ True := by
  simp only [Sh.rep] at h
  obtain ⟨n, rfl, h1, h2⟩ := h
  simp [IntKind.min, IntKind.max, IntKind.bits, IntKind.signed] at h1 h2
  refine ⟨UInt8.ofNat n.toNat, ?_, trivial⟩
  unfold B
  congr 2
  rw [UInt8.toNat_ofNat']
  omega
/-- a slice of bytes -/
theorem Sh.bytes {w : World} {sa : Option Addr} {n c : Nat} (h : (Sh.slice (.int .u8)).rep w [.slice sa n c]) : ∃ bs : List UInt8, bs.length = n ∧ Lst (heapF w) [] 1 (bs.map B) sa n c ∧ n ≤ c ∧ c ≤ maxLen := by
  obtain ⟨l, h1, h2, _, h3⟩ := Sh.lst (fun b => [B b]) (fun _ => True) byte_dec h
  have : l.flatMap (fun b => [B b]) = l.map B := by
    clear h1 h2 h3
    induction l with
    | nil => rfl
    | cons b l ih => simp [ih]
  rw [this] at h2
  exact ⟨l, h1, h2, h3⟩
theorem TrodAll_len {H : Type} {enc : TypeId × Value → H} {P : Program} {w : World} : ∀ {ts : List TypeId} {vs : List Value} {ds : List (DataW H)} {ps : List MemPlace}, DataW.TrodAll enc P w 0 (fun _ => true) true ts vs ds ps → ts.length = ds.length
  | [], [], [], _, _ => rfl
  | _ :: _, _ :: _, _ :: _, _, ⟨_, _, _, h, _⟩ => by simp [TrodAll_len h]
  | [], [], _ :: _, _, h => by cases h
  | [], _ :: _, _, _, h => by cases h
  | _ :: _, [], _, _, h => by cases h
  | _ :: _, _ :: _, [], _, h => by cases h
theorem len1 {α : Type _} : ∀ {l : List α}, 1 = l.length → ∃ a0, l = [a0]
  | [a0], _ => ⟨a0, rfl⟩
theorem len2 {α : Type _} : ∀ {l : List α}, 2 = l.length → ∃ a0 a1, l = [a0, a1]
  | [a0, a1], _ => ⟨a0, a1, rfl⟩
theorem len3 {α : Type _} : ∀ {l : List α}, 3 = l.length → ∃ a0 a1 a2, l = [a0, a1, a2]
  | [a0, a1, a2], _ => ⟨a0, a1, a2, rfl⟩
theorem len4 {α : Type _} : ∀ {l : List α}, 4 = l.length → ∃ a0 a1 a2 a3, l = [a0, a1, a2, a3]
  | [a0, a1, a2, a3], _ => ⟨a0, a1, a2, a3, rfl⟩
theorem len5 {α : Type _} : ∀ {l : List α}, 5 = l.length → ∃ a0 a1 a2 a3 a4, l = [a0, a1, a2, a3, a4]
  | [a0, a1, a2, a3, a4], _ => ⟨a0, a1, a2, a3, a4, rfl⟩
end Go.Sl
