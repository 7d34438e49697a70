/- Lists in memory that can be read: their elements, their first part; small facts on widths. No conditions: laws only. -/
import Derived.Test.YtglobldnockdoaaSlK
namespace Go.Sl
open Go
theorem lst_len {F : Nat → Option Obj} {H : HL} {α : Type} {cells : α → List Value} {sz : Nat} (hc : ∀ a, (cells a).length = sz) (hsz : 0 < sz) {l : List α} {sa : Option Addr} {n c : Nat} (h : Lst F H sz (l.flatMap cells) sa n c) : l.length = n := by
  have hl := h.len
  rw [flat_len' cells sz hc] at hl
  exact Nat.eq_of_mul_eq_mul_right hsz hl
theorem lst_int {F : Nat → Option Obj} {H : HL} {k : IntKind} {l : List Int} {sa : Option Addr} {n c : Nat} (h : Lst F H 1 (l.map (Value.int k)) sa n c) : n = l.length := by
  have := h.len
  simp at this
  omega
theorem int_flat (k : IntKind) (l : List Int) : l.flatMap (fun a : Int => [Value.int k a]) = l.map (Value.int k) := by
  induction l with
  | nil => rfl
  | cons a l ih => simp [ih]
theorem lst_el {F : Nat → Option Obj} {H : HL} {k : IntKind} {l : List Int} {sa : Option Addr} {n c : Nat} (h : Lst F H 1 (l.map (Value.int k)) sa n c) {i : Nat} {a : Int} (ha : l[i]? = some a) : ∃ b off, sa = some ⟨b, off, none⟩ ∧ Sl.Can F H b (off + (i : Int).toNat * 1) [.int k a] := by
  have hn := lst_int h
  rw [← int_flat] at h
  exact h.el (cells := fun a : Int => [Value.int k a]) (fun _ => rfl) ha (by have := (List.getElem?_eq_some_iff.1 ha).1; omega)
theorem Lst.take {F : Nat → Option Obj} {H : HL} {α : Type} {cells : α → List Value} {sz : Nat} (hc : ∀ a, (cells a).length = sz) {l : List α} {sa : Option Addr} {n c : Nat} (h : Lst F H sz (l.flatMap cells) sa n c) (hsz : 0 < sz) {k : Nat} (hk : k ≤ l.length) : Lst F H sz ((l.take k).flatMap cells) sa k c := by
  have hl := h.len
  rw [flat_len' cells sz hc] at hl
  have hn : l.length = n := Nat.eq_of_mul_eq_mul_right hsz hl
  have e : l.flatMap cells = (l.take k).flatMap cells ++ (l.drop k).flatMap cells := by rw [← List.flatMap_append, List.take_append_drop]
  refine ⟨by rw [flat_len' cells sz hc, List.length_take, Nat.min_eq_left hk], Nat.le_trans (by omega) h.cap, fun h0 => ?_, fun h0 => by have := h.ok h0; omega⟩
  obtain ⟨b, off, rfl, hcan⟩ := h.can (by omega)
  refine ⟨b, off, rfl, fun w hw j u hu => hcan w hw j u ?_⟩
  rw [e, List.getElem?_append_left (List.getElem?_eq_some_iff.1 hu).1]
  exact hu
theorem u32_id {n : Int} (h : 0 ≤ n ∧ n < 4294967296) : IntKind.u32.wrap n = n := by
  simp only [IntKind.wrap, IntKind.bits, IntKind.signed]
  simp
  omega
theorem u16_id {n : Int} (h : 0 ≤ n ∧ n < 65536) : IntKind.u16.wrap n = n := by
  simp only [IntKind.wrap, IntKind.bits, IntKind.signed]
  simp
  omega
theorem u8_id {n : Int} (h : 0 ≤ n ∧ n < 256) : IntKind.u8.wrap n = n := by
  simp only [IntKind.wrap, IntKind.bits, IntKind.signed]
  simp
  omega
theorem u64_id {n : Int} (h : 0 ≤ n ∧ n < 18446744073709551616) : IntKind.u64.wrap n = n := by
  simp only [IntKind.wrap, IntKind.bits, IntKind.signed]
  simp
  omega
/-- what holds wherever the blocks lie may be used -/
theorem W.fact {x : Cx} {K : Post} {c : Code} {env : Env} {H : HL} {φ : Prop} (h : ∀ w, In x.F H w → φ) (next : φ → W x K c env H) : W x K c env H := ⟨fun a w s => (next (h w s.hin)).run a w s⟩
theorem WL.fact {x : Cx} {K : Post} {ops : Array Oper} {l : List Oper} {env : Env} {H : HL} {φ : Prop} (h : ∀ w, In x.F H w → φ) (next : φ → WL x K ops l env H) : WL x K ops l env H := ⟨fun a w s => (next (h w s.hin)).run a w s⟩
end Go.Sl
