/- The arguments of laws: plain shapes, and their ranges. No conditions. -/
import Derived.Test.YtglobldnockdoaaBrC
namespace Go.Sl
open Go
theorem rgU8 {n : Int} (h1 : IntKind.u8.min ≤ n) (h2 : n ≤ IntKind.u8.max) : 0 ≤ n ∧ n < 256 := by simp [IntKind.min, IntKind.max, IntKind.bits, IntKind.signed] at h1 h2; omega
theorem rgU16 {n : Int} (h1 : IntKind.u16.min ≤ n) (h2 : n ≤ IntKind.u16.max) : 0 ≤ n ∧ n < 65536 := by simp [IntKind.min, IntKind.max, IntKind.bits, IntKind.signed] at h1 h2; omega
theorem rgU32 {n : Int} (h1 : IntKind.u32.min ≤ n) (h2 : n ≤ IntKind.u32.max) : 0 ≤ n ∧ n < 4294967296 := by simp [IntKind.min, IntKind.max, IntKind.bits, IntKind.signed] at h1 h2; omega
theorem rgU64 {n : Int} (h1 : IntKind.u64.min ≤ n) (h2 : n ≤ IntKind.u64.max) : 0 ≤ n ∧ n < 18446744073709551616 := by simp [IntKind.min, IntKind.max, IntKind.bits, IntKind.signed] at h1 h2; omega
theorem rgI64 {n : Int} (h1 : IntKind.i64.min ≤ n) (h2 : n ≤ IntKind.i64.max) : -9223372036854775808 ≤ n ∧ n ≤ 9223372036854775807 := by simp [IntKind.min, IntKind.max, IntKind.bits, IntKind.signed] at h1 h2; omega
theorem shI {w : World} {k : IntKind} {v : Value} {x : List Value} (hv : (Sh.int k).val v x) (h : (Sh.int k).rep w x) : ∃ n, v = .int k n ∧ k.min ≤ n ∧ n ≤ k.max := by
  simp only [Sh.rep] at h
  obtain ⟨n, rfl, h1, h2⟩ := h
  exact ⟨n, by simpa [Sh.val] using hv.symm, h1, h2⟩
theorem shB {w : World} {v : Value} {x : List Value} (hv : Sh.bool.val v x) (h : Sh.bool.rep w x) : ∃ b, v = .bool b := by
  simp only [Sh.rep] at h
  obtain ⟨b, rfl⟩ := h
  exact ⟨b, by simpa [Sh.val] using hv.symm⟩
/-- a list of things, each decoded -/
theorem shL {w : World} {e : Sh} {α : Type} (cells : α → List Value) (Q : α → Prop) (hdec : ∀ x, x.length = e.size → e.rep w x → ∃ a, x = cells a ∧ Q a) {v : Value} {cs : List Value} (hv : (Sh.slice e).val v cs) (h : (Sh.slice e).rep w cs) :
    ∃ sa n c, ∃ l : List α, v = .slice sa n c ∧ Lst (heapF w) [] e.size (l.flatMap cells) sa n c ∧ ∀ a ∈ l, Q a := by
  have h' := h
  simp only [Sh.rep] at h'
  obtain ⟨sa, n, c, rfl, _⟩ := h'
  obtain ⟨l, _, hl, hq, _⟩ := Sh.lst cells Q hdec h
  exact ⟨sa, n, c, l, by simpa [Sh.val] using hv.symm, hl, hq⟩
/-- a list of integers -/
theorem shLI {w : World} {k : IntKind} {v : Value} {cs : List Value} (hv : (Sh.slice (.int k)).val v cs) (h : (Sh.slice (.int k)).rep w cs) :
    ∃ sa n c, ∃ l : List Int, v = .slice sa n c ∧ Lst (heapF w) [] 1 (l.map (Value.int k)) sa n c ∧ ∀ a ∈ l, k.min ≤ a ∧ a ≤ k.max := by
  obtain ⟨sa, n, c, l, h1, h2, h3⟩ := shL (fun a : Int => [Value.int k a]) (fun a => k.min ≤ a ∧ a ≤ k.max) (fun x _ hx => by
    simp only [Sh.rep] at hx
    obtain ⟨a, rfl, h1, h2⟩ := hx
    exact ⟨a, rfl, h1, h2⟩) hv h
  refine ⟨sa, n, c, l, h1, ?_, h3⟩
  have e : ∀ l : List Int, l.flatMap (fun a : Int => [Value.int k a]) = l.map (Value.int k) := fun l => by
    induction l with
    | nil => rfl
    | cons a l ih => simp [ih]
  rw [← e]
  exact h2
/-- bytes -/
theorem shBy {w : World} {v : Value} {cs : List Value} (hv : (Sh.slice (.int .u8)).val v cs) (h : (Sh.slice (.int .u8)).rep w cs) :
    ∃ bs : List UInt8, ∃ sa n c, v = .slice sa n c ∧ Lst (heapF w) [] 1 (bs.map B) sa n c := by
  have h' := h
  simp only [Sh.rep] at h'
  obtain ⟨sa, n, c, rfl, _⟩ := h'
  obtain ⟨bs, _, hl, _⟩ := Sh.bytes h
  exact ⟨bs, sa, n, c, by simpa [Sh.val] using hv.symm, hl⟩
/-- truth values -/
theorem shBs {w : World} {v : Value} {cs : List Value} (hv : (Sh.slice .bool).val v cs) (h : (Sh.slice .bool).rep w cs) :
    ∃ bs : List Bool, ∃ sa n c, v = .slice sa n c ∧ Lst (heapF w) [] 1 (bs.map Value.bool) sa n c := by
  obtain ⟨sa, n, c, l, h1, h2, _⟩ := shL (fun a : Bool => [Value.bool a]) (fun _ => True) (fun x _ hx => by
    simp only [Sh.rep] at hx
    obtain ⟨a, rfl⟩ := hx
    exact ⟨a, rfl, trivial⟩) hv h
  refine ⟨l, sa, n, c, h1, ?_⟩
  have e : ∀ l : List Bool, l.flatMap (fun a : Bool => [Value.bool a]) = l.map Value.bool := fun l => by
    induction l with
    | nil => rfl
    | cons a l ih => simp [ih]
  rw [← e]
  exact h2
end Go.Sl
