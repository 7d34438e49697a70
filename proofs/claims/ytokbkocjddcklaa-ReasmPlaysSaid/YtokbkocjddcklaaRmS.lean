/- The arguments of chapter 18's laws: things done, as they lie in memory. No conditions. -/
import Derived.Test.YtokbkocjddcklaaRmR
import Derived.Test.YtokbkocjddcklaaBrC
namespace Go.Proofs.Ytokbkocjddcklaa
open Go Go.Sl Go.Rm

def opSh : Sh := .struct [.int .i64, .struct [.int .u32, .int .u16, .int .u16, .bool, .bool, .bool, .slice (.int .u8)], .struct [.int .u32, .slice (.struct [.int .u16, .int .u16])]]
theorem rng_u16 {n : Int} (h1 : IntKind.u16.min ≤ n) (h2 : n ≤ IntKind.u16.max) : 0 ≤ n ∧ n < 65536 := by simp [IntKind.min, IntKind.max, IntKind.bits, IntKind.signed] at h1 h2; omega
theorem rng_u32 {n : Int} (h1 : IntKind.u32.min ≤ n) (h2 : n ≤ IntKind.u32.max) : 0 ≤ n ∧ n < 4294967296 := by simp [IntKind.min, IntKind.max, IntKind.bits, IntKind.signed] at h1 h2; omega
theorem sk_dec {w : World} (x : List Value) (_ : x.length = (Sh.struct [.int .u16, .int .u16]).size) (h : (Sh.struct [.int .u16, .int .u16]).rep w x) : ∃ k : Sk, x = skCells k ∧ ((0 ≤ k.st ∧ k.st < 65536) ∧ 0 ≤ k.n ∧ k.n < 65536) := by
  simp only [Sh.rep, Sh.repAll] at h
  obtain ⟨_, _, rfl, _, ⟨a, rfl, ha1, ha2⟩, _, _, rfl, _, ⟨b, rfl, hb1, hb2⟩, rfl⟩ := h
  exact ⟨⟨a, b⟩, rfl, rng_u16 ha1 ha2, rng_u16 hb1 hb2⟩
theorem op_dec {w : World} (x : List Value) (_ : x.length = opSh.size) (h : opSh.rep w x) : ∃ p : Opm, x = p.cells ∧ p.Is (heapF w) := by
  simp only [opSh, Sh.rep, Sh.repAll] at h
  obtain ⟨_, _, rfl, _, ⟨kind, rfl, _⟩, _, _, rfl, _, ⟨_, _, rfl, _, ⟨tsn, rfl, ht1, ht2⟩, _, _, rfl, _, ⟨stream, rfl, hs1, hs2⟩, _, _, rfl, _, ⟨ssn, rfl, _⟩, _, _, rfl, _, ⟨un, rfl⟩, _, _, rfl, _, ⟨fi, rfl⟩, _, _, rfl, _, ⟨la, rfl⟩, _, _, rfl, _, ⟨ba, bn, bc, rfl, hba⟩, rfl⟩,
    _, _, rfl, _, ⟨_, _, rfl, _, ⟨cum, rfl, _⟩, _, _, rfl, _, ⟨ka, kn, kc, rfl, hka⟩, rfl⟩, rfl⟩ := h
  obtain ⟨bs, hbl, hbs, _⟩ := Sh.bytes (w := w) (sa := ba) (n := bn) (c := bc) (by simp only [Sh.rep]; exact ⟨_, _, _, rfl, hba⟩)
  obtain ⟨ks, hkl, hks, hkq, _⟩ := Sh.lst (w := w) (sa := ka) (n := kn) (c := kc) skCells _ sk_dec (by simp only [Sh.rep, Sh.repAll]; exact ⟨_, _, _, rfl, hka⟩)
  exact ⟨⟨⟨kind, tsn, stream, ssn, un, fi, la, ba, bn, bc, cum, ka, kn, kc⟩, bs, ks⟩, rfl, hbs, hks, rng_u32 ht1 ht2, rng_u16 hs1 hs2, hkq⟩
theorem slice_shape {w : World} {e : Sh} {x : List Value} (h : (Sh.slice e).rep w x) : ∃ sa n c, x = [.slice sa n c] := by
  simp only [Sh.rep] at h
  obtain ⟨sa, n, c, h1, _⟩ := h
  exact ⟨sa, n, c, h1⟩
theorem int_shape {w : World} {k : IntKind} {x : List Value} (h : (Sh.int k).rep w x) : ∃ n, x = [.int k n] ∧ k.min ≤ n ∧ n ≤ k.max := by
  simp only [Sh.rep] at h; exact h
theorem bool_shape {w : World} {x : List Value} (h : Sh.bool.rep w x) : ∃ b, x = [.bool b] := by
  simp only [Sh.rep] at h; exact h
theorem rng_i64 {n : Int} (h1 : IntKind.i64.min ≤ n) (h2 : n ≤ IntKind.i64.max) : -9223372036854775808 ≤ n ∧ n ≤ 9223372036854775807 := by simp [IntKind.min, IntKind.max, IntKind.bits, IntKind.signed] at h1 h2; omega
theorem ops_of {w : World} {v : Value} {cs : List Value} (hv : (Sh.slice opSh).val v cs) (h : (Sh.slice opSh).rep w cs) : ∃ ka kn kc, ∃ l : List Opm, v = .slice ka kn kc ∧ Lst (heapF w) [] 10 (l.flatMap Opm.cells) ka kn kc ∧ ∀ p ∈ l, p.Is (heapF w) := by
  obtain ⟨ka, kn, kc, rfl⟩ := slice_shape h
  obtain ⟨l, _, hl, hop, _⟩ := Sh.lst Opm.cells _ op_dec h
  have : v = .slice ka kn kc := by simpa [Sh.val] using hv.symm
  exact ⟨ka, kn, kc, l, this, hl, hop⟩
end Go.Proofs.Ytokbkocjddcklaa
