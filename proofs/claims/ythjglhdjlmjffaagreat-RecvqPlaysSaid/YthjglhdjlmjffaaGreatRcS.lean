/- The arguments of chapter 19's laws: things done, as they lie in memory. No conditions. -/
import Derived.Test.YthjglhdjlmjffaaGreatRcF
import Derived.Test.YthjglhdjlmjffaaGreatBd
namespace Go.Proofs.YthjglhdjlmjffaaGreat
open Go Go.Sl Go.Rm

structure Opm where
  o : Ov
  bs : List UInt8
  ks : List Sk
def Opm.cells (p : Opm) : List Value := p.o.cells
def Opm.Is (F : Nat → Option Obj) (p : Opm) : Prop := p.o.Is F p.bs p.ks
def opSh : Sh := .struct [.int .i64, .struct [.int .u32, .int .u16, .int .u16, .bool, .bool, .bool, .slice (.int .u8)], .struct [.int .u32, .slice (.struct [.int .u16, .int .u16])], .int .i64]
theorem sk_dec {w : World} (x : List Value) (_ : x.length = (Sh.struct [.int .u16, .int .u16]).size) (h : (Sh.struct [.int .u16, .int .u16]).rep w x) : ∃ k : Sk, x = skCells k ∧ ((0 ≤ k.st ∧ k.st < 65536) ∧ 0 ≤ k.n ∧ k.n < 65536) := by
  simp only [Sh.rep, Sh.repAll] at h
  obtain ⟨_, _, rfl, _, ⟨a, rfl, ha1, ha2⟩, _, _, rfl, _, ⟨b, rfl, hb1, hb2⟩, rfl⟩ := h
  exact ⟨⟨a, b⟩, rfl, rgU16 ha1 ha2, rgU16 hb1 hb2⟩
theorem op_dec {w : World} (x : List Value) (_ : x.length = opSh.size) (h : opSh.rep w x) : ∃ p : Opm, x = p.cells ∧ p.Is (heapF w) := by
  simp only [opSh, Sh.rep, Sh.repAll] at h
  obtain ⟨_, _, rfl, _, ⟨kind, rfl, _⟩, _, _, rfl, _, ⟨_, _, rfl, _, ⟨tsn, rfl, ht1, ht2⟩, _, _, rfl, _, ⟨stream, rfl, hs1, hs2⟩, _, _, rfl, _, ⟨ssn, rfl, _⟩, _, _, rfl, _, ⟨un, rfl⟩, _, _, rfl, _, ⟨fi, rfl⟩, _, _, rfl, _, ⟨la, rfl⟩, _, _, rfl, _, ⟨ba, bn, bc, rfl, hba⟩, rfl⟩,
    _, _, rfl, _, ⟨_, _, rfl, _, ⟨cum, rfl, hc1, hc2⟩, _, _, rfl, _, ⟨ka, kn, kc, rfl, hka⟩, rfl⟩, _, _, rfl, _, ⟨now, rfl, _⟩, rfl⟩ := h
  obtain ⟨bs, hbl, hbs, _⟩ := Sh.bytes (w := w) (sa := ba) (n := bn) (c := bc) (by simp only [Sh.rep]; exact ⟨_, _, _, rfl, hba⟩)
  obtain ⟨ks, hkl, hks, hkq, _⟩ := Sh.lst (w := w) (sa := ka) (n := kn) (c := kc) skCells _ sk_dec (by simp only [Sh.rep, Sh.repAll]; exact ⟨_, _, _, rfl, hka⟩)
  exact ⟨⟨⟨kind, tsn, stream, ssn, un, fi, la, ba, bn, bc, cum, ka, kn, kc, now⟩, bs, ks⟩, rfl, hbs, hks, rgU32 ht1 ht2, rgU16 hs1 hs2, rgU32 hc1 hc2, hkq⟩
theorem ops_of {w : World} {v : Value} {cs : List Value} (hv : (Sh.slice opSh).val v cs) (h : (Sh.slice opSh).rep w cs) : ∃ ka kn kc, ∃ l : List Opm, v = .slice ka kn kc ∧ Lst (heapF w) [] 11 (l.flatMap Opm.cells) ka kn kc ∧ ∀ p ∈ l, p.Is (heapF w) := by
  have h' := h
  simp only [Sh.rep] at h'
  obtain ⟨ka, kn, kc, rfl, _⟩ := h'
  obtain ⟨l, _, hl, hop, _⟩ := Sh.lst Opm.cells _ op_dec h
  have : v = .slice ka kn kc := by simpa [Sh.val] using hv.symm
  exact ⟨ka, kn, kc, l, this, hl, hop⟩
end Go.Proofs.YthjglhdjlmjffaaGreat
