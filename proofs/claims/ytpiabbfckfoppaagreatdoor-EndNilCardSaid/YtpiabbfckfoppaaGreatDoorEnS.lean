/- The arguments of chapter 26's laws: things done, as they lie in memory. No conditions. -/
import Derived.Test.YtpiabbfckfoppaaGreatDoorEnX
import Derived.Test.YtpiabbfckfoppaaGreatDoorBuI
namespace Go.Proofs.YtpiabbfckfoppaaGreatDoor
open Go Go.Sl

structure Opx where
  o : Ov
  bs : List UInt8
  ks : List UInt8
def Opx.cells (p : Opx) : List Value := p.o.cells
def Opx.Is (F : Nat → Option Obj) (p : Opx) : Prop := p.o.Is F p.bs p.ks
def opSh : Sh := .struct [.int .i64, .int .u8, .int .u16, .bool, .int .u32, .int .u32, .struct [.int .u16, .bool, .slice (.int .u8)], .int .i64, .int .i64, .slice (.int .u8), .int .i64, .bool]
theorem op_dec {w : World} (x : List Value) (h : opSh.rep w x) : ∃ p : Opx, x = p.cells ∧ p.Is (heapF w) := by
  simp only [opSh, Sh.rep, Sh.repAll] at h
  obtain ⟨_, _, rfl, _, ⟨kind, rfl, _⟩, _, _, rfl, _, ⟨end_, rfl, _⟩, _, _, rfl, _, ⟨wait, rfl, _⟩, _, _, rfl, _, ⟨active, rfl⟩, _, _, rfl, _, ⟨tag, rfl, _⟩, _, _, rfl, _, ⟨tsn, rfl, _⟩,
    _, _, rfl, _, ⟨_, _, rfl, _, ⟨stream, rfl, _⟩, _, _, rfl, _, ⟨ord, rfl⟩, _, _, rfl, _, ⟨ba, bn, bc, rfl, hba⟩, rfl⟩,
    _, _, rfl, _, ⟨life, rfl, _⟩, _, _, rfl, _, ⟨path, rfl, _⟩, _, _, rfl, _, ⟨ka, kn, kc, rfl, hka⟩, _, _, rfl, _, ⟨n, rfl, _⟩, _, _, rfl, _, ⟨by_, rfl⟩, rfl⟩ := h
  obtain ⟨bs, hbl, hbs, _⟩ := Sh.bytes (w := w) (sa := ba) (n := bn) (c := bc) (by simp only [Sh.rep]; exact ⟨_, _, _, rfl, hba⟩)
  obtain ⟨ks, hkl, hks, _⟩ := Sh.bytes (w := w) (sa := ka) (n := kn) (c := kc) (by simp only [Sh.rep]; exact ⟨_, _, _, rfl, hka⟩)
  exact ⟨⟨⟨kind, end_, wait, active, tag, tsn, stream, ord, ba, bn, bc, life, path, ka, kn, kc, n, by_⟩, bs, ks⟩, rfl, hbs, hks⟩
theorem ops_of {w : World} {v : Value} {cs : List Value} (hv : (Sh.slice opSh).val v cs) (h : (Sh.slice opSh).rep w cs) : ∃ ka kn kc, ∃ l : List Opx, v = .slice ka kn kc ∧ Lst (heapF w) [] 14 (l.flatMap Opx.cells) ka kn kc ∧ ∀ p ∈ l, p.Is (heapF w) :=
  shL Opx.cells (fun p => p.Is (heapF w)) (fun x _ h => op_dec x h) hv h
theorem op_of {w : World} {v : Value} {cs : List Value} (hv : opSh.val v cs) (h : opSh.rep w cs) : ∃ p : Opx, v = .agg p.cells.toArray ∧ p.Is (heapF w) := by
  obtain ⟨p, rfl, hp⟩ := op_dec cs h
  exact ⟨p, hv, hp⟩
end Go.Proofs.YtpiabbfckfoppaaGreatDoor
