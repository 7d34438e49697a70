/- The arguments of chapter 23's laws: things done, as they lie in memory. No conditions. -/
import Derived.Test.YtjbinhihkfidoaaGreatSnX
import Derived.Test.YtjbinhihkfidoaaGreatBd
namespace Go.Proofs.YtjbinhihkfidoaaGreat
open Go Go.Sl

structure Opx where
  o : Ov
  bs : List UInt8
  gs : List (Nat × Nat)
def Opx.cells (p : Opx) : List Value := p.o.cells
def Opx.Is (F : Nat → Option Obj) (p : Opx) : Prop := p.o.Is F p.bs p.gs
def opSh : Sh := .struct [.int .i64, .int .u16, .struct [.int .u16, .bool, .slice (.int .u8)], .int .i64, .int .u32, .slice (.struct [.int .u16, .int .u16]), .int .u32, .int .i64]
theorem gap_dec {w : World} (x : List Value) (_ : x.length = (Sh.struct [.int .u16, .int .u16]).size) (h : (Sh.struct [.int .u16, .int .u16]).rep w x) : ∃ g : Nat × Nat, x = gC g ∧ (g.1 < 65536 ∧ g.2 < 65536) := by
  simp only [Sh.rep, Sh.repAll] at h
  obtain ⟨_, _, rfl, _, ⟨a, rfl, ha1, ha2⟩, _, _, rfl, _, ⟨b, rfl, hb1, hb2⟩, rfl⟩ := h
  have ha := rgU16 ha1 ha2
  have hb := rgU16 hb1 hb2
  refine ⟨(a.toNat, b.toNat), ?_, by dsimp only; omega, by dsimp only; omega⟩
  unfold gC
  dsimp only
  rw [show ((a.toNat : Nat) : Int) = a by omega, show ((b.toNat : Nat) : Int) = b by omega]
  rfl
theorem op_dec {w : World} (x : List Value) (h : opSh.rep w x) : ∃ p : Opx, x = p.cells ∧ p.Is (heapF w) := by
  simp only [opSh, Sh.rep, Sh.repAll] at h
  obtain ⟨_, _, rfl, _, ⟨kind, rfl, _⟩, _, _, rfl, _, ⟨wait, rfl, hw1, hw2⟩, _, _, rfl, _, ⟨_, _, rfl, _, ⟨stream, rfl, hs1, hs2⟩, _, _, rfl, _, ⟨ord, rfl⟩, _, _, rfl, _, ⟨ba, bn, bc, rfl, hba⟩, rfl⟩,
    _, _, rfl, _, ⟨life, rfl, _⟩, _, _, rfl, _, ⟨by_, rfl, hb1, hb2⟩, _, _, rfl, _, ⟨ga, gn, gc, rfl, hga⟩, _, _, rfl, _, ⟨rwnd, rfl, hr1, hr2⟩, _, _, rfl, _, ⟨path, rfl, _⟩, rfl⟩ := h
  obtain ⟨bs, hbl, hbs, _⟩ := Sh.bytes (w := w) (sa := ba) (n := bn) (c := bc) (by simp only [Sh.rep]; exact ⟨_, _, _, rfl, hba⟩)
  obtain ⟨gs, hgl, hgs, hgq, _⟩ := Sh.lst (w := w) (sa := ga) (n := gn) (c := gc) gC _ gap_dec (by simp only [Sh.rep, Sh.repAll]; exact ⟨_, _, _, rfl, hga⟩)
  exact ⟨⟨⟨kind, wait, stream, ord, ba, bn, bc, life, by_, ga, gn, gc, rwnd, path⟩, bs, gs⟩, rfl, hbs, hgs, rgU16 hw1 hw2, rgU16 hs1 hs2, rgU32 hb1 hb2, rgU32 hr1 hr2, hgq⟩
theorem ops_of {w : World} {v : Value} {cs : List Value} (hv : (Sh.slice opSh).val v cs) (h : (Sh.slice opSh).rep w cs) : ∃ ka kn kc, ∃ l : List Opx, v = .slice ka kn kc ∧ Lst (heapF w) [] 10 (l.flatMap Opx.cells) ka kn kc ∧ ∀ p ∈ l, p.Is (heapF w) :=
  shL Opx.cells (fun p => p.Is (heapF w)) (fun x _ h => op_dec x h) hv h
theorem op_of {w : World} {v : Value} {cs : List Value} (hv : opSh.val v cs) (h : opSh.rep w cs) : ∃ p : Opx, v = .agg p.cells.toArray ∧ p.Is (heapF w) := by
  obtain ⟨p, rfl, hp⟩ := op_dec cs h
  exact ⟨p, hv, hp⟩
end Go.Proofs.YtjbinhihkfidoaaGreat
