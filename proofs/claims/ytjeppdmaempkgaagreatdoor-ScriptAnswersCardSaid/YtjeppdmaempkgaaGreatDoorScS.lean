/- The arguments of chapter 28's laws: answers, as they lie in memory. No conditions. -/
import Derived.Test.YtjeppdmaempkgaaGreatDoorStO
import Derived.Test.YtjeppdmaempkgaaGreatDoorBuI
namespace Go.Proofs.YtjeppdmaempkgaaGreatDoor
open Go Go.Sl Go.Scr

def tldSh : Sh := .struct [.int .i64, .arr2 .u8, .int .i64, .struct [.int .u16, .bool, .slice (.int .u8)], .bool]
theorem tld_of {w : World} {v : Value} {cs : List Value} (hv : tldSh.val v cs) (h : tldSh.rep w cs) : ∃ p : Tlx, v = .agg p.cells.toArray ∧ p.Is (heapF w) := by
  simp only [tldSh, Sh.rep, Sh.repAll] at h
  obtain ⟨_, _, rfl, _, ⟨err, rfl, he1, he2⟩, _, _, rfl, _, ⟨s0, s1, rfl, ⟨h01, h02⟩, h11, h12⟩, _, _, rfl, _, ⟨now, rfl, hn1, hn2⟩, _, _, rfl, _, ⟨_, _, rfl, _, ⟨stream, rfl, hs1, hs2⟩, _, _, rfl, _, ⟨ord, rfl⟩, _, _, rfl, _, ⟨ba, bn, bc, rfl, hba⟩, rfl⟩, _, _, rfl, _, ⟨some, rfl⟩, rfl⟩ := h
  obtain ⟨bs, hbl, hbs, _⟩ := Sh.bytes (w := w) (sa := ba) (n := bn) (c := bc) (by simp only [Sh.rep]; exact ⟨_, _, _, rfl, hba⟩)
  refine ⟨⟨⟨err, s0, s1, now, stream, ord, bs, some⟩, ba, bn, bc⟩, hv, ⟨hbs, ?_, ?_, ?_, ?_, ?_⟩⟩
  · simp [IntKind.min, IntKind.max, IntKind.bits, IntKind.signed] at he1 he2
    exact ⟨by dsimp only; omega, by dsimp only; omega⟩
  · simp [IntKind.min, IntKind.max, IntKind.bits, IntKind.signed] at h01 h02
    dsimp only
    omega
  · simp [IntKind.min, IntKind.max, IntKind.bits, IntKind.signed] at h11 h12
    dsimp only
    omega
  · simp [IntKind.min, IntKind.max, IntKind.bits, IntKind.signed] at hn1 hn2
    exact ⟨by dsimp only; omega, by dsimp only; omega⟩
  · simp [IntKind.min, IntKind.max, IntKind.bits, IntKind.signed] at hs1 hs2
    dsimp only
    omega
end Go.Proofs.YtjeppdmaempkgaaGreatDoor
