/- The arguments of NetNil: an event, as it lies in memory. No conditions. -/
import Derived.Test.YtlbbgmlmndbecaaGreatDoorNnX
import Derived.Test.YtlbbgmlmndbecaaGreatDoorBuI
namespace Go.Proofs.YtlbbgmlmndbecaaGreatDoor
open Go Go.Sl

def evSh : Sh := .struct [.int .u8, .int .u8, .bool, .bool, .int .u16, .int .i64, .int .i64, .int .i64, .slice (.int .u8)]
theorem ev_dec {w : World} (x : List Value) (h : evSh.rep w x) : ∃ e : Evx, x = e.cells := by
  simp only [evSh, Sh.rep, Sh.repAll] at h
  obtain ⟨_, _, rfl, _, ⟨kind, rfl, _⟩, _, _, rfl, _, ⟨fin, rfl, _⟩, _, _, rfl, _, ⟨act, rfl⟩, _, _, rfl, _, ⟨ord, rfl⟩, _, _, rfl, _, ⟨stream, rfl, _⟩, _, _, rfl, _, ⟨path, rfl, _⟩, _, _, rfl, _, ⟨n, rfl, _⟩, _, _, rfl, _, ⟨life, rfl, _⟩, _, _, rfl, _, ⟨ba, bn, bc, rfl, _⟩, rfl⟩ := h
  exact ⟨⟨kind, fin, act, ord, stream, path, n, life, ba, bn, bc⟩, rfl⟩
theorem ev_of {w : World} {v : Value} {cs : List Value} (hv : evSh.val v cs) (h : evSh.rep w cs) : ∃ e : Evx, v = .agg e.cells.toArray := by
  obtain ⟨e, rfl⟩ := ev_dec cs h
  exact ⟨e, hv⟩
end Go.Proofs.YtlbbgmlmndbecaaGreatDoor
