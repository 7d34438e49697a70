/- The closed facts of NetNil's row, one by one. No conditions. -/
import Derived.Test.YtlbbgmlmndbecaaGreatDoorRows
import Derived.JoinedOf
import Derived.KernelRfl
namespace Go.Proofs.YtlbbgmlmndbecaaGreatDoor
open Go
theorem cInPlace : (Rows.netNilRow.inPlace == Tryz.pinned.checked.prog.inPlace 3) = true := by kernel_rfl
theorem cUnfollowed : (Rows.netNilRow.unfollowed == Tryz.pinned.checked.prog.unfollowed 3) = true := by kernel_rfl
theorem cRecurses : (Rows.netNilRow.recurses == Tryz.pinned.checked.prog.recurses 3) = true := by kernel_rfl
theorem cNamed : (Rows.netNilRow.named == Tryz.pinned.checked.prog.varsNamed 3) = true := by kernel_rfl
theorem cStops : Tryz.pinned.checked.prog.stopsHeard = true := by kernel_rfl
theorem cEnter : Tryz.pinned.checked.prog.mayEnter = true := by kernel_rfl
theorem cKeys : (Rows.netNilRow.plainKeys == Tryz.pinned.checked.prog.plainKeys) = true := by kernel_rfl
theorem cLaid : laidOutB Tryz.pinned.checked.prog = true := by kernel_rfl
theorem cMaps : mapsRowed Tryz.pinned.checked.prog = true := by kernel_rfl
theorem joined : joinedFacts Tryz.pinned.checked.prog 3 Tryz.f3 Rows.netNilSpec Rows.netNilRow = true := by
  unfold joinedFacts
  rw [cInPlace, cUnfollowed, cRecurses, cNamed, cStops, cEnter, cKeys, cLaid, cMaps]
  kernel_rfl
end Go.Proofs.YtlbbgmlmndbecaaGreatDoor
