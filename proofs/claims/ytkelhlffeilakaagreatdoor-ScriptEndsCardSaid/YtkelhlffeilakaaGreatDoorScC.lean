/- The closed facts of ScriptEnds's row, one by one. No conditions. -/
import Derived.Test.YtkelhlffeilakaaGreatDoorRows
import Derived.JoinedOf
import GoSem.ClaimGoes
import Derived.KernelRfl
namespace Go.Proofs.YtkelhlffeilakaaGreatDoor
open Go
theorem cInPlace : (Rows.scriptEndsRow.inPlace == Tryz.pinned.checked.prog.inPlace 3) = true := by kernel_rfl
theorem cUnfollowed : (Rows.scriptEndsRow.unfollowed == Tryz.pinned.checked.prog.unfollowed 3) = true := by kernel_rfl
theorem cRecurses : (Rows.scriptEndsRow.recurses == Tryz.pinned.checked.prog.recurses 3) = true := by kernel_rfl
theorem cNamed : (Rows.scriptEndsRow.named == Tryz.pinned.checked.prog.varsNamed 3) = true := by kernel_rfl
theorem cStops : Tryz.pinned.checked.prog.stopsHeard = true := by kernel_rfl
theorem cEnter : Tryz.pinned.checked.prog.mayEnter = true := by kernel_rfl
theorem cKeys : (Rows.scriptEndsRow.plainKeys == Tryz.pinned.checked.prog.plainKeys) = true := by kernel_rfl
theorem cLaid : laidOutB Tryz.pinned.checked.prog = true := by kernel_rfl
theorem cMaps : mapsRowed Tryz.pinned.checked.prog = true := by kernel_rfl
theorem joined : joinedFacts Tryz.pinned.checked.prog 3 Tryz.f3 Rows.scriptEndsSpec Rows.scriptEndsRow = true := by
  unfold joinedFacts
  rw [cInPlace, cUnfollowed, cRecurses, cNamed, cStops, cEnter, cKeys, cLaid, cMaps]
  kernel_rfl
/-- no function of the whole program starts another goroutine -/
theorem noGoes : Tryz.pinned.checked.prog.funcs.any Func.goes = false := by kernel_rfl
theorem any_none {α : Type} {p : α → Bool} {l : List Nat} {a : Array α} (h : a.any p = false) : (l.any fun g => (a[g]?).any p) = false := by
  rw [List.any_eq_false]
  intro g _
  cases hg : a[g]? with
  | none => simp
  | some x =>
    obtain ⟨i, e⟩ := Array.getElem?_eq_some_iff.1 hg
    rw [Array.any_eq_false] at h
    have := h g i
    simpa [← e] using this
theorem goes_no (f : FuncId) : Tryz.pinned.checked.prog.goes f = false := by
  unfold Program.goes
  rw [any_none noGoes, noGoes]
  simp
theorem rowGoes : false = Rows.scriptEndsRow.goesBy Tryz.pinned.checked.prog := by
  unfold OpenClaim.goesBy Program.goesAt Program.goesFrom
  have h : (Tryz.pinned.checked.prog.funcNamed Rows.scriptEndsRow.func).any Tryz.pinned.checked.prog.goes = false := by
    cases Tryz.pinned.checked.prog.funcNamed Rows.scriptEndsRow.func with
    | none => rfl
    | some f => simpa using goes_no f
  rw [h]
  rfl
end Go.Proofs.YtkelhlffeilakaaGreatDoor
