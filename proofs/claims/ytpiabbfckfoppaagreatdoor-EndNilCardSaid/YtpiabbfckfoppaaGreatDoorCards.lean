/-
  DERIVED. GIVEN WITH THE SEED: THE CARDS: each row of YtpiabbfckfoppaaGreatDoorRows.lean that lists a variable, with what it lists TIED to the program's text (the seventh form; the later family's looks); each row that meets fmt, with fmt's text TOLD by the authors' own Lean function (tested against real Go, not proved from fmt's source: count such statements apart). THE CARD IS WHAT COUNTS. Prove the row's statement (the work); the ties are given (YtpiabbfckfoppaaGreatDoorTie.lean); close each card by the builder's one call (the guide's Derived/Test/ToyasCard.lean, 'card_holds'). Laid BY PROGRAM, IN A SANDBOX (cutbox-door.mjs). By AI agents, Wed Nov 11 2026. No macro, syntax, notation, axiom, sorry.
-/
import Derived.Test.YtpiabbfckfoppaaGreatDoorRows
import GoSem.ClaimSeven
namespace Go.Proofs.YtpiabbfckfoppaaGreatDoor
namespace Rows

/-- THE TIED CARD OF 'fairleadlaw26.EndNil'. -/
def endNilCard : Claim7 := { stood := { row := endNilRow, standIns := [], harness := (true, "1e092b658c31da341d34444eba589768c929508aee494f05a3c2de7df8ceb5b0"), looks := false }, kinds := [], alts := [], laidByText := true, laidKinds := [.data, .data], laidTests := true, laidLooks := .later }
def EndNilCardSaid : Prop := Claim7.holds Tryz.pinned (.plain (OpenSpec.ofChange endNilSpec)) endNilCard

/-- THE SECOND FORM's CARD OF 'fairleadlaw26.EndNil'. -/
def endNilUptoCard : Claim7 := { stood := { row := endNilUptoRow, standIns := [], harness := (true, "1e092b658c31da341d34444eba589768c929508aee494f05a3c2de7df8ceb5b0"), looks := false }, kinds := [], alts := [], laidByText := true, laidKinds := [.data, .data], laidTests := true, laidLooks := .later }
def EndNilUptoCardSaid : Prop := Claim7.holds Tryz.pinned (.plain (OpenSpec.upto endNilSpec)) endNilUptoCard
end Rows
end Go.Proofs.YtpiabbfckfoppaaGreatDoor
