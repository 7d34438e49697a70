/-
  DERIVED. GIVEN WITH THE SEED: THE CARDS: each row of YtlbbgmlmndbecaaGreatDoorRows.lean that lists a variable, with what it lists TIED to the program's text (the seventh form; the later family's looks); each row that meets fmt, with fmt's text TOLD by the authors' own Lean function (tested against real Go, not proved from fmt's source: count such statements apart). THE CARD IS WHAT COUNTS. Prove the row's statement (the work); the ties are given (YtlbbgmlmndbecaaGreatDoorTie.lean); close each card by the builder's one call (the guide's Derived/Test/ToyasCard.lean, 'card_holds'). Laid BY PROGRAM, IN A SANDBOX (cutbox-door.mjs). By AI agents, Wed Nov 11 2026. No macro, syntax, notation, axiom, sorry.
-/
import Derived.Test.YtlbbgmlmndbecaaGreatDoorRows
import GoSem.ClaimSeven
namespace Go.Proofs.YtlbbgmlmndbecaaGreatDoor
namespace Rows

/-- THE TIED CARD OF 'fairleadlaw27.NetNil'. -/
def netNilCard : Claim7 := { stood := { row := netNilRow, standIns := [], harness := (true, "1039e3f0c18b7e0f81e14baf21478f723b66cc29c2535f3ad2fd08955176303e"), looks := false }, kinds := [], alts := [], laidByText := true, laidKinds := [.data, .data], laidTests := true, laidLooks := .later }
def NetNilCardSaid : Prop := Claim7.holds Tryz.pinned (.plain (OpenSpec.ofChange netNilSpec)) netNilCard

/-- THE SECOND FORM's CARD OF 'fairleadlaw27.NetNil'. -/
def netNilUptoCard : Claim7 := { stood := { row := netNilUptoRow, standIns := [], harness := (true, "1039e3f0c18b7e0f81e14baf21478f723b66cc29c2535f3ad2fd08955176303e"), looks := false }, kinds := [], alts := [], laidByText := true, laidKinds := [.data, .data], laidTests := true, laidLooks := .later }
def NetNilUptoCardSaid : Prop := Claim7.holds Tryz.pinned (.plain (OpenSpec.upto netNilSpec)) netNilUptoCard
end Rows
end Go.Proofs.YtlbbgmlmndbecaaGreatDoor
