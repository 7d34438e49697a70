/-
  DERIVED. GIVEN WITH THE SEED: THE CARDS: each row of YtjcekmiengnglaaGreatDoorRows.lean that lists a variable, with what it lists TIED to the program's text (the seventh form; the later family's looks); each row that meets fmt, with fmt's text TOLD by the authors' own Lean function (tested against real Go, not proved from fmt's source: count such statements apart). THE CARD IS WHAT COUNTS. Prove the row's statement (the work); the ties are given (YtjcekmiengnglaaGreatDoorTie.lean); close each card by the builder's one call (the guide's Derived/Test/ToyasCard.lean, 'card_holds'). Laid BY PROGRAM, IN A SANDBOX (cutbox-door.mjs). By AI agents, Wed Nov 11 2026. No macro, syntax, notation, axiom, sorry.
-/
import Derived.Test.YtjcekmiengnglaaGreatDoorRows
import GoSem.ClaimSeven
namespace Go.Proofs.YtjcekmiengnglaaGreatDoor
namespace Rows

/-- THE TIED CARD OF 'fairleadlaw28.ScriptOne'. -/
def scriptOneCard : Claim7 := { stood := { row := scriptOneRow, standIns := [], harness := (true, "6e7201eaa8c63614b855755d6ba7a3e7bb2e212effc5558d4843290fa5a5fffe"), looks := true }, kinds := [], alts := [], laidByText := true, laidKinds := [.data, .data, .data, .data, .data, .data, .sentinel, .sentinel, .pinned], laidTests := true, laidLooks := .later }
def ScriptOneCardSaid : Prop := Claim7.holds Tryz.pinned (.plain (OpenSpec.ofChange scriptOneSpec)) scriptOneCard

/-- THE TIED CARD OF 'fairleadlaw28.ScriptWrong'. -/
def scriptWrongCard : Claim7 := { stood := { row := scriptWrongRow, standIns := [], harness := (true, "6e7201eaa8c63614b855755d6ba7a3e7bb2e212effc5558d4843290fa5a5fffe"), looks := true }, kinds := [], alts := [], laidByText := true, laidKinds := [.data, .data, .data, .data, .data, .data, .sentinel, .sentinel, .pinned], laidTests := true, laidLooks := .later }
def ScriptWrongCardSaid : Prop := Claim7.holds Tryz.pinned (.plain (OpenSpec.ofChange scriptWrongSpec)) scriptWrongCard

/-- THE TIED CARD OF 'fairleadlaw28.ScriptFields'. -/
def scriptFieldsCard : Claim7 := { stood := { row := scriptFieldsRow, standIns := [], harness := (true, "6e7201eaa8c63614b855755d6ba7a3e7bb2e212effc5558d4843290fa5a5fffe"), looks := true }, kinds := [], alts := [], laidByText := true, laidKinds := [.data, .data, .data, .data, .data, .data, .sentinel, .sentinel, .pinned], laidTests := true, laidLooks := .later }
def ScriptFieldsCardSaid : Prop := Claim7.holds Tryz.pinned (.plain (OpenSpec.ofChange scriptFieldsSpec)) scriptFieldsCard

/-- THE SECOND FORM's CARD OF 'fairleadlaw28.ScriptOne'. -/
def scriptOneUptoCard : Claim7 := { stood := { row := scriptOneUptoRow, standIns := [], harness := (true, "6e7201eaa8c63614b855755d6ba7a3e7bb2e212effc5558d4843290fa5a5fffe"), looks := true }, kinds := [], alts := [], laidByText := true, laidKinds := [.data, .data, .data, .data, .data, .data, .sentinel, .sentinel, .pinned], laidTests := true, laidLooks := .later }
def ScriptOneUptoCardSaid : Prop := Claim7.holds Tryz.pinned (.plain (OpenSpec.upto scriptOneSpec)) scriptOneUptoCard

/-- THE SECOND FORM's CARD OF 'fairleadlaw28.ScriptWrong'. -/
def scriptWrongUptoCard : Claim7 := { stood := { row := scriptWrongUptoRow, standIns := [], harness := (true, "6e7201eaa8c63614b855755d6ba7a3e7bb2e212effc5558d4843290fa5a5fffe"), looks := true }, kinds := [], alts := [], laidByText := true, laidKinds := [.data, .data, .data, .data, .data, .data, .sentinel, .sentinel, .pinned], laidTests := true, laidLooks := .later }
def ScriptWrongUptoCardSaid : Prop := Claim7.holds Tryz.pinned (.plain (OpenSpec.upto scriptWrongSpec)) scriptWrongUptoCard

/-- THE SECOND FORM's CARD OF 'fairleadlaw28.ScriptFields'. -/
def scriptFieldsUptoCard : Claim7 := { stood := { row := scriptFieldsUptoRow, standIns := [], harness := (true, "6e7201eaa8c63614b855755d6ba7a3e7bb2e212effc5558d4843290fa5a5fffe"), looks := true }, kinds := [], alts := [], laidByText := true, laidKinds := [.data, .data, .data, .data, .data, .data, .sentinel, .sentinel, .pinned], laidTests := true, laidLooks := .later }
def ScriptFieldsUptoCardSaid : Prop := Claim7.holds Tryz.pinned (.plain (OpenSpec.upto scriptFieldsSpec)) scriptFieldsUptoCard
end Rows
end Go.Proofs.YtjcekmiengnglaaGreatDoor
