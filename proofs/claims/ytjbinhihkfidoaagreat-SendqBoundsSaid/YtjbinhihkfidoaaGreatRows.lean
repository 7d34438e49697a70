/-
  No cell of these rows narrows 'for every input' (looked for: loops, veiled, ifaces, maps, wideKeys, modest, calm, conditions, laid).
  DERIVED. THE GIVEN ROWS OF THIS SEAT. 4 by the template 'for every input the law returns true; each argument reads behind the call as it read before'; 0 by the template 'total and deterministic' (their statements: YtjbinhihkfidoaaGreatTotals.lean).
  GIVEN WITH THE SEED: the statements are not yours to turn. If you find one false, say at which input.
  Laid BY PROGRAM, IN A SANDBOX (cutbox-rows.mjs): the forced cells as the released guide's own fill.sh prints them over the translation 045a7b1e28b63e26… (all of the seat's roots in one cut). By AI agents, Wed Nov 11 2026. No macro, syntax, notation, axiom, sorry.
-/
import Derived.Test.YtjbinhihkfidoaaGreatChecked
import GoSem.Claim
import GoSem.ClaimJoined
import GoSem.ClaimMapViews
import Derived.JoinedTies
import Derived.KernelRfl
namespace Go.Proofs.YtjbinhihkfidoaaGreat
/- THE CELL 'sum', in the pinned program and in every row, IS THE sha256 OF THE DUMP (.gsa) THAT YtjbinhihkfidoaaGreatProg.lean LOADS. Nothing in Lean hashes anything: it is a label: what it is worth is what the hold of that sum in a sandbox is worth. -/
noncomputable def Tryz.pinned : Pinned := { name := "ytjbinhihkfidoaagreat", sum := "045a7b1e28b63e2613607c37af5a031beb76c6b06e63a4575024951ef84f843d", checked := Tryz.checked }
namespace Rows
def none {H : Type} : Left H := { results := [], args := [] }

/-- 'fairleadlaw23.SendqLapses': WHATEVER THE INPUT: true; the input reads as it did. -/
def sendqLapsesSpec : ChangeSpec := { name := "sendqLapses", fn := fun _ => fun
  | [d1, d2, d3, d4] => { results := [.lit (.bool true)], args := [d1, d2, d3, d4] }
  | _ => none }
def sendqLapsesRow : OpenClaim := { program := "ytjbinhihkfidoaagreat", sum := "045a7b1e28b63e2613607c37af5a031beb76c6b06e63a4575024951ef84f843d", func := "fairlead/fairleadlaw23.SendqLapses", spec := "sendqLapses", unfollowed := true, recurses := true, apart := false }
def SendqLapsesSaid : Prop := sendqLapsesRow.holds Tryz.pinned (OpenSpec.ofChange sendqLapsesSpec)

/-- ITS FALSE NEIGHBOUR: 'it returns false'. Refute it at one input. -/
def sendqLapsesWrong : ChangeSpec := { name := "sendqLapses", fn := fun _ => fun
  | [d1, d2, d3, d4] => { results := [.lit (.bool false)], args := [d1, d2, d3, d4] }
  | _ => none }
def SendqLapsesWrongFalsely : Prop := sendqLapsesRow.holds Tryz.pinned (OpenSpec.ofChange sendqLapsesWrong)

/-- 'fairleadlaw23.SendqBounds': WHATEVER THE INPUT: true; the input reads as it did. -/
def sendqBoundsSpec : ChangeSpec := { name := "sendqBounds", fn := fun _ => fun
  | [d1, d2, d3, d4] => { results := [.lit (.bool true)], args := [d1, d2, d3, d4] }
  | _ => none }
def sendqBoundsRow : OpenClaim := { program := "ytjbinhihkfidoaagreat", sum := "045a7b1e28b63e2613607c37af5a031beb76c6b06e63a4575024951ef84f843d", func := "fairlead/fairleadlaw23.SendqBounds", spec := "sendqBounds", unfollowed := true, recurses := true, apart := false }
def SendqBoundsSaid : Prop := sendqBoundsRow.holds Tryz.pinned (OpenSpec.ofChange sendqBoundsSpec)

/-- ITS FALSE NEIGHBOUR: 'it returns false'. Refute it at one input. -/
def sendqBoundsWrong : ChangeSpec := { name := "sendqBounds", fn := fun _ => fun
  | [d1, d2, d3, d4] => { results := [.lit (.bool false)], args := [d1, d2, d3, d4] }
  | _ => none }
def SendqBoundsWrongFalsely : Prop := sendqBoundsRow.holds Tryz.pinned (OpenSpec.ofChange sendqBoundsWrong)

/-- 'fairleadlaw23.SendqPlays': WHATEVER THE INPUT: true; the input reads as it did. -/
def sendqPlaysSpec : ChangeSpec := { name := "sendqPlays", fn := fun _ => fun
  | [d1, d2, d3, d4, d5] => { results := [.lit (.bool true)], args := [d1, d2, d3, d4, d5] }
  | _ => none }
def sendqPlaysRow : OpenClaim := { program := "ytjbinhihkfidoaagreat", sum := "045a7b1e28b63e2613607c37af5a031beb76c6b06e63a4575024951ef84f843d", func := "fairlead/fairleadlaw23.SendqPlays", spec := "sendqPlays", unfollowed := true, recurses := true, apart := false }
def SendqPlaysSaid : Prop := sendqPlaysRow.holds Tryz.pinned (OpenSpec.ofChange sendqPlaysSpec)

/-- ITS FALSE NEIGHBOUR: 'it returns false'. Refute it at one input. -/
def sendqPlaysWrong : ChangeSpec := { name := "sendqPlays", fn := fun _ => fun
  | [d1, d2, d3, d4, d5] => { results := [.lit (.bool false)], args := [d1, d2, d3, d4, d5] }
  | _ => none }
def SendqPlaysWrongFalsely : Prop := sendqPlaysRow.holds Tryz.pinned (OpenSpec.ofChange sendqPlaysWrong)

/-- 'fairleadlaw23.SendqNil': WHATEVER THE INPUT: true; the input reads as it did. -/
def sendqNilSpec : ChangeSpec := { name := "sendqNil", fn := fun _ => fun
  | [d] => { results := [.lit (.bool true)], args := [d] }
  | _ => none }
def sendqNilRow : OpenClaim := { program := "ytjbinhihkfidoaagreat", sum := "045a7b1e28b63e2613607c37af5a031beb76c6b06e63a4575024951ef84f843d", func := "fairlead/fairleadlaw23.SendqNil", spec := "sendqNil", unfollowed := true, recurses := true, apart := false }
def SendqNilSaid : Prop := sendqNilRow.holds Tryz.pinned (OpenSpec.ofChange sendqNilSpec)

/-- ITS FALSE NEIGHBOUR: 'it returns false'. Refute it at one input. -/
def sendqNilWrong : ChangeSpec := { name := "sendqNil", fn := fun _ => fun
  | [d] => { results := [.lit (.bool false)], args := [d] }
  | _ => none }
def SendqNilWrongFalsely : Prop := sendqNilRow.holds Tryz.pinned (OpenSpec.ofChange sendqNilWrong)

/- THE SECOND FORM. 'bulk': how many values and letters a reading holds, each counted each time it is reached (what is shared counts as often as it is met; a slice's spare places count too). A statement '..UptoSaid' is the law's where the arguments, and the package variables that the reading takes, are together of bulk at most 1048576: NARROWER than '..Said'. Prove '..Said' where nothing that the law and all that it calls make is longer than what came in: it says more and counts as full. Else prove '..UptoSaid'. A law counts once. -/
mutual
def uptoBulk {H : Type} : DataW H → Nat
  | .lit (.string bytes) => bytes.length + 1
  | .lit _ => 1
  | .nil => 1
  | .ptr d => uptoBulk d + 1
  | .slice elems spare => uptoBulkAll elems + uptoBulkAll spare + 1
  | .agg parts => uptoBulkAll parts + 1
  | .iface _ d => uptoBulk d + 1
  | .map entries => uptoBulkEntries entries + 1
  | .held _ => 1
def uptoBulkAll {H : Type} : List (DataW H) → Nat
  | [] => 0
  | d :: r => uptoBulk d + uptoBulkAll r
def uptoBulkEntries {H : Type} : List (Lit × DataW H) → Nat
  | [] => 0
  | x :: r => uptoBulkEntry x + uptoBulkEntries r
def uptoBulkEntry {H : Type} : Lit × DataW H → Nat
  | (.string bytes, d) => bytes.length + uptoBulk d + 1
  | (_, d) => uptoBulk d + 1
 end
def uptoSmall : (H : Type) → List (DataW H) → Bool := fun _ ds => decide (uptoBulkAll ds ≤ 1048576)
def OpenSpec.upto (s : _root_.Go.ChangeSpec) : _root_.Go.OpenSpec := { _root_.Go.OpenSpec.ofChange s with cond := some uptoSmall }

/-- 'fairleadlaw23.SendqLapses', WHERE WHAT IT READS IS OF BULK AT MOST 1048576: true; the input reads as it did. -/
def sendqLapsesUptoRow : OpenClaim := { program := "ytjbinhihkfidoaagreat", sum := "045a7b1e28b63e2613607c37af5a031beb76c6b06e63a4575024951ef84f843d", func := "fairlead/fairleadlaw23.SendqLapses", spec := "sendqLapses", unfollowed := true, recurses := true, apart := false, narrowed := true }
def SendqLapsesUptoSaid : Prop := sendqLapsesUptoRow.holds Tryz.pinned (OpenSpec.upto sendqLapsesSpec)

/-- 'fairleadlaw23.SendqBounds', WHERE WHAT IT READS IS OF BULK AT MOST 1048576: true; the input reads as it did. -/
def sendqBoundsUptoRow : OpenClaim := { program := "ytjbinhihkfidoaagreat", sum := "045a7b1e28b63e2613607c37af5a031beb76c6b06e63a4575024951ef84f843d", func := "fairlead/fairleadlaw23.SendqBounds", spec := "sendqBounds", unfollowed := true, recurses := true, apart := false, narrowed := true }
def SendqBoundsUptoSaid : Prop := sendqBoundsUptoRow.holds Tryz.pinned (OpenSpec.upto sendqBoundsSpec)

/-- 'fairleadlaw23.SendqPlays', WHERE WHAT IT READS IS OF BULK AT MOST 1048576: true; the input reads as it did. -/
def sendqPlaysUptoRow : OpenClaim := { program := "ytjbinhihkfidoaagreat", sum := "045a7b1e28b63e2613607c37af5a031beb76c6b06e63a4575024951ef84f843d", func := "fairlead/fairleadlaw23.SendqPlays", spec := "sendqPlays", unfollowed := true, recurses := true, apart := false, narrowed := true }
def SendqPlaysUptoSaid : Prop := sendqPlaysUptoRow.holds Tryz.pinned (OpenSpec.upto sendqPlaysSpec)

/-- 'fairleadlaw23.SendqNil', WHERE WHAT IT READS IS OF BULK AT MOST 1048576: true; the input reads as it did. -/
def sendqNilUptoRow : OpenClaim := { program := "ytjbinhihkfidoaagreat", sum := "045a7b1e28b63e2613607c37af5a031beb76c6b06e63a4575024951ef84f843d", func := "fairlead/fairleadlaw23.SendqNil", spec := "sendqNil", unfollowed := true, recurses := true, apart := false, narrowed := true }
def SendqNilUptoSaid : Prop := sendqNilUptoRow.holds Tryz.pinned (OpenSpec.upto sendqNilSpec)

end Rows
end Go.Proofs.YtjbinhihkfidoaaGreat
