/-
  No cell of these rows narrows 'for every input' (looked for: loops, veiled, ifaces, maps, wideKeys, modest, calm, conditions, laid).
  DERIVED. THE GIVEN ROWS OF THIS SEAT. 7 by the template 'for every input the law returns true; each argument reads behind the call as it read before'; 0 by the template 'total and deterministic' (their statements: YtkncbiepmgdgeaaTotals.lean).
  GIVEN WITH THE SEED: the statements are not yours to turn. If you find one false, say at which input.
  Laid BY PROGRAM, IN A SANDBOX (cutbox-rows.mjs): the forced cells as the released guide's own fill.sh prints them over the translation 711d86cc4f52006d… (all of the seat's roots in one cut). By AI agents, Wed Nov 11 2026. No macro, syntax, notation, axiom, sorry.
-/
import Derived.Test.YtkncbiepmgdgeaaChecked
import GoSem.Claim
import GoSem.ClaimJoined
import GoSem.ClaimMapViews
import Derived.JoinedTies
import Derived.KernelRfl
namespace Go.Proofs.Ytkncbiepmgdgeaa
/- THE CELL 'sum', in the pinned program and in every row, IS THE sha256 OF THE DUMP (.gsa) THAT YtkncbiepmgdgeaaProg.lean LOADS. Nothing in Lean hashes anything: it is a label: what it is worth is what the hold of that sum in a sandbox is worth. -/
noncomputable def Try.pinned : Pinned := { name := "ytkncbiepmgdgeaa", sum := "711d86cc4f52006dbbeeb94b14469c83d06fa43c992b7cbd9f34282ca05aac7a", checked := Try.checked }
namespace Rows
def none {H : Type} : Left H := { results := [], args := [] }

/-- 'fairleadlaw04.SpansGaps': WHATEVER THE INPUT: true; the input reads as it did. -/
def spansGapsSpec : ChangeSpec := { name := "spansGaps", fn := fun _ => fun
  | [d1, d2] => { results := [.lit (.bool true)], args := [d1, d2] }
  | _ => none }
def spansGapsRow : OpenClaim := { program := "ytkncbiepmgdgeaa", sum := "711d86cc4f52006dbbeeb94b14469c83d06fa43c992b7cbd9f34282ca05aac7a", func := "fairlead/fairleadlaw04.SpansGaps", spec := "spansGaps", unfollowed := true, recurses := true, apart := false }
def SpansGapsSaid : Prop := spansGapsRow.holds Try.pinned (OpenSpec.ofChange spansGapsSpec)

/-- ITS FALSE NEIGHBOUR: 'it returns false'. Refute it at one input. -/
def spansGapsWrong : ChangeSpec := { name := "spansGaps", fn := fun _ => fun
  | [d1, d2] => { results := [.lit (.bool false)], args := [d1, d2] }
  | _ => none }
def SpansGapsWrongFalsely : Prop := spansGapsRow.holds Try.pinned (OpenSpec.ofChange spansGapsWrong)

/-- 'fairleadlaw04.SpansSettle': WHATEVER THE INPUT: true; the input reads as it did. -/
def spansSettleSpec : ChangeSpec := { name := "spansSettle", fn := fun _ => fun
  | [d1, d2] => { results := [.lit (.bool true)], args := [d1, d2] }
  | _ => none }
def spansSettleRow : OpenClaim := { program := "ytkncbiepmgdgeaa", sum := "711d86cc4f52006dbbeeb94b14469c83d06fa43c992b7cbd9f34282ca05aac7a", func := "fairlead/fairleadlaw04.SpansSettle", spec := "spansSettle", unfollowed := true, recurses := true, apart := false }
def SpansSettleSaid : Prop := spansSettleRow.holds Try.pinned (OpenSpec.ofChange spansSettleSpec)

/-- ITS FALSE NEIGHBOUR: 'it returns false'. Refute it at one input. -/
def spansSettleWrong : ChangeSpec := { name := "spansSettle", fn := fun _ => fun
  | [d1, d2] => { results := [.lit (.bool false)], args := [d1, d2] }
  | _ => none }
def SpansSettleWrongFalsely : Prop := spansSettleRow.holds Try.pinned (OpenSpec.ofChange spansSettleWrong)

/-- 'fairleadlaw04.SpansOrder': WHATEVER THE INPUT: true; the input reads as it did. -/
def spansOrderSpec : ChangeSpec := { name := "spansOrder", fn := fun _ => fun
  | [d1, d2, d3] => { results := [.lit (.bool true)], args := [d1, d2, d3] }
  | _ => none }
def spansOrderRow : OpenClaim := { program := "ytkncbiepmgdgeaa", sum := "711d86cc4f52006dbbeeb94b14469c83d06fa43c992b7cbd9f34282ca05aac7a", func := "fairlead/fairleadlaw04.SpansOrder", spec := "spansOrder", unfollowed := true, recurses := true, apart := false }
def SpansOrderSaid : Prop := spansOrderRow.holds Try.pinned (OpenSpec.ofChange spansOrderSpec)

/-- ITS FALSE NEIGHBOUR: 'it returns false'. Refute it at one input. -/
def spansOrderWrong : ChangeSpec := { name := "spansOrder", fn := fun _ => fun
  | [d1, d2, d3] => { results := [.lit (.bool false)], args := [d1, d2, d3] }
  | _ => none }
def SpansOrderWrongFalsely : Prop := spansOrderRow.holds Try.pinned (OpenSpec.ofChange spansOrderWrong)

/-- 'fairleadlaw04.SpansFew': WHATEVER THE INPUT: true; the input reads as it did. -/
def spansFewSpec : ChangeSpec := { name := "spansFew", fn := fun _ => fun
  | [d1, d2, d3] => { results := [.lit (.bool true)], args := [d1, d2, d3] }
  | _ => none }
def spansFewRow : OpenClaim := { program := "ytkncbiepmgdgeaa", sum := "711d86cc4f52006dbbeeb94b14469c83d06fa43c992b7cbd9f34282ca05aac7a", func := "fairlead/fairleadlaw04.SpansFew", spec := "spansFew", unfollowed := true, recurses := true, apart := false }
def SpansFewSaid : Prop := spansFewRow.holds Try.pinned (OpenSpec.ofChange spansFewSpec)

/-- ITS FALSE NEIGHBOUR: 'it returns false'. Refute it at one input. -/
def spansFewWrong : ChangeSpec := { name := "spansFew", fn := fun _ => fun
  | [d1, d2, d3] => { results := [.lit (.bool false)], args := [d1, d2, d3] }
  | _ => none }
def SpansFewWrongFalsely : Prop := spansFewRow.holds Try.pinned (OpenSpec.ofChange spansFewWrong)

/-- 'fairleadlaw04.SpansPlays': WHATEVER THE INPUT: true; the input reads as it did. -/
def spansPlaysSpec : ChangeSpec := { name := "spansPlays", fn := fun _ => fun
  | [d1, d2] => { results := [.lit (.bool true)], args := [d1, d2] }
  | _ => none }
def spansPlaysRow : OpenClaim := { program := "ytkncbiepmgdgeaa", sum := "711d86cc4f52006dbbeeb94b14469c83d06fa43c992b7cbd9f34282ca05aac7a", func := "fairlead/fairleadlaw04.SpansPlays", spec := "spansPlays", unfollowed := true, recurses := true, apart := false }
def SpansPlaysSaid : Prop := spansPlaysRow.holds Try.pinned (OpenSpec.ofChange spansPlaysSpec)

/-- ITS FALSE NEIGHBOUR: 'it returns false'. Refute it at one input. -/
def spansPlaysWrong : ChangeSpec := { name := "spansPlays", fn := fun _ => fun
  | [d1, d2] => { results := [.lit (.bool false)], args := [d1, d2] }
  | _ => none }
def SpansPlaysWrongFalsely : Prop := spansPlaysRow.holds Try.pinned (OpenSpec.ofChange spansPlaysWrong)

/-- 'fairleadlaw04.SpansMove': WHATEVER THE INPUT: true; the input reads as it did. -/
def spansMoveSpec : ChangeSpec := { name := "spansMove", fn := fun _ => fun
  | [d1, d2, d3] => { results := [.lit (.bool true)], args := [d1, d2, d3] }
  | _ => none }
def spansMoveRow : OpenClaim := { program := "ytkncbiepmgdgeaa", sum := "711d86cc4f52006dbbeeb94b14469c83d06fa43c992b7cbd9f34282ca05aac7a", func := "fairlead/fairleadlaw04.SpansMove", spec := "spansMove", unfollowed := true, recurses := true, apart := false }
def SpansMoveSaid : Prop := spansMoveRow.holds Try.pinned (OpenSpec.ofChange spansMoveSpec)

/-- ITS FALSE NEIGHBOUR: 'it returns false'. Refute it at one input. -/
def spansMoveWrong : ChangeSpec := { name := "spansMove", fn := fun _ => fun
  | [d1, d2, d3] => { results := [.lit (.bool false)], args := [d1, d2, d3] }
  | _ => none }
def SpansMoveWrongFalsely : Prop := spansMoveRow.holds Try.pinned (OpenSpec.ofChange spansMoveWrong)

/-- 'fairleadlaw04.SpansNil': WHATEVER THE INPUT: true; the input reads as it did. -/
def spansNilSpec : ChangeSpec := { name := "spansNil", fn := fun _ => fun
  | [d1, d2] => { results := [.lit (.bool true)], args := [d1, d2] }
  | _ => none }
def spansNilRow : OpenClaim := { program := "ytkncbiepmgdgeaa", sum := "711d86cc4f52006dbbeeb94b14469c83d06fa43c992b7cbd9f34282ca05aac7a", func := "fairlead/fairleadlaw04.SpansNil", spec := "spansNil", unfollowed := true, recurses := true, apart := false }
def SpansNilSaid : Prop := spansNilRow.holds Try.pinned (OpenSpec.ofChange spansNilSpec)

/-- ITS FALSE NEIGHBOUR: 'it returns false'. Refute it at one input. -/
def spansNilWrong : ChangeSpec := { name := "spansNil", fn := fun _ => fun
  | [d1, d2] => { results := [.lit (.bool false)], args := [d1, d2] }
  | _ => none }
def SpansNilWrongFalsely : Prop := spansNilRow.holds Try.pinned (OpenSpec.ofChange spansNilWrong)

/- THE SECOND FORM. 'bulk': how many values and letters a reading holds, each counted each time it is reached (what is shared counts as often as it is met; a slice's spare places count too). A statement '..UptoSaid' is the law's where the arguments, and the package variables that the reading takes, are together of bulk at most 1048576: NARROWER than '..Said'. Prove '..Said' where nothing that the law and all that it calls make is longer than what came in: it says more and counts as full. Else prove '..UptoSaid'. A law counts once. -/
mutual
def uptoBulk {H : Type} : DataW H → Nat
  | .lit (.string bytes) => bytes.length + 1
  | .lit _ => 1
  | .nil => 1
  | .ptr d => uptoBulk d + 1
  | .slice elems spare => uptoBulkAll elems + uptoBulkAll spare + 1
  | .agg parts => uptoBulkAll parts + 1
  | .iface _ d => uptoBulk d + 1
  | .map entries => uptoBulkEntries entries + 1
  | .held _ => 1
def uptoBulkAll {H : Type} : List (DataW H) → Nat
  | [] => 0
  | d :: r => uptoBulk d + uptoBulkAll r
def uptoBulkEntries {H : Type} : List (Lit × DataW H) → Nat
  | [] => 0
  | x :: r => uptoBulkEntry x + uptoBulkEntries r
def uptoBulkEntry {H : Type} : Lit × DataW H → Nat
  | (.string bytes, d) => bytes.length + uptoBulk d + 1
  | (_, d) => uptoBulk d + 1
 end
def uptoSmall : (H : Type) → List (DataW H) → Bool := fun _ ds => decide (uptoBulkAll ds ≤ 1048576)
def OpenSpec.upto (s : _root_.Go.ChangeSpec) : _root_.Go.OpenSpec := { _root_.Go.OpenSpec.ofChange s with cond := some uptoSmall }

/-- 'fairleadlaw04.SpansGaps', WHERE WHAT IT READS IS OF BULK AT MOST 1048576: true; the input reads as it did. -/
def spansGapsUptoRow : OpenClaim := { program := "ytkncbiepmgdgeaa", sum := "711d86cc4f52006dbbeeb94b14469c83d06fa43c992b7cbd9f34282ca05aac7a", func := "fairlead/fairleadlaw04.SpansGaps", spec := "spansGaps", unfollowed := true, recurses := true, apart := false, narrowed := true }
def SpansGapsUptoSaid : Prop := spansGapsUptoRow.holds Try.pinned (OpenSpec.upto spansGapsSpec)

/-- 'fairleadlaw04.SpansSettle', WHERE WHAT IT READS IS OF BULK AT MOST 1048576: true; the input reads as it did. -/
def spansSettleUptoRow : OpenClaim := { program := "ytkncbiepmgdgeaa", sum := "711d86cc4f52006dbbeeb94b14469c83d06fa43c992b7cbd9f34282ca05aac7a", func := "fairlead/fairleadlaw04.SpansSettle", spec := "spansSettle", unfollowed := true, recurses := true, apart := false, narrowed := true }
def SpansSettleUptoSaid : Prop := spansSettleUptoRow.holds Try.pinned (OpenSpec.upto spansSettleSpec)

/-- 'fairleadlaw04.SpansOrder', WHERE WHAT IT READS IS OF BULK AT MOST 1048576: true; the input reads as it did. -/
def spansOrderUptoRow : OpenClaim := { program := "ytkncbiepmgdgeaa", sum := "711d86cc4f52006dbbeeb94b14469c83d06fa43c992b7cbd9f34282ca05aac7a", func := "fairlead/fairleadlaw04.SpansOrder", spec := "spansOrder", unfollowed := true, recurses := true, apart := false, narrowed := true }
def SpansOrderUptoSaid : Prop := spansOrderUptoRow.holds Try.pinned (OpenSpec.upto spansOrderSpec)

/-- 'fairleadlaw04.SpansFew', WHERE WHAT IT READS IS OF BULK AT MOST 1048576: true; the input reads as it did. -/
def spansFewUptoRow : OpenClaim := { program := "ytkncbiepmgdgeaa", sum := "711d86cc4f52006dbbeeb94b14469c83d06fa43c992b7cbd9f34282ca05aac7a", func := "fairlead/fairleadlaw04.SpansFew", spec := "spansFew", unfollowed := true, recurses := true, apart := false, narrowed := true }
def SpansFewUptoSaid : Prop := spansFewUptoRow.holds Try.pinned (OpenSpec.upto spansFewSpec)

/-- 'fairleadlaw04.SpansPlays', WHERE WHAT IT READS IS OF BULK AT MOST 1048576: true; the input reads as it did. -/
def spansPlaysUptoRow : OpenClaim := { program := "ytkncbiepmgdgeaa", sum := "711d86cc4f52006dbbeeb94b14469c83d06fa43c992b7cbd9f34282ca05aac7a", func := "fairlead/fairleadlaw04.SpansPlays", spec := "spansPlays", unfollowed := true, recurses := true, apart := false, narrowed := true }
def SpansPlaysUptoSaid : Prop := spansPlaysUptoRow.holds Try.pinned (OpenSpec.upto spansPlaysSpec)

/-- 'fairleadlaw04.SpansMove', WHERE WHAT IT READS IS OF BULK AT MOST 1048576: true; the input reads as it did. -/
def spansMoveUptoRow : OpenClaim := { program := "ytkncbiepmgdgeaa", sum := "711d86cc4f52006dbbeeb94b14469c83d06fa43c992b7cbd9f34282ca05aac7a", func := "fairlead/fairleadlaw04.SpansMove", spec := "spansMove", unfollowed := true, recurses := true, apart := false, narrowed := true }
def SpansMoveUptoSaid : Prop := spansMoveUptoRow.holds Try.pinned (OpenSpec.upto spansMoveSpec)

/-- 'fairleadlaw04.SpansNil', WHERE WHAT IT READS IS OF BULK AT MOST 1048576: true; the input reads as it did. -/
def spansNilUptoRow : OpenClaim := { program := "ytkncbiepmgdgeaa", sum := "711d86cc4f52006dbbeeb94b14469c83d06fa43c992b7cbd9f34282ca05aac7a", func := "fairlead/fairleadlaw04.SpansNil", spec := "spansNil", unfollowed := true, recurses := true, apart := false, narrowed := true }
def SpansNilUptoSaid : Prop := spansNilUptoRow.holds Try.pinned (OpenSpec.upto spansNilSpec)

end Rows
end Go.Proofs.Ytkncbiepmgdgeaa
