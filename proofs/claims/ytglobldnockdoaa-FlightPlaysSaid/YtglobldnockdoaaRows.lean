/-
  No cell of these rows narrows 'for every input' (looked for: loops, veiled, ifaces, maps, wideKeys, modest, calm, conditions, laid).
  DERIVED. THE GIVEN ROWS OF THIS SEAT. 7 by the template 'for every input the law returns true; each argument reads behind the call as it read before'; 0 by the template 'total and deterministic' (their statements: YtglobldnockdoaaTotals.lean).
  GIVEN WITH THE SEED: the statements are not yours to turn. If you find one false, say at which input.
  Laid BY PROGRAM, IN A SANDBOX (cutbox-rows.mjs): the forced cells as the released guide's own fill.sh prints them over the translation 86e69b3c71d2d38d… (all of the seat's roots in one cut). By AI agents, Wed Nov 11 2026. No macro, syntax, notation, axiom, sorry.
-/
import Derived.Test.YtglobldnockdoaaChecked
import GoSem.Claim
import GoSem.ClaimJoined
import GoSem.ClaimMapViews
import Derived.JoinedTies
import Derived.KernelRfl
namespace Go.Proofs.Ytglobldnockdoaa
/- THE CELL 'sum', in the pinned program and in every row, IS THE sha256 OF THE DUMP (.gsa) THAT YtglobldnockdoaaProg.lean LOADS. Nothing in Lean hashes anything: it is a label: what it is worth is what the hold of that sum in a sandbox is worth. -/
noncomputable def Try.pinned : Pinned := { name := "ytglobldnockdoaa", sum := "86e69b3c71d2d38d93cdd9cb5ffd389f6702933d3508eb3ac5b9cf4d01ffc472", checked := Try.checked }
namespace Rows
def none {H : Type} : Left H := { results := [], args := [] }

/-- 'fairleadlaw21.FlightMisses': WHATEVER THE INPUT: true; the input reads as it did. -/
def flightMissesSpec : ChangeSpec := { name := "flightMisses", fn := fun _ => fun
  | [d1, d2, d3] => { results := [.lit (.bool true)], args := [d1, d2, d3] }
  | _ => none }
def flightMissesRow : OpenClaim := { program := "ytglobldnockdoaa", sum := "86e69b3c71d2d38d93cdd9cb5ffd389f6702933d3508eb3ac5b9cf4d01ffc472", func := "fairlead/fairleadlaw21.FlightMisses", spec := "flightMisses", unfollowed := true, recurses := true, apart := false }
def FlightMissesSaid : Prop := flightMissesRow.holds Try.pinned (OpenSpec.ofChange flightMissesSpec)

/-- ITS FALSE NEIGHBOUR: 'it returns false'. Refute it at one input. -/
def flightMissesWrong : ChangeSpec := { name := "flightMisses", fn := fun _ => fun
  | [d1, d2, d3] => { results := [.lit (.bool false)], args := [d1, d2, d3] }
  | _ => none }
def FlightMissesWrongFalsely : Prop := flightMissesRow.holds Try.pinned (OpenSpec.ofChange flightMissesWrong)

/-- 'fairleadlaw21.FlightSplit': WHATEVER THE INPUT: true; the input reads as it did. -/
def flightSplitSpec : ChangeSpec := { name := "flightSplit", fn := fun _ => fun
  | [d1, d2, d3] => { results := [.lit (.bool true)], args := [d1, d2, d3] }
  | _ => none }
def flightSplitRow : OpenClaim := { program := "ytglobldnockdoaa", sum := "86e69b3c71d2d38d93cdd9cb5ffd389f6702933d3508eb3ac5b9cf4d01ffc472", func := "fairlead/fairleadlaw21.FlightSplit", spec := "flightSplit", unfollowed := true, recurses := true, apart := false }
def FlightSplitSaid : Prop := flightSplitRow.holds Try.pinned (OpenSpec.ofChange flightSplitSpec)

/-- ITS FALSE NEIGHBOUR: 'it returns false'. Refute it at one input. -/
def flightSplitWrong : ChangeSpec := { name := "flightSplit", fn := fun _ => fun
  | [d1, d2, d3] => { results := [.lit (.bool false)], args := [d1, d2, d3] }
  | _ => none }
def FlightSplitWrongFalsely : Prop := flightSplitRow.holds Try.pinned (OpenSpec.ofChange flightSplitWrong)

/-- 'fairleadlaw21.FlightPoint': WHATEVER THE INPUT: true; the input reads as it did. -/
def flightPointSpec : ChangeSpec := { name := "flightPoint", fn := fun _ => fun
  | [d1, d2, d3] => { results := [.lit (.bool true)], args := [d1, d2, d3] }
  | _ => none }
def flightPointRow : OpenClaim := { program := "ytglobldnockdoaa", sum := "86e69b3c71d2d38d93cdd9cb5ffd389f6702933d3508eb3ac5b9cf4d01ffc472", func := "fairlead/fairleadlaw21.FlightPoint", spec := "flightPoint", unfollowed := true, recurses := true, apart := false }
def FlightPointSaid : Prop := flightPointRow.holds Try.pinned (OpenSpec.ofChange flightPointSpec)

/-- ITS FALSE NEIGHBOUR: 'it returns false'. Refute it at one input. -/
def flightPointWrong : ChangeSpec := { name := "flightPoint", fn := fun _ => fun
  | [d1, d2, d3] => { results := [.lit (.bool false)], args := [d1, d2, d3] }
  | _ => none }
def FlightPointWrongFalsely : Prop := flightPointRow.holds Try.pinned (OpenSpec.ofChange flightPointWrong)

/-- 'fairleadlaw21.FlightMarks': WHATEVER THE INPUT: true; the input reads as it did. -/
def flightMarksSpec : ChangeSpec := { name := "flightMarks", fn := fun _ => fun
  | [d1, d2, d3, d4, d5] => { results := [.lit (.bool true)], args := [d1, d2, d3, d4, d5] }
  | _ => none }
def flightMarksRow : OpenClaim := { program := "ytglobldnockdoaa", sum := "86e69b3c71d2d38d93cdd9cb5ffd389f6702933d3508eb3ac5b9cf4d01ffc472", func := "fairlead/fairleadlaw21.FlightMarks", spec := "flightMarks", unfollowed := true, recurses := true, apart := false }
def FlightMarksSaid : Prop := flightMarksRow.holds Try.pinned (OpenSpec.ofChange flightMarksSpec)

/-- ITS FALSE NEIGHBOUR: 'it returns false'. Refute it at one input. -/
def flightMarksWrong : ChangeSpec := { name := "flightMarks", fn := fun _ => fun
  | [d1, d2, d3, d4, d5] => { results := [.lit (.bool false)], args := [d1, d2, d3, d4, d5] }
  | _ => none }
def FlightMarksWrongFalsely : Prop := flightMarksRow.holds Try.pinned (OpenSpec.ofChange flightMarksWrong)

/-- 'fairleadlaw21.FlightFrees': WHATEVER THE INPUT: true; the input reads as it did. -/
def flightFreesSpec : ChangeSpec := { name := "flightFrees", fn := fun _ => fun
  | [d1, d2, d3] => { results := [.lit (.bool true)], args := [d1, d2, d3] }
  | _ => none }
def flightFreesRow : OpenClaim := { program := "ytglobldnockdoaa", sum := "86e69b3c71d2d38d93cdd9cb5ffd389f6702933d3508eb3ac5b9cf4d01ffc472", func := "fairlead/fairleadlaw21.FlightFrees", spec := "flightFrees", unfollowed := true, recurses := true, apart := false }
def FlightFreesSaid : Prop := flightFreesRow.holds Try.pinned (OpenSpec.ofChange flightFreesSpec)

/-- ITS FALSE NEIGHBOUR: 'it returns false'. Refute it at one input. -/
def flightFreesWrong : ChangeSpec := { name := "flightFrees", fn := fun _ => fun
  | [d1, d2, d3] => { results := [.lit (.bool false)], args := [d1, d2, d3] }
  | _ => none }
def FlightFreesWrongFalsely : Prop := flightFreesRow.holds Try.pinned (OpenSpec.ofChange flightFreesWrong)

/-- 'fairleadlaw21.FlightPlays': WHATEVER THE INPUT: true; the input reads as it did. -/
def flightPlaysSpec : ChangeSpec := { name := "flightPlays", fn := fun _ => fun
  | [d1, d2, d3] => { results := [.lit (.bool true)], args := [d1, d2, d3] }
  | _ => none }
def flightPlaysRow : OpenClaim := { program := "ytglobldnockdoaa", sum := "86e69b3c71d2d38d93cdd9cb5ffd389f6702933d3508eb3ac5b9cf4d01ffc472", func := "fairlead/fairleadlaw21.FlightPlays", spec := "flightPlays", unfollowed := true, recurses := true, apart := false }
def FlightPlaysSaid : Prop := flightPlaysRow.holds Try.pinned (OpenSpec.ofChange flightPlaysSpec)

/-- ITS FALSE NEIGHBOUR: 'it returns false'. Refute it at one input. -/
def flightPlaysWrong : ChangeSpec := { name := "flightPlays", fn := fun _ => fun
  | [d1, d2, d3] => { results := [.lit (.bool false)], args := [d1, d2, d3] }
  | _ => none }
def FlightPlaysWrongFalsely : Prop := flightPlaysRow.holds Try.pinned (OpenSpec.ofChange flightPlaysWrong)

/-- 'fairleadlaw21.FlightNil': WHATEVER THE INPUT: true; the input reads as it did. -/
def flightNilSpec : ChangeSpec := { name := "flightNil", fn := fun _ => fun
  | [d] => { results := [.lit (.bool true)], args := [d] }
  | _ => none }
def flightNilRow : OpenClaim := { program := "ytglobldnockdoaa", sum := "86e69b3c71d2d38d93cdd9cb5ffd389f6702933d3508eb3ac5b9cf4d01ffc472", func := "fairlead/fairleadlaw21.FlightNil", spec := "flightNil", unfollowed := true, recurses := true, apart := false }
def FlightNilSaid : Prop := flightNilRow.holds Try.pinned (OpenSpec.ofChange flightNilSpec)

/-- ITS FALSE NEIGHBOUR: 'it returns false'. Refute it at one input. -/
def flightNilWrong : ChangeSpec := { name := "flightNil", fn := fun _ => fun
  | [d] => { results := [.lit (.bool false)], args := [d] }
  | _ => none }
def FlightNilWrongFalsely : Prop := flightNilRow.holds Try.pinned (OpenSpec.ofChange flightNilWrong)

/- THE SECOND FORM. 'bulk': how many values and letters a reading holds, each counted each time it is reached (what is shared counts as often as it is met; a slice's spare places count too). A statement '..UptoSaid' is the law's where the arguments, and the package variables that the reading takes, are together of bulk at most 1048576: NARROWER than '..Said'. Prove '..Said' where nothing that the law and all that it calls make is longer than what came in: it says more and counts as full. Else prove '..UptoSaid'. A law counts once. -/
mutual
def uptoBulk {H : Type} : DataW H → Nat
  | .lit (.string bytes) => bytes.length + 1
  | .lit _ => 1
  | .nil => 1
  | .ptr d => uptoBulk d + 1
  | .slice elems spare => uptoBulkAll elems + uptoBulkAll spare + 1
  | .agg parts => uptoBulkAll parts + 1
  | .iface _ d => uptoBulk d + 1
  | .map entries => uptoBulkEntries entries + 1
  | .held _ => 1
def uptoBulkAll {H : Type} : List (DataW H) → Nat
  | [] => 0
  | d :: r => uptoBulk d + uptoBulkAll r
def uptoBulkEntries {H : Type} : List (Lit × DataW H) → Nat
  | [] => 0
  | x :: r => uptoBulkEntry x + uptoBulkEntries r
def uptoBulkEntry {H : Type} : Lit × DataW H → Nat
  | (.string bytes, d) => bytes.length + uptoBulk d + 1
  | (_, d) => uptoBulk d + 1
 end
def uptoSmall : (H : Type) → List (DataW H) → Bool := fun _ ds => decide (uptoBulkAll ds ≤ 1048576)
def OpenSpec.upto (s : _root_.Go.ChangeSpec) : _root_.Go.OpenSpec := { _root_.Go.OpenSpec.ofChange s with cond := some uptoSmall }

/-- 'fairleadlaw21.FlightMisses', WHERE WHAT IT READS IS OF BULK AT MOST 1048576: true; the input reads as it did. -/
def flightMissesUptoRow : OpenClaim := { program := "ytglobldnockdoaa", sum := "86e69b3c71d2d38d93cdd9cb5ffd389f6702933d3508eb3ac5b9cf4d01ffc472", func := "fairlead/fairleadlaw21.FlightMisses", spec := "flightMisses", unfollowed := true, recurses := true, apart := false, narrowed := true }
def FlightMissesUptoSaid : Prop := flightMissesUptoRow.holds Try.pinned (OpenSpec.upto flightMissesSpec)

/-- 'fairleadlaw21.FlightSplit', WHERE WHAT IT READS IS OF BULK AT MOST 1048576: true; the input reads as it did. -/
def flightSplitUptoRow : OpenClaim := { program := "ytglobldnockdoaa", sum := "86e69b3c71d2d38d93cdd9cb5ffd389f6702933d3508eb3ac5b9cf4d01ffc472", func := "fairlead/fairleadlaw21.FlightSplit", spec := "flightSplit", unfollowed := true, recurses := true, apart := false, narrowed := true }
def FlightSplitUptoSaid : Prop := flightSplitUptoRow.holds Try.pinned (OpenSpec.upto flightSplitSpec)

/-- 'fairleadlaw21.FlightPoint', WHERE WHAT IT READS IS OF BULK AT MOST 1048576: true; the input reads as it did. -/
def flightPointUptoRow : OpenClaim := { program := "ytglobldnockdoaa", sum := "86e69b3c71d2d38d93cdd9cb5ffd389f6702933d3508eb3ac5b9cf4d01ffc472", func := "fairlead/fairleadlaw21.FlightPoint", spec := "flightPoint", unfollowed := true, recurses := true, apart := false, narrowed := true }
def FlightPointUptoSaid : Prop := flightPointUptoRow.holds Try.pinned (OpenSpec.upto flightPointSpec)

/-- 'fairleadlaw21.FlightMarks', WHERE WHAT IT READS IS OF BULK AT MOST 1048576: true; the input reads as it did. -/
def flightMarksUptoRow : OpenClaim := { program := "ytglobldnockdoaa", sum := "86e69b3c71d2d38d93cdd9cb5ffd389f6702933d3508eb3ac5b9cf4d01ffc472", func := "fairlead/fairleadlaw21.FlightMarks", spec := "flightMarks", unfollowed := true, recurses := true, apart := false, narrowed := true }
def FlightMarksUptoSaid : Prop := flightMarksUptoRow.holds Try.pinned (OpenSpec.upto flightMarksSpec)

/-- 'fairleadlaw21.FlightFrees', WHERE WHAT IT READS IS OF BULK AT MOST 1048576: true; the input reads as it did. -/
def flightFreesUptoRow : OpenClaim := { program := "ytglobldnockdoaa", sum := "86e69b3c71d2d38d93cdd9cb5ffd389f6702933d3508eb3ac5b9cf4d01ffc472", func := "fairlead/fairleadlaw21.FlightFrees", spec := "flightFrees", unfollowed := true, recurses := true, apart := false, narrowed := true }
def FlightFreesUptoSaid : Prop := flightFreesUptoRow.holds Try.pinned (OpenSpec.upto flightFreesSpec)

/-- 'fairleadlaw21.FlightPlays', WHERE WHAT IT READS IS OF BULK AT MOST 1048576: true; the input reads as it did. -/
def flightPlaysUptoRow : OpenClaim := { program := "ytglobldnockdoaa", sum := "86e69b3c71d2d38d93cdd9cb5ffd389f6702933d3508eb3ac5b9cf4d01ffc472", func := "fairlead/fairleadlaw21.FlightPlays", spec := "flightPlays", unfollowed := true, recurses := true, apart := false, narrowed := true }
def FlightPlaysUptoSaid : Prop := flightPlaysUptoRow.holds Try.pinned (OpenSpec.upto flightPlaysSpec)

/-- 'fairleadlaw21.FlightNil', WHERE WHAT IT READS IS OF BULK AT MOST 1048576: true; the input reads as it did. -/
def flightNilUptoRow : OpenClaim := { program := "ytglobldnockdoaa", sum := "86e69b3c71d2d38d93cdd9cb5ffd389f6702933d3508eb3ac5b9cf4d01ffc472", func := "fairlead/fairleadlaw21.FlightNil", spec := "flightNil", unfollowed := true, recurses := true, apart := false, narrowed := true }
def FlightNilUptoSaid : Prop := flightNilUptoRow.holds Try.pinned (OpenSpec.upto flightNilSpec)

end Rows
end Go.Proofs.Ytglobldnockdoaa
