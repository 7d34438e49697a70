/-
  No cell of these rows narrows 'for every input' (looked for: loops, veiled, ifaces, maps, wideKeys, modest, calm, conditions, laid).
  DERIVED. THE GIVEN ROWS OF THIS SEAT. 6 by the template 'for every input the law returns true; each argument reads behind the call as it read before'; 0 by the template 'total and deterministic' (their statements: YtkbdfhfbhgaecaaTotals.lean).
  GIVEN WITH THE SEED: the statements are not yours to turn. If you find one false, say at which input.
  Laid BY PROGRAM, IN A SANDBOX (cutbox-rows.mjs): the forced cells as the released guide's own fill.sh prints them over the translation d6bd9eceb60002dd… (all of the seat's roots in one cut). By AI agents, Wed Nov 11 2026. No macro, syntax, notation, axiom, sorry.
-/
import Derived.Test.YtkbdfhfbhgaecaaChecked
import GoSem.Claim
import GoSem.ClaimJoined
import GoSem.ClaimMapViews
import Derived.JoinedTies
import Derived.KernelRfl
namespace Go.Proofs.Ytkbdfhfbhgaecaa
/- THE CELL 'sum', in the pinned program and in every row, IS THE sha256 OF THE DUMP (.gsa) THAT YtkbdfhfbhgaecaaProg.lean LOADS. Nothing in Lean hashes anything: it is a label: what it is worth is what the hold of that sum in a sandbox is worth. -/
noncomputable def Try.pinned : Pinned := { name := "ytkbdfhfbhgaecaa", sum := "d6bd9eceb60002dd1ff9d9b127438b1c67f88e0b3a16ba49b9832f7d057df75d", checked := Try.checked }
namespace Rows
def none {H : Type} : Left H := { results := [], args := [] }

/-- 'fairleadlaw15.TsnmapPlays': WHATEVER THE INPUT: true; the input reads as it did. -/
def tsnmapPlaysSpec : ChangeSpec := { name := "tsnmapPlays", fn := fun _ => fun
  | [d1, d2] => { results := [.lit (.bool true)], args := [d1, d2] }
  | _ => none }
def tsnmapPlaysRow : OpenClaim := { program := "ytkbdfhfbhgaecaa", sum := "d6bd9eceb60002dd1ff9d9b127438b1c67f88e0b3a16ba49b9832f7d057df75d", func := "fairlead/fairleadlaw15.TsnmapPlays", spec := "tsnmapPlays", unfollowed := true, recurses := true, apart := false }
def TsnmapPlaysSaid : Prop := tsnmapPlaysRow.holds Try.pinned (OpenSpec.ofChange tsnmapPlaysSpec)

/-- ITS FALSE NEIGHBOUR: 'it returns false'. Refute it at one input. -/
def tsnmapPlaysWrong : ChangeSpec := { name := "tsnmapPlays", fn := fun _ => fun
  | [d1, d2] => { results := [.lit (.bool false)], args := [d1, d2] }
  | _ => none }
def TsnmapPlaysWrongFalsely : Prop := tsnmapPlaysRow.holds Try.pinned (OpenSpec.ofChange tsnmapPlaysWrong)

/-- 'fairleadlaw15.TsnmapOrder': WHATEVER THE INPUT: true; the input reads as it did. -/
def tsnmapOrderSpec : ChangeSpec := { name := "tsnmapOrder", fn := fun _ => fun
  | [d1, d2] => { results := [.lit (.bool true)], args := [d1, d2] }
  | _ => none }
def tsnmapOrderRow : OpenClaim := { program := "ytkbdfhfbhgaecaa", sum := "d6bd9eceb60002dd1ff9d9b127438b1c67f88e0b3a16ba49b9832f7d057df75d", func := "fairlead/fairleadlaw15.TsnmapOrder", spec := "tsnmapOrder", unfollowed := true, recurses := true, apart := false }
def TsnmapOrderSaid : Prop := tsnmapOrderRow.holds Try.pinned (OpenSpec.ofChange tsnmapOrderSpec)

/-- ITS FALSE NEIGHBOUR: 'it returns false'. Refute it at one input. -/
def tsnmapOrderWrong : ChangeSpec := { name := "tsnmapOrder", fn := fun _ => fun
  | [d1, d2] => { results := [.lit (.bool false)], args := [d1, d2] }
  | _ => none }
def TsnmapOrderWrongFalsely : Prop := tsnmapOrderRow.holds Try.pinned (OpenSpec.ofChange tsnmapOrderWrong)

/-- 'fairleadlaw15.TsnmapRuns': WHATEVER THE INPUT: true; the input reads as it did. -/
def tsnmapRunsSpec : ChangeSpec := { name := "tsnmapRuns", fn := fun _ => fun
  | [d1, d2] => { results := [.lit (.bool true)], args := [d1, d2] }
  | _ => none }
def tsnmapRunsRow : OpenClaim := { program := "ytkbdfhfbhgaecaa", sum := "d6bd9eceb60002dd1ff9d9b127438b1c67f88e0b3a16ba49b9832f7d057df75d", func := "fairlead/fairleadlaw15.TsnmapRuns", spec := "tsnmapRuns", unfollowed := true, recurses := true, apart := false }
def TsnmapRunsSaid : Prop := tsnmapRunsRow.holds Try.pinned (OpenSpec.ofChange tsnmapRunsSpec)

/-- ITS FALSE NEIGHBOUR: 'it returns false'. Refute it at one input. -/
def tsnmapRunsWrong : ChangeSpec := { name := "tsnmapRuns", fn := fun _ => fun
  | [d1, d2] => { results := [.lit (.bool false)], args := [d1, d2] }
  | _ => none }
def TsnmapRunsWrongFalsely : Prop := tsnmapRunsRow.holds Try.pinned (OpenSpec.ofChange tsnmapRunsWrong)

/-- 'fairleadlaw15.TsnmapOn': WHATEVER THE INPUT: true; the input reads as it did. -/
def tsnmapOnSpec : ChangeSpec := { name := "tsnmapOn", fn := fun _ => fun
  | [d1, d2, d3] => { results := [.lit (.bool true)], args := [d1, d2, d3] }
  | _ => none }
def tsnmapOnRow : OpenClaim := { program := "ytkbdfhfbhgaecaa", sum := "d6bd9eceb60002dd1ff9d9b127438b1c67f88e0b3a16ba49b9832f7d057df75d", func := "fairlead/fairleadlaw15.TsnmapOn", spec := "tsnmapOn", unfollowed := true, recurses := true, apart := false }
def TsnmapOnSaid : Prop := tsnmapOnRow.holds Try.pinned (OpenSpec.ofChange tsnmapOnSpec)

/-- ITS FALSE NEIGHBOUR: 'it returns false'. Refute it at one input. -/
def tsnmapOnWrong : ChangeSpec := { name := "tsnmapOn", fn := fun _ => fun
  | [d1, d2, d3] => { results := [.lit (.bool false)], args := [d1, d2, d3] }
  | _ => none }
def TsnmapOnWrongFalsely : Prop := tsnmapOnRow.holds Try.pinned (OpenSpec.ofChange tsnmapOnWrong)

/-- 'fairleadlaw15.TsnmapRow': WHATEVER THE INPUT: true; the input reads as it did. -/
def tsnmapRowSpec : ChangeSpec := { name := "tsnmapRow", fn := fun _ => fun
  | [d1, d2, d3] => { results := [.lit (.bool true)], args := [d1, d2, d3] }
  | _ => none }
def tsnmapRowRow : OpenClaim := { program := "ytkbdfhfbhgaecaa", sum := "d6bd9eceb60002dd1ff9d9b127438b1c67f88e0b3a16ba49b9832f7d057df75d", func := "fairlead/fairleadlaw15.TsnmapRow", spec := "tsnmapRow", unfollowed := true, recurses := true, apart := false }
def TsnmapRowSaid : Prop := tsnmapRowRow.holds Try.pinned (OpenSpec.ofChange tsnmapRowSpec)

/-- ITS FALSE NEIGHBOUR: 'it returns false'. Refute it at one input. -/
def tsnmapRowWrong : ChangeSpec := { name := "tsnmapRow", fn := fun _ => fun
  | [d1, d2, d3] => { results := [.lit (.bool false)], args := [d1, d2, d3] }
  | _ => none }
def TsnmapRowWrongFalsely : Prop := tsnmapRowRow.holds Try.pinned (OpenSpec.ofChange tsnmapRowWrong)

/-- 'fairleadlaw15.TsnmapNil': WHATEVER THE INPUT: true; the input reads as it did. -/
def tsnmapNilSpec : ChangeSpec := { name := "tsnmapNil", fn := fun _ => fun
  | [d1, d2] => { results := [.lit (.bool true)], args := [d1, d2] }
  | _ => none }
def tsnmapNilRow : OpenClaim := { program := "ytkbdfhfbhgaecaa", sum := "d6bd9eceb60002dd1ff9d9b127438b1c67f88e0b3a16ba49b9832f7d057df75d", func := "fairlead/fairleadlaw15.TsnmapNil", spec := "tsnmapNil", unfollowed := true, recurses := true, apart := false }
def TsnmapNilSaid : Prop := tsnmapNilRow.holds Try.pinned (OpenSpec.ofChange tsnmapNilSpec)

/-- ITS FALSE NEIGHBOUR: 'it returns false'. Refute it at one input. -/
def tsnmapNilWrong : ChangeSpec := { name := "tsnmapNil", fn := fun _ => fun
  | [d1, d2] => { results := [.lit (.bool false)], args := [d1, d2] }
  | _ => none }
def TsnmapNilWrongFalsely : Prop := tsnmapNilRow.holds Try.pinned (OpenSpec.ofChange tsnmapNilWrong)

/- THE SECOND FORM. 'bulk': how many values and letters a reading holds, each counted each time it is reached (what is shared counts as often as it is met; a slice's spare places count too). A statement '..UptoSaid' is the law's where the arguments, and the package variables that the reading takes, are together of bulk at most 1048576: NARROWER than '..Said'. Prove '..Said' where nothing that the law and all that it calls make is longer than what came in: it says more and counts as full. Else prove '..UptoSaid'. A law counts once. -/
mutual
def uptoBulk {H : Type} : DataW H → Nat
  | .lit (.string bytes) => bytes.length + 1
  | .lit _ => 1
  | .nil => 1
  | .ptr d => uptoBulk d + 1
  | .slice elems spare => uptoBulkAll elems + uptoBulkAll spare + 1
  | .agg parts => uptoBulkAll parts + 1
  | .iface _ d => uptoBulk d + 1
  | .map entries => uptoBulkEntries entries + 1
  | .held _ => 1
def uptoBulkAll {H : Type} : List (DataW H) → Nat
  | [] => 0
  | d :: r => uptoBulk d + uptoBulkAll r
def uptoBulkEntries {H : Type} : List (Lit × DataW H) → Nat
  | [] => 0
  | x :: r => uptoBulkEntry x + uptoBulkEntries r
def uptoBulkEntry {H : Type} : Lit × DataW H → Nat
  | (.string bytes, d) => bytes.length + uptoBulk d + 1
  | (_, d) => uptoBulk d + 1
 end
def uptoSmall : (H : Type) → List (DataW H) → Bool := fun _ ds => decide (uptoBulkAll ds ≤ 1048576)
def OpenSpec.upto (s : _root_.Go.ChangeSpec) : _root_.Go.OpenSpec := { _root_.Go.OpenSpec.ofChange s with cond := some uptoSmall }

/-- 'fairleadlaw15.TsnmapPlays', WHERE WHAT IT READS IS OF BULK AT MOST 1048576: true; the input reads as it did. -/
def tsnmapPlaysUptoRow : OpenClaim := { program := "ytkbdfhfbhgaecaa", sum := "d6bd9eceb60002dd1ff9d9b127438b1c67f88e0b3a16ba49b9832f7d057df75d", func := "fairlead/fairleadlaw15.TsnmapPlays", spec := "tsnmapPlays", unfollowed := true, recurses := true, apart := false, narrowed := true }
def TsnmapPlaysUptoSaid : Prop := tsnmapPlaysUptoRow.holds Try.pinned (OpenSpec.upto tsnmapPlaysSpec)

/-- 'fairleadlaw15.TsnmapOrder', WHERE WHAT IT READS IS OF BULK AT MOST 1048576: true; the input reads as it did. -/
def tsnmapOrderUptoRow : OpenClaim := { program := "ytkbdfhfbhgaecaa", sum := "d6bd9eceb60002dd1ff9d9b127438b1c67f88e0b3a16ba49b9832f7d057df75d", func := "fairlead/fairleadlaw15.TsnmapOrder", spec := "tsnmapOrder", unfollowed := true, recurses := true, apart := false, narrowed := true }
def TsnmapOrderUptoSaid : Prop := tsnmapOrderUptoRow.holds Try.pinned (OpenSpec.upto tsnmapOrderSpec)

/-- 'fairleadlaw15.TsnmapRuns', WHERE WHAT IT READS IS OF BULK AT MOST 1048576: true; the input reads as it did. -/
def tsnmapRunsUptoRow : OpenClaim := { program := "ytkbdfhfbhgaecaa", sum := "d6bd9eceb60002dd1ff9d9b127438b1c67f88e0b3a16ba49b9832f7d057df75d", func := "fairlead/fairleadlaw15.TsnmapRuns", spec := "tsnmapRuns", unfollowed := true, recurses := true, apart := false, narrowed := true }
def TsnmapRunsUptoSaid : Prop := tsnmapRunsUptoRow.holds Try.pinned (OpenSpec.upto tsnmapRunsSpec)

/-- 'fairleadlaw15.TsnmapOn', WHERE WHAT IT READS IS OF BULK AT MOST 1048576: true; the input reads as it did. -/
def tsnmapOnUptoRow : OpenClaim := { program := "ytkbdfhfbhgaecaa", sum := "d6bd9eceb60002dd1ff9d9b127438b1c67f88e0b3a16ba49b9832f7d057df75d", func := "fairlead/fairleadlaw15.TsnmapOn", spec := "tsnmapOn", unfollowed := true, recurses := true, apart := false, narrowed := true }
def TsnmapOnUptoSaid : Prop := tsnmapOnUptoRow.holds Try.pinned (OpenSpec.upto tsnmapOnSpec)

/-- 'fairleadlaw15.TsnmapRow', WHERE WHAT IT READS IS OF BULK AT MOST 1048576: true; the input reads as it did. -/
def tsnmapRowUptoRow : OpenClaim := { program := "ytkbdfhfbhgaecaa", sum := "d6bd9eceb60002dd1ff9d9b127438b1c67f88e0b3a16ba49b9832f7d057df75d", func := "fairlead/fairleadlaw15.TsnmapRow", spec := "tsnmapRow", unfollowed := true, recurses := true, apart := false, narrowed := true }
def TsnmapRowUptoSaid : Prop := tsnmapRowUptoRow.holds Try.pinned (OpenSpec.upto tsnmapRowSpec)

/-- 'fairleadlaw15.TsnmapNil', WHERE WHAT IT READS IS OF BULK AT MOST 1048576: true; the input reads as it did. -/
def tsnmapNilUptoRow : OpenClaim := { program := "ytkbdfhfbhgaecaa", sum := "d6bd9eceb60002dd1ff9d9b127438b1c67f88e0b3a16ba49b9832f7d057df75d", func := "fairlead/fairleadlaw15.TsnmapNil", spec := "tsnmapNil", unfollowed := true, recurses := true, apart := false, narrowed := true }
def TsnmapNilUptoSaid : Prop := tsnmapNilUptoRow.holds Try.pinned (OpenSpec.upto tsnmapNilSpec)

end Rows
end Go.Proofs.Ytkbdfhfbhgaecaa
