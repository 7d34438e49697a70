/-
  No cell of these rows narrows 'for every input' (looked for: loops, veiled, ifaces, maps, wideKeys, modest, calm, conditions, laid).
  DERIVED. THE GIVEN ROWS OF THIS SEAT. 6 by the template 'for every input the law returns true; each argument reads behind the call as it read before'; 0 by the template 'total and deterministic' (their statements: YtokbkocjddcklaaTotals.lean).
  GIVEN WITH THE SEED: the statements are not yours to turn. If you find one false, say at which input.
  Laid BY PROGRAM, IN A SANDBOX (cutbox-rows.mjs): the forced cells as the released guide's own fill.sh prints them over the translation c375887fb823ec63… (all of the seat's roots in one cut). By AI agents, Wed Nov 11 2026. No macro, syntax, notation, axiom, sorry.
-/
import Derived.Test.YtokbkocjddcklaaChecked
import GoSem.Claim
import GoSem.ClaimJoined
import GoSem.ClaimMapViews
import Derived.JoinedTies
import Derived.KernelRfl
namespace Go.Proofs.Ytokbkocjddcklaa
/- THE CELL 'sum', in the pinned program and in every row, IS THE sha256 OF THE DUMP (.gsa) THAT YtokbkocjddcklaaProg.lean LOADS. Nothing in Lean hashes anything: it is a label: what it is worth is what the hold of that sum in a sandbox is worth. -/
noncomputable def Try.pinned : Pinned := { name := "ytokbkocjddcklaa", sum := "c375887fb823ec63c68e4f32088167a34a2c582744031bdde68f0d23d36bcc53", checked := Try.checked }
namespace Rows
def none {H : Type} : Left H := { results := [], args := [] }

/-- 'fairleadlaw18.ReasmHeld': WHATEVER THE INPUT: true; the input reads as it did. -/
def reasmHeldSpec : ChangeSpec := { name := "reasmHeld", fn := fun _ => fun
  | [d1, d2] => { results := [.lit (.bool true)], args := [d1, d2] }
  | _ => none }
def reasmHeldRow : OpenClaim := { program := "ytokbkocjddcklaa", sum := "c375887fb823ec63c68e4f32088167a34a2c582744031bdde68f0d23d36bcc53", func := "fairlead/fairleadlaw18.ReasmHeld", spec := "reasmHeld", apart := false }
def ReasmHeldSaid : Prop := reasmHeldRow.holds Try.pinned (OpenSpec.ofChange reasmHeldSpec)

/-- ITS FALSE NEIGHBOUR: 'it returns false'. Refute it at one input. -/
def reasmHeldWrong : ChangeSpec := { name := "reasmHeld", fn := fun _ => fun
  | [d1, d2] => { results := [.lit (.bool false)], args := [d1, d2] }
  | _ => none }
def ReasmHeldWrongFalsely : Prop := reasmHeldRow.holds Try.pinned (OpenSpec.ofChange reasmHeldWrong)

/-- 'fairleadlaw18.ReasmPlays': WHATEVER THE INPUT: true; the input reads as it did. -/
def reasmPlaysSpec : ChangeSpec := { name := "reasmPlays", fn := fun _ => fun
  | [d1, d2] => { results := [.lit (.bool true)], args := [d1, d2] }
  | _ => none }
def reasmPlaysRow : OpenClaim := { program := "ytokbkocjddcklaa", sum := "c375887fb823ec63c68e4f32088167a34a2c582744031bdde68f0d23d36bcc53", func := "fairlead/fairleadlaw18.ReasmPlays", spec := "reasmPlays", apart := false }
def ReasmPlaysSaid : Prop := reasmPlaysRow.holds Try.pinned (OpenSpec.ofChange reasmPlaysSpec)

/-- ITS FALSE NEIGHBOUR: 'it returns false'. Refute it at one input. -/
def reasmPlaysWrong : ChangeSpec := { name := "reasmPlays", fn := fun _ => fun
  | [d1, d2] => { results := [.lit (.bool false)], args := [d1, d2] }
  | _ => none }
def ReasmPlaysWrongFalsely : Prop := reasmPlaysRow.holds Try.pinned (OpenSpec.ofChange reasmPlaysWrong)

/-- 'fairleadlaw18.ReasmOrder': WHATEVER THE INPUT: true; the input reads as it did. -/
def reasmOrderSpec : ChangeSpec := { name := "reasmOrder", fn := fun _ => fun
  | [d1, d2, d3] => { results := [.lit (.bool true)], args := [d1, d2, d3] }
  | _ => none }
def reasmOrderRow : OpenClaim := { program := "ytokbkocjddcklaa", sum := "c375887fb823ec63c68e4f32088167a34a2c582744031bdde68f0d23d36bcc53", func := "fairlead/fairleadlaw18.ReasmOrder", spec := "reasmOrder", apart := false }
def ReasmOrderSaid : Prop := reasmOrderRow.holds Try.pinned (OpenSpec.ofChange reasmOrderSpec)

/-- ITS FALSE NEIGHBOUR: 'it returns false'. Refute it at one input. -/
def reasmOrderWrong : ChangeSpec := { name := "reasmOrder", fn := fun _ => fun
  | [d1, d2, d3] => { results := [.lit (.bool false)], args := [d1, d2, d3] }
  | _ => none }
def ReasmOrderWrongFalsely : Prop := reasmOrderRow.holds Try.pinned (OpenSpec.ofChange reasmOrderWrong)

/-- 'fairleadlaw18.ReasmSoon': WHATEVER THE INPUT: true; the input reads as it did. -/
def reasmSoonSpec : ChangeSpec := { name := "reasmSoon", fn := fun _ => fun
  | [d1, d2, d3] => { results := [.lit (.bool true)], args := [d1, d2, d3] }
  | _ => none }
def reasmSoonRow : OpenClaim := { program := "ytokbkocjddcklaa", sum := "c375887fb823ec63c68e4f32088167a34a2c582744031bdde68f0d23d36bcc53", func := "fairlead/fairleadlaw18.ReasmSoon", spec := "reasmSoon", apart := false }
def ReasmSoonSaid : Prop := reasmSoonRow.holds Try.pinned (OpenSpec.ofChange reasmSoonSpec)

/-- ITS FALSE NEIGHBOUR: 'it returns false'. Refute it at one input. -/
def reasmSoonWrong : ChangeSpec := { name := "reasmSoon", fn := fun _ => fun
  | [d1, d2, d3] => { results := [.lit (.bool false)], args := [d1, d2, d3] }
  | _ => none }
def ReasmSoonWrongFalsely : Prop := reasmSoonRow.holds Try.pinned (OpenSpec.ofChange reasmSoonWrong)

/-- 'fairleadlaw18.ReasmSkips': WHATEVER THE INPUT: true; the input reads as it did. -/
def reasmSkipsSpec : ChangeSpec := { name := "reasmSkips", fn := fun _ => fun
  | [d1, d2, d3, d4] => { results := [.lit (.bool true)], args := [d1, d2, d3, d4] }
  | _ => none }
def reasmSkipsRow : OpenClaim := { program := "ytokbkocjddcklaa", sum := "c375887fb823ec63c68e4f32088167a34a2c582744031bdde68f0d23d36bcc53", func := "fairlead/fairleadlaw18.ReasmSkips", spec := "reasmSkips", apart := false }
def ReasmSkipsSaid : Prop := reasmSkipsRow.holds Try.pinned (OpenSpec.ofChange reasmSkipsSpec)

/-- ITS FALSE NEIGHBOUR: 'it returns false'. Refute it at one input. -/
def reasmSkipsWrong : ChangeSpec := { name := "reasmSkips", fn := fun _ => fun
  | [d1, d2, d3, d4] => { results := [.lit (.bool false)], args := [d1, d2, d3, d4] }
  | _ => none }
def ReasmSkipsWrongFalsely : Prop := reasmSkipsRow.holds Try.pinned (OpenSpec.ofChange reasmSkipsWrong)

/-- 'fairleadlaw18.ReasmNil': WHATEVER THE INPUT: true; the input reads as it did. -/
def reasmNilSpec : ChangeSpec := { name := "reasmNil", fn := fun _ => fun
  | [d] => { results := [.lit (.bool true)], args := [d] }
  | _ => none }
def reasmNilRow : OpenClaim := { program := "ytokbkocjddcklaa", sum := "c375887fb823ec63c68e4f32088167a34a2c582744031bdde68f0d23d36bcc53", func := "fairlead/fairleadlaw18.ReasmNil", spec := "reasmNil", apart := false }
def ReasmNilSaid : Prop := reasmNilRow.holds Try.pinned (OpenSpec.ofChange reasmNilSpec)

/-- ITS FALSE NEIGHBOUR: 'it returns false'. Refute it at one input. -/
def reasmNilWrong : ChangeSpec := { name := "reasmNil", fn := fun _ => fun
  | [d] => { results := [.lit (.bool false)], args := [d] }
  | _ => none }
def ReasmNilWrongFalsely : Prop := reasmNilRow.holds Try.pinned (OpenSpec.ofChange reasmNilWrong)

/- THE SECOND FORM. 'bulk': how many values and letters a reading holds, each counted each time it is reached (what is shared counts as often as it is met; a slice's spare places count too). A statement '..UptoSaid' is the law's where the arguments, and the package variables that the reading takes, are together of bulk at most 1048576: NARROWER than '..Said'. Prove '..Said' where nothing that the law and all that it calls make is longer than what came in: it says more and counts as full. Else prove '..UptoSaid'. A law counts once. -/
mutual
def uptoBulk {H : Type} : DataW H → Nat
  | .lit (.string bytes) => bytes.length + 1
  | .lit _ => 1
  | .nil => 1
  | .ptr d => uptoBulk d + 1
  | .slice elems spare => uptoBulkAll elems + uptoBulkAll spare + 1
  | .agg parts => uptoBulkAll parts + 1
  | .iface _ d => uptoBulk d + 1
  | .map entries => uptoBulkEntries entries + 1
  | .held _ => 1
def uptoBulkAll {H : Type} : List (DataW H) → Nat
  | [] => 0
  | d :: r => uptoBulk d + uptoBulkAll r
def uptoBulkEntries {H : Type} : List (Lit × DataW H) → Nat
  | [] => 0
  | x :: r => uptoBulkEntry x + uptoBulkEntries r
def uptoBulkEntry {H : Type} : Lit × DataW H → Nat
  | (.string bytes, d) => bytes.length + uptoBulk d + 1
  | (_, d) => uptoBulk d + 1
 end
def uptoSmall : (H : Type) → List (DataW H) → Bool := fun _ ds => decide (uptoBulkAll ds ≤ 1048576)
def OpenSpec.upto (s : _root_.Go.ChangeSpec) : _root_.Go.OpenSpec := { _root_.Go.OpenSpec.ofChange s with cond := some uptoSmall }

/-- 'fairleadlaw18.ReasmHeld', WHERE WHAT IT READS IS OF BULK AT MOST 1048576: true; the input reads as it did. -/
def reasmHeldUptoRow : OpenClaim := { program := "ytokbkocjddcklaa", sum := "c375887fb823ec63c68e4f32088167a34a2c582744031bdde68f0d23d36bcc53", func := "fairlead/fairleadlaw18.ReasmHeld", spec := "reasmHeld", apart := false, narrowed := true }
def ReasmHeldUptoSaid : Prop := reasmHeldUptoRow.holds Try.pinned (OpenSpec.upto reasmHeldSpec)

/-- 'fairleadlaw18.ReasmPlays', WHERE WHAT IT READS IS OF BULK AT MOST 1048576: true; the input reads as it did. -/
def reasmPlaysUptoRow : OpenClaim := { program := "ytokbkocjddcklaa", sum := "c375887fb823ec63c68e4f32088167a34a2c582744031bdde68f0d23d36bcc53", func := "fairlead/fairleadlaw18.ReasmPlays", spec := "reasmPlays", apart := false, narrowed := true }
def ReasmPlaysUptoSaid : Prop := reasmPlaysUptoRow.holds Try.pinned (OpenSpec.upto reasmPlaysSpec)

/-- 'fairleadlaw18.ReasmOrder', WHERE WHAT IT READS IS OF BULK AT MOST 1048576: true; the input reads as it did. -/
def reasmOrderUptoRow : OpenClaim := { program := "ytokbkocjddcklaa", sum := "c375887fb823ec63c68e4f32088167a34a2c582744031bdde68f0d23d36bcc53", func := "fairlead/fairleadlaw18.ReasmOrder", spec := "reasmOrder", apart := false, narrowed := true }
def ReasmOrderUptoSaid : Prop := reasmOrderUptoRow.holds Try.pinned (OpenSpec.upto reasmOrderSpec)

/-- 'fairleadlaw18.ReasmSoon', WHERE WHAT IT READS IS OF BULK AT MOST 1048576: true; the input reads as it did. -/
def reasmSoonUptoRow : OpenClaim := { program := "ytokbkocjddcklaa", sum := "c375887fb823ec63c68e4f32088167a34a2c582744031bdde68f0d23d36bcc53", func := "fairlead/fairleadlaw18.ReasmSoon", spec := "reasmSoon", apart := false, narrowed := true }
def ReasmSoonUptoSaid : Prop := reasmSoonUptoRow.holds Try.pinned (OpenSpec.upto reasmSoonSpec)

/-- 'fairleadlaw18.ReasmSkips', WHERE WHAT IT READS IS OF BULK AT MOST 1048576: true; the input reads as it did. -/
def reasmSkipsUptoRow : OpenClaim := { program := "ytokbkocjddcklaa", sum := "c375887fb823ec63c68e4f32088167a34a2c582744031bdde68f0d23d36bcc53", func := "fairlead/fairleadlaw18.ReasmSkips", spec := "reasmSkips", apart := false, narrowed := true }
def ReasmSkipsUptoSaid : Prop := reasmSkipsUptoRow.holds Try.pinned (OpenSpec.upto reasmSkipsSpec)

/-- 'fairleadlaw18.ReasmNil', WHERE WHAT IT READS IS OF BULK AT MOST 1048576: true; the input reads as it did. -/
def reasmNilUptoRow : OpenClaim := { program := "ytokbkocjddcklaa", sum := "c375887fb823ec63c68e4f32088167a34a2c582744031bdde68f0d23d36bcc53", func := "fairlead/fairleadlaw18.ReasmNil", spec := "reasmNil", apart := false, narrowed := true }
def ReasmNilUptoSaid : Prop := reasmNilUptoRow.holds Try.pinned (OpenSpec.upto reasmNilSpec)

end Rows
end Go.Proofs.Ytokbkocjddcklaa
