/-
  No cell of these rows narrows 'for every input' (looked for: loops, veiled, ifaces, maps, wideKeys, modest, calm, conditions, laid).
  DERIVED. THE GIVEN ROWS OF THIS SEAT. 4 by the template 'for every input the law returns true; each argument reads behind the call as it read before'; 0 by the template 'total and deterministic' (their statements: YthjglhdjlmjffaaTotals.lean).
  GIVEN WITH THE SEED: the statements are not yours to turn. If you find one false, say at which input.
  Laid BY PROGRAM, IN A SANDBOX (cutbox-rows.mjs): the forced cells as the released guide's own fill.sh prints them over the translation ccbe52e0b6f25796… (all of the seat's roots in one cut). By AI agents, Wed Nov 11 2026. No macro, syntax, notation, axiom, sorry.
-/
import Derived.Test.YthjglhdjlmjffaaChecked
import GoSem.Claim
import GoSem.ClaimJoined
import GoSem.ClaimMapViews
import Derived.JoinedTies
import Derived.KernelRfl
namespace Go.Proofs.Ythjglhdjlmjffaa
/- THE CELL 'sum', in the pinned program and in every row, IS THE sha256 OF THE DUMP (.gsa) THAT YthjglhdjlmjffaaProg.lean LOADS. Nothing in Lean hashes anything: it is a label: what it is worth is what the hold of that sum in a sandbox is worth. -/
noncomputable def Try.pinned : Pinned := { name := "ythjglhdjlmjffaa", sum := "ccbe52e0b6f25796045855d99841a74c9885c4ad6e3c2dc002083e4a18710223", checked := Try.checked }
namespace Rows
def none {H : Type} : Left H := { results := [], args := [] }

/-- 'fairleadlaw19.RecvqOnce': WHATEVER THE INPUT: true; the input reads as it did. -/
def recvqOnceSpec : ChangeSpec := { name := "recvqOnce", fn := fun _ => fun
  | [d1, d2, d3] => { results := [.lit (.bool true)], args := [d1, d2, d3] }
  | _ => none }
def recvqOnceRow : OpenClaim := { program := "ythjglhdjlmjffaa", sum := "ccbe52e0b6f25796045855d99841a74c9885c4ad6e3c2dc002083e4a18710223", func := "fairlead/fairleadlaw19.RecvqOnce", spec := "recvqOnce", unfollowed := true, recurses := true, apart := false }
def RecvqOnceSaid : Prop := recvqOnceRow.holds Try.pinned (OpenSpec.ofChange recvqOnceSpec)

/-- ITS FALSE NEIGHBOUR: 'it returns false'. Refute it at one input. -/
def recvqOnceWrong : ChangeSpec := { name := "recvqOnce", fn := fun _ => fun
  | [d1, d2, d3] => { results := [.lit (.bool false)], args := [d1, d2, d3] }
  | _ => none }
def RecvqOnceWrongFalsely : Prop := recvqOnceRow.holds Try.pinned (OpenSpec.ofChange recvqOnceWrong)

/-- 'fairleadlaw19.RecvqSoon': WHATEVER THE INPUT: true; the input reads as it did. -/
def recvqSoonSpec : ChangeSpec := { name := "recvqSoon", fn := fun _ => fun
  | [d1, d2] => { results := [.lit (.bool true)], args := [d1, d2] }
  | _ => none }
def recvqSoonRow : OpenClaim := { program := "ythjglhdjlmjffaa", sum := "ccbe52e0b6f25796045855d99841a74c9885c4ad6e3c2dc002083e4a18710223", func := "fairlead/fairleadlaw19.RecvqSoon", spec := "recvqSoon", unfollowed := true, recurses := true, apart := false }
def RecvqSoonSaid : Prop := recvqSoonRow.holds Try.pinned (OpenSpec.ofChange recvqSoonSpec)

/-- ITS FALSE NEIGHBOUR: 'it returns false'. Refute it at one input. -/
def recvqSoonWrong : ChangeSpec := { name := "recvqSoon", fn := fun _ => fun
  | [d1, d2] => { results := [.lit (.bool false)], args := [d1, d2] }
  | _ => none }
def RecvqSoonWrongFalsely : Prop := recvqSoonRow.holds Try.pinned (OpenSpec.ofChange recvqSoonWrong)

/-- 'fairleadlaw19.RecvqRoom': WHATEVER THE INPUT: true; the input reads as it did. -/
def recvqRoomSpec : ChangeSpec := { name := "recvqRoom", fn := fun _ => fun
  | [d1, d2, d3] => { results := [.lit (.bool true)], args := [d1, d2, d3] }
  | _ => none }
def recvqRoomRow : OpenClaim := { program := "ythjglhdjlmjffaa", sum := "ccbe52e0b6f25796045855d99841a74c9885c4ad6e3c2dc002083e4a18710223", func := "fairlead/fairleadlaw19.RecvqRoom", spec := "recvqRoom", unfollowed := true, recurses := true, apart := false }
def RecvqRoomSaid : Prop := recvqRoomRow.holds Try.pinned (OpenSpec.ofChange recvqRoomSpec)

/-- ITS FALSE NEIGHBOUR: 'it returns false'. Refute it at one input. -/
def recvqRoomWrong : ChangeSpec := { name := "recvqRoom", fn := fun _ => fun
  | [d1, d2, d3] => { results := [.lit (.bool false)], args := [d1, d2, d3] }
  | _ => none }
def RecvqRoomWrongFalsely : Prop := recvqRoomRow.holds Try.pinned (OpenSpec.ofChange recvqRoomWrong)

/-- 'fairleadlaw19.RecvqNil': WHATEVER THE INPUT: true; the input reads as it did. -/
def recvqNilSpec : ChangeSpec := { name := "recvqNil", fn := fun _ => fun
  | [d] => { results := [.lit (.bool true)], args := [d] }
  | _ => none }
def recvqNilRow : OpenClaim := { program := "ythjglhdjlmjffaa", sum := "ccbe52e0b6f25796045855d99841a74c9885c4ad6e3c2dc002083e4a18710223", func := "fairlead/fairleadlaw19.RecvqNil", spec := "recvqNil", unfollowed := true, recurses := true, apart := false }
def RecvqNilSaid : Prop := recvqNilRow.holds Try.pinned (OpenSpec.ofChange recvqNilSpec)

/-- ITS FALSE NEIGHBOUR: 'it returns false'. Refute it at one input. -/
def recvqNilWrong : ChangeSpec := { name := "recvqNil", fn := fun _ => fun
  | [d] => { results := [.lit (.bool false)], args := [d] }
  | _ => none }
def RecvqNilWrongFalsely : Prop := recvqNilRow.holds Try.pinned (OpenSpec.ofChange recvqNilWrong)

/- THE SECOND FORM. 'bulk': how many values and letters a reading holds, each counted each time it is reached (what is shared counts as often as it is met; a slice's spare places count too). A statement '..UptoSaid' is the law's where the arguments, and the package variables that the reading takes, are together of bulk at most 1048576: NARROWER than '..Said'. Prove '..Said' where nothing that the law and all that it calls make is longer than what came in: it says more and counts as full. Else prove '..UptoSaid'. A law counts once. -/
mutual
def uptoBulk {H : Type} : DataW H → Nat
  | .lit (.string bytes) => bytes.length + 1
  | .lit _ => 1
  | .nil => 1
  | .ptr d => uptoBulk d + 1
  | .slice elems spare => uptoBulkAll elems + uptoBulkAll spare + 1
  | .agg parts => uptoBulkAll parts + 1
  | .iface _ d => uptoBulk d + 1
  | .map entries => uptoBulkEntries entries + 1
  | .held _ => 1
def uptoBulkAll {H : Type} : List (DataW H) → Nat
  | [] => 0
  | d :: r => uptoBulk d + uptoBulkAll r
def uptoBulkEntries {H : Type} : List (Lit × DataW H) → Nat
  | [] => 0
  | x :: r => uptoBulkEntry x + uptoBulkEntries r
def uptoBulkEntry {H : Type} : Lit × DataW H → Nat
  | (.string bytes, d) => bytes.length + uptoBulk d + 1
  | (_, d) => uptoBulk d + 1
 end
def uptoSmall : (H : Type) → List (DataW H) → Bool := fun _ ds => decide (uptoBulkAll ds ≤ 1048576)
def OpenSpec.upto (s : _root_.Go.ChangeSpec) : _root_.Go.OpenSpec := { _root_.Go.OpenSpec.ofChange s with cond := some uptoSmall }

/-- 'fairleadlaw19.RecvqOnce', WHERE WHAT IT READS IS OF BULK AT MOST 1048576: true; the input reads as it did. -/
def recvqOnceUptoRow : OpenClaim := { program := "ythjglhdjlmjffaa", sum := "ccbe52e0b6f25796045855d99841a74c9885c4ad6e3c2dc002083e4a18710223", func := "fairlead/fairleadlaw19.RecvqOnce", spec := "recvqOnce", unfollowed := true, recurses := true, apart := false, narrowed := true }
def RecvqOnceUptoSaid : Prop := recvqOnceUptoRow.holds Try.pinned (OpenSpec.upto recvqOnceSpec)

/-- 'fairleadlaw19.RecvqSoon', WHERE WHAT IT READS IS OF BULK AT MOST 1048576: true; the input reads as it did. -/
def recvqSoonUptoRow : OpenClaim := { program := "ythjglhdjlmjffaa", sum := "ccbe52e0b6f25796045855d99841a74c9885c4ad6e3c2dc002083e4a18710223", func := "fairlead/fairleadlaw19.RecvqSoon", spec := "recvqSoon", unfollowed := true, recurses := true, apart := false, narrowed := true }
def RecvqSoonUptoSaid : Prop := recvqSoonUptoRow.holds Try.pinned (OpenSpec.upto recvqSoonSpec)

/-- 'fairleadlaw19.RecvqRoom', WHERE WHAT IT READS IS OF BULK AT MOST 1048576: true; the input reads as it did. -/
def recvqRoomUptoRow : OpenClaim := { program := "ythjglhdjlmjffaa", sum := "ccbe52e0b6f25796045855d99841a74c9885c4ad6e3c2dc002083e4a18710223", func := "fairlead/fairleadlaw19.RecvqRoom", spec := "recvqRoom", unfollowed := true, recurses := true, apart := false, narrowed := true }
def RecvqRoomUptoSaid : Prop := recvqRoomUptoRow.holds Try.pinned (OpenSpec.upto recvqRoomSpec)

/-- 'fairleadlaw19.RecvqNil', WHERE WHAT IT READS IS OF BULK AT MOST 1048576: true; the input reads as it did. -/
def recvqNilUptoRow : OpenClaim := { program := "ythjglhdjlmjffaa", sum := "ccbe52e0b6f25796045855d99841a74c9885c4ad6e3c2dc002083e4a18710223", func := "fairlead/fairleadlaw19.RecvqNil", spec := "recvqNil", unfollowed := true, recurses := true, apart := false, narrowed := true }
def RecvqNilUptoSaid : Prop := recvqNilUptoRow.holds Try.pinned (OpenSpec.upto recvqNilSpec)

end Rows
end Go.Proofs.Ythjglhdjlmjffaa
