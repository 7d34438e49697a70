/- The document's EqBytes, and two states of ends compared. Conditions: the bytes can be read. -/
import Derived.Test.YtkelhlffeilakaaGreatDoorBuD
import Derived.Test.YtkelhlffeilakaaGreatDoorBuC
import Derived.Test.YtkelhlffeilakaaGreatDoorTy
namespace Go.Proofs.YtkelhlffeilakaaGreatDoor
open Go Go.Sl

def st2 (a b : Int) : List Value := [.int .u8 a, .int .u8 b]
section
variable {x : Cx} {env : Env} {dst : Option Tmp} {ty : TypeId} {pos : String} {aft : Array Edge} {gd : Option (Nat × Bool)}
end
end Go.Proofs.YtkelhlffeilakaaGreatDoor
