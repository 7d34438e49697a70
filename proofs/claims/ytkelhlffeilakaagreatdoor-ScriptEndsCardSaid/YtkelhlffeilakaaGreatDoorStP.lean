/- Two answers compared, walked; the law ScriptAnswers, walked. Conditions: what the answers are in memory, and what the law's run answers. -/
import Derived.Test.YtkelhlffeilakaaGreatDoorStO
namespace Go.Proofs.YtkelhlffeilakaaGreatDoor
open Go Go.Sl Go.Scr

/-- the law's run, whatever else is in memory -/
def WorksOk (F : Nat → Option Obj) : Prop := ∀ Hr : HL, (∀ p ∈ Hr, F p.1 = none) → Tr Tryz.prog 8 ([] : List Value).toArray (addF F Hr) [] (fun v _ => v = .bool true)
end Go.Proofs.YtkelhlffeilakaaGreatDoor
