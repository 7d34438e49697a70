/- The document's guess of an event from a line's words, and its Read, walked. Conditions: the words lie in memory; lengths within bounds. -/
import Derived.Test.YtjcekmiengnglaaGreatDoorSuC
namespace Go.Proofs.YtjcekmiengnglaaGreatDoor
open Go Go.Sl Go.Scr

end Go.Proofs.YtjcekmiengnglaaGreatDoor
