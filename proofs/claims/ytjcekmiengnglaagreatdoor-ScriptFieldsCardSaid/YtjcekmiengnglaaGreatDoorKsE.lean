/- A run of the program: its end. No conditions: numbers, and what the kernel reckons. -/
import Derived.Test.YtjcekmiengnglaaGreatDoorKsDaa
import Derived.Test.YtjcekmiengnglaaGreatDoorKsDab
namespace Go.Ev.Ks
open Go Go.Sl Go.Ev
end Go.Ev.Ks
