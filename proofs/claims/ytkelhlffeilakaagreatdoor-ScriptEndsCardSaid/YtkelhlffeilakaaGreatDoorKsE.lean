/- A run of the program: its end. No conditions: numbers, and what the kernel reckons. -/
import Derived.Test.YtkelhlffeilakaaGreatDoorKsDaa
import Derived.Test.YtkelhlffeilakaaGreatDoorKsDab
namespace Go.Ev.Ks
open Go Go.Sl Go.Ev
end Go.Ev.Ks
