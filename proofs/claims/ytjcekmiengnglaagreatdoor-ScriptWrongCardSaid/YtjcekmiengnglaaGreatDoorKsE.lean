/- A run of the program: its end. No conditions: numbers, and what the kernel reckons. -/
import Derived.Test.YtjcekmiengnglaaGreatDoorKsDaa
import Derived.Test.YtjcekmiengnglaaGreatDoorKsDab
namespace Go.Ev.Ks
open Go Go.Sl Go.Ev
noncomputable def hkm : HK := orF (hkE [e0, e1, e2, e7, e8, e10, e11]) hk
end Go.Ev.Ks
