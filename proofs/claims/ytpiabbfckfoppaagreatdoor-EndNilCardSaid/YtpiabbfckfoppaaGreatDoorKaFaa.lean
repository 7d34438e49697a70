/- A run of the program: calls within a call. No conditions: numbers, and what the kernel reckons. -/
import Derived.Test.YtpiabbfckfoppaaGreatDoorKaC
namespace Go.Ev.Ka
open Go Go.Sl Go.Ev
noncomputable def i3 : Ent := ⟨38, [(vs 194 0 32 0)], st4, (.tuple ⟨(co [[(.agg ⟨(co [(n3 [0]), [(vs 222 0 1 0)]])⟩)], (ni [0])])⟩), st5⟩
theorem i3_ok : chkE hk prg 3000 i3 = true := by kernel_rfl
noncomputable def i4 : Ent := ⟨234, [(vs 48 0 2 0), (.agg ⟨(co [(ni [1]), (n3 [1407703217,1,395733999,10,65536]), (n1 [2,2])])⟩)], st6, (vs 748 0 64 0), st7⟩
theorem i4_ok : chkE hk prg 3000 i4 = true := by kernel_rfl
noncomputable def i5 : Ent := ⟨104, [(.agg ⟨(co [(n3 [1]), [(vs 815 0 1 0)]])⟩)], st8, (vs 861 0 100 0), st9⟩
theorem i5_ok : chkE hk prg 3000 i5 = true := by kernel_rfl
end Go.Ev.Ka
