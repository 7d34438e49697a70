/- A run of the program: calls within a call. No conditions: numbers, and what the kernel reckons. -/
import Derived.Test.YtpiabbfckfoppaaGreatDoorKaC
namespace Go.Ev.Ka
open Go Go.Sl Go.Ev
noncomputable def i20 : Ent := ⟨38, [(vs 3362 0 28 0)], st24, (.tuple ⟨(co [[(.agg ⟨(co [(n3 [1407703217]), [(vs 3390 0 1 0)]])⟩)], (ni [0])])⟩), st25⟩
theorem i20_ok : chkE hk prg 3000 i20 = true := by kernel_rfl
noncomputable def i21 : Ent := ⟨38, [(vs 3485 0 28 0)], st26, (.tuple ⟨(co [[(.agg ⟨(co [(n3 [1407703217]), [(vs 3513 0 1 0)]])⟩)], (ni [0])])⟩), st27⟩
theorem i21_ok : chkE hk prg 3000 i21 = true := by kernel_rfl
noncomputable def i22 : Ent := ⟨38, [(vs 3608 0 28 0)], st28, (.tuple ⟨(co [[(.agg ⟨(co [(n3 [1407703217]), [(vs 3636 0 1 0)]])⟩)], (ni [0])])⟩), st29⟩
theorem i22_ok : chkE hk prg 3000 i22 = true := by kernel_rfl
end Go.Ev.Ka
