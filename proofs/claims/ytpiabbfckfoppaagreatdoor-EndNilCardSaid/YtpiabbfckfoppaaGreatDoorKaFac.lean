/- A run of the program: calls within a call. No conditions: numbers, and what the kernel reckons. -/
import Derived.Test.YtpiabbfckfoppaaGreatDoorKaC
namespace Go.Ev.Ka
open Go Go.Sl Go.Ev
noncomputable def i23 : Ent := ⟨104, [(.agg ⟨(co [(n3 [1]), [(vs 3686 0 1 0)]])⟩)], st30, (vs 3732 0 28 0), st31⟩
theorem i23_ok : chkE hk prg 3000 i23 = true := by kernel_rfl
noncomputable def i24 : Ent := ⟨38, [(vs 3789 0 28 0)], st32, (.tuple ⟨(co [[(.agg ⟨(co [(n3 [1407703217]), [(vs 3817 0 1 0)]])⟩)], (ni [0])])⟩), st33⟩
theorem i24_ok : chkE hk prg 3000 i24 = true := by kernel_rfl
noncomputable def i25 : Ent := ⟨104, [(.agg ⟨(co [(n3 [1]), [(vs 3867 0 1 0)]])⟩)], st34, (vs 3913 0 28 0), st35⟩
theorem i25_ok : chkE hk prg 3000 i25 = true := by kernel_rfl
end Go.Ev.Ka
