/- A run of the program: its end. No conditions: numbers, and what the kernel reckons. -/
import Derived.Test.YtpiabbfckfoppaaGreatDoorKaDaa
import Derived.Test.YtpiabbfckfoppaaGreatDoorKaDab
import Derived.Test.YtpiabbfckfoppaaGreatDoorKaDac
import Derived.Test.YtpiabbfckfoppaaGreatDoorKaDad
import Derived.Test.YtpiabbfckfoppaaGreatDoorKaDae
import Derived.Test.YtpiabbfckfoppaaGreatDoorKaDaf
namespace Go.Ev.Ka
open Go Go.Sl Go.Ev
noncomputable def hkm : HK := orF (hkE [e0, e1, e2, e6, e7, e8, e9, e10, e11, e12, e13, e14, e15, e16, e17, e18, e19, e26, e27, e28, e29, e30, e31, e32]) hk
theorem hkm_ok : FFok prg hkm := orF_ok (hkE_ok (List.forall_mem_cons.2 ⟨e0_ok, List.forall_mem_cons.2 ⟨e1_ok, List.forall_mem_cons.2 ⟨e2_ok, List.forall_mem_cons.2 ⟨e6_ok, List.forall_mem_cons.2 ⟨e7_ok, List.forall_mem_cons.2 ⟨e8_ok, List.forall_mem_cons.2 ⟨e9_ok, List.forall_mem_cons.2 ⟨e10_ok, List.forall_mem_cons.2 ⟨e11_ok, List.forall_mem_cons.2 ⟨e12_ok, List.forall_mem_cons.2 ⟨e13_ok, List.forall_mem_cons.2 ⟨e14_ok, List.forall_mem_cons.2 ⟨e15_ok, List.forall_mem_cons.2 ⟨e16_ok, List.forall_mem_cons.2 ⟨e17_ok, List.forall_mem_cons.2 ⟨e18_ok, List.forall_mem_cons.2 ⟨e19_ok, List.forall_mem_cons.2 ⟨e26_ok, List.forall_mem_cons.2 ⟨e27_ok, List.forall_mem_cons.2 ⟨e28_ok, List.forall_mem_cons.2 ⟨e29_ok, List.forall_mem_cons.2 ⟨e30_ok, List.forall_mem_cons.2 ⟨e31_ok, List.forall_mem_cons.2 ⟨e32_ok, List.forall_mem_nil _⟩⟩⟩⟩⟩⟩⟩⟩⟩⟩⟩⟩⟩⟩⟩⟩⟩⟩⟩⟩⟩⟩⟩⟩)) hk_ok
theorem run_ok : isT (runF hkm prg 3000 5 [] (mkS glb 2 2)) = true := by kernel_rfl
end Go.Ev.Ka
