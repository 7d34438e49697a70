/- A run of the program: its end. No conditions: numbers, and what the kernel reckons. -/
import Derived.Test.YtlbbgmlmndbecaaGreatDoorKnDaa
import Derived.Test.YtlbbgmlmndbecaaGreatDoorKnDab
namespace Go.Ev.Kn
open Go Go.Sl Go.Ev
noncomputable def hkm : HK := orF (hkE [e0, e1, e2, e3, e4, e5]) hk
theorem hkm_ok : FFok prg hkm := orF_ok (hkE_ok (List.forall_mem_cons.2 ⟨e0_ok, List.forall_mem_cons.2 ⟨e1_ok, List.forall_mem_cons.2 ⟨e2_ok, List.forall_mem_cons.2 ⟨e3_ok, List.forall_mem_cons.2 ⟨e4_ok, List.forall_mem_cons.2 ⟨e5_ok, List.forall_mem_nil _⟩⟩⟩⟩⟩⟩)) hk_ok
theorem run_ok : isT (runF hkm prg 3000 11 [] (mkS glb 2 2)) = true := by kernel_rfl
end Go.Ev.Kn
