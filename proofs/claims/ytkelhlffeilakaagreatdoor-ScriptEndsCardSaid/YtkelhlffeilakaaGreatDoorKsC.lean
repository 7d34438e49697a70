/- A run of the program: the calls on one block. No conditions: numbers, and what the kernel reckons. -/
import Derived.Test.YtkelhlffeilakaaGreatDoorKsBaa
import Derived.Test.YtkelhlffeilakaaGreatDoorKsBab
namespace Go.Ev.Ks
open Go Go.Sl Go.Ev
noncomputable def hk : HK := hk1 glb 10 [o0, o1, o2, o3, o4, o5]
theorem hk_ok : FFok prg hk := hk1_ok (by kernel_rfl) (List.forall_mem_cons.2 ⟨⟨noF, 3000, noF_ok, o0_ok⟩, List.forall_mem_cons.2 ⟨⟨noF, 3000, noF_ok, o1_ok⟩, List.forall_mem_cons.2 ⟨⟨noF, 3000, noF_ok, o2_ok⟩, List.forall_mem_cons.2 ⟨⟨noF, 3000, noF_ok, o3_ok⟩, List.forall_mem_cons.2 ⟨⟨noF, 3000, noF_ok, o4_ok⟩, List.forall_mem_cons.2 ⟨⟨noF, 3000, noF_ok, o5_ok⟩, List.forall_mem_nil _⟩⟩⟩⟩⟩⟩)
end Go.Ev.Ks
