/- A run of the program: its end. No conditions: numbers, and what the kernel reckons. -/
import Derived.Test.YtjeppdmaempkgaaGreatDoorKsDaa
import Derived.Test.YtjeppdmaempkgaaGreatDoorKsDab
namespace Go.Ev.Ks
open Go Go.Sl Go.Ev
noncomputable def hkm : HK := orF (hkE [e0, e1, e2, e7, e8, e10, e11]) hk
theorem hkm_ok : FFok prg hkm := orF_ok (hkE_ok (List.forall_mem_cons.2 ⟨e0_ok, List.forall_mem_cons.2 ⟨e1_ok, List.forall_mem_cons.2 ⟨e2_ok, List.forall_mem_cons.2 ⟨e7_ok, List.forall_mem_cons.2 ⟨e8_ok, List.forall_mem_cons.2 ⟨e10_ok, List.forall_mem_cons.2 ⟨e11_ok, List.forall_mem_nil _⟩⟩⟩⟩⟩⟩⟩)) hk_ok
end Go.Ev.Ks
