/- A run of the program: calls. No conditions: numbers, and what the kernel reckons. -/
import Derived.Test.YtpiabbfckfoppaaGreatDoorKaC
import Derived.Test.YtpiabbfckfoppaaGreatDoorKaFab
import Derived.Test.YtpiabbfckfoppaaGreatDoorKaFac
namespace Go.Ev.Ka
open Go Go.Sl Go.Ev
noncomputable def e19 : Ent := ⟨17, (co [[(vp 81 0)], (n6 [0]), (ni [0])]), st22, (.int .i64 2), st23⟩
theorem e19_chk : chkE hk prg 3000 e19 = true := by kernel_rfl
theorem e19_ok : EntOk prg e19 := ⟨hk, 3000, hk_ok, e19_chk⟩
noncomputable def hk26 : HK := orF (hkE [i20, i21, i22, i23, i24, i25]) hk
theorem hk26_ok : FFok prg hk26 := orF_ok (hkE_ok (List.forall_mem_cons.2 ⟨⟨hk, 3000, hk_ok, i20_ok⟩, List.forall_mem_cons.2 ⟨⟨hk, 3000, hk_ok, i21_ok⟩, List.forall_mem_cons.2 ⟨⟨hk, 3000, hk_ok, i22_ok⟩, List.forall_mem_cons.2 ⟨⟨hk, 3000, hk_ok, i23_ok⟩, List.forall_mem_cons.2 ⟨⟨hk, 3000, hk_ok, i24_ok⟩, List.forall_mem_cons.2 ⟨⟨hk, 3000, hk_ok, i25_ok⟩, List.forall_mem_nil _⟩⟩⟩⟩⟩⟩)) hk_ok
noncomputable def e26 : Ent := ⟨17, (co [[(vp 81 0)], (n6 [0]), (ni [0])]), st23, (.int .i64 4), st36⟩
theorem e26_chk : chkE hk26 prg 3000 e26 = true := by kernel_rfl
theorem e26_ok : EntOk prg e26 := ⟨hk26, 3000, hk26_ok, e26_chk⟩
noncomputable def e27 : Ent := ⟨17, (co [[(vp 81 0)], (n6 [0]), (ni [0])]), st36, (.int .i64 2), st37⟩
theorem e27_chk : chkE hk prg 3000 e27 = true := by kernel_rfl
theorem e27_ok : EntOk prg e27 := ⟨hk, 3000, hk_ok, e27_chk⟩
noncomputable def e28 : Ent := ⟨17, (co [[(vp 81 0)], (n6 [0]), (ni [0])]), st37, (.int .i64 0), st38⟩
theorem e28_chk : chkE hk prg 3000 e28 = true := by kernel_rfl
theorem e28_ok : EntOk prg e28 := ⟨hk, 3000, hk_ok, e28_chk⟩
end Go.Ev.Ka
