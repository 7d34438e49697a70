/- A run of the program: calls. No conditions: numbers, and what the kernel reckons. -/
import Derived.Test.YtpiabbfckfoppaaGreatDoorKaC
import Derived.Test.YtpiabbfckfoppaaGreatDoorKaFaa
namespace Go.Ev.Ka
open Go Go.Sl Go.Ev
noncomputable def e0 : Ent := ⟨13, [(.agg ⟨(ni [2,128,2,65536,65536,1000,3,1,60,5,100,10,2,5])⟩)], st0, (vp 81 0), st1⟩
theorem e0_chk : chkE hk prg 3000 e0 = true := by kernel_rfl
theorem e0_ok : EntOk prg e0 := ⟨hk, 3000, hk_ok, e0_chk⟩
noncomputable def e1 : Ent := ⟨20, (co [[(vp 80 0)], (ni [0]), [(.bool false)], (n3 [2,20])]), st1, (.int .i64 0), st2⟩
theorem e1_chk : chkE hk prg 3000 e1 = true := by kernel_rfl
theorem e1_ok : EntOk prg e1 := ⟨hk, 3000, hk_ok, e1_chk⟩
noncomputable def e2 : Ent := ⟨20, (co [[(vp 42 0)], (ni [0]), [(.bool true)], (n3 [1,10])]), st2, (.int .i64 0), st3⟩
theorem e2_chk : chkE hk prg 3000 e2 = true := by kernel_rfl
theorem e2_ok : EntOk prg e2 := ⟨hk, 3000, hk_ok, e2_chk⟩
noncomputable def hk6 : HK := orF (hkE [i3, i4, i5]) hk
theorem hk6_ok : FFok prg hk6 := orF_ok (hkE_ok (List.forall_mem_cons.2 ⟨⟨hk, 3000, hk_ok, i3_ok⟩, List.forall_mem_cons.2 ⟨⟨hk, 3000, hk_ok, i4_ok⟩, List.forall_mem_cons.2 ⟨⟨hk, 3000, hk_ok, i5_ok⟩, List.forall_mem_nil _⟩⟩⟩)) hk_ok
noncomputable def e6 : Ent := ⟨17, (co [[(vp 81 0)], (n6 [0]), (ni [0])]), st3, (.int .i64 1), st10⟩
theorem e6_chk : chkE hk6 prg 3000 e6 = true := by kernel_rfl
theorem e6_ok : EntOk prg e6 := ⟨hk6, 3000, hk6_ok, e6_chk⟩
end Go.Ev.Ka
