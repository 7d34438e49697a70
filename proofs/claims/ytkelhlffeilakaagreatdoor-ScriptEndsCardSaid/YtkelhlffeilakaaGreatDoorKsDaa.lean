/- A run of the program: calls. No conditions: numbers, and what the kernel reckons. -/
import Derived.Test.YtkelhlffeilakaaGreatDoorKsC
import Derived.Test.YtkelhlffeilakaaGreatDoorKsFaa
import Derived.Test.YtkelhlffeilakaaGreatDoorKsFab
namespace Go.Ev.Ks
open Go Go.Sl Go.Ev
noncomputable def e0 : Ent := ⟨7, [(.agg ⟨(ni [1,128,1,1000,1000,1000,10,5,50,0,100,50,2,4])⟩)], st0, (.tuple ⟨(co [[(vp 11 0)], (ni [0])])⟩), st1⟩
theorem e0_chk : chkE hk prg 3000 e0 = true := by kernel_rfl
theorem e0_ok : EntOk prg e0 := ⟨hk, 3000, hk_ok, e0_chk⟩
noncomputable def e1 : Ent := ⟨17, [(vp 11 0), (.agg ⟨(co [(n8 [1,1]), [(.bool false), (.bool false)], (n1 [0]), (ni [0,0,0]), [s0]])⟩)], st1, (.agg ⟨(co [(ni [0]), (n8 [0,1]), (ni [0]), (n1 [0]), [(.bool false), s0, (.bool false)]])⟩), st2⟩
theorem e1_chk : chkE hk prg 3000 e1 = true := by kernel_rfl
theorem e1_ok : EntOk prg e1 := ⟨hk, 3000, hk_ok, e1_chk⟩
noncomputable def e2 : Ent := ⟨17, [(vp 11 0), (.agg ⟨(co [(n8 [1,0]), [(.bool true), (.bool false)], (n1 [0]), (ni [0,5,0]), [s0]])⟩)], st2, (.agg ⟨(co [(ni [0]), (n8 [2,1]), (ni [0]), (n1 [0]), [(.bool false), s0, (.bool false)]])⟩), st3⟩
theorem e2_chk : chkE hk prg 3000 e2 = true := by kernel_rfl
theorem e2_ok : EntOk prg e2 := ⟨hk, 3000, hk_ok, e2_chk⟩
noncomputable def hk7 : HK := orF (hkE [i3, i4, i5, i6]) hk
theorem hk7_ok : FFok prg hk7 := orF_ok (hkE_ok (List.forall_mem_cons.2 ⟨⟨hk, 3000, hk_ok, i3_ok⟩, List.forall_mem_cons.2 ⟨⟨hk, 3000, hk_ok, i4_ok⟩, List.forall_mem_cons.2 ⟨⟨hk, 3000, hk_ok, i5_ok⟩, List.forall_mem_cons.2 ⟨⟨hk, 3000, hk_ok, i6_ok⟩, List.forall_mem_nil _⟩⟩⟩⟩)) hk_ok
noncomputable def e7 : Ent := ⟨17, [(vp 11 0), (.agg ⟨(co [(n8 [6,0]), [(.bool false), (.bool false)], (n1 [0]), (ni [0,4,0]), [s0]])⟩)], st3, (.agg ⟨(co [(ni [0]), (n8 [4,4]), (ni [4]), (n1 [0]), [(.bool false), s0, (.bool false)]])⟩), st9⟩
theorem e7_chk : chkE hk7 prg 3000 e7 = true := by kernel_rfl
theorem e7_ok : EntOk prg e7 := ⟨hk7, 3000, hk7_ok, e7_chk⟩
end Go.Ev.Ks
