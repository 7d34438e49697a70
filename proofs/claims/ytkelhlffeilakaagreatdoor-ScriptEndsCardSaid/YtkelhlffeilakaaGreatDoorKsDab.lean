/- A run of the program: calls. No conditions: numbers, and what the kernel reckons. -/
import Derived.Test.YtkelhlffeilakaaGreatDoorKsC
import Derived.Test.YtkelhlffeilakaaGreatDoorKsFab
namespace Go.Ev.Ks
open Go Go.Sl Go.Ev
noncomputable def e8 : Ent := ⟨17, [(vp 11 0), (.agg ⟨(co [(n8 [2,0]), [(.bool false), (.bool false)], (n1 [0]), (ni [0,0,0]), [(vs 1682 0 1 0)]])⟩)], st10, (.agg ⟨(co [(ni [0]), (n8 [4,4]), (ni [4]), (n1 [0]), [(.bool false), s0, (.bool false)]])⟩), st11⟩
theorem e8_chk : chkE hk prg 3000 e8 = true := by kernel_rfl
theorem e8_ok : EntOk prg e8 := ⟨hk, 3000, hk_ok, e8_chk⟩
noncomputable def hk10 : HK := orF (hkE [i9]) hk
theorem hk10_ok : FFok prg hk10 := orF_ok (hkE_ok (List.forall_mem_cons.2 ⟨⟨hk, 3000, hk_ok, i9_ok⟩, List.forall_mem_nil _⟩)) hk_ok
noncomputable def e10 : Ent := ⟨17, [(vp 11 0), (.agg ⟨(co [(n8 [6,0]), [(.bool false), (.bool false)], (n1 [0]), (ni [0,1,0]), [s0]])⟩)], st11, (.agg ⟨(co [(ni [0]), (n8 [4,4]), (ni [5]), (n1 [0]), [(.bool false), s0, (.bool false)]])⟩), st14⟩
theorem e10_chk : chkE hk10 prg 3000 e10 = true := by kernel_rfl
theorem e10_ok : EntOk prg e10 := ⟨hk10, 3000, hk10_ok, e10_chk⟩
noncomputable def e11 : Ent := ⟨17, [(vp 11 0), (.agg ⟨(co [(n8 [3,1]), [(.bool false), (.bool false)], (n1 [0]), (ni [0,0,0]), [s0]])⟩)], st14, (.agg ⟨(co [(ni [0]), (n8 [4,4]), (ni [5]), (n1 [0]), [(.bool false), (vs 1998 0 1 0), (.bool true)]])⟩), st15⟩
theorem e11_chk : chkE hk prg 3000 e11 = true := by kernel_rfl
theorem e11_ok : EntOk prg e11 := ⟨hk, 3000, hk_ok, e11_chk⟩
end Go.Ev.Ks
