/- A run of the program: calls. No conditions: numbers, and what the kernel reckons. -/
import Derived.Test.YtlbbgmlmndbecaaGreatDoorKnC
namespace Go.Ev.Kn
open Go Go.Sl Go.Ev
noncomputable def e0 : Ent := ⟨50, [(.agg ⟨(ni [1,128,2,4000,2000,2000,10,5,50,1,100,40,2,5])⟩)], st0, (.tuple ⟨(co [[(vp 5 0)], (ni [0])])⟩), st1⟩
theorem e0_chk : chkE hk prg 3000 e0 = true := by kernel_rfl
theorem e0_ok : EntOk prg e0 := ⟨hk, 3000, hk_ok, e0_chk⟩
noncomputable def e1 : Ent := ⟨42, [(vp 5 0)], st2, (.tuple ⟨[]⟩), st3⟩
theorem e1_chk : chkE hk prg 3000 e1 = true := by kernel_rfl
theorem e1_ok : EntOk prg e1 := ⟨hk, 3000, hk_ok, e1_chk⟩
noncomputable def e2 : Ent := ⟨42, [(vp 5 0)], st3, (.tuple ⟨[]⟩), st4⟩
theorem e2_chk : chkE hk prg 3000 e2 = true := by kernel_rfl
theorem e2_ok : EntOk prg e2 := ⟨hk, 3000, hk_ok, e2_chk⟩
noncomputable def e3 : Ent := ⟨42, [(vp 5 0)], st4, (.tuple ⟨[]⟩), st5⟩
theorem e3_chk : chkE hk prg 3000 e3 = true := by kernel_rfl
theorem e3_ok : EntOk prg e3 := ⟨hk, 3000, hk_ok, e3_chk⟩
end Go.Ev.Kn
