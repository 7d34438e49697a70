/- A run of the program: calls. No conditions: numbers, and what the kernel reckons. -/
import Derived.Test.YtpiabbfckfoppaaGreatDoorKaC
namespace Go.Ev.Ka
open Go Go.Sl Go.Ev
noncomputable def e7 : Ent := ⟨17, (co [[(vp 81 0)], (n6 [0]), (ni [0])]), st10, (.int .i64 1), st11⟩
theorem e7_chk : chkE hk prg 3000 e7 = true := by kernel_rfl
theorem e7_ok : EntOk prg e7 := ⟨hk, 3000, hk_ok, e7_chk⟩
noncomputable def e8 : Ent := ⟨17, (co [[(vp 81 0)], (n6 [0]), (ni [0])]), st11, (.int .i64 1), st12⟩
theorem e8_chk : chkE hk prg 3000 e8 = true := by kernel_rfl
theorem e8_ok : EntOk prg e8 := ⟨hk, 3000, hk_ok, e8_chk⟩
noncomputable def e9 : Ent := ⟨17, (co [[(vp 81 0)], (n6 [0]), (ni [0])]), st12, (.int .i64 1), st13⟩
theorem e9_chk : chkE hk prg 3000 e9 = true := by kernel_rfl
theorem e9_ok : EntOk prg e9 := ⟨hk, 3000, hk_ok, e9_chk⟩
noncomputable def e10 : Ent := ⟨17, (co [[(vp 81 0)], (n6 [0]), (ni [0])]), st13, (.int .i64 0), st14⟩
theorem e10_chk : chkE hk prg 3000 e10 = true := by kernel_rfl
theorem e10_ok : EntOk prg e10 := ⟨hk, 3000, hk_ok, e10_chk⟩
end Go.Ev.Ka
