/- A run of the program: calls. No conditions: numbers, and what the kernel reckons. -/
import Derived.Test.YtpiabbfckfoppaaGreatDoorKaC
namespace Go.Ev.Ka
open Go Go.Sl Go.Ev
noncomputable def e29 : Ent := ⟨17, (co [[(vp 81 0)], (n6 [0]), (ni [0])]), st38, (.int .i64 0), st39⟩
theorem e29_chk : chkE hk prg 3000 e29 = true := by kernel_rfl
theorem e29_ok : EntOk prg e29 := ⟨hk, 3000, hk_ok, e29_chk⟩
noncomputable def e30 : Ent := ⟨17, (co [[(vp 81 0)], (n6 [0]), (ni [0])]), st39, (.int .i64 0), st40⟩
theorem e30_chk : chkE hk prg 3000 e30 = true := by kernel_rfl
theorem e30_ok : EntOk prg e30 := ⟨hk, 3000, hk_ok, e30_chk⟩
noncomputable def e31 : Ent := ⟨17, (co [[(vp 81 0)], (n6 [0]), (ni [0])]), st40, (.int .i64 0), st41⟩
theorem e31_chk : chkE hk prg 3000 e31 = true := by kernel_rfl
theorem e31_ok : EntOk prg e31 := ⟨hk, 3000, hk_ok, e31_chk⟩
noncomputable def e32 : Ent := ⟨17, (co [[(vp 81 0)], (n6 [0]), (ni [0])]), st42, (.int .i64 1), st43⟩
theorem e32_chk : chkE hk prg 3000 e32 = true := by kernel_rfl
theorem e32_ok : EntOk prg e32 := ⟨hk, 3000, hk_ok, e32_chk⟩
end Go.Ev.Ka
