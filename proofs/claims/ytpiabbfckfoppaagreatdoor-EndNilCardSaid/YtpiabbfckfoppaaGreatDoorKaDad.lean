/- A run of the program: calls. No conditions: numbers, and what the kernel reckons. -/
import Derived.Test.YtpiabbfckfoppaaGreatDoorKaC
namespace Go.Ev.Ka
open Go Go.Sl Go.Ev
noncomputable def e15 : Ent := ⟨17, (co [[(vp 81 0)], (n6 [0]), (ni [0])]), st18, (.int .i64 0), st19⟩
theorem e15_chk : chkE hk prg 3000 e15 = true := by kernel_rfl
theorem e15_ok : EntOk prg e15 := ⟨hk, 3000, hk_ok, e15_chk⟩
noncomputable def e16 : Ent := ⟨17, (co [[(vp 81 0)], (n6 [0]), (ni [0])]), st19, (.int .i64 0), st20⟩
theorem e16_chk : chkE hk prg 3000 e16 = true := by kernel_rfl
theorem e16_ok : EntOk prg e16 := ⟨hk, 3000, hk_ok, e16_chk⟩
noncomputable def e17 : Ent := ⟨17, (co [[(vp 81 0)], (n6 [0]), (ni [0])]), st20, (.int .i64 0), st21⟩
theorem e17_chk : chkE hk prg 3000 e17 = true := by kernel_rfl
theorem e17_ok : EntOk prg e17 := ⟨hk, 3000, hk_ok, e17_chk⟩
noncomputable def e18 : Ent := ⟨17, (co [[(vp 81 0)], (n6 [0]), (ni [0])]), st21, (.int .i64 0), st22⟩
theorem e18_chk : chkE hk prg 3000 e18 = true := by kernel_rfl
theorem e18_ok : EntOk prg e18 := ⟨hk, 3000, hk_ok, e18_chk⟩
end Go.Ev.Ka
