/- A run of the program: calls. No conditions: numbers, and what the kernel reckons. -/
import Derived.Test.YtpiabbfckfoppaaGreatDoorKaC
namespace Go.Ev.Ka
open Go Go.Sl Go.Ev
noncomputable def e11 : Ent := ⟨17, (co [[(vp 81 0)], (n6 [0]), (ni [0])]), st14, (.int .i64 0), st15⟩
theorem e11_chk : chkE hk prg 3000 e11 = true := by kernel_rfl
theorem e11_ok : EntOk prg e11 := ⟨hk, 3000, hk_ok, e11_chk⟩
noncomputable def e12 : Ent := ⟨17, (co [[(vp 81 0)], (n6 [0]), (ni [0])]), st15, (.int .i64 0), st16⟩
theorem e12_chk : chkE hk prg 3000 e12 = true := by kernel_rfl
theorem e12_ok : EntOk prg e12 := ⟨hk, 3000, hk_ok, e12_chk⟩
noncomputable def e13 : Ent := ⟨17, (co [[(vp 81 0)], (n6 [0]), (ni [0])]), st16, (.int .i64 0), st17⟩
theorem e13_chk : chkE hk prg 3000 e13 = true := by kernel_rfl
theorem e13_ok : EntOk prg e13 := ⟨hk, 3000, hk_ok, e13_chk⟩
noncomputable def e14 : Ent := ⟨17, (co [[(vp 81 0)], (n6 [0]), (ni [0])]), st17, (.int .i64 0), st18⟩
theorem e14_chk : chkE hk prg 3000 e14 = true := by kernel_rfl
theorem e14_ok : EntOk prg e14 := ⟨hk, 3000, hk_ok, e14_chk⟩
end Go.Ev.Ka
