/- A run of the program: calls. No conditions: numbers, and what the kernel reckons. -/
import Derived.Test.YtlbbgmlmndbecaaGreatDoorKnC
namespace Go.Ev.Kn
open Go Go.Sl Go.Ev
noncomputable def e4 : Ent := ⟨42, [(vp 5 0)], st5, (.tuple ⟨[]⟩), st6⟩
theorem e4_chk : chkE hk prg 3000 e4 = true := by kernel_rfl
theorem e4_ok : EntOk prg e4 := ⟨hk, 3000, hk_ok, e4_chk⟩
noncomputable def e5 : Ent := ⟨42, [(vp 5 0)], st7, (.tuple ⟨[]⟩), st8⟩
theorem e5_chk : chkE hk prg 3000 e5 = true := by kernel_rfl
theorem e5_ok : EntOk prg e5 := ⟨hk, 3000, hk_ok, e5_chk⟩
end Go.Ev.Kn
