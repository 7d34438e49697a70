/- A run of the program: calls within a call. No conditions: numbers, and what the kernel reckons. -/
import Derived.Test.YtkelhlffeilakaaGreatDoorKsC
namespace Go.Ev.Ks
open Go Go.Sl Go.Ev
noncomputable def i3 : Ent := ⟨69, [(vp 11 0)], st4, (.tuple ⟨[]⟩), st5⟩
theorem i3_ok : chkE hk prg 3000 i3 = true := by kernel_rfl
noncomputable def i4 : Ent := ⟨69, [(vp 11 0)], st5, (.tuple ⟨[]⟩), st6⟩
theorem i4_ok : chkE hk prg 3000 i4 = true := by kernel_rfl
noncomputable def i5 : Ent := ⟨69, [(vp 11 0)], st6, (.tuple ⟨[]⟩), st7⟩
theorem i5_ok : chkE hk prg 3000 i5 = true := by kernel_rfl
end Go.Ev.Ks
