/- A run of the program: calls within a call. No conditions: numbers, and what the kernel reckons. -/
import Derived.Test.YtkelhlffeilakaaGreatDoorKsC
namespace Go.Ev.Ks
open Go Go.Sl Go.Ev
noncomputable def i6 : Ent := ⟨69, [(vp 11 0)], st7, (.tuple ⟨[]⟩), st8⟩
theorem i6_ok : chkE hk prg 3000 i6 = true := by kernel_rfl
noncomputable def i9 : Ent := ⟨69, [(vp 11 0)], st12, (.tuple ⟨[]⟩), st13⟩
theorem i9_ok : chkE hk prg 3000 i9 = true := by kernel_rfl
end Go.Ev.Ks
