/- The statement SendqProbes of the package fairleadlaw23, proved: whatever the input, the law answers true and leaves its input as it was. No conditions. -/
import Derived.Test.YtjbinhihkfidoaaRows
import Derived.Test.YtjbinhihkfidoaaLnH
import Derived.Test.YtjbinhihkfidoaaBrE
namespace Go.Proofs.Ytjbinhihkfidoaa
open Go Go.Sl Go.ChangeShapes Go.WideShapes Go.ChangeAt Go.RowKit

def probesSh : List Sh := [.int .u32, .int .u16, .int .u8]
theorem sendqProbes_open (W : World) (al : List Value) (h : Reps W probesSh al) : Tr Try.prog 3 al.toArray (heapF W) [] (fun v H => v = .bool true ∧ H = []) := by
  obtain ⟨v0, _, _, rfl, e0, h0, _, v1, _, _, rfl, e1, h1, _, v2, _, _, rfl, e2, h2, _, rfl⟩ := h
  obtain ⟨p, rfl, p1, p2⟩ := shI e0 h0
  obtain ⟨q, rfl, q1, q2⟩ := shI e1 h1
  obtain ⟨r, rfl, r1, r2⟩ := shI e2 h2
  exact probes_tr _ p q r (rgU32 p1 p2) (rgU16 q1 q2) (rgU8 r1 r2)
theorem Try.own' : ownKnob Try.prog.godebug = none := by kernel_rfl
theorem Try.laidOut' : laidOutB Try.prog = true := by kernel_rfl
theorem sendqProbes_fits : fitsL Try.prog probesSh Try.f3.params.toList = true := by rw [Try.params3]; kernel_rfl
theorem sendqProbes_read : ∀ t ∈ Try.f3.params.toList, Try.prog.readableRec t = true ∧ t < Try.prog.types.size := by
  have h : (Try.f3.params.toList.all fun t => Try.prog.readableRec t && decide (t < Try.prog.types.size)) = true := by rw [Try.params3]; kernel_rfl
  intro t ht
  have := List.all_eq_true.1 h t ht
  simpa using this

set_option maxRecDepth 100000 in
theorem sendqProbes_lifted (os : Os) (started : os.Started) (H : Type) (enc : TypeId × Value → H) :
    ReturnsInHanded {} Try.checked os 3 .any (Rows.sendqProbesSpec.pre6 enc Try.prog Try.f3 Rows.sendqProbesRow.domain false) (Rows.sendqProbesSpec.post enc Try.prog Try.f3 false true false false) := by
  refine returnsInHanded_of_change (C := Try.checked) Try.own' started (by kernel_rfl) Try.func3
    (ChangeSpec.witness6 (enc := enc) (C := Try.checked) false ⟨#[], #[.int .u32 0, .int .u16 0, .int .u8 0], []⟩ 8 (by kernel_rfl) (by kernel_rfl) (by kernel_rfl) (by kernel_rfl)) ?_
  intro W base args ds gs before hval0 hW hcnd _
  have hW' := hW
  obtain ⟨p, q, hA0, hV, hpq, hfz, hnd⟩ := hW
  have hA : DataW.TrodAll enc Try.prog W 0 (fun _ => true) true Try.f3.params.toList args.toList ds p := hA0
  have hreps := Reps.of probesSh _ _ _ _ sendqProbes_fits (fun j t v h1 h2 => hval0 j t v (by simpa using h1) (by simpa using h2)) hA
  have hgs : gs = [] := by
    cases gs with
    | nil => rfl
    | cons _ _ => cases hV
  subst hgs
  obtain ⟨al, rfl⟩ : ∃ al : List Value, args = al.toArray := ⟨args.toList, by simp⟩
  refine ((sendqProbes_open W al (by simpa using hreps)) W (heapF_in W)).mono fun e W' ⟨v, H', he, hR, hi, hs⟩ => ?_
  obtain ⟨rfl, rfl⟩ := hR
  subst he
  have hlen := TrodAll_len hA
  rw [Try.params3] at hlen
  obtain ⟨d0, d1, d2, rfl⟩ := len3 hlen
  exact ⟨_, rfl, post_true (tb := 4) Try.laidOut' sendqProbes_read rfl (by kernel_rfl) rfl hW' rfl rfl rfl (below_of hi hs)⟩

theorem sendqProbes_holds : Rows.SendqProbesSaid :=
  OpenClaim.holds_of_wide 3 Try.f3 rfl rfl rfl rfl rfl rfl rfl ⟨rfl, rfl, rfl, rfl, rfl⟩ rfl rfl rfl rfl rfl (by kernel_rfl) Try.func3 (by kernel_rfl)
    (of_decide_eq_true (by kernel_rfl)) (by unfold Func.isWrapper; first | (rw [if_pos (by decide +kernel)]; kernel_rfl) | (rw [if_neg (by decide +kernel)]; exact ⟨rfl, rfl⟩))
    (fun os started H enc _ => sendqProbes_lifted os started H enc)

end Go.Proofs.Ytjbinhihkfidoaa
