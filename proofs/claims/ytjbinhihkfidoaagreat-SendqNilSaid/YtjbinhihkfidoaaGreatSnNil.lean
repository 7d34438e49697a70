/- The statement SendqNil of the package fairleadlaw23, proved: whatever the input, the law answers true and leaves its input as it was. No conditions. -/
import Derived.Test.YtjbinhihkfidoaaGreatRows
import Derived.Test.YtjbinhihkfidoaaGreatSnY
import Derived.Test.YtjbinhihkfidoaaGreatSnS
namespace Go.Proofs.YtjbinhihkfidoaaGreat
open Go Go.Sl Go.ChangeShapes Go.WideShapes Go.ChangeAt Go.RowKit

def nilSh : List Sh := [opSh]
theorem sendqNil_open (W : World) (al : List Value) (h : Reps W nilSh al) : Tr Tryz.prog 6 al.toArray (heapF W) [] (fun v H => v = .bool true ∧ H = []) := by
  obtain ⟨v0, _, _, rfl, e0, h0, _, rfl⟩ := h
  obtain ⟨p, rfl, hp⟩ := op_of e0 h0
  exact nilLaw_tr _ p.o p.bs p.gs hp
theorem Tryz.own' : ownKnob Tryz.prog.godebug = none := by kernel_rfl
theorem Tryz.laidOut' : laidOutB Tryz.prog = true := by kernel_rfl
theorem sendqNil_fits : fitsL Tryz.prog nilSh Tryz.f6.params.toList = true := by rw [Tryz.params6]; kernel_rfl
theorem sendqNil_read : ∀ t ∈ Tryz.f6.params.toList, Tryz.prog.readableRec t = true ∧ t < Tryz.prog.types.size := by
  have h : (Tryz.f6.params.toList.all fun t => Tryz.prog.readableRec t && decide (t < Tryz.prog.types.size)) = true := by rw [Tryz.params6]; kernel_rfl
  intro t ht
  have := List.all_eq_true.1 h t ht
  simpa using this

set_option maxRecDepth 100000 in
theorem sendqNil_lifted (os : Os) (started : os.Started) (H : Type) (enc : TypeId × Value → H) :
    ReturnsInHanded {} Tryz.checked os 6 .any (Rows.sendqNilSpec.pre6 enc Tryz.prog Tryz.f6 Rows.sendqNilRow.domain false) (Rows.sendqNilSpec.post enc Tryz.prog Tryz.f6 false true false false) := by
  refine returnsInHanded_of_change (C := Tryz.checked) Tryz.own' started (by kernel_rfl) Tryz.func6
    (ChangeSpec.witness6 (enc := enc) (C := Tryz.checked) false ⟨#[], #[.agg #[.int .i64 0, .int .u16 0, .int .u16 0, .bool false, .slice none 0 0, .int .i64 0, .int .u32 0, .slice none 0 0, .int .u32 0, .int .i64 0]], []⟩ 8 (by kernel_rfl) (by kernel_rfl) (by kernel_rfl) (by kernel_rfl)) ?_
  intro W base args ds gs before hval0 hW hcnd _
  have hW' := hW
  obtain ⟨p, q, hA0, hV, hpq, hfz, hnd⟩ := hW
  have hA : DataW.TrodAll enc Tryz.prog W 0 (fun _ => true) true Tryz.f6.params.toList args.toList ds p := hA0
  have hreps := Reps.of nilSh _ _ _ _ sendqNil_fits (fun j t v h1 h2 => hval0 j t v (by simpa using h1) (by simpa using h2)) hA
  have hgs : gs = [] := by
    cases gs with
    | nil => rfl
    | cons _ _ => cases hV
  subst hgs
  obtain ⟨al, rfl⟩ : ∃ al : List Value, args = al.toArray := ⟨args.toList, by simp⟩
  refine ((sendqNil_open W al (by simpa using hreps)) W (heapF_in W)).mono fun e W' ⟨v, H', he, hR, hi, hs⟩ => ?_
  obtain ⟨rfl, rfl⟩ := hR
  subst he
  have hlen := TrodAll_len hA
  rw [Tryz.params6] at hlen
  obtain ⟨d0, rfl⟩ := len1 hlen
  exact ⟨_, rfl, post_true (tb := 4) Tryz.laidOut' sendqNil_read rfl (by kernel_rfl) rfl hW' rfl rfl rfl (below_of hi hs)⟩

theorem sendqNil_holds : Rows.SendqNilSaid :=
  OpenClaim.holds_of_wide 6 Tryz.f6 rfl rfl rfl rfl rfl rfl rfl ⟨rfl, rfl, rfl, rfl, rfl⟩ rfl rfl rfl rfl rfl (by kernel_rfl) Tryz.func6 (by kernel_rfl)
    (of_decide_eq_true (by kernel_rfl)) (by unfold Func.isWrapper; first | (rw [if_pos (by decide +kernel)]; kernel_rfl) | (rw [if_neg (by decide +kernel)]; exact ⟨rfl, rfl⟩))
    (fun os started H enc _ => sendqNil_lifted os started H enc)

end Go.Proofs.YtjbinhihkfidoaaGreat
