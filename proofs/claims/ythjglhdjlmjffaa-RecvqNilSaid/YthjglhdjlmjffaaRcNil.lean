/- The statement RecvqNil of the package fairleadlaw19, proved: whatever the input, the law answers true and leaves its input as it was. No conditions. -/
import Derived.Test.YthjglhdjlmjffaaRows
import Derived.Test.YthjglhdjlmjffaaRcG
import Derived.Test.YthjglhdjlmjffaaRcS
namespace Go.Proofs.Ythjglhdjlmjffaa
open Go Go.Sl Go.Rm Go.ChangeShapes Go.WideShapes Go.ChangeAt Go.RowKit

def nilSh : List Sh := [opSh]
theorem recvqNil_open (W : World) (al : List Value) (h : Reps W nilSh al) : Tr Try.prog 6 al.toArray (heapF W) [] (fun v H => v = .bool true ∧ H = []) := by
  obtain ⟨v0, _, _, rfl, e0, h0, h00, rfl⟩ := h
  obtain ⟨p, rfl, hp⟩ := op_dec _ h00 h0
  have e : v0 = .agg p.cells.toArray := by simpa [opSh, Sh.val] using e0
  rw [e]
  exact nil_tr _ p.o p.bs p.ks hp
theorem Try.own' : ownKnob Try.prog.godebug = none := by kernel_rfl
theorem Try.laidOut' : laidOutB Try.prog = true := by kernel_rfl
theorem recvqNil_fits : fitsL Try.prog nilSh Try.f6.params.toList = true := by rw [Try.params6]; kernel_rfl
theorem recvqNil_read : ∀ t ∈ Try.f6.params.toList, Try.prog.readableRec t = true ∧ t < Try.prog.types.size := by
  have h : (Try.f6.params.toList.all fun t => Try.prog.readableRec t && decide (t < Try.prog.types.size)) = true := by rw [Try.params6]; kernel_rfl
  intro t ht
  have := List.all_eq_true.1 h t ht
  simpa using this

set_option maxRecDepth 100000 in
theorem recvqNil_lifted (os : Os) (started : os.Started) (H : Type) (enc : TypeId × Value → H) :
    ReturnsInHanded {} Try.checked os 6 .any (Rows.recvqNilSpec.pre6 enc Try.prog Try.f6 Rows.recvqNilRow.domain false) (Rows.recvqNilSpec.post enc Try.prog Try.f6 false true false false) := by
  refine returnsInHanded_of_change (C := Try.checked) Try.own' started (by kernel_rfl) Try.func6
    (ChangeSpec.witness6 (enc := enc) (C := Try.checked) false ⟨#[], #[.agg #[.int .i64 0, .int .u32 0, .int .u16 0, .int .u16 0, .bool false, .bool false, .bool false, .slice none 0 0, .int .u32 0, .slice none 0 0, .int .i64 0]], []⟩ 8 (by kernel_rfl) (by kernel_rfl) (by kernel_rfl) (by kernel_rfl)) ?_
  intro W base args ds gs before hval0 hW hcnd _
  have hW' := hW
  obtain ⟨p, q, hA0, hV, hpq, hfz, hnd⟩ := hW
  have hA : DataW.TrodAll enc Try.prog W 0 (fun _ => true) true Try.f6.params.toList args.toList ds p := hA0
  have hreps := Reps.of nilSh _ _ _ _ recvqNil_fits (fun j t v h1 h2 => hval0 j t v (by simpa using h1) (by simpa using h2)) hA
  have hgs : gs = [] := by
    cases gs with
    | nil => rfl
    | cons _ _ => cases hV
  subst hgs
  obtain ⟨al, rfl⟩ : ∃ al : List Value, args = al.toArray := ⟨args.toList, by simp⟩
  refine ((recvqNil_open W al (by simpa using hreps)) W (heapF_in W)).mono fun e W' ⟨v, H', he, hR, hi, hs⟩ => ?_
  obtain ⟨rfl, rfl⟩ := hR
  subst he
  have hlen := TrodAll_len hA
  rw [Try.params6] at hlen
  obtain ⟨d0, rfl⟩ := len1 hlen
  exact ⟨_, rfl, post_true (tb := 4) Try.laidOut' recvqNil_read rfl (by kernel_rfl) rfl hW' rfl rfl rfl (below_of hi hs)⟩

theorem recvqNil_holds : Rows.RecvqNilSaid :=
  OpenClaim.holds_of_wide 6 Try.f6 rfl rfl rfl rfl rfl rfl rfl ⟨rfl, rfl, rfl, rfl, rfl⟩ rfl rfl rfl rfl rfl (by kernel_rfl) Try.func6 (by kernel_rfl)
    (of_decide_eq_true (by kernel_rfl)) (by unfold Func.isWrapper; first | (rw [if_pos (by decide +kernel)]; kernel_rfl) | (rw [if_neg (by decide +kernel)]; exact ⟨rfl, rfl⟩))
    (fun os started H enc _ => recvqNil_lifted os started H enc)

end Go.Proofs.Ythjglhdjlmjffaa
