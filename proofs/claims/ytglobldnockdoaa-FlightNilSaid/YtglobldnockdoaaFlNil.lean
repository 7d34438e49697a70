/- The statement FlightNil of the package fairleadlaw21, proved: whatever the input, the law answers true and leaves its input as it was. No conditions. -/
import Derived.Test.YtglobldnockdoaaRows
import Derived.Test.YtglobldnockdoaaFmB
import Derived.Test.YtglobldnockdoaaFmS
namespace Go.Proofs.Ytglobldnockdoaa
open Go Go.Sl Go.Flt Go.ChangeShapes Go.WideShapes Go.ChangeAt Go.RowKit

def nilSh : List Sh := [opSh]
theorem flightNil_open (W : World) (al : List Value) (h : Reps W nilSh al) : Tr Try.prog 9 al.toArray (heapF W) [] (fun v H => v = .bool true ∧ H = []) := by
  obtain ⟨v0, _, _, rfl, e0, h0, _, rfl⟩ := h
  obtain ⟨p, rfl, hp⟩ := op_of e0 h0
  exact nilLaw_tr _ p.m p.bs p.gs hp
theorem Try.own' : ownKnob Try.prog.godebug = none := by kernel_rfl
theorem Try.laidOut' : laidOutB Try.prog = true := by kernel_rfl
theorem flightNil_fits : fitsL Try.prog nilSh Try.f9.params.toList = true := by rw [Try.params9]; kernel_rfl
theorem flightNil_read : ∀ t ∈ Try.f9.params.toList, Try.prog.readableRec t = true ∧ t < Try.prog.types.size := by
  have h : (Try.f9.params.toList.all fun t => Try.prog.readableRec t && decide (t < Try.prog.types.size)) = true := by rw [Try.params9]; kernel_rfl
  intro t ht
  have := List.all_eq_true.1 h t ht
  simpa using this

set_option maxRecDepth 100000 in
theorem flightNil_lifted (os : Os) (started : os.Started) (H : Type) (enc : TypeId × Value → H) :
    ReturnsInHanded {} Try.checked os 9 .any (Rows.flightNilSpec.pre6 enc Try.prog Try.f9 Rows.flightNilRow.domain false) (Rows.flightNilSpec.post enc Try.prog Try.f9 false true false false) := by
  refine returnsInHanded_of_change (C := Try.checked) Try.own' started (by kernel_rfl) Try.func9
    (ChangeSpec.witness6 (enc := enc) (C := Try.checked) false ⟨#[], #[.agg #[.int .i64 0, .int .u32 0, .int .u16 0, .int .u16 0, .bool false, .bool false, .bool false, .slice none 0 0, .int .i64 0, .int .i64 0, .int .i64 0, .int .u32 0, .slice none 0 0]], []⟩ 8 (by kernel_rfl) (by kernel_rfl) (by kernel_rfl) (by kernel_rfl)) ?_
  intro W base args ds gs before hval0 hW hcnd _
  have hW' := hW
  obtain ⟨p, q, hA0, hV, hpq, hfz, hnd⟩ := hW
  have hA : DataW.TrodAll enc Try.prog W 0 (fun _ => true) true Try.f9.params.toList args.toList ds p := hA0
  have hreps := Reps.of nilSh _ _ _ _ flightNil_fits (fun j t v h1 h2 => hval0 j t v (by simpa using h1) (by simpa using h2)) hA
  have hgs : gs = [] := by
    cases gs with
    | nil => rfl
    | cons _ _ => cases hV
  subst hgs
  obtain ⟨al, rfl⟩ : ∃ al : List Value, args = al.toArray := ⟨args.toList, by simp⟩
  refine ((flightNil_open W al (by simpa using hreps)) W (heapF_in W)).mono fun e W' ⟨v, H', he, hR, hi, hs⟩ => ?_
  obtain ⟨rfl, rfl⟩ := hR
  subst he
  have hlen := TrodAll_len hA
  rw [Try.params9] at hlen
  obtain ⟨d0, rfl⟩ := len1 hlen
  exact ⟨_, rfl, post_true (tb := 4) Try.laidOut' flightNil_read rfl (by kernel_rfl) rfl hW' rfl rfl rfl (below_of hi hs)⟩

theorem flightNil_holds : Rows.FlightNilSaid :=
  OpenClaim.holds_of_wide 9 Try.f9 rfl rfl rfl rfl rfl rfl rfl ⟨rfl, rfl, rfl, rfl, rfl⟩ rfl rfl rfl rfl rfl (by kernel_rfl) Try.func9 (by kernel_rfl)
    (of_decide_eq_true (by kernel_rfl)) (by unfold Func.isWrapper; first | (rw [if_pos (by decide +kernel)]; kernel_rfl) | (rw [if_neg (by decide +kernel)]; exact ⟨rfl, rfl⟩))
    (fun os started H enc _ => flightNil_lifted os started H enc)

end Go.Proofs.Ytglobldnockdoaa
