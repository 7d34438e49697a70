/- The statement ReasmSkips of the package fairleadlaw18, proved: whatever the input, the law answers true and leaves its input as it was. No conditions. -/
import Derived.Test.YtokbkocjddcklaaRows
import Derived.Test.YtokbkocjddcklaaRmU
import Derived.Test.YtokbkocjddcklaaRmS
namespace Go.Proofs.Ytokbkocjddcklaa
open Go Go.Sl Go.Rm Go.ChangeShapes Go.WideShapes Go.ChangeAt Go.RowKit

theorem rng_u8 {n : Int} (h1 : IntKind.u8.min ≤ n) (h2 : n ≤ IntKind.u8.max) : 0 ≤ n ∧ n < 256 := by simp [IntKind.min, IntKind.max, IntKind.bits, IntKind.signed] at h1 h2; omega
theorem rng_u64 {n : Int} (h1 : IntKind.u64.min ≤ n) (h2 : n ≤ IntKind.u64.max) : 0 ≤ n ∧ n < 18446744073709551616 := by simp [IntKind.min, IntKind.max, IntKind.bits, IntKind.signed] at h1 h2; omega
def skipsSh : List Sh := [.int .u32, .int .u8, .int .u64, .bool]
theorem reasmSkips_open (W : World) (al : List Value) (h : Reps W skipsSh al) : Tr Try.prog 7 al.toArray (heapF W) [] (fun v H => v = .bool true ∧ H = []) := by
  obtain ⟨v0, _, _, rfl, e0, h0, _, v1, _, _, rfl, e1, h1, _, v2, _, _, rfl, e2, h2, _, v3, _, _, rfl, e3, h3, _, rfl⟩ := h
  obtain ⟨a, rfl, ha⟩ := int_shape h0
  obtain ⟨b, rfl, hb⟩ := int_shape h1
  obtain ⟨c, rfl, hc⟩ := int_shape h2
  obtain ⟨d, rfl⟩ := bool_shape h3
  obtain rfl : v0 = .int .u32 a := by simpa [Sh.val] using e0.symm
  obtain rfl : v1 = .int .u8 b := by simpa [Sh.val] using e1.symm
  obtain rfl : v2 = .int .u64 c := by simpa [Sh.val] using e2.symm
  obtain rfl : v3 = .bool d := by simpa [Sh.val] using e3.symm
  exact skipsLaw_tr _ a b c d (rng_u32 ha.1 ha.2) (rng_u8 hb.1 hb.2) (rng_u64 hc.1 hc.2)
theorem Try.own' : ownKnob Try.prog.godebug = none := by kernel_rfl
theorem Try.laidOut' : laidOutB Try.prog = true := by kernel_rfl
theorem reasmSkips_fits : fitsL Try.prog skipsSh Try.f7.params.toList = true := by rw [Try.params7]; kernel_rfl
theorem reasmSkips_read : ∀ t ∈ Try.f7.params.toList, Try.prog.readableRec t = true ∧ t < Try.prog.types.size := by
  have h : (Try.f7.params.toList.all fun t => Try.prog.readableRec t && decide (t < Try.prog.types.size)) = true := by rw [Try.params7]; kernel_rfl
  intro t ht
  have := List.all_eq_true.1 h t ht
  simpa using this

set_option maxRecDepth 100000 in
theorem reasmSkips_lifted (os : Os) (started : os.Started) (H : Type) (enc : TypeId × Value → H) :
    ReturnsInHanded {} Try.checked os 7 .any (Rows.reasmSkipsSpec.pre6 enc Try.prog Try.f7 Rows.reasmSkipsRow.domain false) (Rows.reasmSkipsSpec.post enc Try.prog Try.f7 false true false false) := by
  refine returnsInHanded_of_change (C := Try.checked) Try.own' started (by kernel_rfl) Try.func7
    (ChangeSpec.witness6 (enc := enc) (C := Try.checked) false ⟨#[], #[.int .u32 0, .int .u8 0, .int .u64 0, .bool false], []⟩ 8 (by kernel_rfl) (by kernel_rfl) (by kernel_rfl) (by kernel_rfl)) ?_
  intro W base args ds gs before hval0 hW hcnd _
  have hW' := hW
  obtain ⟨p, q, hA0, hV, hpq, hfz, hnd⟩ := hW
  have hA : DataW.TrodAll enc Try.prog W 0 (fun _ => true) true Try.f7.params.toList args.toList ds p := hA0
  have hreps := Reps.of skipsSh _ _ _ _ reasmSkips_fits (fun j t v h1 h2 => hval0 j t v (by simpa using h1) (by simpa using h2)) hA
  have hgs : gs = [] := by
    cases gs with
    | nil => rfl
    | cons _ _ => cases hV
  subst hgs
  obtain ⟨al, rfl⟩ : ∃ al : List Value, args = al.toArray := ⟨args.toList, by simp⟩
  refine ((reasmSkips_open W al (by simpa using hreps)) W (heapF_in W)).mono fun e W' ⟨v, H', he, hR, hi, hs⟩ => ?_
  obtain ⟨rfl, rfl⟩ := hR
  subst he
  have hlen := TrodAll_len hA
  rw [Try.params7] at hlen
  obtain ⟨d0, d1, d2, d3, rfl⟩ := len4 hlen
  exact ⟨_, rfl, post_true (tb := 4) Try.laidOut' reasmSkips_read rfl (by kernel_rfl) rfl hW' rfl rfl rfl (below_of hi hs)⟩

theorem reasmSkips_holds : Rows.ReasmSkipsSaid :=
  OpenClaim.holds_of_wide 7 Try.f7 rfl rfl rfl rfl rfl rfl rfl ⟨rfl, rfl, rfl, rfl, rfl⟩ rfl rfl rfl rfl rfl (by kernel_rfl) Try.func7 (by kernel_rfl)
    (of_decide_eq_true (by kernel_rfl)) (by unfold Func.isWrapper; first | (rw [if_pos (by decide +kernel)]; kernel_rfl) | (rw [if_neg (by decide +kernel)]; exact ⟨rfl, rfl⟩))
    (fun os started H enc _ => reasmSkips_lifted os started H enc)

end Go.Proofs.Ytokbkocjddcklaa
