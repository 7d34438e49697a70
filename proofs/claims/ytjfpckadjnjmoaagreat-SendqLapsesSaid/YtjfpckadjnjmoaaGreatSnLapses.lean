/- The statement SendqLapses of the package fairleadlaw23, proved: whatever the input, the law answers true and leaves its input as it was. No conditions. -/
import Derived.Test.YtjfpckadjnjmoaaGreatRows
import Derived.Test.YtjfpckadjnjmoaaGreatLnL
import Derived.Test.YtjfpckadjnjmoaaGreatBd
namespace Go.Proofs.YtjfpckadjnjmoaaGreat
open Go Go.Sl Go.ChangeShapes Go.WideShapes Go.ChangeAt Go.RowKit

def lapsesSh : List Sh := [.int .u32, .slice (.int .u16), .slice (.int .u8), .int .u8]
theorem sendqLapses_open (W : World) (al : List Value) (h : Reps W lapsesSh al) : Tr Tryz.prog 3 al.toArray (heapF W) [] (fun v H => v = .bool true ∧ H = []) := by
  obtain ⟨v0, _, _, rfl, e0, h0, _, v1, _, _, rfl, e1, h1, _, v2, _, _, rfl, e2, h2, _, v3, _, _, rfl, e3, h3, _, rfl⟩ := h
  obtain ⟨p, rfl, p1, p2⟩ := shI e0 h0
  obtain ⟨la, ln, lc, ls, rfl, hl, hlr⟩ := shLI e1 h1
  obtain ⟨va, vn, vc, lvs, rfl, hv, hvr⟩ := shLI e2 h2
  obtain ⟨r, rfl, r1, r2⟩ := shI e3 h3
  exact lapses_tr _ p r ls lvs la ln lc va vn vc hl hv (rgU32 p1 p2) (rgU8 r1 r2) (fun a ha => rgU16 (hlr a ha).1 (hlr a ha).2) (fun a ha => rgU8 (hvr a ha).1 (hvr a ha).2)
theorem Tryz.own' : ownKnob Tryz.prog.godebug = none := by kernel_rfl
theorem Tryz.laidOut' : laidOutB Tryz.prog = true := by kernel_rfl
theorem sendqLapses_fits : fitsL Tryz.prog lapsesSh Tryz.f3.params.toList = true := by rw [Tryz.params3]; kernel_rfl
theorem sendqLapses_read : ∀ t ∈ Tryz.f3.params.toList, Tryz.prog.readableRec t = true ∧ t < Tryz.prog.types.size := by
  have h : (Tryz.f3.params.toList.all fun t => Tryz.prog.readableRec t && decide (t < Tryz.prog.types.size)) = true := by rw [Tryz.params3]; kernel_rfl
  intro t ht
  have := List.all_eq_true.1 h t ht
  simpa using this

set_option maxRecDepth 100000 in
theorem sendqLapses_lifted (os : Os) (started : os.Started) (H : Type) (enc : TypeId × Value → H) :
    ReturnsInHanded {} Tryz.checked os 3 .any (Rows.sendqLapsesSpec.pre6 enc Tryz.prog Tryz.f3 Rows.sendqLapsesRow.domain false) (Rows.sendqLapsesSpec.post enc Tryz.prog Tryz.f3 false true false false) := by
  refine returnsInHanded_of_change (C := Tryz.checked) Tryz.own' started (by kernel_rfl) Tryz.func3
    (ChangeSpec.witness6 (enc := enc) (C := Tryz.checked) false ⟨#[], #[.int .u32 0, .slice none 0 0, .slice none 0 0, .int .u8 0], []⟩ 8 (by kernel_rfl) (by kernel_rfl) (by kernel_rfl) (by kernel_rfl)) ?_
  intro W base args ds gs before hval0 hW hcnd _
  have hW' := hW
  obtain ⟨p, q, hA0, hV, hpq, hfz, hnd⟩ := hW
  have hA : DataW.TrodAll enc Tryz.prog W 0 (fun _ => true) true Tryz.f3.params.toList args.toList ds p := hA0
  have hreps := Reps.of lapsesSh _ _ _ _ sendqLapses_fits (fun j t v h1 h2 => hval0 j t v (by simpa using h1) (by simpa using h2)) hA
  have hgs : gs = [] := by
    cases gs with
    | nil => rfl
    | cons _ _ => cases hV
  subst hgs
  obtain ⟨al, rfl⟩ : ∃ al : List Value, args = al.toArray := ⟨args.toList, by simp⟩
  refine ((sendqLapses_open W al (by simpa using hreps)) W (heapF_in W)).mono fun e W' ⟨v, H', he, hR, hi, hs⟩ => ?_
  obtain ⟨rfl, rfl⟩ := hR
  subst he
  have hlen := TrodAll_len hA
  rw [Tryz.params3] at hlen
  obtain ⟨d0, d1, d2, d3, rfl⟩ := len4 hlen
  exact ⟨_, rfl, post_true (tb := 4) Tryz.laidOut' sendqLapses_read rfl (by kernel_rfl) rfl hW' rfl rfl rfl (below_of hi hs)⟩

theorem sendqLapses_holds : Rows.SendqLapsesSaid :=
  OpenClaim.holds_of_wide 3 Tryz.f3 rfl rfl rfl rfl rfl rfl rfl ⟨rfl, rfl, rfl, rfl, rfl⟩ rfl rfl rfl rfl rfl (by kernel_rfl) Tryz.func3 (by kernel_rfl)
    (of_decide_eq_true (by kernel_rfl)) (by unfold Func.isWrapper; first | (rw [if_pos (by decide +kernel)]; kernel_rfl) | (rw [if_neg (by decide +kernel)]; exact ⟨rfl, rfl⟩))
    (fun os started H enc _ => sendqLapses_lifted os started H enc)

end Go.Proofs.YtjfpckadjnjmoaaGreat
