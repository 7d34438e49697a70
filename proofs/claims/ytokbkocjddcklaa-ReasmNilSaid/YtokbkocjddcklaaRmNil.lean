/- The statement ReasmNil of the package fairleadlaw18, proved: whatever the input, the law answers true and leaves its input as it was. No conditions. -/
import Derived.Test.YtokbkocjddcklaaRows
import Derived.Test.YtokbkocjddcklaaRmM
import Derived.Test.YtokbkocjddcklaaBrB
namespace Go.Proofs.Ytokbkocjddcklaa
open Go Go.Sl Go.Rm Go.ChangeShapes Go.WideShapes Go.ChangeAt Go.RowKit

theorem Try.own' : ownKnob Try.prog.godebug = none := by kernel_rfl
theorem Try.laidOut' : laidOutB Try.prog = true := by kernel_rfl

def opSh : Sh := .struct [.int .i64, .struct [.int .u32, .int .u16, .int .u16, .bool, .bool, .bool, .slice (.int .u8)], .struct [.int .u32, .slice (.struct [.int .u16, .int .u16])]]
theorem opSh_fits : opSh.fits Try.prog 38 = true := by kernel_rfl
theorem agg_of {v : Value} {cs : List Value} (h : v.cells.toList = cs) (h2 : cs.length ≠ 1) : v = .agg cs.toArray := by
  subst h
  cases v with
  | agg c => simp [Value.cells]
  | _ => exact absurd rfl h2
theorem op_rep {w : World} {cs : List Value} (h : opSh.rep w cs) : ∃ o : Ov, cs = o.cells := by
  simp only [opSh, Sh.rep, Sh.repAll] at h
  obtain ⟨_, _, rfl, _, ⟨kind, rfl, _⟩, _, _, rfl, _, ⟨_, _, rfl, _, ⟨tsn, rfl, _⟩, _, _, rfl, _, ⟨stream, rfl, _⟩, _, _, rfl, _, ⟨ssn, rfl, _⟩, _, _, rfl, _, ⟨un, rfl⟩, _, _, rfl, _, ⟨fi, rfl⟩, _, _, rfl, _, ⟨la, rfl⟩, _, _, rfl, _, ⟨ba, bn, bc, rfl, _⟩, rfl⟩,
    _, _, rfl, _, ⟨_, _, rfl, _, ⟨cum, rfl, _⟩, _, _, rfl, _, ⟨ka, kn, kc, rfl, _⟩, rfl⟩, rfl⟩ := h
  exact ⟨⟨kind, tsn, stream, ssn, un, fi, la, ba, bn, bc, cum, ka, kn, kc⟩, rfl⟩

set_option maxRecDepth 100000 in
theorem reasmNil_lifted (os : Os) (started : os.Started) (H : Type) (enc : TypeId × Value → H) :
    ReturnsInHanded {} Try.checked os 8 .any (Rows.reasmNilSpec.pre6 enc Try.prog Try.f8 Rows.reasmNilRow.domain false) (Rows.reasmNilSpec.post enc Try.prog Try.f8 false true false false) := by
  refine returnsInHanded_of_change (C := Try.checked) Try.own' started (by kernel_rfl) Try.func8
    (ChangeSpec.witness6 (enc := enc) (C := Try.checked) false ⟨#[], #[.agg #[.int .i64 0, .int .u32 0, .int .u16 0, .int .u16 0, .bool false, .bool false, .bool false, .slice none 0 0, .int .u32 0, .slice none 0 0]], []⟩ 8 (by kernel_rfl) (by kernel_rfl) (by kernel_rfl) (by kernel_rfl)) ?_
  intro W base args ds gs before hval0 hW hcnd _
  have hW' := hW
  obtain ⟨p, q, hA0, hV, hpq, hfz, hnd⟩ := hW
  have hA : DataW.TrodAll enc Try.prog W 0 (fun _ => true) true Try.f8.params.toList args.toList ds p := hA0
  rw [Try.params8] at hA
  obtain ⟨v0, d0, hargs, hds, h0⟩ : ∃ v0 d0, args.toList = [v0] ∧ ds = [d0] ∧ DataW.Trod enc Try.prog W 0 (fun _ => true) true 38 v0 d0 p := by
    generalize args.toList = al at hA
    match al, ds, hA with
    | [v], [d], ⟨p1, q1, h1, h2, h3⟩ =>
      have : q1 = [] := h2
      subst this
      exact ⟨v, d, rfl, rfl, by rw [h3, List.append_nil]; exact h1⟩
    | [v], _ :: _ :: _, ⟨p1, q1, h1, h2, h3⟩ => cases h2
    | _ :: _ :: _, _ :: _, ⟨p1, q1, h1, h2, h3⟩ => cases h2
  obtain ⟨fuel, hfuel⟩ := h0
  obtain ⟨hrep, hlen⟩ := Sh.rep_of opSh opSh_fits hfuel
  obtain ⟨o, ho⟩ := op_rep hrep
  have hv0 := agg_of ho (by simp [Ov.cells])
  have hgs : gs = [] := by
    cases gs with
    | nil => rfl
    | cons _ _ => cases hV
  subst hgs hds
  have hargs' : args = [v0].toArray := by rw [← hargs]
  subst hargs'
  subst hv0
  refine (nil_tr (heapF W) o W (heapF_in W)).mono fun e W' ⟨v, H', he, hR, hi, hs⟩ => ?_
  obtain ⟨rfl, rfl⟩ := hR
  subst he
  exact ⟨_, rfl, post_true (tb := 4) Try.laidOut' (by rw [Try.params8]; intro t ht; simp at ht; subst ht; exact ⟨by kernel_rfl, of_decide_eq_true (by kernel_rfl)⟩) rfl (by kernel_rfl) rfl hW' rfl rfl rfl (below_of hi hs)⟩

theorem reasmNil_holds : Rows.ReasmNilSaid :=
  OpenClaim.holds_of_wide 8 Try.f8 rfl rfl rfl rfl rfl rfl rfl ⟨rfl, rfl, rfl, rfl, rfl⟩ rfl rfl rfl rfl rfl (by kernel_rfl) Try.func8 (by kernel_rfl)
    (of_decide_eq_true (by kernel_rfl)) (by unfold Func.isWrapper; first | (rw [if_pos (by decide +kernel)]; kernel_rfl) | (rw [if_neg (by decide +kernel)]; exact ⟨rfl, rfl⟩))
    (fun os started H enc _ => reasmNil_lifted os started H enc)
end Go.Proofs.Ytokbkocjddcklaa
