/- The statement TsnmapOn of the package fairleadlaw15, proved: whatever the input, the law answers true and leaves its input as it was. No conditions. -/
import Derived.Test.YtkbdfhfbhgaecaaRows
import Derived.Test.YtkbdfhfbhgaecaaTsF
import Derived.Test.YtkbdfhfbhgaecaaBrD
namespace Go.Proofs.Ytkbdfhfbhgaecaa
open Go Go.Sl Go.ChangeShapes Go.WideShapes Go.ChangeAt Go.RowKit

def onSh : List Sh := [.int .u32, .slice (.int .u16), .int .u8]
theorem tsnmapOn_open (W : World) (al : List Value) (h : Reps W onSh al) : Tr Try.prog 6 al.toArray (heapF W) [] (fun v H => v = .bool true ∧ H = []) := by
  obtain ⟨v0, _, _, rfl, e0, h0, _, v1, _, _, rfl, e1, h1, _, v2, _, _, rfl, e2, h2, _, rfl⟩ := h
  obtain ⟨b, rfl, hb⟩ := shI e0 h0
  obtain ⟨sa, n, c, l, rfl, hl, hq⟩ := shLI e1 h1
  obtain ⟨m, rfl, hm⟩ := shI e2 h2
  exact onLaw_tr _ b l (fun a ha => rgU16 (hq a ha).1 (hq a ha).2) sa n c hl m (rgU8 hm.1 hm.2)
theorem Try.own' : ownKnob Try.prog.godebug = none := by kernel_rfl
theorem Try.laidOut' : laidOutB Try.prog = true := by kernel_rfl
theorem tsnmapOn_fits : fitsL Try.prog onSh Try.f6.params.toList = true := by rw [Try.params6]; kernel_rfl
theorem tsnmapOn_read : ∀ t ∈ Try.f6.params.toList, Try.prog.readableRec t = true ∧ t < Try.prog.types.size := by
  have h : (Try.f6.params.toList.all fun t => Try.prog.readableRec t && decide (t < Try.prog.types.size)) = true := by rw [Try.params6]; kernel_rfl
  intro t ht
  have := List.all_eq_true.1 h t ht
  simpa using this

set_option maxRecDepth 100000 in
theorem tsnmapOn_lifted (os : Os) (started : os.Started) (H : Type) (enc : TypeId × Value → H) :
    ReturnsInHanded {} Try.checked os 6 .any (Rows.tsnmapOnSpec.pre6 enc Try.prog Try.f6 Rows.tsnmapOnRow.domain false) (Rows.tsnmapOnSpec.post enc Try.prog Try.f6 false true false false) := by
  refine returnsInHanded_of_change (C := Try.checked) Try.own' started (by kernel_rfl) Try.func6
    (ChangeSpec.witness6 (enc := enc) (C := Try.checked) false ⟨#[], #[.int .u32 0, .slice none 0 0, .int .u8 0], []⟩ 8 (by kernel_rfl) (by kernel_rfl) (by kernel_rfl) (by kernel_rfl)) ?_
  intro W base args ds gs before hval0 hW hcnd _
  have hW' := hW
  obtain ⟨p, q, hA0, hV, hpq, hfz, hnd⟩ := hW
  have hA : DataW.TrodAll enc Try.prog W 0 (fun _ => true) true Try.f6.params.toList args.toList ds p := hA0
  have hreps := Reps.of onSh _ _ _ _ tsnmapOn_fits (fun j t v h1 h2 => hval0 j t v (by simpa using h1) (by simpa using h2)) hA
  have hgs : gs = [] := by
    cases gs with
    | nil => rfl
    | cons _ _ => cases hV
  subst hgs
  obtain ⟨al, rfl⟩ : ∃ al : List Value, args = al.toArray := ⟨args.toList, by simp⟩
  refine ((tsnmapOn_open W al (by simpa using hreps)) W (heapF_in W)).mono fun e W' ⟨v, H', he, hR, hi, hs⟩ => ?_
  obtain ⟨rfl, rfl⟩ := hR
  subst he
  have hlen := TrodAll_len hA
  rw [Try.params6] at hlen
  obtain ⟨d0, d1, d2, rfl⟩ := len3 hlen
  exact ⟨_, rfl, post_true (tb := 4) Try.laidOut' tsnmapOn_read rfl (by kernel_rfl) rfl hW' rfl rfl rfl (below_of hi hs)⟩

theorem tsnmapOn_holds : Rows.TsnmapOnSaid :=
  OpenClaim.holds_of_wide 6 Try.f6 rfl rfl rfl rfl rfl rfl rfl ⟨rfl, rfl, rfl, rfl, rfl⟩ rfl rfl rfl rfl rfl (by kernel_rfl) Try.func6 (by kernel_rfl)
    (of_decide_eq_true (by kernel_rfl)) (by unfold Func.isWrapper; first | (rw [if_pos (by decide +kernel)]; kernel_rfl) | (rw [if_neg (by decide +kernel)]; exact ⟨rfl, rfl⟩))
    (fun os started H enc _ => tsnmapOn_lifted os started H enc)

end Go.Proofs.Ytkbdfhfbhgaecaa
