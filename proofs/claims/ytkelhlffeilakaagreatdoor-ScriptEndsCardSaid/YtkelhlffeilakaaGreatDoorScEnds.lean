/- The statement ScriptEnds of the package fairleadlaw28, and its card, proved: whatever the input, the law answers true and leaves its input as it was. No conditions. -/
import Derived.Test.YtkelhlffeilakaaGreatDoorCards
import Derived.Test.YtkelhlffeilakaaGreatDoorTie
import Derived.Test.YtkelhlffeilakaaGreatDoorScG
import Derived.Test.YtkelhlffeilakaaGreatDoorScC
import Derived.Test.YtkelhlffeilakaaGreatDoorScH
import Derived.Test.YtkelhlffeilakaaGreatDoorSeD
import Derived.Test.YtkelhlffeilakaaGreatDoorBuL
import Derived.Test.YtkelhlffeilakaaGreatDoorStY
import Derived.SevenTiedAt
import Derived.LaidOnce
namespace Go.Proofs.YtkelhlffeilakaaGreatDoor
open Go Go.Sl Go.Scr Go.ChangeShapes Go.WideShapes Go.ChangeAt Go.RowKit

def endsSh : List Sh := [cfgSh, cfgSh, .int .u8]
theorem ends_open (W : World) (hL : laidMetH Tryz.prog Rows.scriptEndsRow.laid W) (hS : W.ShapedOpen Tryz.prog) (al : List Value) (h : Reps W endsSh al) : Tr Tryz.prog 3 al.toArray (heapF W) [] (fun v H => v = .bool true ∧ H = []) := by
  obtain ⟨v0, _, _, rfl, e0, h0, _, v1, _, _, rfl, e1, h1, _, v2, _, _, rfl, e2, h2, _, rfl⟩ := h
  obtain ⟨c, rfl, hc, hi⟩ := cfg_of e0 h0
  obtain ⟨d, rfl, hd, hj⟩ := cfg_of e1 h1
  obtain ⟨q, rfl, q1, q2⟩ := shI e2 h2
  obtain ⟨hG, hGF⟩ := laid_ok hL hS
  exact ends_tr _ hG (works_ok hG hGF) c d hc hi hd hj q (rgU8 q1 q2)
theorem Tryz.own' : ownKnob Tryz.prog.godebug = none := by kernel_rfl
theorem Tryz.laidOut' : laidOutB Tryz.prog = true := by kernel_rfl
theorem ends_fits : fitsL Tryz.prog endsSh Tryz.f3.params.toList = true := by rw [Tryz.params3]; kernel_rfl
theorem ends_read : ∀ t ∈ Tryz.f3.params.toList, Tryz.prog.readableRec t = true ∧ t < Tryz.prog.types.size := by
  have h : (Tryz.f3.params.toList.all fun t => Tryz.prog.readableRec t && decide (t < Tryz.prog.types.size)) = true := by rw [Tryz.params3]; kernel_rfl
  intro t ht
  have := List.all_eq_true.1 h t ht
  simpa using this
set_option maxRecDepth 100000 in
theorem ends_lifted (os : Os) (started : os.Started) (H : Type) (enc : TypeId × Value → H) :
    ReturnsInHanded {} Tryz.checked os 3 .any (fun w args => (Rows.scriptEndsSpec.pre enc Tryz.prog Tryz.f3 [] false w args ∧ laidMetH Tryz.prog Rows.scriptEndsRow.laid w) ∧ sizedMet enc Tryz.prog Tryz.f3 (OpenSpec.ofChange Rows.scriptEndsSpec) false w args)
      (Rows.scriptEndsSpec.post enc Tryz.prog Tryz.f3 false true false false) := by
  refine returns_and (C := Tryz.checked) (X := fun w _ => laidMetH Tryz.prog Rows.scriptEndsRow.laid w) (fun _ _ _ hh h => h.of_heap hh) Tryz.own' started (by kernel_rfl) Tryz.func3
    (ChangeSpec.witness_shaped (enc := enc) (C := Tryz.checked) (os := os) (X := fun w _ => laidMetH Tryz.prog Rows.scriptEndsRow.laid w) false (World.laidAll Tryz.prog os Rows.scriptEndsRow.laid) #[.agg #[.int .i64 0, .int .i64 0, .int .i64 0, .int .i64 0, .int .i64 0, .int .i64 0, .int .i64 0, .int .i64 0, .int .i64 0, .int .i64 0, .int .i64 0, .int .i64 0, .int .i64 0, .int .i64 0], .agg #[.int .i64 0, .int .i64 0, .int .i64 0, .int .i64 0, .int .i64 0, .int .i64 0, .int .i64 0, .int .i64 0, .int .i64 0, .int .i64 0, .int .i64 0, .int .i64 0, .int .i64 0, .int .i64 0], .int .u8 0] 8 (World.laidAll_os _ _ _)
      (World.shaped_of_ZipB (by kernel_rfl) (by kernel_rfl)) (by kernel_rfl) (by kernel_rfl) (by kernel_rfl)
      (by rw [MakeChecks.laidMetH_plain _ _ _ (by kernel_rfl)]; exact laidMet_laidAll _ (by kernel_rfl) (by kernel_rfl))) ?_
  intro W base args ds gs before hS hval0 hW _ _ hL _
  have hW' := hW
  obtain ⟨p, q, hA0, hV, hpq, hfz, hnd⟩ := hW
  have hA : DataW.TrodAll enc Tryz.prog W 0 (fun _ => true) true Tryz.f3.params.toList args.toList ds p := hA0
  have hreps := Reps.of endsSh _ _ _ _ ends_fits (fun j t v h1 h2 => hval0 j t v (by simpa using h1) (by simpa using h2)) hA
  have hgs : gs = [] := by
    cases gs with
    | nil => rfl
    | cons _ _ => cases hV
  subst hgs
  obtain ⟨al, rfl⟩ : ∃ al : List Value, args = al.toArray := ⟨args.toList, by simp⟩
  refine ((ends_open W hL hS al (by simpa using hreps)) W (heapF_in W)).mono fun e W' ⟨v, H', he, hR, hi, hs⟩ => ?_
  obtain ⟨rfl, rfl⟩ := hR
  subst he
  have hlen := TrodAll_len hA
  rw [Tryz.params3] at hlen
  obtain ⟨d0, d1, d2, rfl⟩ := len3 hlen
  exact ⟨_, rfl, post_true (tb := 4) Tryz.laidOut' ends_read rfl (by kernel_rfl) rfl hW' rfl rfl rfl (below_of hi hs)⟩
theorem scriptEnds_holds : Rows.ScriptEndsSaid :=
  OpenClaim.holds_of_wide 3 Tryz.f3 rfl rfl rfl rfl rfl rfl rfl ⟨rfl, rfl, rfl, rfl, rfl⟩ rfl rfl rfl rfl rfl (by kernel_rfl) Tryz.func3 joined
    (of_decide_eq_true (by kernel_rfl)) (by unfold Func.isWrapper; first | (rw [if_pos (by decide +kernel)]; kernel_rfl) | (rw [if_neg (by decide +kernel)]; exact ⟨rfl, rfl⟩))
    (fun os started H enc _ => ends_lifted os started H enc)
theorem scriptEndsCard_holds : Rows.ScriptEndsCardSaid :=
  Claim7.holds_tied_plain_at .later [] [.data, .data, .data, .data, .data, .data, .sentinel, .sentinel, .pinned] true (true, "f9ed21141d6fd709387cc18f1b4f5142f0125a4123aeb09a5f6b419bc165545e") true
    scriptEnds_holds (fun _ h => by cases h) (by kernel_rfl) (fun _ h => by cases h) scriptEnds_row_tie rfl ⟨rfl, rfl⟩ (by kernel_rfl) rfl
    (fun f fn hf hfn => by
      obtain rfl : f = 3 := Option.some.inj ((show Tryz.prog.funcNamed "fairlead/fairleadlaw28.ScriptEnds" = some 3 by kernel_rfl).symm.trans hf) |>.symm
      obtain rfl : fn = Tryz.f3 := (Option.some.inj (Tryz.func3.symm.trans hfn)).symm
      exact ⟨by kernel_rfl, fun j t ht => by
        rw [Tryz.params3] at ht
        have hm : t ∈ [23, 23, 5] := by simpa using Array.mem_of_getElem? ht
        have hall : ([23, 23, 5].all fun u => !Tryz.prog.wantsStandIn u) = true := by kernel_rfl
        exact (show Tryz.prog.wantsStandIn t = false by simpa using List.all_eq_true.1 hall t hm)⟩)
    rowGoes
end Go.Proofs.YtkelhlffeilakaaGreatDoor
