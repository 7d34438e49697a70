/- The statement NetNil of the package fairleadlaw27, and its card, proved: whatever the input, the law answers true and leaves its input as it was. No conditions. -/
import Derived.Test.YtlbbgmlmndbecaaGreatDoorCards
import Derived.Test.YtlbbgmlmndbecaaGreatDoorTie
import Derived.Test.YtlbbgmlmndbecaaGreatDoorNnG
import Derived.Test.YtlbbgmlmndbecaaGreatDoorNnS
import Derived.Test.YtlbbgmlmndbecaaGreatDoorNnC
import Derived.SevenTiedAt
namespace Go.Proofs.YtlbbgmlmndbecaaGreatDoor
open Go Go.Sl Go.ChangeShapes Go.WideShapes Go.ChangeAt Go.RowKit

def nilSh : List Sh := [evSh, .int .i64]
theorem netNil_open (W : World) (hL : laidMetH Tryz.prog Rows.netNilRow.laid W) (al : List Value) (h : Reps W nilSh al) : Tr Tryz.prog 3 al.toArray (heapF W) [] (fun v H => v = .bool true ∧ H = []) := by
  obtain ⟨v0, _, _, rfl, e0, h0, _, v1, _, _, rfl, e1, h1, _, rfl⟩ := h
  obtain ⟨e, rfl⟩ := ev_of e0 h0
  obtain ⟨i, rfl, _, _⟩ := shI e1 h1
  exact nilLaw_tr _ (works_ok hL) e i
theorem Tryz.own' : ownKnob Tryz.prog.godebug = none := by kernel_rfl
theorem Tryz.laidOut' : laidOutB Tryz.prog = true := by kernel_rfl
theorem netNil_fits : fitsL Tryz.prog nilSh Tryz.f3.params.toList = true := by rw [Tryz.params3]; kernel_rfl
theorem netNil_read : ∀ t ∈ Tryz.f3.params.toList, Tryz.prog.readableRec t = true ∧ t < Tryz.prog.types.size := by
  have h : (Tryz.f3.params.toList.all fun t => Tryz.prog.readableRec t && decide (t < Tryz.prog.types.size)) = true := by rw [Tryz.params3]; kernel_rfl
  intro t ht
  have := List.all_eq_true.1 h t ht
  simpa using this
theorem door_met (os : Os) (args : Array Value) : laidMetH Tryz.prog Rows.netNilRow.laid ((World.doorLaid Tryz.prog 400 os).forCall (fun _ _ => 0) ⟨#[], args, []⟩).memory :=
  laidMetH_of_parts3 (fuel := 8) (laidMet_of_run' 8 (by kernel_rfl) (by kernel_rfl)) (by kernel_rfl) (by kernel_rfl)
set_option maxRecDepth 100000 in
theorem netNil_lifted (os : Os) (started : os.Started) (H : Type) (enc : TypeId × Value → H) :
    ReturnsInHanded {} Tryz.checked os 3 .any (fun w args => (Rows.netNilSpec.pre enc Tryz.prog Tryz.f3 [] false w args ∧ laidMetH Tryz.prog Rows.netNilRow.laid w) ∧ sizedMet enc Tryz.prog Tryz.f3 (OpenSpec.ofChange Rows.netNilSpec) false w args)
      (Rows.netNilSpec.post enc Tryz.prog Tryz.f3 false true false false) := by
  refine returnsInHanded_of_change_and (C := Tryz.checked) (X := fun w _ => laidMetH Tryz.prog Rows.netNilRow.laid w) (fun _ _ _ hh h => h.of_heap hh) Tryz.own' started (by kernel_rfl) Tryz.func3
    (ChangeSpec.witness_shaped (enc := enc) (C := Tryz.checked) (os := os) (X := fun w _ => laidMetH Tryz.prog Rows.netNilRow.laid w) false (World.doorLaid Tryz.prog 400 os) #[.agg #[.int .u8 0, .int .u8 0, .bool false, .bool false, .int .u16 0, .int .i64 0, .int .i64 0, .int .i64 0, .slice none 0 0], .int .i64 0] 8 rfl (World.shaped_of_RefB (by kernel_rfl) (by kernel_rfl)) (by kernel_rfl) (by kernel_rfl) (by kernel_rfl) (door_met os _)) ?_
  intro W base args ds gs before hval0 hW _ _ hL _
  have hW' := hW
  obtain ⟨p, q, hA0, hV, hpq, hfz, hnd⟩ := hW
  have hA : DataW.TrodAll enc Tryz.prog W 0 (fun _ => true) true Tryz.f3.params.toList args.toList ds p := hA0
  have hreps := Reps.of nilSh _ _ _ _ netNil_fits (fun j t v h1 h2 => hval0 j t v (by simpa using h1) (by simpa using h2)) hA
  have hgs : gs = [] := by
    cases gs with
    | nil => rfl
    | cons _ _ => cases hV
  subst hgs
  obtain ⟨al, rfl⟩ : ∃ al : List Value, args = al.toArray := ⟨args.toList, by simp⟩
  refine ((netNil_open W hL al (by simpa using hreps)) W (heapF_in W)).mono fun e W' ⟨v, H', he, hR, hi, hs⟩ => ?_
  obtain ⟨rfl, rfl⟩ := hR
  subst he
  have hlen := TrodAll_len hA
  rw [Tryz.params3] at hlen
  obtain ⟨d0, d1, rfl⟩ := len2 hlen
  exact ⟨_, rfl, post_true (tb := 4) Tryz.laidOut' netNil_read rfl (by kernel_rfl) rfl hW' rfl rfl rfl (below_of hi hs)⟩
theorem netNil_holds : Rows.NetNilSaid :=
  OpenClaim.holds_of_wide 3 Tryz.f3 rfl rfl rfl rfl rfl rfl rfl ⟨rfl, rfl, rfl, rfl, rfl⟩ rfl rfl rfl rfl rfl (by kernel_rfl) Tryz.func3 joined
    (of_decide_eq_true (by kernel_rfl)) (by unfold Func.isWrapper; first | (rw [if_pos (by decide +kernel)]; kernel_rfl) | (rw [if_neg (by decide +kernel)]; exact ⟨rfl, rfl⟩))
    (fun os started H enc _ => netNil_lifted os started H enc)
theorem netNilCard_holds : Rows.NetNilCardSaid :=
  Claim7.holds_tied_plain_at .later [] [.data, .data] true (true, "1039e3f0c18b7e0f81e14baf21478f723b66cc29c2535f3ad2fd08955176303e") false
    netNil_holds (fun _ h => by cases h) (by kernel_rfl) (fun _ h => by cases h) netNil_row_tie rfl ⟨rfl, rfl⟩ (by kernel_rfl) rfl
    (fun f fn hf hfn => by
      obtain rfl : f = 3 := Option.some.inj ((show Tryz.prog.funcNamed "fairlead/fairleadlaw27.NetNil" = some 3 by kernel_rfl).symm.trans hf) |>.symm
      obtain rfl : fn = Tryz.f3 := (Option.some.inj (Tryz.func3.symm.trans hfn)).symm
      exact ⟨by kernel_rfl, fun j t ht => by
        rw [Tryz.params3] at ht
        have hm : t ∈ [25, 3] := by simpa using Array.mem_of_getElem? ht
        have hall : ([25, 3].all fun u => !Tryz.prog.wantsStandIn u) = true := by kernel_rfl
        exact (show Tryz.prog.wantsStandIn t = false by simpa using List.all_eq_true.1 hall t hm)⟩)
    (by kernel_rfl)
end Go.Proofs.YtlbbgmlmndbecaaGreatDoor
