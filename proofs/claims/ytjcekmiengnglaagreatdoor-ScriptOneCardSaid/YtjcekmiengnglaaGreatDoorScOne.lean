/- The statement ScriptOne of the package fairleadlaw28, and its card, proved: whatever the input, the law answers true and leaves its input as it was. No conditions. -/
import Derived.Test.YtjcekmiengnglaaGreatDoorCards
import Derived.Test.YtjcekmiengnglaaGreatDoorTie
import Derived.Test.YtjcekmiengnglaaGreatDoorScG
import Derived.Test.YtjcekmiengnglaaGreatDoorScC
import Derived.Test.YtjcekmiengnglaaGreatDoorScH
import Derived.Test.YtjcekmiengnglaaGreatDoorSuF
import Derived.Test.YtjcekmiengnglaaGreatDoorBuI
import Derived.Test.YtjcekmiengnglaaGreatDoorStY
import Derived.SevenTiedAt
import Derived.LaidOnce
namespace Go.Proofs.YtjcekmiengnglaaGreatDoor
open Go Go.Sl Go.Scr Go.ChangeShapes Go.WideShapes Go.ChangeAt Go.RowKit

def oneSh : List Sh := [.str, .str]
theorem str_of {w : World} {v : Value} {cs : List Value} (hv : Sh.str.val v cs) (h : Sh.str.rep w cs) : ∃ a : Str, v = S a := by
  simp only [Sh.rep] at h
  obtain ⟨s, rfl, _⟩ := h
  have hv' : v = .string s := by simpa [Sh.val] using hv.symm
  rw [hv']
  exact ⟨s.data.toList, congrArg Value.string (strB_eq s)⟩
theorem one_open (W : World) (hL : laidMetH Tryz.prog Rows.scriptOneRow.laid W) (hS : W.ShapedOpen Tryz.prog) (al : List Value) (h : Reps W oneSh al) : Tr Tryz.prog 3 al.toArray (heapF W) [] (fun v H => v = .bool true ∧ H = []) := by
  obtain ⟨v0, _, _, rfl, e0, h0, _, v1, _, _, rfl, e1, h1, _, rfl⟩ := h
  obtain ⟨a, rfl⟩ := str_of e0 h0
  obtain ⟨b, rfl⟩ := str_of e1 h1
  obtain ⟨hG, hGF⟩ := laid_ok hL hS
  exact one_tr _ hG (works_ok hG hGF) a b
theorem Tryz.own' : ownKnob Tryz.prog.godebug = none := by kernel_rfl
theorem Tryz.laidOut' : laidOutB Tryz.prog = true := by kernel_rfl
theorem one_fits : fitsL Tryz.prog oneSh Tryz.f3.params.toList = true := by rw [Tryz.params3]; kernel_rfl
theorem one_read : ∀ t ∈ Tryz.f3.params.toList, Tryz.prog.readableRec t = true ∧ t < Tryz.prog.types.size := by
  have h : (Tryz.f3.params.toList.all fun t => Tryz.prog.readableRec t && decide (t < Tryz.prog.types.size)) = true := by rw [Tryz.params3]; kernel_rfl
  intro t ht
  have := List.all_eq_true.1 h t ht
  simpa using this
set_option maxRecDepth 100000 in
theorem one_lifted (os : Os) (started : os.Started) (H : Type) (enc : TypeId × Value → H) :
    ReturnsInHanded {} Tryz.checked os 3 .any (fun w args => (Rows.scriptOneSpec.pre enc Tryz.prog Tryz.f3 [] false w args ∧ laidMetH Tryz.prog Rows.scriptOneRow.laid w) ∧ sizedMet enc Tryz.prog Tryz.f3 (OpenSpec.ofChange Rows.scriptOneSpec) false w args)
      (Rows.scriptOneSpec.post enc Tryz.prog Tryz.f3 false true false false) := by
  refine returns_and (C := Tryz.checked) (X := fun w _ => laidMetH Tryz.prog Rows.scriptOneRow.laid w) (fun _ _ _ hh h => h.of_heap hh) Tryz.own' started (by kernel_rfl) Tryz.func3
    (ChangeSpec.witness_shaped (enc := enc) (C := Tryz.checked) (os := os) (X := fun w _ => laidMetH Tryz.prog Rows.scriptOneRow.laid w) false (World.laidAll Tryz.prog os Rows.scriptOneRow.laid) #[.string ⟨#[]⟩, .string ⟨#[]⟩] 8 (World.laidAll_os _ _ _)
      (World.shaped_of_ZipB (by kernel_rfl) (by kernel_rfl)) (by kernel_rfl) (by kernel_rfl) (by kernel_rfl)
      (by rw [MakeChecks.laidMetH_plain _ _ _ (by kernel_rfl)]; exact laidMet_laidAll _ (by kernel_rfl) (by kernel_rfl))) ?_
  intro W base args ds gs before hS hval0 hW _ _ hL _
  have hW' := hW
  obtain ⟨p, q, hA0, hV, hpq, hfz, hnd⟩ := hW
  have hA : DataW.TrodAll enc Tryz.prog W 0 (fun _ => true) true Tryz.f3.params.toList args.toList ds p := hA0
  have hreps := Reps.of oneSh _ _ _ _ one_fits (fun j t v h1 h2 => hval0 j t v (by simpa using h1) (by simpa using h2)) hA
  have hgs : gs = [] := by
    cases gs with
    | nil => rfl
    | cons _ _ => cases hV
  subst hgs
  obtain ⟨al, rfl⟩ : ∃ al : List Value, args = al.toArray := ⟨args.toList, by simp⟩
  refine ((one_open W hL hS al (by simpa using hreps)) W (heapF_in W)).mono fun e W' ⟨v, H', he, hR, hi, hs⟩ => ?_
  obtain ⟨rfl, rfl⟩ := hR
  subst he
  have hlen := TrodAll_len hA
  rw [Tryz.params3] at hlen
  obtain ⟨d0, d1, rfl⟩ := len2 hlen
  exact ⟨_, rfl, post_true (tb := 4) Tryz.laidOut' one_read rfl (by kernel_rfl) rfl hW' rfl rfl rfl (below_of hi hs)⟩
theorem scriptOne_holds : Rows.ScriptOneSaid :=
  OpenClaim.holds_of_wide 3 Tryz.f3 rfl rfl rfl rfl rfl rfl rfl ⟨rfl, rfl, rfl, rfl, rfl⟩ rfl rfl rfl rfl rfl (by kernel_rfl) Tryz.func3 joined
    (of_decide_eq_true (by kernel_rfl)) (by unfold Func.isWrapper; first | (rw [if_pos (by decide +kernel)]; kernel_rfl) | (rw [if_neg (by decide +kernel)]; exact ⟨rfl, rfl⟩))
    (fun os started H enc _ => one_lifted os started H enc)
theorem scriptOneCard_holds : Rows.ScriptOneCardSaid :=
  Claim7.holds_tied_plain_at .later [] [.data, .data, .data, .data, .data, .data, .sentinel, .sentinel, .pinned] true (true, "6e7201eaa8c63614b855755d6ba7a3e7bb2e212effc5558d4843290fa5a5fffe") true
    scriptOne_holds (fun _ h => by cases h) (by kernel_rfl) (fun _ h => by cases h) scriptOne_row_tie rfl ⟨rfl, rfl⟩ (by kernel_rfl) rfl
    (fun f fn hf hfn => by
      obtain rfl : f = 3 := Option.some.inj ((show Tryz.prog.funcNamed "fairlead/fairleadlaw28.ScriptOne" = some 3 by kernel_rfl).symm.trans hf) |>.symm
      obtain rfl : fn = Tryz.f3 := (Option.some.inj (Tryz.func3.symm.trans hfn)).symm
      exact ⟨by kernel_rfl, fun j t ht => by
        rw [Tryz.params3] at ht
        have hm : t ∈ [9, 9] := by simpa using Array.mem_of_getElem? ht
        have hall : ([9, 9].all fun u => !Tryz.prog.wantsStandIn u) = true := by kernel_rfl
        exact (show Tryz.prog.wantsStandIn t = false by simpa using List.all_eq_true.1 hall t hm)⟩)
    rowGoes
end Go.Proofs.YtjcekmiengnglaaGreatDoor
