/- The law EndNil, walked: where there is no end nothing is done. Conditions: what the thing done is in memory, and what the law's run answers. -/
import Derived.Test.YtpiabbfckfoppaaGreatDoorEnX
namespace Go.Proofs.YtpiabbfckfoppaaGreatDoor
open Go Go.Sl

theorem same_nil (F : Nat → Option Obj) : Tr Tryz.prog 9 [msg0, msg0].toArray F [] (fun v H => v = .bool true ∧ H = []) := by
  refine Tr.enter Tryz.func9 rfl Tryz.ntmps9 rfl (fun w0 => ?_)
  unfold msg0
  repeat' (first | refine S2b ?_ | refine SD ?_ | refine SA (fun _ => ?_) | refine G1 (fun hc => ?_) (fun hc => ?_) | refine G2 (fun hc => ?_) (fun hc => ?_) | refine G3 (fun hc => ?_) (fun hc => ?_) | refine SL ?_ | fail)
  refine WL.s rfl (Rd.cvBS (m := 0) (bs := []) rfl Src.nil rfl) ?_
  repeat' (first | refine S2b ?_ | refine SD ?_ | refine SA (fun _ => ?_) | refine G1 (fun hc => ?_) (fun hc => ?_) | refine G2 (fun hc => ?_) (fun hc => ?_) | refine G3 (fun hc => ?_) (fun hc => ?_) | refine SL ?_ | fail)
  refine WL.s rfl (Rd.cvBS (m := 0) (bs := []) rfl Src.nil rfl) ?_
  repeat' (first | refine S2b ?_ | refine SD ?_ | refine SA (fun _ => ?_) | refine G1 (fun hc => ?_) (fun hc => ?_) | refine G2 (fun hc => ?_) (fun hc => ?_) | refine G3 (fun hc => ?_) (fun hc => ?_) | refine SL ?_ | fail)
  refine WL.p rfl (Pu.eqS rfl rfl) ?_
  rw [beq_self_eq_true]
  repeat' (first | refine S2b ?_ | refine SD ?_ | refine SA (fun _ => ?_) | refine G1 (fun hc => ?_) (fun hc => ?_) | refine G2 (fun hc => ?_) (fun hc => ?_) | refine G3 (fun hc => ?_) (fun hc => ?_) | refine SL ?_ | fail)
  exact Fin.retW (by exact rfl) resA (H' := []) (fun _ h => h.sublist (List.nil_sublist _)) ⟨rfl, rfl⟩
theorem vast_small {F : Nat → Option Obj} {o : Ov} {bs ks : List UInt8} (ho : o.Is F bs ks) (h : vast [o] = false) : bs.length ≤ 1000000000 ∧ ks.length ≤ 1000000000 := by
  have := ho.bn
  have := ho.kn
  unfold vast vastG at h
  simp at h
  omega
/-- the globals, as they lie -/
def WorksOk (F : Nat → Option Obj) : Prop := ∀ Hr : HL, (∀ p ∈ Hr, F p.1 = none) → Tr Tryz.prog 5 ([] : List Value).toArray (addF F Hr) [] (fun v _ => v = .bool true)
set_option maxHeartbeats 8000000 in
theorem nilLaw_tr (F : Nat → Option Obj) (hG : WorksOk F) (o : Ov) (bs ks : List UInt8) (ho : o.Is F bs ks) : Tr Tryz.prog 3 [.agg o.cells.toArray].toArray F [] (fun v H => v = .bool true ∧ H = []) := by
  refine Tr.enter Tryz.func3 rfl Tryz.ntmps3 rfl (fun w0 => ?_)
  unfold Ov.cells
  repeat' (first | refine S2b ?_ | refine SD ?_ | refine SA (fun _ => ?_) | refine G1 (fun hc => ?_) (fun hc => ?_) | refine G2 (fun hc => ?_) (fun hc => ?_) | refine G3 (fun hc => ?_) (fun hc => ?_) | refine SL ?_ | fail)
  rename_i b1 b7
  refine WL.e rfl (Ef.callR (c := [(b7, _)]) (by exact rfl) subA (vast_tr _ _ [o] (some ⟨b7, 0, none⟩) 1 1 ⟨rfl, Nat.le_refl _, fun _ => ⟨b7, 0, rfl, Can.cut (n := 14) (.here rfl)⟩, fun h => by cases h⟩)) ?_
  rintro _ _ ⟨rfl, rfl⟩
  obtain ⟨va, hva⟩ : ∃ va, True ∧ vast [o] = va := ⟨_, trivial, rfl⟩
  rw [hva.2]
  cases va with
  | true =>
    repeat' (first | refine S2b ?_ | refine SD ?_ | refine SA (fun _ => ?_) | refine G1 (fun hc => ?_) (fun hc => ?_) | refine G2 (fun hc => ?_) (fun hc => ?_) | refine G3 (fun hc => ?_) (fun hc => ?_) | refine SL ?_ | fail)
    refine WL.e rfl (Ef.callF (by exact rfl) (.nil _) (fun hd => hG _ hd)) ?_
    rintro _ _ ⟨_, rfl, rfl⟩
    repeat' (first | refine S2b ?_ | refine SD ?_ | refine SA (fun _ => ?_) | refine G1 (fun hc => ?_) (fun hc => ?_) | refine G2 (fun hc => ?_) (fun hc => ?_) | refine G3 (fun hc => ?_) (fun hc => ?_) | refine SL ?_ | fail)
    exact Fin.retW (by exact rfl) resA (H' := []) (fun _ h => h.sublist (List.nil_sublist _)) ⟨rfl, rfl⟩
  | false =>
    have hsm := vast_small ho hva.2
    repeat' (first | refine S2b ?_ | refine SD ?_ | refine SA (fun _ => ?_) | refine G1 (fun hc => ?_) (fun hc => ?_) | refine G2 (fun hc => ?_) (fun hc => ?_) | refine G3 (fun hc => ?_) (fun hc => ?_) | refine SL ?_ | fail)
    refine WL.e rfl (Ef.callFR (by exact rfl) (.nil _) (fun hd => does_nil _ o bs ks (ho.mono (fun _ h => addF_in hd h)) 5 hsm.1 hsm.2)) ?_
    rintro _ _ ⟨rfl, rfl⟩
    dsimp only [tup, msg0]
    cases hr : refused o.kind with
    | true =>
      rw [if_pos rfl]
      repeat' (first | refine S2b ?_ | refine SD ?_ | refine SA (fun _ => ?_) | refine G1 (fun hc => ?_) (fun hc => ?_) | refine G2 (fun hc => ?_) (fun hc => ?_) | refine G3 (fun hc => ?_) (fun hc => ?_) | refine SL ?_ | fail)
      refine WL.e rfl (Ef.callR (by exact rfl) (.nil _) (ewhen_nil _)) ?_
      rintro _ _ ⟨rfl, rfl⟩
      dsimp only [tup]
      repeat' (first | refine S2b ?_ | refine SD ?_ | refine SA (fun _ => ?_) | refine G1 (fun hc => ?_) (fun hc => ?_) | refine G2 (fun hc => ?_) (fun hc => ?_) | refine G3 (fun hc => ?_) (fun hc => ?_) | refine SL ?_ | fail)
      refine WL.e rfl (Ef.callR (by exact rfl) (.nil _) (epath_nil _ o.path)) ?_
      rintro _ _ ⟨rfl, rfl⟩
      dsimp only [tup]
      repeat' (first | refine S2b ?_ | refine SD ?_ | refine SA (fun _ => ?_) | refine G1 (fun hc => ?_) (fun hc => ?_) | refine G2 (fun hc => ?_) (fun hc => ?_) | refine G3 (fun hc => ?_) (fun hc => ?_) | refine SL ?_ | fail)
      any_goals (exfalso; simp_all [refused]; done)
      all_goals
        refine WL.e rfl (Ef.callR (by exact rfl) (.nil _) (same_nil _)) ?_
        rintro _ _ ⟨rfl, rfl⟩
        repeat' (first | refine S2b ?_ | refine SD ?_ | refine SA (fun _ => ?_) | refine G1 (fun hc => ?_) (fun hc => ?_) | refine G2 (fun hc => ?_) (fun hc => ?_) | refine G3 (fun hc => ?_) (fun hc => ?_) | refine SL ?_ | fail)
        refine WL.e rfl (Ef.callR (by exact rfl) (.nil _) (estate_nil _)) ?_
        rintro _ _ ⟨rfl, rfl⟩
        repeat' (first | refine S2b ?_ | refine SD ?_ | refine SA (fun _ => ?_) | refine G1 (fun hc => ?_) (fun hc => ?_) | refine G2 (fun hc => ?_) (fun hc => ?_) | refine G3 (fun hc => ?_) (fun hc => ?_) | refine SL ?_ | fail)
        refine WL.e rfl (Ef.callR (by exact rfl) (.nil _) (eoutput_nil _)) ?_
        rintro _ _ ⟨rfl, rfl⟩
        repeat' (first | refine S2b ?_ | refine SD ?_ | refine SA (fun _ => ?_) | refine G1 (fun hc => ?_) (fun hc => ?_) | refine G2 (fun hc => ?_) (fun hc => ?_) | refine G3 (fun hc => ?_) (fun hc => ?_) | refine SL ?_ | fail)
        refine WL.e rfl (Ef.callR (by exact rfl) (.nil _) (eheld_nil _)) ?_
        rintro _ _ ⟨rfl, rfl⟩
        repeat' (first | refine S2b ?_ | refine SD ?_ | refine SA (fun _ => ?_) | refine G1 (fun hc => ?_) (fun hc => ?_) | refine G2 (fun hc => ?_) (fun hc => ?_) | refine G3 (fun hc => ?_) (fun hc => ?_) | refine SL ?_ | fail)
        refine WL.e rfl (Ef.callF (by exact rfl) (.nil _) (fun hd => hG _ hd)) ?_
        rintro _ _ ⟨_, rfl, rfl⟩
        repeat' (first | refine S2b ?_ | refine SD ?_ | refine SA (fun _ => ?_) | refine G1 (fun hc => ?_) (fun hc => ?_) | refine G2 (fun hc => ?_) (fun hc => ?_) | refine G3 (fun hc => ?_) (fun hc => ?_) | refine SL ?_ | fail)
        exact Fin.retW (by exact rfl) resA (H' := []) (fun _ h => h.sublist (List.nil_sublist _)) ⟨rfl, rfl⟩
    | false =>
      rw [if_neg (by simp)]
      repeat' (first | refine S2b ?_ | refine SD ?_ | refine SA (fun _ => ?_) | refine G1 (fun hc => ?_) (fun hc => ?_) | refine G2 (fun hc => ?_) (fun hc => ?_) | refine G3 (fun hc => ?_) (fun hc => ?_) | refine SL ?_ | fail)
      refine WL.e rfl (Ef.callR (by exact rfl) (.nil _) (ewhen_nil _)) ?_
      rintro _ _ ⟨rfl, rfl⟩
      dsimp only [tup]
      repeat' (first | refine S2b ?_ | refine SD ?_ | refine SA (fun _ => ?_) | refine G1 (fun hc => ?_) (fun hc => ?_) | refine G2 (fun hc => ?_) (fun hc => ?_) | refine G3 (fun hc => ?_) (fun hc => ?_) | refine SL ?_ | fail)
      refine WL.e rfl (Ef.callR (by exact rfl) (.nil _) (epath_nil _ o.path)) ?_
      rintro _ _ ⟨rfl, rfl⟩
      dsimp only [tup]
      repeat' (first | refine S2b ?_ | refine SD ?_ | refine SA (fun _ => ?_) | refine G1 (fun hc => ?_) (fun hc => ?_) | refine G2 (fun hc => ?_) (fun hc => ?_) | refine G3 (fun hc => ?_) (fun hc => ?_) | refine SL ?_ | fail)
      any_goals (exfalso; simp_all [refused]; done)
      all_goals
        refine WL.e rfl (Ef.callR (by exact rfl) (.nil _) (same_nil _)) ?_
        rintro _ _ ⟨rfl, rfl⟩
        repeat' (first | refine S2b ?_ | refine SD ?_ | refine SA (fun _ => ?_) | refine G1 (fun hc => ?_) (fun hc => ?_) | refine G2 (fun hc => ?_) (fun hc => ?_) | refine G3 (fun hc => ?_) (fun hc => ?_) | refine SL ?_ | fail)
        refine WL.e rfl (Ef.callR (by exact rfl) (.nil _) (estate_nil _)) ?_
        rintro _ _ ⟨rfl, rfl⟩
        repeat' (first | refine S2b ?_ | refine SD ?_ | refine SA (fun _ => ?_) | refine G1 (fun hc => ?_) (fun hc => ?_) | refine G2 (fun hc => ?_) (fun hc => ?_) | refine G3 (fun hc => ?_) (fun hc => ?_) | refine SL ?_ | fail)
        refine WL.e rfl (Ef.callR (by exact rfl) (.nil _) (eoutput_nil _)) ?_
        rintro _ _ ⟨rfl, rfl⟩
        repeat' (first | refine S2b ?_ | refine SD ?_ | refine SA (fun _ => ?_) | refine G1 (fun hc => ?_) (fun hc => ?_) | refine G2 (fun hc => ?_) (fun hc => ?_) | refine G3 (fun hc => ?_) (fun hc => ?_) | refine SL ?_ | fail)
        refine WL.e rfl (Ef.callR (by exact rfl) (.nil _) (eheld_nil _)) ?_
        rintro _ _ ⟨rfl, rfl⟩
        repeat' (first | refine S2b ?_ | refine SD ?_ | refine SA (fun _ => ?_) | refine G1 (fun hc => ?_) (fun hc => ?_) | refine G2 (fun hc => ?_) (fun hc => ?_) | refine G3 (fun hc => ?_) (fun hc => ?_) | refine SL ?_ | fail)
        refine WL.e rfl (Ef.callF (by exact rfl) (.nil _) (fun hd => hG _ hd)) ?_
        rintro _ _ ⟨_, rfl, rfl⟩
        repeat' (first | refine S2b ?_ | refine SD ?_ | refine SA (fun _ => ?_) | refine G1 (fun hc => ?_) (fun hc => ?_) | refine G2 (fun hc => ?_) (fun hc => ?_) | refine G3 (fun hc => ?_) (fun hc => ?_) | refine SL ?_ | fail)
        exact Fin.retW (by exact rfl) resA (H' := []) (fun _ h => h.sublist (List.nil_sublist _)) ⟨rfl, rfl⟩
end Go.Proofs.YtpiabbfckfoppaaGreatDoor
