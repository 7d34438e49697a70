/- The law SendqNil, walked: where there is no sender nothing is sent. Condition: what the thing done is in memory. -/
import Derived.Test.YtjbinhihkfidoaaGreatSnX
namespace Go.Proofs.YtjbinhihkfidoaaGreat
open Go Go.Sl Go.Pth

theorem vast_small {F : Nat → Option Obj} {o : Ov} {bs : List UInt8} {gs : List (Nat × Nat)} (ho : o.Is F bs gs) (h : vast [o] = false) : bs.length ≤ 1000000000 ∧ gs.length ≤ 1000 := by
  have := ho.bn
  have := ho.kn
  unfold vast vastG at h
  simp at h
  omega
set_option maxHeartbeats 4000000 in
theorem nilLaw_tr (F : Nat → Option Obj) (o : Ov) (bs : List UInt8) (gs : List (Nat × Nat)) (ho : o.Is F bs gs) : Tr Tryz.prog 6 [.agg o.cells.toArray].toArray F [] (fun v H => v = .bool true ∧ H = []) := by
  refine Tr.enter Tryz.func6 rfl Tryz.ntmps6 rfl (fun w0 => ?_)
  unfold Ov.cells
  repeat' (first | refine S1 ?_ | refine SD ?_ | refine SA (fun _ => ?_) | refine WL.g_split rfl rfl (fun hc => ?_) (fun hc => ?_) | refine WD.g_split rfl rfl (fun hc => ?_) (fun hc => ?_) | refine W.cond rfl (fun hc => ?_) (fun hc => ?_))
  rename_i b1 b7
  refine WL.e rfl (Ef.callR (c := [(b7, _)]) (by exact rfl) subA (vast_tr _ _ [o] (some ⟨b7, 0, none⟩) 1 1 ⟨rfl, Nat.le_refl _, fun _ => ⟨b7, 0, rfl, Can.cut (n := 10) (.here rfl)⟩, fun h => by cases h⟩)) ?_
  rintro _ _ ⟨rfl, rfl⟩
  obtain ⟨va, hva⟩ : ∃ va, True ∧ vast [o] = va := ⟨_, trivial, rfl⟩
  rw [hva.2]
  cases va with
  | true =>
    repeat' (first | refine S1 ?_ | refine SD ?_ | refine SA (fun _ => ?_) | refine WL.g_split rfl rfl (fun hc => ?_) (fun hc => ?_) | refine WD.g_split rfl rfl (fun hc => ?_) (fun hc => ?_) | refine W.cond rfl (fun hc => ?_) (fun hc => ?_))
    refine WL.e rfl (Ef.callR (by exact rfl) (.nil _) (works_tr _)) ?_
    rintro _ _ ⟨rfl, rfl⟩
    repeat' (first | refine S1 ?_ | refine SD ?_ | refine SA (fun _ => ?_) | refine WL.g_split rfl rfl (fun hc => ?_) (fun hc => ?_) | refine WD.g_split rfl rfl (fun hc => ?_) (fun hc => ?_) | refine W.cond rfl (fun hc => ?_) (fun hc => ?_))
    exact Fin.retW (by exact rfl) resA (H' := []) (fun _ h => h.sublist (List.nil_sublist _)) ⟨rfl, rfl⟩
  | false =>
    have hsm := vast_small ho hva.2
    repeat' (first | refine S1 ?_ | refine SD ?_ | refine SA (fun _ => ?_) | refine WL.g_split rfl rfl (fun hc => ?_) (fun hc => ?_) | refine WD.g_split rfl rfl (fun hc => ?_) (fun hc => ?_) | refine W.cond rfl (fun hc => ?_) (fun hc => ?_))
    refine WL.e rfl (Ef.callFR (by exact rfl) (.nil _) (fun hd => does_nil _ o bs gs (ho.mono (fun _ h => addF_in hd h)) 0 5 hsm.1 hsm.2)) ?_
    rintro _ _ ⟨rfl, rfl⟩
    unfold toldV nilS
    by_cases hk : o.kind = 0 ∨ o.kind = 1
    · rw [if_pos hk]
      repeat' (first | refine S1 ?_ | refine SD ?_ | refine SA (fun _ => ?_) | refine WL.g_split rfl rfl (fun hc => ?_) (fun hc => ?_) | refine WD.g_split rfl rfl (fun hc => ?_) (fun hc => ?_) | refine W.cond rfl (fun hc => ?_) (fun hc => ?_))
      refine WL.e rfl (Ef.callR (by exact rfl) (.nil _) (swhen_nil _)) ?_
      rintro _ _ ⟨rfl, rfl⟩
      dsimp only [tup]
      repeat' (first | refine S1 ?_ | refine SD ?_ | refine SA (fun _ => ?_) | refine WL.g_split rfl rfl (fun hc => ?_) (fun hc => ?_) | refine WD.g_split rfl rfl (fun hc => ?_) (fun hc => ?_) | refine W.cond rfl (fun hc => ?_) (fun hc => ?_))
      refine WL.e rfl (Ef.callR (by exact rfl) (.nil _) (spath_nil _ 0)) ?_
      rintro _ _ ⟨rfl, rfl⟩
      dsimp only [tup]
      repeat' (first | refine S1 ?_ | refine SD ?_ | refine SA (fun _ => ?_) | refine WL.g_split rfl rfl (fun hc => ?_) (fun hc => ?_) | refine WD.g_split rfl rfl (fun hc => ?_) (fun hc => ?_) | refine W.cond rfl (fun hc => ?_) (fun hc => ?_))
      all_goals
        refine WL.e rfl (Ef.callR (by exact rfl) (.nil _) (sempty_nil _)) ?_
        rintro _ _ ⟨rfl, rfl⟩
        repeat' (first | refine S1 ?_ | refine SD ?_ | refine SA (fun _ => ?_) | refine WL.g_split rfl rfl (fun hc => ?_) (fun hc => ?_) | refine WD.g_split rfl rfl (fun hc => ?_) (fun hc => ?_) | refine W.cond rfl (fun hc => ?_) (fun hc => ?_))
        refine WL.e rfl (Ef.callR (by exact rfl) (.nil _) (sroom_nil _)) ?_
        rintro _ _ ⟨rfl, rfl⟩
        repeat' (first | refine S1 ?_ | refine SD ?_ | refine SA (fun _ => ?_) | refine WL.g_split rfl rfl (fun hc => ?_) (fun hc => ?_) | refine WD.g_split rfl rfl (fun hc => ?_) (fun hc => ?_) | refine W.cond rfl (fun hc => ?_) (fun hc => ?_))
        refine WL.e rfl (Ef.callR (by exact rfl) (.nil _) (works_tr _)) ?_
        rintro _ _ ⟨rfl, rfl⟩
        repeat' (first | refine S1 ?_ | refine SD ?_ | refine SA (fun _ => ?_) | refine WL.g_split rfl rfl (fun hc => ?_) (fun hc => ?_) | refine WD.g_split rfl rfl (fun hc => ?_) (fun hc => ?_) | refine W.cond rfl (fun hc => ?_) (fun hc => ?_))
        exact Fin.retW (by exact rfl) resA (H' := []) (fun _ h => h.sublist (List.nil_sublist _)) ⟨rfl, rfl⟩
    · rw [if_neg hk]
      repeat' (first | refine S1 ?_ | refine SD ?_ | refine SA (fun _ => ?_) | refine WL.g_split rfl rfl (fun hc => ?_) (fun hc => ?_) | refine WD.g_split rfl rfl (fun hc => ?_) (fun hc => ?_) | refine W.cond rfl (fun hc => ?_) (fun hc => ?_))
      refine WL.e rfl (Ef.callR (by exact rfl) (.nil _) (swhen_nil _)) ?_
      rintro _ _ ⟨rfl, rfl⟩
      dsimp only [tup]
      repeat' (first | refine S1 ?_ | refine SD ?_ | refine SA (fun _ => ?_) | refine WL.g_split rfl rfl (fun hc => ?_) (fun hc => ?_) | refine WD.g_split rfl rfl (fun hc => ?_) (fun hc => ?_) | refine W.cond rfl (fun hc => ?_) (fun hc => ?_))
      refine WL.e rfl (Ef.callR (by exact rfl) (.nil _) (spath_nil _ 0)) ?_
      rintro _ _ ⟨rfl, rfl⟩
      dsimp only [tup]
      repeat' (first | refine S1 ?_ | refine SD ?_ | refine SA (fun _ => ?_) | refine WL.g_split rfl rfl (fun hc => ?_) (fun hc => ?_) | refine WD.g_split rfl rfl (fun hc => ?_) (fun hc => ?_) | refine W.cond rfl (fun hc => ?_) (fun hc => ?_))
      · exact absurd (.inl (by simpa using ‹(o.kind == 0) = true›)) hk
      ·
        refine WL.e rfl (Ef.callR (by exact rfl) (.nil _) (sempty_nil _)) ?_
        rintro _ _ ⟨rfl, rfl⟩
        repeat' (first | refine S1 ?_ | refine SD ?_ | refine SA (fun _ => ?_) | refine WL.g_split rfl rfl (fun hc => ?_) (fun hc => ?_) | refine WD.g_split rfl rfl (fun hc => ?_) (fun hc => ?_) | refine W.cond rfl (fun hc => ?_) (fun hc => ?_))
        refine WL.e rfl (Ef.callR (by exact rfl) (.nil _) (sroom_nil _)) ?_
        rintro _ _ ⟨rfl, rfl⟩
        repeat' (first | refine S1 ?_ | refine SD ?_ | refine SA (fun _ => ?_) | refine WL.g_split rfl rfl (fun hc => ?_) (fun hc => ?_) | refine WD.g_split rfl rfl (fun hc => ?_) (fun hc => ?_) | refine W.cond rfl (fun hc => ?_) (fun hc => ?_))
        refine WL.e rfl (Ef.callR (by exact rfl) (.nil _) (works_tr _)) ?_
        rintro _ _ ⟨rfl, rfl⟩
        repeat' (first | refine S1 ?_ | refine SD ?_ | refine SA (fun _ => ?_) | refine WL.g_split rfl rfl (fun hc => ?_) (fun hc => ?_) | refine WD.g_split rfl rfl (fun hc => ?_) (fun hc => ?_) | refine W.cond rfl (fun hc => ?_) (fun hc => ?_))
        exact Fin.retW (by exact rfl) resA (H' := []) (fun _ h => h.sublist (List.nil_sublist _)) ⟨rfl, rfl⟩
      · exact absurd (.inr (by simpa using ‹(!(o.kind == 1)) = false›)) hk
end Go.Proofs.YtjbinhihkfidoaaGreat
