/- The law RecvqNil, walked: where there is no receiver nothing is taken. Condition: what the thing done is in memory. -/
import Derived.Test.YthjglhdjlmjffaaRcF
import Derived.Test.YthjglhdjlmjffaaTsS
namespace Go.Proofs.Ythjglhdjlmjffaa
open Go Go.Sl Go.Rm

theorem vast_small {F : Nat → Option Obj} {o : Ov} {bs : List UInt8} {ks : List Sk} (ho : o.Is F bs ks) (h : vast [o] = false) : bs.length ≤ 1000000000 := by
  have := ho.bn
  unfold vast vastG at h
  simp at h
  omega
set_option maxHeartbeats 4000000 in
theorem nil_tr (F : Nat → Option Obj) (o : Ov) (bs : List UInt8) (ks : List Sk) (ho : o.Is F bs ks) : Tr Try.prog 6 [.agg o.cells.toArray].toArray F [] (fun v H => v = .bool true ∧ H = []) := by
  refine Tr.enter Try.func6 rfl Try.ntmps6 rfl (fun w0 => ?_)
  unfold Ov.cells
  repeat' (first | refine S1 ?_ | refine SD ?_ | refine SA (fun _ => ?_) | refine WL.g_split rfl rfl (fun hc => ?_) (fun hc => ?_) | refine WD.g_split rfl rfl (fun hc => ?_) (fun hc => ?_) | refine W.cond rfl (fun hc => ?_) (fun hc => ?_))
  rename_i b1 b7
  refine WL.e rfl (Ef.callR (c := [(b7, _)]) (by exact rfl) subA (vast_tr _ _ [o] (some ⟨b7, 0, none⟩) 1 1 ⟨rfl, Nat.le_refl _, fun _ => ⟨b7, 0, rfl, Can.cut (n := 11) (.here rfl)⟩, fun h => by cases h⟩)) ?_
  rintro _ _ ⟨rfl, rfl⟩
  obtain ⟨va, hva⟩ : ∃ va, True ∧ vast [o] = va := ⟨_, trivial, rfl⟩
  rw [hva.2]
  repeat' (first | refine S1 ?_ | refine SD ?_ | refine SA (fun _ => ?_) | refine WL.g_split rfl rfl (fun hc => ?_) (fun hc => ?_) | refine WD.g_split rfl rfl (fun hc => ?_) (fun hc => ?_) | refine W.cond rfl (fun hc => ?_) (fun hc => ?_))
  · refine WL.e rfl (Ef.callR (by exact rfl) (.nil _) (works_tr _)) ?_
    rintro _ _ ⟨rfl, rfl⟩
    repeat' (first | refine S1 ?_ | refine SD ?_ | refine SA (fun _ => ?_) | refine WL.g_split rfl rfl (fun hc => ?_) (fun hc => ?_) | refine WD.g_split rfl rfl (fun hc => ?_) (fun hc => ?_) | refine W.cond rfl (fun hc => ?_) (fun hc => ?_))
    exact Fin.retW (by exact rfl) resA (fun _ h => h.sublist (List.nil_sublist _)) ⟨rfl, rfl⟩
  · have hsm := vast_small ho (hva.2.trans hc)
    refine WL.e rfl (Ef.callFR (by exact rfl) (.nil _) (fun hd => does_nil _ o bs ks ⟨ho.bytes.mono (fun _ h => addF_in hd h), ho.skips.mono (fun _ h => addF_in hd h), ho.tsn, ho.stream, ho.cum, ho.sks⟩ 0 hsm)) ?_
    rintro _ _ ⟨rfl, rfl⟩
    unfold toldV
    repeat' (first | refine S1 ?_ | refine SD ?_ | refine SA (fun _ => ?_) | refine WL.g_split rfl rfl (fun hc => ?_) (fun hc => ?_) | refine WD.g_split rfl rfl (fun hc => ?_) (fun hc => ?_) | refine W.cond rfl (fun hc => ?_) (fun hc => ?_))
    refine WL.e rfl (Ef.callR (by exact rfl) (.nil _) (rwhen_nil _)) ?_
    rintro _ _ ⟨rfl, rfl⟩
    dsimp only [tup]
    repeat' (first | refine S1 ?_ | refine SD ?_ | refine SA (fun _ => ?_) | refine WL.g_split rfl rfl (fun hc => ?_) (fun hc => ?_) | refine WD.g_split rfl rfl (fun hc => ?_) (fun hc => ?_) | refine W.cond rfl (fun hc => ?_) (fun hc => ?_))
    rotate_right
    · exfalso
      have h0 : o.kind = 0 := by have := ‹(o.kind != 0) = false›; simpa using this
      rw [if_pos h0] at hc
      cases hc
    ·
      refine WL.e rfl (Ef.callR (by exact rfl) (.nil _) (sackSame_tr _ 0 0 0 0 [] [] [] [] none 0 0 none 0 0 none 0 0 none 0 0 .nil .nil .nil .nil (by decide) (by decide))) ?_
      rintro _ _ ⟨rfl, rfl⟩
      rw [show decide ((0 : Int) = 0 ∧ (0 : Int) = 0 ∧ ([] : List (Nat × Nat)) = [] ∧ ([] : List Int) = []) = true from by simp]
      repeat' (first | refine S1 ?_ | refine SD ?_ | refine SA (fun _ => ?_) | refine WL.g_split rfl rfl (fun hc => ?_) (fun hc => ?_) | refine WD.g_split rfl rfl (fun hc => ?_) (fun hc => ?_) | refine W.cond rfl (fun hc => ?_) (fun hc => ?_))
      refine WL.e rfl (Ef.callR (by exact rfl) (.nil _) (rdue_nil _ o.now)) ?_
      rintro _ _ ⟨rfl, rfl⟩
      repeat' (first | refine S1 ?_ | refine SD ?_ | refine SA (fun _ => ?_) | refine WL.g_split rfl rfl (fun hc => ?_) (fun hc => ?_) | refine WD.g_split rfl rfl (fun hc => ?_) (fun hc => ?_) | refine W.cond rfl (fun hc => ?_) (fun hc => ?_))
      refine WL.e rfl (Ef.callR (by exact rfl) (.nil _) (rheld_nil _)) ?_
      rintro _ _ ⟨rfl, rfl⟩
      repeat' (first | refine S1 ?_ | refine SD ?_ | refine SA (fun _ => ?_) | refine WL.g_split rfl rfl (fun hc => ?_) (fun hc => ?_) | refine WD.g_split rfl rfl (fun hc => ?_) (fun hc => ?_) | refine W.cond rfl (fun hc => ?_) (fun hc => ?_))
      refine WL.e rfl (Ef.callR (by exact rfl) (.nil _) (rready_nil _)) ?_
      rintro _ _ ⟨rfl, rfl⟩
      repeat' (first | refine S1 ?_ | refine SD ?_ | refine SA (fun _ => ?_) | refine WL.g_split rfl rfl (fun hc => ?_) (fun hc => ?_) | refine WD.g_split rfl rfl (fun hc => ?_) (fun hc => ?_) | refine W.cond rfl (fun hc => ?_) (fun hc => ?_))
      refine WL.e rfl (Ef.callR (by exact rfl) (.nil _) (rcum_nil _)) ?_
      rintro _ _ ⟨rfl, rfl⟩
      repeat' (first | refine S1 ?_ | refine SD ?_ | refine SA (fun _ => ?_) | refine WL.g_split rfl rfl (fun hc => ?_) (fun hc => ?_) | refine WD.g_split rfl rfl (fun hc => ?_) (fun hc => ?_) | refine W.cond rfl (fun hc => ?_) (fun hc => ?_))
      refine WL.e rfl (Ef.callR (by exact rfl) (.nil _) (works_tr _)) ?_
      rintro _ _ ⟨rfl, rfl⟩
      repeat' (first | refine S1 ?_ | refine SD ?_ | refine SA (fun _ => ?_) | refine WL.g_split rfl rfl (fun hc => ?_) (fun hc => ?_) | refine WD.g_split rfl rfl (fun hc => ?_) (fun hc => ?_) | refine W.cond rfl (fun hc => ?_) (fun hc => ?_))
      exact Fin.retW (by exact rfl) resA (fun _ h => h.sublist (List.nil_sublist _)) ⟨rfl, rfl⟩
    ·
      refine WL.e rfl (Ef.callR (by exact rfl) (.nil _) (sackSame_tr _ 0 0 0 0 [] [] [] [] none 0 0 none 0 0 none 0 0 none 0 0 .nil .nil .nil .nil (by decide) (by decide))) ?_
      rintro _ _ ⟨rfl, rfl⟩
      rw [show decide ((0 : Int) = 0 ∧ (0 : Int) = 0 ∧ ([] : List (Nat × Nat)) = [] ∧ ([] : List Int) = []) = true from by simp]
      repeat' (first | refine S1 ?_ | refine SD ?_ | refine SA (fun _ => ?_) | refine WL.g_split rfl rfl (fun hc => ?_) (fun hc => ?_) | refine WD.g_split rfl rfl (fun hc => ?_) (fun hc => ?_) | refine W.cond rfl (fun hc => ?_) (fun hc => ?_))
      refine WL.e rfl (Ef.callR (by exact rfl) (.nil _) (rdue_nil _ o.now)) ?_
      rintro _ _ ⟨rfl, rfl⟩
      repeat' (first | refine S1 ?_ | refine SD ?_ | refine SA (fun _ => ?_) | refine WL.g_split rfl rfl (fun hc => ?_) (fun hc => ?_) | refine WD.g_split rfl rfl (fun hc => ?_) (fun hc => ?_) | refine W.cond rfl (fun hc => ?_) (fun hc => ?_))
      refine WL.e rfl (Ef.callR (by exact rfl) (.nil _) (rheld_nil _)) ?_
      rintro _ _ ⟨rfl, rfl⟩
      repeat' (first | refine S1 ?_ | refine SD ?_ | refine SA (fun _ => ?_) | refine WL.g_split rfl rfl (fun hc => ?_) (fun hc => ?_) | refine WD.g_split rfl rfl (fun hc => ?_) (fun hc => ?_) | refine W.cond rfl (fun hc => ?_) (fun hc => ?_))
      refine WL.e rfl (Ef.callR (by exact rfl) (.nil _) (rready_nil _)) ?_
      rintro _ _ ⟨rfl, rfl⟩
      repeat' (first | refine S1 ?_ | refine SD ?_ | refine SA (fun _ => ?_) | refine WL.g_split rfl rfl (fun hc => ?_) (fun hc => ?_) | refine WD.g_split rfl rfl (fun hc => ?_) (fun hc => ?_) | refine W.cond rfl (fun hc => ?_) (fun hc => ?_))
      refine WL.e rfl (Ef.callR (by exact rfl) (.nil _) (rcum_nil _)) ?_
      rintro _ _ ⟨rfl, rfl⟩
      repeat' (first | refine S1 ?_ | refine SD ?_ | refine SA (fun _ => ?_) | refine WL.g_split rfl rfl (fun hc => ?_) (fun hc => ?_) | refine WD.g_split rfl rfl (fun hc => ?_) (fun hc => ?_) | refine W.cond rfl (fun hc => ?_) (fun hc => ?_))
      refine WL.e rfl (Ef.callR (by exact rfl) (.nil _) (works_tr _)) ?_
      rintro _ _ ⟨rfl, rfl⟩
      repeat' (first | refine S1 ?_ | refine SD ?_ | refine SA (fun _ => ?_) | refine WL.g_split rfl rfl (fun hc => ?_) (fun hc => ?_) | refine WD.g_split rfl rfl (fun hc => ?_) (fun hc => ?_) | refine W.cond rfl (fun hc => ?_) (fun hc => ?_))
      exact Fin.retW (by exact rfl) resA (fun _ h => h.sublist (List.nil_sublist _)) ⟨rfl, rfl⟩
end Go.Proofs.Ythjglhdjlmjffaa
