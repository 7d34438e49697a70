/- The law's 'works', walked: a receiver works at all. No conditions. -/
import Derived.Test.YthjglhdjlmjffaaGreatRcD
import Derived.Test.YthjglhdjlmjffaaGreatBa
namespace Go.Proofs.YthjglhdjlmjffaaGreat
open Go Go.Sl Go.Rm

def wz (n : Nat) : List UInt8 := List.replicate n 0
theorem mk_wz (n : Nat) : mkCells [.int .u8 0] n = (wz n).map B := by
  induction n with
  | zero => rfl
  | succ n ih => rw [mkCells, ih]; rfl
def wd1 : D := ⟨10, 0, 0, false, true, true, wz 100⟩
def wd2 : D := ⟨11, 0, 1, false, true, true, wz 29⟩
def ws0 : Rcv.S := ⟨Spn.firstS 9 0, [], ⟨5, 0, 0, false⟩, ⟨[], [], [0, 0]⟩, 128, 25, false, false⟩
def ws1 : Rcv.S := ⟨Spn.firstS 9 1, [], ⟨5, 0, 0, false⟩, ⟨[], [⟨0, true, wz 100⟩], [1, 0]⟩, 128, 25, true, false⟩
def ws2 : Rcv.S := ⟨Spn.firstS 9 1, [], ⟨5, 1, 0, false⟩, ⟨[], [⟨0, true, wz 100⟩], [1, 0]⟩, 128, 25, false, false⟩
def ws3 : Rcv.S := ⟨Spn.firstS 9 1, [], ⟨5, 1, 0, false⟩, ⟨[], [⟨0, true, wz 100⟩], [1, 0]⟩, 128, 25, true, true⟩
def ws4 : Rcv.S := ⟨Spn.firstS 9 1, [], ⟨5, 2, 0, true⟩, ⟨[], [⟨0, true, wz 100⟩], [1, 0]⟩, 128, 25, false, false⟩
def ws5 : Rcv.S := ⟨Spn.firstS 9 1, [], ⟨5, 0, 0, false⟩, ⟨[], [⟨0, true, wz 100⟩], [1, 0]⟩, 128, 25, false, false⟩
def ws6 : Rcv.S := ⟨Spn.firstS 9 1, [], ⟨5, 0, 0, false⟩, ⟨[], [], [1, 0]⟩, 128, 25, false, false⟩
theorem wlook1 : Spn.look ws0.m wd1.tsn = 0 ∧ Spn.takeS ws0.m wd1.tsn = Spn.firstS 9 1 := by
  have h := Spn.first_step 9 0
  exact h
theorem wlook2 : Spn.look ws2.m wd2.tsn = 0 := (Spn.first_step 9 1).1
theorem wholes (b : Int) (n : Nat) : Rcv.holes (Spn.firstS b n) = false := by
  have : Spn.count (Spn.firstS b n) = 0 := by
    unfold Spn.count Spn.dist Spn.firstS
    rw [List.length_eq_zero_iff]
    exact List.filter_eq_nil_iff.2 (fun _ _ h => by cases h)
  unfold Rcv.holes
  rw [this]
  rfl
theorem wn0 : newR (plainC 0) 10 = ws0 := by
  unfold newR ws0
  rw [← Spn.first_nil 9 (by decide)]
  kernel_rfl
theorem wA1 : Rcv.dataA ws0 wd1 = (true, 0) := by
  unfold Rcv.dataA
  rw [if_neg (by decide), if_neg (by rw [wlook1.1]; decide)]
  kernel_rfl
theorem wS1 : Rcv.data ws0 wd1 = ws1 := by
  unfold Rcv.data
  rw [if_neg (by decide), if_neg (by rw [wlook1.1]; decide), if_neg (by rw [wlook1.1]; decide), if_neg (show ¬ Rcv.full ws0 wd1 = true by rw [show Rcv.full ws0 wd1 = false by kernel_rfl]; decide), wlook1.2, wholes, show ws0.m = Spn.firstS 9 0 from rfl, wholes]
  have e : Rm.put ws0.w wd1 = ⟨[], [⟨0, true, wz 100⟩], [1, 0]⟩ := by kernel_rfl
  rw [e]
  rfl
theorem wS2 : Rcv.fin ws1 0 = ws2 := by kernel_rfl
theorem wA3 : Rcv.dataA ws2 wd2 = (false, 6) := by
  unfold Rcv.dataA
  rw [if_neg (by decide), if_neg (by rw [wlook2]; decide), if_pos (by kernel_rfl)]
theorem wS3 : Rcv.data ws2 wd2 = ws3 := by
  unfold Rcv.data
  rw [if_neg (by decide), if_neg (by rw [wlook2]; decide), if_neg (by rw [wlook2]; decide), if_pos (by kernel_rfl)]
  rfl
theorem wS4 : Rcv.fin ws3 1 = ws4 := by kernel_rfl
theorem wS5 : Rcv.sack ws4 = ws5 := by kernel_rfl
theorem wR5 : Rcv.sRoom ws4 = 28 := by kernel_rfl
theorem wG5 : Rcv.sGaps ws4 = [] := Spn.first_gaps 9 1 25
theorem wS6 : Rcv.take ws5 = ws6 := by kernel_rfl
set_option maxHeartbeats 4000000 in
theorem works_tr (F : Nat → Option Obj) : Tr Tryz.prog 5 [].toArray F [] (fun v H => v = .bool true ∧ H = []) := by
  refine Tr.enter Tryz.func5 rfl Tryz.ntmps5 rfl (fun w0 => ?_)
  repeat' (first | refine S1 ?_ | refine SD ?_ | refine SA (fun _ => ?_) | refine WL.g_split rfl rfl (fun hc => ?_) (fun hc => ?_) | refine WD.g_split rfl rfl (fun hc => ?_) (fun hc => ?_) | refine W.cond rfl (fun hc => ?_) (fun hc => ?_))
  refine WL.e rfl (Ef.callR (by exact rfl) (.nil _) (plain_tr _ 0 (by omega))) ?_
  rintro _ _ ⟨rfl, rfl⟩
  repeat' (first | refine S1 ?_ | refine SD ?_ | refine SA (fun _ => ?_) | refine WL.g_split rfl rfl (fun hc => ?_) (fun hc => ?_) | refine WD.g_split rfl rfl (fun hc => ?_) (fun hc => ?_) | refine W.cond rfl (fun hc => ?_) (fun hc => ?_))
  refine WL.e rfl (Ef.call (by exact rfl) (.nil _) (rnew_tr _ (plainC 0) 10)) ?_
  rintro _ _ ⟨_, (⟨hno, _⟩ | ⟨_, r0, hr0, rfl, rfl, hS0, ht0⟩), rfl⟩
  · exact absurd (by unfold Cfg.rcvOk plainC; dsimp only; omega) hno
  rw [wn0] at hS0
  dsimp only [tup]
  repeat' (first | refine S1 ?_ | refine SD ?_ | refine SA (fun _ => ?_) | refine WL.g_split rfl rfl (fun hc => ?_) (fun hc => ?_) | refine WD.g_split rfl rfl (fun hc => ?_) (fun hc => ?_) | refine W.cond rfl (fun hc => ?_) (fun hc => ?_))
  rw [List.append_nil]
  refine WL.e rfl (Ef.mkS (n := 100) (z := [.int .u8 0]) (by exact rfl) (by exact rfl) rfl rfl (by decide) (by decide)) ?_
  rintro _ _ ⟨z1, rfl, rfl⟩
  rw [mk_wz]
  repeat' (first | refine S1 ?_ | refine SD ?_ | refine SA (fun _ => ?_) | refine WL.g_split rfl rfl (fun hc => ?_) (fun hc => ?_) | refine WD.g_split rfl rfl (fun hc => ?_) (fun hc => ?_) | refine W.cond rfl (fun hc => ?_) (fun hc => ?_))
  refine WL.e rfl (Ef.call (by exact rfl) (.pickL (L := r0.H) (.there .all) (.pick .here (.nil _))) (rdata_tr _ [_] r0 hr0 wd1 (some ⟨z1, 0, none⟩) 100 100 (Src.own (n := 100) (.here (by kernel_rfl))) (by decide) (by decide) (by decide) (by decide) (by omega) (by decide))) ?_
  rintro _ _ ⟨_, ⟨rfl, r1, hr1, rfl, hR1, ht1, hS1⟩, rfl⟩
  rw [hS0, wA1]
  rw [hS0, wS1] at hS1
  dsimp only [tup]
  rw [← hR1]
  refine WL.weak (H' := r1.H) (fun _ h => h.left.left) ?_
  repeat' (first | refine S1 ?_ | refine SD ?_ | refine SA (fun _ => ?_) | refine WL.g_split rfl rfl (fun hc => ?_) (fun hc => ?_) | refine WD.g_split rfl rfl (fun hc => ?_) (fun hc => ?_) | refine W.cond rfl (fun hc => ?_) (fun hc => ?_))
  refine WL.e rfl (Ef.call (by exact rfl) (.all _) (rfin_tr _ r1 hr1 0)) ?_
  rintro _ _ ⟨_, ⟨rfl, r2, hr2, rfl, hR2, hS2, hw2⟩, rfl⟩
  rw [hS1, wS2] at hS2
  rw [← hR2, List.append_nil]
  repeat' (first | refine S1 ?_ | refine SD ?_ | refine SA (fun _ => ?_) | refine WL.g_split rfl rfl (fun hc => ?_) (fun hc => ?_) | refine WD.g_split rfl rfl (fun hc => ?_) (fun hc => ?_) | refine W.cond rfl (fun hc => ?_) (fun hc => ?_))
  refine WL.e rfl (Ef.callR (c := r2.H) (by exact rfl) (.all _) (rdue_tr _ r2 hr2 4)) ?_
  rintro _ _ ⟨rfl, rfl⟩
  rw [hS2, show Del.due ws2.d 4 = false by kernel_rfl]
  repeat' (first | refine S1 ?_ | refine SD ?_ | refine SA (fun _ => ?_) | refine WL.g_split rfl rfl (fun hc => ?_) (fun hc => ?_) | refine WD.g_split rfl rfl (fun hc => ?_) (fun hc => ?_) | refine W.cond rfl (fun hc => ?_) (fun hc => ?_))
  refine WL.e rfl (Ef.callR (c := r2.H) (by exact rfl) (.all _) (rdue_tr _ r2 hr2 5)) ?_
  rintro _ _ ⟨rfl, rfl⟩
  rw [hS2, show Del.due ws2.d 5 = true by kernel_rfl]
  repeat' (first | refine S1 ?_ | refine SD ?_ | refine SA (fun _ => ?_) | refine WL.g_split rfl rfl (fun hc => ?_) (fun hc => ?_) | refine WD.g_split rfl rfl (fun hc => ?_) (fun hc => ?_) | refine W.cond rfl (fun hc => ?_) (fun hc => ?_))
  refine WL.e rfl (Ef.mkS (n := 29) (z := [.int .u8 0]) (by exact rfl) (by exact rfl) rfl rfl (by decide) (by decide)) ?_
  rintro _ _ ⟨z2, rfl, rfl⟩
  rw [mk_wz]
  repeat' (first | refine S1 ?_ | refine SD ?_ | refine SA (fun _ => ?_) | refine WL.g_split rfl rfl (fun hc => ?_) (fun hc => ?_) | refine WD.g_split rfl rfl (fun hc => ?_) (fun hc => ?_) | refine W.cond rfl (fun hc => ?_) (fun hc => ?_))
  refine WL.e rfl (Ef.call (by exact rfl) (.pickL (L := r2.H) (.there .all) (.pick .here (.nil _))) (rdata_tr _ [_] r2 hr2 wd2 (some ⟨z2, 0, none⟩) 29 29 (Src.own (n := 29) (.here (by kernel_rfl))) (by decide) (by decide) (by decide) (by decide) (by rw [hw2]; omega) (by decide))) ?_
  rintro _ _ ⟨_, ⟨rfl, r3, hr3, rfl, hR3, ht3, hS3⟩, rfl⟩
  rw [hS2, wA3]
  rw [hS2, wS3] at hS3
  dsimp only [tup]
  rw [← hR3]
  refine WL.weak (H' := r3.H) (fun _ h => h.left.left) ?_
  repeat' (first | refine S1 ?_ | refine SD ?_ | refine SA (fun _ => ?_) | refine WL.g_split rfl rfl (fun hc => ?_) (fun hc => ?_) | refine WD.g_split rfl rfl (fun hc => ?_) (fun hc => ?_) | refine W.cond rfl (fun hc => ?_) (fun hc => ?_))
  refine WL.e rfl (Ef.call (by exact rfl) (.all _) (rfin_tr _ r3 hr3 1)) ?_
  rintro _ _ ⟨_, ⟨rfl, r4, hr4, rfl, hR4, hS4, hw4⟩, rfl⟩
  rw [hS3, wS4] at hS4
  rw [← hR4, List.append_nil]
  repeat' (first | refine S1 ?_ | refine SD ?_ | refine SA (fun _ => ?_) | refine WL.g_split rfl rfl (fun hc => ?_) (fun hc => ?_) | refine WD.g_split rfl rfl (fun hc => ?_) (fun hc => ?_) | refine W.cond rfl (fun hc => ?_) (fun hc => ?_))
  refine WL.e rfl (Ef.callR (c := r4.H) (by exact rfl) (.all _) (rdue_tr _ r4 hr4 1)) ?_
  rintro _ _ ⟨rfl, rfl⟩
  rw [hS4, show Del.due ws4.d 1 = true by kernel_rfl]
  repeat' (first | refine S1 ?_ | refine SD ?_ | refine SA (fun _ => ?_) | refine WL.g_split rfl rfl (fun hc => ?_) (fun hc => ?_) | refine WD.g_split rfl rfl (fun hc => ?_) (fun hc => ?_) | refine W.cond rfl (fun hc => ?_) (fun hc => ?_))
  refine WL.e rfl (Ef.call (by exact rfl) (.all _) (rsack_tr _ r4 hr4)) ?_
  rintro _ _ ⟨_, ⟨r5, ga, gn, gc, gb, ra, rn, rc, rb, rfl, hr5, rfl, hR5, hw5, hS5, hg5, hd5⟩, rfl⟩
  rw [hS4] at hg5 hd5
  rw [hS4, wR5, show ws4.m.b = 10 by kernel_rfl]
  rw [hS4, wS5] at hS5
  rw [← hR5]
  refine WL.weak (H' := r5.H) (fun _ h => h.left.left) ?_
  repeat' (first | refine S1 ?_ | refine SD ?_ | refine SA (fun _ => ?_) | refine WL.g_split rfl rfl (fun hc => ?_) (fun hc => ?_) | refine WD.g_split rfl rfl (fun hc => ?_) (fun hc => ?_) | refine W.cond rfl (fun hc => ?_) (fun hc => ?_))
  refine WL.e rfl (Ef.call (c := r5.H) (by exact rfl) (.last (.there .all)) (ctake_tr _ r5 hr5)) ?_
  rintro _ _ ⟨_, (⟨hno, _⟩ | ⟨m, r6, hm, hr6, rfl, rfl, hR6, ht6, hrow6, hS6⟩), rfl⟩
  · rw [hS5] at hno; cases hno
  rw [hS5] at hrow6
  have hg6 : m.g = ⟨0, true, wz 100⟩ := (List.cons.inj hrow6).1.symm
  have hsn : m.sn = 100 := by rw [Ms.len hm, hg6]; decide
  rw [hS5, wS6] at hS6
  rw [← hR6, List.append_assoc]
  dsimp only [tup, Ms.cells, Ms.bv]
  rw [hsn]
  refine WL.weak (H' := [(_, _)] ++ r6.H) (fun _ h => In.of_sub (.pick (.right (.right .here)) (.last (L := r6.H) .here)) h) ?_
  repeat' (first | refine S1 ?_ | refine SD ?_ | refine SA (fun _ => ?_) | refine WL.g_split rfl rfl (fun hc => ?_) (fun hc => ?_) | refine WD.g_split rfl rfl (fun hc => ?_) (fun hc => ?_) | refine W.cond rfl (fun hc => ?_) (fun hc => ?_))
  refine WL.e rfl (Ef.callR (c := r6.H) (by exact rfl) (.last (.there (.there .all))) (cheld_tr _ r6 hr6)) ?_
  rintro _ _ ⟨rfl, rfl⟩
  rw [hS6, show Rcv.held ws6 = 0 by kernel_rfl]
  repeat' (first | refine S1 ?_ | refine SD ?_ | refine SA (fun _ => ?_) | refine WL.g_split rfl rfl (fun hc => ?_) (fun hc => ?_) | refine WD.g_split rfl rfl (fun hc => ?_) (fun hc => ?_) | refine W.cond rfl (fun hc => ?_) (fun hc => ?_))
  refine WL.e rfl (Ef.callR (c := r6.H) (by exact rfl) (.last (.there (.there .all))) (rcum_tr _ r6)) ?_
  rintro _ _ ⟨rfl, rfl⟩
  rw [hS6, show ws6.m.b = 10 by kernel_rfl]
  repeat' (first | refine S1 ?_ | refine SD ?_ | refine SA (fun _ => ?_) | refine WL.g_split rfl rfl (fun hc => ?_) (fun hc => ?_) | refine WD.g_split rfl rfl (fun hc => ?_) (fun hc => ?_) | refine W.cond rfl (fun hc => ?_) (fun hc => ?_))
  exact Fin.retW (by exact rfl) resA (fun _ h => h.sublist (List.nil_sublist _)) ⟨rfl, rfl⟩
end Go.Proofs.YthjglhdjlmjffaaGreat
