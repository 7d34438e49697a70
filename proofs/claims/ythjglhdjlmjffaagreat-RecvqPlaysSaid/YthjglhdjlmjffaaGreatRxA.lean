/- The document's receiver in memory, and its methods, walked: they answer as the plain functions do. Conditions: it is well formed; bounds on what is held. -/
import Derived.Test.YthjglhdjlmjffaaGreatRcB
import Derived.Test.YthjglhdjlmjffaaGreatDxA
import Derived.Test.YthjglhdjlmjffaaGreatTxC
import Derived.Test.YthjglhdjlmjffaaGreatRfF
namespace Go.Proofs.YthjglhdjlmjffaaGreat
open Go Go.Sl

structure RxM where
  R : Nat
  m : XM
  d : DxM
  w : RF
  room : Int
  most : Int
  came : Bool
  urg : Bool
def RxM.B (r : RxM) : Nat × Obj := (r.R, .cells [.pointer (some ⟨r.m.R, 0, none⟩), .pointer (some ⟨r.d.R, 0, none⟩), .pointer (some ⟨r.w.R, 0, none⟩), .int .i64 r.room, .int .i64 r.most, .bool r.came, .bool r.urg].toArray 88 (0, 0))
def RxM.H (r : RxM) : HL := r.B :: (r.m.H ++ (r.d.H ++ r.w.H))
def RxM.S (r : RxM) : Rcv.S := ⟨r.m.S, r.m.ds, r.d.s, r.w.S, r.room, r.most, r.came, r.urg⟩
structure RxM.ok (r : RxM) : Prop where
  m : r.m.ok
  d : Del.Ok r.d.s
  w : r.w.ok
set_option maxHeartbeats 4000000 in
theorem xrnew_tr (F : Nat → Option Obj) (c : Cfg) (first : Int) : Tr Tryz.prog 7 [.agg c.cells.toArray, .int .u32 first].toArray F [] (fun v H =>
    (¬ c.rcvOk ∧ v = tup [.pointer none, .int .i64 1] ∧ H = []) ∨ (c.rcvOk ∧ ∃ r : RxM, r.ok ∧ v = tup [.pointer (some ⟨r.R, 0, none⟩), .int .i64 0] ∧ H = r.H ∧ r.S = newR c first)) := by
  refine Tr.enter Tryz.func7 rfl Tryz.ntmps7 rfl (fun w0 => ?_)
  unfold Cfg.cells
  repeat' (first | refine S1 ?_ | refine SD ?_ | refine SA (fun _ => ?_) | refine WL.g_split rfl rfl (fun hc => ?_) (fun hc => ?_) | refine WD.g_split rfl rfl (fun hc => ?_) (fun hc => ?_) | refine W.cond rfl (fun hc => ?_) (fun hc => ?_))
  ·
    refine Fin.retW (by exact rfl) resA (H' := []) (fun _ h => h.sublist (List.nil_sublist _)) (.inl ⟨fun hk => ?_, rfl, rfl⟩)
    obtain ⟨⟨h1, h2, h3, h4⟩, h5, h6⟩ := hk
    have := of_decide_eq_true hc
    omega
  ·
    refine Fin.retW (by exact rfl) resA (H' := []) (fun _ h => h.sublist (List.nil_sublist _)) (.inl ⟨fun hk => ?_, rfl, rfl⟩)
    obtain ⟨⟨h1, h2, h3, h4⟩, h5, h6⟩ := hk
    have := of_decide_eq_true hc
    omega
  ·
    refine Fin.retW (by exact rfl) resA (H' := []) (fun _ h => h.sublist (List.nil_sublist _)) (.inl ⟨fun hk => ?_, rfl, rfl⟩)
    obtain ⟨⟨h1, h2, h3, h4⟩, h5, h6⟩ := hk
    have := of_decide_eq_true hc
    omega
  ·
    refine Fin.retW (by exact rfl) resA (H' := []) (fun _ h => h.sublist (List.nil_sublist _)) (.inl ⟨fun hk => ?_, rfl, rfl⟩)
    obtain ⟨⟨h1, h2, h3, h4⟩, h5, h6⟩ := hk
    have := of_decide_eq_true hc
    omega
  rename_i g1 g2 g3
  have g1 := of_decide_eq_false g1
  have g2 := of_decide_eq_false g2
  have g3 := of_decide_eq_false g3
  have g4 := of_decide_eq_false hc
  clear hc
  by_cases hst : 1 ≤ c.streams ∧ c.streams ≤ 16
  rotate_left
  · refine WL.e rfl (Ef.call (by exact rfl) (.nil _) (rnew_bad _ c.streams (by omega))) ?_
    rintro _ _ ⟨_, ⟨rfl, rfl⟩, rfl⟩
    dsimp only [tup]
    repeat' (first | refine S1 ?_ | refine SD ?_ | refine SA (fun _ => ?_) | refine WL.g_split rfl rfl (fun hc => ?_) (fun hc => ?_) | refine WD.g_split rfl rfl (fun hc => ?_) (fun hc => ?_) | refine W.cond rfl (fun hc => ?_) (fun hc => ?_))
    refine Fin.retW (by exact rfl) resA (H' := []) (fun _ h => h.sublist (List.nil_sublist _)) (.inl ⟨fun hk => ?_, rfl, rfl⟩)
    obtain ⟨⟨h1, h2, h3, h4⟩, h5, h6⟩ := hk
    omega
  obtain ⟨m, hm⟩ : ∃ m : Nat, c.streams = m := ⟨c.streams.toNat, by omega⟩
  rw [hm]
  refine WL.e rfl (Ef.call (by exact rfl) (.nil _) (rnew_ok _ m (by omega))) ?_
  rintro _ _ ⟨_, ⟨s, hs, rfl, rfl, hsS⟩, rfl⟩
  dsimp only [tup]
  repeat' (first | refine S1 ?_ | refine SD ?_ | refine SA (fun _ => ?_) | refine WL.g_split rfl rfl (fun hc => ?_) (fun hc => ?_) | refine WD.g_split rfl rfl (fun hc => ?_) (fun hc => ?_) | refine W.cond rfl (fun hc => ?_) (fun hc => ?_))
  refine WL.e rfl (Ef.call (by exact rfl) (.nil _) (xdnew_tr _ c.delay)) ?_
  rintro _ _ ⟨_, (⟨hd, rfl, rfl⟩ | ⟨hd, b, rfl, rfl⟩), rfl⟩
  · dsimp only [tup]
    repeat' (first | refine S1 ?_ | refine SD ?_ | refine SA (fun _ => ?_) | refine WL.g_split rfl rfl (fun hc => ?_) (fun hc => ?_) | refine WD.g_split rfl rfl (fun hc => ?_) (fun hc => ?_) | refine W.cond rfl (fun hc => ?_) (fun hc => ?_))
    refine Fin.retW (by exact rfl) resA (H' := []) (fun _ h => h.sublist (List.nil_sublist _)) (.inl ⟨fun hk => ?_, rfl, rfl⟩)
    obtain ⟨⟨h1, h2, h3, h4⟩, h5, h6⟩ := hk
    omega
  dsimp only [tup]
  repeat' (first | refine S1 ?_ | refine SD ?_ | refine SA (fun _ => ?_) | refine WL.g_split rfl rfl (fun hc => ?_) (fun hc => ?_) | refine WD.g_split rfl rfl (fun hc => ?_) (fun hc => ?_) | refine W.cond rfl (fun hc => ?_) (fun hc => ?_))
  refine WD.e rfl (Ef.call (by exact rfl) (.nil _) (xbegin_tr _ first)) ?_
  rintro _ _ ⟨_, ⟨mm, hmm, rfl, rfl, hmS, hmd⟩, rfl⟩
  refine ⟨.inr (fun _ h => h.right), ?_⟩
  repeat' (first | refine S1 ?_ | refine SD ?_ | refine SA (fun _ => ?_) | refine WL.g_split rfl rfl (fun hc => ?_) (fun hc => ?_) | refine WD.g_split rfl rfl (fun hc => ?_) (fun hc => ?_) | refine W.cond rfl (fun hc => ?_) (fun hc => ?_))
  refine WD.p rfl (Pu.quo rfl rfl (by decide)) ?_
  have e1 : IntKind.i64.wrap (c.mtu - 28) = c.mtu - 28 := i64_id (by omega) (by omega)
  have e2 : (c.mtu - 28).tdiv 4 = (c.mtu - 28) / 4 := Int.tdiv_eq_ediv_of_nonneg (by omega)
  have e3 : IntKind.i64.wrap ((c.mtu - 28) / 4) = (c.mtu - 28) / 4 := i64_id (by omega) (by omega)
  rw [e1, e2, e3]
  repeat' (first | refine S1 ?_ | refine SD ?_ | refine SA (fun _ => ?_) | refine WL.g_split rfl rfl (fun hc => ?_) (fun hc => ?_) | refine WD.g_split rfl rfl (fun hc => ?_) (fun hc => ?_) | refine W.cond rfl (fun hc => ?_) (fun hc => ?_))
  rename_i b8
  refine Fin.retW (by exact rfl) resA (H' := (⟨b8, mm, ⟨b, ⟨c.delay, 0, 0, false⟩⟩, s, c.rroom, (c.mtu - 28) / 4, false, false⟩ : RxM).H) (fun _ h => ?_) (.inr ⟨⟨⟨by omega, by omega, by omega, by omega⟩, hst, hd⟩, _, ?_, rfl, rfl, ?_⟩)
  · unfold RxM.H
    exact In.of_sub (.pick .here (.pickL (L := mm.H) .here (.pickL (L := DxM.H ⟨b, ⟨c.delay, 0, 0, false⟩⟩) .here (.last (L := s.H) .here)))) h
  · exact ⟨hmm, ⟨hd, by dsimp only; omega, by dsimp only; omega⟩, hs⟩
  · unfold RxM.S newR
    rw [hmS, hmd, hsS, hm]
    rfl
/-! ### what is looked at -/
theorem xrcum_tr (F : Nat → Option Obj) (r : RxM) : Tr Tryz.prog 8 [.pointer (some ⟨r.R, 0, none⟩)].toArray F r.H (fun v H => v = .int .u32 r.S.m.b ∧ H = r.H) := by
  refine Tr.enter Tryz.func8 rfl Tryz.ntmps8 rfl (fun w0 => ?_)
  unfold RxM.H RxM.B
  repeat' (first | refine S1 ?_ | refine SD ?_ | refine SA (fun _ => ?_) | refine WL.g_split rfl rfl (fun hc => ?_) (fun hc => ?_) | refine WD.g_split rfl rfl (fun hc => ?_) (fun hc => ?_) | refine W.cond rfl (fun hc => ?_) (fun hc => ?_))
  refine WL.e rfl (Ef.callR (c := r.m.H) (by exact rfl) (.last (.there .here)) (xcum_tr _ r.m)) ?_
  rintro _ _ ⟨rfl, rfl⟩
  repeat' (first | refine S1 ?_ | refine SD ?_ | refine SA (fun _ => ?_) | refine WL.g_split rfl rfl (fun hc => ?_) (fun hc => ?_) | refine WD.g_split rfl rfl (fun hc => ?_) (fun hc => ?_) | refine W.cond rfl (fun hc => ?_) (fun hc => ?_))
  exact Fin.retW (by exact rfl) resA (fun _ h => h) ⟨rfl, rfl⟩
theorem xrwhen_tr (F : Nat → Option Obj) (r : RxM) (hr : r.ok) : Tr Tryz.prog 14 [.pointer (some ⟨r.R, 0, none⟩)].toArray F r.H (fun v H => v = tup [.int .i64 (Del.dueAt r.S.d).1, .bool (Del.dueAt r.S.d).2] ∧ H = r.H) := by
  refine Tr.enter Tryz.func14 rfl Tryz.ntmps14 rfl (fun w0 => ?_)
  unfold RxM.H RxM.B
  repeat' (first | refine S1 ?_ | refine SD ?_ | refine SA (fun _ => ?_) | refine WL.g_split rfl rfl (fun hc => ?_) (fun hc => ?_) | refine WD.g_split rfl rfl (fun hc => ?_) (fun hc => ?_) | refine W.cond rfl (fun hc => ?_) (fun hc => ?_))
  refine WL.e rfl (Ef.callR (c := r.d.H) (by exact rfl) (.last (.there (.right .here))) (xwhen_tr _ r.d hr.d)) ?_
  rintro _ _ ⟨rfl, rfl⟩
  dsimp only [tup]
  repeat' (first | refine S1 ?_ | refine SD ?_ | refine SA (fun _ => ?_) | refine WL.g_split rfl rfl (fun hc => ?_) (fun hc => ?_) | refine WD.g_split rfl rfl (fun hc => ?_) (fun hc => ?_) | refine W.cond rfl (fun hc => ?_) (fun hc => ?_))
  exact Fin.retW (by exact rfl) resA (fun _ h => h) ⟨rfl, rfl⟩
theorem xrdue_tr (F : Nat → Option Obj) (r : RxM) (hr : r.ok) (now : Int) : Tr Tryz.prog 21 [.pointer (some ⟨r.R, 0, none⟩), .int .i64 now].toArray F r.H (fun v H => v = .bool (Del.due r.S.d now) ∧ H = r.H) := by
  refine Tr.enter Tryz.func21 rfl Tryz.ntmps21 rfl (fun w0 => ?_)
  unfold RxM.H RxM.B
  repeat' (first | refine S1 ?_ | refine SD ?_ | refine SA (fun _ => ?_) | refine WL.g_split rfl rfl (fun hc => ?_) (fun hc => ?_) | refine WD.g_split rfl rfl (fun hc => ?_) (fun hc => ?_) | refine W.cond rfl (fun hc => ?_) (fun hc => ?_))
  refine WL.e rfl (Ef.callR (c := r.d.H) (by exact rfl) (.last (.there (.right .here))) (xdue_tr _ r.d hr.d now)) ?_
  rintro _ _ ⟨rfl, rfl⟩
  repeat' (first | refine S1 ?_ | refine SD ?_ | refine SA (fun _ => ?_) | refine WL.g_split rfl rfl (fun hc => ?_) (fun hc => ?_) | refine WD.g_split rfl rfl (fun hc => ?_) (fun hc => ?_) | refine W.cond rfl (fun hc => ?_) (fun hc => ?_))
  exact Fin.retW (by exact rfl) resA (fun _ h => h) ⟨rfl, rfl⟩
theorem xrheld_tr (F : Nat → Option Obj) (r : RxM) (hr : r.ok) : Tr Tryz.prog 17 [.pointer (some ⟨r.R, 0, none⟩)].toArray F r.H (fun v H => v = .int .i64 (Rcv.held r.S) ∧ H = r.H) := by
  refine Tr.enter Tryz.func17 rfl Tryz.ntmps17 rfl (fun w0 => ?_)
  unfold RxM.H RxM.B
  repeat' (first | refine S1 ?_ | refine SD ?_ | refine SA (fun _ => ?_) | refine WL.g_split rfl rfl (fun hc => ?_) (fun hc => ?_) | refine WD.g_split rfl rfl (fun hc => ?_) (fun hc => ?_) | refine W.cond rfl (fun hc => ?_) (fun hc => ?_))
  refine WL.e rfl (Ef.callW (by exact rfl) (.nil _) (fun F' hF => rheld_tr F' r.w (Sees.mono (RF.sees (F := F) hr.w) (fun w h => (hF w h).sublist (.cons _ ((List.sublist_append_right _ _).trans (List.sublist_append_right r.m.H _))))) hr.w)) ?_
  rintro _ _ ⟨_, ⟨rfl, rfl⟩, rfl⟩
  rw [List.nil_append]
  repeat' (first | refine S1 ?_ | refine SD ?_ | refine SA (fun _ => ?_) | refine WL.g_split rfl rfl (fun hc => ?_) (fun hc => ?_) | refine WD.g_split rfl rfl (fun hc => ?_) (fun hc => ?_) | refine W.cond rfl (fun hc => ?_) (fun hc => ?_))
  exact Fin.retW (by exact rfl) resA (fun _ h => h) ⟨rfl, rfl⟩
theorem xrready_tr (F : Nat → Option Obj) (r : RxM) (hr : r.ok) : Tr Tryz.prog 19 [.pointer (some ⟨r.R, 0, none⟩)].toArray F r.H (fun v H => v = .int .i64 r.S.w.row.length ∧ H = r.H) := by
  refine Tr.enter Tryz.func19 rfl Tryz.ntmps19 rfl (fun w0 => ?_)
  unfold RxM.H RxM.B
  repeat' (first | refine S1 ?_ | refine SD ?_ | refine SA (fun _ => ?_) | refine WL.g_split rfl rfl (fun hc => ?_) (fun hc => ?_) | refine WD.g_split rfl rfl (fun hc => ?_) (fun hc => ?_) | refine W.cond rfl (fun hc => ?_) (fun hc => ?_))
  refine WL.e rfl (Ef.callW (by exact rfl) (.nil _) (fun F' hF => rrdy_tr F' r.w (Sees.mono (RF.sees (F := F) hr.w) (fun w h => (hF w h).sublist (.cons _ ((List.sublist_append_right _ _).trans (List.sublist_append_right r.m.H _))))))) ?_
  rintro _ _ ⟨_, ⟨rfl, rfl⟩, rfl⟩
  rw [List.nil_append]
  repeat' (first | refine S1 ?_ | refine SD ?_ | refine SA (fun _ => ?_) | refine WL.g_split rfl rfl (fun hc => ?_) (fun hc => ?_) | refine WD.g_split rfl rfl (fun hc => ?_) (fun hc => ?_) | refine W.cond rfl (fun hc => ?_) (fun hc => ?_))
  exact Fin.retW (by exact rfl) resA (fun _ h => h) ⟨rfl, rfl⟩
/-! ### what acts -/
theorem xrfin_tr (F : Nat → Option Obj) (r : RxM) (hr : r.ok) (now : Int) : Tr Tryz.prog 38 [.pointer (some ⟨r.R, 0, none⟩), .int .i64 now].toArray F r.H (fun v H => v = .tuple #[] ∧ ∃ r' : RxM, r'.ok ∧ H = r'.H ∧ r'.R = r.R ∧ r'.S = Rcv.fin r.S now ∧ r'.w = r.w) := by
  refine Tr.enter Tryz.func38 rfl Tryz.ntmps38 rfl (fun w0 => ?_)
  unfold RxM.H RxM.B
  repeat' (first | refine S1 ?_ | refine SD ?_ | refine SA (fun _ => ?_) | refine WL.g_split rfl rfl (fun hc => ?_) (fun hc => ?_) | refine WD.g_split rfl rfl (fun hc => ?_) (fun hc => ?_) | refine W.cond rfl (fun hc => ?_) (fun hc => ?_))
  · refine WD.e rfl (Ef.call (c := r.d.H) (by exact rfl) (.last (.there (.right .here))) (xpacket_tr _ r.d hr.d now r.urg)) ?_
    rintro _ _ ⟨_, ⟨rfl, rfl⟩, rfl⟩
    refine ⟨.inl (by kernel_rfl), ?_⟩
    repeat' (first | refine S1 ?_ | refine SD ?_ | refine SA (fun _ => ?_) | refine WL.g_split rfl rfl (fun hc => ?_) (fun hc => ?_) | refine WD.g_split rfl rfl (fun hc => ?_) (fun hc => ?_) | refine W.cond rfl (fun hc => ?_) (fun hc => ?_))
    refine Fin.endW (by exact rfl) resA (H' := ((⟨r.R, r.m, ⟨r.d.R, Del.packet r.d.s now r.urg⟩, r.w, r.room, r.most, false, false⟩ : RxM)).H) (fun _ h => ?_) ⟨rfl, (⟨r.R, r.m, ⟨r.d.R, Del.packet r.d.s now r.urg⟩, r.w, r.room, r.most, false, false⟩ : RxM), ⟨hr.m, hr.d.packet now r.urg, hr.w⟩, rfl, rfl, ?_, rfl⟩
    · exact In.of_sub (.pick (.right .here) (.pickL (L := r.m.H) (.right .here) (.pickL (L := DxM.H ⟨r.d.R, Del.packet r.d.s now r.urg⟩) .here (.last (L := r.w.H) .all)))) h
    · show _ = Rcv.fin _ now
      unfold Rcv.fin
      rw [show r.S.came = true from hc, if_pos rfl]
      rfl
  · refine Fin.endW (by exact rfl) resA (H' := ((⟨r.R, r.m, r.d, r.w, r.room, r.most, false, false⟩ : RxM)).H) (fun _ h => h) ⟨rfl, (⟨r.R, r.m, r.d, r.w, r.room, r.most, false, false⟩ : RxM), ⟨hr.m, hr.d, hr.w⟩, rfl, rfl, ?_, rfl⟩
    show _ = Rcv.fin _ now
    unfold Rcv.fin
    rw [show r.S.came = false from hc, if_neg (by simp)]
    rfl
/-- what 'Take' answers and leaves -/
def XTakeQ (r : RxM) (v : Value) (H : HL) : Prop :=
  (r.S.w.row = [] ∧ v = tup [.agg [.int .u16 0, .bool false, .slice none 0 0].toArray, .bool false] ∧ H = r.H) ∨
  ∃ (m : Ms) (r' : RxM), m.ok ∧ r'.ok ∧ v = tup [.agg m.cells.toArray, .bool true] ∧ H = r'.H ++ m.hb ∧ r'.R = r.R ∧ r.S.w.row = m.g :: r'.S.w.row ∧ r'.S = Rcv.take r.S
theorem xrtake_tr (F : Nat → Option Obj) (r : RxM) (hr : r.ok) : Tr Tryz.prog 40 [.pointer (some ⟨r.R, 0, none⟩)].toArray F r.H (XTakeQ r) := by
  refine Tr.enter Tryz.func40 rfl Tryz.ntmps40 rfl (fun w0 => ?_)
  unfold RxM.H RxM.B
  repeat' (first | refine S1 ?_ | refine SD ?_ | refine SA (fun _ => ?_) | refine WL.g_split rfl rfl (fun hc => ?_) (fun hc => ?_) | refine WD.g_split rfl rfl (fun hc => ?_) (fun hc => ?_) | refine W.cond rfl (fun hc => ?_) (fun hc => ?_))
  refine WL.e rfl (Ef.call (c := r.w.H) (by exact rfl) (.last (.there (.there (.right (.right .all))))) (rtake_tr _ r.w hr.w)) ?_
  rintro _ _ ⟨_, (⟨hno, rfl, rfl⟩ | ⟨m, w', hm, hw', rfl, rfl, hR, hrow, hL, hnx⟩), rfl⟩
  · dsimp only [tup]
    repeat' (first | refine S1 ?_ | refine SD ?_ | refine SA (fun _ => ?_) | refine WL.g_split rfl rfl (fun hc => ?_) (fun hc => ?_) | refine WD.g_split rfl rfl (fun hc => ?_) (fun hc => ?_) | refine W.cond rfl (fun hc => ?_) (fun hc => ?_))
    exact Fin.retW (by exact rfl) resA (H' := r.H) (fun _ h => In.of_sub (.pick (.right (.there .here)) (.pickL (L := r.m.H) (.right (.there .here)) (.pickL (L := r.d.H) (.right (.there .here)) (.last (L := r.w.H) .here)))) h) (.inl ⟨hno, rfl, rfl⟩)
  · dsimp only [tup]
    rw [List.append_assoc]
    repeat' (first | refine S1 ?_ | refine SD ?_ | refine SA (fun _ => ?_) | refine WL.g_split rfl rfl (fun hc => ?_) (fun hc => ?_) | refine WD.g_split rfl rfl (fun hc => ?_) (fun hc => ?_) | refine W.cond rfl (fun hc => ?_) (fun hc => ?_))
    have hS : w'.S = (Rm.take r.w.S).2 := by
      have e : Rm.take r.w.S = (some m.g, ⟨r.w.L, w'.row, r.w.nx⟩) := by unfold Rm.take; rw [show r.w.S.row = _ from hrow]; rfl
      rw [e]
      unfold RF.S
      rw [hL, hnx]
    refine Fin.retW (by exact rfl) resA (H' := ((⟨r.R, r.m, r.d, w', r.room, r.most, r.came, r.urg⟩ : RxM)).H ++ m.hb) (fun _ h => ?_) (.inr ⟨m, (⟨r.R, r.m, r.d, w', r.room, r.most, r.came, r.urg⟩ : RxM), hm, ⟨hr.m, hr.d, hw'⟩, rfl, rfl, rfl, hrow, ?_⟩)
    · unfold RxM.H RxM.B
      dsimp only
      rw [hR, List.cons_append, List.append_assoc, List.append_assoc]
      exact In.of_sub (.pick (.right (.right (.there .here))) (.pickL (L := r.m.H) (.right (.right (.there .here))) (.pickL (L := r.d.H) (.right (.right (.there .here))) (.pickL (L := w'.H) .here (.last (L := m.hb) .here))))) h
    · unfold RxM.S Rcv.take
      dsimp only
      rw [hS]
end Go.Proofs.YthjglhdjlmjffaaGreat
