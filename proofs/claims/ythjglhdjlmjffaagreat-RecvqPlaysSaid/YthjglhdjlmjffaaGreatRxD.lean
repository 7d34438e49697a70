/- The document's receiver: its map copied, and its 'Sack', walked. Conditions: bounds on what is held and told. -/
import Derived.Test.YthjglhdjlmjffaaGreatRxC
import Derived.Test.YthjglhdjlmjffaaGreatRcD
namespace Go.Proofs.YthjglhdjlmjffaaGreat
open Go Go.Sl Go.Rm

set_option maxRecDepth 40000 in
set_option maxHeartbeats 4000000 in
theorem xcopy_tr (F : Nat → Option Obj) (x : XM) (hx : x.ok) : Tr Tryz.prog 68 [.pointer (some ⟨x.R, 0, none⟩)].toArray F x.H (fun v H => ∃ y : XM, y.ok ∧ v = .pointer (some ⟨y.R, 0, none⟩) ∧ H = y.H ++ x.H ∧ y.S = x.S ∧ y.ds = x.ds) := by
  refine Tr.enter Tryz.func68 rfl Tryz.ntmps68 rfl (fun w0 => ?_)
  have hlen : (Value.int .u32 x.b :: (x.cs ++ [.slice x.da x.dn x.dc])).length = 4100 := by simp [hx.bits.1]
  have hcut : cut (Value.int .u32 x.b :: (x.cs ++ [.slice x.da x.dn x.dc])) 0 4100 = some (Value.int .u32 x.b :: (x.cs ++ [.slice x.da x.dn x.dc])) := by
    unfold cut
    rw [dropK_eq, if_pos (Nat.zero_le _), takeK_eq, if_pos (by rw [List.drop_zero, hlen]; exact Nat.le_refl _), List.drop_zero, ← hlen, List.take_length]
  unfold XM.H XB
  repeat' (first | refine S1 ?_ | refine SD ?_ | refine SA (fun _ => ?_) | refine WL.g_split rfl rfl (fun hc => ?_) (fun hc => ?_) | refine WD.g_split rfl rfl (fun hc => ?_) (fun hc => ?_) | refine W.cond rfl (fun hc => ?_) (fun hc => ?_))
  have hone : (Value.int .u32 x.b :: (x.cs ++ [.slice x.da x.dn x.dc])).all (·.oneCell') = true := by
    rw [List.all_eq_true]
    intro v hv
    rcases List.mem_cons.1 hv with rfl | hv
    · rfl
    · rcases List.mem_append.1 hv with hv | hv
      · obtain ⟨u, rfl⟩ := hx.bits.2.1 v hv; rfl
      · rw [List.mem_singleton.1 hv]; rfl
  have hput : spliceK ([Value.int .u32 0] ++ List.replicate 4098 (Value.bool false) ++ [Value.slice none 0 0]) 0 (Value.int .u32 x.b :: (x.cs ++ [.slice x.da x.dn x.dc])) some = some (Value.int .u32 x.b :: (x.cs ++ [.slice x.da x.dn x.dc])) := by
    rw [spliceK_eq, hlen, if_pos (by simp), List.take_zero, List.nil_append, List.drop_eq_nil_of_le (by simp), List.append_nil]
  have hsl := sl_get hx.bits (.int .u32 x.b) (.slice x.da x.dn x.dc)
  refine WL.s rfl (Rd.lda rfl (.here hcut)) ?_
  repeat' (first | refine S1 ?_ | refine SD ?_ | refine SA (fun _ => ?_) | refine WL.g_split rfl rfl (fun hc => ?_) (fun hc => ?_) | refine WD.g_split rfl rfl (fun hc => ?_) (fun hc => ?_) | refine W.cond rfl (fun hc => ?_) (fun hc => ?_))
  refine WL.e0 (Ef.sta rfl rfl hlen hone (.here hput)) ?_
  rintro _ _ ⟨rfl, rfl⟩
  repeat' (first | refine S1 ?_ | refine SD ?_ | refine SA (fun _ => ?_) | refine WL.g_split rfl rfl (fun hc => ?_) (fun hc => ?_) | refine WD.g_split rfl rfl (fun hc => ?_) (fun hc => ?_) | refine W.cond rfl (fun hc => ?_) (fun hc => ?_))
  rename_i b be
  have hdl := hx.len
  have hfew := hx.few
  refine WL.e rfl (Ef.app (m := x.dn) (news := x.ds.map (Value.int .u32)) (by exact rfl) (by exact rfl) rfl rfl (OwnS.empty _ _ be) (.last .here) (OwnS.src hx.own (fun _ h => h.sublist (.cons _ (.cons _ (.cons _ (.refl _)))))) (by rw [List.length_map]; omega) (fun u hu => by obtain ⟨n, _, rfl⟩ := List.mem_map.1 hu; rfl) (by rw [List.length_map]; simp; omega) (by rw [List.length_map]; simp [maxLen]; omega)) ?_
  rintro _ _ ⟨yb, hy, rfl⟩
  rw [List.nil_append] at hy
  obtain ⟨ya, yn, yc, rfl, _, _⟩ := OwnS.shape hy
  have hput2 := sl_put hx.bits (.int .u32 x.b) (.slice x.da x.dn x.dc) (.slice ya yn yc)
  repeat' (first | refine S1 ?_ | refine SD ?_ | refine SA (fun _ => ?_) | refine WL.g_split rfl rfl (fun hc => ?_) (fun hc => ?_) | refine WD.g_split rfl rfl (fun hc => ?_) (fun hc => ?_) | refine W.cond rfl (fun hc => ?_) (fun hc => ?_))
  refine Fin.retW (by exact rfl) resA (H' := XM.H ⟨b, x.b, x.cs, ya, yn, yc, yb, x.ds⟩ ++ x.H) (fun _ h => ?_) ⟨⟨b, x.b, x.cs, ya, yn, yc, yb, x.ds⟩, ⟨hx.bits, hx.base, hy, hfew⟩, rfl, rfl, rfl, rfl⟩
  unfold XM.H XB
  dsimp only
  rw [List.append_assoc]
  exact In.of_sub (.pick (.right .here) (.pickL (L := yb) .here (.last .all))) h
structure SkG where
  b : Nat
  c : Int
  ga : Option Addr
  gn : Nat
  gc : Nat
  ra : Option Addr
  rn : Nat
  rc : Nat
def XSackQ (r : RxM) (v : Value) (H : HL) : Prop :=
  ∃ (r' : RxM) (ga : Option Addr) (gn gc : Nat) (gb : HL) (ra : Option Addr) (rn rc : Nat) (rb : HL), v = .agg [.int .u32 r.S.m.b, .int .u32 (Rcv.sRoom r.S), .slice ga gn gc, .slice ra rn rc].toArray ∧ r'.ok ∧ H = r'.H ++ (gb ++ rb) ∧ r'.R = r.R ∧ r'.w = r.w ∧ r'.S = Rcv.sack r.S ∧
    OwnS 92 2 ((Rcv.sGaps r.S).flatMap gCells) (.slice ga gn gc) gb ∧ OwnS 24 1 ((Rcv.sDups r.S).map (Value.int .u32)) (.slice ra rn rc) rb
set_option maxHeartbeats 4000000 in
theorem xrsack_tr (F : Nat → Option Obj) (r : RxM) (hr : r.ok) (hmost : 0 ≤ r.most ∧ r.most ≤ 100000) (hroom : 0 ≤ r.room ∧ r.room ≤ 1048576) (hheld : Rcv.held r.S ≤ 1048576) : Tr Tryz.prog 39 [.pointer (some ⟨r.R, 0, none⟩)].toArray F r.H (XSackQ r) := by
  refine Tr.enter Tryz.func39 rfl Tryz.ntmps39 rfl (fun w0 => ?_)
  unfold RxM.H RxM.B
  repeat' (first | refine S1 ?_ | refine SA (fun _ => ?_) | refine WL.g_split rfl rfl (fun hc => ?_) (fun hc => ?_) | refine WD.g_split rfl rfl (fun hc => ?_) (fun hc => ?_) | refine W.cond rfl (fun hc => ?_) (fun hc => ?_))
  rename_i b1
  refine W.cut (G := SkG) (fun g => [(3, .pointer (some ⟨g.b, 0, none⟩)), (0, .pointer (some ⟨r.R, 0, none⟩)), (2, .pointer (some ⟨b1, 0, none⟩))]) (fun g => (g.b, .cells [.int .u32 g.c, .int .u32 0, .slice g.ga g.gn g.gc, .slice g.ra g.rn g.rc].toArray 43 (0, 0)) :: (b1, .cells [.int .u32 0, .int .u32 0, .slice none 0 0, .slice none 0 0].toArray 43 (0, 0)) :: r.B :: (r.m.H ++ (r.d.H ++ r.w.H))) (fun g => g.gn = (Spn.gaps r.m.S r.most).length) (fun K' hK _ => ?_) ?_
  · refine W.drawG 10 [(_, _), (r.R, _)] (fun _ h => h.sublist (.cons_cons _ (.cons_cons _ (List.nil_sublist _)))) ?_
    repeat' (first
      | refine WF.pA ?_ | refine WF.sA ?_)
    refine WF.e rfl (Ef.call (c := r.m.H) (by exact rfl) (.last (.there (.there .here))) (xcopy_tr _ r.m hr.m)) ?_ ?_
    · rintro _ _ ⟨_, ⟨y, hy, rfl, rfl, hyS, hyd⟩, rfl⟩
      refine ⟨.inr (fun _ h => by rw [List.append_assoc] at h; exact In.of_sub subA h), ?_⟩
      rw [List.append_assoc]
      repeat' (first
        | refine WF.pA ?_ | refine WF.sA ?_)
      refine WF.e rfl (Ef.call (c := y.H) (by exact rfl) (.last .here) (xreport_tr _ y hy r.most 0)) ?_ ?_
      · rintro _ _ ⟨_, ⟨y2, ga, gn, gc, gb, ra, rn, rc, rb, rfl, hq, rfl⟩, rfl⟩
        refine ⟨.inl (by kernel_rfl), ?_⟩
        rw [List.append_assoc, List.append_assoc]
        refine WF.nil ?_
        refine WD.aA (fun b3 => ?_) (hk := by intro b; exact .inr (fun _ h => In.of_sub subA h))
        refine WD.e0A ?_ (hk := .inl (by kernel_rfl))
        refine WD.nil ?_
        exact Fin.cut hK ⟨b3, y.b, ga, gn, gc, ra, rn, rc⟩ (by have := hq.g.len; rw [flat_len' gCells 2 (fun _ => rfl)] at this; rw [← hyS]; dsimp only; omega) envA (fun _ h => In.of_sub subA h)
      · refine WD.aA (fun b3 => ?_) (hk := by intro b; exact .inr (fun _ h => In.of_sub subA h))
        refine WD.e rfl (Ef.call (c := y.H) (by exact rfl) (.last (.there .here)) (xreport_tr _ y hy r.most 0)) ?_
        rintro _ _ ⟨_, ⟨y2, ga, gn, gc, gb, ra, rn, rc, rb, rfl, hq, rfl⟩, rfl⟩
        refine ⟨.inl (by kernel_rfl), ?_⟩
        rw [List.append_assoc, List.append_assoc]
        refine WD.e0 (Ef.sta rfl rfl rfl rfl (.right (.right (.right (.here rfl))))) ?_
        rintro _ _ ⟨rfl, rfl⟩
        refine ⟨.inl (by kernel_rfl), ?_⟩
        refine WD.nil ?_
        exact Fin.cut hK ⟨b3, y.b, ga, gn, gc, ra, rn, rc⟩ (by have := hq.g.len; rw [flat_len' gCells 2 (fun _ => rfl)] at this; rw [← hyS]; dsimp only; omega) envA (fun _ h => In.of_sub subA h)
    · refine WD.aA (fun b3 => ?_) (hk := by intro b; exact .inr (fun _ h => In.of_sub subA h))
      refine WD.e rfl (Ef.call (c := r.m.H) (by exact rfl) (.last (.there (.there (.there .here)))) (xcopy_tr _ r.m hr.m)) ?_
      rintro _ _ ⟨_, ⟨y, hy, rfl, rfl, hyS, hyd⟩, rfl⟩
      refine ⟨.inr (fun _ h => by rw [List.append_assoc] at h; exact In.of_sub subA h), ?_⟩
      rw [List.append_assoc]
      repeat' (first | refine S1 ?_)
      refine WD.e rfl (Ef.call (c := y.H) (by exact rfl) (.last .here) (xreport_tr _ y hy r.most 0)) ?_
      rintro _ _ ⟨_, ⟨y2, ga, gn, gc, gb, ra, rn, rc, rb, rfl, hq, rfl⟩, rfl⟩
      refine ⟨.inl (by kernel_rfl), ?_⟩
      rw [List.append_assoc, List.append_assoc]
      refine WD.e0 (Ef.sta rfl rfl rfl rfl (.right (.right (.right (.right (.here rfl)))))) ?_
      rintro _ _ ⟨rfl, rfl⟩
      refine ⟨.inl (by kernel_rfl), ?_⟩
      refine WD.nil ?_
      exact Fin.cut hK ⟨b3, y.b, ga, gn, gc, ra, rn, rc⟩ (by have := hq.g.len; rw [flat_len' gCells 2 (fun _ => rfl)] at this; rw [← hyS]; dsimp only; omega) envA (fun _ h => In.of_sub subA h)
  rintro ⟨b3, yb, ga, gn, gc, ra, rn, rc⟩ hgn
  dsimp only at hgn ⊢
  unfold RxM.B
  repeat' (first | refine S1 ?_ | refine SA (fun _ => ?_) | refine WL.g_split rfl rfl (fun hc => ?_) (fun hc => ?_) | refine WD.g_split rfl rfl (fun hc => ?_) (fun hc => ?_) | refine W.cond rfl (fun hc => ?_) (fun hc => ?_))
  refine W.drawG 17 [(b3, _), (r.R, _)] (fun _ h => In.of_sub subA h) ?_
  repeat' (first
    | refine WF.pA ?_ | refine WF.sA ?_)
  have hgl : gn ≤ r.most.toNat := by rw [hgn]; exact Rcv.sGaps_le r.S
  rw [show IntKind.i64.wrap (r.most - (gn : Int)) = r.most - gn from i64_id (by omega) (by omega)]
  refine WF.e rfl (Ef.call (c := r.m.H) (by exact rfl) (.last (.there (.there (.there .here)))) (xreport_tr _ r.m hr.m r.most (r.most - gn))) ?_ ?_
  · rintro _ _ ⟨_, ⟨m', ga2, gn2, gc2, gb, ra2, rn2, rc2, rb, rfl, hq, rfl⟩, rfl⟩
    refine ⟨.inl (by kernel_rfl), ?_⟩
    rw [List.append_assoc, List.append_assoc]
    refine WF.nil ?_
    refine WD.aA (fun b4 => ?_) (hk := by intro b; exact .inr (fun _ h => In.of_sub subA h))
    refine WD.e0A ?_ (hk := .inl (by kernel_rfl))
    refine WD.nil ?_
    refine Fin.weakH (H' := (b4, _) :: (b1, _) :: (r.R, _) :: (m'.H ++ (r.d.H ++ (r.w.H ++ (gb ++ rb))))) (fun _ h => In.of_sub (.pick .here (.pick (.right (.right (.right (.there .here)))) (.pick (.right (.right (.right (.there .here)))) (.pickL (L := m'.H) .here (.pickL (L := r.d.H) (.right (.right (.there .here))) (.pickL (L := r.w.H) (.right (.right (.there .all))) (.pickL (L := gb) .here (.last (L := rb) .here)))))))) h) ?_
    repeat' (first | refine S1 ?_ | refine SD ?_ | refine SA (fun _ => ?_) | refine WL.g_split rfl rfl (fun hc => ?_) (fun hc => ?_) | refine WD.g_split rfl rfl (fun hc => ?_) (fun hc => ?_) | refine W.cond rfl (fun hc => ?_) (fun hc => ?_))
    refine WD.e rfl (Ef.callW (by exact rfl) (.nil _) (fun F' hF => rheld_tr F' r.w (Sees.mono (RF.sees (F := F) hr.w) (fun w h => (hF w h).sublist (.cons _ (.cons _ (.cons _ ((List.sublist_append_left r.w.H _).trans ((List.sublist_append_right r.d.H _).trans (List.sublist_append_right m'.H _)))))))) hr.w)) ?_
    rintro _ _ ⟨_, ⟨rfl, rfl⟩, rfl⟩
    rw [List.nil_append]
    refine ⟨.inr (fun _ h => h), ?_⟩
    repeat' (first | refine S1 ?_ | refine SD ?_ | refine SA (fun _ => ?_) | refine WL.g_split rfl rfl (fun hc => ?_) (fun hc => ?_) | refine WD.g_split rfl rfl (fun hc => ?_) (fun hc => ?_) | refine W.cond rfl (fun hc => ?_) (fun hc => ?_))
    refine WL.e rfl (Ef.call (c := r.d.H) (by exact rfl) (.last (.there (.there (.there (.right .here))))) (xdsent_tr _ r.d)) ?_
    rintro _ _ ⟨_, ⟨rfl, rfl⟩, rfl⟩
    repeat' (first | refine S1 ?_ | refine SD ?_ | refine SA (fun _ => ?_) | refine WL.g_split rfl rfl (fun hc => ?_) (fun hc => ?_) | refine WD.g_split rfl rfl (fun hc => ?_) (fun hc => ?_) | refine W.cond rfl (fun hc => ?_) (fun hc => ?_))
    have hro : IntKind.u32.wrap (IntKind.i64.wrap (r.room - ((totD r.w.L + totM r.w.row : Nat) : Int))) = Rcv.sRoom r.S := by
      rw [show totD r.w.L + totM r.w.row = Rcv.held r.S from rfl, i64_id (n := r.room - (Rcv.held r.S : Int)) (by omega) (by omega)]; rfl
    have hdeq : r.m.ds.take (dupN (r.most - gn) r.m.ds.length) = Rcv.sDups r.S := by
      have e1 : (r.S.most - ((Rcv.sGaps r.S).length : Int)).toNat = (r.most - (gn : Int)).toNat := by rw [hgn]; rfl
      unfold Rcv.sDups
      rw [e1, dupN_eq]
      show _ = (r.m.ds).take _
      rcases Nat.lt_or_ge (r.most - (gn : Int)).toNat r.m.ds.length with h | h
      · rw [show min (r.most - (gn : Int)).toNat r.m.ds.length = (r.most - (gn : Int)).toNat by omega]
      · rw [List.take_of_length_le (by omega), List.take_of_length_le (by omega)]
    refine Fin.retW (by exact rfl) resA (H' := ((⟨r.R, m', ⟨r.d.R, Del.sent r.d.s⟩, r.w, r.room, r.most, r.came, r.urg⟩ : RxM)).H ++ (gb ++ rb)) (fun _ h => ?_) ⟨(⟨r.R, m', ⟨r.d.R, Del.sent r.d.s⟩, r.w, r.room, r.most, r.came, r.urg⟩ : RxM), ga2, gn2, gc2, gb, ra2, rn2, rc2, rb, by rw [hro]; rfl, ⟨hq.ok, hr.d.sent, hr.w⟩, rfl, rfl, rfl, ?_, hq.g, by rw [← hdeq]; exact hq.d⟩
    · unfold RxM.H RxM.B
      dsimp only
      rw [hq.R]
      simp only [List.cons_append, List.append_assoc]
      exact In.of_sub (.pick (.right (.there (.there .here))) (.pickL (L := m'.H) (.right (.there (.there .here))) (.pickL (L := DxM.H ⟨r.d.R, Del.sent r.d.s⟩) .here (.pickL (L := r.w.H) (.there (.there .here)) (.pickL (L := gb) (.there (.there .here)) (.last (L := rb) (.there (.there .all)))))))) h
    · unfold RxM.S Rcv.sack
      dsimp only
      rw [hq.S, hq.ds]
  · refine WD.aA (fun b4 => ?_) (hk := by intro b; exact .inr (fun _ h => In.of_sub subA h))
    refine WD.e rfl (Ef.call (c := r.m.H) (by exact rfl) (.last (.there (.there (.there (.there .here))))) (xreport_tr _ r.m hr.m r.most (r.most - gn))) ?_
    rintro _ _ ⟨_, ⟨m', ga2, gn2, gc2, gb, ra2, rn2, rc2, rb, rfl, hq, rfl⟩, rfl⟩
    refine ⟨.inl (by kernel_rfl), ?_⟩
    rw [List.append_assoc, List.append_assoc]
    refine WD.e0 (Ef.sta rfl rfl rfl rfl (.right (.right (.right (.here rfl))))) ?_
    rintro _ _ ⟨rfl, rfl⟩
    refine ⟨.inl (by kernel_rfl), ?_⟩
    refine WD.nil ?_
    refine Fin.weakH (H' := (b4, _) :: (b1, _) :: (r.R, _) :: (m'.H ++ (r.d.H ++ (r.w.H ++ (gb ++ rb))))) (fun _ h => In.of_sub (.pick (.right (.right (.right .here))) (.pick (.right (.right (.right (.there .here)))) (.pick (.right (.right (.right (.there .here)))) (.pickL (L := m'.H) .here (.pickL (L := r.d.H) (.right (.right (.there .here))) (.pickL (L := r.w.H) (.right (.right (.there .all))) (.pickL (L := gb) .here (.last (L := rb) .here)))))))) h) ?_
    repeat' (first | refine S1 ?_ | refine SD ?_ | refine SA (fun _ => ?_) | refine WL.g_split rfl rfl (fun hc => ?_) (fun hc => ?_) | refine WD.g_split rfl rfl (fun hc => ?_) (fun hc => ?_) | refine W.cond rfl (fun hc => ?_) (fun hc => ?_))
    refine WD.e rfl (Ef.callW (by exact rfl) (.nil _) (fun F' hF => rheld_tr F' r.w (Sees.mono (RF.sees (F := F) hr.w) (fun w h => (hF w h).sublist (.cons _ (.cons _ (.cons _ ((List.sublist_append_left r.w.H _).trans ((List.sublist_append_right r.d.H _).trans (List.sublist_append_right m'.H _)))))))) hr.w)) ?_
    rintro _ _ ⟨_, ⟨rfl, rfl⟩, rfl⟩
    rw [List.nil_append]
    refine ⟨.inr (fun _ h => h), ?_⟩
    repeat' (first | refine S1 ?_ | refine SD ?_ | refine SA (fun _ => ?_) | refine WL.g_split rfl rfl (fun hc => ?_) (fun hc => ?_) | refine WD.g_split rfl rfl (fun hc => ?_) (fun hc => ?_) | refine W.cond rfl (fun hc => ?_) (fun hc => ?_))
    refine WL.e rfl (Ef.call (c := r.d.H) (by exact rfl) (.last (.there (.there (.there (.right .here))))) (xdsent_tr _ r.d)) ?_
    rintro _ _ ⟨_, ⟨rfl, rfl⟩, rfl⟩
    repeat' (first | refine S1 ?_ | refine SD ?_ | refine SA (fun _ => ?_) | refine WL.g_split rfl rfl (fun hc => ?_) (fun hc => ?_) | refine WD.g_split rfl rfl (fun hc => ?_) (fun hc => ?_) | refine W.cond rfl (fun hc => ?_) (fun hc => ?_))
    have hro : IntKind.u32.wrap (IntKind.i64.wrap (r.room - ((totD r.w.L + totM r.w.row : Nat) : Int))) = Rcv.sRoom r.S := by
      rw [show totD r.w.L + totM r.w.row = Rcv.held r.S from rfl, i64_id (n := r.room - (Rcv.held r.S : Int)) (by omega) (by omega)]; rfl
    have hdeq : r.m.ds.take (dupN (r.most - gn) r.m.ds.length) = Rcv.sDups r.S := by
      have e1 : (r.S.most - ((Rcv.sGaps r.S).length : Int)).toNat = (r.most - (gn : Int)).toNat := by rw [hgn]; rfl
      unfold Rcv.sDups
      rw [e1, dupN_eq]
      show _ = (r.m.ds).take _
      rcases Nat.lt_or_ge (r.most - (gn : Int)).toNat r.m.ds.length with h | h
      · rw [show min (r.most - (gn : Int)).toNat r.m.ds.length = (r.most - (gn : Int)).toNat by omega]
      · rw [List.take_of_length_le (by omega), List.take_of_length_le (by omega)]
    refine Fin.retW (by exact rfl) resA (H' := ((⟨r.R, m', ⟨r.d.R, Del.sent r.d.s⟩, r.w, r.room, r.most, r.came, r.urg⟩ : RxM)).H ++ (gb ++ rb)) (fun _ h => ?_) ⟨(⟨r.R, m', ⟨r.d.R, Del.sent r.d.s⟩, r.w, r.room, r.most, r.came, r.urg⟩ : RxM), ga2, gn2, gc2, gb, ra2, rn2, rc2, rb, by rw [hro]; rfl, ⟨hq.ok, hr.d.sent, hr.w⟩, rfl, rfl, rfl, ?_, hq.g, by rw [← hdeq]; exact hq.d⟩
    · unfold RxM.H RxM.B
      dsimp only
      rw [hq.R]
      simp only [List.cons_append, List.append_assoc]
      exact In.of_sub (.pick (.right (.there (.there .here))) (.pickL (L := m'.H) (.right (.there (.there .here))) (.pickL (L := DxM.H ⟨r.d.R, Del.sent r.d.s⟩) .here (.pickL (L := r.w.H) (.there (.there .here)) (.pickL (L := gb) (.there (.there .here)) (.last (L := rb) (.there (.there .all)))))))) h
    · unfold RxM.S Rcv.sack
      dsimp only
      rw [hq.S, hq.ds]
end Go.Proofs.YthjglhdjlmjffaaGreat
