/- The receiver's 'Data', walked: a piece that is new, that came already, that is too far. Conditions: bounds on what is held; TSNs are 32 bits wide. -/
import Derived.Test.YthjglhdjlmjffaaGreatRcB
namespace Go.Proofs.YthjglhdjlmjffaaGreat
open Go Go.Sl Go.Rm

theorem again_tr (F : Nat → Option Obj) (r : RcM) (hr : r.ok) (d : D) (h32 : 0 ≤ d.tsn ∧ d.tsn < 4294967296) (bv : Value) (_ : bv.oneCell' = true) : Tr Tryz.prog 52 [.pointer (some ⟨r.R, 0, none⟩), .agg (dCells d bv).toArray].toArray F r.H
    (fun v H => v = tup [.bool false, .int .i64 0] ∧ ∃ r' : RcM, r'.ok ∧ H = r'.H ∧ r'.R = r.R ∧ r'.S = { r.S with m := Spn.takeS r.S.m d.tsn, ds := Spn.takeD r.S.m r.S.ds d.tsn, urg := true } ∧ r'.w = r.w) := by
  refine Tr.enter Tryz.func52 rfl Tryz.ntmps52 rfl (fun w0 => ?_)
  unfold RcM.H RcM.B dCells
  repeat' (first | refine S1 ?_ | refine SD ?_ | refine SA (fun _ => ?_) | refine WL.g_split rfl rfl (fun hc => ?_) (fun hc => ?_) | refine WD.g_split rfl rfl (fun hc => ?_) (fun hc => ?_) | refine W.cond rfl (fun hc => ?_) (fun hc => ?_))
  refine WD.e rfl (Ef.call (c := r.m.H) (by exact rfl) (.last (.there (.there .here))) (take_tr _ r.m hr.m d.tsn h32)) ?_
  rintro _ _ ⟨_, ⟨rfl, m', hm', rfl, hR, hS, hd⟩, rfl⟩
  refine ⟨.inl (by kernel_rfl), ?_⟩
  repeat' (first | refine S1 ?_ | refine SD ?_ | refine SA (fun _ => ?_) | refine WL.g_split rfl rfl (fun hc => ?_) (fun hc => ?_) | refine WD.g_split rfl rfl (fun hc => ?_) (fun hc => ?_) | refine W.cond rfl (fun hc => ?_) (fun hc => ?_))
  refine Fin.retW (by exact rfl) resA (H' := ((⟨r.R, m', r.d, r.w, r.room, r.most, r.came, true⟩ : RcM)).H) (fun _ h => ?_) ⟨rfl, (⟨r.R, m', r.d, r.w, r.room, r.most, r.came, true⟩ : RcM), ⟨hm', hr.d, hr.w, hr.room, hr.most, hr.n16, hr.nl, hr.fit⟩, rfl, rfl, ?_, rfl⟩
  · unfold RcM.H RcM.B
    dsimp only
    rw [hR]
    exact In.of_sub (.pick (.right (.there .here)) (.pickL (L := m'.H) .here (.pickL (L := r.d.H) (.there .here) (.last (L := r.w.H) (.there .all))))) h
  · unfold RcM.S
    dsimp only
    rw [hS, hd]
theorem far_tr (F : Nat → Option Obj) (H0 : HL) (p : Value) (l : List Value) : Tr Tryz.prog 53 [p, .agg l.toArray].toArray F H0 (fun v H => v = tup [.bool false, .int .i64 0] ∧ H = H0) := by
  refine Tr.enter Tryz.func53 rfl Tryz.ntmps53 rfl (fun w0 => ?_)
  repeat' (first | refine S1 ?_ | refine SD ?_ | refine SA (fun _ => ?_) | refine WL.g_split rfl rfl (fun hc => ?_) (fun hc => ?_) | refine WD.g_split rfl rfl (fun hc => ?_) (fun hc => ?_) | refine W.cond rfl (fun hc => ?_) (fun hc => ?_))
  exact Fin.retW (by exact rfl) resA (H' := H0) (fun _ h => h.sublist (.cons _ (.refl _))) ⟨rfl, rfl⟩
theorem addF_inH {F : Nat → Option Obj} {H Hr : HL} (hd : ∀ p ∈ Hr, F p.1 = none) {w : World} (h : In (addF F Hr) H w) : In F H w :=
  ⟨h.nd, h.own, fun b o hb => h.fr b o (addF_ro hd hb), fun p hp => by
    cases hf : F p.1 with
    | none => rfl
    | some o => have h1 := h.dj p hp; rw [addF_ro hd hf] at h1; cases h1⟩
theorem RcM.ok.fine {r : RcM} (h : r.ok) : Rm.good r.w.L := by
  refine ⟨by have := h.w.keys; unfold RM.L; rw [List.map_map]; exact this, fun d hd => ?_, ?_⟩
  · obtain ⟨p, hp, rfl⟩ := List.mem_map.1 hd
    exact h.w.wf p hp
  · have h1 := h.w.few
    have h2 := h.w.bound
    unfold RM.L
    rw [List.length_map]
    omega
set_option maxHeartbeats 4000000 in
theorem fresh_tr (F : Nat → Option Obj) (X : HL) (r : RcM) (hr : r.ok) (d : D) (sa : Option Addr) (m sc : Nat) (hsrc : Src F X (.slice sa m sc) m (d.bytes.map B)) (hm : d.bytes.length = m)
    (h16 : 0 ≤ d.stream) (h65 : d.stream < 65536) (h32 : 0 ≤ d.tsn ∧ d.tsn < 4294967296) (hfew : r.w.turns < 1000000) (hmb : m ≤ 1000000000) (hlk : Spn.look r.S.m d.tsn = 0) :
    Tr Tryz.prog 50 [.pointer (some ⟨r.R, 0, none⟩), .agg (dCells d (.slice sa m sc)).toArray].toArray F (r.H ++ X)
    (fun v H => v = tup [.bool (!Rcv.full r.S d), .int .i64 (if Rcv.full r.S d then 6 else putE r.w.S d)] ∧ ∃ r' : RcM, r'.ok ∧ H = r'.H ++ X ∧ r'.R = r.R ∧ r'.w.turns ≤ r.w.turns + 1 ∧
      r'.S = if Rcv.full r.S d then { r.S with urg := true } else { r.S with m := Spn.takeS r.S.m d.tsn, w := Rm.put r.S.w d, urg := r.S.urg || Rcv.holes r.S.m || Rcv.holes (Spn.takeS r.S.m d.tsn) }) := by
  refine Tr.enter Tryz.func50 rfl Tryz.ntmps50 rfl (fun w0 => ?_)
  have hheld := hr.held
  have hfit := hr.fit
  have hroom := hr.room
  obtain ⟨hh, hhe⟩ : ∃ hh, Rcv.held r.S = hh := ⟨_, rfl⟩
  rw [hhe] at hheld hfit
  have hw1 : IntKind.i64.wrap ((hh : Int) + (m : Int)) = (hh : Int) + (m : Int) := i64_id (by omega) (by omega)
  have hfull : Rcv.full r.S d = decide ((hh : Int) + (m : Int) > r.room) := by unfold Rcv.full; rw [hhe, hm]; rfl
  unfold dCells
  rw [show r.H ++ X = r.B :: (r.m.H ++ (r.d.H ++ (r.w.H ++ X))) by unfold RcM.H; simp only [List.cons_append, List.append_assoc]]
  unfold RcM.B
  repeat' (first | refine S1 ?_ | refine SD ?_ | refine SA (fun _ => ?_) | refine WL.g_split rfl rfl (fun hc => ?_) (fun hc => ?_) | refine WD.g_split rfl rfl (fun hc => ?_) (fun hc => ?_) | refine W.cond rfl (fun hc => ?_) (fun hc => ?_))
  refine WD.e rfl (Ef.callR (c := r.w.H) (by exact rfl) (.last (.there (.there (.right (.right .here))))) (heldA _ r.w)) ?_
  rintro _ _ ⟨rfl, rfl⟩
  refine ⟨.inr (fun _ h => h), ?_⟩
  rw [hheld]
  repeat' (first | refine S1 ?_ | refine SD ?_ | refine SA (fun _ => ?_) | refine WL.g_split rfl rfl (fun hc => ?_) (fun hc => ?_) | refine WD.g_split rfl rfl (fun hc => ?_) (fun hc => ?_) | refine W.cond rfl (fun hc => ?_) (fun hc => ?_))
  · rw [hw1] at hc
    refine Fin.retW (by exact rfl) resA (H' := ((⟨r.R, r.m, r.d, r.w, r.room, r.most, r.came, true⟩ : RcM)).H ++ X) (fun _ h => ?_) ⟨?_, (⟨r.R, r.m, r.d, r.w, r.room, r.most, r.came, true⟩ : RcM), ⟨hr.m, hr.d, hr.w, hr.room, hr.most, hr.n16, hr.nl, hr.fit⟩, rfl, rfl, by dsimp only; omega, ?_⟩
    · unfold RcM.H RcM.B
      simp only [List.cons_append, List.append_assoc]
      exact h.sublist (.cons _ (.refl _))
    · rw [hfull, hc]; rfl
    · rw [hfull, hc]; rfl
  rw [hw1] at hc
  rw [hfull, hc]
  have hnf := of_decide_eq_false hc
  refine WL.e rfl (Ef.callR (c := r.m.H) (by exact rfl) (.last (.there (.there .here))) (holes_tr _ r.m hr.m)) ?_
  rintro _ _ ⟨rfl, rfl⟩
  rw [show decide (0 < Spn.count r.m.s.S) = Rcv.holes r.S.m from rfl]
  obtain ⟨ha, hha⟩ : ∃ ha, True ∧ Rcv.holes r.S.m = ha := ⟨_, trivial, rfl⟩
  rw [hha.2]
  repeat' (first | refine S1 ?_ | refine SD ?_ | refine SA (fun _ => ?_) | refine WL.g_split rfl rfl (fun hc => ?_) (fun hc => ?_) | refine WD.g_split rfl rfl (fun hc => ?_) (fun hc => ?_) | refine W.cond rfl (fun hc => ?_) (fun hc => ?_))
  refine WD.e rfl (Ef.call (c := r.m.H) (by exact rfl) (.last (.there (.there .here))) (take_tr _ r.m hr.m d.tsn h32)) ?_
  rintro _ _ ⟨_, ⟨rfl, m', hm', rfl, hR, hS, hd⟩, rfl⟩
  refine ⟨.inl (by kernel_rfl), ?_⟩
  have hds : m'.ds = r.m.ds := by rw [hd]; unfold Spn.takeD; rw [if_neg (fun h => by have e : Spn.look r.m.s.S d.tsn = 0 := hlk; omega)]
  have hgood := hr.fine
  have hput := put_tot (s := r.w.S) (d := d) hgood h32 (by have := hr.w.few; have := hr.w.bound; show r.w.L.length + 1 < _; unfold RM.L; rw [List.length_map]; omega)
  refine WD.nil ?_
  refine Fin.weakH (H' := (r.R, _) :: (_, _) :: (m'.H ++ (r.d.H ++ (r.w.H ++ X)))) (fun _ h => In.of_sub (.pick (.right (.there .here)) (.pick (.right .here) (.pickL (L := m'.H) .here (.pickL (L := r.d.H) .here (.pickL (L := r.w.H) .here (.last .all)))))) h) ?_
  repeat' (first | refine S1 ?_ | refine SD ?_ | refine SA (fun _ => ?_) | refine WL.g_split rfl rfl (fun hc => ?_) (fun hc => ?_) | refine WD.g_split rfl rfl (fun hc => ?_) (fun hc => ?_) | refine W.cond rfl (fun hc => ?_) (fun hc => ?_))
  · have hu : r.urg = true := hc
    refine WD.e rfl (Ef.callF (by exact rfl) (.pickL (L := r.w.H) (.there (.there (.right (.right .here)))) (.last (L := X) (.there (.there (.right (.right .all)))))) (fun hd => put_tr _ X r.w hr.w d sa m sc (Src.mono hsrc (fun _ h => addF_inH hd h)) hm h16 h65 h32 hfew (by rw [← show Rcv.held r.S = totD r.w.L + totM r.w.row from rfl, hhe]; omega) (by have := hr.nl; omega))) ?_
    rintro _ _ ⟨_, ⟨rfl, w', hw', rfl, hwR, hwt, hwS, hwn⟩, rfl⟩
    refine ⟨.inl (by kernel_rfl), ?_⟩
    have hw'n : w'.nx = (Rm.put r.w.S d).nx := by have := (RM.said hwS).2.2; exact this
    repeat' (first | refine S1 ?_ | refine SD ?_ | refine SA (fun _ => ?_) | refine WL.g_split rfl rfl (fun hc => ?_) (fun hc => ?_) | refine WD.g_split rfl rfl (fun hc => ?_) (fun hc => ?_) | refine W.cond rfl (fun hc => ?_) (fun hc => ?_))
    refine Fin.retW (by exact rfl) resA (H' := ((⟨r.R, m', r.d, w', r.room, r.most, r.came, true⟩ : RcM)).H ++ X) (fun _ h => ?_) ⟨rfl, (⟨r.R, m', r.d, w', r.room, r.most, r.came, true⟩ : RcM), ⟨hm', hr.d, hw', hr.room, hr.most, by show nx16 w'.nx; rw [hw'n]; exact put_nx hr.n16, by show w'.nx.length ≤ 16; rw [hwn]; exact hr.nl, ?_⟩, rfl, rfl, hwt, ?_⟩
    · unfold RcM.H RcM.B
      dsimp only
      rw [hR, hwR]
      simp only [List.cons_append, List.append_assoc]
      rw [List.append_assoc] at h
      exact In.of_sub (.pick (.right (.right .here)) (.pickL (L := m'.H) (.right (.right (.there .here))) (.pickL (L := r.d.H) (.right (.right (.there .here))) (.pickL (L := w'.H) .here (.last (L := X) .here))))) h
    · have e : Rcv.held ((⟨r.R, m', r.d, w', r.room, r.most, r.came, true⟩ : RcM)).S = totD (Rm.put r.w.S d).L + totM (Rm.put r.w.S d).row := by unfold RcM.S Rcv.held; dsimp only; rw [hwS]
      rw [e, hput]
      have e2 : totD r.w.S.L + totM r.w.S.row = hh := hhe
      rw [e2]
      dsimp only
      split <;> omega
    · rw [if_neg (by simp), show r.S.urg = r.urg from rfl]
      unfold RcM.S
      dsimp only
      rw [hS, hds, hwS]
      rw [hu, Bool.true_or, Bool.true_or]
  · have hu : ha = true := hc
    refine WD.e rfl (Ef.callF (by exact rfl) (.pickL (L := r.w.H) (.there (.there (.right (.right .here)))) (.last (L := X) (.there (.there (.right (.right .all)))))) (fun hd => put_tr _ X r.w hr.w d sa m sc (Src.mono hsrc (fun _ h => addF_inH hd h)) hm h16 h65 h32 hfew (by rw [← show Rcv.held r.S = totD r.w.L + totM r.w.row from rfl, hhe]; omega) (by have := hr.nl; omega))) ?_
    rintro _ _ ⟨_, ⟨rfl, w', hw', rfl, hwR, hwt, hwS, hwn⟩, rfl⟩
    refine ⟨.inl (by kernel_rfl), ?_⟩
    have hw'n : w'.nx = (Rm.put r.w.S d).nx := by have := (RM.said hwS).2.2; exact this
    repeat' (first | refine S1 ?_ | refine SD ?_ | refine SA (fun _ => ?_) | refine WL.g_split rfl rfl (fun hc => ?_) (fun hc => ?_) | refine WD.g_split rfl rfl (fun hc => ?_) (fun hc => ?_) | refine W.cond rfl (fun hc => ?_) (fun hc => ?_))
    refine Fin.retW (by exact rfl) resA (H' := ((⟨r.R, m', r.d, w', r.room, r.most, r.came, true⟩ : RcM)).H ++ X) (fun _ h => ?_) ⟨rfl, (⟨r.R, m', r.d, w', r.room, r.most, r.came, true⟩ : RcM), ⟨hm', hr.d, hw', hr.room, hr.most, by show nx16 w'.nx; rw [hw'n]; exact put_nx hr.n16, by show w'.nx.length ≤ 16; rw [hwn]; exact hr.nl, ?_⟩, rfl, rfl, hwt, ?_⟩
    · unfold RcM.H RcM.B
      dsimp only
      rw [hR, hwR]
      simp only [List.cons_append, List.append_assoc]
      rw [List.append_assoc] at h
      exact In.of_sub (.pick (.right (.right .here)) (.pickL (L := m'.H) (.right (.right (.there .here))) (.pickL (L := r.d.H) (.right (.right (.there .here))) (.pickL (L := w'.H) .here (.last (L := X) .here))))) h
    · have e : Rcv.held ((⟨r.R, m', r.d, w', r.room, r.most, r.came, true⟩ : RcM)).S = totD (Rm.put r.w.S d).L + totM (Rm.put r.w.S d).row := by unfold RcM.S Rcv.held; dsimp only; rw [hwS]
      rw [e, hput]
      have e2 : totD r.w.S.L + totM r.w.S.row = hh := hhe
      rw [e2]
      dsimp only
      split <;> omega
    · rw [if_neg (by simp), show r.S.urg = r.urg from rfl]
      unfold RcM.S
      dsimp only
      rw [hS, hds, hwS]
      rw [hu, Bool.or_true, Bool.true_or]
  · rename_i hc1
    have hu : r.urg = false := hc1
    have hu2 : ha = false := hc
    refine WL.e rfl (Ef.callR (c := m'.H) (by rw [← hR]; exact rfl) (.last (.there (.there .here))) (holes_tr _ m' hm')) ?_
    rintro _ _ ⟨rfl, rfl⟩
    have hhs : decide (0 < Spn.count m'.s.S) = Rcv.holes (Spn.takeS r.S.m d.tsn) := by rw [hS]; rfl
    rw [hhs]
    obtain ⟨hb, hhb⟩ : ∃ hb, True ∧ Rcv.holes (Spn.takeS r.S.m d.tsn) = hb := ⟨_, trivial, rfl⟩
    rw [hhb.2]
    repeat' (first | refine S1 ?_ | refine SD ?_ | refine SA (fun _ => ?_) | refine WL.g_split rfl rfl (fun hc => ?_) (fun hc => ?_) | refine WD.g_split rfl rfl (fun hc => ?_) (fun hc => ?_) | refine W.cond rfl (fun hc => ?_) (fun hc => ?_))
    refine WD.e rfl (Ef.callF (by exact rfl) (.pickL (L := r.w.H) (.there (.there (.right (.right .here)))) (.last (L := X) (.there (.there (.right (.right .all)))))) (fun hd => put_tr _ X r.w hr.w d sa m sc (Src.mono hsrc (fun _ h => addF_inH hd h)) hm h16 h65 h32 hfew (by rw [← show Rcv.held r.S = totD r.w.L + totM r.w.row from rfl, hhe]; omega) (by have := hr.nl; omega))) ?_
    rintro _ _ ⟨_, ⟨rfl, w', hw', rfl, hwR, hwt, hwS, hwn⟩, rfl⟩
    refine ⟨.inl (by kernel_rfl), ?_⟩
    have hw'n : w'.nx = (Rm.put r.w.S d).nx := by have := (RM.said hwS).2.2; exact this
    repeat' (first | refine S1 ?_ | refine SD ?_ | refine SA (fun _ => ?_) | refine WL.g_split rfl rfl (fun hc => ?_) (fun hc => ?_) | refine WD.g_split rfl rfl (fun hc => ?_) (fun hc => ?_) | refine W.cond rfl (fun hc => ?_) (fun hc => ?_))
    refine Fin.retW (by exact rfl) resA (H' := ((⟨r.R, m', r.d, w', r.room, r.most, r.came, hb⟩ : RcM)).H ++ X) (fun _ h => ?_) ⟨rfl, (⟨r.R, m', r.d, w', r.room, r.most, r.came, hb⟩ : RcM), ⟨hm', hr.d, hw', hr.room, hr.most, by show nx16 w'.nx; rw [hw'n]; exact put_nx hr.n16, by show w'.nx.length ≤ 16; rw [hwn]; exact hr.nl, ?_⟩, rfl, rfl, hwt, ?_⟩
    · unfold RcM.H RcM.B
      dsimp only
      rw [hR, hwR]
      simp only [List.cons_append, List.append_assoc]
      rw [List.append_assoc] at h
      exact In.of_sub (.pick (.right (.right .here)) (.pickL (L := m'.H) (.right (.right (.there .here))) (.pickL (L := r.d.H) (.right (.right (.there .here))) (.pickL (L := w'.H) .here (.last (L := X) .here))))) h
    · have e : Rcv.held ((⟨r.R, m', r.d, w', r.room, r.most, r.came, hb⟩ : RcM)).S = totD (Rm.put r.w.S d).L + totM (Rm.put r.w.S d).row := by unfold RcM.S Rcv.held; dsimp only; rw [hwS]
      rw [e, hput]
      have e2 : totD r.w.S.L + totM r.w.S.row = hh := hhe
      rw [e2]
      dsimp only
      split <;> omega
    · rw [if_neg (by simp), show r.S.urg = r.urg from rfl]
      unfold RcM.S
      dsimp only
      rw [hS, hds, hwS]
      rw [hu, hu2, Bool.false_or, Bool.false_or]
end Go.Proofs.YthjglhdjlmjffaaGreat
