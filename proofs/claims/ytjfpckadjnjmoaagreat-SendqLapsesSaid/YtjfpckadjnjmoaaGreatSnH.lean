/- A sender in memory: what waits goes, walked. Conditions: it is well formed. -/
import Derived.Test.YtjfpckadjnjmoaaGreatSnG
namespace Go.Proofs.YtjfpckadjnjmoaaGreat
open Go Go.Sl Go.Pth

structure GFr where
  j : Nat
  xr : Int
  s : SdM
  o : OuM
theorem In.un2 {F : Nat → Option Obj} {w : World} {b A B c Hr T : HL} (hp : (c ++ Hr).Perm T) (h : In F ((b ++ c) ++ (A ++ (B ++ Hr))) w) : In F (b ++ (A ++ (B ++ T))) w := by
  have e : In F (b ++ (A ++ (B ++ (c ++ Hr)))) w := by
    rw [List.append_assoc] at h
    exact In.of_sub (.pickL (L := b) .here (.pickL (L := A) (.right .here) (.pickL (L := B) (.right .here) (.last .all)))) h
  exact e.perm (List.Perm.append_left _ (List.Perm.append_left _ (List.Perm.append_left _ hp)))
theorem In.un3p {F : Nat → Option Obj} {w : World} {p : Nat × Obj} {A B C c Hr T : HL} (hp : (c ++ Hr).Perm T) (h : In F (c ++ (p :: (A ++ (B ++ (C ++ Hr))))) w) : In F (p :: (A ++ (B ++ (C ++ T)))) w := by
  have e : In F ([p] ++ (A ++ (B ++ (C ++ (c ++ Hr))))) w := In.of_sub (.pick (.right .here) (.pickL (L := A) (.right .here) (.pickL (L := B) (.right .here) (.pickL (L := C) (.right .here) (.last .all))))) h
  exact e.perm (List.Perm.append_left _ (List.Perm.append_left _ (List.Perm.append_left _ (List.Perm.append_left _ hp))))
set_option maxHeartbeats 8000000 in
theorem sfresh_tr (F : Nat → Option Obj) {n : Nat} (s : SdM) (hs : s.ok n) (k : Nat) (hk : k < s.ws.length) (now : Int) : Tr Tryz.prog 37 [ptr s.R, .int .i64 k, .int .i64 now].toArray F s.H (GoQ n s (Snd.fresh s.S k now)) := by
  refine Tr.enter Tryz.func37 rfl Tryz.ntmps37 rfl (fun w0 => ?_)
  obtain ⟨c0, c1, c2, c3, c4, c5, c6, c7, c8, c9, c10, c11⟩ := s.cans (F := F)
  have hm := hs.pl.mtu
  have em : s.S.mtu = s.mtu := rfl
  rw [em] at hm
  have hnws := hs.nws
  have hSlen : s.S.ws.length = s.ws.length := by simp [SdM.S]
  repeat' (first | refine S2b ?_ | refine SA (fun _ => ?_) | refine G1 (fun hc => ?_) (fun hc => ?_) | refine G2 (fun hc => ?_) (fun hc => ?_) | refine G3 (fun hc => ?_) (fun hc => ?_) | refine SL ?_ | fail)
  rw [i64_id (n := s.mtu - 12) (by omega) (by omega)]
  clear c0 c1 c2 c3 c4 c5 c6 c7 c8 c9 c10 c11
  obtain ⟨rr, hrr⟩ : ∃ rr, s.R = rr := ⟨_, rfl⟩
  rw [hrr]
  refine W.loop (G := GFr) (fun g => [(0, ptr rr), (1, .int .i64 k), (2, .int .i64 now), (7, .slice g.o.sa g.o.sn g.o.sc), (8, .int .i64 g.xr)])
    (fun g => g.o.hb ++ (g.o.bb ++ g.s.H)) (fun g => g.s.ok n ∧ g.s.R = rr ∧ (g.s.wa = s.wa ∧ g.s.wn = s.wn) ∧ g.o.ok ∧ g.o.ds.length = g.j ∧ (0 ≤ g.xr ∧ g.xr + 20 * g.j ≤ 1488) ∧ Snd.fresh s.S k now = Snd.freshN k now (100 - g.j) ⟨g.s.S, g.o.L, g.xr⟩) (fun g => 100 - g.j)
    ⟨0, s.mtu - 12, s, ⟨[], none, 0, 0, []⟩⟩ ⟨hs, hrr, ⟨rfl, rfl⟩, ⟨.inl ⟨rfl, rfl, rfl⟩, fun _ h => by cases h⟩, rfl, by dsimp only; omega, rfl⟩ envA (fun _ h => h) ?_
  rintro ⟨j, xr, t, o⟩ ⟨ht, hR, ⟨hwa, hwn⟩, ho, hoj, hxr, hfr⟩
  dsimp only at ht hR hwn ho hoj hxr hfr ⊢
  subst hR
  have htwl : t.ws.length = s.ws.length := by have h1 := ht.wn; have h2 := hs.wn; omega
  have hpr := Snd.piece_rng ht.pl
  have hrm := ht.pl.room
  have erm : t.S.room = t.room := rfl
  rw [erm] at hrm
  obtain ⟨c0, c1, c2, c3, c4, c5, c6, c7, c8, c9, c10, c11⟩ := t.cans (F := F)
  have hsub : Sub t.H (o.hb ++ (o.bb ++ t.H)) (o.hb ++ (o.bb ++ [])) := .skipL o.hb (.skipL o.bb (.all _))
  obtain ⟨pn, hpn⟩ : ∃ pn : Nat, Snd.piece t.S = pn := ⟨(Snd.piece t.S).toNat, by omega⟩
  have hstD : Snd.stops t.S k xr = (decide ((pn : Int) = 0) || (decide (Snd.need pn > xr) || (!Snd.mayW t.S k || (decide ((pn : Int) > t.room) && decide (0 < Snd.away t.S) || decide (2048 ≤ t.S.f.L.length))))) := by
    unfold Snd.stops
    rw [hpn]
    rfl
  have hL : t.S.f.L.length = t.f.sn := by rw [← ht.f.len]; simp [SdM.S, FM.S]
  repeat' (first | refine S2b ?_ | refine SA (fun _ => ?_) | refine G1 (fun hc => ?_) (fun hc => ?_) | refine G2 (fun hc => ?_) (fun hc => ?_) | refine G3 (fun hc => ?_) (fun hc => ?_) | refine SL ?_ | fail)
  refine WL.e rfl (Ef.callR (c := t.H) (by exact rfl) hsub (piece_tr _ t ht)) ?_
  rintro _ _ ⟨rfl, rfl⟩
  rw [hpn]
  repeat' (first | refine S2b ?_ | refine SA (fun _ => ?_) | refine G1 (fun hc => ?_) (fun hc => ?_) | refine G2 (fun hc => ?_) (fun hc => ?_) | refine SL ?_ | fail)
  cases hb1 : ((pn : Int) == 0) with
  | true =>
    have hst : Snd.stops t.S k xr = true := by rw [hstD, decide_eq_true (by simpa using hb1)]; rfl
    repeat' (first | refine S2b ?_ | refine SA (fun _ => ?_) | refine G1 (fun hc => ?_) (fun hc => ?_) | refine G2 (fun hc => ?_) (fun hc => ?_) | refine G3 (fun hc => ?_) (fun hc => ?_) | refine SL ?_ | fail)
    rw [hfr, Snd.freshN_stop (g := ⟨t.S, o.L, xr⟩) hst]
    exact Fin.retW (by exact rfl) resA (H' := o.hb ++ (o.bb ++ t.H)) (fun _ h => h) ⟨t, o, rfl, ht, hrr.symm, rfl, ho, rfl, ⟨hwa, hwn⟩, rfl⟩
  | false =>
  have hp0 : ¬ (pn : Int) = 0 := by simpa using hb1
  repeat' (first | refine S2b ?_ | refine SA (fun _ => ?_) | refine G1 (fun hc => ?_) (fun hc => ?_) | refine G2 (fun hc => ?_) (fun hc => ?_) | refine SL ?_ | fail)
  refine WL.e rfl (Ef.callR (by exact rfl) (.nil _) (need_tr _ pn (by omega))) ?_
  rintro _ _ ⟨rfl, rfl⟩
  repeat' (first | refine S2b ?_ | refine SA (fun _ => ?_) | refine G1 (fun hc => ?_) (fun hc => ?_) | refine G2 (fun hc => ?_) (fun hc => ?_) | refine SL ?_ | fail)
  cases hb2 : decide (Snd.need pn > xr) with
  | true =>
    have hst : Snd.stops t.S k xr = true := by rw [hstD, hb2]; simp
    repeat' (first | refine S2b ?_ | refine SA (fun _ => ?_) | refine G1 (fun hc => ?_) (fun hc => ?_) | refine G2 (fun hc => ?_) (fun hc => ?_) | refine G3 (fun hc => ?_) (fun hc => ?_) | refine SL ?_ | fail)
    rw [hfr, Snd.freshN_stop (g := ⟨t.S, o.L, xr⟩) hst]
    exact Fin.retW (by exact rfl) resA (H' := o.hb ++ (o.bb ++ t.H)) (fun _ h => h) ⟨t, o, rfl, ht, hrr.symm, rfl, ho, rfl, ⟨hwa, hwn⟩, rfl⟩
  | false =>
  have hnd := of_decide_eq_false hb2
  repeat' (first | refine S2b ?_ | refine SA (fun _ => ?_) | refine G1 (fun hc => ?_) (fun hc => ?_) | refine G2 (fun hc => ?_) (fun hc => ?_) | refine SL ?_ | fail)
  refine WL.e rfl (Ef.callR (c := t.H) (by exact rfl) hsub (may_tr _ t ht k (by omega))) ?_
  rintro _ _ ⟨rfl, rfl⟩
  repeat' (first | refine S2b ?_ | refine SA (fun _ => ?_) | refine G1 (fun hc => ?_) (fun hc => ?_) | refine G2 (fun hc => ?_) (fun hc => ?_) | refine SL ?_ | fail)
  refine W.cut (G := Unit) (fun _ => [(0, ptr t.R), (1, .int .i64 k), (2, .int .i64 now), (7, .slice o.sa o.sn o.sc), (8, .int .i64 xr), (9, .int .i64 pn)]) (fun _ => o.hb ++ (o.bb ++ t.H)) (fun _ => Snd.stops t.S k xr = false) (fun K' hK hX => ?_) ?_
  · cases hb3 : Snd.mayW t.S k with
    | false =>
      have hst : Snd.stops t.S k xr = true := by rw [hstD, hb3]; simp
      repeat' (first | refine S2b ?_ | refine SA (fun _ => ?_) | refine G1 (fun hc => ?_) (fun hc => ?_) | refine G2 (fun hc => ?_) (fun hc => ?_) | refine G3 (fun hc => ?_) (fun hc => ?_) | refine SL ?_ | fail)
      refine hX _ _ _ (fun h => by cases h) ?_
      repeat' (first | refine S2b ?_ | refine SA (fun _ => ?_) | refine G1 (fun hc => ?_) (fun hc => ?_) | refine G2 (fun hc => ?_) (fun hc => ?_) | refine G3 (fun hc => ?_) (fun hc => ?_) | refine SL ?_ | fail)
      rw [hfr, Snd.freshN_stop (g := ⟨t.S, o.L, xr⟩) hst]
      exact Fin.retW (by exact rfl) resA (H' := o.hb ++ (o.bb ++ t.H)) (fun _ h => h) ⟨t, o, rfl, ht, hrr.symm, rfl, ho, rfl, ⟨hwa, hwn⟩, rfl⟩
    | true =>
      repeat' (first | refine S2b ?_ | refine SA (fun _ => ?_) | refine G1 (fun hc => ?_) (fun hc => ?_) | refine G2 (fun hc => ?_) (fun hc => ?_) | refine SL ?_ | fail)
      · have hb4 : decide ((pn : Int) > t.room) = true := hc
        refine WL.e rfl (Ef.callR (c := t.H) (by exact rfl) hsub (saway_tr _ t ht)) ?_
        rintro _ _ ⟨rfl, rfl⟩
        repeat' (first | refine S2b ?_ | refine SA (fun _ => ?_) | refine G1 (fun hc => ?_) (fun hc => ?_) | refine G2 (fun hc => ?_) (fun hc => ?_) | refine SL ?_ | fail)
        cases hb5 : decide ((Snd.away t.S : Int) > 0) with
        | true =>
          have h5 := of_decide_eq_true hb5
          have hst : Snd.stops t.S k xr = true := by rw [hstD, hb4, decide_eq_true (show 0 < Snd.away t.S by omega)]; simp
          repeat' (first | refine S2b ?_ | refine SA (fun _ => ?_) | refine G1 (fun hc => ?_) (fun hc => ?_) | refine G2 (fun hc => ?_) (fun hc => ?_) | refine G3 (fun hc => ?_) (fun hc => ?_) | refine SL ?_ | fail)
          refine hX _ _ _ (fun h => by cases h) ?_
          repeat' (first | refine S2b ?_ | refine SA (fun _ => ?_) | refine G1 (fun hc => ?_) (fun hc => ?_) | refine G2 (fun hc => ?_) (fun hc => ?_) | refine G3 (fun hc => ?_) (fun hc => ?_) | refine SL ?_ | fail)
          rw [hfr, Snd.freshN_stop (g := ⟨t.S, o.L, xr⟩) hst]
          exact Fin.retW (by exact rfl) resA (H' := o.hb ++ (o.bb ++ t.H)) (fun _ h => h) ⟨t, o, rfl, ht, hrr.symm, rfl, ho, rfl, ⟨hwa, hwn⟩, rfl⟩
        | false =>
          have h5 := of_decide_eq_false hb5
          have hst2 : (decide ((pn : Int) > t.room) && decide (0 < Snd.away t.S)) = false := by rw [decide_eq_false (show ¬ 0 < Snd.away t.S by omega), Bool.and_false]
          repeat' (first | refine S2b ?_ | refine SA (fun _ => ?_) | refine G1 (fun hc => ?_) (fun hc => ?_) | refine G2 (fun hc => ?_) (fun hc => ?_) | refine G3 (fun hc => ?_) (fun hc => ?_) | refine SL ?_ | fail)
          refine WL.e rfl (Ef.callR (c := t.f.H) (by exact rfl) (.skipL o.hb (.skipL o.bb t.flP.sub)) (count_tr _ t.f)) ?_
          rintro _ _ ⟨rfl, rfl⟩
          repeat' (first | refine S2b ?_ | refine SA (fun _ => ?_) | refine G1 (fun hc => ?_) (fun hc => ?_) | refine G2 (fun hc => ?_) (fun hc => ?_) | refine SL ?_ | fail)
          cases hb6 : decide ((t.f.sn : Int) ≥ 2048) with
          | true =>
            have h6 := of_decide_eq_true hb6
            have hst : Snd.stops t.S k xr = true := by rw [hstD, hL, decide_eq_true (show 2048 ≤ t.f.sn by omega)]; simp
            repeat' (first | refine S2b ?_ | refine SA (fun _ => ?_) | refine G1 (fun hc => ?_) (fun hc => ?_) | refine G2 (fun hc => ?_) (fun hc => ?_) | refine G3 (fun hc => ?_) (fun hc => ?_) | refine SL ?_ | fail)
            refine hX _ _ _ (fun h => by cases h) ?_
            repeat' (first | refine S2b ?_ | refine SA (fun _ => ?_) | refine G1 (fun hc => ?_) (fun hc => ?_) | refine G2 (fun hc => ?_) (fun hc => ?_) | refine G3 (fun hc => ?_) (fun hc => ?_) | refine SL ?_ | fail)
            rw [hfr, Snd.freshN_stop (g := ⟨t.S, o.L, xr⟩) hst]
            exact Fin.retW (by exact rfl) resA (H' := o.hb ++ (o.bb ++ t.H)) (fun _ h => h) ⟨t, o, rfl, ht, hrr.symm, rfl, ho, rfl, ⟨hwa, hwn⟩, rfl⟩
          | false =>
            have h6 := of_decide_eq_false hb6
            have hst : Snd.stops t.S k xr = false := by rw [hstD, decide_eq_false hp0, hb2, hb3, hst2, hL, decide_eq_false (show ¬ 2048 ≤ t.f.sn by omega)]; rfl
            repeat' (first | refine S2b ?_ | refine SA (fun _ => ?_) | refine G1 (fun hc => ?_) (fun hc => ?_) | refine G2 (fun hc => ?_) (fun hc => ?_) | refine G3 (fun hc => ?_) (fun hc => ?_) | refine SL ?_ | fail)
            exact Fin.cut hK () hst envA (fun _ h => h)
      · have hb4 : decide ((pn : Int) > t.room) = false := hc
        have hst2 : (decide ((pn : Int) > t.room) && decide (0 < Snd.away t.S)) = false := by rw [hb4, Bool.false_and]
        refine WL.e rfl (Ef.callR (c := t.f.H) (by exact rfl) (.skipL o.hb (.skipL o.bb t.flP.sub)) (count_tr _ t.f)) ?_
        rintro _ _ ⟨rfl, rfl⟩
        repeat' (first | refine S2b ?_ | refine SA (fun _ => ?_) | refine G1 (fun hc => ?_) (fun hc => ?_) | refine G2 (fun hc => ?_) (fun hc => ?_) | refine SL ?_ | fail)
        cases hb6 : decide ((t.f.sn : Int) ≥ 2048) with
        | true =>
          have h6 := of_decide_eq_true hb6
          have hst : Snd.stops t.S k xr = true := by rw [hstD, hL, decide_eq_true (show 2048 ≤ t.f.sn by omega)]; simp
          repeat' (first | refine S2b ?_ | refine SA (fun _ => ?_) | refine G1 (fun hc => ?_) (fun hc => ?_) | refine G2 (fun hc => ?_) (fun hc => ?_) | refine G3 (fun hc => ?_) (fun hc => ?_) | refine SL ?_ | fail)
          refine hX _ _ _ (fun h => by cases h) ?_
          repeat' (first | refine S2b ?_ | refine SA (fun _ => ?_) | refine G1 (fun hc => ?_) (fun hc => ?_) | refine G2 (fun hc => ?_) (fun hc => ?_) | refine G3 (fun hc => ?_) (fun hc => ?_) | refine SL ?_ | fail)
          rw [hfr, Snd.freshN_stop (g := ⟨t.S, o.L, xr⟩) hst]
          exact Fin.retW (by exact rfl) resA (H' := o.hb ++ (o.bb ++ t.H)) (fun _ h => h) ⟨t, o, rfl, ht, hrr.symm, rfl, ho, rfl, ⟨hwa, hwn⟩, rfl⟩
        | false =>
          have h6 := of_decide_eq_false hb6
          have hst : Snd.stops t.S k xr = false := by rw [hstD, decide_eq_false hp0, hb2, hb3, hst2, hL, decide_eq_false (show ¬ 2048 ≤ t.f.sn by omega)]; rfl
          repeat' (first | refine S2b ?_ | refine SA (fun _ => ?_) | refine G1 (fun hc => ?_) (fun hc => ?_) | refine G2 (fun hc => ?_) (fun hc => ?_) | refine G3 (fun hc => ?_) (fun hc => ?_) | refine SL ?_ | fail)
          exact Fin.cut hK () hst envA (fun _ h => h)
  intro _ hst
  obtain ⟨h1, h2, h3, h4, h5⟩ := Snd.stops_false hst
  obtain ⟨d, id, q', hnx, hdl, hdne⟩ := Snd.fresh_next ht.pl h1
  have hSl2 : t.S.ws.length = t.ws.length := by simp [SdM.S]
  have hadd := Snd.fresh_add ht.pl (k := k) (by omega) hdne h5
  have hat := Snd.fresh1_at (k := k) (now := now) (g := ⟨t.S, o.L, xr⟩) hnx
  have hok3 := Snd.fresh1_ok (k := k) (now := now) (g := ⟨t.S, o.L, xr⟩) ht.pl
  rw [hat] at hok3
  dsimp only at hok3
  have hfr2 : Snd.fresh s.S k now = Snd.freshN k now (100 - (j + 1)) (Snd.fresh1 k now ⟨t.S, o.L, xr⟩) := by
    rw [hfr, show 100 - j = (100 - (j + 1)) + 1 by omega, Snd.freshN_go hst]
  rw [hat] at hfr2
  dsimp only at hfr2
  rw [hpn] at hnx hok3 hfr2 hdl
  rw [Int.toNat_natCast] at hfr2 hdl
  repeat' (first | refine S2b ?_ | refine SA (fun _ => ?_) | refine G1 (fun hc => ?_) (fun hc => ?_) | refine G2 (fun hc => ?_) (fun hc => ?_) | refine G3 (fun hc => ?_) (fun hc => ?_) | refine SL ?_ | fail)
  refine WL.e rfl (Ef.call (c := t.o.H) (by exact rfl) (.skipL o.hb (.skipL o.bb t.oqP.sub)) (onext_tr _ t.o ht.o pn (by omega))) ?_
  rintro _ _ ⟨_, hNQ, rfl⟩
  unfold NextQ at hNQ
  rw [show Oq.next t.o.S pn = some (d, id, q') from hnx] at hNQ
  obtain ⟨da, dn, dc, db, o', rfl, hdo, ho', hRo, hSo, rfl⟩ := hNQ
  refine WL.weak (fun _ h => In.un2 (t.oqE hRo) h) ?_
  have hdn : dn = pn := by have := OwnS.len hdo; simp at this; omega
  dsimp only [tup]
  unfold dC
  clear c0 c1 c2 c3 c4 c5 c6 c7 c8 c9 c10 c11
  obtain ⟨c0, c1, c2, c3, c4, c5, c6, c7, c8, c9, c10, c11⟩ := SdM.cans (F := F) { t with o := o' }
  dsimp only at c0 c1 c2 c3 c4 c5 c6 c7 c8 c9 c10 c11
  repeat' (first | refine S2b ?_ | refine SA (fun _ => ?_) | refine G1 (fun hc => ?_) (fun hc => ?_) | refine G2 (fun hc => ?_) (fun hc => ?_) | refine G3 (fun hc => ?_) (fun hc => ?_) | refine SL ?_ | fail)
  rename_i b10
  refine W.drawA ?_
  repeat' (first | refine S2b ?_ | refine SA (fun _ => ?_) | refine G1 (fun hc => ?_) (fun hc => ?_) | refine G2 (fun hc => ?_) (fun hc => ?_) | refine G3 (fun hc => ?_) (fun hc => ?_) | refine SL ?_ | fail)
  refine WD.e rfl (Ef.callR (by exact rfl) (.nil _) (clock_tr _ now)) ?_
  rintro _ _ ⟨rfl, rfl⟩
  refine ⟨.inr (fun _ h => h), ?_⟩
  repeat' (first | refine S2b ?_ | refine SA (fun _ => ?_) | refine G1 (fun hc => ?_) (fun hc => ?_) | refine G2 (fun hc => ?_) (fun hc => ?_) | refine G3 (fun hc => ?_) (fun hc => ?_) | refine SL ?_ | fail)
  refine WD.e rfl (Ef.callW (c := t.f.H) (by exact rfl) (.skip _ (.skipL db (.skipL o.hb (.skipL o.bb (SdM.flP { t with o := o' }).sub)))) (fun F' hF => add_tr F' t.f ht.f d da dn dc ((Lst.own (F := F) (H := db) hdo (fun _ h => h)).mono (fun w h => (hF w h).sublist (.cons _ (List.sublist_append_left _ _)))) (by omega) k (Snd.clock now) id)) ?_
  rintro _ _ ⟨_, ⟨rfl, f1, hf1, rfl, hR1, hS1⟩, rfl⟩
  refine ⟨.inl (by kernel_rfl), ?_⟩
  refine WD.weak (fun _ h => In.un3p (SdM.flE (s := { t with o := o' }) hR1) h) ?_
  rw [show Flt.addE t.f.S d k = 0 from hadd, if_pos rfl]
  dsimp only [tup]
  clear c0 c1 c2 c3 c4 c5 c6 c7 c8 c9 c10 c11
  obtain ⟨c0, c1, c2, c3, c4, c5, c6, c7, c8, c9, c10, c11⟩ := SdM.cans (F := F) { t with o := o', f := f1 }
  dsimp only at c0 c1 c2 c3 c4 c5 c6 c7 c8 c9 c10 c11
  repeat' (first | refine S2c ?_ | refine SA (fun _ => ?_) | refine G1 (fun hc => ?_) (fun hc => ?_) | refine G2 (fun hc => ?_) (fun hc => ?_) | refine G3 (fun hc => ?_) (fun hc => ?_) | refine SL ?_ | fail)
  refine WD.e0A ?_ (hk := .inl (by kernel_rfl))
  repeat' (first | refine S2c ?_ | refine SA (fun _ => ?_) | refine G1 (fun hc => ?_) (fun hc => ?_) | refine G2 (fun hc => ?_) (fun hc => ?_) | refine G3 (fun hc => ?_) (fun hc => ?_) | refine SL ?_ | fail)
  rw [i64_id (n := t.room - (pn : Int)) (by omega) (by omega)]
  simp only [Go.Pth.go_mx]
  refine WL.e0 (Ef.st rfl rfl rfl (.there (.right (.right (.right (SdM.put (s := { t with o := o', f := f1 }) (s' := { t with o := o', f := f1, room := max 0 (t.room - (pn : Int)) }) rfl rfl (off := 0 + 3) (vs := [.int .i64 (max 0 (t.room - (pn : Int)))]) rfl)))))) ?_
  rintro _ _ ⟨rfl, rfl⟩
  obtain ⟨t3, ht3e⟩ : ∃ t3, ({ t with o := o', f := f1, room := max 0 (t.room - (pn : Int)) } : SdM) = t3 := ⟨_, rfl⟩
  have hS3 : t3.S = { t.S with q := q', f := Flt.add t.S.f d k (Snd.clock now) id, room := mx 0 (t.S.room - pn) } := by
    rw [← ht3e]
    show ({ t.S with q := o'.S, f := f1.S, room := max 0 (t.room - (pn : Int)) } : Snd.S) = _
    rw [hSo, hS1]
    rfl
  have hok4 : t3.ok n := by
    have hp4 : Snd.Ok n t3.S := by rw [hS3]; exact hok3
    rw [← ht3e] at hp4 ⊢
    exact ⟨ho', hf1, ht.ways, ht.lives, ht.owed, ht.own, hp4⟩
  have hR3 : t3.R = t.R := by rw [← ht3e]
  have hwn3 : t3.wn = t.wn := by rw [← ht3e]
  have hwa3 : t3.wa = t.wa := by rw [← ht3e]
  rw [ht3e]
  rw [← hS3] at hfr2
  clear c0 c1 c2 c3 c4 c5 c6 c7 c8 c9 c10 c11
  repeat' (first | refine S2b ?_ | refine SA (fun _ => ?_) | refine G1 (fun hc => ?_) (fun hc => ?_) | refine G2 (fun hc => ?_) (fun hc => ?_) | refine G3 (fun hc => ?_) (fun hc => ?_) | refine SL ?_ | fail)
  refine WL.e rfl (Ef.callR (by exact rfl) (.nil _) (need_tr _ pn (by omega))) ?_
  rintro _ _ ⟨rfl, rfl⟩
  have hnr := (Snd.need_le (n := pn)).1
  have hn20 := Snd.need20 (n := pn) (by omega)
  repeat' (first | refine S2b ?_ | refine SA (fun _ => ?_) | refine G1 (fun hc => ?_) (fun hc => ?_) | refine G2 (fun hc => ?_) (fun hc => ?_) | refine G3 (fun hc => ?_) (fun hc => ?_) | refine SL ?_ | fail)
  rw [i64_id (n := xr - Snd.need pn) (by omega) (by omega)]
  obtain ⟨m, hme⟩ : ∃ m : DM, (⟨{ d with tsn := Flt.newT t.S.f }, da, dn, dc, db⟩ : DM) = m := ⟨_, rfl⟩
  have hmo : m.ok := by rw [← hme]; exact hdo
  have hmd : m.d = { d with tsn := Flt.newT t.S.f } := by rw [← hme]
  have hmb : m.bb = db := by rw [← hme]
  have hol := ho.len
  refine WL.e rfl (Ef.app (m := 1) (news := m.cells) (hb := o.hb) (by exact rfl) (by exact rfl) rfl rfl ho.row (.last (.there (.there (.right .here)))) (by rw [← hme]; exact Src.own (n := 7) (.here rfl)) rfl (dm_one' m) (by rw [flat_len' DM.cells 7 DM.len]; simp [DM.cells]; omega) (by rw [flat_len' DM.cells 7 DM.len]; simp [DM.cells, maxLen]; omega)) ?_
  rintro v' _ ⟨hb', hown', rfl⟩
  obtain ⟨ja, jn, jc, rfl, _, _⟩ := OwnS.shape hown'
  repeat' (first | refine S2b ?_ | refine SA (fun _ => ?_) | refine G1 (fun hc => ?_) (fun hc => ?_) | refine G2 (fun hc => ?_) (fun hc => ?_) | refine G3 (fun hc => ?_) (fun hc => ?_) | refine SL ?_ | fail)
  refine Fin.round ⟨j + 1, xr - Snd.need pn, t3, ⟨o.ds ++ [m], ja, jn, jc, hb'⟩⟩ ⟨hok4, hR3, ⟨hwa3.trans hwa, hwn3.trans hwn⟩, ⟨by dsimp only; rw [List.flatMap_append]; simpa using hown', fun q hq => ?_⟩, by dsimp only; rw [List.length_append, hoj]; rfl, by dsimp only; omega, ?_⟩ envA (fun _ h => ?_) (by dsimp only; omega)
  · rcases List.mem_append.1 hq with hq | hq
    · exact ho.own q hq
    · rw [List.mem_singleton.1 hq]; exact hmo
  · have e : OuM.L ⟨o.ds ++ [m], ja, jn, jc, hb'⟩ = o.L ++ [{ d with tsn := Flt.newT t.S.f }] := by unfold OuM.L; dsimp only; rw [List.map_append, ← hmd]; rfl
    dsimp only
    rw [e]
    exact hfr2
  · have e : OuM.bb ⟨o.ds ++ [m], ja, jn, jc, hb'⟩ = o.bb ++ db := by unfold OuM.bb; dsimp only; rw [List.flatMap_append, ← hmb]; simp
    dsimp only
    rw [e, List.append_assoc]
    exact In.of_sub (.pickL (L := hb') .here (.pickL (L := o.bb) (.there (.there (.right .here))) (.pickL (L := db) (.there (.there .here)) (.last (L := t3.H) (.there (.there .all)))))) h
end Go.Proofs.YtjfpckadjnjmoaaGreat
