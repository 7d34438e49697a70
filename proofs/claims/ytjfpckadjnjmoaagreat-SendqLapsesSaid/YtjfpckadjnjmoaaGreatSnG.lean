/- A sender in memory: what is lost goes again, what waits goes: walked. Conditions: it is well formed. -/
import Derived.Test.YtjfpckadjnjmoaaGreatSnE
import Derived.Test.YtjfpckadjnjmoaaGreatBe
namespace Go.Proofs.YtjfpckadjnjmoaaGreat
open Go Go.Sl Go.Pth

theorem In.un3 {F : Nat → Option Obj} {w : World} {b A B C c Hr T : HL} (hp : (c ++ Hr).Perm T) (h : In F ((b ++ c) ++ (A ++ (B ++ (C ++ Hr)))) w) : In F (b ++ (A ++ (B ++ (C ++ T)))) w := by
  have e : In F (b ++ (A ++ (B ++ (C ++ (c ++ Hr))))) w := by
    rw [List.append_assoc] at h
    exact In.of_sub (.pickL (L := b) .here (.pickL (L := A) (.right .here) (.pickL (L := B) (.right .here) (.pickL (L := C) (.right .here) (.last .all))))) h
  exact e.perm (List.Perm.append_left _ (List.Perm.append_left _ (List.Perm.append_left _ (List.Perm.append_left _ hp))))
theorem In.un4 {F : Nat → Option Obj} {w : World} {p : Nat × Obj} {A B C D c Hr T : HL} (hp : (c ++ Hr).Perm T) (h : In F (c ++ (p :: (A ++ (B ++ (C ++ (D ++ Hr)))))) w) : In F (p :: (A ++ (B ++ (C ++ (D ++ T))))) w := by
  have e : In F ([p] ++ (A ++ (B ++ (C ++ (D ++ (c ++ Hr)))))) w := In.of_sub (.pick (.right .here) (.pickL (L := A) (.right .here) (.pickL (L := B) (.right .here) (.pickL (L := C) (.right .here) (.pickL (L := D) (.right .here) (.last .all)))))) h
  exact e.perm (List.Perm.append_left _ (List.Perm.append_left _ (List.Perm.append_left _ (List.Perm.append_left _ (List.Perm.append_left _ hp)))))
/-- what goes: the row of pieces and their bytes -/
structure OuM where
  ds : List DM
  sa : Option Addr
  sn : Nat
  sc : Nat
  hb : HL
def OuM.bb (o : OuM) : HL := o.ds.flatMap (·.bb)
def OuM.L (o : OuM) : List Flt.Dt := o.ds.map (·.d)
structure OuM.ok (o : OuM) : Prop where
  row : OwnS 50 7 (o.ds.flatMap DM.cells) (.slice o.sa o.sn o.sc) o.hb
  own : ∀ m ∈ o.ds, m.ok
theorem OuM.ok.len {o : OuM} (h : o.ok) : o.ds.length = o.sn := by have := OwnS.len h.row; rw [flat_len' DM.cells 7 DM.len] at this; omega
structure GAg where
  i : Nat
  x : Snd.Go1
  s : SdM
  o : OuM
def GoQ (n : Nat) (s : SdM) (g : Snd.Go1) (v : Value) (H : HL) : Prop := ∃ (s' : SdM) (o : OuM), v = .slice o.sa o.sn o.sc ∧ s'.ok n ∧ s'.R = s.R ∧ s'.S = g.s ∧ o.ok ∧ o.L = g.out ∧ (s'.wa = s.wa ∧ s'.wn = s.wn) ∧ H = o.hb ++ (o.bb ++ s'.H)
theorem dm_one' (m : DM) : ∀ u ∈ m.cells, u.oneCell' = true := by
  intro u hu
  simp [DM.cells] at hu
  rcases hu with rfl | rfl | rfl | rfl | rfl | rfl | rfl <;> rfl
set_option maxHeartbeats 8000000 in
theorem sagain_tr (F : Nat → Option Obj) {n : Nat} (s : SdM) (hs : s.ok n) (k : Nat) (hk : k < s.ws.length) (now : Int) : Tr Tryz.prog 34 [ptr s.R, .int .i64 k, .int .i64 now].toArray F s.H (GoQ n s (Snd.again s.S k now)) := by
  refine Tr.enter Tryz.func34 rfl Tryz.ntmps34 rfl (fun w0 => ?_)
  obtain ⟨c0, c1, c2, c3, c4, c5, c6, c7, c8, c9, c10, c11⟩ := s.cans (F := F)
  have hm := hs.pl.mtu
  have em : s.S.mtu = s.mtu := rfl
  rw [em] at hm
  have hnws := hs.nws
  have hSlen : s.S.ws.length = s.ws.length := by simp [SdM.S]
  repeat' (first | refine S2b ?_ | refine SA (fun _ => ?_) | refine G1 (fun hc => ?_) (fun hc => ?_) | refine G2 (fun hc => ?_) (fun hc => ?_) | refine G3 (fun hc => ?_) (fun hc => ?_) | refine SL ?_ | fail)
  rw [i64_id (n := s.mtu - 12) (by omega) (by omega)]
  refine WL.e rfl (Ef.call (c := s.f.H) (by exact rfl) s.flP.sub (lost_tr _ s.f hs.f)) ?_
  rintro _ _ ⟨_, ⟨ta, tn, tc, tb, rfl, htb, rfl⟩, rfl⟩
  refine WL.weak (H' := tb ++ s.H) (fun _ h => by rw [List.append_assoc] at h; exact h.perm (List.Perm.append_left _ (s.flE (f' := s.f) rfl))) ?_
  obtain ⟨ts, hts⟩ : ∃ ts, Flt.lostL s.f.S = ts := ⟨_, rfl⟩
  rw [hts] at htb
  have htl : tn = ts.length := by have := OwnS.len htb; simp at this; omega
  have htfew : ts.length ≤ 2048 := by have h1 := lostL_le s.f.S; have h2 := hs.f.few; rw [hts] at h1; simp [FM.S] at h1; omega
  clear c0 c1 c2 c3 c4 c5 c6 c7 c8 c9 c10 c11
  obtain ⟨rr, hrr⟩ : ∃ rr, s.R = rr := ⟨_, rfl⟩
  have hag : Snd.again s.S k now = (ts.foldl (Snd.again1 k now) (⟨s.S, [], s.mtu - 12⟩, false)).1 := by
    unfold Snd.again
    rw [show s.S.f = s.f.S from rfl, hts]
    rfl
  rw [hrr]
  repeat' (first | refine S2b ?_ | refine SA (fun _ => ?_) | refine G1 (fun hc => ?_) (fun hc => ?_) | refine G2 (fun hc => ?_) (fun hc => ?_) | refine G3 (fun hc => ?_) (fun hc => ?_) | refine SL ?_ | fail)
  refine W.loop (G := GAg) (fun g => [(0, ptr rr), (1, .int .i64 k), (2, .int .i64 now), (7, .slice g.o.sa g.o.sn g.o.sc), (8, .int .i64 g.x.room), (23, .slice ta tn tc), (24, .int .i64 tn), (25, .int .i64 g.i)])
    (fun g => tb ++ (g.o.hb ++ (g.o.bb ++ g.s.H))) (fun g => g.i ≤ tn ∧ g.s.ok n ∧ g.s.R = rr ∧ (g.s.wa = s.wa ∧ g.s.wn = s.wn) ∧ g.s.S = g.x.s ∧ g.o.ok ∧ g.o.L = g.x.out ∧ Snd.AgI n s.S g.x ∧ g.o.ds.length ≤ g.i ∧ (ts.take g.i).foldl (Snd.again1 k now) (⟨s.S, [], s.mtu - 12⟩, false) = (g.x, false)) (fun g => tn - g.i)
    ⟨0, ⟨s.S, [], s.mtu - 12⟩, s, ⟨[], none, 0, 0, []⟩⟩ ⟨Nat.zero_le _, hs, hrr, ⟨rfl, rfl⟩, rfl, ⟨.inl ⟨rfl, rfl, rfl⟩, fun _ h => by cases h⟩, rfl, ⟨hs.pl, rfl, rfl, by dsimp only; omega⟩, Nat.zero_le _, rfl⟩ envA (fun _ h => h) ?_
  rintro ⟨i, x, t, o⟩ ⟨hi, ht, hR, ⟨hwa, hwn⟩, hS, ho, hoL, hx, hof, hfold⟩
  dsimp only at hi ht hR hwn hS ho hoL hx hof hfold ⊢
  subst hR
  have htwl : t.ws.length = s.ws.length := by have h1 := ht.wn; have h2 := hs.wn; omega
  obtain ⟨xs, xo, xr⟩ := x
  dsimp only at hS hoL hx hfold ⊢
  subst hS hoL
  repeat' (first | refine S2b ?_ | refine SA (fun _ => ?_) | refine G1 (fun hc => ?_) (fun hc => ?_) | refine G2 (fun hc => ?_) (fun hc => ?_) | refine G3 (fun hc => ?_) (fun hc => ?_) | refine SL ?_ | fail)
  · have hi' : i < tn := by have := of_decide_eq_true hc; omega
    have htr : ts[i]? = some (ts[i]'(by omega)) := List.getElem?_eq_getElem _
    obtain ⟨tsn, htsn⟩ : ∃ y, ts[i]'(by omega) = y := ⟨_, rfl⟩
    rw [htsn] at htr
    obtain ⟨gb, go, hta, hcan⟩ := lst_el (Lst.own (F := F) (H := tb) htb (fun _ h => h)) htr
    have hia : 0 ≤ (i : Int) ∧ (i : Int) < tn := by omega
    rw [hta]
    obtain ⟨d, p, hget⟩ := Snd.lost_get (f := s.f.S) hs.pl.f.g (t := tsn) (by rw [hts]; exact List.mem_of_getElem? htr) (f' := t.S.f) hx.c hx.len
    obtain ⟨hp, hdl⟩ := Snd.getD_rng hx.ok.f hget
    obtain ⟨pn, rfl⟩ : ∃ pn : Nat, p = pn := ⟨p.toNat, by omega⟩
    have hstep := Snd.again_at (k := k) (now := now) (x := ⟨t.S, o.L, xr⟩) hget
    dsimp only at hstep
    have hfold1 : (ts.take (i + 1)).foldl (Snd.again1 k now) (⟨s.S, [], s.mtu - 12⟩, false) = Snd.again1 k now (⟨t.S, o.L, xr⟩, false) tsn := by
      rw [List.take_add_one, htr, List.foldl_append, hfold]
      rfl
    rw [hstep, Int.toNat_natCast] at hfold1
    obtain ⟨c0, c1, c2, c3, c4, c5, c6, c7, c8, c9, c10, c11⟩ := t.cans (F := F)
    repeat' (first | refine S2b ?_ | refine SD ?_ | refine SA (fun _ => ?_) | refine G1 (fun hc => ?_) (fun hc => ?_) | refine G2 (fun hc => ?_) (fun hc => ?_) | refine G3 (fun hc => ?_) (fun hc => ?_) | refine SL ?_ | fail)
    refine WL.e rfl (Ef.call (c := t.f.H) (by exact rfl) (.skipL tb (.skipL o.hb (.skipL o.bb t.flP.sub))) (getD_tr _ t.f ht.f ht.small tsn)) ?_
    rintro _ _ ⟨_, (⟨hno, _⟩ | ⟨m, p', hsome, hmo, rfl, rfl⟩), rfl⟩
    · rw [show t.S.f = t.f.S from rfl, hno] at hget; cases hget
    rw [show t.S.f = t.f.S from rfl, hsome] at hget
    cases hget
    have hbn : m.bn = m.d.bs.length := by have := OwnS.len hmo; simp at this; omega
    have hbnI : Snd.need m.bn = Snd.need m.d.bs.length := by rw [hbn]
    refine WL.weak (fun _ h => In.un3 (t.flE (f' := t.f) rfl) h) ?_
    dsimp only [tup]
    unfold DM.cells
    clear hcan
    repeat' (first | refine S2b ?_ | refine SD ?_ | refine SA (fun _ => ?_) | refine G1 (fun hc => ?_) (fun hc => ?_) | refine G2 (fun hc => ?_) (fun hc => ?_) | refine G3 (fun hc => ?_) (fun hc => ?_) | refine SL ?_ | fail)
    rename_i b11
    refine WL.e rfl (Ef.callR (c := t.H) (by exact rfl) (.skip _ (.skipL m.bb (.skipL tb (.skipL o.hb (.skipL o.bb (.all _)))))) (snext_tr _ t ht pn (by have := hp.2; have := hx.ok.paths; have := hx.ok.nws; omega))) ?_
    rintro _ _ ⟨rfl, rfl⟩
    repeat' (first | refine S2b ?_ | refine SD ?_ | refine SA (fun _ => ?_) | refine G1 (fun hc => ?_) (fun hc => ?_) | refine G2 (fun hc => ?_) (fun hc => ?_) | refine G3 (fun hc => ?_) (fun hc => ?_) | refine SL ?_ | fail)
    · have hne : Snd.nextW t.S pn ≠ k := fun e => by simp [e] at hc
      rw [if_pos hne] at hfold1
      rw [i64_succ (by omega), ← hta]
      exact Fin.round ⟨i + 1, ⟨t.S, o.L, xr⟩, t, o⟩ ⟨hi', ht, rfl, ⟨hwa, hwn⟩, rfl, ho, rfl, hx, by dsimp only; omega, hfold1⟩ envA (fun _ h => h.sublist (.cons _ (List.sublist_append_right _ _))) (by dsimp only; omega)
    have heq : Snd.nextW t.S pn = k := by
      have h1 : (Snd.nextW t.S pn : Int) = (k : Int) := by simpa using hc
      omega
    rw [if_neg (fun e => e heq)] at hfold1
    refine WL.e rfl (Ef.callR (c := t.H) (by exact rfl) (.skip _ (.skipL m.bb (.skipL tb (.skipL o.hb (.skipL o.bb (.all _)))))) (may_tr _ t ht k (by omega))) ?_
    rintro _ _ ⟨rfl, rfl⟩
    have hbrk : (!Snd.mayW t.S k || decide (Snd.need m.d.bs.length > xr)) = true → Snd.again s.S k now = ⟨t.S, o.L, xr⟩ := fun hb => by
      rw [if_pos hb] at hfold1
      rw [hag, ← List.take_append_drop (i + 1) ts, List.foldl_append, hfold1, Snd.again_stop _ rfl]
    have hsubB : (o.hb ++ (o.bb ++ t.H)).Sublist (m.bb ++ (tb ++ (o.hb ++ (o.bb ++ t.H)))) := (List.sublist_append_right tb _).trans (List.sublist_append_right m.bb _)
    repeat' (first | refine S2b ?_ | refine SD ?_ | refine SA (fun _ => ?_) | refine G1 (fun hc => ?_) (fun hc => ?_) | refine G2 (fun hc => ?_) (fun hc => ?_) | refine G3 (fun hc => ?_) (fun hc => ?_) | refine SL ?_ | fail)
    rotate_left
    · refine WL.e rfl (Ef.callR (by exact rfl) (.nil _) (need_tr _ m.bn (by omega))) ?_
      rintro _ _ ⟨rfl, rfl⟩
      rw [hbnI]
      have hmy : Snd.mayW t.S k = true := by simpa using ‹(!Snd.mayW t.S k) = false›
      repeat' (first | refine S2b ?_ | refine SD ?_ | refine SA (fun _ => ?_) | refine G1 (fun hc => ?_) (fun hc => ?_) | refine G2 (fun hc => ?_) (fun hc => ?_) | refine G3 (fun hc => ?_) (fun hc => ?_) | refine SL ?_ | fail)
      · have hnd : Snd.need m.d.bs.length > xr := of_decide_eq_true hc
        rw [hbrk (by rw [decide_eq_true hnd, Bool.or_true])]
        exact Fin.retW (by exact rfl) resA (H' := o.hb ++ (o.bb ++ t.H)) (fun _ h => h.sublist (.cons _ hsubB)) ⟨t, o, rfl, ht, hrr.symm, rfl, ho, rfl, ⟨hwa, hwn⟩, rfl⟩
      have hnd : ¬ Snd.need m.d.bs.length > xr := of_decide_eq_false hc
      rw [if_neg (by rw [hmy, decide_eq_false hnd]; decide)] at hfold1
      have hx' := hx.go (k := k) (now := now) (t := tsn) (d := m.d) hnd
      refine WD.e rfl (Ef.callR (by exact rfl) (.nil _) (clock_tr _ now)) ?_
      rintro _ _ ⟨rfl, rfl⟩
      refine ⟨.inr (fun _ h => h), ?_⟩
      repeat' (first | refine S2b ?_ | refine SA (fun _ => ?_) | refine G1 (fun hc => ?_) (fun hc => ?_) | refine G2 (fun hc => ?_) (fun hc => ?_) | refine G3 (fun hc => ?_) (fun hc => ?_) | refine SL ?_ | fail)
      refine WD.e rfl (Ef.call (c := t.f.H) (by exact rfl) (.skip _ (.skipL m.bb (.skipL tb (.skipL o.hb (.skipL o.bb t.flP.sub))))) (again_tr _ t.f ht.f tsn k (Snd.clock now))) ?_
      rintro _ _ ⟨_, ⟨rfl, f', hf', rfl, hR', hS'⟩, rfl⟩
      refine ⟨.inl (by kernel_rfl), ?_⟩
      refine WD.weak (fun _ h => In.un4 (t.flE hR') h) ?_
      obtain ⟨t', ht'e⟩ : ∃ t', ({ t with f := f' } : SdM) = t' := ⟨_, rfl⟩
      have hS2 : t'.S = { t.S with f := (Flt.again t.S.f tsn k (Snd.clock now)).1 } := by rw [← ht'e]; show ({ t.S with f := f'.S } : Snd.S) = _; rw [hS']; rfl
      have ht' : t'.ok n := by
        rw [← ht'e]
        refine ht.setF hf' ?_
        rw [hS']
        exact hx'.ok
      have hR2 : t'.R = t.R := by rw [← ht'e]
      have hwn2 : t'.wn = t.wn := by rw [← ht'e]
      have hwa2 : t'.wa = t.wa := by rw [← ht'e]
      rw [ht'e]
      rw [← hS2] at hx' hfold1
      clear c0 c1 c2 c3 c4 c5 c6 c7 c8 c9 c10 c11
      repeat' (first | refine S2b ?_ | refine SA (fun _ => ?_) | refine G1 (fun hc => ?_) (fun hc => ?_) | refine G2 (fun hc => ?_) (fun hc => ?_) | refine G3 (fun hc => ?_) (fun hc => ?_) | refine SL ?_ | fail)
      refine WL.e rfl (Ef.callR (by exact rfl) (.nil _) (need_tr _ m.bn (by omega))) ?_
      rintro _ _ ⟨rfl, rfl⟩
      rw [hbnI]
      have hnr := (Snd.need_le (n := m.d.bs.length)).1
      have hxr := hx.room
      dsimp only at hxr
      repeat' (first | refine S2b ?_ | refine SA (fun _ => ?_) | refine G1 (fun hc => ?_) (fun hc => ?_) | refine G2 (fun hc => ?_) (fun hc => ?_) | refine G3 (fun hc => ?_) (fun hc => ?_) | refine SL ?_ | fail)
      rw [i64_id (n := xr - Snd.need m.d.bs.length) (by omega) (by omega)]
      have hol := ho.len
      refine WL.e rfl (Ef.app (m := 1) (news := m.cells) (hb := o.hb) (by exact rfl) (by exact rfl) rfl rfl ho.row (.last (.there (.there (.right (.right .here))))) (Src.own (n := 7) (.here rfl)) rfl (dm_one' m) (by rw [flat_len' DM.cells 7 DM.len]; simp [DM.cells]; omega) (by rw [flat_len' DM.cells 7 DM.len]; simp [DM.cells, maxLen]; omega)) ?_
      rintro v' _ ⟨hb', hown', rfl⟩
      obtain ⟨ja, jn, jc, rfl, _, _⟩ := OwnS.shape hown'
      repeat' (first | refine S2b ?_ | refine SA (fun _ => ?_) | refine G1 (fun hc => ?_) (fun hc => ?_) | refine G2 (fun hc => ?_) (fun hc => ?_) | refine G3 (fun hc => ?_) (fun hc => ?_) | refine SL ?_ | fail)
      rw [i64_succ (by omega), ← hta]
      refine Fin.round ⟨i + 1, ⟨t'.S, o.L ++ [m.d], xr - Snd.need m.d.bs.length⟩, t', ⟨o.ds ++ [m], ja, jn, jc, hb'⟩⟩ ⟨hi', ht', hR2, ⟨hwa2.trans hwa, hwn2.trans hwn⟩, rfl, ⟨by dsimp only; rw [List.flatMap_append]; simpa using hown', fun q hq => ?_⟩, by unfold OuM.L; rw [List.map_append]; rfl, hx', by dsimp only; rw [List.length_append]; simp; omega, hfold1⟩ envA (fun _ h => ?_) (by dsimp only; omega)
      · rcases List.mem_append.1 hq with hq | hq
        · exact ho.own q hq
        · rw [List.mem_singleton.1 hq]; exact hmo
      · have e : OuM.bb ⟨o.ds ++ [m], ja, jn, jc, hb'⟩ = o.bb ++ m.bb := by unfold OuM.bb; dsimp only; rw [List.flatMap_append]; simp
        dsimp only
        rw [e, List.append_assoc]
        exact In.of_sub (.pickL (L := tb) (.right (.there (.there (.right .here)))) (.pickL (L := hb') .here (.pickL (L := o.bb) (.there (.there (.right .here))) (.pickL (L := m.bb) (.there (.there .here)) (.last (L := t'.H) (.there (.there .all))))))) h
    · have hmy : Snd.mayW t.S k = false := by simpa using hc
      rw [hbrk (by rw [hmy]; rfl)]
      exact Fin.retW (by exact rfl) resA (H' := o.hb ++ (o.bb ++ t.H)) (fun _ h => h.sublist (.cons _ hsubB)) ⟨t, o, rfl, ht, hrr.symm, rfl, ho, rfl, ⟨hwa, hwn⟩, rfl⟩
  · have hi' : i = ts.length := by have := of_decide_eq_false hc; omega
    subst hi'
    rw [List.take_length] at hfold
    rw [hag, hfold]
    exact Fin.retW (by exact rfl) resA (H' := o.hb ++ (o.bb ++ t.H)) (fun _ h => h.sublist (List.sublist_append_right _ _)) ⟨t, o, rfl, ht, hrr.symm, rfl, ho, rfl, ⟨hwa, hwn⟩, rfl⟩
end Go.Proofs.YtjfpckadjnjmoaaGreat
