/- A sender: what is of no use any more goes, walked. Conditions: it is well formed. -/
import Derived.Test.YtjfpckadjnjmoaaGreatSnL
import Derived.Test.YtjfpckadjnjmoaaGreatOqC
import Derived.Test.YtjfpckadjnjmoaaGreatSnE
namespace Go.Proofs.YtjfpckadjnjmoaaGreat
open Go Go.Sl Go.Pth

theorem SdM.oaP (s : SdM) : Part s s.ob (s.hd :: (s.o.H ++ (s.f.H ++ (s.wb ++ (s.ws.flatMap WaM.H ++ (s.lb ++ s.owed.flatMap (·.bb))))))) := ⟨by
  unfold SdM.H SdM.T SdM.X
  exact .last (.there (.right (.right (.right (.right (.right .here))))))⟩
theorem OwM.one (m : OwM) : ∀ u ∈ m.cells, u.oneCell' = true := by
  intro u hu
  simp only [OwM.cells, List.mem_cons, List.not_mem_nil, or_false] at hu
  rcases hu with rfl | rfl | rfl | rfl | rfl | rfl | rfl | rfl <;> rfl
structure GSx where
  s : SdM
structure GSe where
  b4 : Nat
  dm : DM
  o : OqM
set_option maxHeartbeats 8000000 in
theorem sexp_tr (F : Nat → Option Obj) {n : Nat} (s : SdM) (hs : s.ok n) (hn : n < 1000000) (now : Int) : Tr Tryz.prog 10 [ptr s.R, .int .i64 now].toArray F s.H (fun v H => v = .tuple #[] ∧ ∃ s' : SdM, s'.ok (n + 1) ∧ s'.R = s.R ∧ s'.S = Snd.expire s.S now ∧ H = s'.H) := by
  refine Tr.enter Tryz.func10 rfl Tryz.ntmps10 rfl (fun w0 => ?_)
  obtain ⟨c0, c1, c2, c3, c4, c5, c6, c7, c8, c9, c10, c11⟩ := s.cans (F := F)
  repeat' (first | refine S2b ?_ | refine SA (fun _ => ?_) | refine G1 (fun hc => ?_) (fun hc => ?_) | refine G2 (fun hc => ?_) (fun hc => ?_) | refine G3 (fun hc => ?_) (fun hc => ?_) | refine SL ?_ | fail)
  rename_i b2 b3
  refine W.cut (G := GSe) (fun g => [(2, ptr b2), (3, ptr b3), (4, ptr g.b4), (5, .int .i64 (Oq.seen s.o.S (Snd.clock now)).2.2.1), (6, .bool (Oq.seen s.o.S (Snd.clock now)).2.2.2)])
    (fun g => (g.b4, .cells g.dm.cells.toArray 50 (0, 0)) :: (g.dm.bb ++ ((b3, .cells [.int .i64 now].toArray 2 (0, 0)) :: (b2, .cells [ptr s.R].toArray 26 (0, 0)) :: ({ s with o := g.o } : SdM).H)))
    (fun g => g.dm.ok ∧ g.dm.d = (Oq.seen s.o.S (Snd.clock now)).2.1 ∧ g.o.ok ∧ g.o.R = s.o.R ∧ g.o.S = Oq.expire s.o.S (Snd.clock now)) (fun K' hK _ => ?_) ?_
  · have hsub : ∀ w, In F ((b3, .cells [.int .i64 now].toArray 2 (0, 0)) :: (b2, .cells [ptr s.R].toArray 26 (0, 0)) :: s.H) w → In F [(b3, .cells [.int .i64 now].toArray 2 (0, 0)), (b2, .cells [ptr s.R].toArray 26 (0, 0)), s.hd] w := fun _ h => h.sublist (.cons_cons _ (.cons_cons _ s.hdSub))
    refine W.drawG 11 [(b3, .cells [.int .i64 now].toArray 2 (0, 0)), (b2, .cells [ptr s.R].toArray 26 (0, 0)), s.hd] hsub ?_
    have c0 : Sl.Can F [(b3, .cells [.int .i64 now].toArray 2 (0, 0)), (b2, .cells [ptr s.R].toArray 26 (0, 0)), s.hd] s.R (0 + 0) [ptr s.o.R] := (s.hdCan.one (i := 0) rfl).mono (fun _ h => h.sublist (.cons _ (.cons _ (.refl _))))
    clear c1 c2 c3 c4 c5 c6 c7 c8 c9 c10 c11
    have hk1 : ∀ (A p : HL) w, In F (A ++ (p ++ ((b3, .cells [.int .i64 now].toArray 2 (0, 0)) :: (b2, .cells [ptr s.R].toArray 26 (0, 0)) :: (s.hd :: (s.f.H ++ (s.wb ++ (s.ws.flatMap WaM.H ++ s.X))))))) w → In F [(b3, .cells [.int .i64 now].toArray 2 (0, 0)), (b2, .cells [ptr s.R].toArray 26 (0, 0)), s.hd] w := fun A p _ h => In.of_sub (.pick (.right (.right .here)) (.pick (.right (.right .here)) (.pick (.right (.right .here)) (.nil _)))) h
    repeat' (first
      | refine WF.pA ?_ | refine WF.sA ?_)
    refine WF.e rfl (Ef.callR (by exact rfl) (.nil _) (clock_tr _ now)) ?_ ?_
    · rintro _ _ ⟨rfl, rfl⟩
      refine ⟨.inr hsub, ?_⟩
      repeat' (first
        | refine WF.pA ?_ | refine WF.sA ?_)
      refine WF.e rfl (Ef.call (c := s.o.H) (by exact rfl) (.skip _ (.skip _ s.oqP.sub)) (oexp_tr _ s.o hs.o (Snd.clock now))) ?_ ?_
      ·
        rintro _ _ ⟨_, ⟨dm, o', rfl, hdm, hdmd, ho', hoR, hoS, rfl⟩, rfl⟩
        have hp := s.oqE hoR
        have hperm : ((dm.bb ++ o'.H) ++ ((b3, .cells [.int .i64 now].toArray 2 (0, 0)) :: (b2, .cells [ptr s.R].toArray 26 (0, 0)) :: (s.hd :: (s.f.H ++ (s.wb ++ (s.ws.flatMap WaM.H ++ s.X)))))).Perm (dm.bb ++ ((b3, .cells [.int .i64 now].toArray 2 (0, 0)) :: (b2, .cells [ptr s.R].toArray 26 (0, 0)) :: ({ s with o := o' } : SdM).H)) := by
          rw [List.append_assoc]
          exact (List.perm_middle.trans ((List.perm_middle.trans (hp.cons _)).cons _)).append_left _
        refine ⟨.inr (fun _ h => hk1 (dm.bb ++ o'.H) [] _ h), ?_⟩
        dsimp only [tup]
        repeat' (first
          | refine WF.pA ?_ | refine WF.sA ?_)
        refine WF.nil ?_
        refine WD.aA (fun b4 => ?_) (hk := fun _ => .inr (fun _ h => hk1 (dm.bb ++ o'.H) [] _ (h.sublist (.cons _ (.refl _)))))
        refine WD.e0A ?_ (hk := .inl (by kernel_rfl))
        repeat' (first | refine S2c ?_ | refine SA (fun _ => ?_) | refine G1 (fun hc => ?_) (fun hc => ?_) | refine G2 (fun hc => ?_) (fun hc => ?_) | refine G3 (fun hc => ?_) (fun hc => ?_) | refine SL ?_ | fail)
        exact Fin.cut hK ⟨b4, dm, o'⟩ ⟨hdm, hdmd, ho', hoR, hoS⟩ envA (fun _ h => h.perm (hperm.cons _))
      · refine WD.aA (fun b4 => ?_) (hk := fun _ => .inr (fun _ h => hsub _ (h.sublist (.cons _ (.refl _)))))
        refine WD.e rfl (Ef.call (c := s.o.H) (by exact rfl) (.skip _ (.skip _ (.skip _ s.oqP.sub))) (oexp_tr _ s.o hs.o (Snd.clock now))) ?_
        rintro _ _ ⟨_, ⟨dm, o', rfl, hdm, hdmd, ho', hoR, hoS, rfl⟩, rfl⟩
        have hp := s.oqE hoR
        have hperm : ((dm.bb ++ o'.H) ++ ((b3, .cells [.int .i64 now].toArray 2 (0, 0)) :: (b2, .cells [ptr s.R].toArray 26 (0, 0)) :: (s.hd :: (s.f.H ++ (s.wb ++ (s.ws.flatMap WaM.H ++ s.X)))))).Perm (dm.bb ++ ((b3, .cells [.int .i64 now].toArray 2 (0, 0)) :: (b2, .cells [ptr s.R].toArray 26 (0, 0)) :: ({ s with o := o' } : SdM).H)) := by
          rw [List.append_assoc]
          exact (List.perm_middle.trans ((List.perm_middle.trans (hp.cons _)).cons _)).append_left _
        refine ⟨.inr (fun _ h => hk1 (dm.bb ++ o'.H) [_] _ h), ?_⟩
        dsimp only [tup]
        repeat' (first | refine S2c ?_ | refine SA (fun _ => ?_) | refine G1 (fun hc => ?_) (fun hc => ?_) | refine G2 (fun hc => ?_) (fun hc => ?_) | refine G3 (fun hc => ?_) (fun hc => ?_) | refine SL ?_ | fail)
        refine WD.e0 (Ef.sta rfl rfl rfl rfl (.right (.here rfl))) ?_
        rintro _ _ ⟨rfl, rfl⟩
        refine ⟨.inl (by kernel_rfl), ?_⟩
        repeat' (first | refine S2c ?_ | refine SA (fun _ => ?_) | refine G1 (fun hc => ?_) (fun hc => ?_) | refine G2 (fun hc => ?_) (fun hc => ?_) | refine G3 (fun hc => ?_) (fun hc => ?_) | refine SL ?_ | fail)
        exact Fin.cut hK ⟨b4, dm, o'⟩ ⟨hdm, hdmd, ho', hoR, hoS⟩ envA (fun _ h => h.perm (List.perm_middle.trans (hperm.cons _)))
    · refine WD.aA (fun b4 => ?_) (hk := fun _ => .inr (fun _ h => hsub _ (h.sublist (.cons _ (.refl _)))))
      refine WD.e rfl (Ef.callR (by exact rfl) (.nil _) (clock_tr _ now)) ?_
      rintro _ _ ⟨rfl, rfl⟩
      refine ⟨.inr (fun _ h => hsub _ (h.sublist (.cons _ (.refl _)))), ?_⟩
      repeat' (first | refine S2c ?_ | refine SA (fun _ => ?_) | refine G1 (fun hc => ?_) (fun hc => ?_) | refine G2 (fun hc => ?_) (fun hc => ?_) | refine G3 (fun hc => ?_) (fun hc => ?_) | refine SL ?_ | fail)
      refine WD.e rfl (Ef.call (c := s.o.H) (by exact rfl) (.skip _ (.skip _ (.skip _ s.oqP.sub))) (oexp_tr _ s.o hs.o (Snd.clock now))) ?_
      rintro _ _ ⟨_, ⟨dm, o', rfl, hdm, hdmd, ho', hoR, hoS, rfl⟩, rfl⟩
      have hp := s.oqE hoR
      have hperm : ((dm.bb ++ o'.H) ++ ((b3, .cells [.int .i64 now].toArray 2 (0, 0)) :: (b2, .cells [ptr s.R].toArray 26 (0, 0)) :: (s.hd :: (s.f.H ++ (s.wb ++ (s.ws.flatMap WaM.H ++ s.X)))))).Perm (dm.bb ++ ((b3, .cells [.int .i64 now].toArray 2 (0, 0)) :: (b2, .cells [ptr s.R].toArray 26 (0, 0)) :: ({ s with o := o' } : SdM).H)) := by
        rw [List.append_assoc]
        exact (List.perm_middle.trans ((List.perm_middle.trans (hp.cons _)).cons _)).append_left _
      refine ⟨.inr (fun _ h => hk1 (dm.bb ++ o'.H) [_] _ h), ?_⟩
      dsimp only [tup]
      repeat' (first | refine S2c ?_ | refine SA (fun _ => ?_) | refine G1 (fun hc => ?_) (fun hc => ?_) | refine G2 (fun hc => ?_) (fun hc => ?_) | refine G3 (fun hc => ?_) (fun hc => ?_) | refine SL ?_ | fail)
      refine WD.e0 (Ef.sta rfl rfl rfl rfl (.right (.here rfl))) ?_
      rintro _ _ ⟨rfl, rfl⟩
      refine ⟨.inl (by kernel_rfl), ?_⟩
      repeat' (first | refine S2c ?_ | refine SA (fun _ => ?_) | refine G1 (fun hc => ?_) (fun hc => ?_) | refine G2 (fun hc => ?_) (fun hc => ?_) | refine G3 (fun hc => ?_) (fun hc => ?_) | refine SL ?_ | fail)
      exact Fin.cut hK ⟨b4, dm, o'⟩ ⟨hdm, hdmd, ho', hoR, hoS⟩ envA (fun _ h => h.perm (List.perm_middle.trans (hperm.cons _)))
  clear c0 c1 c2 c3 c4 c5 c6 c7 c8 c9 c10 c11
  rintro ⟨b4, dm, o'⟩ ⟨hdm, hdmd, ho', hoR, hoS⟩
  dsimp only at hdm hdmd ho' hoR hoS ⊢
  obtain ⟨g, hg⟩ : ∃ g, Oq.seen s.o.S (Snd.clock now) = g := ⟨_, rfl⟩
  rw [hg] at hdmd ⊢
  have hx1 := Snd.expire1_ok hs.pl (Snd.clock now)
  have hx1e : Snd.expire1 s.S (Snd.clock now) = if g.2.2.2 then { s.S with q := o'.S, owed := s.S.owed ++ [⟨g.2.1, g.2.2.1⟩], f := Flt.abandon s.f.S g.2.2.1 } else { s.S with q := o'.S } := by
    unfold Snd.expire1
    dsimp only
    rw [show s.S.q = s.o.S from rfl, hg, hoS]
    rfl
  obtain ⟨u, hu⟩ : ∃ u : SdM, u = { s with o := o' } := ⟨_, rfl⟩
  have huR : u.R = s.R := by rw [hu]
  rw [← hu]
  repeat' (first | refine S2b ?_ | refine SA (fun _ => ?_) | refine G1 (fun hc => ?_) (fun hc => ?_) | refine G2 (fun hc => ?_) (fun hc => ?_) | refine SL ?_ | fail)
  refine W.cut (G := GSx) (fun _ => [(2, ptr b2), (3, ptr b3)]) (fun g => (b3, .cells [.int .i64 now].toArray 2 (0, 0)) :: (b2, .cells [ptr s.R].toArray 26 (0, 0)) :: g.s.H)
    (fun g => g.s.ok (n + 1) ∧ g.s.R = s.R ∧ g.s.S = Snd.expire1 s.S (Snd.clock now)) (fun K' hK _ => ?_) ?_
  · cases hok : g.2.2.2 with
    | false =>
      rw [hok, if_neg (by decide)] at hx1e
      repeat' (first | refine S2b ?_ | refine SA (fun _ => ?_) | refine G1 (fun hc => ?_) (fun hc => ?_) | refine G2 (fun hc => ?_) (fun hc => ?_) | refine G3 (fun hc => ?_) (fun hc => ?_) | refine SL ?_ | fail)
      have huS : u.S = Snd.expire1 s.S (Snd.clock now) := by rw [hx1e, hu]; rfl
      exact Fin.cut hK ⟨u⟩ ⟨by rw [hu]; exact hs.setO ho' (by have := hx1; rw [hx1e] at this; exact this), huR, huS⟩ envA (fun _ h => In.of_sub (.last (.there (.right .all))) h)
    | true =>
      rw [hok, if_pos rfl] at hx1e
      have hown : OwnS 91 8 (u.owed.flatMap OwM.cells) (.slice u.oa u.on_ u.oc) u.ob := by rw [hu]; exact hs.owed
      have hol := OwnS.len hown
      rw [flat_len' OwM.cells 8 OwM.clen] at hol
      have hof : u.owed.length ≤ n := by rw [hu]; have := hs.pl.ofew; simpa [SdM.S] using this
      have c7 : Sl.Can F [(b4, .cells dm.cells.toArray 50 (0, 0)), (b2, .cells [ptr s.R].toArray 26 (0, 0)), u.hd] s.R (0 + 7) [.slice u.oa u.on_ u.oc] := by rw [← huR]; exact (u.hdCan.one (i := 7) rfl).mono (fun _ h => h.sublist (.cons _ (.cons _ (.refl _))))
      repeat' (first | refine S2b ?_ | refine SA (fun _ => ?_) | refine G1 (fun hc => ?_) (fun hc => ?_) | refine G2 (fun hc => ?_) (fun hc => ?_) | refine G3 (fun hc => ?_) (fun hc => ?_) | refine SL ?_ | fail)
      refine W.draw [(b4, .cells dm.cells.toArray 50 (0, 0)), (b2, .cells [ptr s.R].toArray 26 (0, 0)), u.hd] (by kernel_rfl) (by kernel_rfl) (fun _ h => h.sublist (.cons_cons _ (List.Sublist.trans (.cons _ (.cons_cons _ u.hdSub)) (List.sublist_append_right _ _)))) ?_
      repeat' (first | refine S2b ?_ | refine WD.s rfl (Rd.ldC rfl (Sl.Can.mono (by assumption) (fun _ h => h.sublist findA))) ?_ | fail)
      refine WD.aA (fun b28 => ?_) (hk := fun _ => .inr (fun _ h => h.sublist (.cons _ (.cons_cons _ (List.Sublist.trans (.cons _ (.cons_cons _ u.hdSub)) (List.sublist_append_right _ _))))))
      repeat' (first | refine S2c ?_ | refine SA (fun _ => ?_) | refine G1 (fun hc => ?_) (fun hc => ?_) | refine G2 (fun hc => ?_) (fun hc => ?_) | refine G3 (fun hc => ?_) (fun hc => ?_) | refine SL ?_ | fail)
      refine WD.e rfl (Ef.app (m := 1) (news := OwM.cells ⟨dm.d, g.2.2.1, dm.ba, dm.bn, dm.bc, dm.bb⟩) (hb := u.ob) (by exact rfl) (by exact rfl) rfl rfl hown (.skip _ (.skip _ (.skipL dm.bb (.skip _ (.skip _ u.oaP.sub))))) (Src.own (n := 8) (.here rfl)) rfl (OwM.one _) (by rw [flat_len' OwM.cells 8 OwM.clen, OwM.clen]; omega) (by rw [flat_len' OwM.cells 8 OwM.clen, OwM.clen]; simp only [maxLen]; omega)) ?_
      rintro v' _ ⟨hb', hown', rfl⟩
      refine ⟨.inr (fun _ h => In.of_sub (.pick (.right (.there .here)) (.pick (.right (.there (.right (.there .here)))) (.pick (.right (.there (.right (.there .here)))) (.nil _)))) h), ?_⟩
      obtain ⟨ja, jn, jc, rfl, _, _⟩ := OwnS.shape hown'
      repeat' (first | refine S2c ?_ | refine SA (fun _ => ?_) | refine G1 (fun hc => ?_) (fun hc => ?_) | refine G2 (fun hc => ?_) (fun hc => ?_) | refine G3 (fun hc => ?_) (fun hc => ?_) | refine SL ?_ | fail)
      rw [← huR]
      refine WD.e0 (Ef.st rfl rfl rfl (.right (.there (.there (.right (.there (.there (.here rfl)))))))) ?_
      rintro _ _ ⟨rfl, rfl⟩
      refine ⟨.inl (by kernel_rfl), ?_⟩
      repeat' (first | refine S2c ?_ | refine SA (fun _ => ?_) | refine G1 (fun hc => ?_) (fun hc => ?_) | refine G2 (fun hc => ?_) (fun hc => ?_) | refine G3 (fun hc => ?_) (fun hc => ?_) | refine SL ?_ | fail)
      obtain ⟨v, hv⟩ : ∃ v : SdM, v = { u with owed := u.owed ++ [⟨dm.d, g.2.2.1, dm.ba, dm.bn, dm.bc, dm.bb⟩], oa := ja, on_ := jn, oc := jc, ob := hb' } := ⟨_, rfl⟩
      have hvR : v.R = u.R := by rw [hv]
      have hvf : v.f = s.f := by rw [hv, hu]
      have huf : u.f.R = v.f.R := by rw [hv]
      refine WL.weak (H' := (b3, .cells [.int .i64 now].toArray 2 (0, 0)) :: (b2, .cells [ptr u.R].toArray 26 (0, 0)) :: v.H) (fun _ h => ?_) ?_
      · rw [hv]
        unfold SdM.H SdM.T SdM.X
        dsimp only
        rw [List.flatMap_append, show [(⟨dm.d, g.2.2.1, dm.ba, dm.bn, dm.bc, dm.bb⟩ : OwM)].flatMap (·.bb) = dm.bb by simp]
        exact In.of_sub (.pick (.right (.there (.there (.right .here)))) (.pick (.right (.there (.there (.right .here)))) (.pick (.right (.there (.there (.right .here)))) (.pickL (L := u.o.H) (.right (.there (.there (.right .here)))) (.pickL (L := u.f.H) (.right (.there (.there (.right .here)))) (.pickL (L := u.wb) (.right (.there (.there (.right .here)))) (.pickL (L := u.ws.flatMap WaM.H) (.right (.there (.there (.right .here)))) (.pickL (L := u.lb) (.right (.there (.there (.right .here)))) (.pickL (L := hb') .here (.pickL (L := u.owed.flatMap (·.bb)) (.there (.there (.right .all))) (.last (L := dm.bb) (.there (.there .here))))))))))))) h
      have hT := fun F' => abandon_tr F' v.f (by rw [hvf]; exact hs.f) g.2.2.1
      rw [← huf] at hT
      refine WL.e rfl (Ef.call (c := v.f.H) (by exact rfl) (.skip _ (.skip _ v.flP.sub)) (hT _)) ?_
      rintro _ _ ⟨_, ⟨rfl, f', hf', rfl, hfR, hfS⟩, rfl⟩
      rw [← hvR]
      refine WL.weak (H' := (b3, .cells [.int .i64 now].toArray 2 (0, 0)) :: (b2, .cells [ptr v.R].toArray 26 (0, 0)) :: ({ v with f := f' } : SdM).H) (fun _ h => In.front2 (v.flE (hfR.trans huf)) h) ?_
      repeat' (first | refine S2c ?_ | refine SA (fun _ => ?_) | refine G1 (fun hc => ?_) (fun hc => ?_) | refine G2 (fun hc => ?_) (fun hc => ?_) | refine G3 (fun hc => ?_) (fun hc => ?_) | refine SL ?_ | fail)
      obtain ⟨x, hx⟩ : ∃ x : SdM, x = { v with f := f' } := ⟨_, rfl⟩
      have hxS : x.S = Snd.expire1 s.S (Snd.clock now) := by
        rw [hx1e, hx, hv, hu, ← hdmd]
        unfold SdM.S
        dsimp only
        rw [hfS, hvf, List.map_append]
        rfl
      have hxR : v.R = s.R := hvR.trans huR
      have hxok : x.ok (n + 1) := by
        rw [← hxS] at hx1
        rw [hx] at hx1 ⊢
        refine ⟨?_, hf', ?_, ?_, ?_, ?_, hx1⟩
        · rw [hv, hu]; exact ho'
        · rw [hv, hu]; exact hs.ways
        · rw [hv, hu]; exact hs.lives
        · rw [hv]; dsimp only; rw [List.flatMap_append]; simpa using hown'
        · rw [hv]
          intro m hm
          rcases List.mem_append.1 hm with hm | hm
          · rw [hu] at hm; exact hs.own m hm
          · rw [List.mem_singleton.1 hm]; exact hdm
      exact Fin.cut hK ⟨x⟩ ⟨hxok, by rw [hx]; exact hxR, hxS⟩ envA (fun _ h => by dsimp only; rw [hx, ← hxR]; exact h)
  rintro ⟨t⟩ ⟨ht, htR, htS⟩
  dsimp only at ht htR htS ⊢
  clear hu huR hx1 hx1e hdm hdmd ho' hoR hoS hg
  rw [← htR]
  have c6 : Sl.Can F [(b2, .cells [ptr t.R].toArray 26 (0, 0)), t.hd] t.R (0 + 6) [.slice t.la t.ln t.lc] := (t.hdCan.one (i := 6) rfl).mono (fun _ h => h.sublist (.cons _ (.refl _)))
  have hlf : t.lives.length ≤ n + 1 := ht.pl.lfew
  have hsubT : Sub (t.lb ++ capH b3 b2 now t t.f) ((b3, .cells [.int .i64 now].toArray 2 (0, 0)) :: (b2, .cells [ptr t.R].toArray 26 (0, 0)) :: t.H) (t.o.H ++ (t.wb ++ (t.ws.flatMap WaM.H ++ (t.ob ++ t.owed.flatMap (·.bb))))) := by
    unfold capH SdM.H SdM.T SdM.X
    exact .pickL (L := t.lb) (.there (.there (.there (.right (.right (.right (.right .here))))))) (.pick .here (.pick .here (.pick .here (.last (.right .here)))))
  repeat' (first | refine S2b ?_ | refine SA (fun _ => ?_) | refine G1 (fun hc => ?_) (fun hc => ?_) | refine G2 (fun hc => ?_) (fun hc => ?_) | refine G3 (fun hc => ?_) (fun hc => ?_) | refine SL ?_ | fail)
  refine W.draw [(b2, .cells [ptr t.R].toArray 26 (0, 0)), t.hd] (by kernel_rfl) (by kernel_rfl) (fun _ h => h.sublist (.cons _ (.cons_cons _ t.hdSub))) ?_
  repeat' (first | refine S2b ?_ | refine SA (fun _ => ?_) | refine G1 (fun hc => ?_) (fun hc => ?_) | refine G2 (fun hc => ?_) (fun hc => ?_) | refine G3 (fun hc => ?_) (fun hc => ?_) | refine SL ?_ | fail)
  refine WD.e rfl (Ef.call (by exact rfl) hsubT (delL_tr _ b3 b2 now t t.f ht.f rfl t.lives t.la t.ln t.lc t.lb ht.lives (by omega))) ?_
  clear c6
  rintro _ _ ⟨_, ⟨hb, f', rfl, hown', hf', hfR, hfS, rfl⟩, rfl⟩
  refine ⟨.inr (fun _ h => In.of_sub (.pick (.left (.right (.there .here))) (.pick (.left (.right (.there .here))) (.nil _))) h), ?_⟩
  repeat' (first | refine S2c ?_ | refine SA (fun _ => ?_) | refine G1 (fun hc => ?_) (fun hc => ?_) | refine G2 (fun hc => ?_) (fun hc => ?_) | refine G3 (fun hc => ?_) (fun hc => ?_) | refine SL ?_ | fail)
  refine WD.e0 (Ef.st rfl rfl rfl (.left (.right (.there (.there (.here rfl)))))) ?_
  rintro _ _ ⟨rfl, rfl⟩
  refine ⟨.inl (by kernel_rfl), ?_⟩
  obtain ⟨y, hy⟩ : ∃ y : SdM, y = { t with f := f', lives := aliveL now t.lives, ln := (aliveL now t.lives).length, lb := hb } := ⟨_, rfl⟩
  have hyR : y.R = t.R := by rw [hy]
  have hyS : y.S = Snd.expire2 t.S (Snd.clock now) := by
    rw [hy]
    unfold SdM.S Snd.expire2 Snd.lapse
    dsimp only
    rw [hfS, lapseN_eq]
    rfl
  have hyok : y.ok (n + 1) := by
    have h1 := Snd.expire2_ok ht.pl (Snd.clock now)
    rw [← hyS] at h1
    rw [hy] at h1 ⊢
    exact ⟨ht.o, hf', ht.ways, hown', ht.owed, ht.own, h1⟩
  repeat' (first | refine S2c ?_ | refine SA (fun _ => ?_) | refine G1 (fun hc => ?_) (fun hc => ?_) | refine G2 (fun hc => ?_) (fun hc => ?_) | refine G3 (fun hc => ?_) (fun hc => ?_) | refine SL ?_ | fail)
  rw [← hyR]
  refine WL.weak (H' := (b3, .cells [.int .i64 now].toArray 2 (0, 0)) :: (b2, .cells [ptr y.R].toArray 26 (0, 0)) :: y.H) (fun _ h => ?_) ?_
  · rw [hyR] at h ⊢
    rw [hy]
    unfold SdM.H SdM.T SdM.X SdM.hd SdM.cells
    dsimp only
    rw [hfR]
    simp only [List.append_assoc, List.cons_append] at h
    exact In.of_sub (.pick (.right .here) (.pick (.right .here) (.pick (.right .here) (.pickL (L := t.o.H) (.right (.right .here)) (.pickL (L := f'.H) (.right .here) (.pickL (L := t.wb) (.right .here) (.pickL (L := t.ws.flatMap WaM.H) (.right .here) (.pickL (L := hb) .here (.all _)))))))))  h
  repeat' (first | refine S2b ?_ | refine SA (fun _ => ?_) | refine G1 (fun hc => ?_) (fun hc => ?_) | refine G2 (fun hc => ?_) (fun hc => ?_) | refine G3 (fun hc => ?_) (fun hc => ?_) | refine SL ?_ | fail)
  refine WL.e rfl (Ef.call (by exact rfl) (.skip _ (.skip _ (.all _))) (slay_tr _ y hyok now)) ?_
  rintro _ _ ⟨_, ⟨rfl, z, hz, rfl, hzR, hzS⟩, rfl⟩
  have hT := fun F' => srest_tr F' z hz
  rw [hzR] at hT
  refine WL.weak (H' := (b3, .cells [.int .i64 now].toArray 2 (0, 0)) :: (b2, .cells [ptr y.R].toArray 26 (0, 0)) :: z.H) (fun _ h => h.perm List.perm_append_comm) ?_
  repeat' (first | refine S2b ?_ | refine SA (fun _ => ?_) | refine G1 (fun hc => ?_) (fun hc => ?_) | refine G2 (fun hc => ?_) (fun hc => ?_) | refine G3 (fun hc => ?_) (fun hc => ?_) | refine SL ?_ | fail)
  refine WL.e rfl (Ef.call (by exact rfl) (.skip _ (.skip _ (.all _))) (hT _)) ?_
  rintro _ _ ⟨_, ⟨rfl, r, hr, rfl, hrR, hrS⟩, rfl⟩
  repeat' (first | refine S2b ?_ | refine SA (fun _ => ?_) | refine G1 (fun hc => ?_) (fun hc => ?_) | refine G2 (fun hc => ?_) (fun hc => ?_) | refine G3 (fun hc => ?_) (fun hc => ?_) | refine SL ?_ | fail)
  refine Fin.endW (by exact rfl) resA (H' := r.H) (fun _ h => h.left) ⟨rfl, r, hr, ?_, ?_, rfl⟩
  · rw [hrR, hyR]
  · rw [hrS, hzS, hyS, htS]
    rfl
end Go.Proofs.YtjfpckadjnjmoaaGreat
