/- A sender in memory: acknowledgements, walked. Conditions: it is well formed. -/
import Derived.Test.YtjfpckadjnjmoaaGreatSnE
namespace Go.Proofs.YtjfpckadjnjmoaaGreat
open Go Go.Sl Go.Pth

theorem ssack_nil (F : Nat → Option Obj) (y room : Int) (ga : Option Addr) (gn gc : Nat) (ra : Option Addr) (rn rc : Nat) (now : Int) : Tr Tryz.prog 18 [.pointer none, .agg [.int .u32 y, .int .u32 room, .slice ga gn gc, .slice ra rn rc].toArray, .int .i64 now].toArray F [] (fun v H => v = .int .i64 2 ∧ H = []) := by
  refine Tr.enter Tryz.func18 rfl Tryz.ntmps18 rfl (fun w0 => ?_)
  repeat' (first | refine S2b ?_ | refine SD ?_ | refine SA (fun _ => ?_) | refine G1 (fun hc => ?_) (fun hc => ?_) | refine G2 (fun hc => ?_) (fun hc => ?_) | refine G3 (fun hc => ?_) (fun hc => ?_) | refine SL ?_ | fail)
  exact Fin.retW (by exact rfl) resA (H' := []) (fun _ h => h.sublist (List.nil_sublist _)) ⟨rfl, rfl⟩
theorem made_bool (n : Nat) : mkCells [.bool false] n = (List.replicate n false).map Value.bool := by
  induction n with
  | zero => rfl
  | succ n ih => rw [mkCells, ih]; rfl
theorem told_can (F : Nat → Option Obj) (b : Nat) (t : Flt.Tld) {i : Nat} (hi : i < 4) : Sl.Can F [(b, .cells (tldC t).toArray 111 (0, 0))] b (0 + 2 + (i : Int).toNat * 5) (PTcells (Snd.ptOf t i)) := by
  have h : i = 0 ∨ i = 1 ∨ i = 2 ∨ i = 3 := by omega
  rcases h with rfl | rfl | rfl | rfl
  all_goals exact Can.cut (n := 5) (.here rfl)
structure GF where
  i : Nat
  l : List Bool
  nb : HL
structure GSk where
  b : Nat
  f : FM
  A : Flt.Tld
  E : Int
theorem In.frontN {F : Nat → Option Obj} {w : World} {c Hr T : HL} {p q : Nat × Obj} (nb : HL) (hp : (c ++ Hr).Perm T) (h : In F (q :: (c ++ (nb ++ (p :: Hr)))) w) : In F (q :: (nb ++ (p :: T))) w := by
  have e : In F ([q] ++ (nb ++ (p :: (c ++ Hr)))) w := In.of_sub (.pick .here (.pickL (L := nb) (.right .here) (.pick (.right .here) (.last .all)))) h
  refine e.perm (List.Perm.append_left _ (List.Perm.append_left _ (List.Perm.cons _ hp)))
theorem In.frontM {F : Nat → Option Obj} {w : World} {c Hr T : HL} {p q : Nat × Obj} (nb : HL) (hp : (c ++ Hr).Perm T) (h : In F (c ++ (q :: (nb ++ (p :: Hr)))) w) : In F (q :: (nb ++ (p :: T))) w :=
  In.frontN nb hp (In.of_sub (.pick (.right .here) (.last .all)) h)
def SndSackQ (n : Nat) (s : SdM) (o : Option Snd.S) (v : Value) (H : HL) : Prop := match o with
  | none => v = .int .i64 1 ∧ H = s.H
  | some S' => v = .int .i64 0 ∧ ∃ s' : SdM, s'.ok n ∧ H = s'.H ∧ s'.R = s.R ∧ s'.S = S'
set_option maxHeartbeats 8000000 in
theorem ssack_tr (F : Nat → Option Obj) {n : Nat} (s : SdM) (hs : s.ok n) (y rwnd : Int) (hy : 0 ≤ y ∧ y < 4294967296) (hrw : 0 ≤ rwnd) (gs : List (Nat × Nat)) (ga : Option Addr) (gn gc : Nat) (hl : Lst F [] 2 (gs.flatMap gC) ga gn gc) (hg : ∀ g ∈ gs, g.1 < 65536 ∧ g.2 < 65536) (hgl : gs.length ≤ 1000) (ra : Option Addr) (rn rc : Nat) (now : Int) :
    Tr Tryz.prog 18 [ptr s.R, .agg [.int .u32 y, .int .u32 rwnd, .slice ga gn gc, .slice ra rn rc].toArray, .int .i64 now].toArray F s.H (fun v H => SndSackQ n s (Snd.sack s.S y rwnd gs now) v H) := by
  refine Tr.enter Tryz.func18 rfl Tryz.ntmps18 rfl (fun w0 => ?_)
  obtain ⟨c0, c1, c2, c3, c4, c5, c6, c7, c8, c9, c10, c11⟩ := s.cans (F := F)
  have hwn := hs.wn
  have hnws := hs.nws
  have hSlen : s.S.ws.length = s.ws.length := by simp [SdM.S]
  repeat' (first | refine S2b ?_ | refine SD ?_ | refine SA (fun _ => ?_) | refine G1 (fun hc => ?_) (fun hc => ?_) | refine G2 (fun hc => ?_) (fun hc => ?_) | refine G3 (fun hc => ?_) (fun hc => ?_) | refine SL ?_ | fail)
  rename_i b4
  refine WL.e rfl (Ef.mkS (n := s.wn) (z := [.bool false]) (by exact rfl) (by exact rfl) rfl rfl (by omega) (by omega)) ?_
  rintro _ _ ⟨bn, rfl, rfl⟩
  rw [made_bool]
  repeat' (first | refine S2b ?_ | refine SD ?_ | refine SA (fun _ => ?_) | refine G1 (fun hc => ?_) (fun hc => ?_) | refine G2 (fun hc => ?_) (fun hc => ?_) | refine G3 (fun hc => ?_) (fun hc => ?_) | refine SL ?_ | fail)
  refine W.loop (G := GF) (fun g => [(0, ptr s.R), (2, .int .i64 now), (4, ptr b4), (7, .slice (some ⟨bn, 0, none⟩) s.wn s.wn), (25, .int .i64 s.wn), (26, .int .i64 g.i)])
    (fun g => g.nb ++ ((b4, .cells [.int .u32 y, .int .u32 rwnd, .slice ga gn gc, .slice ra rn rc].toArray 65 (0, 0)) :: s.H)) (fun g => g.i ≤ s.wn ∧ g.l.length = s.wn ∧ OwnS 4 1 (g.l.map Value.bool) (.slice (some ⟨bn, 0, none⟩) s.wn s.wn) g.nb ∧ ∀ j, j < g.i → g.l[j]? = some (!Snd.mayW s.S j)) (fun g => s.wn - g.i)
    ⟨0, List.replicate s.wn false, [(bn, .cells ((List.replicate s.wn false).map Value.bool).toArray 4 (0, 0))]⟩ ⟨Nat.zero_le _, by simp, by rw [← made_bool]; exact OwnS.made _ _ _ _ (by unfold maxLen; omega), fun j hj => absurd hj (Nat.not_lt_zero _)⟩ envA (fun _ h => h) ?_
  rintro ⟨i, l, nb⟩ ⟨hi, hll, hown, hset⟩
  dsimp only at hi hll hown hset ⊢
  repeat' (first | refine S2b ?_ | refine SA (fun _ => ?_) | refine G1 (fun hc => ?_) (fun hc => ?_) | refine G2 (fun hc => ?_) (fun hc => ?_) | refine G3 (fun hc => ?_) (fun hc => ?_) | refine SL ?_ | fail)
  · have hi' : i < s.wn := by have := of_decide_eq_true hc; omega
    refine WL.e rfl (Ef.callR (c := s.H) (by exact rfl) (.skipL nb (.skip _ (.all _))) (may_tr _ s hs i (by omega))) ?_
    rintro _ _ ⟨rfl, rfl⟩
    have hia : 0 ≤ (i : Int) ∧ (i : Int) < s.wn := by omega
    obtain ⟨nb', hown', hput⟩ := hown.put i [.bool (!Snd.mayW s.S i)] (by simp; omega)
    have e1 := set_row (v := Value.bool) (l := l) (i := i) (by omega) (!Snd.mayW s.S i)
    rw [e1] at hown'
    repeat' (first | refine S2c ?_ | refine SA (fun _ => ?_) | refine G1 (fun hc => ?_) (fun hc => ?_) | refine G2 (fun hc => ?_) (fun hc => ?_) | refine G3 (fun hc => ?_) (fun hc => ?_) | refine SL ?_ | fail)
    refine WL.e0 (Ef.st rfl rfl rfl (.left (by simpa using hput))) ?_
    rintro _ _ ⟨rfl, rfl⟩
    repeat' (first | refine S2b ?_ | refine SA (fun _ => ?_) | refine G1 (fun hc => ?_) (fun hc => ?_) | refine G2 (fun hc => ?_) (fun hc => ?_) | refine G3 (fun hc => ?_) (fun hc => ?_) | refine SL ?_ | fail)
    rw [i64_succ (by omega)]
    refine Fin.round ⟨i + 1, l.set i (!Snd.mayW s.S i), nb'⟩ ⟨hi', by simp [hll], hown', fun j hj => ?_⟩ envA (fun _ h => h) (by dsimp only; omega)
    dsimp only at hj
    by_cases hji : j = i
    · subst hji
      exact List.getElem?_set_self (by omega)
    · rw [List.getElem?_set_ne (fun e => hji e.symm)]
      exact hset j (by omega)
  have hi' : i = s.wn := by have := of_decide_eq_false hc; omega
  subst hi'
  obtain ⟨rr, hrr⟩ : ∃ rr, s.R = rr := ⟨_, rfl⟩
  refine W.cut (G := GSk) (fun g => [(0, ptr s.R), (2, .int .i64 now), (4, ptr b4), (7, .slice (some ⟨bn, 0, none⟩) s.wn s.wn), (9, ptr g.b), (10, .int .i64 g.E)])
    (fun g => (g.b, .cells (tldC g.A).toArray 111 (0, 0)) :: (nb ++ ((b4, .cells [.int .u32 y, .int .u32 rwnd, .slice ga gn gc, .slice ra rn rc].toArray 65 (0, 0)) :: ({ s with f := g.f } : SdM).H)))
    (fun g => (Flt.sack s.f.S y gs = none ∧ g.E = 1 ∧ g.f = s.f) ∨ (Flt.sack s.f.S y gs = some (g.f.S, g.A) ∧ g.E = 0 ∧ g.f.ok ∧ g.f.R = s.f.R)) (fun K' hK _ => ?_) ?_
  · have hsub : ∀ w, In F (nb ++ ((b4, .cells [.int .u32 y, .int .u32 rwnd, .slice ga gn gc, .slice ra rn rc].toArray 65 (0, 0)) :: s.H)) w → In F [(b4, .cells [.int .u32 y, .int .u32 rwnd, .slice ga gn gc, .slice ra rn rc].toArray 65 (0, 0)), s.hd] w := fun _ h => h.sublist (List.Sublist.trans (.cons_cons _ s.hdSub) (List.sublist_append_right _ _))
    refine W.drawG 9 [(b4, .cells [.int .u32 y, .int .u32 rwnd, .slice ga gn gc, .slice ra rn rc].toArray 65 (0, 0)), s.hd] hsub ?_
    have c1 : Sl.Can F [(b4, .cells [.int .u32 y, .int .u32 rwnd, .slice ga gn gc, .slice ra rn rc].toArray 65 (0, 0)), s.hd] s.R (0 + 1) [ptr s.f.R] := (s.hdCan.one (i := 1) rfl).mono (fun _ h => h.sublist (.cons _ (.refl _)))
    have hk1 : ∀ (q : HL) w, In F (q ++ (nb ++ ((b4, .cells [.int .u32 y, .int .u32 rwnd, .slice ga gn gc, .slice ra rn rc].toArray 65 (0, 0)) :: (s.hd :: (s.o.H ++ (s.wb ++ (s.ws.flatMap WaM.H ++ s.X))))))) w → In F [(b4, .cells [.int .u32 y, .int .u32 rwnd, .slice ga gn gc, .slice ra rn rc].toArray 65 (0, 0)), s.hd] w := fun _ _ h => In.of_sub (.pick (.right (.right .here)) (.last (L := [_]) (.right (.right .here)))) h
    clear c0 c2 c3 c4 c5 c6 c7 c8 c9 c10 c11
    repeat' (first
      | refine WF.pA ?_ | refine WF.sA ?_)
    refine WF.e rfl (Ef.callF (c := s.f.H) (by exact rfl) (.skipL nb (.skip _ s.flP.sub)) (fun hd => sack_tr _ s.f hs.f hs.small hs.pathOk y rwnd hy gs ga gn gc (hl.mono (fun _ h => addF_in hd h)) hg hgl ra rn rc)) ?_ ?_
    · rintro _ _ ⟨_, hSR, rfl⟩
      unfold SackR at hSR
      cases hso : Flt.sack s.f.S y gs with
      | none =>
        rw [hso] at hSR
        obtain ⟨rfl, rfl⟩ := hSR
        refine ⟨.inr (fun _ h => hk1 _ _ h), ?_⟩
        dsimp only [tup]
        repeat' (first
          | refine WF.pA ?_ | refine WF.sA ?_)
        refine WF.nil ?_
        refine WD.aA (fun b9 => ?_) (hk := fun _ => .inr (fun _ h => hk1 _ _ (h.sublist (.cons _ (.refl _)))))
        refine WD.e0A ?_ (hk := .inl (by kernel_rfl))
        repeat' (first | refine S2c ?_ | refine SA (fun _ => ?_) | refine G1 (fun hc => ?_) (fun hc => ?_) | refine G2 (fun hc => ?_) (fun hc => ?_) | refine G3 (fun hc => ?_) (fun hc => ?_) | refine SL ?_ | fail)
        exact Fin.cut hK ⟨b9, s.f, Flt.Tld.zero, 1⟩ (.inl ⟨hso, rfl, rfl⟩) envA (fun _ h => In.frontN nb (s.flE (f' := s.f) rfl) h)
      | some q =>
        obtain ⟨f', A⟩ := q
        rw [hso] at hSR
        obtain ⟨rfl, f1, hf1, rfl, hR1, rfl⟩ := hSR
        refine ⟨.inr (fun _ h => hk1 _ _ h), ?_⟩
        dsimp only [tup]
        repeat' (first
          | refine WF.pA ?_ | refine WF.sA ?_)
        refine WF.nil ?_
        refine WD.aA (fun b9 => ?_) (hk := fun _ => .inr (fun _ h => hk1 _ _ (h.sublist (.cons _ (.refl _)))))
        refine WD.e0A ?_ (hk := .inl (by kernel_rfl))
        repeat' (first | refine S2c ?_ | refine SA (fun _ => ?_) | refine G1 (fun hc => ?_) (fun hc => ?_) | refine G2 (fun hc => ?_) (fun hc => ?_) | refine G3 (fun hc => ?_) (fun hc => ?_) | refine SL ?_ | fail)
        exact Fin.cut hK ⟨b9, f1, A, 0⟩ (.inr ⟨hso, rfl, hf1, hR1⟩) envA (fun _ h => In.frontN nb (s.flE hR1) h)
    · refine WD.aA (fun b9 => ?_) (hk := fun _ => .inr (fun _ h => hsub _ (h.sublist (.cons _ (.refl _)))))
      refine WD.e rfl (Ef.callF (c := s.f.H) (by exact rfl) (.skip _ (.skipL nb (.skip _ s.flP.sub))) (fun hd => sack_tr _ s.f hs.f hs.small hs.pathOk y rwnd hy gs ga gn gc (hl.mono (fun _ h => addF_in hd h)) hg hgl ra rn rc)) ?_
      rintro _ _ ⟨_, hSR, rfl⟩
      unfold SackR at hSR
      cases hso : Flt.sack s.f.S y gs with
      | none =>
        rw [hso] at hSR
        obtain ⟨rfl, rfl⟩ := hSR
        refine ⟨.inl (by kernel_rfl), ?_⟩
        dsimp only [tup]
        repeat' (first | refine S2c ?_ | refine SA (fun _ => ?_) | refine G1 (fun hc => ?_) (fun hc => ?_) | refine G2 (fun hc => ?_) (fun hc => ?_) | refine G3 (fun hc => ?_) (fun hc => ?_) | refine SL ?_ | fail)
        refine WD.e0 (Ef.sta rfl rfl rfl rfl (.right (.here rfl))) ?_
        rintro _ _ ⟨rfl, rfl⟩
        refine ⟨.inl (by kernel_rfl), ?_⟩
        repeat' (first | refine S2c ?_ | refine SA (fun _ => ?_) | refine G1 (fun hc => ?_) (fun hc => ?_) | refine G2 (fun hc => ?_) (fun hc => ?_) | refine G3 (fun hc => ?_) (fun hc => ?_) | refine SL ?_ | fail)
        exact Fin.cut hK ⟨b9, s.f, Flt.Tld.zero, 1⟩ (.inl ⟨hso, rfl, rfl⟩) envA (fun _ h => In.frontM nb (s.flE (f' := s.f) rfl) h)
      | some q =>
        obtain ⟨f', A⟩ := q
        rw [hso] at hSR
        obtain ⟨rfl, f1, hf1, rfl, hR1, rfl⟩ := hSR
        refine ⟨.inl (by kernel_rfl), ?_⟩
        dsimp only [tup]
        repeat' (first | refine S2c ?_ | refine SA (fun _ => ?_) | refine G1 (fun hc => ?_) (fun hc => ?_) | refine G2 (fun hc => ?_) (fun hc => ?_) | refine G3 (fun hc => ?_) (fun hc => ?_) | refine SL ?_ | fail)
        refine WD.e0 (Ef.sta rfl rfl rfl rfl (.right (.here rfl))) ?_
        rintro _ _ ⟨rfl, rfl⟩
        refine ⟨.inl (by kernel_rfl), ?_⟩
        repeat' (first | refine S2c ?_ | refine SA (fun _ => ?_) | refine G1 (fun hc => ?_) (fun hc => ?_) | refine G2 (fun hc => ?_) (fun hc => ?_) | refine G3 (fun hc => ?_) (fun hc => ?_) | refine SL ?_ | fail)
        exact Fin.cut hK ⟨b9, f1, A, 0⟩ (.inr ⟨hso, rfl, hf1, hR1⟩) envA (fun _ h => In.frontM nb (s.flE hR1) h)
  clear c0 c1 c2 c3 c4 c5 c6 c7 c8 c9 c10 c11
  rintro ⟨b9, f1, A, E⟩ (⟨hso, hE, hff⟩ | ⟨hso, hE, hf1, hR1⟩)
  · dsimp only at hE hff ⊢
    subst hE hff
    refine Fin.next ?_
    repeat' (first | refine S2b ?_ | refine SA (fun _ => ?_) | refine G1 (fun hc => ?_) (fun hc => ?_) | refine G2 (fun hc => ?_) (fun hc => ?_) | refine G3 (fun hc => ?_) (fun hc => ?_) | refine SL ?_ | fail)
    refine Fin.retW (by exact rfl) resA (H' := s.H) (fun _ h => h.sublist (.cons _ (List.Sublist.trans (.cons _ (.refl _)) (List.sublist_append_right _ _)))) ?_
    unfold Snd.sack
    rw [show s.S.f = s.f.S from rfl, hso]
    exact ⟨rfl, rfl⟩
  dsimp only at hso hE hf1 hR1 ⊢
  subst hE
  obtain ⟨hFO, hat, hnn, hpaths, hcum⟩ := hs.pl.f.sack hy (show Flt.sack s.S.f y gs = some (f1.S, A) from hso)
  have hpl1 : Snd.Ok n { s.S with f := f1.S } := { hs.pl with f := hFO, paths := by dsimp only; rw [hpaths]; exact hs.pl.paths }
  have hs1 := hs.setF hf1 hpl1
  obtain ⟨s1, hs1e⟩ : ∃ s1, ({ s with f := f1 } : SdM) = s1 := ⟨_, rfl⟩
  have hS1 : s1.S = { s.S with f := f1.S } := by rw [← hs1e]; rfl
  have hR1' : s1.R = rr := by rw [← hs1e]; exact hrr
  have hwn1 : s1.wn = s.wn := by rw [← hs1e]
  rw [hs1e] at hs1 ⊢
  rw [hrr]
  have hsack : Snd.sack s.S y rwnd gs now = some { (Snd.lay { Snd.restAll { s1.S with ws := Snd.hearAll s1.S A (fun k => !Snd.mayW s.S k) (Snd.clock now) } with q := Oq.free (Snd.restAll { s1.S with ws := Snd.hearAll s1.S A (fun k => !Snd.mayW s.S k) (Snd.clock now) }).q A.freed } now) with room := Snd.roomOf (Snd.lay { Snd.restAll { s1.S with ws := Snd.hearAll s1.S A (fun k => !Snd.mayW s.S k) (Snd.clock now) } with q := Oq.free (Snd.restAll { s1.S with ws := Snd.hearAll s1.S A (fun k => !Snd.mayW s.S k) (Snd.clock now) }).q A.freed } now) rwnd A.whole } := by
    unfold Snd.sack
    rw [show s.S.f = s.f.S from rfl, hso, hS1]
  rw [hsack]
  clear hsack
  have hset : ∀ j, j < s.wn → l[j]? = some (!Snd.mayW s.S j) := hset
  obtain ⟨full, hfull⟩ : ∃ full : Nat → Bool, (fun k => !Snd.mayW s.S k) = full := ⟨_, rfl⟩
  have hset : ∀ j, j < s.wn → l[j]? = some (full j) := fun j hj => by rw [hset j hj, ← hfull]
  rw [hfull]
  obtain ⟨gw, hgw⟩ : ∃ gw, (fun k w => Snd.hear (Snd.ptOf A k) (full k) (Snd.clock now) s1.S.f.c s1.S.f.L.length w) = gw := ⟨_, rfl⟩
  have hlen1 : s1.S.ws.length = s.wn := by rw [hS1]; show s.S.ws.length = s.wn; omega
  obtain ⟨bw, ow, hwa1, _⟩ := hs1.wrow
  obtain ⟨c0, c1, c2, c3, c4, c5, c6, c7, c8, c9, c10, c11⟩ := s1.cans (F := F)
  rw [hR1'] at c0 c1 c2 c3 c4 c5 c6 c7 c8 c9 c10 c11
  refine Fin.next ?_
  repeat' (first | refine S2b ?_ | refine SA (fun _ => ?_) | refine G1 (fun hc => ?_) (fun hc => ?_) | refine G2 (fun hc => ?_) (fun hc => ?_) | refine G3 (fun hc => ?_) (fun hc => ?_) | refine SL ?_ | fail)
  rw [hwn1]
  clear c0 c1 c2 c3 c4 c5 c6 c7 c8 c9 c10 c11
  refine W.loop (G := GS) (fun g => [(0, ptr rr), (2, .int .i64 now), (4, ptr b4), (7, .slice (some ⟨bn, 0, none⟩) s.wn s.wn), (9, ptr b9), (53, .int .i64 s.wn), (54, .int .i64 g.i)])
    (fun g => (b9, .cells (tldC A).toArray 111 (0, 0)) :: (nb ++ ((b4, .cells [.int .u32 y, .int .u32 rwnd, .slice ga gn gc, .slice ra rn rc].toArray 65 (0, 0)) :: g.s.H))) (fun g => g.i ≤ s.wn ∧ g.s.ok n ∧ g.s.R = rr ∧ g.s.S = { s1.S with ws := Snd.pmap gw s1.S.ws g.i }) (fun g => s.wn - g.i) ⟨0, s1⟩ ⟨Nat.zero_le _, hs1, hR1', by dsimp only; rw [Snd.pmap_zero]⟩ envA (fun _ h => h) ?_
  rintro ⟨i, t⟩ ⟨hi2, ht, hRt, htS⟩
  dsimp only at hi2 ht hRt htS ⊢
  have htl : t.ws.length = s.wn := by have := congrArg (fun x : Snd.S => x.ws.length) htS; simp only [Snd.pmap_len] at this; rw [hlen1] at this; simpa [SdM.S] using this
  have hmv9 : ∀ w, In F ((b9, .cells (tldC A).toArray 111 (0, 0)) :: (nb ++ ((b4, .cells [.int .u32 y, .int .u32 rwnd, .slice ga gn gc, .slice ra rn rc].toArray 65 (0, 0)) :: t.H))) w → In F [(b9, .cells (tldC A).toArray 111 (0, 0))] w := fun _ h => h.sublist (.cons_cons _ (List.nil_sublist _))
  repeat' (first | refine S2b ?_ | refine SA (fun _ => ?_) | refine G1 (fun hc => ?_) (fun hc => ?_) | refine G2 (fun hc => ?_) (fun hc => ?_) | refine G3 (fun hc => ?_) (fun hc => ?_) | refine SL ?_ | fail)
  · have hi' : i < s.wn := by have := of_decide_eq_true hc; omega
    obtain ⟨m, hm, hmS, hkn⟩ := SdM.wayAt ht (k := i) (by omega)
    have hms : s1.S.ws[i]? = some m.W := by
      have h1 : t.S.ws[i]? = some m.W := hmS
      rw [htS] at h1
      obtain ⟨w, hw⟩ : ∃ w, s1.S.ws[i]? = some w := ⟨s1.S.ws[i]'(by omega), List.getElem?_eq_getElem _⟩
      have h2 := Snd.pmap_get gw hw
      dsimp only at h1
      rw [h2] at h1
      rw [hw, ← h1]
    obtain ⟨bn', off', hsa, _, hcf⟩ := own_el hown (hset i hi')
    cases hsa
    have hcf := hcf F
    have hib : 0 ≤ (i : Int) ∧ (i : Int) < s.wn := by omega
    have htold := (told_can F b9 A (i := i) (by omega)).mono (F' := F) hmv9
    refine W.drawA ?_
    repeat' (first | refine S2b ?_ | refine SA (fun _ => ?_) | refine G1 (fun hc => ?_) (fun hc => ?_) | refine G2 (fun hc => ?_) (fun hc => ?_) | refine G3 (fun hc => ?_) (fun hc => ?_) | refine SL ?_ | fail)
    refine WD.p rfl (Pu.iaA rfl rfl (by omega)) ?_
    refine WD.s rfl (Rd.ldaC rfl rfl htold) ?_
    repeat' (first | refine S2b ?_ | refine SA (fun _ => ?_) | refine G1 (fun hc => ?_) (fun hc => ?_) | refine G2 (fun hc => ?_) (fun hc => ?_) | refine G3 (fun hc => ?_) (fun hc => ?_) | refine SL ?_ | fail)
    refine WD.e rfl (Ef.callR (by exact rfl) (.nil _) (clock_tr _ now)) ?_
    rintro _ _ ⟨rfl, rfl⟩
    refine ⟨.inr (fun _ h => h), ?_⟩
    refine WD.e rfl (Ef.call (c := t.H) (by rw [← hRt]; exact rfl) (.skip _ (.skipL nb (.skip _ (.all _)))) (heard_tr _ t ht i m hm (Snd.ptOf A i) (Snd.ptOf_at hat i) (full i) (Snd.clock now) (Snd.clock_at now))) ?_
    rintro _ _ ⟨_, ⟨rfl, m', hb', hW', rfl⟩, rfl⟩
    refine ⟨.inl (by kernel_rfl), ?_⟩
    repeat' (first | refine S2b ?_ | refine SA (fun _ => ?_) | refine G1 (fun hc => ?_) (fun hc => ?_) | refine G2 (fun hc => ?_) (fun hc => ?_) | refine G3 (fun hc => ?_) (fun hc => ?_) | refine SL ?_ | fail)
    rw [i64_succ (by omega)]
    have htf : t.S.f = s1.S.f := by rw [htS]
    have ew : m'.W = gw i m.W := by rw [hW', htf, ← hgw]
    refine Fin.round ⟨i + 1, t.setW i m'⟩ ⟨hi', ht.setW hm hb' (by rw [hW']; exact Snd.hear_ok (ht.way hm) (Snd.ptOf_at hat i) _ (Snd.clock_at now) _ _), hRt, ?_⟩ envA (fun _ h => In.of_sub (.pick (.right .here) (.pickL (L := nb) (.right .here) (.pick (.right .here) (.last (L := (t.setW i m').H) .here)))) h) (by dsimp only; omega)
    rw [SdM.setW_S, htS, ew, Snd.pmap_succ _ hms]
  have hi' : i = s1.S.ws.length := by have := of_decide_eq_false hc; omega
  subst hi'
  have htS2 : t.S = { s1.S with ws := Snd.hearAll s1.S A full (Snd.clock now) } := by rw [htS, Snd.pmap_all, ← hgw]; rfl
  rw [← htS2]
  subst hRt
  refine WL.e rfl (Ef.call (c := t.H) (by exact rfl) (.skip _ (.skipL nb (.skip _ (.all _)))) (srest_tr _ t ht)) ?_
  rintro _ _ ⟨_, ⟨rfl, s3, hs3, rfl, hR3, hS3⟩, rfl⟩
  refine WL.weak (H' := (b9, .cells (tldC A).toArray 111 (0, 0)) :: (b4, .cells [.int .u32 y, .int .u32 rwnd, .slice ga gn gc, .slice ra rn rc].toArray 65 (0, 0)) :: s3.H) (fun _ h => In.of_sub (.pick (.right .here) (.pick (.right (.right .here)) (.last .here))) h) ?_
  rw [← hR3, ← hS3]
  obtain ⟨c0, c1, c2, c3, c4, c5, c6, c7, c8, c9, c10, c11⟩ := s3.cans (F := F)
  unfold tldC
  repeat' (first | refine S2b ?_ | refine SA (fun _ => ?_) | refine G1 (fun hc => ?_) (fun hc => ?_) | refine G2 (fun hc => ?_) (fun hc => ?_) | refine G3 (fun hc => ?_) (fun hc => ?_) | refine SL ?_ | fail)
  refine W.drawA ?_
  repeat' (first | refine S2b ?_ | refine SA (fun _ => ?_) | refine G1 (fun hc => ?_) (fun hc => ?_) | refine G2 (fun hc => ?_) (fun hc => ?_) | refine G3 (fun hc => ?_) (fun hc => ?_) | refine SL ?_ | fail)
  refine WD.e rfl (Ef.call (c := s3.o.H) (by exact rfl) (.skip _ (.skip _ s3.oqP.sub)) (ofree_tr _ s3.o hs3.o A.freed)) ?_
  rintro _ _ ⟨_, ⟨rfl, o', ho', rfl, hRo, hSo, _⟩, rfl⟩
  refine ⟨.inl (by kernel_rfl), ?_⟩
  refine WD.weak (fun _ h => In.front2 (s3.oqE hRo) h) ?_
  obtain ⟨s4, hs4e⟩ : ∃ s4, ({ s3 with o := o' } : SdM) = s4 := ⟨_, rfl⟩
  have hS4 : s4.S = { s3.S with q := Oq.free s3.S.q A.freed } := by rw [← hs4e]; show ({ s3.S with q := o'.S } : Snd.S) = _; rw [hSo]; rfl
  have hs4 : s4.ok n := by
    rw [← hs4e]
    refine hs3.setO ho' ?_
    rw [hSo]
    exact Snd.free_ok hs3.pl A.freed
  have hR4 : s4.R = s3.R := by rw [← hs4e]
  rw [hs4e, ← hR4, ← hS4]
  clear c0 c1 c2 c3 c4 c5 c6 c7 c8 c9 c10 c11
  repeat' (first | refine S2b ?_ | refine SA (fun _ => ?_) | refine G1 (fun hc => ?_) (fun hc => ?_) | refine G2 (fun hc => ?_) (fun hc => ?_) | refine G3 (fun hc => ?_) (fun hc => ?_) | refine SL ?_ | fail)
  refine WL.e rfl (Ef.call (c := s4.H) (by exact rfl) (.skip _ (.skip _ (.all _))) (slay_tr _ s4 hs4 now)) ?_
  rintro _ _ ⟨_, ⟨rfl, s5, hs5, rfl, hR5, hS5⟩, rfl⟩
  refine WL.weak (H' := (b9, _) :: (b4, _) :: s5.H) (fun _ h => In.of_sub (.pick (.right .here) (.pick (.right .here) (.last .here))) h) ?_
  rw [← hR5, ← hS5]
  obtain ⟨c0, c1, c2, c3, c4, c5, c6, c7, c8, c9, c10, c11⟩ := s5.cans (F := F)
  repeat' (first | refine S2b ?_ | refine SA (fun _ => ?_) | refine G1 (fun hc => ?_) (fun hc => ?_) | refine G2 (fun hc => ?_) (fun hc => ?_) | refine G3 (fun hc => ?_) (fun hc => ?_) | refine SL ?_ | fail)
  refine W.drawA ?_
  repeat' (first | refine S2b ?_ | refine SA (fun _ => ?_) | refine G1 (fun hc => ?_) (fun hc => ?_) | refine G2 (fun hc => ?_) (fun hc => ?_) | refine G3 (fun hc => ?_) (fun hc => ?_) | refine SL ?_ | fail)
  refine WD.e rfl (Ef.callR (c := s5.f.H) (by exact rfl) (.skip _ (.skip _ s5.flP.sub)) (openB_tr _ s5.f hs5.f hs5.small)) ?_
  rintro _ _ ⟨rfl, rfl⟩
  refine ⟨.inr (fun _ h => h), ?_⟩
  have hRend : s5.R = s.R := by rw [hR5, hR4, hR3, hrr]
  have hob : Flt.openB s5.f.S ≤ 3072000 := hs5.pl.f.small _
  repeat' (first | refine S2b ?_ | refine SA (fun _ => ?_) | refine G1 (fun hc => ?_) (fun hc => ?_) | refine G2 (fun hc => ?_) (fun hc => ?_) | refine G3 (fun hc => ?_) (fun hc => ?_) | refine SL ?_ | fail)
  · have hwh : A.whole = false := by simpa using hc
    simp only [Go.Pth.go_mn, Go.Pth.go_mx]
    rw [i64_id (n := min rwnd 1048576) (by omega) (by omega), i64_id (n := min rwnd 1048576 - (Flt.openB s5.f.S : Int)) (by omega) (by omega)]
    have hrm : min (max 0 (min rwnd 1048576 - (Flt.openB s5.f.S : Int))) s5.room = Snd.roomOf s5.S rwnd A.whole := by unfold Snd.roomOf; rw [hwh]; rfl
    rw [hrm]
    repeat' (first | refine S2b ?_ | refine SA (fun _ => ?_) | refine G1 (fun hc => ?_) (fun hc => ?_) | refine G2 (fun hc => ?_) (fun hc => ?_) | refine G3 (fun hc => ?_) (fun hc => ?_) | refine SL ?_ | fail)
    refine WL.e0 (Ef.st rfl rfl rfl (.there (.there (SdM.put (s' := { s5 with room := Snd.roomOf s5.S rwnd A.whole }) rfl rfl (off := 0 + 3) (vs := [.int .i64 (Snd.roomOf s5.S rwnd A.whole)]) rfl)))) ?_
    rintro _ _ ⟨rfl, rfl⟩
    repeat' (first | refine S2b ?_ | refine SA (fun _ => ?_) | refine G1 (fun hc => ?_) (fun hc => ?_) | refine G2 (fun hc => ?_) (fun hc => ?_) | refine G3 (fun hc => ?_) (fun hc => ?_) | refine SL ?_ | fail)
    have hpl6 : Snd.Ok n { s5.S with room := Snd.roomOf s5.S rwnd A.whole } := { hs5.pl with room := Snd.roomOf_rng hs5.pl.room rwnd A.whole }
    exact Fin.retW (by exact rfl) resA (H' := ({ s5 with room := Snd.roomOf s5.S rwnd A.whole } : SdM).H) (fun _ h => h.sublist (.cons _ (.cons _ (.refl _)))) ⟨rfl, { s5 with room := Snd.roomOf s5.S rwnd A.whole }, ⟨hs5.o, hs5.f, hs5.ways, hs5.lives, hs5.owed, hs5.own, hpl6⟩, rfl, hRend, rfl⟩
  · have hwh : A.whole = true := by simpa using hc
    simp only [Go.Pth.go_mn, Go.Pth.go_mx]
    rw [i64_id (n := min rwnd 1048576) (by omega) (by omega), i64_id (n := min rwnd 1048576 - (Flt.openB s5.f.S : Int)) (by omega) (by omega)]
    have hrm : max 0 (min rwnd 1048576 - (Flt.openB s5.f.S : Int)) = Snd.roomOf s5.S rwnd A.whole := by unfold Snd.roomOf; rw [hwh]; rfl
    rw [hrm]
    repeat' (first | refine S2b ?_ | refine SA (fun _ => ?_) | refine G1 (fun hc => ?_) (fun hc => ?_) | refine G2 (fun hc => ?_) (fun hc => ?_) | refine G3 (fun hc => ?_) (fun hc => ?_) | refine SL ?_ | fail)
    refine WL.e0 (Ef.st rfl rfl rfl (.there (.there (SdM.put (s' := { s5 with room := Snd.roomOf s5.S rwnd A.whole }) rfl rfl (off := 0 + 3) (vs := [.int .i64 (Snd.roomOf s5.S rwnd A.whole)]) rfl)))) ?_
    rintro _ _ ⟨rfl, rfl⟩
    repeat' (first | refine S2b ?_ | refine SA (fun _ => ?_) | refine G1 (fun hc => ?_) (fun hc => ?_) | refine G2 (fun hc => ?_) (fun hc => ?_) | refine G3 (fun hc => ?_) (fun hc => ?_) | refine SL ?_ | fail)
    have hpl6 : Snd.Ok n { s5.S with room := Snd.roomOf s5.S rwnd A.whole } := { hs5.pl with room := Snd.roomOf_rng hs5.pl.room rwnd A.whole }
    exact Fin.retW (by exact rfl) resA (H' := ({ s5 with room := Snd.roomOf s5.S rwnd A.whole } : SdM).H) (fun _ h => h.sublist (.cons _ (.cons _ (.refl _)))) ⟨rfl, { s5 with room := Snd.roomOf s5.S rwnd A.whole }, ⟨hs5.o, hs5.f, hs5.ways, hs5.lives, hs5.owed, hs5.own, hpl6⟩, rfl, hRend, rfl⟩
end Go.Proofs.YtjfpckadjnjmoaaGreat
