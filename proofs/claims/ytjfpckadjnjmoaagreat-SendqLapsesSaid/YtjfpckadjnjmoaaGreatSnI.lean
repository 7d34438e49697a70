/- A sender in memory: the next packet, walked. Conditions: it is well formed. -/
import Derived.Test.YtjfpckadjnjmoaaGreatSnH
namespace Go.Proofs.YtjfpckadjnjmoaaGreat
open Go Go.Sl Go.Pth

theorem useful_tr (F : Nat → Option Obj) (R : Nat) : Tr Tryz.prog 36 [ptr R].toArray F [] (fun v H => ∃ b1, v = .func (.func 69) ([] : List Value).toArray [ptr b1].toArray ∧ H = [(b1, .cells [ptr R].toArray 26 (0, 0))]) := by
  refine Tr.enter Tryz.func36 rfl Tryz.ntmps36 rfl (fun w0 => ?_)
  repeat' (first | refine S1 ?_ | refine SD ?_ | refine SA (fun _ => ?_) | refine G1 (fun hc => ?_) (fun hc => ?_) | refine G2 (fun hc => ?_) (fun hc => ?_) | refine G3 (fun hc => ?_) (fun hc => ?_))
  exact Fin.retW (by exact rfl) resA (fun _ h => h) ⟨_, rfl, rfl⟩
def HU (l D : Nat) (lp : Loop) (b1 R : Nat) (Z : HL) (t : SdM) : HL := (l, .loop lp) :: (D, .deferred (some [])) :: (b1, .cells [ptr R].toArray 26 (0, 0)) :: (Z ++ t.H)
structure GU where
  i : Nat
  s : SdM
set_option maxHeartbeats 8000000 in
theorem useful1_tr (F : Nat → Option Obj) {n : Nat} (s : SdM) (hs : s.ok n) (l D b1 : Nat) (lp : Loop) (Z : HL) (J : Nat → SdM → Prop) (JE : HL → Prop)
    (hno : ∀ i t, i < s.wn → t.ok n → J i t → (Snd.noneActive s.S || Snd.activeW t.S i) = false → J (i + 1) t)
    (hyes : ∀ i (t : SdM), i < s.wn → t.ok n → t.R = s.R → t.wa = s.wa → t.wn = s.wn → J i t → (Snd.noneActive s.S || Snd.activeW t.S i) = true → ∀ F', (∀ w, In F' [] w → In F [] w) → TrY Tryz.prog l [.int .i64 i] F' (HU l D lp b1 s.R Z t) (fun v H' => (v = .bool true ∧ ∃ t' : SdM, t'.ok n ∧ t'.R = s.R ∧ t'.wa = s.wa ∧ t'.wn = s.wn ∧ J (i + 1) t' ∧ H' = HU l D lp b1 s.R Z t') ∨ (v = .bool false ∧ JE H')))
    (h0 : J 0 s) : Tr Tryz.prog 69 [.func (.yield l) #[] #[], ptr b1].toArray F (HU l D lp b1 s.R Z s) (fun _ H => (∃ t : SdM, t.ok n ∧ t.R = s.R ∧ J s.wn t ∧ H = HU l D lp b1 s.R Z t) ∨ JE H) := by
  refine Tr.enter Tryz.func69 rfl Tryz.ntmps69 rfl (fun w0 => ?_)
  have hsH : ∀ t : SdM, t.H.Sublist (HU l D lp b1 s.R Z t) := fun t => .cons _ (.cons _ (.cons _ (List.sublist_append_right _ _)))
  have hsub : ∀ t : SdM, Sub t.H (HU l D lp b1 s.R Z t) ((l, .loop lp) :: (D, .deferred (some [])) :: (b1, .cells [ptr s.R].toArray 26 (0, 0)) :: (Z ++ [])) := fun t => .skip _ (.skip _ (.skip _ (.skipL Z (.all _))))
  have hpart : ∀ (t : SdM) (c Hr : HL), Part t c Hr → Sub c (HU l D lp b1 s.R Z t) ((l, .loop lp) :: (D, .deferred (some [])) :: (b1, .cells [ptr s.R].toArray 26 (0, 0)) :: (Z ++ Hr)) := fun t c Hr hp => .skip _ (.skip _ (.skip _ (.skipL Z hp.sub)))
  have hb1 : ∀ t : SdM, Sl.Can F (HU l D lp b1 s.R Z t) b1 0 [ptr s.R] := fun t => Can.cut (n := 1) (.there (.there (.here rfl)))
  have hway : ∀ t : SdM, Sl.Can F (HU l D lp b1 s.R Z t) t.R (0 + 2) [.slice t.wa t.wn t.wc] := fun t => (t.cans (F := F)).2.2.1.mono (fun _ h => h.sublist (hsH t))
  obtain ⟨b, off, hwa, hel⟩ := hs.wrow
  have hwn := hs.wn
  have hnws := hs.nws
  have hSlen : s.S.ws.length = s.ws.length := by simp [SdM.S]
  obtain ⟨H0, hH0⟩ : ∃ H0, HU l D lp b1 s.R Z s = H0 := ⟨_, rfl⟩
  have hb1s := hb1 s
  have hways := hway s
  have hnx := Snd.nextW_lt (s := s.S) (by omega) 0
  obtain ⟨m, hm, hmS, hkn⟩ := SdM.wayAt hs (k := Snd.nextW s.S 0) (by omega)
  have hcan := (hel F (Snd.nextW s.S 0) m hm).mono (F' := F) (H' := HU l D lp b1 s.R Z s) (fun _ h => h.sublist (hsH s))
  have hd0 := (SdM.wayCans (F := F) hm).1.mono (F' := F) (H' := HU l D lp b1 s.R Z s) (fun _ h => h.sublist (hsH s))
  have hnone : Snd.noneActive s.S = !Pth.active m.pm.s := by unfold Snd.noneActive Snd.activeW; rw [hmS]; rfl
  rw [hwa] at hways
  have hsubs := hsub s
  have hparts := hpart s
  rw [hH0] at hb1s hways hcan hd0 hsubs hparts ⊢
  repeat' (first | refine S2b ?_ | refine SA (fun _ => ?_) | refine G1 (fun hc => ?_) (fun hc => ?_) | refine G2 (fun hc => ?_) (fun hc => ?_) | refine G3 (fun hc => ?_) (fun hc => ?_) | refine SL ?_ | fail)
  refine W.drawA ?_
  repeat' (first | refine S2b ?_ | refine SA (fun _ => ?_) | refine G1 (fun hc => ?_) (fun hc => ?_) | refine G2 (fun hc => ?_) (fun hc => ?_) | refine G3 (fun hc => ?_) (fun hc => ?_) | refine SL ?_ | fail)
  refine WD.e rfl (Ef.callR (c := s.H) (by exact rfl) hsubs (snext_tr _ s hs 0 (by omega))) ?_
  rintro _ _ ⟨rfl, rfl⟩
  refine ⟨.inr (fun _ h => h), ?_⟩
  repeat' (first | refine S2b ?_ | refine SA (fun _ => ?_) | refine G1 (fun hc => ?_) (fun hc => ?_) | refine G2 (fun hc => ?_) (fun hc => ?_) | refine G3 (fun hc => ?_) (fun hc => ?_) | refine SL ?_ | fail)
  refine WD.e rfl (Ef.callR (c := m.pm.H) (by exact rfl) (hparts _ _ (SdM.paP hm)) (active_tr _ m.pm)) ?_
  rintro _ _ ⟨rfl, rfl⟩
  refine ⟨.inl (by kernel_rfl), ?_⟩
  repeat' (first | refine S2b ?_ | refine SA (fun _ => ?_) | refine G1 (fun hc => ?_) (fun hc => ?_) | refine G2 (fun hc => ?_) (fun hc => ?_) | refine G3 (fun hc => ?_) (fun hc => ?_) | refine SL ?_ | fail)
  obtain ⟨nn, hnn⟩ : ∃ nn, (!Pth.active m.pm.s) = nn := ⟨_, rfl⟩
  rw [hnn] at hnone ⊢
  rw [← hH0]
  clear hb1s hways hcan hd0 hsubs hparts hH0
  refine W.loop (G := GU) (fun g => [(0, .func (.yield l) #[] #[]), (1, ptr b1), (3, .bool nn), (22, .slice (some ⟨b, off, none⟩) s.wn s.wc), (23, .int .i64 s.wn), (24, .int .i64 g.i)])
    (fun g => HU l D lp b1 s.R Z g.s) (fun g => g.i ≤ s.wn ∧ g.s.ok n ∧ g.s.R = s.R ∧ g.s.wa = s.wa ∧ g.s.wn = s.wn ∧ J g.i g.s) (fun g => s.wn - g.i) ⟨0, s⟩ ⟨Nat.zero_le _, hs, rfl, rfl, rfl, h0⟩ envA (fun _ h => h) ?_
  rintro ⟨i, t⟩ ⟨hi, ht, hR, hta, htn, hJ⟩
  dsimp only at hi ht hR hta htn hJ ⊢
  have htl := ht.wn
  repeat' (first | refine S2b ?_ | refine SA (fun _ => ?_) | refine G1 (fun hc => ?_) (fun hc => ?_) | refine G2 (fun hc => ?_) (fun hc => ?_) | refine G3 (fun hc => ?_) (fun hc => ?_) | refine SL ?_ | fail)
  · have hi' : i < s.wn := by have := of_decide_eq_true hc; omega
    obtain ⟨b', off', hta', helt⟩ := ht.wrow
    rw [hta, hwa] at hta'
    cases hta'
    obtain ⟨mi, hmi, hmiS, hkni⟩ := SdM.wayAt ht (k := i) (by omega)
    rw [htn] at hkni
    have hcan := (helt F i mi hmi).mono (F' := F) (H' := HU l D lp b1 s.R Z t) (fun _ h => h.sublist (hsH t))
    have hd0 := (SdM.wayCans (F := F) hmi).1.mono (F' := F) (H' := HU l D lp b1 s.R Z t) (fun _ h => h.sublist (hsH t))
    have hparts := hpart t _ _ (SdM.paP hmi)
    have hact : Snd.activeW t.S i = Pth.active mi.pm.s := by unfold Snd.activeW; rw [hmiS]; rfl
    have hJno := hno i t hi' ht hJ
    have hJyes := hyes i t hi' ht hR hta htn hJ
    rw [hnone, hact] at hJno hJyes
    obtain ⟨Ht, hHt⟩ : ∃ Ht, HU l D lp b1 s.R Z t = Ht := ⟨_, rfl⟩
    rw [hHt] at hcan hd0 hparts hJyes ⊢
    cases nn with
    | true =>
      repeat' (first | refine S2b ?_ | refine SA (fun _ => ?_) | refine G1 (fun hc => ?_) (fun hc => ?_) | refine G2 (fun hc => ?_) (fun hc => ?_) | refine G3 (fun hc => ?_) (fun hc => ?_) | refine SL ?_ | fail)
      refine WL.e rfl (Ef.callY (l := l) (vals := [.int .i64 i]) rfl (by exact rfl) (.all _) (fun hd => hJyes rfl _ (fun _ h => addF_in hd h))) ?_
      rintro _ _ ⟨H1, (⟨rfl, t', ht', hR', hta2, htn2, hJ', rfl⟩ | ⟨rfl, hE⟩), rfl⟩
      · rw [List.append_nil]
        repeat' (first | refine S2b ?_ | refine SA (fun _ => ?_) | refine G1 (fun hc => ?_) (fun hc => ?_) | refine G2 (fun hc => ?_) (fun hc => ?_) | refine G3 (fun hc => ?_) (fun hc => ?_) | refine SL ?_ | fail)
        rw [i64_succ (by omega)]
        exact Fin.round ⟨i + 1, t'⟩ ⟨hi', ht', hR', hta2, htn2, hJ'⟩ envA (fun _ h => h) (by dsimp only; omega)
      · rw [List.append_nil]
        repeat' (first | refine S2b ?_ | refine SA (fun _ => ?_) | refine G1 (fun hc => ?_) (fun hc => ?_) | refine G2 (fun hc => ?_) (fun hc => ?_) | refine G3 (fun hc => ?_) (fun hc => ?_) | refine SL ?_ | fail)
        exact Fin.retW (by exact rfl) resA (fun _ h => h) (.inr hE)
    | false =>
      repeat' (first | refine S2b ?_ | refine SA (fun _ => ?_) | refine G1 (fun hc => ?_) (fun hc => ?_) | refine G2 (fun hc => ?_) (fun hc => ?_) | refine G3 (fun hc => ?_) (fun hc => ?_) | refine SL ?_ | fail)
      refine WL.e rfl (Ef.callR (c := mi.pm.H) (by exact rfl) hparts (active_tr _ mi.pm)) ?_
      rintro _ _ ⟨rfl, rfl⟩
      cases hac : Pth.active mi.pm.s with
      | true =>
        rw [hac] at hJyes
        repeat' (first | refine S2b ?_ | refine SA (fun _ => ?_) | refine G1 (fun hc => ?_) (fun hc => ?_) | refine G2 (fun hc => ?_) (fun hc => ?_) | refine G3 (fun hc => ?_) (fun hc => ?_) | refine SL ?_ | fail)
        refine WL.e rfl (Ef.callY (l := l) (vals := [.int .i64 i]) rfl (by exact rfl) (.all _) (fun hd => hJyes rfl _ (fun _ h => addF_in hd h))) ?_
        rintro _ _ ⟨H1, (⟨rfl, t', ht', hR', hta2, htn2, hJ', rfl⟩ | ⟨rfl, hE⟩), rfl⟩
        · rw [List.append_nil]
          repeat' (first | refine S2b ?_ | refine SA (fun _ => ?_) | refine G1 (fun hc => ?_) (fun hc => ?_) | refine G2 (fun hc => ?_) (fun hc => ?_) | refine G3 (fun hc => ?_) (fun hc => ?_) | refine SL ?_ | fail)
          rw [i64_succ (by omega)]
          exact Fin.round ⟨i + 1, t'⟩ ⟨hi', ht', hR', hta2, htn2, hJ'⟩ envA (fun _ h => h) (by dsimp only; omega)
        · rw [List.append_nil]
          repeat' (first | refine S2b ?_ | refine SA (fun _ => ?_) | refine G1 (fun hc => ?_) (fun hc => ?_) | refine G2 (fun hc => ?_) (fun hc => ?_) | refine G3 (fun hc => ?_) (fun hc => ?_) | refine SL ?_ | fail)
          exact Fin.retW (by exact rfl) resA (fun _ h => h) (.inr hE)
      | false =>
        rw [hac] at hJno
        repeat' (first | refine S2b ?_ | refine SA (fun _ => ?_) | refine G1 (fun hc => ?_) (fun hc => ?_) | refine G2 (fun hc => ?_) (fun hc => ?_) | refine G3 (fun hc => ?_) (fun hc => ?_) | refine SL ?_ | fail)
        rw [i64_succ (by omega), ← hHt]
        exact Fin.round ⟨i + 1, t⟩ ⟨hi', ht, hR, hta, htn, hJno rfl⟩ envA (fun _ h => h) (by dsimp only; omega)
  · have hi' : i = s.wn := by have := of_decide_eq_false hc; omega
    subst hi'
    exact Fin.endW (by exact rfl) resA (fun _ h => h) (.inl ⟨t, ht, hR, hJ, rfl⟩)
def SndNextQ (n : Nat) (s : SdM) (r : Snd.S × Option (Nat × List Flt.Dt)) (v : Value) (H : HL) : Prop := match r with
  | (S', none) => v = tup [.int .i64 0, .slice none 0 0, .bool false] ∧ ∃ s' : SdM, s'.ok n ∧ s'.R = s.R ∧ s'.S = S' ∧ H = s'.H
  | (S', some (k, l)) => ∃ (s' : SdM) (o : OuM), v = tup [.int .i64 k, .slice o.sa o.sn o.sc, .bool true] ∧ s'.ok n ∧ s'.R = s.R ∧ s'.S = S' ∧ o.ok ∧ o.L = l ∧ H = o.hb ++ (o.bb ++ s'.H)
def stepA (now : Int) (s : Snd.S) (k : Nat) : Option Snd.Go1 := some (Snd.again s k now)
def stepF (none_ : Bool) (now : Int) (s : Snd.S) (k : Nat) : Option Snd.Go1 := if none_ || Snd.activeW s k then some (Snd.fresh s k now) else none
theorem range_at {n i : Nat} (h : i < n) : List.range' i (n - i) = i :: List.range' (i + 1) (n - (i + 1)) := by
  rw [show n - i = (n - (i + 1)) + 1 by omega]
  rfl
theorem OuM.ok.nil {o : OuM} (h : o.ok) : o.L = [] ↔ o.sn = 0 := by
  have := h.len
  unfold OuM.L
  rw [List.map_eq_nil_iff, ← List.length_eq_zero_iff]
  omega
theorem snx_nil (F : Nat → Option Obj) (now : Int) : Tr Tryz.prog 12 [.pointer none, .int .i64 now].toArray F [] (fun v H => v = tup [.int .i64 0, .slice none 0 0, .bool false] ∧ H = []) := by
  refine Tr.enterM Tryz.func12 rfl Tryz.ntmps12 rfl (fun w0 => ?_)
  repeat' (first | refine S2b ?_ | refine SD ?_ | refine SA (fun _ => ?_) | refine G1 (fun hc => ?_) (fun hc => ?_) | refine G2 (fun hc => ?_) (fun hc => ?_) | refine G3 (fun hc => ?_) (fun hc => ?_) | refine SL ?_ | fail)
  exact Fin.retM0 (by exact rfl) resA (H' := []) (fun _ h => h.sublist (List.nil_sublist _)) ⟨rfl, rfl⟩
set_option maxHeartbeats 8000000 in
theorem snx_tr (F : Nat → Option Obj) {n : Nat} (s : SdM) (hs : s.ok n) (now : Int) : Tr Tryz.prog 12 [ptr s.R, .int .i64 now].toArray F s.H (SndNextQ n s (Snd.next s.S now)) := by
  refine Tr.enterM Tryz.func12 rfl Tryz.ntmps12 rfl (fun w0 => ?_)
  have hwn := hs.wn
  have hnws := hs.nws
  have hSlen : s.S.ws.length = s.ws.length := by simp [SdM.S]
  obtain ⟨rr, hrr⟩ : ∃ rr, s.R = rr := ⟨_, rfl⟩
  have hnext : Snd.next s.S now = match Snd.trySome (stepA now) now (List.range' 0 (s.wn - 0)) s.S with
      | (s1, some r) => (s1, some r)
      | (s1, none) => Snd.trySome (stepF (Snd.noneActive s1) now) now (List.range' 0 (s.wn - 0)) s1 := by
    unfold Snd.next
    rw [show List.range s.S.ws.length = List.range' 0 (s.wn - 0) by rw [List.range_eq_range', hSlen, hwn, Nat.sub_zero]]
    rfl
  rw [hnext]
  obtain ⟨c0, c1, c2, c3, c4, c5, c6, c7, c8, c9, c10, c11⟩ := s.cans (F := F)
  rw [hrr] at c0 c1 c2 c3 c4 c5 c6 c7 c8 c9 c10 c11 ⊢
  repeat' (first | refine S2b ?_ | refine SD ?_ | refine SA (fun _ => ?_) | refine G1 (fun hc => ?_) (fun hc => ?_) | refine G2 (fun hc => ?_) (fun hc => ?_) | refine G3 (fun hc => ?_) (fun hc => ?_) | refine SL ?_ | fail)
  rename_i b2 b3 b4 b5 b6
  clear c0 c1 c2 c3 c4 c5 c6 c7 c8 c9 c10 c11
  refine W.loop (G := GU) (fun g => [(2, ptr b2), (3, ptr b3), (4, ptr b4), (5, ptr b5), (6, ptr b6), (17, .int .i64 s.wn), (18, .int .i64 g.i)])
    (fun g => (b6, .cells [.bool false].toArray 4 (0, 0)) :: (b5, .cells [.slice none 0 0].toArray 38 (0, 0)) :: (b4, .cells [.int .i64 0].toArray 3 (0, 0)) :: (b3, .cells [.int .i64 now].toArray 2 (0, 0)) :: (b2, .cells [ptr rr].toArray 26 (0, 0)) :: g.s.H)
    (fun g => g.i ≤ s.wn ∧ g.s.ok n ∧ g.s.R = rr ∧ g.s.wn = s.wn ∧ Snd.trySome (stepA now) now (List.range' 0 (s.wn - 0)) s.S = Snd.trySome (stepA now) now (List.range' g.i (s.wn - g.i)) g.s.S) (fun g => s.wn - g.i) ⟨0, s⟩ ⟨Nat.zero_le _, hs, hrr, rfl, rfl⟩ envA (fun _ h => h) ?_
  rintro ⟨i, t⟩ ⟨hi, ht, hR, htn, hT⟩
  dsimp only at hi ht hR htn hT ⊢
  subst hR
  have htl := ht.wn
  repeat' (first | refine S2b ?_ | refine SA (fun _ => ?_) | refine G1 (fun hc => ?_) (fun hc => ?_) | refine G2 (fun hc => ?_) (fun hc => ?_) | refine G3 (fun hc => ?_) (fun hc => ?_) | refine SL ?_ | fail)
  · have hi' : i < s.wn := by have := of_decide_eq_true hc; omega
    refine WL.e rfl (Ef.call (c := t.H) (by exact rfl) (.skip _ (.skip _ (.skip _ (.skip _ (.skip _ (.all _)))))) (sagain_tr _ t ht i (by omega) now)) ?_
    rintro _ _ ⟨_, ⟨s', o, rfl, hs', hR', hS', ho, hoL, ⟨hwa', hwn'⟩, rfl⟩, rfl⟩
    have hnil := ho.nil
    have hs'l := hs'.wn
    have hstep : Snd.trySome (stepA now) now (List.range' i (s.wn - i)) t.S = if o.L = [] then Snd.trySome (stepA now) now (List.range' (i + 1) (s.wn - (i + 1))) s'.S else (Snd.run s'.S i now, some (i, o.L)) := by
      rw [range_at hi', Snd.trySome, show stepA now t.S i = some (Snd.again t.S i now) from rfl]
      dsimp only
      rw [← hoL, ← hS']
    refine WL.weak (H' := (b6, .cells [.bool false].toArray 4 (0, 0)) :: (b5, .cells [.slice none 0 0].toArray 38 (0, 0)) :: (b4, .cells [.int .i64 0].toArray 3 (0, 0)) :: (b3, .cells [.int .i64 now].toArray 2 (0, 0)) :: (b2, .cells [ptr t.R].toArray 26 (0, 0)) :: (o.hb ++ (o.bb ++ s'.H))) (fun _ h => In.of_sub (.pick (.right .here) (.pick (.right .here) (.pick (.right .here) (.pick (.right .here) (.pick (.right .here) (.last .here)))))) h) ?_
    repeat' (first | refine S2b ?_ | refine SA (fun _ => ?_) | refine G1 (fun hc => ?_) (fun hc => ?_) | refine G2 (fun hc => ?_) (fun hc => ?_) | refine SL ?_ | fail)
    cases hgt : decide ((o.sn : Int) > 0) with
    | true =>
      have h1 := of_decide_eq_true hgt
      rw [if_neg (fun e => by have := hnil.1 e; omega)] at hstep
      rw [hT, hstep]
      repeat' (first | refine S2b ?_ | refine SA (fun _ => ?_) | refine G1 (fun hc => ?_) (fun hc => ?_) | refine G2 (fun hc => ?_) (fun hc => ?_) | refine G3 (fun hc => ?_) (fun hc => ?_) | refine SL ?_ | fail)
      refine WL.e rfl (Ef.call (c := s'.H) (by rw [← hR']; exact rfl) (.skip _ (.skip _ (.skip _ (.skip _ (.skip _ (.skipL o.hb (.skipL o.bb (.all _)))))))) (srun_tr _ s' hs' i (by omega) now)) ?_
      rintro _ _ ⟨_, ⟨rfl, s2, hs2, rfl, hR2, hS2⟩, rfl⟩
      repeat' (first | refine S2b ?_ | refine SA (fun _ => ?_) | refine G1 (fun hc => ?_) (fun hc => ?_) | refine G2 (fun hc => ?_) (fun hc => ?_) | refine G3 (fun hc => ?_) (fun hc => ?_) | refine SL ?_ | fail)
      exact Fin.retM0 (by exact rfl) resA (H' := o.hb ++ (o.bb ++ s2.H)) (fun _ h => In.of_sub (.pickL (L := o.hb) (.right (.there (.there (.there (.there (.there .here)))))) (.pickL (L := o.bb) (.right (.there (.there (.there (.there (.there .here)))))) (.last (L := s2.H) .here))) h) ⟨s2, o, rfl, hs2, hR2.trans (hR'.trans hrr.symm), hS2, ho, rfl, rfl⟩
    | false =>
      have h1 := of_decide_eq_false hgt
      rw [if_pos (hnil.2 (by omega))] at hstep
      repeat' (first | refine S2b ?_ | refine SA (fun _ => ?_) | refine G1 (fun hc => ?_) (fun hc => ?_) | refine G2 (fun hc => ?_) (fun hc => ?_) | refine G3 (fun hc => ?_) (fun hc => ?_) | refine SL ?_ | fail)
      rw [i64_succ (by omega)]
      exact Fin.round ⟨i + 1, s'⟩ ⟨hi', hs', hR', hwn'.trans htn, hT.trans hstep⟩ envA (fun _ h => h.sublist (.cons_cons _ (.cons_cons _ (.cons_cons _ (.cons_cons _ (.cons_cons _ ((List.sublist_append_right _ _).trans (List.sublist_append_right _ _)))))))) (by dsimp only; omega)
  have hi' : i = s.wn := by have := of_decide_eq_false hc; omega
  subst hi'
  rw [hT, show s.wn - s.wn = 0 by omega]
  rw [show List.range' s.wn 0 = [] from rfl, Snd.trySome]
  dsimp only
  have hgoal : ∀ r v H, SndNextQ n t r v H → SndNextQ n s r v H := fun r v H h => by
    unfold SndNextQ at h ⊢
    rw [hrr]
    exact h
  obtain ⟨res, hres⟩ : ∃ res, Snd.trySome (stepF (Snd.noneActive t.S) now) now (List.range' 0 (s.wn - 0)) t.S = res := ⟨_, rfl⟩
  rw [hres]
  refine WL.e rfl (Ef.call (by exact rfl) (.nil _) (useful_tr _ t.R)) ?_
  rintro _ _ ⟨_, ⟨b1, rfl, rfl⟩, rfl⟩
  repeat' (first | refine S2b ?_ | refine SA (fun _ => ?_) | refine G1 (fun hc => ?_) (fun hc => ?_) | refine G2 (fun hc => ?_) (fun hc => ?_) | refine G3 (fun hc => ?_) (fun hc => ?_) | refine SL ?_ | fail)
  refine W.rangeF (gf := 69) (fv := []) (cv := [ptr b1]) rfl rfl (fun l D r hr => ?_)
  have hcall := useful1_tr F t ht l D b1 r [(b6, .cells [.bool false].toArray 4 (0, 0)), (b5, .cells [.slice none 0 0].toArray 38 (0, 0)), (b4, .cells [.int .i64 0].toArray 3 (0, 0)), (b3, .cells [.int .i64 now].toArray 2 (0, 0)), (b2, .cells [ptr t.R].toArray 26 (0, 0))] (fun i u => Snd.trySome (stepF (Snd.noneActive t.S) now) now (List.range' i (s.wn - i)) u.S = res)
    (fun H => ∃ (k : Nat) (o : OuM) (u : SdM), u.ok n ∧ u.R = t.R ∧ o.ok ∧ res = (u.S, some (k, o.L)) ∧ H = (l, .loop { r with state := .done, pending := some .ret }) :: (D, .deferred (some [])) :: (b1, .cells [ptr t.R].toArray 26 (0, 0)) :: (b6, .cells [.bool true].toArray 4 (0, 0)) :: (b5, .cells [.slice o.sa o.sn o.sc].toArray 38 (0, 0)) :: (b4, .cells [.int .i64 k].toArray 3 (0, 0)) :: (b3, .cells [.int .i64 now].toArray 2 (0, 0)) :: (b2, .cells [ptr t.R].toArray 26 (0, 0)) :: (o.hb ++ (o.bb ++ u.H)))
    (fun i u hi hu hJ hc => by
      rw [htn] at hi
      rw [range_at hi, Snd.trySome, show stepF (Snd.noneActive t.S) now u.S i = none by unfold stepF; rw [hc]; rfl] at hJ
      exact hJ)
    (fun i u hi hu hR hua hun hJ hc F' hF => by
      have hi' : i < s.wn := by rw [← htn]; exact hi
      have hul := hu.wn
      rw [range_at hi', Snd.trySome, show stepF (Snd.noneActive t.S) now u.S i = some (Snd.fresh u.S i now) by unfold stepF; rw [hc]; rfl] at hJ
      dsimp only at hJ
      refine TrY.of hr rfl (fun w h => h.own (l, .loop r) (by simp [HU])) (fun w1 => ?_)
      unfold HU
      simp only [List.cons_append, List.nil_append]
      repeat' (first | refine S2b ?_ | refine SA (fun _ => ?_) | refine G1 (fun hc => ?_) (fun hc => ?_) | refine G2 (fun hc => ?_) (fun hc => ?_) | refine G3 (fun hc => ?_) (fun hc => ?_) | refine SL ?_ | fail)
      refine Fin.begin (Foc.here _) hr.state ?_
      repeat' (first | refine S2b ?_ | refine SA (fun _ => ?_) | refine G1 (fun hc => ?_) (fun hc => ?_) | refine G2 (fun hc => ?_) (fun hc => ?_) | refine G3 (fun hc => ?_) (fun hc => ?_) | refine SL ?_ | fail)
      refine WL.e rfl (Ef.call (c := u.H) (by rw [← hR]; exact rfl) (.skip _ (.skip _ (.skip _ (.skip _ (.skip _ (.skip _ (.skip _ (.skip _ (.all _))))))))) (sfresh_tr _ u hu i (by omega) now)) ?_
      rintro _ _ ⟨_, ⟨s', o, rfl, hs', hR', hS', ho, hoL, ⟨hwa', hwn'⟩, rfl⟩, rfl⟩
      have hnil := ho.nil
      have hs'l := hs'.wn
      rw [← hoL, ← hS'] at hJ
      refine WL.weak (H' := (l, _) :: (D, .deferred (some [])) :: (b1, .cells [ptr t.R].toArray 26 (0, 0)) :: (b6, .cells [.bool false].toArray 4 (0, 0)) :: (b5, .cells [.slice none 0 0].toArray 38 (0, 0)) :: (b4, .cells [.int .i64 0].toArray 3 (0, 0)) :: (b3, .cells [.int .i64 now].toArray 2 (0, 0)) :: (b2, .cells [ptr t.R].toArray 26 (0, 0)) :: (o.hb ++ (o.bb ++ s'.H))) (fun _ h => In.of_sub (.pick (.right .here) (.pick (.right .here) (.pick (.right .here) (.pick (.right .here) (.pick (.right .here) (.pick (.right .here) (.pick (.right .here) (.pick (.right .here) (.last .here))))))))) h) ?_
      repeat' (first | refine S2b ?_ | refine SA (fun _ => ?_) | refine G1 (fun hc => ?_) (fun hc => ?_) | refine G2 (fun hc => ?_) (fun hc => ?_) | refine SL ?_ | fail)
      cases hgt : decide ((o.sn : Int) > 0) with
      | true =>
        have h1 := of_decide_eq_true hgt
        rw [if_neg (fun e => by have := hnil.1 e; omega)] at hJ
        repeat' (first | refine S2b ?_ | refine SA (fun _ => ?_) | refine G1 (fun hc => ?_) (fun hc => ?_) | refine G2 (fun hc => ?_) (fun hc => ?_) | refine G3 (fun hc => ?_) (fun hc => ?_) | refine SL ?_ | fail)
        refine WL.e rfl (Ef.call (c := s'.H) (by rw [← hR, ← hR']; exact rfl) (.skip _ (.skip _ (.skip _ (.skip _ (.skip _ (.skip _ (.skip _ (.skip _ (.skipL o.hb (.skipL o.bb (.all _))))))))))) (srun_tr _ s' hs' i (by omega) now)) ?_
        rintro _ _ ⟨_, ⟨rfl, s2, hs2, rfl, hR2, hS2⟩, rfl⟩
        repeat' (first | refine S2b ?_ | refine SA (fun _ => ?_) | refine G1 (fun hc => ?_) (fun hc => ?_) | refine G2 (fun hc => ?_) (fun hc => ?_) | refine G3 (fun hc => ?_) (fun hc => ?_) | refine SL ?_ | fail)
        refine Fin.leaves (Foc.right (Foc.here _)) (H' := (l, .loop { r with state := .done, pending := some .ret }) :: (D, .deferred (some [])) :: (b1, .cells [ptr t.R].toArray 26 (0, 0)) :: (b6, .cells [.bool true].toArray 4 (0, 0)) :: (b5, .cells [.slice o.sa o.sn o.sc].toArray 38 (0, 0)) :: (b4, .cells [.int .i64 i].toArray 3 (0, 0)) :: (b3, .cells [.int .i64 now].toArray 2 (0, 0)) :: (b2, .cells [ptr t.R].toArray 26 (0, 0)) :: (o.hb ++ (o.bb ++ s2.H))) (fun _ h => ?_) (.inr ⟨rfl, i, o, s2, hs2, hR2.trans (hR'.trans hR), ho, ?_, rfl⟩)
        · exact In.of_sub (.pick (.right .here) (.pick (.right .here) (.pick (.right .here) (.pick (.right .here) (.pick (.right .here) (.pick (.right .here) (.pick (.right .here) (.pick (.right .here) (.pickL (L := o.hb) (.right .here) (.pickL (L := o.bb) (.right .here) (.last (L := s2.H) .here))))))))))) h
        · rw [← hJ, hS2]
      | false =>
        have h1 := of_decide_eq_false hgt
        rw [if_pos (hnil.2 (by omega))] at hJ
        repeat' (first | refine S2b ?_ | refine SA (fun _ => ?_) | refine G1 (fun hc => ?_) (fun hc => ?_) | refine G2 (fun hc => ?_) (fun hc => ?_) | refine G3 (fun hc => ?_) (fun hc => ?_) | refine SL ?_ | fail)
        refine Fin.more (Foc.here _) (H' := HU l D r b1 t.R [(b6, .cells [.bool false].toArray 4 (0, 0)), (b5, .cells [.slice none 0 0].toArray 38 (0, 0)), (b4, .cells [.int .i64 0].toArray 3 (0, 0)), (b3, .cells [.int .i64 now].toArray 2 (0, 0)), (b2, .cells [ptr t.R].toArray 26 (0, 0))] s') (fun _ h => ?_) (.inl ⟨rfl, s', hs', hR'.trans hR, hwa'.trans hua, hwn'.trans hun, hJ, rfl⟩)
        simp only [hr.again] at h
        unfold HU
        simp only [List.cons_append, List.nil_append]
        exact h.sublist (.cons_cons _ (.cons_cons _ (.cons_cons _ (.cons_cons _ (.cons_cons _ (.cons_cons _ (.cons_cons _ (.cons_cons _ ((List.sublist_append_right _ _).trans (List.sublist_append_right _ _)))))))))))
    hres
  refine Tr.mono hcall ?_
  rintro _ _ (⟨u, hu, huR, hJ, rfl⟩ | ⟨k, o, u, hu, huR, ho, hrs, rfl⟩)
  · have hrn : res = (u.S, none) := by rw [← hJ, htn, show s.wn - s.wn = 0 by omega]; rfl
    unfold HU
    simp only [List.cons_append, List.nil_append]
    refine ⟨r, _, .refl _, by rw [hr.state]; simp, ?_⟩
    rw [hr.pending]
    dsimp only [Cx.marked]
    repeat' (first | refine S2b ?_ | refine SA (fun _ => ?_) | refine G1 (fun hc => ?_) (fun hc => ?_) | refine G2 (fun hc => ?_) (fun hc => ?_) | refine G3 (fun hc => ?_) (fun hc => ?_) | refine SL ?_ | fail)
    refine Fin.retM (D := D) (by exact rfl) .here resA (H' := u.H) (fun _ h => h.sublist (.cons _ (.cons _ (.cons _ (.cons _ (.cons _ (.cons _ (.refl _))))))))  ?_
    rw [hrn]
    exact ⟨rfl, u, hu, huR.trans hrr.symm, rfl, rfl⟩
  · refine ⟨{ r with state := .done, pending := some .ret }, _, .refl _, by simp, ?_⟩
    dsimp only [Cx.marked]
    repeat' (first | refine S2b ?_ | refine SA (fun _ => ?_) | refine G1 (fun hc => ?_) (fun hc => ?_) | refine G2 (fun hc => ?_) (fun hc => ?_) | refine G3 (fun hc => ?_) (fun hc => ?_) | refine SL ?_ | fail)
    refine Fin.retM (D := D) (by exact rfl) .here resA (H' := o.hb ++ (o.bb ++ u.H)) (fun _ h => h.sublist (.cons _ (.cons _ (.cons _ (.cons _ (.cons _ (.cons _ (.refl _)))))))) ?_
    rw [hrs]
    exact ⟨u, o, rfl, hu, huR.trans hrr.symm, rfl, ho, rfl, rfl⟩
end Go.Proofs.YtjfpckadjnjmoaaGreat
