/- The law RecvqPlays, walked: it answers true. Conditions: the things done are in memory. -/
import Derived.Test.YthjglhdjlmjffaaGreatRxE
import Derived.Test.YthjglhdjlmjffaaGreatRcS
import Derived.Test.YthjglhdjlmjffaaGreatRcE
import Derived.Test.YthjglhdjlmjffaaGreatRmM2
namespace Go.Proofs.YthjglhdjlmjffaaGreat
open Go Go.Sl Go.Rm

theorem Ov.Is.mono {F F' : Nat → Option Obj} {o : Ov} {bs : List UInt8} {ks : List Sk} (h : o.Is F bs ks) (hw : ∀ w, In F' [] w → In F [] w) : o.Is F' bs ks := ⟨h.bytes.mono hw, h.skips.mono hw, h.tsn, h.stream, h.cum, h.sks⟩
theorem vast_len {l : List Ov} (h : vast l = false) : l.length ≤ 80 := by
  unfold vast at h
  simp at h
  omega
theorem vastG_in : ∀ (l : List Ov) (n k : Int), 0 ≤ n → 0 ≤ k → vastG l n k = false → ∀ o ∈ l, o.bn ≤ 32768 ∧ o.kn ≤ 12
  | [], _, _, _, _, _ => fun _ h => by cases h
  | o :: l, n, k, hn, hk, h => by
    rw [vastG] at h
    split at h
    · cases h
    · rename_i hno
      intro p hp
      rcases List.mem_cons.1 hp with rfl | hp
      · omega
      · exact vastG_in l _ _ (by omega) (by omega) h p hp
theorem vast_in {l : List Ov} (h : vast l = false) : ∀ o ∈ l, o.bn ≤ 32768 ∧ o.kn ≤ 12 := by
  refine vastG_in l 0 0 (by omega) (by omega) ?_
  unfold vast at h
  simp at h
  exact h.2
theorem sameMg_self (m : Mg) : sameMg m m = true := by simp [sameMg]
structure PyG where
  i : Nat
  r : RcM
  x : RxM
set_option maxHeartbeats 8000000 in
theorem playsLaw_tr (F : Nat → Option Obj) (c : Cfg) (first : Int) (l : List Opm) (ka : Option Addr) (kn kc : Nat) (hl : Lst F [] 11 (l.flatMap Opm.cells) ka kn kc) (hop : ∀ p ∈ l, p.Is F) :
    Tr Tryz.prog 3 [.agg c.cells.toArray, .int .u32 first, .slice ka kn kc].toArray F [] (fun v H => v = .bool true ∧ H = []) := by
  refine Tr.enter Tryz.func3 rfl Tryz.ntmps3 rfl (fun w0 => ?_)
  have hkn : kn = l.length := by have := hl.len; rw [flat_len' Opm.cells 11 (fun _ => rfl)] at this; omega
  have hl2 : Lst F [] 11 ((l.map (·.o)).flatMap Ov.cells) ka kn kc := by rw [List.flatMap_map]; exact hl
  unfold Cfg.cells
  repeat' (first | refine S1 ?_ | refine SD ?_ | refine SA (fun _ => ?_) | refine WL.g_split rfl rfl (fun hc => ?_) (fun hc => ?_) | refine WD.g_split rfl rfl (fun hc => ?_) (fun hc => ?_) | refine W.cond rfl (fun hc => ?_) (fun hc => ?_))
  refine WL.e rfl (Ef.callFR (by exact rfl) (.nil _) (fun hd => vast_tr _ [] (l.map (·.o)) ka kn kc (hl2.mono (fun _ h => addF_in hd h)))) ?_
  rintro _ _ ⟨rfl, rfl⟩
  obtain ⟨va, hva⟩ : ∃ va, True ∧ vast (l.map (·.o)) = va := ⟨_, trivial, rfl⟩
  rw [hva.2]
  repeat' (first | refine S1 ?_ | refine SD ?_ | refine SA (fun _ => ?_) | refine WL.g_split rfl rfl (fun hc => ?_) (fun hc => ?_) | refine WD.g_split rfl rfl (fun hc => ?_) (fun hc => ?_) | refine W.cond rfl (fun hc => ?_) (fun hc => ?_))
  ·
    refine WL.e rfl (Ef.callR (by exact rfl) (.nil _) (works_tr _)) ?_
    rintro _ _ ⟨rfl, rfl⟩
    repeat' (first | refine S1 ?_ | refine SD ?_ | refine SA (fun _ => ?_) | refine WL.g_split rfl rfl (fun hc => ?_) (fun hc => ?_) | refine WD.g_split rfl rfl (fun hc => ?_) (fun hc => ?_) | refine W.cond rfl (fun hc => ?_) (fun hc => ?_))
    exact Fin.retW (by exact rfl) resA (fun _ h => h.sublist (List.nil_sublist _)) ⟨rfl, rfl⟩
  have hvf : vast (l.map (·.o)) = false := hva.2.trans hc
  have h80 : kn ≤ 80 := by have := vast_len hvf; rw [List.length_map] at this; omega
  clear hc hva
  refine WL.e rfl (Ef.call (by exact rfl) (.nil _) (rnew_tr _ c first)) ?_
  rintro _ _ ⟨_, (⟨hno, rfl, rfl⟩ | ⟨hyes, r0, hr0, rfl, rfl, hS0, ht0⟩), rfl⟩
  · dsimp only [tup]
    repeat' (first | refine S1 ?_ | refine SD ?_ | refine SA (fun _ => ?_) | refine WL.g_split rfl rfl (fun hc => ?_) (fun hc => ?_) | refine WD.g_split rfl rfl (fun hc => ?_) (fun hc => ?_) | refine W.cond rfl (fun hc => ?_) (fun hc => ?_))
    refine WL.e rfl (Ef.call (by exact rfl) (.nil _) (xrnew_tr _ c first)) ?_
    rintro _ _ ⟨_, (⟨_, rfl, rfl⟩ | ⟨hyes, _⟩), rfl⟩
    rotate_left
    · exact absurd hyes hno
    dsimp only [tup]
    repeat' (first | refine S1 ?_ | refine SD ?_ | refine SA (fun _ => ?_) | refine WL.g_split rfl rfl (fun hc => ?_) (fun hc => ?_) | refine WD.g_split rfl rfl (fun hc => ?_) (fun hc => ?_) | refine W.cond rfl (fun hc => ?_) (fun hc => ?_))
    refine WL.e rfl (Ef.callR (by exact rfl) (.nil _) (works_tr _)) ?_
    rintro _ _ ⟨rfl, rfl⟩
    repeat' (first | refine S1 ?_ | refine SD ?_ | refine SA (fun _ => ?_) | refine WL.g_split rfl rfl (fun hc => ?_) (fun hc => ?_) | refine WD.g_split rfl rfl (fun hc => ?_) (fun hc => ?_) | refine W.cond rfl (fun hc => ?_) (fun hc => ?_))
    exact Fin.retW (by exact rfl) resA (fun _ h => h.sublist (List.nil_sublist _)) ⟨rfl, rfl⟩
  dsimp only [tup]
  repeat' (first | refine S1 ?_ | refine SD ?_ | refine SA (fun _ => ?_) | refine WL.g_split rfl rfl (fun hc => ?_) (fun hc => ?_) | refine WD.g_split rfl rfl (fun hc => ?_) (fun hc => ?_) | refine W.cond rfl (fun hc => ?_) (fun hc => ?_))
  refine WL.e rfl (Ef.call (by exact rfl) (.nil _) (xrnew_tr _ c first)) ?_
  rintro _ _ ⟨_, (⟨hno, _⟩ | ⟨_, x0, hx0, rfl, rfl, hX0⟩), rfl⟩
  · exact absurd hyes hno
  dsimp only [tup]
  repeat' (first | refine S1 ?_ | refine SD ?_ | refine SA (fun _ => ?_) | refine WL.g_split rfl rfl (fun hc => ?_) (fun hc => ?_) | refine WD.g_split rfl rfl (fun hc => ?_) (fun hc => ?_) | refine W.cond rfl (fun hc => ?_) (fun hc => ?_))
  refine W.loop (G := PyG) (fun g => [(2, .slice ka kn kc), (7, .pointer (some ⟨r0.R, 0, none⟩)), (9, .pointer (some ⟨x0.R, 0, none⟩)), (11, .int .i64 g.i)]) (fun g => g.r.H ++ g.x.H)
    (fun g => g.i ≤ kn ∧ g.r.ok ∧ g.x.ok ∧ g.r.R = r0.R ∧ g.x.R = x0.R ∧ g.x.S = g.r.S ∧ g.r.w.turns ≤ g.i) (fun g => kn - g.i) ⟨0, r0, x0⟩ ⟨Nat.zero_le _, hr0, hx0, rfl, rfl, hX0.trans hS0.symm, by rw [ht0]; exact Int.le_refl _⟩ envA (fun _ h => In.of_sub (.pickL (L := r0.H) (.right .here) (.last (L := x0.H) .here)) h) ?_
  rintro ⟨i, r, x⟩ ⟨hi, hr, hx, hR, hX, hxr, hturn⟩
  dsimp only at hi hr hx hR hX hxr hturn ⊢
  repeat' (first | refine S1 ?_ | refine SA (fun _ => ?_) | refine WL.g_split rfl rfl (fun hc => ?_) (fun hc => ?_) | refine WD.g_split rfl rfl (fun hc => ?_) (fun hc => ?_) | refine W.cond rfl (fun hc => ?_) (fun hc => ?_))
  rotate_left
  ·
    refine WL.e rfl (Ef.callR (by exact rfl) (.nil _) (works_tr _)) ?_
    rintro _ _ ⟨rfl, rfl⟩
    repeat' (first | refine S1 ?_ | refine SD ?_ | refine SA (fun _ => ?_) | refine WL.g_split rfl rfl (fun hc => ?_) (fun hc => ?_) | refine WD.g_split rfl rfl (fun hc => ?_) (fun hc => ?_) | refine W.cond rfl (fun hc => ?_) (fun hc => ?_))
    exact Fin.retW (by exact rfl) resA (fun _ h => h.sublist (List.nil_sublist _)) ⟨rfl, rfl⟩
  have hi' : i < kn := by simp at hc; omega
  clear hc
  rw [← hR, ← hX]
  obtain ⟨p, hp⟩ : ∃ p, l[i]? = some p := ⟨l[i]'(by omega), by simp⟩
  have hpI := hop p (List.mem_of_getElem? hp)
  have hpo : p.o.bn ≤ 32768 ∧ p.o.kn ≤ 12 := vast_in hvf p.o (List.mem_map.2 ⟨p, List.mem_of_getElem? hp, rfl⟩)
  have hpb := hpI.bn
  have hpk := hpI.kn
  obtain ⟨b, off, rfl, hcan⟩ := hl.can (by omega)
  have hsub := hcan.sub (i * 11) 11
  rw [flat_at Opm.cells 11 (fun _ => rfl) l i p hp] at hsub
  have hia : 0 ≤ (i : Int) ∧ (i : Int) < kn := by omega
  have hCn : Sl.Can F [] b (off + (i : Int).toNat * 11 + 10) [.int .i64 p.o.now] := by have := hsub.one (i := 10) (v := .int .i64 p.o.now) rfl; simpa using this
  have hCo : Sl.Can F [] b (off + (i : Int).toNat * 11) p.o.cells := by have e : p.cells = p.o.cells := rfl; rw [← e]; simpa using hsub
  refine WL.e rfl (Ef.callR (c := x.H) (by exact rfl) (.last (.right .all)) (xrcum_tr _ x)) ?_
  rintro _ _ ⟨rfl, rfl⟩
  rw [hxr]
  repeat' (first | refine S1 ?_ | refine SD ?_ | refine SA (fun _ => ?_) | refine WL.g_split rfl rfl (fun hc => ?_) (fun hc => ?_) | refine WD.g_split rfl rfl (fun hc => ?_) (fun hc => ?_) | refine W.cond rfl (fun hc => ?_) (fun hc => ?_))
  refine WL.e rfl (Ef.callF (c := r.H) (by exact rfl) (.last .here) (fun hd => does_tr _ p.o p.bs p.ks (hpI.mono (fun _ h => addF_in hd h)) r.S.m.b r hr (by omega) (by omega) (by omega))) ?_
  rintro _ _ ⟨_, ⟨ma, mn, mc, mb, ga, gn, gc, gb, ra, rn, rc, rb, r', rfl, hmo, hgo, hdo, hr', rfl, hR', ht', hS'⟩, rfl⟩
  unfold toldV
  repeat' (first | refine S1 ?_ | refine SD ?_ | refine SA (fun _ => ?_) | refine WL.g_split rfl rfl (fun hc => ?_) (fun hc => ?_) | refine WD.g_split rfl rfl (fun hc => ?_) (fun hc => ?_) | refine W.cond rfl (fun hc => ?_) (fun hc => ?_))
  have hw : x.w.S = r.w.S := congrArg Rcv.S.w hxr
  have hpsl : x.w.ps.length = r.S.w.L.length := by have := congrArg (fun q : Rm.S => q.L.length) hw; simpa [RF.S, RF.L, RcM.S] using this
  have hmsl : x.w.ms.length = r.S.w.row.length := by have := congrArg (fun q : Rm.S => q.row.length) hw; simpa [RF.S, RF.row, RcM.S] using this
  have hxnx : x.w.nx = r.w.nx := congrArg Rm.S.nx hw
  have hfew := hr.w.few
  have hfit := hr.fit
  have hroom := hr.room
  have hmost := hr.most
  have hxm : x.most = r.most := congrArg Rcv.S.most hxr
  have hxo : x.room = r.room := congrArg Rcv.S.room hxr
  refine WL.e rfl (Ef.callF (c := x.H) (by exact rfl) (.last (.there (.right .all))) (fun hd => meant_tr _ p.o p.bs p.ks (hpI.mono (fun _ h => addF_in hd h)) r.S.m.b x hx (by rw [hpsl, hmsl]; simp only [RcM.S, RM.S, RM.L, RM.row, List.length_map]; omega) (by rw [hxr]; omega) (by omega) (by omega) (by omega) (by omega) (by rw [hxnx]; exact hr.n16) (by rw [hxnx]; exact hr.nl))) ?_
  rintro _ _ ⟨_, ⟨na, nn, nc, nb, ya, yn, yc, yb, za, zn, zc, zb, x', rfl, hmo2, hgo2, hdo2, hx', rfl, hX', hXS'⟩, rfl⟩
  rw [hxr] at hmo2 hgo2 hdo2 hXS' ⊢
  have hxr' : x'.S = r'.S := hXS'.trans hS'.symm
  obtain ⟨I, hI⟩ : ∃ I, doI r.S p.o r.S.m.b p.bs = I := ⟨_, rfl⟩
  obtain ⟨E, hE⟩ : ∃ E, doE r.S p.o r.S.m.b p.bs = E := ⟨_, rfl⟩
  obtain ⟨C, hC⟩ : ∃ C, doC r.S p.o = C := ⟨_, rfl⟩
  obtain ⟨Rw, hRw⟩ : ∃ Rw, doR r.S p.o = Rw := ⟨_, rfl⟩
  rw [hI, hE, hC, hRw]
  unfold toldV
  rw [List.append_assoc]
  repeat' (first | refine S1 ?_ | refine SD ?_ | refine SA (fun _ => ?_) | refine WL.g_split rfl rfl (fun hc => ?_) (fun hc => ?_) | refine WD.g_split rfl rfl (fun hc => ?_) (fun hc => ?_) | refine W.cond rfl (fun hc => ?_) (fun hc => ?_))
  · exfalso; simp at hc
  · exfalso; simp at hc
  rename_i b1 b2 _
  refine WL.weak (H' := (b2, _) :: (b1, _) :: (r'.H ++ (x'.H ++ (mb ++ (gb ++ (rb ++ (nb ++ (yb ++ zb)))))))) (fun _ h => by
    rw [List.append_nil, List.append_assoc nb, List.append_assoc yb] at h
    exact In.of_sub (.pick .here (.pick (.right (.right (.right (.right .here)))) (.pickL (L := r'.H) (.right (.right (.right (.right .here)))) (.pickL (L := x'.H) .here (.pickL (L := mb) (.right (.right (.right .here))) (.pickL (L := gb) (.right (.right (.right .here))) (.pickL (L := rb) (.right (.right (.right .all))) (.pickL (L := nb) .here (.pickL (L := yb) .here (.last (L := zb) .here)))))))))) h) ?_
  have f1 : ∀ {Y : HL} {p1 p2 : Nat × Obj} {w : World} {F' : Nat → Option Obj}, Y.Sublist (mb ++ (gb ++ (rb ++ (nb ++ (yb ++ zb))))) → In F' (p1 :: p2 :: (r'.H ++ (x'.H ++ (mb ++ (gb ++ (rb ++ (nb ++ (yb ++ zb)))))))) w → In F' Y w := fun hY h => h.sublist (.cons _ (.cons _ (hY.trans ((List.sublist_append_right x'.H _).trans (List.sublist_append_right r'.H _)))))
  refine WL.e rfl (Ef.lookR (by exact rfl) (fun F' hF => msgSame_tr F' [] (doM r.S p.o) (doM r.S p.o) (.slice ma mn mc) (.slice na nn nc) rfl rfl (OwnS.srcB (F := F) hmo (fun w h => f1 findA (hF w h))) (OwnS.srcB (F := F) hmo2 (fun w h => f1 findA (hF w h))))) ?_
  rintro _ _ ⟨rfl, rfl⟩
  rw [sameMg_self]
  repeat' (first | refine S1 ?_ | refine SD ?_ | refine SA (fun _ => ?_) | refine WL.g_split rfl rfl (fun hc => ?_) (fun hc => ?_) | refine WD.g_split rfl rfl (fun hc => ?_) (fun hc => ?_) | refine W.cond rfl (fun hc => ?_) (fun hc => ?_))
  refine WL.e rfl (Ef.lookR (by exact rfl) (fun F' hF => sackSame_tr F' C Rw C Rw (doG r.S p.o) (doG r.S p.o) (doD r.S p.o) (doD r.S p.o) ga gn gc ya yn yc ra rn rc za zn zc
    ((Lst.own (F := F) (H := gb) hgo (fun _ h => h)).mono (fun w h => f1 findA (hF w h))) ((Lst.own (F := F) (H := yb) hgo2 (fun _ h => h)).mono (fun w h => f1 findA (hF w h)))
    ((Lst.own (F := F) (H := rb) hdo (fun _ h => h)).mono (fun w h => f1 findA (hF w h))) ((Lst.own (F := F) (H := zb) hdo2 (fun _ h => h)).mono (fun w h => f1 findA (hF w h)))
    (by unfold doG; split; exact Nat.le_trans (Rcv.sGaps_le r.S) (by show r.most.toNat ≤ _; omega); exact Nat.zero_le _) (by unfold doD; split; exact Nat.le_trans (List.length_take_le _ _) (by show (r.most - _).toNat ≤ _; omega); exact Nat.zero_le _))) ?_
  rintro _ _ ⟨rfl, rfl⟩
  rw [decide_eq_true (show C = C ∧ Rw = Rw ∧ doG r.S p.o = doG r.S p.o ∧ doD r.S p.o = doD r.S p.o from ⟨rfl, rfl, rfl, rfl⟩)]
  refine WL.weak (H' := r'.H ++ x'.H) (fun _ h => In.of_sub (.pickL (L := r'.H) (.there (.there .here)) (.last (L := x'.H) (.there (.there .here)))) h) ?_
  clear f1
  rw [← hR', ← hX']
  repeat' (first | refine S1 ?_ | refine SD ?_ | refine SA (fun _ => ?_) | refine WL.g_split rfl rfl (fun hc => ?_) (fun hc => ?_) | refine WD.g_split rfl rfl (fun hc => ?_) (fun hc => ?_) | refine W.cond rfl (fun hc => ?_) (fun hc => ?_))
  refine WL.e rfl (Ef.callR (c := r'.H) (by exact rfl) (.last .here) (rwhen_tr _ r' hr')) ?_
  rintro _ _ ⟨rfl, rfl⟩
  dsimp only [tup]
  repeat' (first | refine S1 ?_ | refine SD ?_ | refine SA (fun _ => ?_) | refine WL.g_split rfl rfl (fun hc => ?_) (fun hc => ?_) | refine WD.g_split rfl rfl (fun hc => ?_) (fun hc => ?_) | refine W.cond rfl (fun hc => ?_) (fun hc => ?_))
  refine WL.e rfl (Ef.callR (c := x'.H) (by exact rfl) (.last (.right .all)) (xrwhen_tr _ x' hx')) ?_
  rintro _ _ ⟨rfl, rfl⟩
  dsimp only [tup]
  rw [hxr']
  obtain ⟨Da, hDa⟩ : ∃ Da, Del.dueAt r'.S.d = Da := ⟨_, rfl⟩
  rw [hDa]
  repeat' (first | refine S1 ?_ | refine SD ?_ | refine SA (fun _ => ?_) | refine WL.g_split rfl rfl (fun hc => ?_) (fun hc => ?_) | refine WD.g_split rfl rfl (fun hc => ?_) (fun hc => ?_) | refine W.cond rfl (fun hc => ?_) (fun hc => ?_))
  refine WD.e rfl (Ef.callR (c := r'.H) (by exact rfl) (.last .here) (rcum_tr _ r')) ?_
  rintro _ _ ⟨rfl, rfl⟩
  refine ⟨.inr (fun _ h => h), ?_⟩
  repeat' (first | refine S1 ?_ | refine SD ?_ | refine SA (fun _ => ?_) | refine WL.g_split rfl rfl (fun hc => ?_) (fun hc => ?_) | refine WD.g_split rfl rfl (fun hc => ?_) (fun hc => ?_) | refine W.cond rfl (fun hc => ?_) (fun hc => ?_))
  refine WD.e rfl (Ef.callR (c := x'.H) (by exact rfl) (.last (.right .all)) (xrcum_tr _ x')) ?_
  rintro _ _ ⟨rfl, rfl⟩
  refine ⟨.inr (fun _ h => h), ?_⟩
  rw [hxr']
  repeat' (first | refine S1 ?_ | refine SD ?_ | refine SA (fun _ => ?_) | refine WL.g_split rfl rfl (fun hc => ?_) (fun hc => ?_) | refine WD.g_split rfl rfl (fun hc => ?_) (fun hc => ?_) | refine W.cond rfl (fun hc => ?_) (fun hc => ?_))
  · exfalso; simp at hc
  refine WD.e rfl (Ef.callR (c := r'.H) (by exact rfl) (.last .here) (cheld_tr _ r' hr')) ?_
  rintro _ _ ⟨rfl, rfl⟩
  refine ⟨.inr (fun _ h => h), ?_⟩
  repeat' (first | refine S1 ?_ | refine SD ?_ | refine SA (fun _ => ?_) | refine WL.g_split rfl rfl (fun hc => ?_) (fun hc => ?_) | refine WD.g_split rfl rfl (fun hc => ?_) (fun hc => ?_) | refine W.cond rfl (fun hc => ?_) (fun hc => ?_))
  refine WD.e rfl (Ef.callR (c := x'.H) (by exact rfl) (.last (.right .all)) (xrheld_tr _ x' hx')) ?_
  rintro _ _ ⟨rfl, rfl⟩
  refine ⟨.inr (fun _ h => h), ?_⟩
  rw [hxr']
  repeat' (first | refine S1 ?_ | refine SD ?_ | refine SA (fun _ => ?_) | refine WL.g_split rfl rfl (fun hc => ?_) (fun hc => ?_) | refine WD.g_split rfl rfl (fun hc => ?_) (fun hc => ?_) | refine W.cond rfl (fun hc => ?_) (fun hc => ?_))
  · exfalso; simp at hc
  refine WD.e rfl (Ef.callR (c := r'.H) (by exact rfl) (.last .here) (cready_tr _ r' hr')) ?_
  rintro _ _ ⟨rfl, rfl⟩
  refine ⟨.inr (fun _ h => h), ?_⟩
  repeat' (first | refine S1 ?_ | refine SD ?_ | refine SA (fun _ => ?_) | refine WL.g_split rfl rfl (fun hc => ?_) (fun hc => ?_) | refine WD.g_split rfl rfl (fun hc => ?_) (fun hc => ?_) | refine W.cond rfl (fun hc => ?_) (fun hc => ?_))
  refine WD.e rfl (Ef.callR (c := x'.H) (by exact rfl) (.last (.right .all)) (xrready_tr _ x' hx')) ?_
  rintro _ _ ⟨rfl, rfl⟩
  refine ⟨.inr (fun _ h => h), ?_⟩
  rw [hxr']
  repeat' (first | refine S1 ?_ | refine SD ?_ | refine SA (fun _ => ?_) | refine WL.g_split rfl rfl (fun hc => ?_) (fun hc => ?_) | refine WD.g_split rfl rfl (fun hc => ?_) (fun hc => ?_) | refine W.cond rfl (fun hc => ?_) (fun hc => ?_))
  · exfalso; simp at hc
  · exfalso; simp at hc
  · exfalso; simp at hc
  refine WD.e rfl (Ef.callR (c := r'.H) (by exact rfl) (.last .here) (rdue_tr _ r' hr' p.o.now)) ?_
  rintro _ _ ⟨rfl, rfl⟩
  refine ⟨.inr (fun _ h => h), ?_⟩
  repeat' (first | refine S1 ?_ | refine SD ?_ | refine SA (fun _ => ?_) | refine WL.g_split rfl rfl (fun hc => ?_) (fun hc => ?_) | refine WD.g_split rfl rfl (fun hc => ?_) (fun hc => ?_) | refine W.cond rfl (fun hc => ?_) (fun hc => ?_))
  refine WD.e rfl (Ef.callR (c := x'.H) (by exact rfl) (.last (.right .all)) (xrdue_tr _ x' hx' p.o.now)) ?_
  rintro _ _ ⟨rfl, rfl⟩
  refine ⟨.inr (fun _ h => h), ?_⟩
  rw [hxr']
  repeat' (first | refine S1 ?_ | refine SD ?_ | refine SA (fun _ => ?_) | refine WL.g_split rfl rfl (fun hc => ?_) (fun hc => ?_) | refine WD.g_split rfl rfl (fun hc => ?_) (fun hc => ?_) | refine W.cond rfl (fun hc => ?_) (fun hc => ?_))
  · exfalso; simp at hc
  rw [i64_succ (by omega)]
  exact Fin.round ⟨i + 1, r', x'⟩ ⟨hi', hr', hx', rfl, rfl, hxr', by dsimp only; omega⟩ envA (fun _ h => h) (by dsimp only; omega)
end Go.Proofs.YthjglhdjlmjffaaGreat
