/- The law's 'meant', walked: a thing is done to the document's receiver as the plain functions say. Conditions: bounds on what is held. -/
import Derived.Test.YthjglhdjlmjffaaGreatRxD
import Derived.Test.YthjglhdjlmjffaaGreatRcH
namespace Go.Proofs.YthjglhdjlmjffaaGreat
open Go Go.Sl Go.Rm

def MeantQ (r : RxM) (o : Ov) (c : Int) (bs : List UInt8) (ks : List Sk) (v : Value) (H : HL) : Prop :=
  ∃ (ma : Option Addr) (mn mc : Nat) (mb : HL) (ga : Option Addr) (gn gc : Nat) (gb : HL) (ra : Option Addr) (rn rc : Nat) (rb : HL) (r' : RxM),
    v = .agg (toldV (doM r.S o) (.slice ma mn mc) (doI r.S o c bs) (doE r.S o c bs) (doC r.S o) (doR r.S o) (.slice ga gn gc) (.slice ra rn rc)).toArray ∧
    OwnS 5 1 ((doM r.S o).bytes.map B) (.slice ma mn mc) mb ∧ OwnS 92 2 ((doG r.S o).flatMap gCells) (.slice ga gn gc) gb ∧ OwnS 24 1 ((doD r.S o).map (Value.int .u32)) (.slice ra rn rc) rb ∧
    r'.ok ∧ H = r'.H ++ (mb ++ (gb ++ rb)) ∧ r'.R = r.R ∧ r'.S = doS r.S o c bs ks
theorem MeantQ.plain {r : RxM} {o : Ov} {c : Int} {bs : List UInt8} {ks : List Sk} {r' : RxM} (h3 : o.kind ≠ 3) (h4 : o.kind ≠ 4) (hr : r'.ok) (hR : r'.R = r.R) (hS : r'.S = doS r.S o c bs ks) {v : Value} (hv : v = .agg (toldV noMg nilS (doI r.S o c bs) (doE r.S o c bs) 0 0 nilS nilS).toArray) :
    MeantQ r o c bs ks v r'.H := by
  have e1 : doM r.S o = noMg := by unfold doM; rw [if_neg h4]
  refine ⟨none, 0, 0, [], none, 0, 0, [], none, 0, 0, [], r', ?_, by rw [e1]; exact emptyS _ _, by unfold doG; rw [if_neg h3]; exact emptyS _ _, by unfold doD; rw [if_neg h3]; exact emptyS _ _, hr, by simp, hR, hS⟩
  rw [hv, e1]
  unfold doC doR
  rw [if_neg h3, if_neg h3]
  rfl
set_option maxHeartbeats 4000000 in
theorem meant_data (F : Nat → Option Obj) (o : Ov) (bs : List UInt8) (ks : List Sk) (ho : o.Is F bs ks) (c : Int) (hk : o.kind = 0) (r : RxM) (hr : r.ok) (hfew : r.w.ps.length + r.w.ms.length < 1000) (hheld : Rcv.held r.S ≤ 1048576) (hb : bs.length ≤ 32768) (hnl : r.w.nx.length ≤ 16) :
    Tr Tryz.prog 10 [.pointer (some ⟨r.R, 0, none⟩), .agg o.cells.toArray, .int .u32 c].toArray F r.H (MeantQ r o c bs ks) := by
  refine Tr.enter Tryz.func10 rfl Tryz.ntmps10 rfl (fun w0 => ?_)
  unfold Ov.cells
  rw [hk]
  repeat' (first | refine S1 ?_ | refine SD ?_ | refine SA (fun _ => ?_) | refine WL.g_split rfl rfl (fun hc => ?_) (fun hc => ?_) | refine WD.g_split rfl rfl (fun hc => ?_) (fun hc => ?_) | refine W.cond rfl (fun hc => ?_) (fun hc => ?_))
  rename_i b1 b2 b3 b4
  refine WL.e rfl (Ef.callF (by exact rfl) (.last (L := r.H) (.there (.there (.there (.there .all))))) (fun hd => xrdata_tr _ r hr (o.D c bs) o.ba o.bn o.bc ((ho.bytes.mono (fun _ h => addF_in hd h)).src) ho.bn.symm ho.stream ⟨by unfold Ov.D; dsimp only; rw [u32_eq]; omega, by unfold Ov.D; dsimp only; rw [u32_eq]; omega⟩ hfew hheld (by rw [ho.bn]; exact hb) hnl)) ?_
  rintro _ _ ⟨_, ⟨rfl, r', hr', rfl, hR', hS'⟩, rfl⟩
  dsimp only [tup]
  obtain ⟨A1, hA1⟩ : ∃ A1, Rcv.dataA r.S (o.D c bs) = A1 := ⟨_, rfl⟩
  rw [hA1]
  refine WL.weak (H' := (b4, _) :: (b3, _) :: (b2, _) :: (b1, _) :: r'.H) (fun _ h => h.perm List.perm_append_comm) ?_
  repeat' (first | refine S1 ?_ | refine SD ?_ | refine SA (fun _ => ?_) | refine WL.g_split rfl rfl (fun hc => ?_) (fun hc => ?_) | refine WD.g_split rfl rfl (fun hc => ?_) (fun hc => ?_) | refine W.cond rfl (fun hc => ?_) (fun hc => ?_))
  refine Fin.retW (by exact rfl) resA (H' := r'.H) (fun _ h => h.sublist (.cons _ (.cons _ (.cons _ (.cons _ (.refl _)))))) (MeantQ.plain (by omega) (by omega) hr' hR' (by rw [hS']; unfold doS; rw [if_pos hk]) ?_)
  unfold doI doE
  rw [if_pos hk, if_pos hk, hA1]
  rfl
set_option maxHeartbeats 4000000 in
theorem meant_fwd (F : Nat → Option Obj) (o : Ov) (bs : List UInt8) (ks : List Sk) (ho : o.Is F bs ks) (c : Int) (hk : o.kind = 1) (r : RxM) (hr : r.ok) (hmany : ks.length ≤ 1000) (h16 : nx16 r.w.nx) (hnl : r.w.nx.length ≤ 16) :
    Tr Tryz.prog 10 [.pointer (some ⟨r.R, 0, none⟩), .agg o.cells.toArray, .int .u32 c].toArray F r.H (MeantQ r o c bs ks) := by
  refine Tr.enter Tryz.func10 rfl Tryz.ntmps10 rfl (fun w0 => ?_)
  unfold Ov.cells
  rw [hk]
  repeat' (first | refine S1 ?_ | refine SD ?_ | refine SA (fun _ => ?_) | refine WL.g_split rfl rfl (fun hc => ?_) (fun hc => ?_) | refine WD.g_split rfl rfl (fun hc => ?_) (fun hc => ?_) | refine W.cond rfl (fun hc => ?_) (fun hc => ?_))
  rename_i b1 b2 b3 b4
  refine WL.weak (H' := (b3, _) :: (b2, _) :: r.H) (fun _ h => h.sublist (.cons _ (.cons_cons _ (.cons_cons _ (.cons _ (.refl _)))))) ?_
  refine WL.e rfl (Ef.callF (by exact rfl) (.last (L := r.H) (.there (.there .all))) (fun hd => xrfwd_tr _ r hr (Rm.u32 (o.cum + c)) ⟨by rw [u32_eq]; omega, by rw [u32_eq]; omega⟩ ks o.ka o.kn o.kc (ho.skips.mono (fun _ h => addF_in hd h)) ho.sks (by rw [ho.kn]; exact hmany) h16 hnl)) ?_
  rintro _ _ ⟨_, ⟨rfl, r', hr', rfl, hR', hS'⟩, rfl⟩
  obtain ⟨u, hu⟩ : ∃ u, True ∧ Rcv.inWin r.S (Rm.u32 (o.cum + c)) = u := ⟨_, trivial, rfl⟩
  rw [hu.2]
  refine WL.weak (H' := (b3, _) :: (b2, _) :: r'.H) (fun _ h => h.perm List.perm_append_comm) ?_
  repeat' (first | refine S1 ?_ | refine SD ?_ | refine SA (fun _ => ?_) | refine WL.g_split rfl rfl (fun hc => ?_) (fun hc => ?_) | refine WD.g_split rfl rfl (fun hc => ?_) (fun hc => ?_) | refine W.cond rfl (fun hc => ?_) (fun hc => ?_))
  refine Fin.retW (by exact rfl) resA (H' := r'.H) (fun _ h => h.sublist (.cons _ (.cons _ (.refl _)))) (MeantQ.plain (by omega) (by omega) hr' hR' (by rw [hS']; unfold doS; rw [if_neg (by omega), if_pos hk]) ?_)
  unfold doI doE
  rw [if_neg (by omega), if_pos hk, if_neg (by omega), hu.2]
  rfl
set_option maxHeartbeats 4000000 in
theorem meant_fin (F : Nat → Option Obj) (o : Ov) (bs : List UInt8) (ks : List Sk) (c : Int) (hk : o.kind = 2) (r : RxM) (hr : r.ok) :
    Tr Tryz.prog 10 [.pointer (some ⟨r.R, 0, none⟩), .agg o.cells.toArray, .int .u32 c].toArray F r.H (MeantQ r o c bs ks) := by
  refine Tr.enter Tryz.func10 rfl Tryz.ntmps10 rfl (fun w0 => ?_)
  unfold Ov.cells
  rw [hk]
  repeat' (first | refine S1 ?_ | refine SD ?_ | refine SA (fun _ => ?_) | refine WL.g_split rfl rfl (fun hc => ?_) (fun hc => ?_) | refine WD.g_split rfl rfl (fun hc => ?_) (fun hc => ?_) | refine W.cond rfl (fun hc => ?_) (fun hc => ?_))
  rename_i b1 b2 b3
  refine WL.e rfl (Ef.call (by exact rfl) (.last (L := r.H) (.there (.there (.there .all)))) (xrfin_tr _ r hr o.now)) ?_
  rintro _ _ ⟨_, ⟨rfl, r', hr', rfl, hR', hS', hw'⟩, rfl⟩
  refine WL.weak (H' := (b3, _) :: (b2, _) :: (b1, _) :: r'.H) (fun _ h => h.perm List.perm_append_comm) ?_
  repeat' (first | refine S1 ?_ | refine SD ?_ | refine SA (fun _ => ?_) | refine WL.g_split rfl rfl (fun hc => ?_) (fun hc => ?_) | refine WD.g_split rfl rfl (fun hc => ?_) (fun hc => ?_) | refine W.cond rfl (fun hc => ?_) (fun hc => ?_))
  refine Fin.retW (by exact rfl) resA (H' := r'.H) (fun _ h => h.sublist (.cons _ (.cons _ (.cons _ (.refl _))))) (MeantQ.plain (by omega) (by omega) hr' hR' (by rw [hS']; unfold doS; rw [if_neg (by omega), if_neg (by omega), if_pos hk]) ?_)
  unfold doI doE
  rw [if_neg (by omega), if_neg (by omega), if_neg (by omega), if_neg (by omega)]
  rfl
set_option maxHeartbeats 4000000 in
theorem meant_sack (F : Nat → Option Obj) (o : Ov) (bs : List UInt8) (ks : List Sk) (c : Int) (hk : o.kind = 3) (r : RxM) (hr : r.ok) (hmost : 0 ≤ r.most ∧ r.most ≤ 100000) (hroom : 0 ≤ r.room ∧ r.room ≤ 1048576) (hheld : Rcv.held r.S ≤ 1048576) :
    Tr Tryz.prog 10 [.pointer (some ⟨r.R, 0, none⟩), .agg o.cells.toArray, .int .u32 c].toArray F r.H (MeantQ r o c bs ks) := by
  refine Tr.enter Tryz.func10 rfl Tryz.ntmps10 rfl (fun w0 => ?_)
  unfold Ov.cells
  rw [hk]
  repeat' (first | refine S1 ?_ | refine SD ?_ | refine SA (fun _ => ?_) | refine WL.g_split rfl rfl (fun hc => ?_) (fun hc => ?_) | refine WD.g_split rfl rfl (fun hc => ?_) (fun hc => ?_) | refine W.cond rfl (fun hc => ?_) (fun hc => ?_))
  rename_i b1 b2 b3
  refine WL.e rfl (Ef.call (by exact rfl) (.last (L := r.H) (.there (.there (.there .all)))) (xrsack_tr _ r hr hmost hroom hheld)) ?_
  rintro _ _ ⟨_, ⟨r', ga, gn, gc, gb, ra, rn, rc, rb, rfl, hr', rfl, hR', hw', hS', hg, hd⟩, rfl⟩
  refine WL.weak (H' := (b3, _) :: (b2, _) :: (b1, _) :: (r'.H ++ (gb ++ rb))) (fun _ h => h.perm List.perm_append_comm) ?_
  repeat' (first | refine S1 ?_ | refine SD ?_ | refine SA (fun _ => ?_) | refine WL.g_split rfl rfl (fun hc => ?_) (fun hc => ?_) | refine WD.g_split rfl rfl (fun hc => ?_) (fun hc => ?_) | refine W.cond rfl (fun hc => ?_) (fun hc => ?_))
  have e1 : doM r.S o = noMg := by unfold doM; rw [if_neg (by omega)]
  refine Fin.retW (by exact rfl) resA (H' := r'.H ++ ([] ++ (gb ++ rb))) (fun _ h => h.sublist (.cons _ (.cons _ (.cons _ (.refl _))))) ⟨none, 0, 0, [], ga, gn, gc, gb, ra, rn, rc, rb, r', ?_, by rw [e1]; exact emptyS _ _, by unfold doG; rw [if_pos hk]; exact hg, by unfold doD; rw [if_pos hk]; exact hd, hr', rfl, hR', by rw [hS']; unfold doS; rw [if_neg (by omega), if_neg (by omega), if_neg (by omega), if_pos hk]⟩
  rw [e1]
  unfold doI doE doC doR
  rw [if_neg (by omega), if_neg (by omega), if_neg (by omega), if_neg (by omega), if_pos hk, if_pos hk]
  rfl
set_option maxHeartbeats 4000000 in
theorem meant_take (F : Nat → Option Obj) (o : Ov) (bs : List UInt8) (ks : List Sk) (c : Int) (hk : o.kind = 4) (r : RxM) (hr : r.ok) :
    Tr Tryz.prog 10 [.pointer (some ⟨r.R, 0, none⟩), .agg o.cells.toArray, .int .u32 c].toArray F r.H (MeantQ r o c bs ks) := by
  refine Tr.enter Tryz.func10 rfl Tryz.ntmps10 rfl (fun w0 => ?_)
  unfold Ov.cells
  rw [hk]
  repeat' (first | refine S1 ?_ | refine SD ?_ | refine SA (fun _ => ?_) | refine WL.g_split rfl rfl (fun hc => ?_) (fun hc => ?_) | refine WD.g_split rfl rfl (fun hc => ?_) (fun hc => ?_) | refine W.cond rfl (fun hc => ?_) (fun hc => ?_))
  rename_i b1 b2 b3
  have hS0 : doS r.S o c bs ks = Rcv.take r.S := by unfold doS; rw [if_neg (by omega), if_neg (by omega), if_neg (by omega), if_neg (by omega), if_pos hk]
  have hE : doE r.S o c bs = 0 := by unfold doE; rw [if_neg (by omega)]
  have hC : doC r.S o = 0 := by unfold doC; rw [if_neg (by omega)]
  have hRw : doR r.S o = 0 := by unfold doR; rw [if_neg (by omega)]
  have hG : doG r.S o = [] := by unfold doG; rw [if_neg (by omega)]
  have hD : doD r.S o = [] := by unfold doD; rw [if_neg (by omega)]
  refine WL.e rfl (Ef.call (by exact rfl) (.last (L := r.H) (.there (.there (.there .all)))) (xrtake_tr _ r hr)) ?_
  rintro _ _ ⟨_, (⟨hno, rfl, rfl⟩ | ⟨m, r', hm, hr', rfl, rfl, hR', hrow', hS'⟩), rfl⟩
  · have e1 : Rm.take r.S.w = (none, r.S.w) := by unfold Rm.take; rw [hno]
    have hM : doM r.S o = noMg := by unfold doM; rw [if_pos hk, e1]; rfl
    have hI : doI r.S o c bs = false := by unfold doI; rw [if_neg (by omega), if_neg (by omega), if_pos hk, e1]; rfl
    dsimp only [tup]
    refine WL.weak (H' := (b3, _) :: (b2, _) :: (b1, _) :: r.H) (fun _ h => h.perm List.perm_append_comm) ?_
    repeat' (first | refine S1 ?_ | refine SD ?_ | refine SA (fun _ => ?_) | refine WL.g_split rfl rfl (fun hc => ?_) (fun hc => ?_) | refine WD.g_split rfl rfl (fun hc => ?_) (fun hc => ?_) | refine W.cond rfl (fun hc => ?_) (fun hc => ?_))
    refine Fin.retW (by exact rfl) resA (H' := r.H) (fun _ h => h.sublist (.cons _ (.cons _ (.cons _ (.refl _))))) ⟨none, 0, 0, [], none, 0, 0, [], none, 0, 0, [], r, ?_, by rw [hM]; exact emptyS _ _, by rw [hG]; exact emptyS _ _, by rw [hD]; exact emptyS _ _, hr, by simp, rfl, by rw [hS0]; unfold Rcv.take; rw [e1]⟩
    rw [hM, hI, hE, hC, hRw]
    rfl
  · have e1 : Rm.take r.S.w = (some m.g, ⟨r.S.w.L, r'.S.w.row, r.S.w.nx⟩) := by unfold Rm.take; rw [hrow']
    have hM : doM r.S o = m.g := by unfold doM; rw [if_pos hk, e1]; rfl
    have hI : doI r.S o c bs = true := by unfold doI; rw [if_neg (by omega), if_neg (by omega), if_pos hk, e1]; rfl
    dsimp only [tup, Ms.cells, Ms.bv]
    refine WL.weak (H' := (b3, _) :: (b2, _) :: (b1, _) :: (r'.H ++ m.hb)) (fun _ h => h.perm List.perm_append_comm) ?_
    repeat' (first | refine S1 ?_ | refine SD ?_ | refine SA (fun _ => ?_) | refine WL.g_split rfl rfl (fun hc => ?_) (fun hc => ?_) | refine WD.g_split rfl rfl (fun hc => ?_) (fun hc => ?_) | refine W.cond rfl (fun hc => ?_) (fun hc => ?_))
    refine Fin.retW (by exact rfl) resA (H' := r'.H ++ (m.hb ++ ([] ++ []))) (fun _ h => by simpa using h.sublist (.cons _ (.cons _ (.cons _ (.refl _))))) ⟨m.sa, m.sn, m.sc, m.hb, none, 0, 0, [], none, 0, 0, [], r', ?_, by rw [hM]; exact hm, by rw [hG]; exact emptyS _ _, by rw [hD]; exact emptyS _ _, hr', rfl, hR', by rw [hS0, hS']⟩
    rw [hM, hI, hE, hC, hRw]
    rfl
set_option maxHeartbeats 4000000 in
theorem meant_none (F : Nat → Option Obj) (o : Ov) (bs : List UInt8) (ks : List Sk) (c : Int) (h0 : o.kind ≠ 0) (h1 : o.kind ≠ 1) (h2 : o.kind ≠ 2) (h3 : o.kind ≠ 3) (h4 : o.kind ≠ 4) (r : RxM) (hr : r.ok) :
    Tr Tryz.prog 10 [.pointer (some ⟨r.R, 0, none⟩), .agg o.cells.toArray, .int .u32 c].toArray F r.H (MeantQ r o c bs ks) := by
  refine Tr.enter Tryz.func10 rfl Tryz.ntmps10 rfl (fun w0 => ?_)
  unfold Ov.cells
  repeat' (first | refine S1 ?_ | refine SD ?_ | refine SA (fun _ => ?_) | refine WL.g_split rfl rfl (fun hc => ?_) (fun hc => ?_) | refine WD.g_split rfl rfl (fun hc => ?_) (fun hc => ?_) | refine W.cond rfl (fun hc => ?_) (fun hc => ?_))
  · exact absurd (by simpa using hc) h0
  · exact absurd (by simpa using hc) h1
  · exact absurd (by simpa using hc) h2
  · exact absurd (by simpa using hc) h3
  · exact absurd (by simpa using hc) h4
  · refine Fin.retW (by exact rfl) resA (H' := r.H) (fun _ h => h.sublist (.cons _ (.cons _ (.cons _ (.refl _))))) (MeantQ.plain h3 h4 hr rfl (by unfold doS; rw [if_neg h0, if_neg h1, if_neg h2, if_neg h3, if_neg h4]) ?_)
    unfold doI doE
    rw [if_neg h0, if_neg h1, if_neg h4, if_neg h0]
    rfl
theorem meant_tr (F : Nat → Option Obj) (o : Ov) (bs : List UInt8) (ks : List Sk) (ho : o.Is F bs ks) (c : Int) (r : RxM) (hr : r.ok) (hfew : r.w.ps.length + r.w.ms.length < 1000) (hheld : Rcv.held r.S ≤ 1048576) (hmost : 0 ≤ r.most ∧ r.most ≤ 100000) (hroom : 0 ≤ r.room ∧ r.room ≤ 1048576) (hb : bs.length ≤ 32768) (hmany : ks.length ≤ 1000) (h16 : nx16 r.w.nx) (hnl : r.w.nx.length ≤ 16) :
    Tr Tryz.prog 10 [.pointer (some ⟨r.R, 0, none⟩), .agg o.cells.toArray, .int .u32 c].toArray F r.H (MeantQ r o c bs ks) := by
  by_cases h0 : o.kind = 0
  · exact meant_data F o bs ks ho c h0 r hr hfew hheld hb hnl
  by_cases h1 : o.kind = 1
  · exact meant_fwd F o bs ks ho c h1 r hr hmany h16 hnl
  by_cases h2 : o.kind = 2
  · exact meant_fin F o bs ks c h2 r hr
  by_cases h3 : o.kind = 3
  · exact meant_sack F o bs ks c h3 r hr hmost hroom hheld
  by_cases h4 : o.kind = 4
  · exact meant_take F o bs ks c h4 r hr
  · exact meant_none F o bs ks c h0 h1 h2 h3 h4 r hr
end Go.Proofs.YthjglhdjlmjffaaGreat
