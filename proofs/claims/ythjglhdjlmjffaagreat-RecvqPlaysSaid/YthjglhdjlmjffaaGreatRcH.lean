/- The law's 'does', walked: a thing is done to the receiver as the plain functions say. Conditions: bounds on what is held. -/
import Derived.Test.YthjglhdjlmjffaaGreatRcF
namespace Go.Proofs.YthjglhdjlmjffaaGreat
open Go Go.Sl Go.Rm

/-- what a thing done answers, and what it leaves -/
def doM (s : Rcv.S) (o : Ov) : Mg := if o.kind = 4 then ((Rm.take s.w).1).getD noMg else noMg
def doI (s : Rcv.S) (o : Ov) (c : Int) (bs : List UInt8) : Bool := if o.kind = 0 then (Rcv.dataA s (o.D c bs)).1 else if o.kind = 1 then Rcv.inWin s (Rm.u32 (o.cum + c)) else if o.kind = 4 then ((Rm.take s.w).1).isSome else false
def doE (s : Rcv.S) (o : Ov) (c : Int) (bs : List UInt8) : Int := if o.kind = 0 then (Rcv.dataA s (o.D c bs)).2 else 0
def doC (s : Rcv.S) (o : Ov) : Int := if o.kind = 3 then s.m.b else 0
def doR (s : Rcv.S) (o : Ov) : Int := if o.kind = 3 then Rcv.sRoom s else 0
def doG (s : Rcv.S) (o : Ov) : List (Nat × Nat) := if o.kind = 3 then Rcv.sGaps s else []
def doD (s : Rcv.S) (o : Ov) : List Int := if o.kind = 3 then Rcv.sDups s else []
def doS (s : Rcv.S) (o : Ov) (c : Int) (bs : List UInt8) (ks : List Sk) : Rcv.S :=
  if o.kind = 0 then Rcv.data s (o.D c bs) else if o.kind = 1 then Rcv.forward s (Rm.u32 (o.cum + c)) ks else if o.kind = 2 then Rcv.fin s o.now else if o.kind = 3 then Rcv.sack s else if o.kind = 4 then Rcv.take s else s
def DoesQ (r : RcM) (o : Ov) (c : Int) (bs : List UInt8) (ks : List Sk) (v : Value) (H : HL) : Prop :=
  ∃ (ma : Option Addr) (mn mc : Nat) (mb : HL) (ga : Option Addr) (gn gc : Nat) (gb : HL) (ra : Option Addr) (rn rc : Nat) (rb : HL) (r' : RcM),
    v = .agg (toldV (doM r.S o) (.slice ma mn mc) (doI r.S o c bs) (doE r.S o c bs) (doC r.S o) (doR r.S o) (.slice ga gn gc) (.slice ra rn rc)).toArray ∧
    OwnS 5 1 ((doM r.S o).bytes.map B) (.slice ma mn mc) mb ∧ OwnS 92 2 ((doG r.S o).flatMap gCells) (.slice ga gn gc) gb ∧ OwnS 24 1 ((doD r.S o).map (Value.int .u32)) (.slice ra rn rc) rb ∧
    r'.ok ∧ H = r'.H ++ (mb ++ (gb ++ rb)) ∧ r'.R = r.R ∧ r'.w.turns ≤ r.w.turns + 1 ∧ r'.S = doS r.S o c bs ks
theorem emptyS (E sz : Nat) : OwnS E sz [] (.slice none 0 0) [] := .inl ⟨rfl, rfl, rfl⟩
theorem DoesQ.plain {r : RcM} {o : Ov} {c : Int} {bs : List UInt8} {ks : List Sk} {r' : RcM} (h3 : o.kind ≠ 3) (h4 : o.kind ≠ 4) (hr : r'.ok) (hR : r'.R = r.R) (ht : r'.w.turns ≤ r.w.turns + 1) (hS : r'.S = doS r.S o c bs ks) {v : Value} (hv : v = .agg (toldV noMg nilS (doI r.S o c bs) (doE r.S o c bs) 0 0 nilS nilS).toArray) :
    DoesQ r o c bs ks v r'.H := by
  have e1 : doM r.S o = noMg := by unfold doM; rw [if_neg h4]
  refine ⟨none, 0, 0, [], none, 0, 0, [], none, 0, 0, [], r', ?_, by rw [e1]; exact emptyS _ _, by unfold doG; rw [if_neg h3]; exact emptyS _ _, by unfold doD; rw [if_neg h3]; exact emptyS _ _, hr, by simp, hR, ht, hS⟩
  rw [hv, e1]
  unfold doC doR
  rw [if_neg h3, if_neg h3]
  rfl
set_option maxHeartbeats 4000000 in
theorem does_data (F : Nat → Option Obj) (o : Ov) (bs : List UInt8) (ks : List Sk) (ho : o.Is F bs ks) (c : Int) (hk : o.kind = 0) (r : RcM) (hr : r.ok) (hfew : r.w.turns < 1000000) (hb : bs.length ≤ 1000000000) :
    Tr Tryz.prog 9 [.pointer (some ⟨r.R, 0, none⟩), .agg o.cells.toArray, .int .u32 c].toArray F r.H (DoesQ r o c bs ks) := by
  refine Tr.enter Tryz.func9 rfl Tryz.ntmps9 rfl (fun w0 => ?_)
  unfold Ov.cells
  rw [hk]
  repeat' (first | refine S1 ?_ | refine SD ?_ | refine SA (fun _ => ?_) | refine WL.g_split rfl rfl (fun hc => ?_) (fun hc => ?_) | refine WD.g_split rfl rfl (fun hc => ?_) (fun hc => ?_) | refine W.cond rfl (fun hc => ?_) (fun hc => ?_))
  rename_i b1 b2 b3
  refine WL.e rfl (Ef.callF (by exact rfl) (.nil _) (fun hd => twin_tr _ [] ⟨o.tsn, o.stream, o.ssn, o.un, o.fi, o.la, bs⟩ o.ba o.bn o.bc (by have := (ho.bytes.mono (fun _ h => addF_in hd h)).src; rw [ho.bn] at this ⊢; exact this) hb)) ?_
  rintro _ _ ⟨_, ⟨ta, tn, tc, thb, rfl, hown, rfl⟩, rfl⟩
  rw [List.append_nil]
  unfold dCells
  dsimp only at hown ⊢
  have htn : tn = bs.length := by have := hown.len; simp at this; omega
  refine WL.weak (H' := (b3, _) :: (b2, _) :: (r.H ++ thb)) (fun _ h => In.of_sub (.pick (.right .here) (.pick (.right .here) (.pickL (L := r.H) (.right (.there .all)) (.last (L := thb) .here)))) h) ?_
  repeat' (first | refine S1 ?_ | refine SD ?_ | refine SA (fun _ => ?_) | refine WL.g_split rfl rfl (fun hc => ?_) (fun hc => ?_) | refine WD.g_split rfl rfl (fun hc => ?_) (fun hc => ?_) | refine W.cond rfl (fun hc => ?_) (fun hc => ?_))
  rename_i b4
  refine WL.e rfl (Ef.call (by exact rfl) (.pickL (L := r.H) (.there (.there (.there .here))) (.last (L := thb) (.there (.there (.there .all))))) (rdata_tr _ thb r hr (o.D c bs) ta tn tc (OwnS.src hown (fun _ h => h)) htn.symm ho.stream.1 ho.stream.2 ⟨by unfold Ov.D; dsimp only; rw [u32_eq]; omega, by unfold Ov.D; dsimp only; rw [u32_eq]; omega⟩ hfew (by omega))) ?_
  rintro _ _ ⟨_, ⟨rfl, r', hr', rfl, hR', ht', hS'⟩, rfl⟩
  dsimp only [tup]
  obtain ⟨A1, hA1⟩ : ∃ A1, Rcv.dataA r.S (o.D c bs) = A1 := ⟨_, rfl⟩
  rw [hA1]
  refine WL.weak (H' := (b4, _) :: (b3, _) :: (b2, _) :: (r'.H ++ thb)) (fun _ h => In.of_sub (.pick (.right .here) (.pick (.right .here) (.pick (.right .here) (.last (L := r'.H ++ thb) .here)))) h) ?_
  repeat' (first | refine S1 ?_ | refine SD ?_ | refine SA (fun _ => ?_) | refine WL.g_split rfl rfl (fun hc => ?_) (fun hc => ?_) | refine WD.g_split rfl rfl (fun hc => ?_) (fun hc => ?_) | refine W.cond rfl (fun hc => ?_) (fun hc => ?_))
  refine W.loop (G := DoG) (fun g => [(6, .pointer (some ⟨b2, 0, none⟩)), (7, .pointer (some ⟨b3, 0, none⟩)), (8, .pointer (some ⟨b4, 0, none⟩)), (9, .int .i64 g.i)])
    (fun g => (b4, .cells [.int .u32 (IntKind.u32.wrap (o.tsn + c)), .int .u16 o.stream, .int .u16 o.ssn, .bool o.un, .bool o.fi, .bool o.la, .slice ta tn tc].toArray 48 (0, 0)) :: (b3, .cells [.int .u16 0, .bool false, .slice none 0 0, .bool A1.1, .int .i64 A1.2, .int .u32 0, .int .u32 0, .slice none 0 0, .slice none 0 0].toArray 45 (0, 0)) :: (b2, .cells [.int .u16 0, .bool false, .slice none 0 0, .bool false, .int .i64 0, .int .u32 0, .int .u32 0, .slice none 0 0, .slice none 0 0].toArray 45 (0, 0)) :: (r'.H ++ g.hb))
    (fun g => g.i ≤ tn ∧ OwnS 5 1 g.xs (.slice ta tn tc) g.hb) (fun g => tn - g.i) ⟨0, _, thb⟩ ⟨Nat.zero_le _, hown⟩ envA (fun _ h => h) ?_
  rintro ⟨i, xs, hb⟩ ⟨hi, hx⟩
  dsimp only at hi hx ⊢
  repeat' (first | refine S1 ?_ | refine SD ?_ | refine SA (fun _ => ?_) | refine WL.g_split rfl rfl (fun hc => ?_) (fun hc => ?_) | refine WD.g_split rfl rfl (fun hc => ?_) (fun hc => ?_) | refine W.cond rfl (fun hc => ?_) (fun hc => ?_))
  · have hi' : i < tn := by simp at hc; omega
    obtain ⟨q, oo, rfl⟩ := hx.addr (by omega)
    have hia : 0 ≤ (i : Int) ∧ (i : Int) < tn := by omega
    obtain ⟨hb', hx', hput⟩ := hx.put i [.int .u8 85] (by have := hx.len; simp at this ⊢; omega)
    repeat' (first | refine S1 ?_ | refine SD ?_ | refine SA (fun _ => ?_) | refine WL.g_split rfl rfl (fun hc => ?_) (fun hc => ?_) | refine WD.g_split rfl rfl (fun hc => ?_) (fun hc => ?_) | refine W.cond rfl (fun hc => ?_) (fun hc => ?_))
    refine WL.e0 (Ef.st rfl rfl rfl (PutAt.there (PutAt.there (PutAt.there (PutAt.right (by simpa using hput)))))) ?_
    rintro _ _ ⟨rfl, rfl⟩
    repeat' (first | refine S1 ?_ | refine SD ?_ | refine SA (fun _ => ?_) | refine WL.g_split rfl rfl (fun hc => ?_) (fun hc => ?_) | refine WD.g_split rfl rfl (fun hc => ?_) (fun hc => ?_) | refine W.cond rfl (fun hc => ?_) (fun hc => ?_))
    rw [i64_succ (by omega)]
    exact Fin.round ⟨i + 1, _, hb'⟩ ⟨hi', hx'⟩ envA (fun _ h => h) (by dsimp only; omega)
  · refine Fin.retW (by exact rfl) resA (H' := r'.H) (fun _ h => h.sublist (.cons _ (.cons _ (.cons _ (List.sublist_append_left _ _))))) (DoesQ.plain (by omega) (by omega) hr' hR' ht' (by rw [hS']; unfold doS; rw [if_pos hk]) ?_)
    unfold doI doE
    rw [if_pos hk, if_pos hk, hA1]
    rfl
set_option maxHeartbeats 4000000 in
theorem does_fwd (F : Nat → Option Obj) (o : Ov) (bs : List UInt8) (ks : List Sk) (ho : o.Is F bs ks) (c : Int) (hk : o.kind = 1) (r : RcM) (hr : r.ok) (hmany : ks.length ≤ 1000) :
    Tr Tryz.prog 9 [.pointer (some ⟨r.R, 0, none⟩), .agg o.cells.toArray, .int .u32 c].toArray F r.H (DoesQ r o c bs ks) := by
  refine Tr.enter Tryz.func9 rfl Tryz.ntmps9 rfl (fun w0 => ?_)
  unfold Ov.cells
  rw [hk]
  repeat' (first | refine S1 ?_ | refine SD ?_ | refine SA (fun _ => ?_) | refine WL.g_split rfl rfl (fun hc => ?_) (fun hc => ?_) | refine WD.g_split rfl rfl (fun hc => ?_) (fun hc => ?_) | refine W.cond rfl (fun hc => ?_) (fun hc => ?_))
  rename_i b1 b2 b3 b4
  refine WL.weak (H' := (b3, _) :: (b2, _) :: (r.H ++ [])) (fun _ h => by rw [List.append_nil]; exact h.sublist (.cons _ (.cons_cons _ (.cons_cons _ (.cons _ (.refl _)))))) ?_
  refine WL.e rfl (Ef.callF (by exact rfl) (.last (L := r.H ++ []) (.there (.there .all))) (fun hd => rfwd_tr _ [] r hr (Rm.u32 (o.cum + c)) ⟨by rw [u32_eq]; omega, by rw [u32_eq]; omega⟩ ks o.ka o.kn o.kc (ho.skips.mono (fun _ h => addF_in hd h)) ho.sks (by rw [ho.kn]; exact hmany))) ?_
  rintro _ _ ⟨_, ⟨rfl, r', hr', rfl, hR', ht', hS'⟩, rfl⟩
  obtain ⟨u, hu⟩ : ∃ u, True ∧ Rcv.inWin r.S (Rm.u32 (o.cum + c)) = u := ⟨_, trivial, rfl⟩
  rw [hu.2]
  refine WL.weak (H' := (b3, _) :: (b2, _) :: r'.H) (fun _ h => by rw [List.append_nil] at h; exact h.perm List.perm_append_comm) ?_
  repeat' (first | refine S1 ?_ | refine SD ?_ | refine SA (fun _ => ?_) | refine WL.g_split rfl rfl (fun hc => ?_) (fun hc => ?_) | refine WD.g_split rfl rfl (fun hc => ?_) (fun hc => ?_) | refine W.cond rfl (fun hc => ?_) (fun hc => ?_))
  refine Fin.retW (by exact rfl) resA (H' := r'.H) (fun _ h => h.sublist (.cons _ (.cons _ (.refl _)))) (DoesQ.plain (by omega) (by omega) hr' hR' (by omega) (by rw [hS']; unfold doS; rw [if_neg (by omega), if_pos hk]) ?_)
  unfold doI doE
  rw [if_neg (by omega), if_pos hk, if_neg (by omega), hu.2]
  rfl
set_option maxHeartbeats 4000000 in
theorem does_fin (F : Nat → Option Obj) (o : Ov) (bs : List UInt8) (ks : List Sk) (c : Int) (hk : o.kind = 2) (r : RcM) (hr : r.ok) :
    Tr Tryz.prog 9 [.pointer (some ⟨r.R, 0, none⟩), .agg o.cells.toArray, .int .u32 c].toArray F r.H (DoesQ r o c bs ks) := by
  refine Tr.enter Tryz.func9 rfl Tryz.ntmps9 rfl (fun w0 => ?_)
  unfold Ov.cells
  rw [hk]
  repeat' (first | refine S1 ?_ | refine SD ?_ | refine SA (fun _ => ?_) | refine WL.g_split rfl rfl (fun hc => ?_) (fun hc => ?_) | refine WD.g_split rfl rfl (fun hc => ?_) (fun hc => ?_) | refine W.cond rfl (fun hc => ?_) (fun hc => ?_))
  rename_i b1 b2 b3
  refine WL.e rfl (Ef.call (by exact rfl) (.last (L := r.H) (.there (.there (.there .all)))) (rfin_tr _ r hr o.now)) ?_
  rintro _ _ ⟨_, ⟨rfl, r', hr', rfl, hR', hS', hw'⟩, rfl⟩
  refine WL.weak (H' := (b3, _) :: (b2, _) :: (b1, _) :: r'.H) (fun _ h => h.perm List.perm_append_comm) ?_
  repeat' (first | refine S1 ?_ | refine SD ?_ | refine SA (fun _ => ?_) | refine WL.g_split rfl rfl (fun hc => ?_) (fun hc => ?_) | refine WD.g_split rfl rfl (fun hc => ?_) (fun hc => ?_) | refine W.cond rfl (fun hc => ?_) (fun hc => ?_))
  refine Fin.retW (by exact rfl) resA (H' := r'.H) (fun _ h => h.sublist (.cons _ (.cons _ (.cons _ (.refl _))))) (DoesQ.plain (by omega) (by omega) hr' hR' (by rw [hw']; omega) (by rw [hS']; unfold doS; rw [if_neg (by omega), if_neg (by omega), if_pos hk]) ?_)
  unfold doI doE
  rw [if_neg (by omega), if_neg (by omega), if_neg (by omega), if_neg (by omega)]
  rfl
set_option maxHeartbeats 4000000 in
theorem does_sack (F : Nat → Option Obj) (o : Ov) (bs : List UInt8) (ks : List Sk) (c : Int) (hk : o.kind = 3) (r : RcM) (hr : r.ok) :
    Tr Tryz.prog 9 [.pointer (some ⟨r.R, 0, none⟩), .agg o.cells.toArray, .int .u32 c].toArray F r.H (DoesQ r o c bs ks) := by
  refine Tr.enter Tryz.func9 rfl Tryz.ntmps9 rfl (fun w0 => ?_)
  unfold Ov.cells
  rw [hk]
  repeat' (first | refine S1 ?_ | refine SD ?_ | refine SA (fun _ => ?_) | refine WL.g_split rfl rfl (fun hc => ?_) (fun hc => ?_) | refine WD.g_split rfl rfl (fun hc => ?_) (fun hc => ?_) | refine W.cond rfl (fun hc => ?_) (fun hc => ?_))
  rename_i b1 b2 b3
  refine WL.e rfl (Ef.call (by exact rfl) (.last (L := r.H) (.there (.there (.there .all)))) (rsack_tr _ r hr)) ?_
  rintro _ _ ⟨_, ⟨r', ga, gn, gc, gb, ra, rn, rc, rb, rfl, hr', rfl, hR', hw', hS', hg, hd⟩, rfl⟩
  refine WL.weak (H' := (b3, _) :: (b2, _) :: (b1, _) :: (r'.H ++ (gb ++ rb))) (fun _ h => h.perm List.perm_append_comm) ?_
  repeat' (first | refine S1 ?_ | refine SD ?_ | refine SA (fun _ => ?_) | refine WL.g_split rfl rfl (fun hc => ?_) (fun hc => ?_) | refine WD.g_split rfl rfl (fun hc => ?_) (fun hc => ?_) | refine W.cond rfl (fun hc => ?_) (fun hc => ?_))
  have e1 : doM r.S o = noMg := by unfold doM; rw [if_neg (by omega)]
  refine Fin.retW (by exact rfl) resA (H' := r'.H ++ ([] ++ (gb ++ rb))) (fun _ h => h.sublist (.cons _ (.cons _ (.cons _ (.refl _))))) ⟨none, 0, 0, [], ga, gn, gc, gb, ra, rn, rc, rb, r', ?_, by rw [e1]; exact emptyS _ _, by unfold doG; rw [if_pos hk]; exact hg, by unfold doD; rw [if_pos hk]; exact hd, hr', rfl, hR', by rw [hw']; omega, by rw [hS']; unfold doS; rw [if_neg (by omega), if_neg (by omega), if_neg (by omega), if_pos hk]⟩
  rw [e1]
  unfold doI doE doC doR
  rw [if_neg (by omega), if_neg (by omega), if_neg (by omega), if_neg (by omega), if_pos hk, if_pos hk]
  rfl
set_option maxHeartbeats 4000000 in
theorem does_take (F : Nat → Option Obj) (o : Ov) (bs : List UInt8) (ks : List Sk) (c : Int) (hk : o.kind = 4) (r : RcM) (hr : r.ok) :
    Tr Tryz.prog 9 [.pointer (some ⟨r.R, 0, none⟩), .agg o.cells.toArray, .int .u32 c].toArray F r.H (DoesQ r o c bs ks) := by
  refine Tr.enter Tryz.func9 rfl Tryz.ntmps9 rfl (fun w0 => ?_)
  unfold Ov.cells
  rw [hk]
  repeat' (first | refine S1 ?_ | refine SD ?_ | refine SA (fun _ => ?_) | refine WL.g_split rfl rfl (fun hc => ?_) (fun hc => ?_) | refine WD.g_split rfl rfl (fun hc => ?_) (fun hc => ?_) | refine W.cond rfl (fun hc => ?_) (fun hc => ?_))
  rename_i b1 b2 b3
  have hS0 : doS r.S o c bs ks = Rcv.take r.S := by unfold doS; rw [if_neg (by omega), if_neg (by omega), if_neg (by omega), if_neg (by omega), if_pos hk]
  have hE : doE r.S o c bs = 0 := by unfold doE; rw [if_neg (by omega)]
  have hC : doC r.S o = 0 := by unfold doC; rw [if_neg (by omega)]
  have hRw : doR r.S o = 0 := by unfold doR; rw [if_neg (by omega)]
  have hG : doG r.S o = [] := by unfold doG; rw [if_neg (by omega)]
  have hD : doD r.S o = [] := by unfold doD; rw [if_neg (by omega)]
  refine WL.e rfl (Ef.call (by exact rfl) (.last (L := r.H) (.there (.there (.there .all)))) (ctake_tr _ r hr)) ?_
  rintro _ _ ⟨_, (⟨hno, rfl, rfl⟩ | ⟨m, r', hm, hr', rfl, rfl, hR', ht', hrow', hS'⟩), rfl⟩
  · have e1 : Rm.take r.S.w = (none, r.S.w) := by unfold Rm.take; rw [hno]
    have hM : doM r.S o = noMg := by unfold doM; rw [if_pos hk, e1]; rfl
    have hI : doI r.S o c bs = false := by unfold doI; rw [if_neg (by omega), if_neg (by omega), if_pos hk, e1]; rfl
    dsimp only [tup]
    refine WL.weak (H' := (b3, _) :: (b2, _) :: (b1, _) :: r.H) (fun _ h => h.perm List.perm_append_comm) ?_
    repeat' (first | refine S1 ?_ | refine SD ?_ | refine SA (fun _ => ?_) | refine WL.g_split rfl rfl (fun hc => ?_) (fun hc => ?_) | refine WD.g_split rfl rfl (fun hc => ?_) (fun hc => ?_) | refine W.cond rfl (fun hc => ?_) (fun hc => ?_))
    refine Fin.retW (by exact rfl) resA (H' := r.H) (fun _ h => h.sublist (.cons _ (.cons _ (.cons _ (.refl _))))) ⟨none, 0, 0, [], none, 0, 0, [], none, 0, 0, [], r, ?_, by rw [hM]; exact emptyS _ _, by rw [hG]; exact emptyS _ _, by rw [hD]; exact emptyS _ _, hr, by simp, rfl, by omega, by rw [hS0]; unfold Rcv.take; rw [e1]⟩
    rw [hM, hI, hE, hC, hRw]
    rfl
  · have e1 : Rm.take r.S.w = (some m.g, ⟨r.S.w.L, r'.S.w.row, r.S.w.nx⟩) := by unfold Rm.take; rw [hrow']
    have hM : doM r.S o = m.g := by unfold doM; rw [if_pos hk, e1]; rfl
    have hI : doI r.S o c bs = true := by unfold doI; rw [if_neg (by omega), if_neg (by omega), if_pos hk, e1]; rfl
    dsimp only [tup, Ms.cells, Ms.bv]
    refine WL.weak (H' := (b3, _) :: (b2, _) :: (b1, _) :: (r'.H ++ m.hb)) (fun _ h => h.perm List.perm_append_comm) ?_
    repeat' (first | refine S1 ?_ | refine SD ?_ | refine SA (fun _ => ?_) | refine WL.g_split rfl rfl (fun hc => ?_) (fun hc => ?_) | refine WD.g_split rfl rfl (fun hc => ?_) (fun hc => ?_) | refine W.cond rfl (fun hc => ?_) (fun hc => ?_))
    refine Fin.retW (by exact rfl) resA (H' := r'.H ++ (m.hb ++ ([] ++ []))) (fun _ h => by simpa using h.sublist (.cons _ (.cons _ (.cons _ (.refl _))))) ⟨m.sa, m.sn, m.sc, m.hb, none, 0, 0, [], none, 0, 0, [], r', ?_, by rw [hM]; exact hm, by rw [hG]; exact emptyS _ _, by rw [hD]; exact emptyS _ _, hr', rfl, hR', by omega, by rw [hS0, hS']⟩
    rw [hM, hI, hE, hC, hRw]
    rfl
set_option maxHeartbeats 4000000 in
theorem does_none (F : Nat → Option Obj) (o : Ov) (bs : List UInt8) (ks : List Sk) (c : Int) (h0 : o.kind ≠ 0) (h1 : o.kind ≠ 1) (h2 : o.kind ≠ 2) (h3 : o.kind ≠ 3) (h4 : o.kind ≠ 4) (r : RcM) (hr : r.ok) :
    Tr Tryz.prog 9 [.pointer (some ⟨r.R, 0, none⟩), .agg o.cells.toArray, .int .u32 c].toArray F r.H (DoesQ r o c bs ks) := by
  refine Tr.enter Tryz.func9 rfl Tryz.ntmps9 rfl (fun w0 => ?_)
  unfold Ov.cells
  repeat' (first | refine S1 ?_ | refine SD ?_ | refine SA (fun _ => ?_) | refine WL.g_split rfl rfl (fun hc => ?_) (fun hc => ?_) | refine WD.g_split rfl rfl (fun hc => ?_) (fun hc => ?_) | refine W.cond rfl (fun hc => ?_) (fun hc => ?_))
  · exact absurd (by simpa using hc) h0
  · exact absurd (by simpa using hc) h1
  · exact absurd (by simpa using hc) h2
  · exact absurd (by simpa using hc) h3
  · exact absurd (by simpa using hc) h4
  · refine Fin.retW (by exact rfl) resA (H' := r.H) (fun _ h => h.sublist (.cons _ (.cons _ (.cons _ (.refl _))))) (DoesQ.plain h3 h4 hr rfl (by omega) (by unfold doS; rw [if_neg h0, if_neg h1, if_neg h2, if_neg h3, if_neg h4]) ?_)
    unfold doI doE
    rw [if_neg h0, if_neg h1, if_neg h4, if_neg h0]
    rfl
theorem does_tr (F : Nat → Option Obj) (o : Ov) (bs : List UInt8) (ks : List Sk) (ho : o.Is F bs ks) (c : Int) (r : RcM) (hr : r.ok) (hfew : r.w.turns < 1000000) (hb : bs.length ≤ 1000000000) (hmany : ks.length ≤ 1000) :
    Tr Tryz.prog 9 [.pointer (some ⟨r.R, 0, none⟩), .agg o.cells.toArray, .int .u32 c].toArray F r.H (DoesQ r o c bs ks) := by
  by_cases h0 : o.kind = 0
  · exact does_data F o bs ks ho c h0 r hr hfew hb
  by_cases h1 : o.kind = 1
  · exact does_fwd F o bs ks ho c h1 r hr hmany
  by_cases h2 : o.kind = 2
  · exact does_fin F o bs ks c h2 r hr
  by_cases h3 : o.kind = 3
  · exact does_sack F o bs ks c h3 r hr
  by_cases h4 : o.kind = 4
  · exact does_take F o bs ks c h4 r hr
  · exact does_none F o bs ks c h0 h1 h2 h3 h4 r hr
end Go.Proofs.YthjglhdjlmjffaaGreat
