/- The document's receiver: its 'Data', walked. Conditions: bounds on what is held; TSNs are 32 bits wide. -/
import Derived.Test.YthjglhdjlmjffaaGreatRxB
namespace Go.Proofs.YthjglhdjlmjffaaGreat
open Go Go.Sl Go.Rm

def XDataQ (r : RxM) (d : D) (v : Value) (H : HL) : Prop :=
  v = tup [.bool (Rcv.dataA r.S d).1, .int .i64 (Rcv.dataA r.S d).2] ∧ ∃ r' : RxM, r'.ok ∧ H = r'.H ∧ r'.R = r.R ∧ r'.S = Rcv.data r.S d
attribute [local irreducible] XM.H in
set_option maxHeartbeats 4000000 in
theorem xrdata_tr (F : Nat → Option Obj) (r : RxM) (hr : r.ok) (d : D) (sa : Option Addr) (m sc : Nat) (hsrc : Src F [] (.slice sa m sc) m (d.bytes.map B)) (hm : d.bytes.length = m)
    (hst : 0 ≤ d.stream ∧ d.stream < 65536) (h32 : 0 ≤ d.tsn ∧ d.tsn < 4294967296) (hfew : r.w.ps.length + r.w.ms.length < 1000) (hheld : Rcv.held r.S ≤ 1048576) (hmb : m ≤ 32768) (hnl : r.w.nx.length ≤ 16) :
    Tr Tryz.prog 36 [.pointer (some ⟨r.R, 0, none⟩), .agg (dCells d (.slice sa m sc)).toArray].toArray F r.H (XDataQ r d) := by
  refine Tr.enter Tryz.func36 rfl Tryz.ntmps36 rfl (fun w0 => ?_)
  have hrd : ((⟨r.R, r.m, r.d, r.w, r.room, r.most, true, r.urg⟩ : RxM)).ok := ⟨hr.m, hr.d, hr.w⟩
  have hnil : d.bytes = [] ↔ m = 0 := by rw [← hm]; exact List.length_eq_zero_iff.symm
  unfold dCells RxM.H RxM.B
  repeat' (first | refine S1 ?_ | refine SD ?_ | refine SA (fun _ => ?_) | refine WL.g_split rfl rfl (fun hc => ?_) (fun hc => ?_) | refine WD.g_split rfl rfl (fun hc => ?_) (fun hc => ?_) | refine W.cond rfl (fun hc => ?_) (fun hc => ?_))
  · refine Fin.retW (by exact rfl) resA (H' := ((⟨r.R, r.m, r.d, r.w, r.room, r.most, true, r.urg⟩ : RxM)).H) (fun _ h => h.sublist (.cons _ (.refl _))) ⟨?_, (⟨r.R, r.m, r.d, r.w, r.room, r.most, true, r.urg⟩ : RxM), hrd, rfl, rfl, ?_⟩
    · have h0 : d.bytes = [] := hnil.2 (by simpa using hc)
      unfold Rcv.dataA
      rw [if_pos h0]
    · have h0 : d.bytes = [] := hnil.2 (by simpa using hc)
      unfold Rcv.data
      rw [if_pos h0]
      rfl
  have h0 : ¬ d.bytes = [] := fun h => by have := hnil.1 h; simp [this] at hc
  clear hc
  refine WD.e rfl (Ef.callR (c := r.m.H) (by exact rfl) (.last (.there (.there .here))) (xlook_tr _ r.m hr.m d.tsn h32)) ?_
  rintro _ _ ⟨rfl, rfl⟩
  refine ⟨.inr (fun _ h => h), ?_⟩
  obtain ⟨k, hk⟩ : ∃ k, Spn.look r.m.S d.tsn = k := ⟨_, rfl⟩
  rw [hk]
  repeat' (first | refine S1 ?_ | refine SD ?_ | refine SA (fun _ => ?_) | refine WL.g_split rfl rfl (fun hc => ?_) (fun hc => ?_) | refine WD.g_split rfl rfl (fun hc => ?_) (fun hc => ?_) | refine W.cond rfl (fun hc => ?_) (fun hc => ?_))
  · have hk1 : Spn.look r.S.m d.tsn = 1 := by show Spn.look r.m.S d.tsn = 1; rw [hk]; simpa using hc
    refine WD.e rfl (Ef.call (c := r.m.H) (by exact rfl) (.last (.there (.there .here))) (xtake_tr _ r.m hr.m d.tsn h32)) ?_
    rintro _ _ ⟨_, ⟨rfl, m', hm', rfl, hR, hS, hds⟩, rfl⟩
    refine ⟨.inl (by kernel_rfl), ?_⟩
    repeat' (first | refine S1 ?_ | refine SD ?_ | refine SA (fun _ => ?_) | refine WL.g_split rfl rfl (fun hc => ?_) (fun hc => ?_) | refine WD.g_split rfl rfl (fun hc => ?_) (fun hc => ?_) | refine W.cond rfl (fun hc => ?_) (fun hc => ?_))
    refine Fin.retW (by exact rfl) resA (H' := (⟨r.R, m', r.d, r.w, r.room, r.most, true, true⟩ : RxM).H) (fun _ h => ?_) ⟨?_, ⟨r.R, m', r.d, r.w, r.room, r.most, true, true⟩, ⟨hm', hr.d, hr.w⟩, rfl, rfl, ?_⟩
    · unfold RxM.H RxM.B
      dsimp only
      rw [hR]
      exact In.of_sub (.pick (.right (.there .here)) (.pickL (L := m'.H) .here (.last (.there .all)))) h
    · unfold Rcv.dataA
      rw [if_neg h0, if_pos (.inl hk1)]
    · unfold Rcv.data
      rw [if_neg h0, if_pos hk1]
      have e : Spn.takeS r.m.S d.tsn = r.m.S := by unfold Spn.takeS; rw [if_neg (by rw [show Spn.look r.m.S d.tsn = 1 from hk1]; decide)]
      unfold RxM.S
      dsimp only
      rw [hS, hds, e]
  · have hk1 : ¬ Spn.look r.S.m d.tsn = 1 := by show ¬ Spn.look r.m.S d.tsn = 1; rw [hk]; rename_i hc1; simpa using hc1
    have hk2 : Spn.look r.S.m d.tsn = 2 := by show Spn.look r.m.S d.tsn = 2; rw [hk]; simpa using hc
    refine Fin.retW (by exact rfl) resA (H' := ((⟨r.R, r.m, r.d, r.w, r.room, r.most, true, r.urg⟩ : RxM)).H) (fun _ h => h.sublist (.cons _ (.refl _))) ⟨?_, (⟨r.R, r.m, r.d, r.w, r.room, r.most, true, r.urg⟩ : RxM), hrd, rfl, rfl, ?_⟩
    · unfold Rcv.dataA
      rw [if_neg h0, if_pos (.inr hk2)]
    · unfold Rcv.data
      rw [if_neg h0, if_neg hk1, if_pos hk2]
      rfl
  have hk1 : ¬ Spn.look r.S.m d.tsn = 1 := by show ¬ Spn.look r.m.S d.tsn = 1; rw [hk]; rename_i hc1; simpa using hc1
  have hk2 : ¬ Spn.look r.S.m d.tsn = 2 := by show ¬ Spn.look r.m.S d.tsn = 2; rw [hk]; simpa using hc
  clear hc
  refine WD.e rfl (Ef.callW (by exact rfl) (.nil _) (fun F' hF => rheld_tr F' r.w (Sees.mono (RF.sees (F := F) hr.w) (fun w h => (hF w h).sublist (.cons _ (.cons _ ((List.sublist_append_right _ _).trans (List.sublist_append_right r.m.H _)))))) hr.w)) ?_
  rintro _ _ ⟨_, ⟨rfl, rfl⟩, rfl⟩
  rw [List.nil_append]
  refine ⟨.inr (fun _ h => h), ?_⟩
  have hh : totD r.w.L + totM r.w.row = Rcv.held r.S := rfl
  have hwr : IntKind.i64.wrap (((totD r.w.L + totM r.w.row : Nat) : Int) + (m : Int)) = (Rcv.held r.S : Int) + m := by rw [hh]; exact i64_id (by omega) (by omega)
  have hno : ¬ (Spn.look r.S.m d.tsn = 1 ∨ Spn.look r.S.m d.tsn = 2) := by rintro (h | h); exact hk1 h; exact hk2 h
  repeat' (first | refine S1 ?_ | refine SD ?_ | refine SA (fun _ => ?_) | refine WL.g_split rfl rfl (fun hc => ?_) (fun hc => ?_) | refine WD.g_split rfl rfl (fun hc => ?_) (fun hc => ?_) | refine W.cond rfl (fun hc => ?_) (fun hc => ?_))
  · rw [hwr] at hc
    have hfu : Rcv.full r.S d = true := by unfold Rcv.full; rw [hm]; exact hc
    refine Fin.retW (by exact rfl) resA (H' := (⟨r.R, r.m, r.d, r.w, r.room, r.most, true, true⟩ : RxM).H) (fun _ h => h.sublist (.cons _ (.refl _))) ⟨?_, ⟨r.R, r.m, r.d, r.w, r.room, r.most, true, true⟩, ⟨hr.m, hr.d, hr.w⟩, rfl, rfl, ?_⟩
    · unfold Rcv.dataA
      rw [if_neg h0, if_neg hno, if_pos hfu]
    · unfold Rcv.data
      rw [if_neg h0, if_neg hk1, if_neg hk2, if_pos hfu]
      rfl
  rw [hwr] at hc
  have hfu : Rcv.full r.S d = false := by unfold Rcv.full; rw [hm]; exact hc
  clear hc
  refine WL.e rfl (Ef.callR (c := r.m.H) (by exact rfl) (.last (.there (.there .here))) (xholes_tr _ r.m hr.m)) ?_
  rintro _ _ ⟨rfl, rfl⟩
  obtain ⟨a, ha⟩ : ∃ a, True ∧ decide (0 < Spn.count r.m.S) = a := ⟨_, trivial, rfl⟩
  rw [ha.2]
  repeat' (first | refine S1 ?_ | refine SD ?_ | refine SA (fun _ => ?_) | refine WL.g_split rfl rfl (fun hc => ?_) (fun hc => ?_) | refine WD.g_split rfl rfl (fun hc => ?_) (fun hc => ?_) | refine W.cond rfl (fun hc => ?_) (fun hc => ?_))
  refine WD.e rfl (Ef.call (c := r.m.H) (by exact rfl) (.last (.there (.there .here))) (xtake_tr _ r.m hr.m d.tsn h32)) ?_
  rintro _ _ ⟨_, ⟨rfl, m', hm', rfl, hR, hS, hds⟩, rfl⟩
  refine ⟨.inl (by kernel_rfl), ?_⟩
  repeat' (first | refine S1 ?_ | refine SD ?_ | refine SA (fun _ => ?_) | refine WL.g_split rfl rfl (fun hc => ?_) (fun hc => ?_) | refine WD.g_split rfl rfl (fun hc => ?_) (fun hc => ?_) | refine W.cond rfl (fun hc => ?_) (fun hc => ?_))
  ·
    refine WD.e rfl (Ef.callF (by exact rfl) (.last (L := r.w.H) (.right (.there (.there (.right .all))))) (fun hd => rput_tr _ r.w hr.w d sa m sc (hsrc.mono (fun _ h => addF_in hd h)) hm hst h32 hfew (by omega) (by omega))) ?_
    rintro _ _ ⟨_, ⟨rfl, w', hw', rfl, hwR, hwS, hwn⟩, rfl⟩
    refine ⟨.inl (by kernel_rfl), ?_⟩
    repeat' (first | refine S1 ?_ | refine SD ?_ | refine SA (fun _ => ?_) | refine WL.g_split rfl rfl (fun hc => ?_) (fun hc => ?_) | refine WD.g_split rfl rfl (fun hc => ?_) (fun hc => ?_) | refine W.cond rfl (fun hc => ?_) (fun hc => ?_))
    refine Fin.retW (by exact rfl) resA (H' := (⟨r.R, m', r.d, w', r.room, r.most, true, true⟩ : RxM).H) (fun _ h => ?_) ⟨?_, (⟨r.R, m', r.d, w', r.room, r.most, true, true⟩ : RxM), ⟨hm', hr.d, hw'⟩, rfl, rfl, ?_⟩
    · unfold RxM.H RxM.B
      dsimp only
      rw [hR, hwR]
      exact In.of_sub (.pick (.right (.right (.there .here))) (.pickL (L := m'.H) (.right .here) (.pickL (L := r.d.H) (.right (.there .here)) (.last (L := w'.H) .here)))) h
    · unfold Rcv.dataA
      rw [if_neg h0, if_neg hno, if_neg (by rw [hfu]; simp)]
      rfl
    unfold Rcv.data
    rw [if_neg h0, if_neg hk1, if_neg hk2, if_neg (by rw [hfu]; simp)]
    unfold RxM.S
    dsimp only
    rw [hS, hds, hwS, show Spn.takeD r.m.S r.m.ds d.tsn = r.m.ds from by unfold Spn.takeD; exact if_neg (fun h => hk1 h.1)]
    rw [show r.urg = true from hc, Bool.true_or, Bool.true_or]
  ·
    refine WD.e rfl (Ef.callF (by exact rfl) (.last (L := r.w.H) (.right (.there (.there (.right .all))))) (fun hd => rput_tr _ r.w hr.w d sa m sc (hsrc.mono (fun _ h => addF_in hd h)) hm hst h32 hfew (by omega) (by omega))) ?_
    rintro _ _ ⟨_, ⟨rfl, w', hw', rfl, hwR, hwS, hwn⟩, rfl⟩
    refine ⟨.inl (by kernel_rfl), ?_⟩
    repeat' (first | refine S1 ?_ | refine SD ?_ | refine SA (fun _ => ?_) | refine WL.g_split rfl rfl (fun hc => ?_) (fun hc => ?_) | refine WD.g_split rfl rfl (fun hc => ?_) (fun hc => ?_) | refine W.cond rfl (fun hc => ?_) (fun hc => ?_))
    refine Fin.retW (by exact rfl) resA (H' := (⟨r.R, m', r.d, w', r.room, r.most, true, true⟩ : RxM).H) (fun _ h => ?_) ⟨?_, (⟨r.R, m', r.d, w', r.room, r.most, true, true⟩ : RxM), ⟨hm', hr.d, hw'⟩, rfl, rfl, ?_⟩
    · unfold RxM.H RxM.B
      dsimp only
      rw [hR, hwR]
      exact In.of_sub (.pick (.right (.right (.there .here))) (.pickL (L := m'.H) (.right .here) (.pickL (L := r.d.H) (.right (.there .here)) (.last (L := w'.H) .here)))) h
    · unfold Rcv.dataA
      rw [if_neg h0, if_neg hno, if_neg (by rw [hfu]; simp)]
      rfl
    unfold Rcv.data
    rw [if_neg h0, if_neg hk1, if_neg hk2, if_neg (by rw [hfu]; simp)]
    unfold RxM.S
    dsimp only
    rw [hS, hds, hwS, show Spn.takeD r.m.S r.m.ds d.tsn = r.m.ds from by unfold Spn.takeD; exact if_neg (fun h => hk1 h.1)]
    rw [show Rcv.holes r.m.S = true from ha.2.trans hc, Bool.or_true, Bool.true_or]
  have ha0 : a = false := hc
  clear hc
  refine WL.e rfl (Ef.callR (vals := [.pointer (some ⟨r.m.R, 0, none⟩)]) (c := m'.H) (by exact rfl) (.last .here) (by rw [← hR]; exact xholes_tr _ m' hm')) ?_
  rintro _ _ ⟨rfl, rfl⟩
  obtain ⟨u, hu⟩ : ∃ u, True ∧ decide (0 < Spn.count m'.S) = u := ⟨_, trivial, rfl⟩
  rw [hu.2]
  repeat' (first | refine S1 ?_ | refine SD ?_ | refine SA (fun _ => ?_) | refine WL.g_split rfl rfl (fun hc => ?_) (fun hc => ?_) | refine WD.g_split rfl rfl (fun hc => ?_) (fun hc => ?_) | refine W.cond rfl (fun hc => ?_) (fun hc => ?_))
  refine WD.e rfl (Ef.callF (by exact rfl) (.last (L := r.w.H) (.right (.there (.there (.right .all))))) (fun hd => rput_tr _ r.w hr.w d sa m sc (hsrc.mono (fun _ h => addF_in hd h)) hm hst h32 hfew (by omega) (by omega))) ?_
  rintro _ _ ⟨_, ⟨rfl, w', hw', rfl, hwR, hwS, hwn⟩, rfl⟩
  refine ⟨.inl (by kernel_rfl), ?_⟩
  repeat' (first | refine S1 ?_ | refine SD ?_ | refine SA (fun _ => ?_) | refine WL.g_split rfl rfl (fun hc => ?_) (fun hc => ?_) | refine WD.g_split rfl rfl (fun hc => ?_) (fun hc => ?_) | refine W.cond rfl (fun hc => ?_) (fun hc => ?_))
  refine Fin.retW (by exact rfl) resA (H' := (⟨r.R, m', r.d, w', r.room, r.most, true, u⟩ : RxM).H) (fun _ h => ?_) ⟨?_, (⟨r.R, m', r.d, w', r.room, r.most, true, u⟩ : RxM), ⟨hm', hr.d, hw'⟩, rfl, rfl, ?_⟩
  · unfold RxM.H RxM.B
    dsimp only
    rw [hR, hwR]
    exact In.of_sub (.pick (.right (.right (.there .here))) (.pickL (L := m'.H) (.right .here) (.pickL (L := r.d.H) (.right (.there .here)) (.last (L := w'.H) .here)))) h
  · unfold Rcv.dataA
    rw [if_neg h0, if_neg hno, if_neg (by rw [hfu]; simp)]
    rfl
  unfold Rcv.data
  rw [if_neg h0, if_neg hk1, if_neg hk2, if_neg (by rw [hfu]; simp)]
  unfold RxM.S
  dsimp only
  rw [hS, hds, hwS, show Spn.takeD r.m.S r.m.ds d.tsn = r.m.ds from by unfold Spn.takeD; exact if_neg (fun h => hk1 h.1)]
  rw [show r.urg = false by assumption, show Rcv.holes r.m.S = false from ha.2.trans ha0, ← show Rcv.holes m'.S = u from hu.2, hS, Bool.false_or, Bool.false_or]
end Go.Proofs.YthjglhdjlmjffaaGreat
