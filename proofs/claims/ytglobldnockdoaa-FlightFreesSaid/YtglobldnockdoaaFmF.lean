/- The law FlightFrees, walked. Conditions: what the arguments' cells are. -/
import Derived.Test.YtglobldnockdoaaFmE
import Derived.Test.YtglobldnockdoaaFlY
import Derived.Test.YtglobldnockdoaaSlT
namespace Go.Proofs.Ytglobldnockdoaa
open Go Go.Sl Go.Flt

def lI (n : Nat) : Value := .int .i64 (n : Int)
theorem lI_one (l : List Nat) : ∀ u ∈ l.map lI, u.oneCell' = true := fun u hu => by
  obtain ⟨b, _, rfl⟩ := List.mem_map.1 hu; rfl
/-- the sums over the first paths -/
def pAck (t : Tld) (q : Nat) : Int := (if 0 < q then t.p0.acked else 0) + (if 1 < q then t.p1.acked else 0) + (if 2 < q then t.p2.acked else 0) + (if 3 < q then t.p3.acked else 0)
theorem pAck_in {t : Tld} (h : t.nn) (q : Nat) : 0 ≤ pAck t q ∧ pAck t q ≤ ackSum t := by
  obtain ⟨h0, h1, h2, h3⟩ := h
  unfold pAck ackSum
  split <;> split <;> split <;> split <;> omega
theorem pAck_4 (t : Tld) : pAck t 4 = ackSum t := rfl
def pOut (s : Flt.S) (q : Nat) : Nat := (if 0 < q then Flt.out s 0 else 0) + (if 1 < q then Flt.out s 1 else 0) + (if 2 < q then Flt.out s 2 else 0) + (if 3 < q then Flt.out s 3 else 0)
theorem pOut_le (s : Flt.S) (q : Nat) : pOut s q ≤ Flt.out s 0 + Flt.out s 1 + Flt.out s 2 + Flt.out s 3 := by
  unfold pOut
  split <;> split <;> split <;> split <;> omega
theorem pOut_4 (s : Flt.S) : pOut s 4 = Flt.out s 0 + Flt.out s 1 + Flt.out s 2 + Flt.out s 3 := rfl
theorem sum_succ {l : List Nat} {k v : Nat} (h : l[k]? = some v) : (l.take (k + 1)).sum = (l.take k).sum + v := by
  rw [List.take_add_one, h]
  simp
structure FrG where
  i : Nat
  f : FM
  long : List Nat
  n : Nat
  acked : Int
  la : Option Addr
  ln : Nat
  lc : Nat
  lb : HL
structure FsG where
  b : Nat
  f : FM
  sa : Option Addr
  sn : Nat
  sc : Nat
set_option maxHeartbeats 16000000 in
theorem freesLaw_tr (F : Nat → Option Obj) (paths first : Int) (l : List Opx) (ka : Option Addr) (kn kc : Nat) (hl : Lst F [] 13 (l.flatMap Opx.cells) ka kn kc) (hop : ∀ p ∈ l, p.Is F) :
    Tr Try.prog 7 [.int .i64 paths, .int .u32 first, .slice ka kn kc].toArray F [] (fun v H => v = .bool true ∧ H = []) := by
  refine Tr.enter Try.func7 rfl Try.ntmps7 rfl (fun w0 => ?_)
  have hkn : l.length = kn := lst_len (cells := Opx.cells) (fun _ => rfl) (by decide) hl
  have hlm : Lst F [] 13 ((l.map (·.m)).flatMap OpM.cells) ka kn kc := by rw [opx_flat]; exact hl
  repeat' (first | refine S1 ?_ | refine SD ?_ | refine SA (fun _ => ?_) | refine WL.g_split rfl rfl (fun hc => ?_) (fun hc => ?_) | refine WD.g_split rfl rfl (fun hc => ?_) (fun hc => ?_) | refine W.cond rfl (fun hc => ?_) (fun hc => ?_))
  refine WL.e rfl (Ef.lookR (by exact rfl) (fun F' hF => vast_tr F' [] (l.map (·.m)) ka kn kc (hlm.mono hF))) ?_
  rintro _ _ ⟨rfl, rfl⟩
  cases hv : vast (l.map (·.m)) with
  | true =>
    repeat' (first | refine S1 ?_ | refine SD ?_ | refine SA (fun _ => ?_) | refine WL.g_split rfl rfl (fun hc => ?_) (fun hc => ?_) | refine WD.g_split rfl rfl (fun hc => ?_) (fun hc => ?_) | refine W.cond rfl (fun hc => ?_) (fun hc => ?_))
    refine WL.e rfl (Ef.call (c := []) (by exact rfl) (.nil _) (works_tr _)) ?_
    rintro _ _ ⟨_, ⟨rfl, rfl⟩, rfl⟩
    rw [List.nil_append]
    repeat' (first | refine S1 ?_ | refine SD ?_ | refine SA (fun _ => ?_) | refine WL.g_split rfl rfl (fun hc => ?_) (fun hc => ?_) | refine WD.g_split rfl rfl (fun hc => ?_) (fun hc => ?_) | refine W.cond rfl (fun hc => ?_) (fun hc => ?_))
    exact Fin.retW (by exact rfl) resA (H' := []) (fun _ h => h.sublist (List.nil_sublist _)) ⟨rfl, rfl⟩
  | false =>
  obtain ⟨hl100, hb64, hg50⟩ := vast_no hv
  rw [List.length_map, hkn] at hl100
  repeat' (first | refine S1 ?_ | refine SD ?_ | refine SA (fun _ => ?_) | refine WL.g_split rfl rfl (fun hc => ?_) (fun hc => ?_) | refine WD.g_split rfl rfl (fun hc => ?_) (fun hc => ?_) | refine W.cond rfl (fun hc => ?_) (fun hc => ?_))
  refine WL.e rfl (Ef.call (by exact rfl) (.nil _) (new_tr _ paths first)) ?_
  rintro _ _ ⟨_, hq, rfl⟩
  rcases hq with ⟨hbad, rfl, rfl⟩ | ⟨hpp, b, rfl, rfl⟩
  · repeat' (first | refine S1 ?_ | refine SD ?_ | refine SA (fun _ => ?_) | refine WL.g_split rfl rfl (fun hc => ?_) (fun hc => ?_) | refine WD.g_split rfl rfl (fun hc => ?_) (fun hc => ?_) | refine W.cond rfl (fun hc => ?_) (fun hc => ?_))
    ·
      refine WL.e rfl (Ef.call (c := []) (by exact rfl) (.nil _) (works_tr _)) ?_
      rintro _ _ ⟨_, ⟨rfl, rfl⟩, rfl⟩
      rw [List.nil_append]
      repeat' (first | refine S1 ?_ | refine SD ?_ | refine SA (fun _ => ?_) | refine WL.g_split rfl rfl (fun hc => ?_) (fun hc => ?_) | refine WD.g_split rfl rfl (fun hc => ?_) (fun hc => ?_) | refine W.cond rfl (fun hc => ?_) (fun hc => ?_))
      exact Fin.retW (by exact rfl) resA (H' := []) (fun _ h => h.sublist (List.nil_sublist _)) ⟨rfl, rfl⟩
    ·
      refine WL.e rfl (Ef.call (c := []) (by exact rfl) (.nil _) (works_tr _)) ?_
      rintro _ _ ⟨_, ⟨rfl, rfl⟩, rfl⟩
      rw [List.nil_append]
      repeat' (first | refine S1 ?_ | refine SD ?_ | refine SA (fun _ => ?_) | refine WL.g_split rfl rfl (fun hc => ?_) (fun hc => ?_) | refine WD.g_split rfl rfl (fun hc => ?_) (fun hc => ?_) | refine W.cond rfl (fun hc => ?_) (fun hc => ?_))
      exact Fin.retW (by exact rfl) resA (H' := []) (fun _ h => h.sublist (List.nil_sublist _)) ⟨rfl, rfl⟩
    · exfalso
      have h1 := of_decide_eq_false (p := paths < 1) (by assumption)
      have h2 := of_decide_eq_false (p := paths > 4) (by assumption)
      omega
  obtain ⟨f0, hf0⟩ : ∃ f0, FM.empty b paths first = f0 := ⟨_, rfl⟩
  have ok0 : f0.ok := by rw [← hf0]; exact FM.empty_ok _ _ _
  have S0 : f0.S = ⟨[], Spn.u32 (first - 1), paths⟩ := by rw [← hf0]; rfl
  have R0 : b = f0.R := by rw [← hf0]; rfl
  have G0 : InvF f0.S (Spn.u32 (first - 1)) [] 0 0 := by
    rw [S0]
    exact ⟨new_good (u32_mod _) hpp, by dsimp only; simp only [Spn.u32_eq]; omega, Nat.le_refl _, rfl, by simp [sumB], Int.le_refl _⟩
  rw [List.append_nil, hf0, R0]
  clear hf0 R0
  repeat' (first | refine S1 ?_ | refine SD ?_ | refine SA (fun _ => ?_) | refine WL.g_split rfl rfl (fun hc => ?_) (fun hc => ?_) | refine WD.g_split rfl rfl (fun hc => ?_) (fun hc => ?_) | refine W.cond rfl (fun hc => ?_) (fun hc => ?_))
  refine W.loop (G := FrG) (fun g => [(1, .int .u32 first), (2, .slice ka kn kc), (7, .pointer (some ⟨f0.R, 0, none⟩)), (9, .slice g.la g.ln g.lc), (10, .int .i64 ((g.long.take g.n).sum : Nat)), (11, .int .i64 g.acked), (12, .int .i64 g.i)])
    (fun g => g.lb ++ g.f.H) (fun g => g.i ≤ kn ∧ g.f.ok ∧ g.f.R = f0.R ∧ InvF g.f.S (Spn.u32 (first - 1)) g.long g.n g.acked ∧ g.long.length ≤ g.i ∧ g.long.sum ≤ bnS l g.i ∧ OwnS 3 1 (g.long.map lI) (.slice g.la g.ln g.lc) g.lb) (fun g => kn - g.i) ⟨0, f0, [], 0, 0, none, 0, 0, []⟩ ⟨Nat.zero_le _, ok0, rfl, G0, by simp, by simp, .inl ⟨rfl, rfl, rfl⟩⟩ envA (fun _ h => h) ?_
  rintro ⟨i, f, long, n, acked, la, ln, lc, lb⟩ ⟨hi, hf, hR, hI, hlo, hls, hown⟩
  dsimp only at hi hf hR hI hlo hls hown ⊢
  rw [← hR]
  have hbl := bnS_le l i
  have hsm : f.small := by
    show sumB _ f.S.L ≤ _
    rw [← lens_sum, hI.rest]
    have := sum_take_drop long n
    omega
  repeat' (first | refine S1 ?_ | refine SA (fun _ => ?_) | refine WL.g_split rfl rfl (fun hc => ?_) (fun hc => ?_) | refine WD.g_split rfl rfl (fun hc => ?_) (fun hc => ?_) | refine W.cond rfl (fun hc => ?_) (fun hc => ?_))
  · have hi' : i < kn := by have := of_decide_eq_true hc; omega
    obtain ⟨p, hp⟩ : ∃ p, l[i]? = some p := ⟨l[i]'(by omega), by simp⟩
    have hpI := hop p (List.mem_of_getElem? hp)
    obtain ⟨ob, oo, rfl, hcan⟩ := hl.el (cells := Opx.cells) (fun _ => rfl) hp (by omega)
    have hia : 0 ≤ (i : Int) ∧ (i : Int) < kn := by omega
    have hbn := OpM.Is.bn hpI
    have hb1 := bnS_one hp
    have hb2 := bnS_succ hp
    have hg1 : p.gs.length ≤ 50 := by
      have h1 : p.gs.length = p.m.gn := lst_len gC_len (by decide) hpI.gaps
      have h2 := hg50 p.m (List.mem_map.2 ⟨p, List.mem_of_getElem? hp, rfl⟩)
      omega
    obtain ⟨k, hI', htn, hfr, hf0⟩ := hI.step (p.m.op p.bs p.gs) f.c (by omega)
    obtain ⟨A, hA⟩ : ∃ A, doA f.S (p.m.op p.bs p.gs) f.c = A := ⟨_, rfl⟩
    rw [hA] at hI' htn hfr hf0
    rw [show (p.m.op p.bs p.gs).kind = p.m.kind from rfl, show (p.m.op p.bs p.gs).d.bs.length = p.m.bn from hbn] at hI' hfr
    refine W.cut (G := FsG) (fun g => [(1, .int .u32 first), (2, .slice (some ⟨ob, oo, none⟩) kn kc), (7, .pointer (some ⟨f.R, 0, none⟩)), (9, .slice la ln lc), (10, .int .i64 ((long.take n).sum : Nat)), (11, .int .i64 acked), (12, .int .i64 i), (13, .pointer (some ⟨g.b, 0, none⟩))])
      (fun g => (g.b, .cells (ansC A g.sa g.sn g.sc).toArray 67 (0, 0)) :: (lb ++ g.f.H)) (fun g => g.f.ok ∧ g.f.R = f.R ∧ g.f.S = doS f.S (p.m.op p.bs p.gs) f.c) (fun K' hK _ => ?_) ?_
    · refine W.drawG 8 [] (fun _ h => h.sublist (List.nil_sublist _)) ?_
      repeat' (first
        | refine WF.pA ?_ | refine WF.sA ?_)
      refine WF.e rfl (Ef.callR (c := f.H) (by exact rfl) (.last (.right .all)) (cum_tr _ f)) ?_ ?_
      · rintro _ _ ⟨rfl, rfl⟩
        refine ⟨.inr (fun _ h => h.sublist (List.nil_sublist _)), ?_⟩
        repeat' (first
          | refine WF.pA ?_ | refine WF.sA ?_)
        refine WF.e rfl (Ef.callF (c := f.H) (by exact rfl) (.last (.right .all)) (fun hd => does_tr _ p.m p.bs p.gs ⟨hpI.bytes.mono (fun _ h => addF_in hd h), hpI.gaps.mono (fun _ h => addF_in hd h), hpI.g16⟩ (by omega) (by omega) f hf hsm hI.good f.c)) ?_ ?_
        ·
          rintro _ _ ⟨_, ⟨ua, un, uc, ub, f', rfl, _, hf', rfl, hR', hS'⟩, rfl⟩
          refine ⟨.inr (fun _ h => h.sublist (List.nil_sublist _)), ?_⟩
          rw [hA]
          repeat' (first
            | refine WF.pA ?_ | refine WF.sA ?_)
          refine WF.nil ?_
          refine WD.aA (fun b13 => ?_) (hk := fun _ => .inr (fun _ h => h.sublist (List.nil_sublist _)))
          repeat' (first | refine S1 ?_ | refine SA (fun _ => ?_) | refine WL.g_split rfl rfl (fun hc => ?_) (fun hc => ?_) | refine WD.g_split rfl rfl (fun hc => ?_) (fun hc => ?_) | refine W.cond rfl (fun hc => ?_) (fun hc => ?_))
          refine Fin.cut hK ⟨b13, f', ua, un, uc⟩ ⟨hf', hR', hS'⟩ envA (fun _ h => ?_)
          rw [List.append_nil, List.append_assoc] at h
          exact In.of_sub (.pick .here (.pickL (L := lb) (.right (.right .all)) (.last (L := f'.H) (.right .here)))) h
        · refine WD.aA (fun b13 => ?_) (hk := fun _ => .inr (fun _ h => h.sublist (List.nil_sublist _)))
          refine WD.e rfl (Ef.callF (c := f.H) (by exact rfl) (.last (.there (.right .all))) (fun hd => does_tr _ p.m p.bs p.gs ⟨hpI.bytes.mono (fun _ h => addF_in hd h), hpI.gaps.mono (fun _ h => addF_in hd h), hpI.g16⟩ (by omega) (by omega) f hf hsm hI.good f.c)) ?_
          rintro _ _ ⟨_, ⟨ua, un, uc, ub, f', rfl, _, hf', rfl, hR', hS'⟩, rfl⟩
          refine ⟨.inr (fun _ h => h.sublist (List.nil_sublist _)), ?_⟩
          rw [hA]
          repeat' (first | refine S1 ?_ | refine SA (fun _ => ?_) | refine WL.g_split rfl rfl (fun hc => ?_) (fun hc => ?_) | refine WD.g_split rfl rfl (fun hc => ?_) (fun hc => ?_) | refine W.cond rfl (fun hc => ?_) (fun hc => ?_))
          refine Fin.cut hK ⟨b13, f', ua, un, uc⟩ ⟨hf', hR', hS'⟩ envA (fun _ h => ?_)
          rw [List.append_nil, List.append_assoc] at h
          exact In.of_sub (.pick (.right (.right .here)) (.pickL (L := lb) (.right (.right .all)) (.last (L := f'.H) (.right .here)))) h
      · refine WD.aA (fun b13 => ?_) (hk := fun _ => .inr (fun _ h => h.sublist (List.nil_sublist _)))
        refine WD.e rfl (Ef.callR (c := f.H) (by exact rfl) (.last (.there (.right .all))) (cum_tr _ f)) ?_
        rintro _ _ ⟨rfl, rfl⟩
        refine ⟨.inr (fun _ h => h.sublist (List.nil_sublist _)), ?_⟩
        refine WD.e rfl (Ef.callF (c := f.H) (by exact rfl) (.last (.there (.right .all))) (fun hd => does_tr _ p.m p.bs p.gs ⟨hpI.bytes.mono (fun _ h => addF_in hd h), hpI.gaps.mono (fun _ h => addF_in hd h), hpI.g16⟩ (by omega) (by omega) f hf hsm hI.good f.c)) ?_
        rintro _ _ ⟨_, ⟨ua, un, uc, ub, f', rfl, _, hf', rfl, hR', hS'⟩, rfl⟩
        refine ⟨.inr (fun _ h => h.sublist (List.nil_sublist _)), ?_⟩
        rw [hA]
        repeat' (first | refine S1 ?_ | refine SA (fun _ => ?_) | refine WL.g_split rfl rfl (fun hc => ?_) (fun hc => ?_) | refine WD.g_split rfl rfl (fun hc => ?_) (fun hc => ?_) | refine W.cond rfl (fun hc => ?_) (fun hc => ?_))
        refine Fin.cut hK ⟨b13, f', ua, un, uc⟩ ⟨hf', hR', hS'⟩ envA (fun _ h => ?_)
        rw [List.append_nil, List.append_assoc] at h
        exact In.of_sub (.pick (.right (.right .here)) (.pickL (L := lb) (.right (.right .all)) (.last (L := f'.H) (.right .here)))) h
    · rintro ⟨b13, f1, ua, un, uc⟩ ⟨hf1, hR1, hS1⟩
      dsimp only at hf1 hR1 hS1 ⊢
      rw [← hS1] at hI'
      rw [← hR1]
      obtain ⟨bb, hbb⟩ : ∃ bb, ((p.m.kind == 0) && (A.e == 0)) = bb := ⟨_, rfl⟩
      have hadd : (if p.m.kind = 0 ∧ A.e = 0 then [p.m.bn] else []) = if bb then [p.m.bn] else [] := by
        rw [← hbb]
        by_cases h1 : p.m.kind = 0 <;> by_cases h2 : A.e = 0 <;> simp [h1, h2]
      rw [hadd] at hI' hfr
      clear hadd
      have hc0 : Sl.Can F [] ob (oo + (i : Int).toNat * 13 + 0) [.int .i64 p.m.kind] := hcan.one (i := 0) rfl
      have hc7 : Sl.Can F [] ob (oo + (i : Int).toNat * 13 + 1 + 6) [.slice p.m.ba p.m.bn p.m.bc] := hcan.one (i := 7) rfl
      have hlnl : long.length = ln := by have := OwnS.len hown; simpa using this
      refine Fin.next ?_
      repeat refine W.seq ?_
      refine W.cut (G := Unit) (fun _ => [(1, .int .u32 first), (2, .slice (some ⟨ob, oo, none⟩) kn kc), (7, .pointer (some ⟨f1.R, 0, none⟩)), (9, .slice la ln lc), (10, .int .i64 ((long.take n).sum : Nat)), (11, .int .i64 acked), (12, .int .i64 i), (13, .pointer (some ⟨b13, 0, none⟩)), (65, .bool bb)])
        (fun _ => (b13, .cells (ansC A ua un uc).toArray 67 (0, 0)) :: (lb ++ f1.H)) (fun _ => True) (fun K' hK _ => ?_) ?_
      · repeat' (first | refine S1 ?_ | refine SA (fun _ => ?_) | refine WL.g_split rfl rfl (fun hc => ?_) (fun hc => ?_) | refine WD.g_split rfl rfl (fun hc => ?_) (fun hc => ?_) | refine W.cond rfl (fun hc => ?_) (fun hc => ?_))
        · exact Fin.cut hK () trivial (by rw [← hbb, hc, Bool.true_and]; exact envA) (fun _ h => h)
        · exact Fin.cut hK () trivial (by rw [← hbb, hc, Bool.false_and]; exact envA) (fun _ h => h)
      rintro _ _
      refine Fin.next ?_
      repeat refine W.seq ?_
      refine W.cut (G := FrG) (fun g => [(1, .int .u32 first), (2, .slice (some ⟨ob, oo, none⟩) kn kc), (7, .pointer (some ⟨f1.R, 0, none⟩)), (9, .slice g.la g.ln g.lc), (10, .int .i64 ((long.take n).sum : Nat)), (11, .int .i64 acked), (12, .int .i64 i), (13, .pointer (some ⟨b13, 0, none⟩))])
        (fun g => (b13, .cells (ansC A ua un uc).toArray 67 (0, 0)) :: (g.lb ++ f1.H)) (fun g => OwnS 3 1 ((long ++ if bb then [p.m.bn] else []).map lI) (.slice g.la g.ln g.lc) g.lb) (fun K' hK _ => ?_) ?_
      · cases bb with
        | true =>
          repeat' (first | refine S1 ?_ | refine SA (fun _ => ?_) | refine WL.g_split rfl rfl (fun hc => ?_) (fun hc => ?_) | refine WD.g_split rfl rfl (fun hc => ?_) (fun hc => ?_) | refine W.cond rfl (fun hc => ?_) (fun hc => ?_))
          refine WL.e rfl (Ef.app (m := 1) (news := [lI p.m.bn]) (by exact rfl) (by exact rfl) rfl rfl hown (.last (.there (.there .here))) (Src.own (n := 1) (.here rfl)) rfl (by intro u hu; rw [List.mem_singleton.1 hu]; rfl) (by simp; omega) (by simp [maxLen]; omega)) ?_
          rintro v' _ ⟨lb2, hown2, rfl⟩
          obtain ⟨la2, ln2, lc2, rfl, _, _⟩ := OwnS.shape hown2
          repeat' (first | refine S1 ?_ | refine SA (fun _ => ?_) | refine WL.g_split rfl rfl (fun hc => ?_) (fun hc => ?_) | refine WD.g_split rfl rfl (fun hc => ?_) (fun hc => ?_) | refine W.cond rfl (fun hc => ?_) (fun hc => ?_))
          refine Fin.cut hK ⟨0, f1, [], 0, 0, la2, ln2, lc2, lb2⟩ (by dsimp only; rw [if_pos rfl, List.map_append]; exact hown2) envA (fun _ h => In.of_sub (.pick (.right (.there .here)) (.pickL (L := lb2) .here (.last (.there .all)))) h)
        | false =>
          repeat' (first | refine S1 ?_ | refine SA (fun _ => ?_) | refine WL.g_split rfl rfl (fun hc => ?_) (fun hc => ?_) | refine WD.g_split rfl rfl (fun hc => ?_) (fun hc => ?_) | refine W.cond rfl (fun hc => ?_) (fun hc => ?_))
          exact Fin.cut hK ⟨0, f1, [], 0, 0, la, ln, lc, lb⟩ (by dsimp only; rw [if_neg (by decide), List.append_nil]; exact hown) envA (fun _ h => h)
      rintro ⟨_, _, _, _, _, la2, ln2, lc2, lb2⟩ hown2
      dsimp only at hown2 ⊢
      have hb3 : (long ++ if bb = true then [p.m.bn] else []).sum ≤ bnS l (i + 1) := by
        rw [List.sum_append, hb2]
        cases bb <;> simp <;> omega
      have hl3 : (long ++ if bb = true then [p.m.bn] else []).length ≤ i + 1 := by
        rw [List.length_append]
        cases bb <;> simp <;> omega
      have hbl2 := bnS_le l (i + 1)
      revert hI' hfr hown2 hb3 hl3
      generalize (long ++ if bb = true then [p.m.bn] else []) = lo2
      intro hfr hI' hown2 hb3 hl3
      obtain ⟨n2, hn2⟩ : ∃ n2, n + k = n2 := ⟨_, rfl⟩
      rw [hn2] at hfr hI'
      have hlnl2 : lo2.length = ln2 := by have := OwnS.len hown2; simpa using this
      have htk : (lo2.take n2).sum ≤ lo2.sum := by have := sum_take_drop lo2 n2; omega
      have htk0 : (long.take n).sum ≤ long.sum := by have := sum_take_drop long n; omega
      have hpk := pAck_in htn
      have hack := hI'.ack
      have hnn := hI.nn
      have hn3 := hI'.nl
      have hcum : IntKind.i64.wrap (IntKind.u32.wrap (f1.c - IntKind.u32.wrap (first - 1))) = (n2 : Int) := by
        have e : Spn.u32 (Spn.u32 (Spn.u32 (first - 1) + n2) - Spn.u32 (first - 1)) = (n2 : Int) := by
          simp only [Spn.u32_eq]
          omega
        rw [show f1.c = Spn.u32 (Spn.u32 (first - 1) + n2) from hI'.c]
        rw [show IntKind.u32.wrap (Spn.u32 (Spn.u32 (first - 1) + n2) - IntKind.u32.wrap (first - 1)) = (n2 : Int) from e, i64_id (by omega) (by omega)]
      obtain ⟨hno1, hno2, hno3, hno4, hno5, hno6⟩ := hI'.now
      have hsn : f1.sn = ln2 - n2 := by
        have h1 := hf1.len
        have h2 : f1.S.L.length = f1.rs.length := by simp [FM.S]
        omega
      have hsm1 : f1.small := by
        show sumB _ f1.S.L ≤ _
        rw [← lens_sum, hI'.rest]
        have := sum_take_drop lo2 n2
        omega
      refine Fin.next ?_
      repeat refine W.seq ?_
      repeat' (first | refine S1 ?_ | refine SA (fun _ => ?_) | refine WL.g_split rfl rfl (fun hc => ?_) (fun hc => ?_) | refine WD.g_split rfl rfl (fun hc => ?_) (fun hc => ?_) | refine W.cond rfl (fun hc => ?_) (fun hc => ?_))
      rw [show IntKind.i64.wrap ((((long.take n).sum : Nat) : Int) + A.t.freed) = (((lo2.take n2).sum : Nat) : Int) by rw [hfr, i64_id (by omega) (by omega)]]
      refine W.loop (G := Nat) (fun q => [(1, .int .u32 first), (2, .slice (some ⟨ob, oo, none⟩) kn kc), (7, .pointer (some ⟨f1.R, 0, none⟩)), (9, .slice la2 ln2 lc2), (10, .int .i64 ((lo2.take n2).sum : Nat)), (11, .int .i64 (acked + pAck A.t q)), (12, .int .i64 i), (13, .pointer (some ⟨b13, 0, none⟩)), (14, .int .i64 q)])
        (fun _ => (b13, .cells (ansC A ua un uc).toArray 67 (0, 0)) :: (lb2 ++ f1.H)) (fun q => q ≤ 4) (fun q => 4 - q) 0 (Nat.zero_le _) (by rw [show acked + pAck A.t 0 = acked by simp [pAck]]; exact envA) (fun _ h => h) ?_
      intro q hq
      have hq4 : q = 0 ∨ q = 1 ∨ q = 2 ∨ q = 3 ∨ q = 4 := by omega
      rcases hq4 with rfl | rfl | rfl | rfl | rfl
      ·
        repeat' (first | refine S1 ?_ | refine SA (fun _ => ?_) | refine WL.g_split rfl rfl (fun hc => ?_) (fun hc => ?_) | refine WD.g_split rfl rfl (fun hc => ?_) (fun hc => ?_) | refine W.cond rfl (fun hc => ?_) (fun hc => ?_))
        refine WL.p rfl (Pu.iaA rfl rfl (by decide)) ?_
        repeat' (first | refine S1 ?_ | refine SA (fun _ => ?_) | refine WL.g_split rfl rfl (fun hc => ?_) (fun hc => ?_) | refine WD.g_split rfl rfl (fun hc => ?_) (fun hc => ?_) | refine W.cond rfl (fun hc => ?_) (fun hc => ?_))
        rw [show IntKind.i64.wrap (acked + pAck A.t 0 + A.t.p0.acked) = acked + pAck A.t 1 by have := hpk 1; rw [show acked + pAck A.t 0 + A.t.p0.acked = acked + pAck A.t 1 by simp [pAck]]; exact i64_id (by omega) (by omega)]
        exact Fin.round 1 (by decide) envA (fun _ h => h) (by decide)
      ·
        repeat' (first | refine S1 ?_ | refine SA (fun _ => ?_) | refine WL.g_split rfl rfl (fun hc => ?_) (fun hc => ?_) | refine WD.g_split rfl rfl (fun hc => ?_) (fun hc => ?_) | refine W.cond rfl (fun hc => ?_) (fun hc => ?_))
        refine WL.p rfl (Pu.iaA rfl rfl (by decide)) ?_
        repeat' (first | refine S1 ?_ | refine SA (fun _ => ?_) | refine WL.g_split rfl rfl (fun hc => ?_) (fun hc => ?_) | refine WD.g_split rfl rfl (fun hc => ?_) (fun hc => ?_) | refine W.cond rfl (fun hc => ?_) (fun hc => ?_))
        rw [show IntKind.i64.wrap (acked + pAck A.t 1 + A.t.p1.acked) = acked + pAck A.t 2 by have := hpk 2; rw [show acked + pAck A.t 1 + A.t.p1.acked = acked + pAck A.t 2 by simp [pAck]; omega]; exact i64_id (by omega) (by omega)]
        exact Fin.round 2 (by decide) envA (fun _ h => h) (by decide)
      ·
        repeat' (first | refine S1 ?_ | refine SA (fun _ => ?_) | refine WL.g_split rfl rfl (fun hc => ?_) (fun hc => ?_) | refine WD.g_split rfl rfl (fun hc => ?_) (fun hc => ?_) | refine W.cond rfl (fun hc => ?_) (fun hc => ?_))
        refine WL.p rfl (Pu.iaA rfl rfl (by decide)) ?_
        repeat' (first | refine S1 ?_ | refine SA (fun _ => ?_) | refine WL.g_split rfl rfl (fun hc => ?_) (fun hc => ?_) | refine WD.g_split rfl rfl (fun hc => ?_) (fun hc => ?_) | refine W.cond rfl (fun hc => ?_) (fun hc => ?_))
        rw [show IntKind.i64.wrap (acked + pAck A.t 2 + A.t.p2.acked) = acked + pAck A.t 3 by have := hpk 3; rw [show acked + pAck A.t 2 + A.t.p2.acked = acked + pAck A.t 3 by simp [pAck]; omega]; exact i64_id (by omega) (by omega)]
        exact Fin.round 3 (by decide) envA (fun _ h => h) (by decide)
      ·
        repeat' (first | refine S1 ?_ | refine SA (fun _ => ?_) | refine WL.g_split rfl rfl (fun hc => ?_) (fun hc => ?_) | refine WD.g_split rfl rfl (fun hc => ?_) (fun hc => ?_) | refine W.cond rfl (fun hc => ?_) (fun hc => ?_))
        refine WL.p rfl (Pu.iaA rfl rfl (by decide)) ?_
        repeat' (first | refine S1 ?_ | refine SA (fun _ => ?_) | refine WL.g_split rfl rfl (fun hc => ?_) (fun hc => ?_) | refine WD.g_split rfl rfl (fun hc => ?_) (fun hc => ?_) | refine W.cond rfl (fun hc => ?_) (fun hc => ?_))
        rw [show IntKind.i64.wrap (acked + pAck A.t 3 + A.t.p3.acked) = acked + pAck A.t 4 by have := hpk 4; rw [show acked + pAck A.t 3 + A.t.p3.acked = acked + pAck A.t 4 by simp [pAck]; omega]; exact i64_id (by omega) (by omega)]
        exact Fin.round 4 (by decide) envA (fun _ h => h) (by decide)
      rw [pAck_4]
      repeat' (first | refine S1 ?_ | refine SA (fun _ => ?_) | refine WL.g_split rfl rfl (fun hc => ?_) (fun hc => ?_) | refine WD.g_split rfl rfl (fun hc => ?_) (fun hc => ?_) | refine W.cond rfl (fun hc => ?_) (fun hc => ?_))
      refine WL.e rfl (Ef.callR (c := f1.H) (by exact rfl) (.last (.there (.right .all))) (cum_tr _ f1)) ?_
      rintro _ _ ⟨rfl, rfl⟩
      repeat' (first | refine S1 ?_ | refine SA (fun _ => ?_) | refine WL.g_split rfl rfl (fun hc => ?_) (fun hc => ?_) | refine WD.g_split rfl rfl (fun hc => ?_) (fun hc => ?_) | refine W.cond rfl (fun hc => ?_) (fun hc => ?_))
      · exfalso
        rw [hcum] at hc
        have := of_decide_eq_true hc
        omega
      rw [hcum]
      refine WL.e rfl (Ef.callR (c := f1.H) (by exact rfl) (.last (.there (.right .all))) (count_tr _ f1)) ?_
      rintro _ _ ⟨rfl, rfl⟩
      have hsub : IntKind.i64.wrap ((ln2 : Int) - (n2 : Int)) = ((ln2 - n2 : Nat) : Int) := by rw [i64_id (by omega) (by omega)]; omega
      rw [hsn]
      repeat' (first | refine S1 ?_ | refine SA (fun _ => ?_) | refine WL.g_split rfl rfl (fun hc => ?_) (fun hc => ?_) | refine WD.g_split rfl rfl (fun hc => ?_) (fun hc => ?_) | refine W.cond rfl (fun hc => ?_) (fun hc => ?_))
      · exfalso
        rw [hsub] at hc
        simp at hc
      refine W.loop (G := Nat) (fun q => [(1, .int .u32 first), (2, .slice (some ⟨ob, oo, none⟩) kn kc), (7, .pointer (some ⟨f1.R, 0, none⟩)), (9, .slice la2 ln2 lc2), (10, .int .i64 ((lo2.take n2).sum : Nat)), (11, .int .i64 (acked + ackSum A.t)), (12, .int .i64 i), (15, .int .i64 n2), (16, .int .i64 ((lo2.take (min q n2)).sum : Nat)), (17, .int .i64 ((lo2.take q).sum : Nat)), (18, .int .i64 q)])
        (fun _ => (b13, .cells (ansC A ua un uc).toArray 67 (0, 0)) :: (lb2 ++ f1.H)) (fun q => q ≤ ln2) (fun q => ln2 - q) 0 (Nat.zero_le _) (by rw [Nat.zero_min]; exact envA) (fun _ h => h) ?_
      intro q hq
      repeat' (first | refine S1 ?_ | refine SA (fun _ => ?_) | refine WL.g_split rfl rfl (fun hc => ?_) (fun hc => ?_) | refine WD.g_split rfl rfl (fun hc => ?_) (fun hc => ?_) | refine W.cond rfl (fun hc => ?_) (fun hc => ?_))
      · have hq' : q < ln2 := by have := of_decide_eq_true hc; omega
        obtain ⟨v, hv2⟩ : ∃ v, lo2[q]? = some v := ⟨lo2[q]'(by omega), by simp⟩
        obtain ⟨xb, xo, rfl, hcc⟩ := (Lst.own (F := F) (H := lb2) hown2 (fun _ h => h)).can (by omega)
        have hxc : Sl.Can F ((b13, .cells (ansC A ua un uc).toArray 67 (0, 0)) :: (lb2 ++ f1.H)) xb (xo + (q : Int).toNat * 1) [.int .i64 (v : Int)] := by
          have := hcc.one (i := q) (v := lI v) (by rw [List.getElem?_map, hv2]; rfl)
          rw [show xo + (q : Int).toNat * 1 = xo + q by omega]
          exact this.mono (fun _ h => h.sublist (.cons _ (List.sublist_append_left _ _)))
        have hqa : 0 ≤ (q : Int) ∧ (q : Int) < ln2 := by omega
        have hs1 := sum_succ hv2
        have hs2 : (lo2.take (q + 1)).sum ≤ lo2.sum := by have := sum_take_drop lo2 (q + 1); omega
        have hw1 : IntKind.i64.wrap ((((lo2.take q).sum : Nat) : Int) + (v : Int)) = (((lo2.take (q + 1)).sum : Nat) : Int) := by rw [i64_id (by omega) (by omega)]; omega
        repeat' (first | refine S1 ?_ | refine SA (fun _ => ?_) | refine WL.g_split rfl rfl (fun hc => ?_) (fun hc => ?_) | refine WD.g_split rfl rfl (fun hc => ?_) (fun hc => ?_) | refine W.cond rfl (fun hc => ?_) (fun hc => ?_))
        · have hqn : q < n2 := by have := of_decide_eq_true hc; omega
          rw [show min q n2 = q by omega, hw1, i64_succ (by omega)]
          exact Fin.round (q + 1) hq' (by rw [show min (q + 1) n2 = q + 1 by omega]; exact envA) (fun _ h => h) (by omega)
        · have hqn : ¬ q < n2 := by have := of_decide_eq_false hc; omega
          rw [hw1, i64_succ (by omega)]
          exact Fin.round (q + 1) hq' (by rw [show min (q + 1) n2 = min q n2 by omega]; exact envA) (fun _ h => h) (by omega)
      have hql : q = ln2 := by have := of_decide_eq_false (p := (q : Int) < (ln2 : Int)) (by assumption); omega
      subst hql
      rw [show min q n2 = n2 by omega, List.take_of_length_le (l := lo2) (i := q) (by omega)]
      refine W.loop (G := Nat) (fun r => [(1, .int .u32 first), (2, .slice (some ⟨ob, oo, none⟩) kn kc), (7, .pointer (some ⟨f1.R, 0, none⟩)), (9, .slice la2 q lc2), (10, .int .i64 ((lo2.take n2).sum : Nat)), (11, .int .i64 (acked + ackSum A.t)), (12, .int .i64 i), (16, .int .i64 ((lo2.take n2).sum : Nat)), (17, .int .i64 (lo2.sum : Nat)), (19, .int .i64 (pOut f1.S r : Nat)), (20, .int .i64 r)])
        (fun _ => (b13, .cells (ansC A ua un uc).toArray 67 (0, 0)) :: (lb2 ++ f1.H)) (fun r => r ≤ 4) (fun r => 4 - r) 0 (Nat.zero_le _) envA (fun _ h => h) ?_
      intro r hr
      have hpo := pOut_le f1.S
      have hr4 : r = 0 ∨ r = 1 ∨ r = 2 ∨ r = 3 ∨ r = 4 := by omega
      rcases hr4 with rfl | rfl | rfl | rfl | rfl
      ·
        repeat' (first | refine S1 ?_ | refine SA (fun _ => ?_) | refine WL.g_split rfl rfl (fun hc => ?_) (fun hc => ?_) | refine WD.g_split rfl rfl (fun hc => ?_) (fun hc => ?_) | refine W.cond rfl (fun hc => ?_) (fun hc => ?_))
        refine WL.e rfl (Ef.callR (c := f1.H) (by exact rfl) (.last (.there (.right .all))) (out_tr _ f1 hf1 hsm1 _)) ?_
        rintro _ _ ⟨rfl, rfl⟩
        repeat' (first | refine S1 ?_ | refine SA (fun _ => ?_) | refine WL.g_split rfl rfl (fun hc => ?_) (fun hc => ?_) | refine WD.g_split rfl rfl (fun hc => ?_) (fun hc => ?_) | refine W.cond rfl (fun hc => ?_) (fun hc => ?_))
        refine WL.e rfl (Ef.callR (c := f1.H) (by exact rfl) (.last (.there (.right .all))) (out_tr _ f1 hf1 hsm1 _)) ?_
        rintro _ _ ⟨rfl, rfl⟩
        repeat' (first | refine S1 ?_ | refine SA (fun _ => ?_) | refine WL.g_split rfl rfl (fun hc => ?_) (fun hc => ?_) | refine WD.g_split rfl rfl (fun hc => ?_) (fun hc => ?_) | refine W.cond rfl (fun hc => ?_) (fun hc => ?_))
        rw [show IntKind.i64.wrap ((pOut f1.S 0 : Nat) + (Flt.out f1.S ((0 : Nat) : Int) : Nat)) = ((pOut f1.S 1 : Nat) : Int) by have := hpo 1; rw [show ((pOut f1.S 0 : Nat) : Int) + (Flt.out f1.S ((0 : Nat) : Int) : Nat) = (pOut f1.S 1 : Nat) by simp [pOut]]; exact i64_id (by omega) (by omega)]
        exact Fin.round 1 (by decide) envA (fun _ h => h) (by decide)
      ·
        repeat' (first | refine S1 ?_ | refine SA (fun _ => ?_) | refine WL.g_split rfl rfl (fun hc => ?_) (fun hc => ?_) | refine WD.g_split rfl rfl (fun hc => ?_) (fun hc => ?_) | refine W.cond rfl (fun hc => ?_) (fun hc => ?_))
        refine WL.e rfl (Ef.callR (c := f1.H) (by exact rfl) (.last (.there (.right .all))) (out_tr _ f1 hf1 hsm1 _)) ?_
        rintro _ _ ⟨rfl, rfl⟩
        repeat' (first | refine S1 ?_ | refine SA (fun _ => ?_) | refine WL.g_split rfl rfl (fun hc => ?_) (fun hc => ?_) | refine WD.g_split rfl rfl (fun hc => ?_) (fun hc => ?_) | refine W.cond rfl (fun hc => ?_) (fun hc => ?_))
        refine WL.e rfl (Ef.callR (c := f1.H) (by exact rfl) (.last (.there (.right .all))) (out_tr _ f1 hf1 hsm1 _)) ?_
        rintro _ _ ⟨rfl, rfl⟩
        repeat' (first | refine S1 ?_ | refine SA (fun _ => ?_) | refine WL.g_split rfl rfl (fun hc => ?_) (fun hc => ?_) | refine WD.g_split rfl rfl (fun hc => ?_) (fun hc => ?_) | refine W.cond rfl (fun hc => ?_) (fun hc => ?_))
        rw [show IntKind.i64.wrap ((pOut f1.S 1 : Nat) + (Flt.out f1.S ((1 : Nat) : Int) : Nat)) = ((pOut f1.S 2 : Nat) : Int) by have := hpo 2; rw [show ((pOut f1.S 1 : Nat) : Int) + (Flt.out f1.S ((1 : Nat) : Int) : Nat) = (pOut f1.S 2 : Nat) by simp [pOut]]; exact i64_id (by omega) (by omega)]
        exact Fin.round 2 (by decide) envA (fun _ h => h) (by decide)
      ·
        repeat' (first | refine S1 ?_ | refine SA (fun _ => ?_) | refine WL.g_split rfl rfl (fun hc => ?_) (fun hc => ?_) | refine WD.g_split rfl rfl (fun hc => ?_) (fun hc => ?_) | refine W.cond rfl (fun hc => ?_) (fun hc => ?_))
        refine WL.e rfl (Ef.callR (c := f1.H) (by exact rfl) (.last (.there (.right .all))) (out_tr _ f1 hf1 hsm1 _)) ?_
        rintro _ _ ⟨rfl, rfl⟩
        repeat' (first | refine S1 ?_ | refine SA (fun _ => ?_) | refine WL.g_split rfl rfl (fun hc => ?_) (fun hc => ?_) | refine WD.g_split rfl rfl (fun hc => ?_) (fun hc => ?_) | refine W.cond rfl (fun hc => ?_) (fun hc => ?_))
        refine WL.e rfl (Ef.callR (c := f1.H) (by exact rfl) (.last (.there (.right .all))) (out_tr _ f1 hf1 hsm1 _)) ?_
        rintro _ _ ⟨rfl, rfl⟩
        repeat' (first | refine S1 ?_ | refine SA (fun _ => ?_) | refine WL.g_split rfl rfl (fun hc => ?_) (fun hc => ?_) | refine WD.g_split rfl rfl (fun hc => ?_) (fun hc => ?_) | refine W.cond rfl (fun hc => ?_) (fun hc => ?_))
        rw [show IntKind.i64.wrap ((pOut f1.S 2 : Nat) + (Flt.out f1.S ((2 : Nat) : Int) : Nat)) = ((pOut f1.S 3 : Nat) : Int) by have := hpo 3; rw [show ((pOut f1.S 2 : Nat) : Int) + (Flt.out f1.S ((2 : Nat) : Int) : Nat) = (pOut f1.S 3 : Nat) by simp [pOut]]; exact i64_id (by omega) (by omega)]
        exact Fin.round 3 (by decide) envA (fun _ h => h) (by decide)
      ·
        repeat' (first | refine S1 ?_ | refine SA (fun _ => ?_) | refine WL.g_split rfl rfl (fun hc => ?_) (fun hc => ?_) | refine WD.g_split rfl rfl (fun hc => ?_) (fun hc => ?_) | refine W.cond rfl (fun hc => ?_) (fun hc => ?_))
        refine WL.e rfl (Ef.callR (c := f1.H) (by exact rfl) (.last (.there (.right .all))) (out_tr _ f1 hf1 hsm1 _)) ?_
        rintro _ _ ⟨rfl, rfl⟩
        repeat' (first | refine S1 ?_ | refine SA (fun _ => ?_) | refine WL.g_split rfl rfl (fun hc => ?_) (fun hc => ?_) | refine WD.g_split rfl rfl (fun hc => ?_) (fun hc => ?_) | refine W.cond rfl (fun hc => ?_) (fun hc => ?_))
        refine WL.e rfl (Ef.callR (c := f1.H) (by exact rfl) (.last (.there (.right .all))) (out_tr _ f1 hf1 hsm1 _)) ?_
        rintro _ _ ⟨rfl, rfl⟩
        repeat' (first | refine S1 ?_ | refine SA (fun _ => ?_) | refine WL.g_split rfl rfl (fun hc => ?_) (fun hc => ?_) | refine WD.g_split rfl rfl (fun hc => ?_) (fun hc => ?_) | refine W.cond rfl (fun hc => ?_) (fun hc => ?_))
        rw [show IntKind.i64.wrap ((pOut f1.S 3 : Nat) + (Flt.out f1.S ((3 : Nat) : Int) : Nat)) = ((pOut f1.S 4 : Nat) : Int) by have := hpo 4; rw [show ((pOut f1.S 3 : Nat) : Int) + (Flt.out f1.S ((3 : Nat) : Int) : Nat) = (pOut f1.S 4 : Nat) by simp [pOut]]; exact i64_id (by omega) (by omega)]
        exact Fin.round 4 (by decide) envA (fun _ h => h) (by decide)
      rw [pOut_4, hno1]
      have hw1 : IntKind.i64.wrap (((sumB away f1.S.L : Nat) : Int) + (((lo2.take n2).sum : Nat) : Int)) = ((sumB away f1.S.L + (lo2.take n2).sum : Nat) : Int) := by rw [i64_id (by omega) (by omega)]; omega
      have hw2 : IntKind.i64.wrap (((sumB away f1.S.L : Nat) : Int) + (acked + ackSum A.t)) = ((sumB away f1.S.L : Nat) : Int) + (acked + ackSum A.t) := by have := hI'.nn; exact i64_id (by omega) (by omega)
      have hw3 : IntKind.i64.wrap (((openB f1.S : Nat) : Int) + (((lo2.take n2).sum : Nat) : Int)) = ((openB f1.S + (lo2.take n2).sum : Nat) : Int) := by rw [i64_id (by omega) (by omega)]; omega
      repeat' (first | refine S1 ?_ | refine SA (fun _ => ?_) | refine WL.g_split rfl rfl (fun hc => ?_) (fun hc => ?_) | refine WD.g_split rfl rfl (fun hc => ?_) (fun hc => ?_) | refine W.cond rfl (fun hc => ?_) (fun hc => ?_))
      · exfalso
        simp at hc
      · exfalso
        have := of_decide_eq_true hc
        omega
      · exfalso
        rw [hw1] at hc
        have := of_decide_eq_true hc
        omega
      · exfalso
        rw [hw2] at hc
        have := of_decide_eq_true hc
        omega
      refine WL.e rfl (Ef.callR (c := f1.H) (by exact rfl) (.last (.there (.right .all))) (openB_tr _ f1 hf1 hsm1)) ?_
      rintro _ _ ⟨rfl, rfl⟩
      repeat' (first | refine S1 ?_ | refine SA (fun _ => ?_) | refine WL.g_split rfl rfl (fun hc => ?_) (fun hc => ?_) | refine WD.g_split rfl rfl (fun hc => ?_) (fun hc => ?_) | refine W.cond rfl (fun hc => ?_) (fun hc => ?_))
      · exfalso
        have := of_decide_eq_true hc
        omega
      refine WL.e rfl (Ef.callR (c := f1.H) (by exact rfl) (.last (.there (.right .all))) (openB_tr _ f1 hf1 hsm1)) ?_
      rintro _ _ ⟨rfl, rfl⟩
      repeat' (first | refine S1 ?_ | refine SA (fun _ => ?_) | refine WL.g_split rfl rfl (fun hc => ?_) (fun hc => ?_) | refine WD.g_split rfl rfl (fun hc => ?_) (fun hc => ?_) | refine W.cond rfl (fun hc => ?_) (fun hc => ?_))
      · exfalso
        rw [hw3] at hc
        have := of_decide_eq_true hc
        omega
      rw [i64_succ (by omega)]
      exact Fin.round ⟨i + 1, f1, lo2, n2, acked + ackSum A.t, la2, q, lc2, lb2⟩ ⟨hi', hf1, rfl, hI', hl3, hb3, hown2⟩ envA (fun _ h => h.sublist (.cons _ (.refl _))) (by dsimp only; omega)
  ·
    refine WL.e rfl (Ef.call (c := []) (by exact rfl) (.nil _) (works_tr _)) ?_
    rintro _ _ ⟨_, ⟨rfl, rfl⟩, rfl⟩
    rw [List.nil_append]
    repeat' (first | refine S1 ?_ | refine SD ?_ | refine SA (fun _ => ?_) | refine WL.g_split rfl rfl (fun hc => ?_) (fun hc => ?_) | refine WD.g_split rfl rfl (fun hc => ?_) (fun hc => ?_) | refine W.cond rfl (fun hc => ?_) (fun hc => ?_))
    exact Fin.retW (by exact rfl) resA (H' := []) (fun _ h => h.sublist (List.nil_sublist _)) ⟨rfl, rfl⟩
end Go.Proofs.Ytglobldnockdoaa
