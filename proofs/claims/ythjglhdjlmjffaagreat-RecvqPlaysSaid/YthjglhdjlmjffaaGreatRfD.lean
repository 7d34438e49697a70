/- The document's reassembler's method 'Put', walked. Conditions: the ranges of the piece; few pieces. -/
import Derived.Test.YthjglhdjlmjffaaGreatRfC
namespace Go.Proofs.YthjglhdjlmjffaaGreat
open Go Go.Sl Go.Rm

theorem RF.ok.more {s : RF} (h : s.ok) {d : D} {sa : Option Addr} {sn sc : Nat} {hb : HL} (hown : OwnS 5 1 (d.bytes.map B) (.slice sa sn sc) hb) (hat : at? s.L d.tsn = none) (h32 : 0 ≤ d.tsn ∧ d.tsn < 4294967296) (hfew : s.ps.length + s.ms.length < 1000) (htot : totD s.L + totM s.row + d.bytes.length ≤ 1000000000)
    {la : Option Addr} {ln lc : Nat} {lhb : HL} (hl : OwnS 48 7 (s.ps.flatMap Pd.cells ++ (⟨d, sa, sn, sc, hb⟩ : Pd).cells) (.slice la ln lc) lhb) : ({ s with ps := s.ps ++ [⟨d, sa, sn, sc, hb⟩], la := la, ln := ln, lc := lc, lhb := lhb } : RF).ok := by
  have hg := Rm.good.add h.good h32 hat (by have := h.good.few; simp [RF.L]; omega)
  refine ⟨fun q hq => ?_, h.mok, by simpa using hl, h.row, by simpa [RF.L] using hg.keys, fun q hq => ?_, by simp; omega, ?_⟩
  · rcases List.mem_append.1 hq with hq | hq
    · exact h.pok q hq
    · rw [List.mem_singleton] at hq; subst hq; exact hown
  · rcases List.mem_append.1 hq with hq | hq
    · exact h.wf q hq
    · rw [List.mem_singleton] at hq; subst hq; exact h32
  · dsimp only [RF.L, RF.row] at htot ⊢
    simp only [totD, List.map_append, List.map_cons, List.map_nil, List.sum_append, List.sum_cons, List.sum_nil] at htot ⊢
    omega
/-- what 'Put' answers and leaves -/
def RPutQ (s : RF) (d : D) (v : Value) (H : HL) : Prop := v = .int .i64 (putE s.S d) ∧ ∃ s' : RF, s'.ok ∧ H = s'.H ∧ s'.R = s.R ∧ s'.S = Rm.put s.S d ∧ s'.nx.length = s.nx.length
theorem RPutQ.same {s : RF} (hs : s.ok) {d : D} {e : Int} (h : putE s.S d = e) (h0 : e ≠ 0) : RPutQ s d (.int .i64 e) s.H :=
  ⟨by rw [h], s, hs, rfl, rfl, by unfold Rm.put; rw [if_neg (by rw [h]; exact h0)], rfl⟩
theorem putE_RF (s : RF) (d : D) : putE s.S d = if d.stream ≥ s.nx.length then 4 else if d.bytes = [] then 5 else if !d.un && Rm.less16 d.ssn (s.nx.getD d.stream.toNat 0) then 1 else if (at? s.L d.tsn).isSome then 1 else 0 := rfl
theorem RF.HX (s : RF) : s.H = (s.R, .cells [.slice s.la s.ln s.lc, .slice (some ⟨s.N, 0, none⟩) s.nx.length s.nx.length, .slice s.ra s.rn s.rc].toArray 109 (0, 0)) :: (s.N, .cells (s.nx.map (Value.int .u16)).toArray 36 (0, 0)) ::
    (s.rhb ++ (s.lhb ++ (s.ms.flatMap (·.hb) ++ s.ps.flatMap (·.hb)))) := rfl
theorem wholeIx_pos {L : List D} {p : D} {wn : Nat} (h : (ixV (wholeIx L p)).length = wn * 1) : (wn = 0 ∧ whole L p = none) ∨ (0 < wn ∧ ∃ f l, whole L p = some (f, l) ∧ wholeIx L p = (run f (u32 (l - f)).toNat).map (ixAt L)) := by
  unfold wholeIx at h ⊢
  cases hc : whole L p with
  | none => rw [hc] at h; simp [ixV] at h; exact .inl ⟨by omega, rfl⟩
  | some q =>
    obtain ⟨f, l⟩ := q
    rw [hc] at h
    simp [ixV, run] at h
    exact .inr ⟨by omega, f, l, rfl, rfl⟩
set_option maxHeartbeats 8000000 in
theorem rput_tr (F : Nat → Option Obj) (s : RF) (hs : s.ok) (d : D) (sa : Option Addr) (m sc : Nat) (hsrc : Src F [] (.slice sa m sc) m (d.bytes.map B)) (hm : d.bytes.length = m)
    (hst : 0 ≤ d.stream ∧ d.stream < 65536) (h32 : 0 ≤ d.tsn ∧ d.tsn < 4294967296) (hfew : s.ps.length + s.ms.length < 1000) (htot : totD s.L + totM s.row + d.bytes.length ≤ 1000000000) (h10 : s.nx.length < 1000000) :
    Tr Tryz.prog 64 [.pointer (some ⟨s.R, 0, none⟩), .agg (dCells d (.slice sa m sc)).toArray].toArray F s.H (RPutQ s d) := by
  have hsee : Sees F s.H s := RF.sees hs
  have hLl : s.L.length = s.ps.length := by simp [RF.L]
  refine Tr.enter Tryz.func64 rfl Tryz.ntmps64 rfl (fun w0 => ?_)
  have hw : IntKind.i64.wrap d.stream = d.stream := i64_id (by omega) (by omega)
  rw [RF.HX]
  unfold dCells
  repeat' (first | refine S1 ?_ | refine SD ?_ | refine SA (fun _ => ?_) | refine WL.g_split rfl rfl (fun hc => ?_) (fun hc => ?_) | refine WD.g_split rfl rfl (fun hc => ?_) (fun hc => ?_) | refine W.cond rfl (fun hc => ?_) (fun hc => ?_))
  · refine Fin.retW (by exact rfl) resA (H' := s.H) (fun _ h => h.sublist (.cons _ (.refl _))) (RPutQ.same (e := 4) hs ?_ (by decide))
    rw [hw] at hc
    rw [putE_RF, if_pos (of_decide_eq_true hc)]
  · refine Fin.retW (by exact rfl) resA (H' := s.H) (fun _ h => h.sublist (.cons _ (.refl _))) (RPutQ.same (e := 5) hs ?_ (by decide))
    rename_i b3 hc1
    rw [hw] at hc1
    rw [putE_RF, if_neg (of_decide_eq_false hc1), if_pos (List.eq_nil_of_length_eq_zero (by simp at hc; omega))]
  · rename_i b3 hc1
    rw [hw] at hc1
    have hst2 : 0 ≤ d.stream ∧ d.stream < s.nx.length := ⟨hst.1, by have := of_decide_eq_false hc1; omega⟩
    have hne : d.bytes ≠ [] := fun h => by rw [h] at hm; simp at hm; subst hm; simp at hc
    generalize hnxt : s.nx.getD d.stream.toNat 0 = nxt
    have hN : (s.nx.map (Value.int .u16))[0 + d.stream.toNat * 1]? = some (.int .u16 nxt) := by
      have hlt : d.stream.toNat < s.nx.length := by omega
      rw [Nat.zero_add, Nat.mul_one, List.getElem?_map, ← hnxt]
      simp [hlt]
    have hE : putE s.S d = if !d.un && Rm.less16 d.ssn nxt then 1 else if (at? s.L d.tsn).isSome then 1 else 0 := by
      rw [putE_RF, if_neg (by omega), if_neg hne, hnxt]
    clear hc hc1
    refine WD.e rfl (Ef.lookR (by exact rfl) (fun F' hw => rat_tr F' s (hsee.mono (fun w h => (hw w h).sublist (.cons _ (.refl _)))) (by omega) d.tsn)) ?_
    rintro _ _ ⟨rfl, rfl⟩
    refine ⟨Or.inr (fun _ h => h), ?_⟩
    cases hat : at? s.L d.tsn with
    | some e =>
      obtain ⟨i, hi, _⟩ := ix_some hat
      rw [hi]
      repeat' (first | refine S1 ?_ | refine SD ?_ | refine SA (fun _ => ?_) | refine WL.g_split rfl rfl (fun hc => ?_) (fun hc => ?_) | refine WD.g_split rfl rfl (fun hc => ?_) (fun hc => ?_) | refine W.cond rfl (fun hc => ?_) (fun hc => ?_))
      refine Fin.retW (by exact rfl) resA (H' := s.H) (fun _ h => h.sublist (.cons _ (.refl _))) (RPutQ.same (e := 1) hs ?_ (by decide))
      rw [hE, hat]
      simp
    | none =>
      rw [ix_none hat]
      rw [hat] at hE
      cases hun : d.un with
      | false =>
        rw [hun] at hE
        repeat' (first | refine S1 ?_ | refine SD ?_ | refine SA (fun _ => ?_) | refine WL.g_split rfl rfl (fun hc => ?_) (fun hc => ?_) | refine WD.g_split rfl rfl (fun hc => ?_) (fun hc => ?_) | refine W.cond rfl (fun hc => ?_) (fun hc => ?_))
        refine WD.e rfl (Ef.callR (by exact rfl) (.nil _) (rless16_tr _ d.ssn nxt)) ?_
        rintro _ _ ⟨rfl, rfl⟩
        refine ⟨Or.inr (fun _ h => h), ?_⟩
        repeat' (first | refine S1 ?_ | refine SD ?_ | refine SA (fun _ => ?_) | refine WL.g_split rfl rfl (fun hc => ?_) (fun hc => ?_) | refine WD.g_split rfl rfl (fun hc => ?_) (fun hc => ?_) | refine W.cond rfl (fun hc => ?_) (fun hc => ?_))
        · refine Fin.retW (by exact rfl) resA (H' := s.H) (fun _ h => h.sublist (.cons _ (.refl _))) (RPutQ.same (e := 1) hs ?_ (by decide))
          rw [hE, hc]
          simp
        have hE0 : putE s.S d = 0 := by rw [hE, hc]; simp
        rename_i b44
        refine WL.e rfl (Ef.app (m := m) (news := d.bytes.map B) (by exact rfl) (by exact rfl) rfl rfl (OwnS.empty 5 1 b44) (.pick .here (.nil _)) (Src.mono hsrc (fun _ h => h.sublist (List.nil_sublist _))) (by simp [hm]) (B_one _) (by simp; omega) (by simp [maxLen]; omega)) ?_
        rintro v' _ ⟨hb', hown', rfl⟩
        obtain ⟨sa', sn', sc', rfl, _, _⟩ := OwnS.shape hown'
        rw [List.nil_append] at hown'
        repeat' (first | refine S1 ?_ | refine SD ?_ | refine SA (fun _ => ?_) | refine WL.g_split rfl rfl (fun hc => ?_) (fun hc => ?_) | refine WD.g_split rfl rfl (fun hc => ?_) (fun hc => ?_) | refine W.cond rfl (fun hc => ?_) (fun hc => ?_))
        have hfl : (s.ps.flatMap Pd.cells).length = s.ps.length * 7 := flat_len' Pd.cells 7 (fun _ => rfl) _
        refine WD.e rfl (Ef.app (m := 1) (news := (⟨d, sa', sn', sc', hb'⟩ : Pd).cells) (by exact rfl) (by exact rfl) rfl rfl hs.lst (.last (.there (.right (.there (.there (.there (.right .here))))))) (Src.own (n := 7) (.here (by rw [← hun]; rfl))) rfl (by simp [Pd.cells, Pd.bv, Value.oneCell'])
          (by rw [hfl, show (⟨d, sa', sn', sc', hb'⟩ : Pd).cells.length = 7 from rfl]; omega) (by rw [hfl, show (⟨d, sa', sn', sc', hb'⟩ : Pd).cells.length = 7 from rfl]; simp only [maxLen]; omega)) ?_
        rintro vl _ ⟨lhb', hl', rfl⟩
        refine ⟨Or.inl (by kernel_rfl), ?_⟩
        obtain ⟨la', ln', lc', rfl, _, _⟩ := OwnS.shape hl'
        have hs1 := RF.ok.more hs hown' hat h32 hfew htot hl'
        generalize hs1e : ({ s with ps := s.ps ++ [⟨d, sa', sn', sc', hb'⟩], la := la', ln := ln', lc := lc', lhb := lhb' } : RF) = s1 at hs1
        have hS1 : s1.S = ⟨s.L ++ [d], s.row, s.nx⟩ := by subst hs1e; simp [RF.S, RF.L, RF.row]
        have hR1 : s1.R = s.R := by subst hs1e; rfl
        have hL1 : s1.L = s.L ++ [d] := congrArg Rm.S.L hS1
        have hrow1 : s1.row = s.row := congrArg Rm.S.row hS1
        have hnx1 : s1.nx = s.nx := congrArg Rm.S.nx hS1
        repeat' (first | refine S1 ?_ | refine SD ?_ | refine SA (fun _ => ?_) | refine WL.g_split rfl rfl (fun hc => ?_) (fun hc => ?_) | refine WD.g_split rfl rfl (fun hc => ?_) (fun hc => ?_) | refine W.cond rfl (fun hc => ?_) (fun hc => ?_))
        refine WL.weak (H' := s1.H) (fun w h => ?_) ?_
        · have h2 : In F ((s.R, .cells [.slice la' ln' lc', .slice (some ⟨s.N, 0, none⟩) s.nx.length s.nx.length, .slice s.ra s.rn s.rc].toArray 109 (0, 0)) :: (s.N, .cells (s.nx.map (Value.int .u16)).toArray 36 (0, 0)) :: (s.rhb ++ (lhb' ++ (s.ms.flatMap (·.hb) ++ (s.ps.flatMap (·.hb) ++ hb'))))) w :=
            In.of_sub (.pick (.right (.there (.right (.there .here)))) (.pick (.right (.there (.right (.there .here)))) (.pickL (.right (.there (.right (.there .here)))) (.pickL .here (.pickL (.there (.right (.there .here))) (.pickL (.there (.right (.there .all))) (.last (.there .here)))))))) h
          subst hs1e
          rw [RF.HX]
          simpa using h2
        rw [← hR1]
        refine WL.e rfl (Ef.call (by exact rfl) (.all _) (ron_tr _ s1 hs1 d.stream (by rw [hnx1]; exact hst2))) ?_
        rintro _ _ ⟨_, ⟨rfl, s', hs', rfl, hR', hS', hn'⟩, rfl⟩
        repeat' (first | refine S1 ?_ | refine SD ?_ | refine SA (fun _ => ?_) | refine WL.g_split rfl rfl (fun hc => ?_) (fun hc => ?_) | refine WD.g_split rfl rfl (fun hc => ?_) (fun hc => ?_) | refine W.cond rfl (fun hc => ?_) (fun hc => ?_))
        refine Fin.retW (by exact rfl) resA (H' := s'.H) (fun _ h => h.left) ⟨by rw [hE0]; rfl, s', hs', rfl, hR'.trans hR1, ?_, by rw [hn', hnx1]⟩
        rw [hS', hS1]
        unfold Rm.put
        rw [if_pos hE0]
        unfold put1
        rw [if_neg (by simp [hun])]
        rfl
      | true =>
        rw [hun] at hE
        have hE0 : putE s.S d = 0 := by rw [hE]; simp
        repeat' (first | refine S1 ?_ | refine SD ?_ | refine SA (fun _ => ?_) | refine WL.g_split rfl rfl (fun hc => ?_) (fun hc => ?_) | refine WD.g_split rfl rfl (fun hc => ?_) (fun hc => ?_) | refine W.cond rfl (fun hc => ?_) (fun hc => ?_))
        rename_i b44
        refine WL.e rfl (Ef.app (m := m) (news := d.bytes.map B) (by exact rfl) (by exact rfl) rfl rfl (OwnS.empty 5 1 b44) (.pick .here (.nil _)) (Src.mono hsrc (fun _ h => h.sublist (List.nil_sublist _))) (by simp [hm]) (B_one _) (by simp; omega) (by simp [maxLen]; omega)) ?_
        rintro v' _ ⟨hb', hown', rfl⟩
        obtain ⟨sa', sn', sc', rfl, _, _⟩ := OwnS.shape hown'
        rw [List.nil_append] at hown'
        repeat' (first | refine S1 ?_ | refine SD ?_ | refine SA (fun _ => ?_) | refine WL.g_split rfl rfl (fun hc => ?_) (fun hc => ?_) | refine WD.g_split rfl rfl (fun hc => ?_) (fun hc => ?_) | refine W.cond rfl (fun hc => ?_) (fun hc => ?_))
        have hfl : (s.ps.flatMap Pd.cells).length = s.ps.length * 7 := flat_len' Pd.cells 7 (fun _ => rfl) _
        refine WD.e rfl (Ef.app (m := 1) (news := (⟨d, sa', sn', sc', hb'⟩ : Pd).cells) (by exact rfl) (by exact rfl) rfl rfl hs.lst (.last (.there (.right (.there (.there (.there (.right .here))))))) (Src.own (n := 7) (.here (by rw [← hun]; rfl))) rfl (by simp [Pd.cells, Pd.bv, Value.oneCell'])
          (by rw [hfl, show (⟨d, sa', sn', sc', hb'⟩ : Pd).cells.length = 7 from rfl]; omega) (by rw [hfl, show (⟨d, sa', sn', sc', hb'⟩ : Pd).cells.length = 7 from rfl]; simp only [maxLen]; omega)) ?_
        rintro vl _ ⟨lhb', hl', rfl⟩
        refine ⟨Or.inl (by kernel_rfl), ?_⟩
        obtain ⟨la', ln', lc', rfl, _, _⟩ := OwnS.shape hl'
        have hs1 := RF.ok.more hs hown' hat h32 hfew htot hl'
        generalize hs1e : ({ s with ps := s.ps ++ [⟨d, sa', sn', sc', hb'⟩], la := la', ln := ln', lc := lc', lhb := lhb' } : RF) = s1 at hs1
        have hS1 : s1.S = ⟨s.L ++ [d], s.row, s.nx⟩ := by subst hs1e; simp [RF.S, RF.L, RF.row]
        have hR1 : s1.R = s.R := by subst hs1e; rfl
        have hL1 : s1.L = s.L ++ [d] := congrArg Rm.S.L hS1
        have hrow1 : s1.row = s.row := congrArg Rm.S.row hS1
        have hnx1 : s1.nx = s.nx := congrArg Rm.S.nx hS1
        repeat' (first | refine S1 ?_ | refine SD ?_ | refine SA (fun _ => ?_) | refine WL.g_split rfl rfl (fun hc => ?_) (fun hc => ?_) | refine WD.g_split rfl rfl (fun hc => ?_) (fun hc => ?_) | refine W.cond rfl (fun hc => ?_) (fun hc => ?_))
        refine WL.weak (H' := s1.H) (fun w h => ?_) ?_
        · have h2 : In F ((s.R, .cells [.slice la' ln' lc', .slice (some ⟨s.N, 0, none⟩) s.nx.length s.nx.length, .slice s.ra s.rn s.rc].toArray 109 (0, 0)) :: (s.N, .cells (s.nx.map (Value.int .u16)).toArray 36 (0, 0)) :: (s.rhb ++ (lhb' ++ (s.ms.flatMap (·.hb) ++ (s.ps.flatMap (·.hb) ++ hb'))))) w :=
            In.of_sub (.pick (.right (.there (.right (.there .here)))) (.pick (.right (.there (.right (.there .here)))) (.pickL (.right (.there (.right (.there .here)))) (.pickL .here (.pickL (.there (.right (.there .here))) (.pickL (.there (.right (.there .all))) (.last (.there .here)))))))) h
          subst hs1e
          rw [RF.HX]
          simpa using h2
        rw [← hR1]
        have hdm : d ∈ s1.L := by rw [hL1]; simp
        refine WL.e rfl (Ef.look (by exact rfl) (fun F' hw => rwhole_tr F' s1 ((RF.sees hs1).mono hw) (by have := hs1.few; omega) hs1.good.wf d.tsn d (at_of_mem hs1.good.keys hdm))) ?_
        rintro _ _ ⟨Hw, hown, rfl⟩
        obtain ⟨wa, wn, wc, rfl, hwl, _⟩ := OwnS.shape hown
        rcases wholeIx_pos hwl with ⟨rfl, hwh⟩ | ⟨hw0, f, l, hwh, hwx⟩
        · repeat' (first | refine S1 ?_ | refine SD ?_ | refine SA (fun _ => ?_) | refine WL.g_split rfl rfl (fun hc => ?_) (fun hc => ?_) | refine WD.g_split rfl rfl (fun hc => ?_) (fun hc => ?_) | refine W.cond rfl (fun hc => ?_) (fun hc => ?_))
          refine Fin.retW (by exact rfl) resA (H' := s1.H) (fun _ h => h.right) ⟨by rw [hE0]; rfl, s1, hs1, rfl, hR1, ?_, by rw [hnx1]⟩
          rw [hL1] at hwh
          unfold Rm.put
          rw [if_pos hE0]
          unfold put1
          dsimp only [RF.S]
          rw [if_pos hun, hwh, ← hS1]
          rfl
        · repeat' (first | refine S1 ?_ | refine SD ?_ | refine SA (fun _ => ?_) | refine WL.g_split rfl rfl (fun hc => ?_) (fun hc => ?_) | refine WD.g_split rfl rfl (fun hc => ?_) (fun hc => ?_) | refine W.cond rfl (fun hc => ?_) (fun hc => ?_))
          · rw [hwx] at hown
            refine WL.e rfl (Ef.call (by exact rfl) (.pickL (L := s1.H) (.right .all) (.last .here)) (rready_tr _ Hw s1 hs1 d hdm f l hwh wa wn wc hown)) ?_
            rintro _ _ ⟨_, ⟨rfl, s', hs', rfl, hR', hnx', hLr, hlt⟩, rfl⟩
            repeat' (first | refine S1 ?_ | refine SD ?_ | refine SA (fun _ => ?_) | refine WL.g_split rfl rfl (fun hc => ?_) (fun hc => ?_) | refine WD.g_split rfl rfl (fun hc => ?_) (fun hc => ?_) | refine W.cond rfl (fun hc => ?_) (fun hc => ?_))
            refine Fin.retW (by exact rfl) resA (H' := s'.H) (fun _ h => h.left) ⟨by rw [hE0]; rfl, s', hs', rfl, hR'.trans hR1, ?_, by rw [hnx', hnx1]⟩
            rw [hL1] at hwh
            have g1 := congrArg Prod.fst hLr
            have g2 := congrArg Prod.snd hLr
            dsimp only at g1 g2
            unfold Rm.put
            rw [if_pos hE0]
            unfold put1
            dsimp only [RF.S]
            rw [if_pos hun, hwh]
            dsimp only
            rw [g1, g2, hL1, hrow1, hnx', hnx1]
          · exfalso; simp at hc; omega
end Go.Proofs.YthjglhdjlmjffaaGreat
