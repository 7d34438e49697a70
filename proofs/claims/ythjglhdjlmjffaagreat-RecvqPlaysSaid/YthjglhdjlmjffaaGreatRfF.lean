/- The document's reassembler's method 'Skip', walked. Conditions: at most 1000 skips, and the next numbers are 16 bits. -/
import Derived.Test.YthjglhdjlmjffaaGreatRfE
namespace Go.Proofs.YthjglhdjlmjffaaGreat
open Go Go.Sl Go.Rm

theorem totD_sub {L L' : List D} (h : L'.Sublist L) : totD L' ≤ totD L := by
  unfold totD
  induction h with
  | slnil => exact Nat.le_refl _
  | cons a _ ih => simp only [List.map_cons, List.sum_cons]; omega
  | cons_cons a _ ih => simp only [List.map_cons, List.sum_cons]; omega
theorem RF.ok.filt {s : RF} (h : s.ok) (f : Pd → Bool) {la : Option Addr} {ln lc : Nat} {lhb : HL} (hl : OwnS 48 7 ((s.ps.filter f).flatMap Pd.cells) (.slice la ln lc) lhb) : ({ s with ps := s.ps.filter f, la := la, ln := ln, lc := lc, lhb := lhb } : RF).ok := by
  have hsub : (s.ps.filter f).Sublist s.ps := List.filter_sublist
  refine ⟨fun q hq => h.pok q (hsub.mem hq), h.mok, hl, h.row, h.keys.sublist ((hsub.map _).map _), fun q hq => h.wf q (hsub.mem hq), ?_, ?_⟩
  · have := h.few; have h2 := hsub.length_le; dsimp only; omega
  · have := h.fine
    have h2 := totD_sub (hsub.map (·.d))
    dsimp only [RF.L, RF.row] at this ⊢
    omega
def RSkipQ (s : RF) (cum : Int) (l : List Sk) (v : Value) (H : HL) : Prop := v = .int .i64 (skipE s.S l) ∧ ∃ s' : RF, s'.ok ∧ H = s'.H ∧ s'.R = s.R ∧ s'.S = Rm.skip s.S cum l ∧ s'.nx.length = s.nx.length
set_option maxHeartbeats 16000000 in
theorem rskip_tr (F : Nat → Option Obj) (s : RF) (hs : s.ok) (cum : Int) (l : List Sk) (ka : Option Addr) (kn kc : Nat) (hl : Lst F [] 2 (l.flatMap skCells) ka kn kc) (hk : ∀ k ∈ l, (0 ≤ k.st ∧ k.st < 65536) ∧ 0 ≤ k.n ∧ k.n < 65536)
    (hmany : kn ≤ 1000) (h16 : nx16 s.nx) (hnx : s.nx.length < 1000000) :
    Tr Tryz.prog 66 [.pointer (some ⟨s.R, 0, none⟩), .agg [.int .u32 cum, .slice ka kn kc].toArray].toArray F s.H (RSkipQ s cum l) := by
  have hsee : Sees F s.H s := RF.sees hs
  have hln := hsee.ln
  have hfew := hs.few
  have hkn : kn = l.length := by have := hl.len; rw [flat_len' skCells 2 (fun _ => rfl)] at this; omega
  refine Tr.enter Tryz.func66 rfl Tryz.ntmps66 rfl (fun w0 => ?_)
  repeat' (first | refine S1 ?_ | refine SD ?_ | refine SA (fun _ => ?_) | refine WL.g_split rfl rfl (fun hc => ?_) (fun hc => ?_) | refine WD.g_split rfl rfl (fun hc => ?_) (fun hc => ?_) | refine W.cond rfl (fun hc => ?_) (fun hc => ?_))
  rename_i b3
  refine W.loop (G := Nat) (fun i => [(0, .pointer (some ⟨s.R, 0, none⟩)), (3, .pointer (some ⟨b3, 0, none⟩)), (5, .int .i64 i)]) (fun i => (b3, .cells [.int .u32 cum, .slice ka kn kc].toArray 51 (0, 0)) :: s.H)
    (fun i => i ≤ kn ∧ (l.take i).any (fun k => decide (k.st ≥ s.nx.length)) = false) (fun i => kn - i) 0 ⟨Nat.zero_le _, by simp⟩ envA (fun _ h => h) ?_
  rintro i ⟨hi, hno⟩
  try dsimp only at hi hno ⊢
  rw [RF.HX]
  repeat' (first | refine S1 ?_ | refine SD ?_ | refine SA (fun _ => ?_) | refine WL.g_split rfl rfl (fun hc => ?_) (fun hc => ?_) | refine WD.g_split rfl rfl (fun hc => ?_) (fun hc => ?_) | refine W.cond rfl (fun hc => ?_) (fun hc => ?_))
  · have hi' : i < kn := by simp at hc; omega
    obtain ⟨k, hki⟩ : ∃ k, l[i]? = some k := ⟨l[i]'(by omega), by simp⟩
    have hkk := hk k (List.mem_of_getElem? hki)
    obtain ⟨b, off, rfl, hK⟩ := hl.el (fun _ => rfl) hki (by omega)
    have hK0 : Sl.Can F [] b (off + (i : Int).toNat * 2 + 0) [.int .u16 k.st] := hK.one (i := 0) rfl
    have hia : 0 ≤ (i : Int) ∧ (i : Int) < kn := by omega
    have hwk : IntKind.i64.wrap k.st = k.st := i64_id (by omega) (by omega)
    repeat' (first | refine S1 ?_ | refine SD ?_ | refine SA (fun _ => ?_) | refine WL.g_split rfl rfl (fun hc => ?_) (fun hc => ?_) | refine WD.g_split rfl rfl (fun hc => ?_) (fun hc => ?_) | refine W.cond rfl (fun hc => ?_) (fun hc => ?_))
    · refine Fin.retW (by exact rfl) resA (H' := s.H) (fun _ h => h.sublist (.cons _ (.refl _))) ?_
      have hE : skipE s.S l = 4 := by
        unfold skipE
        rw [if_pos]
        rw [hwk] at hc
        exact List.any_eq_true.2 ⟨k, List.mem_of_getElem? hki, hc⟩
      refine ⟨by rw [hE]; rfl, s, hs, rfl, rfl, ?_, rfl⟩
      unfold Rm.skip
      rw [if_neg (by rw [hE]; decide)]
    · rw [i64_succ (by omega)]
      refine Fin.round (i + 1) ⟨hi', ?_⟩ envA (fun _ h => h) (by omega)
      rw [any_take hki, hno]
      rw [hwk] at hc
      exact hc
  have hi' : i = l.length := by simp at hc; omega
  rw [hi', List.take_length] at hno
  have hE : skipE s.S l = 0 := by unfold skipE; rw [if_neg]; intro h; exact Bool.false_ne_true (hno.symm.trans h)
  have hst : ∀ k ∈ l, k.st < s.nx.length := fun k hk => by
    have := List.any_eq_false.1 hno k hk
    simpa using this
  clear hc hi hi' hno
  -- the parts of messages
  refine W.loop (G := RdG) (fun g => [(0, .pointer (some ⟨s.R, 0, none⟩)), (3, .pointer (some ⟨b3, 0, none⟩)), (6, .slice g.va g.vn g.vc), (7, .int .i64 g.k)]) (fun g => (b3, .cells [.int .u32 cum, .slice ka kn kc].toArray 51 (0, 0)) :: (g.vb ++ s.H))
    (fun g => g.k ≤ s.ps.length ∧ OwnS 48 7 (((s.ps.take g.k).filter (fun p => !doomP s.L cum p.d)).flatMap Pd.cells) (.slice g.va g.vn g.vc) g.vb) (fun g => s.ps.length - g.k) ⟨0, none, 0, 0, []⟩ ⟨Nat.zero_le _, .inl ⟨rfl, rfl, rfl⟩⟩ envA (fun _ h => h) ?_
  clear i
  rintro ⟨i, va, vn, vc, vb⟩ ⟨hi, hown⟩
  try dsimp only at hi hown ⊢
  have hflen : ((s.ps.take i).filter (fun p => !doomP s.L cum p.d)).length ≤ i := Nat.le_trans (List.length_filter_le _ _) (by rw [List.length_take]; omega)
  rw [RF.HX]
  repeat' (first | refine S1 ?_ | refine SD ?_ | refine SA (fun _ => ?_) | refine WL.g_split rfl rfl (fun hc => ?_) (fun hc => ?_) | refine WD.g_split rfl rfl (fun hc => ?_) (fun hc => ?_) | refine W.cond rfl (fun hc => ?_) (fun hc => ?_))
  · have hi' : i < s.ps.length := by simp at hc; omega
    obtain ⟨p, hp⟩ : ∃ p, s.ps[i]? = some p := ⟨s.ps[i]'hi', by simp⟩
    have hd : s.L[i]? = some p.d := by unfold RF.L; rw [List.getElem?_map, hp]; rfl
    obtain ⟨b, off, hla, hA⟩ := hsee.piece hp
    have hT : Sl.Can F s.H b (off + (i : Int).toNat * 7 + 0) [.int .u32 p.d.tsn] := hA.one (i := 0) rfl
    have hia : 0 ≤ (i : Int) ∧ (i : Int) < s.ln := by omega
    rw [hla]
    repeat' (first | refine S1 ?_ | refine SD ?_ | refine SA (fun _ => ?_) | refine WL.g_split rfl rfl (fun hc => ?_) (fun hc => ?_) | refine WD.g_split rfl rfl (fun hc => ?_) (fun hc => ?_) | refine W.cond rfl (fun hc => ?_) (fun hc => ?_))
    refine WL.s rfl (Rd.ldC (v := .int .u32 p.d.tsn) rfl (hT.mono (fun _ h => by rw [RF.HX, hla]; exact h.sublist (.cons _ (List.sublist_append_right _ _))))) ?_
    repeat' (first | refine S1 ?_ | refine SD ?_ | refine SA (fun _ => ?_) | refine WL.g_split rfl rfl (fun hc => ?_) (fun hc => ?_) | refine WD.g_split rfl rfl (fun hc => ?_) (fun hc => ?_) | refine W.cond rfl (fun hc => ?_) (fun hc => ?_))
    · have hne : p.d.tsn ≠ cum := by simpa using hc
      refine WL.e rfl (Ef.callR (by exact rfl) (.nil _) (rless32_tr _ p.d.tsn cum)) ?_
      rintro _ _ ⟨rfl, rfl⟩
      repeat' (first | refine S1 ?_ | refine SD ?_ | refine SA (fun _ => ?_) | refine WL.g_split rfl rfl (fun hc => ?_) (fun hc => ?_) | refine WD.g_split rfl rfl (fun hc => ?_) (fun hc => ?_) | refine W.cond rfl (fun hc => ?_) (fun hc => ?_))
      · have hkeep : doomP s.L cum p.d = false := by unfold doomP; simp at hc; simp [hc, hne]
        refine WL.s rfl (Rd.ldaC (r := p.cells) rfl rfl (hA.mono (fun _ h => by rw [RF.HX, hla]; exact h.sublist (.cons _ (List.sublist_append_right _ _))))) ?_
        repeat' (first | refine S1 ?_ | refine SD ?_ | refine SA (fun _ => ?_) | refine WL.g_split rfl rfl (fun hc => ?_) (fun hc => ?_) | refine WD.g_split rfl rfl (fun hc => ?_) (fun hc => ?_) | refine W.cond rfl (fun hc => ?_) (fun hc => ?_))
        refine WL.e rfl (Ef.app (m := 1) (news := p.cells) (by exact rfl) (by exact rfl) rfl rfl hown (.skip _ (.skip _ (.one _ _))) (Src.own (n := 7) (.here rfl)) rfl (by simp [Pd.cells, Pd.bv, Value.oneCell'])
          (by rw [flat_len' Pd.cells 7 (fun _ => rfl), show p.cells.length = 7 from rfl]; omega) (by rw [flat_len' Pd.cells 7 (fun _ => rfl), show p.cells.length = 7 from rfl]; simp only [maxLen]; omega)) ?_
        rintro v' _ ⟨vb', hown', rfl⟩
        obtain ⟨sa', sn', sc', rfl, _, _⟩ := OwnS.shape hown'
        rw [show ((s.ps.take i).filter (fun p => !doomP s.L cum p.d)).flatMap Pd.cells ++ p.cells = ((s.ps.take (i + 1)).filter (fun p => !doomP s.L cum p.d)).flatMap Pd.cells by rw [take_snoc hp, List.filter_append, List.filter_cons_of_pos (by simp [hkeep]), List.flatMap_append]; simp] at hown'
        repeat' (first | refine S1 ?_ | refine SD ?_ | refine SA (fun _ => ?_) | refine WL.g_split rfl rfl (fun hc => ?_) (fun hc => ?_) | refine WD.g_split rfl rfl (fun hc => ?_) (fun hc => ?_) | refine W.cond rfl (fun hc => ?_) (fun hc => ?_))
        rw [i64_succ (by omega)]
        refine Fin.round ⟨i + 1, sa', sn', sc', vb'⟩ ⟨hi', hown'⟩ envA (fun _ h => ?_) (by dsimp only; omega)
        exact In.of_sub (.pick (.right (.there .here)) (.pickL .here (.last (.there .all)))) h
      · have hcm : (p.d.tsn == cum || Rm.less32 p.d.tsn cum) = true := by simp at hc; simp [hc]
        refine WL.e rfl (Ef.look (by exact rfl) (fun F' hw => rwhole_tr F' s (hsee.mono (fun w h => by rw [RF.HX, hla]; exact (hw w h).sublist (.cons _ (List.sublist_append_right _ _)))) (by omega) hs.good.wf p.d.tsn p.d (at_of_mem hs.good.keys (List.mem_of_getElem? hd)))) ?_
        rintro _ _ ⟨Hw, hownW, rfl⟩
        obtain ⟨wa, wn, wc, rfl, hwl, _⟩ := OwnS.shape hownW
        refine WL.weak (fun _ h => h.right) ?_
        rcases wholeIx_pos hwl with ⟨rfl, hwh⟩ | ⟨hw0, f', l', hwh, _⟩
        · have hkeep : doomP s.L cum p.d = true := by unfold doomP; rw [hwh, hcm]; rfl
          repeat' (first | refine S1 ?_ | refine SD ?_ | refine SA (fun _ => ?_) | refine WL.g_split rfl rfl (fun hc => ?_) (fun hc => ?_) | refine WD.g_split rfl rfl (fun hc => ?_) (fun hc => ?_) | refine W.cond rfl (fun hc => ?_) (fun hc => ?_))
          rw [i64_succ (by omega)]
          refine Fin.round ⟨i + 1, va, vn, vc, vb⟩ ⟨hi', ?_⟩ envA (fun _ h => ?_) (by dsimp only; omega)
          · dsimp only
            rw [take_snoc hp, List.filter_append, List.filter_cons_of_neg (by simp [hkeep])]
            simpa using hown
          · exact h
        · have hkeep : doomP s.L cum p.d = false := by unfold doomP; rw [hwh]; simp
          repeat' (first | refine S1 ?_ | refine SD ?_ | refine SA (fun _ => ?_) | refine WL.g_split rfl rfl (fun hc => ?_) (fun hc => ?_) | refine WD.g_split rfl rfl (fun hc => ?_) (fun hc => ?_) | refine W.cond rfl (fun hc => ?_) (fun hc => ?_))
          ·
            refine WL.s rfl (Rd.ldaC (r := p.cells) rfl rfl (hA.mono (fun _ h => by rw [RF.HX, hla]; exact h.sublist (.cons _ (List.sublist_append_right _ _))))) ?_
            repeat' (first | refine S1 ?_ | refine SD ?_ | refine SA (fun _ => ?_) | refine WL.g_split rfl rfl (fun hc => ?_) (fun hc => ?_) | refine WD.g_split rfl rfl (fun hc => ?_) (fun hc => ?_) | refine W.cond rfl (fun hc => ?_) (fun hc => ?_))
            refine WL.e rfl (Ef.app (m := 1) (news := p.cells) (by exact rfl) (by exact rfl) rfl rfl hown (.skip _ (.skip _ (.one _ _))) (Src.own (n := 7) (.here rfl)) rfl (by simp [Pd.cells, Pd.bv, Value.oneCell'])
              (by rw [flat_len' Pd.cells 7 (fun _ => rfl), show p.cells.length = 7 from rfl]; omega) (by rw [flat_len' Pd.cells 7 (fun _ => rfl), show p.cells.length = 7 from rfl]; simp only [maxLen]; omega)) ?_
            rintro v' _ ⟨vb', hown', rfl⟩
            obtain ⟨sa', sn', sc', rfl, _, _⟩ := OwnS.shape hown'
            rw [show ((s.ps.take i).filter (fun p => !doomP s.L cum p.d)).flatMap Pd.cells ++ p.cells = ((s.ps.take (i + 1)).filter (fun p => !doomP s.L cum p.d)).flatMap Pd.cells by rw [take_snoc hp, List.filter_append, List.filter_cons_of_pos (by simp [hkeep]), List.flatMap_append]; simp] at hown'
            repeat' (first | refine S1 ?_ | refine SD ?_ | refine SA (fun _ => ?_) | refine WL.g_split rfl rfl (fun hc => ?_) (fun hc => ?_) | refine WD.g_split rfl rfl (fun hc => ?_) (fun hc => ?_) | refine W.cond rfl (fun hc => ?_) (fun hc => ?_))
            rw [i64_succ (by omega)]
            refine Fin.round ⟨i + 1, sa', sn', sc', vb'⟩ ⟨hi', hown'⟩ envA (fun _ h => ?_) (by dsimp only; omega)
            exact In.of_sub (.pick (.right (.there .here)) (.pickL .here (.last (.there .all)))) h
          · exfalso; simp at hc; omega
    · have hcm : (p.d.tsn == cum || Rm.less32 p.d.tsn cum) = true := by simp at hc; simp [hc]
      refine WL.e rfl (Ef.look (by exact rfl) (fun F' hw => rwhole_tr F' s (hsee.mono (fun w h => by rw [RF.HX, hla]; exact (hw w h).sublist (.cons _ (List.sublist_append_right _ _)))) (by omega) hs.good.wf p.d.tsn p.d (at_of_mem hs.good.keys (List.mem_of_getElem? hd)))) ?_
      rintro _ _ ⟨Hw, hownW, rfl⟩
      obtain ⟨wa, wn, wc, rfl, hwl, _⟩ := OwnS.shape hownW
      refine WL.weak (fun _ h => h.right) ?_
      rcases wholeIx_pos hwl with ⟨rfl, hwh⟩ | ⟨hw0, f', l', hwh, _⟩
      · have hkeep : doomP s.L cum p.d = true := by unfold doomP; rw [hwh, hcm]; rfl
        repeat' (first | refine S1 ?_ | refine SD ?_ | refine SA (fun _ => ?_) | refine WL.g_split rfl rfl (fun hc => ?_) (fun hc => ?_) | refine WD.g_split rfl rfl (fun hc => ?_) (fun hc => ?_) | refine W.cond rfl (fun hc => ?_) (fun hc => ?_))
        rw [i64_succ (by omega)]
        refine Fin.round ⟨i + 1, va, vn, vc, vb⟩ ⟨hi', ?_⟩ envA (fun _ h => ?_) (by dsimp only; omega)
        · dsimp only
          rw [take_snoc hp, List.filter_append, List.filter_cons_of_neg (by simp [hkeep])]
          simpa using hown
        · exact h
      · have hkeep : doomP s.L cum p.d = false := by unfold doomP; rw [hwh]; simp
        repeat' (first | refine S1 ?_ | refine SD ?_ | refine SA (fun _ => ?_) | refine WL.g_split rfl rfl (fun hc => ?_) (fun hc => ?_) | refine WD.g_split rfl rfl (fun hc => ?_) (fun hc => ?_) | refine W.cond rfl (fun hc => ?_) (fun hc => ?_))
        ·
          refine WL.s rfl (Rd.ldaC (r := p.cells) rfl rfl (hA.mono (fun _ h => by rw [RF.HX, hla]; exact h.sublist (.cons _ (List.sublist_append_right _ _))))) ?_
          repeat' (first | refine S1 ?_ | refine SD ?_ | refine SA (fun _ => ?_) | refine WL.g_split rfl rfl (fun hc => ?_) (fun hc => ?_) | refine WD.g_split rfl rfl (fun hc => ?_) (fun hc => ?_) | refine W.cond rfl (fun hc => ?_) (fun hc => ?_))
          refine WL.e rfl (Ef.app (m := 1) (news := p.cells) (by exact rfl) (by exact rfl) rfl rfl hown (.skip _ (.skip _ (.one _ _))) (Src.own (n := 7) (.here rfl)) rfl (by simp [Pd.cells, Pd.bv, Value.oneCell'])
            (by rw [flat_len' Pd.cells 7 (fun _ => rfl), show p.cells.length = 7 from rfl]; omega) (by rw [flat_len' Pd.cells 7 (fun _ => rfl), show p.cells.length = 7 from rfl]; simp only [maxLen]; omega)) ?_
          rintro v' _ ⟨vb', hown', rfl⟩
          obtain ⟨sa', sn', sc', rfl, _, _⟩ := OwnS.shape hown'
          rw [show ((s.ps.take i).filter (fun p => !doomP s.L cum p.d)).flatMap Pd.cells ++ p.cells = ((s.ps.take (i + 1)).filter (fun p => !doomP s.L cum p.d)).flatMap Pd.cells by rw [take_snoc hp, List.filter_append, List.filter_cons_of_pos (by simp [hkeep]), List.flatMap_append]; simp] at hown'
          repeat' (first | refine S1 ?_ | refine SD ?_ | refine SA (fun _ => ?_) | refine WL.g_split rfl rfl (fun hc => ?_) (fun hc => ?_) | refine WD.g_split rfl rfl (fun hc => ?_) (fun hc => ?_) | refine W.cond rfl (fun hc => ?_) (fun hc => ?_))
          rw [i64_succ (by omega)]
          refine Fin.round ⟨i + 1, sa', sn', sc', vb'⟩ ⟨hi', hown'⟩ envA (fun _ h => ?_) (by dsimp only; omega)
          exact In.of_sub (.pick (.right (.there .here)) (.pickL .here (.last (.there .all)))) h
        · exfalso; simp at hc; omega
  have hin : i = s.ps.length := by simp at hc; omega
  rw [hin, List.take_of_length_le (Nat.le_refl _)] at hown
  have hs1 := RF.ok.filt hs _ hown
  generalize hs1e : ({ s with ps := s.ps.filter (fun p => !doomP s.L cum p.d), la := va, ln := vn, lc := vc, lhb := vb } : RF) = s1 at hs1
  have hS1 : s1.S = parts s.S cum := by
    subst hs1e
    unfold parts
    dsimp only [RF.S, RF.L, RF.row]
    rw [List.filter_map]
    rfl
  have hR1 : s1.R = s.R := by subst hs1e; rfl
  have hnx1 : s1.nx = s.nx := by subst hs1e; rfl
  refine W.loop (G := Nat × RF) (fun g => [(0, .pointer (some ⟨s.R, 0, none⟩)), (3, .pointer (some ⟨b3, 0, none⟩)), (9, .int .i64 g.1)]) (fun g => (b3, .cells [.int .u32 cum, .slice ka kn kc].toArray 51 (0, 0)) :: g.2.H)
    (fun g => g.1 ≤ kn ∧ g.2.ok ∧ g.2.R = s.R ∧ g.2.nx.length = s.nx.length ∧ nx16 g.2.nx ∧ g.2.S = (l.take g.1).foldl (fun s k => skip1 s k.st k.n) (parts s.S cum)) (fun g => kn - g.1) (0, s1)
    ⟨Nat.zero_le _, hs1, hR1, by rw [hnx1], by rw [hnx1]; exact h16, hS1⟩ envA (fun w h => ?_) ?_
  · have h2 : In F ((b3, .cells [.int .u32 cum, .slice ka kn kc].toArray 51 (0, 0)) :: (s.R, .cells [.slice va vn vc, .slice (some ⟨s.N, 0, none⟩) s.nx.length s.nx.length, .slice s.ra s.rn s.rc].toArray 109 (0, 0)) :: (s.N, .cells (s.nx.map (Value.int .u16)).toArray 36 (0, 0)) :: (s.rhb ++ (vb ++ (s.ms.flatMap (·.hb) ++ s.ps.flatMap (·.hb))))) w :=
      In.of_sub (.pick .here (.pick (.right .here) (.pick (.right .here) (.pickL (L := s.rhb) (.right .here) (.pickL (L := vb) .here (.last (.right .all))))))) h
    subst hs1e
    rw [RF.HX]
    exact h2.sublist (.cons_cons _ (.cons_cons _ (.cons_cons _ ((List.Sublist.refl _).append ((List.Sublist.refl _).append ((List.Sublist.refl _).append (flat_sub _ List.filter_sublist)))))))
  clear hs1e hS1 hR1 hnx1 hs1 hin hc hown hflen hi hln hsee
  rintro ⟨i, g⟩ ⟨hi, hg, hgR, hgl, hg16, hgS⟩
  try dsimp only at hi hg hgR hgl hg16 hgS ⊢
  repeat' (first | refine S1 ?_ | refine SD ?_ | refine SA (fun _ => ?_) | refine WL.g_split rfl rfl (fun hc => ?_) (fun hc => ?_) | refine WD.g_split rfl rfl (fun hc => ?_) (fun hc => ?_) | refine W.cond rfl (fun hc => ?_) (fun hc => ?_))
  · have hi2 : i < kn := by simp at hc; omega
    obtain ⟨⟨st, to⟩, hki⟩ : ∃ k, l[i]? = some k := ⟨l[i]'(by omega), by simp⟩
    have hkm := List.mem_of_getElem? hki
    have hkk := hk _ hkm
    have hks := hst _ hkm
    dsimp only at hkk hks
    obtain ⟨b, off, rfl, hK⟩ := hl.el (fun _ => rfl) hki (by omega)
    have hK0 : Sl.Can F [] b (off + (i : Int).toNat * 2 + 0) [.int .u16 st] := hK.one (i := 0) rfl
    have hK1 : Sl.Can F [] b (off + (i : Int).toNat * 2 + 1) [.int .u16 to] := hK.one (i := 1) rfl
    have hia : 0 ≤ (i : Int) ∧ (i : Int) < kn := by omega
    have hst' : 0 ≤ st ∧ st < g.nx.length := by rw [hgl]; exact ⟨hkk.1.1, hks⟩
    rw [← hgR]
    rw [RF.HX g]
    generalize hnxt : g.nx.getD st.toNat 0 = nxt
    have hN : (g.nx.map (Value.int .u16))[0 + st.toNat * 1]? = some (.int .u16 nxt) := by
      have hlt : st.toNat < g.nx.length := by omega
      rw [Nat.zero_add, Nat.mul_one, List.getElem?_map, ← hnxt]
      simp [hlt]
    have hfold : (l.take (i + 1)).foldl (fun s k => skip1 s k.st k.n) (parts s.S cum) = skip1 g.S st to := by rw [List.take_add_one, hki, hgS]; simp
    have hsn : g.S.nx.getD st.toNat 0 = nxt := hnxt
    repeat' (first | refine S1 ?_ | refine SD ?_ | refine SA (fun _ => ?_) | refine WL.g_split rfl rfl (fun hc => ?_) (fun hc => ?_) | refine WD.g_split rfl rfl (fun hc => ?_) (fun hc => ?_) | refine W.cond rfl (fun hc => ?_) (fun hc => ?_))
    · have hne : nxt ≠ to := by simpa using hc
      refine WL.e rfl (Ef.callR (by exact rfl) (.nil _) (rless16_tr _ nxt to)) ?_
      rintro _ _ ⟨rfl, rfl⟩
      repeat' (first | refine S1 ?_ | refine SD ?_ | refine SA (fun _ => ?_) | refine WL.g_split rfl rfl (fun hc => ?_) (fun hc => ?_) | refine WD.g_split rfl rfl (fun hc => ?_) (fun hc => ?_) | refine W.cond rfl (fun hc => ?_) (fun hc => ?_))
      · have hls : Rm.less16 nxt to = false := by simpa using hc
        rw [i64_succ (by omega)]
        refine Fin.round (i + 1, g) ⟨hi2, hg, rfl, hgl, hg16, ?_⟩ envA (fun _ h => h) (by dsimp only; omega)
        dsimp only
        rw [hfold]
        unfold skip1
        rw [if_pos (by rw [hsn]; exact ⟨hne, hls⟩)]
      · have hgo : ¬ (nxt ≠ to ∧ Rm.less16 nxt to = false) := by simp at hc; simp [hc]
        have he : 0 ≤ u16 (to + 1) ∧ u16 (to + 1) < 65536 := by simp only [u16_eq]; omega
        have hsk := skip1_go g.S st to (by rw [hsn]; exact hgo)
        rw [hsn] at hsk
        generalize hq : upto ((u16 (u16 (to + 1) - nxt)).toNat + 1) g.S st (u16 (to + 1)) = q at hsk
        generalize hed : u16 (to + 1) = e at he hq
        have hed' : IntKind.u16.wrap (to + 1) = e := hed
        refine W.loop (G := RF) (fun _ => [(0, .pointer (some ⟨g.R, 0, none⟩)), (3, .pointer (some ⟨b3, 0, none⟩)), (9, .int .i64 i), (10, .int .u16 st), (11, .int .u16 to)]) (fun g2 => (b3, .cells [.int .u32 cum, .slice (some ⟨b, off, none⟩) kn kc].toArray 51 (0, 0)) :: g2.H)
          (fun g2 => g2.ok ∧ g2.R = g.R ∧ g2.nx.length = g.nx.length ∧ nx16 g2.nx ∧ ∃ n, (u16 (e - g2.nx.getD st.toNat 0)).toNat < n ∧ upto n g2.S st e = q) (fun g2 => (u16 (e - g2.nx.getD st.toNat 0)).toNat) g
          ⟨hg, rfl, rfl, hg16, _, by rw [hnxt]; exact Nat.lt_succ_self _, hq⟩ envA (fun _ h => h) ?_
        rintro g2 ⟨hg2, hg2R, hg2l, hg216, n, hn, hup⟩
        obtain ⟨n, rfl⟩ : ∃ m, n = m + 1 := ⟨n - 1, by omega⟩
        have hsee2 : Sees F g2.H g2 := RF.sees hg2
        rw [← hg2R, RF.HX g2]
        have hst2 : 0 ≤ st ∧ st < g2.nx.length := by rw [hg2l]; exact hst'
        have hgn := hg216.get st.toNat
        generalize hgnx : g2.nx.getD st.toNat 0 = x at hgn hn
        have hNg : (g2.nx.map (Value.int .u16))[0 + st.toNat * 1]? = some (.int .u16 x) := by
          have hlt : st.toNat < g2.nx.length := by omega
          rw [Nat.zero_add, Nat.mul_one, List.getElem?_map, ← hgnx]
          simp [hlt]
        have hP : spliceK (g2.nx.map (Value.int .u16)) (0 + st.toNat * 1) [.int .u16 (IntKind.u16.wrap (x + 1))] some = some ((g2.nx.set st.toNat (u16 (x + 1))).map (Value.int .u16)) := by
          rw [splice_one (by simp; omega), Nat.zero_add, Nat.mul_one, map_set16]
        have hget : (g2.nx.set st.toNat (u16 (x + 1))).getD st.toNat 0 = u16 (x + 1) := by
          have hlt : st.toNat < g2.nx.length := by omega
          simp [hlt]
        clear hN
        repeat' (first | refine S1 ?_ | refine SD ?_ | refine SA (fun _ => ?_) | refine WL.g_split rfl rfl (fun hc => ?_) (fun hc => ?_) | refine WD.g_split rfl rfl (fun hc => ?_) (fun hc => ?_) | refine W.cond rfl (fun hc => ?_) (fun hc => ?_))
        · have hne : x ≠ e := by rw [hed'] at hc; simpa using hc
          refine WL.e rfl (Ef.look (by exact rfl) (fun F' hw => rordered_tr F' g2 (hsee2.mono (fun w h => (hw w h).sublist (.cons _ (.refl _)))) hg2.good (by have := hg2.few; omega) st x)) ?_
          rintro _ _ ⟨Hw, hownW, rfl⟩
          obtain ⟨wa, wn, wc, rfl, hwl, _⟩ := OwnS.shape hownW
          rcases candIx_pos hwl with ⟨rfl, hcand⟩ | ⟨hw0, f, l', hcand⟩
          · refine WL.weak (fun _ h => h.right) ?_
            obtain ⟨g1, hg1e⟩ : ∃ g1, g1 = g2 := ⟨_, rfl⟩
            have hS1 : g1.S = wait g2.S st := by
              subst hg1e
              unfold wait
              rw [show cand g1.S.L st (g1.S.nx.getD st.toNat 0) = none by show cand g1.L st (g1.nx.getD st.toNat 0) = none; rw [hgnx]; exact hcand]
            have hg1 : g1.ok := by rw [hg1e]; exact hg2
            have hR1 : g1.R = g2.R := by rw [hg1e]
            have hnx1 : g1.nx = g2.nx := by rw [hg1e]
            have hh : ∀ w, In F ((b3, .cells [.int .u32 cum, .slice (some ⟨b, off, none⟩) kn kc].toArray 51 (0, 0)) :: g2.H) w → In F ((b3, .cells [.int .u32 cum, .slice (some ⟨b, off, none⟩) kn kc].toArray 51 (0, 0)) :: g1.H) w := fun _ h => by rw [hg1e]; exact h
            refine WL.weak hh ?_
            rw [RF.HX g1, hR1, hnx1]
            clear hg1e hh
            repeat' (first | refine S1 ?_ | refine SD ?_ | refine SA (fun _ => ?_) | refine WL.g_split rfl rfl (fun hc => ?_) (fun hc => ?_) | refine WD.g_split rfl rfl (fun hc => ?_) (fun hc => ?_) | refine W.cond rfl (fun hc => ?_) (fun hc => ?_))
            refine Fin.round ({ g1 with nx := g2.nx.set st.toNat (u16 (x + 1)) } : RF) ⟨hg1.nx _, hR1, by simp [hg2l], hg216.set _ _, n, ?_, ?_⟩ envA (fun _ h => ?_) ?_
            · dsimp only
              rw [hget]
              simp only [u16_eq] at hn ⊢
              omega
            · rw [← hup, upto, if_neg (by rw [show g2.S.nx.getD st.toNat 0 = x from hgnx]; exact hne), show g2.S.nx.getD st.toNat 0 = x from hgnx, ← hS1]
              congr 1
              dsimp only [RF.S, RF.L, RF.row]
              rw [hnx1]
            · rw [RF.HX]
              dsimp only
              rw [hR1, List.length_set]
              exact h
            · dsimp only
              rw [hget]
              simp only [u16_eq]
              omega
          · repeat' (first | refine S1 ?_ | refine SD ?_ | refine SA (fun _ => ?_) | refine WL.g_split rfl rfl (fun hc => ?_) (fun hc => ?_) | refine WD.g_split rfl rfl (fun hc => ?_) (fun hc => ?_) | refine W.cond rfl (fun hc => ?_) (fun hc => ?_))
            · obtain ⟨d, hdm, hdw, _⟩ := cand_mem hcand
              rw [candIx_some hcand] at hownW
              refine WL.e rfl (Ef.call (by exact rfl) (.pickL (L := g2.H) (.right (.there .all)) (.last .here)) (rready_tr _ Hw g2 hg2 d hdm f l' hdw wa wn wc hownW)) ?_
              rintro _ _ ⟨_, ⟨rfl, g1, hg1, rfl, hR1, hnx1, hLr, hlt⟩, rfl⟩
              refine WL.weak (H' := (b3, .cells [.int .u32 cum, .slice (some ⟨b, off, none⟩) kn kc].toArray 51 (0, 0)) :: g1.H) (fun _ h => In.of_sub (.pick (.right .here) (.last .here)) h) ?_
              have hS1 : g1.S = wait g2.S st := by
                unfold wait
                rw [show cand g2.S.L st (g2.S.nx.getD st.toNat 0) = some (f, l') by show cand g2.L st (g2.nx.getD st.toNat 0) = _; rw [hgnx]; exact hcand]
                have e1 := congrArg Prod.fst hLr
                have e2 := congrArg Prod.snd hLr
                dsimp only at e1 e2
                dsimp only [RF.S]
                rw [e1, e2, hnx1]
              rw [RF.HX g1, hR1, hnx1]
              repeat' (first | refine S1 ?_ | refine SD ?_ | refine SA (fun _ => ?_) | refine WL.g_split rfl rfl (fun hc => ?_) (fun hc => ?_) | refine WD.g_split rfl rfl (fun hc => ?_) (fun hc => ?_) | refine W.cond rfl (fun hc => ?_) (fun hc => ?_))
              refine Fin.round ({ g1 with nx := g2.nx.set st.toNat (u16 (x + 1)) } : RF) ⟨hg1.nx _, hR1, by simp [hg2l], hg216.set _ _, n, ?_, ?_⟩ envA (fun _ h => ?_) ?_
              · dsimp only
                rw [hget]
                simp only [u16_eq] at hn ⊢
                omega
              · rw [← hup, upto, if_neg (by rw [show g2.S.nx.getD st.toNat 0 = x from hgnx]; exact hne), show g2.S.nx.getD st.toNat 0 = x from hgnx, ← hS1]
                congr 1
                dsimp only [RF.S, RF.L, RF.row]
                rw [hnx1]
              · rw [RF.HX]
                dsimp only
                rw [hR1, List.length_set]
                exact h
              · dsimp only
                rw [hget]
                simp only [u16_eq]
                omega
            · exfalso; simp at hc; omega
        · have hxe : x = e := by rw [hed'] at hc; simpa using hc
          have hqg : g2.S = q := by
            rw [← hup, upto, if_pos (by rw [show g2.S.nx.getD st.toNat 0 = x from hgnx]; exact hxe)]
          refine W.loop (G := RdG) (fun v => [(0, .pointer (some ⟨g2.R, 0, none⟩)), (3, .pointer (some ⟨b3, 0, none⟩)), (9, .int .i64 i), (10, .int .u16 st), (13, .slice v.va v.vn v.vc), (14, .int .i64 v.k)]) (fun v => (b3, .cells [.int .u32 cum, .slice (some ⟨b, off, none⟩) kn kc].toArray 51 (0, 0)) :: (v.vb ++ g2.H))
            (fun v => v.k ≤ g2.ps.length ∧ OwnS 48 7 (((g2.ps.take v.k).filter (fun p => !doomS st x p.d)).flatMap Pd.cells) (.slice v.va v.vn v.vc) v.vb) (fun v => g2.ps.length - v.k) ⟨0, none, 0, 0, []⟩ ⟨Nat.zero_le _, .inl ⟨rfl, rfl, rfl⟩⟩ envA (fun _ h => h) ?_
          rintro ⟨j, va, vn, vc, vb⟩ ⟨hj, hown⟩
          try dsimp only at hj hown ⊢
          have hflen : ((g2.ps.take j).filter (fun p => !doomS st x p.d)).length ≤ j := Nat.le_trans (List.length_filter_le _ _) (by rw [List.length_take]; omega)
          have hfew2 := hg2.few
          have hln2 := hsee2.ln
          rw [RF.HX g2]
          clear hc
          repeat' (first | refine S1 ?_ | refine SD ?_ | refine SA (fun _ => ?_) | refine WL.g_split rfl rfl (fun hc => ?_) (fun hc => ?_) | refine WD.g_split rfl rfl (fun hc => ?_) (fun hc => ?_) | refine W.cond rfl (fun hc => ?_) (fun hc => ?_))
          · have hj' : j < g2.ps.length := by simp at hc; omega
            obtain ⟨p, hp⟩ : ∃ p, g2.ps[j]? = some p := ⟨g2.ps[j]'hj', by simp⟩
            obtain ⟨b', off', hla, hA⟩ := hsee2.piece hp
            have hia2 : 0 ≤ (j : Int) ∧ (j : Int) < g2.ln := by omega
            rw [hla]
            repeat' (first | refine S1 ?_ | refine SD ?_ | refine SA (fun _ => ?_) | refine WL.g_split rfl rfl (fun hc => ?_) (fun hc => ?_) | refine WD.g_split rfl rfl (fun hc => ?_) (fun hc => ?_) | refine W.cond rfl (fun hc => ?_) (fun hc => ?_))
            refine WL.s rfl (Rd.ldaC (r := p.cells) rfl rfl (hA.mono (fun _ h => by rw [RF.HX, hla]; exact h.sublist (.cons _ (List.sublist_append_right _ _))))) ?_
            unfold Pd.cells
            repeat' (first | refine S1 ?_ | refine SD ?_ | refine SA (fun _ => ?_) | refine WL.g_split rfl rfl (fun hc => ?_) (fun hc => ?_) | refine WD.g_split rfl rfl (fun hc => ?_) (fun hc => ?_) | refine W.cond rfl (fun hc => ?_) (fun hc => ?_))
            · have hkeep : doomS st x p.d = false := by unfold doomS; first | (simp at hc; simp [hc]; done) | (simp [hc]; done)
              refine WL.e rfl (Ef.app (m := 1) (news := p.cells) (by exact rfl) (by exact rfl) rfl rfl hown (.skip _ (.skip _ (.skip _ (.one _ _)))) (Src.own (n := 7) (.here rfl)) rfl (by simp [Pd.cells, Pd.bv, Value.oneCell'])
                (by rw [flat_len' Pd.cells 7 (fun _ => rfl), show p.cells.length = 7 from rfl]; omega) (by rw [flat_len' Pd.cells 7 (fun _ => rfl), show p.cells.length = 7 from rfl]; simp only [maxLen]; omega)) ?_
              rintro v' _ ⟨vb', hown', rfl⟩
              obtain ⟨sa', sn', sc', rfl, _, _⟩ := OwnS.shape hown'
              rw [show ((g2.ps.take j).filter (fun p => !doomS st x p.d)).flatMap Pd.cells ++ p.cells = ((g2.ps.take (j + 1)).filter (fun p => !doomS st x p.d)).flatMap Pd.cells by rw [take_snoc hp, List.filter_append, List.filter_cons_of_pos (by simp [hkeep]), List.flatMap_append]; simp] at hown'
              repeat' (first | refine S1 ?_ | refine SD ?_ | refine SA (fun _ => ?_) | refine WL.g_split rfl rfl (fun hc => ?_) (fun hc => ?_) | refine WD.g_split rfl rfl (fun hc => ?_) (fun hc => ?_) | refine W.cond rfl (fun hc => ?_) (fun hc => ?_))
              rw [i64_succ (by omega)]
              refine Fin.round ⟨j + 1, sa', sn', sc', vb'⟩ ⟨hj', hown'⟩ envA (fun _ h => ?_) (by dsimp only; omega)
              exact In.of_sub (.pick (.right (.there (.there .here))) (.pickL .here (.last (.there (.there .all))))) h
            · have hkeep : doomS st x p.d = false := by unfold doomS; first | (simp at hc; simp [hc]; done) | (simp [hc]; done)
              refine WL.e rfl (Ef.app (m := 1) (news := p.cells) (by exact rfl) (by exact rfl) rfl rfl hown (.skip _ (.skip _ (.skip _ (.one _ _)))) (Src.own (n := 7) (.here rfl)) rfl (by simp [Pd.cells, Pd.bv, Value.oneCell'])
                (by rw [flat_len' Pd.cells 7 (fun _ => rfl), show p.cells.length = 7 from rfl]; omega) (by rw [flat_len' Pd.cells 7 (fun _ => rfl), show p.cells.length = 7 from rfl]; simp only [maxLen]; omega)) ?_
              rintro v' _ ⟨vb', hown', rfl⟩
              obtain ⟨sa', sn', sc', rfl, _, _⟩ := OwnS.shape hown'
              rw [show ((g2.ps.take j).filter (fun p => !doomS st x p.d)).flatMap Pd.cells ++ p.cells = ((g2.ps.take (j + 1)).filter (fun p => !doomS st x p.d)).flatMap Pd.cells by rw [take_snoc hp, List.filter_append, List.filter_cons_of_pos (by simp [hkeep]), List.flatMap_append]; simp] at hown'
              repeat' (first | refine S1 ?_ | refine SD ?_ | refine SA (fun _ => ?_) | refine WL.g_split rfl rfl (fun hc => ?_) (fun hc => ?_) | refine WD.g_split rfl rfl (fun hc => ?_) (fun hc => ?_) | refine W.cond rfl (fun hc => ?_) (fun hc => ?_))
              rw [i64_succ (by omega)]
              refine Fin.round ⟨j + 1, sa', sn', sc', vb'⟩ ⟨hj', hown'⟩ envA (fun _ h => ?_) (by dsimp only; omega)
              exact In.of_sub (.pick (.right (.there (.there .here))) (.pickL .here (.last (.there (.there .all))))) h
            · rename_i b15 hcu
              have hcs : p.d.stream = st := by simpa using hc
              have hcu2 : p.d.un = false := by simpa using hcu
              refine WD.e rfl (Ef.callR (by exact rfl) (.nil _) (rless16_tr _ p.d.ssn x)) ?_
              rintro _ _ ⟨rfl, rfl⟩
              refine ⟨Or.inr (fun _ h => h), ?_⟩
              repeat' (first | refine S1 ?_ | refine SD ?_ | refine SA (fun _ => ?_) | refine WL.g_split rfl rfl (fun hc => ?_) (fun hc => ?_) | refine WD.g_split rfl rfl (fun hc => ?_) (fun hc => ?_) | refine W.cond rfl (fun hc => ?_) (fun hc => ?_))
              · have hkeep : doomS st x p.d = false := by unfold doomS; first | (simp at hc; simp [hc]; done) | (simp [hc]; done)
                refine WL.e rfl (Ef.app (m := 1) (news := p.cells) (by exact rfl) (by exact rfl) rfl rfl hown (.skip _ (.skip _ (.skip _ (.one _ _)))) (Src.own (n := 7) (.here rfl)) rfl (by simp [Pd.cells, Pd.bv, Value.oneCell'])
                  (by rw [flat_len' Pd.cells 7 (fun _ => rfl), show p.cells.length = 7 from rfl]; omega) (by rw [flat_len' Pd.cells 7 (fun _ => rfl), show p.cells.length = 7 from rfl]; simp only [maxLen]; omega)) ?_
                rintro v' _ ⟨vb', hown', rfl⟩
                obtain ⟨sa', sn', sc', rfl, _, _⟩ := OwnS.shape hown'
                rw [show ((g2.ps.take j).filter (fun p => !doomS st x p.d)).flatMap Pd.cells ++ p.cells = ((g2.ps.take (j + 1)).filter (fun p => !doomS st x p.d)).flatMap Pd.cells by rw [take_snoc hp, List.filter_append, List.filter_cons_of_pos (by simp [hkeep]), List.flatMap_append]; simp] at hown'
                repeat' (first | refine S1 ?_ | refine SD ?_ | refine SA (fun _ => ?_) | refine WL.g_split rfl rfl (fun hc => ?_) (fun hc => ?_) | refine WD.g_split rfl rfl (fun hc => ?_) (fun hc => ?_) | refine W.cond rfl (fun hc => ?_) (fun hc => ?_))
                rw [i64_succ (by omega)]
                refine Fin.round ⟨j + 1, sa', sn', sc', vb'⟩ ⟨hj', hown'⟩ envA (fun _ h => ?_) (by dsimp only; omega)
                exact In.of_sub (.pick (.right (.there (.there .here))) (.pickL .here (.last (.there (.there .all))))) h
              · have hls : Rm.less16 p.d.ssn x = true := by simpa using hc
                have hkeep : doomS st x p.d = true := by unfold doomS; rw [hcu2, hcs, hls]; simp
                rw [i64_succ (by omega)]
                have hown3 : OwnS 48 7 (((g2.ps.take (j + 1)).filter (fun p => !doomS st x p.d)).flatMap Pd.cells) (.slice va vn vc) vb := by
                  rw [take_snoc hp, List.filter_append, List.filter_cons_of_neg (by simp [hkeep])]
                  simpa using hown
                exact Fin.round ⟨j + 1, va, vn, vc, vb⟩ ⟨hj', hown3⟩ envA (fun _ h => h.sublist (.cons _ (.refl _))) (by dsimp only; omega)
          · have hjn : j = g2.ps.length := by simp at hc; omega
            rw [hjn, List.take_of_length_le (Nat.le_refl _)] at hown
            have hs2 := RF.ok.filt hg2 _ hown
            generalize hs2e : ({ g2 with ps := g2.ps.filter (fun p => !doomS st x p.d), la := va, ln := vn, lc := vc, lhb := vb } : RF) = s2 at hs2
            have hS2 : s2.S = ⟨g2.L.filter (fun d => !doomS st x d), g2.row, g2.nx⟩ := by
              subst hs2e
              dsimp only [RF.S, RF.L, RF.row]
              rw [List.filter_map]
              rfl
            have hR2 : s2.R = g2.R := by subst hs2e; rfl
            have hnx2 : s2.nx = g2.nx := by subst hs2e; rfl
            refine WL.weak (H' := (b3, .cells [.int .u32 cum, .slice (some ⟨b, off, none⟩) kn kc].toArray 51 (0, 0)) :: s2.H) (fun w h => ?_) ?_
            · have h2 : In F ((b3, .cells [.int .u32 cum, .slice (some ⟨b, off, none⟩) kn kc].toArray 51 (0, 0)) :: (g2.R, .cells [.slice va vn vc, .slice (some ⟨g2.N, 0, none⟩) g2.nx.length g2.nx.length, .slice g2.ra g2.rn g2.rc].toArray 109 (0, 0)) :: (g2.N, .cells (g2.nx.map (Value.int .u16)).toArray 36 (0, 0)) :: (g2.rhb ++ (vb ++ (g2.ms.flatMap (·.hb) ++ g2.ps.flatMap (·.hb))))) w :=
                In.of_sub (.pick .here (.pick (.right .here) (.pick (.right .here) (.pickL (L := g2.rhb) (.right .here) (.pickL (L := vb) .here (.last (.right .all))))))) h
              subst hs2e
              rw [RF.HX]
              exact h2.sublist (.cons_cons _ (.cons_cons _ (.cons_cons _ ((List.Sublist.refl _).append ((List.Sublist.refl _).append ((List.Sublist.refl _).append (flat_sub _ List.filter_sublist)))))))
            rw [← hR2]
            refine WL.e rfl (Ef.call (c := s2.H) (by exact rfl) (.skip _ (.all _)) (ron_tr _ s2 hs2 st (by rw [hnx2]; exact hst2))) ?_
            rintro _ _ ⟨_, ⟨rfl, s', hs', rfl, hR', hS', hn'⟩, rfl⟩
            have hfin : s'.S = skip1 g.S st to := by
              rw [hS', hS2, hsk, ← hqg]
              dsimp only [RF.S]
              rw [hgnx]
            repeat' (first | refine S1 ?_ | refine SD ?_ | refine SA (fun _ => ?_) | refine WL.g_split rfl rfl (fun hc => ?_) (fun hc => ?_) | refine WD.g_split rfl rfl (fun hc => ?_) (fun hc => ?_) | refine W.cond rfl (fun hc => ?_) (fun hc => ?_))
            rw [i64_succ (by omega)]
            refine Fin.round (i + 1, s') ⟨hi2, hs', hR', by rw [hn', hnx2, hg2l, hgl], ?_, ?_⟩ envA (fun _ h => In.of_sub (.pick (.right .here) (.last .here)) h) (by dsimp only; omega)
            · have e1 : s'.nx = (skip1 g.S st to).nx := by rw [← hfin]; rfl
              dsimp only
              rw [e1]
              exact skip1_nx hg16
            · dsimp only
              rw [hfold, hfin]
    · have hgo : ¬ (nxt ≠ to ∧ Rm.less16 nxt to = false) := by simp at hc; simp [hc]
      have he : 0 ≤ u16 (to + 1) ∧ u16 (to + 1) < 65536 := by simp only [u16_eq]; omega
      have hsk := skip1_go g.S st to (by rw [hsn]; exact hgo)
      rw [hsn] at hsk
      generalize hq : upto ((u16 (u16 (to + 1) - nxt)).toNat + 1) g.S st (u16 (to + 1)) = q at hsk
      generalize hed : u16 (to + 1) = e at he hq
      have hed' : IntKind.u16.wrap (to + 1) = e := hed
      refine W.loop (G := RF) (fun _ => [(0, .pointer (some ⟨g.R, 0, none⟩)), (3, .pointer (some ⟨b3, 0, none⟩)), (9, .int .i64 i), (10, .int .u16 st), (11, .int .u16 to)]) (fun g2 => (b3, .cells [.int .u32 cum, .slice (some ⟨b, off, none⟩) kn kc].toArray 51 (0, 0)) :: g2.H)
        (fun g2 => g2.ok ∧ g2.R = g.R ∧ g2.nx.length = g.nx.length ∧ nx16 g2.nx ∧ ∃ n, (u16 (e - g2.nx.getD st.toNat 0)).toNat < n ∧ upto n g2.S st e = q) (fun g2 => (u16 (e - g2.nx.getD st.toNat 0)).toNat) g
        ⟨hg, rfl, rfl, hg16, _, by rw [hnxt]; exact Nat.lt_succ_self _, hq⟩ envA (fun _ h => h) ?_
      rintro g2 ⟨hg2, hg2R, hg2l, hg216, n, hn, hup⟩
      obtain ⟨n, rfl⟩ : ∃ m, n = m + 1 := ⟨n - 1, by omega⟩
      have hsee2 : Sees F g2.H g2 := RF.sees hg2
      rw [← hg2R, RF.HX g2]
      have hst2 : 0 ≤ st ∧ st < g2.nx.length := by rw [hg2l]; exact hst'
      have hgn := hg216.get st.toNat
      generalize hgnx : g2.nx.getD st.toNat 0 = x at hgn hn
      have hNg : (g2.nx.map (Value.int .u16))[0 + st.toNat * 1]? = some (.int .u16 x) := by
        have hlt : st.toNat < g2.nx.length := by omega
        rw [Nat.zero_add, Nat.mul_one, List.getElem?_map, ← hgnx]
        simp [hlt]
      have hP : spliceK (g2.nx.map (Value.int .u16)) (0 + st.toNat * 1) [.int .u16 (IntKind.u16.wrap (x + 1))] some = some ((g2.nx.set st.toNat (u16 (x + 1))).map (Value.int .u16)) := by
        rw [splice_one (by simp; omega), Nat.zero_add, Nat.mul_one, map_set16]
      have hget : (g2.nx.set st.toNat (u16 (x + 1))).getD st.toNat 0 = u16 (x + 1) := by
        have hlt : st.toNat < g2.nx.length := by omega
        simp [hlt]
      clear hN
      repeat' (first | refine S1 ?_ | refine SD ?_ | refine SA (fun _ => ?_) | refine WL.g_split rfl rfl (fun hc => ?_) (fun hc => ?_) | refine WD.g_split rfl rfl (fun hc => ?_) (fun hc => ?_) | refine W.cond rfl (fun hc => ?_) (fun hc => ?_))
      · have hne : x ≠ e := by rw [hed'] at hc; simpa using hc
        refine WL.e rfl (Ef.look (by exact rfl) (fun F' hw => rordered_tr F' g2 (hsee2.mono (fun w h => (hw w h).sublist (.cons _ (.refl _)))) hg2.good (by have := hg2.few; omega) st x)) ?_
        rintro _ _ ⟨Hw, hownW, rfl⟩
        obtain ⟨wa, wn, wc, rfl, hwl, _⟩ := OwnS.shape hownW
        rcases candIx_pos hwl with ⟨rfl, hcand⟩ | ⟨hw0, f, l', hcand⟩
        · refine WL.weak (fun _ h => h.right) ?_
          obtain ⟨g1, hg1e⟩ : ∃ g1, g1 = g2 := ⟨_, rfl⟩
          have hS1 : g1.S = wait g2.S st := by
            subst hg1e
            unfold wait
            rw [show cand g1.S.L st (g1.S.nx.getD st.toNat 0) = none by show cand g1.L st (g1.nx.getD st.toNat 0) = none; rw [hgnx]; exact hcand]
          have hg1 : g1.ok := by rw [hg1e]; exact hg2
          have hR1 : g1.R = g2.R := by rw [hg1e]
          have hnx1 : g1.nx = g2.nx := by rw [hg1e]
          have hh : ∀ w, In F ((b3, .cells [.int .u32 cum, .slice (some ⟨b, off, none⟩) kn kc].toArray 51 (0, 0)) :: g2.H) w → In F ((b3, .cells [.int .u32 cum, .slice (some ⟨b, off, none⟩) kn kc].toArray 51 (0, 0)) :: g1.H) w := fun _ h => by rw [hg1e]; exact h
          refine WL.weak hh ?_
          rw [RF.HX g1, hR1, hnx1]
          clear hg1e hh
          repeat' (first | refine S1 ?_ | refine SD ?_ | refine SA (fun _ => ?_) | refine WL.g_split rfl rfl (fun hc => ?_) (fun hc => ?_) | refine WD.g_split rfl rfl (fun hc => ?_) (fun hc => ?_) | refine W.cond rfl (fun hc => ?_) (fun hc => ?_))
          refine Fin.round ({ g1 with nx := g2.nx.set st.toNat (u16 (x + 1)) } : RF) ⟨hg1.nx _, hR1, by simp [hg2l], hg216.set _ _, n, ?_, ?_⟩ envA (fun _ h => ?_) ?_
          · dsimp only
            rw [hget]
            simp only [u16_eq] at hn ⊢
            omega
          · rw [← hup, upto, if_neg (by rw [show g2.S.nx.getD st.toNat 0 = x from hgnx]; exact hne), show g2.S.nx.getD st.toNat 0 = x from hgnx, ← hS1]
            congr 1
            dsimp only [RF.S, RF.L, RF.row]
            rw [hnx1]
          · rw [RF.HX]
            dsimp only
            rw [hR1, List.length_set]
            exact h
          · dsimp only
            rw [hget]
            simp only [u16_eq]
            omega
        · repeat' (first | refine S1 ?_ | refine SD ?_ | refine SA (fun _ => ?_) | refine WL.g_split rfl rfl (fun hc => ?_) (fun hc => ?_) | refine WD.g_split rfl rfl (fun hc => ?_) (fun hc => ?_) | refine W.cond rfl (fun hc => ?_) (fun hc => ?_))
          · obtain ⟨d, hdm, hdw, _⟩ := cand_mem hcand
            rw [candIx_some hcand] at hownW
            refine WL.e rfl (Ef.call (by exact rfl) (.pickL (L := g2.H) (.right (.there .all)) (.last .here)) (rready_tr _ Hw g2 hg2 d hdm f l' hdw wa wn wc hownW)) ?_
            rintro _ _ ⟨_, ⟨rfl, g1, hg1, rfl, hR1, hnx1, hLr, hlt⟩, rfl⟩
            refine WL.weak (H' := (b3, .cells [.int .u32 cum, .slice (some ⟨b, off, none⟩) kn kc].toArray 51 (0, 0)) :: g1.H) (fun _ h => In.of_sub (.pick (.right .here) (.last .here)) h) ?_
            have hS1 : g1.S = wait g2.S st := by
              unfold wait
              rw [show cand g2.S.L st (g2.S.nx.getD st.toNat 0) = some (f, l') by show cand g2.L st (g2.nx.getD st.toNat 0) = _; rw [hgnx]; exact hcand]
              have e1 := congrArg Prod.fst hLr
              have e2 := congrArg Prod.snd hLr
              dsimp only at e1 e2
              dsimp only [RF.S]
              rw [e1, e2, hnx1]
            rw [RF.HX g1, hR1, hnx1]
            repeat' (first | refine S1 ?_ | refine SD ?_ | refine SA (fun _ => ?_) | refine WL.g_split rfl rfl (fun hc => ?_) (fun hc => ?_) | refine WD.g_split rfl rfl (fun hc => ?_) (fun hc => ?_) | refine W.cond rfl (fun hc => ?_) (fun hc => ?_))
            refine Fin.round ({ g1 with nx := g2.nx.set st.toNat (u16 (x + 1)) } : RF) ⟨hg1.nx _, hR1, by simp [hg2l], hg216.set _ _, n, ?_, ?_⟩ envA (fun _ h => ?_) ?_
            · dsimp only
              rw [hget]
              simp only [u16_eq] at hn ⊢
              omega
            · rw [← hup, upto, if_neg (by rw [show g2.S.nx.getD st.toNat 0 = x from hgnx]; exact hne), show g2.S.nx.getD st.toNat 0 = x from hgnx, ← hS1]
              congr 1
              dsimp only [RF.S, RF.L, RF.row]
              rw [hnx1]
            · rw [RF.HX]
              dsimp only
              rw [hR1, List.length_set]
              exact h
            · dsimp only
              rw [hget]
              simp only [u16_eq]
              omega
          · exfalso; simp at hc; omega
      · have hxe : x = e := by rw [hed'] at hc; simpa using hc
        have hqg : g2.S = q := by
          rw [← hup, upto, if_pos (by rw [show g2.S.nx.getD st.toNat 0 = x from hgnx]; exact hxe)]
        refine W.loop (G := RdG) (fun v => [(0, .pointer (some ⟨g2.R, 0, none⟩)), (3, .pointer (some ⟨b3, 0, none⟩)), (9, .int .i64 i), (10, .int .u16 st), (13, .slice v.va v.vn v.vc), (14, .int .i64 v.k)]) (fun v => (b3, .cells [.int .u32 cum, .slice (some ⟨b, off, none⟩) kn kc].toArray 51 (0, 0)) :: (v.vb ++ g2.H))
          (fun v => v.k ≤ g2.ps.length ∧ OwnS 48 7 (((g2.ps.take v.k).filter (fun p => !doomS st x p.d)).flatMap Pd.cells) (.slice v.va v.vn v.vc) v.vb) (fun v => g2.ps.length - v.k) ⟨0, none, 0, 0, []⟩ ⟨Nat.zero_le _, .inl ⟨rfl, rfl, rfl⟩⟩ envA (fun _ h => h) ?_
        rintro ⟨j, va, vn, vc, vb⟩ ⟨hj, hown⟩
        try dsimp only at hj hown ⊢
        have hflen : ((g2.ps.take j).filter (fun p => !doomS st x p.d)).length ≤ j := Nat.le_trans (List.length_filter_le _ _) (by rw [List.length_take]; omega)
        have hfew2 := hg2.few
        have hln2 := hsee2.ln
        rw [RF.HX g2]
        clear hc
        repeat' (first | refine S1 ?_ | refine SD ?_ | refine SA (fun _ => ?_) | refine WL.g_split rfl rfl (fun hc => ?_) (fun hc => ?_) | refine WD.g_split rfl rfl (fun hc => ?_) (fun hc => ?_) | refine W.cond rfl (fun hc => ?_) (fun hc => ?_))
        · have hj' : j < g2.ps.length := by simp at hc; omega
          obtain ⟨p, hp⟩ : ∃ p, g2.ps[j]? = some p := ⟨g2.ps[j]'hj', by simp⟩
          obtain ⟨b', off', hla, hA⟩ := hsee2.piece hp
          have hia2 : 0 ≤ (j : Int) ∧ (j : Int) < g2.ln := by omega
          rw [hla]
          repeat' (first | refine S1 ?_ | refine SD ?_ | refine SA (fun _ => ?_) | refine WL.g_split rfl rfl (fun hc => ?_) (fun hc => ?_) | refine WD.g_split rfl rfl (fun hc => ?_) (fun hc => ?_) | refine W.cond rfl (fun hc => ?_) (fun hc => ?_))
          refine WL.s rfl (Rd.ldaC (r := p.cells) rfl rfl (hA.mono (fun _ h => by rw [RF.HX, hla]; exact h.sublist (.cons _ (List.sublist_append_right _ _))))) ?_
          unfold Pd.cells
          repeat' (first | refine S1 ?_ | refine SD ?_ | refine SA (fun _ => ?_) | refine WL.g_split rfl rfl (fun hc => ?_) (fun hc => ?_) | refine WD.g_split rfl rfl (fun hc => ?_) (fun hc => ?_) | refine W.cond rfl (fun hc => ?_) (fun hc => ?_))
          · have hkeep : doomS st x p.d = false := by unfold doomS; first | (simp at hc; simp [hc]; done) | (simp [hc]; done)
            refine WL.e rfl (Ef.app (m := 1) (news := p.cells) (by exact rfl) (by exact rfl) rfl rfl hown (.skip _ (.skip _ (.skip _ (.one _ _)))) (Src.own (n := 7) (.here rfl)) rfl (by simp [Pd.cells, Pd.bv, Value.oneCell'])
              (by rw [flat_len' Pd.cells 7 (fun _ => rfl), show p.cells.length = 7 from rfl]; omega) (by rw [flat_len' Pd.cells 7 (fun _ => rfl), show p.cells.length = 7 from rfl]; simp only [maxLen]; omega)) ?_
            rintro v' _ ⟨vb', hown', rfl⟩
            obtain ⟨sa', sn', sc', rfl, _, _⟩ := OwnS.shape hown'
            rw [show ((g2.ps.take j).filter (fun p => !doomS st x p.d)).flatMap Pd.cells ++ p.cells = ((g2.ps.take (j + 1)).filter (fun p => !doomS st x p.d)).flatMap Pd.cells by rw [take_snoc hp, List.filter_append, List.filter_cons_of_pos (by simp [hkeep]), List.flatMap_append]; simp] at hown'
            repeat' (first | refine S1 ?_ | refine SD ?_ | refine SA (fun _ => ?_) | refine WL.g_split rfl rfl (fun hc => ?_) (fun hc => ?_) | refine WD.g_split rfl rfl (fun hc => ?_) (fun hc => ?_) | refine W.cond rfl (fun hc => ?_) (fun hc => ?_))
            rw [i64_succ (by omega)]
            refine Fin.round ⟨j + 1, sa', sn', sc', vb'⟩ ⟨hj', hown'⟩ envA (fun _ h => ?_) (by dsimp only; omega)
            exact In.of_sub (.pick (.right (.there (.there .here))) (.pickL .here (.last (.there (.there .all))))) h
          · have hkeep : doomS st x p.d = false := by unfold doomS; first | (simp at hc; simp [hc]; done) | (simp [hc]; done)
            refine WL.e rfl (Ef.app (m := 1) (news := p.cells) (by exact rfl) (by exact rfl) rfl rfl hown (.skip _ (.skip _ (.skip _ (.one _ _)))) (Src.own (n := 7) (.here rfl)) rfl (by simp [Pd.cells, Pd.bv, Value.oneCell'])
              (by rw [flat_len' Pd.cells 7 (fun _ => rfl), show p.cells.length = 7 from rfl]; omega) (by rw [flat_len' Pd.cells 7 (fun _ => rfl), show p.cells.length = 7 from rfl]; simp only [maxLen]; omega)) ?_
            rintro v' _ ⟨vb', hown', rfl⟩
            obtain ⟨sa', sn', sc', rfl, _, _⟩ := OwnS.shape hown'
            rw [show ((g2.ps.take j).filter (fun p => !doomS st x p.d)).flatMap Pd.cells ++ p.cells = ((g2.ps.take (j + 1)).filter (fun p => !doomS st x p.d)).flatMap Pd.cells by rw [take_snoc hp, List.filter_append, List.filter_cons_of_pos (by simp [hkeep]), List.flatMap_append]; simp] at hown'
            repeat' (first | refine S1 ?_ | refine SD ?_ | refine SA (fun _ => ?_) | refine WL.g_split rfl rfl (fun hc => ?_) (fun hc => ?_) | refine WD.g_split rfl rfl (fun hc => ?_) (fun hc => ?_) | refine W.cond rfl (fun hc => ?_) (fun hc => ?_))
            rw [i64_succ (by omega)]
            refine Fin.round ⟨j + 1, sa', sn', sc', vb'⟩ ⟨hj', hown'⟩ envA (fun _ h => ?_) (by dsimp only; omega)
            exact In.of_sub (.pick (.right (.there (.there .here))) (.pickL .here (.last (.there (.there .all))))) h
          · rename_i b15 hcu
            have hcs : p.d.stream = st := by simpa using hc
            have hcu2 : p.d.un = false := by simpa using hcu
            refine WD.e rfl (Ef.callR (by exact rfl) (.nil _) (rless16_tr _ p.d.ssn x)) ?_
            rintro _ _ ⟨rfl, rfl⟩
            refine ⟨Or.inr (fun _ h => h), ?_⟩
            repeat' (first | refine S1 ?_ | refine SD ?_ | refine SA (fun _ => ?_) | refine WL.g_split rfl rfl (fun hc => ?_) (fun hc => ?_) | refine WD.g_split rfl rfl (fun hc => ?_) (fun hc => ?_) | refine W.cond rfl (fun hc => ?_) (fun hc => ?_))
            · have hkeep : doomS st x p.d = false := by unfold doomS; first | (simp at hc; simp [hc]; done) | (simp [hc]; done)
              refine WL.e rfl (Ef.app (m := 1) (news := p.cells) (by exact rfl) (by exact rfl) rfl rfl hown (.skip _ (.skip _ (.skip _ (.one _ _)))) (Src.own (n := 7) (.here rfl)) rfl (by simp [Pd.cells, Pd.bv, Value.oneCell'])
                (by rw [flat_len' Pd.cells 7 (fun _ => rfl), show p.cells.length = 7 from rfl]; omega) (by rw [flat_len' Pd.cells 7 (fun _ => rfl), show p.cells.length = 7 from rfl]; simp only [maxLen]; omega)) ?_
              rintro v' _ ⟨vb', hown', rfl⟩
              obtain ⟨sa', sn', sc', rfl, _, _⟩ := OwnS.shape hown'
              rw [show ((g2.ps.take j).filter (fun p => !doomS st x p.d)).flatMap Pd.cells ++ p.cells = ((g2.ps.take (j + 1)).filter (fun p => !doomS st x p.d)).flatMap Pd.cells by rw [take_snoc hp, List.filter_append, List.filter_cons_of_pos (by simp [hkeep]), List.flatMap_append]; simp] at hown'
              repeat' (first | refine S1 ?_ | refine SD ?_ | refine SA (fun _ => ?_) | refine WL.g_split rfl rfl (fun hc => ?_) (fun hc => ?_) | refine WD.g_split rfl rfl (fun hc => ?_) (fun hc => ?_) | refine W.cond rfl (fun hc => ?_) (fun hc => ?_))
              rw [i64_succ (by omega)]
              refine Fin.round ⟨j + 1, sa', sn', sc', vb'⟩ ⟨hj', hown'⟩ envA (fun _ h => ?_) (by dsimp only; omega)
              exact In.of_sub (.pick (.right (.there (.there .here))) (.pickL .here (.last (.there (.there .all))))) h
            · have hls : Rm.less16 p.d.ssn x = true := by simpa using hc
              have hkeep : doomS st x p.d = true := by unfold doomS; rw [hcu2, hcs, hls]; simp
              rw [i64_succ (by omega)]
              have hown3 : OwnS 48 7 (((g2.ps.take (j + 1)).filter (fun p => !doomS st x p.d)).flatMap Pd.cells) (.slice va vn vc) vb := by
                rw [take_snoc hp, List.filter_append, List.filter_cons_of_neg (by simp [hkeep])]
                simpa using hown
              exact Fin.round ⟨j + 1, va, vn, vc, vb⟩ ⟨hj', hown3⟩ envA (fun _ h => h.sublist (.cons _ (.refl _))) (by dsimp only; omega)
        · have hjn : j = g2.ps.length := by simp at hc; omega
          rw [hjn, List.take_of_length_le (Nat.le_refl _)] at hown
          have hs2 := RF.ok.filt hg2 _ hown
          generalize hs2e : ({ g2 with ps := g2.ps.filter (fun p => !doomS st x p.d), la := va, ln := vn, lc := vc, lhb := vb } : RF) = s2 at hs2
          have hS2 : s2.S = ⟨g2.L.filter (fun d => !doomS st x d), g2.row, g2.nx⟩ := by
            subst hs2e
            dsimp only [RF.S, RF.L, RF.row]
            rw [List.filter_map]
            rfl
          have hR2 : s2.R = g2.R := by subst hs2e; rfl
          have hnx2 : s2.nx = g2.nx := by subst hs2e; rfl
          refine WL.weak (H' := (b3, .cells [.int .u32 cum, .slice (some ⟨b, off, none⟩) kn kc].toArray 51 (0, 0)) :: s2.H) (fun w h => ?_) ?_
          · have h2 : In F ((b3, .cells [.int .u32 cum, .slice (some ⟨b, off, none⟩) kn kc].toArray 51 (0, 0)) :: (g2.R, .cells [.slice va vn vc, .slice (some ⟨g2.N, 0, none⟩) g2.nx.length g2.nx.length, .slice g2.ra g2.rn g2.rc].toArray 109 (0, 0)) :: (g2.N, .cells (g2.nx.map (Value.int .u16)).toArray 36 (0, 0)) :: (g2.rhb ++ (vb ++ (g2.ms.flatMap (·.hb) ++ g2.ps.flatMap (·.hb))))) w :=
              In.of_sub (.pick .here (.pick (.right .here) (.pick (.right .here) (.pickL (L := g2.rhb) (.right .here) (.pickL (L := vb) .here (.last (.right .all))))))) h
            subst hs2e
            rw [RF.HX]
            exact h2.sublist (.cons_cons _ (.cons_cons _ (.cons_cons _ ((List.Sublist.refl _).append ((List.Sublist.refl _).append ((List.Sublist.refl _).append (flat_sub _ List.filter_sublist)))))))
          rw [← hR2]
          refine WL.e rfl (Ef.call (c := s2.H) (by exact rfl) (.skip _ (.all _)) (ron_tr _ s2 hs2 st (by rw [hnx2]; exact hst2))) ?_
          rintro _ _ ⟨_, ⟨rfl, s', hs', rfl, hR', hS', hn'⟩, rfl⟩
          have hfin : s'.S = skip1 g.S st to := by
            rw [hS', hS2, hsk, ← hqg]
            dsimp only [RF.S]
            rw [hgnx]
          repeat' (first | refine S1 ?_ | refine SD ?_ | refine SA (fun _ => ?_) | refine WL.g_split rfl rfl (fun hc => ?_) (fun hc => ?_) | refine WD.g_split rfl rfl (fun hc => ?_) (fun hc => ?_) | refine W.cond rfl (fun hc => ?_) (fun hc => ?_))
          rw [i64_succ (by omega)]
          refine Fin.round (i + 1, s') ⟨hi2, hs', hR', by rw [hn', hnx2, hg2l, hgl], ?_, ?_⟩ envA (fun _ h => In.of_sub (.pick (.right .here) (.last .here)) h) (by dsimp only; omega)
          · have e1 : s'.nx = (skip1 g.S st to).nx := by rw [← hfin]; rfl
            dsimp only
            rw [e1]
            exact skip1_nx hg16
          · dsimp only
            rw [hfold, hfin]
  · have hi2 : i = l.length := by simp at hc; omega
    refine Fin.retW (by exact rfl) resA (H' := g.H) (fun _ h => h.sublist (.cons _ (.refl _))) ⟨by rw [hE]; rfl, g, hg, rfl, hgR, ?_, hgl⟩
    rw [hgS, hi2, List.take_length]
    unfold Rm.skip
    rw [if_pos hE]
end Go.Proofs.YthjglhdjlmjffaaGreat
