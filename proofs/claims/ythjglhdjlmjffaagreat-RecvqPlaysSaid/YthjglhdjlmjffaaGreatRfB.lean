/- The document's reassembler's method 'ready', walked: the pieces of a message go from the list to the row. Conditions: the pieces are there. -/
import Derived.Test.YthjglhdjlmjffaaGreatBc
import Derived.Test.YthjglhdjlmjffaaGreatRfA
namespace Go.Proofs.YthjglhdjlmjffaaGreat
open Go Go.Sl Go.Rm

def keepR (f : Int) (n : Nat) (p : Pd) : Bool := !((run f n).contains p.d.tsn)
structure RdG where
  k : Nat
  va : Option Addr
  vn : Nat
  vc : Nat
  vb : HL
set_option maxHeartbeats 8000000 in
theorem rready0 (F : Nat → Option Obj) (R N : Nat) (nx : List Int) (la : Option Addr) (ln lc : Nat) (ps : List Pd) (ra : Option Addr) (rn rc : Nat) (rhb : HL) (ms : List Ms) (f : Int) (n : Nat) (ia : Option Addr) (inn ic : Nat) (d0 : D)
    (hl : Lst F [] 7 (ps.flatMap Pd.cells) la ln lc) (hps : ps.length ≤ 1000) (hk : ((ps.map (·.d)).map (·.tsn)).Nodup) (hb : ∀ p ∈ ps, Src F [] p.bv p.sn (p.d.bytes.map B) ∧ p.sn = p.d.bytes.length) (htot : totD (ps.map (·.d)) ≤ 1000000000)
    (hrow : OwnS 39 3 (ms.flatMap Ms.cells) (.slice ra rn rc) rhb) (hms : ms.length ≤ 1000) (hf : 0 ≤ f ∧ f < 4294967296) (hn : n ≤ 3000) (hall : ∀ t ∈ run f n, ∃ d, at? (ps.map (·.d)) t = some d)
    (hI : Lst F [] 1 (ixV ((run f n).map (ixAt (ps.map (·.d))))) ia inn ic) (h0 : at? (ps.map (·.d)) f = some d0) :
    Tr Tryz.prog 91 [.pointer (some ⟨R, 0, none⟩), .slice ia inn ic].toArray F ((R, .cells [.slice la ln lc, .slice (some ⟨N, 0, none⟩) nx.length nx.length, .slice ra rn rc].toArray 109 (0, 0)) :: (N, .cells (nx.map (Value.int .u16)).toArray 36 (0, 0)) :: rhb)
      (fun v H => v = .tuple #[] ∧ ∃ la' ln' lc' lhb' ra' rn' rc' rhb', ∃ m : Ms, m.ok ∧ m.g = ⟨d0.stream, !d0.un, (run f n).flatMap (bytesAt (ps.map (·.d)))⟩ ∧ OwnS 48 7 ((ps.filter (keepR f n)).flatMap Pd.cells) (.slice la' ln' lc') lhb' ∧ OwnS 39 3 ((ms ++ [m]).flatMap Ms.cells) (.slice ra' rn' rc') rhb' ∧
        H = (R, .cells [.slice la' ln' lc', .slice (some ⟨N, 0, none⟩) nx.length nx.length, .slice ra' rn' rc'].toArray 109 (0, 0)) :: (N, .cells (nx.map (Value.int .u16)).toArray 36 (0, 0)) :: (lhb' ++ (rhb' ++ m.hb))) := by
  have hln : ln = ps.length := by have := hl.len; rw [flat_len' Pd.cells 7 (fun _ => rfl)] at this; omega
  have hinn : inn = n + 1 := by have := hI.len; simp [ixV, run] at this; omega
  obtain ⟨ib, ioff, rfl, hIc⟩ := hI.can (by omega)
  have hint : ∀ k : Nat, k ≤ n → Sl.Can F [] ib (ioff + (k : Int).toNat * 1) [.int .i64 (ixAt (ps.map (·.d)) (u32 (f + k)))] := fun k hk => by
    have := hIc.one (i := k) (v := .int .i64 (ixAt (ps.map (·.d)) (u32 (f + k)))) (by unfold ixV; rw [List.getElem?_map, List.getElem?_map, run_get hk]; rfl)
    simpa using this
  have hplace : ∀ k : Nat, k ≤ n → ∃ (i : Nat) (p : Pd), ixAt (ps.map (·.d)) (u32 (f + k)) = i ∧ ps[i]? = some p ∧ at? (ps.map (·.d)) (u32 (f + k)) = some p.d := fun k hk => by
    obtain ⟨d, hd⟩ := hall _ (mem_run.2 ⟨k, hk, rfl⟩)
    obtain ⟨i, h1, h2⟩ := ix_some hd
    rw [List.getElem?_map] at h2
    cases hp : ps[i]? with
    | none => simp [hp] at h2
    | some p => exact ⟨i, p, h1, hp, by rw [hd]; simpa [hp] using h2.symm⟩
  have hel : ∀ (i : Nat) (p : Pd), ps[i]? = some p → ∃ b off, la = some ⟨b, off, none⟩ ∧ Sl.Can F [] b (off + (i : Int).toNat * 7) p.cells := fun i p hp => hl.el (fun _ => rfl) hp (by rw [hln]; have := (List.getElem?_eq_some_iff.1 hp).1; omega)
  obtain ⟨i0, p0, hi0, hp0, hat0⟩ := hplace 0 (by omega)
  rw [show u32 (f + (0 : Nat)) = f by simp only [u32_eq]; omega] at hi0 hat0
  rw [h0] at hat0
  cases hat0
  obtain ⟨b, off, rfl, hP0⟩ := hel i0 p0 hp0
  have hi0l : i0 < ps.length := (List.getElem?_eq_some_iff.1 hp0).1
  have hI0 : Sl.Can F [] ib (ioff + (0 : Int).toNat * 1) [.int .i64 (i0 : Nat)] := by
    have := hint 0 (by omega)
    rw [show u32 (f + (0 : Nat)) = f by simp only [u32_eq]; omega, hi0] at this
    exact this
  have hia0 : 0 ≤ (0 : Int) ∧ (0 : Int) < inn := by omega
  have hia1 : 0 ≤ (i0 : Int) ∧ (i0 : Int) < ln := by omega
  refine Tr.enter Tryz.func91 rfl Tryz.ntmps91 rfl (fun w0 => ?_)
  repeat' (first | refine S1 ?_ | refine SD ?_ | refine SA (fun _ => ?_) | refine WL.g_split rfl rfl (fun hc => ?_) (fun hc => ?_) | refine WD.g_split rfl rfl (fun hc => ?_) (fun hc => ?_) | refine W.cond rfl (fun hc => ?_) (fun hc => ?_))
  rename_i b4 bm
  clear hI0 hia0 hia1 hP0
  refine W.loop (G := RdG) (fun g => [(0, .pointer (some ⟨R, 0, none⟩)), (1, .slice (some ⟨ib, ioff, none⟩) inn ic), (5, .pointer (some ⟨bm, 0, none⟩)), (6, .int .i64 g.k)])
    (fun g => (bm, .cells [.int .u16 p0.d.stream, .bool (!p0.d.un), .slice g.va g.vn g.vc].toArray 39 (0, 0)) :: (R, .cells [.slice (some ⟨b, off, none⟩) ln lc, .slice (some ⟨N, 0, none⟩) nx.length nx.length, .slice ra rn rc].toArray 109 (0, 0)) :: (N, .cells (nx.map (Value.int .u16)).toArray 36 (0, 0)) :: (g.vb ++ rhb))
    (fun g => g.k ≤ inn ∧ OwnS 5 1 ((((run f n).take g.k).flatMap (bytesAt (ps.map (·.d)))).map B) (.slice g.va g.vn g.vc) g.vb) (fun g => inn - g.k) ⟨0, none, 0, 0, []⟩ ⟨Nat.zero_le _, .inl ⟨rfl, rfl, rfl⟩⟩ envA weakA ?_
  rintro ⟨k, va, vn, vc, vb⟩ ⟨hkn, hown⟩
  try dsimp only at hkn hown ⊢
  repeat' (first | refine S1 ?_ | refine SD ?_ | refine SA (fun _ => ?_) | refine WL.g_split rfl rfl (fun hc => ?_) (fun hc => ?_) | refine WD.g_split rfl rfl (fun hc => ?_) (fun hc => ?_) | refine W.cond rfl (fun hc => ?_) (fun hc => ?_))
  · have hk' : k ≤ n := by simp at hc; omega
    obtain ⟨i, p, hi, hp, hat⟩ := hplace k hk'
    obtain ⟨b', off', he, hcan⟩ := hel i p hp
    cases he
    have hil : i < ps.length := (List.getElem?_eq_some_iff.1 hp).1
    have hI1 := hint k hk'
    rw [hi] at hI1
    have hia0 : 0 ≤ (k : Int) ∧ (k : Int) < inn := by omega
    have hia1 : 0 ≤ (i : Int) ∧ (i : Int) < ln := by omega
    have hB1 : Sl.Can F [] b (off + (i : Int).toNat * 7 + 6) [p.bv] := hcan.one (i := 6) rfl
    have hbs := hb p (List.mem_of_getElem? hp)
    repeat' (first | refine S1 ?_ | refine SD ?_ | refine SA (fun _ => ?_) | refine WL.g_split rfl rfl (fun hc => ?_) (fun hc => ?_) | refine WD.g_split rfl rfl (fun hc => ?_) (fun hc => ?_) | refine W.cond rfl (fun hc => ?_) (fun hc => ?_))
    have hall2 := flat_take_le (bytesAt (ps.map (·.d))) (run f n) k
    have htot2 := run_tot hk hf (by omega) hall
    have hgetk : (run f n)[k]? = some (u32 (f + k)) := run_get hk'
    have hby : bytesAt (ps.map (·.d)) (u32 (f + k)) = p.d.bytes := by unfold bytesAt; rw [hat]
    have hall3 : p.d.bytes.length ≤ totD (ps.map (·.d)) := by have := tot_erase hat; omega
    refine WD.e rfl (Ef.app (m := p.sn) (news := p.d.bytes.map B) (by exact rfl) (by exact rfl) rfl rfl hown (.skip _ (.skip _ (.skip _ (.one _ _)))) (Src.mono hbs.1 (fun _ h => h.sublist (List.nil_sublist _)))
      (by simp [hbs.2]) (B_one _) (by simp only [List.length_map]; omega) (by simp only [List.length_map, maxLen]; omega)) ?_
    rintro v' _ ⟨hb', hown', rfl⟩
    refine ⟨Or.inl (by kernel_rfl), ?_⟩
    obtain ⟨sa', sn', sc', rfl, _, _⟩ := OwnS.shape hown'
    rw [← List.map_append, show ((run f n).take k).flatMap (bytesAt (ps.map (·.d))) ++ p.d.bytes = ((run f n).take (k + 1)).flatMap (bytesAt (ps.map (·.d))) by rw [take_snoc hgetk, List.flatMap_append, List.flatMap_cons, List.flatMap_nil, List.append_nil, hby]] at hown'
    repeat' (first | refine S1 ?_ | refine SD ?_ | refine SA (fun _ => ?_) | refine WL.g_split rfl rfl (fun hc => ?_) (fun hc => ?_) | refine WD.g_split rfl rfl (fun hc => ?_) (fun hc => ?_) | refine W.cond rfl (fun hc => ?_) (fun hc => ?_))
    rw [i64_succ (by omega)]
    refine Fin.round ⟨k + 1, sa', sn', sc', hb'⟩ ⟨by dsimp only; omega, hown'⟩ envA (fun _ h => ?_) (by dsimp only; omega)
    exact In.of_sub (.pick (.right .here) (.pick (.right .here) (.pick (.right .here) (.pickL .here (.last .all))))) h
  · have hkn2 : k = inn := by simp at hc; omega
    have hby : ((run f n).take k) = run f n := by rw [hkn2, hinn, List.take_of_length_le (by rw [run_len]; exact Nat.le_refl _)]
    rw [hby] at hown
    refine W.loop (G := RdG) (fun g => [(0, .pointer (some ⟨R, 0, none⟩)), (1, .slice (some ⟨ib, ioff, none⟩) inn ic), (5, .pointer (some ⟨bm, 0, none⟩)), (7, .slice g.va g.vn g.vc), (8, .int .i64 g.k)])
      (fun g => (bm, .cells [.int .u16 p0.d.stream, .bool (!p0.d.un), .slice va vn vc].toArray 39 (0, 0)) :: (R, .cells [.slice (some ⟨b, off, none⟩) ln lc, .slice (some ⟨N, 0, none⟩) nx.length nx.length, .slice ra rn rc].toArray 109 (0, 0)) :: (N, .cells (nx.map (Value.int .u16)).toArray 36 (0, 0)) :: (g.vb ++ (vb ++ rhb)))
      (fun g => g.k ≤ ps.length ∧ OwnS 48 7 (((ps.take g.k).filter (keepR f n)).flatMap Pd.cells) (.slice g.va g.vn g.vc) g.vb) (fun g => ps.length - g.k) ⟨0, none, 0, 0, []⟩ ⟨Nat.zero_le _, .inl ⟨rfl, rfl, rfl⟩⟩ envA (fun _ h => h) ?_
    clear hc hkn hkn2
    rintro ⟨i, la', ln', lc', lhb⟩ ⟨hin, hownL⟩
    try dsimp only at hin hownL ⊢
    have hflen : ((ps.take i).filter (keepR f n)).length ≤ i := Nat.le_trans (List.length_filter_le _ _) (by rw [List.length_take]; omega)
    repeat' (first | refine S1 ?_ | refine SD ?_ | refine SA (fun _ => ?_) | refine WL.g_split rfl rfl (fun hc => ?_) (fun hc => ?_) | refine WD.g_split rfl rfl (fun hc => ?_) (fun hc => ?_) | refine W.cond rfl (fun hc => ?_) (fun hc => ?_))
    · have hi' : i < ps.length := by simp at hc; omega
      obtain ⟨p, hp⟩ : ∃ p, ps[i]? = some p := ⟨ps[i]'hi', by simp⟩
      have hkp : ∀ {q : Nat} {own : Bool}, q = inn → own = (((run f n).map (ixAt (ps.map (·.d)))).take q).any (fun j => j == (i : Int)) → own = !keepR f n p := fun {q own} hq' hown2 => by
        rw [hown2, hq', hinn, List.take_of_length_le (by simp [run_len])]
        unfold keepR
        rw [Bool.not_not, ← own_iff (i := i) hk (by rw [List.getElem?_map, hp]; rfl) hall, Bool.eq_iff_iff]
        simp
      obtain ⟨b', off', he, hA⟩ := hel i p hp
      cases he
      have hia : 0 ≤ (i : Int) ∧ (i : Int) < ln := by omega
      refine W.loop (G := Nat × Bool) (fun g => [(0, .pointer (some ⟨R, 0, none⟩)), (1, .slice (some ⟨ib, ioff, none⟩) inn ic), (5, .pointer (some ⟨bm, 0, none⟩)), (7, .slice la' ln' lc'), (8, .int .i64 i), (9, .bool g.2), (10, .int .i64 g.1)])
        (fun g => (bm, .cells [.int .u16 p0.d.stream, .bool (!p0.d.un), .slice va vn vc].toArray 39 (0, 0)) :: (R, .cells [.slice (some ⟨b, off, none⟩) ln lc, .slice (some ⟨N, 0, none⟩) nx.length nx.length, .slice ra rn rc].toArray 109 (0, 0)) :: (N, .cells (nx.map (Value.int .u16)).toArray 36 (0, 0)) :: (lhb ++ (vb ++ rhb)))
        (fun g => g.1 ≤ inn ∧ g.2 = (((run f n).map (ixAt (ps.map (·.d)))).take g.1).any (fun j => j == (i : Int))) (fun g => inn - g.1) (0, false) ⟨Nat.zero_le _, rfl⟩ envA (fun _ h => h) ?_
      rintro ⟨q, own⟩ ⟨hq, hown2⟩
      try dsimp only at hq hown2 ⊢
      repeat' (first | refine S1 ?_ | refine SD ?_ | refine SA (fun _ => ?_) | refine WL.g_split rfl rfl (fun hc => ?_) (fun hc => ?_) | refine WD.g_split rfl rfl (fun hc => ?_) (fun hc => ?_) | refine W.cond rfl (fun hc => ?_) (fun hc => ?_))
      · have hq' : q < inn := by have := of_decide_eq_true (by assumption : decide ((q : Int) < inn) = true); omega
        have hsn : (((run f n).map (ixAt (ps.map (·.d)))).take (q + 1)).any (fun j => j == (i : Int)) = (own || ixAt (ps.map (·.d)) (u32 (f + q)) == (i : Int)) := by
          rw [take_snoc (a := ixAt (ps.map (·.d)) (u32 (f + q))) (by rw [List.getElem?_map, run_get (by omega)]; rfl), List.any_append, ← hown2]; simp
        rw [i64_succ (by omega)]
        refine Fin.round (q + 1, _) ⟨by dsimp only; omega, ?_⟩ envA (fun _ h => h) (by dsimp only; omega)
        dsimp only
        rw [hsn]; simp [hc]
      · have hq' : q < inn := by have := of_decide_eq_true (by assumption : decide ((q : Int) < inn) = true); omega
        have hia0 : 0 ≤ (q : Int) ∧ (q : Int) < inn := by omega
        have hI1 := hint q (by omega)
        have hsn : (((run f n).map (ixAt (ps.map (·.d)))).take (q + 1)).any (fun j => j == (i : Int)) = (own || ixAt (ps.map (·.d)) (u32 (f + q)) == (i : Int)) := by
          rw [take_snoc (a := ixAt (ps.map (·.d)) (u32 (f + q))) (by rw [List.getElem?_map, run_get (by omega)]; rfl), List.any_append, ← hown2]; simp
        repeat' (first | refine S1 ?_ | refine SD ?_ | refine SA (fun _ => ?_) | refine WL.g_split rfl rfl (fun hc => ?_) (fun hc => ?_) | refine WD.g_split rfl rfl (fun hc => ?_) (fun hc => ?_) | refine W.cond rfl (fun hc => ?_) (fun hc => ?_))
        rw [i64_succ (by omega)]
        refine Fin.round (q + 1, _) ⟨by dsimp only; omega, ?_⟩ envA (fun _ h => h) (by dsimp only; omega)
        dsimp only
        rw [hsn]; simp [hc]
      · have hkeep : keepR f n p = true := by rw [hkp (by have := of_decide_eq_false (by assumption : decide ((q : Int) < inn) = false); omega) hown2] at hc; simpa using hc
        refine WL.e rfl (Ef.app (m := 1) (news := p.cells) (by exact rfl) (by exact rfl) rfl rfl hownL (.skip _ (.skip _ (.skip _ (.skip _ (.one _ _))))) (Src.own (n := 7) (.here rfl)) rfl (by simp [Pd.cells, Pd.bv, Value.oneCell'])
          (by rw [flat_len' Pd.cells 7 (fun _ => rfl), show p.cells.length = 7 from rfl]; omega) (by rw [flat_len' Pd.cells 7 (fun _ => rfl), show p.cells.length = 7 from rfl]; simp only [maxLen]; omega)) ?_
        rintro v' _ ⟨lhb', hownL', rfl⟩
        obtain ⟨sa', sn', sc', rfl, _, _⟩ := OwnS.shape hownL'
        rw [show ((ps.take i).filter (keepR f n)).flatMap Pd.cells ++ p.cells = ((ps.take (i + 1)).filter (keepR f n)).flatMap Pd.cells by rw [take_snoc hp, List.filter_append, List.filter_cons_of_pos hkeep, List.flatMap_append]; simp] at hownL'
        repeat' (first | refine S1 ?_ | refine SD ?_ | refine SA (fun _ => ?_) | refine WL.g_split rfl rfl (fun hc => ?_) (fun hc => ?_) | refine WD.g_split rfl rfl (fun hc => ?_) (fun hc => ?_) | refine W.cond rfl (fun hc => ?_) (fun hc => ?_))
        rw [i64_succ (by omega)]
        refine Fin.round ⟨i + 1, sa', sn', sc', lhb'⟩ ⟨hi', hownL'⟩ envA (fun _ h => ?_) (by dsimp only; omega)
        exact In.of_sub (.pick (.right (.there .here)) (.pick (.right (.there .here)) (.pick (.right (.there .here)) (.pickL .here (.last (.there .all)))))) h
      · have hkeep : keepR f n p = false := by rw [hkp (by have := of_decide_eq_false (by assumption : decide ((q : Int) < inn) = false); omega) hown2] at hc; simpa using hc
        rw [i64_succ (by omega)]
        refine Fin.round ⟨i + 1, la', ln', lc', lhb⟩ ⟨hi', ?_⟩ envA (fun _ h => h) (by dsimp only; omega)
        dsimp only
        rw [take_snoc hp, List.filter_append, List.filter_cons_of_neg (by simp [hkeep])]
        simpa using hownL
    · have hin2 : i = ps.length := by simp at hc; omega
      rw [hin2, List.take_of_length_le (Nat.le_refl _)] at hownL
      have hbl := OwnS.len hown
      refine WD.e rfl (Ef.app (m := 1) (news := [.int .u16 p0.d.stream, .bool (!p0.d.un), .slice va vn vc]) (by exact rfl) (by exact rfl) rfl rfl hrow (.skip _ (.skip _ (.skip _ (.skip _ (.skipL _ (.skipL _ (.all _))))))) (Src.own (n := 3) (.here rfl))
        rfl (by simp [Value.oneCell']) (by rw [flat_len]; simp; omega) (by rw [flat_len]; simp [maxLen]; omega)) ?_
      rintro vr _ ⟨rhb', hrow', rfl⟩
      refine ⟨Or.inl (by kernel_rfl), ?_⟩
      obtain ⟨ra', rn', rc', rfl, _, _⟩ := OwnS.shape hrow'
      repeat' (first | refine S1 ?_ | refine SD ?_ | refine SA (fun _ => ?_) | refine WL.g_split rfl rfl (fun hc => ?_) (fun hc => ?_) | refine WD.g_split rfl rfl (fun hc => ?_) (fun hc => ?_) | refine W.cond rfl (fun hc => ?_) (fun hc => ?_))
      refine Fin.endW (by exact rfl) resA ?_ ⟨rfl, la', ln', lc', lhb, ra', rn', rc', rhb', ⟨⟨p0.d.stream, !p0.d.un, (run f n).flatMap (bytesAt (ps.map (fun p : Pd => p.d)))⟩, va, vn, vc, vb⟩, hown, rfl, hownL, ?_, rfl⟩
      · exact fun w h => In.of_sub (.pick (.right (.there (.there .here))) (.pick (.right (.there (.there .here))) (.pickL (.right (.there (.there .here))) (.pickL .here (.last (.there (.there .here))))))) h
      · simp only [List.flatMap_append, List.flatMap_cons, List.flatMap_nil, List.append_nil]
        exact hrow'
end Go.Proofs.YthjglhdjlmjffaaGreat
