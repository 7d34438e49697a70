/- A set of numbers beyond a base: 'Gaps', walked: the runs beyond the base. Conditions: the set is well formed. -/
import Derived.Test.YthjglhdjlmjffaaGreatSpF
namespace Go.Proofs.YthjglhdjlmjffaaGreat
open Go Go.Sl Go.Spn

def gCells (g : Nat × Nat) : List Value := [.int .u16 g.1, .int .u16 g.2]
structure GpG where
  i : Nat
  acc : List (Nat × Nat)
  la : Option Addr
  ln : Nat
  lc : Nat
  lb : HL
theorem gaps_nil (F : Nat → Option Obj) (most : Int) : Tr Tryz.prog 82 [.pointer none, .int .i64 most].toArray F [] (fun v H => v = .slice none 0 0 ∧ H = []) := by
  refine Tr.enter Tryz.func82 rfl Tryz.ntmps82 rfl (fun w0 => ?_)
  repeat' (first | refine S1 ?_ | refine SD ?_ | refine SA (fun _ => ?_) | refine WL.g_split rfl rfl (fun hc => ?_) (fun hc => ?_) | refine WD.g_split rfl rfl (fun hc => ?_) (fun hc => ?_) | refine W.cond rfl (fun hc => ?_) (fun hc => ?_))
  exact Fin.retW (by exact rfl) resA (fun _ h => h.sublist (List.nil_sublist _)) ⟨rfl, rfl⟩
theorem last_split {α : Type} {l : List α} {a : α} (h : l.getLast? = some a) : l = l.dropLast ++ [a] := by
  obtain ⟨l', rfl⟩ := List.getLast?_eq_some_iff.1 h
  simp
set_option maxRecDepth 20000 in
set_option maxHeartbeats 8000000 in
theorem gaps_tr (F : Nat → Option Obj) (s : SM) (hs : s.ok) (most : Int) (hm : -9223372036854775808 ≤ most ∧ most ≤ 9223372036854775807) : Tr Tryz.prog 82 [.pointer (some ⟨s.R, 0, none⟩), .int .i64 most].toArray F s.H
    (fun v H => ∃ (la : Option Addr) (ln lc : Nat) (lb : HL), v = .slice la ln lc ∧ OwnS 92 2 ((Spn.gaps s.S most).flatMap gCells) v lb ∧ H = s.H ++ lb) := by
  refine Tr.enter Tryz.func82 rfl Tryz.ntmps82 rfl (fun w0 => ?_)
  unfold SM.H
  repeat' (first | refine S1 ?_ | refine SD ?_ | refine SA (fun _ => ?_) | refine WL.g_split rfl rfl (fun hc => ?_) (fun hc => ?_) | refine WD.g_split rfl rfl (fun hc => ?_) (fun hc => ?_) | refine W.cond rfl (fun hc => ?_) (fun hc => ?_))
  · refine Fin.retW (by exact rfl) resA (H' := s.H ++ []) (fun _ h => ?_) ⟨none, 0, 0, [], rfl, .inl ⟨rfl, ?_, rfl⟩, rfl⟩
    · rw [List.append_nil]; exact h.sublist (.cons _ (.refl _))
    · unfold Spn.gaps; rw [if_pos (of_decide_eq_true hc)]; rfl
  have hm1 : ¬ most < 1 := of_decide_eq_false hc
  rename_i b2 b5
  refine WL.e rfl (Ef.call (by exact rfl) (.nil _) (keys_tr _ s.M)) ?_
  rintro _ _ ⟨_, ⟨bm, rfl, rfl⟩, rfl⟩
  repeat' (first | refine S1 ?_ | refine SD ?_ | refine SA (fun _ => ?_) | refine WL.g_split rfl rfl (fun hc => ?_) (fun hc => ?_) | refine WD.g_split rfl rfl (fun hc => ?_) (fun hc => ?_) | refine W.cond rfl (fun hc => ?_) (fun hc => ?_))
  refine WL.e rfl (Ef.call (c := s.KH bm ++ s.CH b5 b2) (by exact rfl) (.pick .here (.pick (.there (.there (.there .here))) (.pick .here (.pick .here (.pick .here (.nil _)))))) (sorted_tr _ s hs bm b5 b2)) ?_
  rintro _ _ ⟨_, ⟨ks, sa, sn, sc, hb, hp, hso, rfl, hown, rfl⟩, rfl⟩
  rw [List.append_nil]
  have hds := sorted_dist hs hp hso
  have hlen := SM.len hs
  have hpl := hp.length_eq
  have hle := dist_le s.S.p
  unfold count at hlen
  have hkl := hown.len
  rw [List.length_map] at hkl
  generalize hdd : dist s.S.p = ds at hds hlen hle
  have hdl : ds.length = ks.length := by rw [← hds]; simp
  unfold SM.KH SM.CH
  repeat' (first | refine S1 ?_ | refine SD ?_ | refine SA (fun _ => ?_) | refine WL.g_split rfl rfl (fun hc => ?_) (fun hc => ?_) | refine WD.g_split rfl rfl (fun hc => ?_) (fun hc => ?_) | refine W.cond rfl (fun hc => ?_) (fun hc => ?_))
  refine W.loop (G := GpG) (fun g => [(1, .int .i64 most), (4, .slice g.la g.ln g.lc), (5, .pointer (some ⟨b5, 0, none⟩)), (25, .slice sa sn sc), (26, .int .i64 sn), (27, .int .i64 g.i)])
    (fun g => g.lb ++ (hb ++ ([(b5, .cells [farV b2].toArray 149 (0, 0)), (b2, .cells [.pointer (some ⟨s.R, 0, none⟩)].toArray 103 (0, 0)), (s.R, .cells [.int .u32 s.base, .map (some s.M)].toArray 125 (0, 0)), (s.M, .map (s.es.map Se.ent).toArray s.clk)] : HL)))
    (fun g => g.i ≤ sn ∧ OwnS 92 2 (g.acc.flatMap gCells) (.slice g.la g.ln g.lc) g.lb ∧ runs most g.acc (ds.drop g.i) = runs most [] ds ∧ (∀ q ∈ g.acc, q.2 ≤ 4096) ∧ g.acc.length ≤ g.i) (fun g => sn - g.i) ⟨0, [], none, 0, 0, []⟩
    ⟨Nat.zero_le _, .inl ⟨rfl, rfl, rfl⟩, rfl, by simp, Nat.le_refl _⟩ envA (fun _ h => ?_) ?_
  · exact In.of_sub (.pickL (L := hb) .here (.pick (.right .here) (.pick (.right .here) (.pick (.right .here) (.pick (.there .here) (.nil _)))))) h
  rintro ⟨i, acc, la, ln, lc, lb⟩ ⟨hi, hx, hrun, hacc, hal⟩
  dsimp only at hi hx hrun hacc hal ⊢
  have hfl : (acc.flatMap gCells).length = acc.length * 2 := flat_len' gCells 2 (fun _ => rfl) acc
  have hln : acc.length = ln := by have := hx.len; rw [hfl] at this; omega
  repeat' (first | refine S1 ?_ | refine SD ?_ | refine SA (fun _ => ?_) | refine WL.g_split rfl rfl (fun hc => ?_) (fun hc => ?_) | refine WD.g_split rfl rfl (fun hc => ?_) (fun hc => ?_) | refine W.cond rfl (fun hc => ?_) (fun hc => ?_))
  · have hi' : i < sn := by simp at hc; omega
    obtain ⟨e, he⟩ : ∃ e, ks[i]? = some e := ⟨ks[i]'(by omega), by simp⟩
    have hem : e ∈ s.es := hp.mem_iff.1 (List.mem_of_getElem? he)
    obtain ⟨kg, ko, rfl⟩ := hown.addr (by omega)
    have hia : 0 ≤ (i : Int) ∧ (i : Int) < sn := by omega
    have hw := inW_iff.1 (hs.win e hem)
    obtain ⟨d, hd⟩ : ∃ d, far s.base e.key = d := ⟨_, rfl⟩
    have hd16 : far16 s.base e.key = d := by rw [far16_small hw.2, hd]
    have hd96 : d ≤ 4096 := by omega
    have hdi : ds[i]? = some d := by rw [← hds, List.getElem?_map, he]; simp [hd]
    have hdrop : ds.drop i = d :: ds.drop (i + 1) := by
      obtain ⟨h1, h2⟩ := List.getElem?_eq_some_iff.1 hdi
      rw [List.drop_eq_getElem_cons h1, h2]
    repeat' (first | refine S1 ?_ | refine SD ?_ | refine SA (fun _ => ?_) | refine WL.g_split rfl rfl (fun hc => ?_) (fun hc => ?_) | refine WD.g_split rfl rfl (fun hc => ?_) (fun hc => ?_) | refine W.cond rfl (fun hc => ?_) (fun hc => ?_))
    refine WL.s rfl (Rd.ld (v := .int .u32 e.key) rfl (.right (.left (hown.cell (k := (i : Int).toNat * 1) (by rw [List.getElem?_map, show (i : Int).toNat * 1 = i by omega, he]; rfl))))) ?_
    repeat' (first | refine S1 ?_ | refine SD ?_ | refine SA (fun _ => ?_) | refine WL.g_split rfl rfl (fun hc => ?_) (fun hc => ?_) | refine WD.g_split rfl rfl (fun hc => ?_) (fun hc => ?_) | refine W.cond rfl (fun hc => ?_) (fun hc => ?_))
    refine WL.e rfl (Ef.lookV (f := 104) (fv := []) (cv := [.pointer (some ⟨b2, 0, none⟩)]) (vals := [.int .u32 e.key]) (all := [.int .u32 e.key, .pointer (some ⟨b2, 0, none⟩)]) rfl (by exact rfl) rfl
      (fun F' hF => farF_tr F' b2 s.R s.base e.key ((Can.cut (n := 1) (.right (.right (.there (.here rfl))))).mono hF) ((Can.cut (n := 1) (.right (.right (.there (.there (.here rfl)))))).mono hF))) ?_
    rintro _ _ ⟨rfl, rfl⟩
    rw [hd16]
    rcases List.eq_nil_or_concat acc with hn | ⟨acc', ⟨f, tt⟩, hcc⟩
    · have hr : decide (IntKind.i64.wrap ((ln : Int) - 1) ≥ 0) = false → runs most acc (d :: ds.drop (i + 1)) = if (acc.length : Int) = most then acc else runs most (acc ++ [(d, d)]) (ds.drop (i + 1)) := by
        intro _; rw [hn]; rfl
      have h0 : ln = 0 := by rw [hn] at hln; exact hln.symm
      have e1 : IntKind.i64.wrap ((ln : Int) - 1) = -1 := by rw [h0]; decide
      repeat' (first | refine S1 ?_ | refine SD ?_ | refine SA (fun _ => ?_) | refine WL.g_split rfl rfl (fun hc => ?_) (fun hc => ?_) | refine WD.g_split rfl rfl (fun hc => ?_) (fun hc => ?_) | refine W.cond rfl (fun hc => ?_) (fun hc => ?_))
      · exfalso; rw [e1] at hc; cases hc
      · have hfull : (acc.length : Int) = most := by have : (ln : Int) = most := by simpa using hc
                                                     omega
        refine Fin.retW (by exact rfl) resA (H' := s.H ++ lb) (fun _ h => ?_) ⟨_, ln, lc, lb, rfl, ?_, rfl⟩
        · exact In.of_sub (.pick (.right (.right (.there (.there .here)))) (.pick (.right (.right (.there (.there .here)))) (.last (L := lb) .here))) h
        · have hg : Spn.gaps s.S most = acc := by
            unfold Spn.gaps
            rw [if_neg hm1, hdd, ← hrun, hdrop, hr (by assumption), if_pos hfull]
          rw [hg]
          exact hx
      · have hfull : ¬ (acc.length : Int) = most := by have : ¬ (ln : Int) = most := by simpa using hc
                                                       omega
        rename_i b62
        refine WL.e rfl (Ef.app (m := 1) (news := gCells (d, d)) (by exact rfl) (by exact rfl) rfl rfl hx (.last (.there .here)) (Src.own (n := 2) (.here rfl)) rfl (by simp [gCells, Value.oneCell']) (by rw [hfl]; simp [gCells]; omega) (by rw [hfl]; simp [gCells, maxLen]; omega)) ?_
        rintro v' _ ⟨lb', hx', rfl⟩
        obtain ⟨la', ln', lc', rfl, _, _⟩ := OwnS.shape hx'
        repeat' (first | refine S1 ?_ | refine SD ?_ | refine SA (fun _ => ?_) | refine WL.g_split rfl rfl (fun hc => ?_) (fun hc => ?_) | refine WD.g_split rfl rfl (fun hc => ?_) (fun hc => ?_) | refine W.cond rfl (fun hc => ?_) (fun hc => ?_))
        rw [i64_succ (by omega)]
        refine Fin.round ⟨i + 1, acc ++ [(d, d)], la', ln', lc', lb'⟩ ⟨hi', by rw [List.flatMap_append]; simpa using hx', ?_, ?_, by simp; omega⟩ envA (fun _ h => ?_) (by dsimp only; omega)
        · dsimp only
          rw [← hrun, hdrop, hr (by assumption), if_neg hfull]
        · intro q hq
          rcases List.mem_append.1 hq with hq | hq
          · exact hacc q hq
          · rw [List.mem_singleton.1 hq]; exact hd96
        · exact In.of_sub (.pickL (L := lb') .here (.last (L := hb ++ _) (.there .all))) h
    · rw [List.concat_eq_append] at hcc
      have hl1 : ln = acc'.length + 1 := by rw [hcc] at hln; simp at hln; omega
      have e1 : IntKind.i64.wrap ((ln : Int) - 1) = (acc'.length : Nat) := by rw [i64_id (by omega) (by omega)]; omega
      have htt : tt ≤ 4096 := hacc (f, tt) (by rw [hcc]; simp)
      obtain ⟨lg, lo, rfl⟩ := hx.addr (by omega)
      have hge : decide (IntKind.i64.wrap ((ln : Int) - 1) ≥ 0) = true := by rw [e1]; simp
      repeat' (first | refine S1 ?_ | refine SD ?_ | refine SA (fun _ => ?_) | refine WL.g_split rfl rfl (fun hc => ?_) (fun hc => ?_) | refine WD.g_split rfl rfl (fun hc => ?_) (fun hc => ?_) | refine W.cond rfl (fun hc => ?_) (fun hc => ?_))
      rotate_left
      · exfalso; rw [‹decide (IntKind.i64.wrap ((ln : Int) - 1) ≥ 0) = false›] at hge; cases hge
      · exfalso; rw [‹decide (IntKind.i64.wrap ((ln : Int) - 1) ≥ 0) = false›] at hge; cases hge
      rw [e1]
      have hia2 : 0 ≤ ((acc'.length : Nat) : Int) ∧ ((acc'.length : Nat) : Int) < ln := by omega
      have hxc : (acc.flatMap gCells)[((acc'.length : Nat) : Int).toNat * 2 + 1]? = some (.int .u16 tt) := by
        rw [hcc, List.flatMap_append, Int.toNat_natCast, List.getElem?_append_right (by rw [flat_len' gCells 2 (fun _ => rfl)]; omega), flat_len' gCells 2 (fun _ => rfl)]
        rw [show acc'.length * 2 + 1 - acc'.length * 2 = 1 by omega]
        rfl
      repeat' (first | refine S1 ?_ | refine SD ?_ | refine SA (fun _ => ?_) | refine WL.g_split rfl rfl (fun hc => ?_) (fun hc => ?_) | refine WD.g_split rfl rfl (fun hc => ?_) (fun hc => ?_) | refine W.cond rfl (fun hc => ?_) (fun hc => ?_))
      refine WL.s rfl (Rd.ld (v := .int .u16 tt) rfl (.left (by have := hx.cell hxc; rw [← Nat.add_assoc] at this; exact this))) ?_
      have e2 : (IntKind.u16.wrap ((tt : Nat) + 1 : Int) == ((d : Nat) : Int)) = decide (tt + 1 = d) := by
        rw [show IntKind.u16.wrap ((tt : Nat) + 1 : Int) = ((tt + 1 : Nat) : Int) by simp [IntKind.wrap, IntKind.bits, IntKind.signed]; omega]
        by_cases h : tt + 1 = d
        · subst h; simp
        · have : ¬ ((tt + 1 : Nat) : Int) = (d : Int) := by omega
          simp [h]
          omega
      have hr : (IntKind.u16.wrap ((tt : Nat) + 1 : Int) == ((d : Nat) : Int)) = false → runs most acc (d :: ds.drop (i + 1)) = if (acc.length : Int) = most then acc else runs most (acc ++ [(d, d)]) (ds.drop (i + 1)) := by
        intro h
        rw [e2] at h
        rw [runs, show acc.getLast? = some (f, tt) by rw [hcc]; simp]
        simp only
        rw [if_neg (of_decide_eq_false h)]
      repeat' (first | refine S1 ?_ | refine SD ?_ | refine SA (fun _ => ?_) | refine WL.g_split rfl rfl (fun hc => ?_) (fun hc => ?_) | refine WD.g_split rfl rfl (fun hc => ?_) (fun hc => ?_) | refine W.cond rfl (fun hc => ?_) (fun hc => ?_))
      · rw [e2] at hc
        have hadj : tt + 1 = d := of_decide_eq_true hc
        have hxk : ((acc'.length : Nat) : Int).toNat * 2 + 1 + [Value.int .u16 d].length ≤ (acc.flatMap gCells).length := by rw [hfl]; simp; omega
        obtain ⟨lb', hx', hput⟩ := hx.put (((acc'.length : Nat) : Int).toNat * 2 + 1) [.int .u16 d] hxk
        refine WL.e0 (Ef.st rfl rfl rfl (PutAt.left (H1' := lb') (by rw [← Nat.add_assoc] at hput; exact hput))) ?_
        rintro _ _ ⟨rfl, rfl⟩
        repeat' (first | refine S1 ?_ | refine SD ?_ | refine SA (fun _ => ?_) | refine WL.g_split rfl rfl (fun hc => ?_) (fun hc => ?_) | refine WD.g_split rfl rfl (fun hc => ?_) (fun hc => ?_) | refine W.cond rfl (fun hc => ?_) (fun hc => ?_))
        have hcells : (acc.flatMap gCells).take (((acc'.length : Nat) : Int).toNat * 2 + 1) ++ [.int .u16 d] ++ (acc.flatMap gCells).drop (((acc'.length : Nat) : Int).toNat * 2 + 1 + [Value.int .u16 d].length) = (acc' ++ [(f, d)]).flatMap gCells := by
          have hl2 : (acc'.flatMap gCells).length = acc'.length * 2 := flat_len' gCells 2 (fun _ => rfl) acc'
          rw [hcc, List.flatMap_append, List.flatMap_append, Int.toNat_natCast, ← hl2]
          rw [List.take_length_add_append, show (acc'.flatMap gCells).length + 1 + [Value.int .u16 d].length = (acc'.flatMap gCells).length + 2 by rfl, List.drop_length_add_append]
          simp [gCells]
        rw [hcells] at hx'
        rw [i64_succ (by omega)]
        refine Fin.round ⟨i + 1, acc' ++ [(f, d)], some ⟨lg, lo, none⟩, ln, lc, lb'⟩ ⟨hi', hx', ?_, ?_, by rw [hcc] at hal; simp at hal ⊢; omega⟩ envA (fun _ h => h) (by dsimp only; omega)
        · dsimp only
          rw [← hrun, hdrop, runs, show acc.getLast? = some (f, tt) by rw [hcc]; simp]
          simp only
          rw [if_pos hadj, hcc]
          simp
        · intro q hq
          rcases List.mem_append.1 hq with hq | hq
          · exact hacc q (by rw [hcc]; simp [hq])
          · rw [List.mem_singleton.1 hq]; exact hd96
      · have hfull : (acc.length : Int) = most := by have : (ln : Int) = most := by simpa using hc
                                                     omega
        refine Fin.retW (by exact rfl) resA (H' := s.H ++ lb) (fun _ h => ?_) ⟨_, ln, lc, lb, rfl, ?_, rfl⟩
        · exact In.of_sub (.pick (.right (.right (.there (.there .here)))) (.pick (.right (.right (.there (.there .here)))) (.last (L := lb) .here))) h
        · have hg : Spn.gaps s.S most = acc := by
            unfold Spn.gaps
            rw [if_neg hm1, hdd, ← hrun, hdrop, hr (by assumption), if_pos hfull]
          rw [hg]
          exact hx
      · have hfull : ¬ (acc.length : Int) = most := by have : ¬ (ln : Int) = most := by simpa using hc
                                                       omega
        rename_i b62
        refine WL.e rfl (Ef.app (m := 1) (news := gCells (d, d)) (by exact rfl) (by exact rfl) rfl rfl hx (.last (.there .here)) (Src.own (n := 2) (.here rfl)) rfl (by simp [gCells, Value.oneCell']) (by rw [hfl]; simp [gCells]; omega) (by rw [hfl]; simp [gCells, maxLen]; omega)) ?_
        rintro v' _ ⟨lb', hx', rfl⟩
        obtain ⟨la', ln', lc', rfl, _, _⟩ := OwnS.shape hx'
        repeat' (first | refine S1 ?_ | refine SD ?_ | refine SA (fun _ => ?_) | refine WL.g_split rfl rfl (fun hc => ?_) (fun hc => ?_) | refine WD.g_split rfl rfl (fun hc => ?_) (fun hc => ?_) | refine W.cond rfl (fun hc => ?_) (fun hc => ?_))
        rw [i64_succ (by omega)]
        refine Fin.round ⟨i + 1, acc ++ [(d, d)], la', ln', lc', lb'⟩ ⟨hi', by rw [List.flatMap_append]; simpa using hx', ?_, ?_, by simp; omega⟩ envA (fun _ h => ?_) (by dsimp only; omega)
        · dsimp only
          rw [← hrun, hdrop, hr (by assumption), if_neg hfull]
        · intro q hq
          rcases List.mem_append.1 hq with hq | hq
          · exact hacc q hq
          · rw [List.mem_singleton.1 hq]; exact hd96
        · exact In.of_sub (.pickL (L := lb') .here (.last (L := hb ++ _) (.there .all))) h
  · have hin : i = sn := by simp at hc; omega
    refine Fin.retW (by exact rfl) resA (H' := s.H ++ lb) (fun _ h => ?_) ⟨la, ln, lc, lb, rfl, ?_, rfl⟩
    · exact In.of_sub (.pick (.right (.right (.there (.there .here)))) (.pick (.right (.right (.there (.there .here)))) (.last (L := lb) .here))) h
    · have hg : Spn.gaps s.S most = acc := by
        unfold Spn.gaps
        rw [if_neg hm1, hdd, ← hrun, List.drop_eq_nil_of_le (by omega), runs]
      rw [hg]
      exact hx
end Go.Proofs.YthjglhdjlmjffaaGreat
