/- The reassembler's method 'ready', walked: the bytes of some pieces become a message of the row. Conditions: the pieces are there. -/
import Derived.Test.YthjglhdjlmjffaaGreatRmC
namespace Go.Proofs.YthjglhdjlmjffaaGreat
open Go Go.Sl Go.Rm

theorem flat_sub {α : Type} {l1 l2 : List α} (f : α → HL) (h : l1.Sublist l2) : (l1.flatMap f).Sublist (l2.flatMap f) := by
  induction h with
  | slnil => exact List.Sublist.refl _
  | cons a _ ih => rw [List.flatMap_cons]; exact ih.trans (List.sublist_append_right _ _)
  | cons_cons a _ ih => rw [List.flatMap_cons, List.flatMap_cons]; exact (List.Sublist.refl _).append ih
theorem flat_mem {α : Type} {l : List α} {a : α} (f : α → HL) (h : a ∈ l) : (f a).Sublist (l.flatMap f) := by
  obtain ⟨s, t, rfl⟩ := List.append_of_mem h
  rw [List.flatMap_append, List.flatMap_cons]
  exact (List.sublist_append_left _ _).trans (List.sublist_append_right _ _)

structure RG where
  i : Nat
  t : Int
  ps : List Pc
  acc : List UInt8
  sa : Option Addr
  sn : Nat
  sc : Nat
  hb : HL

theorem find_pc {ps : List Pc} {t : Int} {d : D} (h : at? (ps.map (·.d)) t = some d) : ∃ p, ps.find? (fun p => t == p.d.tsn) = some p ∧ p.d = d ∧ p ∈ ps := by
  rw [at_pc] at h
  cases hp : ps.find? (fun p => t == p.d.tsn) with
  | none => simp [hp] at h
  | some p => exact ⟨p, rfl, by simpa [hp] using h, List.mem_of_find?_eq_some hp⟩
theorem map_erase (ps : List Pc) (t : Int) : (ps.eraseP (fun q => t == q.d.tsn)).map (·.d) = (ps.map (·.d)).eraseP (fun d => t == d.tsn) := by
  rw [List.eraseP_map]; rfl

set_option maxHeartbeats 4000000 in
theorem ready_tr (F : Nat → Option Obj) (s : RM) (hs : s.ok) (f l : Int) (n : Nat) (hf : 0 ≤ f ∧ f < 4294967296) (hn : n < 4294967296) (hl : l = u32 (f + n)) (hall : ∀ i : Nat, i ≤ n → ∃ d, at? s.L (u32 (f + i)) = some d) :
    Tr Tryz.prog 101 [.pointer (some ⟨s.R, 0, none⟩), .int .u32 f, .int .u32 l].toArray F s.H
      (fun v H => v = .tuple #[] ∧ ∃ s' : RM, s'.ok ∧ H = s'.H ∧ s'.R = s.R ∧ s'.nx = s.nx ∧ s'.turns = s.turns ∧ (s'.L, s'.row) = Rm.ready s.L s.row f l ∧ s'.ps.Sublist s.ps) := by
  obtain ⟨d0, h0⟩ := hall 0 (by omega)
  have e0 : u32 (f + (0 : Nat)) = f := by simp only [u32_eq]; omega
  rw [e0] at h0
  obtain ⟨p0, hp0, hpd, hpm⟩ := find_pc h0
  obtain ⟨R, M, N, ps, clk, turns, nx, ra, rn, rc, rhb, ms, held⟩ := s
  refine Tr.enter Tryz.func101 rfl Tryz.ntmps101 rfl (fun w0 => ?_)
  dsimp only [RM.H, RM.core, RM.cells, RM.mhb, RM.phb, List.cons_append, List.nil_append]
  dsimp only [RM.L] at hall h0 hp0
  repeat' (first | refine S1 ?_ | refine SD ?_ | refine SA (fun _ => ?_) | refine WL.g_split rfl rfl (fun hc => ?_) (fun hc => ?_) | refine WD.g_split rfl rfl (fun hc => ?_) (fun hc => ?_) | refine W.cond rfl (fun hc => ?_) (fun hc => ?_))
  refine WD.s rfl (Rd.lk1_some (v := .agg p0.cells.toArray) rfl rfl (by repeat (first | exact MapAt.here | apply MapAt.there | apply MapAt.right)) (keysOk_ent _) (by rw [mfind_ent, hp0]; rfl)) ?_
  repeat' (first | refine S1 ?_ | refine SD ?_ | refine SA (fun _ => ?_) | refine WL.g_split rfl rfl (fun hc => ?_) (fun hc => ?_) | refine WD.g_split rfl rfl (fun hc => ?_) (fun hc => ?_) | refine W.cond rfl (fun hc => ?_) (fun hc => ?_))
  refine WD.s rfl (Rd.lk1_some (v := .agg p0.cells.toArray) rfl rfl (by repeat (first | exact MapAt.here | apply MapAt.there | apply MapAt.right)) (keysOk_ent _) (by rw [mfind_ent, hp0]; rfl)) ?_
  repeat' (first | refine S1 ?_ | refine SD ?_ | refine SA (fun _ => ?_) | refine WL.g_split rfl rfl (fun hc => ?_) (fun hc => ?_) | refine WD.g_split rfl rfl (fun hc => ?_) (fun hc => ?_) | refine W.cond rfl (fun hc => ?_) (fun hc => ?_))
  rename_i bm
  have hpok := hs.pok
  dsimp only at hpok hpm
  have htot : totD (ps.map (·.d)) ≤ 1000000000 := by have := hs.fine; dsimp only [RM.L] at this; omega
  generalize hg : gath (n + 1) (ps.map (·.d)) f l [] = q
  refine W.loop (G := RG) (fun g => [(0, .pointer (some ⟨R, 0, none⟩)), (2, .int .u32 l), (6, .pointer (some ⟨bm, 0, none⟩)), (7, .int .u32 g.t)])
    (fun g => (bm, .cells [.int .u16 p0.d.stream, .bool (!p0.d.un), .slice g.sa g.sn g.sc].toArray 39 (0, 0)) :: (R, .cells [.map (some M), .int .i64 turns, .slice (some ⟨N, 0, none⟩) nx.length nx.length, .slice ra rn rc, .int .i64 held].toArray 100 (0, 0)) ::
      (M, .map (g.ps.map Pc.ent).toArray clk) :: (N, .cells (nx.map (Value.int .u16)).toArray 36 (0, 0)) :: (g.hb ++ (rhb ++ (ms.flatMap (·.hb) ++ g.ps.flatMap (·.hb)))))
    (fun g => g.i ≤ n ∧ g.t = u32 (f + g.i) ∧ OwnS 5 1 (g.acc.map B) (.slice g.sa g.sn g.sc) g.hb ∧ q = gath (n + 1 - g.i) (g.ps.map (·.d)) g.t l g.acc ∧ g.ps.Sublist ps ∧ (∀ j : Nat, g.i ≤ j → j ≤ n → ∃ d, at? (g.ps.map (·.d)) (u32 (f + j)) = some d) ∧ g.acc.length + totD (g.ps.map (·.d)) = totD (ps.map (·.d)))
    (fun g => n - g.i) ⟨0, f, ps, [], none, 0, 0, []⟩ ⟨Nat.zero_le _, e0.symm, .inl ⟨rfl, rfl, rfl⟩, hg.symm, List.Sublist.refl _, fun j _ h => hall j h, by simp⟩ envA (fun _ h => h) ?_
  rintro ⟨i, t, pi, acc, sa, sn, sc, hb⟩ ⟨hi, ht, hown, hq, hsub, hthere, hsum⟩
  dsimp only at hi ht hown hq hsub hthere hsum ⊢
  obtain ⟨di, hdi⟩ := hthere i (Nat.le_refl _) hi
  rw [← ht] at hdi
  obtain ⟨p, hp, hpd', hpm'⟩ := find_pc hdi
  have hfuel : n + 1 - i = (n - i) + 1 := by omega
  rw [hfuel, gath, hdi] at hq
  dsimp only at hq
  have hpi : p.ok := hpok p (hsub.mem hpm')
  have hpl : p.sn = di.bytes.length := by rw [Pc.len hpi, hpd']
  have hte := tot_erase hdi
  repeat' (first | refine S1 ?_ | refine SD ?_ | refine SA (fun _ => ?_) | refine WL.g_split rfl rfl (fun hc => ?_) (fun hc => ?_) | refine WD.g_split rfl rfl (fun hc => ?_) (fun hc => ?_) | refine W.cond rfl (fun hc => ?_) (fun hc => ?_))
  refine WD.s rfl (Rd.lk1_some (v := .agg p.cells.toArray) rfl rfl (by repeat (first | exact MapAt.here | apply MapAt.there | apply MapAt.right)) (keysOk_ent _) (by rw [mfind_ent, hp]; rfl)) ?_
  repeat' (first | refine S1 ?_ | refine SD ?_ | refine SA (fun _ => ?_) | refine WL.g_split rfl rfl (fun hc => ?_) (fun hc => ?_) | refine WD.g_split rfl rfl (fun hc => ?_) (fun hc => ?_) | refine W.cond rfl (fun hc => ?_) (fun hc => ?_))
  have hsubp : p.hb.Sublist (rhb ++ (ms.flatMap (·.hb) ++ pi.flatMap (·.hb))) := ((flat_mem (·.hb) hpm').trans (List.sublist_append_right _ _)).trans (List.sublist_append_right _ _)
  refine WD.e rfl (Ef.app (m := p.sn) (news := p.d.bytes.map B) (by exact rfl) (by exact rfl) rfl rfl hown (.skip _ (.skip _ (.skip _ (.skip _ (.one _ _))))) (OwnS.src hpi (fun _ h => h.sublist (.cons _ (.cons _ (.cons _ (.cons _ (hsubp.trans (List.sublist_append_right _ _))))))))
    (by simp [Pc.len hpi]) (B_one _) (by simp [hpd']; omega) (by simp [hpd', maxLen]; omega)) ?_
  rintro v' _ ⟨hb', hown', rfl⟩
  refine ⟨Or.inl (by kernel_rfl), ?_⟩
  obtain ⟨sa', sn', sc', rfl, _, _⟩ := OwnS.shape hown'
  rw [← List.map_append, hpd'] at hown'
  repeat' (first | refine S1 ?_ | refine SD ?_ | refine SA (fun _ => ?_) | refine WL.g_split rfl rfl (fun hc => ?_) (fun hc => ?_) | refine WD.g_split rfl rfl (fun hc => ?_) (fun hc => ?_) | refine W.cond rfl (fun hc => ?_) (fun hc => ?_))
  refine WL.e0 (Ef.del (n := t) rfl rfl (by repeat (first | exact MapAt.here | apply MapAt.there | apply MapAt.right)) (keysOk_ent _)) ?_
  rintro _ _ ⟨rfl, rfl⟩
  rw [erase_ent]
  repeat' (first | refine S1 ?_ | refine SD ?_ | refine SA (fun _ => ?_) | refine WL.g_split rfl rfl (fun hc => ?_) (fun hc => ?_) | refine WD.g_split rfl rfl (fun hc => ?_) (fun hc => ?_) | refine W.cond rfl (fun hc => ?_) (fun hc => ?_))
  · -- the last one
    have hrow := hs.row
    dsimp only at hrow
    have hmany : ms.length ≤ 1000000 := by have h1 := hs.few; have h2 := hs.bound; dsimp only at h1 h2; omega
    refine WD.e rfl (Ef.app (m := 1) (news := [.int .u16 p0.d.stream, .bool (!p0.d.un), .slice sa' sn' sc']) (by exact rfl) (by exact rfl) rfl rfl hrow (.skip _ (.skipL _ (.skip _ (.skip _ (.skip _ (.skip _ (.one _ _))))))) (Src.own (n := 3) (.here rfl))
      rfl (by simp [Value.oneCell']) (by rw [flat_len]; simp; omega) (by rw [flat_len]; simp [maxLen]; omega)) ?_
    rintro vr _ ⟨rhb', hrow', rfl⟩
    refine ⟨Or.inl (by kernel_rfl), ?_⟩
    obtain ⟨ra', rn', rc', rfl, _, _⟩ := OwnS.shape hrow'
    repeat' (first | refine S1 ?_ | refine SD ?_ | refine SA (fun _ => ?_) | refine WL.g_split rfl rfl (fun hc => ?_) (fun hc => ?_) | refine WD.g_split rfl rfl (fun hc => ?_) (fun hc => ?_) | refine W.cond rfl (fun hc => ?_) (fun hc => ?_))
    rw [if_pos hc] at hq
    have hps' : (pi.eraseP (fun q => t == q.d.tsn)).Sublist ps := List.eraseP_sublist.trans hsub
    have hel : (pi.eraseP (fun q => t == q.d.tsn)).length + 1 ≤ ps.length := by
      have h1 := List.length_eraseP_of_mem (p := fun q : Pc => t == q.d.tsn) hpm' (by have := List.find?_some hp; exact this)
      have h2 := hsub.length_le
      have h3 : 0 < pi.length := List.length_pos_of_mem hpm'
      omega
    have hnn : (u32 (l - f)).toNat = n := by rw [hl]; simp only [u32_eq]; omega
    have hrd : Rm.ready (ps.map (·.d)) (ms.map (·.g)) f l = (q.2, ms.map (·.g) ++ [⟨d0.stream, !d0.un, q.1⟩]) := by
      unfold Rm.ready
      rw [hnn, hg, h0]
      rfl
    refine Fin.endW (by exact rfl) resA (H' := ({ R := R, M := M, N := N, ps := pi.eraseP (fun q => t == q.d.tsn), clk := clk, turns := turns, nx := nx, ra := ra', rn := rn', rc := rc', rhb := rhb', ms := ms ++ [⟨⟨d0.stream, !d0.un, acc ++ di.bytes⟩, sa', sn', sc', hb'⟩], held := held } : RM).H) ?_ ⟨rfl, _, ?_, rfl, rfl, rfl, rfl, ?_, hps'⟩
    · intro w h
      dsimp only [RM.H, RM.core, RM.cells, RM.mhb, RM.phb, List.cons_append, List.nil_append]
      simp only [List.flatMap_append, List.flatMap_cons, List.flatMap_nil, List.append_nil, List.append_assoc]
      have h2 : In F ((R, .cells [.map (some M), .int .i64 turns, .slice (some ⟨N, 0, none⟩) nx.length nx.length, .slice ra' rn' rc', .int .i64 held].toArray 100 (0, 0)) :: (M, .map ((pi.eraseP (fun q => t == q.d.tsn)).map Pc.ent).toArray clk) :: (N, .cells (nx.map (Value.int .u16)).toArray 36 (0, 0)) ::
          (rhb' ++ (ms.flatMap (·.hb) ++ (hb' ++ pi.flatMap (·.hb))))) w := In.of_sub subA h
      exact h2.sublist (.cons_cons _ (.cons_cons _ (.cons_cons _ ((List.Sublist.refl _).append ((List.Sublist.refl _).append ((List.Sublist.refl _).append (flat_sub _ List.eraseP_sublist)))))))
    · refine ⟨fun x hx => hpok x (hps'.mem hx), fun m hm => ?_, ?_, (hs.born).sublist (hps'.map _), fun x hx => hs.old x (hps'.mem hx), hs.turn.sublist hps', fun x hx => hs.turns x (hps'.mem hx), (hs.keys).sublist (hps'.map _), fun x hx => hs.wf x (hps'.mem hx), ?_, ?_, hs.bound, ?_⟩
      · rcases List.mem_append.1 hm with hm | hm
        · exact hs.mok m hm
        · rw [List.mem_singleton] at hm
          subst hm
          exact hown'
      · simp only [List.flatMap_append, List.flatMap_cons, List.flatMap_nil, List.append_nil]
        rw [hpd] at hrow'
        exact hrow'
      · have h1 := hs.held
        dsimp only [RM.L, RM.row] at h1 ⊢
        rw [map_erase, h1]
        simp only [totM, List.map_append, List.map_cons, List.map_nil, List.sum_append, List.sum_cons, List.sum_nil, List.length_append]
        omega
      · have h1 := hs.few
        dsimp only at h1 ⊢
        simp only [List.length_append, List.length_cons, List.length_nil]
        omega
      · have h1 := hs.fine
        dsimp only [RM.L, RM.row] at h1 ⊢
        rw [map_erase]
        simp only [totM, List.map_append, List.map_cons, List.map_nil, List.sum_append, List.sum_cons, List.sum_nil, List.length_append] at h1 ⊢
        omega
    · dsimp only [RM.L, RM.row]
      rw [hrd, hq, map_erase]
      simp
  · rw [if_neg (by simp [hc])] at hq
    have hin : i < n := by
      rcases Nat.lt_or_ge i n with h | h
      · exact h
      · exfalso
        obtain rfl : i = n := by omega
        rw [ht, ← hl] at hc
        simp at hc
    refine Fin.round ⟨i + 1, u32 (t + 1), pi.eraseP (fun q => t == q.d.tsn), acc ++ di.bytes, sa', sn', sc', hb'⟩
      ⟨hin, by rw [ht]; simp only [u32_eq]; omega, hown', ?_, List.eraseP_sublist.trans hsub, fun j h1 h2 => ?_, ?_⟩ envA ?_ (by dsimp only; omega)
    · rw [hq, map_erase]
      congr 1
      dsimp only; omega
    · obtain ⟨d, hd⟩ := hthere j (by dsimp only at h1; omega) h2
      refine ⟨d, ?_⟩
      rw [map_erase, at_erase_ne, hd]
      rw [ht]; simp only [u32_eq]
      dsimp only at h1
      omega
    · dsimp only
      rw [map_erase]
      simp only [List.length_append]
      omega
    · intro w h
      have h2 : In F ((bm, .cells [.int .u16 p0.d.stream, .bool (!p0.d.un), .slice sa' sn' sc'].toArray 39 (0, 0)) :: (R, .cells [.map (some M), .int .i64 turns, .slice (some ⟨N, 0, none⟩) nx.length nx.length, .slice ra rn rc, .int .i64 held].toArray 100 (0, 0)) ::
          (M, .map ((pi.eraseP (fun q => t == q.d.tsn)).map Pc.ent).toArray clk) :: (N, .cells (nx.map (Value.int .u16)).toArray 36 (0, 0)) :: (hb' ++ (rhb ++ (ms.flatMap (·.hb) ++ pi.flatMap (·.hb))))) w := In.of_sub subA h
      exact h2.sublist (.cons_cons _ (.cons_cons _ (.cons_cons _ (.cons_cons _ ((List.Sublist.refl _).append ((List.Sublist.refl _).append ((List.Sublist.refl _).append (flat_sub _ List.eraseP_sublist))))))))
end Go.Proofs.YthjglhdjlmjffaaGreat
