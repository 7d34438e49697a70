/- The document's reassembler's methods 'ready' over the whole of it, 'ordered' and 'on', walked. Conditions: the pieces are there; the stream is one of its own. -/
import Derived.Test.YthjglhdjlmjffaaGreatRfB
namespace Go.Proofs.YthjglhdjlmjffaaGreat
open Go Go.Sl Go.Rm

theorem RF.ok.good {s : RF} (hs : s.ok) : Rm.good s.L := ⟨hs.keys, fun d hd => by obtain ⟨p, hp, rfl⟩ := List.mem_map.1 hd; exact hs.wf p hp, by have := hs.few; simp only [RF.L, List.length_map]; omega⟩
theorem rready_tr (F : Nat → Option Obj) (X : HL) (s : RF) (hs : s.ok) (p : D) (hp : p ∈ s.L) (f l : Int) (hw : whole s.L p = some (f, l)) (ia : Option Addr) (inn ic : Nat) (hI : OwnS 3 1 (ixV ((run f (u32 (l - f)).toNat).map (ixAt s.L))) (.slice ia inn ic) X) :
    Tr Tryz.prog 91 [.pointer (some ⟨s.R, 0, none⟩), .slice ia inn ic].toArray F (s.H ++ X)
      (fun v H => v = .tuple #[] ∧ ∃ s' : RF, s'.ok ∧ H = s'.H ∧ s'.R = s.R ∧ s'.nx = s.nx ∧ (s'.L, s'.row) = Rm.ready s.L s.row f l ∧ s'.L.length < s.L.length) := by
  have hgood := hs.good
  obtain ⟨hf, n, hn, hl, hln, hnl, hall⟩ := whole_run (at_of_mem hgood.keys hp) (hgood.wf p hp) hgood.few hw
  obtain ⟨d0, h0, _⟩ := hall 0 (by omega)
  rw [show u32 (f + (0 : Nat)) = f by simp only [u32_eq]; omega] at h0
  have hfew := hs.few
  have hLl : s.L.length = s.ps.length := by simp [RF.L]
  have e : s.H ++ X = ((s.R, .cells s.cells.toArray 109 (0, 0)) :: (s.N, .cells (s.nx.map (Value.int .u16)).toArray 36 (0, 0)) :: s.rhb) ++ (s.lhb ++ (s.mhb ++ (s.phb ++ X))) := by simp [RF.H, RF.core]
  rw [e]
  rw [hln] at hI
  refine Tr.weak (Tr.callW (fun F' hw' => rready0 F' s.R s.N s.nx s.la s.ln s.lc s.ps s.ra s.rn s.rc s.rhb s.ms f n ia inn ic d0
    ((Lst.own (F := F) (H := s.lhb ++ (s.mhb ++ (s.phb ++ X))) hs.lst (fun _ h => h.sublist (List.sublist_append_left _ _))).mono hw') (by omega) hs.keys
    (fun q hq => ⟨Src.mono (OwnS.src (F := F) (H := s.lhb ++ (s.mhb ++ (s.phb ++ X))) (hs.pok q hq) (fun _ h => h.sublist (((flat_mem (·.hb) hq).trans (List.sublist_append_left _ _)).trans ((List.sublist_append_right _ _).trans (List.sublist_append_right _ _))))) hw', Pd.len (hs.pok q hq)⟩)
    (by have := hs.fine; dsimp only [RF.L] at this; omega) hs.row (by omega) hf (by omega) (fun t ht => by obtain ⟨i, hi, rfl⟩ := mem_run.1 ht; obtain ⟨d, hd, _⟩ := hall i hi; exact ⟨d, hd⟩)
    ((Lst.own (F := F) (H := s.lhb ++ (s.mhb ++ (s.phb ++ X))) hI (fun _ h => h.sublist ((List.sublist_append_right _ _).trans ((List.sublist_append_right _ _).trans (List.sublist_append_right _ _))))).mono hw') h0)) ?_
  rintro _ _ ⟨_, ⟨rfl, la', ln', lc', lhb', ra', rn', rc', rhb', m, hm, hg, hL', hr', rfl⟩, rfl⟩
  have hrd := ready_run (row := s.row) hgood.keys hf hn hl h0
  have hLf : (s.ps.filter (keepR f n)).map (·.d) = s.L.filter (fun d => !((run f n).contains d.tsn)) := by unfold RF.L; rw [List.filter_map]; rfl
  have hSr : (((s.ps.filter (keepR f n)).map (·.d)), (s.ms ++ [m]).map (·.g)) = Rm.ready s.L s.row f l := by
    rw [hrd, hLf, List.map_append, List.map_cons, List.map_nil, hg]
    rfl
  have hlt := ready_lt (row := s.row) (l := l) h0
  have htot := ready_tot (row := s.row) hgood hp hw
  rw [← hSr] at hlt htot
  dsimp only at hlt htot
  have hsub : (s.ps.filter (keepR f n)).Sublist s.ps := List.filter_sublist
  refine ⟨_, ⟨rfl, ⟨s.R, s.N, s.ps.filter (keepR f n), s.nx, la', ln', lc', lhb', s.ms ++ [m], ra', rn', rc', rhb'⟩, ⟨fun q hq => hs.pok q (hsub.mem hq), fun q hq => ?_, hL', hr', hs.keys.sublist ((hsub.map _).map _), fun q hq => hs.wf q (hsub.mem hq), ?_, ?_⟩, rfl, rfl, rfl, hSr, hlt⟩, ?_⟩
  · rcases List.mem_append.1 hq with h | h
    · exact hs.mok q h
    · rw [List.mem_singleton] at h; subst h; exact hm
  · dsimp only
    simp only [List.length_append, List.length_cons, List.length_nil, List.length_map] at hlt ⊢
    omega
  · have := hs.fine
    dsimp only [RF.L, RF.row] at htot this ⊢
    omega
  · intro w h
    dsimp only [RF.H, RF.core, RF.cells, RF.mhb, RF.phb]
    simp only [List.flatMap_append, List.flatMap_cons, List.flatMap_nil, List.append_nil, List.append_assoc, List.cons_append, List.nil_append] at h ⊢
    have h2 := In.of_sub (c := (s.R, .cells [.slice la' ln' lc', .slice (some ⟨s.N, 0, none⟩) s.nx.length s.nx.length, .slice ra' rn' rc'].toArray 109 (0, 0)) :: (s.N, .cells (s.nx.map (Value.int .u16)).toArray 36 (0, 0)) :: (rhb' ++ (lhb' ++ (s.ms.flatMap (·.hb) ++ (m.hb ++ s.ps.flatMap (·.hb)))))) (.pick .here (.pick .here (.pickL (L := rhb') (.right .here) (.pickL (L := lhb') .here (.pickL (L := s.mhb) (.right (.right .here)) (.pickL (L := m.hb) .here (.last (L := s.phb) (.right .here)))))))) h
    exact h2.sublist (.cons_cons _ (.cons_cons _ ((List.Sublist.refl _).append ((List.Sublist.refl _).append ((List.Sublist.refl _).append ((List.Sublist.refl _).append (flat_sub _ hsub)))))))

set_option maxHeartbeats 4000000 in
theorem rordered_tr (F : Nat → Option Obj) (s : RF) (hs : Sees F [] s) (hg : Rm.good s.L) (hfew : s.ps.length ≤ 1000000) (st ssn : Int) :
    Tr Tryz.prog 93 [.pointer (some ⟨s.R, 0, none⟩), .int .u16 st, .int .u16 ssn].toArray F [] (fun v H => OwnS 3 1 (ixV (candIx s.L st ssn)) v H) := by
  refine Tr.enter Tryz.func93 rfl Tryz.ntmps93 rfl (fun w0 => ?_)
  have hln := hs.ln
  have hl := hs.l
  have hLl : s.L.length = s.ps.length := by simp [RF.L]
  repeat' (first | refine S1 ?_ | refine SD ?_ | refine SA (fun _ => ?_) | refine WL.g_split rfl rfl (fun hc => ?_) (fun hc => ?_) | refine WD.g_split rfl rfl (fun hc => ?_) (fun hc => ?_) | refine W.cond rfl (fun hc => ?_) (fun hc => ?_))
  refine W.loop (G := Nat) (fun g => [(0, .pointer (some ⟨s.R, 0, none⟩)), (1, .int .u16 st), (2, .int .u16 ssn), (7, .int .i64 g)]) (fun _ => []) (fun g => g ≤ s.ps.length ∧ (s.L.drop g).findSome? (isC s.L st ssn) = cand s.L st ssn) (fun g => s.ps.length - g) 0
    ⟨Nat.zero_le _, rfl⟩ envA (fun _ h => h) ?_
  rintro i ⟨hi, hno⟩
  try dsimp only at hi hno ⊢
  repeat' (first | refine S1 ?_ | refine SD ?_ | refine SA (fun _ => ?_) | refine WL.g_split rfl rfl (fun hc => ?_) (fun hc => ?_) | refine WD.g_split rfl rfl (fun hc => ?_) (fun hc => ?_) | refine W.cond rfl (fun hc => ?_) (fun hc => ?_))
  · have hi' : i < s.ps.length := by simp at hc; omega
    obtain ⟨p, hp⟩ : ∃ p, s.ps[i]? = some p := ⟨s.ps[i]'hi', by simp⟩
    have hd : s.L[i]? = some p.d := by unfold RF.L; rw [List.getElem?_map, hp]; rfl
    obtain ⟨b, off, hla, hA⟩ := hs.piece hp
    rw [hla] at hl ⊢
    have hia : 0 ≤ (i : Int) ∧ (i : Int) < s.ln := by omega
    have hdr : s.L.drop i = p.d :: s.L.drop (i + 1) := by rw [List.drop_eq_getElem_cons (by omega), (List.getElem?_eq_some_iff.1 hd).2]
    rw [hdr, List.findSome?_cons] at hno
    have hnext : isC s.L st ssn p.d = none → (s.L.drop (i + 1)).findSome? (isC s.L st ssn) = cand s.L st ssn := fun h => by rw [h] at hno; exact hno
    repeat' (first | refine S1 ?_ | refine SD ?_ | refine SA (fun _ => ?_) | refine WL.g_split rfl rfl (fun hc => ?_) (fun hc => ?_) | refine WD.g_split rfl rfl (fun hc => ?_) (fun hc => ?_) | refine W.cond rfl (fun hc => ?_) (fun hc => ?_))
    · refine WL.e rfl (Ef.look (by exact rfl) (fun F' hw => rwhole_tr F' s (hs.any.mono hw) hfew hg.wf p.d.tsn p.d (at_of_mem hg.keys (List.mem_of_getElem? hd)))) ?_
      rintro _ _ ⟨Hw, hown, rfl⟩
      obtain ⟨wa, wn, wc, rfl, hwl, _⟩ := OwnS.shape hown
      have hisC : isC s.L st ssn p.d = whole s.L p.d := by unfold isC; rw [if_pos (by simp_all)]
      repeat' (first | refine S1 ?_ | refine SD ?_ | refine SA (fun _ => ?_) | refine WL.g_split rfl rfl (fun hc => ?_) (fun hc => ?_) | refine WD.g_split rfl rfl (fun hc => ?_) (fun hc => ?_) | refine W.cond rfl (fun hc => ?_) (fun hc => ?_))
      · refine Fin.retW (by exact rfl) resA (fun _ h => h.sublist (List.sublist_append_left _ _)) ?_
        have hne : whole s.L p.d ≠ none := fun h => by
          rw [wholeIx_nil.2 h] at hwl
          simp [ixV] at hwl hc
          omega
        have : candIx s.L st ssn = wholeIx s.L p.d := by
          unfold candIx wholeIx
          cases hw : whole s.L p.d with
          | none => exact absurd hw hne
          | some q => rw [hisC, hw] at hno; rw [← hno]
        rw [this]
        exact hown
      · have hnone : whole s.L p.d = none := by
          rw [← wholeIx_nil]
          have : (ixV (wholeIx s.L p.d)).length = 0 := by rw [hwl]; simp at hc; omega
          simpa [ixV] using this
        rw [i64_succ (by omega)]
        exact Fin.round (i + 1) ⟨hi', hnext (hisC.trans hnone)⟩ envA (fun _ h => h.sublist (List.nil_sublist _)) (by omega)
    all_goals
      have hisC : isC s.L st ssn p.d = none := by unfold isC; rw [if_neg (by simp_all)]
      rw [i64_succ (by omega)]
      exact Fin.round (i + 1) ⟨hi', hnext hisC⟩ envA (fun _ h => h.sublist (List.nil_sublist _)) (by omega)
  · refine Fin.retW (by exact rfl) resA (fun _ h => h) ?_
    have hin : i = s.ps.length := by simp at hc; omega
    have : cand s.L st ssn = none := by rw [← hno, List.drop_of_length_le (by omega)]; rfl
    refine .inl ⟨rfl, ?_, rfl⟩
    unfold candIx
    rw [this]
    rfl
/-- the same but for the streams' next numbers -/
theorem RF.ok.nx {s : RF} (h : s.ok) (nx' : List Int) : ({ s with nx := nx' } : RF).ok := ⟨h.pok, h.mok, h.lst, h.row, h.keys, h.wf, h.few, h.fine⟩
theorem Sees.next {F : Nat → Option Obj} {H : HL} {s : RF} (h : Sees F H s) {st : Int} (hst : 0 ≤ st ∧ st < s.nx.length) : Sl.Can F H s.N (0 + st.toNat * 1) [.int .u16 (s.nx.getD st.toNat 0)] := by
  have := h.nx.one (i := st.toNat) (v := .int .u16 (s.nx.getD st.toNat 0)) (by rw [List.getElem?_map]; simp [show st.toNat < s.nx.length by omega])
  simpa using this
theorem candIx_some {L : List D} {st ssn f l : Int} (h : cand L st ssn = some (f, l)) : candIx L st ssn = (run f (u32 (l - f)).toNat).map (ixAt L) := by unfold candIx; rw [h]
theorem candIx_pos {L : List D} {st ssn : Int} {wn : Nat} (h : (ixV (candIx L st ssn)).length = wn * 1) : (wn = 0 ∧ cand L st ssn = none) ∨ (0 < wn ∧ ∃ f l, cand L st ssn = some (f, l)) := by
  unfold candIx at h
  cases hc : cand L st ssn with
  | none => rw [hc] at h; simp [ixV] at h; exact .inl ⟨by omega, rfl⟩
  | some q =>
    obtain ⟨f, l⟩ := q
    rw [hc] at h
    simp [ixV, run] at h
    exact .inr ⟨by omega, f, l, rfl⟩
set_option maxHeartbeats 4000000 in
theorem ron_tr (F : Nat → Option Obj) (s : RF) (hs : s.ok) (st : Int) (hst : 0 ≤ st ∧ st < s.nx.length) :
    Tr Tryz.prog 89 [.pointer (some ⟨s.R, 0, none⟩), .int .u16 st].toArray F s.H
      (fun v H => v = .tuple #[] ∧ ∃ s' : RF, s'.ok ∧ H = s'.H ∧ s'.R = s.R ∧ s'.S = Rm.on s.S st ∧ s'.nx.length = s.nx.length) := by
  refine Tr.enter Tryz.func89 rfl Tryz.ntmps89 rfl (fun w0 => ?_)
  repeat' (first | refine S1 ?_ | refine SD ?_ | refine SA (fun _ => ?_) | refine WL.g_split rfl rfl (fun hc => ?_) (fun hc => ?_) | refine WD.g_split rfl rfl (fun hc => ?_) (fun hc => ?_) | refine W.cond rfl (fun hc => ?_) (fun hc => ?_))
  refine W.loop (G := RF) (fun g => [(0, .pointer (some ⟨s.R, 0, none⟩)), (1, .int .u16 st)]) (fun g => g.H)
    (fun g => g.ok ∧ g.R = s.R ∧ g.nx.length = s.nx.length ∧ ∃ n, g.L.length < n ∧ onN n g.S st = Rm.on s.S st) (fun g => g.L.length) s
    ⟨hs, rfl, rfl, _, Nat.lt_succ_self _, rfl⟩ envA (fun _ h => h) ?_
  rintro g ⟨hg, hR, hnl, n, hn, hon⟩
  have hst' : 0 ≤ st ∧ st < g.nx.length := by rw [hnl]; exact hst
  rw [← hR]
  obtain ⟨n, rfl⟩ : ∃ m, n = m + 1 := ⟨n - 1, by omega⟩
  have hsee : Sees F g.H g := RF.sees hg
  have hC1 := hsee.n
  have hC2 := hsee.next hst'
  repeat' (first | refine S1 ?_ | refine SD ?_ | refine SA (fun _ => ?_) | refine WL.g_split rfl rfl (fun hc => ?_) (fun hc => ?_) | refine WD.g_split rfl rfl (fun hc => ?_) (fun hc => ?_) | refine W.cond rfl (fun hc => ?_) (fun hc => ?_))
  refine WL.e rfl (Ef.look (by exact rfl) (fun F' hw => rordered_tr F' g (hsee.mono hw) hg.good (by have := hg.few; omega) st (g.nx.getD st.toNat 0))) ?_
  rintro _ _ ⟨Hw, hown, rfl⟩
  obtain ⟨wa, wn, wc, rfl, hwl, _⟩ := OwnS.shape hown
  rcases candIx_pos hwl with ⟨rfl, hcand⟩ | ⟨hw0, f, l, hcand⟩
  · repeat' (first | refine S1 ?_ | refine SD ?_ | refine SA (fun _ => ?_) | refine WL.g_split rfl rfl (fun hc => ?_) (fun hc => ?_) | refine WD.g_split rfl rfl (fun hc => ?_) (fun hc => ?_) | refine W.cond rfl (fun hc => ?_) (fun hc => ?_))
    refine Fin.retW (by exact rfl) resA (fun _ h => h.right) ⟨rfl, g, hg, rfl, rfl, ?_, hnl⟩
    rw [← hon, onN]
    dsimp only [RF.S]
    rw [hcand]
  · repeat' (first | refine S1 ?_ | refine SD ?_ | refine SA (fun _ => ?_) | refine WL.g_split rfl rfl (fun hc => ?_) (fun hc => ?_) | refine WD.g_split rfl rfl (fun hc => ?_) (fun hc => ?_) | refine W.cond rfl (fun hc => ?_) (fun hc => ?_))
    · exfalso; simp at hc; omega
    obtain ⟨d, hdm, hdw, _⟩ := cand_mem hcand
    rw [candIx_some hcand] at hown
    refine WL.e rfl (Ef.call (by exact rfl) (.pickL (L := g.H) (.right .all) (.last .here)) (rready_tr _ Hw g hg d hdm f l hdw wa wn wc hown)) ?_
    rintro _ _ ⟨_, ⟨rfl, s', hs', rfl, hR', hnx', hLr, hlt⟩, rfl⟩
    obtain ⟨R', N', ps', nx', la', ln', lc', lhb', ms', ra', rn', rc', rhb'⟩ := s'
    dsimp only at hR' hnx'
    subst hR' hnx'
    dsimp only [RF.H, RF.core, RF.cells, RF.mhb, RF.phb, List.cons_append, List.nil_append]
    generalize hnxt : g.nx.getD st.toNat 0 = nxt
    have hN : (g.nx.map (Value.int .u16))[0 + st.toNat * 1]? = some (.int .u16 nxt) := by
      have hlt : st.toNat < g.nx.length := by omega
      rw [Nat.zero_add, Nat.mul_one, List.getElem?_map, ← hnxt]
      simp [hlt]
    have hP : spliceK (g.nx.map (Value.int .u16)) (0 + st.toNat * 1) [.int .u16 (IntKind.u16.wrap (nxt + 1))] some = some ((g.nx.set st.toNat (u16 (nxt + 1))).map (Value.int .u16)) := by
      rw [splice_one (by simp; omega), Nat.zero_add, Nat.mul_one, map_set16]
    have hL1 := congrArg Prod.fst hLr
    have hr1 := congrArg Prod.snd hLr
    dsimp only [RF.L, RF.row] at hL1 hr1
    clear hC1 hC2
    repeat' (first | refine S1 ?_ | refine SD ?_ | refine SA (fun _ => ?_) | refine WL.g_split rfl rfl (fun hc => ?_) (fun hc => ?_) | refine WD.g_split rfl rfl (fun hc => ?_) (fun hc => ?_) | refine W.cond rfl (fun hc => ?_) (fun hc => ?_))
    refine Fin.round ⟨g.R, N', ps', g.nx.set st.toNat (u16 (nxt + 1)), la', ln', lc', lhb', ms', ra', rn', rc', rhb'⟩ ⟨hs'.nx _, rfl, (by simp [hnl]), n, (by dsimp only [RF.L] at hlt hn ⊢; omega), ?_⟩ envA (fun _ h => ?_) hlt
    · rw [← hon, onN]
      dsimp only [RF.S]
      rw [hnxt] at hcand ⊢
      rw [hcand]
      dsimp only [RF.L, RF.row]
      rw [← hL1, ← hr1]
    · dsimp only [RF.H, RF.core, RF.cells, RF.mhb, RF.phb, List.cons_append, List.nil_append]
      rw [List.length_set]
      exact h.left
end Go.Proofs.YthjglhdjlmjffaaGreat
