/- The reassembler's method 'skip', walked: the messages of a stream up to a number are gone over. Conditions: the stream is one of its own, and the next numbers are 16 bits. -/
import Derived.Test.YthjglhdjlmjffaaGreatRmH
namespace Go.Proofs.YthjglhdjlmjffaaGreat
open Go Go.Sl Go.Rm

/-- what is left when some were looked at -/
def leftS (ps : List Pc) (f : Pc → Bool) (seen : List Nat) : List Pc := ps.filter (fun q => !(f q && seen.contains q.born))
theorem leftS_keep {ps : List Pc} {f : Pc → Bool} {seen : List Nat} (hnd : (ps.map (·.born)).Nodup) {p : Pc} (hp : p ∈ ps) (hf : f p = false) : leftS ps f (seen ++ [p.born]) = leftS ps f seen := by
  refine List.filter_congr fun q hq => ?_
  congr 1
  cases hfq : f q with
  | false => rfl
  | true =>
    simp only [Bool.true_and]
    rw [Bool.eq_iff_iff, List.contains_iff_mem, List.contains_iff_mem]
    refine ⟨fun h => ?_, fun h => List.mem_append_left _ h⟩
    rcases seen_snoc hnd hp hq h with h | rfl
    · exact h
    · rw [hf] at hfq; cases hfq
theorem leftS_drop {ps : List Pc} {f : Pc → Bool} {seen : List Nat} (hnd : (ps.map (·.born)).Nodup) (hk : (ps.map (·.d.tsn)).Nodup) {p : Pc} (hp : p ∈ ps) (hf : f p = true) : leftS ps f (seen ++ [p.born]) = (leftS ps f seen).eraseP (fun q => p.d.tsn == q.d.tsn) := by
  have hk' : ((leftS ps f seen).map (·.d.tsn)).Nodup := hk.sublist (List.filter_sublist.map _)
  rw [erase_filter hk']
  unfold leftS
  rw [List.filter_filter]
  refine List.filter_congr fun q hq => ?_
  by_cases he : p.d.tsn = q.d.tsn
  · have := key_inj hk hp hq he
    subst this
    simp [hf]
  · have h1 : (p.d.tsn == q.d.tsn) = false := by simpa using he
    rw [h1]
    simp only [Bool.not_false, Bool.true_and]
    congr 2
    rw [Bool.eq_iff_iff, List.contains_iff_mem, List.contains_iff_mem]
    refine ⟨fun h => ?_, fun h => List.mem_append_left _ h⟩
    rcases seen_snoc hnd hp hq h with h | rfl
    · exact h
    · exact absurd rfl he
theorem leftS_all {ps : List Pc} {f : Pc → Bool} {seen : List Nat} (hall : ∀ q ∈ leftS ps f seen, q.born ∈ seen) : leftS ps f seen = ps.filter (fun q => !f q) := by
  refine List.filter_congr fun q hq => ?_
  congr 1
  cases hfq : f q with
  | false => rfl
  | true =>
    simp only [Bool.true_and]
    rw [List.contains_iff_mem]
    by_cases h : q.born ∈ seen
    · exact h
    · refine hall q (List.mem_filter.2 ⟨hq, ?_⟩)
      simp [h]
theorem skip1_go (s : Rm.S) (st to : Int) (h : ¬ (s.nx.getD st.toNat 0 ≠ to ∧ Rm.less16 (s.nx.getD st.toNat 0) to = false)) : Rm.skip1 s st to =
    (fun q : Rm.S => on ⟨q.L.filter (fun d => !doomS st (q.nx.getD st.toNat 0) d), q.row, q.nx⟩ st) (upto ((u16 (u16 (to + 1) - s.nx.getD st.toNat 0)).toNat + 1) s st (u16 (to + 1))) := by
  unfold skip1
  rw [if_neg h]
def nx16 (l : List Int) : Prop := ∀ n ∈ l, 0 ≤ n ∧ n < 65536
theorem nx16.set {l : List Int} (h : nx16 l) (i : Nat) (n : Int) : nx16 (l.set i (u16 n)) := fun x hx => by
  rcases List.mem_or_eq_of_mem_set hx with hx | rfl
  · exact h x hx
  · simp only [u16_eq]; omega
theorem nx16.get {l : List Int} (h : nx16 l) (i : Nat) : 0 ≤ l.getD i 0 ∧ l.getD i 0 < 65536 := by
  by_cases hi : i < l.length
  · have := h l[i] (List.getElem_mem hi)
    simpa [hi] using this
  · simp [hi]

set_option maxHeartbeats 4000000 in
theorem skip_tr (F : Nat → Option Obj) (s : RM) (hs : s.ok) (st to : Int) (hst : 0 ≤ st ∧ st < s.nx.length) (_hto : 0 ≤ to ∧ to < 65536) (h16 : nx16 s.nx) :
    Tr Tryz.prog 85 [.pointer (some ⟨s.R, 0, none⟩), .agg [.int .u16 st, .int .u16 to].toArray].toArray F s.H
      (fun v H => v = .tuple #[] ∧ ∃ s' : RM, s'.ok ∧ H = s'.H ∧ s'.R = s.R ∧ s'.turns = s.turns ∧ s'.S = Rm.skip1 s.S st to ∧ s'.nx.length = s.nx.length) := by
  refine Tr.enter Tryz.func85 rfl Tryz.ntmps85 rfl (fun w0 => ?_)
  have hH : ∀ g : RM, g.H = (g.R, .cells [.map (some g.M), .int .i64 g.turns, .slice (some ⟨g.N, 0, none⟩) g.nx.length g.nx.length, .slice g.ra g.rn g.rc, .int .i64 g.held].toArray 100 (0, 0)) ::
    (g.M, .map (g.ps.map Pc.ent).toArray g.clk) :: (g.N, .cells (g.nx.map (Value.int .u16)).toArray 36 (0, 0)) :: (g.rhb ++ (g.ms.flatMap (·.hb) ++ g.ps.flatMap (·.hb))) := fun g => by
    have := RM.HX g []
    simpa only [List.append_nil] using this
  rw [hH s]
  generalize hnxt : s.nx.getD st.toNat 0 = nxt
  have hN : (s.nx.map (Value.int .u16))[0 + st.toNat * 1]? = some (.int .u16 nxt) := by
    have hlt : st.toNat < s.nx.length := by omega
    rw [Nat.zero_add, Nat.mul_one, List.getElem?_map, ← hnxt]
    simp [hlt]
  repeat' (first | refine S1 ?_ | refine SD ?_ | refine SA (fun _ => ?_) | refine WL.g_split rfl rfl (fun hc => ?_) (fun hc => ?_) | refine WD.g_split rfl rfl (fun hc => ?_) (fun hc => ?_) | refine W.cond rfl (fun hc => ?_) (fun hc => ?_))
  · refine WD.e rfl (Ef.callR (by exact rfl) subA (less16_tr _ nxt to)) ?_
    rintro _ _ ⟨rfl, rfl⟩
    refine ⟨by first | (refine Or.inr (fun _ h => h.sublist ?_); (repeat (first | exact List.Sublist.refl _ | refine List.Sublist.cons_cons _ ?_ | refine List.Sublist.cons _ ?_)); first | done | fail) | exact Or.inl (by kernel_rfl), ?_⟩
    repeat' (first | refine S1 ?_ | refine SD ?_ | refine SA (fun _ => ?_) | refine WL.g_split rfl rfl (fun hc => ?_) (fun hc => ?_) | refine WD.g_split rfl rfl (fun hc => ?_) (fun hc => ?_) | refine W.cond rfl (fun hc => ?_) (fun hc => ?_))
    · refine Fin.retW (by exact rfl) resA (H' := s.H) (fun _ h => by rw [hH s]; exact h.sublist (.cons _ (.refl _))) ⟨rfl, s, hs, rfl, rfl, rfl, ?_, rfl⟩
      unfold skip1
      rw [if_pos]
      dsimp only [RM.S]
      rw [hnxt]
      simp at *
      simp [*]
    · have hgo : ¬ (nxt ≠ to ∧ Rm.less16 nxt to = false) := by simp at hc; simp [hc]
      rename Nat => b3
      have he : 0 ≤ u16 (to + 1) ∧ u16 (to + 1) < 65536 := by simp only [u16_eq]; omega
      have hsn : s.S.nx.getD st.toNat 0 = nxt := hnxt
      have hsk := skip1_go s.S st to (by rw [hsn]; exact hgo)
      rw [hsn] at hsk
      generalize hq : upto ((u16 (u16 (to + 1) - nxt)).toNat + 1) s.S st (u16 (to + 1)) = q at hsk
      generalize hed : u16 (to + 1) = e at he hq
      have hed' : IntKind.u16.wrap (to + 1) = e := hed
      rw [hed']
      refine W.loop (G := RM) (fun g => [(0, .pointer (some ⟨s.R, 0, none⟩)), (3, .pointer (some ⟨b3, 0, none⟩)), (4, .int .u16 e)]) (fun g => (b3, .cells [.int .u16 st, .int .u16 to].toArray 127 (0, 0)) :: g.H)
        (fun g => g.ok ∧ g.R = s.R ∧ g.turns = s.turns ∧ g.nx.length = s.nx.length ∧ nx16 g.nx ∧ ∃ n, (u16 (e - g.nx.getD st.toNat 0)).toNat < n ∧ upto n g.S st e = q) (fun g => (u16 (e - g.nx.getD st.toNat 0)).toNat) s
        ⟨hs, rfl, rfl, rfl, h16, _, by rw [hnxt]; exact Nat.lt_succ_self _, hq⟩ envA (fun _ h => by rw [hH s]; exact h) ?_
      rintro g ⟨hg, hgR, hgt, hgl, hg16, n, hn, hup⟩
      obtain ⟨n, rfl⟩ : ∃ m, n = m + 1 := ⟨n - 1, by omega⟩
      rw [hH g]
      rw [← hgR]
      have hst' : 0 ≤ st ∧ st < g.nx.length := by rw [hgl]; exact hst
      have hgn := hg16.get st.toNat
      generalize hgnx : g.nx.getD st.toNat 0 = x at hgn hn
      have hNg : (g.nx.map (Value.int .u16))[0 + st.toNat * 1]? = some (.int .u16 x) := by
        have hlt : st.toNat < g.nx.length := by omega
        rw [Nat.zero_add, Nat.mul_one, List.getElem?_map, ← hgnx]
        simp [hlt]
      repeat' (first | refine S1 ?_ | refine SD ?_ | refine SA (fun _ => ?_) | refine WL.g_split rfl rfl (fun hc => ?_) (fun hc => ?_) | refine WD.g_split rfl rfl (fun hc => ?_) (fun hc => ?_) | refine W.cond rfl (fun hc => ?_) (fun hc => ?_))
      · have hne : x ≠ e := by simpa using hc
        refine WL.e rfl (Ef.call (c := g.H) (by exact rfl) (by rw [hH g]; exact .skip _ (.all _)) (waiting_tr _ g hg st hst')) ?_
        rintro v _ ⟨H1, hpost, rfl⟩
        have key : ∃ g1 : RM, g1.ok ∧ H1 = g1.H ∧ g1.R = g.R ∧ g1.nx = g.nx ∧ g1.turns = g.turns ∧ g1.S = wait g.S st := by
          rcases hpost with ⟨hcand, _, rfl⟩ | ⟨f, l, hcand, _, s', hs', rfl, h1, h2, h3, h4, _⟩
          · refine ⟨g, hg, rfl, rfl, rfl, rfl, ?_⟩
            unfold wait
            rw [show cand g.S.L st (g.S.nx.getD st.toNat 0) = none from hcand]
          · refine ⟨s', hs', rfl, h1, h2, h3, ?_⟩
            unfold wait
            rw [show cand g.S.L st (g.S.nx.getD st.toNat 0) = some (f, l) from hcand]
            have e1 := congrArg Prod.fst h4
            have e2 := congrArg Prod.snd h4
            dsimp only at e1 e2
            dsimp only [RM.S]
            rw [e1, e2, h2]
        obtain ⟨g1, hg1, rfl, hR1, hnx1, ht1, hS1⟩ := key
        clear hpost
        rw [hH g1, hR1, hnx1]
        simp only [List.cons_append, List.append_assoc]
        have hP : spliceK (g.nx.map (Value.int .u16)) (0 + st.toNat * 1) [.int .u16 (IntKind.u16.wrap (x + 1))] some = some ((g.nx.set st.toNat (u16 (x + 1))).map (Value.int .u16)) := by
          rw [splice_one (by simp; omega), Nat.zero_add, Nat.mul_one, map_set16]
        have hget : (g.nx.set st.toNat (u16 (x + 1))).getD st.toNat 0 = u16 (x + 1) := by
          have hlt : st.toNat < g.nx.length := by omega
          simp [hlt]
        repeat' (first | refine S1 ?_ | refine SD ?_ | refine SA (fun _ => ?_) | refine WL.g_split rfl rfl (fun hc => ?_) (fun hc => ?_) | refine WD.g_split rfl rfl (fun hc => ?_) (fun hc => ?_) | refine W.cond rfl (fun hc => ?_) (fun hc => ?_))
        refine Fin.round ({ g1 with nx := g.nx.set st.toNat (u16 (x + 1)) } : RM) ⟨hg1.nx _, hR1, ht1.trans hgt, by simp [hgl], hg16.set _ _, n, ?_, ?_⟩ envA (fun _ h => ?_) ?_
        · dsimp only
          rw [hget]
          simp only [u16_eq] at hn ⊢
          omega
        · rw [← hup, upto, if_neg (by rw [show g.S.nx.getD st.toNat 0 = x from hgnx]; exact hne), show g.S.nx.getD st.toNat 0 = x from hgnx, ← hS1]
          congr 1
          dsimp only [RM.S, RM.L, RM.row]
          rw [hnx1]
        · rw [hH]
          dsimp only
          rw [hR1, List.length_set]
          exact In.of_sub subA h
        · dsimp only
          rw [hget]
          simp only [u16_eq]
          omega
      · have hxe : x = e := by simpa using hc
        have hqg : g.S = q := by
          rw [← hup, upto, if_pos (by rw [show g.S.nx.getD st.toNat 0 = x from hgnx]; exact hxe)]
        subst hxe
        refine WL.e rfl (Ef.rng rfl (by repeat (first | exact MapAt.here | apply MapAt.there | apply MapAt.right))) ?_
        rintro _ _ ⟨it, rfl, rfl⟩
        have hbn := hg.born
        have hsub : ∀ seen, (leftS g.ps (fun q => doomS st x q.d) seen).Sublist g.ps := fun seen => List.filter_sublist
        have htot : ∀ seen, totD ((leftS g.ps (fun q => doomS st x q.d) seen).map (fun y => y.d)) ≤ 1000000000 := fun i => by
          have := (hg.keep (hsub i)).fine
          have e : totD (RM.L ({ g with ps := leftS g.ps (fun q => doomS st x q.d) i, held := (totD ((leftS g.ps (fun q => doomS st x q.d) i).map (·.d)) + totM g.row : Nat) } : RM)) = totD ((leftS g.ps (fun q => doomS st x q.d) i).map (fun y => y.d)) := rfl
          omega
        have htm : totM g.row ≤ 1000000000 := by have := hg.fine; omega
        repeat' (first | refine S1 ?_ | refine SD ?_ | refine SA (fun _ => ?_) | refine WL.g_split rfl rfl (fun hc => ?_) (fun hc => ?_) | refine WD.g_split rfl rfl (fun hc => ?_) (fun hc => ?_) | refine W.cond rfl (fun hc => ?_) (fun hc => ?_))
        refine W.loop (G := List Nat) (fun seen => [(0, .pointer (some ⟨g.R, 0, none⟩)), (3, .pointer (some ⟨b3, 0, none⟩)), (63, .pointer (some ⟨it, 0, none⟩))])
          (fun seen => (it, .mapIter (some g.M) g.clk seen.toArray g.clk) :: (b3, .cells [.int .u16 st, .int .u16 to].toArray 127 (0, 0)) :: (g.R, .cells [.map (some g.M), .int .i64 g.turns, .slice (some ⟨g.N, 0, none⟩) g.nx.length g.nx.length, .slice g.ra g.rn g.rc, .int .i64 (totD ((leftS g.ps (fun q => doomS st x q.d) seen).map (fun y => y.d)) + totM g.row : Nat)].toArray 100 (0, 0)) ::
            (g.M, .map ((leftS g.ps (fun q => doomS st x q.d) seen).map Pc.ent).toArray g.clk) :: (g.N, .cells (g.nx.map (Value.int .u16)).toArray 36 (0, 0)) :: (g.rhb ++ (g.ms.flatMap (·.hb) ++ g.ps.flatMap (·.hb))))
          (fun seen => seen.Nodup ∧ ∀ b ∈ seen, b ∈ g.ps.map (·.born)) (fun seen => g.ps.length - seen.length) [] ⟨by simp, by simp⟩ envA (fun _ h => ?_) ?_
        · have e0 : leftS g.ps (fun q => doomS st x q.d) [] = g.ps := by simp [leftS]
          have e1 := hg.held
          unfold RM.L at e1
          rw [e0, show ((totD (g.ps.map (fun x => x.d)) + totM g.row : Nat) : Int) = g.held by rw [e1]; simp]
          exact h
        rintro seen ⟨hnd, hin⟩
        repeat' (first | refine S1 ?_ | refine SD ?_ | refine SA (fun _ => ?_) | refine WL.g_split rfl rfl (fun hc => ?_) (fun hc => ?_) | refine WD.g_split rfl rfl (fun hc => ?_) (fun hc => ?_) | refine W.cond rfl (fun hc => ?_) (fun hc => ?_))
        refine WL.e rfl (Ef.nxt rfl (Foc.here _) (by repeat (first | exact MapAt.here | apply MapAt.there | apply MapAt.right)) (fun e he => ?_) (.inr rfl)) ?_
        · obtain ⟨p, hp, rfl⟩ := List.mem_map.1 he
          exact hg.old p ((hsub _).mem hp)
        rintro _ _ (⟨hall, rfl, rfl⟩ | ⟨e', he', hns, rfl, rfl⟩)
        · -- all were seen
          have hla := leftS_all (fun q hq => hall q.ent (List.mem_map.2 ⟨q, hq, rfl⟩))
          repeat' (first | refine S1 ?_ | refine SD ?_ | refine SA (fun _ => ?_) | refine WL.g_split rfl rfl (fun hc => ?_) (fun hc => ?_) | refine WD.g_split rfl rfl (fun hc => ?_) (fun hc => ?_) | refine W.cond rfl (fun hc => ?_) (fun hc => ?_))
          refine WL.weak (H' := (({ g with ps := leftS g.ps (fun q => doomS st x q.d) seen, held := (totD ((leftS g.ps (fun q => doomS st x q.d) seen).map (fun y => y.d)) + totM g.row : Nat) } : RM)).H) (fun _ h => ?_) (WL.e rfl (Ef.call (by exact rfl) (.all _) (on_tr _ ({ g with ps := leftS g.ps (fun q => doomS st x q.d) seen, held := (totD ((leftS g.ps (fun q => doomS st x q.d) seen).map (fun y => y.d)) + totM g.row : Nat) } : RM) (hg.keep (hsub _)) st hst')) ?_)
          · rw [hH]
            exact h.sublist (.cons _ (.cons _ (.cons_cons _ (.cons_cons _ (.cons_cons _ ((List.Sublist.refl _).append ((List.Sublist.refl _).append (flat_sub _ (hsub _)))))))))
          rintro _ _ ⟨_, ⟨rfl, s', hs', rfl, hR', htu', hS', hnl', _⟩, rfl⟩
          repeat' (first | refine S1 ?_ | refine SD ?_ | refine SA (fun _ => ?_) | refine WL.g_split rfl rfl (fun hc => ?_) (fun hc => ?_) | refine WD.g_split rfl rfl (fun hc => ?_) (fun hc => ?_) | refine W.cond rfl (fun hc => ?_) (fun hc => ?_))
          refine Fin.endW (by exact rfl) resA (H' := s'.H) (fun _ h => h.left) ⟨rfl, s', hs', rfl, hR', htu'.trans hgt, ?_, hnl'.trans hgl⟩
          rw [hS', hsk, ← hqg]
          dsimp only [RM.S, RM.L, RM.row]
          rw [hgnx, hla, List.filter_map]
          rfl
        · obtain ⟨p, hp, rfl⟩ := List.mem_map.1 he'
          have hpg := (hsub _).mem hp
          have hns' : p.born ∉ seen := hns
          have hnd' : (seen ++ [p.born]).Nodup := List.nodup_append.2 ⟨hnd, by simp, fun a ha b hb => by rw [List.mem_singleton] at hb; subst hb; exact fun h => by subst h; exact hns' ha⟩
          have hin' : ∀ b ∈ seen ++ [p.born], b ∈ g.ps.map (·.born) := fun b hb => by
            rcases List.mem_append.1 hb with hb | hb
            · exact hin b hb
            · rw [List.mem_singleton] at hb; subst hb; exact List.mem_map.2 ⟨p, hpg, rfl⟩
          have hmu : g.ps.length - (seen ++ [p.born]).length < g.ps.length - seen.length := by
            have h2 := length_le_of_nodup _ (g.ps.map (·.born)) hnd' hin'
            simp at h2 ⊢; omega
          have hbn' : ((leftS g.ps (fun q => doomS st x q.d) seen).map (·.born)).Nodup := hbn.sublist ((hsub _).map _)
          repeat' (first | refine S1 ?_ | refine SD ?_ | refine SA (fun _ => ?_) | refine WL.g_split rfl rfl (fun hc => ?_) (fun hc => ?_) | refine WD.g_split rfl rfl (fun hc => ?_) (fun hc => ?_) | refine W.cond rfl (fun hc => ?_) (fun hc => ?_))
          refine WL.s rfl (Rd.ent (e := p.ent) rfl (Foc.here _) (by repeat (first | exact MapAt.here | apply MapAt.there | apply MapAt.right)) he' (by have := hbn'; simpa [List.map_map, Function.comp_def, Pc.ent] using this)) ?_
          repeat' (first | refine S1 ?_ | refine SD ?_ | refine SA (fun _ => ?_) | refine WL.g_split rfl rfl (fun hc => ?_) (fun hc => ?_) | refine WD.g_split rfl rfl (fun hc => ?_) (fun hc => ?_) | refine W.cond rfl (fun hc => ?_) (fun hc => ?_))
          · refine WD.e rfl (Ef.callR (by exact rfl) subA (less16_tr _ p.d.ssn x)) ?_
            rintro _ _ ⟨rfl, rfl⟩
            refine ⟨by first | (refine Or.inr (fun _ h => h.sublist ?_); (repeat (first | exact List.Sublist.refl _ | refine List.Sublist.cons_cons _ ?_ | refine List.Sublist.cons _ ?_)); first | done | fail) | exact Or.inl (by kernel_rfl), ?_⟩
            repeat' (first | refine S1 ?_ | refine SD ?_ | refine SA (fun _ => ?_) | refine WL.g_split rfl rfl (fun hc => ?_) (fun hc => ?_) | refine WD.g_split rfl rfl (fun hc => ?_) (fun hc => ?_) | refine W.cond rfl (fun hc => ?_) (fun hc => ?_))
            · have hf : doomS st x p.d = true := by unfold doomS; simp at *; simp [*]
              refine WL.e rfl (Ef.call (by exact rfl) (by dsimp only [RM.core, RM.cells]; exact subA) (drop_tr _ ({ g with ps := leftS g.ps (fun q => doomS st x q.d) seen, held := (totD ((leftS g.ps (fun q => doomS st x q.d) seen).map (fun y => y.d)) + totM g.row : Nat) } : RM) p)) ?_
              rintro _ _ ⟨_, ⟨rfl, rfl⟩, rfl⟩
              repeat' (first | refine S1 ?_ | refine SD ?_ | refine SA (fun _ => ?_) | refine WL.g_split rfl rfl (fun hc => ?_) (fun hc => ?_) | refine WD.g_split rfl rfl (fun hc => ?_) (fun hc => ?_) | refine W.cond rfl (fun hc => ?_) (fun hc => ?_))
              have hk' : ((leftS g.ps (fun q => doomS st x q.d) seen).map (·.d.tsn)).Nodup := (hg.keys).sublist ((hsub seen).map _)
              have htt := tot_erase (L := (leftS g.ps (fun q => doomS st x q.d) seen).map (fun y => y.d)) (t := p.d.tsn) (d := p.d) (by rw [at_pc, find_self hk' hp]; rfl)
              have hld := leftS_drop (f := fun q => doomS st x q.d) (seen := seen) hbn hg.keys hpg hf
              rw [← map_erase, ← hld] at htt
              have hpl := Pc.len (hg.pok p hpg)
              have h1 := htot seen
              have hwr : IntKind.i64.wrap (((totD ((leftS g.ps (fun q => doomS st x q.d) seen).map (fun y => y.d)) + totM g.row : Nat) : Int) - p.sn) = (totD ((leftS g.ps (fun q => doomS st x q.d) (seen ++ [p.born])).map (fun y => y.d)) + totM g.row : Nat) := by
                rw [i64_id (by omega) (by omega)]
                omega
              refine Fin.round (seen ++ [p.born]) ⟨hnd', hin'⟩ envA (fun _ h => ?_) hmu
              rw [hld] at hwr ⊢
              dsimp only [RM.core, RM.cells] at h
              rw [hwr] at h
              exact In.of_sub subA h
            · have hf : doomS st x p.d = false := by unfold doomS; simp at *; simp [*]
              refine Fin.round (seen ++ [p.born]) ⟨hnd', hin'⟩ envA (fun _ h => ?_) hmu
              rw [leftS_keep hbn hpg hf]
              exact h.sublist (by (repeat (first | exact List.Sublist.refl _ | refine List.Sublist.cons_cons _ ?_ | refine List.Sublist.cons _ ?_)))
          all_goals
            have hf : doomS st x p.d = false := by unfold doomS; simp at *; simp [*]
            refine Fin.round (seen ++ [p.born]) ⟨hnd', hin'⟩ envA (fun _ h => ?_) hmu
            rw [leftS_keep hbn hpg hf]
            exact h.sublist (by (repeat (first | exact List.Sublist.refl _ | refine List.Sublist.cons_cons _ ?_ | refine List.Sublist.cons _ ?_)))
  · have hgo : ¬ (nxt ≠ to ∧ Rm.less16 nxt to = false) := by simp at hc; simp [hc]
    rename Nat => b3
    have he : 0 ≤ u16 (to + 1) ∧ u16 (to + 1) < 65536 := by simp only [u16_eq]; omega
    have hsn : s.S.nx.getD st.toNat 0 = nxt := hnxt
    have hsk := skip1_go s.S st to (by rw [hsn]; exact hgo)
    rw [hsn] at hsk
    generalize hq : upto ((u16 (u16 (to + 1) - nxt)).toNat + 1) s.S st (u16 (to + 1)) = q at hsk
    generalize hed : u16 (to + 1) = e at he hq
    have hed' : IntKind.u16.wrap (to + 1) = e := hed
    rw [hed']
    refine W.loop (G := RM) (fun g => [(0, .pointer (some ⟨s.R, 0, none⟩)), (3, .pointer (some ⟨b3, 0, none⟩)), (4, .int .u16 e)]) (fun g => (b3, .cells [.int .u16 st, .int .u16 to].toArray 127 (0, 0)) :: g.H)
      (fun g => g.ok ∧ g.R = s.R ∧ g.turns = s.turns ∧ g.nx.length = s.nx.length ∧ nx16 g.nx ∧ ∃ n, (u16 (e - g.nx.getD st.toNat 0)).toNat < n ∧ upto n g.S st e = q) (fun g => (u16 (e - g.nx.getD st.toNat 0)).toNat) s
      ⟨hs, rfl, rfl, rfl, h16, _, by rw [hnxt]; exact Nat.lt_succ_self _, hq⟩ envA (fun _ h => by rw [hH s]; exact h) ?_
    rintro g ⟨hg, hgR, hgt, hgl, hg16, n, hn, hup⟩
    obtain ⟨n, rfl⟩ : ∃ m, n = m + 1 := ⟨n - 1, by omega⟩
    rw [hH g]
    rw [← hgR]
    have hst' : 0 ≤ st ∧ st < g.nx.length := by rw [hgl]; exact hst
    have hgn := hg16.get st.toNat
    generalize hgnx : g.nx.getD st.toNat 0 = x at hgn hn
    have hNg : (g.nx.map (Value.int .u16))[0 + st.toNat * 1]? = some (.int .u16 x) := by
      have hlt : st.toNat < g.nx.length := by omega
      rw [Nat.zero_add, Nat.mul_one, List.getElem?_map, ← hgnx]
      simp [hlt]
    repeat' (first | refine S1 ?_ | refine SD ?_ | refine SA (fun _ => ?_) | refine WL.g_split rfl rfl (fun hc => ?_) (fun hc => ?_) | refine WD.g_split rfl rfl (fun hc => ?_) (fun hc => ?_) | refine W.cond rfl (fun hc => ?_) (fun hc => ?_))
    · have hne : x ≠ e := by simpa using hc
      refine WL.e rfl (Ef.call (c := g.H) (by exact rfl) (by rw [hH g]; exact .skip _ (.all _)) (waiting_tr _ g hg st hst')) ?_
      rintro v _ ⟨H1, hpost, rfl⟩
      have key : ∃ g1 : RM, g1.ok ∧ H1 = g1.H ∧ g1.R = g.R ∧ g1.nx = g.nx ∧ g1.turns = g.turns ∧ g1.S = wait g.S st := by
        rcases hpost with ⟨hcand, _, rfl⟩ | ⟨f, l, hcand, _, s', hs', rfl, h1, h2, h3, h4, _⟩
        · refine ⟨g, hg, rfl, rfl, rfl, rfl, ?_⟩
          unfold wait
          rw [show cand g.S.L st (g.S.nx.getD st.toNat 0) = none from hcand]
        · refine ⟨s', hs', rfl, h1, h2, h3, ?_⟩
          unfold wait
          rw [show cand g.S.L st (g.S.nx.getD st.toNat 0) = some (f, l) from hcand]
          have e1 := congrArg Prod.fst h4
          have e2 := congrArg Prod.snd h4
          dsimp only at e1 e2
          dsimp only [RM.S]
          rw [e1, e2, h2]
      obtain ⟨g1, hg1, rfl, hR1, hnx1, ht1, hS1⟩ := key
      clear hpost
      rw [hH g1, hR1, hnx1]
      simp only [List.cons_append, List.append_assoc]
      have hP : spliceK (g.nx.map (Value.int .u16)) (0 + st.toNat * 1) [.int .u16 (IntKind.u16.wrap (x + 1))] some = some ((g.nx.set st.toNat (u16 (x + 1))).map (Value.int .u16)) := by
        rw [splice_one (by simp; omega), Nat.zero_add, Nat.mul_one, map_set16]
      have hget : (g.nx.set st.toNat (u16 (x + 1))).getD st.toNat 0 = u16 (x + 1) := by
        have hlt : st.toNat < g.nx.length := by omega
        simp [hlt]
      repeat' (first | refine S1 ?_ | refine SD ?_ | refine SA (fun _ => ?_) | refine WL.g_split rfl rfl (fun hc => ?_) (fun hc => ?_) | refine WD.g_split rfl rfl (fun hc => ?_) (fun hc => ?_) | refine W.cond rfl (fun hc => ?_) (fun hc => ?_))
      refine Fin.round ({ g1 with nx := g.nx.set st.toNat (u16 (x + 1)) } : RM) ⟨hg1.nx _, hR1, ht1.trans hgt, by simp [hgl], hg16.set _ _, n, ?_, ?_⟩ envA (fun _ h => ?_) ?_
      · dsimp only
        rw [hget]
        simp only [u16_eq] at hn ⊢
        omega
      · rw [← hup, upto, if_neg (by rw [show g.S.nx.getD st.toNat 0 = x from hgnx]; exact hne), show g.S.nx.getD st.toNat 0 = x from hgnx, ← hS1]
        congr 1
        dsimp only [RM.S, RM.L, RM.row]
        rw [hnx1]
      · rw [hH]
        dsimp only
        rw [hR1, List.length_set]
        exact In.of_sub subA h
      · dsimp only
        rw [hget]
        simp only [u16_eq]
        omega
    · have hxe : x = e := by simpa using hc
      have hqg : g.S = q := by
        rw [← hup, upto, if_pos (by rw [show g.S.nx.getD st.toNat 0 = x from hgnx]; exact hxe)]
      subst hxe
      refine WL.e rfl (Ef.rng rfl (by repeat (first | exact MapAt.here | apply MapAt.there | apply MapAt.right))) ?_
      rintro _ _ ⟨it, rfl, rfl⟩
      have hbn := hg.born
      have hsub : ∀ seen, (leftS g.ps (fun q => doomS st x q.d) seen).Sublist g.ps := fun seen => List.filter_sublist
      have htot : ∀ seen, totD ((leftS g.ps (fun q => doomS st x q.d) seen).map (fun y => y.d)) ≤ 1000000000 := fun i => by
        have := (hg.keep (hsub i)).fine
        have e : totD (RM.L ({ g with ps := leftS g.ps (fun q => doomS st x q.d) i, held := (totD ((leftS g.ps (fun q => doomS st x q.d) i).map (·.d)) + totM g.row : Nat) } : RM)) = totD ((leftS g.ps (fun q => doomS st x q.d) i).map (fun y => y.d)) := rfl
        omega
      have htm : totM g.row ≤ 1000000000 := by have := hg.fine; omega
      repeat' (first | refine S1 ?_ | refine SD ?_ | refine SA (fun _ => ?_) | refine WL.g_split rfl rfl (fun hc => ?_) (fun hc => ?_) | refine WD.g_split rfl rfl (fun hc => ?_) (fun hc => ?_) | refine W.cond rfl (fun hc => ?_) (fun hc => ?_))
      refine W.loop (G := List Nat) (fun seen => [(0, .pointer (some ⟨g.R, 0, none⟩)), (3, .pointer (some ⟨b3, 0, none⟩)), (63, .pointer (some ⟨it, 0, none⟩))])
        (fun seen => (it, .mapIter (some g.M) g.clk seen.toArray g.clk) :: (b3, .cells [.int .u16 st, .int .u16 to].toArray 127 (0, 0)) :: (g.R, .cells [.map (some g.M), .int .i64 g.turns, .slice (some ⟨g.N, 0, none⟩) g.nx.length g.nx.length, .slice g.ra g.rn g.rc, .int .i64 (totD ((leftS g.ps (fun q => doomS st x q.d) seen).map (fun y => y.d)) + totM g.row : Nat)].toArray 100 (0, 0)) ::
          (g.M, .map ((leftS g.ps (fun q => doomS st x q.d) seen).map Pc.ent).toArray g.clk) :: (g.N, .cells (g.nx.map (Value.int .u16)).toArray 36 (0, 0)) :: (g.rhb ++ (g.ms.flatMap (·.hb) ++ g.ps.flatMap (·.hb))))
        (fun seen => seen.Nodup ∧ ∀ b ∈ seen, b ∈ g.ps.map (·.born)) (fun seen => g.ps.length - seen.length) [] ⟨by simp, by simp⟩ envA (fun _ h => ?_) ?_
      · have e0 : leftS g.ps (fun q => doomS st x q.d) [] = g.ps := by simp [leftS]
        have e1 := hg.held
        unfold RM.L at e1
        rw [e0, show ((totD (g.ps.map (fun x => x.d)) + totM g.row : Nat) : Int) = g.held by rw [e1]; simp]
        exact h
      rintro seen ⟨hnd, hin⟩
      repeat' (first | refine S1 ?_ | refine SD ?_ | refine SA (fun _ => ?_) | refine WL.g_split rfl rfl (fun hc => ?_) (fun hc => ?_) | refine WD.g_split rfl rfl (fun hc => ?_) (fun hc => ?_) | refine W.cond rfl (fun hc => ?_) (fun hc => ?_))
      refine WL.e rfl (Ef.nxt rfl (Foc.here _) (by repeat (first | exact MapAt.here | apply MapAt.there | apply MapAt.right)) (fun e he => ?_) (.inr rfl)) ?_
      · obtain ⟨p, hp, rfl⟩ := List.mem_map.1 he
        exact hg.old p ((hsub _).mem hp)
      rintro _ _ (⟨hall, rfl, rfl⟩ | ⟨e', he', hns, rfl, rfl⟩)
      · -- all were seen
        have hla := leftS_all (fun q hq => hall q.ent (List.mem_map.2 ⟨q, hq, rfl⟩))
        repeat' (first | refine S1 ?_ | refine SD ?_ | refine SA (fun _ => ?_) | refine WL.g_split rfl rfl (fun hc => ?_) (fun hc => ?_) | refine WD.g_split rfl rfl (fun hc => ?_) (fun hc => ?_) | refine W.cond rfl (fun hc => ?_) (fun hc => ?_))
        refine WL.weak (H' := (({ g with ps := leftS g.ps (fun q => doomS st x q.d) seen, held := (totD ((leftS g.ps (fun q => doomS st x q.d) seen).map (fun y => y.d)) + totM g.row : Nat) } : RM)).H) (fun _ h => ?_) (WL.e rfl (Ef.call (by exact rfl) (.all _) (on_tr _ ({ g with ps := leftS g.ps (fun q => doomS st x q.d) seen, held := (totD ((leftS g.ps (fun q => doomS st x q.d) seen).map (fun y => y.d)) + totM g.row : Nat) } : RM) (hg.keep (hsub _)) st hst')) ?_)
        · rw [hH]
          exact h.sublist (.cons _ (.cons _ (.cons_cons _ (.cons_cons _ (.cons_cons _ ((List.Sublist.refl _).append ((List.Sublist.refl _).append (flat_sub _ (hsub _)))))))))
        rintro _ _ ⟨_, ⟨rfl, s', hs', rfl, hR', htu', hS', hnl', _⟩, rfl⟩
        repeat' (first | refine S1 ?_ | refine SD ?_ | refine SA (fun _ => ?_) | refine WL.g_split rfl rfl (fun hc => ?_) (fun hc => ?_) | refine WD.g_split rfl rfl (fun hc => ?_) (fun hc => ?_) | refine W.cond rfl (fun hc => ?_) (fun hc => ?_))
        refine Fin.endW (by exact rfl) resA (H' := s'.H) (fun _ h => h.left) ⟨rfl, s', hs', rfl, hR', htu'.trans hgt, ?_, hnl'.trans hgl⟩
        rw [hS', hsk, ← hqg]
        dsimp only [RM.S, RM.L, RM.row]
        rw [hgnx, hla, List.filter_map]
        rfl
      · obtain ⟨p, hp, rfl⟩ := List.mem_map.1 he'
        have hpg := (hsub _).mem hp
        have hns' : p.born ∉ seen := hns
        have hnd' : (seen ++ [p.born]).Nodup := List.nodup_append.2 ⟨hnd, by simp, fun a ha b hb => by rw [List.mem_singleton] at hb; subst hb; exact fun h => by subst h; exact hns' ha⟩
        have hin' : ∀ b ∈ seen ++ [p.born], b ∈ g.ps.map (·.born) := fun b hb => by
          rcases List.mem_append.1 hb with hb | hb
          · exact hin b hb
          · rw [List.mem_singleton] at hb; subst hb; exact List.mem_map.2 ⟨p, hpg, rfl⟩
        have hmu : g.ps.length - (seen ++ [p.born]).length < g.ps.length - seen.length := by
          have h2 := length_le_of_nodup _ (g.ps.map (·.born)) hnd' hin'
          simp at h2 ⊢; omega
        have hbn' : ((leftS g.ps (fun q => doomS st x q.d) seen).map (·.born)).Nodup := hbn.sublist ((hsub _).map _)
        repeat' (first | refine S1 ?_ | refine SD ?_ | refine SA (fun _ => ?_) | refine WL.g_split rfl rfl (fun hc => ?_) (fun hc => ?_) | refine WD.g_split rfl rfl (fun hc => ?_) (fun hc => ?_) | refine W.cond rfl (fun hc => ?_) (fun hc => ?_))
        refine WL.s rfl (Rd.ent (e := p.ent) rfl (Foc.here _) (by repeat (first | exact MapAt.here | apply MapAt.there | apply MapAt.right)) he' (by have := hbn'; simpa [List.map_map, Function.comp_def, Pc.ent] using this)) ?_
        repeat' (first | refine S1 ?_ | refine SD ?_ | refine SA (fun _ => ?_) | refine WL.g_split rfl rfl (fun hc => ?_) (fun hc => ?_) | refine WD.g_split rfl rfl (fun hc => ?_) (fun hc => ?_) | refine W.cond rfl (fun hc => ?_) (fun hc => ?_))
        · refine WD.e rfl (Ef.callR (by exact rfl) subA (less16_tr _ p.d.ssn x)) ?_
          rintro _ _ ⟨rfl, rfl⟩
          refine ⟨by first | (refine Or.inr (fun _ h => h.sublist ?_); (repeat (first | exact List.Sublist.refl _ | refine List.Sublist.cons_cons _ ?_ | refine List.Sublist.cons _ ?_)); first | done | fail) | exact Or.inl (by kernel_rfl), ?_⟩
          repeat' (first | refine S1 ?_ | refine SD ?_ | refine SA (fun _ => ?_) | refine WL.g_split rfl rfl (fun hc => ?_) (fun hc => ?_) | refine WD.g_split rfl rfl (fun hc => ?_) (fun hc => ?_) | refine W.cond rfl (fun hc => ?_) (fun hc => ?_))
          · have hf : doomS st x p.d = true := by unfold doomS; simp at *; simp [*]
            refine WL.e rfl (Ef.call (by exact rfl) (by dsimp only [RM.core, RM.cells]; exact subA) (drop_tr _ ({ g with ps := leftS g.ps (fun q => doomS st x q.d) seen, held := (totD ((leftS g.ps (fun q => doomS st x q.d) seen).map (fun y => y.d)) + totM g.row : Nat) } : RM) p)) ?_
            rintro _ _ ⟨_, ⟨rfl, rfl⟩, rfl⟩
            repeat' (first | refine S1 ?_ | refine SD ?_ | refine SA (fun _ => ?_) | refine WL.g_split rfl rfl (fun hc => ?_) (fun hc => ?_) | refine WD.g_split rfl rfl (fun hc => ?_) (fun hc => ?_) | refine W.cond rfl (fun hc => ?_) (fun hc => ?_))
            have hk' : ((leftS g.ps (fun q => doomS st x q.d) seen).map (·.d.tsn)).Nodup := (hg.keys).sublist ((hsub seen).map _)
            have htt := tot_erase (L := (leftS g.ps (fun q => doomS st x q.d) seen).map (fun y => y.d)) (t := p.d.tsn) (d := p.d) (by rw [at_pc, find_self hk' hp]; rfl)
            have hld := leftS_drop (f := fun q => doomS st x q.d) (seen := seen) hbn hg.keys hpg hf
            rw [← map_erase, ← hld] at htt
            have hpl := Pc.len (hg.pok p hpg)
            have h1 := htot seen
            have hwr : IntKind.i64.wrap (((totD ((leftS g.ps (fun q => doomS st x q.d) seen).map (fun y => y.d)) + totM g.row : Nat) : Int) - p.sn) = (totD ((leftS g.ps (fun q => doomS st x q.d) (seen ++ [p.born])).map (fun y => y.d)) + totM g.row : Nat) := by
              rw [i64_id (by omega) (by omega)]
              omega
            refine Fin.round (seen ++ [p.born]) ⟨hnd', hin'⟩ envA (fun _ h => ?_) hmu
            rw [hld] at hwr ⊢
            dsimp only [RM.core, RM.cells] at h
            rw [hwr] at h
            exact In.of_sub subA h
          · have hf : doomS st x p.d = false := by unfold doomS; simp at *; simp [*]
            refine Fin.round (seen ++ [p.born]) ⟨hnd', hin'⟩ envA (fun _ h => ?_) hmu
            rw [leftS_keep hbn hpg hf]
            exact h.sublist (by (repeat (first | exact List.Sublist.refl _ | refine List.Sublist.cons_cons _ ?_ | refine List.Sublist.cons _ ?_)))
        all_goals
          have hf : doomS st x p.d = false := by unfold doomS; simp at *; simp [*]
          refine Fin.round (seen ++ [p.born]) ⟨hnd', hin'⟩ envA (fun _ h => ?_) hmu
          rw [leftS_keep hbn hpg hf]
          exact h.sublist (by (repeat (first | exact List.Sublist.refl _ | refine List.Sublist.cons_cons _ ?_ | refine List.Sublist.cons _ ?_)))
end Go.Proofs.YthjglhdjlmjffaaGreat
