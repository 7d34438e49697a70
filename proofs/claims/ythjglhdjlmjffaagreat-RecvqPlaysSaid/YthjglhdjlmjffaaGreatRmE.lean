/- The reassembler's methods 'waiting' and 'on', walked: the ordered messages of a stream that come next become ready. Condition: the stream is one of its own. -/
import Derived.Test.YthjglhdjlmjffaaGreatRmD
import Derived.Test.YthjglhdjlmjffaaGreatBa
namespace Go.Proofs.YthjglhdjlmjffaaGreat
open Go Go.Sl Go.Rm

structure WtG where
  seen : List Nat
  at_ : Int
  turn : Int

/-- what the best one so far is -/
def Best (ps : List Pc) (stream ssn : Int) (g : WtG) : Prop :=
  (g.turn = -1 ∧ ∀ p ∈ ps, p.born ∈ g.seen → isC (ps.map (·.d)) stream ssn p.d = none) ∨
  ∃ b ∈ ps, b.born ∈ g.seen ∧ (isC (ps.map (·.d)) stream ssn b.d).isSome = true ∧ g.turn = b.turn ∧ g.at_ = b.d.tsn ∧ ∀ p ∈ ps, p.born ∈ g.seen → (isC (ps.map (·.d)) stream ssn p.d).isSome = true → b.turn ≤ p.turn

theorem seen_snoc {ps : List Pc} {p q : Pc} {seen : List Nat} (hnd : (ps.map (·.born)).Nodup) (hp : p ∈ ps) (hq : q ∈ ps) (h : q.born ∈ seen ++ [p.born]) : q.born ∈ seen ∨ q = p := by
  rcases List.mem_append.1 h with h1 | h1
  · exact .inl h1
  · rw [List.mem_singleton] at h1
    refine .inr ?_
    clear h
    rename _ => h
    induction ps with
    | nil => cases hp
    | cons a ps ih =>
      rw [List.map_cons, List.nodup_cons] at hnd
      rcases List.mem_cons.1 hp with h1 | hp' <;> rcases List.mem_cons.1 hq with h2 | hq'
      · rw [h1, h2]
      · subst h1; exact absurd (List.mem_map.2 ⟨q, hq', h⟩ : p.born ∈ ps.map (·.born)) hnd.1
      · subst h2; exact absurd (List.mem_map.2 ⟨p, hp', h.symm⟩ : q.born ∈ ps.map (·.born)) hnd.1
      · exact ih hnd.2 hp' hq'
theorem Best.skip {ps : List Pc} {st nxt : Int} {seen : List Nat} {a t : Int} {p : Pc} (hnd : (ps.map (·.born)).Nodup) (hp : p ∈ ps) (h : Best ps st nxt ⟨seen, a, t⟩) (hc : isC (ps.map (·.d)) st nxt p.d = none ∨ (0 ≤ t ∧ t < p.turn)) : Best ps st nxt ⟨seen ++ [p.born], a, t⟩ := by
  rcases h with ⟨h1, h2⟩ | ⟨b, hb, hbs, hbc, h1, h2, h3⟩
  · refine .inl ⟨h1, fun q hq hqs => ?_⟩
    dsimp only at h1
    rcases seen_snoc hnd hp hq hqs with h | rfl
    · exact h2 q hq h
    · exact hc.resolve_right (by omega)
  · refine .inr ⟨b, hb, List.mem_append_left _ hbs, hbc, h1, h2, fun q hq hqs hqc => ?_⟩
    dsimp only at h1
    rcases seen_snoc hnd hp hq hqs with h | rfl
    · exact h3 q hq h hqc
    · rcases hc with hc | hc
      · simp [hc] at hqc
      · omega
theorem Best.take {ps : List Pc} {st nxt : Int} {seen : List Nat} {a t : Int} {p : Pc} (hnd : (ps.map (·.born)).Nodup) (hp : p ∈ ps) (h : Best ps st nxt ⟨seen, a, t⟩) (hc : (isC (ps.map (·.d)) st nxt p.d).isSome = true) (ht : ¬ (0 ≤ t ∧ t < p.turn)) (hpos : ∀ q ∈ ps, 0 ≤ q.turn) : Best ps st nxt ⟨seen ++ [p.born], p.d.tsn, p.turn⟩ := by
  refine .inr ⟨p, hp, List.mem_append_right _ (by simp), hc, rfl, rfl, fun q hq hqs hqc => ?_⟩
  rcases seen_snoc hnd hp hq hqs with hqs | rfl
  · rcases h with ⟨_, h2⟩ | ⟨b, hb, hbs, hbc, h1, h2, h3⟩
    · rw [h2 q hq hqs] at hqc; simp at hqc
    · have h4 := h3 q hq hqs hqc
      have h5 := hpos b hb
      dsimp only at h1
      omega
  · exact Int.le_refl _
theorem find_self {ps : List Pc} (hk : (ps.map (·.d.tsn)).Nodup) {p : Pc} (hp : p ∈ ps) : ps.find? (fun q => p.d.tsn == q.d.tsn) = some p := by
  induction ps with
  | nil => cases hp
  | cons a ps ih =>
    rw [List.map_cons, List.nodup_cons] at hk
    rcases List.mem_cons.1 hp with rfl | hp
    · rw [List.find?_cons_of_pos (by simp)]
    · rw [List.find?_cons_of_neg, ih hk.2 hp]
      simp only [beq_iff_eq]
      exact fun h => hk.1 (List.mem_map.2 ⟨p, hp, h⟩)

set_option maxHeartbeats 4000000 in
theorem waiting_tr (F : Nat → Option Obj) (s : RM) (hs : s.ok) (st : Int) (hst : 0 ≤ st ∧ st < s.nx.length) :
    Tr Tryz.prog 110 [.pointer (some ⟨s.R, 0, none⟩), .int .u16 st].toArray F s.H
      (fun v H => (cand s.L st (s.nx.getD st.toNat 0) = none ∧ v = .bool false ∧ H = s.H) ∨
        ∃ f l, cand s.L st (s.nx.getD st.toNat 0) = some (f, l) ∧ v = .bool true ∧ ∃ s' : RM, s'.ok ∧ H = s'.H ∧ s'.R = s.R ∧ s'.nx = s.nx ∧ s'.turns = s.turns ∧ (s'.L, s'.row) = Rm.ready s.L s.row f l ∧ s'.ps.Sublist s.ps ∧ s'.L.length < s.L.length) := by
  have hs0 := hs
  obtain ⟨R, M, N, ps, clk, turns, nx, ra, rn, rc, rhb, ms, held⟩ := s
  refine Tr.enter Tryz.func110 rfl Tryz.ntmps110 rfl (fun w0 => ?_)
  dsimp only [RM.H, RM.core, RM.cells, RM.mhb, RM.phb, List.cons_append, List.nil_append]
  dsimp only at hst
  repeat' (first | refine S1 ?_ | refine SD ?_ | refine SA (fun _ => ?_) | refine WL.g_split rfl rfl (fun hc => ?_) (fun hc => ?_) | refine WD.g_split rfl rfl (fun hc => ?_) (fun hc => ?_) | refine W.cond rfl (fun hc => ?_) (fun hc => ?_))
  refine WL.e rfl (Ef.rng rfl (by repeat (first | exact MapAt.here | apply MapAt.there | apply MapAt.right))) ?_
  rintro _ _ ⟨it, rfl, rfl⟩
  repeat' (first | refine S1 ?_ | refine SD ?_ | refine SA (fun _ => ?_) | refine WL.g_split rfl rfl (fun hc => ?_) (fun hc => ?_) | refine WD.g_split rfl rfl (fun hc => ?_) (fun hc => ?_) | refine W.cond rfl (fun hc => ?_) (fun hc => ?_))
  generalize hnxt : nx.getD st.toNat 0 = nxt
  have hN : (nx.map (Value.int .u16))[0 + st.toNat * 1]? = some (.int .u16 nxt) := by
    have hlt : st.toNat < nx.length := by omega
    rw [Nat.zero_add, Nat.mul_one, List.getElem?_map, ← hnxt]
    simp [hlt]
  have hps : ps.length ≤ 1000000 := by have h1 := hs.few; have h2 := hs.bound; dsimp only at h1 h2; omega
  refine W.loop (G := WtG) (fun g => [(0, .pointer (some ⟨R, 0, none⟩)), (1, .int .u16 st), (4, .bool false), (5, .int .u32 g.at_), (6, .int .i64 g.turn), (19, .pointer (some ⟨it, 0, none⟩))])
    (fun g => (it, .mapIter (some M) clk g.seen.toArray clk) :: (R, .cells [.map (some M), .int .i64 turns, .slice (some ⟨N, 0, none⟩) nx.length nx.length, .slice ra rn rc, .int .i64 held].toArray 100 (0, 0)) ::
      (M, .map (ps.map Pc.ent).toArray clk) :: (N, .cells (nx.map (Value.int .u16)).toArray 36 (0, 0)) :: (rhb ++ (ms.flatMap (·.hb) ++ ps.flatMap (·.hb))))
    (fun g => g.seen.Nodup ∧ (∀ b ∈ g.seen, b ∈ ps.map (·.born)) ∧ Best ps st nxt g) (fun g => ps.length - g.seen.length) ⟨[], 0, -1⟩ ⟨by simp, by simp, .inl ⟨rfl, by simp⟩⟩ envA (fun _ h => h) ?_
  rintro ⟨seen, at_, turn⟩ ⟨hnd, hin, hbest⟩
  dsimp only at hnd hin ⊢
  repeat' (first | refine S1 ?_ | refine SD ?_ | refine SA (fun _ => ?_) | refine WL.g_split rfl rfl (fun hc => ?_) (fun hc => ?_) | refine WD.g_split rfl rfl (fun hc => ?_) (fun hc => ?_) | refine W.cond rfl (fun hc => ?_) (fun hc => ?_))
  refine WL.e rfl (Ef.nxt rfl (Foc.here _) (by repeat (first | exact MapAt.here | apply MapAt.there | apply MapAt.right)) (fun e he => ?_) (.inr rfl)) ?_
  · obtain ⟨p, hp, rfl⟩ := List.mem_map.1 he
    exact hs.old p hp
  rintro _ _ (⟨hall, rfl, rfl⟩ | ⟨e, he, hns, rfl, rfl⟩)
  · -- all were seen
    have hseen : ∀ q ∈ ps, q.born ∈ seen := fun q hq => hall q.ent (List.mem_map.2 ⟨q, hq, rfl⟩)
    repeat' (first | refine S1 ?_ | refine SD ?_ | refine SA (fun _ => ?_) | refine WL.g_split rfl rfl (fun hc => ?_) (fun hc => ?_) | refine WD.g_split rfl rfl (fun hc => ?_) (fun hc => ?_) | refine W.cond rfl (fun hc => ?_) (fun hc => ?_))
    · refine Fin.retW (by exact rfl) resA (fun _ h => h.sublist (.cons _ (.refl _))) (.inl ⟨?_, rfl, rfl⟩)
      rcases hbest with ⟨_, h2⟩ | ⟨b, hb, _, _, h1, _, _⟩
      · dsimp only [RM.L]
        unfold cand
        rw [List.findSome?_eq_none_iff]
        intro d hd
        obtain ⟨q, hq, rfl⟩ := List.mem_map.1 hd
        exact h2 q hq (hseen q hq)
      · have := (hs.turns b hb).1
        dsimp only at h1
        simp at hc
        omega
    · rcases hbest with ⟨h1, _⟩ | ⟨b, hb, _, hbc, h1, h2, h3⟩
      · dsimp only at h1; subst h1; simp at hc
      · dsimp only at h1 h2
        subst h1 h2
        have hfind := find_self hs.keys hb
        dsimp only at hfind
        have hcand : cand (ps.map (·.d)) st nxt = isC (ps.map (·.d)) st nxt b.d := by
          unfold cand
          rw [List.findSome?_map]
          exact findSome_least (turn := Pc.turn) (g := fun q : Pc => isC (ps.map (fun x => x.d)) st nxt q.d) ps b hs.turn hb hbc (fun q hq hqc => h3 q hq (hseen q hq) hqc)
        have hw : isC (ps.map (·.d)) st nxt b.d = whole (ps.map (·.d)) b.d := by
          unfold isC at hbc ⊢
          split
          · rfl
          · rename_i hne; rw [if_neg hne] at hbc; simp at hbc
        refine WL.s rfl (Rd.lk1_some (v := .agg b.cells.toArray) rfl rfl (by repeat (first | exact MapAt.here | apply MapAt.there | apply MapAt.right)) (keysOk_ent _) (by rw [mfind_ent, hfind]; rfl)) ?_
        repeat' (first | refine S1 ?_ | refine SD ?_ | refine SA (fun _ => ?_) | refine WL.g_split rfl rfl (fun hc => ?_) (fun hc => ?_) | refine WD.g_split rfl rfl (fun hc => ?_) (fun hc => ?_) | refine W.cond rfl (fun hc => ?_) (fun hc => ?_))
        refine WL.e rfl (Ef.callR (by exact rfl) subA (whole_tr _ R M clk ps b _ _ _ _ (by omega))) ?_
        rintro _ _ ⟨rfl, rfl⟩
        cases hwh : whole (ps.map (·.d)) b.d with
        | none => rw [hw, hwh] at hbc; simp at hbc
        | some fl =>
          obtain ⟨f, l⟩ := fl
          obtain ⟨hf1, n, hn1, hl1, _, _, hall1⟩ := whole_run (by rw [at_pc, hfind]; rfl) (hs.wf b hb) (by simp; omega) hwh
          dsimp only [wholeV]
          repeat' (first | refine S1 ?_ | refine SD ?_ | refine SA (fun _ => ?_) | refine WL.g_split rfl rfl (fun hc => ?_) (fun hc => ?_) | refine WD.g_split rfl rfl (fun hc => ?_) (fun hc => ?_) | refine W.cond rfl (fun hc => ?_) (fun hc => ?_))
          refine WL.e rfl (Ef.call (by exact rfl) (.skip _ (.all _)) (ready_tr _ ⟨R, M, N, ps, clk, turns, nx, ra, rn, rc, rhb, ms, held⟩ hs f l n hf1 hn1 hl1 (fun i hi => let ⟨d, hd, _⟩ := hall1 i hi; ⟨d, hd⟩))) ?_
          rintro _ _ ⟨_, ⟨rfl, s', hs', rfl, hR, hnx, htu, hLr, hsb⟩, rfl⟩
          repeat' (first | refine S1 ?_ | refine SD ?_ | refine SA (fun _ => ?_) | refine WL.g_split rfl rfl (fun hc => ?_) (fun hc => ?_) | refine WD.g_split rfl rfl (fun hc => ?_) (fun hc => ?_) | refine W.cond rfl (fun hc => ?_) (fun hc => ?_))
          refine Fin.retW (by exact rfl) resA (fun _ h => h.left) (.inr ⟨f, l, ?_, rfl, s', hs', rfl, hR, hnx, htu, hLr, hsb, ?_⟩)
          rotate_left
          · obtain ⟨d0, hd0, _⟩ := hall1 0 (by omega)
            have hL1 := congrArg Prod.fst hLr
            dsimp only at hL1
            rw [hL1]
            exact ready_lt (d := d0) (by rw [← hd0]; congr 1; simp only [u32_eq]; omega)
          dsimp only [RM.L]
          rw [hcand, hw, hwh]
  · obtain ⟨p, hp, rfl⟩ := List.mem_map.1 he
    have hbn : (ps.map (·.born)).Nodup := hs.born
    repeat' (first | refine S1 ?_ | refine SD ?_ | refine SA (fun _ => ?_) | refine WL.g_split rfl rfl (fun hc => ?_) (fun hc => ?_) | refine WD.g_split rfl rfl (fun hc => ?_) (fun hc => ?_) | refine W.cond rfl (fun hc => ?_) (fun hc => ?_))
    refine WL.s rfl (Rd.ent (e := p.ent) rfl (Foc.here _) (by repeat (first | exact MapAt.here | apply MapAt.there | apply MapAt.right)) he (by have := hbn; simpa [List.map_map, Function.comp_def, Pc.ent] using this)) ?_
    have hnd' : (seen ++ [p.born]).Nodup := List.nodup_append.2 ⟨hnd, by simp, fun a ha b hb => by rw [List.mem_singleton] at hb; subst hb; exact fun h => by subst h; exact hns ha⟩
    have hin' : ∀ b ∈ seen ++ [p.born], b ∈ ps.map (·.born) := fun b hb => by
      rcases List.mem_append.1 hb with hb | hb
      · exact hin b hb
      · rw [List.mem_singleton] at hb; subst hb; exact List.mem_map.2 ⟨p, hp, rfl⟩
    have hlen : (seen ++ [p.born]).length ≤ ps.length := by
      have := length_le_of_nodup _ (ps.map (·.born)) hnd' hin'
      simpa using this
    have hmu : ps.length - (seen ++ [p.born]).length < ps.length - seen.length := by
      rw [List.length_append, List.length_singleton] at hlen ⊢; omega
    repeat' (first | refine S1 ?_ | refine SD ?_ | refine SA (fun _ => ?_) | refine WL.g_split rfl rfl (fun hc => ?_) (fun hc => ?_) | refine WD.g_split rfl rfl (fun hc => ?_) (fun hc => ?_) | refine W.cond rfl (fun hc => ?_) (fun hc => ?_))
    · refine Fin.round ⟨seen ++ [p.born], at_, turn⟩ ⟨hnd', hin', Best.skip hbn hp hbest (.inl ?_)⟩ envA weakA hmu
      unfold isC; rw [if_neg (by simp [hc])]
    · refine Fin.round ⟨seen ++ [p.born], at_, turn⟩ ⟨hnd', hin', Best.skip hbn hp hbest (.inl ?_)⟩ envA weakA hmu
      unfold isC; rw [if_neg (by simp at hc; simp [hc])]
    · refine Fin.round ⟨seen ++ [p.born], at_, turn⟩ ⟨hnd', hin', Best.skip hbn hp hbest (.inl ?_)⟩ envA weakA hmu
      unfold isC; rw [if_neg (by simp at hc; simp [hc])]
    · refine Fin.round ⟨seen ++ [p.born], at_, turn⟩ ⟨hnd', hin', Best.skip hbn hp hbest (.inr ?_)⟩ envA weakA hmu
      simp at *; omega
    all_goals
      refine WL.e rfl (Ef.callR (by exact rfl) subA (whole_tr _ R M clk ps p _ _ _ _ (by omega))) ?_
      rintro _ _ ⟨rfl, rfl⟩
      have hisc : isC (ps.map (fun x => x.d)) st nxt p.d = whole (ps.map (fun x => x.d)) p.d := by
        unfold isC
        rw [if_pos (by simp at *; simp [*])]
      have hto : ¬ (0 ≤ turn ∧ turn < p.turn) := by simp at *; omega
      have hpos : ∀ q ∈ ps, 0 ≤ q.turn := fun q hq => (hs.turns q hq).1
      cases hwh : whole (ps.map (fun x => x.d)) p.d with
      | none =>
        dsimp only [wholeV]
        repeat' (first | refine S1 ?_ | refine SD ?_ | refine SA (fun _ => ?_) | refine WL.g_split rfl rfl (fun hc => ?_) (fun hc => ?_) | refine WD.g_split rfl rfl (fun hc => ?_) (fun hc => ?_) | refine W.cond rfl (fun hc => ?_) (fun hc => ?_))
        exact Fin.round ⟨seen ++ [p.born], at_, turn⟩ ⟨hnd', hin', Best.skip hbn hp hbest (.inl (hisc.trans hwh))⟩ envA weakA hmu
      | some fl =>
        obtain ⟨f, l⟩ := fl
        dsimp only [wholeV]
        repeat' (first | refine S1 ?_ | refine SD ?_ | refine SA (fun _ => ?_) | refine WL.g_split rfl rfl (fun hc => ?_) (fun hc => ?_) | refine WD.g_split rfl rfl (fun hc => ?_) (fun hc => ?_) | refine W.cond rfl (fun hc => ?_) (fun hc => ?_))
        exact Fin.round ⟨seen ++ [p.born], p.d.tsn, p.turn⟩ ⟨hnd', hin', Best.take hbn hp hbest (by rw [hisc, hwh]; rfl) hto hpos⟩ envA weakA hmu
end Go.Proofs.YthjglhdjlmjffaaGreat
