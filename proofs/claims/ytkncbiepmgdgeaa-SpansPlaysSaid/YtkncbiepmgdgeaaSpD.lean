/- A set of numbers beyond a base: 'Last', walked: in whatever order the map gives its keys. Conditions: it is well formed. -/
import Derived.Test.YtkncbiepmgdgeaaSpC
namespace Go.Proofs.Ytkncbiepmgdgeaa
open Go Go.Sl Go.Spn

theorem se_snoc {es : List Se} {p q : Se} {seen : List Nat} (hnd : (es.map (·.born)).Nodup) (hp : p ∈ es) (hq : q ∈ es) (h : q.born ∈ seen ++ [p.born]) : q.born ∈ seen ∨ q = p := by
  rcases List.mem_append.1 h with h1 | h1
  · exact .inl h1
  · rw [List.mem_singleton] at h1
    refine .inr ?_
    clear h
    induction es with
    | nil => cases hp
    | cons a es ih =>
      rw [List.map_cons, List.nodup_cons] at hnd
      rcases List.mem_cons.1 hp with h2 | hp' <;> rcases List.mem_cons.1 hq with h3 | hq'
      · rw [h2, h3]
      · subst h2; exact absurd (List.mem_map.2 ⟨q, hq', h1⟩ : p.born ∈ es.map (·.born)) hnd.1
      · subst h3; exact absurd (List.mem_map.2 ⟨p, hp', h1.symm⟩ : q.born ∈ es.map (·.born)) hnd.1
      · exact ih hnd.2 hp' hq'
theorem nodup_len {l1 l2 : List Nat} (h1 : l1.Nodup) (h : ∀ a ∈ l1, a ∈ l2) : l1.length ≤ l2.length := by
  induction l1 generalizing l2 with
  | nil => exact Nat.zero_le _
  | cons a l1 ih =>
    rw [List.nodup_cons] at h1
    have ha := h a (by simp)
    have := ih (l2 := l2.erase a) h1.2 (fun b hb => (List.mem_erase_of_ne (fun e => h1.1 (by rw [← e]; exact hb))).2 (h b (by simp [hb])))
    rw [List.length_erase_of_mem ha] at this
    have := List.length_pos_of_mem ha
    simp; omega
structure LsG where
  seen : List Nat
  d : Nat
theorem getLast_max {l : List Nat} (h : l.Pairwise (· < ·)) {d : Nat} (hd : d ∈ l) (hmax : ∀ e ∈ l, e ≤ d) : l.getLast? = some d := by
  induction l with
  | nil => cases hd
  | cons a l ih =>
    rw [List.pairwise_cons] at h
    cases l with
    | nil => rcases List.mem_cons.1 hd with rfl | h2; rfl; cases h2
    | cons b l =>
      rw [List.getLast?_cons_cons]
      refine ih h.2 ?_ (fun e he => hmax e (by simp [he]))
      rcases List.mem_cons.1 hd with rfl | h2
      · have h1 := h.1 b (by simp)
        have h2 := hmax b (by simp)
        omega
      · exact h2
set_option maxHeartbeats 1000000 in
theorem last_tr (F : Nat → Option Obj) (s : SM) (hs : s.ok) : Tr Try.prog 15 [.pointer (some ⟨s.R, 0, none⟩)].toArray F s.H (fun v H => v = .int .u32 (Spn.last s.S) ∧ H = s.H) := by
  refine Tr.enter Try.func15 rfl Try.ntmps15 rfl (fun w0 => ?_)
  have hb := hs.base
  repeat' (first
    | refine W.seq ?_ | refine W.region ?_ | refine W.block ?_ | refine W.skip ?_ | refine W.exit ?_ | refine W.ret ?_ | refine W.cond_t rfl ?_ | refine W.cond_f rfl ?_ | refine WL.nil ?_ | refine WD.nil ?_ | refine Fin.next ?_ | refine Fin.then_exit ?_ | refine Fin.then_ret ?_ | refine Fin.block_normal ?_ | refine Fin.block_ret ?_ | refine Fin.block_exit ?_ | refine Fin.block_other rfl ?_
    | refine WL.pA ?_ | refine WD.pA ?_ | refine WL.sA ?_ | refine WD.sA ?_ | refine WL.g_yes rfl rfl ?_ | refine WL.g_no rfl rfl rfl rfl ?_ | refine WL.g_undef rfl rfl rfl ?_ | refine WL.g_split rfl rfl (fun hc => ?_) (fun hc => ?_) | refine WD.g_yes rfl rfl ?_ | refine WD.g_no rfl rfl rfl rfl ?_ | refine WD.g_undef rfl rfl rfl ?_ | refine WD.g_split rfl rfl (fun hc => ?_) (fun hc => ?_)
    | refine W.drawA ?_ | refine WL.aA (fun _ => ?_) | refine WD.aA (fun _ => ?_) | refine WL.e0A ?_ | refine WD.e0A ?_
    | refine W.cond rfl (fun hc => ?_) (fun hc => ?_))
  refine WL.e rfl (Ef.callR (by exact rfl) (.all _) (base_tr _ s)) ?_
  rintro _ _ ⟨rfl, rfl⟩
  unfold SM.H
  repeat' (first
    | refine W.seq ?_ | refine W.region ?_ | refine W.block ?_ | refine W.skip ?_ | refine W.exit ?_ | refine W.ret ?_ | refine W.cond_t rfl ?_ | refine W.cond_f rfl ?_ | refine WL.nil ?_ | refine WD.nil ?_ | refine Fin.next ?_ | refine Fin.then_exit ?_ | refine Fin.then_ret ?_ | refine Fin.block_normal ?_ | refine Fin.block_ret ?_ | refine Fin.block_exit ?_ | refine Fin.block_other rfl ?_
    | refine WL.pA ?_ | refine WD.pA ?_ | refine WL.sA ?_ | refine WD.sA ?_ | refine WL.g_yes rfl rfl ?_ | refine WL.g_no rfl rfl rfl rfl ?_ | refine WL.g_undef rfl rfl rfl ?_ | refine WL.g_split rfl rfl (fun hc => ?_) (fun hc => ?_) | refine WD.g_yes rfl rfl ?_ | refine WD.g_no rfl rfl rfl rfl ?_ | refine WD.g_undef rfl rfl rfl ?_ | refine WD.g_split rfl rfl (fun hc => ?_) (fun hc => ?_)
    | refine W.drawA ?_ | refine WL.aA (fun _ => ?_) | refine WD.aA (fun _ => ?_) | refine WL.e0A ?_ | refine WD.e0A ?_
    | refine W.cond rfl (fun hc => ?_) (fun hc => ?_))
  refine WL.e rfl (Ef.rng rfl (by repeat (first | exact MapAt.here | apply MapAt.there | apply MapAt.right))) ?_
  rintro _ _ ⟨it, rfl, rfl⟩
  repeat' (first
    | refine W.seq ?_ | refine W.region ?_ | refine W.block ?_ | refine W.skip ?_ | refine W.exit ?_ | refine W.ret ?_ | refine W.cond_t rfl ?_ | refine W.cond_f rfl ?_ | refine WL.nil ?_ | refine WD.nil ?_ | refine Fin.next ?_ | refine Fin.then_exit ?_ | refine Fin.then_ret ?_ | refine Fin.block_normal ?_ | refine Fin.block_ret ?_ | refine Fin.block_exit ?_ | refine Fin.block_other rfl ?_
    | refine WL.pA ?_ | refine WD.pA ?_ | refine WL.sA ?_ | refine WD.sA ?_ | refine WL.g_yes rfl rfl ?_ | refine WL.g_no rfl rfl rfl rfl ?_ | refine WL.g_undef rfl rfl rfl ?_ | refine WL.g_split rfl rfl (fun hc => ?_) (fun hc => ?_) | refine WD.g_yes rfl rfl ?_ | refine WD.g_no rfl rfl rfl rfl ?_ | refine WD.g_undef rfl rfl rfl ?_ | refine WD.g_split rfl rfl (fun hc => ?_) (fun hc => ?_)
    | refine W.drawA ?_ | refine WL.aA (fun _ => ?_) | refine WD.aA (fun _ => ?_) | refine WL.e0A ?_ | refine WD.e0A ?_
    | refine W.cond rfl (fun hc => ?_) (fun hc => ?_))
  refine W.loop (G := LsG) (fun g => [(0, .pointer (some ⟨s.R, 0, none⟩)), (3, .int .u32 (u32 (s.base + (g.d : Nat)))), (14, .pointer (some ⟨it, 0, none⟩))])
    (fun g => [(it, .mapIter (some s.M) s.clk g.seen.toArray s.clk), (s.R, .cells [.int .u32 s.base, .map (some s.M)].toArray 55 (0, 0)), (s.M, .map (s.es.map Se.ent).toArray s.clk)])
    (fun g => g.seen.Nodup ∧ (∀ b ∈ g.seen, b ∈ s.es.map (·.born)) ∧ g.d ≤ 4096 ∧ (g.d = 0 ∨ ∃ e ∈ s.es, far s.base e.key = g.d) ∧ ∀ e ∈ s.es, e.born ∈ g.seen → far s.base e.key ≤ g.d) (fun g => s.es.length - g.seen.length) ⟨[], 0⟩
    ⟨by simp, by simp, by simp, .inl rfl, by simp⟩ ?_ (fun _ h => h) ?_
  · dsimp only
    rw [show u32 (s.base + ((0 : Nat) : Int)) = s.base by rw [u32_eq]; omega]
    exact (sub_of (by repeat (first | exact subEnv.nil | refine subEnv.cons rfl ?_)))
  rintro ⟨seen, d⟩ ⟨hnd, hin, hd, hex, hmax⟩
  dsimp only at hnd hin hd hex hmax ⊢
  repeat' (first
    | refine W.seq ?_ | refine W.region ?_ | refine W.block ?_ | refine W.skip ?_ | refine W.exit ?_ | refine W.ret ?_ | refine W.cond_t rfl ?_ | refine W.cond_f rfl ?_ | refine WL.nil ?_ | refine WD.nil ?_ | refine Fin.next ?_ | refine Fin.then_exit ?_ | refine Fin.then_ret ?_ | refine Fin.block_normal ?_ | refine Fin.block_ret ?_ | refine Fin.block_exit ?_ | refine Fin.block_other rfl ?_
    | refine WL.pA ?_ | refine WD.pA ?_ | refine WL.sA ?_ | refine WD.sA ?_ | refine WL.g_yes rfl rfl ?_ | refine WL.g_no rfl rfl rfl rfl ?_ | refine WL.g_undef rfl rfl rfl ?_ | refine WL.g_split rfl rfl (fun hc => ?_) (fun hc => ?_) | refine WD.g_yes rfl rfl ?_ | refine WD.g_no rfl rfl rfl rfl ?_ | refine WD.g_undef rfl rfl rfl ?_ | refine WD.g_split rfl rfl (fun hc => ?_) (fun hc => ?_)
    | refine W.drawA ?_ | refine WL.aA (fun _ => ?_) | refine WD.aA (fun _ => ?_) | refine WL.e0A ?_ | refine WD.e0A ?_
    | refine W.cond rfl (fun hc => ?_) (fun hc => ?_))
  refine WL.e rfl (Ef.nxt rfl (Foc.here _) (by repeat (first | exact MapAt.here | apply MapAt.there | apply MapAt.right)) (fun e he => ?_) (.inr rfl)) ?_
  · obtain ⟨q, hq, rfl⟩ := List.mem_map.1 he
    exact hs.old q hq
  rintro _ _ (⟨hall, rfl, rfl⟩ | ⟨e, he, hns, rfl, rfl⟩)
  · repeat' (first
      | refine W.seq ?_ | refine W.region ?_ | refine W.block ?_ | refine W.skip ?_ | refine W.exit ?_ | refine W.ret ?_ | refine W.cond_t rfl ?_ | refine W.cond_f rfl ?_ | refine WL.nil ?_ | refine WD.nil ?_ | refine Fin.next ?_ | refine Fin.then_exit ?_ | refine Fin.then_ret ?_ | refine Fin.block_normal ?_ | refine Fin.block_ret ?_ | refine Fin.block_exit ?_ | refine Fin.block_other rfl ?_
      | refine WL.pA ?_ | refine WD.pA ?_ | refine WL.sA ?_ | refine WD.sA ?_ | refine WL.g_yes rfl rfl ?_ | refine WL.g_no rfl rfl rfl rfl ?_ | refine WL.g_undef rfl rfl rfl ?_ | refine WL.g_split rfl rfl (fun hc => ?_) (fun hc => ?_) | refine WD.g_yes rfl rfl ?_ | refine WD.g_no rfl rfl rfl rfl ?_ | refine WD.g_undef rfl rfl rfl ?_ | refine WD.g_split rfl rfl (fun hc => ?_) (fun hc => ?_)
      | refine W.drawA ?_ | refine WL.aA (fun _ => ?_) | refine WD.aA (fun _ => ?_) | refine WL.e0A ?_ | refine WD.e0A ?_
      | refine W.cond rfl (fun hc => ?_) (fun hc => ?_))
    refine Fin.retW (by exact rfl) (by repeat' (first | exact Res.nil | exact rfl | exact CutAt.here rfl | exact CellAt.here rfl | apply CutAt.there | apply CellAt.there | apply CutAt.right | apply CellAt.right | apply Res.tmp | apply Res.agg' | apply Res.cell')) (fun _ h => h.sublist (.cons _ (.refl _))) ⟨?_, rfl⟩
    have hseen : ∀ q ∈ s.es, far s.base q.key ≤ d := fun q hq => hmax q hq (hall q.ent (List.mem_map.2 ⟨q, hq, rfl⟩))
    have hmem : ∀ k ∈ dist s.S.p, k ≤ d := fun k hk => by
      obtain ⟨h1, h2⟩ := mem_dist.1 hk
      dsimp only [SM.S] at h2
      rw [Bool.and_eq_true] at h2
      obtain ⟨q, hq, hk⟩ := SM.isIn_iff.1 h2.2
      have h3 := hseen q hq
      have h4 := inW_iff.1 h2.1
      rw [hk] at h3
      unfold far at h3
      simp only [u32_eq] at h3
      omega
    show _ = Value.int .u32 (Spn.last s.S)
    unfold Spn.last
    rcases hex with rfl | ⟨q, hq, hqd⟩
    · have : dist s.S.p = [] := by
        refine List.eq_nil_iff_forall_not_mem.2 (fun k hk => ?_)
        have h1 := hmem k hk
        have h2 := hs.S.2 k (mem_dist.1 hk).2
        omega
      rw [this]
      rfl
    · have hdm : d ∈ dist s.S.p := by
        rw [← hqd, mem_dist]
        have hw := hs.win q hq
        refine ⟨(inW_iff.1 hw).2, ?_⟩
        rw [SM.S_p hs.base (hs.rng q hq), hw, SM.isIn_iff.2 ⟨q, hq, rfl⟩]
        rfl
      rw [getLast_max (dist_sorted _) hdm hmem]
      rfl
  · obtain ⟨q, hq, rfl⟩ := List.mem_map.1 he
    have hqb : q.ent.born = q.born := rfl
    repeat' (first
      | refine W.seq ?_ | refine W.region ?_ | refine W.block ?_ | refine W.skip ?_ | refine W.exit ?_ | refine W.ret ?_ | refine W.cond_t rfl ?_ | refine W.cond_f rfl ?_ | refine WL.nil ?_ | refine WD.nil ?_ | refine Fin.next ?_ | refine Fin.then_exit ?_ | refine Fin.then_ret ?_ | refine Fin.block_normal ?_ | refine Fin.block_ret ?_ | refine Fin.block_exit ?_ | refine Fin.block_other rfl ?_
      | refine WL.pA ?_ | refine WD.pA ?_ | refine WL.sA ?_ | refine WD.sA ?_ | refine WL.g_yes rfl rfl ?_ | refine WL.g_no rfl rfl rfl rfl ?_ | refine WL.g_undef rfl rfl rfl ?_ | refine WL.g_split rfl rfl (fun hc => ?_) (fun hc => ?_) | refine WD.g_yes rfl rfl ?_ | refine WD.g_no rfl rfl rfl rfl ?_ | refine WD.g_undef rfl rfl rfl ?_ | refine WD.g_split rfl rfl (fun hc => ?_) (fun hc => ?_)
      | refine W.drawA ?_ | refine WL.aA (fun _ => ?_) | refine WD.aA (fun _ => ?_) | refine WL.e0A ?_ | refine WD.e0A ?_
      | refine W.cond rfl (fun hc => ?_) (fun hc => ?_))
    refine WL.s rfl (Rd.ent (e := q.ent) rfl (Foc.here _) (by repeat (first | exact MapAt.here | apply MapAt.there | apply MapAt.right)) he (by rw [List.map_map]; exact hs.born)) ?_
    repeat' (first
      | refine W.seq ?_ | refine W.region ?_ | refine W.block ?_ | refine W.skip ?_ | refine W.exit ?_ | refine W.ret ?_ | refine W.cond_t rfl ?_ | refine W.cond_f rfl ?_ | refine WL.nil ?_ | refine WD.nil ?_ | refine Fin.next ?_ | refine Fin.then_exit ?_ | refine Fin.then_ret ?_ | refine Fin.block_normal ?_ | refine Fin.block_ret ?_ | refine Fin.block_exit ?_ | refine Fin.block_other rfl ?_
      | refine WL.pA ?_ | refine WD.pA ?_ | refine WL.sA ?_ | refine WD.sA ?_ | refine WL.g_yes rfl rfl ?_ | refine WL.g_no rfl rfl rfl rfl ?_ | refine WL.g_undef rfl rfl rfl ?_ | refine WL.g_split rfl rfl (fun hc => ?_) (fun hc => ?_) | refine WD.g_yes rfl rfl ?_ | refine WD.g_no rfl rfl rfl rfl ?_ | refine WD.g_undef rfl rfl rfl ?_ | refine WD.g_split rfl rfl (fun hc => ?_) (fun hc => ?_)
      | refine W.drawA ?_ | refine WL.aA (fun _ => ?_) | refine WD.aA (fun _ => ?_) | refine WL.e0A ?_ | refine WD.e0A ?_
      | refine W.cond rfl (fun hc => ?_) (fun hc => ?_))
    refine WL.e rfl (Ef.callR (by exact rfl) (.nil _) (max_tr _ (u32 (s.base + (d : Nat))) q.key)) ?_
    rintro _ _ ⟨rfl, rfl⟩
    have hqr := hs.rng q hq
    have hqw := inW_iff.1 (hs.win q hq)
    have hfb := far_back hs.base hqr
    have e1 : (if 0 < far (u32 (s.base + (d : Nat))) q.key ∧ far (u32 (s.base + (d : Nat))) q.key ≤ 2147483647 then q.key else u32 (s.base + (d : Nat))) = u32 (s.base + ((max d (far s.base q.key) : Nat) : Int)) := by
      generalize far s.base q.key = f at hqw hfb
      split
      · rename_i h
        rw [← hfb] at h ⊢
        unfold far at h
        simp only [u32_eq] at h
        rw [Nat.max_eq_right (by omega)]
      · rename_i h
        rw [← hfb] at h
        unfold far at h
        simp only [u32_eq] at h
        rw [Nat.max_eq_left (by omega)]
    rw [e1]
    repeat' (first
      | refine W.seq ?_ | refine W.region ?_ | refine W.block ?_ | refine W.skip ?_ | refine W.exit ?_ | refine W.ret ?_ | refine W.cond_t rfl ?_ | refine W.cond_f rfl ?_ | refine WL.nil ?_ | refine WD.nil ?_ | refine Fin.next ?_ | refine Fin.then_exit ?_ | refine Fin.then_ret ?_ | refine Fin.block_normal ?_ | refine Fin.block_ret ?_ | refine Fin.block_exit ?_ | refine Fin.block_other rfl ?_
      | refine WL.pA ?_ | refine WD.pA ?_ | refine WL.sA ?_ | refine WD.sA ?_ | refine WL.g_yes rfl rfl ?_ | refine WL.g_no rfl rfl rfl rfl ?_ | refine WL.g_undef rfl rfl rfl ?_ | refine WL.g_split rfl rfl (fun hc => ?_) (fun hc => ?_) | refine WD.g_yes rfl rfl ?_ | refine WD.g_no rfl rfl rfl rfl ?_ | refine WD.g_undef rfl rfl rfl ?_ | refine WD.g_split rfl rfl (fun hc => ?_) (fun hc => ?_)
      | refine W.drawA ?_ | refine WL.aA (fun _ => ?_) | refine WD.aA (fun _ => ?_) | refine WL.e0A ?_ | refine WD.e0A ?_
      | refine W.cond rfl (fun hc => ?_) (fun hc => ?_))
    have hlt : seen.length < s.es.length := by
      have h1 : (seen ++ [q.born]).Nodup := by rw [List.nodup_append]; exact ⟨hnd, by simp, fun a ha b hb h => by simp at hb; subst hb h; exact hns ha⟩
      have h2 := nodup_len h1 (l2 := s.es.map (·.born)) (fun a ha => by
        rcases List.mem_append.1 ha with h | h
        · exact hin a h
        · rw [List.mem_singleton.1 h]; exact List.mem_map.2 ⟨q, hq, rfl⟩)
      simp at h2
      omega
    refine Fin.round ⟨seen ++ [q.born], max d (far s.base q.key)⟩ ⟨?_, ?_, ?_, ?_, ?_⟩ (sub_of (by repeat (first | exact subEnv.nil | refine subEnv.cons rfl ?_))) (fun _ h => h) ?_
    · rw [List.nodup_append]; exact ⟨hnd, by simp, fun a ha b hb h => by simp at hb; subst hb h; exact hns ha⟩
    · intro a ha
      rcases List.mem_append.1 ha with h | h
      · exact hin a h
      · rw [List.mem_singleton.1 h]; exact List.mem_map.2 ⟨q, hq, rfl⟩
    · dsimp only; omega
    · dsimp only
      by_cases h : d ≤ far s.base q.key
      · rw [Nat.max_eq_right h]; exact .inr ⟨q, hq, rfl⟩
      · rw [Nat.max_eq_left (by omega)]; exact hex
    · intro e2 he2 hs2
      dsimp only
      rcases se_snoc hs.born hq he2 hs2 with h | rfl
      · have := hmax e2 he2 h; omega
      · omega
    · simp only [List.length_append, List.length_cons, List.length_nil]
      omega
end Go.Proofs.Ytkncbiepmgdgeaa
