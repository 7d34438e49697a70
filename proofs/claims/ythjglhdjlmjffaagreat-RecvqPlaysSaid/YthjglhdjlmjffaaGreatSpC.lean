/- A set of numbers beyond a base: 'New', 'Add', 'Count', 'step', 'Settle', 'Move', walked. Conditions: it is well formed; numbers are 32 bits wide. -/
import Derived.Test.YthjglhdjlmjffaaGreatSpB
namespace Go.Proofs.YthjglhdjlmjffaaGreat
open Go Go.Sl Go.Spn

theorem new_tr (F : Nat → Option Obj) (b : Int) (hb : 0 ≤ b ∧ b < 4294967296) : Tr Tryz.prog 58 [.int .u32 b].toArray F [] (fun v H => ∃ s : SM, s.ok ∧ H = s.H ∧ v = .pointer (some ⟨s.R, 0, none⟩) ∧ s.S = ⟨b, fun _ => false⟩) := by
  refine Tr.enter Tryz.func58 rfl Tryz.ntmps58 rfl (fun w0 => ?_)
  repeat' (first | refine S1 ?_ | refine SD ?_ | refine SA (fun _ => ?_) | refine WL.g_split rfl rfl (fun hc => ?_) (fun hc => ?_) | refine WD.g_split rfl rfl (fun hc => ?_) (fun hc => ?_) | refine W.cond rfl (fun hc => ?_) (fun hc => ?_))
  rename_i bm br
  refine Fin.retW (by exact rfl) resA (H' := (⟨br, bm, b, [], 0⟩ : SM).H) (fun _ h => h) ⟨_, ⟨by simp, by simp, by simp, by simp, by simp, hb⟩, rfl, rfl, ?_⟩
  exact S.ext rfl (fun d => by simp [SM.S, SM.isIn])
theorem SM.isIn_iff {s : SM} {x : Int} : s.isIn x = true ↔ ∃ e ∈ s.es, e.key = x := by simp [SM.isIn]
theorem add_tr (F : Nat → Option Obj) (s : SM) (hs : s.ok) (y : Int) (hy : 0 ≤ y ∧ y < 4294967296) : Tr Tryz.prog 95 [.pointer (some ⟨s.R, 0, none⟩), .int .u32 y].toArray F s.H (fun v H => v = .bool (Spn.addB s.S y) ∧ ∃ s' : SM, s'.ok ∧ H = s'.H ∧ s'.R = s.R ∧ s'.S = Spn.add s.S y) := by
  refine Tr.enter Tryz.func95 rfl Tryz.ntmps95 rfl (fun w0 => ?_)
  have hp := SM.S_p hs.base hy
  repeat' (first | refine S1 ?_ | refine SD ?_ | refine SA (fun _ => ?_) | refine WL.g_split rfl rfl (fun hc => ?_) (fun hc => ?_) | refine WD.g_split rfl rfl (fun hc => ?_) (fun hc => ?_) | refine W.cond rfl (fun hc => ?_) (fun hc => ?_))
  refine WL.e rfl (Ef.callR (by exact rfl) (.all _) (may_tr _ s y)) ?_
  rintro _ _ ⟨rfl, rfl⟩
  have hno : (Spn.addB s.S y) = false → inW (far s.base y) = false ∨ s.S.p (far s.base y) = true := fun h => by
    unfold Spn.addB at h
    rw [show s.S.b = s.base from rfl, Bool.and_eq_false_iff] at h
    simpa using h
  have hsame : (Spn.addB s.S y) = false → s.S = Spn.add s.S y := fun h => by
    unfold Spn.add
    rw [show s.S.b = s.base from rfl]
    split
    · rename_i hw
      rcases hno h with h1 | h1
      · rw [h1] at hw; cases hw
      · refine S.ext rfl (fun d => ?_)
        dsimp only
        by_cases hd : d = far s.base y
        · subst hd; simp [h1]
        · simp [hd]
    · rfl
  repeat' (first | refine S1 ?_ | refine SD ?_ | refine SA (fun _ => ?_) | refine WL.g_split rfl rfl (fun hc => ?_) (fun hc => ?_) | refine WD.g_split rfl rfl (fun hc => ?_) (fun hc => ?_) | refine W.cond rfl (fun hc => ?_) (fun hc => ?_))
  · have h1 : inW (far s.base y) = false := by simpa using hc
    have h2 : Spn.addB s.S y = false := by unfold Spn.addB; rw [show s.S.b = s.base from rfl, h1]; rfl
    exact Fin.retW (by exact rfl) resA (fun _ h => h) ⟨by rw [h2]; rfl, s, hs, rfl, rfl, hsame h2⟩
  · have h1 : inW (far s.base y) = true := by simpa using hc
    refine WL.e rfl (Ef.callR (by exact rfl) (.all _) (has_tr _ s hs y hy)) ?_
    rintro _ _ ⟨rfl, rfl⟩
    have e : Spn.has s.S y = s.isIn y := by
      unfold Spn.has
      rw [show s.S.b = s.base from rfl, hp, h1]
      simp
    have e2 : Spn.addB s.S y = !s.isIn y := by
      unfold Spn.addB
      rw [show s.S.b = s.base from rfl, hp, h1]
      simp
    rw [e]
    repeat' (first | refine S1 ?_ | refine SD ?_ | refine SA (fun _ => ?_) | refine WL.g_split rfl rfl (fun hc => ?_) (fun hc => ?_) | refine WD.g_split rfl rfl (fun hc => ?_) (fun hc => ?_) | refine W.cond rfl (fun hc => ?_) (fun hc => ?_))
    · have h2 : Spn.addB s.S y = false := by rw [e2]; simpa using hc
      exact Fin.retW (by exact rfl) resA (fun _ h => h) ⟨by rw [h2]; rfl, s, hs, rfl, rfl, hsame h2⟩
    · have hin : s.isIn y = false := hc
      unfold SM.H
      repeat' (first | refine S1 ?_ | refine SD ?_ | refine SA (fun _ => ?_) | refine WL.g_split rfl rfl (fun hc => ?_) (fun hc => ?_) | refine WD.g_split rfl rfl (fun hc => ?_) (fun hc => ?_) | refine W.cond rfl (fun hc => ?_) (fun hc => ?_))
      refine WL.e0 (Ef.mu_new (v := .agg ([] : List Value).toArray) rfl rfl rfl (by repeat (first | exact MapAt.here | apply MapAt.there | apply MapAt.right)) (keysOk_se _) (by rw [mfind_se]; unfold SM.isIn at hin; rw [hin]; rfl)) ?_
      rintro _ _ ⟨rfl, rfl⟩
      repeat' (first | refine S1 ?_ | refine SD ?_ | refine SA (fun _ => ?_) | refine WL.g_split rfl rfl (fun hc => ?_) (fun hc => ?_) | refine WD.g_split rfl rfl (fun hc => ?_) (fun hc => ?_) | refine W.cond rfl (fun hc => ?_) (fun hc => ?_))
      have hout : ∀ e ∈ s.es, e.key ≠ y := fun e he h => by
        have := SM.isIn_iff.2 ⟨e, he, h⟩
        rw [hin] at this; cases this
      refine Fin.retW (by exact rfl) resA (H' := (⟨s.R, s.M, s.base, s.es ++ [⟨y, s.clk⟩], s.clk + 1⟩ : SM).H) (fun _ h => ?_) ⟨by rw [e2, hin]; rfl, (⟨s.R, s.M, s.base, s.es ++ [⟨y, s.clk⟩], s.clk + 1⟩ : SM), ⟨?_, ?_, ?_, ?_, ?_, hs.base⟩, rfl, rfl, ?_⟩
      · unfold SM.H
        rw [List.map_append]
        exact h
      · rw [List.map_append, List.nodup_append]
        refine ⟨hs.born, by simp, fun a ha b hb h => ?_⟩
        simp at hb
        obtain ⟨q, hq, rfl⟩ := List.mem_map.1 ha
        have := hs.old q hq
        omega
      · intro e he
        rcases List.mem_append.1 he with he | he
        · have := hs.old e he; dsimp only; omega
        · rw [List.mem_singleton.1 he]; exact Nat.lt_succ_self _
      · rw [List.map_append, List.nodup_append]
        refine ⟨hs.keys, by simp, fun a ha b hb h => ?_⟩
        simp at hb
        obtain ⟨q, hq, rfl⟩ := List.mem_map.1 ha
        exact hout q hq (h.trans hb)
      · intro e he
        rcases List.mem_append.1 he with he | he
        · exact hs.rng e he
        · rw [List.mem_singleton.1 he]; exact hy
      · intro e he
        rcases List.mem_append.1 he with he | he
        · exact hs.win e he
        · rw [List.mem_singleton.1 he]; exact h1
      · unfold Spn.add
        rw [show s.S.b = s.base from rfl, if_pos h1]
        refine S.ext rfl (fun d => ?_)
        dsimp only [SM.S, SM.isIn]
        rw [List.any_append]
        simp only [List.any_cons, List.any_nil, Bool.or_false]
        by_cases hd : d = far s.base y
        · subst hd
          rw [far_back hs.base hy, h1]
          simp
        · have : ¬ (inW d = true ∧ y = u32 (s.base + d)) := fun ⟨hw, hh⟩ => hd (by
            have hb := hs.base
            have := inW_iff.1 hw
            rw [hh]
            unfold far
            simp only [u32_eq]
            omega)
          cases hw : inW d with
          | false => simp [hd]
          | true =>
            have : ¬ y = u32 (s.base + d) := fun h => this ⟨hw, h⟩
            simp [hd, this]
theorem SM.len {s : SM} (hs : s.ok) : s.es.length = Spn.count s.S := by
  have h1 : (s.es.map (fun e => far s.base e.key)).Nodup := by
    refine List.pairwise_map.2 ?_
    have h2 := List.pairwise_map.1 hs.keys
    refine h2.imp_of_mem (fun {a b} ha hb h => fun he => h ?_)
    have e1 := far_back hs.base (hs.rng a ha)
    have e2 := far_back hs.base (hs.rng b hb)
    rw [← e1, ← e2, he]
  have hp : (s.es.map (fun e => far s.base e.key)).Perm (dist s.S.p) := by
    refine (List.perm_ext_iff_of_nodup h1 (dist_nodup _)).2 (fun d => ?_)
    rw [mem_dist, List.mem_map]
    constructor
    · rintro ⟨e, he, rfl⟩
      have hw := hs.win e he
      refine ⟨(inW_iff.1 hw).2, ?_⟩
      rw [SM.S_p hs.base (hs.rng e he), hw, SM.isIn_iff.2 ⟨e, he, rfl⟩]
      rfl
    · rintro ⟨_, hd⟩
      dsimp only [SM.S] at hd
      rw [Bool.and_eq_true] at hd
      obtain ⟨e, he, hk⟩ := SM.isIn_iff.1 hd.2
      refine ⟨e, he, ?_⟩
      have := inW_iff.1 hd.1
      have hb := hs.base
      rw [hk]
      unfold far
      simp only [u32_eq]
      omega
  have := hp.length_eq
  rw [List.length_map] at this
  exact this
theorem dist_le (p : Nat → Bool) : (dist p).length ≤ 4097 := by
  unfold dist
  refine Nat.le_trans (List.length_filter_le _ _) ?_
  simp
theorem count_tr (F : Nat → Option Obj) (s : SM) (hs : s.ok) : Tr Tryz.prog 94 [.pointer (some ⟨s.R, 0, none⟩)].toArray F s.H (fun v H => v = .int .i64 (Spn.count s.S) ∧ H = s.H) := by
  refine Tr.enter Tryz.func94 rfl Tryz.ntmps94 rfl (fun w0 => ?_)
  rw [← SM.len hs]
  unfold SM.H
  repeat' (first | refine S1 ?_ | refine SD ?_ | refine SA (fun _ => ?_) | refine WL.g_split rfl rfl (fun hc => ?_) (fun hc => ?_) | refine WD.g_split rfl rfl (fun hc => ?_) (fun hc => ?_) | refine W.cond rfl (fun hc => ?_) (fun hc => ?_))
  refine WL.s rfl (Rd.lenM rfl (by repeat (first | exact MapAt.here | apply MapAt.there | apply MapAt.right))) ?_
  repeat' (first | refine S1 ?_ | refine SD ?_ | refine SA (fun _ => ?_) | refine WL.g_split rfl rfl (fun hc => ?_) (fun hc => ?_) | refine WD.g_split rfl rfl (fun hc => ?_) (fun hc => ?_) | refine W.cond rfl (fun hc => ?_) (fun hc => ?_))
  exact Fin.retW (by exact rfl) resA (fun _ h => h) ⟨by simp [tup], rfl⟩
theorem erase_se (es : List Se) (x : Int) : (es.map Se.ent).eraseP (isKey x) = (es.eraseP (fun e => decide (e.key = x))).map Se.ent := by
  induction es with
  | nil => rfl
  | cons e es ih =>
    rw [List.map_cons]
    by_cases h : e.key = x
    · rw [List.eraseP_cons_of_pos (by simp [isKey, Se.ent, h]), List.eraseP_cons_of_pos (by simpa using h)]
    · rw [List.eraseP_cons_of_neg (by simp [isKey, Se.ent, Ne.symm h]), List.eraseP_cons_of_neg (by simpa using h), ih, List.map_cons]
theorem mem_erase_se {es : List Se} (hk : (es.map (·.key)).Nodup) {x : Int} {e : Se} : e ∈ es.eraseP (fun e => decide (e.key = x)) ↔ e ∈ es ∧ e.key ≠ x := by
  induction es with
  | nil => simp
  | cons a es ih =>
    rw [List.map_cons, List.nodup_cons] at hk
    by_cases h : a.key = x
    · rw [List.eraseP_cons_of_pos (by simpa using h)]
      constructor
      · exact fun he => ⟨by simp [he], fun hx => hk.1 (List.mem_map.2 ⟨e, he, hx.trans h.symm⟩)⟩
      · rintro ⟨he, hx⟩
        rcases List.mem_cons.1 he with rfl | he
        · exact absurd h hx
        · exact he
    · rw [List.eraseP_cons_of_neg (by simpa using h), List.mem_cons, List.mem_cons, ih hk.2]
      constructor
      · rintro (rfl | ⟨h1, h2⟩)
        · exact ⟨.inl rfl, h⟩
        · exact ⟨.inr h1, h2⟩
      · rintro ⟨rfl | h1, h2⟩
        · exact .inl rfl
        · exact .inr ⟨h1, h2⟩
theorem step_tr (F : Nat → Option Obj) (s : SM) (hs : s.ok) : Tr Tryz.prog 108 [.pointer (some ⟨s.R, 0, none⟩)].toArray F s.H (fun _ H => ∃ s' : SM, s'.ok ∧ H = s'.H ∧ s'.R = s.R ∧ s'.S = Spn.shift s.S 1) := by
  refine Tr.enter Tryz.func108 rfl Tryz.ntmps108 rfl (fun w0 => ?_)
  unfold SM.H
  repeat' (first | refine S1 ?_ | refine SD ?_ | refine SA (fun _ => ?_) | refine WL.g_split rfl rfl (fun hc => ?_) (fun hc => ?_) | refine WD.g_split rfl rfl (fun hc => ?_) (fun hc => ?_) | refine W.cond rfl (fun hc => ?_) (fun hc => ?_))
  refine WD.e0 (Ef.del (n := u32 (s.base + 1)) rfl rfl (by repeat (first | exact MapAt.here | apply MapAt.there | apply MapAt.right)) (keysOk_se s.es)) ?_
  rintro _ _ ⟨rfl, rfl⟩
  refine ⟨by first | (refine Or.inr (fun _ h => h.sublist ?_); (repeat (first | exact List.Sublist.refl _ | refine List.Sublist.cons_cons _ ?_ | refine List.Sublist.cons _ ?_)); first | done | fail) | exact Or.inl (by kernel_rfl), ?_⟩
  repeat' (first | refine S1 ?_ | refine SD ?_ | refine SA (fun _ => ?_) | refine WL.g_split rfl rfl (fun hc => ?_) (fun hc => ?_) | refine WD.g_split rfl rfl (fun hc => ?_) (fun hc => ?_) | refine W.cond rfl (fun hc => ?_) (fun hc => ?_))
  have hsub : (s.es.eraseP (fun e => decide (e.key = u32 (s.base + 1)))).Sublist s.es := List.eraseP_sublist
  have hb := hs.base
  refine Fin.endW (by exact rfl) resA (H' := (⟨s.R, s.M, u32 (s.base + 1), s.es.eraseP (fun e => decide (e.key = u32 (s.base + 1))), s.clk⟩ : SM).H) (fun _ h => ?_) ⟨(⟨s.R, s.M, u32 (s.base + 1), s.es.eraseP (fun e => decide (e.key = u32 (s.base + 1))), s.clk⟩ : SM), ⟨hs.born.sublist (hsub.map _), fun e he => hs.old e (hsub.mem he), hs.keys.sublist (hsub.map _), fun e he => hs.rng e (hsub.mem he), fun e he => ?_, by dsimp only; rw [u32_eq]; omega⟩, rfl, rfl, ?_⟩
  · unfold SM.H
    rw [← erase_se]
    exact h
  · obtain ⟨he1, he2⟩ := (mem_erase_se hs.keys).1 he
    have h1 := inW_iff.1 (hs.win e he1)
    have h2 := hs.rng e he1
    refine inW_iff.2 ?_
    dsimp only
    have : far s.base e.key ≠ 1 := fun h => he2 (by
      have := far_back hs.base h2
      rw [h] at this
      exact this.symm)
    unfold far at h1 this ⊢
    simp only [u32_eq] at h1 this ⊢
    omega
  · refine S.ext ?_ (fun d => ?_)
    · dsimp only [SM.S, Spn.shift]; rfl
    · dsimp only [SM.S, Spn.shift]
      cases hw : inW d with
      | false => rfl
      | true =>
        have hd := inW_iff.1 hw
        have ek : u32 (u32 (s.base + 1) + d) = u32 (s.base + (d + 1 : Nat)) := by simp only [u32_eq]; omega
        rw [ek]
        have hiff : (⟨s.R, s.M, u32 (s.base + 1), s.es.eraseP (fun e => decide (e.key = u32 (s.base + 1))), s.clk⟩ : SM).isIn (u32 (s.base + (d + 1 : Nat))) = s.isIn (u32 (s.base + (d + 1 : Nat))) := by
          rw [Bool.eq_iff_iff, SM.isIn_iff, SM.isIn_iff]
          dsimp only
          constructor
          · rintro ⟨e, he, hk⟩; exact ⟨e, hsub.mem he, hk⟩
          · rintro ⟨e, he, hk⟩
            exact ⟨e, (mem_erase_se hs.keys).2 ⟨he, by rw [hk]; simp only [u32_eq]; omega⟩, hk⟩
        rw [hiff]
        by_cases hd2 : d + 1 ≤ 4096
        · rw [inW_iff.2 (show 1 ≤ d + 1 ∧ d + 1 ≤ 4096 by omega)]; rfl
        · have : s.isIn (u32 (s.base + (d + 1 : Nat))) = false := by
            cases hin : s.isIn (u32 (s.base + (d + 1 : Nat))) with
            | false => rfl
            | true =>
              obtain ⟨e, he, hk⟩ := SM.isIn_iff.1 hin
              have h1 := inW_iff.1 (hs.win e he)
              rw [hk] at h1
              unfold far at h1
              simp only [u32_eq] at h1
              omega
          rw [this]
          simp
theorem has_next (s : Spn.S) (h : s.ok) : Spn.has s (u32 (s.b + 1)) = s.p 1 := by
  have hb := h.1
  have : far s.b (u32 (s.b + 1)) = 1 := by unfold far; simp only [u32_eq]; omega
  unfold Spn.has
  rw [this]
  rfl
structure StG where
  n : Nat
  s : SM
theorem fol_shift {s : Spn.S} (h : s.ok) {n : Nat} (hn : n ≤ fol s) : (Spn.shift s n).p 1 = decide (n < fol s) := by
  dsimp only [Spn.shift]
  by_cases hlt : n < fol s
  · rw [fol_all (s := s) (k := 1 + n) (by omega) (by omega)]
    simp [hlt, inW]
  · rw [show 1 + n = fol s + 1 by omega, fol_stop h]
    simp [hlt]
theorem settle_tr (F : Nat → Option Obj) (s : SM) (hs : s.ok) : Tr Tryz.prog 96 [.pointer (some ⟨s.R, 0, none⟩)].toArray F s.H (fun v H => v = .int .i64 (Spn.fol s.S) ∧ ∃ s' : SM, s'.ok ∧ H = s'.H ∧ s'.R = s.R ∧ s'.S = Spn.settle s.S) := by
  refine Tr.enter Tryz.func96 rfl Tryz.ntmps96 rfl (fun w0 => ?_)
  have hle := fol_le s.S
  repeat' (first | refine S1 ?_ | refine SD ?_ | refine SA (fun _ => ?_) | refine WL.g_split rfl rfl (fun hc => ?_) (fun hc => ?_) | refine WD.g_split rfl rfl (fun hc => ?_) (fun hc => ?_) | refine W.cond rfl (fun hc => ?_) (fun hc => ?_))
  refine W.loop (G := StG) (fun g => [(0, .pointer (some ⟨s.R, 0, none⟩)), (2, .int .i64 g.n)]) (fun g => g.s.H) (fun g => g.n ≤ fol s.S ∧ g.s.ok ∧ g.s.R = s.R ∧ g.s.S = Spn.shift s.S g.n) (fun g => fol s.S - g.n) ⟨0, s⟩ ⟨Nat.zero_le _, hs, rfl, (shift_zero hs.S).symm⟩ envA (fun _ h => h) ?_
  rintro ⟨n, g⟩ ⟨hn, hg, hR, hS⟩
  dsimp only at hn hg hR hS ⊢
  rw [← hR]
  repeat' (first | refine S1 ?_ | refine SD ?_ | refine SA (fun _ => ?_) | refine WL.g_split rfl rfl (fun hc => ?_) (fun hc => ?_) | refine WD.g_split rfl rfl (fun hc => ?_) (fun hc => ?_) | refine W.cond rfl (fun hc => ?_) (fun hc => ?_))
  refine WL.e rfl (Ef.callR (by exact rfl) (.all _) (base_tr _ g)) ?_
  rintro _ _ ⟨rfl, rfl⟩
  repeat' (first | refine S1 ?_ | refine SD ?_ | refine SA (fun _ => ?_) | refine WL.g_split rfl rfl (fun hc => ?_) (fun hc => ?_) | refine WD.g_split rfl rfl (fun hc => ?_) (fun hc => ?_) | refine W.cond rfl (fun hc => ?_) (fun hc => ?_))
  have hb := hg.base
  refine WL.e rfl (Ef.callR (by exact rfl) (.all _) (has_tr _ g hg (u32 (g.base + 1)) (by rw [u32_eq]; omega))) ?_
  rintro _ _ ⟨rfl, rfl⟩
  have e : Spn.has g.S (u32 (g.base + 1)) = decide (n < fol s.S) := by
    have h1 := has_next g.S hg.S
    rw [show g.S.b = g.base from rfl] at h1
    rw [h1, hS, fol_shift hs.S hn]
  rw [e]
  repeat' (first | refine S1 ?_ | refine SD ?_ | refine SA (fun _ => ?_) | refine WL.g_split rfl rfl (fun hc => ?_) (fun hc => ?_) | refine WD.g_split rfl rfl (fun hc => ?_) (fun hc => ?_) | refine W.cond rfl (fun hc => ?_) (fun hc => ?_))
  · have hlt : n < fol s.S := of_decide_eq_true hc
    refine WL.e rfl (Ef.call (by exact rfl) (.all _) (step_tr _ g hg)) ?_
    rintro _ _ ⟨_, ⟨g', hg', rfl, hR', hS'⟩, rfl⟩
    rw [List.append_nil]
    repeat' (first | refine S1 ?_ | refine SD ?_ | refine SA (fun _ => ?_) | refine WL.g_split rfl rfl (fun hc => ?_) (fun hc => ?_) | refine WD.g_split rfl rfl (fun hc => ?_) (fun hc => ?_) | refine W.cond rfl (fun hc => ?_) (fun hc => ?_))
    rw [show IntKind.i64.wrap ((n : Int) + 1) = ((n + 1 : Nat) : Int) by simp [IntKind.wrap, IntKind.bits, IntKind.signed]; omega]
    exact Fin.round ⟨n + 1, g'⟩ ⟨hlt, hg', hR', by dsimp only; rw [hS', hS, shift_shift hs.S]⟩ envA (fun _ h => h) (by dsimp only; omega)
  · have hge : n = fol s.S := by have := of_decide_eq_false hc; omega
    subst hge
    exact Fin.retW (by exact rfl) resA (fun _ h => h) ⟨rfl, g, hg, rfl, rfl, hS⟩
theorem move_tr (F : Nat → Option Obj) (s : SM) (hs : s.ok) (y : Int) (hy : 0 ≤ y ∧ y < 4294967296) : Tr Tryz.prog 83 [.pointer (some ⟨s.R, 0, none⟩), .int .u32 y].toArray F s.H (fun v H => v = .int .i64 (Spn.moveN s.S y) ∧ ∃ s' : SM, s'.ok ∧ H = s'.H ∧ s'.R = s.R ∧ s'.S = Spn.move s.S y) := by
  refine Tr.enter Tryz.func83 rfl Tryz.ntmps83 rfl (fun w0 => ?_)
  repeat' (first | refine S1 ?_ | refine SD ?_ | refine SA (fun _ => ?_) | refine WL.g_split rfl rfl (fun hc => ?_) (fun hc => ?_) | refine WD.g_split rfl rfl (fun hc => ?_) (fun hc => ?_) | refine W.cond rfl (fun hc => ?_) (fun hc => ?_))
  refine WL.e rfl (Ef.callR (by exact rfl) (.all _) (may_tr _ s y)) ?_
  rintro _ _ ⟨rfl, rfl⟩
  repeat' (first | refine S1 ?_ | refine SD ?_ | refine SA (fun _ => ?_) | refine WL.g_split rfl rfl (fun hc => ?_) (fun hc => ?_) | refine WD.g_split rfl rfl (fun hc => ?_) (fun hc => ?_) | refine W.cond rfl (fun hc => ?_) (fun hc => ?_))
  · have h1 : inW (far s.S.b y) = false := by simpa [SM.S] using hc
    exact Fin.retW (by exact rfl) resA (fun _ h => h) ⟨by unfold Spn.moveN; rw [h1]; rfl, s, hs, rfl, rfl, by unfold Spn.move; rw [h1]; rfl⟩
  have h1 : inW (far s.base y) = true := by simpa using hc
  have h2 := inW_iff.1 h1
  refine W.loop (G := StG) (fun g => [(0, .pointer (some ⟨s.R, 0, none⟩)), (1, .int .u32 y), (4, .int .i64 g.n)]) (fun g => g.s.H) (fun g => g.n ≤ far s.base y ∧ g.s.ok ∧ g.s.R = s.R ∧ g.s.S = Spn.shift s.S g.n) (fun g => far s.base y - g.n) ⟨0, s⟩ ⟨Nat.zero_le _, hs, rfl, (shift_zero hs.S).symm⟩ envA (fun _ h => h) ?_
  rintro ⟨n, g⟩ ⟨hn, hg, hR, hS⟩
  dsimp only at hn hg hR hS ⊢
  rw [← hR]
  have hgb : g.base = u32 (s.base + n) := congrArg Spn.S.b hS
  have hb := hs.base
  have e : (g.base != y) = decide (n < far s.base y) := by
    rw [hgb]
    have h3 := far_back hb hy
    by_cases hlt : n < far s.base y
    · have : u32 (s.base + n) ≠ y := fun h => by
        have h4 := far_lt s.base y
        rw [← h3] at h
        simp only [u32_eq] at h
        omega
      simp [this, hlt]
    · have : n = far s.base y := by omega
      subst this
      rw [h3]
      simp
  unfold SM.H
  repeat' (first | refine S1 ?_ | refine SD ?_ | refine SA (fun _ => ?_) | refine WL.g_split rfl rfl (fun hc => ?_) (fun hc => ?_) | refine WD.g_split rfl rfl (fun hc => ?_) (fun hc => ?_) | refine W.cond rfl (fun hc => ?_) (fun hc => ?_))
  · rw [e] at hc
    have hlt : n < far s.base y := of_decide_eq_true hc
    refine WL.e rfl (Ef.call (c := g.H) (by exact rfl) (.all _) (step_tr _ g hg)) ?_
    rintro _ _ ⟨_, ⟨g', hg', rfl, hR', hS'⟩, rfl⟩
    rw [List.append_nil]
    repeat' (first | refine S1 ?_ | refine SD ?_ | refine SA (fun _ => ?_) | refine WL.g_split rfl rfl (fun hc => ?_) (fun hc => ?_) | refine WD.g_split rfl rfl (fun hc => ?_) (fun hc => ?_) | refine W.cond rfl (fun hc => ?_) (fun hc => ?_))
    rw [show IntKind.i64.wrap ((n : Int) + 1) = ((n + 1 : Nat) : Int) by simp [IntKind.wrap, IntKind.bits, IntKind.signed]; omega]
    exact Fin.round ⟨n + 1, g'⟩ ⟨hlt, hg', hR', by dsimp only; rw [hS', hS, shift_shift hs.S]⟩ envA (fun _ h => h) (by dsimp only; omega)
  · rw [e] at hc
    have hge : n = far s.base y := by have := of_decide_eq_false hc; omega
    refine WL.e rfl (Ef.call (c := g.H) (by exact rfl) (.all _) (settle_tr _ g hg)) ?_
    rintro _ _ ⟨_, ⟨rfl, g', hg', rfl, hR', hS'⟩, rfl⟩
    rw [List.append_nil]
    have hle := fol_le g.S
    repeat' (first | refine S1 ?_ | refine SD ?_ | refine SA (fun _ => ?_) | refine WL.g_split rfl rfl (fun hc => ?_) (fun hc => ?_) | refine WD.g_split rfl rfl (fun hc => ?_) (fun hc => ?_) | refine W.cond rfl (fun hc => ?_) (fun hc => ?_))
    rw [show IntKind.i64.wrap ((n : Int) + (fol g.S : Nat)) = ((n + fol g.S : Nat) : Int) by simp [IntKind.wrap, IntKind.bits, IntKind.signed]; omega]
    refine Fin.retW (by exact rfl) resA (fun _ h => h) ⟨?_, g', hg', rfl, hR', ?_⟩
    · unfold Spn.moveN
      rw [show s.S.b = s.base from rfl, if_pos h1, ← hge, hS]
      rfl
    · unfold Spn.move
      rw [show s.S.b = s.base from rfl, if_pos h1, ← hge, hS', hS]
end Go.Proofs.YthjglhdjlmjffaaGreat
