/- A flight of pieces: the states that the laws Split, Misses and Point come through, in plain Lean. No conditions: laws. -/
import Derived.Test.YtglobldnockdoaaFlV
namespace Go.Flt
open Go

theorem pw_map {β : Type} {L : List Rc} {f : Rc → β} {M : List β} (hl : L.length = M.length) (h : ∀ (i : Nat) r, L[i]? = some r → M[i]? = some (f r)) : L.map f = M := by
  refine List.ext_getElem? (fun i => ?_)
  rw [List.getElem?_map]
  cases hr : L[i]? with
  | none =>
    have := List.getElem?_eq_none_iff.1 hr
    exact (List.getElem?_eq_none_iff.2 (by omega)).symm
  | some r => exact (h i r hr).symm
theorem new_good {c : Int} (hc : 0 ≤ c ∧ c < 4294967296) {paths : Int} (hp : 1 ≤ paths ∧ paths ≤ 4) : Good ⟨[], c, paths⟩ :=
  ⟨hc, hp, by simp, fun i r h => by simp at h, fun i r h => by simp at h, fun i r h => by simp at h⟩
theorem add_ok {s : S} {d : Dt} {path : Int} (hp : 0 ≤ path ∧ path < s.paths) (hb : d.bs ≠ []) (hl : s.L.length < 2048) (now id : Int) : addE s d path = 0 ∧ add s d path now id = { s with L := s.L ++ [newR s d path now id] } := by
  have h : addE s d path = 0 := by
    unfold addE
    rw [if_neg (fun h => by rcases h with h | h | h; omega; omega; exact hb h), if_neg (by omega)]
  exact ⟨h, by unfold add; rw [if_pos h]⟩
theorem snoc_get {L : List Rc} {x r : Rc} {i : Nat} (h : (L ++ [x])[i]? = some r) : L[i]? = some r ∨ (i = L.length ∧ r = x) := by
  rw [List.getElem?_append] at h
  split at h
  · exact .inl h
  · have : i - L.length = 0 := by
      have := (List.getElem?_eq_some_iff.1 h).1
      simp at this
      omega
    rw [this] at h
    simp at h
    exact .inr ⟨by omega, h.symm⟩

/-! ### Split -/
structure InvS (s : S) (on : List Bool) : Prop where
  good : Good s
  paths : s.paths = 2
  len : s.L.length = on.length
  bs : ∀ (i : Nat) r, s.L[i]? = some r → r.bs.length = 10
  at_ : ∀ (i : Nat) r, s.L[i]? = some r → (on[i]? = some true ∧ r.path = 1 ∧ away r = true) ∨ (on[i]? = some false ∧ r.path = 0)
def z10 : Dt := ⟨0, 0, 0, false, false, false, List.replicate 10 0⟩
theorem InvS.add {s : S} {on : List Bool} (h : InvS s on) (hl : on.length ≤ 60) (b : Bool) (now id : Int) : InvS (Flt.add s z10 (if b then 1 else 0) now id) (on ++ [b]) ∧ addE s z10 (if b then 1 else 0) = 0 := by
  have hp := h.paths
  have hlen := h.len
  obtain ⟨h1, h2⟩ := Flt.add_ok (s := s) (d := z10) (path := if b then 1 else 0) (by split <;> omega) (by simp [z10]) (by omega) now id
  refine ⟨⟨h.good.add _ _ _ _, ?_, ?_, fun i r hr => ?_, fun i r hr => ?_⟩, h1⟩
  · rw [h2]; exact h.paths
  · rw [h2]; simp [hlen]
  · rw [h2] at hr
    rcases snoc_get hr with hr | ⟨_, rfl⟩
    · exact h.bs i r hr
    · simp [newR, z10]
  · rw [h2] at hr
    rcases snoc_get hr with hr | ⟨rfl, rfl⟩
    · have hi := (List.getElem?_eq_some_iff.1 hr).1
      rw [List.getElem?_append_left (by omega)]
      exact h.at_ i r hr
    · rw [hlen]
      cases b
      · exact .inr ⟨by simp, rfl⟩
      · exact .inl ⟨by simp, rfl, rfl⟩
theorem InvS.out {s : S} {on : List Bool} (h : InvS s on) : Flt.out s 1 = (on.filter id).length * 10 := by
  have e : s.L.map (kg (byP 1)) = on.map (fun b => (b, 10)) := pw_map (by simpa using h.len) (fun i r hr => by
    have hb := h.bs i r hr
    rw [List.getElem?_map]
    rcases h.at_ i r hr with ⟨h1, h2, h3⟩ | ⟨h1, h2⟩
    · rw [h1]; simp [kg, byP, h2, h3, hb]
    · rw [h1]; simp [kg, byP, h2, hb])
  have k : ∀ l : List Rc, sumB (byP 1) l = (((l.map (kg (byP 1))).filter (·.1)).map (·.2)).sum := fun l => by
    unfold sumB
    rw [List.filter_map, List.map_map]
    rfl
  unfold Flt.out
  rw [k, e]
  generalize on = on
  induction on with
  | nil => rfl
  | cons b on ih =>
    cases b
    · simp at ih ⊢; omega
    · simp at ih ⊢; omega
theorem InvS.lost {s : S} {on : List Bool} (h : InvS s on) {t : Int} (ht : t ∈ lostL s) : ∃ d, getD s t = some (d, 0) := by
  unfold lostL at ht
  obtain ⟨r, hr, rfl⟩ := List.mem_map.1 ht
  rw [List.mem_filter] at hr
  obtain ⟨i, hi⟩ := List.getElem?_of_mem hr.1
  have hil := (List.getElem?_eq_some_iff.1 hi).1
  have htsn := h.good.tsn i r hi
  have hf := Spn.far_int s.c r.tsn
  have := h.good.few
  have := h.good.c
  have e : Spn.far s.c r.tsn = i + 1 := by
    rw [htsn] at hf ⊢
    simp only [Spn.u32_eq] at hf ⊢
    omega
  refine ⟨r.d, ?_⟩
  unfold getD atI
  rw [e, if_pos (by omega)]
  dsimp only
  rw [Nat.add_sub_cancel, hi]
  rcases h.at_ i r hi with ⟨_, _, h3⟩ | ⟨_, h2⟩
  · have := hr.2
    unfold away at h3
    unfold openR at this
    simp at h3 this
    rw [h3.1.2] at this
    exact absurd this.1.1 (by simp)
  · simp [h2]
theorem InvS.sack {s : S} {on : List Bool} (h : InvS s on) {k : Nat} (h1 : 1 ≤ k) (hk : on[k]? = some false) : ∃ t s', Flt.sack s s.c [(k + 1, k + 1)] = some (s', t) ∧ InvS s' on ∧ s'.c = s.c := by
  have hkl : k < s.L.length := by rw [h.len]; exact (List.getElem?_eq_some_iff.1 hk).1
  obtain ⟨t, ht⟩ := sackOne s h1 hkl
  obtain ⟨rk, hrk⟩ : ∃ r, s.L[k]? = some r := ⟨s.L[k], by simp⟩
  have hkp : rk.path = 0 := by
    rcases h.at_ k rk hrk with ⟨h1, _⟩ | ⟨_, h2⟩
    · rw [hk] at h1; cases h1
    · exact h2
  refine ⟨t, _, ht, ⟨h.good.like (oneX_k s k), h.paths, ?_, fun i r hr => ?_, fun i r hr => ?_⟩, rfl⟩
  · have := congrArg List.length (oneX_k s k); simp at this; rw [this]; exact h.len
  · obtain ⟨q, hq, h1, h2⟩ := k_get (oneX_k s k) hr
    have := h.bs i q hq
    have e : r.bs = q.bs := congrArg Dt.bs h1
    rw [e]
    exact this
  · dsimp only at hr
    obtain ⟨q, hq, hd, hp⟩ := k_get (oneX_k s k) hr
    rcases h.at_ i q hq with ⟨a1, a2, a3⟩ | ⟨a1, a2⟩
    · refine .inl ⟨a1, hp.trans a2, ?_⟩
      cases ha : rk.acked with
      | true =>
        rw [oneX_old s hrk ha, hq] at hr
        cases hr
        exact a3
      | false =>
        have hik : k ≠ i := fun e => by subst e; rw [hk] at a1; cases a1
        rw [oneX_new s hrk ha, List.getElem?_set_ne hik, hq] at hr
        have : missB ((⟨-1, -1, -1, -1⟩ : Q4 Int).set rk.path k) i q = false := by
          rw [hkp]
          unfold missB Q4.get Q4.set
          have : ¬ ((i : Int) < -1) := by omega
          simp [a2, this]
        simp [this] at hr
        rw [← hr]
        exact a3
    · exact .inr ⟨a1, hp.trans a2⟩

/-! ### Misses -/
structure InvM (s : S) (n : Nat) (seen : Nat → Bool) (fresh : Nat) (again : Bool) : Prop where
  good : Good s
  paths : s.paths = 1
  len : s.L.length = n + 1
  ze : ∃ r, s.L[0]? = some r ∧ r.acked = false ∧ r.gone = false ∧ r.again = again ∧ r.lost = (decide (3 ≤ fresh) && !again) ∧ r.miss = (if again then 0 else ((min fresh 3 : Nat) : Int))
  at_ : ∀ (i : Nat) r, 1 ≤ i → s.L[i]? = some r → r.acked = seen i
  some_ : ∀ i, seen i = true → 1 ≤ fresh
def one1 : Dt := ⟨0, 0, 0, false, false, false, [1]⟩
theorem InvM.open_ {s : S} {n : Nat} {seen : Nat → Bool} {fresh : Nat} {again : Bool} (h : InvM s n seen fresh again) (hn : n ≤ 40) : (match lostL s with | [] => false | t :: _ => t == Spn.u32 (s.c + 1)) = (decide (3 ≤ fresh) && !again) := by
  obtain ⟨r, hr, h1, h2, h3, h4, h5⟩ := h.ze
  have ho : openR r = (decide (3 ≤ fresh) && !again) := by unfold openR; rw [h1, h2, h4]; simp
  have hc := h.good.c
  have hlen := h.len
  have ht := h.good.tsn 0 r hr
  rw [← ho]
  cases hL : lostL s with
  | nil =>
    dsimp only
    unfold lostL at hL
    rw [List.map_eq_nil_iff, List.filter_eq_nil_iff] at hL
    have := hL r (List.mem_of_getElem? hr)
    simp at this
    exact this.symm
  | cons t rest =>
    dsimp only
    obtain ⟨i, q, _, hq, hqo, hlo, _⟩ := lost_first h.good hL
    have htq : t = q.tsn := by
      unfold lostL at hL
      obtain ⟨A, as, e1, e2, _⟩ := List.map_eq_cons_iff.1 hL
      obtain ⟨X, C, hX, hA, hr', hC⟩ := List.filter_eq_cons_iff.1 e1
      have hA0 : s.L[X.length]? = some A := by rw [hX]; simp
      rcases Nat.lt_trichotomy i X.length with hlt | heq | hgt
      · have : q ∈ X := by
          rw [hX, List.getElem?_append_left hlt] at hq
          exact List.mem_of_getElem? hq
        exact absurd hqo (hA q this)
      · subst heq
        rw [hA0] at hq
        cases hq
        exact e2.symm
      · have := hlo _ hgt A hA0
        rw [hr'] at this
        cases this
    rcases Nat.eq_zero_or_pos i with rfl | hi
    · rw [hr] at hq
      cases hq
      rw [hqo, htq, ht]
      simp
    · rw [hlo 0 hi r hr]
      have hq2 := h.good.tsn i q hq
      have := (List.getElem?_eq_some_iff.1 hq).1
      have : t ≠ Spn.u32 (s.c + 1) := by
        rw [htq, hq2]
        simp only [Spn.u32_eq]
        omega
      simpa using this
theorem InvM.sack {s : S} {n : Nat} {seen : Nat → Bool} {fresh : Nat} {again : Bool} (h : InvM s n seen fresh again) (hf : fresh ≤ 1000) {k : Nat} (h1 : 1 ≤ k) (hk : k ≤ n) :
    ∃ t s', Flt.sack s s.c [(k + 1, k + 1)] = some (s', t) ∧ InvM s' n (fun i => decide (i = k) || seen i) (if seen k then fresh else fresh + 1) again ∧ s'.c = s.c ∧ 1 ≤ (if seen k then fresh else fresh + 1) := by
  have hlen := h.len
  obtain ⟨t, ht⟩ := sackOne s h1 (by omega)
  obtain ⟨rk, hrk⟩ : ∃ r, s.L[k]? = some r := ⟨s.L[k]'(by omega), by simp⟩
  have hka := h.at_ k rk h1 hrk
  have hone : 1 ≤ (if seen k = true then fresh else fresh + 1) := by
    split
    · rename_i hs; exact h.some_ k hs
    · omega
  obtain ⟨r, hr, e1, e2, e3, e4, e5⟩ := h.ze
  have hp0 : ∀ (i : Nat) q, s.L[i]? = some q → q.path = 0 := fun i q hq => by
    have := h.good.path i q hq
    have := h.paths
    omega
  refine ⟨t, _, ht, ⟨h.good.like (oneX_k s k), h.paths, ?_, ?_, fun i q hi hq => ?_, fun _ _ => hone⟩, rfl, hone⟩
  · have := congrArg List.length (oneX_k s k); simp at this; rw [this]; exact hlen
  · cases hs : seen k with
    | true =>
      rw [hs] at hka
      refine ⟨r, ?_, e1, e2, e3, by simpa using e4, by simpa using e5⟩
      dsimp only
      rw [oneX_old s hrk hka, hr]
    | false =>
      rw [hs] at hka
      have hg := oneX_new s hrk hka 0
      rw [List.getElem?_set_ne (by omega), hr, Option.map_some, hp0 k rk hrk] at hg
      have hm : missB ((⟨-1, -1, -1, -1⟩ : Q4 Int).set 0 k) (0 : Nat) r = (!(decide (3 ≤ fresh) && !again) && !again) := by
        unfold missB Q4.get Q4.set away
        rw [hp0 0 r hr, e1, e2, e3, e4]
        have : 0 < k := by omega
        simp [this]
      rw [hm] at hg
      dsimp only
      rw [hg]
      simp only [Bool.false_eq_true, if_false]
      cases again with
      | true => exact ⟨r, by simp, e1, e2, e3, by simpa using e4, by simpa using e5⟩
      | false =>
        simp only [Bool.not_false, Bool.and_true] at e4 e5 ⊢
        simp only [Bool.false_eq_true, if_false] at e5 ⊢
        by_cases h3 : 3 ≤ fresh
        · refine ⟨r, by simp [h3], e1, e2, e3, ?_, ?_⟩
          · rw [e4, decide_eq_true h3, decide_eq_true (by omega)]
          · rw [e5, show min fresh 3 = 3 by omega, show min (fresh + 1) 3 = 3 by omega]
        · have ew : i64 (r.miss + 1) = ((fresh + 1 : Nat) : Int) := by rw [e5, i64_in (by omega) (by omega)]; omega
          refine ⟨missR r, by simp [h3], ?_, ?_, ?_, ?_, ?_⟩
          · unfold missR; split <;> exact e1
          · unfold missR; split <;> exact e2
          · unfold missR; split <;> exact e3
          · unfold missR
            rw [ew]
            by_cases h4 : 3 ≤ fresh + 1
            · rw [if_pos (by omega), decide_eq_true h4]
            · rw [if_neg (by omega), decide_eq_false h4]
              dsimp only
              rw [e4, decide_eq_false h3]
          · unfold missR
            rw [ew, show min (fresh + 1) 3 = fresh + 1 by omega]
            split <;> rfl
  · dsimp only at hq
    cases hs : seen k with
    | true =>
      rw [hs] at hka
      rw [oneX_old s hrk hka] at hq
      have := h.at_ i q hi hq
      by_cases hik : i = k
      · subst hik; rw [this, hs]; simp
      · rw [this]; simp [hik]
    | false =>
      rw [hs] at hka
      rw [oneX_new s hrk hka] at hq
      obtain ⟨x, hx, hxq⟩ := Option.map_eq_some_iff.1 hq
      have hqa : q.acked = x.acked := by
        rw [← hxq]
        split
        · unfold missR; split <;> rfl
        · rfl
      by_cases hik : i = k
      · subst hik
        rw [List.getElem?_set_self (by omega)] at hx
        cases hx
        rw [hqa]
        simp [setAck]
      · rw [List.getElem?_set_ne (fun e => hik e.symm)] at hx
        rw [hqa, h.at_ i x hi hx]
        simp [hik]
theorem InvM.add {s : S} {n : Nat} {again : Bool} (h : InvM s n (fun _ => false) 0 again) (hl : n ≤ 60) (now id : Int) : InvM (Flt.add s one1 0 now id) (n + 1) (fun _ => false) 0 again ∧ (Flt.add s one1 0 now id).c = s.c := by
  have hp := h.paths
  have hlen := h.len
  obtain ⟨h1, h2⟩ := Flt.add_ok (s := s) (d := one1) (path := 0) (by omega) (by simp [one1]) (by omega) now id
  obtain ⟨r, hr, e⟩ := h.ze
  refine ⟨⟨h.good.add _ _ _ _, ?_, ?_, ⟨r, ?_, e⟩, fun i r hi hr => ?_, fun i hi => by cases hi⟩, by rw [h2]⟩
  · rw [h2]; exact hp
  · rw [h2]; simp [hlen]
  · rw [h2]; dsimp only; rw [List.getElem?_append_left (by omega)]; exact hr
  · rw [h2] at hr
    rcases snoc_get hr with hr | ⟨_, rfl⟩
    · exact h.at_ i r hi hr
    · rfl
theorem InvM.first {c : Int} (hc : 0 ≤ c ∧ c < 4294967296) (now id : Int) : InvM (Flt.add ⟨[], c, 1⟩ one1 0 now id) 0 (fun _ => false) 0 false ∧ (Flt.add ⟨[], c, 1⟩ one1 0 now id).c = c := by
  have h0 := new_good hc (paths := 1) (by omega)
  obtain ⟨h1, h2⟩ := Flt.add_ok (s := ⟨[], c, 1⟩) (d := one1) (path := 0) (by dsimp only; omega) (by simp [one1]) (by simp) now id
  refine ⟨⟨h0.add _ _ _ _, by rw [h2], by rw [h2]; rfl, ⟨_, by rw [h2]; rfl, rfl, rfl, rfl, rfl, rfl⟩, fun i r hi hr => ?_, fun i hi => by cases hi⟩, by rw [h2]⟩
  rw [h2] at hr
  have := (List.getElem?_eq_some_iff.1 hr).1
  simp at this
  omega
theorem InvM.again {s : S} (h : InvM s 0 (fun _ => false) 0 false) : markN s 0 = 1 ∧ (Flt.again (Flt.mark s 0) (Spn.u32 (s.c + 1)) 0 0).2 = 0 ∧ InvM (Flt.again (Flt.mark s 0) (Spn.u32 (s.c + 1)) 0 0).1 0 (fun _ => false) 0 true ∧ (Flt.again (Flt.mark s 0) (Spn.u32 (s.c + 1)) 0 0).1.c = s.c := by
  obtain ⟨r, hr, e1, e2, e3, e4, e5⟩ := h.ze
  have hlen := h.len
  have hp := h.paths
  have hc := h.good.c
  have hp0 : r.path = 0 := by have := h.good.path 0 r hr; omega
  have hL : s.L = [r] := by
    cases hl : s.L with
    | nil => rw [hl] at hlen; simp at hlen
    | cons a l =>
      rw [hl] at hlen hr
      simp at hlen hr
      rw [hr, hlen]
  have hb : byP 0 r = true := by simp [byP, away, hp0, e1, e2, e4]
  have hf := Spn.far_int s.c (Spn.u32 (s.c + 1))
  have hfar : Spn.far s.c (Spn.u32 (s.c + 1)) = 1 := by
    simp only [Spn.u32_eq] at hf ⊢
    omega
  have hm : Flt.mark s 0 = ⟨[setLost r], s.c, s.paths⟩ := by
    unfold mark sel
    rw [hL]
    simp [hb]
  have hag : Flt.again (Flt.mark s 0) (Spn.u32 (s.c + 1)) 0 0 = (⟨[setAgain 0 0 (setLost r)], s.c, s.paths⟩, 0) := by
    rw [hm]
    unfold Flt.again
    rw [if_neg (by dsimp only; omega)]
    have : atI s.c 1 (Spn.u32 (s.c + 1)) = some 0 := by unfold atI; rw [hfar]; rfl
    dsimp only [List.length_singleton]
    rw [this]
    have ho : openR (setLost r) = true := by unfold openR setLost; simp [e1, e2]
    simp [ho]
  have hgood := (h.good.like (L := sel (byP 0) setLost s.L) (sel_k _ setLost (fun _ => rfl) _)).again (Spn.u32 (s.c + 1)) 0 0
  refine ⟨by unfold markN cntB; rw [hL]; simp [hb], by rw [hag], ⟨hgood, ?_, ?_, ?_, fun i q hi hq => ?_, fun i hi => by cases hi⟩, by rw [hag]⟩
  · rw [hag]; exact hp
  · rw [hag]; rfl
  · rw [hag]
    exact ⟨setAgain 0 0 (setLost r), rfl, e1, e2, rfl, by simp [setAgain], by simpa [setAgain, setLost] using e5⟩
  · rw [hag] at hq
    have := (List.getElem?_eq_some_iff.1 hq).1
    simp at this
    omega

/-! ### Point -/
structure InvP (s : S) (ids : List Nat) (G : Nat → Bool) : Prop where
  good : Good s
  paths : s.paths = 1
  len : s.L.length = ids.length
  at_ : ∀ (i : Nat) r, s.L[i]? = some r → r.stream = i ∧ r.bs.length = 1 ∧ r.acked = false ∧ r.lost = false ∧ ∃ d, ids[i]? = some d ∧ r.id = ((d % 4 : Nat) : Int) ∧ r.gone = G (d % 4)
def pD (i : Nat) (b : UInt8) : Dt := ⟨0, i, 0, false, false, false, [b]⟩
theorem InvP.add {s : S} {ids : List Nat} (h : InvP s ids (fun _ => false)) (hl : ids.length ≤ 60) (b : UInt8) (d : Nat) : InvP (Flt.add s (pD ids.length b) 0 0 ((d % 4 : Nat) : Int)) (ids ++ [d]) (fun _ => false) ∧ (Flt.add s (pD ids.length b) 0 0 ((d % 4 : Nat) : Int)).c = s.c := by
  have hp := h.paths
  have hlen := h.len
  obtain ⟨h1, h2⟩ := Flt.add_ok (s := s) (d := pD ids.length b) (path := 0) (by omega) (by simp [pD]) (by omega) 0 ((d % 4 : Nat) : Int)
  refine ⟨⟨h.good.add _ _ _ _, ?_, ?_, fun i r hr => ?_⟩, by rw [h2]⟩
  · rw [h2]; exact hp
  · rw [h2]; simp [hlen]
  · rw [h2] at hr
    rcases snoc_get hr with hr | ⟨rfl, rfl⟩
    · have hi := (List.getElem?_eq_some_iff.1 hr).1
      rw [List.getElem?_append_left (by omega)]
      exact h.at_ i r hr
    · exact ⟨by simp [newR, pD, hlen], rfl, rfl, rfl, d, by rw [hlen]; simp, rfl, rfl⟩
theorem InvP.abandon {s : S} {ids : List Nat} {G : Nat → Bool} (h : InvP s ids G) {k : Nat} : InvP (Flt.abandon s k) ids (fun d => decide (d = k) || G d) ∧ (Flt.abandon s k).c = s.c ∧ abandonN s k = if G k then 0 else (ids.filter (fun d => decide (d % 4 = k))).length := by
  refine ⟨⟨h.good.like (sel_k _ setGone (fun _ => rfl) _), h.paths, ?_, fun i r hr => ?_⟩, rfl, ?_⟩
  · simp [Flt.abandon, sel]; exact h.len
  · unfold Flt.abandon sel at hr
    dsimp only at hr
    rw [List.getElem?_map] at hr
    obtain ⟨q, hq, hqr⟩ := Option.map_eq_some_iff.1 hr
    obtain ⟨a1, a2, a3, a4, d, a5, a6, a7⟩ := h.at_ i q hq
    have ho : ofId k q = (decide (d % 4 = k) && !G (d % 4)) := by
      unfold ofId
      rw [a3, a6, a7]
      simp only [Bool.not_false, Bool.and_true, Int.natCast_inj]
    rw [ho] at hqr
    rw [← hqr]
    by_cases hd : d % 4 = k
    · cases hg : G (d % 4) with
      | true =>
        rw [if_neg (by simp)]
        exact ⟨a1, a2, a3, a4, d, a5, a6, by rw [a7, hg]; simp [← hd]⟩
      | false =>
        rw [if_pos (by simp [hd])]
        exact ⟨a1, a2, a3, a4, d, a5, a6, by simp [setGone, hd]⟩
    · rw [if_neg (by simp [hd])]
      exact ⟨a1, a2, a3, a4, d, a5, a6, by rw [a7]; simp [hd]⟩
  · unfold abandonN cntB
    have e : s.L.map (ofId k) = ids.map (fun d => decide (d % 4 = k) && !G (d % 4)) := pw_map (by simpa using h.len) (fun i q hq => by
      obtain ⟨a1, a2, a3, a4, d, a5, a6, a7⟩ := h.at_ i q hq
      rw [List.getElem?_map, a5]
      unfold ofId
      rw [a3, a6, a7]
      simp only [Bool.not_false, Bool.and_true, Int.natCast_inj, Option.map_some])
    have cnt : ∀ {α : Type} (p : α → Bool) (l : List α), (l.filter p).length = ((l.map p).filter id).length := fun p l => by
      rw [List.filter_map, List.length_map]
      rfl
    rw [cnt, e, ← cnt (fun d => decide (d % 4 = k) && !G (d % 4)) ids]
    cases hg : G k with
    | true =>
      rw [if_pos rfl, List.length_eq_zero_iff, List.filter_eq_nil_iff]
      intro d _
      simp
      intro h1
      rw [h1]
      exact hg
    | false =>
      rw [if_neg (by simp)]
      congr 1
      refine List.filter_congr (fun d _ => ?_)
      by_cases hd : d % 4 = k
      · simp [hd, hg]
      · simp [hd]
theorem tw_map {α β : Type} (f : α → β) (p : β → Bool) : ∀ l : List α, ((l.map f).takeWhile p).length = (l.takeWhile (fun a => p (f a))).length
  | [] => rfl
  | a :: l => by
    rw [List.map_cons]
    cases h : p (f a) with
    | true => rw [List.takeWhile_cons_of_pos h, List.takeWhile_cons_of_pos (p := fun a => p (f a)) h, List.length_cons, List.length_cons, tw_map f p l]
    | false => rw [List.takeWhile_cons_of_neg (by simp [h]), List.takeWhile_cons_of_neg (p := fun a => p (f a)) (by simp [h])]; rfl
theorem InvP.end_ {s : S} {ids : List Nat} {G : Nat → Bool} (h : InvP s ids G) : (ptL s.L).length = (ids.takeWhile (fun d => G (d % 4))).length ∧ Flt.out s 0 = (ids.filter (fun d => !G (d % 4))).length ∧ lostL s = [] ∧
    ∀ (i : Nat) d, (ptL s.L)[i]? = some d → d.tsn = Spn.u32 (s.c + 1 + i) ∧ d.stream = i ∧ d.bs.length = 1 := by
  have e : s.L.map (·.gone) = ids.map (fun d => G (d % 4)) := pw_map (by simpa using h.len) (fun i q hq => by
    obtain ⟨a1, a2, a3, a4, d, a5, a6, a7⟩ := h.at_ i q hq
    rw [List.getElem?_map, a5, a7]
    rfl)
  have hp0 : ∀ (i : Nat) q, s.L[i]? = some q → q.path = 0 := fun i q hq => by
    have := h.good.path i q hq
    have := h.paths
    omega
  have ek : s.L.map (kg (byP 0)) = ids.map (fun d => (!G (d % 4), 1)) := pw_map (by simpa using h.len) (fun i q hq => by
    obtain ⟨a1, a2, a3, a4, d, a5, a6, a7⟩ := h.at_ i q hq
    rw [List.getElem?_map, a5]
    simp [kg, byP, away, hp0 i q hq, a2, a3, a4, a7])
  refine ⟨?_, ?_, ?_, fun i d hd => ?_⟩
  · unfold ptL
    rw [List.length_map]
    have h1 := tw_map (fun r : Rc => r.gone) id s.L
    rw [e, tw_map (fun d => G (d % 4)) id ids] at h1
    exact h1.symm
  · have k : ∀ l : List Rc, sumB (byP 0) l = (((l.map (kg (byP 0))).filter (·.1)).map (·.2)).sum := fun l => by
      unfold sumB
      rw [List.filter_map, List.map_map]
      rfl
    unfold Flt.out
    rw [k, ek]
    generalize ids = ids
    induction ids with
    | nil => rfl
    | cons a l ih =>
      cases hg : G (a % 4) with
      | true => simp [hg] at ih ⊢; omega
      | false => simp [hg] at ih ⊢; omega
  · unfold lostL
    rw [List.map_eq_nil_iff, List.filter_eq_nil_iff]
    intro r hr
    obtain ⟨i, hi⟩ := List.getElem?_of_mem hr
    obtain ⟨a1, a2, a3, a4, _⟩ := h.at_ i r hi
    simp [openR, a4]
  · unfold ptL at hd
    rw [List.getElem?_map] at hd
    obtain ⟨r, hr, rfl⟩ := Option.map_eq_some_iff.1 hd
    have hr2 : s.L[i]? = some r := by
      have hp := List.takeWhile_prefix (fun r : Rc => r.gone) (l := s.L)
      obtain ⟨t, ht⟩ := hp
      rw [← ht, List.getElem?_append_left (List.getElem?_eq_some_iff.1 hr).1]
      exact hr
    obtain ⟨a1, a2, _⟩ := h.at_ i r hr2
    exact ⟨h.good.tsn i r hr2, a1, a2⟩
end Go.Flt
