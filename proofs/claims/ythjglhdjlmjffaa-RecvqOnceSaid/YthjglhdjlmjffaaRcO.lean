/- Messages of one piece each, on two streams, in plain Lean: what is held behind which of them, and what is told of those that come again. Conditions: at most 40 of them. -/
import Derived.Test.YthjglhdjlmjffaaRcQ
import Derived.Test.YthjglhdjlmjffaaRvV
namespace Go.Rcv
open Go Spn Rm

section
variable (first : Int) (n : Nat) (un : Nat → Bool)
/-- so many ordered ones of a stream are ahead -/
def cntO (t k : Nat) : Nat := ((List.range k).filter (fun q => decide (q % 2 = t) && !un q)).length
theorem cntO_succ (t k : Nat) : cntO un t (k + 1) = cntO un t k + if k % 2 = t ∧ un k = false then 1 else 0 := by
  unfold cntO
  rw [List.range_succ, List.filter_append, List.length_append]
  congr 1
  by_cases h : k % 2 = t ∧ un k = false
  · rw [if_pos h]; simp [h.1, h.2]
  · rw [if_neg h]
    have : (decide (k % 2 = t) && !un k) = false := by
      cases h1 : decide (k % 2 = t) with
      | false => rfl
      | true =>
        cases h2 : un k with
        | true => rfl
        | false => exact absurd ⟨of_decide_eq_true h1, h2⟩ h
    simp [this]
theorem cntO_le (t k : Nat) : cntO un t k ≤ k := by unfold cntO; refine Nat.le_trans (List.length_filter_le _ _) ?_; simp
theorem cntO_mono (t : Nat) {a b : Nat} (h : a ≤ b) : cntO un t a ≤ cntO un t b := by
  induction h with
  | refl => exact Nat.le_refl _
  | step _ ih => rw [cntO_succ]; omega
theorem cntO_rk (t : Nat) : ∀ (k r : Nat), r < cntO un t k → ∃ q, q < k ∧ un q = false ∧ q % 2 = t ∧ cntO un t q = r
  | 0, r, h => by simp [cntO] at h
  | k + 1, r, h => by
    rw [cntO_succ] at h
    by_cases hr : r < cntO un t k
    · obtain ⟨q, h1, h2, h3, h4⟩ := cntO_rk t k r hr
      exact ⟨q, by omega, h2, h3, h4⟩
    · by_cases hc : k % 2 = t ∧ un k = false
      · rw [if_pos hc] at h
        exact ⟨k, by omega, hc.2, hc.1, by omega⟩
      · rw [if_neg hc] at h; omega
def onceD (i : Nat) : D := ⟨Rm.u32 (first + Rm.u32 ((i : Nat) : Int)), ((i % 2 : Nat) : Int), if un i then 0 else (cntO un (i % 2) i : Int), un i, true, true, [UInt8.ofNat i]⟩
def onceP : Pcs where
  N := n
  M := n
  first := first
  d := onceD first un
  own := id
  lo := id
  hi := id
  st := fun i => i % 2
  un := un
  rk := fun i => cntO un (i % 2) i
theorem onceP_ok (hn : n ≤ 40) : (onceP first n un).Ok where
  n := by show n ≤ 1000; omega
  m := by show n ≤ 1000; omega
  own := fun i hi => ⟨hi, Nat.le_refl _, Nat.le_refl _⟩
  uniq := fun i m _ h1 h2 => Nat.le_antisymm h2 h1
  hi := fun m hm => ⟨Nat.le_refl _, hm⟩
  tsn := fun i _ => by show Rm.u32 (first + Rm.u32 ((i : Nat) : Int)) = Rm.u32 (first + i); simp only [Rm.u32_eq]; omega
  fi := fun i _ => by show true = decide (i = i); simp
  la := fun i _ => by show true = decide (i = i); simp
  stream := fun _ _ => rfl
  un := fun _ _ => rfl
  ssn := fun _ _ => rfl
  bytes := fun _ _ => by show ¬ [_] = []; simp
  st := fun m _ => by show m % 2 < 2; omega
  rkb := fun m _ => cntO_le un _ _
  rkm := fun m q hmq _ hm hq hs => by
    show cntO un (m % 2) m < cntO un (q % 2) q
    have hs' : m % 2 = q % 2 := hs
    have h1 := cntO_succ un (m % 2) m
    rw [if_pos ⟨rfl, hm⟩] at h1
    have h2 := cntO_mono un (m % 2) (a := m + 1) (b := q) hmq
    rw [← hs']
    omega
  rkn := fun m _ _ r hr => by
    obtain ⟨q, h1, h2, h3, h4⟩ := cntO_rk un (m % 2) m r hr
    exact ⟨q, h1, h2, h3, by show cntO un (q % 2) q = r; rw [h3]; exact h4⟩
theorem once_msg (m : Nat) : (onceP first n un).msg m = ⟨((m % 2 : Nat) : Int), !un m, [UInt8.ofNat m]⟩ := by
  unfold Pcs.msg onceP
  dsimp only [id]
  rw [show m + 1 - m = 1 by omega]
  rfl
end
theorem nextF_from {A : List Bool} {c : Nat} (h : ∀ q, q < c → A.getD q false = true) : nextF A c = nextF A 0 := by
  have h1 := nextF_le A c
  rcases Nat.lt_trichotomy (nextF A c) (nextF A 0) with hlt | he | hgt
  · have := nextF_in (A := A) (c := 0) (q := nextF A c) (Nat.zero_le _) hlt
    rw [nextF_stop] at this; cases this
  · exact he
  · have h2 := nextF_stop A 0
    rcases Nat.lt_or_ge (nextF A 0) c with h3 | h3
    · rw [h _ h3] at h2; cases h2
    · rw [nextF_in h3 hgt] at h2; cases h2
theorem nextF_ge {A : List Bool} {j : Nat} (h : A.getD j false = false) : nextF A 0 ≤ j := by
  rcases Nat.lt_or_ge j (nextF A 0) with h1 | h1
  · rw [nextF_in (Nat.zero_le _) h1] at h; cases h
  · exact h1
/-- the receiver behind some of them -/
structure OnceS (first : Int) (n : Nat) (un : Nat → Bool) (X : Nat → Bool) (R : List Nat) (K : Nat → Nat) (A : List Bool) (s : S) : Prop where
  inv : (onceP first n un).Inv X R K s.w
  u : (onceP first n un).satU X R
  o : ∀ t, t < 2 → (onceP first n un).satO X K t
  row : s.w.row = R.map (onceP first n un).msg
  len : A.length = 300
  at_ : ∀ i, A.getD i false = (decide (i < n) && X i)
  m : s.m = setOf first A (nextF A 0)
  room : s.room = 4128
theorem once_begin (first : Int) (n : Nat) (un : Nat → Bool) (hn : n ≤ 40) : OnceS first n un (fun _ => false) [] (fun _ => 0) (List.replicate 300 false) (soonS first (List.replicate 300 false) 0 [] 0 0) := by
  have hok := onceP_ok first n un hn
  obtain ⟨h1, h2, h3⟩ := Pcs.Inv.empty hok
  have hrep : ∀ i, (List.replicate 300 false).getD i false = false := fun i => by
    cases h : (List.replicate 300 false).getD i false with
    | false => rfl
    | true =>
      have hlt := getD_lt h
      rw [List.length_replicate] at hlt
      rw [List.getD_eq_getElem?_getD, List.getElem?_replicate, if_pos hlt] at h
      cases h
  exact ⟨h1, h2, h3, rfl, List.length_replicate, fun i => by rw [hrep, Bool.and_false], by rw [nextF_same (hrep 0)]; rfl, rfl⟩
/-- one of them comes for the first time -/
theorem once_step {first : Int} {n : Nat} {un : Nat → Bool} (hn : n ≤ 40) {X : Nat → Bool} {R : List Nat} {K : Nat → Nat} {A : List Bool} {s : S} (h : OnceS first n un X R K A s) (hh : Rcv.held s ≤ 1000) {j : Nat} (hj : j < n) (hX : X j = false) :
    dataA s (onceD first un j) = (true, 0) ∧ Rcv.held (data s (onceD first un j)) = Rcv.held s + 1 ∧ ∃ R2 K', OnceS first n un (fun i => decide (i = j) || X i) (R ++ R2) K' (A.set j true) (data s (onceD first un j)) := by
  have hok := onceP_ok first n un hn
  obtain ⟨hE, R2, K', hI, hU, hO, hrow⟩ := h.inv.put hok h.u h.o (j := j) hj hX
  have hAj : A.getD j false = false := by rw [h.at_, hX, Bool.and_false]
  have hge := nextF_ge hAj
  have hc : nextF A 0 + (j - nextF A 0) = j := by omega
  have hlen := h.len
  have ht : (onceD first un j).tsn = Spn.u32 (first + Spn.u32 ((nextF A 0 + (j - nextF A 0) : Nat) : Int)) := by rw [hc]; rfl
  have hl : Spn.look s.m (onceD first un j).tsn = 0 := by
    rw [h.m, ht, look_set first (nextF A 0) (j - nextF A 0) (by omega), hc, hAj]; rfl
  have htk : takeS s.m (onceD first un j).tsn = setOf first (A.set j true) (nextF (A.set j true) 0) := by
    rw [h.m, ht, take_set first (by omega) (nextF A 0) (j - nextF A 0) (by omega) (by omega) (by rw [hc]; exact hAj), hc]
    rw [nextF_from (c := nextF A 0) (fun q hq => ?_)]
    have h1 := nextF_in (A := A) (c := 0) (q := q) (Nat.zero_le _) hq
    rw [List.getD_eq_getElem?_getD, List.getElem?_set_ne (by omega), ← List.getD_eq_getElem?_getD]
    exact h1
  have hb : ¬ (onceD first un j).bytes = [] := by unfold onceD; simp
  have hfu : full s (onceD first un j) = false := by
    unfold full
    refine decide_eq_false ?_
    rw [h.room]
    show ¬ ((Rcv.held s : Int) + (1 : Nat) > 4128)
    omega
  have hd : data s (onceD first un j) = { s with m := setOf first (A.set j true) (nextF (A.set j true) 0), w := Rm.put s.w (onceD first un j), came := true, urg := s.urg || holes s.m || holes (setOf first (A.set j true) (nextF (A.set j true) 0)) } := by
    unfold data
    rw [if_neg hb, if_neg (by rw [hl]; decide), if_neg (by rw [hl]; decide), if_neg (by rw [hfu]; decide), htk]
  have hA : dataA s (onceD first un j) = (true, 0) := by
    unfold dataA
    rw [if_neg hb, if_neg (by rw [hl]; decide), if_neg (by rw [hfu]; decide)]
    exact Prod.ext rfl hE
  refine ⟨hA, ?_, R2, K', ?_⟩
  · have hd2 := (data_held (s := s) (p := onceD first un j) h.inv.good ⟨by unfold onceD; dsimp only; rw [Rm.u32_eq]; omega, by unfold onceD; dsimp only; rw [Rm.u32_eq]; omega⟩ ?_).1
    · rw [hd2, hA, if_pos rfl]
      rfl
    · have hll : s.w.L.length ≤ n := by
        have h1 : (s.w.L.map (·.tsn)).length ≤ ((List.range n).map (fun i => (onceD first un i).tsn)).length := by
          refine length_le_of_nodup _ _ h.inv.good.keys (fun a ha => ?_)
          obtain ⟨e, he, rfl⟩ := List.mem_map.1 ha
          obtain ⟨i, hi, _, _, rfl⟩ := (h.inv.mem e).1 he
          exact List.mem_map.2 ⟨i, List.mem_range.2 hi, rfl⟩
        simpa using h1
      omega
  · rw [hd]
    refine ⟨hI, hU, hO, ?_, by rw [List.length_set]; exact hlen, fun i => ?_, rfl, h.room⟩
    · show (Rm.put s.w (onceD first un j)).row = _
      rw [show onceD first un j = (onceP first n un).d j from rfl, hrow, h.row, List.map_append]
    · by_cases hi : i = j
      · subst hi
        have : i < A.length := by omega
        simp [List.getD_eq_getElem?_getD, this, hj]
      · rw [List.getD_eq_getElem?_getD, List.getElem?_set_ne (by omega), ← List.getD_eq_getElem?_getD, h.at_]
        simp [hi]
/-- one of them comes again, when all came -/
theorem once_again {first : Int} {n : Nat} {un : Nat → Bool} {X : Nat → Bool} {R : List Nat} {K : Nat → Nat} {A : List Bool} {s : S} (hn : n ≤ 40) (h : OnceS first n un X R K A s) (hX : ∀ i, i < n → X i = true) {j : Nat} (hj : j < n) :
    dataA s (onceD first un j) = (false, 0) ∧ Rcv.held (data s (onceD first un j)) = Rcv.held s ∧ OnceS first n un X R K A (data s (onceD first un j)) := by
  have hnx : nextF A 0 = n := by
    have h1 : A.getD n false = false := by rw [h.at_, show decide (n < n) = false by simp, Bool.false_and]
    have h2 := nextF_ge h1
    rcases Nat.lt_or_ge (nextF A 0) n with h3 | h3
    · have h4 := nextF_stop A 0
      rw [h.at_, hX _ h3, show decide (nextF A 0 < n) = true from decide_eq_true h3] at h4
      cases h4
    · omega
  have hl : Spn.look s.m (onceD first un j).tsn = 1 := by
    rw [h.m, hnx]
    unfold Spn.look setOf onceD
    dsimp only
    have hfar : far (Spn.u32 (first + (n : Nat) - 1)) (Rm.u32 (first + Rm.u32 ((j : Nat) : Int))) = if j + 1 = n then 0 else 4294967296 - (n - 1 - j) := by
      unfold far
      rw [show Rm.u32 (first + Rm.u32 ((j : Nat) : Int)) = Spn.u32 (first + Spn.u32 ((j : Nat) : Int)) from rfl]
      simp only [Spn.u32_eq]
      split <;> omega
    rw [hfar]
    have hw : inW (if j + 1 = n then 0 else 4294967296 - (n - 1 - j)) = false := by
      cases hq : inW (if j + 1 = n then 0 else 4294967296 - (n - 1 - j)) with
      | false => rfl
      | true =>
        have := inW_iff.1 hq
        split at this <;> omega
    rw [hw, if_neg (by simp), if_neg (by split <;> omega)]
  have hb : ¬ (onceD first un j).bytes = [] := by unfold onceD; simp
  have hd : data s (onceD first un j) = { s with ds := takeD s.m s.ds (onceD first un j).tsn, came := true, urg := true } := by
    unfold data
    rw [if_neg hb, if_pos hl]
  refine ⟨?_, by rw [hd]; rfl, by rw [hd]; exact ⟨h.inv, h.u, h.o, h.row, h.len, h.at_, h.m, h.room⟩⟩
  unfold dataA
  rw [if_neg hb, if_pos (.inl hl)]
theorem once_fin {first : Int} {n : Nat} {un : Nat → Bool} {X : Nat → Bool} {R : List Nat} {K : Nat → Nat} {A : List Bool} {s : S} (h : OnceS first n un X R K A s) (now : Int) : OnceS first n un X R K A (fin s now) := ⟨h.inv, h.u, h.o, h.row, h.len, h.at_, h.m, h.room⟩
theorem once_sack {first : Int} {n : Nat} {un : Nat → Bool} {X : Nat → Bool} {R : List Nat} {K : Nat → Nat} {A : List Bool} {s : S} (h : OnceS first n un X R K A s) : OnceS first n un X R K A (sack s) := ⟨h.inv, h.u, h.o, h.row, h.len, h.at_, h.m, h.room⟩
end Go.Rcv
