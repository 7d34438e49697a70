/- A flight of pieces: marking, and sending again what is lost; acknowledgements of one piece alone: in plain Lean. No conditions: laws. -/
import Derived.Test.YtglobldnockdoaaFlU
namespace Go.Flt
open Go

theorem mark_lost (s : S) (p : Int) : (lostL (mark s p)).length = (lostL s).length + markN s p := by
  unfold lostL mark markN cntB sel
  dsimp only
  simp only [List.length_map]
  generalize s.L = L
  induction L with
  | nil => rfl
  | cons r L ih =>
    rw [List.map_cons]
    by_cases hb : byP p r = true
    · have ha : away r = true := by unfold byP at hb; simp at hb; exact hb.2
      have h1 : openR r = false := by unfold away at ha; unfold openR; simp at ha; simp [ha]
      have h2 : openR (setLost r) = true := by unfold away at ha; unfold openR setLost; simp at ha; simp [ha]
      rw [if_pos hb, List.filter_cons_of_pos h2, List.filter_cons_of_neg (by simp [h1]), List.filter_cons_of_pos hb, List.length_cons, List.length_cons, ih]
      omega
    · rw [if_neg hb, List.filter_cons_of_neg hb]
      cases h1 : openR r with
      | true => rw [List.filter_cons_of_pos h1, List.filter_cons_of_pos h1, List.length_cons, List.length_cons, ih]; omega
      | false => rw [List.filter_cons_of_neg (by simp [h1]), List.filter_cons_of_neg (by simp [h1]), ih]
theorem mark_out (s : S) (p q : Int) : out (mark s p) q = if q = p then 0 else out s q := by
  unfold out mark sel
  dsimp only
  generalize s.L = L
  induction L with
  | nil => simp [sumB]
  | cons r L ih =>
    have e1 : (r :: L).map (fun r => if byP p r then setLost r else r) = [if byP p r then setLost r else r] ++ L.map (fun r => if byP p r then setLost r else r) := rfl
    have e2 : r :: L = [r] ++ L := rfl
    rw [e1, sumB_append, ih, e2, sumB_append]
    have : sumB (byP q) [if byP p r then setLost r else r] = if q = p then 0 else sumB (byP q) [r] := by
      unfold sumB
      by_cases hb : byP p r = true
      · have hq : byP q (setLost r) = false := by simp [byP, away, setLost]
        rw [if_pos hb]
        by_cases hqp : q = p
        · subst hqp
          simp [hq]
        · have hr : byP q r = false := by
            unfold byP at hb ⊢
            simp at hb ⊢
            intro h
            exact absurd (h.symm.trans hb.1) hqp
          simp [hq, hr, hqp]
      · rw [if_neg hb]
        by_cases hqp : q = p
        · subst hqp; simp [hb]
        · simp [hqp]
    rw [this]
    split <;> omega
/-- the first that is lost -/
theorem lost_first {s : S} (h : Good s) {t : Int} {rest : List Int} (hl : lostL s = t :: rest) : ∃ (i : Nat) (r : Rc), atI s.c s.L.length t = some i ∧ s.L[i]? = some r ∧ openR r = true ∧ (∀ j < i, ∀ q, s.L[j]? = some q → openR q = false) ∧ ((s.L.drop (i + 1)).filter openR).map (·.tsn) = rest := by
  unfold lostL at hl
  obtain ⟨r, as, h1, h2, h3⟩ := List.map_eq_cons_iff.1 hl
  obtain ⟨A, C, hL, hA, hr, hC⟩ := List.filter_eq_cons_iff.1 h1
  have hi : s.L[A.length]? = some r := by rw [hL]; simp
  refine ⟨A.length, r, ?_, hi, hr, fun j hj q hq => ?_, ?_⟩
  · have ht := h.tsn _ _ hi
    have hf := Spn.far_int s.c t
    have hlen : s.L.length = A.length + (C.length + 1) := by rw [hL]; simp
    have := h.few
    have := h.c
    have e : Spn.far s.c t = A.length + 1 := by
      rw [← h2, ht] at hf
      rw [← h2, ht]
      simp only [Spn.u32_eq] at hf ⊢
      omega
    unfold atI
    rw [e, if_pos (by omega)]
    rfl
  · rw [hL, List.getElem?_append_left hj] at hq
    have := hA q (List.mem_of_getElem? hq)
    simpa using this
  · rw [hL, List.drop_append, List.drop_of_length_le (by omega)]
    simp [hC, h3]
theorem again_first {s : S} (h : Good s) {t : Int} {rest : List Int} (hl : lostL s = t :: rest) {p : Int} (hp : 0 ≤ p ∧ p < s.paths) (now : Int) : ∃ (r : Rc) (s' : S), getD s t = some (r.d, r.path) ∧ r.bs ≠ [] ∧ again s t p now = (s', 0) ∧ Good s' ∧ lostL s' = rest ∧ (∃ d, getD s' t = some (d, p)) ∧ again s' t p now = (s', 11) ∧ s'.paths = s.paths := by
  obtain ⟨i, r, hat, hr, ho, hlo, hrest⟩ := lost_first h hl
  have hi := (List.getElem?_eq_some_iff.1 hr).1
  have hag : again s t p now = ({ s with L := s.L.set i (setAgain p now r) }, 0) := by
    unfold again
    rw [if_neg (by omega), hat]
    dsimp only
    rw [hr]
    dsimp only
    rw [if_pos ho]
  have hget : (s.L.set i (setAgain p now r))[i]? = some (setAgain p now r) := List.getElem?_set_self hi
  refine ⟨r, _, ?_, h.bs i r hr, hag, ?_, ?_, ⟨(setAgain p now r).d, ?_⟩, ?_, rfl⟩
  · unfold getD
    rw [hat]
    dsimp only
    rw [hr]
    rfl
  · have := h.again t p now
    rw [hag] at this
    exact this
  · unfold lostL
    dsimp only
    rw [List.set_eq_take_append_cons_drop, if_pos hi, List.filter_append, List.filter_cons_of_neg (by simp [openR, setAgain])]
    have : (s.L.take i).filter openR = [] := by
      rw [List.filter_eq_nil_iff]
      intro q hq
      obtain ⟨j, hj⟩ := List.getElem?_of_mem hq
      rw [List.getElem?_take] at hj
      split at hj
      · rename_i hji
        rw [hlo j hji q hj]
        simp
      · cases hj
    rw [this]
    exact hrest
  · unfold getD
    dsimp only
    rw [List.length_set, hat]
    dsimp only
    rw [hget]
    rfl
  · unfold again
    dsimp only
    rw [if_neg (by omega), List.length_set, hat]
    dsimp only
    rw [hget]
    dsimp only
    rw [if_neg (by simp [openR, setAgain])]

/-! ### an acknowledgement of one piece alone -/
theorem far_self (c : Int) : Spn.far c c = 0 := by unfold Spn.far; rw [Spn.u32_eq]; simp
theorem spanOne (s : S) {k : Nat} (h1 : 1 ≤ k) (hk : k < s.L.length) : span s s.c [(k + 1, k + 1)] = some [(0, 0), (k, k + 1)] := by
  unfold span
  rw [if_neg (by simp), far_self]
  have : okG s.L.length 0 0 [(k + 1, k + 1)] = true := by
    unfold okG okG
    simp
    omega
  rw [if_pos this]
  simp [spL]
/-- the records behind it, and what it tells -/
def oneK (s : S) (k : Nat) : AK := ack1 (lowQ s.L) ⟨s.L, Tld.zero, ⟨-1, -1, -1, -1⟩⟩ k
def oneX (s : S) (k : Nat) : List Rc × Tld := missAll (oneK s k).high ((oneK s k).L, (oneK s k).t)
theorem sackOne (s : S) {k : Nat} (h1 : 1 ≤ k) (hk : k < s.L.length) : ∃ t, sack s s.c [(k + 1, k + 1)] = some ({ s with L := (oneX s k).1 }, t) := by
  unfold sack
  rw [spanOne s h1 hk, far_self]
  have : ackAll (lowQ s.L) ⟨s.L, Tld.zero, ⟨-1, -1, -1, -1⟩⟩ [(0, 0), (k, k + 1)] = oneK s k := by
    show ackR _ (ackR _ _ 0 (0 - 0)) k (k + 1 - k) = _
    rw [show k + 1 - k = 0 + 1 by omega, ackR_succ]
    rfl
  dsimp only
  rw [this]
  exact ⟨_, rfl⟩
/-- the record at a place, behind so many steps of the counting of misses -/
theorem miss_get (high : Q4 Int) (x : List Rc × Tld) : ∀ (n i : Nat), ((List.range n).foldl (miss1 high) x).1[i]? = (x.1[i]?).map (fun r => if i < n ∧ missB high i r = true then missR r else r)
  | 0, i => by simp
  | n + 1, i => by
    rw [miss_snoc]
    have ih := miss_get high x n
    generalize List.foldl (miss1 high) x (List.range n) = z at ih ⊢
    unfold miss1
    cases hz : z.1[n]? with
    | none =>
      dsimp only
      rw [ih i]
      by_cases hin : i = n
      · subst hin
        rw [ih i] at hz
        have : x.1[i]? = none := by simpa using hz
        rw [this]
        rfl
      · refine congrArg (fun f => Option.map f _) (funext fun r => ?_)
        have : (i < n ∧ missB high i r = true) = (i < n + 1 ∧ missB high i r = true) := by
          simp only [eq_iff_iff]
          refine and_congr_left fun _ => ?_
          omega
        simp only [this]
    | some r =>
      dsimp only
      have hx : x.1[n]? = some r := by
        rw [ih n] at hz
        cases hxn : x.1[n]? with
        | none => simp [hxn] at hz
        | some q => simp [hxn] at hz; rw [hz]
      by_cases hin : i = n
      · subst hin
        by_cases hm : missB high i r = true
        · rw [if_pos hm]
          dsimp only
          rw [List.getElem?_set_self (List.getElem?_eq_some_iff.1 hz).1, hx]
          simp [hm]
        · rw [if_neg hm, ih i, hx]
          simp [hm]
      · have e : ∀ l : List Rc × Tld, l = (if missB high n r = true then (z.1.set n (missR r), if 3 ≤ i64 (r.miss + 1) then z.2.upd r.path fastP else z.2) else z) → l.1[i]? = z.1[i]? := fun l hl => by
          rw [hl]
          split
          · dsimp only; rw [List.getElem?_set_ne (fun h => hin h.symm)]
          · rfl
        rw [e _ rfl, ih i]
        refine congrArg (fun f => Option.map f _) (funext fun r => ?_)
        have : (i < n ∧ missB high i r = true) = (i < n + 1 ∧ missB high i r = true) := by
          simp only [eq_iff_iff]
          refine and_congr_left fun _ => ?_
          omega
        simp only [this]
theorem oneX_get (s : S) (k i : Nat) : (oneX s k).1[i]? = ((oneK s k).L[i]?).map (fun r => if missB (oneK s k).high i r = true then missR r else r) := by
  unfold oneX missAll
  rw [miss_get]
  dsimp only
  cases h : (oneK s k).L[i]? with
  | none => rfl
  | some r =>
    have := (List.getElem?_eq_some_iff.1 h).1
    simp [this]
/-- if it was acknowledged already nothing is turned -/
theorem oneX_old (s : S) {k : Nat} {r : Rc} (hr : s.L[k]? = some r) (ha : r.acked = true) (i : Nat) : (oneX s k).1[i]? = s.L[i]? := by
  have e : oneK s k = ⟨s.L, Tld.zero, ⟨-1, -1, -1, -1⟩⟩ := by
    unfold oneK ack1
    dsimp only
    rw [hr]
    dsimp only
    rw [if_pos ha]
  rw [oneX_get, e]
  have : ∀ r, missB ⟨-1, -1, -1, -1⟩ i r = false := fun r => by
    unfold missB Q4.get
    have : ¬ ((i : Int) < -1) := by omega
    simp [this]
  simp [this]
theorem oneX_new (s : S) {k : Nat} {r : Rc} (hr : s.L[k]? = some r) (ha : r.acked = false) (i : Nat) : (oneX s k).1[i]? = ((s.L.set k (setAck r))[i]?).map (fun q => if missB ((⟨-1, -1, -1, -1⟩ : Q4 Int).set r.path k) i q = true then missR q else q) := by
  have e : oneK s k = ⟨s.L.set k (setAck r), Tld.zero.upd r.path (takeP r (decide ((lowQ s.L).get r.path = some k))), (⟨-1, -1, -1, -1⟩ : Q4 Int).set r.path k⟩ := by
    unfold oneK ack1
    dsimp only
    rw [hr]
    dsimp only
    rw [if_neg (by simp [ha])]
  rw [oneX_get, e]
theorem oneX_k (s : S) (k : Nat) : (oneX s k).1.map Rc.k = s.L.map Rc.k := by
  unfold oneX missAll
  rw [missF_k]
  exact ack1_k _ _ _
end Go.Flt
