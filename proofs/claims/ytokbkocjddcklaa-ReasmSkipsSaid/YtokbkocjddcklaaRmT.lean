/- The reassembler in plain Lean, fourth part: messages of one piece on one stream, of which some come and the others are skipped. Condition: at most 60 of them. -/
import Derived.Test.YtokbkocjddcklaaRmQ
namespace Go.Rm
open Go

def seg (a b : Nat) : List Nat := List.range' a (b - a)
theorem seg_cons {a b : Nat} (h : a < b) : seg a b = a :: seg (a + 1) b := by
  unfold seg
  rw [show b - a = (b - (a + 1)) + 1 by omega, List.range'_succ]
theorem seg_snoc {a b : Nat} (h : a ≤ b) : seg a (b + 1) = seg a b ++ [b] := by
  unfold seg
  rw [show b + 1 - a = (b - a) + 1 by omega, List.range'_concat]
  congr 2
  omega
theorem seg_nil {a b : Nat} (h : b ≤ a) : seg a b = [] := by unfold seg; rw [show b - a = 0 by omega]; rfl
theorem mem_seg {a b i : Nat} : i ∈ seg a b ↔ a ≤ i ∧ i < b := by unfold seg; rw [List.mem_range'_1]; omega

section
variable (first : Int) (c : Nat → Bool)
def pcI (i : Nat) : D := ⟨u32 (first + i), 0, i, false, true, true, [UInt8.ofNat i]⟩
def mgI (i : Nat) : Mg := ⟨0, true, [UInt8.ofNat i]⟩
/-- those from x on that came, up to k, are there; those ahead of x are ready -/
def stI (k x : Nat) : S := ⟨((seg x k).filter c).map (pcI first), ((seg 0 x).filter c).map mgI, [(x : Int)]⟩

theorem whole_one {L : List D} {i : Nat} : whole L (pcI first i) = some (u32 (first + i), u32 (first + i)) := by
  unfold whole
  rw [back]
  simp only [pcI, if_true]
  rw [forth]
  simp
theorem isC_one {L : List D} {x i : Nat} : isC L 0 x (pcI first i) = if i = x then some (u32 (first + i), u32 (first + i)) else none := by
  unfold isC
  by_cases h : i = x
  · subst h; rw [if_pos (by simp [pcI]), if_pos rfl, whole_one]
  · rw [if_neg (by simp [pcI]; omega), if_neg h]
theorem cand_none {L : List Nat} {M : List D} {x : Nat} (h : ∀ i ∈ L, i ≠ x) : (L.map (pcI first)).findSome? (isC M 0 x) = none := by
  rw [List.findSome?_eq_none_iff]
  intro d hd
  obtain ⟨i, hi, rfl⟩ := List.mem_map.1 hd
  rw [isC_one, if_neg (h i hi)]
theorem stI_go {k x : Nat} (hx : x < k) (hc : c x = true) : (stI first c k x).L = pcI first x :: (stI first c k (x + 1)).L := by
  dsimp only [stI]
  rw [seg_cons hx, List.filter_cons_of_pos hc]
  rfl
theorem stI_pass {k x : Nat} (hx : x < k) (hc : c x = false) : (stI first c k x).L = (stI first c k (x + 1)).L ∧ (stI first c k x).row = (stI first c k (x + 1)).row := by
  dsimp only [stI]
  rw [seg_cons hx, List.filter_cons_of_neg (by simp [hc]), seg_snoc (Nat.zero_le x), List.filter_append, List.filter_cons_of_neg (by simp [hc])]
  simp
theorem stI_cand {k x : Nat} (_ : x ≤ k) : cand (stI first c k x).L 0 x = if x < k ∧ c x = true then some (u32 (first + x), u32 (first + x)) else none := by
  by_cases h : x < k ∧ c x = true
  · rw [if_pos h]
    unfold cand
    rw [stI_go first c h.1 h.2, List.findSome?_cons, isC_one, if_pos rfl]
  · rw [if_neg h]
    refine cand_none first (fun i hi he => ?_)
    subst he
    have := List.mem_filter.1 hi
    exact h ⟨(mem_seg.1 this.1).2, this.2⟩
theorem stI_ready {k x : Nat} (hx : x < k) (hc : c x = true) : ready (stI first c k x).L (stI first c k x).row (u32 (first + x)) (u32 (first + x)) = ((stI first c k (x + 1)).L, (stI first c k (x + 1)).row) := by
  unfold ready
  have h0 : (u32 (u32 (first + x) - u32 (first + x))).toNat = 0 := by simp only [u32_eq]; omega
  have hat : at? (stI first c k x).L (u32 (first + x)) = some (pcI first x) := by
    rw [stI_go first c hx hc]; unfold at?; rw [List.find?_cons_of_pos (by simp [pcI])]
  have her : (stI first c k x).L.eraseP (fun d => u32 (first + x) == d.tsn) = (stI first c k (x + 1)).L := by
    rw [stI_go first c hx hc, List.eraseP_cons_of_pos (by simp [pcI])]
  rw [h0, hat, gath, if_pos (by simp), hat, her]
  dsimp only [stI]
  rw [seg_snoc (Nat.zero_le x), List.filter_append, List.filter_cons_of_pos hc, List.map_append]
  rfl
theorem u16_small {x : Nat} (h : x < 65535) : u16 ((x : Int) + 1) = ((x + 1 : Nat) : Int) := by simp only [u16_eq]; omega
/-- so far the next number goes on by itself -/
def advI (k : Nat) : Nat → Nat → Nat
  | 0, x => x
  | n + 1, x => if x < k ∧ c x = true then advI k n (x + 1) else x
theorem advI_le {k : Nat} : ∀ (n x : Nat), x ≤ k → x ≤ advI c k n x ∧ advI c k n x ≤ k
  | 0, x, h => ⟨Nat.le_refl _, h⟩
  | n + 1, x, h => by
    rw [advI]
    split
    · rename_i hh
      have := advI_le (k := k) n (x + 1) (by omega)
      omega
    · exact ⟨Nat.le_refl _, h⟩
theorem advI_stop {k : Nat} : ∀ (n x : Nat), k < n + x → x ≤ k → ¬ (advI c k n x < k ∧ c (advI c k n x) = true)
  | 0, x, h, h2 => by omega
  | n + 1, x, h, h2 => by
    rw [advI]
    split
    · rename_i hh
      exact advI_stop (k := k) n (x + 1) (by omega) (by omega)
    · assumption
theorem stI_onN {k : Nat} (hk : k ≤ 60) : ∀ (n x : Nat), x ≤ k → onN n (stI first c k x) 0 = stI first c k (advI c k n x)
  | 0, _, _ => rfl
  | n + 1, x, hx => by
    rw [onN, advI]
    have h1 : (stI first c k x).nx.getD (0 : Int).toNat 0 = (x : Int) := rfl
    rw [h1, stI_cand first c hx]
    by_cases h : x < k ∧ c x = true
    · rw [if_pos h, if_pos h]
      dsimp only
      rw [stI_ready first c h.1 h.2, u16_small (by omega), ← stI_onN hk n (x + 1) (by omega)]
      rfl
    · rw [if_neg h, if_neg h]
theorem stI_len {k x : Nat} : (stI first c k x).L.length ≤ k - x := by
  dsimp only [stI]
  rw [List.length_map]
  refine Nat.le_trans (List.length_filter_le _ _) ?_
  unfold seg
  rw [List.length_range']
  exact Nat.le_refl _

/-- a message comes -/
theorem stI_put {k x : Nat} (hk : k < 60) (hx : x ≤ k) (hno : x < k → c x = false) (hc : c k = true) : putE (stI first c k x) (pcI first k) = 0 ∧ ∃ y, x ≤ y ∧ y ≤ k + 1 ∧ (y < k + 1 → c y = false) ∧ put (stI first c k x) (pcI first k) = stI first c (k + 1) y := by
  have hat : at? (stI first c k x).L (pcI first k).tsn = none := by
    unfold at?
    rw [List.find?_eq_none]
    intro d hd
    obtain ⟨i, hi, rfl⟩ := List.mem_map.1 hd
    have := mem_seg.1 (List.mem_filter.1 hi).1
    dsimp only [pcI]
    simp only [u32_eq, beq_iff_eq]
    omega
  have hE : putE (stI first c k x) (pcI first k) = 0 := by
    unfold putE
    rw [hat]
    have h1 : ¬ ((pcI first k).stream ≥ (stI first c k x).nx.length) := by simp [pcI, stI]
    have h2 : (pcI first k).bytes ≠ [] := by simp [pcI]
    have h3 : less16 (pcI first k).ssn ((stI first c k x).nx.getD (pcI first k).stream.toNat 0) = false := by
      have e1 : (stI first c k x).nx.getD (pcI first k).stream.toNat 0 = (x : Int) := rfl
      have e2 : (pcI first k).ssn = (k : Int) := rfl
      rw [e1, e2]
      unfold less16
      simp only [u16_eq, Bool.and_eq_false_iff, decide_eq_false_iff_not]
      omega
    rw [if_neg h1, if_neg h2, h3]
    simp
  refine ⟨hE, ?_⟩
  have e3 : (⟨(stI first c k x).L ++ [pcI first k], (stI first c k x).row, (stI first c k x).nx⟩ : S) = stI first c (k + 1) x := by
    dsimp only [stI]
    rw [seg_snoc hx, List.filter_append, List.filter_cons_of_pos hc, List.map_append]
    rfl
  have hput : put (stI first c k x) (pcI first k) = on (stI first c (k + 1) x) 0 := by
    unfold put
    rw [if_pos hE]
    unfold put1
    rw [if_neg (by simp [pcI]), e3]
    rfl
  rw [hput]
  unfold on
  rw [stI_onN first c (by omega) _ x (by omega)]
  refine ⟨advI c (k + 1) ((stI first c (k + 1) x).L.length + 1) x, (advI_le c _ _ (by omega)).1, (advI_le c _ _ (by omega)).2, fun hlt => ?_, rfl⟩
  by_cases hxk : x = k
  · subst hxk
    have hl : (stI first c (x + 1) x).L.length = 1 := by
      rw [stI_go first c (by omega) hc]; dsimp only [stI]; rw [seg_nil (by omega)]; rfl
    rw [hl] at hlt ⊢
    have := advI_stop c (k := x + 1) 2 x (by omega) (by omega)
    cases hcy : c (advI c (x + 1) (1 + 1) x) with
    | false => rfl
    | true => exact absurd ⟨hlt, hcy⟩ this
  · have hcx := hno (by omega)
    have : advI c (k + 1) ((stI first c (k + 1) x).L.length + 1) x = x := by rw [advI, if_neg (by simp [hcx])]
    rw [this]; exact hcx
/-- .. or does not come -/
theorem stI_none {k x : Nat} (hx : x ≤ k) (hc : c k = false) : stI first c k x = stI first c (k + 1) x := by
  dsimp only [stI]
  rw [seg_snoc hx, List.filter_append, List.filter_cons_of_neg (by simp [hc])]
  simp

theorem stI_upto {k : Nat} (hk : k ≤ 60) : ∀ (n x e : Nat), x ≤ e → e ≤ k → e ≤ x + n → upto n (stI first c k x) 0 e = stI first c k e
  | 0, x, e, h1, _, h3 => by
    have : x = e := by omega
    subst this; rfl
  | n + 1, x, e, h1, h2, h3 => by
    rw [upto]
    have e1 : (stI first c k x).nx.getD (0 : Int).toNat 0 = (x : Int) := rfl
    rw [e1]
    by_cases he : x = e
    · rw [if_pos (by omega), he]
    · rw [if_neg (by omega)]
      have hst : ({ wait (stI first c k x) 0 with nx := (wait (stI first c k x) 0).nx.set (0 : Int).toNat (u16 ((x : Int) + 1)) } : S) = stI first c k (x + 1) := by
        unfold wait
        rw [e1, stI_cand first c (by omega), u16_small (by omega)]
        by_cases h : x < k ∧ c x = true
        · rw [if_pos h]
          dsimp only
          rw [stI_ready first c h.1 h.2]
          rfl
        · rw [if_neg h]
          have hcx : c x = false := by cases hh : c x with | false => rfl | true => exact absurd ⟨by omega, hh⟩ h
          obtain ⟨g1, g2⟩ := stI_pass first c (k := k) (by omega) hcx
          dsimp only
          rw [g1, g2]
          rfl
      rw [hst]
      exact stI_upto hk n (x + 1) e (by omega) h2 (by omega)
theorem less16_small {a b : Nat} (ha : a < 1000) (hb : b < 1000) : less16 (a : Int) (b : Int) = decide (a < b) := by
  unfold less16
  simp only [u16_eq]
  by_cases h : a < b
  · rw [decide_eq_true h, Bool.and_eq_true]; simp only [decide_eq_true_eq]; omega
  · rw [decide_eq_false h, Bool.and_eq_false_iff]; simp only [decide_eq_false_iff_not]; omega
theorem stI_skip {n x i : Nat} (hn : n ≤ 60) (hx : x ≤ n) (hi : i < n) (cum : Int) : skipE (stI first c n x) [⟨0, i⟩] = 0 ∧ ∃ y, i + 1 ≤ y ∧ y ≤ n ∧ skip (stI first c n x) cum [⟨0, i⟩] = stI first c n y := by
  have hE : skipE (stI first c n x) [⟨0, i⟩] = 0 := by simp [skipE, stI]
  refine ⟨hE, ?_⟩
  have hparts : parts (stI first c n x) cum = stI first c n x := by
    unfold parts
    have : (stI first c n x).L.filter (fun d => !doomP (stI first c n x).L cum d) = (stI first c n x).L := by
      rw [List.filter_eq_self]
      intro d hd
      obtain ⟨j, hj, rfl⟩ := List.mem_map.1 hd
      unfold doomP
      rw [whole_one]
      simp
    rw [this]
  unfold skip
  rw [if_pos hE, hparts]
  simp only [List.foldl_cons, List.foldl_nil]
  unfold skip1
  have e1 : (stI first c n x).nx.getD (0 : Int).toNat 0 = (x : Int) := rfl
  rw [e1, less16_small (by omega) (by omega)]
  by_cases h : x ≤ i
  · rw [if_neg (by simp; omega)]
    have e2 : u16 ((i : Int) + 1) = ((i + 1 : Nat) : Int) := u16_small (by omega)
    have e3 : (u16 (((i + 1 : Nat) : Int) - x)).toNat = i + 1 - x := by simp only [u16_eq]; omega
    rw [e2, e3, stI_upto first c hn _ x (i + 1) (by omega) (by omega) (by omega)]
    dsimp only
    have e4 : (stI first c n (i + 1)).nx.getD (0 : Int).toNat 0 = ((i + 1 : Nat) : Int) := rfl
    rw [e4]
    have e5 : (stI first c n (i + 1)).L.filter (fun d => !doomS 0 ((i + 1 : Nat) : Int) d) = (stI first c n (i + 1)).L := by
      rw [List.filter_eq_self]
      intro d hd
      obtain ⟨j, hj, rfl⟩ := List.mem_map.1 hd
      have := mem_seg.1 (List.mem_filter.1 hj).1
      have e6 : doomS 0 ((i + 1 : Nat) : Int) (pcI first j) = less16 (j : Int) ((i + 1 : Nat) : Int) := by simp [doomS, pcI]
      rw [e6, less16_small (by omega) (by omega)]
      simp; omega
    rw [e5]
    have := advI_le c (k := n) ((stI first c n (i + 1)).L.length + 1) (i + 1) (by omega)
    refine ⟨advI c n ((stI first c n (i + 1)).L.length + 1) (i + 1), this.1, this.2, ?_⟩
    exact stI_onN first c hn _ (i + 1) (by omega)
  · rw [if_pos (by simp; omega)]
    exact ⟨x, by omega, hx, rfl⟩
end
end Go.Rm
