/- Which TSNs came, in plain Lean, second part: what the laws of chapter 15 ask. No conditions: laws only. -/
import Derived.Test.YtkbdfhfbhgaecaaTsA
namespace Go.Spn
open Go

/-! ### one behind the other -/
/-- the first so many TSNs came -/
def firstS (b : Int) (n : Nat) : S := ⟨u32 (b + n), fun _ => false⟩
theorem firstS_ok (b : Int) (n : Nat) : (firstS b n).ok := ⟨u32_rng _, fun d hd => by cases hd⟩
theorem take_next {s : S} (h : s.ok) : takeS s (u32 (s.b + (1 : Nat))) = if s.p 1 then s else settle (add s (u32 (s.b + (1 : Nat)))) := by
  unfold takeS look
  rw [far_from 1 (by omega), inW_iff.2 (by omega), if_pos rfl]
  cases s.p 1 <;> simp
theorem add_next {s : S} (h : s.ok) : settle (add s (u32 (s.b + (1 : Nat)))) = settle (shift s 1) := by
  have hok := add_ok h (u32 (s.b + (1 : Nat)))
  have hp : ∀ e, (add s (u32 (s.b + (1 : Nat)))).p e = (decide (e = 1) || s.p e) := add_p (by omega)
  have h1 : 1 ≤ fol (add s (u32 (s.b + (1 : Nat)))) := fol_ge hok (fun k h1 h2 => by rw [hp, show k = 1 by omega]; rfl)
  have h2 : shift (add s (u32 (s.b + (1 : Nat)))) 1 = shift s 1 := S.ext (by show u32 ((add s (u32 (s.b + (1 : Nat)))).b + (1 : Nat)) = u32 (s.b + (1 : Nat)); rw [add_b]) (fun d => by
    show (inW d && (add s (u32 (s.b + (1 : Nat)))).p (d + 1)) = (inW d && s.p (d + 1))
    rw [hp]
    by_cases hd : d = 0
    · subst hd; rfl
    · simp [hd])
  rw [← settle_shift hok h1, h2]
theorem first_step (b : Int) (n : Nat) : look (firstS b n) (u32 (b + (n + 1 : Nat))) = 0 ∧ takeS (firstS b n) (u32 (b + (n + 1 : Nat))) = firstS b (n + 1) := by
  have e : u32 (b + (n + 1 : Nat)) = u32 ((firstS b n).b + (1 : Nat)) := by
    show u32 (b + (n + 1 : Nat)) = u32 (u32 (b + n) + (1 : Nat))
    simp only [u32_eq]; omega
  rw [e]
  have h := firstS_ok b n
  have hp : (firstS b n).p 1 = false := rfl
  refine ⟨?_, ?_⟩
  · unfold look
    rw [far_from 1 (by omega), inW_iff.2 (by omega), if_pos rfl, hp]
    rfl
  · rw [take_next h, hp, if_neg (by simp), add_next h]
    have hsh : shift (firstS b n) 1 = firstS b (n + 1) := S.ext (by show u32 (u32 (b + n) + (1 : Nat)) = u32 (b + (n + 1 : Nat)); simp only [u32_eq]; omega) (fun d => by show (inW d && false) = false; simp)
    rw [hsh]
    unfold settle
    rw [show fol (firstS b (n + 1)) = 0 from fol_is (firstS_ok b (n + 1)) (fun k h1 h2 => by omega) rfl, shift_zero (firstS_ok b (n + 1))]
/-- what came is told again -/
theorem first_again (b : Int) {n k : Nat} (hn : n ≤ 100000) (h1 : 1 ≤ k) (h2 : k ≤ n) : look (firstS b n) (u32 (b + k)) = 1 ∧ takeS (firstS b n) (u32 (b + k)) = firstS b n := by
  have hfar : far (firstS b n).b (u32 (b + k)) = if n ≤ k then k - n else 4294967296 - (n - k) := far_to n k hn (by omega)
  have hl : look (firstS b n) (u32 (b + k)) = 1 := by
    unfold look
    rw [hfar]
    by_cases h : n ≤ k
    · rw [if_pos h, show k - n = 0 by omega]; rfl
    · rw [if_neg h]
      have : inW (4294967296 - (n - k)) = false := by
        cases hq : inW (4294967296 - (n - k)) with
        | false => rfl
        | true => have := inW_iff.1 hq; omega
      rw [this, if_neg (by simp), if_neg (by omega)]
  exact ⟨hl, by unfold takeS; rw [hl]; rfl⟩
theorem first_gaps (b : Int) (n : Nat) (most : Int) : gaps (firstS b n) most = [] := by
  have hd : dist (firstS b n).p = [] := by
    unfold dist
    rw [List.filter_eq_nil_iff]
    intro d _
    show ¬ false = true
    simp
  rw [gaps_take, gapsU, hd]
  simp [runsU]
theorem first_nil (b : Int) (hb : 0 ≤ b ∧ b < 4294967296) : (⟨b, fun _ => false⟩ : S) = firstS b 0 := S.ext (by show b = u32 (b + (0 : Nat)); rw [u32_eq]; omega) (fun _ => rfl)

/-! ### forward, and so many that come -/
theorem settle_p1 {s : S} (h : s.ok) : (settle s).p 1 = false := settle_one h
/-- the next one comes -/
theorem next_step {s : S} (h : s.ok) (h1 : s.p 1 = false) : look s (u32 (s.b + 1)) = 0 ∧ takeS s (u32 (s.b + 1)) = shift s (1 + fol (shift s 1)) := by
  have e : u32 (s.b + 1) = u32 (s.b + (1 : Nat)) := rfl
  rw [e]
  refine ⟨?_, ?_⟩
  · unfold look
    rw [far_from 1 (by omega), inW_iff.2 (by omega), if_pos rfl, h1]
    rfl
  · rw [take_next h, h1, if_neg (by simp), add_next h]
    unfold settle
    rw [shift_shift h]
theorem shift_p1 {s : S} (h : s.ok) {n : Nat} (hn : n ≤ 4096) : (shift s n).p 1 = s.p (n + 1) := by
  show (inW 1 && s.p (1 + n)) = s.p (n + 1)
  rw [Nat.add_comm 1 n]
  rfl
/-- as far as it goes: the base behind so many and all that follow -/
def goN (s : S) (k : Nat) : Nat := k + fol (shift s k)
theorem goN_le {s : S} (h : s.ok) {k : Nat} (hk : k ≤ 4096) : goN s k ≤ 4096 := by
  unfold goN
  have h1 := fol_le (shift s k)
  rcases Nat.eq_zero_or_pos (fol (shift s k)) with h0 | h0
  · omega
  · have := fol_all (s := shift s k) h0 (Nat.le_refl _)
    have h2 : (inW (fol (shift s k)) && s.p (fol (shift s k) + k)) = true := this
    rw [Bool.and_eq_true] at h2
    have := h.2 _ h2.2
    omega
theorem goN_stop {s : S} (h : s.ok) {k : Nat} (hk : k ≤ 4096) : s.p (goN s k + 1) = false := by
  have h1 := fol_stop (shift_ok h k)
  have h2 : (inW (fol (shift s k) + 1) && s.p (fol (shift s k) + 1 + k)) = false := h1
  have h3 := goN_le h hk
  unfold goN at h3 ⊢
  by_cases h5 : k + fol (shift s k) = 4096
  · cases hp : s.p (k + fol (shift s k) + 1) with
    | false => rfl
    | true => have := h.2 _ hp; omega
  rw [inW_iff.2 (by omega), Bool.true_and] at h2
  rw [show k + fol (shift s k) + 1 = fol (shift s k) + 1 + k by omega]
  exact h2
theorem goN_all {s : S} {k j : Nat} (h1 : k < j) (h2 : j ≤ goN s k) : s.p j = true := by
  unfold goN at h2
  have := fol_all (s := shift s k) (k := j - k) (by omega) (by omega)
  have h3 : (inW (j - k) && s.p (j - k + k)) = true := this
  rw [Bool.and_eq_true, show j - k + k = j by omega] at h3
  exact h3.2
/-- two ways to the same place -/
theorem goN_same {s : S} (h : s.ok) {k m : Nat} (hk : k ≤ 4096) (hm : m ≤ k) (hg : k ≤ goN s m) : goN s k = goN s m := by
  have h1 := goN_stop h hk
  have h2 := goN_stop h (k := m) (by omega)
  rcases Nat.lt_trichotomy (goN s k) (goN s m) with h3 | h3 | h3
  · have h4 : k ≤ goN s k := Nat.le_add_right _ _
    rw [goN_all (s := s) (k := m) (j := goN s k + 1) (by omega) (by omega)] at h1
    cases h1
  · exact h3
  · rw [goN_all (s := s) (k := k) (j := goN s m + 1) (by omega) (by omega)] at h2
    cases h2
theorem move_goN {s : S} (h : s.ok) {k : Nat} (hk : 1 ≤ k ∧ k ≤ 4096) : move s (u32 (s.b + k)) = shift s (goN s k) := by
  unfold move
  rw [far_from k (by omega), if_pos (inW_iff.2 hk)]
  unfold settle
  rw [shift_shift h]
  rfl
end Go.Spn
