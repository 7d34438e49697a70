/- Which TSNs came, in plain Lean, third part: the document's way on, one by one. No conditions: laws only. -/
import Derived.Test.YtkbdfhfbhgaecaaTsD
namespace Go.Spn
open Go

theorem goN_iff {s : S} (h : s.ok) {k j : Nat} (hk : k ≤ 4096) (h1 : k ≤ j) (h2 : j ≤ goN s k) : (s.p (j + 1) = true ↔ j < goN s k) := by
  constructor
  · intro hp
    rcases Nat.lt_or_ge j (goN s k) with h3 | h3
    · exact h3
    · have := goN_stop h hk
      rw [show goN s k = j by omega, hp] at this
      cases this
  · intro h3
    exact goN_all (k := k) (by omega) (by omega)
theorem goN_ge (s : S) (k : Nat) : k ≤ goN s k := Nat.le_add_right _ _
theorem goN_one {s : S} (h : s.ok) (h1 : s.p 1 = true) : shift s (goN s 1) = settle s := by
  have h2 : 1 ≤ fol s := fol_ge h (fun k h3 h4 => by rw [show k = 1 by omega]; exact h1)
  unfold goN settle
  rw [fol_shift_sub h h2, show 1 + (fol s - 1) = fol s by omega]
theorem settle_none {s : S} (h : s.ok) (h1 : s.p 1 = false) : settle s = s := by
  unfold settle
  rw [show fol s = 0 from fol_is h (fun k h2 h3 => by omega) h1, shift_zero h]
/-- so many are still to go by themselves -/
def kv (K T j : Nat) : Nat := if j < K then K - j else if j < T then 1 else 0
theorem kv_pos {K T j : Nat} (h : K ≤ T) : 0 < kv K T j ↔ j < T := by unfold kv; split <;> (try split) <;> omega
theorem kv_more {K T j : Nat} (h : K ≤ T) (hj : j < T) (h0 : kv K T j - 1 ≠ 0) : kv K T (j + 1) = kv K T j - 1 := by
  unfold kv at h0 ⊢
  split at h0
  · rw [if_pos (by omega), if_pos (by omega)]; omega
  · omega
theorem kv_last {K T j : Nat} (h : K ≤ T) (hj : j < T) (h0 : kv K T j - 1 = 0) : K ≤ j + 1 ∧ kv K T (j + 1) = if j + 1 < T then 1 else 0 := by
  unfold kv at h0 ⊢
  split at h0
  · rw [if_neg (by omega)]; exact ⟨by omega, rfl⟩
  · rw [if_neg (by omega)]; exact ⟨by omega, rfl⟩
theorem look0 {s : S} {x : Int} (h1 : 1 ≤ far s.b x ∧ far s.b x ≤ 4096) (h2 : s.p (far s.b x) = false) : look s x = 0 := look_new.2 ⟨inW_iff.2 h1, h2⟩
theorem look1 {s : S} {x : Int} (h1 : 1 ≤ far s.b x ∧ far s.b x ≤ 4096) (h2 : s.p (far s.b x) = true) : look s x = 1 := by
  unfold look; rw [inW_iff.2 h1, h2]; rfl
theorem look2 {s : S} {x : Int} (h1 : 4096 < far s.b x ∧ far s.b x ≤ 2147483647) : look s x = 2 := by
  unfold look
  rw [if_neg (fun h => by have := inW_iff.1 h; omega), if_pos (by omega)]
theorem look3 {s : S} {x : Int} (h1 : far s.b x = 0 ∨ 2147483647 < far s.b x) : look s x = 1 := by
  unfold look
  rw [if_neg (fun h => by have := inW_iff.1 h; omega), if_neg (by omega)]
theorem gaps_max (s : S) (g : Int) : gaps s (if g < 0 then 0 else g) = gaps s g := by
  rw [gaps_take, gaps_take]
  congr 1
  split <;> omega
end Go.Spn
