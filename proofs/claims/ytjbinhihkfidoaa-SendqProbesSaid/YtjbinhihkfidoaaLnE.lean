/- A sender of one message beside a line that takes all that comes: the packets of a moment, in plain Lean. No conditions: laws only. -/
import Derived.Test.YtjbinhihkfidoaaLnB
namespace Go.Snd
open Go Go.Pth

theorem lostB_zero (p : Nat) : lostB 0 p = false := by unfold lostB; simp
theorem Mid.allN {m : Nat} {now : Int} : ∀ (k : Nat) {a : Al} {n : Nat}, Mid m a.s a.x n → ∃ a' n', Snd.allN 0 now k a = some a' ∧ Mid m a'.s a'.x n' ∧ n' ≤ n ∧ (a.some_ = true → a'.some_ = true) ∧ (a.s.f.L = [] → 0 < n → 0 < k → a'.some_ = true ∧ n' ≤ n - min n 100)
  | 0, a, n, h => ⟨a, n, rfl, h, Nat.le_refl _, fun h => h, fun _ _ h => by omega⟩
  | k + 1, a, n, h => by
    unfold Snd.allN
    cases hn : next a.s now with
    | mk s' r =>
    cases r with
    | none =>
      obtain ⟨rfl, hs⟩ := h.none now hn
      refine ⟨_, n, rfl, h, Nat.le_refl _, fun h => h, fun h1 h2 _ => ?_⟩
      have := h.goes h1 h2
      rw [hs] at this
      cases this
    | some r =>
      obtain ⟨p, l⟩ := r
      obtain ⟨d, x', rfl, _, htk, hM, h0, _⟩ := h.step now hn
      dsimp only
      rw [lostB_zero, if_neg (by decide), htk]
      dsimp only
      obtain ⟨a', n', h1, h2, h3, h4, _⟩ := Mid.allN (now := now) k (a := ⟨s', x', a.packets + 1, a.pieces + [d].length, true⟩) hM
      exact ⟨a', n', h1, h2, by omega, fun _ => h4 rfl, fun _ _ _ => ⟨h4 rfl, h3⟩⟩
theorem Mid.quiet {m : Nat} {s : S} {x : Ln} {n : Nat} (h : Mid m s x n) (now : Int) (hs : stops s 0 116 = true) : next s now = (s, Option.none) := by
  have hg := h.lone.next h.ok now
  cases hn : next s now with
  | mk s' r =>
    rw [hn] at hg
    cases hg with
    | none _ => rfl
    | one _ d h1 => rw [hs] at h1; cases h1
theorem Mid.begins {m : Nat} {s : S} {x : Ln} {n : Nat} (h : Mid m s x n) (now : Int) (hL : s.f.L = []) (h0 : 0 < n) : ∃ s' k l, next s now = (s', some (k, l)) := by
  cases hn : next s now with
  | mk s' r =>
    cases r with
    | none =>
      have := (h.none now hn).2
      rw [h.goes hL h0] at this
      cases this
    | some r => exact ⟨s', r.1, r.2, rfl⟩
end Go.Snd
