/- The runs of rising numbers, in plain Lean: they lie apart, and have just the numbers that they are of. No conditions: definitions and laws. -/
import Derived.Test.YtkbdfhfbhgaecaaSpQ
namespace Go.Spn
open Go

/-- the numbers of some runs -/
def expG (L : List (Nat × Nat)) : List Nat := L.flatMap (fun g => List.range' g.1 (g.2 + 1 - g.1))
def apart (g h : Nat × Nat) : Prop := g.2 + 2 ≤ h.1
theorem runs_good : ∀ (ds : List Nat) (acc : List (Nat × Nat)), ds.Pairwise (· < ·) → acc.Pairwise apart → (∀ g ∈ acc, g.1 ≤ g.2) → (∀ g ∈ acc, ∀ d ∈ ds, g.2 < d) →
    (runsU acc ds).Pairwise apart ∧ (∀ g ∈ runsU acc ds, g.1 ≤ g.2) ∧ expG (runsU acc ds) = expG acc ++ ds
  | [], acc, _, h2, h3, _ => by rw [runsU]; exact ⟨h2, h3, by simp⟩
  | d :: ds, acc, h1, h2, h3, h4 => by
    rw [List.pairwise_cons] at h1
    rcases List.eq_nil_or_concat acc with rfl | ⟨acc', ⟨f, t⟩, rfl⟩
    · have hu : runsU [] (d :: ds) = runsU [(d, d)] ds := by rw [runsU]; simp
      rw [hu]
      obtain ⟨g1, g2, g3⟩ := runs_good ds [(d, d)] h1.2 (by simp) (by simp) (by simpa using h1.1)
      refine ⟨g1, g2, ?_⟩
      rw [g3]
      simp [expG]
    · rw [List.concat_eq_append] at h2 h3 h4 ⊢
      rw [runsU_snoc]
      have hft : f ≤ t := h3 (f, t) (by simp)
      have htd : t < d := h4 (f, t) (by simp) d (by simp)
      rw [List.pairwise_append] at h2
      split
      · rename_i he
        obtain ⟨g1, g2, g3⟩ := runs_good ds (acc' ++ [(f, d)]) h1.2 (by
            rw [List.pairwise_append]
            refine ⟨h2.1, by simp, fun a ha b hb => ?_⟩
            have := h2.2.2 a ha (f, t) (by simp)
            rw [List.mem_singleton] at hb
            subst hb
            exact this) (by
            intro g hg
            rcases List.mem_append.1 hg with hg | hg
            · exact h3 g (by simp [hg])
            · rw [List.mem_singleton] at hg; subst hg; dsimp only; omega) (by
            intro g hg e he
            rcases List.mem_append.1 hg with hg | hg
            · exact h4 g (by simp [hg]) e (by simp [he])
            · rw [List.mem_singleton] at hg; subst hg; exact h1.1 e he)
        refine ⟨g1, g2, ?_⟩
        rw [g3]
        have e1 : List.range' f (d + 1 - f) = List.range' f (t + 1 - f) ++ [d] := by
          rw [show d + 1 - f = (t + 1 - f) + 1 by omega, List.range'_concat]
          congr 2
          omega
        simp [expG, e1]
      · rename_i he
        obtain ⟨g1, g2, g3⟩ := runs_good ds (acc' ++ [(f, t)] ++ [(d, d)]) h1.2 (by
            rw [List.pairwise_append]
            refine ⟨by rw [List.pairwise_append]; exact h2, by simp, fun a ha b hb => ?_⟩
            rw [List.mem_singleton] at hb
            subst hb
            unfold apart
            rcases List.mem_append.1 ha with ha | ha
            · have := h2.2.2 a ha (f, t) (by simp)
              unfold apart at this
              dsimp only at this ⊢
              omega
            · rw [List.mem_singleton] at ha; subst ha; dsimp only; omega) (by
            intro g hg
            rcases List.mem_append.1 hg with hg | hg
            · exact h3 g hg
            · rw [List.mem_singleton] at hg; subst hg; exact Nat.le_refl _) (by
            intro g hg e he
            rcases List.mem_append.1 hg with hg | hg
            · exact h4 g hg e (by simp [he])
            · rw [List.mem_singleton] at hg; subst hg; exact h1.1 e he)
        refine ⟨g1, g2, ?_⟩
        rw [g3]
        simp [expG]
theorem gapsU_good (s : S) : (gapsU s).Pairwise apart ∧ (∀ g ∈ gapsU s, g.1 ≤ g.2) ∧ expG (gapsU s) = dist s.p := by
  have := runs_good (dist s.p) [] (dist_sorted _) (by simp) (by simp) (by simp)
  simpa [gapsU, expG] using this
theorem mem_expG {L : List (Nat × Nat)} {d : Nat} : d ∈ expG L ↔ ∃ g ∈ L, g.1 ≤ d ∧ d ≤ g.2 := by
  unfold expG
  rw [List.mem_flatMap]
  constructor
  · rintro ⟨g, hg, h⟩
    rw [List.mem_range'_1] at h
    exact ⟨g, hg, by omega⟩
  · rintro ⟨g, hg, h⟩
    exact ⟨g, hg, by rw [List.mem_range'_1]; omega⟩
/-- what a run is of is in -/
theorem gap_in {s : S} {g : Nat × Nat} (hg : g ∈ gapsU s) {k : Nat} (h1 : g.1 ≤ k) (h2 : k ≤ g.2) : s.p k = true := by
  have : k ∈ expG (gapsU s) := mem_expG.2 ⟨g, hg, h1, h2⟩
  rw [(gapsU_good s).2.2] at this
  exact (mem_dist.1 this).2
theorem gap_rng {s : S} (h : s.ok) {g : Nat × Nat} (hg : g ∈ gapsU s) : 1 ≤ g.1 ∧ g.1 ≤ g.2 ∧ g.2 ≤ 4096 := by
  have h1 := (gapsU_good s).2.1 g hg
  have h2 := h.2 _ (gap_in hg (Nat.le_refl _) h1)
  have h3 := h.2 _ (gap_in hg h1 (Nat.le_refl _))
  omega
/-- so many numbers the first runs have -/
def gapN (L : List (Nat × Nat)) : Nat := (expG L).length
theorem gapN_snoc {L : List (Nat × Nat)} {i : Nat} {g : Nat × Nat} (h : L[i]? = some g) : gapN (L.take (i + 1)) = gapN (L.take i) + (g.2 + 1 - g.1) := by
  unfold gapN expG
  rw [List.take_add_one, h]
  simp
theorem gapN_all (s : S) : gapN (gapsU s) = count s := by unfold gapN count; rw [(gapsU_good s).2.2]
theorem gapN_le {s : S} (h : s.ok) (i : Nat) : gapN ((gapsU s).take i) ≤ 4096 := by
  have h1 := dist_le' h
  have h2 : gapN (gapsU s) = count s := gapN_all s
  have h3 : gapN (gapsU s) = gapN ((gapsU s).take i) + gapN ((gapsU s).drop i) := by
    unfold gapN expG
    rw [← List.length_append, ← List.flatMap_append, List.take_append_drop]
  unfold count at h2
  omega
theorem gap_apart {s : S} {i : Nat} {g h : Nat × Nat} (hg : (gapsU s)[i]? = some g) (hh : (gapsU s)[i + 1]? = some h) : g.2 + 2 ≤ h.1 := by
  have hp := (gapsU_good s).1
  rw [List.pairwise_iff_getElem] at hp
  obtain ⟨h1, rfl⟩ := List.getElem?_eq_some_iff.1 hg
  obtain ⟨h2, rfl⟩ := List.getElem?_eq_some_iff.1 hh
  exact hp i (i + 1) h1 h2 (by omega)
/-- the last one -/
theorem gap_last {s : S} {g : Nat × Nat} (h : (gapsU s).getLast? = some g) : (dist s.p).getLast? = some g.2 := by
  obtain ⟨l', hl⟩ := List.getLast?_eq_some_iff.1 h
  obtain ⟨_, h2, h3⟩ := gapsU_good s
  have h4 := h2 g (by rw [hl]; simp)
  rw [← h3, hl]
  unfold expG
  rw [List.flatMap_append]
  have e : List.range' g.1 (g.2 + 1 - g.1) = List.range' g.1 (g.2 - g.1) ++ [g.2] := by
    rw [show g.2 + 1 - g.1 = (g.2 - g.1) + 1 by omega, List.range'_concat, show g.1 + 1 * (g.2 - g.1) = g.2 by omega]
  simp [e]
theorem gap_nil {s : S} (h : gapsU s = []) : dist s.p = [] := by
  rw [← (gapsU_good s).2.2, h]; rfl
end Go.Spn
