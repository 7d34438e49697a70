/- The document's way to the runs, in plain Lean: where a run begins and where it ends; the runs that begin ahead of a number. No conditions: definitions and laws. -/
import Derived.Test.YtkbdfhfbhgaecaaSpR
namespace Go.Spn
open Go

theorem gap_cover {s : S} (h : s.ok) {d : Nat} (hd : s.p d = true) : ∃ g ∈ gapsU s, g.1 ≤ d ∧ d ≤ g.2 := by
  have : d ∈ expG (gapsU s) := by rw [(gapsU_good s).2.2, mem_dist]; exact ⟨(h.2 d hd).2, hd⟩
  exact mem_expG.1 this
theorem gap_two {s : S} {g h : Nat × Nat} (hg : g ∈ gapsU s) (hh : h ∈ gapsU s) : g = h ∨ g.2 + 2 ≤ h.1 ∨ h.2 + 2 ≤ g.1 := by
  have hp := (gapsU_good s).1
  rw [List.pairwise_iff_getElem] at hp
  obtain ⟨i, hi, rfl⟩ := List.getElem_of_mem hg
  obtain ⟨j, hj, rfl⟩ := List.getElem_of_mem hh
  rcases Nat.lt_trichotomy i j with h | h | h
  · exact .inr (.inl (hp i j hi hj h))
  · subst h; exact .inl rfl
  · exact .inr (.inr (hp j i hj hi h))
theorem gap_end {s : S} (h : s.ok) {g : Nat × Nat} (hg : g ∈ gapsU s) : s.p (g.2 + 1) = false := by
  cases hp : s.p (g.2 + 1) with
  | false => rfl
  | true =>
    obtain ⟨k, hk, h1, h2⟩ := gap_cover h hp
    have h3 := (gapsU_good s).2.1 g hg
    have h4 := (gapsU_good s).2.1 k hk
    rcases gap_two hg hk with rfl | h5 | h5 <;> omega
theorem gap_start {s : S} (h : s.ok) {i : Nat} (hi : 1 ≤ i) : (∃ g ∈ gapsU s, g.1 = i) ↔ s.p i = true ∧ s.p (i - 1) = false := by
  constructor
  · rintro ⟨g, hg, rfl⟩
    have h3 := (gapsU_good s).2.1 g hg
    refine ⟨gap_in hg (Nat.le_refl _) h3, ?_⟩
    cases hp : s.p (g.1 - 1) with
    | false => rfl
    | true =>
      obtain ⟨k, hk, h1, h2⟩ := gap_cover h hp
      have h4 := (gapsU_good s).2.1 k hk
      rcases gap_two hg hk with rfl | h5 | h5 <;> omega
  · rintro ⟨h1, h2⟩
    obtain ⟨g, hg, h3, h4⟩ := gap_cover h h1
    refine ⟨g, hg, ?_⟩
    by_cases he : g.1 = i
    · exact he
    have := gap_in hg (k := i - 1) (by omega) (by omega)
    rw [h2] at this; cases this
/-- the runs that begin ahead of a number -/
def before (L : List (Nat × Nat)) (i : Nat) : List (Nat × Nat) := L.filter (fun g => decide (g.1 < i))
theorem before_none : ∀ {L : List (Nat × Nat)} {i : Nat}, (∀ g ∈ L, i ≤ g.1) → before L i = [] := fun {L i} h => by
  unfold before
  rw [List.filter_eq_nil_iff]
  intro g hg
  have := h g hg
  simp; omega
theorem before_take : ∀ (L : List (Nat × Nat)) (i : Nat), L.Pairwise apart → (∀ g ∈ L, g.1 ≤ g.2) → before L i = L.take (before L i).length
  | [], _, _, _ => rfl
  | g :: r, i, hp, hle => by
    rw [List.pairwise_cons] at hp
    by_cases h : g.1 < i
    · have e : before (g :: r) i = g :: before r i := by unfold before; rw [List.filter_cons_of_pos (by simpa using h)]
      rw [e, List.length_cons, List.take_succ_cons, ← before_take r i hp.2 (fun a ha => hle a (by simp [ha]))]
    · rw [before_none (L := g :: r) (i := i) (fun a ha => by
        rcases List.mem_cons.1 ha with rfl | ha
        · omega
        · have h1 := hp.1 a ha
          have h2 := hle g (by simp)
          unfold apart at h1
          omega)]
      rfl
theorem before_yes : ∀ (L : List (Nat × Nat)) (g : Nat × Nat), L.Pairwise apart → (∀ g ∈ L, g.1 ≤ g.2) → g ∈ L → before L (g.1 + 1) = before L g.1 ++ [g]
  | [], _, _, _, h => by cases h
  | a :: r, g, hp, hle, hg => by
    rw [List.pairwise_cons] at hp
    have h2 := hle a (by simp)
    rcases List.mem_cons.1 hg with rfl | hg
    · have e1 : before r (g.1 + 1) = [] := before_none (fun b hb => by have := hp.1 b hb; unfold apart at this; omega)
      have e2 : before r g.1 = [] := before_none (fun b hb => by have := hp.1 b hb; unfold apart at this; omega)
      unfold before at e1 e2 ⊢
      rw [List.filter_cons_of_pos (by simp), List.filter_cons_of_neg (by simp), e1, e2]
      rfl
    · have h1 := hp.1 g hg
      unfold apart at h1
      have ih := before_yes r g hp.2 (fun a ha => hle a (by simp [ha])) hg
      unfold before at ih ⊢
      rw [List.filter_cons_of_pos (by simp; omega), List.filter_cons_of_pos (by simp; omega), ih]
      rfl
theorem before_no {L : List (Nat × Nat)} {i : Nat} (h : ∀ g ∈ L, g.1 ≠ i) : before L (i + 1) = before L i := by
  unfold before
  refine List.filter_congr (fun g hg => ?_)
  have := h g hg
  rw [decide_eq_decide]
  omega
theorem before_all {s : S} (h : s.ok) : before (gapsU s) 4097 = gapsU s := by
  unfold before
  rw [List.filter_eq_self]
  intro g hg
  have := gap_rng h hg
  simp; omega
theorem before_one {s : S} (h : s.ok) : before (gapsU s) 1 = [] := before_none (fun _ hg => (gap_rng h hg).1)
theorem before_end {s : S} (h : s.ok) {i : Nat} {most : Int} (h1 : (before (gapsU s) i).length ≤ most.toNat) (h2 : i = 4097 ∨ most ≤ (before (gapsU s) i).length) : before (gapsU s) i = gaps s most := by
  rw [gaps_take]
  rcases h2 with rfl | h2
  · rw [before_all h] at h1 ⊢
    rw [List.take_of_length_le h1]
  · have e := before_take (gapsU s) i (gapsU_good s).1 (gapsU_good s).2.1
    have hk : (before (gapsU s) i).length = most.toNat := by omega
    rw [hk] at e
    exact e
theorem before_len {s : S} (h : s.ok) (i : Nat) : (before (gapsU s) i).length ≤ 4096 := Nat.le_trans (List.length_filter_le _ _) (gapsU_len h)
/-- how many there are, up to a number -/
def cnt (p : Nat → Bool) (i : Nat) : Nat := ((List.range i).filter p).length
theorem cnt_succ (p : Nat → Bool) (i : Nat) : cnt p (i + 1) = cnt p i + if p i then 1 else 0 := by
  unfold cnt
  rw [List.range_succ, List.filter_append, List.length_append]
  cases h : p i <;> simp [h]
theorem cnt_le (p : Nat → Bool) (i : Nat) : cnt p i ≤ i := by unfold cnt; refine Nat.le_trans (List.length_filter_le _ _) ?_; simp
theorem cnt_one {p : Nat → Bool} (h : p 0 = false) : cnt p 1 = 0 := by rw [cnt_succ, h]; rfl
theorem run_go {s : S} (h : s.ok) {g : Nat × Nat} (hg : g ∈ gapsU s) {k : Nat} (h1 : g.1 ≤ k) (h2 : k ≤ g.2) : (k < g.2 ↔ k < 4096 ∧ s.p (k + 1) = true) := by
  have hr := gap_rng h hg
  constructor
  · intro h3; exact ⟨by omega, gap_in hg (by omega) (by omega)⟩
  · rintro ⟨_, h4⟩
    by_cases he : k = g.2
    · subst he; rw [gap_end h hg] at h4; cases h4
    · omega
theorem u32_add (a n : Int) : u32 (a + u32 n) = u32 (a + n) := by simp only [u32_eq]; omega
theorem u32_rng (n : Int) : 0 ≤ u32 n ∧ u32 n < 4294967296 := by rw [u32_eq]; omega
theorem u32_in {n : Int} (h : 0 ≤ n ∧ n < 4294967296) : u32 n = n := by rw [u32_eq]; omega
theorem last_none {s : S} (h : s.ok) (hd : dist s.p = []) : last s = s.b := by
  unfold last
  rw [hd]
  have := h.1
  show u32 (s.b + ((0 : Nat) : Int)) = s.b
  rw [u32_eq]
  omega
theorem settle_eq (s : S) : settle s = shift s (fol s) := rfl
theorem fol_go {s : S} (h : s.ok) {n : Nat} (hn : n ≤ fol s) : (n < fol s ↔ n < 4096 ∧ s.p (n + 1) = true) := by
  have hle := fol_le s
  constructor
  · intro h1; exact ⟨by omega, fol_all (by omega) (by omega)⟩
  · rintro ⟨h1, h2⟩
    by_cases he : n = fol s
    · subst he; rw [fol_stop h] at h2; cases h2
    · omega
end Go.Spn
