/- A set of numbers beyond a base, in plain Lean: what is in behind some numbers were added; what stays behind the base went on. No conditions: definitions and laws. -/
import Derived.Test.YtkbdfhfbhgaecaaSpA
namespace Go.Spn
open Go

/-- a set of a base with numbers that far beyond it -/
def fill (b : Int) (l : List Int) : S := l.foldl (fun s d => add s (u32 (b + d))) ⟨b, fun _ => false⟩
/-- is a distance told, and may it be? -/
def told (l : List Int) (d : Nat) : Bool := inW d && decide ((d : Int) ∈ l)
theorem far_add {b d : Int} (hd : 0 ≤ d ∧ d < 4294967296) : far b (u32 (b + d)) = d.toNat := by
  unfold far; simp only [u32_eq]; omega
theorem fill_go (b : Int) : ∀ (l : List Int) (s : S), s.b = b → (∀ a ∈ l, 0 ≤ a ∧ a < 4294967296) → (l.foldl (fun s d => add s (u32 (b + d))) s).b = b ∧ ∀ d, (l.foldl (fun s d => add s (u32 (b + d))) s).p d = (s.p d || told l d)
  | [], s, hb, _ => ⟨hb, fun d => by simp [told]⟩
  | a :: l, s, hb, h => by
    have ha := h a (by simp)
    have hfar : far s.b (u32 (b + a)) = a.toNat := by rw [hb]; exact far_add ha
    have hadd : (add s (u32 (b + a))).b = b ∧ ∀ d, (add s (u32 (b + a))).p d = (s.p d || (inW d && decide ((d : Int) = a))) := by
      unfold add
      rw [hfar]
      by_cases hw : inW a.toNat = true
      · rw [if_pos hw]
        refine ⟨hb, fun d => ?_⟩
        dsimp only
        by_cases hd : d = a.toNat
        · subst hd
          have : ((a.toNat : Nat) : Int) = a := by omega
          simp [hw, this]
        · have : ¬ (d : Int) = a := by omega
          simp [hd, this]
      · rw [if_neg hw]
        refine ⟨hb, fun d => ?_⟩
        have : (inW d && decide ((d : Int) = a)) = false := by
          rw [Bool.and_eq_false_iff]
          by_cases hd : (d : Int) = a
          · left; have : d = a.toNat := by omega
            subst this; simpa using hw
          · right; simpa using hd
        rw [this]; simp
    obtain ⟨h1, h2⟩ := fill_go b l (add s (u32 (b + a))) hadd.1 (fun c hc => h c (by simp [hc]))
    refine ⟨h1, fun d => ?_⟩
    rw [List.foldl_cons, h2, hadd.2]
    unfold told
    rw [Bool.or_assoc]
    congr 1
    rw [← Bool.and_or_distrib_left]
    congr 1
    rw [← Bool.decide_or]
    simp [List.mem_cons]
theorem fill_eq {b : Int} {l : List Int} (h : ∀ a ∈ l, 0 ≤ a ∧ a < 4294967296) : fill b l = ⟨b, told l⟩ := by
  obtain ⟨h1, h2⟩ := fill_go b l ⟨b, fun _ => false⟩ rfl h
  exact S.ext h1 (fun d => by rw [fill, h2]; simp)
theorem fill_ok {b : Int} (hb : 0 ≤ b ∧ b < 4294967296) {l : List Int} (h : ∀ a ∈ l, 0 ≤ a ∧ a < 4294967296) : (fill b l).ok := by
  rw [fill_eq h]
  refine ⟨hb, fun d hd => ?_⟩
  unfold told at hd
  rw [Bool.and_eq_true] at hd
  exact inW_iff.1 hd.1
/-- the distances behind the base went on over those that follow it -/
theorem dist_shift {s : S} (h : s.ok) {n : Nat} (hn : ∀ k, 1 ≤ k → k ≤ n → s.p k = true) : dist s.p = List.range' 1 n ++ (dist (shift s n).p).map (· + n) := by
  refine sorted_ext (dist_sorted _) ?_ (fun a => ?_)
  · rw [List.pairwise_append]
    refine ⟨List.pairwise_lt_range', List.pairwise_map.2 ((dist_sorted _).imp (fun h => by omega)), fun a ha c hc => ?_⟩
    rw [List.mem_range'_1] at ha
    obtain ⟨d, hd, rfl⟩ := List.mem_map.1 hc
    have := (mem_dist.1 hd).2
    dsimp only [shift] at this
    rw [Bool.and_eq_true] at this
    have := inW_iff.1 this.1
    omega
  · rw [List.mem_append, List.mem_range'_1, List.mem_map, mem_dist]
    constructor
    · rintro ⟨h1, h2⟩
      have h3 := h.2 a h2
      by_cases ha : a ≤ n
      · exact .inl ⟨h3.1, by omega⟩
      · refine .inr ⟨a - n, mem_dist.2 ⟨by omega, ?_⟩, by omega⟩
        dsimp only [shift]
        rw [inW_iff.2 (show 1 ≤ a - n ∧ a - n ≤ 4096 by omega), show a - n + n = a by omega, h2]
        rfl
    · rintro (⟨h1, h2⟩ | ⟨d, hd, rfl⟩)
      · have hp := hn a h1 (by omega)
        exact ⟨(h.2 a hp).2, hp⟩
      · have := (mem_dist.1 hd).2
        dsimp only [shift] at this
        rw [Bool.and_eq_true] at this
        exact ⟨(h.2 _ this.2).2, this.2⟩
theorem count_settle {s : S} (h : s.ok) : count s = fol s + count (settle s) := by
  unfold count settle
  rw [dist_shift h (fun k h1 h2 => fol_all h1 h2)]
  simp
theorem settle_one {s : S} (h : s.ok) : (settle s).p 1 = false := by
  dsimp only [settle, shift]
  rw [Nat.add_comm, fol_stop h]
  simp
theorem fol_settle {s : S} (h : s.ok) : fol (settle s) = 0 := lead_eq (fun j h1 h2 => by omega) (settle_one h) (by omega)
theorem settle_settle {s : S} (h : s.ok) : settle (settle s) = settle s := by
  have : settle (settle s) = shift (settle s) (fol (settle s)) := rfl
  rw [this, fol_settle h, shift_zero (settle_ok h)]
/-- what is not beyond the base is not in -/
theorem has_behind {s : S} {x : Int} (h : far s.b x = 0 ∨ 4096 < far s.b x) : has s x = false := by
  unfold has
  have : inW (far s.b x) = false := by
    cases hw : inW (far s.b x) with
    | false => rfl
    | true => have := inW_iff.1 hw; omega
  rw [this]; rfl
end Go.Spn
