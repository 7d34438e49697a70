/- A set of numbers beyond a base, in plain Lean: the base, and which distances 1 to 4096 beyond it are in. No conditions: definitions and laws. -/
import GoSem.Core.View
namespace Go.Spn
open Go

abbrev u32 (n : Int) : Int := IntKind.u32.wrap n
theorem u32_eq (n : Int) : u32 n = n % 4294967296 := by simp [u32, IntKind.wrap, IntKind.bits, IntKind.signed]
/-- how far a number is beyond another one -/
def far (b x : Int) : Nat := (u32 (x - b)).toNat
theorem far_lt (b x : Int) : far b x < 4294967296 := by unfold far; rw [u32_eq]; omega
theorem far_int (b x : Int) : ((far b x : Nat) : Int) = u32 (x - b) := by unfold far; rw [u32_eq]; omega
def inW (d : Nat) : Bool := decide (0 < d) && decide (d ≤ 4096)
theorem inW_iff {d : Nat} : inW d = true ↔ 1 ≤ d ∧ d ≤ 4096 := by unfold inW; simp; omega

structure S where
  b : Int
  p : Nat → Bool
def has (s : S) (x : Int) : Bool := inW (far s.b x) && s.p (far s.b x)
def addB (s : S) (x : Int) : Bool := inW (far s.b x) && !s.p (far s.b x)
def add (s : S) (x : Int) : S := if inW (far s.b x) then ⟨s.b, fun d => decide (d = far s.b x) || s.p d⟩ else s
/-- the base goes on by so many -/
def shift (s : S) (n : Nat) : S := ⟨u32 (s.b + n), fun d => inW d && s.p (d + n)⟩
/-- how many follow one behind the other -/
def lead (p : Nat → Bool) : Nat → Nat → Nat
  | 0, _ => 0
  | n + 1, d => if p (d + 1) then lead p n (d + 1) + 1 else 0
def fol (s : S) : Nat := lead s.p 4096 0
def settle (s : S) : S := shift s (fol s)
def moveN (s : S) (x : Int) : Nat := if inW (far s.b x) then far s.b x + fol (shift s (far s.b x)) else 0
def move (s : S) (x : Int) : S := if inW (far s.b x) then settle (shift s (far s.b x)) else s
/-- the distances, rising -/
def dist (p : Nat → Bool) : List Nat := (List.range 4097).filter p
def count (s : S) : Nat := (dist s.p).length
def last (s : S) : Int := u32 (s.b + ((dist s.p).getLast?.getD 0 : Nat))
/-- the runs of rising numbers, so many at most -/
def runs (most : Int) : List (Nat × Nat) → List Nat → List (Nat × Nat)
  | acc, [] => acc
  | acc, d :: ds => match acc.getLast? with
    | some (f, t) => if t + 1 = d then runs most (acc.dropLast ++ [(f, d)]) ds else if (acc.length : Int) = most then acc else runs most (acc ++ [(d, d)]) ds
    | none => if (acc.length : Int) = most then acc else runs most (acc ++ [(d, d)]) ds
def gaps (s : S) (most : Int) : List (Nat × Nat) := if most < 1 then [] else runs most [] (dist s.p)
/-- nothing lies outside -/
def S.ok (s : S) : Prop := (0 ≤ s.b ∧ s.b < 4294967296) ∧ ∀ d, s.p d = true → 1 ≤ d ∧ d ≤ 4096

theorem S.ext {s t : S} (h1 : s.b = t.b) (h2 : ∀ d, s.p d = t.p d) : s = t := by
  cases s; cases t; simp at h1 h2; subst h1; congr 1; exact funext h2
theorem shift_ok {s : S} (_h : s.ok) (n : Nat) : (shift s n).ok := by
  refine ⟨by dsimp only [shift]; rw [u32_eq]; omega, fun d hd => ?_⟩
  dsimp only [shift] at hd
  rw [Bool.and_eq_true] at hd
  exact inW_iff.1 hd.1
theorem add_ok {s : S} (h : s.ok) (x : Int) : (add s x).ok := by
  unfold add
  split
  · rename_i hw
    refine ⟨h.1, fun d hd => ?_⟩
    simp at hd
    rcases hd with rfl | hd
    · exact inW_iff.1 hw
    · exact h.2 d hd
  · exact h
theorem settle_ok {s : S} (h : s.ok) : (settle s).ok := shift_ok h _
theorem shift_zero {s : S} (h : s.ok) : shift s 0 = s := by
  refine S.ext ?_ (fun d => ?_)
  · have := h.1; show u32 (s.b + ((0 : Nat) : Int)) = s.b; rw [u32_eq]; omega
  · show (inW d && s.p (d + 0)) = s.p d
    rw [Nat.add_zero]
    cases hp : s.p d with
    | false => simp
    | true => rw [inW_iff.2 (h.2 d hp)]; rfl
theorem shift_shift {s : S} (h : s.ok) (m n : Nat) : shift (shift s m) n = shift s (m + n) := by
  refine S.ext ?_ (fun d => ?_)
  · dsimp only [shift]; simp only [u32_eq]; omega
  · dsimp only [shift]
    rw [show d + n + m = d + (m + n) by omega]
    cases hd : inW d with
    | false => rfl
    | true =>
      cases hp : s.p (d + (m + n)) with
      | false => simp
      | true =>
        have h1 := h.2 _ hp
        have h2 := inW_iff.1 hd
        rw [inW_iff.2 (show 1 ≤ d + n ∧ d + n ≤ 4096 by omega)]
        rfl
/-- one after the other -/
theorem lead_le (p : Nat → Bool) : ∀ (n d : Nat), lead p n d ≤ n
  | 0, _ => Nat.le_refl _
  | n + 1, d => by rw [lead]; split; exact Nat.succ_le_succ (lead_le p n (d + 1)); omega
theorem lead_all (p : Nat → Bool) : ∀ (n d k : Nat), d < k → k ≤ d + lead p n d → p k = true
  | 0, d, k, h1, h2 => by rw [lead] at h2; omega
  | n + 1, d, k, h1, h2 => by
    rw [lead] at h2
    split at h2
    · rename_i hp
      by_cases hk : k = d + 1
      · rw [hk]; exact hp
      · exact lead_all p n (d + 1) k (by omega) (by omega)
    · omega
theorem lead_stop (p : Nat → Bool) : ∀ (n d : Nat), lead p n d < n → p (d + lead p n d + 1) = false
  | 0, _, h => by omega
  | n + 1, d, h => by
    rw [lead] at h ⊢
    split
    · rename_i hp
      rw [if_pos hp] at h
      have := lead_stop p n (d + 1) (by omega)
      rw [show d + (lead p n (d + 1) + 1) + 1 = d + 1 + lead p n (d + 1) + 1 by omega]
      exact this
    · rename_i hp; simpa using hp
theorem lead_eq {p : Nat → Bool} {k : Nat} (h1 : ∀ j, 1 ≤ j → j ≤ k → p j = true) (h2 : p (k + 1) = false) (hk : k ≤ 4096) : lead p 4096 0 = k := by
  have h3 := lead_le p 4096 0
  rcases Nat.lt_trichotomy (lead p 4096 0) k with h | h | h
  · have := lead_stop p 4096 0 (by omega)
    rw [h1 _ (by omega) (by omega)] at this; cases this
  · exact h
  · have := lead_all p 4096 0 (k + 1) (by omega) (by omega)
    rw [h2] at this; cases this
theorem fol_le (s : S) : fol s ≤ 4096 := lead_le _ _ _
theorem fol_all {s : S} {k : Nat} (h1 : 1 ≤ k) (h2 : k ≤ fol s) : s.p k = true := lead_all s.p 4096 0 k (by omega) (by unfold fol at h2; omega)
theorem fol_stop {s : S} (h : s.ok) : s.p (fol s + 1) = false := by
  by_cases hf : fol s < 4096
  · have := lead_stop s.p 4096 0 hf
    simpa [fol] using this
  · cases hp : s.p (fol s + 1) with
    | false => rfl
    | true => have := h.2 _ hp; omega
theorem mem_dist {p : Nat → Bool} {d : Nat} : d ∈ dist p ↔ d ≤ 4096 ∧ p d = true := by
  unfold dist; rw [List.mem_filter, List.mem_range]; constructor <;> intro h <;> exact ⟨by omega, h.2⟩
theorem dist_sorted (p : Nat → Bool) : (dist p).Pairwise (· < ·) := List.pairwise_lt_range.filter _
theorem dist_nodup (p : Nat → Bool) : (dist p).Nodup := List.nodup_range.filter _
theorem sorted_ext : ∀ {l1 l2 : List Nat}, l1.Pairwise (· < ·) → l2.Pairwise (· < ·) → (∀ a, a ∈ l1 ↔ a ∈ l2) → l1 = l2
  | [], [], _, _, _ => rfl
  | [], b :: l2, _, _, h => absurd ((h b).2 (by simp)) (by simp)
  | a :: l1, [], _, _, h => absurd ((h a).1 (by simp)) (by simp)
  | a :: l1, b :: l2, h1, h2, h => by
    rw [List.pairwise_cons] at h1 h2
    have hab : a = b := by
      rcases List.mem_cons.1 ((h a).1 (by simp)) with h3 | h3
      · exact h3
      rcases List.mem_cons.1 ((h b).2 (by simp)) with h4 | h4
      · exact h4.symm
      have := h2.1 a h3
      have := h1.1 b h4
      omega
    subst hab
    rw [sorted_ext h1.2 h2.2 (fun c => ?_)]
    constructor
    · intro hc
      rcases List.mem_cons.1 ((h c).1 (by simp [hc])) with h3 | h3
      · subst h3; exact absurd (h1.1 c hc) (Nat.lt_irrefl _)
      · exact h3
    · intro hc
      rcases List.mem_cons.1 ((h c).2 (by simp [hc])) with h3 | h3
      · subst h3; exact absurd (h2.1 c hc) (Nat.lt_irrefl _)
      · exact h3
end Go.Spn
