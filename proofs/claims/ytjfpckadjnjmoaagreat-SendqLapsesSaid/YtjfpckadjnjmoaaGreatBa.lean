/- Some texts as one. A set of numbers beyond a base, in plain Lean: the base, and which distances 1 to 4096 beyond it are in. No conditions: definitions and laws. The reassembler in plain Lean: pieces in the order in which they came, what is whole, what becomes ready. No conditions: definitions and laws. The reassembler in plain Lean, second part: what each of its methods does to the pieces, the row and the streams' next numbers. No conditions: definitions and laws. A flight of pieces, in plain Lean: what was sent and is not acknowledged yet. No conditions: definitions and laws. A flight of pieces, acknowledged: in plain Lean. No conditions: definitions and laws. A flight of pieces: what is done with it, in plain Lean, and what stays true. No conditions: definitions and laws. A flight of pieces: how many bytes are told to be acknowledged, are under way, and are freed, in plain Lean. No conditions: laws. A path of an end, in plain Lean: the time that it is waited, the room, failures and heartbeats. No conditions: definitions and laws. A queue of messages that wait, in plain Lean: put, cut into pieces, let go when their time is over. No conditions: definitions and laws. A sender, in plain Lean: a queue, a flight, paths with their timers. No conditions: definitions. A sender's state that is well formed, in plain Lean: what is done keeps it so. No conditions: definitions and laws. A config in memory. No conditions: definitions. -/
import GoSem.Core.View
import Derived.Test.YtjfpckadjnjmoaaGreatBb
namespace Go.Spn
open Go

abbrev u32 (n : Int) : Int := IntKind.u32.wrap n
theorem u32_eq (n : Int) : u32 n = n % 4294967296 := by simp [u32, IntKind.wrap, IntKind.bits, IntKind.signed]
/-- how far a number is beyond another one -/
def far (b x : Int) : Nat := (u32 (x - b)).toNat
theorem far_lt (b x : Int) : far b x < 4294967296 := by unfold far; rw [u32_eq]; omega
theorem far_int (b x : Int) : ((far b x : Nat) : Int) = u32 (x - b) := by unfold far; rw [u32_eq]; omega
def inW (d : Nat) : Bool := decide (0 < d) && decide (d ≤ 4096)
theorem inW_iff {d : Nat} : inW d = true ↔ 1 ≤ d ∧ d ≤ 4096 := by unfold inW; simp; omega

structure S where
  b : Int
  p : Nat → Bool
def has (s : S) (x : Int) : Bool := inW (far s.b x) && s.p (far s.b x)
def addB (s : S) (x : Int) : Bool := inW (far s.b x) && !s.p (far s.b x)
def add (s : S) (x : Int) : S := if inW (far s.b x) then ⟨s.b, fun d => decide (d = far s.b x) || s.p d⟩ else s
/-- the base goes on by so many -/
def shift (s : S) (n : Nat) : S := ⟨u32 (s.b + n), fun d => inW d && s.p (d + n)⟩
/-- how many follow one behind the other -/
def lead (p : Nat → Bool) : Nat → Nat → Nat
  | 0, _ => 0
  | n + 1, d => if p (d + 1) then lead p n (d + 1) + 1 else 0
def fol (s : S) : Nat := lead s.p 4096 0
def settle (s : S) : S := shift s (fol s)
def moveN (s : S) (x : Int) : Nat := if inW (far s.b x) then far s.b x + fol (shift s (far s.b x)) else 0
def move (s : S) (x : Int) : S := if inW (far s.b x) then settle (shift s (far s.b x)) else s
/-- the distances, rising -/
def dist (p : Nat → Bool) : List Nat := (List.range 4097).filter p
def count (s : S) : Nat := (dist s.p).length
def last (s : S) : Int := u32 (s.b + ((dist s.p).getLast?.getD 0 : Nat))
/-- the runs of rising numbers, so many at most -/
def runs (most : Int) : List (Nat × Nat) → List Nat → List (Nat × Nat)
  | acc, [] => acc
  | acc, d :: ds => match acc.getLast? with
    | some (f, t) => if t + 1 = d then runs most (acc.dropLast ++ [(f, d)]) ds else if (acc.length : Int) = most then acc else runs most (acc ++ [(d, d)]) ds
    | none => if (acc.length : Int) = most then acc else runs most (acc ++ [(d, d)]) ds
def gaps (s : S) (most : Int) : List (Nat × Nat) := if most < 1 then [] else runs most [] (dist s.p)
/-- nothing lies outside -/
def S.ok (s : S) : Prop := (0 ≤ s.b ∧ s.b < 4294967296) ∧ ∀ d, s.p d = true → 1 ≤ d ∧ d ≤ 4096

theorem S.ext {s t : S} (h1 : s.b = t.b) (h2 : ∀ d, s.p d = t.p d) : s = t := by
  cases s; cases t; simp at h1 h2; subst h1; congr 1; exact funext h2
theorem shift_ok {s : S} (_h : s.ok) (n : Nat) : (shift s n).ok := by
  refine ⟨by dsimp only [shift]; rw [u32_eq]; omega, fun d hd => ?_⟩
  dsimp only [shift] at hd
  rw [Bool.and_eq_true] at hd
  exact inW_iff.1 hd.1
theorem add_ok {s : S} (h : s.ok) (x : Int) : (add s x).ok := by
  unfold add
  split
  · rename_i hw
    refine ⟨h.1, fun d hd => ?_⟩
    simp at hd
    rcases hd with rfl | hd
    · exact inW_iff.1 hw
    · exact h.2 d hd
  · exact h
theorem settle_ok {s : S} (h : s.ok) : (settle s).ok := shift_ok h _
theorem shift_zero {s : S} (h : s.ok) : shift s 0 = s := by
  refine S.ext ?_ (fun d => ?_)
  · have := h.1; show u32 (s.b + ((0 : Nat) : Int)) = s.b; rw [u32_eq]; omega
  · show (inW d && s.p (d + 0)) = s.p d
    rw [Nat.add_zero]
    cases hp : s.p d with
    | false => simp
    | true => rw [inW_iff.2 (h.2 d hp)]; rfl
theorem shift_shift {s : S} (h : s.ok) (m n : Nat) : shift (shift s m) n = shift s (m + n) := by
  refine S.ext ?_ (fun d => ?_)
  · dsimp only [shift]; simp only [u32_eq]; omega
  · dsimp only [shift]
    rw [show d + n + m = d + (m + n) by omega]
    cases hd : inW d with
    | false => rfl
    | true =>
      cases hp : s.p (d + (m + n)) with
      | false => simp
      | true =>
        have h1 := h.2 _ hp
        have h2 := inW_iff.1 hd
        rw [inW_iff.2 (show 1 ≤ d + n ∧ d + n ≤ 4096 by omega)]
        rfl
/-- one after the other -/
theorem lead_le (p : Nat → Bool) : ∀ (n d : Nat), lead p n d ≤ n
  | 0, _ => Nat.le_refl _
  | n + 1, d => by rw [lead]; split; exact Nat.succ_le_succ (lead_le p n (d + 1)); omega
theorem lead_all (p : Nat → Bool) : ∀ (n d k : Nat), d < k → k ≤ d + lead p n d → p k = true
  | 0, d, k, h1, h2 => by rw [lead] at h2; omega
  | n + 1, d, k, h1, h2 => by
    rw [lead] at h2
    split at h2
    · rename_i hp
      by_cases hk : k = d + 1
      · rw [hk]; exact hp
      · exact lead_all p n (d + 1) k (by omega) (by omega)
    · omega
theorem lead_stop (p : Nat → Bool) : ∀ (n d : Nat), lead p n d < n → p (d + lead p n d + 1) = false
  | 0, _, h => by omega
  | n + 1, d, h => by
    rw [lead] at h ⊢
    split
    · rename_i hp
      rw [if_pos hp] at h
      have := lead_stop p n (d + 1) (by omega)
      rw [show d + (lead p n (d + 1) + 1) + 1 = d + 1 + lead p n (d + 1) + 1 by omega]
      exact this
    · rename_i hp; simpa using hp
theorem lead_eq {p : Nat → Bool} {k : Nat} (h1 : ∀ j, 1 ≤ j → j ≤ k → p j = true) (h2 : p (k + 1) = false) (hk : k ≤ 4096) : lead p 4096 0 = k := by
  have h3 := lead_le p 4096 0
  rcases Nat.lt_trichotomy (lead p 4096 0) k with h | h | h
  · have := lead_stop p 4096 0 (by omega)
    rw [h1 _ (by omega) (by omega)] at this; cases this
  · exact h
  · have := lead_all p 4096 0 (k + 1) (by omega) (by omega)
    rw [h2] at this; cases this
theorem fol_le (s : S) : fol s ≤ 4096 := lead_le _ _ _
theorem fol_all {s : S} {k : Nat} (h1 : 1 ≤ k) (h2 : k ≤ fol s) : s.p k = true := lead_all s.p 4096 0 k (by omega) (by unfold fol at h2; omega)
theorem fol_stop {s : S} (h : s.ok) : s.p (fol s + 1) = false := by
  by_cases hf : fol s < 4096
  · have := lead_stop s.p 4096 0 hf
    simpa [fol] using this
  · cases hp : s.p (fol s + 1) with
    | false => rfl
    | true => have := h.2 _ hp; omega
theorem mem_dist {p : Nat → Bool} {d : Nat} : d ∈ dist p ↔ d ≤ 4096 ∧ p d = true := by
  unfold dist; rw [List.mem_filter, List.mem_range]; constructor <;> intro h <;> exact ⟨by omega, h.2⟩
theorem dist_sorted (p : Nat → Bool) : (dist p).Pairwise (· < ·) := List.pairwise_lt_range.filter _
theorem dist_nodup (p : Nat → Bool) : (dist p).Nodup := List.nodup_range.filter _
theorem sorted_ext : ∀ {l1 l2 : List Nat}, l1.Pairwise (· < ·) → l2.Pairwise (· < ·) → (∀ a, a ∈ l1 ↔ a ∈ l2) → l1 = l2
  | [], [], _, _, _ => rfl
  | [], b :: l2, _, _, h => absurd ((h b).2 (by simp)) (by simp)
  | a :: l1, [], _, _, h => absurd ((h a).1 (by simp)) (by simp)
  | a :: l1, b :: l2, h1, h2, h => by
    rw [List.pairwise_cons] at h1 h2
    have hab : a = b := by
      rcases List.mem_cons.1 ((h a).1 (by simp)) with h3 | h3
      · exact h3
      rcases List.mem_cons.1 ((h b).2 (by simp)) with h4 | h4
      · exact h4.symm
      have := h2.1 a h3
      have := h1.1 b h4
      omega
    subst hab
    rw [sorted_ext h1.2 h2.2 (fun c => ?_)]
    constructor
    · intro hc
      rcases List.mem_cons.1 ((h c).1 (by simp [hc])) with h3 | h3
      · subst h3; exact absurd (h1.1 c hc) (Nat.lt_irrefl _)
      · exact h3
    · intro hc
      rcases List.mem_cons.1 ((h c).2 (by simp [hc])) with h3 | h3
      · subst h3; exact absurd (h2.1 c hc) (Nat.lt_irrefl _)
      · exact h3
end Go.Spn
namespace Go.Rm
open Go

abbrev u32 (n : Int) : Int := IntKind.u32.wrap n
abbrev u16 (n : Int) : Int := IntKind.u16.wrap n

/-- is one ahead of another one? -/
def less16 (a b : Int) : Bool := decide (u16 (b - a) > 0) && decide (u16 (b - a) ≤ 32767)
def less32 (a b : Int) : Bool := decide (u32 (b - a) > 0) && decide (u32 (b - a) ≤ 2147483647)

/-- a piece -/
structure D where
  tsn : Int
  stream : Int
  ssn : Int
  un : Bool
  fi : Bool
  la : Bool
  bytes : List UInt8

/-- a message -/
structure Mg where
  stream : Int
  ordered : Bool
  bytes : List UInt8

def at? (L : List D) (t : Int) : Option D := L.find? (fun d => t == d.tsn)
def mates (a b : D) : Bool := a.stream == b.stream && a.ssn == b.ssn && a.un == b.un

def back (L : List D) (p : D) : Nat → Int → D → Option Int
  | 0, _, _ => none
  | n + 1, first, q => if q.fi then some first else
    match at? L (u32 (first - 1)) with
    | none => none
    | some x => if !mates x p || x.la then none else back L p n (u32 (first - 1)) x
def forth (L : List D) (p : D) : Nat → Int → D → Option Int
  | 0, _, _ => none
  | n + 1, last, q => if q.la then some last else
    match at? L (u32 (last + 1)) with
    | none => none
    | some x => if !mates x p || x.fi then none else forth L p n (u32 (last + 1)) x
/-- the first and the last TSN of the whole message of a piece -/
def whole (L : List D) (p : D) : Option (Int × Int) :=
  match back L p (L.length + 1) p.tsn p with
  | none => none
  | some f => match forth L p (L.length + 1) p.tsn p with
    | none => none
    | some l => some (f, l)

theorem u32_eq (n : Int) : u32 n = n % 4294967296 := by simp [u32, IntKind.wrap, IntKind.bits, IntKind.signed]
theorem u16_eq (n : Int) : u16 n = n % 65536 := by simp [u16, IntKind.wrap, IntKind.bits, IntKind.signed]

theorem at_mem {L : List D} {t : Int} {d : D} (h : at? L t = some d) : d ∈ L ∧ d.tsn = t := by
  unfold at? at h
  exact ⟨List.mem_of_find?_eq_some h, by have := List.find?_some h; simp at this; exact this.symm⟩

/-- distinct things in a list are no more than the list's length -/
theorem length_le_of_nodup {α : Type} : ∀ (l1 l2 : List α), l1.Nodup → (∀ a ∈ l1, a ∈ l2) → l1.length ≤ l2.length
  | [], _, _, _ => Nat.zero_le _
  | a :: l1, l2, h, hs => by
    obtain ⟨s, t, rfl⟩ := List.append_of_mem (hs a (by simp))
    rw [List.nodup_cons] at h
    have ih := length_le_of_nodup l1 (s ++ t) h.2 (fun b hb => by
      have := hs b (by simp [hb])
      rw [List.mem_append, List.mem_cons] at this
      rcases this with h1 | h1 | h1
      · exact List.mem_append_left _ h1
      · exact absurd (h1 ▸ hb) h.1
      · exact List.mem_append_right _ h1)
    simp at ih ⊢
    omega

theorem nodup_map {α β : Type} (f : α → β) : ∀ (l : List α), l.Nodup → (∀ a ∈ l, ∀ b ∈ l, f a = f b → a = b) → (l.map f).Nodup
  | [], _, _ => by simp
  | a :: l, h, hi => by
    rw [List.map_cons, List.nodup_cons]
    rw [List.nodup_cons] at h
    refine ⟨fun hm => ?_, nodup_map f l h.2 (fun x hx y hy => hi x (by simp [hx]) y (by simp [hy]))⟩
    obtain ⟨b, hb, he⟩ := List.mem_map.1 hm
    have := hi b (by simp [hb]) a (by simp) he
    exact h.1 (this ▸ hb)

/-- so many TSNs one behind the other, all of them there, are no more than the pieces -/
theorem run_le {L : List D} {t : Int} {k : Nat} (s : Int) (hs : s = 1 ∨ s = -1) (hk : k < 4294967296) (h : ∀ i : Nat, 1 ≤ i → i ≤ k → ∃ d ∈ L, d.tsn = u32 (t + s * i)) : k ≤ L.length := by
  have h1 : ((List.range k).map (fun i : Nat => u32 (t + s * ((i : Int) + 1)))).Nodup := nodup_map _ _ (List.nodup_range) (fun a ha b hb he => by
    simp only [u32_eq] at he
    have ha' := List.mem_range.1 ha
    have hb' := List.mem_range.1 hb
    rcases hs with rfl | rfl <;> omega)
  have h2 := length_le_of_nodup _ (L.map (·.tsn)) h1 (fun x hx => by
    obtain ⟨i, hi, rfl⟩ := List.mem_map.1 hx
    obtain ⟨d, hd, he⟩ := h (i + 1) (by omega) (by have := List.mem_range.1 hi; omega)
    exact List.mem_map.2 ⟨d, hd, by rw [he]; simp⟩)
  simpa using h2

/-- the bytes of some TSNs one behind the other, and what is left of the pieces -/
def gath : Nat → List D → Int → Int → List UInt8 → List UInt8 × List D
  | 0, L, _, _, acc => (acc, L)
  | n + 1, L, t, last, acc =>
    if t == last then (acc ++ (match at? L t with | some d => d.bytes | none => []), L.eraseP (fun d => t == d.tsn))
    else gath n (L.eraseP (fun d => t == d.tsn)) (u32 (t + 1)) last (acc ++ (match at? L t with | some d => d.bytes | none => []))
/-- the message of some TSNs becomes ready -/
def ready (L : List D) (row : List Mg) (f l : Int) : List D × List Mg :=
  let q := gath ((u32 (l - f)).toNat + 1) L f l []
  (q.2, row ++ [⟨((at? L f).map (·.stream)).getD 0, !((at? L f).map (·.un)).getD false, q.1⟩])
def totD (L : List D) : Nat := (L.map (·.bytes.length)).sum
def totM (L : List Mg) : Nat := (L.map (·.bytes.length)).sum

theorem at_erase_ne {L : List D} {t u : Int} (h : t ≠ u) : at? (L.eraseP (fun d => t == d.tsn)) u = at? L u := by
  induction L with
  | nil => rfl
  | cons d L ih =>
    unfold at? at ih ⊢
    by_cases ht : t = d.tsn
    · rw [List.eraseP_cons_of_pos (by simpa using ht), List.find?_cons_of_neg (by simp; omega)]
    · rw [List.eraseP_cons_of_neg (by simpa using ht), List.find?_cons, List.find?_cons, ih]
theorem tot_erase {L : List D} {t : Int} {d : D} (h : at? L t = some d) : totD L = d.bytes.length + totD (L.eraseP (fun d => t == d.tsn)) := by
  induction L with
  | nil => simp [at?] at h
  | cons e L ih =>
    unfold at? at ih h
    by_cases ht : t = e.tsn
    · rw [List.find?_cons_of_pos (by simpa using ht)] at h
      cases h
      rw [List.eraseP_cons_of_pos (by simpa using ht)]
      simp [totD]
    · rw [List.find?_cons_of_neg (by simpa using ht)] at h
      rw [List.eraseP_cons_of_neg (by simpa using ht)]
      have := ih h
      simp [totD] at this ⊢
      omega

/-- what a walk back, or on, has met -/
theorem back_met {L : List D} {p : D} : ∀ (n : Nat) (f : Int) (q : D) (r : Int), back L p n f q = some r → ∃ k : Nat, k < n ∧ u32 r = u32 (f - k) ∧ (k = 0 → r = f) ∧ (0 < k → r = u32 r) ∧ ∀ i : Nat, 1 ≤ i → i ≤ k → ∃ d, at? L (u32 (f - i)) = some d ∧ mates d p = true
  | 0, _, _, _, h => by simp [back] at h
  | n + 1, f, q, r, h => by
    rw [back] at h
    by_cases hq : q.fi = true
    · rw [if_pos hq] at h
      cases h
      exact ⟨0, by omega, by simp, fun _ => rfl, fun h => by omega, fun i h1 h2 => by omega⟩
    · rw [if_neg hq] at h
      cases hx : at? L (u32 (f - 1)) with
      | none => simp [hx] at h
      | some x =>
        simp only [hx] at h
        by_cases hm : (!mates x p || x.la) = true
        · rw [if_pos hm] at h; cases h
        · rw [if_neg hm] at h
          obtain ⟨k, h1, h2, h3, h4, h5⟩ := back_met n _ x r h
          refine ⟨k + 1, by omega, h2.trans (by simp only [u32_eq]; omega), fun h => by omega, fun _ => ?_, fun i hi1 hi2 => ?_⟩
          · rcases Nat.eq_zero_or_pos k with hk | hk
            · rw [h3 hk]; simp only [u32_eq]; omega
            · exact h4 hk
          · rcases Nat.lt_or_ge i 2 with hi | hi
            · obtain rfl : i = 1 := by omega
              exact ⟨x, hx, by simp at hm; exact hm.1⟩
            · obtain ⟨d, hd, hd2⟩ := h5 (i - 1) (by omega) (by omega)
              refine ⟨d, ?_, hd2⟩
              rw [← hd]; congr 1
              simp only [u32_eq]; omega
theorem forth_met {L : List D} {p : D} : ∀ (n : Nat) (f : Int) (q : D) (r : Int), forth L p n f q = some r → ∃ k : Nat, k < n ∧ u32 r = u32 (f + k) ∧ (k = 0 → r = f) ∧ (0 < k → r = u32 r) ∧ ∀ i : Nat, 1 ≤ i → i ≤ k → ∃ d, at? L (u32 (f + i)) = some d ∧ mates d p = true
  | 0, _, _, _, h => by simp [forth] at h
  | n + 1, f, q, r, h => by
    rw [forth] at h
    by_cases hq : q.la = true
    · rw [if_pos hq] at h
      cases h
      exact ⟨0, by omega, by simp, fun _ => rfl, fun h => by omega, fun i h1 h2 => by omega⟩
    · rw [if_neg hq] at h
      cases hx : at? L (u32 (f + 1)) with
      | none => simp [hx] at h
      | some x =>
        simp only [hx] at h
        by_cases hm : (!mates x p || x.fi) = true
        · rw [if_pos hm] at h; cases h
        · rw [if_neg hm] at h
          obtain ⟨k, h1, h2, h3, h4, h5⟩ := forth_met n _ x r h
          refine ⟨k + 1, by omega, h2.trans (by simp only [u32_eq]; omega), fun h => by omega, fun _ => ?_, fun i hi1 hi2 => ?_⟩
          · rcases Nat.eq_zero_or_pos k with hk | hk
            · rw [h3 hk]; simp only [u32_eq]; omega
            · exact h4 hk
          · rcases Nat.lt_or_ge i 2 with hi | hi
            · obtain rfl : i = 1 := by omega
              exact ⟨x, hx, by simp at hm; exact hm.1⟩
            · obtain ⟨d, hd, hd2⟩ := h5 (i - 1) (by omega) (by omega)
              refine ⟨d, ?_, hd2⟩
              rw [← hd]; congr 1
              simp only [u32_eq]; omega

/-- where a message is whole: its TSNs run from the first to the last, each of them is there, and is a mate of the piece -/
theorem whole_run {L : List D} {p : D} {f l : Int} (hp : at? L p.tsn = some p) (h32 : 0 ≤ p.tsn ∧ p.tsn < 4294967296) (hL : L.length < 2147483000) (h : whole L p = some (f, l)) :
    (0 ≤ f ∧ f < 4294967296) ∧ ∃ n : Nat, n < 4294967296 ∧ l = u32 (f + n) ∧ (u32 (l - f)).toNat = n ∧ n ≤ 2 * L.length + 2 ∧ ∀ i : Nat, i ≤ n → ∃ d, at? L (u32 (f + i)) = some d ∧ mates d p = true := by
  unfold whole at h
  cases hb : back L p (L.length + 1) p.tsn p with
  | none => simp [hb] at h
  | some f' =>
    simp only [hb] at h
    cases hf : forth L p (L.length + 1) p.tsn p with
    | none => simp [hf] at h
    | some l' =>
      simp only [hf, Option.some.injEq, Prod.mk.injEq] at h
      obtain ⟨rfl, rfl⟩ := h
      obtain ⟨k, h1, h2, h3, h4, h5⟩ := back_met _ _ _ _ hb
      obtain ⟨m, g1, g2, g3, g4, g5⟩ := forth_met _ _ _ _ hf
      have hpp : mates p p = true := by simp [mates]
      have e0 : u32 p.tsn = p.tsn := by simp only [u32_eq]; omega
      have hf1 : f' = u32 (p.tsn - k) := by
        rcases Nat.eq_zero_or_pos k with hk | hk
        · rw [h3 hk, hk]; simp only [u32_eq]; omega
        · rw [h4 hk, h2]
      have hl1 : l' = u32 (p.tsn + m) := by
        rcases Nat.eq_zero_or_pos m with hk | hk
        · rw [g3 hk, hk]; simp only [u32_eq]; omega
        · rw [g4 hk, g2]
      refine ⟨by rw [hf1]; simp only [u32_eq]; omega, k + m, by omega, ?_, ?_, by omega, fun i hi => ?_⟩
      · rw [hl1, hf1]; simp only [u32_eq]; omega
      · rw [hl1, hf1]; simp only [u32_eq]; omega
      · rcases Nat.lt_trichotomy i k with hik | hik | hik
        · obtain ⟨d, hd, hd2⟩ := h5 (k - i) (by omega) (by omega)
          refine ⟨d, ?_, hd2⟩
          rw [← hd]; congr 1
          rw [hf1]; simp only [u32_eq]; omega
        · refine ⟨p, ?_, hpp⟩
          rw [← hp]; congr 1
          rw [hf1]; simp only [u32_eq]; omega
        · obtain ⟨d, hd, hd2⟩ := g5 (i - k) (by omega) (by omega)
          refine ⟨d, ?_, hd2⟩
          rw [← hd]; congr 1
          rw [hf1]; simp only [u32_eq]; omega

/-- the whole ordered message of a stream and a number that a piece is of -/
def isC (L : List D) (stream ssn : Int) (d : D) : Option (Int × Int) := if !d.un && d.stream == stream && d.ssn == ssn then whole L d else none
/-- .. the one of which some piece came first -/
def cand (L : List D) (stream ssn : Int) : Option (Int × Int) := L.findSome? (isC L stream ssn)

theorem findSome_least {α : Type} {turn : α → Int} {g : α → Option (Int × Int)} : ∀ (l : List α) (b : α), l.Pairwise (fun p q => turn p < turn q) → b ∈ l → (g b).isSome = true → (∀ p ∈ l, (g p).isSome = true → turn b ≤ turn p) → l.findSome? g = g b
  | [], _, _, h, _, _ => by cases h
  | a :: l, b, hp, hb, hg, hm => by
    rw [List.pairwise_cons] at hp
    rw [List.findSome?_cons]
    cases ha : g a with
    | some r =>
      have h1 := hm a (by simp) (by simp [ha])
      rcases List.mem_cons.1 hb with rfl | hb
      · exact ha.symm
      · have := hp.1 b hb; omega
    | none =>
      rcases List.mem_cons.1 hb with rfl | hb
      · simp [ha] at hg
      · exact findSome_least l b hp.2 hb hg (fun p hp' => hm p (by simp [hp']))
end Go.Rm
namespace Go.Rm
open Go

theorem erase_le {L : List D} {t : Int} : (L.eraseP (fun d => t == d.tsn)).length ≤ L.length := (List.eraseP_sublist).length_le
theorem gath_le : ∀ (n : Nat) (L : List D) (t l : Int) (acc : List UInt8), (gath n L t l acc).2.length ≤ L.length
  | 0, _, _, _, _ => Nat.le_refl _
  | n + 1, L, t, l, acc => by
    rw [gath]
    split
    · exact erase_le
    · exact Nat.le_trans (gath_le n _ _ _ _) erase_le
theorem erase_lt {L : List D} {t : Int} {d : D} (h : at? L t = some d) : (L.eraseP (fun d => t == d.tsn)).length < L.length := by
  obtain ⟨h1, h2⟩ := at_mem h
  rw [List.length_eraseP_of_mem h1 (by simp [h2])]
  have := List.length_pos_of_mem h1
  omega
theorem ready_lt {L : List D} {row : List Mg} {f l : Int} {d : D} (h : at? L f = some d) : (ready L row f l).1.length < L.length := by
  dsimp only [ready]
  rw [gath]
  split
  · exact erase_lt h
  · exact Nat.lt_of_le_of_lt (gath_le _ _ _ _ _) (erase_lt h)

/-- what is there: the pieces, the row, the streams' next numbers -/
structure S where
  L : List D
  row : List Mg
  nx : List Int
/-- the ordered messages that come next become ready -/
def onN : Nat → S → Int → S
  | 0, s, _ => s
  | n + 1, s, st => match cand s.L st (s.nx.getD st.toNat 0) with
    | none => s
    | some (f, l) => onN n ⟨(ready s.L s.row f l).1, (ready s.L s.row f l).2, s.nx.set st.toNat (u16 (s.nx.getD st.toNat 0 + 1))⟩ st
def on (s : S) (st : Int) : S := onN (s.L.length + 1) s st
/-- a piece that is taken -/
def put1 (s : S) (d : D) : S :=
  if d.un then match whole (s.L ++ [d]) d with
    | none => ⟨s.L ++ [d], s.row, s.nx⟩
    | some (f, l) => ⟨(ready (s.L ++ [d]) s.row f l).1, (ready (s.L ++ [d]) s.row f l).2, s.nx⟩
  else on ⟨s.L ++ [d], s.row, s.nx⟩ d.stream
/-- what stands against a piece -/
def putE (s : S) (d : D) : Int :=
  if d.stream ≥ s.nx.length then 4 else if d.bytes = [] then 5 else if !d.un && less16 d.ssn (s.nx.getD d.stream.toNat 0) then 1 else if (at? s.L d.tsn).isSome then 1 else 0
def put (s : S) (d : D) : S := if putE s d = 0 then put1 s d else s
/-- a piece up to a TSN that is of no whole message -/
def doomP (L : List D) (cum : Int) (d : D) : Bool := (d.tsn == cum || less32 d.tsn cum) && (whole L d).isNone
def parts (s : S) (cum : Int) : S := ⟨s.L.filter (fun d => !doomP s.L cum d), s.row, s.nx⟩
/-- a piece of a message that was gone over -/
def doomS (st n : Int) (d : D) : Bool := !d.un && d.stream == st && less16 d.ssn n
def wait (s : S) (st : Int) : S := match cand s.L st (s.nx.getD st.toNat 0) with
  | none => s
  | some (f, l) => ⟨(ready s.L s.row f l).1, (ready s.L s.row f l).2, s.nx⟩
/-- up to a number -/
def upto : Nat → S → Int → Int → S
  | 0, s, _, _ => s
  | n + 1, s, st, e => if s.nx.getD st.toNat 0 = e then s else upto n { wait s st with nx := (wait s st).nx.set st.toNat (u16 (s.nx.getD st.toNat 0 + 1)) } st e
def skip1 (s : S) (st to : Int) : S :=
  if s.nx.getD st.toNat 0 ≠ to ∧ less16 (s.nx.getD st.toNat 0) to = false then s
  else
    let q := upto ((u16 (u16 (to + 1) - s.nx.getD st.toNat 0)).toNat + 1) s st (u16 (to + 1))
    on ⟨q.L.filter (fun d => !doomS st (q.nx.getD st.toNat 0) d), q.row, q.nx⟩ st
/-- a message that was skipped: its stream and its number -/
structure Sk where
  st : Int
  n : Int
def skipE (s : S) (l : List Sk) : Int := if l.any (fun k => decide (k.st ≥ s.nx.length)) then 4 else 0
def skip (s : S) (cum : Int) (l : List Sk) : S := if skipE s l = 0 then l.foldl (fun s k => skip1 s k.st k.n) (parts s cum) else s
def take (s : S) : Option Mg × S := match s.row with
  | [] => (none, s)
  | m :: r => (some m, ⟨s.L, r, s.nx⟩)
end Go.Rm
namespace Go.Flt
open Go Go.Spn

/-- a piece that was sent -/
structure Rc where
  tsn : Int
  stream : Int
  ssn : Int
  un : Bool
  fi : Bool
  la : Bool
  bs : List UInt8
  path : Int
  id : Int
  miss : Int
  at_ : Int
  acked : Bool
  lost : Bool
  gone : Bool
  again : Bool
structure S where
  L : List Rc
  c : Int
  paths : Int
def away (r : Rc) : Bool := !r.acked && !r.lost && !r.gone
def openR (r : Rc) : Bool := r.lost && !r.acked && !r.gone
def byP (p : Int) (r : Rc) : Bool := decide (r.path = p) && away r
def ofId (i : Int) (r : Rc) : Bool := decide (r.id = i) && !r.acked && !r.gone
def unack (r : Rc) : Bool := !r.acked
def isAck (r : Rc) : Bool := r.acked
def low1 (r : Rc) : Bool := !r.acked && !r.gone
/-- so many bytes of those of a kind -/
def sumB (q : Rc → Bool) (L : List Rc) : Nat := ((L.filter q).map (fun r => r.bs.length)).sum
def cntB (q : Rc → Bool) (L : List Rc) : Nat := (L.filter q).length
/-- those of a kind are turned -/
def sel (q : Rc → Bool) (f : Rc → Rc) (L : List Rc) : List Rc := L.map (fun r => if q r then f r else r)
def half (q : Rc → Bool) (f : Rc → Rc) (L : List Rc) (i : Nat) : List Rc := sel q f (L.take i) ++ L.drop i
def setLost (r : Rc) : Rc := { r with lost := true }
def setGone (r : Rc) : Rc := { r with gone := true }
def out (s : S) (p : Int) : Nat := sumB (byP p) s.L
def openB (s : S) : Nat := sumB unack s.L
def lostL (s : S) : List Int := (s.L.filter openR).map (·.tsn)
def markN (s : S) (p : Int) : Nat := cntB (byP p) s.L
def mark (s : S) (p : Int) : S := { s with L := sel (byP p) setLost s.L }
def abandonN (s : S) (i : Int) : Nat := cntB (ofId i) s.L
def abandon (s : S) (i : Int) : S := { s with L := sel (ofId i) setGone s.L }

theorem sumB_snoc (q : Rc → Bool) {L : List Rc} {i : Nat} {r : Rc} (h : L[i]? = some r) : sumB q (L.take (i + 1)) = sumB q (L.take i) + if q r then r.bs.length else 0 := by
  unfold sumB
  rw [List.take_add_one, h, List.filter_append]
  cases hq : q r <;> simp [hq]
theorem cntB_snoc (q : Rc → Bool) {L : List Rc} {i : Nat} {r : Rc} (h : L[i]? = some r) : cntB q (L.take (i + 1)) = cntB q (L.take i) + if q r then 1 else 0 := by
  unfold cntB
  rw [List.take_add_one, h, List.filter_append]
  cases hq : q r <;> simp [hq]
theorem cntB_le (q : Rc → Bool) (L : List Rc) : cntB q L ≤ L.length := List.length_filter_le _ _
theorem sumB_append (q : Rc → Bool) (L M : List Rc) : sumB q (L ++ M) = sumB q L + sumB q M := by
  unfold sumB
  rw [List.filter_append, List.map_append, List.sum_append]
theorem sumB_take (q : Rc → Bool) (L : List Rc) (i : Nat) : sumB q (L.take i) ≤ sumB q L := by
  have := sumB_append q (L.take i) (L.drop i)
  rw [List.take_append_drop] at this
  omega
theorem half_len (q : Rc → Bool) (f : Rc → Rc) (L : List Rc) (i : Nat) : (half q f L i).length = L.length := by
  unfold half sel
  rw [List.length_append, List.length_map, ← List.length_append, List.take_append_drop]
theorem half_get (q : Rc → Bool) (f : Rc → Rc) {L : List Rc} {i : Nat} {r : Rc} (h : L[i]? = some r) : (half q f L i)[i]? = some r := by
  have hi := (List.getElem?_eq_some_iff.1 h).1
  unfold half sel
  rw [List.getElem?_append_right (by simp; omega)]
  simp only [List.length_map, List.length_take]
  rw [List.getElem?_drop, show i + (i - min i L.length) = i by omega]
  exact h
theorem half_zero (q : Rc → Bool) (f : Rc → Rc) (L : List Rc) : half q f L 0 = L := rfl
theorem half_all (q : Rc → Bool) (f : Rc → Rc) (L : List Rc) : half q f L L.length = sel q f L := by
  unfold half
  rw [List.take_length, List.drop_length, List.append_nil]
theorem half_succ (q : Rc → Bool) (f : Rc → Rc) {L : List Rc} {i : Nat} {r : Rc} (h : L[i]? = some r) : half q f L (i + 1) = (half q f L i).set i (if q r then f r else r) := by
  have hi := (List.getElem?_eq_some_iff.1 h).1
  have hd : L.drop i = r :: L.drop (i + 1) := by
    rw [List.drop_eq_getElem_cons hi]
    have := (List.getElem?_eq_some_iff.1 h).2
    rw [this]
  unfold half sel
  rw [List.take_add_one, h, hd, List.map_append, List.set_append_right _ _ (by simp; omega)]
  have : i - ((L.take i).map (fun r => if q r then f r else r)).length = 0 := by simp; omega
  rw [this]
  simp
/-- a piece, as it is told -/
structure Dt where
  tsn : Int
  stream : Int
  ssn : Int
  un : Bool
  fi : Bool
  la : Bool
  bs : List UInt8
def Rc.d (r : Rc) : Dt := ⟨r.tsn, r.stream, r.ssn, r.un, r.fi, r.la, r.bs⟩
/-- the place of a number -/
def atI (c : Int) (n : Nat) (t : Int) : Option Nat := if 0 < Spn.far c t ∧ Spn.far c t ≤ n then some (Spn.far c t - 1) else none
def getD (s : S) (t : Int) : Option (Dt × Int) := match atI s.c s.L.length t with
  | some i => (s.L[i]?).map (fun r => (r.d, r.path))
  | none => none
def setAgain (path now : Int) (r : Rc) : Rc := { r with path := path, at_ := now, lost := false, again := true }
def again (s : S) (t path now : Int) : S × Int := if path < 0 ∨ s.paths ≤ path then (s, 1) else match atI s.c s.L.length t with
  | none => (s, 11)
  | some i => match s.L[i]? with
    | none => (s, 11)
    | some r => if openR r then ({ s with L := s.L.set i (setAgain path now r) }, 0) else (s, 11)
def newT (s : S) : Int := Spn.u32 (Spn.u32 (s.c + 1) + Spn.u32 s.L.length)
def newR (s : S) (d : Dt) (path now id : Int) : Rc := ⟨newT s, d.stream, d.ssn, d.un, d.fi, d.la, d.bs, path, id, 0, now, false, false, false, false⟩
def addE (s : S) (d : Dt) (path : Int) : Int := if path < 0 ∨ s.paths ≤ path ∨ d.bs = [] then 1 else if 2048 ≤ s.L.length then 6 else 0
def add (s : S) (d : Dt) (path now id : Int) : S := if addE s d path = 0 then { s with L := s.L ++ [newR s d path now id] } else s
/-- those that may be forwarded over -/
def ptL (L : List Rc) : List Dt := (L.takeWhile (·.gone)).map Rc.d
end Go.Flt
namespace Go.Flt
open Go

abbrev i64 (n : Int) : Int := IntKind.i64.wrap n
structure PT where
  acked : Int
  pseudo : Bool
  fast : Bool
  at_ : Int
  some_ : Bool
structure Tld where
  freed : Int
  whole : Bool
  p0 : PT
  p1 : PT
  p2 : PT
  p3 : PT
def PT.zero : PT := ⟨0, false, false, 0, false⟩
def Tld.zero : Tld := ⟨0, false, PT.zero, PT.zero, PT.zero, PT.zero⟩
def Tld.upd (t : Tld) (p : Int) (f : PT → PT) : Tld := if p = 0 then { t with p0 := f t.p0 } else if p = 1 then { t with p1 := f t.p1 } else if p = 2 then { t with p2 := f t.p2 } else { t with p3 := f t.p3 }
structure Q4 (α : Type) where
  q0 : α
  q1 : α
  q2 : α
  q3 : α
def Q4.get {α : Type} (q : Q4 α) (p : Int) : α := if p = 0 then q.q0 else if p = 1 then q.q1 else if p = 2 then q.q2 else q.q3
def Q4.set {α : Type} (q : Q4 α) (p : Int) (v : α) : Q4 α := if p = 0 then { q with q0 := v } else if p = 1 then { q with q1 := v } else if p = 2 then { q with q2 := v } else { q with q3 := v }
def takeP (r : Rc) (low : Bool) (q : PT) : PT := ⟨if r.gone then q.acked else i64 (q.acked + r.bs.length), q.pseudo || low, q.fast, if r.again then q.at_ else r.at_, if r.again then q.some_ else true⟩
def setAck (r : Rc) : Rc := { r with acked := true }
structure AK where
  L : List Rc
  t : Tld
  high : Q4 Int
def ack1 (low : Q4 (Option Nat)) (k : AK) (i : Nat) : AK := match k.L[i]? with
  | none => k
  | some r => if r.acked then k else ⟨k.L.set i (setAck r), k.t.upd r.path (takeP r (decide (low.get r.path = some i))), k.high.set r.path i⟩
def ackR (low : Q4 (Option Nat)) (k : AK) (a n : Nat) : AK := (List.range' a n).foldl (ack1 low) k
def ackAll (low : Q4 (Option Nat)) (k : AK) (sp : List (Nat × Nat)) : AK := sp.foldl (fun k g => ackR low k g.1 (g.2 - g.1)) k
def missR (r : Rc) : Rc := if 3 ≤ i64 (r.miss + 1) then { r with miss := i64 (r.miss + 1), lost := true } else { r with miss := i64 (r.miss + 1) }
def missB (high : Q4 Int) (i : Nat) (r : Rc) : Bool := away r && !r.again && decide ((i : Int) < high.get r.path)
def fastP (q : PT) : PT := { q with fast := true }
def miss1 (high : Q4 Int) (x : List Rc × Tld) (i : Nat) : List Rc × Tld := match x.1[i]? with
  | none => x
  | some r => if missB high i r then (x.1.set i (missR r), if 3 ≤ i64 (r.miss + 1) then x.2.upd r.path fastP else x.2) else x
def missAll (high : Q4 Int) (x : List Rc × Tld) : List Rc × Tld := (List.range x.1.length).foldl (miss1 high) x
/-- the first record of a path that is neither acknowledged nor gone -/
def lowP (L : List Rc) (p : Int) : Option Nat := L.findIdx? (fun r => low1 r && decide (r.path = p))
def lowQ (L : List Rc) : Q4 (Option Nat) := ⟨lowP L 0, lowP L 1, lowP L 2, lowP L 3⟩
/-- may gaps be? -/
def okG (n base : Nat) : Nat → List (Nat × Nat) → Bool
  | _, [] => true
  | last, g :: gs => !decide (g.1 < last + 2) && !decide (g.2 < g.1) && !decide (n < base + g.2) && okG n base g.2 gs
def spL (base : Nat) (gs : List (Nat × Nat)) : List (Nat × Nat) := (0, base) :: gs.map (fun g => (base + g.1 - 1, base + g.2))
def span (s : S) (y : Int) (gs : List (Nat × Nat)) : Option (List (Nat × Nat)) :=
  if y ≠ s.c ∧ atI s.c s.L.length y = none then none else if okG s.L.length (Spn.far s.c y) 0 gs then some (spL (Spn.far s.c y) gs) else none
def toldN (sp : List (Nat × Nat)) : Nat := (sp.map (fun g => g.2 - g.1)).sum
def sack (s : S) (y : Int) (gs : List (Nat × Nat)) : Option (S × Tld) := match span s y gs with
  | none => none
  | some sp =>
    let k := ackAll (lowQ s.L) ⟨s.L, Tld.zero, ⟨-1, -1, -1, -1⟩⟩ sp
    let x := missAll k.high (k.L, k.t)
    some (⟨x.1.drop (Spn.far s.c y), y, s.paths⟩, { x.2 with freed := sumB (fun _ => true) (x.1.take (Spn.far s.c y)), whole := decide (y ≠ s.c) || decide (toldN sp = cntB isAck x.1) })
theorem ackR_succ (low : Q4 (Option Nat)) (k : AK) (a i : Nat) : ackR low k a (i + 1) = ack1 low (ackR low k a i) (a + i) := by
  unfold ackR
  rw [List.range'_1_concat, List.foldl_append]
  rfl
theorem ackAll_snoc (low : Q4 (Option Nat)) (k : AK) {sp : List (Nat × Nat)} {j : Nat} {g : Nat × Nat} (h : sp[j]? = some g) : ackAll low k (sp.take (j + 1)) = ackR low (ackAll low k (sp.take j)) g.1 (g.2 - g.1) := by
  unfold ackAll
  rw [List.take_add_one, h, List.foldl_append]
  rfl
theorem miss_snoc (high : Q4 Int) (x : List Rc × Tld) (i : Nat) : (List.range (i + 1)).foldl (miss1 high) x = miss1 high ((List.range i).foldl (miss1 high) x) i := by
  rw [List.range_succ, List.foldl_append]
  rfl
theorem toldN_snoc {sp : List (Nat × Nat)} {j : Nat} {g : Nat × Nat} (h : sp[j]? = some g) : toldN (sp.take (j + 1)) = toldN (sp.take j) + (g.2 - g.1) := by
  unfold toldN
  rw [List.take_add_one, h, List.map_append, List.sum_append]
  simp
theorem okG_le : ∀ {n base last : Nat} {gs : List (Nat × Nat)}, okG n base last gs = true → ∀ g ∈ gs, 2 ≤ g.1 ∧ g.1 ≤ g.2 ∧ base + g.2 ≤ n
  | _, _, _, [], _, _, h => by cases h
  | n, base, last, a :: gs, h, g, hg => by
    rw [okG] at h
    simp only [Bool.and_eq_true, Bool.not_eq_true', decide_eq_false_iff_not] at h
    rcases List.mem_cons.1 hg with rfl | hg
    · omega
    · exact okG_le h.2 g hg
theorem span_ok {s : S} {y : Int} {gs sp : List (Nat × Nat)} (h : span s y gs = some sp) : sp = spL (Spn.far s.c y) gs ∧ Spn.far s.c y ≤ s.L.length ∧ ∀ g ∈ sp, g.1 ≤ g.2 ∧ g.2 ≤ s.L.length := by
  unfold span at h
  split at h
  · cases h
  · rename_i h1
    split at h
    · rename_i h2
      have hb : Spn.far s.c y ≤ s.L.length := by
        by_cases hy : y = s.c
        · subst hy
          have := Spn.far_int s.c s.c
          rw [Spn.u32_eq] at this
          simp at this
          omega
        · cases ha : atI s.c s.L.length y with
          | none => exact absurd ⟨hy, ha⟩ h1
          | some i =>
            unfold atI at ha
            split at ha
            · omega
            · cases ha
      cases h
      refine ⟨rfl, hb, fun g hg => ?_⟩
      unfold spL at hg
      rcases List.mem_cons.1 hg with rfl | hg
      · exact ⟨Nat.zero_le _, hb⟩
      · obtain ⟨q, hq, rfl⟩ := List.mem_map.1 hg
        have := okG_le h2 q hq
        dsimp only
        omega
    · cases h
theorem lowP_snoc {L : List Rc} {i : Nat} {r : Rc} (h : L[i]? = some r) (p : Int) : lowP (L.take (i + 1)) p = (lowP (L.take i) p).or (if low1 r && decide (r.path = p) then some i else none) := by
  have hi := (List.getElem?_eq_some_iff.1 h).1
  unfold lowP
  rw [List.take_add_one, h, List.findIdx?_append]
  have : (L.take i).length = i := by simp; omega
  rw [this]
  cases hq : (low1 r && decide (r.path = p)) <;> simp [hq, List.findIdx?_cons]
theorem lowP_lt {L : List Rc} {p : Int} {j : Nat} (h : lowP L p = some j) : j < L.length := by
  unfold lowP at h
  exact (List.findIdx?_eq_some_iff_getElem.1 h).1
theorem lowP_all (L : List Rc) (p : Int) : lowP (L.take L.length) p = lowP L p := by rw [List.take_length]
theorem set_bs {L : List Rc} {i : Nat} {r r' : Rc} (h : L[i]? = some r) (hb : r'.bs = r.bs) : (L.set i r').map (·.bs) = L.map (·.bs) := by
  rw [List.map_set]
  refine List.ext_getElem? (fun j => ?_)
  by_cases hj : i = j
  · subst hj
    have hi := (List.getElem?_eq_some_iff.1 h).1
    rw [List.getElem?_set_self (by simpa using hi), List.getElem?_map, h, hb]
    rfl
  · rw [List.getElem?_set_ne hj]
theorem ack1_bs (low : Q4 (Option Nat)) (k : AK) (i : Nat) : (ack1 low k i).L.map (·.bs) = k.L.map (·.bs) := by
  unfold ack1
  split
  · rfl
  · rename_i r h
    split
    · rfl
    · exact set_bs h rfl
theorem ackR_bs (low : Q4 (Option Nat)) (a : Nat) : ∀ (n : Nat) (k : AK), (ackR low k a n).L.map (·.bs) = k.L.map (·.bs)
  | 0, _ => rfl
  | n + 1, k => by rw [ackR_succ, ack1_bs, ackR_bs low a n k]
theorem ackAll_bs (low : Q4 (Option Nat)) : ∀ (sp : List (Nat × Nat)) (k : AK), (ackAll low k sp).L.map (·.bs) = k.L.map (·.bs)
  | [], _ => rfl
  | g :: sp, k => by
    show (ackAll low (ackR low k g.1 (g.2 - g.1)) sp).L.map (·.bs) = _
    rw [ackAll_bs low sp, ackR_bs]
theorem miss1_bs (high : Q4 Int) (x : List Rc × Tld) (i : Nat) : (miss1 high x i).1.map (·.bs) = x.1.map (·.bs) := by
  unfold miss1
  split
  · rfl
  · rename_i r h
    split
    · refine set_bs h ?_
      unfold missR
      split <;> rfl
    · rfl
theorem missF_bs (high : Q4 Int) (x : List Rc × Tld) : ∀ n, ((List.range n).foldl (miss1 high) x).1.map (·.bs) = x.1.map (·.bs)
  | 0 => rfl
  | n + 1 => by rw [miss_snoc, miss1_bs, missF_bs high x n]
theorem missAll_bs (high : Q4 Int) (x : List Rc × Tld) : (missAll high x).1.map (·.bs) = x.1.map (·.bs) := missF_bs high x _
theorem upd_freed (t : Tld) (p : Int) (f : PT → PT) : (t.upd p f).freed = t.freed := by unfold Tld.upd; split <;> (try split) <;> (try split) <;> rfl
theorem ack1_freed (low : Q4 (Option Nat)) (k : AK) (i : Nat) : (ack1 low k i).t.freed = k.t.freed := by
  unfold ack1
  split
  · rfl
  · split
    · rfl
    · exact upd_freed _ _ _
theorem ackR_freed (low : Q4 (Option Nat)) (a : Nat) : ∀ (n : Nat) (k : AK), (ackR low k a n).t.freed = k.t.freed
  | 0, _ => rfl
  | n + 1, k => by rw [ackR_succ, ack1_freed, ackR_freed low a n k]
theorem ackAll_freed (low : Q4 (Option Nat)) : ∀ (sp : List (Nat × Nat)) (k : AK), (ackAll low k sp).t.freed = k.t.freed
  | [], _ => rfl
  | g :: sp, k => by
    show (ackAll low (ackR low k g.1 (g.2 - g.1)) sp).t.freed = _
    rw [ackAll_freed low sp, ackR_freed]
theorem miss1_freed (high : Q4 Int) (x : List Rc × Tld) (i : Nat) : (miss1 high x i).2.freed = x.2.freed := by
  unfold miss1
  split
  · rfl
  · split
    · dsimp only
      split
      · exact upd_freed _ _ _
      · rfl
    · rfl
theorem missF_freed (high : Q4 Int) (x : List Rc × Tld) : ∀ n, ((List.range n).foldl (miss1 high) x).2.freed = x.2.freed
  | 0 => rfl
  | n + 1 => by rw [miss_snoc, miss1_freed, missF_freed high x n]
theorem sumB_all (L : List Rc) : sumB (fun _ => true) L = ((L.map (·.bs)).map List.length).sum := by
  unfold sumB
  rw [List.map_map, List.filter_eq_self.2 (fun _ _ => rfl)]
  rfl
theorem sumB_bs {L M : List Rc} (h : L.map (·.bs) = M.map (·.bs)) : sumB (fun _ => true) L = sumB (fun _ => true) M := by rw [sumB_all, sumB_all, h]
end Go.Flt
namespace Go.Flt
open Go

structure FOp where
  kind : Int
  d : Dt
  path : Int
  now : Int
  id : Int
  by_ : Int
  gaps : List (Nat × Nat)
structure FAns where
  d : Dt
  n : Int
  is_ : Bool
  e : Int
  t : Tld
def Dt.zero : Dt := ⟨0, 0, 0, false, false, false, []⟩
def FAns.zero : FAns := ⟨Dt.zero, 0, false, 0, Tld.zero⟩
def doS (s : S) (o : FOp) (cum : Int) : S :=
  if o.kind = 0 then add s o.d o.path o.now o.id
  else if o.kind = 1 then (again s (Spn.u32 (cum + o.by_)) o.path o.now).1
  else if o.kind = 2 then s
  else if o.kind = 3 then mark s o.path
  else if o.kind = 4 then abandon s o.id
  else if o.kind = 5 then (match sack s (Spn.u32 (cum + o.by_)) o.gaps with | some (s', _) => s' | none => s)
  else s
def doA (s : S) (o : FOp) (cum : Int) : FAns :=
  if o.kind = 0 then { FAns.zero with n := if addE s o.d o.path = 0 then newT s else 0, e := addE s o.d o.path }
  else if o.kind = 1 then { FAns.zero with e := (again s (Spn.u32 (cum + o.by_)) o.path o.now).2 }
  else if o.kind = 2 then (match getD s (Spn.u32 (cum + o.by_)) with | some (d, p) => { FAns.zero with d := d, n := p, is_ := true } | none => FAns.zero)
  else if o.kind = 3 then { FAns.zero with n := markN s o.path }
  else if o.kind = 4 then { FAns.zero with n := abandonN s o.id }
  else if o.kind = 5 then (match sack s (Spn.u32 (cum + o.by_)) o.gaps with | some (_, t) => { FAns.zero with t := t } | none => { FAns.zero with e := 1 })
  else FAns.zero

theorem set_map {β : Type} (g : Rc → β) {L : List Rc} {i : Nat} {r r' : Rc} (h : L[i]? = some r) (hb : g r' = g r) : (L.set i r').map g = L.map g := by
  rw [List.map_set]
  refine List.ext_getElem? (fun j => ?_)
  by_cases hj : i = j
  · subst hj
    have hi := (List.getElem?_eq_some_iff.1 h).1
    rw [List.getElem?_set_self (by simpa using hi), List.getElem?_map, h, hb]
    rfl
  · rw [List.getElem?_set_ne hj]
/-- what of a record never is turned but by sending it again -/
def Rc.k (r : Rc) : Dt × Int := (r.d, r.path)
theorem ack1_k (low : Q4 (Option Nat)) (k : AK) (i : Nat) : (ack1 low k i).L.map Rc.k = k.L.map Rc.k := by
  unfold ack1
  split
  · rfl
  · rename_i r h
    split
    · rfl
    · exact set_map Rc.k h rfl
theorem ackR_k (low : Q4 (Option Nat)) (a : Nat) : ∀ (n : Nat) (k : AK), (ackR low k a n).L.map Rc.k = k.L.map Rc.k
  | 0, _ => rfl
  | n + 1, k => by rw [ackR_succ, ack1_k, ackR_k low a n k]
theorem ackAll_k (low : Q4 (Option Nat)) : ∀ (sp : List (Nat × Nat)) (k : AK), (ackAll low k sp).L.map Rc.k = k.L.map Rc.k
  | [], _ => rfl
  | g :: sp, k => by
    show (ackAll low (ackR low k g.1 (g.2 - g.1)) sp).L.map Rc.k = _
    rw [ackAll_k low sp, ackR_k]
theorem missR_k (r : Rc) : (missR r).k = r.k := by unfold missR; split <;> rfl
theorem miss1_k (high : Q4 Int) (x : List Rc × Tld) (i : Nat) : (miss1 high x i).1.map Rc.k = x.1.map Rc.k := by
  unfold miss1
  split
  · rfl
  · rename_i r h
    split
    · exact set_map Rc.k h (missR_k r)
    · rfl
theorem missF_k (high : Q4 Int) (x : List Rc × Tld) : ∀ n, ((List.range n).foldl (miss1 high) x).1.map Rc.k = x.1.map Rc.k
  | 0 => rfl
  | n + 1 => by rw [miss_snoc, miss1_k, missF_k high x n]
/-- of records that are alike -/
theorem k_get {L M : List Rc} (h : L.map Rc.k = M.map Rc.k) {i : Nat} {r : Rc} (hr : L[i]? = some r) : ∃ q, M[i]? = some q ∧ r.d = q.d ∧ r.path = q.path := by
  have := congrArg (fun l => l[i]?) h
  simp only [List.getElem?_map, hr, Option.map_some] at this
  cases hm : M[i]? with
  | none => simp [hm] at this
  | some q =>
    simp [hm, Rc.k] at this
    exact ⟨q, rfl, this.1, this.2⟩

structure Good (s : S) : Prop where
  c : 0 ≤ s.c ∧ s.c < 4294967296
  paths : 1 ≤ s.paths ∧ s.paths ≤ 4
  few : s.L.length ≤ 2048
  tsn : ∀ (i : Nat) r, s.L[i]? = some r → r.tsn = Spn.u32 (s.c + 1 + i)
  path : ∀ (i : Nat) r, s.L[i]? = some r → 0 ≤ r.path ∧ r.path < s.paths
  bs : ∀ (i : Nat) r, s.L[i]? = some r → r.bs ≠ []
/-- the same records -/
theorem Good.like {s : S} (h : Good s) {L : List Rc} (hl : L.map Rc.k = s.L.map Rc.k) : Good { s with L := L } := by
  have hd : ∀ {r q : Rc}, r.d = q.d → r.tsn = q.tsn ∧ r.bs = q.bs := fun {r q} h => ⟨congrArg Dt.tsn h, congrArg Dt.bs h⟩
  refine ⟨h.c, h.paths, ?_, fun i r hr => ?_, fun i r hr => ?_, fun i r hr => ?_⟩
  · have := congrArg List.length hl; simp at this; have := h.few; dsimp only; omega
  · obtain ⟨q, hq, h1, h2⟩ := k_get hl hr; rw [(hd h1).1]; exact h.tsn i q hq
  · obtain ⟨q, hq, h1, h2⟩ := k_get hl hr; rw [h2]; exact h.path i q hq
  · obtain ⟨q, hq, h1, h2⟩ := k_get hl hr; rw [(hd h1).2]; exact h.bs i q hq
theorem Good.set {s : S} (h : Good s) {i : Nat} {r r' : Rc} (hr : s.L[i]? = some r) (h1 : r'.tsn = r.tsn) (h2 : r'.bs = r.bs) (h3 : 0 ≤ r'.path ∧ r'.path < s.paths) : Good { s with L := s.L.set i r' } := by
  have key : ∀ (j : Nat) q, (s.L.set i r')[j]? = some q → s.L[j]? = some q ∨ (j = i ∧ q = r') := fun j q hq => by
    by_cases hj : i = j
    · subst hj
      rw [List.getElem?_set_self (List.getElem?_eq_some_iff.1 hr).1] at hq
      cases hq
      exact .inr ⟨rfl, rfl⟩
    · rw [List.getElem?_set_ne hj] at hq
      exact .inl hq
  refine ⟨h.c, h.paths, by simpa using h.few, fun j q hq => ?_, fun j q hq => ?_, fun j q hq => ?_⟩
  · rcases key j q hq with hq | ⟨rfl, rfl⟩
    · exact h.tsn j q hq
    · rw [h1]; exact h.tsn _ _ hr
  · rcases key j q hq with hq | ⟨rfl, rfl⟩
    · exact h.path j q hq
    · exact h3
  · rcases key j q hq with hq | ⟨rfl, rfl⟩
    · exact h.bs j q hq
    · rw [h2]; exact h.bs _ _ hr
theorem sel_k (q : Rc → Bool) (f : Rc → Rc) (hf : ∀ r, (f r).k = r.k) (L : List Rc) : (sel q f L).map Rc.k = L.map Rc.k := by
  unfold sel
  rw [List.map_map]
  refine List.map_congr_left (fun r _ => ?_)
  dsimp only [Function.comp]
  split
  · exact hf r
  · rfl
theorem u32_mod (n : Int) : 0 ≤ Spn.u32 n ∧ Spn.u32 n < 4294967296 := by rw [Spn.u32_eq]; omega
theorem newT_eq {s : S} (_h : Good s) : newT s = Spn.u32 (s.c + 1 + s.L.length) := by
  unfold newT
  simp only [Spn.u32_eq]
  omega
theorem Good.add {s : S} (h : Good s) (d : Dt) (path now id : Int) : Good (Flt.add s d path now id) := by
  unfold Flt.add
  split
  · rename_i he
    unfold addE at he
    split at he
    · cases he
    · split at he
      · cases he
      · rename_i h1 h2
        have key : ∀ (i : Nat) r, (s.L ++ [newR s d path now id])[i]? = some r → s.L[i]? = some r ∨ (i = s.L.length ∧ r = newR s d path now id) := fun i r hr => by
          rw [List.getElem?_append] at hr
          split at hr
          · exact .inl hr
          · have : i - s.L.length = 0 := by
              have := (List.getElem?_eq_some_iff.1 hr).1
              simp at this
              omega
            rw [this] at hr
            simp at hr
            exact .inr ⟨by omega, hr.symm⟩
        refine ⟨h.c, h.paths, by simp; omega, fun i r hr => ?_, fun i r hr => ?_, fun i r hr => ?_⟩
        · rcases key i r hr with hr | ⟨rfl, rfl⟩
          · exact h.tsn i r hr
          · exact newT_eq h
        · rcases key i r hr with hr | ⟨rfl, rfl⟩
          · exact h.path i r hr
          · dsimp only [newR]; omega
        · rcases key i r hr with hr | ⟨rfl, rfl⟩
          · exact h.bs i r hr
          · dsimp only [newR]; exact fun hb => h1 (.inr (.inr hb))
  · exact h
theorem Good.again {s : S} (h : Good s) (t path now : Int) : Good (Flt.again s t path now).1 := by
  unfold Flt.again
  split
  · exact h
  · split
    · exact h
    · split
      · exact h
      · rename_i i _ r hr
        split
        · exact h.set hr rfl rfl (by dsimp only [setAgain]; omega)
        · exact h
theorem sack_some {s s' : S} {y : Int} {gs : List (Nat × Nat)} {t : Tld} (h : sack s y gs = some (s', t)) : ∃ sp : List (Nat × Nat), span s y gs = some sp ∧
    s' = ⟨(missAll (ackAll (lowQ s.L) ⟨s.L, Tld.zero, ⟨-1, -1, -1, -1⟩⟩ sp).high ((ackAll (lowQ s.L) ⟨s.L, Tld.zero, ⟨-1, -1, -1, -1⟩⟩ sp).L, (ackAll (lowQ s.L) ⟨s.L, Tld.zero, ⟨-1, -1, -1, -1⟩⟩ sp).t)).1.drop (Spn.far s.c y), y, s.paths⟩ ∧
    t = { (missAll (ackAll (lowQ s.L) ⟨s.L, Tld.zero, ⟨-1, -1, -1, -1⟩⟩ sp).high ((ackAll (lowQ s.L) ⟨s.L, Tld.zero, ⟨-1, -1, -1, -1⟩⟩ sp).L, (ackAll (lowQ s.L) ⟨s.L, Tld.zero, ⟨-1, -1, -1, -1⟩⟩ sp).t)).2 with
      freed := sumB (fun _ => true) ((missAll (ackAll (lowQ s.L) ⟨s.L, Tld.zero, ⟨-1, -1, -1, -1⟩⟩ sp).high ((ackAll (lowQ s.L) ⟨s.L, Tld.zero, ⟨-1, -1, -1, -1⟩⟩ sp).L, (ackAll (lowQ s.L) ⟨s.L, Tld.zero, ⟨-1, -1, -1, -1⟩⟩ sp).t)).1.take (Spn.far s.c y)),
      whole := decide (y ≠ s.c) || decide (toldN sp = cntB isAck (missAll (ackAll (lowQ s.L) ⟨s.L, Tld.zero, ⟨-1, -1, -1, -1⟩⟩ sp).high ((ackAll (lowQ s.L) ⟨s.L, Tld.zero, ⟨-1, -1, -1, -1⟩⟩ sp).L, (ackAll (lowQ s.L) ⟨s.L, Tld.zero, ⟨-1, -1, -1, -1⟩⟩ sp).t)).1) } := by
  unfold sack at h
  cases hsp : span s y gs with
  | none => rw [hsp] at h; cases h
  | some sp =>
    rw [hsp] at h
    simp only [Option.some.injEq, Prod.mk.injEq] at h
    exact ⟨sp, rfl, h.1.symm, h.2.symm⟩
/-- the records behind all but the dropping -/
theorem sack_L {s s' : S} {y : Int} {gs : List (Nat × Nat)} {t : Tld} (h : sack s y gs = some (s', t)) : ∃ M : List Rc, M.map Rc.k = s.L.map Rc.k ∧ s' = ⟨M.drop (Spn.far s.c y), y, s.paths⟩ ∧ t.freed = (sumB (fun _ => true) (M.take (Spn.far s.c y)) : Nat) := by
  obtain ⟨sp, _, h1, h2⟩ := sack_some h
  refine ⟨_, ?_, h1, by rw [h2]⟩
  unfold missAll
  rw [missF_k]
  exact ackAll_k _ _ _
theorem Good.sack {s s' : S} (h : Good s) {y : Int} (hy : 0 ≤ y ∧ y < 4294967296) {gs : List (Nat × Nat)} {t : Tld} (hs : Flt.sack s y gs = some (s', t)) : Good s' := by
  obtain ⟨M, hM, rfl, _⟩ := sack_L hs
  have g := h.like hM
  have hf := Spn.far_int s.c y
  rw [Spn.u32_eq] at hf
  have hc := h.c
  refine ⟨hy, h.paths, ?_, fun i r hr => ?_, fun i r hr => ?_, fun i r hr => ?_⟩
  · have := g.few; dsimp only at this ⊢; rw [List.length_drop]; omega
  · rw [List.getElem?_drop] at hr
    rw [g.tsn _ r hr]
    simp only [Spn.u32_eq]
    omega
  · rw [List.getElem?_drop] at hr
    exact g.path _ r hr
  · rw [List.getElem?_drop] at hr
    exact g.bs _ r hr
theorem Good.doS {s : S} (h : Good s) (o : FOp) (cum : Int) : Good (doS s o cum) := by
  unfold Flt.doS
  split
  · exact h.add _ _ _ _
  · split
    · exact h.again _ _ _
    · split
      · exact h
      · split
        · exact h.like (sel_k _ setLost (fun _ => rfl) _)
        · split
          · exact h.like (sel_k _ setGone (fun _ => rfl) _)
          · split
            · split
              · rename_i h1
                exact h.sack (u32_mod _) h1
              · exact h
            · exact h
/-- no bytes come but those that are added -/
theorem sumB_k {L M : List Rc} (h : L.map Rc.k = M.map Rc.k) : sumB (fun _ => true) L = sumB (fun _ => true) M := by
  refine sumB_bs ?_
  have : ∀ l : List Rc, l.map (·.bs) = (l.map Rc.k).map (fun x => x.1.bs) := fun l => by rw [List.map_map]; rfl
  rw [this, this, h]
theorem sumB_drop (q : Rc → Bool) (L : List Rc) (i : Nat) : sumB q L = sumB q (L.take i) + sumB q (L.drop i) := by
  rw [← sumB_append, List.take_append_drop]
theorem add_sum (s : S) (d : Dt) (path now id : Int) : sumB (fun _ => true) (add s d path now id).L = sumB (fun _ => true) s.L + if addE s d path = 0 then d.bs.length else 0 := by
  unfold add
  split
  · dsimp only
    rw [sumB_append]
    simp [sumB, newR]
  · simp
theorem again_k (s : S) (t path now : Int) : (again s t path now).1.L.map (·.bs) = s.L.map (·.bs) := by
  unfold again
  split
  · rfl
  · split
    · rfl
    · split
      · rfl
      · rename_i i _ r hr
        split
        · exact set_bs hr rfl
        · rfl
theorem doS_sum (s : S) (o : FOp) (cum : Int) : sumB (fun _ => true) (doS s o cum).L + (doA s o cum).t.freed.toNat = sumB (fun _ => true) s.L + if o.kind = 0 ∧ (doA s o cum).e = 0 then o.d.bs.length else 0 := by
  unfold doS doA
  split
  · rename_i hk
    rw [add_sum]
    dsimp only [FAns.zero, Tld.zero]
    simp [hk]
  · rename_i hk
    have hk0 : ∀ e : Prop, ¬(o.kind = 0 ∧ e) := fun _ h => hk h.1
    simp only [hk0, if_false]
    split
    · rw [sumB_bs (again_k _ _ _ _)]; rfl
    · split
      · split <;> rfl
      · split
        · rw [show (mark s o.path).L = sel (byP o.path) setLost s.L from rfl, sumB_k (sel_k _ setLost (fun _ => rfl) _)]; rfl
        · split
          · rw [show (abandon s o.id).L = sel (ofId o.id) setGone s.L from rfl, sumB_k (sel_k _ setGone (fun _ => rfl) _)]; rfl
          · split
            · cases hs : sack s (Spn.u32 (cum + o.by_)) o.gaps with
              | none => rfl
              | some x =>
                obtain ⟨s', t⟩ := x
                obtain ⟨M, hM, rfl, ht⟩ := sack_L hs
                dsimp only
                rw [ht, ← sumB_k hM, sumB_drop _ M (Spn.far s.c (Spn.u32 (cum + o.by_)))]
                omega
            · rfl
end Go.Flt
namespace Go.Flt
open Go

def ackSum (t : Tld) : Int := t.p0.acked + t.p1.acked + t.p2.acked + t.p3.acked
structure Tld.nn (t : Tld) : Prop where
  a0 : 0 ≤ t.p0.acked
  a1 : 0 ≤ t.p1.acked
  a2 : 0 ≤ t.p2.acked
  a3 : 0 ≤ t.p3.acked
theorem sumB_set (q : Rc → Bool) {L : List Rc} {i : Nat} {r : Rc} (h : L[i]? = some r) (r' : Rc) : sumB q (L.set i r') + (if q r then r.bs.length else 0) = sumB q L + (if q r' then r'.bs.length else 0) := by
  have hi := (List.getElem?_eq_some_iff.1 h).1
  have he := (List.getElem?_eq_some_iff.1 h).2
  have e1 : L = L.take i ++ ([r] ++ L.drop (i + 1)) := by rw [← he, List.singleton_append, ← List.drop_eq_getElem_cons hi, List.take_append_drop]
  have e2 : L.set i r' = L.take i ++ ([r'] ++ L.drop (i + 1)) := by rw [List.set_eq_take_append_cons_drop, if_pos hi]; rfl
  have one : ∀ x : Rc, sumB q [x] = if q x then x.bs.length else 0 := fun x => by unfold sumB; cases hq : q x <;> simp [hq]
  rw [e2, sumB_append, sumB_append, one]
  have e3 : sumB q L = sumB q (L.take i) + (sumB q [r] + sumB q (L.drop (i + 1))) := by rw [← sumB_append, ← sumB_append, ← e1]
  rw [e3, one]
  omega
theorem sumB_mono {q q' : Rc → Bool} {L : List Rc} (h : ∀ r, q r = true → q' r = true) : sumB q L ≤ sumB q' L := by
  induction L with
  | nil => exact Nat.le_refl _
  | cons r L ih =>
    unfold sumB at ih ⊢
    cases hq : q r with
    | false =>
      rw [List.filter_cons_of_neg (by simp [hq])]
      cases hq' : q' r with
      | false => rw [List.filter_cons_of_neg (by simp [hq'])]; exact ih
      | true => rw [List.filter_cons_of_pos hq', List.map_cons, List.sum_cons]; omega
    | true => rw [List.filter_cons_of_pos hq, List.filter_cons_of_pos (h r hq), List.map_cons, List.map_cons, List.sum_cons, List.sum_cons]; omega
/-- of a kind, and how long -/
def kg (q : Rc → Bool) (r : Rc) : Bool × Nat := (q r, r.bs.length)
theorem sumB_kg {q : Rc → Bool} {L M : List Rc} (h : L.map (kg q) = M.map (kg q)) : sumB q L = sumB q M := by
  have : ∀ l : List Rc, sumB q l = (((l.map (kg q)).filter (·.1)).map (·.2)).sum := fun l => by
    unfold sumB
    rw [List.filter_map, List.map_map]
    rfl
  rw [this, this, h]
theorem upd_sum (t : Tld) (p : Int) (f : PT → PT) (d : Int) (h : ∀ q : PT, (q = t.p0 ∨ q = t.p1 ∨ q = t.p2 ∨ q = t.p3) → (f q).acked = q.acked + d) : ackSum (t.upd p f) = ackSum t + d := by
  have h0 := h t.p0 (.inl rfl)
  have h1 := h t.p1 (.inr (.inl rfl))
  have h2 := h t.p2 (.inr (.inr (.inl rfl)))
  have h3 := h t.p3 (.inr (.inr (.inr rfl)))
  unfold Tld.upd ackSum
  split
  · dsimp only; omega
  · split
    · dsimp only; omega
    · split <;> (dsimp only; omega)
theorem upd_nn {t : Tld} (ht : t.nn) (p : Int) (f : PT → PT) (h : ∀ q : PT, 0 ≤ q.acked → q.acked ≤ ackSum t → 0 ≤ (f q).acked) : (t.upd p f).nn := by
  obtain ⟨h0, h1, h2, h3⟩ := ht
  unfold ackSum at h
  unfold Tld.upd
  split
  · exact ⟨h _ h0 (by omega), h1, h2, h3⟩
  · split
    · exact ⟨h0, h _ h1 (by omega), h2, h3⟩
    · split
      · exact ⟨h0, h1, h _ h2 (by omega), h3⟩
      · exact ⟨h0, h1, h2, h _ h3 (by omega)⟩
theorem i64_in {n : Int} (h0 : 0 ≤ n) (h1 : n < 9223372036854775808) : i64 n = n := by
  unfold i64
  simp only [IntKind.wrap, IntKind.bits, IntKind.signed]
  simp
  omega
structure Pot (k : AK) (M : Int) : Prop where
  nn : k.t.nn
  sum : ackSum k.t + sumB low1 k.L = M
theorem ack1_pot {low : Q4 (Option Nat)} {k : AK} {M : Int} (h : Pot k M) (hM : M ≤ 1000000000000) (i : Nat) : Pot (ack1 low k i) M := by
  unfold ack1
  split
  · exact h
  · rename_i r hr
    split
    · exact h
    · rename_i ha
      have hs := sumB_set low1 hr (setAck r)
      have e1 : low1 (setAck r) = false := by simp [low1, setAck]
      have e2 : low1 r = !r.gone := by simp [low1, ha]
      rw [e1, e2] at hs
      have hsum := h.sum
      obtain ⟨h0, h1, h2, h3⟩ := h.nn
      cases hg : r.gone with
      | true =>
        rw [hg] at hs
        simp at hs
        have hf : ∀ b q, (takeP r b q).acked = q.acked := fun b q => by simp [takeP, hg]
        refine ⟨upd_nn h.nn _ _ (fun q hq _ => by rw [hf]; exact hq), ?_⟩
        dsimp only
        rw [upd_sum _ _ _ 0 (fun q _ => by rw [hf]; omega), hs]
        omega
      | false =>
        rw [hg] at hs
        simp at hs
        have hf : ∀ b q, 0 ≤ q.acked → q.acked ≤ ackSum k.t → (takeP r b q).acked = q.acked + r.bs.length := fun b q hq1 hq2 => by
          simp only [takeP, hg, Bool.false_eq_true, if_false]
          have : ackSum k.t + (sumB low1 (k.L.set i (setAck r)) : Nat) + (r.bs.length : Nat) = M := by omega
          exact i64_in (by omega) (by omega)
        refine ⟨upd_nn h.nn _ _ (fun q hq hq2 => by rw [hf _ _ hq hq2]; omega), ?_⟩
        dsimp only
        rw [upd_sum _ _ _ r.bs.length (fun q hq => hf _ _ (by rcases hq with rfl | rfl | rfl | rfl <;> assumption) (by unfold ackSum; rcases hq with rfl | rfl | rfl | rfl <;> omega))]
        omega
theorem ackR_pot {low : Q4 (Option Nat)} {M : Int} (hM : M ≤ 1000000000000) (a : Nat) : ∀ (n : Nat) {k : AK}, Pot k M → Pot (ackR low k a n) M
  | 0, _, h => h
  | n + 1, k, h => by rw [ackR_succ]; exact ack1_pot (ackR_pot hM a n h) hM _
theorem ackAll_pot {low : Q4 (Option Nat)} {M : Int} (hM : M ≤ 1000000000000) : ∀ (sp : List (Nat × Nat)) {k : AK}, Pot k M → Pot (ackAll low k sp) M
  | [], _, h => h
  | g :: sp, _k, h => ackAll_pot hM sp (ackR_pot hM g.1 (g.2 - g.1) h)
theorem miss1_pot (high : Q4 Int) (x : List Rc × Tld) (i : Nat) : (miss1 high x i).1.map (kg low1) = x.1.map (kg low1) ∧ ackSum (miss1 high x i).2 = ackSum x.2 ∧ (x.2.nn → (miss1 high x i).2.nn) := by
  unfold miss1
  split
  · exact ⟨rfl, rfl, id⟩
  · rename_i r h
    split
    · refine ⟨set_map (kg low1) h (by unfold missR; split <;> rfl), ?_, fun hn => ?_⟩
      · dsimp only
        split
        · rw [upd_sum _ _ _ 0 (fun q _ => by simp [fastP])]; omega
        · rfl
      · dsimp only
        split
        · exact upd_nn hn _ _ (fun q hq _ => hq)
        · exact hn
    · exact ⟨rfl, rfl, id⟩
theorem missF_pot (high : Q4 Int) (x : List Rc × Tld) : ∀ n, ((List.range n).foldl (miss1 high) x).1.map (kg low1) = x.1.map (kg low1) ∧ ackSum ((List.range n).foldl (miss1 high) x).2 = ackSum x.2 ∧ (x.2.nn → ((List.range n).foldl (miss1 high) x).2.nn)
  | 0 => ⟨rfl, rfl, id⟩
  | n + 1 => by
    rw [miss_snoc]
    obtain ⟨h1, h2, h3⟩ := missF_pot high x n
    obtain ⟨k1, k2, k3⟩ := miss1_pot high ((List.range n).foldl (miss1 high) x) n
    exact ⟨k1.trans h1, k2.trans h2, fun h => k3 (h3 h)⟩
theorem sack_pot {s s' : S} {y : Int} {gs : List (Nat × Nat)} {t : Tld} (hM : sumB low1 s.L ≤ 1000000000000) (h : sack s y gs = some (s', t)) : t.nn ∧ ackSum t + sumB low1 s'.L ≤ sumB low1 s.L := by
  obtain ⟨sp, _, h1, h2⟩ := sack_some h
  have p0 : Pot ⟨s.L, Tld.zero, ⟨-1, -1, -1, -1⟩⟩ (sumB low1 s.L) := ⟨⟨Int.le_refl _, Int.le_refl _, Int.le_refl _, Int.le_refl _⟩, by simp [ackSum, Tld.zero, PT.zero]⟩
  have p1 := ackAll_pot (low := lowQ s.L) (by omega) sp p0
  obtain ⟨k1, k2, k3⟩ := missF_pot (ackAll (lowQ s.L) ⟨s.L, Tld.zero, ⟨-1, -1, -1, -1⟩⟩ sp).high ((ackAll (lowQ s.L) ⟨s.L, Tld.zero, ⟨-1, -1, -1, -1⟩⟩ sp).L, (ackAll (lowQ s.L) ⟨s.L, Tld.zero, ⟨-1, -1, -1, -1⟩⟩ sp).t) (ackAll (lowQ s.L) ⟨s.L, Tld.zero, ⟨-1, -1, -1, -1⟩⟩ sp).L.length
  rw [h1, h2]
  refine ⟨⟨(k3 p1.nn).a0, (k3 p1.nn).a1, (k3 p1.nn).a2, (k3 p1.nn).a3⟩, ?_⟩
  have hs := p1.sum
  have hd := sumB_drop low1 (missAll (ackAll (lowQ s.L) ⟨s.L, Tld.zero, ⟨-1, -1, -1, -1⟩⟩ sp).high ((ackAll (lowQ s.L) ⟨s.L, Tld.zero, ⟨-1, -1, -1, -1⟩⟩ sp).L, (ackAll (lowQ s.L) ⟨s.L, Tld.zero, ⟨-1, -1, -1, -1⟩⟩ sp).t)).1 (Spn.far s.c y)
  have e := sumB_kg (q := low1) k1
  unfold missAll at hd ⊢
  dsimp only at e hd ⊢
  have k2' : ackSum (List.foldl (miss1 (ackAll (lowQ s.L) ⟨s.L, Tld.zero, ⟨-1, -1, -1, -1⟩⟩ sp).high) ((ackAll (lowQ s.L) ⟨s.L, Tld.zero, ⟨-1, -1, -1, -1⟩⟩ sp).L, (ackAll (lowQ s.L) ⟨s.L, Tld.zero, ⟨-1, -1, -1, -1⟩⟩ sp).t) (List.range (ackAll (lowQ s.L) ⟨s.L, Tld.zero, ⟨-1, -1, -1, -1⟩⟩ sp).L.length)).2 = ackSum (ackAll (lowQ s.L) ⟨s.L, Tld.zero, ⟨-1, -1, -1, -1⟩⟩ sp).t := k2
  unfold ackSum at k2' hs ⊢
  dsimp only
  omega
/-- what is told to be acknowledged was not so ahead of that -/
theorem doS_pot (s : S) (o : FOp) (cum : Int) (hM : sumB low1 s.L ≤ 1000000000000) : (doA s o cum).t.nn ∧ ackSum (doA s o cum).t + sumB low1 (doS s o cum).L ≤ sumB low1 s.L + if o.kind = 0 ∧ (doA s o cum).e = 0 then o.d.bs.length else 0 := by
  have z : Tld.zero.nn := ⟨Int.le_refl _, Int.le_refl _, Int.le_refl _, Int.le_refl _⟩
  have za : ackSum Tld.zero = 0 := rfl
  unfold doS doA
  split
  · rename_i hk
    refine ⟨z, ?_⟩
    dsimp only [FAns.zero]
    rw [za]
    unfold add
    split
    · rename_i he
      dsimp only
      rw [sumB_append]
      simp [hk, he, sumB, newR, low1]
    · rename_i he
      simp [he]
  · rename_i hk
    have hk0 : ∀ e : Prop, ¬(o.kind = 0 ∧ e) := fun _ h => hk h.1
    simp only [hk0, if_false]
    split
    · refine ⟨z, ?_⟩
      dsimp only [FAns.zero]
      rw [za]
      unfold again
      split
      · simp
      · split
        · simp
        · split
          · simp
          · rename_i i _ r hr
            split
            · dsimp only
              rw [sumB_kg (set_map (kg low1) hr (r' := setAgain o.path o.now r) rfl)]
              simp
            · simp
    · split
      · split <;> exact ⟨z, by dsimp only [FAns.zero]; rw [za]; simp⟩
      · have hle : ∀ (q : Rc → Bool) (f : Rc → Rc), (∀ r, low1 (f r) = true → low1 r = true) → (∀ r, (f r).bs = r.bs) → ∀ L, sumB low1 (sel q f L) ≤ sumB low1 L := fun q f h1 h2 L => by
          induction L with
          | nil => exact Nat.le_refl _
          | cons r L ih =>
            have e1 : sel q f (r :: L) = [if q r then f r else r] ++ sel q f L := rfl
            have e2 : r :: L = [r] ++ L := rfl
            rw [e1, e2, sumB_append, sumB_append]
            have : sumB low1 [if q r then f r else r] ≤ sumB low1 [r] := by
              cases q r with
              | false => exact Nat.le_refl _
              | true =>
                simp only [if_true]
                unfold sumB
                have h1' := h1 r
                cases hf : low1 (f r) with
                | false => simp [hf]
                | true => simp [hf, h1' hf, h2 r]
            omega
        split
        · refine ⟨z, ?_⟩
          dsimp only [FAns.zero]
          rw [za]
          have := hle (byP o.path) setLost (fun _ h => h) (fun _ => rfl) s.L
          show 0 + ((sumB low1 (sel (byP o.path) setLost s.L) : Nat) : Int) ≤ _
          omega
        · split
          · refine ⟨z, ?_⟩
            dsimp only [FAns.zero]
            rw [za]
            have := hle (ofId o.id) setGone (fun r h => by simp [low1, setGone] at h) (fun _ => rfl) s.L
            show 0 + ((sumB low1 (sel (ofId o.id) setGone s.L) : Nat) : Int) ≤ _
            omega
          · split
            · cases hs : sack s (Spn.u32 (cum + o.by_)) o.gaps with
              | none => exact ⟨z, by dsimp only [FAns.zero]; rw [za]; simp⟩
              | some x =>
                obtain ⟨s', t⟩ := x
                have := sack_pot hM hs
                exact ⟨this.1, by have := this.2; dsimp only; omega⟩
            · exact ⟨z, by dsimp only [FAns.zero]; rw [za]; simp⟩
/-- what is under way by paths is all that is under way -/
theorem out_sum {s : S} (h : Good s) : out s 0 + out s 1 + out s 2 + out s 3 = sumB away s.L := by
  have hp : ∀ r ∈ s.L, r.path = 0 ∨ r.path = 1 ∨ r.path = 2 ∨ r.path = 3 := fun r hr => by
    obtain ⟨i, hi⟩ := List.getElem?_of_mem hr
    have := h.path i r hi
    have := h.paths
    omega
  unfold out
  generalize s.L = L at hp
  induction L with
  | nil => rfl
  | cons r L ih =>
    have e2 : r :: L = [r] ++ L := rfl
    have hq := ih (fun q hq => hp q (by simp [hq]))
    rw [e2]
    simp only [sumB_append]
    have : sumB (byP 0) [r] + sumB (byP 1) [r] + sumB (byP 2) [r] + sumB (byP 3) [r] = sumB away [r] := by
      unfold sumB byP
      cases ha : away r with
      | false => simp [ha]
      | true => rcases hp r (by simp) with h | h | h | h <;> simp [h, ha]
    omega
/-- how many, and up to where -/
theorem doS_len {s : S} (h : Good s) (o : FOp) (cum : Int) : ∃ n : Nat, (doS s o cum).c = Spn.u32 (s.c + n) ∧ n + (doS s o cum).L.length = s.L.length + (if o.kind = 0 ∧ (doA s o cum).e = 0 then 1 else 0) := by
  have hc : s.c = Spn.u32 (s.c + (0 : Nat)) := by have := h.c; rw [Spn.u32_eq]; omega
  unfold doS doA
  split
  · rename_i hk
    refine ⟨0, ?_, ?_⟩
    · rw [show (add s o.d o.path o.now o.id).c = s.c by unfold add; split <;> rfl]; exact hc
    · unfold add
      dsimp only [FAns.zero]
      split
      · rename_i he
        simp [hk, he]
      · rename_i he
        simp [he]
  · rename_i hk
    have hk0 : ∀ e : Prop, ¬(o.kind = 0 ∧ e) := fun _ h => hk h.1
    simp only [hk0, if_false]
    split
    · refine ⟨0, ?_, ?_⟩
      · rw [show (again s (Spn.u32 (cum + o.by_)) o.path o.now).1.c = s.c by unfold again; split <;> (try rfl); split <;> (try rfl); split <;> (try rfl); split <;> rfl]; exact hc
      · have := congrArg List.length (again_k s (Spn.u32 (cum + o.by_)) o.path o.now)
        simp at this
        omega
    · split
      · exact ⟨0, hc, by omega⟩
      · split
        · exact ⟨0, hc, by simp [mark, sel]⟩
        · split
          · exact ⟨0, hc, by simp [abandon, sel]⟩
          · split
            · cases hs : sack s (Spn.u32 (cum + o.by_)) o.gaps with
              | none => exact ⟨0, hc, by simp⟩
              | some x =>
                obtain ⟨s', t⟩ := x
                obtain ⟨M, hM, rfl, _⟩ := sack_L hs
                obtain ⟨sp, h1, _⟩ := sack_some hs
                obtain ⟨_, h2, _⟩ := span_ok h1
                have hl := congrArg List.length hM
                simp at hl
                refine ⟨Spn.far s.c (Spn.u32 (cum + o.by_)), ?_, ?_⟩
                · have := Spn.far_int s.c (Spn.u32 (cum + o.by_))
                  have := h.c
                  dsimp only
                  simp only [Spn.u32_eq] at *
                  omega
                · simp
                  omega
            · exact ⟨0, hc, by simp⟩
end Go.Flt
namespace Go.Pth
open Go

/-- Go's min and max -/
abbrev mn (a b : Int) : Int := min a b
abbrev mx (a b : Int) : Int := max a b
theorem mn_eq (a b : Int) : mn a b = min a b := rfl
theorem mx_eq (a b : Int) : mx a b = max a b := rfl
theorem go_mn (a b : Int) : (if b < a then b else a) = min a b := by omega
theorem go_mx (a b : Int) : (if b > a then b else a) = max a b := by omega
structure Rto where
  value : Int
  least : Int
  most : Int
  any : Bool
  smooth : Int
  vary : Int
structure Win where
  mtu : Int
  most : Int
  size : Int
  thresh : Int
  part : Int
structure S where
  r : Rto
  w : Win
  bad : Int
  may : Int
  next : Int
  beat : Int
  opn : Bool
structure Rto.Ok (r : Rto) : Prop where
  least : 1 ≤ r.least
  lv : r.least ≤ r.value
  vm : r.value ≤ r.most
  most : r.most ≤ 1048576
  smooth : 0 ≤ r.smooth ∧ r.smooth ≤ 8388608
  vary : 0 ≤ r.vary ∧ r.vary ≤ 4194304
structure Win.Ok (w : Win) : Prop where
  mtu : 128 ≤ w.mtu ∧ w.mtu ≤ 1500
  most : 4 * w.mtu ≤ w.most ∧ w.most ≤ 16777216
  size : w.mtu ≤ w.size ∧ w.size ≤ w.most
  thresh : 0 ≤ w.thresh ∧ w.thresh ≤ w.most
structure Ok (s : S) : Prop where
  r : s.r.Ok
  w : s.w.Ok
  bad : 0 ≤ s.bad ∧ s.bad ≤ s.may + 1
  may : 0 ≤ s.may ∧ s.may ≤ 20
  beat : 1 ≤ s.beat ∧ s.beat ≤ 1048576
  next : 0 ≤ s.next ∧ s.next ≤ 2305843009213693952 + 2097152
/-! ### what may be -/
def rtoMay (first least most : Int) : Bool := decide (1 ≤ least ∧ most ≤ 1048576 ∧ least ≤ first ∧ first ≤ most)
def rtoNew (first least most : Int) : Rto := ⟨first, least, most, false, 0, 0⟩
def winMay (mtu most : Int) : Bool := decide (128 ≤ mtu ∧ mtu ≤ 1500 ∧ 4 * mtu ≤ most ∧ most ≤ 16777216)
def winNew (mtu most : Int) : Win := ⟨mtu, most, 2 * mtu, most, 0⟩
theorem rtoNew_ok {f l m : Int} (h : rtoMay f l m = true) : (rtoNew f l m).Ok := by
  have := of_decide_eq_true h
  exact ⟨by dsimp [rtoNew]; omega, by dsimp [rtoNew]; omega, by dsimp [rtoNew]; omega, by dsimp [rtoNew]; omega, by dsimp [rtoNew]; omega, by dsimp [rtoNew]; omega⟩
theorem winNew_ok {m c : Int} (h : winMay m c = true) : (winNew m c).Ok := by
  have := of_decide_eq_true h
  exact ⟨by dsimp [winNew]; omega, by dsimp [winNew]; omega, by dsimp [winNew]; omega, by dsimp [winNew]; omega⟩
/-! ### the time -/
def dev (r : Rto) (t : Int) : Int := mx (r.smooth / 8 - t) (0 - (r.smooth / 8 - t))
def mid (r : Rto) (t : Int) : Rto := if r.any then { r with vary := r.vary + (dev r t - r.vary / 4), smooth := r.smooth + (t - r.smooth / 8) } else { r with any := true, smooth := 8 * t, vary := 2 * t }
def fit (r : Rto) : Rto := { r with value := mn (mx (r.smooth / 8 + mx 1 r.vary) r.least) r.most }
def sample (r : Rto) (t : Int) : Rto := fit (mid r (mn t 1048576))
def back (r : Rto) : Rto := { r with value := mn (2 * r.value) r.most }
theorem mid_least (r : Rto) (t : Int) : (mid r t).least = r.least ∧ (mid r t).most = r.most := by unfold mid; split <;> exact ⟨rfl, rfl⟩
theorem mid_rng {r : Rto} (h : r.Ok) {t : Int} (ht : 0 ≤ t ∧ t ≤ 1048576) : (0 ≤ (mid r t).smooth ∧ (mid r t).smooth ≤ 8388608) ∧ 0 ≤ (mid r t).vary ∧ (mid r t).vary ≤ 4194304 := by
  have hs := h.smooth
  have hv := h.vary
  unfold mid
  split
  · dsimp only [dev]
    rw [mx_eq]
    omega
  · dsimp only
    omega
theorem sample_ok {r : Rto} (h : r.Ok) {t : Int} (ht : 0 ≤ t) : (sample r t).Ok := by
  have h1 := mid_rng h (t := mn t 1048576) (by rw [mn_eq]; omega)
  have h2 := mid_least r (mn t 1048576)
  have a := h.least; have b := h.lv; have c := h.vm; have d := h.most
  obtain ⟨q, hq⟩ : ∃ q, mid r (mn t 1048576) = q := ⟨_, rfl⟩
  unfold sample fit
  rw [hq] at h1 h2 ⊢
  obtain ⟨h2, h3⟩ := h2
  exact ⟨by dsimp only; omega, by dsimp only; rw [mn_eq, mx_eq]; omega, by dsimp only; rw [mn_eq, mx_eq]; omega, by dsimp only; omega, h1.1, h1.2⟩
theorem back_ok {r : Rto} (h : r.Ok) : (back r).Ok := by
  have a := h.least; have b := h.lv; have c := h.vm; have d := h.most
  unfold back
  exact ⟨a, by dsimp only; rw [mn_eq]; omega, by dsimp only; rw [mn_eq]; omega, d, h.smooth, h.vary⟩
/-! ### the room -/
def slow (w : Win) (n : Int) (full : Bool) : Win := if full then { w with size := w.size + mn n w.mtu } else w
def avoid (w : Win) (n : Int) (full : Bool) : Win :=
  let p := IntKind.i64.wrap (w.part + mn n w.most)
  if full && decide (p ≥ w.size) then { w with part := IntKind.i64.wrap (p - w.size), size := w.size + w.mtu } else { w with part := p }
def cap (w : Win) : Win := { w with size := mn w.size w.most }
def winAcked (w : Win) (n : Int) (full : Bool) : Win := if n < 1 then w else cap (if w.size > w.thresh then avoid w n full else slow w n full)
def winFast (w : Win) : Win := { w with thresh := mx (w.size / 2) (4 * w.mtu), part := 0, size := mn w.size (mx (w.size / 2) (4 * w.mtu)) }
def winLate (w : Win) : Win := { w with thresh := mx (w.size / 2) (4 * w.mtu), part := 0, size := w.mtu }
theorem winAcked_ok {w : Win} (h : w.Ok) (n : Int) (full : Bool) : (winAcked w n full).Ok := by
  have a := h.mtu; have b := h.most; have c := h.size; have d := h.thresh
  unfold winAcked
  split
  · exact h
  · unfold cap
    split
    · unfold avoid
      dsimp only
      split
      · exact ⟨a, b, by dsimp only; rw [mn_eq]; omega, d⟩
      · exact ⟨a, b, by dsimp only; rw [mn_eq]; omega, d⟩
    · unfold slow
      split
      · refine ⟨a, b, ?_, d⟩
        dsimp only
        rw [mn_eq, mn_eq]
        omega
      · exact ⟨a, b, by dsimp only; rw [mn_eq]; omega, d⟩
theorem winFast_ok {w : Win} (h : w.Ok) : (winFast w).Ok := by
  have a := h.mtu; have b := h.most; have c := h.size; have d := h.thresh
  unfold winFast
  exact ⟨a, b, by dsimp only; rw [mn_eq, mx_eq]; omega, by dsimp only; rw [mx_eq]; omega⟩
theorem winLate_ok {w : Win} (h : w.Ok) : (winLate w).Ok := by
  have a := h.mtu; have b := h.most; have c := h.size; have d := h.thresh
  unfold winLate
  exact ⟨a, b, by dsimp only; omega, by dsimp only; rw [mx_eq]; omega⟩
/-! ### the path -/
def active (s : S) : Bool := decide (s.bad ≤ s.may)
def fails (s : S) : S := { s with bad := mn (s.bad + 1) (s.may + 1), r := back s.r }
def answered (s : S) : S := { s with bad := 0, opn := false }
def sampled (s : S) (t : Int) : S := { s with r := sample s.r t }
def acked (s : S) (n : Int) (full : Bool) : S := { s with w := winAcked s.w n full }
def fast (s : S) : S := { s with w := winFast s.w }
def late (s : S) : S := fails { s with w := winLate s.w }
def lateA (s : S) : Bool := active s && !active (late s)
def beats (s : S) (now : Int) : Bool := decide (s.next ≤ now)
def beaten (s : S) (sent now : Int) : Bool := s.opn && decide (0 ≤ sent) && decide (sent ≤ now)
def beatS (s : S) (now : Int) : S :=
  if beats s now then
    let q := if s.opn then fails s else s
    { q with opn := true, next := mn now 2305843009213693952 + q.r.value + q.beat }
  else s
def beatenS (s : S) (sent now : Int) : S := if beaten s sent now then sampled (answered s) (now - sent) else s
def may (init least most mtu cap retrans beat now : Int) : Bool := rtoMay init least most && (winMay mtu cap && decide (0 ≤ retrans ∧ retrans ≤ 20 ∧ 1 ≤ beat ∧ beat ≤ 1048576 ∧ 0 ≤ now ∧ now ≤ 2305843009213693952))
def new (init least most mtu cap retrans beat now : Int) : S := ⟨rtoNew init least most, winNew mtu cap, 0, retrans, now + beat, beat, false⟩
theorem new_ok {i l m t c r b n : Int} (h : may i l m t c r b n = true) : Ok (new i l m t c r b n) := by
  unfold may at h
  rw [Bool.and_eq_true, Bool.and_eq_true] at h
  have h3 := of_decide_eq_true h.2.2
  exact ⟨rtoNew_ok h.1, winNew_ok h.2.1, by dsimp [new]; omega, by dsimp [new]; omega, by dsimp [new]; omega, by dsimp [new]; omega⟩
theorem fails_ok {s : S} (h : Ok s) : Ok (fails s) := by
  have := h.bad; have := h.may
  exact ⟨back_ok h.r, h.w, by dsimp [fails]; rw [mn_eq]; omega, h.may, h.beat, h.next⟩
theorem answered_ok {s : S} (h : Ok s) : Ok (answered s) := by
  have := h.may
  exact ⟨h.r, h.w, by dsimp [answered]; omega, h.may, h.beat, h.next⟩
theorem sampled_ok {s : S} (h : Ok s) {t : Int} (ht : 0 ≤ t) : Ok (sampled s t) := ⟨sample_ok h.r ht, h.w, h.bad, h.may, h.beat, h.next⟩
theorem acked_ok {s : S} (h : Ok s) (n : Int) (f : Bool) : Ok (acked s n f) := ⟨h.r, winAcked_ok h.w n f, h.bad, h.may, h.beat, h.next⟩
theorem fast_ok {s : S} (h : Ok s) : Ok (fast s) := ⟨h.r, winFast_ok h.w, h.bad, h.may, h.beat, h.next⟩
theorem late_ok {s : S} (h : Ok s) : Ok (late s) := fails_ok ⟨h.r, winLate_ok h.w, h.bad, h.may, h.beat, h.next⟩
theorem beatS_ok {s : S} (h : Ok s) (now : Int) : Ok (beatS s now) := by
  unfold beatS
  split
  · rename_i hb
    have hb := of_decide_eq_true hb
    have hq : Ok (if s.opn then fails s else s) := by split; exact fails_ok h; exact h
    dsimp only
    generalize (if s.opn then fails s else s) = q at hq
    have h1 := hq.r.least; have h2 := hq.r.lv; have h3 := hq.r.vm; have h4 := hq.r.most; have h5 := hq.beat; have h6 := h.next
    exact ⟨hq.r, hq.w, hq.bad, hq.may, hq.beat, by dsimp only; rw [mn_eq]; omega⟩
  · exact h
theorem beatenS_ok {s : S} (h : Ok s) (sent now : Int) : Ok (beatenS s sent now) := by
  unfold beatenS
  split
  · rename_i hb
    unfold beaten at hb
    rw [Bool.and_eq_true, Bool.and_eq_true] at hb
    have := of_decide_eq_true hb.1.2
    have := of_decide_eq_true hb.2
    exact sampled_ok (answered_ok h) (by omega)
  · exact h
end Go.Pth
namespace Go.Oq
open Go Go.Pth

/-- a message that waits: its number and until, how many bytes were taken, its number in its stream -/
structure It where
  stream : Int
  ord : Bool
  bs : List UInt8
  id : Int
  til : Int
  at_ : Nat
  ssn : Int
structure S where
  L : List It
  many : Int
  room : Int
  used : Int
  ssn : List Int
abbrev u16 (n : Int) : Int := IntKind.u16.wrap n
def left (x : It) : Nat := x.bs.length - x.at_
structure It.Ok (x : It) : Prop where
  stream : 0 ≤ x.stream ∧ x.stream < 16
  at_ : x.at_ < x.bs.length
  size : x.bs.length ≤ 1048576
  ssn : 0 ≤ x.ssn ∧ x.ssn < 65536
structure Ok (s : S) : Prop where
  its : ∀ x ∈ s.L, x.Ok ∧ x.stream < s.ssn.length
  room : 1 ≤ s.room ∧ s.room ≤ 1048576
  used : 0 ≤ s.used ∧ s.used ≤ s.room
  streams : 1 ≤ s.ssn.length ∧ s.ssn.length ≤ 16
  ssn : ∀ n ∈ s.ssn, 0 ≤ n ∧ n < 65536
def may (streams room : Int) : Bool := decide (1 ≤ streams ∧ streams ≤ 16 ∧ 1 ≤ room ∧ room ≤ 1048576)
def new (streams room : Int) : S := ⟨[], 0, room, 0, List.replicate streams.toNat 0⟩
theorem new_ok {n r : Int} (h : may n r = true) : Ok (new n r) := by
  have := of_decide_eq_true h
  exact ⟨by simp [new], by dsimp [new]; omega, by dsimp [new]; omega, by simp [new]; omega, fun m hm => by rw [(List.mem_replicate.1 hm).2]; omega⟩
/-! ### put -/
def putE (s : S) (stream : Int) (n : Nat) (til : Int) : Int := if til < 0 then 1 else if (s.ssn.length : Int) ≤ stream then 4 else if n = 0 ∨ s.room < n then 5 else if s.room - s.used < n then 6 else 0
def item (s : S) (stream : Int) (ord : Bool) (bs : List UInt8) (til : Int) : It := ⟨stream, ord, bs, s.many, til, 0, 0⟩
def put (s : S) (stream : Int) (ord : Bool) (bs : List UInt8) (til : Int) : S :=
  if putE s stream bs.length til = 0 then { s with L := s.L ++ [item s stream ord bs til], many := s.many + 1, used := s.used + bs.length } else s
theorem put_ok {s : S} (h : Ok s) {stream : Int} (hs : 0 ≤ stream) (ord : Bool) (bs : List UInt8) (til : Int) : Ok (put s stream ord bs til) := by
  unfold put
  split
  · rename_i he
    unfold putE at he
    have h1 := h.room; have h2 := h.used; have h3 := h.streams
    split at he
    · omega
    · split at he
      · omega
      · split at he
        · omega
        · split at he
          · omega
          · refine ⟨fun x hx => ?_, h1, by dsimp only; omega, h3, h.ssn⟩
            rcases List.mem_append.1 hx with hx | hx
            · exact h.its x hx
            · rw [List.mem_singleton.1 hx]
              exact ⟨⟨by dsimp [item]; omega, by dsimp [item]; omega, by dsimp [item]; omega, by dsimp [item]; omega⟩, by dsimp [item]; omega⟩
  · exact h
/-! ### the next piece -/
def endAt (x : It) (most : Int) : Nat := x.at_ + (mn most (left x)).toNat
def first (x : It) : Bool := decide (x.at_ = 0)
def numbers (x : It) : Bool := first x && x.ord
def ssnOf (s : S) (x : It) : Int := s.ssn.getD x.stream.toNat 0
def cutI (s : S) (x : It) (most : Int) : It := { x with at_ := endAt x most, ssn := if numbers x then ssnOf s x else x.ssn }
def lastB (x : It) (most : Int) : Bool := decide (endAt x most = x.bs.length)
def cutD (s : S) (x : It) (most : Int) : Flt.Dt := ⟨0, x.stream, if numbers x then ssnOf s x else x.ssn, !x.ord, first x, lastB x most, (x.bs.drop x.at_).take (endAt x most - x.at_)⟩
def ssns (s : S) (x : It) : List Int := if numbers x then s.ssn.set x.stream.toNat (u16 (ssnOf s x + 1)) else s.ssn
def nextS (s : S) (x : It) (r : List It) (most : Int) : S := { s with L := if lastB x most then r else cutI s x most :: r, ssn := ssns s x }
/-- the piece, its message, what is left; none: there is none -/
def next (s : S) (most : Int) : Option (Flt.Dt × Int × S) := if most < 1 then none else match s.L with
  | [] => none
  | x :: r => some (cutD s x most, x.id, nextS s x r most)
def size (s : S) : Nat := match s.L with | [] => 0 | x :: _ => left x
theorem endAt_le {x : It} (h : x.Ok) {most : Int} : endAt x most ≤ x.bs.length := by
  have := h.at_
  unfold endAt
  rw [mn_eq]
  unfold left
  omega
theorem endAt_lt {x : It} (h : x.Ok) {most : Int} (hm : 1 ≤ most) : x.at_ < endAt x most := by
  have := h.at_
  unfold endAt
  rw [mn_eq]
  unfold left
  omega
theorem ssnOf_rng {s : S} (h : Ok s) (x : It) : 0 ≤ ssnOf s x ∧ ssnOf s x < 65536 := by
  unfold ssnOf
  rw [List.getD_eq_getElem?_getD]
  cases hx : s.ssn[x.stream.toNat]? with
  | none => simp
  | some n => exact h.ssn n (List.mem_of_getElem? hx)
theorem u16_rng (n : Int) : 0 ≤ u16 n ∧ u16 n < 65536 := by
  have : u16 n = n % 65536 := by simp [u16, IntKind.wrap, IntKind.bits, IntKind.signed]
  rw [this]; omega
theorem ssns_len (s : S) (x : It) : (ssns s x).length = s.ssn.length := by unfold ssns; split; simp; rfl
theorem ssns_rng {s : S} (h : Ok s) (x : It) : ∀ n ∈ ssns s x, 0 ≤ n ∧ n < 65536 := by
  unfold ssns
  split
  · intro n hn
    rcases List.mem_or_eq_of_mem_set hn with hn | rfl
    · exact h.ssn n hn
    · exact u16_rng _
  · exact h.ssn
theorem nextS_ok {s : S} (h : Ok s) {x : It} {r : List It} (hL : s.L = x :: r) (most : Int) : Ok (nextS s x r most) := by
  have hx := h.its x (by rw [hL]; exact List.mem_cons_self)
  have hr : ∀ y ∈ r, y.Ok ∧ y.stream < s.ssn.length := fun y hy => h.its y (by rw [hL]; exact List.mem_cons_of_mem _ hy)
  unfold nextS
  refine ⟨?_, h.room, h.used, by dsimp only; rw [ssns_len]; exact h.streams, ssns_rng h x⟩
  dsimp only
  rw [ssns_len]
  split
  · exact hr
  · rename_i hb
    intro y hy
    rcases List.mem_cons.1 hy with rfl | hy
    · have h1 := endAt_le hx.1 (most := most)
      have h2 : endAt x most ≠ x.bs.length := fun e => hb (decide_eq_true e)
      refine ⟨⟨hx.1.stream, by dsimp [cutI]; omega, hx.1.size, ?_⟩, hx.2⟩
      dsimp only [cutI]
      split
      · exact ssnOf_rng h x
      · exact hx.1.ssn
    · exact hr y hy
/-! ### what is of no use any more -/
def dead (now : Int) (x : It) : Bool := decide (1 ≤ x.til ∧ x.til ≤ now)
def begun (x : It) : Bool := decide (0 < x.at_)
def rest (x : It) : Flt.Dt := ⟨0, x.stream, x.ssn, !x.ord, false, true, [0]⟩
def noD : Flt.Dt := ⟨0, 0, 0, false, false, false, []⟩
def goneI (x : It) : Int := (left x : Int) - if begun x then 1 else 0
/-- what a look at one does to: the bytes that are gone, the piece, its message, whether there is one -/
def seeI (now : Int) (q : Int × Flt.Dt × Int × Bool) (x : It) : Int × Flt.Dt × Int × Bool :=
  if dead now x then (if begun x then (q.1 + goneI x, rest x, x.id, true) else (q.1 + goneI x, q.2)) else q
def seen (s : S) (now : Int) : Int × Flt.Dt × Int × Bool := s.L.foldl (seeI now) (0, noD, 0, false)
def free (s : S) (n : Int) : S := { s with used := s.used - mn (mx n 0) s.used }
def expire (s : S) (now : Int) : S := free { s with L := s.L.filter (fun x => !dead now x) } (seen s now).1
def waiting (s : S) : Nat := (s.L.map left).sum
theorem free_ok {s : S} (h : Ok s) (n : Int) : Ok (free s n) := by
  have := h.used
  exact ⟨h.its, h.room, by dsimp only [free]; rw [mn_eq, mx_eq]; omega, h.streams, h.ssn⟩
theorem expire_ok {s : S} (h : Ok s) (now : Int) : Ok (expire s now) :=
  free_ok (s := { s with L := s.L.filter (fun x => !dead now x) }) ⟨fun x hx => h.its x (List.mem_filter.1 hx).1, h.room, h.used, h.streams, h.ssn⟩ _
end Go.Oq
namespace Go.Snd
open Go Go.Pth

structure Way where
  p : Pth.S
  timer : Int
  set : Bool
  mark : Int
structure Life where
  id : Int
  til : Int
structure Owed where
  d : Flt.Dt
  id : Int
structure S where
  q : Oq.S
  f : Flt.S
  ws : List Way
  room : Int
  first : Int
  mtu : Int
  lives : List Life
  owed : List Owed
  told : Bool
  cum : Int
  at_ : Int
  by_ : Int
def clock (now : Int) : Int := mx 0 (mn now 2305843009213693952)
theorem clock_rng (now : Int) : 0 ≤ clock now ∧ clock now ≤ 2305843009213693952 := by unfold clock; rw [mx_eq, mn_eq]; omega
def away (s : S) : Nat := ((List.range s.ws.length).map (fun k : Nat => Flt.out s.f k)).sum
def sizeW (s : S) (k : Nat) : Int := match s.ws[k]? with | some w => w.p.w.size | none => 0
def mayW (s : S) (k : Nat) : Bool := decide ((Flt.out s.f k : Int) < sizeW s k)
/-! ### put -/
def untilOf (lasts now : Int) : Int := if lasts > 0 then clock now + mn lasts 2305843009213693952 else 0
def putE (s : S) (stream : Int) (n : Nat) (lasts now : Int) : Int := if lasts < 0 then 1 else if s.first < n then 5 else Oq.putE s.q stream n (untilOf lasts now)
def put (s : S) (stream : Int) (ord : Bool) (bs : List UInt8) (lasts now : Int) : S :=
  if putE s stream bs.length lasts now = 0 then { s with q := Oq.put s.q stream ord bs (untilOf lasts now), lives := if untilOf lasts now > 0 then s.lives ++ [⟨s.q.many, untilOf lasts now⟩] else s.lives } else s
/-! ### what is acknowledged -/
def hear1 (x : Flt.PT) (full : Bool) (now : Int) (w : Way) : Way :=
  if x.acked > 0 then
    let p1 := if x.some_ then sampled (answered w.p) (mx 0 (now - x.at_)) else answered w.p
    if x.pseudo then let p2 := acked p1 x.acked full; { w with p := p2, timer := now + p2.r.value } else { w with p := p1 }
  else w
def hear2 (x : Flt.PT) (c : Int) (n : Nat) (w : Way) : Way := if x.fast && !w.set then { w with p := fast w.p, set := true, mark := Spn.u32 (c + Spn.u32 n) } else w
def hear3 (c : Int) (w : Way) : Way := if w.set && !Rm.less32 c w.mark then { w with set := false } else w
def hear (x : Flt.PT) (full : Bool) (now c : Int) (n : Nat) (w : Way) : Way := hear3 c (hear2 x c n (hear1 x full now w))
def ptOf (t : Flt.Tld) (k : Nat) : Flt.PT := match k with | 0 => t.p0 | 1 => t.p1 | 2 => t.p2 | _ => t.p3
def hearAll (s : S) (t : Flt.Tld) (full : Nat → Bool) (now : Int) : List Way := s.ws.mapIdx (fun k w => hear (ptOf t k) (full k) now s.f.c s.f.L.length w)
def restW (f : Flt.S) (k : Nat) (w : Way) : Way := if Flt.out f k = 0 then { w with timer := -1 } else w
def restAll (s : S) : S := { s with ws := s.ws.mapIdx (restW s.f) }
def addF (s : S) (d : Flt.Dt) (path now id : Int) : S := { s with f := Flt.add s.f d path now id }
def layN (now : Int) : Nat → S → S
  | 0, s => s
  | n + 1, s => match s.owed with
    | [] => s
    | x :: r => if Flt.addE s.f x.d 0 = 0 then layN now n { s with f := Flt.abandon (Flt.add s.f x.d 0 (clock now) x.id) x.id, owed := r } else s
def lay (s : S) (now : Int) : S := layN now s.owed.length s
def roomOf (s : S) (rwnd : Int) (whole : Bool) : Int :=
  let r := mx 0 (mn rwnd 1048576 - Flt.openB s.f)
  if whole then r else mn r s.room
def sack (s : S) (y rwnd : Int) (gs : List (Nat × Nat)) (now : Int) : Option S := match Flt.sack s.f y gs with
  | none => none
  | some (f', t) =>
    let s1 : S := { s with f := f' }
    let s2 : S := { s1 with ws := hearAll s1 t (fun k => !mayW s k) (clock now) }
    let s3 := restAll s2
    let s4 : S := { s3 with q := Oq.free s3.q t.freed }
    let s5 := lay s4 now
    some { s5 with room := roomOf s5 rwnd t.whole }
/-! ### what is of no use any more -/
def lifeDead (now : Int) (x : Life) : Bool := decide (x.til ≤ now)
def lapse (f : Flt.S) (now : Int) (l : List Life) : Flt.S := (l.filter (lifeDead now)).foldl (fun f x => Flt.abandon f x.id) f
def expire1 (s : S) (now : Int) : S :=
  let g := Oq.seen s.q now
  let q := Oq.expire s.q now
  if g.2.2.2 then { s with q := q, owed := s.owed ++ [⟨g.2.1, g.2.2.1⟩], f := Flt.abandon s.f g.2.2.1 } else { s with q := q }
def expire2 (s : S) (now : Int) : S := { s with f := lapse s.f now s.lives, lives := s.lives.filter (fun x => !lifeDead now x) }
def expire (s : S) (now : Int) : S := restAll (lay (expire2 (expire1 s (clock now)) (clock now)) now)
/-! ### timers -/
def ran (w : Way) (now : Int) : Bool := !(decide (w.timer = -1) || decide (w.timer > now))
structure Late where
  s : S
  late : Int
  gone : Int
def lateW (w : Way) : Way := { w with p := Pth.late w.p, timer := -1, set := false }
def late1 (now : Int) (g : Late) (k : Nat) : Late := match g.s.ws[k]? with
  | none => g
  | some w => if ran w now then ⟨{ g.s with ws := g.s.ws.set k (lateW w), f := Flt.mark g.s.f k }, g.late + 1, g.gone + if Pth.lateA w.p then 1 else 0⟩ else g
def timeout (s : S) (now : Int) : Late := (List.range s.ws.length).foldl (late1 (clock now)) ⟨s, 0, 0⟩
/-! ### what goes -/
def activeW (s : S) (k : Nat) : Bool := match s.ws[k]? with | some w => Pth.active w.p | none => false
def turn (n k i : Nat) : Nat := (k + 1 + i) % n
def nextW (s : S) (k : Nat) : Nat := match (List.range s.ws.length).find? (fun i => activeW s (turn s.ws.length k i)) with
  | some i => turn s.ws.length k i
  | none => (k + 1) % s.ws.length
def need (n : Nat) : Int := 16 + ((n : Int) + 3) / 4 * 4
structure Go1 where
  s : S
  out : List Flt.Dt
  room : Int
/-- the lost ones, one by one; true: no more -/
def again1 (k : Nat) (now : Int) (x : Go1 × Bool) (t : Int) : Go1 × Bool :=
  if x.2 then x else match Flt.getD x.1.s.f t with
  | none => x
  | some (d, was) =>
    if nextW x.1.s was.toNat ≠ k then x
    else if !mayW x.1.s k || decide (need d.bs.length > x.1.room) then (x.1, true)
    else (⟨{ x.1.s with f := (Flt.again x.1.s.f t k (clock now)).1 }, x.1.out ++ [d], x.1.room - need d.bs.length⟩, false)
def again (s : S) (k : Nat) (now : Int) : Go1 := ((Flt.lostL s.f).foldl (again1 k now) (⟨s, [], s.mtu - 12⟩, false)).1
def piece (s : S) : Int := mn (Oq.size s.q) ((s.mtu - 12 - 16) / 4 * 4)
def stops (s : S) (k : Nat) (room : Int) : Bool :=
  let n := piece s
  decide (n = 0) || (decide (need n.toNat > room) || (!mayW s k || (decide (n > s.room) && decide (0 < away s) || decide (2048 ≤ s.f.L.length))))
def fresh1 (k : Nat) (now : Int) (g : Go1) : Go1 := match Oq.next g.s.q (piece g.s) with
  | none => g
  | some (d, id, q') =>
    ⟨{ g.s with q := q', f := Flt.add g.s.f d k (clock now) id, room := mx 0 (g.s.room - piece g.s) }, g.out ++ [{ d with tsn := Flt.newT g.s.f }], g.room - need (piece g.s).toNat⟩
def freshN (k : Nat) (now : Int) : Nat → Go1 → Go1
  | 0, g => g
  | n + 1, g => if stops g.s k g.room then g else freshN k now n (fresh1 k now g)
def fresh (s : S) (k : Nat) (now : Int) : Go1 := freshN k now 100 ⟨s, [], s.mtu - 12⟩
def runW (now : Int) (w : Way) : Way := if w.timer = -1 then { w with timer := now + w.p.r.value } else w
def run (s : S) (k : Nat) (now : Int) : S := match s.ws[k]? with
  | some w => { s with ws := s.ws.set k (runW (clock now) w) }
  | none => s
/-- the first path, from one on, by which something goes -/
def trySome (step : S → Nat → Option Go1) (now : Int) : List Nat → S → S × Option (Nat × List Flt.Dt)
  | [], s => (s, none)
  | k :: r, s => match step s k with
    | none => trySome step now r s
    | some g => if g.out = [] then trySome step now r g.s else (run g.s k now, some (k, g.out))
def noneActive (s : S) : Bool := !activeW s (nextW s 0)
def next (s : S) (now : Int) : S × Option (Nat × List Flt.Dt) :=
  match trySome (fun s k => some (again s k now)) now (List.range s.ws.length) s with
  | (s1, some r) => (s1, some r)
  | (s1, none) => trySome (fun s' k => if noneActive s1 || activeW s' k then some (fresh s' k now) else none) now (List.range s.ws.length) s1
/-! ### what will not come -/
def okRow (c : Int) : Nat → List Flt.Dt → Bool
  | _, [] => true
  | i, d :: r => decide (Spn.u32 (d.tsn - c) = Spn.u32 (i + 1)) && okRow c (i + 1) r
def skipIn (l : List Rm.Sk) (st n : Int) : List Rm.Sk := match l with
  | [] => [⟨st, n⟩]
  | k :: r => if k.st = st then ⟨st, if Rm.less16 k.n n then n else k.n⟩ :: r else k :: skipIn r st n
def skips (l : List Flt.Dt) : List Rm.Sk := l.foldl (fun q d => if d.un then q else skipIn q d.stream d.ssn) []
def make (c : Int) (l : List Flt.Dt) : Option (Int × List Rm.Sk) := if okRow c 0 l then (match l.getLast? with | none => none | some d => some (d.tsn, skips l)) else none
def valueW (s : S) (k : Int) : Int := match s.ws[k.toNat]? with | some w => w.p.r.value | none => 0
def due (s : S) : Option ((Int × List Rm.Sk) × Int) := match make s.f.c (Flt.ptL s.f.L) with
  | none => none
  | some f => some (f, if s.told && decide (s.cum = f.1) then s.at_ + valueW s s.by_ else 0)
def cutSk (l : List Rm.Sk) (most : Int) : List Rm.Sk := l.take (mx 0 (mn l.length (most / 4 - 1))).toNat
def forward (s : S) (now : Int) : S × Option (Int × List Rm.Sk × Nat) := match due s with
  | none => (s, none)
  | some (f, a) => if a > clock now then (s, none) else
    let b := nextW s s.by_.toNat
    ({ s with told := true, cum := f.1, at_ := clock now, by_ := b }, some (f.1, cutSk f.2 (s.mtu - 20), b))
/-! ### heartbeats, and what is looked at -/
def beatW (now : Int) (w : Way) : Way := { w with p := Pth.beatS w.p now }
def beatL (s : S) (now : Int) : List Nat := (List.range s.ws.length).filter (fun k => match s.ws[k]? with | some w => Pth.beats w.p now | none => false)
def beat (s : S) (now : Int) : S := { s with ws := s.ws.map (beatW now) }
def beatenB (s : S) (k sent now : Int) : Bool := if k < 0 then false else match s.ws[k.toNat]? with | some w => Pth.beaten w.p sent now | none => false
def beaten (s : S) (k sent now : Int) : S := if k < 0 then s else match s.ws[k.toNat]? with
  | some w => { s with ws := s.ws.set k.toNat { w with p := Pth.beatenS w.p sent now } }
  | none => s
def whenW (t : Int) (w : Way) : Int := let u := mn t w.p.next; if w.timer = -1 then u else mn u w.timer
def when (s : S) : Int :=
  let t0 := match s.ws with | w :: _ => w.p.next | [] => 0
  let t1 := s.ws.foldl whenW t0
  let t2 := s.lives.foldl (fun t x => mn t x.til) t1
  match due s with | some (_, a) => mn t2 a | none => t2
def empty (s : S) : Bool := decide (Oq.waiting s.q = 0) && (decide (s.owed = []) && decide (s.f.L = []))
def pathA (s : S) (k : Int) : Int × Int × Int × Bool := if k < 0 then (0, 0, 0, false) else match s.ws[k.toNat]? with
  | some w => (Flt.out s.f k, w.p.w.size, w.p.r.value, Pth.active w.p)
  | none => (0, 0, 0, false)
end Go.Snd
namespace Go.Snd
open Go Go.Pth

def atR (a : Int) : Prop := 0 ≤ a ∧ a ≤ 2305843009213693952
theorem clock_at (now : Int) : atR (clock now) := clock_rng now
def atT (t : Flt.Tld) : Prop := atR t.p0.at_ ∧ atR t.p1.at_ ∧ atR t.p2.at_ ∧ atR t.p3.at_
theorem atR_zero : atR 0 := ⟨by omega, by omega⟩
theorem upd_at {t : Flt.Tld} (h : atT t) {p : Int} {f : Flt.PT → Flt.PT} (hf : ∀ q, atR q.at_ → atR (f q).at_) : atT (t.upd p f) := by
  obtain ⟨h0, h1, h2, h3⟩ := h
  unfold Flt.Tld.upd
  split
  · exact ⟨hf _ h0, h1, h2, h3⟩
  · split
    · exact ⟨h0, hf _ h1, h2, h3⟩
    · split
      · exact ⟨h0, h1, hf _ h2, h3⟩
      · exact ⟨h0, h1, h2, hf _ h3⟩
def AtK (L : List Flt.Rc) (t : Flt.Tld) : Prop := (∀ r ∈ L, atR r.at_) ∧ atT t
theorem ack1_at {low : Flt.Q4 (Option Nat)} {k : Flt.AK} (h : AtK k.L k.t) (i : Nat) : AtK (Flt.ack1 low k i).L (Flt.ack1 low k i).t := by
  unfold Flt.ack1
  split
  · exact h
  · rename_i r hr
    split
    · exact h
    · refine ⟨fun q hq => ?_, upd_at h.2 (fun q hq => ?_)⟩
      · rcases List.mem_or_eq_of_mem_set hq with hq | rfl
        · exact h.1 q hq
        · exact h.1 r (List.mem_of_getElem? hr)
      · unfold Flt.takeP
        dsimp only
        split
        · exact hq
        · exact h.1 r (List.mem_of_getElem? hr)
theorem ackR_at {low : Flt.Q4 (Option Nat)} (a : Nat) : ∀ (n : Nat) {k : Flt.AK}, AtK k.L k.t → AtK (Flt.ackR low k a n).L (Flt.ackR low k a n).t
  | 0, _, h => h
  | n + 1, k, h => by rw [Flt.ackR_succ]; exact ack1_at (ackR_at a n h) _
theorem ackAll_at {low : Flt.Q4 (Option Nat)} : ∀ (sp : List (Nat × Nat)) {k : Flt.AK}, AtK k.L k.t → AtK (Flt.ackAll low k sp).L (Flt.ackAll low k sp).t
  | [], _, h => h
  | g :: sp, k, h => by
    show AtK (Flt.ackAll low (Flt.ackR low k g.1 (g.2 - g.1)) sp).L _
    exact ackAll_at sp (ackR_at _ _ h)
theorem miss1_at (high : Flt.Q4 Int) {x : List Flt.Rc × Flt.Tld} (h : AtK x.1 x.2) (i : Nat) : AtK (Flt.miss1 high x i).1 (Flt.miss1 high x i).2 := by
  unfold Flt.miss1
  split
  · exact h
  · rename_i r hr
    split
    · refine ⟨fun q hq => ?_, ?_⟩
      · rcases List.mem_or_eq_of_mem_set hq with hq | rfl
        · exact h.1 q hq
        · have := h.1 r (List.mem_of_getElem? hr)
          unfold Flt.missR
          split <;> exact this
      · dsimp only
        split
        · exact upd_at h.2 (fun q hq => hq)
        · exact h.2
    · exact h
theorem missF_at (high : Flt.Q4 Int) {x : List Flt.Rc × Flt.Tld} (h : AtK x.1 x.2) : ∀ n, AtK ((List.range n).foldl (Flt.miss1 high) x).1 ((List.range n).foldl (Flt.miss1 high) x).2
  | 0 => h
  | n + 1 => by rw [Flt.miss_snoc]; exact miss1_at high (missF_at high h n) n
/-- a flight of a sender's -/
structure FOk (f : Flt.S) : Prop where
  g : Flt.Good f
  ats : ∀ r ∈ f.L, atR r.at_
  bytes : ∀ r ∈ f.L, r.bs.length ≤ 1500
theorem sum_le {α : Type} {g : α → Nat} {b : Nat} : ∀ {l : List α}, (∀ a ∈ l, g a ≤ b) → (l.map g).sum ≤ b * l.length
  | [], _ => by simp
  | a :: l, h => by
    have h1 := h a List.mem_cons_self
    have h2 := sum_le (l := l) (fun x hx => h x (List.mem_cons_of_mem _ hx))
    rw [List.map_cons, List.sum_cons, List.length_cons, Nat.mul_succ]
    omega
theorem FOk.small {f : Flt.S} (h : FOk f) (q : Flt.Rc → Bool) : Flt.sumB q f.L ≤ 3072000 := by
  unfold Flt.sumB
  have h1 := sum_le (g := fun r : Flt.Rc => r.bs.length) (b := 1500) (l := f.L.filter q) (fun r hr => h.bytes r (List.mem_filter.1 hr).1)
  have h2 := List.length_filter_le q f.L
  have h3 := h.g.few
  omega
theorem bytes_k {L M : List Flt.Rc} (h : L.map Flt.Rc.k = M.map Flt.Rc.k) {b : Nat} (hm : ∀ r ∈ M, r.bs.length ≤ b) : ∀ r ∈ L, r.bs.length ≤ b := fun r hr => by
  obtain ⟨i, hi⟩ := List.getElem?_of_mem hr
  obtain ⟨q, hq, h1, _⟩ := Flt.k_get h hi
  have := hm q (List.mem_of_getElem? hq)
  rw [show r.bs = q.bs from congrArg Flt.Dt.bs h1]
  exact this
theorem FOk.sack {f f' : Flt.S} (h : FOk f) {y : Int} (hy : 0 ≤ y ∧ y < 4294967296) {gs : List (Nat × Nat)} {t : Flt.Tld} (hs : Flt.sack f y gs = some (f', t)) : FOk f' ∧ atT t ∧ t.nn ∧ f'.paths = f.paths ∧ f'.c = y := by
  have g := h.g.sack hy hs
  have hn := (Flt.sack_pot (by have := h.small Flt.low1; omega) hs).1
  obtain ⟨M, hM, rfl, _⟩ := Flt.sack_L hs
  obtain ⟨sp, _, h1, h2⟩ := Flt.sack_some hs
  have k0 : AtK f.L Flt.Tld.zero := ⟨h.ats, atR_zero, atR_zero, atR_zero, atR_zero⟩
  have k1 := ackAll_at (low := Flt.lowQ f.L) sp (k := ⟨f.L, Flt.Tld.zero, ⟨-1, -1, -1, -1⟩⟩) k0
  have k2 := missF_at (Flt.ackAll (Flt.lowQ f.L) ⟨f.L, Flt.Tld.zero, ⟨-1, -1, -1, -1⟩⟩ sp).high (x := (_, _)) k1 ((Flt.ackAll (Flt.lowQ f.L) ⟨f.L, Flt.Tld.zero, ⟨-1, -1, -1, -1⟩⟩ sp).L, (Flt.ackAll (Flt.lowQ f.L) ⟨f.L, Flt.Tld.zero, ⟨-1, -1, -1, -1⟩⟩ sp).t).1.length
  refine ⟨⟨g, fun r hr => ?_, fun r hr => bytes_k hM h.bytes r (List.mem_of_mem_drop hr)⟩, by rw [h2]; exact k2.2, hn, rfl, rfl⟩
  have hL := congrArg Flt.S.L h1
  dsimp only at hL
  rw [hL] at hr
  exact k2.1 r (List.mem_of_mem_drop hr)
theorem FOk.sel {f : Flt.S} (h : FOk f) (q : Flt.Rc → Bool) (g : Flt.Rc → Flt.Rc) (hk : ∀ r, (g r).k = r.k) (ha : ∀ r, (g r).at_ = r.at_) : FOk { f with L := Flt.sel q g f.L } := by
  have hs := Flt.sel_k q g hk f.L
  refine ⟨h.g.like hs, fun r hr => ?_, bytes_k hs h.bytes⟩
  obtain ⟨r0, hr0, rfl⟩ := List.mem_map.1 hr
  have := h.ats r0 hr0
  split
  · rw [ha]; exact this
  · exact this
theorem FOk.mark {f : Flt.S} (h : FOk f) (p : Int) : FOk (Flt.mark f p) := h.sel _ _ (fun _ => rfl) (fun _ => rfl)
theorem FOk.abandon {f : Flt.S} (h : FOk f) (i : Int) : FOk (Flt.abandon f i) := h.sel _ _ (fun _ => rfl) (fun _ => rfl)
theorem FOk.add {f : Flt.S} (h : FOk f) {d : Flt.Dt} (hd : d.bs.length ≤ 1500) (path : Int) {now : Int} (hn : atR now) (id : Int) : FOk (Flt.add f d path now id) := by
  refine ⟨h.g.add d path now id, ?_, ?_⟩
  all_goals
    unfold Flt.add
    split
    · intro r hr
      rcases List.mem_append.1 hr with hr | hr
      · first | exact h.ats r hr | exact h.bytes r hr
      · rw [List.mem_singleton.1 hr]
        first | exact hn | exact hd
    · first | exact h.ats | exact h.bytes
theorem FOk.again {f : Flt.S} (h : FOk f) (t path : Int) {now : Int} (hn : atR now) : FOk (Flt.again f t path now).1 := by
  refine ⟨h.g.again t path now, ?_, ?_⟩
  all_goals
    unfold Flt.again
    split
    · first | exact h.ats | exact h.bytes
    · split
      · first | exact h.ats | exact h.bytes
      · split
        · first | exact h.ats | exact h.bytes
        · rename_i i _ r0 hr0
          split
          · intro r hr
            rcases List.mem_or_eq_of_mem_set hr with hr | rfl
            · first | exact h.ats r hr | exact h.bytes r hr
            · first | exact hn | exact h.bytes r0 (List.mem_of_getElem? hr0)
          · first | exact h.ats | exact h.bytes
theorem add_paths (f : Flt.S) (d : Flt.Dt) (p now id : Int) : (Flt.add f d p now id).paths = f.paths := by unfold Flt.add; split <;> rfl
theorem again_paths (f : Flt.S) (t p now : Int) : (Flt.again f t p now).1.paths = f.paths := by
  unfold Flt.again
  repeat' split
  all_goals rfl
/-- a way of a sender's -/
structure Way.Ok (w : Way) : Prop where
  p : Pth.Ok w.p
  timer : -1 ≤ w.timer ∧ w.timer ≤ 2305843009213693952 + 1048576
  mark : 0 ≤ w.mark ∧ w.mark < 4294967296
theorem Way.Ok.value {w : Way} (h : w.Ok) : 1 ≤ w.p.r.value ∧ w.p.r.value ≤ 1048576 := by
  have := h.p.r.least; have := h.p.r.lv; have := h.p.r.vm; have := h.p.r.most
  omega
structure Ok (n : Nat) (s : S) : Prop where
  q : Oq.Ok s.q
  many : 0 ≤ s.q.many ∧ s.q.many ≤ n
  qfew : s.q.L.length ≤ n
  f : FOk s.f
  paths : s.f.paths = s.ws.length
  nws : 1 ≤ s.ws.length ∧ s.ws.length ≤ 4
  ws : ∀ w ∈ s.ws, w.Ok
  room : 0 ≤ s.room ∧ s.room ≤ 1048576
  first : 0 ≤ s.first ∧ s.first ≤ 1048576
  mtu : 128 ≤ s.mtu ∧ s.mtu ≤ 1500
  lives : ∀ x ∈ s.lives, 0 ≤ x.til ∧ x.til ≤ 4611686018427387904
  lfew : s.lives.length ≤ n
  owed : ∀ x ∈ s.owed, x.d.bs.length = 1
  ofew : s.owed.length ≤ n
  cum : 0 ≤ s.cum ∧ s.cum < 4294967296
  at_ : atR s.at_
  by_ : 0 ≤ s.by_ ∧ s.by_ < s.ws.length
/-! ### what is acknowledged -/
theorem hear1_ok {w : Way} (h : w.Ok) {x : Flt.PT} (_hx : atR x.at_) (full : Bool) {now : Int} (hn : atR now) : (hear1 x full now w).Ok := by
  unfold hear1
  split
  · rename_i ha
    dsimp only
    have h1 : Pth.Ok (if x.some_ = true then sampled (answered w.p) (mx 0 (now - x.at_)) else answered w.p) := by
      split
      · exact sampled_ok (answered_ok h.p) (by rw [mx_eq]; omega)
      · exact answered_ok h.p
    revert h1
    generalize (if x.some_ = true then sampled (answered w.p) (mx 0 (now - x.at_)) else answered w.p) = p1
    intro h1
    split
    · have h2 := acked_ok h1 x.acked full
      have := h2.r.least; have := h2.r.lv; have := h2.r.vm; have := h2.r.most
      obtain ⟨hn1, hn2⟩ := hn
      exact ⟨h2, by dsimp only; omega, h.mark⟩
    · exact ⟨h1, h.timer, h.mark⟩
  · exact h
theorem hear2_ok {w : Way} (h : w.Ok) (x : Flt.PT) (c : Int) (n : Nat) : (hear2 x c n w).Ok := by
  unfold hear2
  split
  · exact ⟨fast_ok h.p, h.timer, Flt.u32_mod _⟩
  · exact h
theorem hear3_ok {w : Way} (h : w.Ok) (c : Int) : (hear3 c w).Ok := by
  unfold hear3
  split
  · exact ⟨h.p, h.timer, h.mark⟩
  · exact h
theorem hear_ok {w : Way} (h : w.Ok) {x : Flt.PT} (hx : atR x.at_) (full : Bool) {now : Int} (hn : atR now) (c : Int) (n : Nat) : (hear x full now c n w).Ok := hear3_ok (hear2_ok (hear1_ok h hx full hn) x c n) c
theorem ptOf_at {t : Flt.Tld} (h : atT t) (k : Nat) : atR (ptOf t k).at_ := by
  obtain ⟨h0, h1, h2, h3⟩ := h
  unfold ptOf
  split <;> assumption
theorem restW_ok {f : Flt.S} {k : Nat} {w : Way} (h : w.Ok) : (restW f k w).Ok := by
  unfold restW
  split
  · exact ⟨h.p, by dsimp only; omega, h.mark⟩
  · exact h
theorem ways_idx {l : List Way} (g : Nat → Way → Way) (h : ∀ w ∈ l, w.Ok) (hg : ∀ k w, w.Ok → (g k w).Ok) : ∀ w ∈ l.mapIdx g, w.Ok := by
  intro w hw
  obtain ⟨i, hi, rfl⟩ := List.mem_mapIdx.1 hw
  exact hg _ _ (h _ (List.getElem_mem hi))
theorem restAll_ok {n : Nat} {s : S} (h : Ok n s) : Ok n (restAll s) := by
  refine { h with paths := ?_, nws := ?_, ws := ways_idx _ h.ws (fun k w hw => restW_ok hw), by_ := ?_ }
  all_goals simp only [restAll, List.length_mapIdx]
  · exact h.paths
  · exact h.nws
  · exact h.by_
theorem layN_ok {m : Nat} {now : Int} : ∀ (n : Nat) {s : S}, Ok m s → Ok m (layN now n s)
  | 0, _, h => h
  | n + 1, s, h => by
    rw [layN]
    split
    · exact h
    · rename_i x r hx
      split
      · refine layN_ok n { h with f := ?_, paths := ?_, owed := ?_, ofew := ?_ }
        · exact (h.f.add (by rw [h.owed x (by rw [hx]; exact List.mem_cons_self)]; omega) _ (clock_at now) _).abandon _
        · show (Flt.add s.f x.d 0 (clock now) x.id).paths = _
          rw [add_paths]; exact h.paths
        · exact fun y hy => h.owed y (by rw [hx]; exact List.mem_cons_of_mem _ hy)
        · have := h.ofew; rw [hx, List.length_cons] at this; dsimp only; omega
      · exact h
theorem lay_ok {n : Nat} {now : Int} {s : S} (h : Ok n s) : Ok n (lay s now) := layN_ok _ h
theorem roomOf_rng {s : S} (h : 0 ≤ s.room ∧ s.room ≤ 1048576) (rwnd : Int) (whole : Bool) : 0 ≤ roomOf s rwnd whole ∧ roomOf s rwnd whole ≤ 1048576 := by
  unfold roomOf
  dsimp only
  split
  · rw [mx_eq, mn_eq]; omega
  · rw [mx_eq, mn_eq, mn_eq]; omega
theorem hearAll_ok {n : Nat} {s : S} (h : Ok n s) {t : Flt.Tld} (ht : atT t) (full : Nat → Bool) {now : Int} (hn : atR now) : Ok n { s with ws := hearAll s t full now } := by
  refine { h with paths := ?_, nws := ?_, ws := ways_idx _ h.ws (fun k w hw => hear_ok hw (ptOf_at ht k) _ hn _ _), by_ := ?_ }
  all_goals simp only [hearAll, List.length_mapIdx]
  · exact h.paths
  · exact h.nws
  · exact h.by_
theorem free_ok {n : Nat} {s : S} (h : Ok n s) (m : Int) : Ok n { s with q := Oq.free s.q m } := { h with q := Oq.free_ok h.q m }
theorem sack_ok {n : Nat} {s s' : S} (h : Ok n s) {y rwnd : Int} (hy : 0 ≤ y ∧ y < 4294967296) {gs : List (Nat × Nat)} {now : Int} (hs : sack s y rwnd gs now = some s') : Ok n s' := by
  unfold sack at hs
  split at hs
  · cases hs
  · rename_i f' t ht
    cases hs
    obtain ⟨h1, h2, h3, h4, h5⟩ := h.f.sack hy ht
    have k1 : Ok n { s with f := f' } := { h with f := h1, paths := by dsimp only; rw [h4]; exact h.paths }
    have k2 := hearAll_ok k1 h2 (fun k => !mayW s k) (clock_at now)
    have k5 := lay_ok (now := now) (free_ok (restAll_ok k2) t.freed)
    exact { k5 with room := roomOf_rng k5.room _ _ }
/-! ### put -/
theorem untilOf_rng (lasts now : Int) : 0 ≤ untilOf lasts now ∧ untilOf lasts now ≤ 4611686018427387904 := by
  have := clock_rng now
  unfold untilOf
  split
  · rw [mn_eq]; omega
  · omega
theorem put_ok {n : Nat} {s : S} (h : Ok n s) {stream : Int} (hs : 0 ≤ stream) (ord : Bool) (bs : List UInt8) (lasts now : Int) : Ok (n + 1) (put s stream ord bs lasts now) := by
  have hm := h.many; have hq := h.qfew; have hl := h.lfew; have ho := h.ofew
  have h' : Ok (n + 1) s := { h with many := by omega, qfew := by omega, lfew := by omega, ofew := by omega }
  unfold put
  split
  · rename_i he
    refine { h' with q := Oq.put_ok h.q hs ord bs _, many := ?_, qfew := ?_, lives := ?_, lfew := ?_ }
    · show 0 ≤ (Oq.put s.q stream ord bs (untilOf lasts now)).many ∧ (Oq.put s.q stream ord bs (untilOf lasts now)).many ≤ ((n + 1 : Nat) : Int); unfold Oq.put; split <;> (try dsimp only) <;> omega
    · dsimp only; unfold Oq.put; split
      · simp; omega
      · omega
    · dsimp only
      split
      · intro x hx
        rcases List.mem_append.1 hx with hx | hx
        · exact h.lives x hx
        · rw [List.mem_singleton.1 hx]; exact untilOf_rng lasts now
      · exact h.lives
    · dsimp only
      split
      · simp; omega
      · omega
  · exact h'
/-! ### timers -/
theorem late1_ok {n : Nat} {now : Int} {g : Late} (h : Ok n g.s) (k : Nat) : Ok n (late1 now g k).s := by
  unfold late1
  split
  · exact h
  · rename_i w hw
    split
    · have hp := h.paths; have hb := h.by_; have hn := h.nws
      refine { h with f := h.f.mark _, paths := ?_, nws := ?_, ws := ?_, by_ := ?_ }
      · dsimp only [Flt.mark]; rw [List.length_set]; exact hp
      · dsimp only; rw [List.length_set]; exact hn
      · intro v hv
        rcases List.mem_or_eq_of_mem_set hv with hv | rfl
        · exact h.ws v hv
        · have hw' := h.ws w (List.mem_of_getElem? hw)
          exact ⟨late_ok hw'.p, by dsimp only [lateW]; omega, hw'.mark⟩
      · dsimp only; rw [List.length_set]; exact hb
    · exact h
theorem late_foldl {n : Nat} {now : Int} : ∀ (l : List Nat) {g : Late}, Ok n g.s → Ok n (l.foldl (late1 now) g).s
  | [], _, h => h
  | k :: l, g, h => late_foldl l (late1_ok h k)
theorem timeout_ok {n : Nat} {s : S} (h : Ok n s) (now : Int) : Ok n (timeout s now).s := late_foldl _ h
/-! ### what goes -/
theorem setW_ok {n : Nat} {s : S} (h : Ok n s) (k : Nat) {w : Way} (hw : w.Ok) : Ok n { s with ws := s.ws.set k w } := by
  have hp := h.paths; have hb := h.by_; have hn := h.nws
  refine { h with paths := ?_, nws := ?_, ws := ?_, by_ := ?_ }
  · dsimp only; rw [List.length_set]; exact hp
  · dsimp only; rw [List.length_set]; exact hn
  · intro v hv
    rcases List.mem_or_eq_of_mem_set hv with hv | rfl
    · exact h.ws v hv
    · exact hw
  · dsimp only; rw [List.length_set]; exact hb
theorem again1_ok {n k : Nat} {now : Int} {x : Go1 × Bool} (h : Ok n x.1.s) (t : Int) : Ok n (again1 k now x t).1.s := by
  unfold again1
  split
  · exact h
  · split
    · exact h
    · split
      · exact h
      · split
        · exact h
        · refine { h with f := h.f.again _ _ (clock_at now), paths := ?_ }
          dsimp only
          rw [again_paths]
          exact h.paths
theorem again_foldl {n k : Nat} {now : Int} : ∀ (l : List Int) {x : Go1 × Bool}, Ok n x.1.s → Ok n (l.foldl (again1 k now) x).1.s
  | [], _, h => h
  | t :: l, x, h => again_foldl l (again1_ok h t)
theorem again_ok {n : Nat} {s : S} (h : Ok n s) (k : Nat) (now : Int) : Ok n (again s k now).s := again_foldl _ h
theorem piece_rng {n : Nat} {s : S} (h : Ok n s) : 0 ≤ piece s ∧ piece s ≤ 1472 := by
  have := h.mtu
  unfold piece
  rw [mn_eq]
  omega
theorem fresh1_ok {n k : Nat} {now : Int} {g : Go1} (h : Ok n g.s) : Ok n (fresh1 k now g).s := by
  have hp := piece_rng h; have hr := h.room
  unfold fresh1
  split
  · exact h
  · rename_i d id q' hq
    unfold Oq.next at hq
    split at hq
    · cases hq
    · rename_i hm
      split at hq
      · cases hq
      · rename_i x r hL
        cases hq
        have hf := h.qfew
        rw [hL, List.length_cons] at hf
        have hx := (h.q.its x (by rw [hL]; exact List.mem_cons_self)).1
        have hlen : (Oq.cutD g.s.q x (piece g.s)).bs.length ≤ 1500 := by
          dsimp only [Oq.cutD]
          rw [List.length_take]
          have := hx.at_
          unfold Oq.endAt Oq.left
          rw [mn_eq]
          omega
        refine { h with q := Oq.nextS_ok h.q hL _, many := ?_, qfew := ?_, f := h.f.add hlen _ (clock_at now) _, paths := ?_, room := ?_ }
        · exact h.many
        · dsimp only [Oq.nextS]
          split
          · omega
          · rw [List.length_cons]; omega
        · dsimp only; rw [add_paths]; exact h.paths
        · dsimp only; rw [mx_eq]; omega
theorem freshN_ok {n k : Nat} {now : Int} : ∀ (m : Nat) {g : Go1}, Ok n g.s → Ok n (freshN k now m g).s
  | 0, _, h => h
  | m + 1, g, h => by
    rw [freshN]
    split
    · exact h
    · exact freshN_ok m (fresh1_ok h)
theorem fresh_ok {n : Nat} {s : S} (h : Ok n s) (k : Nat) (now : Int) : Ok n (fresh s k now).s := freshN_ok 100 h
theorem runW_ok {w : Way} (h : w.Ok) {now : Int} (hn : atR now) : (runW now w).Ok := by
  have := h.value
  obtain ⟨h1, h2⟩ := hn
  unfold runW
  split
  · exact ⟨h.p, by dsimp only; omega, h.mark⟩
  · exact h
theorem run_ok {n : Nat} {s : S} (h : Ok n s) (k : Nat) (now : Int) : Ok n (run s k now) := by
  unfold run
  split
  · rename_i w hw
    exact setW_ok h k (runW_ok (h.ws w (List.mem_of_getElem? hw)) (clock_at now))
  · exact h
theorem trySome_ok {n : Nat} {step : S → Nat → Option Go1} (hstep : ∀ s k g, Ok n s → step s k = some g → Ok n g.s) (now : Int) : ∀ (l : List Nat) {s : S}, Ok n s → Ok n (trySome step now l s).1
  | [], _, h => h
  | k :: l, s, h => by
    rw [trySome]
    split
    · exact trySome_ok hstep now l h
    · rename_i g hg
      split
      · exact trySome_ok hstep now l (hstep s k g h hg)
      · exact run_ok (hstep s k g h hg) k now
theorem again_step {n : Nat} (now : Int) : ∀ s k g, Ok n s → (fun s k => some (again s k now)) s k = some g → Ok n g.s := fun s k g h hg => by
  cases hg
  exact again_ok h k now
theorem next_ok {n : Nat} {s : S} (h : Ok n s) (now : Int) : Ok n (next s now).1 := by
  have h1 := trySome_ok (again_step now) now (List.range s.ws.length) h
  unfold next
  split
  · rename_i s1 r hs
    rw [hs] at h1
    exact h1
  · rename_i s1 hs
    rw [hs] at h1
    refine trySome_ok ?_ now _ h1
    intro s' k g h' hg
    split at hg
    · cases hg
      exact fresh_ok h' k now
    · cases hg
/-! ### heartbeats -/
theorem beat_ok {n : Nat} {s : S} (h : Ok n s) (now : Int) : Ok n (beat s now) := by
  have hp := h.paths; have hb := h.by_; have hn := h.nws
  refine { h with paths := ?_, nws := ?_, ws := ?_, by_ := ?_ }
  · dsimp only [beat]; rw [List.length_map]; exact hp
  · dsimp only [beat]; rw [List.length_map]; exact hn
  · intro v hv
    obtain ⟨w, hw, rfl⟩ := List.mem_map.1 hv
    have := h.ws w hw
    exact ⟨beatS_ok this.p now, this.timer, this.mark⟩
  · dsimp only [beat]; rw [List.length_map]; exact hb
theorem beaten_ok {n : Nat} {s : S} (h : Ok n s) (k sent now : Int) : Ok n (beaten s k sent now) := by
  unfold beaten
  split
  · exact h
  · split
    · rename_i w hw
      have := h.ws w (List.mem_of_getElem? hw)
      exact setW_ok h _ ⟨beatenS_ok this.p sent now, this.timer, this.mark⟩
    · exact h
/-! ### what is of no use any more -/
theorem seen_one (now : Int) : ∀ (l : List Oq.It) (q : Int × Flt.Dt × Int × Bool), (q.2.2.2 = true → q.2.1.bs.length = 1) → (l.foldl (Oq.seeI now) q).2.2.2 = true → (l.foldl (Oq.seeI now) q).2.1.bs.length = 1
  | [], _, h => h
  | x :: l, q, h => by
    refine seen_one now l _ ?_
    unfold Oq.seeI
    split
    · split
      · exact fun _ => rfl
      · exact h
    · exact h
theorem expire1_ok {n : Nat} {s : S} (h : Ok n s) (now : Int) : Ok (n + 1) (expire1 s now) := by
  have hm := h.many; have hq := h.qfew; have hl := h.lfew; have ho := h.ofew
  have hf : (Oq.expire s.q now).L.length ≤ n + 1 := by
    have := List.length_filter_le (fun x => !Oq.dead now x) s.q.L
    dsimp only [Oq.expire, Oq.free]
    omega
  have h' : Ok (n + 1) { s with q := Oq.expire s.q now } := { h with q := Oq.expire_ok h.q now, many := (by dsimp only [Oq.expire, Oq.free]; omega), qfew := hf, lfew := (by dsimp only; omega), ofew := (by dsimp only; omega) }
  unfold expire1
  dsimp only
  split
  · rename_i hs
    refine { h' with f := h.f.abandon _, paths := h.paths, owed := ?_, ofew := ?_ }
    · intro x hx
      rcases List.mem_append.1 hx with hx | hx
      · exact h.owed x hx
      · rw [List.mem_singleton.1 hx]
        exact seen_one now s.q.L _ (fun h => by cases h) hs
    · simp; omega
  · exact h'
theorem lapse_ok {f : Flt.S} (now : Int) (l : List Life) (h : FOk f) : FOk (lapse f now l) ∧ (lapse f now l).paths = f.paths := by
  unfold lapse
  generalize l.filter (lifeDead now) = k
  induction k generalizing f with
  | nil => exact ⟨h, rfl⟩
  | cons x k ih => exact ih (h.abandon x.id)
theorem expire2_ok {n : Nat} {s : S} (h : Ok n s) (now : Int) : Ok n (expire2 s now) := by
  obtain ⟨h1, h2⟩ := lapse_ok now s.lives h.f
  have hl := h.lfew
  refine { h with f := h1, paths := h2.trans h.paths, lives := fun x hx => h.lives x (List.mem_filter.1 hx).1, lfew := ?_ }
  have := List.length_filter_le (fun x => !lifeDead now x) s.lives
  dsimp only [expire2]
  omega
theorem expire_ok {n : Nat} {s : S} (h : Ok n s) (now : Int) : Ok (n + 1) (expire s now) := restAll_ok (lay_ok (expire2_ok (expire1_ok h _) _))
/-! ### what will not come -/
theorem nextW_lt {s : S} (h : 1 ≤ s.ws.length) (k : Nat) : nextW s k < s.ws.length := by
  unfold nextW turn
  split <;> exact Nat.mod_lt _ h
theorem make_rng {c : Int} {l : List Flt.Dt} (hl : ∀ d ∈ l, 0 ≤ d.tsn ∧ d.tsn < 4294967296) {f : Int × List Rm.Sk} (h : make c l = some f) : 0 ≤ f.1 ∧ f.1 < 4294967296 := by
  unfold make at h
  split at h
  · split at h
    · cases h
    · rename_i d hd
      cases h
      exact hl d (List.mem_of_getLast? hd)
  · cases h
theorem ptL_rng {f : Flt.S} (h : Flt.Good f) : ∀ d ∈ Flt.ptL f.L, 0 ≤ d.tsn ∧ d.tsn < 4294967296 := by
  intro d hd
  unfold Flt.ptL at hd
  obtain ⟨r, hr, rfl⟩ := List.mem_map.1 hd
  obtain ⟨i, hi⟩ := List.getElem?_of_mem ((List.takeWhile_sublist _).mem hr)
  have := h.tsn i r hi
  dsimp only [Flt.Rc.d]
  rw [this]
  exact Flt.u32_mod _
theorem forward_ok {n : Nat} {s : S} (h : Ok n s) (now : Int) : Ok n (forward s now).1 := by
  unfold forward
  split
  · exact h
  · rename_i f a hd
    split
    · exact h
    · unfold due at hd
      split at hd
      · cases hd
      · rename_i f' hf
        cases hd
        have hn := nextW_lt h.nws.1 s.by_.toNat
        exact { h with cum := make_rng (ptL_rng h.f.g) hf, at_ := clock_at now, by_ := by dsimp only; omega }
end Go.Snd
namespace Go.Proofs.YtjfpckadjnjmoaaGreat
open Go Go.Sl

/-- a config in memory -/
structure Cfg where
  paths : Int
  mtu : Int
  streams : Int
  sroom : Int
  rroom : Int
  cap : Int
  ri : Int
  rmin : Int
  rmax : Int
  delay : Int
  life : Int
  beat : Int
  retrans : Int
  tries : Int
def Cfg.cells (c : Cfg) : List Value := [.int .i64 c.paths, .int .i64 c.mtu, .int .i64 c.streams, .int .i64 c.sroom, .int .i64 c.rroom, .int .i64 c.cap, .int .i64 c.ri, .int .i64 c.rmin, .int .i64 c.rmax, .int .i64 c.delay, .int .i64 c.life, .int .i64 c.beat, .int .i64 c.retrans, .int .i64 c.tries]
end Go.Proofs.YtjfpckadjnjmoaaGreat
