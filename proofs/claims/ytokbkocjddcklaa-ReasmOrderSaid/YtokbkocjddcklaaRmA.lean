/- The reassembler in plain Lean: pieces in the order in which they came, what is whole, what becomes ready. No conditions: definitions and laws. -/
import GoSem.Core.View
namespace Go.Rm
open Go

abbrev u32 (n : Int) : Int := IntKind.u32.wrap n
abbrev u16 (n : Int) : Int := IntKind.u16.wrap n

/-- is one ahead of another one? -/
def less16 (a b : Int) : Bool := decide (u16 (b - a) > 0) && decide (u16 (b - a) ≤ 32767)
def less32 (a b : Int) : Bool := decide (u32 (b - a) > 0) && decide (u32 (b - a) ≤ 2147483647)

/-- a piece -/
structure D where
  tsn : Int
  stream : Int
  ssn : Int
  un : Bool
  fi : Bool
  la : Bool
  bytes : List UInt8

/-- a message -/
structure Mg where
  stream : Int
  ordered : Bool
  bytes : List UInt8

def at? (L : List D) (t : Int) : Option D := L.find? (fun d => t == d.tsn)
def mates (a b : D) : Bool := a.stream == b.stream && a.ssn == b.ssn && a.un == b.un

def back (L : List D) (p : D) : Nat → Int → D → Option Int
  | 0, _, _ => none
  | n + 1, first, q => if q.fi then some first else
    match at? L (u32 (first - 1)) with
    | none => none
    | some x => if !mates x p || x.la then none else back L p n (u32 (first - 1)) x
def forth (L : List D) (p : D) : Nat → Int → D → Option Int
  | 0, _, _ => none
  | n + 1, last, q => if q.la then some last else
    match at? L (u32 (last + 1)) with
    | none => none
    | some x => if !mates x p || x.fi then none else forth L p n (u32 (last + 1)) x
/-- the first and the last TSN of the whole message of a piece -/
def whole (L : List D) (p : D) : Option (Int × Int) :=
  match back L p (L.length + 1) p.tsn p with
  | none => none
  | some f => match forth L p (L.length + 1) p.tsn p with
    | none => none
    | some l => some (f, l)

theorem u32_eq (n : Int) : u32 n = n % 4294967296 := by simp [u32, IntKind.wrap, IntKind.bits, IntKind.signed]
theorem u16_eq (n : Int) : u16 n = n % 65536 := by simp [u16, IntKind.wrap, IntKind.bits, IntKind.signed]

theorem at_mem {L : List D} {t : Int} {d : D} (h : at? L t = some d) : d ∈ L ∧ d.tsn = t := by
  unfold at? at h
  exact ⟨List.mem_of_find?_eq_some h, by have := List.find?_some h; simp at this; exact this.symm⟩

/-- distinct things in a list are no more than the list's length -/
theorem length_le_of_nodup {α : Type} : ∀ (l1 l2 : List α), l1.Nodup → (∀ a ∈ l1, a ∈ l2) → l1.length ≤ l2.length
  | [], _, _, _ => Nat.zero_le _
  | a :: l1, l2, h, hs => by
    obtain ⟨s, t, rfl⟩ := List.append_of_mem (hs a (by simp))
    rw [List.nodup_cons] at h
    have ih := length_le_of_nodup l1 (s ++ t) h.2 (fun b hb => by
      have := hs b (by simp [hb])
      rw [List.mem_append, List.mem_cons] at this
      rcases this with h1 | h1 | h1
      · exact List.mem_append_left _ h1
      · exact absurd (h1 ▸ hb) h.1
      · exact List.mem_append_right _ h1)
    simp at ih ⊢
    omega

theorem nodup_map {α β : Type} (f : α → β) : ∀ (l : List α), l.Nodup → (∀ a ∈ l, ∀ b ∈ l, f a = f b → a = b) → (l.map f).Nodup
  | [], _, _ => by simp
  | a :: l, h, hi => by
    rw [List.map_cons, List.nodup_cons]
    rw [List.nodup_cons] at h
    refine ⟨fun hm => ?_, nodup_map f l h.2 (fun x hx y hy => hi x (by simp [hx]) y (by simp [hy]))⟩
    obtain ⟨b, hb, he⟩ := List.mem_map.1 hm
    have := hi b (by simp [hb]) a (by simp) he
    exact h.1 (this ▸ hb)

/-- so many TSNs one behind the other, all of them there, are no more than the pieces -/
theorem run_le {L : List D} {t : Int} {k : Nat} (s : Int) (hs : s = 1 ∨ s = -1) (hk : k < 4294967296) (h : ∀ i : Nat, 1 ≤ i → i ≤ k → ∃ d ∈ L, d.tsn = u32 (t + s * i)) : k ≤ L.length := by
  have h1 : ((List.range k).map (fun i : Nat => u32 (t + s * ((i : Int) + 1)))).Nodup := nodup_map _ _ (List.nodup_range) (fun a ha b hb he => by
    simp only [u32_eq] at he
    have ha' := List.mem_range.1 ha
    have hb' := List.mem_range.1 hb
    rcases hs with rfl | rfl <;> omega)
  have h2 := length_le_of_nodup _ (L.map (·.tsn)) h1 (fun x hx => by
    obtain ⟨i, hi, rfl⟩ := List.mem_map.1 hx
    obtain ⟨d, hd, he⟩ := h (i + 1) (by omega) (by have := List.mem_range.1 hi; omega)
    exact List.mem_map.2 ⟨d, hd, by rw [he]; simp⟩)
  simpa using h2

/-- the bytes of some TSNs one behind the other, and what is left of the pieces -/
def gath : Nat → List D → Int → Int → List UInt8 → List UInt8 × List D
  | 0, L, _, _, acc => (acc, L)
  | n + 1, L, t, last, acc =>
    if t == last then (acc ++ (match at? L t with | some d => d.bytes | none => []), L.eraseP (fun d => t == d.tsn))
    else gath n (L.eraseP (fun d => t == d.tsn)) (u32 (t + 1)) last (acc ++ (match at? L t with | some d => d.bytes | none => []))
/-- the message of some TSNs becomes ready -/
def ready (L : List D) (row : List Mg) (f l : Int) : List D × List Mg :=
  let q := gath ((u32 (l - f)).toNat + 1) L f l []
  (q.2, row ++ [⟨((at? L f).map (·.stream)).getD 0, !((at? L f).map (·.un)).getD false, q.1⟩])
def totD (L : List D) : Nat := (L.map (·.bytes.length)).sum
def totM (L : List Mg) : Nat := (L.map (·.bytes.length)).sum

theorem at_erase_ne {L : List D} {t u : Int} (h : t ≠ u) : at? (L.eraseP (fun d => t == d.tsn)) u = at? L u := by
  induction L with
  | nil => rfl
  | cons d L ih =>
    unfold at? at ih ⊢
    by_cases ht : t = d.tsn
    · rw [List.eraseP_cons_of_pos (by simpa using ht), List.find?_cons_of_neg (by simp; omega)]
    · rw [List.eraseP_cons_of_neg (by simpa using ht), List.find?_cons, List.find?_cons, ih]
theorem tot_erase {L : List D} {t : Int} {d : D} (h : at? L t = some d) : totD L = d.bytes.length + totD (L.eraseP (fun d => t == d.tsn)) := by
  induction L with
  | nil => simp [at?] at h
  | cons e L ih =>
    unfold at? at ih h
    by_cases ht : t = e.tsn
    · rw [List.find?_cons_of_pos (by simpa using ht)] at h
      cases h
      rw [List.eraseP_cons_of_pos (by simpa using ht)]
      simp [totD]
    · rw [List.find?_cons_of_neg (by simpa using ht)] at h
      rw [List.eraseP_cons_of_neg (by simpa using ht)]
      have := ih h
      simp [totD] at this ⊢
      omega

/-- what a walk back, or on, has met -/
theorem back_met {L : List D} {p : D} : ∀ (n : Nat) (f : Int) (q : D) (r : Int), back L p n f q = some r → ∃ k : Nat, k < n ∧ u32 r = u32 (f - k) ∧ (k = 0 → r = f) ∧ (0 < k → r = u32 r) ∧ ∀ i : Nat, 1 ≤ i → i ≤ k → ∃ d, at? L (u32 (f - i)) = some d ∧ mates d p = true
  | 0, _, _, _, h => by simp [back] at h
  | n + 1, f, q, r, h => by
    rw [back] at h
    by_cases hq : q.fi = true
    · rw [if_pos hq] at h
      cases h
      exact ⟨0, by omega, by simp, fun _ => rfl, fun h => by omega, fun i h1 h2 => by omega⟩
    · rw [if_neg hq] at h
      cases hx : at? L (u32 (f - 1)) with
      | none => simp [hx] at h
      | some x =>
        simp only [hx] at h
        by_cases hm : (!mates x p || x.la) = true
        · rw [if_pos hm] at h; cases h
        · rw [if_neg hm] at h
          obtain ⟨k, h1, h2, h3, h4, h5⟩ := back_met n _ x r h
          refine ⟨k + 1, by omega, h2.trans (by simp only [u32_eq]; omega), fun h => by omega, fun _ => ?_, fun i hi1 hi2 => ?_⟩
          · rcases Nat.eq_zero_or_pos k with hk | hk
            · rw [h3 hk]; simp only [u32_eq]; omega
            · exact h4 hk
          · rcases Nat.lt_or_ge i 2 with hi | hi
            · obtain rfl : i = 1 := by omega
              exact ⟨x, hx, by simp at hm; exact hm.1⟩
            · obtain ⟨d, hd, hd2⟩ := h5 (i - 1) (by omega) (by omega)
              refine ⟨d, ?_, hd2⟩
              rw [← hd]; congr 1
              simp only [u32_eq]; omega
theorem forth_met {L : List D} {p : D} : ∀ (n : Nat) (f : Int) (q : D) (r : Int), forth L p n f q = some r → ∃ k : Nat, k < n ∧ u32 r = u32 (f + k) ∧ (k = 0 → r = f) ∧ (0 < k → r = u32 r) ∧ ∀ i : Nat, 1 ≤ i → i ≤ k → ∃ d, at? L (u32 (f + i)) = some d ∧ mates d p = true
  | 0, _, _, _, h => by simp [forth] at h
  | n + 1, f, q, r, h => by
    rw [forth] at h
    by_cases hq : q.la = true
    · rw [if_pos hq] at h
      cases h
      exact ⟨0, by omega, by simp, fun _ => rfl, fun h => by omega, fun i h1 h2 => by omega⟩
    · rw [if_neg hq] at h
      cases hx : at? L (u32 (f + 1)) with
      | none => simp [hx] at h
      | some x =>
        simp only [hx] at h
        by_cases hm : (!mates x p || x.fi) = true
        · rw [if_pos hm] at h; cases h
        · rw [if_neg hm] at h
          obtain ⟨k, h1, h2, h3, h4, h5⟩ := forth_met n _ x r h
          refine ⟨k + 1, by omega, h2.trans (by simp only [u32_eq]; omega), fun h => by omega, fun _ => ?_, fun i hi1 hi2 => ?_⟩
          · rcases Nat.eq_zero_or_pos k with hk | hk
            · rw [h3 hk]; simp only [u32_eq]; omega
            · exact h4 hk
          · rcases Nat.lt_or_ge i 2 with hi | hi
            · obtain rfl : i = 1 := by omega
              exact ⟨x, hx, by simp at hm; exact hm.1⟩
            · obtain ⟨d, hd, hd2⟩ := h5 (i - 1) (by omega) (by omega)
              refine ⟨d, ?_, hd2⟩
              rw [← hd]; congr 1
              simp only [u32_eq]; omega

/-- where a message is whole: its TSNs run from the first to the last, each of them is there, and is a mate of the piece -/
theorem whole_run {L : List D} {p : D} {f l : Int} (hp : at? L p.tsn = some p) (h32 : 0 ≤ p.tsn ∧ p.tsn < 4294967296) (hL : L.length < 2147483000) (h : whole L p = some (f, l)) :
    (0 ≤ f ∧ f < 4294967296) ∧ ∃ n : Nat, n < 4294967296 ∧ l = u32 (f + n) ∧ (u32 (l - f)).toNat = n ∧ n ≤ 2 * L.length + 2 ∧ ∀ i : Nat, i ≤ n → ∃ d, at? L (u32 (f + i)) = some d ∧ mates d p = true := by
  unfold whole at h
  cases hb : back L p (L.length + 1) p.tsn p with
  | none => simp [hb] at h
  | some f' =>
    simp only [hb] at h
    cases hf : forth L p (L.length + 1) p.tsn p with
    | none => simp [hf] at h
    | some l' =>
      simp only [hf, Option.some.injEq, Prod.mk.injEq] at h
      obtain ⟨rfl, rfl⟩ := h
      obtain ⟨k, h1, h2, h3, h4, h5⟩ := back_met _ _ _ _ hb
      obtain ⟨m, g1, g2, g3, g4, g5⟩ := forth_met _ _ _ _ hf
      have hpp : mates p p = true := by simp [mates]
      have e0 : u32 p.tsn = p.tsn := by simp only [u32_eq]; omega
      have hf1 : f' = u32 (p.tsn - k) := by
        rcases Nat.eq_zero_or_pos k with hk | hk
        · rw [h3 hk, hk]; simp only [u32_eq]; omega
        · rw [h4 hk, h2]
      have hl1 : l' = u32 (p.tsn + m) := by
        rcases Nat.eq_zero_or_pos m with hk | hk
        · rw [g3 hk, hk]; simp only [u32_eq]; omega
        · rw [g4 hk, g2]
      refine ⟨by rw [hf1]; simp only [u32_eq]; omega, k + m, by omega, ?_, ?_, by omega, fun i hi => ?_⟩
      · rw [hl1, hf1]; simp only [u32_eq]; omega
      · rw [hl1, hf1]; simp only [u32_eq]; omega
      · rcases Nat.lt_trichotomy i k with hik | hik | hik
        · obtain ⟨d, hd, hd2⟩ := h5 (k - i) (by omega) (by omega)
          refine ⟨d, ?_, hd2⟩
          rw [← hd]; congr 1
          rw [hf1]; simp only [u32_eq]; omega
        · refine ⟨p, ?_, hpp⟩
          rw [← hp]; congr 1
          rw [hf1]; simp only [u32_eq]; omega
        · obtain ⟨d, hd, hd2⟩ := g5 (i - k) (by omega) (by omega)
          refine ⟨d, ?_, hd2⟩
          rw [← hd]; congr 1
          rw [hf1]; simp only [u32_eq]; omega

/-- the whole ordered message of a stream and a number that a piece is of -/
def isC (L : List D) (stream ssn : Int) (d : D) : Option (Int × Int) := if !d.un && d.stream == stream && d.ssn == ssn then whole L d else none
/-- .. the one of which some piece came first -/
def cand (L : List D) (stream ssn : Int) : Option (Int × Int) := L.findSome? (isC L stream ssn)

theorem findSome_least {α : Type} {turn : α → Int} {g : α → Option (Int × Int)} : ∀ (l : List α) (b : α), l.Pairwise (fun p q => turn p < turn q) → b ∈ l → (g b).isSome = true → (∀ p ∈ l, (g p).isSome = true → turn b ≤ turn p) → l.findSome? g = g b
  | [], _, _, h, _, _ => by cases h
  | a :: l, b, hp, hb, hg, hm => by
    rw [List.pairwise_cons] at hp
    rw [List.findSome?_cons]
    cases ha : g a with
    | some r =>
      have h1 := hm a (by simp) (by simp [ha])
      rcases List.mem_cons.1 hb with rfl | hb
      · exact ha.symm
      · have := hp.1 b hb; omega
    | none =>
      rcases List.mem_cons.1 hb with rfl | hb
      · simp [ha] at hg
      · exact findSome_least l b hp.2 hb hg (fun p hp' => hm p (by simp [hp']))
end Go.Rm
