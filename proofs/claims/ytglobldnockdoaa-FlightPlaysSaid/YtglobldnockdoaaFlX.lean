/- A flight of pieces: an acknowledgement, record by record, as the document reckons it, in plain Lean. No conditions: laws. -/
import Derived.Test.YtglobldnockdoaaFlT
namespace Go.Flt
open Go

def inG (base : Nat) (gs : List (Nat × Nat)) (k : Nat) : Bool := gs.any (fun g => decide (base + g.1 ≤ k + 1) && decide (k + 1 ≤ base + g.2))
def toldB (base : Nat) (gs : List (Nat × Nat)) (k : Nat) : Bool := decide (k < base) || inG base gs k
def rack (low : Q4 (Option Nat)) (base : Nat) (gs : List (Nat × Nat)) (k : AK) (i : Nat) : AK := if toldB base gs i then ack1 low k i else k
def rackN (low : Q4 (Option Nat)) (base : Nat) (gs : List (Nat × Nat)) (k : AK) (n : Nat) : AK := (List.range n).foldl (rack low base gs) k
theorem rackN_succ (low : Q4 (Option Nat)) (base : Nat) (gs : List (Nat × Nat)) (k : AK) (n : Nat) : rackN low base gs k (n + 1) = rack low base gs (rackN low base gs k n) n := by
  unfold rackN
  rw [List.range_succ, List.foldl_append]
  rfl
theorem gap_range : ∀ {n base last : Nat} {gs : List (Nat × Nat)}, okG n base last gs = true → base + last ≤ n → (List.range' (base + last) (n - base - last)).filter (inG base gs) = (gs.map (fun g => (base + g.1 - 1, base + g.2))).flatMap (fun g => List.range' g.1 (g.2 - g.1))
  | n, base, last, [], _, _ => by
    rw [List.map_nil, List.flatMap_nil, List.filter_eq_nil_iff]
    intro a _
    simp [inG]
  | n, base, last, g :: gs, h, hb => by
    rw [okG] at h
    simp only [Bool.and_eq_true, Bool.not_eq_true', decide_eq_false_iff_not] at h
    obtain ⟨⟨⟨h1, h2⟩, h3⟩, h4⟩ := h
    have rest : ∀ q ∈ gs, g.2 + 2 ≤ q.1 := by
      have : ∀ {l last : Nat} {gs : List (Nat × Nat)}, okG n base last gs = true → l ≤ last → ∀ q ∈ gs, l + 2 ≤ q.1 := fun {l last gs} => by
        induction gs generalizing last with
        | nil => intro _ _ q hq; cases hq
        | cons a gs ih =>
          intro h hl q hq
          rw [okG] at h
          simp only [Bool.and_eq_true, Bool.not_eq_true', decide_eq_false_iff_not] at h
          rcases List.mem_cons.1 hq with rfl | hq
          · omega
          · exact ih h.2 (by omega) q hq
      exact this h4 (Nat.le_refl _)
    rw [show n - base - last = (g.1 - 1 - last) + ((g.2 - (g.1 - 1)) + (n - base - g.2)) by omega, ← List.range'_append_1, ← List.range'_append_1, List.filter_append, List.filter_append]
    have f1 : (List.range' (base + last) (g.1 - 1 - last)).filter (inG base (g :: gs)) = [] := by
      rw [List.filter_eq_nil_iff]
      intro a ha
      rw [List.mem_range'_1] at ha
      unfold inG
      simp only [List.any_eq_true, not_exists, not_and]
      intro q hq
      rcases List.mem_cons.1 hq with rfl | hq
      · simp; omega
      · have := rest q hq; simp; omega
    have f2 : (List.range' (base + last + (g.1 - 1 - last)) (g.2 - (g.1 - 1))).filter (inG base (g :: gs)) = List.range' (base + last + (g.1 - 1 - last)) (g.2 - (g.1 - 1)) := by
      rw [List.filter_eq_self]
      intro a ha
      rw [List.mem_range'_1] at ha
      unfold inG
      rw [List.any_cons, Bool.or_eq_true]
      left
      simp
      omega
    have f3 : (List.range' (base + last + (g.1 - 1 - last) + (g.2 - (g.1 - 1))) (n - base - g.2)).filter (inG base (g :: gs)) = (List.range' (base + g.2) (n - base - g.2)).filter (inG base gs) := by
      rw [show base + last + (g.1 - 1 - last) + (g.2 - (g.1 - 1)) = base + g.2 by omega]
      refine List.filter_congr (fun a ha => ?_)
      rw [List.mem_range'_1] at ha
      unfold inG
      rw [List.any_cons]
      have : (decide (base + g.1 ≤ a + 1) && decide (a + 1 ≤ base + g.2)) = false := by simp; omega
      rw [this, Bool.false_or]
    rw [f1, f2, f3, gap_range h4 (by omega), List.map_cons, List.flatMap_cons, List.nil_append]
    congr 1
    congr 1 <;> (dsimp only; omega)
theorem told_range {n base : Nat} {gs : List (Nat × Nat)} (h : okG n base 0 gs = true) (hb : base ≤ n) : (List.range n).filter (toldB base gs) = (spL base gs).flatMap (fun g => List.range' g.1 (g.2 - g.1)) := by
  rw [List.range_eq_range', show n = base + (n - base) by omega, ← List.range'_append_1, List.filter_append]
  have f1 : (List.range' 0 base).filter (toldB base gs) = List.range' 0 base := by
    rw [List.filter_eq_self]
    intro a ha
    rw [List.mem_range'_1] at ha
    unfold toldB
    rw [decide_eq_true (by omega), Bool.true_or]
  have f2 : (List.range' (0 + base) (n - base)).filter (toldB base gs) = (List.range' (base + 0) (n - base - 0)).filter (inG base gs) := by
    rw [Nat.zero_add]
    refine List.filter_congr (fun a ha => ?_)
    rw [List.mem_range'_1] at ha
    unfold toldB
    rw [decide_eq_false (by omega), Bool.false_or]
  rw [f1, f2, gap_range h (by omega)]
  rfl
theorem rack_all {n base : Nat} {gs : List (Nat × Nat)} (h : okG n base 0 gs = true) (hb : base ≤ n) (low : Q4 (Option Nat)) (k : AK) : rackN low base gs k n = ackAll low k (spL base gs) := by
  have e : ackAll low k (spL base gs) = ((spL base gs).flatMap (fun g => List.range' g.1 (g.2 - g.1))).foldl (ack1 low) k := by
    rw [List.foldl_flatMap]
    rfl
  rw [e, ← told_range h hb, List.foldl_filter]
  rfl
theorem toldN_len {n base : Nat} {gs : List (Nat × Nat)} (h : okG n base 0 gs = true) (hb : base ≤ n) : toldN (spL base gs) = ((List.range n).filter (toldB base gs)).length := by
  rw [told_range h hb, List.length_flatMap]
  unfold toldN
  simp
/-- what is told is acknowledged -/
theorem ack1_mono {low : Q4 (Option Nat)} {k : AK} {i j : Nat} (h : ∀ r, k.L[j]? = some r → r.acked = true) : ∀ r, (ack1 low k i).L[j]? = some r → r.acked = true := by
  intro r hr
  unfold ack1 at hr
  split at hr
  · exact h r hr
  · rename_i q hq
    split at hr
    · exact h r hr
    · dsimp only at hr
      by_cases hij : i = j
      · subst hij
        rw [List.getElem?_set_self (List.getElem?_eq_some_iff.1 hq).1] at hr
        cases hr
        rfl
      · rw [List.getElem?_set_ne hij] at hr
        exact h r hr
theorem ack1_this {low : Q4 (Option Nat)} {k : AK} {i : Nat} : ∀ r, (ack1 low k i).L[i]? = some r → r.acked = true := by
  intro r hr
  unfold ack1 at hr
  split at hr
  · rename_i h; rw [h] at hr; cases hr
  · rename_i q hq
    split at hr
    · rename_i ha
      rw [hq] at hr
      cases hr
      exact ha
    · dsimp only at hr
      rw [List.getElem?_set_self (List.getElem?_eq_some_iff.1 hq).1] at hr
      cases hr
      rfl
theorem rackN_told {low : Q4 (Option Nat)} {base : Nat} {gs : List (Nat × Nat)} {k : AK} : ∀ {n i : Nat}, i < n → toldB base gs i = true → ∀ r, (rackN low base gs k n).L[i]? = some r → r.acked = true
  | 0, _, h, _ => by omega
  | n + 1, i, h, ht => by
    rw [rackN_succ]
    unfold rack
    by_cases hin : i = n
    · subst hin
      rw [if_pos ht]
      exact ack1_this
    · split
      · exact ack1_mono (rackN_told (by omega) ht)
      · exact rackN_told (by omega) ht
theorem miss1_ack (high : Q4 Int) (x : List Rc × Tld) (i : Nat) : (miss1 high x i).1.map (·.acked) = x.1.map (·.acked) := by
  unfold miss1
  split
  · rfl
  · rename_i r h
    split
    · exact set_map (·.acked) h (by unfold missR; split <;> rfl)
    · rfl
theorem missF_ack (high : Q4 Int) (x : List Rc × Tld) : ∀ n, ((List.range n).foldl (miss1 high) x).1.map (·.acked) = x.1.map (·.acked)
  | 0 => rfl
  | n + 1 => by rw [miss_snoc, miss1_ack, missF_ack high x n]
/-- is all that is acknowledged told? -/
def wholeB (base : Nat) (gs : List (Nat × Nat)) (M : List Rc) (n : Nat) : Bool := (List.range n).all (fun i => !(match M[i]? with | some r => decide (base = 0) && r.acked && !toldB base gs i | none => false))
theorem wholeB_succ (base : Nat) (gs : List (Nat × Nat)) (M : List Rc) (n : Nat) : wholeB base gs M (n + 1) = (wholeB base gs M n && !(match M[n]? with | some r => decide (base = 0) && r.acked && !toldB base gs n | none => false)) := by
  unfold wholeB
  rw [List.range_succ, List.all_append]
  simp
theorem cnt_range (q : Rc → Bool) (M : List Rc) : cntB q M = ((List.range M.length).filter (fun i => match M[i]? with | some r => q r | none => false)).length := by
  unfold cntB
  have : ∀ {α : Type} (p : α → Bool) (l : List α), (l.filter p).length = ((l.map p).filter id).length := fun p l => by
    rw [List.filter_map, List.length_map]
    rfl
  rw [this q M, this _ (List.range M.length)]
  congr 2
  refine List.ext_getElem? (fun i => ?_)
  rw [List.getElem?_map, List.getElem?_map]
  by_cases hi : i < M.length
  · rw [List.getElem?_range hi]
    simp [hi]
  · rw [List.getElem?_eq_none (by omega), List.getElem?_eq_none (by simp; omega)]
    rfl
theorem whole_eq {n base : Nat} {gs : List (Nat × Nat)} (h : okG n base 0 gs = true) (hb : base ≤ n) {M : List Rc} (hn : M.length = n) (ht : ∀ i, i < n → toldB base gs i = true → ∀ r, M[i]? = some r → r.acked = true) :
    wholeB base gs M n = (decide (base ≠ 0) || decide (toldN (spL base gs) = cntB isAck M)) := by
  by_cases h0 : base = 0
  · rw [toldN_len h hb, cnt_range, hn]
    have e : (List.range n).filter (toldB base gs) = ((List.range n).filter (fun i => match M[i]? with | some r => isAck r | none => false)).filter (toldB base gs) := by
      rw [List.filter_filter]
      refine List.filter_congr (fun i hi => ?_)
      have hin := List.mem_range.1 hi
      cases htb : toldB base gs i with
      | false => rfl
      | true =>
        have hr : M[i]? = some (M[i]'(by omega)) := by simp
        rw [hr]
        dsimp only
        rw [Bool.true_and]
        exact (ht i hin htb _ hr).symm
    rw [e, Bool.eq_iff_iff]
    simp only [Bool.or_eq_true, decide_eq_true_eq]
    rw [List.length_filter_eq_length_iff]
    unfold wholeB
    rw [List.all_eq_true]
    constructor
    · intro hw
      right
      intro i hi
      rw [List.mem_filter] at hi
      have := hw i hi.1
      cases hr : M[i]? with
      | none => rw [hr] at hi; simp at hi
      | some r =>
        rw [hr] at this hi
        dsimp only at this hi
        unfold isAck at hi
        rw [hi.2] at this
        simpa [h0] using this
    · rintro (hw | hw)
      · exact absurd h0 hw
      · intro i hi
        cases hr : M[i]? with
        | none => rfl
        | some r =>
          dsimp only
          cases ha : r.acked with
          | false => simp
          | true =>
            have := hw i (List.mem_filter.2 ⟨hi, by rw [hr]; exact ha⟩)
            rw [this]
            simp
  · rw [show decide (base ≠ 0) = true by simpa using h0, Bool.true_or]
    unfold wholeB
    rw [List.all_eq_true]
    intro i _
    cases M[i]? with
    | none => rfl
    | some r => simp [h0]
/-- an acknowledgement, as the document reckons -/
def rsack (s : S) (y : Int) (gs : List (Nat × Nat)) : Option (S × Tld) :=
  if decide (s.L.length < Spn.far s.c y) || !okG s.L.length (Spn.far s.c y) 0 gs then none else
    let k := rackN (lowQ s.L) (Spn.far s.c y) gs ⟨s.L, Tld.zero, ⟨-1, -1, -1, -1⟩⟩ s.L.length
    let x := missAll k.high (k.L, k.t)
    some (⟨x.1.drop (Spn.far s.c y), y, s.paths⟩, { x.2 with freed := sumB (fun _ => true) (x.1.take (Spn.far s.c y)), whole := wholeB (Spn.far s.c y) gs x.1 s.L.length })
theorem rsack_eq {s : S} (hc : 0 ≤ s.c ∧ s.c < 4294967296) {y : Int} (hy : 0 ≤ y ∧ y < 4294967296) (gs : List (Nat × Nat)) : rsack s y gs = sack s y gs := by
  have hf := Spn.far_int s.c y
  rw [Spn.u32_eq] at hf
  have hz : Spn.far s.c y = 0 ↔ y = s.c := by omega
  have hsp : span s y gs = if decide (s.L.length < Spn.far s.c y) || !okG s.L.length (Spn.far s.c y) 0 gs then none else some (spL (Spn.far s.c y) gs) := by
    unfold span
    have e : (y ≠ s.c ∧ atI s.c s.L.length y = none) ↔ s.L.length < Spn.far s.c y := by
      unfold atI
      constructor
      · rintro ⟨h1, h2⟩
        split at h2
        · cases h2
        · have : Spn.far s.c y ≠ 0 := fun h => h1 (hz.1 h)
          omega
      · intro h
        refine ⟨fun h1 => ?_, by rw [if_neg (by omega)]⟩
        have := hz.2 h1
        omega
    by_cases h1 : s.L.length < Spn.far s.c y
    · rw [if_pos (e.2 h1), if_pos (by simp [h1])]
    · rw [if_neg (fun h => h1 (e.1 h))]
      cases hk : okG s.L.length (Spn.far s.c y) 0 gs with
      | true => simp [h1]
      | false => simp
  unfold rsack sack
  rw [hsp]
  by_cases h : (decide (s.L.length < Spn.far s.c y) || !okG s.L.length (Spn.far s.c y) 0 gs) = true
  · rw [if_pos h, if_pos h]
  · rw [if_neg h, if_neg h]
    simp only [Bool.or_eq_true, decide_eq_true_eq, Bool.not_eq_true', not_or, Bool.not_eq_false] at h
    dsimp only
    have hra := rack_all h.2 (by omega) (lowQ s.L) ⟨s.L, Tld.zero, ⟨-1, -1, -1, -1⟩⟩
    rw [hra]
    have hw := whole_eq (M := (missAll (ackAll (lowQ s.L) ⟨s.L, Tld.zero, ⟨-1, -1, -1, -1⟩⟩ (spL (Spn.far s.c y) gs)).high ((ackAll (lowQ s.L) ⟨s.L, Tld.zero, ⟨-1, -1, -1, -1⟩⟩ (spL (Spn.far s.c y) gs)).L, (ackAll (lowQ s.L) ⟨s.L, Tld.zero, ⟨-1, -1, -1, -1⟩⟩ (spL (Spn.far s.c y) gs)).t)).1) h.2 (by omega) (by
        have h1 := congrArg List.length (missF_k (ackAll (lowQ s.L) ⟨s.L, Tld.zero, ⟨-1, -1, -1, -1⟩⟩ (spL (Spn.far s.c y) gs)).high ((ackAll (lowQ s.L) ⟨s.L, Tld.zero, ⟨-1, -1, -1, -1⟩⟩ (spL (Spn.far s.c y) gs)).L, (ackAll (lowQ s.L) ⟨s.L, Tld.zero, ⟨-1, -1, -1, -1⟩⟩ (spL (Spn.far s.c y) gs)).t) (ackAll (lowQ s.L) ⟨s.L, Tld.zero, ⟨-1, -1, -1, -1⟩⟩ (spL (Spn.far s.c y) gs)).L.length)
        have h2 := congrArg List.length (ackAll_k (lowQ s.L) (spL (Spn.far s.c y) gs) ⟨s.L, Tld.zero, ⟨-1, -1, -1, -1⟩⟩)
        simp at h1 h2
        unfold missAll
        dsimp only
        rw [h1, h2]) (fun i hi hti r hr => by
        have h1 := congrArg (fun l => l[i]?) (missF_ack (ackAll (lowQ s.L) ⟨s.L, Tld.zero, ⟨-1, -1, -1, -1⟩⟩ (spL (Spn.far s.c y) gs)).high ((ackAll (lowQ s.L) ⟨s.L, Tld.zero, ⟨-1, -1, -1, -1⟩⟩ (spL (Spn.far s.c y) gs)).L, (ackAll (lowQ s.L) ⟨s.L, Tld.zero, ⟨-1, -1, -1, -1⟩⟩ (spL (Spn.far s.c y) gs)).t) (ackAll (lowQ s.L) ⟨s.L, Tld.zero, ⟨-1, -1, -1, -1⟩⟩ (spL (Spn.far s.c y) gs)).L.length)
        unfold missAll at hr
        dsimp only at hr h1
        rw [List.getElem?_map, hr, List.getElem?_map, Option.map_some] at h1
        obtain ⟨q, hq, hqa⟩ := Option.map_eq_some_iff.1 h1.symm
        rw [← hra] at hq
        rw [← hqa]
        exact rackN_told hi hti q hq)
    rw [hw]
    have : decide (Spn.far s.c y ≠ 0) = decide (y ≠ s.c) := by simp only [ne_eq, hz]
    rw [this]
end Go.Flt
