/- A flight of pieces, acknowledged: in plain Lean. No conditions: definitions and laws. -/
import Derived.Test.YtglobldnockdoaaFlA
namespace Go.Flt
open Go

abbrev i64 (n : Int) : Int := IntKind.i64.wrap n
structure PT where
  acked : Int
  pseudo : Bool
  fast : Bool
  at_ : Int
  some_ : Bool
structure Tld where
  freed : Int
  whole : Bool
  p0 : PT
  p1 : PT
  p2 : PT
  p3 : PT
def PT.zero : PT := ⟨0, false, false, 0, false⟩
def Tld.zero : Tld := ⟨0, false, PT.zero, PT.zero, PT.zero, PT.zero⟩
def Tld.upd (t : Tld) (p : Int) (f : PT → PT) : Tld := if p = 0 then { t with p0 := f t.p0 } else if p = 1 then { t with p1 := f t.p1 } else if p = 2 then { t with p2 := f t.p2 } else { t with p3 := f t.p3 }
structure Q4 (α : Type) where
  q0 : α
  q1 : α
  q2 : α
  q3 : α
def Q4.get {α : Type} (q : Q4 α) (p : Int) : α := if p = 0 then q.q0 else if p = 1 then q.q1 else if p = 2 then q.q2 else q.q3
def Q4.set {α : Type} (q : Q4 α) (p : Int) (v : α) : Q4 α := if p = 0 then { q with q0 := v } else if p = 1 then { q with q1 := v } else if p = 2 then { q with q2 := v } else { q with q3 := v }
def takeP (r : Rc) (low : Bool) (q : PT) : PT := ⟨if r.gone then q.acked else i64 (q.acked + r.bs.length), q.pseudo || low, q.fast, if r.again then q.at_ else r.at_, if r.again then q.some_ else true⟩
def setAck (r : Rc) : Rc := { r with acked := true }
structure AK where
  L : List Rc
  t : Tld
  high : Q4 Int
def ack1 (low : Q4 (Option Nat)) (k : AK) (i : Nat) : AK := match k.L[i]? with
  | none => k
  | some r => if r.acked then k else ⟨k.L.set i (setAck r), k.t.upd r.path (takeP r (decide (low.get r.path = some i))), k.high.set r.path i⟩
def ackR (low : Q4 (Option Nat)) (k : AK) (a n : Nat) : AK := (List.range' a n).foldl (ack1 low) k
def ackAll (low : Q4 (Option Nat)) (k : AK) (sp : List (Nat × Nat)) : AK := sp.foldl (fun k g => ackR low k g.1 (g.2 - g.1)) k
def missR (r : Rc) : Rc := if 3 ≤ i64 (r.miss + 1) then { r with miss := i64 (r.miss + 1), lost := true } else { r with miss := i64 (r.miss + 1) }
def missB (high : Q4 Int) (i : Nat) (r : Rc) : Bool := away r && !r.again && decide ((i : Int) < high.get r.path)
def fastP (q : PT) : PT := { q with fast := true }
def miss1 (high : Q4 Int) (x : List Rc × Tld) (i : Nat) : List Rc × Tld := match x.1[i]? with
  | none => x
  | some r => if missB high i r then (x.1.set i (missR r), if 3 ≤ i64 (r.miss + 1) then x.2.upd r.path fastP else x.2) else x
def missAll (high : Q4 Int) (x : List Rc × Tld) : List Rc × Tld := (List.range x.1.length).foldl (miss1 high) x
/-- the first record of a path that is neither acknowledged nor gone -/
def lowP (L : List Rc) (p : Int) : Option Nat := L.findIdx? (fun r => low1 r && decide (r.path = p))
def lowQ (L : List Rc) : Q4 (Option Nat) := ⟨lowP L 0, lowP L 1, lowP L 2, lowP L 3⟩
/-- may gaps be? -/
def okG (n base : Nat) : Nat → List (Nat × Nat) → Bool
  | _, [] => true
  | last, g :: gs => !decide (g.1 < last + 2) && !decide (g.2 < g.1) && !decide (n < base + g.2) && okG n base g.2 gs
def spL (base : Nat) (gs : List (Nat × Nat)) : List (Nat × Nat) := (0, base) :: gs.map (fun g => (base + g.1 - 1, base + g.2))
def span (s : S) (y : Int) (gs : List (Nat × Nat)) : Option (List (Nat × Nat)) :=
  if y ≠ s.c ∧ atI s.c s.L.length y = none then none else if okG s.L.length (Spn.far s.c y) 0 gs then some (spL (Spn.far s.c y) gs) else none
def toldN (sp : List (Nat × Nat)) : Nat := (sp.map (fun g => g.2 - g.1)).sum
def sack (s : S) (y : Int) (gs : List (Nat × Nat)) : Option (S × Tld) := match span s y gs with
  | none => none
  | some sp =>
    let k := ackAll (lowQ s.L) ⟨s.L, Tld.zero, ⟨-1, -1, -1, -1⟩⟩ sp
    let x := missAll k.high (k.L, k.t)
    some (⟨x.1.drop (Spn.far s.c y), y, s.paths⟩, { x.2 with freed := sumB (fun _ => true) (x.1.take (Spn.far s.c y)), whole := decide (y ≠ s.c) || decide (toldN sp = cntB isAck x.1) })
theorem ackR_succ (low : Q4 (Option Nat)) (k : AK) (a i : Nat) : ackR low k a (i + 1) = ack1 low (ackR low k a i) (a + i) := by
  unfold ackR
  rw [List.range'_1_concat, List.foldl_append]
  rfl
theorem ackAll_snoc (low : Q4 (Option Nat)) (k : AK) {sp : List (Nat × Nat)} {j : Nat} {g : Nat × Nat} (h : sp[j]? = some g) : ackAll low k (sp.take (j + 1)) = ackR low (ackAll low k (sp.take j)) g.1 (g.2 - g.1) := by
  unfold ackAll
  rw [List.take_add_one, h, List.foldl_append]
  rfl
theorem miss_snoc (high : Q4 Int) (x : List Rc × Tld) (i : Nat) : (List.range (i + 1)).foldl (miss1 high) x = miss1 high ((List.range i).foldl (miss1 high) x) i := by
  rw [List.range_succ, List.foldl_append]
  rfl
theorem toldN_snoc {sp : List (Nat × Nat)} {j : Nat} {g : Nat × Nat} (h : sp[j]? = some g) : toldN (sp.take (j + 1)) = toldN (sp.take j) + (g.2 - g.1) := by
  unfold toldN
  rw [List.take_add_one, h, List.map_append, List.sum_append]
  simp
theorem okG_le : ∀ {n base last : Nat} {gs : List (Nat × Nat)}, okG n base last gs = true → ∀ g ∈ gs, 2 ≤ g.1 ∧ g.1 ≤ g.2 ∧ base + g.2 ≤ n
  | _, _, _, [], _, _, h => by cases h
  | n, base, last, a :: gs, h, g, hg => by
    rw [okG] at h
    simp only [Bool.and_eq_true, Bool.not_eq_true', decide_eq_false_iff_not] at h
    rcases List.mem_cons.1 hg with rfl | hg
    · omega
    · exact okG_le h.2 g hg
theorem span_ok {s : S} {y : Int} {gs sp : List (Nat × Nat)} (h : span s y gs = some sp) : sp = spL (Spn.far s.c y) gs ∧ Spn.far s.c y ≤ s.L.length ∧ ∀ g ∈ sp, g.1 ≤ g.2 ∧ g.2 ≤ s.L.length := by
  unfold span at h
  split at h
  · cases h
  · rename_i h1
    split at h
    · rename_i h2
      have hb : Spn.far s.c y ≤ s.L.length := by
        by_cases hy : y = s.c
        · subst hy
          have := Spn.far_int s.c s.c
          rw [Spn.u32_eq] at this
          simp at this
          omega
        · cases ha : atI s.c s.L.length y with
          | none => exact absurd ⟨hy, ha⟩ h1
          | some i =>
            unfold atI at ha
            split at ha
            · omega
            · cases ha
      cases h
      refine ⟨rfl, hb, fun g hg => ?_⟩
      unfold spL at hg
      rcases List.mem_cons.1 hg with rfl | hg
      · exact ⟨Nat.zero_le _, hb⟩
      · obtain ⟨q, hq, rfl⟩ := List.mem_map.1 hg
        have := okG_le h2 q hq
        dsimp only
        omega
    · cases h
theorem lowP_snoc {L : List Rc} {i : Nat} {r : Rc} (h : L[i]? = some r) (p : Int) : lowP (L.take (i + 1)) p = (lowP (L.take i) p).or (if low1 r && decide (r.path = p) then some i else none) := by
  have hi := (List.getElem?_eq_some_iff.1 h).1
  unfold lowP
  rw [List.take_add_one, h, List.findIdx?_append]
  have : (L.take i).length = i := by simp; omega
  rw [this]
  cases hq : (low1 r && decide (r.path = p)) <;> simp [hq, List.findIdx?_cons]
theorem lowP_lt {L : List Rc} {p : Int} {j : Nat} (h : lowP L p = some j) : j < L.length := by
  unfold lowP at h
  exact (List.findIdx?_eq_some_iff_getElem.1 h).1
theorem lowP_all (L : List Rc) (p : Int) : lowP (L.take L.length) p = lowP L p := by rw [List.take_length]
theorem set_bs {L : List Rc} {i : Nat} {r r' : Rc} (h : L[i]? = some r) (hb : r'.bs = r.bs) : (L.set i r').map (·.bs) = L.map (·.bs) := by
  rw [List.map_set]
  refine List.ext_getElem? (fun j => ?_)
  by_cases hj : i = j
  · subst hj
    have hi := (List.getElem?_eq_some_iff.1 h).1
    rw [List.getElem?_set_self (by simpa using hi), List.getElem?_map, h, hb]
    rfl
  · rw [List.getElem?_set_ne hj]
theorem ack1_bs (low : Q4 (Option Nat)) (k : AK) (i : Nat) : (ack1 low k i).L.map (·.bs) = k.L.map (·.bs) := by
  unfold ack1
  split
  · rfl
  · rename_i r h
    split
    · rfl
    · exact set_bs h rfl
theorem ackR_bs (low : Q4 (Option Nat)) (a : Nat) : ∀ (n : Nat) (k : AK), (ackR low k a n).L.map (·.bs) = k.L.map (·.bs)
  | 0, _ => rfl
  | n + 1, k => by rw [ackR_succ, ack1_bs, ackR_bs low a n k]
theorem ackAll_bs (low : Q4 (Option Nat)) : ∀ (sp : List (Nat × Nat)) (k : AK), (ackAll low k sp).L.map (·.bs) = k.L.map (·.bs)
  | [], _ => rfl
  | g :: sp, k => by
    show (ackAll low (ackR low k g.1 (g.2 - g.1)) sp).L.map (·.bs) = _
    rw [ackAll_bs low sp, ackR_bs]
theorem miss1_bs (high : Q4 Int) (x : List Rc × Tld) (i : Nat) : (miss1 high x i).1.map (·.bs) = x.1.map (·.bs) := by
  unfold miss1
  split
  · rfl
  · rename_i r h
    split
    · refine set_bs h ?_
      unfold missR
      split <;> rfl
    · rfl
theorem missF_bs (high : Q4 Int) (x : List Rc × Tld) : ∀ n, ((List.range n).foldl (miss1 high) x).1.map (·.bs) = x.1.map (·.bs)
  | 0 => rfl
  | n + 1 => by rw [miss_snoc, miss1_bs, missF_bs high x n]
theorem missAll_bs (high : Q4 Int) (x : List Rc × Tld) : (missAll high x).1.map (·.bs) = x.1.map (·.bs) := missF_bs high x _
theorem upd_freed (t : Tld) (p : Int) (f : PT → PT) : (t.upd p f).freed = t.freed := by unfold Tld.upd; split <;> (try split) <;> (try split) <;> rfl
theorem ack1_freed (low : Q4 (Option Nat)) (k : AK) (i : Nat) : (ack1 low k i).t.freed = k.t.freed := by
  unfold ack1
  split
  · rfl
  · split
    · rfl
    · exact upd_freed _ _ _
theorem ackR_freed (low : Q4 (Option Nat)) (a : Nat) : ∀ (n : Nat) (k : AK), (ackR low k a n).t.freed = k.t.freed
  | 0, _ => rfl
  | n + 1, k => by rw [ackR_succ, ack1_freed, ackR_freed low a n k]
theorem ackAll_freed (low : Q4 (Option Nat)) : ∀ (sp : List (Nat × Nat)) (k : AK), (ackAll low k sp).t.freed = k.t.freed
  | [], _ => rfl
  | g :: sp, k => by
    show (ackAll low (ackR low k g.1 (g.2 - g.1)) sp).t.freed = _
    rw [ackAll_freed low sp, ackR_freed]
theorem miss1_freed (high : Q4 Int) (x : List Rc × Tld) (i : Nat) : (miss1 high x i).2.freed = x.2.freed := by
  unfold miss1
  split
  · rfl
  · split
    · dsimp only
      split
      · exact upd_freed _ _ _
      · rfl
    · rfl
theorem missF_freed (high : Q4 Int) (x : List Rc × Tld) : ∀ n, ((List.range n).foldl (miss1 high) x).2.freed = x.2.freed
  | 0 => rfl
  | n + 1 => by rw [miss_snoc, miss1_freed, missF_freed high x n]
theorem sumB_all (L : List Rc) : sumB (fun _ => true) L = ((L.map (·.bs)).map List.length).sum := by
  unfold sumB
  rw [List.map_map, List.filter_eq_self.2 (fun _ _ => rfl)]
  rfl
theorem sumB_bs {L M : List Rc} (h : L.map (·.bs) = M.map (·.bs)) : sumB (fun _ => true) L = sumB (fun _ => true) M := by rw [sumB_all, sumB_all, h]
end Go.Flt
