/- A flight of pieces, in plain Lean: what was sent and is not acknowledged yet. No conditions: definitions and laws. -/
import Derived.Test.YtglobldnockdoaaSpA
namespace Go.Flt
open Go Go.Spn

/-- a piece that was sent -/
structure Rc where
  tsn : Int
  stream : Int
  ssn : Int
  un : Bool
  fi : Bool
  la : Bool
  bs : List UInt8
  path : Int
  id : Int
  miss : Int
  at_ : Int
  acked : Bool
  lost : Bool
  gone : Bool
  again : Bool
structure S where
  L : List Rc
  c : Int
  paths : Int
def away (r : Rc) : Bool := !r.acked && !r.lost && !r.gone
def openR (r : Rc) : Bool := r.lost && !r.acked && !r.gone
def byP (p : Int) (r : Rc) : Bool := decide (r.path = p) && away r
def ofId (i : Int) (r : Rc) : Bool := decide (r.id = i) && !r.acked && !r.gone
def unack (r : Rc) : Bool := !r.acked
def isAck (r : Rc) : Bool := r.acked
def low1 (r : Rc) : Bool := !r.acked && !r.gone
/-- so many bytes of those of a kind -/
def sumB (q : Rc → Bool) (L : List Rc) : Nat := ((L.filter q).map (fun r => r.bs.length)).sum
def cntB (q : Rc → Bool) (L : List Rc) : Nat := (L.filter q).length
/-- those of a kind are turned -/
def sel (q : Rc → Bool) (f : Rc → Rc) (L : List Rc) : List Rc := L.map (fun r => if q r then f r else r)
def half (q : Rc → Bool) (f : Rc → Rc) (L : List Rc) (i : Nat) : List Rc := sel q f (L.take i) ++ L.drop i
def setLost (r : Rc) : Rc := { r with lost := true }
def setGone (r : Rc) : Rc := { r with gone := true }
def out (s : S) (p : Int) : Nat := sumB (byP p) s.L
def openB (s : S) : Nat := sumB unack s.L
def lostL (s : S) : List Int := (s.L.filter openR).map (·.tsn)
def markN (s : S) (p : Int) : Nat := cntB (byP p) s.L
def mark (s : S) (p : Int) : S := { s with L := sel (byP p) setLost s.L }
def abandonN (s : S) (i : Int) : Nat := cntB (ofId i) s.L
def abandon (s : S) (i : Int) : S := { s with L := sel (ofId i) setGone s.L }

theorem sumB_snoc (q : Rc → Bool) {L : List Rc} {i : Nat} {r : Rc} (h : L[i]? = some r) : sumB q (L.take (i + 1)) = sumB q (L.take i) + if q r then r.bs.length else 0 := by
  unfold sumB
  rw [List.take_add_one, h, List.filter_append]
  cases hq : q r <;> simp [hq]
theorem cntB_snoc (q : Rc → Bool) {L : List Rc} {i : Nat} {r : Rc} (h : L[i]? = some r) : cntB q (L.take (i + 1)) = cntB q (L.take i) + if q r then 1 else 0 := by
  unfold cntB
  rw [List.take_add_one, h, List.filter_append]
  cases hq : q r <;> simp [hq]
theorem cntB_le (q : Rc → Bool) (L : List Rc) : cntB q L ≤ L.length := List.length_filter_le _ _
theorem sumB_append (q : Rc → Bool) (L M : List Rc) : sumB q (L ++ M) = sumB q L + sumB q M := by
  unfold sumB
  rw [List.filter_append, List.map_append, List.sum_append]
theorem sumB_take (q : Rc → Bool) (L : List Rc) (i : Nat) : sumB q (L.take i) ≤ sumB q L := by
  have := sumB_append q (L.take i) (L.drop i)
  rw [List.take_append_drop] at this
  omega
theorem half_len (q : Rc → Bool) (f : Rc → Rc) (L : List Rc) (i : Nat) : (half q f L i).length = L.length := by
  unfold half sel
  rw [List.length_append, List.length_map, ← List.length_append, List.take_append_drop]
theorem half_get (q : Rc → Bool) (f : Rc → Rc) {L : List Rc} {i : Nat} {r : Rc} (h : L[i]? = some r) : (half q f L i)[i]? = some r := by
  have hi := (List.getElem?_eq_some_iff.1 h).1
  unfold half sel
  rw [List.getElem?_append_right (by simp; omega)]
  simp only [List.length_map, List.length_take]
  rw [List.getElem?_drop, show i + (i - min i L.length) = i by omega]
  exact h
theorem half_zero (q : Rc → Bool) (f : Rc → Rc) (L : List Rc) : half q f L 0 = L := rfl
theorem half_all (q : Rc → Bool) (f : Rc → Rc) (L : List Rc) : half q f L L.length = sel q f L := by
  unfold half
  rw [List.take_length, List.drop_length, List.append_nil]
theorem half_succ (q : Rc → Bool) (f : Rc → Rc) {L : List Rc} {i : Nat} {r : Rc} (h : L[i]? = some r) : half q f L (i + 1) = (half q f L i).set i (if q r then f r else r) := by
  have hi := (List.getElem?_eq_some_iff.1 h).1
  have hd : L.drop i = r :: L.drop (i + 1) := by
    rw [List.drop_eq_getElem_cons hi]
    have := (List.getElem?_eq_some_iff.1 h).2
    rw [this]
  unfold half sel
  rw [List.take_add_one, h, hd, List.map_append, List.set_append_right _ _ (by simp; omega)]
  have : i - ((L.take i).map (fun r => if q r then f r else r)).length = 0 := by simp; omega
  rw [this]
  simp
/-- a piece, as it is told -/
structure Dt where
  tsn : Int
  stream : Int
  ssn : Int
  un : Bool
  fi : Bool
  la : Bool
  bs : List UInt8
def Rc.d (r : Rc) : Dt := ⟨r.tsn, r.stream, r.ssn, r.un, r.fi, r.la, r.bs⟩
/-- the place of a number -/
def atI (c : Int) (n : Nat) (t : Int) : Option Nat := if 0 < Spn.far c t ∧ Spn.far c t ≤ n then some (Spn.far c t - 1) else none
def getD (s : S) (t : Int) : Option (Dt × Int) := match atI s.c s.L.length t with
  | some i => (s.L[i]?).map (fun r => (r.d, r.path))
  | none => none
def setAgain (path now : Int) (r : Rc) : Rc := { r with path := path, at_ := now, lost := false, again := true }
def again (s : S) (t path now : Int) : S × Int := if path < 0 ∨ s.paths ≤ path then (s, 1) else match atI s.c s.L.length t with
  | none => (s, 11)
  | some i => match s.L[i]? with
    | none => (s, 11)
    | some r => if openR r then ({ s with L := s.L.set i (setAgain path now r) }, 0) else (s, 11)
def newT (s : S) : Int := Spn.u32 (Spn.u32 (s.c + 1) + Spn.u32 s.L.length)
def newR (s : S) (d : Dt) (path now id : Int) : Rc := ⟨newT s, d.stream, d.ssn, d.un, d.fi, d.la, d.bs, path, id, 0, now, false, false, false, false⟩
def addE (s : S) (d : Dt) (path : Int) : Int := if path < 0 ∨ s.paths ≤ path ∨ d.bs = [] then 1 else if 2048 ≤ s.L.length then 6 else 0
def add (s : S) (d : Dt) (path now id : Int) : S := if addE s d path = 0 then { s with L := s.L ++ [newR s d path now id] } else s
/-- those that may be forwarded over -/
def ptL (L : List Rc) : List Dt := (L.takeWhile (·.gone)).map Rc.d
end Go.Flt
