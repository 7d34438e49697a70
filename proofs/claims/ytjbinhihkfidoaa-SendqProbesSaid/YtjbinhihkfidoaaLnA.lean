/- What is between a sender and one who takes all that comes, in plain Lean: what the statements' own 'line' does. No conditions: definitions and laws. -/
import Derived.Test.YtjbinhihkfidoaaSnP
namespace Go.Snd
open Go Go.Pth

deriving instance DecidableEq for Flt.Dt
def dtZ : Flt.Dt := ⟨0, 0, 0, false, false, false, []⟩
def isB (d : Flt.Dt) : Bool := decide (d.bs ≠ [])
/-- the place of a TSN -/
def placeOf (first tsn : Int) : Nat := (Spn.u32 (tsn - first)).toNat
def grow (seen : List Flt.Dt) (k : Nat) : List Flt.Dt := seen ++ List.replicate (k + 1 - seen.length) dtZ
theorem grow_len (seen : List Flt.Dt) (k : Nat) : (grow seen k).length = max seen.length (k + 1) := by unfold grow; simp; omega
/-- a piece comes; none: it is another one than it was, or is none -/
def put1 (first : Int) (seen : List Flt.Dt) (d : Flt.Dt) : Option (List Flt.Dt) :=
  let k := placeOf first d.tsn
  if 4096 < k ∨ d.bs = [] then none else match (grow seen k)[k]? with
    | none => none
    | some o => if isB o = true ∧ o ≠ d then none else some ((grow seen k).set k d)
def putL (first : Int) : List Flt.Dt → List Flt.Dt → Option (List Flt.Dt)
  | seen, [] => some seen
  | seen, d :: l => match put1 first seen d with
    | none => none
    | some seen' => putL first seen' l
def adv (seen : List Flt.Dt) (cum : Nat) : Nat := cum + ((seen.drop cum).takeWhile isB).length
structure Ln where
  seen : List Flt.Dt
  first : Int
  cum : Nat
def Ln.take (x : Ln) (l : List Flt.Dt) : Option Ln := match putL x.first x.seen l with
  | none => none
  | some seen' => some { x with seen := seen', cum := adv seen' x.cum }
/-! ### the packets of a moment -/
structure Al where
  s : S
  x : Ln
  packets : Nat
  pieces : Nat
  some_ : Bool
def lostB (lost : Nat) (packets : Nat) : Bool := decide (packets ≤ 64) && lost.testBit (packets - 1)
def allN (lost : Nat) (now : Int) : Nat → Al → Option Al
  | 0, a => some a
  | n + 1, a => match next a.s now with
    | (s', none) => some { a with s := s' }
    | (s', some (_, p)) =>
      if lostB lost (a.packets + 1) then allN lost now n { a with s := s', packets := a.packets + 1, pieces := a.pieces + p.length }
      else match a.x.take p with
        | none => none
        | some x' => allN lost now n ⟨s', x', a.packets + 1, a.pieces + p.length, true⟩
/-! ### the acknowledgement -/
def gaps (seen : List Flt.Dt) (cum : Nat) : Nat → Nat → List (Nat × Nat) → List (Nat × Nat)
  | 0, _, gs => gs
  | n + 1, k, gs => if k < seen.length ∧ gs.length < 20 then
      if isB (seen.getD k dtZ) = false ∨ isB (seen.getD (k - 1) dtZ) = true then gaps seen cum n (k + 1) gs
      else
        let to := k + ((seen.drop (k + 1)).takeWhile isB).length
        gaps seen cum n (k + 1) (gs ++ [(k - cum + 1, to - cum + 1)])
    else gs
def Ln.gaps (x : Ln) : List (Nat × Nat) := Snd.gaps x.seen x.cum x.seen.length (x.cum + 1) []
def Ln.y (x : Ln) : Int := Spn.u32 (Spn.u32 (x.first + Spn.u32 x.cum) - 1)
def answer (s : S) (x : Ln) (rwnd now : Int) : Option S := sack s x.y rwnd x.gaps now
end Go.Snd
