/- What a sender answers to things done, in plain Lean. No conditions: definitions and laws. -/
import Derived.Test.YtjbinhihkfidoaaGreatSnT
namespace Go.Snd
open Go Go.Pth

/-- a thing done -/
structure Dg where
  kind : Int
  stream : Int
  ord : Bool
  bs : List UInt8
  life : Int
  by_ : Int
  gs : List (Nat × Nat)
  rwnd : Int
  path : Int
/-- what is so behind it, and what is told -/
structure Dn where
  s : S
  e : Int
  a : Int
  b : Int
  l : List Flt.Dt
  fc : Int
  fs : List Rm.Sk
  is_ : Bool
  k : List Nat
def Dn.of (s : S) : Dn := ⟨s, 0, 0, 0, [], 0, [], false, []⟩
def did (s : S) (o : Dg) (cum now : Int) : Dn :=
  if o.kind = 0 then { Dn.of (put s o.stream o.ord o.bs o.life now) with e := putE s o.stream o.bs.length o.life now }
  else if o.kind = 1 then (match sack s (Spn.u32 (cum + o.by_)) o.rwnd o.gs now with | none => { Dn.of s with e := 1 } | some s' => Dn.of s')
  else if o.kind = 2 then Dn.of (expire s now)
  else if o.kind = 3 then { Dn.of (timeout s now).s with a := (timeout s now).late, b := (timeout s now).gone }
  else if o.kind = 4 then (match next s now with | (s', none) => Dn.of s' | (s', some (k, l)) => { Dn.of s' with a := k, l := l, is_ := true })
  else if o.kind = 5 then (match forward s now with | (s', none) => Dn.of s' | (s', some (y, sk, b)) => { Dn.of s' with a := b, fc := y, fs := sk, is_ := true })
  else if o.kind = 6 then { Dn.of (beat s now) with k := beatL s now }
  else if o.kind = 7 then { Dn.of (beaten s o.path o.life now) with is_ := beatenB s o.path o.life now }
  else Dn.of s
theorem did_ok {n : Nat} {s : S} (h : Ok n s) (o : Dg) (ho : 0 ≤ o.stream) (cum now : Int) : Ok (n + 1) (did s o cum now).s := by
  have up : ∀ {t : S}, Ok n t → Ok (n + 1) t := fun h => h.up (Nat.le_succ n)
  unfold did
  split
  · exact put_ok h ho _ _ _ _
  · split
    · split
      · exact up h
      · rename_i s' hs
        exact up (sack_ok h (Flt.u32_mod _) hs)
    · split
      · exact expire_ok h now
      · split
        · exact up (timeout_ok h now)
        · split
          · have := next_ok h now
            split
            · rename_i s' hn; rw [hn] at this; exact up this
            · rename_i s' k l hn; rw [hn] at this; exact up this
          · split
            · have := forward_ok h now
              split
              · rename_i s' hn; rw [hn] at this; exact up this
              · rename_i s' k l hn; rw [hn] at this; exact up this
            · split
              · exact up (beat_ok h now)
              · split
                · exact up (beaten_ok h _ _ now)
                · exact up h
end Go.Snd
