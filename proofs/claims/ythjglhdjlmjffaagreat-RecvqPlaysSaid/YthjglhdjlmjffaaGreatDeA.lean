/- When an acknowledgement is due, in plain Lean. No conditions: definitions. -/
import Derived.Test.YthjglhdjlmjffaaGreatBc
namespace Go.Del
open Go

structure S where
  ticks : Int
  many : Int
  first : Int
  urgent : Bool
structure Ok (s : S) : Prop where
  t : 0 ≤ s.ticks ∧ s.ticks ≤ 1048576
  m : 0 ≤ s.many ∧ s.many ≤ 2
  f : 0 ≤ s.first ∧ s.first ≤ 2305843009213693952
def low (now : Int) : Int := if 2305843009213693952 < now then 2305843009213693952 else now
def clamp (now : Int) : Int := if 0 < low now then low now else 0
def packet (s : S) (now : Int) (u : Bool) : S := ⟨s.ticks, if 2 < s.many + 1 then 2 else s.many + 1, if s.many = 0 then clamp now else s.first, s.urgent || u⟩
def due (s : S) (now : Int) : Bool := decide (s.many ≠ 0) && (s.urgent || decide (1 < s.many) || decide (s.first + s.ticks ≤ now))
def dueAt (s : S) : Int × Bool := if s.many = 0 then (0, false) else if due s s.first then (s.first, true) else (s.first + s.ticks, true)
def sent (s : S) : S := ⟨s.ticks, 0, s.first, false⟩
theorem clamp_in (now : Int) : 0 ≤ clamp now ∧ clamp now ≤ 2305843009213693952 := by
  unfold clamp low
  split <;> split at * <;> omega
theorem Ok.packet {s : S} (h : Ok s) (now : Int) (u : Bool) : Ok (packet s now u) := by
  have := clamp_in now
  have h1 := h.m
  have h2 := h.f
  refine ⟨h.t, ?_, ?_⟩
  · unfold Del.packet
    dsimp only
    split <;> omega
  · unfold Del.packet
    dsimp only
    split <;> omega
theorem Ok.sent {s : S} (h : Ok s) : Ok (sent s) := ⟨h.t, by unfold Del.sent; dsimp only; omega, h.f⟩
end Go.Del
