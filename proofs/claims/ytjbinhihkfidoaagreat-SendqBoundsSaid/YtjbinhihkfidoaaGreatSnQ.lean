/- A sender's beginning, and its paths turned one by one, in plain Lean. No conditions: definitions and laws. -/
import Derived.Test.YtjbinhihkfidoaaGreatBa
namespace Go.Snd
open Go Go.Pth

/-- the ways ahead of one are turned -/
def pmap (g : Nat → Way → Way) (l : List Way) (i : Nat) : List Way := l.mapIdx (fun k w => if k < i then g k w else w)
theorem pmap_zero (g : Nat → Way → Way) (l : List Way) : pmap g l 0 = l := by
  unfold pmap
  refine List.ext_getElem? (fun j => ?_)
  rw [List.getElem?_mapIdx]
  cases l[j]? <;> simp
theorem pmap_all (g : Nat → Way → Way) (l : List Way) : pmap g l l.length = l.mapIdx g := by
  unfold pmap
  refine List.ext_getElem? (fun j => ?_)
  rw [List.getElem?_mapIdx, List.getElem?_mapIdx]
  cases h : l[j]? with
  | none => rfl
  | some w =>
    have := (List.getElem?_eq_some_iff.1 h).1
    simp [this]
theorem pmap_len (g : Nat → Way → Way) (l : List Way) (i : Nat) : (pmap g l i).length = l.length := by simp [pmap]
theorem pmap_get (g : Nat → Way → Way) {l : List Way} {i : Nat} {w : Way} (h : l[i]? = some w) : (pmap g l i)[i]? = some w := by
  unfold pmap
  rw [List.getElem?_mapIdx, h]
  simp
theorem pmap_succ (g : Nat → Way → Way) {l : List Way} {i : Nat} {w : Way} (h : l[i]? = some w) : pmap g l (i + 1) = (pmap g l i).set i (g i w) := by
  refine List.ext_getElem? (fun j => ?_)
  by_cases hj : i = j
  · subst hj
    rw [List.getElem?_set_self (by rw [pmap_len]; exact (List.getElem?_eq_some_iff.1 h).1)]
    unfold pmap
    rw [List.getElem?_mapIdx, h]
    simp
  · rw [List.getElem?_set_ne hj]
    unfold pmap
    rw [List.getElem?_mapIdx, List.getElem?_mapIdx]
    cases l[j]? with
    | none => rfl
    | some v =>
      simp only [Option.map_some]
      congr 1
      by_cases h1 : j < i
      · rw [if_pos h1, if_pos (by omega)]
      · rw [if_neg h1, if_neg (by omega)]
/-! ### a sender of nothing -/
def roomR (rwnd : Int) : Int := mn rwnd 1048576
def way0 (p : Pth.S) : Way := ⟨p, -1, false, 0⟩
def newS (paths streams sroom mtu : Int) (p : Pth.S) (first rwnd : Int) : S :=
  ⟨Oq.new streams sroom, ⟨[], Spn.u32 (first - 1), paths⟩, List.replicate paths.toNat (way0 p), roomR rwnd, roomR rwnd, mtu, [], [], false, 0, 0, paths - 1⟩
theorem newS_ok {paths streams sroom mtu : Int} {p : Pth.S} {first rwnd : Int} (h1 : 1 ≤ paths ∧ paths ≤ 4) (h2 : Oq.may streams sroom = true) (h3 : 128 ≤ mtu ∧ mtu ≤ 1500) (hp : Pth.Ok p) (hr : 0 ≤ rwnd) : Ok 0 (newS paths streams sroom mtu p first rwnd) := by
  have hw : (way0 p).Ok := ⟨hp, by dsimp only [way0]; omega, by dsimp only [way0]; omega⟩
  have hrm : 0 ≤ roomR rwnd ∧ roomR rwnd ≤ 1048576 := by unfold roomR; rw [mn_eq]; omega
  have hlen : (List.replicate paths.toNat (way0 p)).length = paths.toNat := List.length_replicate
  refine ⟨Oq.new_ok h2, ?_, ?_, ⟨⟨Flt.u32_mod _, h1, ?_, ?_, ?_, ?_⟩, ?_, ?_⟩, ?_, ?_, ?_, hrm, hrm, h3, ?_, ?_, ?_, ?_, ?_, ?_, ?_⟩
  all_goals try (simp [newS, Oq.new]; done)
  · show paths = (List.replicate paths.toNat (way0 p)).length
    rw [hlen]; omega
  · show 1 ≤ (List.replicate paths.toNat (way0 p)).length ∧ (List.replicate paths.toNat (way0 p)).length ≤ 4
    rw [hlen]; omega
  · intro w hwm
    rw [(List.mem_replicate.1 hwm).2]
    exact hw
  · exact atR_zero
  · show 0 ≤ paths - 1 ∧ paths - 1 < ((List.replicate paths.toNat (way0 p)).length : Int)
    rw [hlen]; omega
theorem Ok.up {n m : Nat} {s : S} (h : Ok n s) (hm : n ≤ m) : Ok m s := by
  have h1 := h.many; have h2 := h.qfew; have h3 := h.lfew; have h4 := h.ofew
  exact { h with many := by omega, qfew := by omega, lfew := by omega, ofew := by omega }
end Go.Snd
