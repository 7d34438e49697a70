/- The runs of rising numbers, in plain Lean: fewer runs are the first ones of all; what they are of. No conditions: definitions and laws. -/
import Derived.Test.YtkbdfhfbhgaecaaSpP
namespace Go.Spn
open Go

/-- all runs -/
def runsU : List (Nat × Nat) → List Nat → List (Nat × Nat)
  | acc, [] => acc
  | acc, d :: ds => match acc.getLast? with
    | some (f, t) => if t + 1 = d then runsU (acc.dropLast ++ [(f, d)]) ds else runsU (acc ++ [(d, d)]) ds
    | none => runsU (acc ++ [(d, d)]) ds
theorem runsU_snoc {acc : List (Nat × Nat)} {f t d : Nat} {ds : List Nat} : runsU (acc ++ [(f, t)]) (d :: ds) = if t + 1 = d then runsU (acc ++ [(f, d)]) ds else runsU (acc ++ [(f, t)] ++ [(d, d)]) ds := by
  rw [runsU]
  simp
theorem runs_snoc {most : Int} {acc : List (Nat × Nat)} {f t d : Nat} {ds : List Nat} : runs most (acc ++ [(f, t)]) (d :: ds) = if t + 1 = d then runs most (acc ++ [(f, d)]) ds else if (((acc ++ [(f, t)]).length : Nat) : Int) = most then acc ++ [(f, t)] else runs most (acc ++ [(f, t)] ++ [(d, d)]) ds := by
  rw [runs]
  simp
theorem runsU_app : ∀ (ds : List Nat) (acc : List (Nat × Nat)) (x : Nat × Nat), runsU (acc ++ [x]) ds = acc ++ runsU [x] ds
  | [], acc, x => by simp [runsU]
  | d :: ds, acc, (f, t) => by
    have h := runsU_snoc (acc := []) (f := f) (t := t) (d := d) (ds := ds)
    rw [List.nil_append, List.nil_append] at h
    rw [runsU_snoc, h]
    split
    · exact runsU_app ds acc (f, d)
    · rw [runsU_app ds (acc ++ [(f, t)]) (d, d), runsU_app ds [(f, t)] (d, d)]
      simp
theorem runsU_len : ∀ (ds : List Nat) (acc : List (Nat × Nat)), acc.length ≤ (runsU acc ds).length ∧ (runsU acc ds).length ≤ acc.length + ds.length
  | [], acc => by simp [runsU]
  | d :: ds, acc => by
    rcases List.eq_nil_or_concat acc with rfl | ⟨acc', ⟨f, t⟩, rfl⟩
    · have := runsU_len ds [(d, d)]
      simp [runsU] at this ⊢
      omega
    · rw [List.concat_eq_append, runsU_snoc]
      split
      · have := runsU_len ds (acc' ++ [(f, d)])
        simp at this ⊢
        omega
      · have := runsU_len ds (acc' ++ [(f, t)] ++ [(d, d)])
        simp at this ⊢
        omega
theorem runs_take (most : Nat) : ∀ (ds : List Nat) (acc : List (Nat × Nat)), acc.length ≤ most → 1 ≤ most → runs most acc ds = (runsU acc ds).take most
  | [], acc, h, _ => by rw [runs, runsU, List.take_of_length_le h]
  | d :: ds, acc, h, h1 => by
    rcases List.eq_nil_or_concat acc with rfl | ⟨acc', ⟨f, t⟩, rfl⟩
    · have hr : runs (most : Int) [] (d :: ds) = runs most [(d, d)] ds := by
        rw [runs]
        simp
        omega
      have hu : runsU [] (d :: ds) = runsU [(d, d)] ds := by rw [runsU]; simp
      rw [hr, hu]
      exact runs_take most ds [(d, d)] (by simpa using h1) h1
    · rw [List.concat_eq_append] at h ⊢
      rw [runs_snoc, runsU_snoc]
      split
      · exact runs_take most ds (acc' ++ [(f, d)]) (by simpa using h) h1
      · split
        · rename_i hf
          rw [runsU_app]
          have : (acc' ++ [(f, t)]).length = most := by omega
          rw [List.take_append_of_le_length (by omega), List.take_of_length_le (by omega)]
        · rename_i hf
          refine runs_take most ds (acc' ++ [(f, t)] ++ [(d, d)]) ?_ h1
          simp at h hf ⊢
          omega
theorem dist_le' {s : S} (h : s.ok) : (dist s.p).length ≤ 4096 := by
  have h0 : s.p 0 = false := by
    cases hp : s.p 0 with
    | false => rfl
    | true => have := h.2 0 hp; omega
  unfold dist
  rw [List.range_succ_eq_map, List.filter_cons_of_neg (by simp [h0])]
  refine Nat.le_trans (List.length_filter_le _ _) ?_
  simp
/-- all gaps -/
def gapsU (s : S) : List (Nat × Nat) := runsU [] (dist s.p)
theorem gapsU_len {s : S} (h : s.ok) : (gapsU s).length ≤ 4096 := by
  have h1 := (runsU_len (dist s.p) []).2
  have h2 := dist_le' h
  unfold gapsU
  simp at h1
  omega
theorem gaps_take {s : S} (most : Int) : gaps s most = (gapsU s).take most.toNat := by
  unfold gaps gapsU
  split
  · rename_i h
    rw [show most.toNat = 0 by omega]; rfl
  · rename_i h
    obtain ⟨m, rfl⟩ : ∃ m : Nat, most = m := ⟨most.toNat, by omega⟩
    rw [runs_take m _ _ (by simp) (by omega), Int.toNat_natCast]
theorem gaps_all {s : S} (h : s.ok) {most : Int} (hm : 4096 ≤ most) : gaps s most = gapsU s := by
  rw [gaps_take, List.take_of_length_le]
  have := gapsU_len h
  omega
end Go.Spn
