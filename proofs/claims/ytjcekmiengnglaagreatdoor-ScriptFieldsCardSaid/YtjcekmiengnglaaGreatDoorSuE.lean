/- The document's Read, walked. Conditions: lengths within bounds. -/
import Derived.Test.YtjcekmiengnglaaGreatDoorSuD
import Derived.Test.YtjcekmiengnglaaGreatDoorStX
namespace Go.Proofs.YtjcekmiengnglaaGreatDoor
open Go Go.Sl Go.Scr

instance : Body Tryz.prog 28 := ⟨by kernel_rfl⟩
instance : Body Tryz.prog 18 := ⟨by kernel_rfl⟩
def RReadQ (s : Str) (v : Value) (H' : HL) : Prop := (∃ (x : Evx) (hb : HL), v = tup [.agg x.cells.toArray, .int .i64 0] ∧ Reads s x.e ∧ OwnS 5 1 (x.e.bytes.map B) (.slice x.ba x.bn x.bc) hb ∧ x.e.bytes.length ≤ 100000000000 ∧ H' = hb) ∨ (v = tup [.agg evx0.cells.toArray, .int .i64 7] ∧ (∀ e, ¬ Reads s e) ∧ H' = [])
theorem unhexs_le : ∀ (w : Str), (unhexs w).length ≤ w.length
  | a :: b :: s => by
    have := unhexs_le s
    simp only [unhexs, List.length_cons]
    omega
  | [] => by simp [unhexs]
  | [_] => by simp [unhexs]
theorem gz_bytes (w1 : Str) (wr : List Str) (m : Nat) (h : ∀ w ∈ wr, w.length ≤ m) : (gz (w1 :: wr)).bytes.length ≤ m := by
  rw [gz_cons]
  split
  · have key : ∀ (l : List (Scr.Fd × Str)) (o : Evt), (∀ p ∈ l, p.2.length ≤ m) → o.bytes.length ≤ m → (l.foldl (fun o p => o.set p.1 (gv p.1 p.2)) o).bytes.length ≤ m := by
      intro l
      induction l with
      | nil => intro o _ h; exact h
      | cons p l ih =>
        intro o hl ho
        refine ih _ (fun q hq => hl q (List.mem_cons_of_mem _ hq)) ?_
        have hp := hl p (List.mem_cons_self ..)
        obtain ⟨f, w⟩ := p
        cases f <;> simp only [gv, Evt.set] <;> first | exact ho | exact Nat.le_trans (unhexs_le w) hp
    exact key _ { evt0 with kind := kindZ w1 } (fun p hp => h _ (List.of_mem_zip hp).2) (Nat.zero_le _)
  · exact Nat.zero_le _
end Go.Proofs.YtjcekmiengnglaaGreatDoor
