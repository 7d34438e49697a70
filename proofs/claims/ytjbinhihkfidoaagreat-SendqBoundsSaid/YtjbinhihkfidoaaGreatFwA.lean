/- What is forwarded over: the skips of streams, in plain Lean. No conditions: laws only. -/
import Derived.Test.YtjbinhihkfidoaaGreatBa
namespace Go.Snd
open Go

theorem skipIn_new {l : List Rm.Sk} {st n : Int} (h : ∀ k ∈ l, k.st ≠ st) : skipIn l st n = l ++ [⟨st, n⟩] := by
  induction l with
  | nil => rfl
  | cons k l ih =>
    rw [skipIn, if_neg (h k List.mem_cons_self), ih (fun q hq => h q (List.mem_cons_of_mem _ hq)), List.cons_append]
theorem skipIn_at {st n : Int} : ∀ {l : List Rm.Sk} {j : Nat} {k : Rm.Sk}, l[j]? = some k → k.st = st → (∀ (i : Nat) q, i < j → l[i]? = some q → q.st ≠ st) → skipIn l st n = l.set j ⟨st, if Rm.less16 k.n n then n else k.n⟩
  | [], _, _, h, _, _ => by cases h
  | q :: l, 0, k, h, hk, _ => by
    cases h
    rw [skipIn, if_pos hk, List.set_cons_zero]
  | q :: l, j + 1, k, h, hk, hb => by
    rw [skipIn, if_neg (hb 0 q (by omega) rfl), List.set_cons_succ, skipIn_at (by simpa using h) hk (fun i p hi hp => hb (i + 1) p (by omega) (by simpa using hp))]
theorem skipIn_len (l : List Rm.Sk) (st n : Int) : (skipIn l st n).length ≤ l.length + 1 := by
  induction l with
  | nil => simp [skipIn]
  | cons k l ih =>
    rw [skipIn]
    split
    · simp
    · rw [List.length_cons, List.length_cons]; omega
theorem skips_snoc (l : List Flt.Dt) (d : Flt.Dt) : skips (l ++ [d]) = if d.un then skips l else skipIn (skips l) d.stream d.ssn := by
  unfold skips
  rw [List.foldl_append]
  rfl
theorem skips_len (l : List Flt.Dt) : (skips l).length ≤ l.length := by
  have h : ∀ (l : List Flt.Dt) (q : List Rm.Sk), (l.foldl (fun q d => if d.un then q else skipIn q d.stream d.ssn) q).length ≤ q.length + l.length := fun l => by
    induction l with
    | nil => intro q; simp
    | cons d l ih =>
      intro q
      rw [List.foldl_cons, List.length_cons]
      have h1 := ih (if d.un then q else skipIn q d.stream d.ssn)
      have h2 := skipIn_len q d.stream d.ssn
      split at h1 <;> rename_i hd <;> simp only [hd, if_true, if_false] at h1 ⊢ <;> simp <;> omega
  have := h l []
  simpa [skips] using this
theorem okRow_at {c : Int} : ∀ {l : List Flt.Dt} {i : Nat}, okRow c i l = true → ∀ (j : Nat) d, l[j]? = some d → Spn.u32 (d.tsn - c) = Spn.u32 ((i + j : Nat) + 1)
  | [], _, _, _, _, h => by cases h
  | q :: l, i, hk, 0, d, h => by
    cases h
    rw [okRow, Bool.and_eq_true, decide_eq_true_eq] at hk
    exact hk.1
  | q :: l, i, hk, j + 1, d, h => by
    rw [okRow, Bool.and_eq_true] at hk
    rw [okRow_at hk.2 j d (by simpa using h)]
    congr 1
    omega
theorem due_len {s : S} {y a : Int} {sk : List Rm.Sk} (h : due s = some ((y, sk), a)) : sk.length ≤ s.f.L.length := by
  unfold due at h
  cases hm : make s.f.c (Flt.ptL s.f.L) with
  | none => rw [hm] at h; cases h
  | some f =>
    rw [hm] at h
    have h := congrArg Prod.fst (Option.some.inj h)
    dsimp only at h
    rw [h] at hm
    unfold make at hm
    split at hm
    · split at hm
      · cases hm
      · have hm := congrArg Prod.snd (Option.some.inj hm)
        dsimp only at hm
        rw [← hm]
        have h1 := skips_len (Flt.ptL s.f.L)
        have h2 : (Flt.ptL s.f.L).length ≤ s.f.L.length := by unfold Flt.ptL; rw [List.length_map]; exact (List.takeWhile_sublist _).length_le
        omega
    · cases hm
end Go.Snd
