/- A flight of pieces: which bytes are freed when, in plain Lean. No conditions: laws. -/
import Derived.Test.YtglobldnockdoaaFlW
namespace Go.Flt
open Go

def lens (L : List Rc) : List Nat := L.map (·.bs.length)
theorem lens_sum (L : List Rc) : (lens L).sum = sumB (fun _ => true) L := by
  rw [sumB_all]
  unfold lens
  rw [List.map_map]
  rfl
theorem lens_k {L M : List Rc} (h : L.map Rc.k = M.map Rc.k) : lens L = lens M := by
  have : ∀ l : List Rc, lens l = (l.map Rc.k).map (fun x => x.1.bs.length) := fun l => by unfold lens; rw [List.map_map]; rfl
  rw [this, this, h]
/-- so many records go; the bytes of just these are freed -/
theorem doS_lens {s : S} (h : Good s) (o : FOp) (cum : Int) : ∃ n : Nat, (doS s o cum).c = Spn.u32 (s.c + n) ∧ n ≤ s.L.length ∧
    lens (doS s o cum).L = (lens s.L ++ (if o.kind = 0 ∧ (doA s o cum).e = 0 then [o.d.bs.length] else [])).drop n ∧ (doA s o cum).t.freed = (((lens s.L).take n).sum : Nat) := by
  have hc : s.c = Spn.u32 (s.c + (0 : Nat)) := by have := h.c; rw [Spn.u32_eq]; omega
  unfold doS doA
  split
  · rename_i hk
    refine ⟨0, ?_, Nat.zero_le _, ?_, rfl⟩
    · rw [show (add s o.d o.path o.now o.id).c = s.c by unfold add; split <;> rfl]; exact hc
    · unfold add
      dsimp only [FAns.zero]
      split
      · rename_i he
        simp [hk, he, lens, newR]
      · rename_i he
        simp [he]
  · rename_i hk
    have hk0 : ∀ e : Prop, ¬(o.kind = 0 ∧ e) := fun _ h => hk h.1
    simp only [hk0, if_false, List.append_nil]
    split
    · refine ⟨0, ?_, Nat.zero_le _, ?_, rfl⟩
      · rw [show (again s (Spn.u32 (cum + o.by_)) o.path o.now).1.c = s.c by unfold again; split <;> (try rfl); split <;> (try rfl); split <;> (try rfl); split <;> rfl]; exact hc
      · have := congrArg (List.map List.length) (again_k s (Spn.u32 (cum + o.by_)) o.path o.now)
        rw [List.map_map, List.map_map] at this
        exact this
    · split
      · refine ⟨0, hc, Nat.zero_le _, rfl, ?_⟩
        split <;> rfl
      · split
        · exact ⟨0, hc, Nat.zero_le _, lens_k (sel_k _ setLost (fun _ => rfl) _), rfl⟩
        · split
          · exact ⟨0, hc, Nat.zero_le _, lens_k (sel_k _ setGone (fun _ => rfl) _), rfl⟩
          · split
            · cases hs : sack s (Spn.u32 (cum + o.by_)) o.gaps with
              | none => exact ⟨0, hc, Nat.zero_le _, rfl, rfl⟩
              | some x =>
                obtain ⟨s', t⟩ := x
                obtain ⟨M, hM, rfl, hf⟩ := sack_L hs
                obtain ⟨sp, h1, _⟩ := sack_some hs
                obtain ⟨_, h2, _⟩ := span_ok h1
                have hl := lens_k hM
                refine ⟨Spn.far s.c (Spn.u32 (cum + o.by_)), ?_, h2, ?_, ?_⟩
                · have := Spn.far_int s.c (Spn.u32 (cum + o.by_))
                  have := h.c
                  dsimp only
                  simp only [Spn.u32_eq] at *
                  omega
                · dsimp only
                  rw [← hl]
                  unfold lens
                  rw [List.map_drop]
                · dsimp only
                  rw [hf, ← lens_sum, ← hl]
                  unfold lens
                  rw [List.map_take]
            · exact ⟨0, hc, Nat.zero_le _, rfl, rfl⟩
theorem sum_take_drop (l : List Nat) (n : Nat) : (l.take n).sum + (l.drop n).sum = l.sum := by rw [← List.sum_append, List.take_append_drop]
/-- the bytes that were added, and those that are there -/
structure InvF (s : S) (c0 : Int) (long : List Nat) (n : Nat) (acked : Int) : Prop where
  good : Good s
  c : s.c = Spn.u32 (c0 + n)
  nl : n ≤ long.length
  rest : lens s.L = long.drop n
  ack : acked + sumB low1 s.L ≤ long.sum
  nn : 0 ≤ acked
theorem InvF.step {s : S} {c0 : Int} {long : List Nat} {n : Nat} {acked : Int} (h : InvF s c0 long n acked) (o : FOp) (cum : Int) (hM : long.sum ≤ 1000000000) :
    ∃ k, InvF (doS s o cum) c0 (long ++ (if o.kind = 0 ∧ (doA s o cum).e = 0 then [o.d.bs.length] else [])) (n + k) (acked + ackSum (doA s o cum).t) ∧ (doA s o cum).t.nn ∧
      (((long.take n).sum : Nat) : Int) + (doA s o cum).t.freed = (((long ++ (if o.kind = 0 ∧ (doA s o cum).e = 0 then [o.d.bs.length] else [])).take (n + k)).sum : Nat) ∧ 0 ≤ (doA s o cum).t.freed := by
  obtain ⟨k, h1, h2, h3, h4⟩ := doS_lens h.good o cum
  have hlow : sumB low1 s.L ≤ sumB (fun _ => true) s.L := sumB_mono (fun _ _ => rfl)
  have hsum : sumB (fun _ => true) s.L ≤ long.sum := by
    rw [← lens_sum, h.rest]
    have := sum_take_drop long n
    omega
  obtain ⟨h5, h6⟩ := doS_pot s o cum (by omega)
  have hll : s.L.length = long.length - n := by
    have := congrArg List.length h.rest
    simpa [lens] using this
  have hnl := h.nl
  have hnn : 0 ≤ ackSum (doA s o cum).t := by
    have := h5.a0
    have := h5.a1
    have := h5.a2
    have := h5.a3
    unfold ackSum
    omega
  generalize hx : (if o.kind = 0 ∧ (doA s o cum).e = 0 then [o.d.bs.length] else []) = x at h3 ⊢
  have hxs : x.sum = if o.kind = 0 ∧ (doA s o cum).e = 0 then o.d.bs.length else 0 := by
    rw [← hx]
    split <;> simp
  rw [← hxs] at h6
  refine ⟨k, ⟨h.good.doS o cum, ?_, ?_, ?_, ?_, ?_⟩, h5, ?_, by rw [h4]; omega⟩
  · rw [h1, h.c]
    simp only [Spn.u32_eq]
    omega
  · rw [List.length_append]; omega
  · rw [h3, h.rest, ← List.drop_append_of_le_length hnl, List.drop_drop]
  · rw [List.sum_append]
    have := h.ack
    omega
  · have := h.nn
    omega
  · rw [h4, h.rest]
    have e : (long ++ x).take (n + k) = long.take n ++ (long.drop n).take k := by
      rw [List.take_append_of_le_length (by omega), List.take_add]
    rw [e, List.sum_append]
    omega
theorem InvF.now {s : S} {c0 : Int} {long : List Nat} {n : Nat} {acked : Int} (h : InvF s c0 long n acked) : Flt.out s 0 + Flt.out s 1 + Flt.out s 2 + Flt.out s 3 = sumB away s.L ∧ sumB away s.L + (long.take n).sum ≤ long.sum ∧ (sumB away s.L : Int) + acked ≤ long.sum ∧ sumB away s.L ≤ openB s ∧ openB s + (long.take n).sum ≤ long.sum ∧ s.L.length = long.length - n := by
  have h1 : sumB away s.L ≤ sumB (fun _ => true) s.L := sumB_mono (fun _ _ => rfl)
  have h2 : sumB away s.L ≤ sumB low1 s.L := sumB_mono (fun r hr => by
    unfold away at hr
    unfold low1
    cases hr1 : r.acked <;> cases hr2 : r.gone <;> simp_all)
  have h3 : sumB away s.L ≤ openB s := sumB_mono (fun r hr => by
    unfold away at hr
    unfold unack
    cases hr1 : r.acked <;> simp_all)
  have h4 : openB s ≤ sumB (fun _ => true) s.L := sumB_mono (fun _ _ => rfl)
  have h5 := lens_sum s.L
  rw [h.rest] at h5
  have h6 := sum_take_drop long n
  have h7 := h.ack
  have hll : s.L.length = long.length - n := by
    have := congrArg List.length h.rest
    simpa [lens] using this
  exact ⟨out_sum h.good, by omega, by omega, h3, by omega, hll⟩
end Go.Flt
