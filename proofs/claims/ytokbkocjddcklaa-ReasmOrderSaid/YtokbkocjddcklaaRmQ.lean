/- The reassembler in plain Lean, third part: no byte is lost or doubled: what is held behind a piece, and behind a message that was taken. Condition: TSNs are 32 bits wide and no two pieces have one. -/
import Derived.Test.YtokbkocjddcklaaRmP
namespace Go.Rm
open Go

structure good (L : List D) : Prop where
  keys : (L.map (·.tsn)).Nodup
  wf : ∀ d ∈ L, 0 ≤ d.tsn ∧ d.tsn < 4294967296
  few : L.length < 2147483000
theorem good.sub {L L' : List D} (h : good L) (hs : L'.Sublist L) : good L' :=
  ⟨h.keys.sublist (hs.map _), fun d hd => h.wf d (hs.mem hd), Nat.lt_of_le_of_lt hs.length_le h.few⟩
theorem at_of_mem {L : List D} (h : (L.map (·.tsn)).Nodup) {d : D} (hd : d ∈ L) : at? L d.tsn = some d := by
  induction L with
  | nil => cases hd
  | cons e L ih =>
    rw [List.map_cons, List.nodup_cons] at h
    unfold at?
    rcases List.mem_cons.1 hd with rfl | hd
    · simp
    · have : d.tsn ≠ e.tsn := fun he => h.1 (he ▸ List.mem_map.2 ⟨d, hd, rfl⟩)
      rw [List.find?_cons_of_neg (by simpa using this)]
      exact ih h.2 hd
theorem gath_sub : ∀ (n : Nat) (L : List D) (t l : Int) (acc : List UInt8), (gath n L t l acc).2.Sublist L
  | 0, L, _, _, _ => .refl L
  | n + 1, L, t, l, acc => by
    rw [gath]
    split
    · exact List.eraseP_sublist
    · exact (gath_sub n _ _ _ _).trans List.eraseP_sublist
theorem gath_tot : ∀ (k : Nat) (L : List D) (t l : Int) (acc : List UInt8), (0 ≤ t ∧ t < 4294967296) → k < 4294967296 → l = u32 (t + k) → (∀ i : Nat, i ≤ k → ∃ d, at? L (u32 (t + i)) = some d) →
    totD (gath (k + 1) L t l acc).2 + (gath (k + 1) L t l acc).1.length = totD L + acc.length
  | k, L, t, l, acc, ht, hk, hl, hall => by
    obtain ⟨d, hd⟩ := hall 0 (Nat.zero_le _)
    have e0 : u32 (t + (0 : Nat)) = t := by simp only [u32_eq]; omega
    rw [e0] at hd
    have hte := tot_erase hd
    rw [gath]
    by_cases he : t = l
    · rw [if_pos (by simpa using he)]
      simp only [hd, List.length_append]
      omega
    · rw [if_neg (by simpa using he)]
      cases k with
      | zero => exact absurd (by rw [hl]; exact e0.symm) he
      | succ k =>
        have e1 : ∀ i : Nat, u32 (u32 (t + 1) + i) = u32 (t + (i + 1 : Nat)) := fun i => by simp only [u32_eq]; omega
        have ih := gath_tot k (L.eraseP (fun d => t == d.tsn)) (u32 (t + 1)) l (acc ++ d.bytes) (by simp only [u32_eq]; omega) (by omega) (by rw [e1]; exact hl) (fun i hi => by
          obtain ⟨e, he'⟩ := hall (i + 1) (by omega)
          refine ⟨e, ?_⟩
          rw [e1, at_erase_ne (by simp only [u32_eq]; omega)]
          exact he')
        rw [hd]
        rw [ih, List.length_append]
        omega
theorem ready_sub {L : List D} {row : List Mg} {f l : Int} : (ready L row f l).1.Sublist L := gath_sub _ _ _ _ _
theorem ready_tot {L : List D} {row : List Mg} {p : D} {f l : Int} (hg : good L) (hp : p ∈ L) (h : whole L p = some (f, l)) : totD (ready L row f l).1 + totM (ready L row f l).2 = totD L + totM row := by
  obtain ⟨hf, n, hn, hl, hln, _, hall⟩ := whole_run (at_of_mem hg.keys hp) (hg.wf p hp) hg.few h
  have := gath_tot n L f l [] hf hn hl (fun i hi => let ⟨d, hd, _⟩ := hall i hi; ⟨d, hd⟩)
  dsimp only [ready]
  rw [hln]
  simp only [totM, List.map_append, List.map_cons, List.map_nil, List.sum_append, List.sum_cons, List.sum_nil]
  simp at this
  omega
theorem cand_mem {L : List D} {st n : Int} {f l : Int} (h : cand L st n = some (f, l)) : ∃ d ∈ L, whole L d = some (f, l) ∧ d.un = false ∧ d.stream = st ∧ d.ssn = n := by
  unfold cand at h
  obtain ⟨l1, d, l2, rfl, hd, _⟩ := List.findSome?_eq_some_iff.1 h
  unfold isC at hd
  split at hd
  · rename_i hc
    simp at hc
    exact ⟨d, by simp, hd, hc.1.1, hc.1.2, hc.2⟩
  · cases hd
theorem onN_tot : ∀ (n : Nat) (s : S) (st : Int), good s.L → totD (onN n s st).L + totM (onN n s st).row = totD s.L + totM s.row
  | 0, _, _, _ => rfl
  | n + 1, s, st, hg => by
    rw [onN]
    cases hc : cand s.L st (s.nx.getD st.toNat 0) with
    | none => rfl
    | some fl =>
      obtain ⟨f, l⟩ := fl
      obtain ⟨d, hd, hw, _⟩ := cand_mem hc
      dsimp only
      rw [onN_tot n _ st (hg.sub (ready_sub (row := s.row)))]
      exact ready_tot hg hd hw
theorem on_tot {s : S} {st : Int} (hg : good s.L) : totD (on s st).L + totM (on s st).row = totD s.L + totM s.row := onN_tot _ _ _ hg
theorem good.add {L : List D} {d : D} (h : good L) (hd : 0 ≤ d.tsn ∧ d.tsn < 4294967296) (hn : at? L d.tsn = none) (hf : L.length + 1 < 2147483000) : good (L ++ [d]) := by
  refine ⟨?_, fun e he => ?_, by simpa using hf⟩
  · rw [List.map_append, List.nodup_append]
    refine ⟨h.keys, by simp, fun a ha b hb e => ?_⟩
    obtain ⟨q, hq, rfl⟩ := List.mem_map.1 ha
    simp at hb
    unfold at? at hn
    rw [List.find?_eq_none] at hn
    exact hn q hq (by simp [e, hb])
  · rcases List.mem_append.1 he with he | he
    · exact h.wf e he
    · rw [List.mem_singleton.1 he]; exact hd
theorem put_tot {s : S} {d : D} (hg : good s.L) (hd : 0 ≤ d.tsn ∧ d.tsn < 4294967296) (hf : s.L.length + 1 < 2147483000) :
    totD (put s d).L + totM (put s d).row = totD s.L + totM s.row + if putE s d = 0 then d.bytes.length else 0 := by
  unfold put
  by_cases h0 : putE s d = 0
  · rw [if_pos h0, if_pos h0]
    have hn : at? s.L d.tsn = none := by
      unfold putE at h0
      cases ha : at? s.L d.tsn with
      | none => rfl
      | some e =>
        simp only [ha, Option.isSome_some, if_true] at h0
        split at h0
        · omega
        split at h0
        · omega
        split at h0 <;> omega
    have hg' := hg.add hd hn hf
    have ht : totD (s.L ++ [d]) = totD s.L + d.bytes.length := by simp [totD]
    unfold put1
    by_cases hu : d.un = true
    · rw [if_pos hu]
      cases hw : whole (s.L ++ [d]) d with
      | none => dsimp only; omega
      | some fl =>
        obtain ⟨f, l⟩ := fl
        dsimp only
        rw [ready_tot hg' (by simp) hw]
        omega
    · rw [if_neg hu, on_tot hg']
      dsimp only
      omega
  · rw [if_neg h0, if_neg h0]; rfl
end Go.Rm
