/- A flight of pieces: how many bytes are told to be acknowledged, are under way, and are freed, in plain Lean. No conditions: laws. -/
import Derived.Test.YtglobldnockdoaaFlT
namespace Go.Flt
open Go

def ackSum (t : Tld) : Int := t.p0.acked + t.p1.acked + t.p2.acked + t.p3.acked
structure Tld.nn (t : Tld) : Prop where
  a0 : 0 ≤ t.p0.acked
  a1 : 0 ≤ t.p1.acked
  a2 : 0 ≤ t.p2.acked
  a3 : 0 ≤ t.p3.acked
theorem sumB_set (q : Rc → Bool) {L : List Rc} {i : Nat} {r : Rc} (h : L[i]? = some r) (r' : Rc) : sumB q (L.set i r') + (if q r then r.bs.length else 0) = sumB q L + (if q r' then r'.bs.length else 0) := by
  have hi := (List.getElem?_eq_some_iff.1 h).1
  have he := (List.getElem?_eq_some_iff.1 h).2
  have e1 : L = L.take i ++ ([r] ++ L.drop (i + 1)) := by rw [← he, List.singleton_append, ← List.drop_eq_getElem_cons hi, List.take_append_drop]
  have e2 : L.set i r' = L.take i ++ ([r'] ++ L.drop (i + 1)) := by rw [List.set_eq_take_append_cons_drop, if_pos hi]; rfl
  have one : ∀ x : Rc, sumB q [x] = if q x then x.bs.length else 0 := fun x => by unfold sumB; cases hq : q x <;> simp [hq]
  rw [e2, sumB_append, sumB_append, one]
  have e3 : sumB q L = sumB q (L.take i) + (sumB q [r] + sumB q (L.drop (i + 1))) := by rw [← sumB_append, ← sumB_append, ← e1]
  rw [e3, one]
  omega
theorem sumB_mono {q q' : Rc → Bool} {L : List Rc} (h : ∀ r, q r = true → q' r = true) : sumB q L ≤ sumB q' L := by
  induction L with
  | nil => exact Nat.le_refl _
  | cons r L ih =>
    unfold sumB at ih ⊢
    cases hq : q r with
    | false =>
      rw [List.filter_cons_of_neg (by simp [hq])]
      cases hq' : q' r with
      | false => rw [List.filter_cons_of_neg (by simp [hq'])]; exact ih
      | true => rw [List.filter_cons_of_pos hq', List.map_cons, List.sum_cons]; omega
    | true => rw [List.filter_cons_of_pos hq, List.filter_cons_of_pos (h r hq), List.map_cons, List.map_cons, List.sum_cons, List.sum_cons]; omega
/-- of a kind, and how long -/
def kg (q : Rc → Bool) (r : Rc) : Bool × Nat := (q r, r.bs.length)
theorem sumB_kg {q : Rc → Bool} {L M : List Rc} (h : L.map (kg q) = M.map (kg q)) : sumB q L = sumB q M := by
  have : ∀ l : List Rc, sumB q l = (((l.map (kg q)).filter (·.1)).map (·.2)).sum := fun l => by
    unfold sumB
    rw [List.filter_map, List.map_map]
    rfl
  rw [this, this, h]
theorem upd_sum (t : Tld) (p : Int) (f : PT → PT) (d : Int) (h : ∀ q : PT, (q = t.p0 ∨ q = t.p1 ∨ q = t.p2 ∨ q = t.p3) → (f q).acked = q.acked + d) : ackSum (t.upd p f) = ackSum t + d := by
  have h0 := h t.p0 (.inl rfl)
  have h1 := h t.p1 (.inr (.inl rfl))
  have h2 := h t.p2 (.inr (.inr (.inl rfl)))
  have h3 := h t.p3 (.inr (.inr (.inr rfl)))
  unfold Tld.upd ackSum
  split
  · dsimp only; omega
  · split
    · dsimp only; omega
    · split <;> (dsimp only; omega)
theorem upd_nn {t : Tld} (ht : t.nn) (p : Int) (f : PT → PT) (h : ∀ q : PT, 0 ≤ q.acked → q.acked ≤ ackSum t → 0 ≤ (f q).acked) : (t.upd p f).nn := by
  obtain ⟨h0, h1, h2, h3⟩ := ht
  unfold ackSum at h
  unfold Tld.upd
  split
  · exact ⟨h _ h0 (by omega), h1, h2, h3⟩
  · split
    · exact ⟨h0, h _ h1 (by omega), h2, h3⟩
    · split
      · exact ⟨h0, h1, h _ h2 (by omega), h3⟩
      · exact ⟨h0, h1, h2, h _ h3 (by omega)⟩
theorem i64_in {n : Int} (h0 : 0 ≤ n) (h1 : n < 9223372036854775808) : i64 n = n := by
  unfold i64
  simp only [IntKind.wrap, IntKind.bits, IntKind.signed]
  simp
  omega
structure Pot (k : AK) (M : Int) : Prop where
  nn : k.t.nn
  sum : ackSum k.t + sumB low1 k.L = M
theorem ack1_pot {low : Q4 (Option Nat)} {k : AK} {M : Int} (h : Pot k M) (hM : M ≤ 1000000000000) (i : Nat) : Pot (ack1 low k i) M := by
  unfold ack1
  split
  · exact h
  · rename_i r hr
    split
    · exact h
    · rename_i ha
      have hs := sumB_set low1 hr (setAck r)
      have e1 : low1 (setAck r) = false := by simp [low1, setAck]
      have e2 : low1 r = !r.gone := by simp [low1, ha]
      rw [e1, e2] at hs
      have hsum := h.sum
      obtain ⟨h0, h1, h2, h3⟩ := h.nn
      cases hg : r.gone with
      | true =>
        rw [hg] at hs
        simp at hs
        have hf : ∀ b q, (takeP r b q).acked = q.acked := fun b q => by simp [takeP, hg]
        refine ⟨upd_nn h.nn _ _ (fun q hq _ => by rw [hf]; exact hq), ?_⟩
        dsimp only
        rw [upd_sum _ _ _ 0 (fun q _ => by rw [hf]; omega), hs]
        omega
      | false =>
        rw [hg] at hs
        simp at hs
        have hf : ∀ b q, 0 ≤ q.acked → q.acked ≤ ackSum k.t → (takeP r b q).acked = q.acked + r.bs.length := fun b q hq1 hq2 => by
          simp only [takeP, hg, Bool.false_eq_true, if_false]
          have : ackSum k.t + (sumB low1 (k.L.set i (setAck r)) : Nat) + (r.bs.length : Nat) = M := by omega
          exact i64_in (by omega) (by omega)
        refine ⟨upd_nn h.nn _ _ (fun q hq hq2 => by rw [hf _ _ hq hq2]; omega), ?_⟩
        dsimp only
        rw [upd_sum _ _ _ r.bs.length (fun q hq => hf _ _ (by rcases hq with rfl | rfl | rfl | rfl <;> assumption) (by unfold ackSum; rcases hq with rfl | rfl | rfl | rfl <;> omega))]
        omega
theorem ackR_pot {low : Q4 (Option Nat)} {M : Int} (hM : M ≤ 1000000000000) (a : Nat) : ∀ (n : Nat) {k : AK}, Pot k M → Pot (ackR low k a n) M
  | 0, _, h => h
  | n + 1, k, h => by rw [ackR_succ]; exact ack1_pot (ackR_pot hM a n h) hM _
theorem ackAll_pot {low : Q4 (Option Nat)} {M : Int} (hM : M ≤ 1000000000000) : ∀ (sp : List (Nat × Nat)) {k : AK}, Pot k M → Pot (ackAll low k sp) M
  | [], _, h => h
  | g :: sp, _k, h => ackAll_pot hM sp (ackR_pot hM g.1 (g.2 - g.1) h)
theorem miss1_pot (high : Q4 Int) (x : List Rc × Tld) (i : Nat) : (miss1 high x i).1.map (kg low1) = x.1.map (kg low1) ∧ ackSum (miss1 high x i).2 = ackSum x.2 ∧ (x.2.nn → (miss1 high x i).2.nn) := by
  unfold miss1
  split
  · exact ⟨rfl, rfl, id⟩
  · rename_i r h
    split
    · refine ⟨set_map (kg low1) h (by unfold missR; split <;> rfl), ?_, fun hn => ?_⟩
      · dsimp only
        split
        · rw [upd_sum _ _ _ 0 (fun q _ => by simp [fastP])]; omega
        · rfl
      · dsimp only
        split
        · exact upd_nn hn _ _ (fun q hq _ => hq)
        · exact hn
    · exact ⟨rfl, rfl, id⟩
theorem missF_pot (high : Q4 Int) (x : List Rc × Tld) : ∀ n, ((List.range n).foldl (miss1 high) x).1.map (kg low1) = x.1.map (kg low1) ∧ ackSum ((List.range n).foldl (miss1 high) x).2 = ackSum x.2 ∧ (x.2.nn → ((List.range n).foldl (miss1 high) x).2.nn)
  | 0 => ⟨rfl, rfl, id⟩
  | n + 1 => by
    rw [miss_snoc]
    obtain ⟨h1, h2, h3⟩ := missF_pot high x n
    obtain ⟨k1, k2, k3⟩ := miss1_pot high ((List.range n).foldl (miss1 high) x) n
    exact ⟨k1.trans h1, k2.trans h2, fun h => k3 (h3 h)⟩
theorem sack_pot {s s' : S} {y : Int} {gs : List (Nat × Nat)} {t : Tld} (hM : sumB low1 s.L ≤ 1000000000000) (h : sack s y gs = some (s', t)) : t.nn ∧ ackSum t + sumB low1 s'.L ≤ sumB low1 s.L := by
  obtain ⟨sp, _, h1, h2⟩ := sack_some h
  have p0 : Pot ⟨s.L, Tld.zero, ⟨-1, -1, -1, -1⟩⟩ (sumB low1 s.L) := ⟨⟨Int.le_refl _, Int.le_refl _, Int.le_refl _, Int.le_refl _⟩, by simp [ackSum, Tld.zero, PT.zero]⟩
  have p1 := ackAll_pot (low := lowQ s.L) (by omega) sp p0
  obtain ⟨k1, k2, k3⟩ := missF_pot (ackAll (lowQ s.L) ⟨s.L, Tld.zero, ⟨-1, -1, -1, -1⟩⟩ sp).high ((ackAll (lowQ s.L) ⟨s.L, Tld.zero, ⟨-1, -1, -1, -1⟩⟩ sp).L, (ackAll (lowQ s.L) ⟨s.L, Tld.zero, ⟨-1, -1, -1, -1⟩⟩ sp).t) (ackAll (lowQ s.L) ⟨s.L, Tld.zero, ⟨-1, -1, -1, -1⟩⟩ sp).L.length
  rw [h1, h2]
  refine ⟨⟨(k3 p1.nn).a0, (k3 p1.nn).a1, (k3 p1.nn).a2, (k3 p1.nn).a3⟩, ?_⟩
  have hs := p1.sum
  have hd := sumB_drop low1 (missAll (ackAll (lowQ s.L) ⟨s.L, Tld.zero, ⟨-1, -1, -1, -1⟩⟩ sp).high ((ackAll (lowQ s.L) ⟨s.L, Tld.zero, ⟨-1, -1, -1, -1⟩⟩ sp).L, (ackAll (lowQ s.L) ⟨s.L, Tld.zero, ⟨-1, -1, -1, -1⟩⟩ sp).t)).1 (Spn.far s.c y)
  have e := sumB_kg (q := low1) k1
  unfold missAll at hd ⊢
  dsimp only at e hd ⊢
  have k2' : ackSum (List.foldl (miss1 (ackAll (lowQ s.L) ⟨s.L, Tld.zero, ⟨-1, -1, -1, -1⟩⟩ sp).high) ((ackAll (lowQ s.L) ⟨s.L, Tld.zero, ⟨-1, -1, -1, -1⟩⟩ sp).L, (ackAll (lowQ s.L) ⟨s.L, Tld.zero, ⟨-1, -1, -1, -1⟩⟩ sp).t) (List.range (ackAll (lowQ s.L) ⟨s.L, Tld.zero, ⟨-1, -1, -1, -1⟩⟩ sp).L.length)).2 = ackSum (ackAll (lowQ s.L) ⟨s.L, Tld.zero, ⟨-1, -1, -1, -1⟩⟩ sp).t := k2
  unfold ackSum at k2' hs ⊢
  dsimp only
  omega
/-- what is told to be acknowledged was not so ahead of that -/
theorem doS_pot (s : S) (o : FOp) (cum : Int) (hM : sumB low1 s.L ≤ 1000000000000) : (doA s o cum).t.nn ∧ ackSum (doA s o cum).t + sumB low1 (doS s o cum).L ≤ sumB low1 s.L + if o.kind = 0 ∧ (doA s o cum).e = 0 then o.d.bs.length else 0 := by
  have z : Tld.zero.nn := ⟨Int.le_refl _, Int.le_refl _, Int.le_refl _, Int.le_refl _⟩
  have za : ackSum Tld.zero = 0 := rfl
  unfold doS doA
  split
  · rename_i hk
    refine ⟨z, ?_⟩
    dsimp only [FAns.zero]
    rw [za]
    unfold add
    split
    · rename_i he
      dsimp only
      rw [sumB_append]
      simp [hk, he, sumB, newR, low1]
    · rename_i he
      simp [he]
  · rename_i hk
    have hk0 : ∀ e : Prop, ¬(o.kind = 0 ∧ e) := fun _ h => hk h.1
    simp only [hk0, if_false]
    split
    · refine ⟨z, ?_⟩
      dsimp only [FAns.zero]
      rw [za]
      unfold again
      split
      · simp
      · split
        · simp
        · split
          · simp
          · rename_i i _ r hr
            split
            · dsimp only
              rw [sumB_kg (set_map (kg low1) hr (r' := setAgain o.path o.now r) rfl)]
              simp
            · simp
    · split
      · split <;> exact ⟨z, by dsimp only [FAns.zero]; rw [za]; simp⟩
      · have hle : ∀ (q : Rc → Bool) (f : Rc → Rc), (∀ r, low1 (f r) = true → low1 r = true) → (∀ r, (f r).bs = r.bs) → ∀ L, sumB low1 (sel q f L) ≤ sumB low1 L := fun q f h1 h2 L => by
          induction L with
          | nil => exact Nat.le_refl _
          | cons r L ih =>
            have e1 : sel q f (r :: L) = [if q r then f r else r] ++ sel q f L := rfl
            have e2 : r :: L = [r] ++ L := rfl
            rw [e1, e2, sumB_append, sumB_append]
            have : sumB low1 [if q r then f r else r] ≤ sumB low1 [r] := by
              cases q r with
              | false => exact Nat.le_refl _
              | true =>
                simp only [if_true]
                unfold sumB
                have h1' := h1 r
                cases hf : low1 (f r) with
                | false => simp [hf]
                | true => simp [hf, h1' hf, h2 r]
            omega
        split
        · refine ⟨z, ?_⟩
          dsimp only [FAns.zero]
          rw [za]
          have := hle (byP o.path) setLost (fun _ h => h) (fun _ => rfl) s.L
          show 0 + ((sumB low1 (sel (byP o.path) setLost s.L) : Nat) : Int) ≤ _
          omega
        · split
          · refine ⟨z, ?_⟩
            dsimp only [FAns.zero]
            rw [za]
            have := hle (ofId o.id) setGone (fun r h => by simp [low1, setGone] at h) (fun _ => rfl) s.L
            show 0 + ((sumB low1 (sel (ofId o.id) setGone s.L) : Nat) : Int) ≤ _
            omega
          · split
            · cases hs : sack s (Spn.u32 (cum + o.by_)) o.gaps with
              | none => exact ⟨z, by dsimp only [FAns.zero]; rw [za]; simp⟩
              | some x =>
                obtain ⟨s', t⟩ := x
                have := sack_pot hM hs
                exact ⟨this.1, by have := this.2; dsimp only; omega⟩
            · exact ⟨z, by dsimp only [FAns.zero]; rw [za]; simp⟩
/-- what is under way by paths is all that is under way -/
theorem out_sum {s : S} (h : Good s) : out s 0 + out s 1 + out s 2 + out s 3 = sumB away s.L := by
  have hp : ∀ r ∈ s.L, r.path = 0 ∨ r.path = 1 ∨ r.path = 2 ∨ r.path = 3 := fun r hr => by
    obtain ⟨i, hi⟩ := List.getElem?_of_mem hr
    have := h.path i r hi
    have := h.paths
    omega
  unfold out
  generalize s.L = L at hp
  induction L with
  | nil => rfl
  | cons r L ih =>
    have e2 : r :: L = [r] ++ L := rfl
    have hq := ih (fun q hq => hp q (by simp [hq]))
    rw [e2]
    simp only [sumB_append]
    have : sumB (byP 0) [r] + sumB (byP 1) [r] + sumB (byP 2) [r] + sumB (byP 3) [r] = sumB away [r] := by
      unfold sumB byP
      cases ha : away r with
      | false => simp [ha]
      | true => rcases hp r (by simp) with h | h | h | h <;> simp [h, ha]
    omega
/-- how many, and up to where -/
theorem doS_len {s : S} (h : Good s) (o : FOp) (cum : Int) : ∃ n : Nat, (doS s o cum).c = Spn.u32 (s.c + n) ∧ n + (doS s o cum).L.length = s.L.length + (if o.kind = 0 ∧ (doA s o cum).e = 0 then 1 else 0) := by
  have hc : s.c = Spn.u32 (s.c + (0 : Nat)) := by have := h.c; rw [Spn.u32_eq]; omega
  unfold doS doA
  split
  · rename_i hk
    refine ⟨0, ?_, ?_⟩
    · rw [show (add s o.d o.path o.now o.id).c = s.c by unfold add; split <;> rfl]; exact hc
    · unfold add
      dsimp only [FAns.zero]
      split
      · rename_i he
        simp [hk, he]
      · rename_i he
        simp [he]
  · rename_i hk
    have hk0 : ∀ e : Prop, ¬(o.kind = 0 ∧ e) := fun _ h => hk h.1
    simp only [hk0, if_false]
    split
    · refine ⟨0, ?_, ?_⟩
      · rw [show (again s (Spn.u32 (cum + o.by_)) o.path o.now).1.c = s.c by unfold again; split <;> (try rfl); split <;> (try rfl); split <;> (try rfl); split <;> rfl]; exact hc
      · have := congrArg List.length (again_k s (Spn.u32 (cum + o.by_)) o.path o.now)
        simp at this
        omega
    · split
      · exact ⟨0, hc, by omega⟩
      · split
        · exact ⟨0, hc, by simp [mark, sel]⟩
        · split
          · exact ⟨0, hc, by simp [abandon, sel]⟩
          · split
            · cases hs : sack s (Spn.u32 (cum + o.by_)) o.gaps with
              | none => exact ⟨0, hc, by simp⟩
              | some x =>
                obtain ⟨s', t⟩ := x
                obtain ⟨M, hM, rfl, _⟩ := sack_L hs
                obtain ⟨sp, h1, _⟩ := sack_some hs
                obtain ⟨_, h2, _⟩ := span_ok h1
                have hl := congrArg List.length hM
                simp at hl
                refine ⟨Spn.far s.c (Spn.u32 (cum + o.by_)), ?_, ?_⟩
                · have := Spn.far_int s.c (Spn.u32 (cum + o.by_))
                  have := h.c
                  dsimp only
                  simp only [Spn.u32_eq] at *
                  omega
                · simp
                  omega
            · exact ⟨0, hc, by simp⟩
end Go.Flt
