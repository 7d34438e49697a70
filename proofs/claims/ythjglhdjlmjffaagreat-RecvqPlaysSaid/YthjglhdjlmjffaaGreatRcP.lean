/- The receiver in plain Lean: what came, what is to be told of it, what is held. No conditions: definitions and laws. -/
import Derived.Test.YthjglhdjlmjffaaGreatBa
import Derived.Test.YthjglhdjlmjffaaGreatDeA
namespace Go.Rm
open Go

theorem totD_sub {L L' : List D} (h : L'.Sublist L) : totD L' ≤ totD L := by
  unfold totD
  induction h with
  | slnil => exact Nat.le_refl _
  | cons a _ ih => simp; omega
  | cons_cons a _ ih => simp; omega
theorem wait_good {s : S} {st : Int} (hg : good s.L) : (wait s st).L.Sublist s.L ∧ totD (wait s st).L + totM (wait s st).row = totD s.L + totM s.row := by
  unfold wait
  split
  · exact ⟨.refl _, rfl⟩
  · rename_i f l hc
    obtain ⟨d, hd, hw, _⟩ := cand_mem hc
    exact ⟨ready_sub (row := s.row), ready_tot hg hd hw⟩
theorem upto_good : ∀ (n : Nat) (s : S) (st e : Int), good s.L → (upto n s st e).L.Sublist s.L ∧ totD (upto n s st e).L + totM (upto n s st e).row = totD s.L + totM s.row
  | 0, _, _, _, _ => ⟨.refl _, rfl⟩
  | n + 1, s, st, e, hg => by
    rw [upto]
    split
    · exact ⟨.refl _, rfl⟩
    · have h1 := wait_good (st := st) hg
      have h2 := upto_good n { wait s st with nx := (wait s st).nx.set st.toNat (u16 (s.nx.getD st.toNat 0 + 1)) } st e (hg.sub h1.1)
      exact ⟨h2.1.trans h1.1, h2.2.trans h1.2⟩
theorem onNs_sub : ∀ (n : Nat) (s : S) (st : Int), (onN n s st).L.Sublist s.L
  | 0, _, _ => .refl _
  | n + 1, s, st => by
    rw [onN]
    split
    · exact .refl _
    · exact (onNs_sub n _ st).trans (ready_sub (row := s.row))
theorem ons_sub (s : S) (st : Int) : (on s st).L.Sublist s.L := onNs_sub _ _ _
theorem skip1_good {s : S} (st to : Int) (hg : good s.L) : (skip1 s st to).L.Sublist s.L ∧ totD (skip1 s st to).L + totM (skip1 s st to).row ≤ totD s.L + totM s.row := by
  unfold skip1
  split
  · exact ⟨.refl _, Nat.le_refl _⟩
  · dsimp only
    generalize hq : upto _ s st _ = q
    have h1 : q.L.Sublist s.L ∧ totD q.L + totM q.row = totD s.L + totM s.row := by rw [← hq]; exact upto_good _ _ _ _ hg
    have h2 : (q.L.filter (fun d => !doomS st (q.nx.getD st.toNat 0) d)).Sublist q.L := List.filter_sublist
    have h3 := on_tot (s := ⟨q.L.filter (fun d => !doomS st (q.nx.getD st.toNat 0) d), q.row, q.nx⟩) (st := st) (hg.sub (h2.trans h1.1))
    have h4 := totD_sub h2
    refine ⟨(ons_sub _ _).trans (h2.trans h1.1), ?_⟩
    rw [h3]
    dsimp only
    omega
theorem skips_good : ∀ (l : List Sk) (s : S), good s.L → (l.foldl (fun s k => skip1 s k.st k.n) s).L.Sublist s.L ∧ totD (l.foldl (fun s k => skip1 s k.st k.n) s).L + totM (l.foldl (fun s k => skip1 s k.st k.n) s).row ≤ totD s.L + totM s.row
  | [], _, _ => ⟨.refl _, Nat.le_refl _⟩
  | k :: l, s, hg => by
    have h1 := skip1_good k.st k.n hg
    have h2 := skips_good l (skip1 s k.st k.n) (hg.sub h1.1)
    exact ⟨h2.1.trans h1.1, Nat.le_trans h2.2 h1.2⟩
theorem skip_good {s : S} (cum : Int) (l : List Sk) (hg : good s.L) : (skip s cum l).L.Sublist s.L ∧ totD (skip s cum l).L + totM (skip s cum l).row ≤ totD s.L + totM s.row := by
  unfold skip
  split
  · have h1 : (parts s cum).L.Sublist s.L := List.filter_sublist
    have h2 := skips_good l (parts s cum) (hg.sub h1)
    have h3 := totD_sub h1
    have h4 : (parts s cum).row = s.row := rfl
    refine ⟨h2.1.trans h1, ?_⟩
    rw [h4] at h2
    omega
  · exact ⟨.refl _, Nat.le_refl _⟩
end Go.Rm
namespace Go.Rcv
open Go

structure S where
  m : Spn.S
  ds : List Int
  d : Del.S
  w : Rm.S
  room : Int
  most : Int
  came : Bool
  urg : Bool
def held (s : S) : Nat := Rm.totD s.w.L + Rm.totM s.w.row
def holes (m : Spn.S) : Bool := decide (0 < Spn.count m)
def full (s : S) (p : Rm.D) : Bool := decide ((held s : Int) + p.bytes.length > s.room)
/-- what is told of a piece that comes -/
def dataA (s : S) (p : Rm.D) : Bool × Int :=
  if p.bytes = [] then (false, 5) else if Spn.look s.m p.tsn = 1 ∨ Spn.look s.m p.tsn = 2 then (false, 0) else if full s p then (false, 6) else (true, Rm.putE s.w p)
def data (s : S) (p : Rm.D) : S :=
  if p.bytes = [] then { s with came := true }
  else if Spn.look s.m p.tsn = 1 then { s with ds := Spn.takeD s.m s.ds p.tsn, came := true, urg := true }
  else if Spn.look s.m p.tsn = 2 then { s with came := true }
  else if full s p then { s with came := true, urg := true }
  else { s with m := Spn.takeS s.m p.tsn, w := Rm.put s.w p, came := true, urg := s.urg || holes s.m || holes (Spn.takeS s.m p.tsn) }
def inWin (s : S) (cum : Int) : Bool := Spn.inW (Spn.far s.m.b cum)
def forward (s : S) (cum : Int) (l : List Rm.Sk) : S :=
  if inWin s cum then { s with m := Spn.move s.m cum, w := Rm.skip s.w cum l, came := true, urg := true } else { s with came := true, urg := true }
def fin (s : S) (now : Int) : S := { s with d := if s.came then Del.packet s.d now s.urg else s.d, came := false, urg := false }
def sGaps (s : S) : List (Nat × Nat) := Spn.gaps s.m s.most
def sDups (s : S) : List Int := s.ds.take (s.most - (sGaps s).length).toNat
def sRoom (s : S) : Int := Rm.u32 (s.room - held s)
def sack (s : S) : S := { s with ds := [], d := Del.sent s.d }
def take (s : S) : S := { s with w := (Rm.take s.w).2 }

theorem take_held (s : S) : held (take s) ≤ held s := by
  unfold held take Rm.take
  dsimp only
  split
  · exact Nat.le_refl _
  · rename_i m r h
    dsimp only
    rw [h]
    simp [Rm.totM]
theorem fwd_held {s : S} (cum : Int) (l : List Rm.Sk) (hg : Rm.good s.w.L) : held (forward s cum l) ≤ held s := by
  unfold forward
  split
  · exact (Rm.skip_good cum l hg).2
  · exact Nat.le_refl _
theorem data_held {s : S} {p : Rm.D} (hg : Rm.good s.w.L) (hd : 0 ≤ p.tsn ∧ p.tsn < 4294967296) (hf : s.w.L.length + 1 < 2147483000) :
    held (data s p) = held s + (if dataA s p = (true, 0) then p.bytes.length else 0) ∧ ((dataA s p).1 = true → (held s : Int) + p.bytes.length ≤ s.room) ∧ ((dataA s p).2 = 6 → (dataA s p).1 = false ∧ s.room < (held s : Int) + p.bytes.length) := by
  by_cases h1 : p.bytes = []
  · have e : dataA s p = (false, 5) := by unfold dataA; rw [if_pos h1]
    have e2 : held (data s p) = held s := by unfold data; rw [if_pos h1]; rfl
    rw [e, e2]
    exact ⟨by simp, fun h => (by cases h), fun h => (by simp at h)⟩
  by_cases h2 : Spn.look s.m p.tsn = 1
  · have e : dataA s p = (false, 0) := by unfold dataA; rw [if_neg h1, if_pos (.inl h2)]
    have e2 : held (data s p) = held s := by unfold data; rw [if_neg h1, if_pos h2]; rfl
    rw [e, e2]
    exact ⟨by simp, fun h => (by cases h), fun h => (by simp at h)⟩
  by_cases h3 : Spn.look s.m p.tsn = 2
  · have e : dataA s p = (false, 0) := by unfold dataA; rw [if_neg h1, if_pos (.inr h3)]
    have e2 : held (data s p) = held s := by unfold data; rw [if_neg h1, if_neg h2, if_pos h3]; rfl
    rw [e, e2]
    exact ⟨by simp, fun h => (by cases h), fun h => (by simp at h)⟩
  have h23 : ¬ (Spn.look s.m p.tsn = 1 ∨ Spn.look s.m p.tsn = 2) := by rintro (h | h); exact h2 h; exact h3 h
  by_cases h4 : full s p = true
  · have e : dataA s p = (false, 6) := by unfold dataA; rw [if_neg h1, if_neg h23, if_pos h4]
    have e2 : held (data s p) = held s := by unfold data; rw [if_neg h1, if_neg h2, if_neg h3, if_pos h4]; rfl
    rw [e, e2]
    exact ⟨by simp, fun h => (by cases h), fun _ => ⟨rfl, by have := of_decide_eq_true h4; omega⟩⟩
  · have h4' : full s p = false := by simpa using h4
    have e : dataA s p = (true, Rm.putE s.w p) := by unfold dataA; rw [if_neg h1, if_neg h23, if_neg h4]
    have e2 : held (data s p) = Rm.totD (Rm.put s.w p).L + Rm.totM (Rm.put s.w p).row := by unfold data; rw [if_neg h1, if_neg h2, if_neg h3, if_neg h4]; rfl
    rw [e, e2, Rm.put_tot hg hd hf]
    refine ⟨by simp [held], fun _ => ?_, fun h => ?_⟩
    · have := of_decide_eq_false h4'; omega
    · exfalso
      dsimp only at h
      unfold Rm.putE at h
      split at h
      · omega
      split at h
      · omega
      split at h
      · omega
      · omega
theorem sGaps_le (s : S) : (sGaps s).length ≤ s.most.toNat := by
  unfold sGaps
  rw [Spn.gaps_take, List.length_take]
  exact Nat.min_le_left _ _
end Go.Rcv
