/- When an acknowledgement is due: the program's delay, walked. Conditions: what its cells are. -/
import Derived.Test.YthjglhdjlmjffaaGreatTy
import Derived.Test.YthjglhdjlmjffaaGreatDeA
import Derived.Test.YthjglhdjlmjffaaGreatBc
namespace Go.Proofs.YthjglhdjlmjffaaGreat
open Go Go.Sl

structure DeM where
  R : Nat
  s : Del.S
def DeM.cells (d : DeM) : List Value := [.int .i64 d.s.ticks, .int .i64 d.s.many, .int .i64 d.s.first, .bool d.s.urgent]
def DeM.H (d : DeM) : HL := [(d.R, .cells d.cells.toArray 102 (0, 0))]
def DeM.p (d : DeM) : Value := .pointer (some ⟨d.R, 0, none⟩)
theorem dnew_tr (F : Nat → Option Obj) (t : Int) : Tr Tryz.prog 28 [.int .i64 t].toArray F [] (fun v H =>
    (¬ (0 ≤ t ∧ t ≤ 1048576) ∧ v = tup [.pointer none, .int .i64 1] ∧ H = []) ∨ ((0 ≤ t ∧ t ≤ 1048576) ∧ ∃ b, v = tup [.pointer (some ⟨b, 0, none⟩), .int .i64 0] ∧ H = DeM.H ⟨b, ⟨t, 0, 0, false⟩⟩)) := by
  refine Tr.enter Tryz.func28 rfl Tryz.ntmps28 rfl (fun w0 => ?_)
  repeat' (first | refine S1 ?_ | refine SD ?_ | refine SA (fun _ => ?_) | refine WL.g_split rfl rfl (fun hc => ?_) (fun hc => ?_) | refine WD.g_split rfl rfl (fun hc => ?_) (fun hc => ?_) | refine W.cond rfl (fun hc => ?_) (fun hc => ?_))
  · exact Fin.retW (by exact rfl) resA (fun _ h => h) (.inl ⟨fun h => by have := of_decide_eq_true hc; omega, rfl, rfl⟩)
  · exact Fin.retW (by exact rfl) resA (fun _ h => h) (.inl ⟨fun h => by have := of_decide_eq_true hc; omega, rfl, rfl⟩)
  · rename_i h1 b
    have h1 := of_decide_eq_false h1
    have h2 := of_decide_eq_false hc
    exact Fin.retW (by exact rfl) resA (fun _ h => h) (.inr ⟨by omega, b, rfl, rfl⟩)
theorem packet_tr (F : Nat → Option Obj) (d : DeM) (hd : Del.Ok d.s) (now : Int) (u : Bool) : Tr Tryz.prog 54 [.pointer (some ⟨d.R, 0, none⟩), .int .i64 now, .bool u].toArray F d.H (fun v H => v = .tuple #[] ∧ H = DeM.H ⟨d.R, Del.packet d.s now u⟩) := by
  refine Tr.enter Tryz.func54 rfl Tryz.ntmps54 rfl (fun w0 => ?_)
  obtain ⟨R, t, m, f, g⟩ := d
  have hm := hd.m
  dsimp only at hm
  have hm1 : IntKind.i64.wrap (m + 1) = m + 1 := i64_id (by omega) (by omega)
  unfold DeM.H DeM.cells Del.packet
  dsimp only
  repeat' (first | refine S1 ?_ | refine SD ?_ | refine SA (fun _ => ?_) | refine WL.g_split rfl rfl (fun hc => ?_) (fun hc => ?_) | refine WD.g_split rfl rfl (fun hc => ?_) (fun hc => ?_) | refine W.cond rfl (fun hc => ?_) (fun hc => ?_))
  · refine WL.p rfl (Pu.max2 rfl rfl) ?_
    rw [show (if 2305843009213693952 < now then 2305843009213693952 else now) = Del.low now from rfl, show (if Del.low now > 0 then Del.low now else 0) = Del.clamp now from rfl]
    repeat' (first | refine S1 ?_ | refine SD ?_ | refine SA (fun _ => ?_) | refine WL.g_split rfl rfl (fun hc => ?_) (fun hc => ?_) | refine WD.g_split rfl rfl (fun hc => ?_) (fun hc => ?_) | refine W.cond rfl (fun hc => ?_) (fun hc => ?_))
    all_goals rw [hm1]
    all_goals rw [if_pos (show m = 0 by simpa using ‹(m == 0) = true›)]
    · refine Fin.endW (by exact rfl) resA (fun _ h => h) ⟨rfl, ?_⟩
      rw [show g = true by assumption, Bool.true_or]
    · refine Fin.endW (by exact rfl) resA (fun _ h => h) ⟨rfl, ?_⟩
      rw [show g = false by assumption, Bool.false_or]
  all_goals rw [hm1]
  all_goals rw [if_neg (show ¬ m = 0 by simpa using ‹(m == 0) = false›)]
  · refine Fin.endW (by exact rfl) resA (fun _ h => h) ⟨rfl, ?_⟩
    rw [show g = true by assumption, Bool.true_or]
  · refine Fin.endW (by exact rfl) resA (fun _ h => h) ⟨rfl, ?_⟩
    rw [show g = false by assumption, Bool.false_or]
theorem dsent_tr (F : Nat → Option Obj) (d : DeM) : Tr Tryz.prog 56 [.pointer (some ⟨d.R, 0, none⟩)].toArray F d.H (fun v H => v = .tuple #[] ∧ H = DeM.H ⟨d.R, Del.sent d.s⟩) := by
  refine Tr.enter Tryz.func56 rfl Tryz.ntmps56 rfl (fun w0 => ?_)
  obtain ⟨R, t, m, f, g⟩ := d
  unfold DeM.H DeM.cells
  dsimp only
  repeat' (first | refine S1 ?_ | refine SD ?_ | refine SA (fun _ => ?_) | refine WL.g_split rfl rfl (fun hc => ?_) (fun hc => ?_) | refine WD.g_split rfl rfl (fun hc => ?_) (fun hc => ?_) | refine W.cond rfl (fun hc => ?_) (fun hc => ?_))
  exact Fin.endW (by exact rfl) resA (fun _ h => h) ⟨rfl, rfl⟩
def rowP (d : DeM) (b : Nat) : Nat × Obj := (b, .cells [.pointer (some ⟨d.R, 0, none⟩)].toArray 72 (0, 0))
def rowN (now : Int) (b : Nat) : Nat × Obj := (b, .cells [.int .i64 now].toArray 2 (0, 0))
theorem due1_tr (F : Nat → Option Obj) (d : DeM) (b : Nat) : Tr Tryz.prog 73 [.pointer (some ⟨b, 0, none⟩)].toArray F (rowP d b :: d.H) (fun v H => v = .bool d.s.urgent ∧ H = rowP d b :: d.H) := by
  refine Tr.enter Tryz.func73 rfl Tryz.ntmps73 rfl (fun w0 => ?_)
  unfold rowP
  repeat' (first | refine S1 ?_ | refine SD ?_ | refine SA (fun _ => ?_) | refine WL.g_split rfl rfl (fun hc => ?_) (fun hc => ?_) | refine WD.g_split rfl rfl (fun hc => ?_) (fun hc => ?_) | refine W.cond rfl (fun hc => ?_) (fun hc => ?_))
  exact Fin.retW (by exact rfl) resA (fun _ h => h) ⟨rfl, rfl⟩
theorem due2_tr (F : Nat → Option Obj) (d : DeM) (b : Nat) : Tr Tryz.prog 74 [.pointer (some ⟨b, 0, none⟩)].toArray F (rowP d b :: d.H) (fun v H => v = .bool (decide (1 < d.s.many)) ∧ H = rowP d b :: d.H) := by
  refine Tr.enter Tryz.func74 rfl Tryz.ntmps74 rfl (fun w0 => ?_)
  unfold rowP
  repeat' (first | refine S1 ?_ | refine SD ?_ | refine SA (fun _ => ?_) | refine WL.g_split rfl rfl (fun hc => ?_) (fun hc => ?_) | refine WD.g_split rfl rfl (fun hc => ?_) (fun hc => ?_) | refine W.cond rfl (fun hc => ?_) (fun hc => ?_))
  exact Fin.retW (by exact rfl) resA (fun _ h => h) ⟨rfl, rfl⟩
theorem due3_tr (F : Nat → Option Obj) (d : DeM) (hd : Del.Ok d.s) (b c : Nat) (now : Int) : Tr Tryz.prog 75 [.pointer (some ⟨c, 0, none⟩), .pointer (some ⟨b, 0, none⟩)].toArray F (rowN now c :: rowP d b :: d.H) (fun v H => v = .bool (decide (d.s.first + d.s.ticks ≤ now)) ∧ H = rowN now c :: rowP d b :: d.H) := by
  refine Tr.enter Tryz.func75 rfl Tryz.ntmps75 rfl (fun w0 => ?_)
  have h1 := hd.f
  have h2 := hd.t
  unfold rowP rowN
  repeat' (first | refine S1 ?_ | refine SD ?_ | refine SA (fun _ => ?_) | refine WL.g_split rfl rfl (fun hc => ?_) (fun hc => ?_) | refine WD.g_split rfl rfl (fun hc => ?_) (fun hc => ?_) | refine W.cond rfl (fun hc => ?_) (fun hc => ?_))
  rw [i64_id (n := d.s.first + d.s.ticks) (by omega) (by omega)]
  exact Fin.retW (by exact rfl) resA (fun _ h => h) ⟨rfl, rfl⟩
set_option maxHeartbeats 4000000 in
theorem due_tr (F : Nat → Option Obj) (d : DeM) (hd : Del.Ok d.s) (now : Int) : Tr Tryz.prog 48 [.pointer (some ⟨d.R, 0, none⟩), .int .i64 now].toArray F d.H (fun v H => v = .bool (Del.due d.s now) ∧ H = d.H) := by
  refine Tr.enter Tryz.func48 rfl Tryz.ntmps48 rfl (fun w0 => ?_)
  have hdue : Del.due d.s now = (decide (d.s.many ≠ 0) && (d.s.urgent || decide (1 < d.s.many) || decide (d.s.first + d.s.ticks ≤ now))) := rfl
  obtain ⟨D, hD⟩ : ∃ D, Del.due d.s now = D := ⟨_, rfl⟩
  rw [hD] at hdue ⊢
  repeat' (first | refine S1 ?_ | refine SD ?_ | refine SA (fun _ => ?_) | refine WL.g_split rfl rfl (fun hc => ?_) (fun hc => ?_) | refine WD.g_split rfl rfl (fun hc => ?_) (fun hc => ?_) | refine W.cond rfl (fun hc => ?_) (fun hc => ?_))
  · refine Fin.retW (by exact rfl) resA (H' := d.H) (fun _ h => h.sublist (.cons _ (.cons _ (.refl _)))) ⟨?_, rfl⟩
    rw [hdue, decide_eq_false (by simpa using hc)]
    rfl
  have hm0 : decide (d.s.many ≠ 0) = true := by simpa using hc
  rw [hm0, Bool.true_and] at hdue
  rename_i b2 b3
  refine WL.e rfl (Ef.bsN (by exact rfl) (by exact rfl) (by exact rfl) (by exact rfl) rfl (by exact rfl)) ?_
  rintro _ _ ⟨b5, rfl, rfl⟩
  repeat' (first | refine S1 ?_ | refine SD ?_ | refine SA (fun _ => ?_) | refine WL.g_split rfl rfl (fun hc => ?_) (fun hc => ?_) | refine WD.g_split rfl rfl (fun hc => ?_) (fun hc => ?_) | refine W.cond rfl (fun hc => ?_) (fun hc => ?_))
  refine W.loop (G := Nat) (fun i => [(21, .slice (some ⟨b5, 0, none⟩) 3 3), (22, .int .i64 3), (23, .int .i64 i)])
    (fun _ => (b5, .cells [.func (.func 73) #[] #[.pointer (some ⟨b2, 0, none⟩)], .func (.func 74) #[] #[.pointer (some ⟨b2, 0, none⟩)], .func (.func 75) #[] #[.pointer (some ⟨b3, 0, none⟩), .pointer (some ⟨b2, 0, none⟩)]].toArray 27 (0, 0)) :: rowN now b3 :: rowP d b2 :: d.H)
    (fun i => i ≤ 3 ∧ (0 < i → d.s.urgent = false) ∧ (1 < i → decide (1 < d.s.many) = false) ∧ (2 < i → decide (d.s.first + d.s.ticks ≤ now) = false)) (fun i => 3 - i) 0 (by simp) envA (fun _ h => h) ?_
  rintro i ⟨hi, h0, h1, h2⟩
  have hq : i = 0 ∨ i = 1 ∨ i = 2 ∨ i = 3 := by omega
  rcases hq with rfl | rfl | rfl | rfl
  · repeat' (first | refine S1 ?_ | refine SD ?_ | refine SA (fun _ => ?_) | refine WL.g_split rfl rfl (fun hc => ?_) (fun hc => ?_) | refine WD.g_split rfl rfl (fun hc => ?_) (fun hc => ?_) | refine W.cond rfl (fun hc => ?_) (fun hc => ?_))
    refine WL.p rfl (Pu.ia rfl rfl (by decide)) ?_
    repeat' (first | refine S1 ?_ | refine SD ?_ | refine SA (fun _ => ?_) | refine WL.g_split rfl rfl (fun hc => ?_) (fun hc => ?_) | refine WD.g_split rfl rfl (fun hc => ?_) (fun hc => ?_) | refine W.cond rfl (fun hc => ?_) (fun hc => ?_))
    refine WL.e rfl (Ef.callVR (fv := []) (cv := [.pointer (some ⟨b2, 0, none⟩)]) (vals := []) (c := rowP d b2 :: d.H) rfl (by exact rfl) rfl (.pick (.there (.there .here)) (.last (.there (.there .all)))) (due1_tr _ d b2)) ?_
    rintro _ _ ⟨rfl, rfl⟩
    repeat' (first | refine S1 ?_ | refine SD ?_ | refine SA (fun _ => ?_) | refine WL.g_split rfl rfl (fun hc => ?_) (fun hc => ?_) | refine WD.g_split rfl rfl (fun hc => ?_) (fun hc => ?_) | refine W.cond rfl (fun hc => ?_) (fun hc => ?_))
    ·
      refine Fin.retW (by exact rfl) resA (H' := d.H) (fun _ h => h.sublist (.cons _ (.cons _ (.cons _ (.refl _))))) ⟨?_, rfl⟩
      rw [hdue, hc, Bool.true_or, Bool.true_or]
      rfl
    · exact Fin.round 1 ⟨by decide, fun _ => hc, fun h => absurd h (by decide), fun h => absurd h (by decide)⟩ envA (fun _ h => h) (by decide)
  · have g0 := h0 (by decide)
    repeat' (first | refine S1 ?_ | refine SD ?_ | refine SA (fun _ => ?_) | refine WL.g_split rfl rfl (fun hc => ?_) (fun hc => ?_) | refine WD.g_split rfl rfl (fun hc => ?_) (fun hc => ?_) | refine W.cond rfl (fun hc => ?_) (fun hc => ?_))
    refine WL.p rfl (Pu.ia rfl rfl (by decide)) ?_
    repeat' (first | refine S1 ?_ | refine SD ?_ | refine SA (fun _ => ?_) | refine WL.g_split rfl rfl (fun hc => ?_) (fun hc => ?_) | refine WD.g_split rfl rfl (fun hc => ?_) (fun hc => ?_) | refine W.cond rfl (fun hc => ?_) (fun hc => ?_))
    refine WL.e rfl (Ef.callVR (fv := []) (cv := [.pointer (some ⟨b2, 0, none⟩)]) (vals := []) (c := rowP d b2 :: d.H) rfl (by exact rfl) rfl (.pick (.there (.there .here)) (.last (.there (.there .all)))) (due2_tr _ d b2)) ?_
    rintro _ _ ⟨rfl, rfl⟩
    repeat' (first | refine S1 ?_ | refine SD ?_ | refine SA (fun _ => ?_) | refine WL.g_split rfl rfl (fun hc => ?_) (fun hc => ?_) | refine WD.g_split rfl rfl (fun hc => ?_) (fun hc => ?_) | refine W.cond rfl (fun hc => ?_) (fun hc => ?_))
    ·
      refine Fin.retW (by exact rfl) resA (H' := d.H) (fun _ h => h.sublist (.cons _ (.cons _ (.cons _ (.refl _))))) ⟨?_, rfl⟩
      rw [hdue, hc, Bool.or_true, Bool.true_or]
      rfl
    · exact Fin.round 2 ⟨by decide, fun _ => g0, fun _ => hc, fun h => absurd h (by decide)⟩ envA (fun _ h => h) (by decide)
  · have g0 := h0 (by decide)
    have g1 := h1 (by decide)
    repeat' (first | refine S1 ?_ | refine SD ?_ | refine SA (fun _ => ?_) | refine WL.g_split rfl rfl (fun hc => ?_) (fun hc => ?_) | refine WD.g_split rfl rfl (fun hc => ?_) (fun hc => ?_) | refine W.cond rfl (fun hc => ?_) (fun hc => ?_))
    refine WL.p rfl (Pu.ia rfl rfl (by decide)) ?_
    repeat' (first | refine S1 ?_ | refine SD ?_ | refine SA (fun _ => ?_) | refine WL.g_split rfl rfl (fun hc => ?_) (fun hc => ?_) | refine WD.g_split rfl rfl (fun hc => ?_) (fun hc => ?_) | refine W.cond rfl (fun hc => ?_) (fun hc => ?_))
    refine WL.e rfl (Ef.callVR (fv := []) (cv := [.pointer (some ⟨b3, 0, none⟩), .pointer (some ⟨b2, 0, none⟩)]) (vals := []) (c := rowN now b3 :: rowP d b2 :: d.H) rfl (by exact rfl) rfl (.last (.there .all)) (due3_tr _ d hd b2 b3 now)) ?_
    rintro _ _ ⟨rfl, rfl⟩
    repeat' (first | refine S1 ?_ | refine SD ?_ | refine SA (fun _ => ?_) | refine WL.g_split rfl rfl (fun hc => ?_) (fun hc => ?_) | refine WD.g_split rfl rfl (fun hc => ?_) (fun hc => ?_) | refine W.cond rfl (fun hc => ?_) (fun hc => ?_))
    ·
      refine Fin.retW (by exact rfl) resA (H' := d.H) (fun _ h => h.sublist (.cons _ (.cons _ (.cons _ (.refl _))))) ⟨?_, rfl⟩
      rw [hdue, hc, Bool.or_true]
      rfl
    · exact Fin.round 3 ⟨by decide, fun _ => g0, fun _ => g1, fun _ => hc⟩ envA (fun _ h => h) (by decide)
  · have g0 := h0 (by decide)
    have g1 := h1 (by decide)
    have g2 := h2 (by decide)
    repeat' (first | refine S1 ?_ | refine SD ?_ | refine SA (fun _ => ?_) | refine WL.g_split rfl rfl (fun hc => ?_) (fun hc => ?_) | refine WD.g_split rfl rfl (fun hc => ?_) (fun hc => ?_) | refine W.cond rfl (fun hc => ?_) (fun hc => ?_))
    refine Fin.retW (by exact rfl) resA (H' := d.H) (fun _ h => h.sublist (.cons _ (.cons _ (.cons _ (.refl _))))) ⟨?_, rfl⟩
    rw [hdue, g0, g1, g2]
    rfl
theorem when_tr (F : Nat → Option Obj) (d : DeM) (hd : Del.Ok d.s) : Tr Tryz.prog 41 [.pointer (some ⟨d.R, 0, none⟩)].toArray F d.H (fun v H => v = tup [.int .i64 (Del.dueAt d.s).1, .bool (Del.dueAt d.s).2] ∧ H = d.H) := by
  refine Tr.enter Tryz.func41 rfl Tryz.ntmps41 rfl (fun w0 => ?_)
  have h1 := hd.f
  have h2 := hd.t
  repeat' (first | refine S1 ?_ | refine SD ?_ | refine SA (fun _ => ?_) | refine WL.g_split rfl rfl (fun hc => ?_) (fun hc => ?_) | refine WD.g_split rfl rfl (fun hc => ?_) (fun hc => ?_) | refine W.cond rfl (fun hc => ?_) (fun hc => ?_))
  · refine Fin.retW (by exact rfl) resA (H' := d.H) (fun _ h => h) ⟨?_, rfl⟩
    unfold Del.dueAt
    rw [if_pos (show d.s.many = 0 by simpa using hc)]
  have hm : ¬ d.s.many = 0 := by simpa using hc
  refine WL.e rfl (Ef.callR (c := d.H) (by exact rfl) (.all _) (due_tr _ d hd d.s.first)) ?_
  rintro _ _ ⟨rfl, rfl⟩
  repeat' (first | refine S1 ?_ | refine SD ?_ | refine SA (fun _ => ?_) | refine WL.g_split rfl rfl (fun hc => ?_) (fun hc => ?_) | refine WD.g_split rfl rfl (fun hc => ?_) (fun hc => ?_) | refine W.cond rfl (fun hc => ?_) (fun hc => ?_))
  · refine Fin.retW (by exact rfl) resA (H' := d.H) (fun _ h => h) ⟨?_, rfl⟩
    unfold Del.dueAt
    rw [if_neg hm, if_pos hc]
  · rw [i64_id (n := d.s.first + d.s.ticks) (by omega) (by omega)]
    refine Fin.retW (by exact rfl) resA (H' := d.H) (fun _ h => h) ⟨?_, rfl⟩
    unfold Del.dueAt
    rw [if_neg hm, if_neg (by rw [hc]; decide)]
end Go.Proofs.YthjglhdjlmjffaaGreat
