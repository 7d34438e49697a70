/- When an acknowledgement is due: the document's delay, walked. Conditions: what its cells are. -/
import Derived.Test.YthjglhdjlmjffaaGreatTy
import Derived.Test.YthjglhdjlmjffaaGreatDeA
import Derived.Test.YthjglhdjlmjffaaGreatBc
namespace Go.Proofs.YthjglhdjlmjffaaGreat
open Go Go.Sl

structure DxM where
  R : Nat
  s : Del.S
def DxM.cells (d : DxM) : List Value := [.int .i64 d.s.ticks, .int .i64 d.s.many, .int .i64 d.s.first, .bool d.s.urgent]
def DxM.H (d : DxM) : HL := [(d.R, .cells d.cells.toArray 111 (0, 0))]
theorem xdnew_tr (F : Nat → Option Obj) (t : Int) : Tr Tryz.prog 31 [.int .i64 t].toArray F [] (fun v H =>
    (¬ (0 ≤ t ∧ t ≤ 1048576) ∧ v = tup [.pointer none, .int .i64 1] ∧ H = []) ∨ ((0 ≤ t ∧ t ≤ 1048576) ∧ ∃ b, v = tup [.pointer (some ⟨b, 0, none⟩), .int .i64 0] ∧ H = DxM.H ⟨b, ⟨t, 0, 0, false⟩⟩)) := by
  refine Tr.enter Tryz.func31 rfl Tryz.ntmps31 rfl (fun w0 => ?_)
  repeat' (first | refine S1 ?_ | refine SD ?_ | refine SA (fun _ => ?_) | refine WL.g_split rfl rfl (fun hc => ?_) (fun hc => ?_) | refine WD.g_split rfl rfl (fun hc => ?_) (fun hc => ?_) | refine W.cond rfl (fun hc => ?_) (fun hc => ?_))
  · exact Fin.retW (by exact rfl) resA (fun _ h => h) (.inl ⟨fun h => by have := of_decide_eq_true hc; omega, rfl, rfl⟩)
  · exact Fin.retW (by exact rfl) resA (fun _ h => h) (.inl ⟨fun h => by have := of_decide_eq_true hc; omega, rfl, rfl⟩)
  · rename_i h1 b
    have h1 := of_decide_eq_false h1
    have h2 := of_decide_eq_false hc
    exact Fin.retW (by exact rfl) resA (fun _ h => h) (.inr ⟨by omega, b, rfl, rfl⟩)
theorem xpacket_tr (F : Nat → Option Obj) (d : DxM) (hd : Del.Ok d.s) (now : Int) (u : Bool) : Tr Tryz.prog 67 [.pointer (some ⟨d.R, 0, none⟩), .int .i64 now, .bool u].toArray F d.H (fun v H => v = .tuple #[] ∧ H = DxM.H ⟨d.R, Del.packet d.s now u⟩) := by
  refine Tr.enter Tryz.func67 rfl Tryz.ntmps67 rfl (fun w0 => ?_)
  obtain ⟨R, t, m, f, g⟩ := d
  have hm := hd.m
  dsimp only at hm
  have hm1 : IntKind.i64.wrap (m + 1) = m + 1 := i64_id (by omega) (by omega)
  unfold DxM.H DxM.cells Del.packet
  dsimp only
  repeat' (first | refine S1 ?_ | refine SD ?_ | refine SA (fun _ => ?_) | refine WL.g_split rfl rfl (fun hc => ?_) (fun hc => ?_) | refine WD.g_split rfl rfl (fun hc => ?_) (fun hc => ?_) | refine W.cond rfl (fun hc => ?_) (fun hc => ?_))
  · refine WL.p rfl (Pu.max2 rfl rfl) ?_
    rw [show (if 2305843009213693952 < now then 2305843009213693952 else now) = Del.low now from rfl, show (if Del.low now > 0 then Del.low now else 0) = Del.clamp now from rfl]
    repeat' (first | refine S1 ?_ | refine SD ?_ | refine SA (fun _ => ?_) | refine WL.g_split rfl rfl (fun hc => ?_) (fun hc => ?_) | refine WD.g_split rfl rfl (fun hc => ?_) (fun hc => ?_) | refine W.cond rfl (fun hc => ?_) (fun hc => ?_))
    all_goals rw [hm1]
    all_goals rw [if_pos (show m = 0 by simpa using ‹(m == 0) = true›)]
    · refine Fin.endW (by exact rfl) resA (fun _ h => h) ⟨rfl, ?_⟩
      rw [show g = true by assumption, Bool.true_or]
    · refine Fin.endW (by exact rfl) resA (fun _ h => h) ⟨rfl, ?_⟩
      rw [show g = false by assumption, Bool.false_or]
  all_goals rw [hm1]
  all_goals rw [if_neg (show ¬ m = 0 by simpa using ‹(m == 0) = false›)]
  · refine Fin.endW (by exact rfl) resA (fun _ h => h) ⟨rfl, ?_⟩
    rw [show g = true by assumption, Bool.true_or]
  · refine Fin.endW (by exact rfl) resA (fun _ h => h) ⟨rfl, ?_⟩
    rw [show g = false by assumption, Bool.false_or]
theorem xdsent_tr (F : Nat → Option Obj) (d : DxM) : Tr Tryz.prog 70 [.pointer (some ⟨d.R, 0, none⟩)].toArray F d.H (fun v H => v = .tuple #[] ∧ H = DxM.H ⟨d.R, Del.sent d.s⟩) := by
  refine Tr.enter Tryz.func70 rfl Tryz.ntmps70 rfl (fun w0 => ?_)
  obtain ⟨R, t, m, f, g⟩ := d
  unfold DxM.H DxM.cells
  dsimp only
  repeat' (first | refine S1 ?_ | refine SD ?_ | refine SA (fun _ => ?_) | refine WL.g_split rfl rfl (fun hc => ?_) (fun hc => ?_) | refine WD.g_split rfl rfl (fun hc => ?_) (fun hc => ?_) | refine W.cond rfl (fun hc => ?_) (fun hc => ?_))
  exact Fin.endW (by exact rfl) resA (fun _ h => h) ⟨rfl, rfl⟩
theorem xdue_tr (F : Nat → Option Obj) (d : DxM) (hd : Del.Ok d.s) (now : Int) : Tr Tryz.prog 49 [.pointer (some ⟨d.R, 0, none⟩), .int .i64 now].toArray F d.H (fun v H => v = .bool (Del.due d.s now) ∧ H = d.H) := by
  refine Tr.enter Tryz.func49 rfl Tryz.ntmps49 rfl (fun w0 => ?_)
  obtain ⟨R, t, m, f, g⟩ := d
  have hm := hd.m
  have h1 := hd.f
  have h2 := hd.t
  dsimp only at hm h1 h2
  have hw : IntKind.i64.wrap (f + t) = f + t := i64_id (by omega) (by omega)
  have hdue : Del.due ⟨t, m, f, g⟩ now = (decide (m ≠ 0) && (g || decide (1 < m) || decide (f + t ≤ now))) := rfl
  have e0 : decide (m ≠ 0) = decide (m > 0) := decide_eq_decide.2 (by omega)
  unfold DxM.H DxM.cells
  dsimp only
  rw [hdue, e0]
  clear hdue e0
  repeat' (first | refine S1 ?_ | refine SD ?_ | refine SA (fun _ => ?_) | refine WL.g_split rfl rfl (fun hc => ?_) (fun hc => ?_) | refine WD.g_split rfl rfl (fun hc => ?_) (fun hc => ?_) | refine W.cond rfl (fun hc => ?_) (fun hc => ?_))
  · exact Fin.retW (by exact rfl) resA (fun _ h => h) ⟨by rw [show decide (m > 0) = true by assumption, show g = true by assumption]; rfl, rfl⟩
  · exact Fin.retW (by exact rfl) resA (fun _ h => h) ⟨by rw [show decide (m > 0) = true by assumption, show g = false by assumption, show decide (1 < m) = true by assumption]; rfl, rfl⟩
  · exact Fin.retW (by exact rfl) resA (fun _ h => h) ⟨by rw [show decide (m > 0) = true by assumption, show g = false by assumption, show decide (1 < m) = false by assumption, hw]; rfl, rfl⟩
  · exact Fin.retW (by exact rfl) resA (fun _ h => h) ⟨by rw [show decide (m > 0) = false by assumption]; rfl, rfl⟩
theorem xwhen_tr (F : Nat → Option Obj) (d : DxM) (hd : Del.Ok d.s) : Tr Tryz.prog 42 [.pointer (some ⟨d.R, 0, none⟩)].toArray F d.H (fun v H => v = tup [.int .i64 (Del.dueAt d.s).1, .bool (Del.dueAt d.s).2] ∧ H = d.H) := by
  refine Tr.enter Tryz.func42 rfl Tryz.ntmps42 rfl (fun w0 => ?_)
  obtain ⟨R, t, m, f, g⟩ := d
  have hm := hd.m
  have h1 := hd.f
  have h2 := hd.t
  dsimp only at hm h1 h2
  have hw : IntKind.i64.wrap (f + t) = f + t := i64_id (by omega) (by omega)
  have hdue : Del.due ⟨t, m, f, g⟩ f = (decide (m ≠ 0) && (g || decide (1 < m) || decide (f + t ≤ f))) := rfl
  unfold DxM.H DxM.cells
  dsimp only
  repeat' (first | refine S1 ?_ | refine SD ?_ | refine SA (fun _ => ?_) | refine WL.g_split rfl rfl (fun hc => ?_) (fun hc => ?_) | refine WD.g_split rfl rfl (fun hc => ?_) (fun hc => ?_) | refine W.cond rfl (fun hc => ?_) (fun hc => ?_))
  · have hm0 : m = 0 := by simpa using ‹(m == 0) = true›
    exact Fin.retW (by exact rfl) resA (fun _ h => h) ⟨by unfold Del.dueAt; rw [if_pos hm0], rfl⟩
  · have hm0 : ¬ m = 0 := by simpa using ‹(m == 0) = false›
    exact Fin.retW (by exact rfl) resA (fun _ h => h) ⟨by unfold Del.dueAt; rw [if_neg hm0, if_pos (by rw [hdue, show g = true by assumption]; simp [hm0])], rfl⟩
  · have hm0 : ¬ m = 0 := by simpa using ‹(m == 0) = false›
    exact Fin.retW (by exact rfl) resA (fun _ h => h) ⟨by unfold Del.dueAt; rw [if_neg hm0, if_pos (by rw [hdue, show decide (1 < m) = true by assumption]; simp [hm0])], rfl⟩
  · have hm0 : ¬ m = 0 := by simpa using ‹(m == 0) = false›
    have hg : g = false := by assumption
    have hm1 := of_decide_eq_false hc
    rw [hw]
    have hm2 : decide (1 < m) = false := decide_eq_false (by omega)
    by_cases ht : t = 0
    · exact Fin.retW (by exact rfl) resA (fun _ h => h) ⟨by unfold Del.dueAt; rw [if_neg hm0, if_pos (by rw [hdue, ht]; simp [hm0]), ht, Int.add_zero], rfl⟩
    · exact Fin.retW (by exact rfl) resA (fun _ h => h) ⟨by unfold Del.dueAt; rw [if_neg hm0, if_neg (by rw [hdue, hg, hm2, decide_eq_false (show ¬ f + t ≤ f by omega)]; simp)], rfl⟩
end Go.Proofs.YthjglhdjlmjffaaGreat
