/- A path of an end: the program's path, walked. Conditions: it is well formed. -/
import Derived.Test.YtjfpckadjnjmoaaGreatPaB
import Derived.Test.YtjfpckadjnjmoaaGreatBa
namespace Go.Proofs.YtjfpckadjnjmoaaGreat
open Go Go.Sl Go.Pth

structure PaM where
  P : Nat
  Q : Nat
  R : Nat
  V : Nat
  s : Pth.S
def stB (m : PaM) : Nat × Obj := (m.Q, .cells [ptr m.R, ptr m.V, .int .i64 m.s.bad, .int .i64 m.s.may, .int .i64 m.s.next, .int .i64 m.s.beat, .bool m.s.opn].toArray 135 (0, 0))
def PaM.T (m : PaM) : HL := stB m :: (rtoB m.R m.s.r ++ winB m.V m.s.w)
def PaM.H (m : PaM) : HL := (m.P, .cells [ptr m.Q].toArray 137 (0, 0)) :: m.T
def PaM.ptr (m : PaM) : Value := .pointer (some ⟨m.P, 0, none⟩)
def PaM.with (m : PaM) (s : Pth.S) : PaM := { m with s := s }

theorem of_tr (F : Nat → Option Obj) (m : PaM) : Tr Tryz.prog 60 [ptr m.P].toArray F m.H (fun v H => v = ptr m.Q ∧ H = m.H) := by
  refine Tr.enter Tryz.func60 rfl Tryz.ntmps60 rfl (fun w0 => ?_)
  unfold PaM.H
  repeat' (first | refine S2b ?_ | refine SD ?_ | refine SA (fun _ => ?_) | refine G1 (fun hc => ?_) (fun hc => ?_) | refine G2 (fun hc => ?_) (fun hc => ?_) | refine G3 (fun hc => ?_) (fun hc => ?_))
  exact Fin.retW (by exact rfl) resA (fun _ h => h) ⟨rfl, rfl⟩
theorem active_tr (F : Nat → Option Obj) (m : PaM) : Tr Tryz.prog 61 [ptr m.P].toArray F m.H (fun v H => v = .bool (active m.s) ∧ H = m.H) := by
  refine Tr.enter Tryz.func61 rfl Tryz.ntmps61 rfl (fun w0 => ?_)
  repeat' (first | refine S2b ?_ | refine SD ?_ | refine SA (fun _ => ?_) | refine G1 (fun hc => ?_) (fun hc => ?_) | refine G2 (fun hc => ?_) (fun hc => ?_) | refine G3 (fun hc => ?_) (fun hc => ?_))
  refine WD.e rfl (Ef.callR (by exact rfl) (.all _) (of_tr _ m)) ?_
  rintro _ _ ⟨rfl, rfl⟩
  refine ⟨.inr (fun _ h => h), ?_⟩
  unfold PaM.H PaM.T stB
  repeat' (first | refine S2b ?_ | refine SD ?_ | refine SA (fun _ => ?_) | refine G1 (fun hc => ?_) (fun hc => ?_) | refine G2 (fun hc => ?_) (fun hc => ?_) | refine G3 (fun hc => ?_) (fun hc => ?_))
  exact Fin.retW (by exact rfl) resA (fun _ h => h) ⟨rfl, rfl⟩
theorem size_tr (F : Nat → Option Obj) (m : PaM) : Tr Tryz.prog 77 [ptr m.P].toArray F m.H (fun v H => v = .int .i64 m.s.w.size ∧ H = m.H) := by
  refine Tr.enter Tryz.func77 rfl Tryz.ntmps77 rfl (fun w0 => ?_)
  repeat' (first | refine S2b ?_ | refine SD ?_ | refine SA (fun _ => ?_) | refine G1 (fun hc => ?_) (fun hc => ?_) | refine G2 (fun hc => ?_) (fun hc => ?_) | refine G3 (fun hc => ?_) (fun hc => ?_))
  refine WL.e rfl (Ef.callR (by exact rfl) (.all _) (of_tr _ m)) ?_
  rintro _ _ ⟨rfl, rfl⟩
  unfold PaM.H PaM.T stB
  repeat' (first | refine S2b ?_ | refine SD ?_ | refine SA (fun _ => ?_) | refine G1 (fun hc => ?_) (fun hc => ?_) | refine G2 (fun hc => ?_) (fun hc => ?_) | refine G3 (fun hc => ?_) (fun hc => ?_))
  refine WL.e rfl (Ef.callR (c := winB m.V m.s.w) (by exact rfl) (.last (.there (.there (.right .all)))) (wsize_tr _ m.V m.s.w)) ?_
  rintro _ _ ⟨rfl, rfl⟩
  repeat' (first | refine S2b ?_ | refine SD ?_ | refine SA (fun _ => ?_) | refine G1 (fun hc => ?_) (fun hc => ?_) | refine G2 (fun hc => ?_) (fun hc => ?_) | refine G3 (fun hc => ?_) (fun hc => ?_))
  exact Fin.retW (by exact rfl) resA (fun _ h => h) ⟨rfl, rfl⟩
theorem estRto_tr (F : Nat → Option Obj) (b : Nat) (r : Rto) : Tr Tryz.prog 98 [.agg [ptr b].toArray].toArray F (rtoB b r) (fun v H => v = .int .i64 r.value ∧ H = rtoB b r) := by
  refine Tr.enter Tryz.func98 rfl Tryz.ntmps98 rfl (fun w0 => ?_)
  repeat' (first | refine S2b ?_ | refine SD ?_ | refine SA (fun _ => ?_) | refine G1 (fun hc => ?_) (fun hc => ?_) | refine G2 (fun hc => ?_) (fun hc => ?_) | refine G3 (fun hc => ?_) (fun hc => ?_))
  refine WL.e rfl (Ef.callR (c := rtoB b r) (by exact rfl) (.last (.there .all)) (rvalue_tr _ b r)) ?_
  rintro _ _ ⟨rfl, rfl⟩
  repeat' (first | refine S2b ?_ | refine SD ?_ | refine SA (fun _ => ?_) | refine G1 (fun hc => ?_) (fun hc => ?_) | refine G2 (fun hc => ?_) (fun hc => ?_) | refine G3 (fun hc => ?_) (fun hc => ?_))
  exact Fin.retW (by exact rfl) resA (H' := rtoB b r) (fun _ h => h.sublist (.cons _ (.refl _))) ⟨rfl, rfl⟩
theorem rto_tr (F : Nat → Option Obj) (m : PaM) : Tr Tryz.prog 68 [ptr m.P].toArray F m.H (fun v H => v = .int .i64 m.s.r.value ∧ H = m.H) := by
  refine Tr.enter Tryz.func68 rfl Tryz.ntmps68 rfl (fun w0 => ?_)
  repeat' (first | refine S2b ?_ | refine SD ?_ | refine SA (fun _ => ?_) | refine G1 (fun hc => ?_) (fun hc => ?_) | refine G2 (fun hc => ?_) (fun hc => ?_) | refine G3 (fun hc => ?_) (fun hc => ?_))
  refine WL.e rfl (Ef.callR (by exact rfl) (.all _) (of_tr _ m)) ?_
  rintro _ _ ⟨rfl, rfl⟩
  unfold PaM.H PaM.T stB
  repeat' (first | refine S2b ?_ | refine SD ?_ | refine SA (fun _ => ?_) | refine G1 (fun hc => ?_) (fun hc => ?_) | refine G2 (fun hc => ?_) (fun hc => ?_) | refine G3 (fun hc => ?_) (fun hc => ?_))
  refine WL.e rfl (Ef.callR (c := rtoB m.R m.s.r) (by exact rfl) (.last (.there (.there .here))) (estRto_tr _ m.R m.s.r)) ?_
  rintro _ _ ⟨rfl, rfl⟩
  repeat' (first | refine S2b ?_ | refine SD ?_ | refine SA (fun _ => ?_) | refine G1 (fun hc => ?_) (fun hc => ?_) | refine G2 (fun hc => ?_) (fun hc => ?_) | refine G3 (fun hc => ?_) (fun hc => ?_))
  exact Fin.retW (by exact rfl) resA (fun _ h => h) ⟨rfl, rfl⟩
theorem answered_tr (F : Nat → Option Obj) (m : PaM) : Tr Tryz.prog 83 [ptr m.P].toArray F m.H (fun v H => v = .tuple #[] ∧ H = (m.with (answered m.s)).H) := by
  refine Tr.enter Tryz.func83 rfl Tryz.ntmps83 rfl (fun w0 => ?_)
  repeat' (first | refine S2b ?_ | refine SD ?_ | refine SA (fun _ => ?_) | refine G1 (fun hc => ?_) (fun hc => ?_) | refine G2 (fun hc => ?_) (fun hc => ?_) | refine G3 (fun hc => ?_) (fun hc => ?_))
  refine WL.e rfl (Ef.callR (by exact rfl) (.all _) (of_tr _ m)) ?_
  rintro _ _ ⟨rfl, rfl⟩
  unfold PaM.H PaM.T stB
  repeat' (first | refine S2b ?_ | refine SD ?_ | refine SA (fun _ => ?_) | refine G1 (fun hc => ?_) (fun hc => ?_) | refine G2 (fun hc => ?_) (fun hc => ?_) | refine G3 (fun hc => ?_) (fun hc => ?_))
  exact Fin.endW (by exact rfl) resA (fun _ h => h) ⟨rfl, rfl⟩
theorem sample_tr (F : Nat → Option Obj) (m : PaM) (hm : Ok m.s) (t : Int) (ht : 0 ≤ t) : Tr Tryz.prog 84 [ptr m.P, .int .i64 t].toArray F m.H (fun v H => v = .tuple #[] ∧ H = (m.with (sampled m.s t)).H) := by
  refine Tr.enter Tryz.func84 rfl Tryz.ntmps84 rfl (fun w0 => ?_)
  repeat' (first | refine S2b ?_ | refine SD ?_ | refine SA (fun _ => ?_) | refine G1 (fun hc => ?_) (fun hc => ?_) | refine G2 (fun hc => ?_) (fun hc => ?_) | refine G3 (fun hc => ?_) (fun hc => ?_))
  refine WL.e rfl (Ef.callR (by exact rfl) (.all _) (of_tr _ m)) ?_
  rintro _ _ ⟨rfl, rfl⟩
  unfold PaM.H PaM.T stB
  repeat' (first | refine S2b ?_ | refine SD ?_ | refine SA (fun _ => ?_) | refine G1 (fun hc => ?_) (fun hc => ?_) | refine G2 (fun hc => ?_) (fun hc => ?_) | refine G3 (fun hc => ?_) (fun hc => ?_))
  refine WL.e rfl (Ef.call (c := rtoB m.R m.s.r) (by exact rfl) (.last (.there (.there .here))) (rsample_tr _ m.R m.s.r hm.r t ht)) ?_
  rintro _ _ ⟨_, ⟨rfl, rfl⟩, rfl⟩
  repeat' (first | refine S2b ?_ | refine SD ?_ | refine SA (fun _ => ?_) | refine G1 (fun hc => ?_) (fun hc => ?_) | refine G2 (fun hc => ?_) (fun hc => ?_) | refine G3 (fun hc => ?_) (fun hc => ?_))
  exact Fin.endW (by exact rfl) resA (H' := (m.with (sampled m.s t)).H) (fun _ h => In.of_sub (.pick (.right .here) (.pick (.right .here) (.pickL (L := rtoB m.R (Pth.sample m.s.r t)) .here (.last .all)))) h) ⟨rfl, rfl⟩
theorem acked_tr (F : Nat → Option Obj) (m : PaM) (hm : Ok m.s) (n : Int) (full : Bool) : Tr Tryz.prog 85 [ptr m.P, .int .i64 n, .bool full].toArray F m.H (fun v H => v = .tuple #[] ∧ H = (m.with (acked m.s n full)).H) := by
  refine Tr.enter Tryz.func85 rfl Tryz.ntmps85 rfl (fun w0 => ?_)
  repeat' (first | refine S2b ?_ | refine SD ?_ | refine SA (fun _ => ?_) | refine G1 (fun hc => ?_) (fun hc => ?_) | refine G2 (fun hc => ?_) (fun hc => ?_) | refine G3 (fun hc => ?_) (fun hc => ?_))
  refine WL.e rfl (Ef.callR (by exact rfl) (.all _) (of_tr _ m)) ?_
  rintro _ _ ⟨rfl, rfl⟩
  unfold PaM.H PaM.T stB
  repeat' (first | refine S2b ?_ | refine SD ?_ | refine SA (fun _ => ?_) | refine G1 (fun hc => ?_) (fun hc => ?_) | refine G2 (fun hc => ?_) (fun hc => ?_) | refine G3 (fun hc => ?_) (fun hc => ?_))
  refine WL.e rfl (Ef.call (c := winB m.V m.s.w) (by exact rfl) (.last (.there (.there (.right .all)))) (wacked_tr _ m.V m.s.w hm.w n full)) ?_
  rintro _ _ ⟨_, ⟨rfl, rfl⟩, rfl⟩
  repeat' (first | refine S2b ?_ | refine SD ?_ | refine SA (fun _ => ?_) | refine G1 (fun hc => ?_) (fun hc => ?_) | refine G2 (fun hc => ?_) (fun hc => ?_) | refine G3 (fun hc => ?_) (fun hc => ?_))
  exact Fin.endW (by exact rfl) resA (H' := (m.with (acked m.s n full)).H) (fun _ h => In.of_sub (.pick (.right .here) (.pick (.right .here) (.pickL (L := rtoB m.R m.s.r) (.right .here) (.last (L := winB m.V (winAcked m.s.w n full)) .here)))) h) ⟨rfl, rfl⟩
theorem fast_tr (F : Nat → Option Obj) (m : PaM) (hm : Ok m.s) : Tr Tryz.prog 86 [ptr m.P].toArray F m.H (fun v H => v = .tuple #[] ∧ H = (m.with (fast m.s)).H) := by
  refine Tr.enter Tryz.func86 rfl Tryz.ntmps86 rfl (fun w0 => ?_)
  repeat' (first | refine S2b ?_ | refine SD ?_ | refine SA (fun _ => ?_) | refine G1 (fun hc => ?_) (fun hc => ?_) | refine G2 (fun hc => ?_) (fun hc => ?_) | refine G3 (fun hc => ?_) (fun hc => ?_))
  refine WL.e rfl (Ef.callR (by exact rfl) (.all _) (of_tr _ m)) ?_
  rintro _ _ ⟨rfl, rfl⟩
  unfold PaM.H PaM.T stB
  repeat' (first | refine S2b ?_ | refine SD ?_ | refine SA (fun _ => ?_) | refine G1 (fun hc => ?_) (fun hc => ?_) | refine G2 (fun hc => ?_) (fun hc => ?_) | refine G3 (fun hc => ?_) (fun hc => ?_))
  refine WL.e rfl (Ef.call (c := winB m.V m.s.w) (by exact rfl) (.last (.there (.there (.right .all)))) (wfast_tr _ m.V m.s.w hm.w)) ?_
  rintro _ _ ⟨_, ⟨rfl, rfl⟩, rfl⟩
  repeat' (first | refine S2b ?_ | refine SD ?_ | refine SA (fun _ => ?_) | refine G1 (fun hc => ?_) (fun hc => ?_) | refine G2 (fun hc => ?_) (fun hc => ?_) | refine G3 (fun hc => ?_) (fun hc => ?_))
  exact Fin.endW (by exact rfl) resA (H' := (m.with (fast m.s)).H) (fun _ h => In.of_sub (.pick (.right .here) (.pick (.right .here) (.pickL (L := rtoB m.R m.s.r) (.right .here) (.last (L := winB m.V (winFast m.s.w)) .here)))) h) ⟨rfl, rfl⟩
theorem fails_tr (F : Nat → Option Obj) (m : PaM) (hm : Ok m.s) : Tr Tryz.prog 63 [ptr m.Q].toArray F m.T (fun v H => v = .tuple #[] ∧ H = (m.with (fails m.s)).T) := by
  refine Tr.enter Tryz.func63 rfl Tryz.ntmps63 rfl (fun w0 => ?_)
  have h1 := hm.bad; have h2 := hm.may
  unfold PaM.T stB
  repeat' (first | refine S2b ?_ | refine SD ?_ | refine SA (fun _ => ?_) | refine G1 (fun hc => ?_) (fun hc => ?_) | refine G2 (fun hc => ?_) (fun hc => ?_) | refine G3 (fun hc => ?_) (fun hc => ?_))
  simp (disch := omega) only [i64_id, Int.tdiv_eq_ediv_of_nonneg, Go.Pth.go_mx, Go.Pth.go_mn]
  refine WL.e rfl (Ef.call (c := rtoB m.R m.s.r) (by exact rfl) (.last (.there .here)) (rback_tr _ m.R m.s.r hm.r)) ?_
  rintro _ _ ⟨_, ⟨rfl, rfl⟩, rfl⟩
  repeat' (first | refine S2b ?_ | refine SD ?_ | refine SA (fun _ => ?_) | refine G1 (fun hc => ?_) (fun hc => ?_) | refine G2 (fun hc => ?_) (fun hc => ?_) | refine G3 (fun hc => ?_) (fun hc => ?_))
  exact Fin.endW (by exact rfl) resA (H' := (m.with (fails m.s)).T) (fun _ h => In.of_sub (.pick (.right .here) (.pickL (L := rtoB m.R (back m.s.r)) .here (.last .all))) h) ⟨rfl, rfl⟩
theorem late_tr (F : Nat → Option Obj) (m : PaM) (hm : Ok m.s) : Tr Tryz.prog 33 [ptr m.P].toArray F m.H (fun v H => v = .bool (lateA m.s) ∧ H = (m.with (late m.s)).H) := by
  refine Tr.enter Tryz.func33 rfl Tryz.ntmps33 rfl (fun w0 => ?_)
  repeat' (first | refine S2b ?_ | refine SD ?_ | refine SA (fun _ => ?_) | refine G1 (fun hc => ?_) (fun hc => ?_) | refine G2 (fun hc => ?_) (fun hc => ?_) | refine G3 (fun hc => ?_) (fun hc => ?_))
  refine WL.e rfl (Ef.callR (by exact rfl) (.all _) (of_tr _ m)) ?_
  rintro _ _ ⟨rfl, rfl⟩
  unfold PaM.H PaM.T stB
  repeat' (first | refine S2b ?_ | refine SD ?_ | refine SA (fun _ => ?_) | refine G1 (fun hc => ?_) (fun hc => ?_) | refine G2 (fun hc => ?_) (fun hc => ?_) | refine G3 (fun hc => ?_) (fun hc => ?_))
  refine WL.e rfl (Ef.callR (c := m.H) (by exact rfl) (.all _) (active_tr _ m)) ?_
  rintro _ _ ⟨rfl, rfl⟩
  obtain ⟨a, ha⟩ : ∃ a, active m.s = a := ⟨_, rfl⟩
  rw [ha]
  repeat' (first | refine S2b ?_ | refine SD ?_ | refine SA (fun _ => ?_) | refine G1 (fun hc => ?_) (fun hc => ?_) | refine G2 (fun hc => ?_) (fun hc => ?_) | refine G3 (fun hc => ?_) (fun hc => ?_))
  refine WL.e rfl (Ef.call (c := winB m.V m.s.w) (by exact rfl) (.last (.there (.there (.right .all)))) (wlate_tr _ m.V m.s.w hm.w)) ?_
  rintro _ _ ⟨_, ⟨rfl, rfl⟩, rfl⟩
  have h1 : Ok { m.s with w := winLate m.s.w } := ⟨hm.r, winLate_ok hm.w, hm.bad, hm.may, hm.beat, hm.next⟩
  refine WL.weak (H' := ((m.with { m.s with w := winLate m.s.w })).H) (fun _ h => In.of_sub (.pick (.right .here) (.pick (.right .here) (.pickL (L := rtoB m.R m.s.r) (.right .here) (.last (L := winB m.V (winLate m.s.w)) .here)))) h) ?_
  unfold PaM.H
  repeat' (first | refine S2b ?_ | refine SD ?_ | refine SA (fun _ => ?_) | refine G1 (fun hc => ?_) (fun hc => ?_) | refine G2 (fun hc => ?_) (fun hc => ?_) | refine G3 (fun hc => ?_) (fun hc => ?_))
  refine WL.e rfl (Ef.call (c := ((m.with { m.s with w := winLate m.s.w })).T) (by exact rfl) (.last (.there .all)) (fails_tr _ (m.with { m.s with w := winLate m.s.w }) h1)) ?_
  rintro _ _ ⟨_, ⟨rfl, rfl⟩, rfl⟩
  refine WL.weak (H' := (m.with (late m.s)).H) (fun _ h => h.perm List.perm_append_comm) ?_
  cases a
  all_goals
    repeat' (first | refine S2b ?_ | refine SD ?_ | refine SA (fun _ => ?_) | refine G1 (fun hc => ?_) (fun hc => ?_) | refine G2 (fun hc => ?_) (fun hc => ?_) | refine G3 (fun hc => ?_) (fun hc => ?_))
  · exact Fin.retW (by exact rfl) resA (fun _ h => h) ⟨by unfold lateA; rw [ha]; rfl, rfl⟩
  · refine WL.e rfl (Ef.callR (c := (m.with (late m.s)).H) (by exact rfl) (.all _) (active_tr _ (m.with (late m.s)))) ?_
    rintro _ _ ⟨rfl, rfl⟩
    repeat' (first | refine S2b ?_ | refine SD ?_ | refine SA (fun _ => ?_) | refine G1 (fun hc => ?_) (fun hc => ?_) | refine G2 (fun hc => ?_) (fun hc => ?_) | refine G3 (fun hc => ?_) (fun hc => ?_))
    exact Fin.retW (by exact rfl) resA (fun _ h => h) ⟨by unfold lateA; rw [ha]; rfl, rfl⟩
def Cfg.pathMay (c : Cfg) (now : Int) : Bool := may c.ri c.rmin c.rmax c.mtu c.cap c.retrans c.beat now
def Cfg.pathNew (c : Cfg) (now : Int) : Pth.S := new c.ri c.rmin c.rmax c.mtu c.cap c.retrans c.beat now
set_option maxHeartbeats 1000000 in
theorem pnew_tr (F : Nat → Option Obj) (c : Cfg) (now : Int) : Tr Tryz.prog 21 [.agg c.cells.toArray, .int .i64 now].toArray F [] (fun v H =>
    (c.pathMay now = false ∧ v = tup [.pointer none, .int .i64 1] ∧ H = []) ∨ (c.pathMay now = true ∧ ∃ m : PaM, v = tup [ptr m.P, .int .i64 0] ∧ H = m.H ∧ m.s = c.pathNew now)) := by
  refine Tr.enter Tryz.func21 rfl Tryz.ntmps21 rfl (fun w0 => ?_)
  unfold Cfg.cells
  repeat' (first | refine S2b ?_ | refine SD ?_ | refine SA (fun _ => ?_) | refine G1 (fun hc => ?_) (fun hc => ?_) | refine G2 (fun hc => ?_) (fun hc => ?_) | refine G3 (fun hc => ?_) (fun hc => ?_))
  refine WL.e rfl (Ef.call (by exact rfl) (.nil _) (rnew_tr _ c.ri c.rmin c.rmax)) ?_
  rintro _ _ ⟨_, (⟨hno, rfl, rfl⟩ | ⟨hr, b1, rfl, rfl⟩), rfl⟩
  · dsimp only [tup]
    repeat' (first | refine S2b ?_ | refine SD ?_ | refine SA (fun _ => ?_) | refine G1 (fun hc => ?_) (fun hc => ?_) | refine G2 (fun hc => ?_) (fun hc => ?_) | refine G3 (fun hc => ?_) (fun hc => ?_))
    exact Fin.retW (by exact rfl) resA (H' := []) (fun _ h => h.sublist (List.nil_sublist _)) (.inl ⟨by unfold Cfg.pathMay may; rw [hno]; rfl, rfl, rfl⟩)
  dsimp only [tup]
  repeat' (first | refine S2b ?_ | refine SD ?_ | refine SA (fun _ => ?_) | refine G1 (fun hc => ?_) (fun hc => ?_) | refine G2 (fun hc => ?_) (fun hc => ?_) | refine G3 (fun hc => ?_) (fun hc => ?_))
  refine WL.e rfl (Ef.call (by exact rfl) (.nil _) (wnew_tr _ c.mtu c.cap)) ?_
  rintro _ _ ⟨_, (⟨hno, rfl, rfl⟩ | ⟨hw, b2, rfl, rfl⟩), rfl⟩
  · dsimp only [tup]
    repeat' (first | refine S2b ?_ | refine SD ?_ | refine SA (fun _ => ?_) | refine G1 (fun hc => ?_) (fun hc => ?_) | refine G2 (fun hc => ?_) (fun hc => ?_) | refine G3 (fun hc => ?_) (fun hc => ?_))
    exact Fin.retW (by exact rfl) resA (H' := []) (fun _ h => h.sublist (List.nil_sublist _)) (.inl ⟨by unfold Cfg.pathMay may; rw [hno, hr]; rfl, rfl, rfl⟩)
  dsimp only [tup]
  repeat' (first | refine S2b ?_ | refine SD ?_ | refine SA (fun _ => ?_) | refine G1 (fun hc => ?_) (fun hc => ?_) | refine G2 (fun hc => ?_) (fun hc => ?_) | refine G3 (fun hc => ?_) (fun hc => ?_))
  rotate_right
  · simp only [decide_eq_false_iff_not] at *
    have hp : c.pathMay now = true := by unfold Cfg.pathMay may; rw [hr, hw, decide_eq_true (by omega)]; rfl
    simp (disch := omega) only [i64_id, Int.tdiv_eq_ediv_of_nonneg, Go.Pth.go_mx, Go.Pth.go_mn]
    refine Fin.retW (by exact rfl) resA (H' := PaM.H ⟨_, _, b1, b2, c.pathNew now⟩) (fun _ h => In.of_sub (.pick .here (.pick .here (.pickL (L := rtoB b1 (rtoNew c.ri c.rmin c.rmax)) (.right .here) (.last (L := winB b2 (winNew c.mtu c.cap)) .here)))) h) (.inr ⟨hp, ⟨_, _, b1, b2, c.pathNew now⟩, rfl, rfl, rfl⟩)
  all_goals
    have hp : c.pathMay now = false := by
      unfold Cfg.pathMay may
      rw [hr, hw, decide_eq_false (by have := of_decide_eq_true hc; omega)]
      rfl
    exact Fin.retW (by exact rfl) resA (H' := []) (fun _ h => h.sublist (List.nil_sublist _)) (.inl ⟨hp, rfl, rfl⟩)
end Go.Proofs.YtjfpckadjnjmoaaGreat
