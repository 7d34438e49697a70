/- A path of an end: the program's estimator and window, walked. Conditions: they are well formed. -/
import Derived.Test.YtjfpckadjnjmoaaGreatTy
import Derived.Test.YtjfpckadjnjmoaaGreatBa
import Derived.Test.YtjfpckadjnjmoaaGreatBc
namespace Go.Proofs.YtjfpckadjnjmoaaGreat
open Go Go.Sl Go.Pth

def rtoC (r : Rto) : List Value := [.int .i64 r.value, .int .i64 r.least, .int .i64 r.most, .bool r.any, .int .i64 r.smooth, .int .i64 r.vary]
def rtoB (b : Nat) (r : Rto) : HL := [(b, .cells (rtoC r).toArray 182 (0, 0))]
def winC (w : Win) : List Value := [.int .i64 w.mtu, .int .i64 w.most, .int .i64 w.size, .int .i64 w.thresh, .int .i64 w.part]
def winB (b : Nat) (w : Win) : HL := [(b, .cells (winC w).toArray 184 (0, 0))]
abbrev ptr (b : Nat) : Value := .pointer (some ⟨b, 0, none⟩)

theorem btw_tr (F : Nat → Option Obj) (x l m : Int) : Tr Tryz.prog 89 [.int .i64 x, .int .i64 l, .int .i64 m].toArray F [] (fun v H => v = .int .i64 (mn (mx x l) m) ∧ H = []) := by
  refine Tr.enter Tryz.func89 rfl Tryz.ntmps89 rfl (fun w0 => ?_)
  repeat' (first | refine S2b ?_ | refine SD ?_ | refine SA (fun _ => ?_) | refine G1 (fun hc => ?_) (fun hc => ?_) | refine G2 (fun hc => ?_) (fun hc => ?_) | refine G3 (fun hc => ?_) (fun hc => ?_))
  simp only [Go.Pth.go_mx, Go.Pth.go_mn]
  exact Fin.retW (by exact rfl) resA (fun _ h => h) ⟨rfl, rfl⟩
theorem rtoMay_no {f l m : Int} (h : l < 1 ∨ m > 1048576 ∨ l > m ∨ f ≠ mn (mx f l) m) : rtoMay f l m = false := by
  rw [mn_eq, mx_eq] at h
  exact decide_eq_false (by omega)
set_option maxHeartbeats 1000000 in
theorem rnew_tr (F : Nat → Option Obj) (f l m : Int) : Tr Tryz.prog 47 [.int .i64 f, .int .i64 l, .int .i64 m].toArray F [] (fun v H =>
    (rtoMay f l m = false ∧ v = tup [.pointer none, .int .i64 1] ∧ H = []) ∨ (rtoMay f l m = true ∧ ∃ b, v = tup [ptr b, .int .i64 0] ∧ H = rtoB b (rtoNew f l m))) := by
  refine Tr.enter Tryz.func47 rfl Tryz.ntmps47 rfl (fun w0 => ?_)
  repeat' (first | refine S2b ?_ | refine SD ?_ | refine SA (fun _ => ?_) | refine G1 (fun hc => ?_) (fun hc => ?_) | refine G2 (fun hc => ?_) (fun hc => ?_) | refine G3 (fun hc => ?_) (fun hc => ?_))
  · exact Fin.retW (by exact rfl) resA (fun _ h => h) (.inl ⟨rtoMay_no (by have := of_decide_eq_true hc; omega), rfl, rfl⟩)
  · exact Fin.retW (by exact rfl) resA (fun _ h => h) (.inl ⟨rtoMay_no (by have := of_decide_eq_true hc; omega), rfl, rfl⟩)
  · exact Fin.retW (by exact rfl) resA (fun _ h => h) (.inl ⟨rtoMay_no (by have := of_decide_eq_true hc; omega), rfl, rfl⟩)
  rename_i h1 h2
  have h1 := of_decide_eq_false h1
  have h2 := of_decide_eq_false h2
  have h3 := of_decide_eq_false hc
  clear hc
  refine WL.e rfl (Ef.callR (by exact rfl) (.nil _) (btw_tr _ f l m)) ?_
  rintro _ _ ⟨rfl, rfl⟩
  repeat' (first | refine S2b ?_ | refine SD ?_ | refine SA (fun _ => ?_) | refine G1 (fun hc => ?_) (fun hc => ?_) | refine G2 (fun hc => ?_) (fun hc => ?_) | refine G3 (fun hc => ?_) (fun hc => ?_))
  · have h4 : ¬ f = mn (mx f l) m := by simpa using hc
    exact Fin.retW (by exact rfl) resA (fun _ h => h) (.inl ⟨rtoMay_no (by omega), rfl, rfl⟩)
  · have h4 : f = mn (mx f l) m := by simpa using hc
    rw [mn_eq, mx_eq] at h4
    exact Fin.retW (by exact rfl) resA (fun _ h => h) (.inr ⟨decide_eq_true (by omega), _, rfl, rfl⟩)
theorem rvalue_tr (F : Nat → Option Obj) (b : Nat) (r : Rto) : Tr Tryz.prog 109 [ptr b].toArray F (rtoB b r) (fun v H => v = .int .i64 r.value ∧ H = rtoB b r) := by
  refine Tr.enter Tryz.func109 rfl Tryz.ntmps109 rfl (fun w0 => ?_)
  unfold rtoB rtoC
  repeat' (first | refine S2b ?_ | refine SD ?_ | refine SA (fun _ => ?_) | refine G1 (fun hc => ?_) (fun hc => ?_) | refine G2 (fun hc => ?_) (fun hc => ?_) | refine G3 (fun hc => ?_) (fun hc => ?_))
  exact Fin.retW (by exact rfl) resA (fun _ h => h) ⟨rfl, rfl⟩
theorem rback_tr (F : Nat → Option Obj) (b : Nat) (r : Rto) (hr : r.Ok) : Tr Tryz.prog 94 [ptr b].toArray F (rtoB b r) (fun v H => v = .tuple #[] ∧ H = rtoB b (back r)) := by
  refine Tr.enter Tryz.func94 rfl Tryz.ntmps94 rfl (fun w0 => ?_)
  have := hr.least; have := hr.lv; have := hr.vm; have := hr.most
  unfold rtoB rtoC
  repeat' (first | refine S2b ?_ | refine SD ?_ | refine SA (fun _ => ?_) | refine G1 (fun hc => ?_) (fun hc => ?_) | refine G2 (fun hc => ?_) (fun hc => ?_) | refine G3 (fun hc => ?_) (fun hc => ?_))
  simp (disch := omega) only [i64_id, Int.tdiv_eq_ediv_of_nonneg, Go.Pth.go_mx, Go.Pth.go_mn]
  exact Fin.endW (by exact rfl) resA (fun _ h => h) ⟨rfl, rfl⟩
set_option maxHeartbeats 4000000 in
theorem rsample_tr (F : Nat → Option Obj) (b : Nat) (r : Rto) (hr : r.Ok) (t : Int) (ht : 0 ≤ t) : Tr Tryz.prog 106 [ptr b, .int .i64 t].toArray F (rtoB b r) (fun v H => v = .int .i64 0 ∧ H = rtoB b (sample r t)) := by
  refine Tr.enter Tryz.func106 rfl Tryz.ntmps106 rfl (fun w0 => ?_)
  obtain ⟨value, least, most, any, smooth, vary⟩ := r
  have hs := hr.smooth; have hv := hr.vary; have h1 := hr.least; have h2 := hr.most; have h3 := hr.lv; have h4 := hr.vm
  dsimp only at hs hv h1 h2 h3 h4
  unfold rtoB rtoC
  dsimp only
  repeat' (first | refine S2b ?_ | refine SD ?_ | refine SA (fun _ => ?_) | refine G1 (fun hc => ?_) (fun hc => ?_) | refine G2 (fun hc => ?_) (fun hc => ?_) | refine G3 (fun hc => ?_) (fun hc => ?_))
  · exfalso
    have := of_decide_eq_true hc
    omega
  · subst hc
    simp (disch := omega) only [i64_id, Int.tdiv_eq_ediv_of_nonneg, Go.Pth.go_mx, Go.Pth.go_mn]
    refine WD.e rfl (Ef.callR (by exact rfl) (.nil _) (btw_tr _ _ _ _)) ?_
    rintro _ _ ⟨rfl, rfl⟩
    refine ⟨.inr (fun _ h => h), ?_⟩
    repeat' (first | refine S2b ?_ | refine SD ?_ | refine SA (fun _ => ?_) | refine G1 (fun hc => ?_) (fun hc => ?_) | refine G2 (fun hc => ?_) (fun hc => ?_) | refine G3 (fun hc => ?_) (fun hc => ?_))
    exact Fin.retW (by exact rfl) resA (fun _ h => h) ⟨rfl, rfl⟩
  · subst hc
    simp (disch := omega) only [i64_id, Int.tdiv_eq_ediv_of_nonneg, Go.Pth.go_mx, Go.Pth.go_mn]
    refine WD.e rfl (Ef.callR (by exact rfl) (.nil _) (btw_tr _ _ _ _)) ?_
    rintro _ _ ⟨rfl, rfl⟩
    refine ⟨.inr (fun _ h => h), ?_⟩
    repeat' (first | refine S2b ?_ | refine SD ?_ | refine SA (fun _ => ?_) | refine G1 (fun hc => ?_) (fun hc => ?_) | refine G2 (fun hc => ?_) (fun hc => ?_) | refine G3 (fun hc => ?_) (fun hc => ?_))
    exact Fin.retW (by exact rfl) resA (fun _ h => h) ⟨rfl, rfl⟩
theorem winMay_no {m c : Int} (h : m < 128 ∨ m > 1500 ∨ c < 4 * m ∨ c > 16777216) : winMay m c = false := decide_eq_false (by omega)
theorem wnew_tr (F : Nat → Option Obj) (m c : Int) : Tr Tryz.prog 48 [.int .i64 m, .int .i64 c].toArray F [] (fun v H =>
    (winMay m c = false ∧ v = tup [.pointer none, .int .i64 1] ∧ H = []) ∨ (winMay m c = true ∧ ∃ b, v = tup [ptr b, .int .i64 0] ∧ H = winB b (winNew m c))) := by
  refine Tr.enter Tryz.func48 rfl Tryz.ntmps48 rfl (fun w0 => ?_)
  repeat' (first | refine S2b ?_ | refine SD ?_ | refine SA (fun _ => ?_) | refine G1 (fun hc => ?_) (fun hc => ?_) | refine G2 (fun hc => ?_) (fun hc => ?_) | refine G3 (fun hc => ?_) (fun hc => ?_))
  · exact Fin.retW (by exact rfl) resA (fun _ h => h) (.inl ⟨winMay_no (by have := of_decide_eq_true hc; omega), rfl, rfl⟩)
  · exact Fin.retW (by exact rfl) resA (fun _ h => h) (.inl ⟨winMay_no (by have := of_decide_eq_true hc; omega), rfl, rfl⟩)
  all_goals have e1 : IntKind.i64.wrap (4 * m) = 4 * m := i64_id (by simp only [decide_eq_false_iff_not] at *; omega) (by simp only [decide_eq_false_iff_not] at *; omega)
  · rw [e1] at hc
    exact Fin.retW (by exact rfl) resA (fun _ h => h) (.inl ⟨winMay_no (by have := of_decide_eq_true hc; omega), rfl, rfl⟩)
  · exact Fin.retW (by exact rfl) resA (fun _ h => h) (.inl ⟨winMay_no (by have := of_decide_eq_true hc; omega), rfl, rfl⟩)
  · rename_i h3 _
    rw [e1] at h3
    simp only [decide_eq_false_iff_not] at *
    simp (disch := omega) only [i64_id, Int.tdiv_eq_ediv_of_nonneg, Go.Pth.go_mx, Go.Pth.go_mn]
    exact Fin.retW (by exact rfl) resA (fun _ h => h) (.inr ⟨decide_eq_true (by omega), _, rfl, rfl⟩)
theorem wsize_tr (F : Nat → Option Obj) (b : Nat) (w : Win) : Tr Tryz.prog 103 [ptr b].toArray F (winB b w) (fun v H => v = .int .i64 w.size ∧ H = winB b w) := by
  refine Tr.enter Tryz.func103 rfl Tryz.ntmps103 rfl (fun w0 => ?_)
  unfold winB winC
  repeat' (first | refine S2b ?_ | refine SD ?_ | refine SA (fun _ => ?_) | refine G1 (fun hc => ?_) (fun hc => ?_) | refine G2 (fun hc => ?_) (fun hc => ?_) | refine G3 (fun hc => ?_) (fun hc => ?_))
  exact Fin.retW (by exact rfl) resA (fun _ h => h) ⟨rfl, rfl⟩
theorem wslow_tr (F : Nat → Option Obj) (b : Nat) (w : Win) (hw : w.Ok) (n : Int) (hn : 1 ≤ n) (full : Bool) : Tr Tryz.prog 111 [ptr b, .int .i64 n, .bool full].toArray F (winB b w) (fun v H => v = .tuple #[] ∧ H = winB b (slow w n full)) := by
  refine Tr.enter Tryz.func111 rfl Tryz.ntmps111 rfl (fun w0 => ?_)
  have h1 := hw.mtu; have h2 := hw.most; have h3 := hw.size; have h4 := hw.thresh
  unfold winB winC
  cases full
  all_goals
    repeat' (first | refine S2b ?_ | refine SD ?_ | refine SA (fun _ => ?_) | refine G1 (fun hc => ?_) (fun hc => ?_) | refine G2 (fun hc => ?_) (fun hc => ?_) | refine G3 (fun hc => ?_) (fun hc => ?_))
  · exact Fin.endW (by exact rfl) resA (fun _ h => h) ⟨rfl, rfl⟩
  · simp (disch := omega) only [i64_id, Int.tdiv_eq_ediv_of_nonneg, Go.Pth.go_mx, Go.Pth.go_mn]
    exact Fin.endW (by exact rfl) resA (fun _ h => h) ⟨rfl, rfl⟩
set_option maxHeartbeats 1000000 in
theorem wavoid_tr (F : Nat → Option Obj) (b : Nat) (w : Win) (hw : w.Ok) (n : Int) (hn : 1 ≤ n) (full : Bool) : Tr Tryz.prog 112 [ptr b, .int .i64 n, .bool full].toArray F (winB b w) (fun v H => v = .tuple #[] ∧ H = winB b (avoid w n full)) := by
  refine Tr.enter Tryz.func112 rfl Tryz.ntmps112 rfl (fun w0 => ?_)
  have h1 := hw.mtu; have h2 := hw.most; have h3 := hw.size; have h4 := hw.thresh
  unfold winB winC
  cases full
  all_goals
    repeat' (first | refine S2b ?_ | refine SD ?_ | refine SA (fun _ => ?_) | refine G1 (fun hc => ?_) (fun hc => ?_) | refine G2 (fun hc => ?_) (fun hc => ?_) | refine G3 (fun hc => ?_) (fun hc => ?_))
  · simp (disch := omega) only [i64_id, Int.tdiv_eq_ediv_of_nonneg, Go.Pth.go_mx, Go.Pth.go_mn]
    exact Fin.endW (by exact rfl) resA (fun _ h => h) ⟨rfl, rfl⟩
  · simp (disch := omega) only [i64_id, Go.Pth.go_mn] at hc ⊢
    refine Fin.endW (by exact rfl) resA (fun _ h => h) ⟨rfl, ?_⟩
    unfold avoid
    dsimp only
    rw [hc]
    rfl
  · simp (disch := omega) only [i64_id, Go.Pth.go_mn] at hc ⊢
    refine Fin.endW (by exact rfl) resA (fun _ h => h) ⟨rfl, ?_⟩
    unfold avoid
    dsimp only
    rw [hc]
    rfl
theorem wlower_tr (F : Nat → Option Obj) (b : Nat) (w : Win) (hw : w.Ok) : Tr Tryz.prog 93 [ptr b].toArray F (winB b w) (fun v H => v = .tuple #[] ∧ H = winB b { w with thresh := mx (w.size / 2) (4 * w.mtu), part := 0 }) := by
  refine Tr.enter Tryz.func93 rfl Tryz.ntmps93 rfl (fun w0 => ?_)
  have h1 := hw.mtu; have h2 := hw.most; have h3 := hw.size; have h4 := hw.thresh
  unfold winB winC
  repeat' (first | refine S2b ?_ | refine SD ?_ | refine SA (fun _ => ?_) | refine G1 (fun hc => ?_) (fun hc => ?_) | refine G2 (fun hc => ?_) (fun hc => ?_) | refine G3 (fun hc => ?_) (fun hc => ?_))
  simp (disch := omega) only [i64_id, Int.tdiv_eq_ediv_of_nonneg, Go.Pth.go_mx, Go.Pth.go_mn]
  exact Fin.endW (by exact rfl) resA (fun _ h => h) ⟨rfl, rfl⟩
theorem wfast_tr (F : Nat → Option Obj) (b : Nat) (w : Win) (hw : w.Ok) : Tr Tryz.prog 108 [ptr b].toArray F (winB b w) (fun v H => v = .tuple #[] ∧ H = winB b (winFast w)) := by
  refine Tr.enter Tryz.func108 rfl Tryz.ntmps108 rfl (fun w0 => ?_)
  repeat' (first | refine S2b ?_ | refine SD ?_ | refine SA (fun _ => ?_) | refine G1 (fun hc => ?_) (fun hc => ?_) | refine G2 (fun hc => ?_) (fun hc => ?_) | refine G3 (fun hc => ?_) (fun hc => ?_))
  refine WL.e rfl (Ef.call (by exact rfl) (.all _) (wlower_tr _ b w hw)) ?_
  rintro _ _ ⟨_, ⟨rfl, rfl⟩, rfl⟩
  rw [List.append_nil]
  unfold winB winC
  repeat' (first | refine S2b ?_ | refine SD ?_ | refine SA (fun _ => ?_) | refine G1 (fun hc => ?_) (fun hc => ?_) | refine G2 (fun hc => ?_) (fun hc => ?_) | refine G3 (fun hc => ?_) (fun hc => ?_))
  simp (disch := omega) only [i64_id, Int.tdiv_eq_ediv_of_nonneg, Go.Pth.go_mx, Go.Pth.go_mn]
  exact Fin.endW (by exact rfl) resA (fun _ h => h) ⟨rfl, rfl⟩
theorem wlate_tr (F : Nat → Option Obj) (b : Nat) (w : Win) (hw : w.Ok) : Tr Tryz.prog 62 [ptr b].toArray F (winB b w) (fun v H => v = .tuple #[] ∧ H = winB b (winLate w)) := by
  refine Tr.enter Tryz.func62 rfl Tryz.ntmps62 rfl (fun w0 => ?_)
  repeat' (first | refine S2b ?_ | refine SD ?_ | refine SA (fun _ => ?_) | refine G1 (fun hc => ?_) (fun hc => ?_) | refine G2 (fun hc => ?_) (fun hc => ?_) | refine G3 (fun hc => ?_) (fun hc => ?_))
  refine WL.e rfl (Ef.call (by exact rfl) (.all _) (wlower_tr _ b w hw)) ?_
  rintro _ _ ⟨_, ⟨rfl, rfl⟩, rfl⟩
  rw [List.append_nil]
  unfold winB winC
  repeat' (first | refine S2b ?_ | refine SD ?_ | refine SA (fun _ => ?_) | refine G1 (fun hc => ?_) (fun hc => ?_) | refine G2 (fun hc => ?_) (fun hc => ?_) | refine G3 (fun hc => ?_) (fun hc => ?_))
  exact Fin.endW (by exact rfl) resA (fun _ h => h) ⟨rfl, rfl⟩
set_option maxHeartbeats 1000000 in
theorem wacked_tr (F : Nat → Option Obj) (b : Nat) (w : Win) (hw : w.Ok) (n : Int) (full : Bool) : Tr Tryz.prog 107 [ptr b, .int .i64 n, .bool full].toArray F (winB b w) (fun v H => v = .tuple #[] ∧ H = winB b (winAcked w n full)) := by
  refine Tr.enter Tryz.func107 rfl Tryz.ntmps107 rfl (fun w0 => ?_)
  have h1 := hw.mtu; have h2 := hw.most; have h3 := hw.size; have h4 := hw.thresh
  repeat' (first | refine S2b ?_ | refine SD ?_ | refine SA (fun _ => ?_) | refine G1 (fun hc => ?_) (fun hc => ?_) | refine G2 (fun hc => ?_) (fun hc => ?_) | refine G3 (fun hc => ?_) (fun hc => ?_))
  · refine Fin.retW (by exact rfl) resA (fun _ h => h) ⟨rfl, ?_⟩
    unfold winAcked
    rw [if_pos (of_decide_eq_true hc)]
  · have hn := of_decide_eq_false ‹decide (n < 1) = false›
    refine WL.e rfl (Ef.callV (fv := [ptr b]) (cv := []) (vals := [.int .i64 n, .bool full]) rfl (by exact rfl) rfl (.all _) (wavoid_tr _ b w hw n (by omega) full)) ?_
    rintro _ _ ⟨_, ⟨rfl, rfl⟩, rfl⟩
    rw [List.append_nil]
    have e : winAcked w n full = cap (avoid w n full) := by unfold winAcked; rw [if_neg hn, if_pos (of_decide_eq_true hc)]
    rw [e]
    obtain ⟨q, hq⟩ : ∃ q, avoid w n full = q := ⟨_, rfl⟩
    rw [hq]
    unfold winB winC
    repeat' (first | refine S2b ?_ | refine SD ?_ | refine SA (fun _ => ?_) | refine G1 (fun hc => ?_) (fun hc => ?_) | refine G2 (fun hc => ?_) (fun hc => ?_) | refine G3 (fun hc => ?_) (fun hc => ?_))
    simp (disch := omega) only [i64_id, Int.tdiv_eq_ediv_of_nonneg, Go.Pth.go_mx, Go.Pth.go_mn]
    exact Fin.endW (by exact rfl) resA (fun _ h => h) ⟨rfl, rfl⟩
  · have hn := of_decide_eq_false ‹decide (n < 1) = false›
    refine WL.e rfl (Ef.callV (fv := [ptr b]) (cv := []) (vals := [.int .i64 n, .bool full]) rfl (by exact rfl) rfl (.all _) (wslow_tr _ b w hw n (by omega) full)) ?_
    rintro _ _ ⟨_, ⟨rfl, rfl⟩, rfl⟩
    rw [List.append_nil]
    have e : winAcked w n full = cap (slow w n full) := by unfold winAcked; rw [if_neg hn, if_neg (of_decide_eq_false hc)]
    rw [e]
    obtain ⟨q, hq⟩ : ∃ q, slow w n full = q := ⟨_, rfl⟩
    rw [hq]
    unfold winB winC
    repeat' (first | refine S2b ?_ | refine SD ?_ | refine SA (fun _ => ?_) | refine G1 (fun hc => ?_) (fun hc => ?_) | refine G2 (fun hc => ?_) (fun hc => ?_) | refine G3 (fun hc => ?_) (fun hc => ?_))
    simp (disch := omega) only [i64_id, Int.tdiv_eq_ediv_of_nonneg, Go.Pth.go_mx, Go.Pth.go_mn]
    exact Fin.endW (by exact rfl) resA (fun _ h => h) ⟨rfl, rfl⟩
end Go.Proofs.YtjfpckadjnjmoaaGreat
