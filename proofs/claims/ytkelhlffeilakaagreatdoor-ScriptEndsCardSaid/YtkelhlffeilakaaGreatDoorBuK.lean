/- Some texts as one. Two configs compared. No conditions. The parts of two ends made out of a config, walked: whether they may be. No conditions but that numbers are 64 bits wide. Two ends made out of a config, walked: whether they may be. No conditions but that numbers are 64 bits wide. -/
import Derived.Test.YtkelhlffeilakaaGreatDoorStJ
import Derived.Test.YtkelhlffeilakaaGreatDoorBuD
import Derived.Test.YtkelhlffeilakaaGreatDoorTy
namespace Go.Proofs.YtkelhlffeilakaaGreatDoor
open Go Go.Sl Go.Scr

theorem part_int (w : World) (l : List Value) (i : Nat) (v : Value) (h : l[i]? = some v) : (part 3 l.toArray i).run Tryz.prog w = .ok v w := by
  simp [part, Tryz.isAgg3, h]
theorem part_i64 (w : World) (l : List Value) (i : Nat) (v : Value) (h : l[i]? = some v) : (part 2 l.toArray i).run Tryz.prog w = .ok v w := by
  simp [part, Tryz.isAgg2, h]
theorem eq_int (w : World) (n : Nat) (a c : Int) : (Op.equalIn (n + 1) 3 (.int .i64 a) (.int .i64 c)).run Tryz.prog w = .ok (a == c) w := by
  rw [Op.equalIn, Sem.run_bind, run_underlying Tryz.underlying3]
  simp
theorem eq_i64 (w : World) (n : Nat) (a c : Int) : (Op.equalIn (n + 1) 2 (.int .i64 a) (.int .i64 c)).run Tryz.prog w = .ok (a == c) w := by
  rw [Op.equalIn, Sem.run_bind, run_underlying Tryz.underlying2]
  simp
set_option maxHeartbeats 4000000 in
theorem cfg_eq (w : World) (c d : List Int) (hc : c.length = 14) (hd : d.length = 14) : (Op.equal 23 (.agg (ccells c).toArray) (.agg (ccells d).toArray)).run Tryz.prog w = .ok (decide (c = d)) w := by
  show (Op.equalIn (9998 + 2) _ _ _).run _ w = _
  obtain ⟨a0, a1, a2, a3, a4, a5, a6, a7, a8, a9, a10, a11, a12, a13, rfl⟩ := list14 hc
  obtain ⟨b0, b1, b2, b3, b4, b5, b6, b7, b8, b9, b10, b11, b12, b13, rfl⟩ := list14 hd
  rw [Op.equalIn, Sem.run_bind, run_underlying Tryz.underlying23]
  have g : ∀ (l : List Int) (i : Nat) (x : Int), l[i]? = some x → (ccells l)[i]? = some (.int .i64 x) := fun l i x h => by rw [ccells, List.getElem?_map, h]; rfl
  have p0 := part_int w (ccells [a0, a1, a2, a3, a4, a5, a6, a7, a8, a9, a10, a11, a12, a13]) 0 _ (g _ 0 _ rfl)
  have q0 := part_int w (ccells [b0, b1, b2, b3, b4, b5, b6, b7, b8, b9, b10, b11, b12, b13]) 0 _ (g _ 0 _ rfl)
  have p1 := part_int w (ccells [a0, a1, a2, a3, a4, a5, a6, a7, a8, a9, a10, a11, a12, a13]) 1 _ (g _ 1 _ rfl)
  have q1 := part_int w (ccells [b0, b1, b2, b3, b4, b5, b6, b7, b8, b9, b10, b11, b12, b13]) 1 _ (g _ 1 _ rfl)
  have p2 := part_int w (ccells [a0, a1, a2, a3, a4, a5, a6, a7, a8, a9, a10, a11, a12, a13]) 2 _ (g _ 2 _ rfl)
  have q2 := part_int w (ccells [b0, b1, b2, b3, b4, b5, b6, b7, b8, b9, b10, b11, b12, b13]) 2 _ (g _ 2 _ rfl)
  have p3 := part_int w (ccells [a0, a1, a2, a3, a4, a5, a6, a7, a8, a9, a10, a11, a12, a13]) 3 _ (g _ 3 _ rfl)
  have q3 := part_int w (ccells [b0, b1, b2, b3, b4, b5, b6, b7, b8, b9, b10, b11, b12, b13]) 3 _ (g _ 3 _ rfl)
  have p4 := part_int w (ccells [a0, a1, a2, a3, a4, a5, a6, a7, a8, a9, a10, a11, a12, a13]) 4 _ (g _ 4 _ rfl)
  have q4 := part_int w (ccells [b0, b1, b2, b3, b4, b5, b6, b7, b8, b9, b10, b11, b12, b13]) 4 _ (g _ 4 _ rfl)
  have p5 := part_int w (ccells [a0, a1, a2, a3, a4, a5, a6, a7, a8, a9, a10, a11, a12, a13]) 5 _ (g _ 5 _ rfl)
  have q5 := part_int w (ccells [b0, b1, b2, b3, b4, b5, b6, b7, b8, b9, b10, b11, b12, b13]) 5 _ (g _ 5 _ rfl)
  have p6 := part_i64 w (ccells [a0, a1, a2, a3, a4, a5, a6, a7, a8, a9, a10, a11, a12, a13]) 6 _ (g _ 6 _ rfl)
  have q6 := part_i64 w (ccells [b0, b1, b2, b3, b4, b5, b6, b7, b8, b9, b10, b11, b12, b13]) 6 _ (g _ 6 _ rfl)
  have p7 := part_i64 w (ccells [a0, a1, a2, a3, a4, a5, a6, a7, a8, a9, a10, a11, a12, a13]) 7 _ (g _ 7 _ rfl)
  have q7 := part_i64 w (ccells [b0, b1, b2, b3, b4, b5, b6, b7, b8, b9, b10, b11, b12, b13]) 7 _ (g _ 7 _ rfl)
  have p8 := part_i64 w (ccells [a0, a1, a2, a3, a4, a5, a6, a7, a8, a9, a10, a11, a12, a13]) 8 _ (g _ 8 _ rfl)
  have q8 := part_i64 w (ccells [b0, b1, b2, b3, b4, b5, b6, b7, b8, b9, b10, b11, b12, b13]) 8 _ (g _ 8 _ rfl)
  have p9 := part_i64 w (ccells [a0, a1, a2, a3, a4, a5, a6, a7, a8, a9, a10, a11, a12, a13]) 9 _ (g _ 9 _ rfl)
  have q9 := part_i64 w (ccells [b0, b1, b2, b3, b4, b5, b6, b7, b8, b9, b10, b11, b12, b13]) 9 _ (g _ 9 _ rfl)
  have p10 := part_i64 w (ccells [a0, a1, a2, a3, a4, a5, a6, a7, a8, a9, a10, a11, a12, a13]) 10 _ (g _ 10 _ rfl)
  have q10 := part_i64 w (ccells [b0, b1, b2, b3, b4, b5, b6, b7, b8, b9, b10, b11, b12, b13]) 10 _ (g _ 10 _ rfl)
  have p11 := part_i64 w (ccells [a0, a1, a2, a3, a4, a5, a6, a7, a8, a9, a10, a11, a12, a13]) 11 _ (g _ 11 _ rfl)
  have q11 := part_i64 w (ccells [b0, b1, b2, b3, b4, b5, b6, b7, b8, b9, b10, b11, b12, b13]) 11 _ (g _ 11 _ rfl)
  have p12 := part_int w (ccells [a0, a1, a2, a3, a4, a5, a6, a7, a8, a9, a10, a11, a12, a13]) 12 _ (g _ 12 _ rfl)
  have q12 := part_int w (ccells [b0, b1, b2, b3, b4, b5, b6, b7, b8, b9, b10, b11, b12, b13]) 12 _ (g _ 12 _ rfl)
  have p13 := part_int w (ccells [a0, a1, a2, a3, a4, a5, a6, a7, a8, a9, a10, a11, a12, a13]) 13 _ (g _ 13 _ rfl)
  have q13 := part_int w (ccells [b0, b1, b2, b3, b4, b5, b6, b7, b8, b9, b10, b11, b12, b13]) 13 _ (g _ 13 _ rfl)
  have f1 : ∀ a c : Int, (Op.equalIn 9999 3 (.int .i64 a) (.int .i64 c)).run Tryz.prog w = .ok (a == c) w := eq_int w 9998
  have f2 : ∀ a c : Int, (Op.equalIn 9999 2 (.int .i64 a) (.int .i64 c)).run Tryz.prog w = .ok (a == c) w := eq_i64 w 9998
  by_cases e : [a0, a1, a2, a3, a4, a5, a6, a7, a8, a9, a10, a11, a12, a13] = [b0, b1, b2, b3, b4, b5, b6, b7, b8, b9, b10, b11, b12, b13]
  · rw [decide_eq_true e]
    simp only [List.cons.injEq, and_true] at e
    obtain ⟨e0, e1, e2, e3, e4, e5, e6, e7, e8, e9, e10, e11, e12, e13⟩ := e
    simp [p0, q0, p1, q1, p2, q2, p3, q3, p4, q4, p5, q5, p6, q6, p7, q7, p8, q8, p9, q9, p10, q10, p11, q11, p12, q12, p13, q13, f1, f2]
    simp [e0, e1, e2, e3, e4, e5, e6, e7, e8, e9, e10, e11, e12, e13]
  · rw [decide_eq_false e]
    simp [p0, q0, p1, q1, p2, q2, p3, q3, p4, q4, p5, q5, p6, q6, p7, q7, p8, q8, p9, q9, p10, q10, p11, q11, p12, q12, p13, q13, f1, f2]
    clear g f1 f2 p0 q0 p1 q1 p2 q2 p3 q3 p4 q4 p5 q5 p6 q6 p7 q7 p8 q8 p9 q9 p10 q10 p11 q11 p12 q12 p13 q13
    intro e0 e1 e2 e3 e4 e5 e6 e7 e8 e9 e10 e11 e12 e13
    exact e (by rw [e0, e1, e2, e3, e4, e5, e6, e7, e8, e9, e10, e11, e12, e13])
section
variable {x : Cx} {env : Env} {dst : Option Tmp} {ty : TypeId} {pos : String} {aft : Array Edge} {gd : Option (Nat × Bool)}
theorem Pu.eqCfg (hP : x.P = Tryz.prog) {p q : Operand} {c d : List Int} (hp : ev env p = some (.agg (ccells c).toArray)) (hq : ev env q = some (.agg (ccells d).toArray)) (hc : c.length = 14) (hd : d.length = 14) :
    Pu x env ⟨dst, .binOp .eql 23 p q 23, ty, pos, aft, gd⟩ (.bool (decide (c = d))) := ⟨fun a' he w => by
  rw [hP]
  have h := cfg_eq w c d hc hd
  have g : Tryz.prog.eqGuardType Tryz.prog.depth 23 = false := by kernel_rfl
  simp [execOp, he.eval hp, he.eval hq, eqGuard, g, binOp, h]⟩
end
end Go.Proofs.YtkelhlffeilakaaGreatDoor
namespace Go.Proofs.YtkelhlffeilakaaGreatDoor
open Go Go.Sl Go.Scr

/-- what a New answers: a pointer, or the error 1 -/
def NewQ (b : Prop) (v : Value) : Prop := (b ∧ ∃ a, v = tup [.pointer (some a), .int .i64 0]) ∨ (¬ b ∧ v = tup [.pointer none, .int .i64 1])
def winOk (m p : Int) : Prop := 128 ≤ m ∧ m ≤ 1500 ∧ 4 * m ≤ p ∧ p ≤ 16777216
def flightOk (n : Int) : Prop := 1 ≤ n ∧ n ≤ 4
def delayOk (n : Int) : Prop := 0 ≤ n ∧ n ≤ 1048576
def outqOk (n r : Int) : Prop := (1 ≤ n ∧ n ≤ 16) ∧ (1 ≤ r ∧ r ≤ 1048576)
def reasmOk (n : Int) : Prop := 1 ≤ n ∧ n ≤ 16
def rtoOk (f l m : Int) : Prop := (1 ≤ l ∧ m ≤ 1048576) ∧ (l ≤ f ∧ f ≤ m)
def pathOkC (f l m mtu cap re beat : Int) : Prop := (rtoOk f l m ∧ winOk mtu cap) ∧ ((0 ≤ re ∧ re ≤ 20) ∧ (1 ≤ beat ∧ beat ≤ 1048576))
/-- a closed fact of the numbers at hand -/
theorem okA {P : Prop} (h : P := by (try simp only [decide_eq_true_eq, decide_eq_false_iff_not, bne_iff_ne, ne_eq, bne_eq_false_iff_eq, rtoOk, winOk, pathOkC, outqOk, flightOk, reasmOk, delayOk] at *); omega) : P := h
set_option maxHeartbeats 4000000 in
theorem winNew_tr (F : Nat → Option Obj) (m p : Int) : Tr Tryz.prog 116 [.int .i64 m, .int .i64 p].toArray F [] (fun v _ => NewQ (winOk m p) v) := by
  refine Tr.enter Tryz.func116 rfl Tryz.ntmps116 rfl (fun w0 => ?_)
  have e4 : 128 ≤ m → m ≤ 1500 → IntKind.i64.wrap (4 * m) = 4 * m := fun h1 h2 => i64_id (by omega) (by omega)
  refine SP ?_; repeat' (first|refine ⟨fun hc=>?_,fun hc=>?_⟩|intro)
  all_goals first
    | exact Fin.retW (by exact rfl) resA (H' := []) (fun _ h => h.sublist (List.nil_sublist _)) (.inr ⟨okA, rfl⟩)
    | exact Fin.retW (by exact rfl) resA (H' := []) (fun _ h => h.sublist (List.nil_sublist _)) (.inl ⟨okA, _, rfl⟩)
theorem flightNew_tr (F : Nat → Option Obj) (n f : Int) : Tr Tryz.prog 79 [.int .i64 n, .int .u32 f].toArray F [] (fun v _ => NewQ (flightOk n) v) := by
  refine Tr.enter Tryz.func79 rfl Tryz.ntmps79 rfl (fun w0 => ?_)
  refine SP ?_; repeat' (first|refine ⟨fun hc=>?_,fun hc=>?_⟩|intro)
  all_goals first
    | exact Fin.retW (by exact rfl) resA (H' := []) (fun _ h => h.sublist (List.nil_sublist _)) (.inr ⟨okA, rfl⟩)
    | exact Fin.retW (by exact rfl) resA (H' := []) (fun _ h => h.sublist (List.nil_sublist _)) (.inl ⟨okA, _, rfl⟩)
theorem delayNew_tr (F : Nat → Option Obj) (n : Int) : Tr Tryz.prog 77 [.int .i64 n].toArray F [] (fun v _ => NewQ (delayOk n) v) := by
  refine Tr.enter Tryz.func77 rfl Tryz.ntmps77 rfl (fun w0 => ?_)
  refine SP ?_; repeat' (first|refine ⟨fun hc=>?_,fun hc=>?_⟩|intro)
  all_goals first
    | exact Fin.retW (by exact rfl) resA (H' := []) (fun _ h => h.sublist (List.nil_sublist _)) (.inr ⟨okA, rfl⟩)
    | exact Fin.retW (by exact rfl) resA (H' := []) (fun _ h => h.sublist (List.nil_sublist _)) (.inl ⟨okA, _, rfl⟩)
theorem outqNew_tr (F : Nat → Option Obj) (n r : Int) : Tr Tryz.prog 80 [.int .i64 n, .int .i64 r].toArray F [] (fun v _ => NewQ (outqOk n r) v) := by
  refine Tr.enter Tryz.func80 rfl Tryz.ntmps80 rfl (fun w0 => ?_)
  refine SP ?_; repeat' (first|refine ⟨fun hc=>?_,fun hc=>?_⟩|intro)
  any_goals exact Fin.retW (by exact rfl) resA (H' := []) (fun _ h => h.sublist (List.nil_sublist _)) (.inr ⟨okA, rfl⟩)
  try simp only [decide_eq_true_eq, decide_eq_false_iff_not] at *
  obtain ⟨k, rfl⟩ : ∃ k : Nat, n = k := ⟨n.toNat, by omega⟩
  refine WL.e rfl (Ef.mkS (n := k) (z := [.int .u16 0]) rfl rfl rfl rfl (by omega) (by omega)) ?_
  rintro _ _ ⟨g, rfl, rfl⟩
  refine SP ?_; repeat' (first|refine ⟨fun hc=>?_,fun hc=>?_⟩|intro)
  all_goals first
    | exact Fin.retW (by exact rfl) resA (H' := []) (fun _ h => h.sublist (List.nil_sublist _)) (.inr ⟨okA, rfl⟩)
    | exact Fin.retW (by exact rfl) resA (H' := []) (fun _ h => h.sublist (List.nil_sublist _)) (.inl ⟨okA, _, rfl⟩)
theorem reasmNew_tr (F : Nat → Option Obj) (n : Int) : Tr Tryz.prog 76 [.int .i64 n].toArray F [] (fun v _ => NewQ (reasmOk n) v) := by
  refine Tr.enter Tryz.func76 rfl Tryz.ntmps76 rfl (fun w0 => ?_)
  refine SP ?_; repeat' (first|refine ⟨fun hc=>?_,fun hc=>?_⟩|intro)
  any_goals exact Fin.retW (by exact rfl) resA (H' := []) (fun _ h => h.sublist (List.nil_sublist _)) (.inr ⟨okA, rfl⟩)
  try simp only [decide_eq_true_eq, decide_eq_false_iff_not] at *
  obtain ⟨k, rfl⟩ : ∃ k : Nat, n = k := ⟨n.toNat, by omega⟩
  refine WL.e rfl (Ef.mkS (n := k) (z := [.int .u16 0]) rfl rfl rfl rfl (by omega) (by omega)) ?_
  rintro _ _ ⟨g, rfl, rfl⟩
  refine SP ?_; repeat' (first|refine ⟨fun hc=>?_,fun hc=>?_⟩|intro)
  all_goals first
    | exact Fin.retW (by exact rfl) resA (H' := []) (fun _ h => h.sublist (List.nil_sublist _)) (.inr ⟨okA, rfl⟩)
    | exact Fin.retW (by exact rfl) resA (H' := []) (fun _ h => h.sublist (List.nil_sublist _)) (.inl ⟨okA, _, rfl⟩)
theorem spansNew_tr (F : Nat → Option Obj) (n : Int) : Tr Tryz.prog 114 [.int .u32 n].toArray F [] (fun v _ => ∃ a, v = .pointer (some a)) := by
  refine Tr.enter Tryz.func114 rfl Tryz.ntmps114 rfl (fun w0 => ?_)
  refine SP ?_; repeat' (first|refine ⟨fun hc=>?_,fun hc=>?_⟩|intro)
  exact Fin.retW (by exact rfl) resA (H' := []) (fun _ h => h.sublist (List.nil_sublist _)) ⟨_, rfl⟩
theorem begin_tr (F : Nat → Option Obj) (n : Int) : Tr Tryz.prog 78 [.int .u32 n].toArray F [] (fun v _ => ∃ a, v = .pointer (some a)) := by
  refine Tr.enter Tryz.func78 rfl Tryz.ntmps78 rfl (fun w0 => ?_)
  refine SP ?_; repeat' (first|refine ⟨fun hc=>?_,fun hc=>?_⟩|intro)
  refine WL.e rfl (Ef.callW (c := []) (by exact rfl) (Sub.nil _) (fun F' hF => spansNew_tr F' _)) ?_
  rintro _ _ ⟨_, ⟨a, rfl⟩, rfl⟩
  refine SP ?_; repeat' (first|refine ⟨fun hc=>?_,fun hc=>?_⟩|intro)
  exact Fin.retW (by exact rfl) resA (H' := []) (fun _ h => h.sublist (List.nil_sublist _)) ⟨_, rfl⟩
theorem btw_tr (F : Nat → Option Obj) (x l m : Int) : Tr Tryz.prog 170 [.int .i64 x, .int .i64 l, .int .i64 m].toArray F [] (fun v H' => v = .int .i64 (min (max x l) m) ∧ H' = []) := by
  refine Tr.enter Tryz.func170 rfl Tryz.ntmps170 rfl (fun w0 => ?_)
  refine SP ?_; repeat' (first|refine ⟨fun hc=>?_,fun hc=>?_⟩|intro)
  refine Fin.retW (by exact rfl) resA (H' := []) (fun _ h => h) ⟨?_, rfl⟩
  show Value.int .i64 _ = _
  refine congrArg (Value.int .i64) ?_
  split <;> split <;> omega
theorem rtoNew_tr (F : Nat → Option Obj) (f l m : Int) : Tr Tryz.prog 115 [.int .i64 f, .int .i64 l, .int .i64 m].toArray F [] (fun v _ => NewQ (rtoOk f l m) v) := by
  refine Tr.enter Tryz.func115 rfl Tryz.ntmps115 rfl (fun w0 => ?_)
  refine SP ?_; repeat' (first|refine ⟨fun hc=>?_,fun hc=>?_⟩|intro)
  any_goals exact Fin.retW (by exact rfl) resA (H' := []) (fun _ h => h.sublist (List.nil_sublist _)) (.inr ⟨okA, rfl⟩)
  refine WL.e rfl (Ef.lookR (by exact rfl) (fun F' hF => btw_tr F' f l m)) ?_
  rintro _ _ ⟨rfl, rfl⟩
  refine SP ?_; repeat' (first|refine ⟨fun hc=>?_,fun hc=>?_⟩|intro)
  all_goals first
    | exact Fin.retW (by exact rfl) resA (H' := []) (fun _ h => h.sublist (List.nil_sublist _)) (.inr ⟨okA, rfl⟩)
    | exact Fin.retW (by exact rfl) resA (H' := []) (fun _ h => h.sublist (List.nil_sublist _)) (.inl ⟨okA, _, rfl⟩)
theorem pathNew_tr (F : Nat → Option Obj) (c : List Int) (hc : c.length = 14) : Tr Tryz.prog 81 [.agg (ccells c).toArray, .int .i64 0].toArray F [] (fun v _ => NewQ (pathOkC (c.getD 6 0) (c.getD 7 0) (c.getD 8 0) (c.getD 1 0) (c.getD 5 0) (c.getD 12 0) (c.getD 11 0)) v) := by
  refine Tr.enter Tryz.func81 rfl Tryz.ntmps81 rfl (fun w0 => ?_)
  obtain ⟨a0, a1, a2, a3, a4, a5, a6, a7, a8, a9, a10, a11, a12, a13, rfl⟩ := list14 hc
  unfold ccells
  simp only [List.map_cons, List.map_nil]
  simp only [List.getD_cons_zero, List.getD_cons_succ]
  refine SP ?_; repeat' (first|refine ⟨fun hc=>?_,fun hc=>?_⟩|intro)
  refine WL.e rfl (Ef.callW (c := []) (by exact rfl) (Sub.nil _) (fun F' hF => rtoNew_tr F' a6 a7 a8)) ?_
  rintro _ _ ⟨_, (⟨h1, p1, rfl⟩ | ⟨h1, rfl⟩), rfl⟩
  · refine SP ?_; repeat' (first|refine ⟨fun hc=>?_,fun hc=>?_⟩|intro)
    refine WL.e rfl (Ef.callW (c := []) (by exact rfl) (Sub.nil _) (fun F' hF => winNew_tr F' a1 a5)) ?_
    rintro _ _ ⟨_, (⟨h2, p2, rfl⟩ | ⟨h2, rfl⟩), rfl⟩
    · refine SP ?_; repeat' (first|refine ⟨fun hc=>?_,fun hc=>?_⟩|intro)
      all_goals first
        | exact Fin.retW (by exact rfl) resA (H' := []) (fun _ h => h.sublist (List.nil_sublist _)) (.inr ⟨okA, rfl⟩)
        | exact Fin.retW (by exact rfl) resA (H' := []) (fun _ h => h.sublist (List.nil_sublist _)) (.inl ⟨okA, _, rfl⟩)
    · refine SP ?_; repeat' (first|refine ⟨fun hc=>?_,fun hc=>?_⟩|intro)
      all_goals first
        | exact Fin.retW (by exact rfl) resA (H' := []) (fun _ h => h.sublist (List.nil_sublist _)) (.inr ⟨okA, rfl⟩)
        | exact Fin.retW (by exact rfl) resA (H' := []) (fun _ h => h.sublist (List.nil_sublist _)) (.inl ⟨okA, _, rfl⟩)
  · refine SP ?_; repeat' (first|refine ⟨fun hc=>?_,fun hc=>?_⟩|intro)
    all_goals first
      | exact Fin.retW (by exact rfl) resA (H' := []) (fun _ h => h.sublist (List.nil_sublist _)) (.inr ⟨okA, rfl⟩)
      | exact Fin.retW (by exact rfl) resA (H' := []) (fun _ h => h.sublist (List.nil_sublist _)) (.inl ⟨okA, _, rfl⟩)
end Go.Proofs.YtkelhlffeilakaaGreatDoor
namespace Go.Proofs.YtkelhlffeilakaaGreatDoor
open Go Go.Sl Go.Scr

def recvOk (mtu room streams dl : Int) : Prop := ((128 ≤ mtu ∧ mtu ≤ 1500) ∧ (mtu ≤ room ∧ room ≤ 1048576)) ∧ (reasmOk streams ∧ delayOk dl)
def sendOk (paths streams room f l m mtu cap re beat : Int) : Prop := (flightOk paths ∧ outqOk streams room) ∧ pathOkC f l m mtu cap re beat
def rightOk (paths streams room f m life tries : Int) : Prop := ((1 ≤ paths ∧ paths ≤ 4) ∧ (1 ≤ streams ∧ streams ≤ 16)) ∧ ((1 ≤ room ∧ room ≤ 1048576) ∧ (1 ≤ f ∧ f ≤ m ∧ m ≤ 1048576)) ∧ ((0 ≤ life ∧ life ≤ 1048576) ∧ (1 ≤ tries ∧ tries ≤ 40))
def endOkC (c : List Int) : Prop := rightOk (c.getD 0 0) (c.getD 2 0) (c.getD 4 0) (c.getD 6 0) (c.getD 8 0) (c.getD 10 0) (c.getD 13 0) ∧ (1 ≤ c.getD 7 0 ∧ c.getD 7 0 ≤ c.getD 6 0 ∧ 0 ≤ c.getD 9 0 ∧ c.getD 9 0 ≤ 1048576) ∧
  recvOk (c.getD 1 0) (c.getD 4 0) (c.getD 2 0) (c.getD 9 0) ∧ sendOk (c.getD 0 0) (c.getD 2 0) (c.getD 3 0) (c.getD 6 0) (c.getD 7 0) (c.getD 8 0) (c.getD 1 0) (c.getD 5 0) (c.getD 12 0) (c.getD 11 0)
/-- a closed fact of the numbers at hand -/
theorem okB {P : Prop} (h : P := by (try simp only [decide_eq_true_eq, decide_eq_false_iff_not, bne_iff_ne, ne_eq, bne_eq_false_iff_eq, rtoOk, winOk, pathOkC, outqOk, flightOk, reasmOk, delayOk, recvOk, sendOk, rightOk, endOkC] at *); omega) : P := h
set_option maxHeartbeats 4000000 in
theorem recvNew_tr (F : Nat → Option Obj) (c : List Int) (hc : c.length = 14) : Tr Tryz.prog 34 [.agg (ccells c).toArray, .int .u32 0].toArray F [] (fun v _ => NewQ (recvOk (c.getD 1 0) (c.getD 4 0) (c.getD 2 0) (c.getD 9 0)) v) := by
  refine Tr.enter Tryz.func34 rfl Tryz.ntmps34 rfl (fun w0 => ?_)
  obtain ⟨a0, a1, a2, a3, a4, a5, a6, a7, a8, a9, a10, a11, a12, a13, rfl⟩ := list14 hc
  unfold ccells
  simp only [List.map_cons, List.map_nil]
  simp only [List.getD_cons_zero, List.getD_cons_succ]
  refine SP ?_; repeat' (first|refine ⟨fun hc=>?_,fun hc=>?_⟩|intro)
  any_goals exact Fin.retW (by exact rfl) resA (H' := []) (fun _ h => h.sublist (List.nil_sublist _)) (.inr ⟨okB, rfl⟩)
  refine WL.e rfl (Ef.callW (c := []) (by exact rfl) (Sub.nil _) (fun F' hF => reasmNew_tr F' a2)) ?_
  rintro _ _ ⟨_, (⟨h1, p1, rfl⟩ | ⟨h1, rfl⟩), rfl⟩
  · refine SP ?_; repeat' (first|refine ⟨fun hc=>?_,fun hc=>?_⟩|intro)
    refine WL.e rfl (Ef.callW (c := []) (by exact rfl) (Sub.nil _) (fun F' hF => delayNew_tr F' a9)) ?_
    rintro _ _ ⟨_, (⟨h2, p2, rfl⟩ | ⟨h2, rfl⟩), rfl⟩
    · refine SP ?_; repeat' (first|refine ⟨fun hc=>?_,fun hc=>?_⟩|intro)
      refine W.drawA ?_
      refine SP ?_; repeat' (first|refine ⟨fun hc=>?_,fun hc=>?_⟩|intro)
      refine WD.e rfl (Ef.callW (c := []) (by exact rfl) (Sub.nil _) (fun F' hF => begin_tr F' 0)) ?_
      rintro _ _ ⟨_, ⟨p3, rfl⟩, rfl⟩
      refine ⟨.inr (fun _ h => h.sublist (List.sublist_append_right _ _)), ?_⟩
      refine SP ?_; repeat' (first|refine ⟨fun hc=>?_,fun hc=>?_⟩|intro)
      all_goals first
        | exact Fin.retW (by exact rfl) resA (H' := []) (fun _ h => h.sublist (List.nil_sublist _)) (.inr ⟨okB, rfl⟩)
        | exact Fin.retW (by exact rfl) resA (H' := []) (fun _ h => h.sublist (List.nil_sublist _)) (.inl ⟨okB, _, rfl⟩)
    · refine SP ?_; repeat' (first|refine ⟨fun hc=>?_,fun hc=>?_⟩|intro)
      all_goals first
        | exact Fin.retW (by exact rfl) resA (H' := []) (fun _ h => h.sublist (List.nil_sublist _)) (.inr ⟨okB, rfl⟩)
        | exact Fin.retW (by exact rfl) resA (H' := []) (fun _ h => h.sublist (List.nil_sublist _)) (.inl ⟨okB, _, rfl⟩)
  · refine SP ?_; repeat' (first|refine ⟨fun hc=>?_,fun hc=>?_⟩|intro)
    all_goals first
      | exact Fin.retW (by exact rfl) resA (H' := []) (fun _ h => h.sublist (List.nil_sublist _)) (.inr ⟨okB, rfl⟩)
      | exact Fin.retW (by exact rfl) resA (H' := []) (fun _ h => h.sublist (List.nil_sublist _)) (.inl ⟨okB, _, rfl⟩)
structure SnG where
  i : Nat
  xs : List Value
  wa : Option Addr
  wn : Nat
  wc : Nat
  hb : HL
set_option maxHeartbeats 8000000 in
theorem sendNew_tr (F : Nat → Option Obj) (c : List Int) (hc : c.length = 14) : Tr Tryz.prog 35 [.agg (ccells c).toArray, .int .u32 0, .int .u32 0, .int .i64 0].toArray F [] (fun v _ => NewQ (sendOk (c.getD 0 0) (c.getD 2 0) (c.getD 3 0) (c.getD 6 0) (c.getD 7 0) (c.getD 8 0) (c.getD 1 0) (c.getD 5 0) (c.getD 12 0) (c.getD 11 0)) v) := by
  refine Tr.enter Tryz.func35 rfl Tryz.ntmps35 rfl (fun w0 => ?_)
  have hpn := fun F' => pathNew_tr F' c hc
  obtain ⟨cs, hcs⟩ : ∃ cs, cs = ccells c := ⟨_, rfl⟩
  obtain ⟨a0, a1, a2, a3, a4, a5, a6, a7, a8, a9, a10, a11, a12, a13, rfl⟩ := list14 hc
  unfold ccells
  simp only [List.map_cons, List.map_nil]
  simp only [List.getD_cons_zero, List.getD_cons_succ]
  refine SP ?_; repeat' (first|refine ⟨fun hc=>?_,fun hc=>?_⟩|intro)
  refine WL.e rfl (Ef.callW (c := []) (by exact rfl) (Sub.nil _) (fun F' hF => flightNew_tr F' a0 0)) ?_
  rintro _ _ ⟨_, (⟨h1, p1, rfl⟩ | ⟨h1, rfl⟩), rfl⟩
  · refine SP ?_; repeat' (first|refine ⟨fun hc=>?_,fun hc=>?_⟩|intro)
    refine WL.e rfl (Ef.callW (c := []) (by exact rfl) (Sub.nil _) (fun F' hF => outqNew_tr F' a2 a3)) ?_
    rintro _ _ ⟨_, (⟨h2, p2, rfl⟩ | ⟨h2, rfl⟩), rfl⟩
    · refine SP ?_; repeat' (first|refine ⟨fun hc=>?_,fun hc=>?_⟩|intro)
      rename_i b1 k1 k2 b2
      unfold ccells at hpn
      simp only [List.map_cons, List.map_nil, List.getD_cons_zero, List.getD_cons_succ] at hpn
      rw [show IntKind.i64.wrap (if (1048576 : Int) < 0 then 1048576 else 0) = 0 from by decide]
      obtain ⟨r3, hr3⟩ : ∃ r, r = IntKind.i64.wrap (a0 - 1) := ⟨_, rfl⟩
      rw [← hr3]
      have ha0 : 1 ≤ a0 ∧ a0 ≤ 4 := h1
      refine W.loop (G := SnG) (fun g => [(4, .pointer (some ⟨b1, 0, none⟩)), (3, .int .i64 0), (13, .pointer (some ⟨b2, 0, none⟩)), (57, .int .i64 a0), (58, .int .i64 g.i)])
        (fun g => (b2, .cells ([.pointer (some p2), .pointer (some p1), .slice g.wa g.wn g.wc, .int .i64 0, .int .i64 0, .int .i64 a1, .slice none 0 0, .slice none 0 0, .bool false, .int .u32 0, .int .i64 0, .int .i64 r3] : List Value).toArray 172 (0, 0)) :: (b1, .cells ([.int .i64 a0, .int .i64 a1, .int .i64 a2, .int .i64 a3, .int .i64 a4, .int .i64 a5, .int .i64 a6, .int .i64 a7, .int .i64 a8, .int .i64 a9, .int .i64 a10, .int .i64 a11, .int .i64 a12, .int .i64 a13] : List Value).toArray 23 (0, 0)) :: g.hb)
        (fun g => (g.i : Int) ≤ a0 ∧ (1 ≤ g.i → pathOkC a6 a7 a8 a1 a5 a12 a11) ∧ g.xs.length = g.i ∧ OwnS 176 1 g.xs (.slice g.wa g.wn g.wc) g.hb) (fun g => a0.toNat - g.i) ⟨0, [], none, 0, 0, []⟩ ⟨(show ((0 : Nat) : Int) ≤ a0 by omega), fun h => absurd h (by decide), rfl, .inl ⟨rfl, rfl, rfl⟩⟩ envA (fun _ h => In.of_sub (.pick .here (.pick (.right (.right .here)) (.nil _))) h) ?_
      rintro ⟨i, xs, wa, wn, wc, hb⟩ ⟨hi, hp, hxl, hown⟩
      dsimp only at hi hp hxl hown ⊢
      refine SP ?_; repeat' (first|refine ⟨fun hc=>?_,fun hc=>?_⟩|intro)
      · refine WL.e rfl (Ef.callW (c := []) (by exact rfl) (Sub.nil _) (fun F' hF => hpn F')) ?_
        rintro _ _ ⟨k3, (⟨h3, p3, rfl⟩ | ⟨h3, rfl⟩), rfl⟩
        · refine SP ?_; repeat' (first|refine ⟨fun hc=>?_,fun hc=>?_⟩|intro)
          have hia : (i : Int) < a0 := of_decide_eq_true hc
          refine WL.e rfl (Ef.app (m := 1) (hb := hb) (by exact rfl) (by exact rfl) rfl rfl hown (.last (.there (.there (.right (.there (.there .all)))))) (Src.own (n := 1) (.here rfl)) rfl (by simp [Value.oneCell']) (by simp; omega) (by simp [maxLen]; omega)) ?_
          rintro _ _ ⟨hb', hown', rfl⟩
          obtain ⟨wa', wn', wc', rfl, _, _⟩ := hown'.shape
          refine SP ?_; repeat' (first|refine ⟨fun hc=>?_,fun hc=>?_⟩|intro)
          rw [i64_succ (by omega)]
          exact Fin.round ⟨i + 1, _, wa', wn', wc', hb'⟩ ⟨(show ((i + 1 : Nat) : Int) ≤ a0 by omega), fun _ => h3, by simp [hxl], hown'⟩ envA (fun _ h => In.of_sub (.pick (.right (.there (.there (.right .here)))) (.pick (.right (.there (.there (.right .here)))) (.last (L := hb') .here))) h) (by dsimp only; omega)
        · refine SP ?_; repeat' (first|refine ⟨fun hc=>?_,fun hc=>?_⟩|intro)
          all_goals first
            | exact Fin.retW (by exact rfl) resA (H' := []) (fun _ h => h.sublist (List.nil_sublist _)) (.inr ⟨okB, rfl⟩)
            | exact Fin.retW (by exact rfl) resA (H' := []) (fun _ h => h.sublist (List.nil_sublist _)) (.inl ⟨okB, _, rfl⟩)
      · have hp := hp (by simp at hc; omega)
        all_goals first
          | exact Fin.retW (by exact rfl) resA (H' := []) (fun _ h => h.sublist (List.nil_sublist _)) (.inr ⟨okB, rfl⟩)
          | exact Fin.retW (by exact rfl) resA (H' := []) (fun _ h => h.sublist (List.nil_sublist _)) (.inl ⟨okB, _, rfl⟩)
    · refine SP ?_; repeat' (first|refine ⟨fun hc=>?_,fun hc=>?_⟩|intro)
      all_goals first
        | exact Fin.retW (by exact rfl) resA (H' := []) (fun _ h => h.sublist (List.nil_sublist _)) (.inr ⟨okB, rfl⟩)
        | exact Fin.retW (by exact rfl) resA (H' := []) (fun _ h => h.sublist (List.nil_sublist _)) (.inl ⟨okB, _, rfl⟩)
  · refine SP ?_; repeat' (first|refine ⟨fun hc=>?_,fun hc=>?_⟩|intro)
    all_goals first
      | exact Fin.retW (by exact rfl) resA (H' := []) (fun _ h => h.sublist (List.nil_sublist _)) (.inr ⟨okB, rfl⟩)
      | exact Fin.retW (by exact rfl) resA (H' := []) (fun _ h => h.sublist (List.nil_sublist _)) (.inl ⟨okB, _, rfl⟩)
theorem within_tr (F : Nat → Option Obj) (x l m : Int) : Tr Tryz.prog 113 [.int .i64 x, .int .i64 l, .int .i64 m].toArray F [] (fun v H' => v = .bool (decide (l ≤ x ∧ x ≤ m)) ∧ H' = []) := by
  refine Tr.enter Tryz.func113 rfl Tryz.ntmps113 rfl (fun w0 => ?_)
  refine SP ?_; repeat' (first|refine ⟨fun hc=>?_,fun hc=>?_⟩|intro)
  · refine Fin.retW (by exact rfl) resA (H' := []) (fun _ h => h) ⟨?_, rfl⟩
    exact congrArg Value.bool (decide_eq_decide.2 ⟨fun h => ⟨of_decide_eq_true hc, h⟩, fun h => h.2⟩)
  · refine Fin.retW (by exact rfl) resA (H' := []) (fun _ h => h) ⟨?_, rfl⟩
    exact congrArg Value.bool (decide_eq_false (fun h => of_decide_eq_false hc h.1)).symm
set_option maxHeartbeats 8000000 in
theorem right_tr (F : Nat → Option Obj) (c : List Int) (hc : c.length = 14) : Tr Tryz.prog 75 [.agg (ccells c).toArray].toArray F [] (fun v H' => (∃ b, v = .bool b ∧ (b = true ↔ rightOk (c.getD 0 0) (c.getD 2 0) (c.getD 4 0) (c.getD 6 0) (c.getD 8 0) (c.getD 10 0) (c.getD 13 0))) ∧ H' = []) := by
  refine Tr.enter Tryz.func75 rfl Tryz.ntmps75 rfl (fun w0 => ?_)
  obtain ⟨a0, a1, a2, a3, a4, a5, a6, a7, a8, a9, a10, a11, a12, a13, rfl⟩ := list14 hc
  unfold ccells
  simp only [List.map_cons, List.map_nil]
  simp only [List.getD_cons_zero, List.getD_cons_succ]
  refine SP ?_; repeat' (first|refine ⟨fun hc=>?_,fun hc=>?_⟩|intro)
  refine WL.e rfl (Ef.lookV (f := 113) (fv := []) (cv := []) (vals := [.int .i64 _, .int .i64 _, .int .i64 _]) rfl (by exact rfl) rfl (fun F' hF => within_tr F' _ _ _)) ?_
  rintro _ _ ⟨rfl, rfl⟩
  refine SP ?_; repeat' (first|refine ⟨fun hc=>?_,fun hc=>?_⟩|intro)
  refine WL.e rfl (Ef.lookV (f := 113) (fv := []) (cv := []) (vals := [.int .i64 _, .int .i64 _, .int .i64 _]) rfl (by exact rfl) rfl (fun F' hF => within_tr F' _ _ _)) ?_
  rintro _ _ ⟨rfl, rfl⟩
  refine SP ?_; repeat' (first|refine ⟨fun hc=>?_,fun hc=>?_⟩|intro)
  refine WL.e rfl (Ef.lookV (f := 113) (fv := []) (cv := []) (vals := [.int .i64 _, .int .i64 _, .int .i64 _]) rfl (by exact rfl) rfl (fun F' hF => within_tr F' _ _ _)) ?_
  rintro _ _ ⟨rfl, rfl⟩
  refine SP ?_; repeat' (first|refine ⟨fun hc=>?_,fun hc=>?_⟩|intro)
  refine WL.e rfl (Ef.lookV (f := 113) (fv := []) (cv := []) (vals := [.int .i64 _, .int .i64 _, .int .i64 _]) rfl (by exact rfl) rfl (fun F' hF => within_tr F' _ _ _)) ?_
  rintro _ _ ⟨rfl, rfl⟩
  refine SP ?_; repeat' (first|refine ⟨fun hc=>?_,fun hc=>?_⟩|intro)
  refine WL.e rfl (Ef.lookV (f := 113) (fv := []) (cv := []) (vals := [.int .i64 _, .int .i64 _, .int .i64 _]) rfl (by exact rfl) rfl (fun F' hF => within_tr F' _ _ _)) ?_
  rintro _ _ ⟨rfl, rfl⟩
  refine SP ?_; repeat' (first|refine ⟨fun hc=>?_,fun hc=>?_⟩|intro)
  refine WL.e rfl (Ef.lookV (f := 113) (fv := []) (cv := []) (vals := [.int .i64 _, .int .i64 _, .int .i64 _]) rfl (by exact rfl) rfl (fun F' hF => within_tr F' _ _ _)) ?_
  rintro _ _ ⟨rfl, rfl⟩
  refine SP ?_; repeat' (first|refine ⟨fun hc=>?_,fun hc=>?_⟩|intro)
  all_goals
    refine Fin.retW (by exact rfl) resA (H' := []) (fun _ h => h.sublist (List.nil_sublist _)) ⟨⟨_, rfl, ?_⟩, rfl⟩
    first
      | exact iff_of_false (by decide) (fun hb => by simp only [decide_eq_true_eq, decide_eq_false_iff_not, rightOk] at *; omega)
      | (simp only [decide_eq_true_eq, decide_eq_false_iff_not, rightOk] at *; omega)
/-- slices.Clone, of bytes that can be read -/
theorem cloneB_tr (F : Nat → Option Obj) (bs : Str) (sa : Option Addr) (sn sc : Nat) (hl : Lst F [] 1 (bs.map B) sa sn sc) (hn : bs.length ≤ 1000000000) : Tr Tryz.prog 54 [.slice sa sn sc].toArray F [] (fun v _ => ∃ (sa' : Option Addr) (sn' sc' : Nat), v = .slice sa' sn' sc') := by
  refine Tr.enter Tryz.func54 rfl Tryz.ntmps54 rfl (fun w0 => ?_)
  have hlen : bs.length = sn := by have := hl.len; simp at this; exact this
  refine SP ?_; repeat' (first|refine ⟨fun hc=>?_,fun hc=>?_⟩|intro)
  · exact Fin.retW (by exact rfl) resA (H' := []) (fun _ h => h) ⟨none, 0, 0, rfl⟩
  · refine WL.e rfl (Ef.app (m := sn) (news := bs.map B) (xs := []) (by exact rfl) (by exact rfl) rfl rfl (OwnS.empty _ _ _) (.all _) hl.any.src (by simp; omega) (fun u hu => by obtain ⟨b, _, rfl⟩ := List.mem_map.1 hu; rfl) (by simp; omega) (by simp [maxLen]; omega)) ?_
    rintro v' _ ⟨hb', hown', rfl⟩
    obtain ⟨sa', sn', sc', rfl, _, _⟩ := OwnS.shape hown'
    refine SP ?_; repeat' (first|refine ⟨fun hc=>?_,fun hc=>?_⟩|intro)
    exact Fin.retW (by exact rfl) resA (H' := []) (fun _ h => h.sublist (List.nil_sublist _)) ⟨sa', sn', sc', rfl⟩
set_option maxHeartbeats 8000000 in
theorem assocNew_tr (F : Nat → Option Obj) (c : List Int) (hc : c.length = 14) (kb : UInt8) (ka : Option Addr) (kc : Nat) (hk : Lst F [] 1 [B kb] ka 1 kc) : Tr Tryz.prog 33 [.agg (ccells c).toArray, .slice ka 1 kc].toArray F [] (fun v _ => NewQ (rightOk (c.getD 0 0) (c.getD 2 0) (c.getD 4 0) (c.getD 6 0) (c.getD 8 0) (c.getD 10 0) (c.getD 13 0)) v) := by
  refine Tr.enter Tryz.func33 rfl Tryz.ntmps33 rfl (fun w0 => ?_)
  have hr := fun F' => right_tr F' c hc
  obtain ⟨a0, a1, a2, a3, a4, a5, a6, a7, a8, a9, a10, a11, a12, a13, rfl⟩ := list14 hc
  unfold ccells
  simp only [List.map_cons, List.map_nil]
  simp only [List.getD_cons_zero, List.getD_cons_succ]
  unfold ccells at hr
  simp only [List.map_cons, List.map_nil, List.getD_cons_zero, List.getD_cons_succ] at hr
  refine SP ?_; repeat' (first|refine ⟨fun hc=>?_,fun hc=>?_⟩|intro)
  refine WL.e rfl (Ef.lookR (by exact rfl) (fun F' hF => hr F')) ?_
  rintro _ _ ⟨⟨b, rfl, hb⟩, rfl⟩
  cases b with
  | false =>
    have hn : ¬ rightOk a0 a2 a4 a6 a8 a10 a13 := fun h => by have := hb.2 h; cases this
    refine SP ?_; repeat' (first|refine ⟨fun hc=>?_,fun hc=>?_⟩|intro)
    all_goals exact Fin.retW (by exact rfl) resA (H' := []) (fun _ h => h.sublist (List.nil_sublist _)) (.inr ⟨hn, rfl⟩)
  | true =>
    have hy := hb.1 rfl
    refine SP ?_; repeat' (first|refine ⟨fun hc=>?_,fun hc=>?_⟩|intro)
    refine W.drawA ?_
    refine SP ?_; repeat' (first|refine ⟨fun hc=>?_,fun hc=>?_⟩|intro)
    refine WD.e rfl (Ef.callW (c := []) (by exact rfl) (Sub.nil _) (fun F' hF => cloneB_tr F' [kb] ka 1 kc (hk.mono (fun w h => (hF w h).sublist (List.nil_sublist _))) (by simp))) ?_
    rintro _ _ ⟨_, ⟨sa, sn, sc, rfl⟩, rfl⟩
    refine ⟨.inr (fun _ h => h.sublist (List.sublist_append_right _ _)), ?_⟩
    refine SP ?_; repeat' (first|refine ⟨fun hc=>?_,fun hc=>?_⟩|intro)
    exact Fin.retW (by exact rfl) resA (H' := []) (fun _ h => h.sublist (List.nil_sublist _)) (.inl ⟨hy, _, rfl⟩)
set_option maxHeartbeats 8000000 in
theorem endNew_tr (F : Nat → Option Obj) (c : List Int) (hc : c.length = 14) (kb : UInt8) (ka : Option Addr) (kc : Nat) (hk : Lst F [] 1 [B kb] ka 1 kc) : Tr Tryz.prog 19 [.agg (ccells c).toArray, .slice ka 1 kc].toArray F [] (fun v _ => NewQ (endOkC c) v) := by
  refine Tr.enter Tryz.func19 rfl Tryz.ntmps19 rfl (fun w0 => ?_)
  unfold endOkC
  have h1 := fun F' h => assocNew_tr F' c hc kb ka kc h
  have h2 := fun F' => recvNew_tr F' c hc
  have h3 := fun F' => sendNew_tr F' c hc
  obtain ⟨a0, a1, a2, a3, a4, a5, a6, a7, a8, a9, a10, a11, a12, a13, rfl⟩ := list14 hc
  unfold ccells
  simp only [List.map_cons, List.map_nil]
  simp only [List.getD_cons_zero, List.getD_cons_succ]
  unfold ccells at h1 h2 h3
  simp only [List.map_cons, List.map_nil, List.getD_cons_zero, List.getD_cons_succ] at h1 h2 h3
  refine SP ?_; repeat' (first|refine ⟨fun hc=>?_,fun hc=>?_⟩|intro)
  refine WL.e rfl (Ef.callW (c := []) (by exact rfl) (Sub.nil _) (fun F' hF => h1 F' (hk.mono (fun w h => (hF w h).sublist (List.nil_sublist _))))) ?_
  rintro _ _ ⟨_, (⟨g1, p1, rfl⟩ | ⟨g1, rfl⟩), rfl⟩
  · refine SP ?_; repeat' (first|refine ⟨fun hc=>?_,fun hc=>?_⟩|intro)
    any_goals exact Fin.retW (by exact rfl) resA (H' := []) (fun _ h => h.sublist (List.nil_sublist _)) (.inr ⟨fun hb => by have := hb.2.1; simp only [decide_eq_true_eq, decide_eq_false_iff_not] at *; omega, rfl⟩)
    refine WL.e rfl (Ef.callW (c := []) (by exact rfl) (Sub.nil _) (fun F' hF => h2 F')) ?_
    rintro _ _ ⟨_, (⟨g2, p2, rfl⟩ | ⟨g2, rfl⟩), rfl⟩
    · refine SP ?_; repeat' (first|refine ⟨fun hc=>?_,fun hc=>?_⟩|intro)
      refine WL.e rfl (Ef.callW (c := []) (by exact rfl) (Sub.nil _) (fun F' hF => h3 F')) ?_
      rintro _ _ ⟨_, (⟨g3, p3, rfl⟩ | ⟨g3, rfl⟩), rfl⟩
      · refine SP ?_; repeat' (first|refine ⟨fun hc=>?_,fun hc=>?_⟩|intro)
        exact Fin.retW (by exact rfl) resA (H' := []) (fun _ h => h.sublist (List.nil_sublist _)) (.inl ⟨⟨g1, by simp only [decide_eq_true_eq, decide_eq_false_iff_not] at *; omega, g2, g3⟩, _, rfl⟩)
      · refine SP ?_; repeat' (first|refine ⟨fun hc=>?_,fun hc=>?_⟩|intro)
        exact Fin.retW (by exact rfl) resA (H' := []) (fun _ h => h.sublist (List.nil_sublist _)) (.inr ⟨fun hb => g3 hb.2.2.2, rfl⟩)
    · refine SP ?_; repeat' (first|refine ⟨fun hc=>?_,fun hc=>?_⟩|intro)
      exact Fin.retW (by exact rfl) resA (H' := []) (fun _ h => h.sublist (List.nil_sublist _)) (.inr ⟨fun hb => g2 hb.2.2.1, rfl⟩)
  · refine SP ?_; repeat' (first|refine ⟨fun hc=>?_,fun hc=>?_⟩|intro)
    exact Fin.retW (by exact rfl) resA (H' := []) (fun _ h => h.sublist (List.nil_sublist _)) (.inr ⟨fun hb => g1 hb.1, rfl⟩)
end Go.Proofs.YtkelhlffeilakaaGreatDoor
