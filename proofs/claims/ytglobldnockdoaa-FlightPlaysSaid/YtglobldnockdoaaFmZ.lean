/- Two answers of an acknowledgement, compared. No conditions. -/
import Derived.Test.YtglobldnockdoaaFlF
namespace Go.Proofs.Ytglobldnockdoaa
open Go Go.Sl Go.Flt

theorem part_int (w : World) (l : List Value) (i : Nat) (v : Value) (h : l[i]? = some v) : (part 3 l.toArray i).run Try.prog w = .ok v w := by
  simp [part, Try.isAgg3, h]
theorem part_i64 (w : World) (l : List Value) (i : Nat) (v : Value) (h : l[i]? = some v) : (part 2 l.toArray i).run Try.prog w = .ok v w := by
  simp [part, Try.isAgg2, h]
theorem part_bool (w : World) (l : List Value) (i : Nat) (v : Value) (h : l[i]? = some v) : (part 4 l.toArray i).run Try.prog w = .ok v w := by
  simp [part, Try.isAgg4, h]
theorem eq_int (w : World) (n : Nat) (a c : Int) : (Op.equalIn (n + 1) 3 (.int .i64 a) (.int .i64 c)).run Try.prog w = .ok (a == c) w := by
  rw [Op.equalIn, Sem.run_bind, run_underlying Try.underlying3]
  simp
theorem eq_i64 (w : World) (n : Nat) (a c : Int) : (Op.equalIn (n + 1) 2 (.int .i64 a) (.int .i64 c)).run Try.prog w = .ok (a == c) w := by
  rw [Op.equalIn, Sem.run_bind, run_underlying Try.underlying2]
  simp
theorem eq_bool (w : World) (n : Nat) (a c : Bool) : (Op.equalIn (n + 1) 4 (.bool a) (.bool c)).run Try.prog w = .ok (a == c) w := by
  rw [Op.equalIn, Sem.run_bind, run_underlying Try.underlying4]
  simp
def ptEq (a b : PT) : Bool := a.acked == b.acked && a.pseudo == b.pseudo && a.fast == b.fast && a.at_ == b.at_ && a.some_ == b.some_
theorem path_eq (w : World) (n : Nat) (a b : PT) : (Op.equalIn (n + 2) 62 (.agg (PTcells a).toArray) (.agg (PTcells b).toArray)).run Try.prog w = .ok (ptEq a b) w := by
  rw [Op.equalIn, Sem.run_bind, run_underlying Try.underlying62]
  have e1 := part_int w (PTcells a) 0 _ rfl
  have e2 := part_int w (PTcells b) 0 _ rfl
  have e3 := part_bool w (PTcells a) 1 _ rfl
  have e4 := part_bool w (PTcells b) 1 _ rfl
  have e5 := part_bool w (PTcells a) 2 _ rfl
  have e6 := part_bool w (PTcells b) 2 _ rfl
  have e7 := part_i64 w (PTcells a) 3 _ rfl
  have e8 := part_i64 w (PTcells b) 3 _ rfl
  have e9 := part_bool w (PTcells a) 4 _ rfl
  have e10 := part_bool w (PTcells b) 4 _ rfl
  have f1 : ∀ a c : Int, (Op.equalIn (n + 1) 3 (.int .i64 a) (.int .i64 c)).run Try.prog w = .ok (a == c) w := eq_int w n
  have f2 : ∀ a c : Int, (Op.equalIn (n + 1) 2 (.int .i64 a) (.int .i64 c)).run Try.prog w = .ok (a == c) w := eq_i64 w n
  have f3 : ∀ a c : Bool, (Op.equalIn (n + 1) 4 (.bool a) (.bool c)).run Try.prog w = .ok (a == c) w := eq_bool w n
  simp [e1, e2, e3, e4, e5, e6, e7, e8, e9, e10, f1, f2, f3]
  unfold ptEq
  by_cases h1 : a.acked = b.acked <;> by_cases h2 : a.pseudo = b.pseudo <;> by_cases h3 : a.fast = b.fast <;> by_cases h4 : a.at_ = b.at_ <;> by_cases h5 : a.some_ = b.some_ <;> simp [h1, h2, h3, h4, h5]
def tldEq (a b : Tld) : Bool := a.freed == b.freed && a.whole == b.whole && (ptEq a.p0 b.p0 && ptEq a.p1 b.p1 && ptEq a.p2 b.p2 && ptEq a.p3 b.p3)
def P4c (t : Tld) : List Value := PTcells t.p0 ++ PTcells t.p1 ++ PTcells t.p2 ++ PTcells t.p3
theorem part_path (w : World) (l : List Value) (i : Nat) (r : List Value) (h : (l.drop i).take 5 = r) : (part 62 l.toArray i).run Try.prog w = .ok (.agg r.toArray) w := by
  subst h
  simp [part, Try.isAgg62, Try.sizeOf62]
theorem part_p4 (w : World) (l : List Value) (i : Nat) (r : List Value) (h : (l.drop i).take 20 = r) : (part 63 l.toArray i).run Try.prog w = .ok (.agg r.toArray) w := by
  subst h
  simp [part, Try.isAgg63, Try.sizeOf63]
theorem p4_eq (w : World) (n : Nat) (a b : Tld) : (Op.equalIn (n + 3) 63 (.agg (P4c a).toArray) (.agg (P4c b).toArray)).run Try.prog w = .ok (ptEq a.p0 b.p0 && ptEq a.p1 b.p1 && ptEq a.p2 b.p2 && ptEq a.p3 b.p3) w := by
  rw [Op.equalIn, Sem.run_bind, run_underlying Try.underlying63]
  have e1 := part_path w (P4c a) 0 (PTcells a.p0) rfl
  have e2 := part_path w (P4c b) 0 (PTcells b.p0) rfl
  have e3 := part_path w (P4c a) 5 (PTcells a.p1) rfl
  have e4 := part_path w (P4c b) 5 (PTcells b.p1) rfl
  have e5 := part_path w (P4c a) 10 (PTcells a.p2) rfl
  have e6 := part_path w (P4c b) 10 (PTcells b.p2) rfl
  have e7 := part_path w (P4c a) 15 (PTcells a.p3) rfl
  have e8 := part_path w (P4c b) 15 (PTcells b.p3) rfl
  have f : ∀ a c : PT, (Op.equalIn (n + 2) 62 (.agg (PTcells a).toArray) (.agg (PTcells c).toArray)).run Try.prog w = .ok (ptEq a c) w := path_eq w n
  simp [Try.sizeOf62, e1, e2, e3, e4, e5, e6, e7, e8, f, Std.Legacy.Range.forIn_eq_forIn_range', List.range']
  cases ptEq a.p0 b.p0 <;> cases ptEq a.p1 b.p1 <;> cases ptEq a.p2 b.p2 <;> cases ptEq a.p3 b.p3 <;> simp
theorem tld_eq (w : World) (a b : Tld) : (Op.equal 65 (.agg (tldC a).toArray) (.agg (tldC b).toArray)).run Try.prog w = .ok (tldEq a b) w := by
  show (Op.equalIn (9996 + 4) _ _ _).run _ w = _
  rw [Op.equalIn, Sem.run_bind, run_underlying Try.underlying65]
  have e1 := part_int w (tldC a) 0 _ rfl
  have e2 := part_int w (tldC b) 0 _ rfl
  have e3 := part_bool w (tldC a) 1 _ rfl
  have e4 := part_bool w (tldC b) 1 _ rfl
  have e5 := part_p4 w (tldC a) 2 (P4c a) rfl
  have e6 := part_p4 w (tldC b) 2 (P4c b) rfl
  have f1 : ∀ a c : Int, (Op.equalIn 9999 3 (.int .i64 a) (.int .i64 c)).run Try.prog w = .ok (a == c) w := eq_int w 9998
  have f3 : ∀ a c : Bool, (Op.equalIn 9999 4 (.bool a) (.bool c)).run Try.prog w = .ok (a == c) w := eq_bool w 9998
  have f4 : (Op.equalIn 9999 63 (.agg (P4c a).toArray) (.agg (P4c b).toArray)).run Try.prog w = _ := p4_eq w 9996 a b
  unfold tldEq
  generalize (ptEq a.p0 b.p0 && ptEq a.p1 b.p1 && ptEq a.p2 b.p2 && ptEq a.p3 b.p3) = e at f4 ⊢
  simp [e1, e2, e3, e4, e5, e6, f1, f3, f4]
  by_cases h1 : a.freed = b.freed <;> by_cases h2 : a.whole = b.whole <;> cases e <;> simp [h1, h2]
section
variable {x : Cx} {env : Env} {dst : Option Tmp} {ty : TypeId} {pos : String} {aft : Array Edge} {gd : Option (Nat × Bool)}
theorem Pu.eqTld (hP : x.P = Try.prog) {p q : Operand} {a b : Tld} (hp : ev env p = some (.agg (tldC a).toArray)) (hq : ev env q = some (.agg (tldC b).toArray)) :
    Pu x env ⟨dst, .binOp .eql 65 p q 65, ty, pos, aft, gd⟩ (.bool (tldEq a b)) := ⟨fun a' he w => by
  rw [hP]
  have h := tld_eq w a b
  simp [execOp, he.eval hp, he.eval hq, eqGuard, binOp, h]⟩
theorem Pu.neTld (hP : x.P = Try.prog) {p q : Operand} {a b : Tld} (hp : ev env p = some (.agg (tldC a).toArray)) (hq : ev env q = some (.agg (tldC b).toArray)) :
    Pu x env ⟨dst, .binOp .neq 65 p q 65, ty, pos, aft, gd⟩ (.bool (!tldEq a b)) := ⟨fun a' he w => by
  rw [hP]
  have h := tld_eq w a b
  simp [execOp, he.eval hp, he.eval hq, eqGuard, binOp, h]⟩
end
theorem tldEq_iff (a b : Tld) : tldEq a b = true ↔ a = b := by
  cases a; cases b
  rename_i f w p0 p1 p2 p3 f' w' q0 q1 q2 q3
  have h : ∀ p q : PT, ptEq p q = true ↔ p = q := fun p q => by
    cases p; cases q
    simp [ptEq, and_assoc]
  unfold tldEq
  simp [h, and_assoc]
end Go.Proofs.Ytglobldnockdoaa
