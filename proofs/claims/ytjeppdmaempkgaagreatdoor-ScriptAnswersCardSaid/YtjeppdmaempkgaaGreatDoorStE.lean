/- The document's EqBytes, and two states of ends compared. Conditions: the bytes can be read. -/
import Derived.Test.YtjeppdmaempkgaaGreatDoorBuD
import Derived.Test.YtjeppdmaempkgaaGreatDoorBuC
import Derived.Test.YtjeppdmaempkgaaGreatDoorTy
namespace Go.Proofs.YtjeppdmaempkgaaGreatDoor
open Go Go.Sl

theorem w8 (p : BitVec 8) : IntKind.u8.wrap ((p.toNat : Nat) : Int) = ((p.toNat : Nat) : Int) := u8_id ⟨by omega, by have := p.isLt; omega⟩
theorem of8 {n : Int} (h : 0 ≤ n ∧ n < 256) : (BitVec.ofInt 8 n).toNat = n.toNat := by
  obtain ⟨k, rfl⟩ := Int.eq_ofNat_of_zero_le h.1
  have : k < 256 := by omega
  simp [BitVec.toNat_ofInt]
  omega
theorem of8_inj {m n : Int} (h : 0 ≤ m ∧ m < 256) (k : 0 ≤ n ∧ n < 256) (e : BitVec.ofInt 8 m = BitVec.ofInt 8 n) : m = n := by
  have := congrArg BitVec.toNat e
  rw [of8 h, of8 k] at this
  omega
theorem xor8 {m n : Int} (h : 0 ≤ m ∧ m < 256) (k : 0 ≤ n ∧ n < 256) : ∃ x : Int, IntKind.u8.wrap ((BitVec.ofInt IntKind.u8.bits m ^^^ BitVec.ofInt IntKind.u8.bits n).toNat : Int) = x ∧ (0 ≤ x ∧ x < 256) ∧ (x = 0 ↔ m = n) := by
  refine ⟨_, w8 (BitVec.ofInt 8 m ^^^ BitVec.ofInt 8 n), ⟨by omega, by have := (BitVec.ofInt 8 m ^^^ BitVec.ofInt 8 n).isLt; omega⟩, ?_⟩
  constructor
  · intro e
    refine of8_inj h k (BitVec.xor_eq_zero_iff.1 (BitVec.eq_of_toNat_eq ?_))
    show _ = 0
    omega
  · intro e
    subst e
    rw [BitVec.xor_self]
    rfl
theorem or8 {m n : Int} (h : 0 ≤ m ∧ m < 256) (k : 0 ≤ n ∧ n < 256) : ∃ x : Int, IntKind.u8.wrap ((BitVec.ofInt IntKind.u8.bits m ||| BitVec.ofInt IntKind.u8.bits n).toNat : Int) = x ∧ (0 ≤ x ∧ x < 256) ∧ (x = 0 ↔ m = 0 ∧ n = 0) := by
  refine ⟨_, w8 (BitVec.ofInt 8 m ||| BitVec.ofInt 8 n), ⟨by omega, by have := (BitVec.ofInt 8 m ||| BitVec.ofInt 8 n).isLt; omega⟩, ?_⟩
  constructor
  · intro e
    have e2 : BitVec.ofInt 8 m ||| BitVec.ofInt 8 n = 0#8 := BitVec.eq_of_toNat_eq (by show _ = 0; omega)
    have e3 := BitVec.or_eq_zero_iff.1 e2
    exact ⟨of8_inj h ⟨by decide, by decide⟩ e3.1, of8_inj k ⟨by decide, by decide⟩ e3.2⟩
  · rintro ⟨rfl, rfl⟩
    rfl

structure EbG where
  i : Nat
  u : Int
theorem part_u8 (w : World) (l : List Value) (i : Nat) (v : Value) (h : l[i]? = some v) : (part 5 l.toArray i).run Tryz.prog w = .ok v w := by
  simp [part, Tryz.isAgg5, h]
theorem eq_u8 (w : World) (n : Nat) (a c : Int) : (Op.equalIn (n + 1) 5 (.int .u8 a) (.int .u8 c)).run Tryz.prog w = .ok (a == c) w := by
  rw [Op.equalIn, Sem.run_bind, run_underlying Tryz.underlying5]
  simp
def st2 (a b : Int) : List Value := [.int .u8 a, .int .u8 b]
theorem st2_eq (w : World) (a b c d : Int) : (Op.equal 23 (.agg (st2 a b).toArray) (.agg (st2 c d).toArray)).run Tryz.prog w = .ok (a == c && b == d) w := by
  show (Op.equalIn (9998 + 2) _ _ _).run _ w = _
  rw [Op.equalIn, Sem.run_bind, run_underlying Tryz.underlying23]
  have e1 := part_u8 w (st2 a b) 0 _ rfl
  have e2 := part_u8 w (st2 a b) 1 _ rfl
  have e3 := part_u8 w (st2 c d) 0 _ rfl
  have e4 := part_u8 w (st2 c d) 1 _ rfl
  have f : ∀ a c : Int, (Op.equalIn (9998 + 1) 5 (.int .u8 a) (.int .u8 c)).run Tryz.prog w = .ok (a == c) w := eq_u8 w 9998
  simp [Tryz.sizeOf5, e1, e2, e3, e4, f, Std.Legacy.Range.forIn_eq_forIn_range', List.range']
  by_cases h1 : a = c <;> by_cases h2 : b = d <;> simp [h1, h2]
section
variable {x : Cx} {env : Env} {dst : Option Tmp} {ty : TypeId} {pos : String} {aft : Array Edge} {gd : Option (Nat × Bool)}
theorem Pu.eqSt (hP : x.P = Tryz.prog) {p q : Operand} {a b c d : Int} (hp : ev env p = some (.agg (st2 a b).toArray)) (hq : ev env q = some (.agg (st2 c d).toArray)) :
    Pu x env ⟨dst, .binOp .eql 23 p q 23, ty, pos, aft, gd⟩ (.bool (a == c && b == d)) := ⟨fun a' he w => by
  rw [hP]
  have h := st2_eq w a b c d
  have g : Tryz.prog.eqGuardType Tryz.prog.depth 23 = false := by kernel_rfl
  simp [execOp, he.eval hp, he.eval hq, eqGuard, g, binOp, h]⟩
end
end Go.Proofs.YtjeppdmaempkgaaGreatDoor
