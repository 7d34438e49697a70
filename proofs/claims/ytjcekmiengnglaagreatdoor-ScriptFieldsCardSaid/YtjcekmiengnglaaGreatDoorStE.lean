/- The document's EqBytes, and two states of ends compared. Conditions: the bytes can be read. -/
import Derived.Test.YtjcekmiengnglaaGreatDoorBuD
import Derived.Test.YtjcekmiengnglaaGreatDoorBuC
import Derived.Test.YtjcekmiengnglaaGreatDoorTy
namespace Go.Proofs.YtjcekmiengnglaaGreatDoor
open Go Go.Sl

theorem w8 (p : BitVec 8) : IntKind.u8.wrap ((p.toNat : Nat) : Int) = ((p.toNat : Nat) : Int) := u8_id ⟨by omega, by have := p.isLt; omega⟩
theorem of8 {n : Int} (h : 0 ≤ n ∧ n < 256) : (BitVec.ofInt 8 n).toNat = n.toNat := by
  obtain ⟨k, rfl⟩ := Int.eq_ofNat_of_zero_le h.1
  have : k < 256 := by omega
  simp [BitVec.toNat_ofInt]
  omega
theorem of8_inj {m n : Int} (h : 0 ≤ m ∧ m < 256) (k : 0 ≤ n ∧ n < 256) (e : BitVec.ofInt 8 m = BitVec.ofInt 8 n) : m = n := by
  have := congrArg BitVec.toNat e
  rw [of8 h, of8 k] at this
  omega
theorem xor8 {m n : Int} (h : 0 ≤ m ∧ m < 256) (k : 0 ≤ n ∧ n < 256) : ∃ x : Int, IntKind.u8.wrap ((BitVec.ofInt IntKind.u8.bits m ^^^ BitVec.ofInt IntKind.u8.bits n).toNat : Int) = x ∧ (0 ≤ x ∧ x < 256) ∧ (x = 0 ↔ m = n) := by
  refine ⟨_, w8 (BitVec.ofInt 8 m ^^^ BitVec.ofInt 8 n), ⟨by omega, by have := (BitVec.ofInt 8 m ^^^ BitVec.ofInt 8 n).isLt; omega⟩, ?_⟩
  constructor
  · intro e
    refine of8_inj h k (BitVec.xor_eq_zero_iff.1 (BitVec.eq_of_toNat_eq ?_))
    show _ = 0
    omega
  · intro e
    subst e
    rw [BitVec.xor_self]
    rfl
theorem or8 {m n : Int} (h : 0 ≤ m ∧ m < 256) (k : 0 ≤ n ∧ n < 256) : ∃ x : Int, IntKind.u8.wrap ((BitVec.ofInt IntKind.u8.bits m ||| BitVec.ofInt IntKind.u8.bits n).toNat : Int) = x ∧ (0 ≤ x ∧ x < 256) ∧ (x = 0 ↔ m = 0 ∧ n = 0) := by
  refine ⟨_, w8 (BitVec.ofInt 8 m ||| BitVec.ofInt 8 n), ⟨by omega, by have := (BitVec.ofInt 8 m ||| BitVec.ofInt 8 n).isLt; omega⟩, ?_⟩
  constructor
  · intro e
    have e2 : BitVec.ofInt 8 m ||| BitVec.ofInt 8 n = 0#8 := BitVec.eq_of_toNat_eq (by show _ = 0; omega)
    have e3 := BitVec.or_eq_zero_iff.1 e2
    exact ⟨of8_inj h ⟨by decide, by decide⟩ e3.1, of8_inj k ⟨by decide, by decide⟩ e3.2⟩
  · rintro ⟨rfl, rfl⟩
    rfl

structure EbG where
  i : Nat
  u : Int
set_option maxHeartbeats 4000000 in
theorem eqb_tr (F : Nat → Option Obj) (X : HL) (a b : List UInt8) (aa ba : Option Addr) (an ac bn bc : Nat) (ha : Lst F X 1 (a.map B) aa an ac) (hb : Lst F X 1 (b.map B) ba bn bc) (h1 : a.length ≤ 1000000000000) :
    Tr Tryz.prog 29 [.slice aa an ac, .slice ba bn bc].toArray F X (fun v H => v = .bool (decide (a = b)) ∧ H = X) := by
  refine Tr.enter Tryz.func29 rfl Tryz.ntmps29 rfl (fun w0 => ?_)
  have han : an = a.length := by have := ha.len; simp at this; omega
  have hbn : bn = b.length := by have := hb.len; simp at this; omega
  repeat' (first | refine S2b ?_ | refine SD ?_ | refine SA (fun _ => ?_) | refine G1 (fun hc => ?_) (fun hc => ?_) | refine G2 (fun hc => ?_) (fun hc => ?_) | refine G3 (fun hc => ?_) (fun hc => ?_) | refine SL ?_ | fail)
  · refine Fin.retW (by exact rfl) resA (fun _ h => h) ⟨?_, rfl⟩
    have hne : ¬ a = b := fun e => by subst e; simp at hc; omega
    rw [decide_eq_false hne]
    rfl
  have hab : an = bn := by simp at hc; omega
  subst hab
  refine W.loop (G := EbG) (fun g => [(0, .slice aa an ac), (1, .slice ba an bc), (5, .int .i64 an), (6, .int .u8 g.u), (7, .int .i64 g.i)]) (fun _ => X)
    (fun g => g.i ≤ an ∧ (0 ≤ g.u ∧ g.u < 256) ∧ (g.u = 0 ↔ a.take g.i = b.take g.i)) (fun g => an - g.i) ⟨0, 0⟩ ⟨Nat.zero_le _, by decide, by simp⟩ envA (fun _ h => h) ?_
  rintro ⟨i, u⟩ ⟨hi, hu, hv⟩
  dsimp only at hi hu hv ⊢
  repeat' (first | refine S2b ?_ | refine SD ?_ | refine SA (fun _ => ?_) | refine G1 (fun hc => ?_) (fun hc => ?_) | refine G2 (fun hc => ?_) (fun hc => ?_) | refine G3 (fun hc => ?_) (fun hc => ?_) | refine SL ?_ | fail)
  · have hi' : i < an := by simp at hc; omega
    obtain ⟨xa, hxa⟩ : ∃ y, a[i]? = some y := ⟨a[i]'(by omega), by simp⟩
    obtain ⟨xb, hxb⟩ : ∃ y, b[i]? = some y := ⟨b[i]'(by omega), by simp⟩
    obtain ⟨b1, o1, rfl, hcan1⟩ := ha.can (by omega)
    obtain ⟨b2, o2, rfl, hcan2⟩ := hb.can (by omega)
    have hia : 0 ≤ (i : Int) ∧ (i : Int) < an := by omega
    have hC1 : Sl.Can F X b1 (o1 + (i : Int).toNat * 1) [.int .u8 xa.toNat] := by have := hcan1.one (i := i) (v := B xa) (by rw [List.getElem?_map, hxa]; rfl); simpa [B] using this
    have hC2 : Sl.Can F X b2 (o2 + (i : Int).toNat * 1) [.int .u8 xb.toNat] := by have := hcan2.one (i := i) (v := B xb) (by rw [List.getElem?_map, hxb]; rfl); simpa [B] using this
    repeat' (first | refine S2b ?_ | refine SD ?_ | refine SA (fun _ => ?_) | refine G1 (fun hc => ?_) (fun hc => ?_) | refine G2 (fun hc => ?_) (fun hc => ?_) | refine G3 (fun hc => ?_) (fun hc => ?_) | refine SL ?_ | fail)
    have lxa := xa.toNat_lt
    have lxb := xb.toNat_lt
    obtain ⟨y, hy, hy1, hy2⟩ := xor8 (m := (xa.toNat : Int)) (n := (xb.toNat : Int)) ⟨by omega, by omega⟩ ⟨by omega, by omega⟩
    obtain ⟨z, hz, hz1, hz2⟩ := or8 hu hy1
    rw [hy, hz, i64_succ (by omega)]
    refine Fin.round ⟨i + 1, z⟩ ⟨hi', hz1, ?_⟩ envA (fun _ h => h) (by dsimp only; omega)
    dsimp only
    rw [hz2, hv, hy2, List.take_add_one, List.take_add_one, hxa, hxb]
    simp only [Option.toList_some]
    constructor
    · rintro ⟨e1, e2⟩
      rw [e1, show xa = xb from UInt8.toNat.inj (by omega)]
    · intro e
      have := List.append_inj e (by simp; omega)
      simp only [List.cons.injEq, and_true] at this
      rw [this.2]
      exact ⟨this.1, rfl⟩
  · have hi' : i = an := by simp at hc; omega
    refine Fin.retW (by exact rfl) resA (fun _ h => h) ⟨?_, rfl⟩
    rw [hi', List.take_of_length_le (by omega), List.take_of_length_le (by omega)] at hv
    show Value.bool (u == 0) = _
    by_cases e : a = b
    · rw [decide_eq_true e, hv.2 e]; rfl
    · rw [decide_eq_false e]
      have : ¬ u = 0 := fun h => e (hv.1 h)
      simpa using this

def st2 (a b : Int) : List Value := [.int .u8 a, .int .u8 b]
section
variable {x : Cx} {env : Env} {dst : Option Tmp} {ty : TypeId} {pos : String} {aft : Array Edge} {gd : Option (Nat × Bool)}
end
end Go.Proofs.YtjcekmiengnglaaGreatDoor
