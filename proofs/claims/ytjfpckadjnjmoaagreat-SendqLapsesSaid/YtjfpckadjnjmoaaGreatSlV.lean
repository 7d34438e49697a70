/- The logic: bits that are struck ('and not'), and numbers rounded up to fours. No conditions: laws only. -/
import Derived.Test.YtjfpckadjnjmoaaGreatBc
namespace Go.Sl
open Go
section
variable {x : Cx} {env : Env} {dst : Option Tmp} {ty : TypeId} {pos : String} {aft : Array Edge} {gd : Option (Nat × Bool)}
theorem Pu.andNot {T T' : TypeId} {p q : Operand} {k : IntKind} {m n : Int} (hp : ev env p = some (.int k m)) (hq : ev env q = some (.int k n)) :
    Pu x env ⟨dst, .binOp .andNot T p q T', ty, pos, aft, gd⟩ (.int k (k.wrap (BitVec.ofInt k.bits m &&& ~~~(BitVec.ofInt k.bits n)).toNat)) := ⟨fun a he w => by
  simp [execOp, he.eval hp, he.eval hq, eqGuard, binOp, Op.intArith, Op.intCmp, Op.intBits]⟩
end
theorem strike3 {n : Int} (h : 0 ≤ n ∧ n < 9223372036854775808) : IntKind.i64.wrap (BitVec.ofInt IntKind.i64.bits n &&& ~~~(BitVec.ofInt IntKind.i64.bits 3)).toNat = n / 4 * 4 := by
  obtain ⟨m, rfl⟩ : ∃ m : Nat, n = m := ⟨n.toNat, by omega⟩
  have hm : m < 2 ^ 63 := by omega
  have e : (BitVec.ofInt 64 (m : Int) &&& ~~~(BitVec.ofInt 64 3)).toNat = m / 4 * 4 := by
    have h1 : ∀ v : BitVec 64, (v &&& ~~~(BitVec.ofInt 64 3)) = (v >>> 2) <<< 2 := fun v => by
      refine BitVec.eq_of_getLsbD_eq (fun i hi => ?_)
      rw [BitVec.getLsbD_and, BitVec.getLsbD_not, BitVec.getLsbD_shiftLeft, BitVec.getLsbD_ushiftRight]
      have h3 : (BitVec.ofInt 64 3).getLsbD i = decide (i < 2) := by
        rw [show BitVec.ofInt 64 3 = 3#64 from rfl, BitVec.getLsbD_ofNat]
        match i, hi with
        | 0, _ => rfl
        | 1, _ => rfl
        | i + 2, hi =>
          have : (3 : Nat).testBit (i + 2) = false := by rw [Nat.testBit_succ, Nat.testBit_succ]; exact Nat.zero_testBit i
          rw [this]; simp
      rw [h3]
      by_cases h : i < 2
      · simp [h]
      · simp [h, hi, show 2 + (i - 2) = i by omega]
    rw [h1, BitVec.toNat_shiftLeft, BitVec.toNat_ushiftRight, BitVec.toNat_ofInt]
    simp only [Nat.shiftLeft_eq, Nat.shiftRight_eq_div_pow]
    have : ((m : Int) % ((2 ^ 64 : Nat) : Int)).toNat = m := by omega
    rw [this]
    omega
  show IntKind.i64.wrap ((BitVec.ofInt 64 (m : Int) &&& ~~~(BitVec.ofInt 64 3)).toNat : Int) = _
  rw [e, i64_id (by omega) (by omega)]
  omega
/-- a part of a slice that can be read -/
theorem Lst.part {F : Nat → Option Obj} {H : HL} {xs : List Value} {sa : Option Addr} {n c : Nat} (h : Lst F H 1 xs sa n c) {lo up : Nat} (h1 : lo ≤ up) (h2 : up ≤ n) :
    Lst F H 1 ((xs.drop lo).take (up - lo)) (if c = lo then sa else sa.map (·.add (lo * 1))) (up - lo) (c - lo) := by
  have hl := h.len; have hc := h.cap
  refine ⟨by simp; omega, by omega, fun h0 => ?_, fun h0 => ?_⟩
  · obtain ⟨b, off, rfl, hcan⟩ := h.can (by omega)
    refine ⟨b, off + lo, by rw [if_neg (by omega)]; simp [add_lit], fun w hw j u hu => ?_⟩
    have hj : j < up - lo := by
      have := (List.getElem?_eq_some_iff.1 hu).1
      simp at this
      omega
    have := hcan w hw (lo + j) u (by rw [List.getElem?_take_of_lt hj, List.getElem?_drop] at hu; exact hu)
    rw [show off + lo + j = off + (lo + j) by omega]
    exact this
  · by_cases hlo : c = lo
    · omega
    · rw [if_neg hlo] at h0
      have := h.ok (by cases sa with | none => rfl | some a => cases h0)
      omega
/-- as S2b, but a store is left -/
theorem S2c {g n : Prop} (h : n) (s : n → g := by first
  | exact W.seq | exact W.region | exact W.block | exact W.skip | exact W.exit | exact W.ret | exact W.cond_t rfl | exact W.cond_f rfl | exact WL.nil | exact WD.nil | exact Fin.next | exact Fin.seq_exit | exact Fin.seq_ret | exact Fin.then_exit | exact Fin.then_ret | exact Fin.block_normal | exact Fin.block_ret | exact Fin.block_exit | exact Fin.block_other rfl
  | exact fun h => WL.pA h | exact fun h => WD.pA h | exact fun h => WL.sA h | exact fun h => WD.sA h | exact WL.g_yes rfl rfl | exact WL.g_no rfl rfl rfl rfl | exact WL.g_undef rfl rfl rfl | exact WD.g_yes rfl rfl | exact WD.g_no rfl rfl rfl rfl | exact WD.g_undef rfl rfl rfl
  | exact fun h => WL.pB h | exact fun h => WD.pB h) : g := s h
theorem wpMix_weak {P : Program} {ops : Array Oper} {C : World → Prop} {Q : Act → World → Prop} : ∀ {l : List Tg} {M M' : World → Prop} {a : Act}, (∀ w, M' w → M w) → wpMix P ops C Q l M a → wpMix P ops C Q l M' a
  | [], _, _, _, h, k => fun w hw => k w (h w hw)
  | _ :: _, _, _, _, h, .inl ⟨v, hq, k⟩ => .inl ⟨v, hq, wpMix_weak h k⟩
  | _ :: _, _, _, _, h, .inr ⟨ha, k⟩ => .inr ⟨ha, fun w hw => k w (h w hw)⟩
theorem WD.weak {x : Cx} {K : Post} {env : Env} {H H' Hc : HL} {ops : Array Oper} {l : List Tg} (hH : ∀ w, In x.F H w → In x.F H' w) (h : WD x Hc K ops l env H') : WD x Hc K ops l env H :=
  ⟨fun a he => wpMix_weak (fun _ hw => ⟨hH _ hw.1, hw.2⟩) (h.run a he)⟩
end Go.Sl
