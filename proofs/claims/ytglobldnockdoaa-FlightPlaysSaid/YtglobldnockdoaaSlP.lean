/- The logic's rule for two pointers that are compared: they lie in memory, and are equal just if they are one. No conditions: laws only. -/
import Derived.Test.YtglobldnockdoaaSlN
import Derived.LaidEql
namespace Go.Sl
open Go

/-- a pointer to something that has cells -/
class PtrE (P : Program) (T : TypeId) : Prop where h : ∃ e n, P.underlying T = some (.pointer e) ∧ (P.info? e).map (·.size) = some (n + 1)
section
variable {x : Cx} {env : Env} {H : HL} {dst : Option Tmp} {ty : TypeId} {pos : String} {aft : Array Edge} {gd : Option (Nat × Bool)}
/-- a block that lies in memory -/
def Lies (F : Nat → Option Obj) (H : HL) (b : Nat) : Prop := ∀ w, In F H w → ∃ c T, w.heap[b]? = some (.cells c T (0, 0))
theorem Lies.mono {F F' : Nat → Option Obj} {H H' : HL} {b : Nat} (h : Lies F H b) (hw : ∀ w, In F' H' w → In F H w) : Lies F' H' b := fun w hi => h w (hw w hi)
theorem Rd.eqPP {T T' : TypeId} {p q : Operand} {a b : Nat} [pt : PtrE x.P T] (hp : ev env p = some (.pointer (some ⟨a, 0, none⟩))) (hq : ev env q = some (.pointer (some ⟨b, 0, none⟩))) (ha : Lies x.F H a) (hb : Lies x.F H b) :
    Rd x env H ⟨dst, .binOp .eql T p q T', ty, pos, aft, gd⟩ (.bool (decide (a = b))) := ⟨fun ac w he hi => by
  obtain ⟨e, n, hu, hn⟩ := pt.h
  obtain ⟨i, hinf, hsz⟩ : ∃ i, x.P.info? e = some i ∧ i.size ≠ 0 := by
    cases h : x.P.info? e with
    | none => rw [h] at hn; cases hn
    | some i => rw [h] at hn; simp at hn; exact ⟨i, rfl, by omega⟩
  obtain ⟨c1, t1, h1⟩ := ha w hi
  obtain ⟨c2, t2, h2⟩ := hb w hi
  have key0 : ∀ d, (Op.equalIn (d + 1) T (.pointer (some ⟨a, 0, none⟩)) (.pointer (some ⟨b, 0, none⟩))).run x.P w = .ok (decide (a = b)) w := by
    intro d
    by_cases hab : a = b
    · subst hab
      simp [Op.equalIn, run_underlying hu, sizeOf, typeInfo, hinf, run_sameAddr_same]
    · have hne : (⟨a, 0, none⟩ : Addr) ≠ ⟨b, 0, none⟩ := fun h => hab (by injection h)
      simp [Op.equalIn, run_underlying hu, sizeOf, typeInfo, hinf, hsz, run_sameAddr_other w hne h1 h2, hab]
  have key : (Op.equal T (.pointer (some ⟨a, 0, none⟩)) (.pointer (some ⟨b, 0, none⟩))).run x.P w = .ok (decide (a = b)) w := key0 9999
  simp [execOp, he.eval hp, he.eval hq, eqGuard, binOp, key]⟩
/-- an array's literal -/
theorem Pu.bldA {T : TypeId} {n e sz : Nat} {z : List Value} {parts : List (Nat × Operand)} {vals : List (Nat × Value)} {r : List Value} [zt : ZeroT x.P T z] [at_ : ArrT x.P T n e sz] (hv : evalP env parts = some vals) (hr : fillK ((List.range n).map (fun i => (i * sz, sz))) vals z = some r) :
    Pu x env ⟨dst, .build T parts.toArray, ty, pos, aft, gd⟩ (.agg r.toArray) := ⟨fun a he w => by
  have hz := zt.h
  have hi := at_.i
  cases hinf : x.P.info? T with
  | none => simp [hinf] at hz
  | some i =>
  cases hzz : i.zero with
  | none => simp [hinf, hzz] at hz
  | some zv =>
  have hzc : zv.cells = z.toArray := by simpa [hinf, hzz] using hz
  cases hie : x.P.info? e with
  | none => simp [hie] at hi
  | some j =>
  have hsz : j.size = sz := by simpa [hie] using hi
  have hpe := parts_eval he parts vals hv
  have hparts : (parts.toArray.map fun (p : Nat × Operand) => (p.1, a.eval p.2)).toList = vals := by simpa using hpe
  have hfill := fill_W (place := fun i => some (i * sz, sz)) (fun i q h => by
    rw [List.getElem?_map] at h
    by_cases hi : i < n
    · rw [List.getElem?_range hi] at h; simpa using h
    · rw [List.getElem?_eq_none (by simpa using hi)] at h; cases h) vals z r hr
  simp only [execOp, Instr.build, zeroValue, typeInfo, sizeOf, Sem.run_bind, run_program, Result.andThen_ok, hinf, hzz, hie, hsz, Sem.run_pure, run_underlying at_.h, hzc, hparts, hfill]⟩
end
/-- what is behind the first so many elements -/
theorem OwnS.drop1 {E : Nat} {xs : List Value} {ra : Option Addr} {rn rc : Nat} {hb : HL} (h : OwnS E 1 xs (.slice ra rn rc) hb) {n : Nat} (hn : n ≤ rn) :
    OwnS E 1 (xs.drop n) (.slice (if rc = (n : Int).toNat then ra else ra.map (·.add ((n : Int).toNat * 1))) (rn - (n : Int).toNat) (rc - (n : Int).toNat)) hb := by
  have e1 : (n : Int).toNat = n := by omega
  simp only [e1, Nat.mul_one]
  rcases h with ⟨he, hx, hbn⟩ | ⟨g, q, cap, pre, spare, post, he, rfl, hl, hc, hsp, hm⟩
  · cases he
    have hn0 : n = 0 := by omega
    subst hn0 hx hbn
    exact .inl ⟨rfl, rfl, rfl⟩
  · cases he
    simp only [Nat.mul_one] at hl hsp
    by_cases h1 : rc = n
    · have hr1 : rn = n := by omega
      rw [if_pos h1]
      subst h1 hr1
      have hs0 : spare = [] := List.eq_nil_of_length_eq_zero (by omega)
      subst hs0
      exact .inr ⟨g, 0, 0, pre, [], xs ++ post, by simp, by rw [List.drop_of_length_le (by omega)]; simp, by rw [List.drop_of_length_le (by omega)]; rfl, Nat.le_refl _, by simp, by unfold maxLen; omega⟩
    · rw [if_neg h1]
      refine .inr ⟨g, rn - n, rc - n, pre ++ xs.take n, spare, post, ?_, ?_, ?_, by omega, ?_, by omega⟩
      · have : (xs.take n).length = n := by simp; omega
        simp [add_lit, this]
      · have : xs.take n ++ xs.drop n = xs := List.take_append_drop n xs
        rw [List.append_assoc pre (xs.take n) (xs.drop n), this]
      · rw [List.length_drop, Nat.mul_one, hl]
      · rw [Nat.mul_one, hsp]; omega
end Go.Sl
