/- Some texts as one. A region that draws its order and in which a variable is made anew without an edge to the acts: what stays chosen. No conditions: laws only. Joining ways: what holds behind a piece of code is said once, whichever way was taken. No conditions: laws only. The logic's stepping with more operations: the greater of two, quotients and remainders by numbers, shifts, numbers negated. No conditions: laws only. The logic: bits that are struck ('and not'), and numbers rounded up to fours. No conditions: laws only. Many steps as one: the stepping of a walk as one theorem's default proof, its result (both ways of a truth value, new blocks) as one proposition. No conditions: laws only. The logic's rule for clear over a part of a slice that is owned. No conditions: laws only. Strings, interface values and their types, in the logic: rules for single operations. No conditions: definitions and laws. What a library contract says of the world, in the logic; bytes of a row as a string; more stepping (strings, interface values). No conditions: laws. Many steps as one: also those over strings and interface values (pp.py's %P). No conditions: laws only. A string's bytes appended to bytes. No conditions: laws only. -/
import Derived.Test.YtkelhlffeilakaaGreatDoorBuC
import Derived.Test.YtkelhlffeilakaaGreatDoorBuB
import Derived.Lib.UnsafeStr
import Derived.Laws.Externs
import Derived.Below
namespace Go.Sl
open Go
section
variable {x : Cx} {K : Post} {env : Env} {H Hc : HL} {ops : Array Oper} {f : Tg} {l2 rest : List Tg}
end
end Go.Sl
namespace Go.Sl
open Go
section
variable {x : Cx} {K : Post} {env : Env} {H : HL} {c : Code}
theorem Fin.weak {e : Exit} {env' : Env} {H' : HL} (he : ∀ t v, look env' t = some v → look env t = some v) (hH : ∀ w, In x.F H w → In x.F H' w) (h : Fin x K e env' H') : Fin x K e env H :=
  ⟨fun a w s => h.run a w ⟨s.ev.sub he, hH w s.hin, s.same⟩⟩
/-- what lies behind a piece of code is walked once; the piece is walked with the rest out of sight -/
theorem W.cut {G : Type} (E : G → Env) (Hp : G → HL) (ok : G → Prop) (h1 : ∀ K' : Post, (∀ g, ok g → Fin x K' .normal (E g) (Hp g)) → (∀ e env H, e ≠ .normal → Fin x K e env H → Fin x K' e env H) → W x K' c env H)
    (h2 : ∀ g, ok g → Fin x K .normal (E g) (Hp g)) : W x K c env H := h1 K h2 (fun _ _ _ _ h => h)
theorem Fin.cut {K' : Post} {G : Type} {E : G → Env} {Hp : G → HL} {ok : G → Prop} (hK : ∀ g, ok g → Fin x K' .normal (E g) (Hp g)) (g : G) (h0 : ok g) (he : ∀ t v, look (E g) t = some v → look env t = some v) (hH : ∀ w, In x.F H w → In x.F (Hp g) w) : Fin x K' .normal env H :=
  Fin.weak he hH (hK g h0)
end
end Go.Sl
namespace Go.Sl
open Go
section
variable {x : Cx} {K : Post} {env : Env} {H Hc : HL} {ops : Array Oper}
theorem WL.pB {rest : List Oper} {d : Nat} {op : Op} {ty : TypeId} {pos : String} {aft : Array Edge} {v : Value} (next : WL x K ops rest ((d, v) :: env) H) (hn : Nat.blt d x.n = true := by exact rfl) (h : Pu x env ⟨some d, op, ty, pos, aft, none⟩ v := by first | exact Pu.max2 rfl rfl | exact Pu.quo rfl rfl (by decide) | exact Pu.rem rfl rfl (by decide) | exact Pu.shl rfl rfl (by decide) | exact Pu.neg rfl) : WL x K ops (⟨some d, op, ty, pos, aft, none⟩ :: rest) env H := WL.p hn h next
theorem WD.pB {rest : List Tg} {i : Nat} {nc : Bool} {d : Nat} {op : Op} {ty : TypeId} {pos : String} {aft : Array Edge} {v : Value} (next : WD x Hc K ops rest ((d, v) :: env) H) (hn : Nat.blt d x.n = true := by exact rfl) (h : Pu x env ⟨some d, op, ty, pos, aft, none⟩ v := by first | exact Pu.max2 rfl rfl | exact Pu.quo rfl rfl (by decide) | exact Pu.rem rfl rfl (by decide) | exact Pu.shl rfl rfl (by decide) | exact Pu.neg rfl) : WD x Hc K ops (⟨.p, i, ⟨some d, op, ty, pos, aft, none⟩, nc⟩ :: rest) env H := WD.p hn h next
end
end Go.Sl
namespace Go.Sl
open Go
section
variable {x : Cx} {env : Env} {dst : Option Tmp} {ty : TypeId} {pos : String} {aft : Array Edge} {gd : Option (Nat × Bool)}
theorem Pu.andNot {T T' : TypeId} {p q : Operand} {k : IntKind} {m n : Int} (hp : ev env p = some (.int k m)) (hq : ev env q = some (.int k n)) :
    Pu x env ⟨dst, .binOp .andNot T p q T', ty, pos, aft, gd⟩ (.int k (k.wrap (BitVec.ofInt k.bits m &&& ~~~(BitVec.ofInt k.bits n)).toNat)) := ⟨fun a he w => by
  simp [execOp, he.eval hp, he.eval hq, eqGuard, binOp, Op.intArith, Op.intCmp, Op.intBits]⟩
end
/-- a part of a slice that can be read -/
theorem Lst.part {F : Nat → Option Obj} {H : HL} {xs : List Value} {sa : Option Addr} {n c : Nat} (h : Lst F H 1 xs sa n c) {lo up : Nat} (h1 : lo ≤ up) (h2 : up ≤ n) :
    Lst F H 1 ((xs.drop lo).take (up - lo)) (if c = lo then sa else sa.map (·.add (lo * 1))) (up - lo) (c - lo) := by
  have hl := h.len; have hc := h.cap
  refine ⟨by simp; omega, by omega, fun h0 => ?_, fun h0 => ?_⟩
  · obtain ⟨b, off, rfl, hcan⟩ := h.can (by omega)
    refine ⟨b, off + lo, by rw [if_neg (by omega)]; simp [add_lit], fun w hw j u hu => ?_⟩
    have hj : j < up - lo := by
      have := (List.getElem?_eq_some_iff.1 hu).1
      simp at this
      omega
    have := hcan w hw (lo + j) u (by rw [List.getElem?_take_of_lt hj, List.getElem?_drop] at hu; exact hu)
    rw [show off + lo + j = off + (lo + j) by omega]
    exact this
  · by_cases hlo : c = lo
    · omega
    · rw [if_neg hlo] at h0
      have := h.ok (by cases sa with | none => rfl | some a => cases h0)
      omega
theorem wpMix_weak {P : Program} {ops : Array Oper} {C : World → Prop} {Q : Act → World → Prop} : ∀ {l : List Tg} {M M' : World → Prop} {a : Act}, (∀ w, M' w → M w) → wpMix P ops C Q l M a → wpMix P ops C Q l M' a
  | [], _, _, _, h, k => fun w hw => k w (h w hw)
  | _ :: _, _, _, _, h, .inl ⟨v, hq, k⟩ => .inl ⟨v, hq, wpMix_weak h k⟩
  | _ :: _, _, _, _, h, .inr ⟨ha, k⟩ => .inr ⟨ha, fun w hw => k w (h w hw)⟩
theorem WD.weak {x : Cx} {K : Post} {env : Env} {H H' Hc : HL} {ops : Array Oper} {l : List Tg} (hH : ∀ w, In x.F H w → In x.F H' w) (h : WD x Hc K ops l env H') : WD x Hc K ops l env H :=
  ⟨fun a he => wpMix_weak (fun _ hw => ⟨hH _ hw.1, hw.2⟩) (h.run a he)⟩
end Go.Sl
namespace Go.Sl
open Go

theorem C1 {a b c : Prop} (h : a → b) (s : b → c := by first
  | exact W.seq | exact W.region | exact W.block | exact W.skip | exact W.exit | exact W.ret | exact W.cond_t rfl | exact W.cond_f rfl | exact WL.nil | exact WD.nil | exact Fin.next | exact Fin.seq_exit | exact Fin.seq_ret | exact Fin.then_exit | exact Fin.then_ret | exact Fin.block_normal | exact Fin.block_ret | exact Fin.block_exit | exact Fin.block_other rfl
  | exact fun h => WL.pA h | exact fun h => WD.pA h | exact fun h => WL.sA h | exact fun h => WD.sA h | exact WL.g_yes rfl rfl | exact WL.g_no rfl rfl rfl rfl | exact WL.g_undef rfl rfl rfl | exact WD.g_yes rfl rfl | exact WD.g_no rfl rfl rfl rfl | exact WD.g_undef rfl rfl rfl
  | exact fun h => WL.e0A h | exact fun h => WD.e0A h | exact fun h => WL.pB h | exact fun h => WD.pB h) : a → c := fun x => s (h x)
theorem C0 {a b c : Prop} (h : a → b) (s : b → c := by first
  | exact W.seq | exact W.region | exact W.block | exact W.skip | exact W.exit | exact W.ret | exact W.cond_t rfl | exact W.cond_f rfl | exact WL.nil | exact WD.nil | exact Fin.next | exact Fin.seq_exit | exact Fin.seq_ret | exact Fin.then_exit | exact Fin.then_ret | exact Fin.block_normal | exact Fin.block_ret | exact Fin.block_exit | exact Fin.block_other rfl
  | exact fun h => WL.pA h | exact fun h => WD.pA h | exact fun h => WL.sA h | exact fun h => WD.sA h | exact WL.g_yes rfl rfl | exact WL.g_no rfl rfl rfl rfl | exact WL.g_undef rfl rfl rfl | exact WD.g_yes rfl rfl | exact WD.g_no rfl rfl rfl rfl | exact WD.g_undef rfl rfl rfl
  | exact fun h => WL.e0A h | exact fun h => WD.e0A h) : a → c := fun x => s (h x)
theorem CL {a b c : Prop} (h : a → b) (s : b → c := by first | exact fun h => WL.s rfl (Rd.ldC rfl (Sl.Can.mono (by assumption) (fun _ h => h.sublist findA))) h | exact fun h => WD.s rfl (Rd.ldC rfl (Sl.Can.mono (by assumption) (fun _ h => h.sublist findA))) h) : a → c := fun x => s (h x)
theorem CA {n m : Nat → Prop} {c : Prop} (h : ∀ b, n b → m b) (s : (∀ b, m b) → c := by first | exact fun h => WL.aA h | exact fun h => WD.aA h) : (∀ b, n b) → c := fun x => s fun b => h b (x b)
theorem CG1 {x : Cx} {K : Post} {env : Env} {H : HL} {ops : Array Oper} {rest : List Oper} {dst : Option Nat} {op : Op} {ty : TypeId} {pos : String} {aft : Array Edge} {j t : Nat} {b c : Bool} {n1 n2 : Prop}
    (h1 : n1 → WL x K ops (⟨dst, op, ty, pos, aft, some (j, b)⟩ :: rest) ((t, .bool true) :: env) H) (h2 : n2 → WL x K ops (⟨dst, op, ty, pos, aft, some (j, b)⟩ :: rest) ((t, .bool false) :: env) H) (hj : gslot ops j = some t := by exact rfl) (hv : look env t = some (.bool c) := by exact rfl) :
    ((c = true → n1) ∧ (c = false → n2)) → WL x K ops (⟨dst, op, ty, pos, aft, some (j, b)⟩ :: rest) env H := fun z => WL.g_split hj hv (fun e => h1 (z.1 e)) (fun e => h2 (z.2 e))
theorem CG2 {x : Cx} {K : Post} {env : Env} {H Hc : HL} {ops : Array Oper} {rest : List Tg} {i : Nat} {nc : Bool} {k : Kd} {dst : Option Nat} {op : Op} {ty : TypeId} {pos : String} {aft : Array Edge} {j t : Nat} {b c : Bool} {n1 n2 : Prop}
    (h1 : n1 → WD x Hc K ops (⟨k, i, ⟨dst, op, ty, pos, aft, some (j, b)⟩, nc⟩ :: rest) ((t, .bool true) :: env) H) (h2 : n2 → WD x Hc K ops (⟨k, i, ⟨dst, op, ty, pos, aft, some (j, b)⟩, nc⟩ :: rest) ((t, .bool false) :: env) H) (hj : gslot ops j = some t := by exact rfl) (hv : look env t = some (.bool c) := by exact rfl) :
    ((c = true → n1) ∧ (c = false → n2)) → WD x Hc K ops (⟨k, i, ⟨dst, op, ty, pos, aft, some (j, b)⟩, nc⟩ :: rest) env H := fun z => WD.g_split hj hv (fun e => h1 (z.1 e)) (fun e => h2 (z.2 e))
theorem CG3 {x : Cx} {K : Post} {env : Env} {H : HL} {c : Operand} {p q : Code} {b : Bool} {n1 n2 : Prop} (ht : n1 → W x K p env H) (hf : n2 → W x K q env H) (hc : ev env c = some (.bool b) := by exact rfl) : ((b = true → n1) ∧ (b = false → n2)) → W x K (.cond c p q) env H := fun z => W.cond hc (fun e => ht (z.1 e)) (fun e => hf (z.2 e))
abbrev Imp (a b : Prop) : Prop := a → b
/-! as many steps as there are: one theorem a kind (pp.py's %S, %N ..) -/
end Go.Sl
namespace Go.Sl
open Go
section
variable {x : Cx} {env : Env} {H : HL} {dst : Option Tmp} {ty : TypeId} {pos : String} {aft : Array Edge} {gd : Option (Nat × Bool)}
end
section
variable {x : Cx} {env : Env} {H : HL} {dst : Option Tmp} {ty : TypeId} {pos : String} {aft : Array Edge} {gd : Option (Nat × Bool)}
end
/-! ### elements struck out of a slice -/
section
variable {α : Type} {cells : α → List Value} {sz : Nat}
/-- the row while elements are struck out: those that stay come first; those not looked at yet are as they were -/
structure Dl (dead : α → Bool) (L X : List α) (j : Nat) : Prop where
  len : X.length = L.length
  pre : X.take ((L.take j).filter (fun a => !dead a)).length = (L.take j).filter (fun a => !dead a)
  post : X.drop j = L.drop j
theorem Dl.kept {dead : α → Bool} {L X : List α} {j : Nat} (_ : Dl dead L X j) : ((L.take j).filter (fun a => !dead a)).length ≤ j := by
  have := List.length_filter_le (fun a => !dead a) (L.take j)
  rw [List.length_take] at this
  omega
theorem Dl.get {dead : α → Bool} {L X : List α} {j : Nat} (h : Dl dead L X j) {a : α} (ha : L[j]? = some a) : X[j]? = some a := by
  have := congrArg (·[0]?) h.post
  simpa [List.getElem?_drop, ha] using this
theorem Dl.goes {dead : α → Bool} {L X : List α} {j : Nat} (h : Dl dead L X j) {a : α} (ha : L[j]? = some a) (hd : dead a = true) : Dl dead L X (j + 1) := by
  have e : (L.take (j + 1)).filter (fun a => !dead a) = (L.take j).filter (fun a => !dead a) := by
    rw [List.take_add_one, ha, List.filter_append]
    simp [hd]
  refine ⟨h.len, by rw [e]; exact h.pre, ?_⟩
  have := congrArg (List.drop 1) h.post
  simpa [List.drop_drop, Nat.add_comm] using this
theorem Dl.stays {dead : α → Bool} {L X : List α} {j : Nat} (h : Dl dead L X j) {a : α} (ha : L[j]? = some a) (hd : dead a = false) :
    Dl dead L (X.set ((L.take j).filter (fun a => !dead a)).length a) (j + 1) ∧ ((L.take (j + 1)).filter (fun a => !dead a)).length = ((L.take j).filter (fun a => !dead a)).length + 1 := by
  have e : (L.take (j + 1)).filter (fun a => !dead a) = (L.take j).filter (fun a => !dead a) ++ [a] := by
    rw [List.take_add_one, ha, List.filter_append]
    simp [hd]
  have hk := h.kept
  have hj := (List.getElem?_eq_some_iff.1 ha).1
  have hl := h.len
  refine ⟨⟨by rw [List.length_set]; exact h.len, ?_, ?_⟩, by rw [e, List.length_append]; rfl⟩
  · rw [e, List.length_append, List.length_singleton, List.take_add_one, List.getElem?_set_self (by omega), List.take_set_of_le (by omega), h.pre]
    rfl
  · rw [List.drop_set_of_lt (by omega)]
    have := congrArg (List.drop 1) h.post
    simpa [List.drop_drop, Nat.add_comm] using this
end
end Go.Sl
namespace Go.Sl
open Go

/-- a type that is no interface's -/
def conB (P : Program) (T : TypeId) : Bool := match P.underlying T with | some (.interface _) | none => false | _ => true
class ConT (P : Program) (T : TypeId) : Prop where h : conB P T = true

/-- a type of interface values -/
def ifcB (P : Program) (T : TypeId) : Bool := match P.underlying T with | some (.interface _) => true | _ => false
class IfcT (P : Program) (T : TypeId) : Prop where h : ifcB P T = true
section
variable {x : Cx} {env : Env} {H : HL} {dst : Option Tmp} {ty : TypeId} {pos : String} {aft : Array Edge} {gd : Option (Nat × Bool)}

theorem Pu.mkI {T : TypeId} {p : Operand} {v : Value} [ct : ConT x.P T] (h : ev env p = some v) : Pu x env ⟨dst, .makeInterface T p, ty, pos, aft, gd⟩ (.iface T v) := ⟨fun a he w => by
  have hc := ct.h
  unfold conB at hc
  cases hu : x.P.underlying T with
  | none => simp [hu] at hc
  | some d =>
    rw [hu] at hc
    cases d <;> first | (simp at hc; done) | simp [execOp, he.eval h, Instr.makeInterface, run_underlying hu]⟩
theorem Pu.ta_t {p : Operand} {X A : TypeId} {v : Value} [ct : ConT x.P A] (h : ev env p = some (.iface A v)) : Pu x env ⟨dst, .typeAssert p X A true, ty, pos, aft, gd⟩ (.tuple [v, .bool true].toArray) := ⟨fun a he w => by
  have hc := ct.h
  unfold conB at hc
  cases hu : x.P.underlying A with
  | none => simp [hu] at hc
  | some d =>
    rw [hu] at hc
    cases d <;> first | (simp at hc; done) | simp [execOp, he.eval h, Instr.typeAssert, run_underlying hu]⟩
theorem Pu.ta_f {p : Operand} {X A t : TypeId} {v z : Value} [ct : ConT x.P A] [zt : ZeroV x.P A z] (h : ev env p = some (.iface t v)) (hne : Nat.beq t A = false) : Pu x env ⟨dst, .typeAssert p X A true, ty, pos, aft, gd⟩ (.tuple [z, .bool false].toArray) := ⟨fun a he w => by
  have hc := ct.h
  have hz := zt.h
  have hn : t ≠ A := Nat.ne_of_beq_eq_false hne
  unfold conB at hc
  cases hi : x.P.info? A with
  | none => simp [hi] at hz
  | some inf =>
    have hz2 : inf.zero = some z := by simpa [hi] using hz
    cases hu : x.P.underlying A with
    | none => simp [hu] at hc
    | some d =>
      rw [hu] at hc
      cases d <;> first | (simp at hc; done) | simp [execOp, he.eval h, Instr.typeAssert, run_underlying hu, hn, zeroValue, typeInfo, hi, hz2]⟩
theorem run_eqIf {P : Program} {T : TypeId} (h : ifcB P T = true) (v : Value) (hv : v = .nilIface ∨ ∃ t u, v = .iface t u) (w : World) : (Op.equal T v .nilIface).run P w = .ok (match v with | .nilIface => true | _ => false) w := by
  unfold ifcB at h
  split at h
  · rename_i ms hu
    show (Op.equalIn (9999 + 1) T v .nilIface).run P w = _
    rw [Op.equalIn, Sem.run_bind, run_underlying hu]
    rcases hv with rfl | ⟨t, u, rfl⟩ <;> rfl
  · cases h
theorem Pu.eqIf {T T' : TypeId} {p : Operand} {v : Value} [it : IfcT x.P T] (hp : ev env p = some v) (hv : v = .nilIface ∨ ∃ t u, v = .iface t u) :
    Pu x env ⟨dst, .binOp .eql T p (.const .nilIface) T', ty, pos, aft, gd⟩ (.bool (match v with | .nilIface => true | _ => false)) := ⟨fun a he w => by
  have h := run_eqIf it.h v hv w
  have hq : a.eval (.const .nilIface) = .nilIface := rfl
  rcases hv with rfl | ⟨t, u, rfl⟩
  · simp [execOp, he.eval hp, hq, eqGuard, binOp, h]
  · simp [execOp, he.eval hp, hq, eqGuard, binOp, h]⟩
theorem Pu.addS {T T' : TypeId} {p q : Operand} {m n : ByteArray} (hp : ev env p = some (.string m)) (hq : ev env q = some (.string n)) (hs : ((m.size + n.size : Nat) : Int) ≤ 9223372036854775807) :
    Pu x env ⟨dst, .binOp .add T p q T', ty, pos, aft, gd⟩ (.string (m ++ n)) := ⟨fun a he w => by
  have e : ¬ ((m.size + n.size : Nat) : Int) > IntKind.i64.max := by
    have : IntKind.i64.max = 9223372036854775807 := by decide
    rw [this]; omega
  simp only [execOp, he.eval hp, he.eval hq, binOp, Op.stringOp, Sem.run_bind, if_neg e]
  first | rfl | simp [eqGuard]⟩
theorem Pu.lenStr {T : TypeId} {p : Operand} {m : ByteArray} [st : StrT x.P T] (hp : ev env p = some (.string m)) :
    Pu x env ⟨dst, .call ⟨.builtin .len, #[p], #[T]⟩, ty, pos, aft, gd⟩ (.int .i64 m.size) := ⟨fun a he w => by
  simp [execOp, resolve, invoke, builtin, he.eval hp, Builtin.len_, run_underlying st.h, goInt]⟩
theorem Pu.ixStr {T : TypeId} {p q : Operand} {m : ByteArray} {k : IntKind} {i : Int} {b : UInt8} [st : StrT x.P T] (hp : ev env p = some (.string m)) (hq : ev env q = some (.int k i)) (h0 : 0 ≤ i) (hb : m[i.toNat]? = some b) :
    Pu x env ⟨dst, .index T p q, ty, pos, aft, gd⟩ (.int .u8 b.toNat) := ⟨fun a he w => by
  simp [execOp, he.eval hp, he.eval hq, Instr.index, asIntOf, run_underlying st.h, h0, hb]⟩
theorem Pu.cutStr {T : TypeId} {p q r : Operand} {m : ByteArray} {k k' : IntKind} {i j : Int} [st : StrT x.P T] (hp : ev env p = some (.string m)) (hq : ev env q = some (.int k i)) (hr : ev env r = some (.int k' j)) (h0 : 0 ≤ i) (h1 : i ≤ j) (h2 : j ≤ m.size) :
    Pu x env ⟨dst, .slice T p (some q) (some r) none, ty, pos, aft, gd⟩ (.string (m.extract i.toNat j.toNat)) := ⟨fun a he w => by
  have e1 : 0 ≤ j ∧ j ≤ m.size := by omega
  have e2 : 0 ≤ i ∧ i ≤ j.toNat := by omega
  simp [execOp, he.eval hp, he.eval hq, he.eval hr, Instr.sliceAt, Instr.slice, Instr.sliceBounds, Instr.sliceBound, asIntOf, run_underlying st.h, e1, e2]
  intro h
  omega⟩
theorem Pu.cutStrL {T : TypeId} {p q : Operand} {m : ByteArray} {k : IntKind} {i : Int} [st : StrT x.P T] (hp : ev env p = some (.string m)) (hq : ev env q = some (.int k i)) (h0 : 0 ≤ i) (h1 : i ≤ m.size) :
    Pu x env ⟨dst, .slice T p (some q) none none, ty, pos, aft, gd⟩ (.string (m.extract i.toNat m.size)) := ⟨fun a he w => by
  have e2 : 0 ≤ i ∧ i ≤ m.size := by omega
  simp [execOp, he.eval hp, he.eval hq, Instr.sliceAt, Instr.slice, Instr.sliceBounds, Instr.sliceBound, asIntOf, run_underlying st.h, e2]⟩
end

/-! ### strings as lists -/
theorem strB_size (a : List UInt8) : (strB a).size = a.length := by simp [strB, ByteArray.size]
theorem strB_app (a b : List UInt8) : strB a ++ strB b = strB (a ++ b) := by
  apply ByteArray.ext
  simp [strB]
theorem strB_get {a : List UInt8} {i : Nat} {b : UInt8} (h : a[i]? = some b) : (strB a)[i]? = some b := by
  have hlt : i < a.length := (List.getElem?_eq_some_iff.1 h).1
  rw [getElem?_pos (strB a) i (by rw [strB_size]; exact hlt)]
  show some ((strB a).data[i]'_) = some b
  have := (List.getElem?_eq_some_iff.1 h).2
  simp [strB, this]
theorem strB_cut (a : List UInt8) (i j : Nat) : (strB a).extract i j = strB ((a.take j).drop i) := by
  apply ByteArray.ext
  simp [strB, ByteArray.data_extract, List.drop_take]
theorem strB_eq (m : ByteArray) : m = strB m.data.toList := by
  apply ByteArray.ext
  simp [strB]
theorem eqS_bool (a b : List UInt8) : ((strB a).toList == (strB b).toList) = decide (a = b) := by
  rw [toList_strB, toList_strB]
  by_cases h : a = b
  · subst h; simp
  · rw [decide_eq_false h]; simpa using h
end Go.Sl
namespace Go.Sl
open Go

theorem heap_lt {w : World} {b : Nat} {o : Obj} (h : w.heap[b]? = some o) : b < w.heap.size := (Array.getElem?_eq_some_iff.1 h).1
theorem In.below {F : Nat → Option Obj} {H : HL} {w w' : World} (h : In F H w) (hb : RowKit.Below w.heap.size w w') : In F H w' :=
  ⟨h.nd, fun p hp => by have := h.own p hp; rw [hb.block _ (heap_lt this)]; exact this, fun b o hf => by have := h.fr b o hf; rw [hb.block _ (heap_lt this)]; exact this, h.dj⟩
theorem Same.below {B : Nat} {w w' : World} (hb : RowKit.Below B w w') : Same w w' := ⟨hb.os, hb.tape, hb.output, hb.size, .any⟩
theorem Tr.of_below {P : Program} {f : FuncId} {args : Array Value} {F : Nat → Option Obj} {H : HL} {R : Value → Prop} (h : ∀ w, In F H w → Calls P f args w fun e w' => ∃ v, e = .returned v ∧ R v ∧ RowKit.Below w.heap.size w w') :
    Tr P f args F H (fun v H' => R v ∧ H' = H) := fun w hw => (h w hw).mono fun _ _ ⟨v, he, hv, hb⟩ => ⟨v, H, he, ⟨hv, rfl⟩, hw.below hb, .below hb⟩

section
variable {x : Cx} {K : Post} {env : Env} {H Hc : HL} {ops : Array Oper} {dst : Option Tmp} {ty : TypeId} {pos : String} {aft : Array Edge} {gd : Option (Nat × Bool)}
theorem Pu.sld {T : TypeId} {p : Operand} {a : Addr} {n c : Nat} (hp : ev env p = some (.slice (some a) n c)) (hc : c ≠ 0) :
    Pu x env ⟨dst, .call ⟨.builtin .unsafeSliceData, #[p], #[T]⟩, ty, pos, aft, gd⟩ (.pointer (some a)) := ⟨fun a' he w => by
  have h := Lib.run_unsafeSliceData_row (P := x.P) w #[T] ty a n c hc
  simp [execOp, resolve, invoke, builtin, he.eval hp, h]⟩
/-- a row's bytes as a string: the row is given up -/
theorem Ef.uStr {pt it E : TypeId} {p q : Operand} {g o c : Nat} {l : List UInt8} {hb Hr : HL} (hpt : x.P.underlying pt = some (.pointer E)) (hc1 : x.P.cellsOf E = 1) (hp : ev env p = some (.pointer (some ⟨g, o, none⟩))) (hq : ev env q = some (.int .i64 l.length))
    (h0 : l ≠ []) (h63 : l.length ≤ 9223372036854775807) (ho : o = 0) (hown : OwnS E 1 (l.map B) (.slice (some ⟨g, o, none⟩) l.length c) hb) (hsub : Sub hb H Hr) :
    Ef x env H ⟨dst, .call ⟨.builtin .unsafeString, #[p, q], #[pt, it]⟩, ty, pos, aft, gd⟩ (fun v H' => v = .string (strB l) ∧ H' = Hr) := ⟨fun a w he hi => by
  have hperm := hi.perm hsub.perm'
  rcases hown with ⟨e1, _, _⟩ | ⟨g', n', cap, pre, spare, post, e1, rfl, hl, hc, hsp, hm⟩
  · cases e1
  · cases e1
    obtain rfl : pre = [] := List.eq_nil_of_length_eq_zero ho
    have hp : ev env p = some (.pointer (some ⟨g, 0, none⟩)) := hp
    have hg : w.heap[g]? = some (.cells ([] ++ l.map B ++ spare ++ post).toArray E (0, 0)) := hperm.own (g, .cells ([] ++ l.map B ++ spare ++ post).toArray E (0, 0)) (by simp)
    have hsh : w.shape? g = some (E, ([] ++ l.map B ++ spare ++ post).length) := by simp [World.shape?, hg]
    have hcell : ∀ j y, l[j]? = some y → w.cell? ((⟨g, 0, none⟩ : Addr).add j) = some (.int .u8 y.toNat) := fun j y hy => by
      rw [add_lit, cell_of_row w g _ _ E _ hg]
      simp only [List.getElem?_toArray, List.append_assoc]
      have hj : j < l.length := (List.getElem?_eq_some_iff.1 hy).1
      rw [List.nil_append, Nat.zero_add, List.getElem?_append_left (by simpa using hj), List.getElem?_map, hy]
      rfl
    have hrun := Lib.run_unsafeString_row (P := x.P) w pt it ty E hpt hc1 g _ hsh l h0 (by simp only [List.length_append, List.length_map]; omega) h63 hcell
    have hupd : ∃ o', Upd w (w.freeze ⟨g, 0, none⟩ l.length) g o' := by
      have hne : l.length ≠ 0 := by simpa using h0
      unfold World.freeze
      rw [if_neg (by simpa using hne)]
      refine ⟨_, ⟨rfl, rfl, rfl, by simp, .any⟩, (by simp only [Array.getElem?_modify, if_true, hg]; exact rfl), fun j hj => ?_⟩
      · simp only [Array.getElem?_modify]
        rw [if_neg (Ne.symm hj)]
    obtain ⟨o', hu⟩ := hupd
    have h2 := hperm.upd1 hu
    refine yields_of_run (v := .string (strB l)) (w' := w.freeze ⟨g, 0, none⟩ l.length) ?_ ⟨Hr, ⟨rfl, rfl⟩, h2.sublist (List.sublist_cons_self _ _), hu.same⟩
    simp only [execOp, resolve, invoke, builtin, List.map_toArray, List.map_cons, List.map_nil, he.eval hp, he.eval hq, Sem.run_bind, Sem.run_pure, Result.andThen_ok, hrun]
    rfl⟩
theorem WL.pC {rest : List Oper} {d : Nat} {op : Op} {ty : TypeId} {pos : String} {aft : Array Edge} {v : Value} (next : WL x K ops rest ((d, v) :: env) H) (hn : Nat.blt d x.n = true := by exact rfl) (h : Pu x env ⟨some d, op, ty, pos, aft, none⟩ v := by first | exact Pu.mkI rfl | exact Pu.ta_t rfl | exact Pu.ta_f rfl rfl | exact Pu.lenStr rfl | exact Pu.eqS rfl rfl | exact Pu.neS rfl rfl | exact Pu.iaA rfl rfl (by decide)) : WL x K ops (⟨some d, op, ty, pos, aft, none⟩ :: rest) env H := WL.p hn h next
theorem WD.pC {rest : List Tg} {i : Nat} {nc : Bool} {d : Nat} {op : Op} {ty : TypeId} {pos : String} {aft : Array Edge} {v : Value} (next : WD x Hc K ops rest ((d, v) :: env) H) (hn : Nat.blt d x.n = true := by exact rfl) (h : Pu x env ⟨some d, op, ty, pos, aft, none⟩ v := by first | exact Pu.mkI rfl | exact Pu.ta_t rfl | exact Pu.ta_f rfl rfl | exact Pu.lenStr rfl | exact Pu.eqS rfl rfl | exact Pu.neS rfl rfl | exact Pu.iaA rfl rfl (by decide)) : WD x Hc K ops (⟨.p, i, ⟨some d, op, ty, pos, aft, none⟩, nc⟩ :: rest) env H := WD.p hn h next
end
end Go.Sl
namespace Go.Sl
open Go

theorem C3 {a b c : Prop} (h : a → b) (s : b → c := by first | exact fun h => WL.pC h | exact fun h => WD.pC h) : a → c := fun x => s (h x)
theorem SP {g n : Prop} (h : n) (s : n → g := by
  repeat' (show Imp _ _; first | refine' C1 ?_ | refine' C3 ?_ | refine' CA (fun _ => ?_) | refine' CG1 ?_ ?_ | refine' CG2 ?_ ?_ | refine' CG3 ?_ ?_ | refine' CL ?_)
  any_goals exact fun h => h) : g := s h
end Go.Sl
namespace Go.Sl
open Go

theorem run_firstStr {P : Program} (w : World) (l : List UInt8) : (Builtin.firstCells 1 l.length (.string (strB l))).run P w = .ok (l.map fun b => Value.int .u8 b.toNat).toArray w := by
  simp [Builtin.firstCells, strB]
theorem run_append_strS {P : Program} {T U ty E : Nat} {i : TypeInfo} {zv : Value} (ht : P.underlying T = some (.slice E)) (hu : P.underlying U = some .string) (hi : P.info? E = some i) (hs : i.size = 1) (hby : i.bytes = 1) (hz : i.zero = some zv) (hzs : zv.cells.size = 1)
    {xs : List Value} {v : Value} {hb : HL} (hown : OwnS E 1 xs v hb) {w : World} (hblk : ∀ p ∈ hb, w.heap[p.1]? = some p.2) (l : List UInt8) (hb1 : xs.length + l.length ≤ 140737488355328) :
    ∃ v' w' hb', (Builtin.append_ #[T, U] ty #[v, .string (strB l)]).run P w = .ok v' w' ∧ OwnS E 1 (xs ++ l.map fun b => Value.int .u8 b.toNat) v' hb' ∧ (OffZ v → OffZ v') ∧
      ((hb' = hb ∧ w' = w) ∨ (∃ g o o', hb = [(g, o)] ∧ hb' = [(g, o')] ∧ Upd w w' g o') ∨ ∃ o', hb' = [(w.heap.size, o')] ∧ w' = w.drew.alloc o') := by
  have hmax : maxLen = 9223372036854775807 := by unfold maxLen; rfl
  obtain ⟨news, hnews⟩ : ∃ n : List Value, n = l.map fun b => Value.int .u8 (b.toNat : Int) := ⟨_, rfl⟩
  rw [← hnews]
  have hnl : news.length = l.length := by rw [hnews, List.length_map]
  have h1 : ∀ u ∈ news, u.oneCell' = true := fun u hu => by
    rw [hnews] at hu
    obtain ⟨b, _, rfl⟩ := List.mem_map.1 hu
    rfl
  have hsz : (strB l).size = l.length := strB_size l
  have hfs : ∀ w : World, (Builtin.firstCells 1 l.length (.string (strB l))).run P w = .ok news.toArray w := fun w => by rw [run_firstStr, hnews]
  have grown : ∀ (n old : Nat), xs.length = n → OwnS E 1 (xs ++ news) (.slice (some ⟨w.heap.size, 0, none⟩) (n + l.length) (grownCap w (n + l.length) old E))
      [(w.heap.size, .cells (xs.toArray ++ news.toArray ++ Builtin.zeroCells zv.cells (grownCap w (n + l.length) old E - (n + l.length))) E (0, 0))] := fun n old hn => by
    refine .inr ⟨w.heap.size, n + l.length, grownCap w (n + l.length) old E, [], (Builtin.zeroCells zv.cells (grownCap w (n + l.length) old E - (n + l.length))).toList, [], rfl, by simp, by simp [hn, hnl], grownCap_ge _ _ _ _, ?_, ?_⟩
    · simp [size_zeroCells, hzs]
    · exact grownCap_le_maxLen _ _ _ _ (by omega)
  rcases hown with ⟨rfl, rfl, rfl⟩ | ⟨g, n, cap, pre, spare, post, rfl, rfl, hlen, hnc, hsp, hcap⟩
  · by_cases hm : l.length = 0
    · have hnew : news = [] := List.eq_nil_of_length_eq_zero (by omega)
      refine ⟨.slice none 0 0, w, [], ?_, .inl ⟨rfl, by simp [hnew], rfl⟩, fun hz => hz, .inl ⟨rfl, rfl⟩⟩
      have hl : l = [] := List.eq_nil_of_length_eq_zero hm
      subst hl
      have hz0 : (strB []).size = 0 := rfl
      simp [Builtin.append_, run_underlying ht, run_underlying hu, sizeOf, typeInfo, hi, Builtin.lenOf, Builtin.firstCells, hz0]
    · have hg := grown 0 0 rfl
      simp only [Nat.zero_add, List.nil_append, Array.empty_append] at hg
      have hsz0 : (strB l).size ≠ 0 := by omega
      have hrun := run_append_nil_string (P := P) (w := w) T U ty E i zv ht hu hi hz (strB l) (by omega) (by omega) (by rw [hby]; simp at hb1; omega)
      rw [hsz] at hrun
      have hd : (strB l).data.map (fun b => Value.int .u8 (b.toNat : Int)) = news.toArray := by rw [hnews]; simp [strB]
      rw [hd] at hrun
      exact ⟨_, _, _, hrun, hg, fun _ => .new _ _ _, .inr (.inr ⟨_, rfl, rfl⟩)⟩
  · have hlen : xs.length = n := by omega
    have hsp : spare.length = cap - n := by omega
    have hgh : w.heap[g]? = some (.cells (pre ++ xs ++ spare ++ post).toArray E (0, 0)) := hblk (g, _) List.mem_cons_self
    by_cases hroom : n + l.length ≤ cap
    · have hst := run_storeCells_at P g (pre.length + n) E news 0 (pre ++ xs ++ spare ++ post).toArray w hgh (by simp [hlen, hsp, hnl]; omega) h1
      simp only [Nat.add_zero] at hst
      have hcells : ((pre ++ xs ++ spare ++ post).take (pre.length + n) ++ news ++ (pre ++ xs ++ spare ++ post).drop (pre.length + n + news.length)) = pre ++ (xs ++ news) ++ spare.drop l.length ++ post := by
        have e1 : (pre ++ xs ++ spare ++ post).take (pre.length + n) = pre ++ xs := by
          rw [List.append_assoc (pre ++ xs), List.take_append_of_le_length (by simp [hlen]), List.take_of_length_le (by simp [hlen])]
        have e2 : (pre ++ xs ++ spare ++ post).drop (pre.length + n + news.length) = spare.drop l.length ++ post := by
          have : pre.length + n + news.length = (pre ++ xs).length + l.length := by simp [hlen, hnl]
          rw [this, List.append_assoc (pre ++ xs), ← List.drop_drop, List.drop_left, List.drop_append_of_le_length (by omega)]
        rw [e1, e2]; simp
      have hrun : (Builtin.append_ #[T, U] ty #[.slice (some ⟨g, pre.length, none⟩) n cap, .string (strB l)]).run P w = .ok (.slice (some ⟨g, pre.length, none⟩) (n + l.length) cap) (w.setRow g (pre ++ (xs ++ news) ++ spare.drop l.length ++ post).toArray) := by
        rw [← hcells]
        simp [Builtin.append_, run_underlying ht, run_underlying hu, sizeOf, typeInfo, hi, Builtin.lenOf, hsz, hs, hfs, hroom, add_lit, hst]
      refine ⟨_, _, [(g, .cells (pre ++ (xs ++ news) ++ spare.drop l.length ++ post).toArray E (0, 0))], hrun, .inr ⟨g, n + l.length, cap, pre, spare.drop l.length, post, rfl, rfl, by simp [hlen, hnl], hroom, ?_, hcap⟩, fun hz => .same hz, .inr (.inl ⟨g, _, _, rfl, rfl, Upd.setRow hgh⟩)⟩
      rw [List.length_drop, hsp]
      omega
    · have holds : ∀ j u, xs[j]? = some u → w.cell? ((⟨g, pre.length, none⟩ : Addr).add j) = some u := fun j u hu => by
        have hj : j < xs.length := (List.getElem?_eq_some_iff.1 hu).1
        rw [add_lit, cell_of_row w g _ _ E _ hgh]
        simp only [List.getElem?_toArray, List.append_assoc]
        rw [List.getElem?_append_right (by omega), Nat.add_sub_cancel_left, List.getElem?_append_left hj]
        exact hu
      have hfit : Builtin.nextslicecap (n + l.length) cap * i.bytes ≤ 281474976710656 := growslice_fits (by omega) (by rw [hby]; omega)
      have h63' : ¬ (9223372036854775807 < ((n : Int) + (l.length : Int))) := by omega
      have h48' : ¬ (281474976710656 < Builtin.nextslicecap (n + l.length) cap * i.bytes) := by omega
      have hfo := run_firstCells_some (P := P) w.drew i.size n ⟨g, pre.length, none⟩ n cap xs (by rw [hs]; omega) (by simpa using holds)
      have hrun : (Builtin.append_ #[T, U] ty #[.slice (some ⟨g, pre.length, none⟩) n cap, .string (strB l)]).run P w = .ok (.slice (some ⟨w.heap.size, 0, none⟩) (n + l.length) (grownCap w (n + l.length) cap E))
          (w.drew.alloc (.cells (xs.toArray ++ news.toArray ++ Builtin.zeroCells zv.cells (grownCap w (n + l.length) cap E - (n + l.length))) E)) := by
        rw [hs] at hfo
        simp [Builtin.append_, run_underlying ht, run_underlying hu, sizeOf, typeInfo, zeroValue, hi, hz, Builtin.lenOf, hsz, hs, hroom, h63', h48', Question.forced, hfs, hfo, newRow, grownCap]
        congr 2
        apply Array.ext'
        simp [List.append_assoc]
      exact ⟨_, _, _, hrun, grown n cap hlen, fun _ => .new _ _ _, .inr (.inr ⟨_, rfl, rfl⟩)⟩

section
variable {x : Cx} {env : Env} {H : HL} {dst : Option Tmp} {ty : TypeId} {pos : String} {aft : Array Edge} {gd : Option (Nat × Bool)}
theorem Ef.appS {T U E : Nat} {z : List Value} {p q : Operand} {xs : List Value} {v : Value} {hb Hr : HL} {l : List UInt8} [st : SliceT x.P T E 1 1] [zt : ZeroT x.P E z] [su : StrT x.P U] (hzl : z.length = 1)
    (hp : ev env p = some v) (hq : ev env q = some (.string (strB l))) (hown : OwnS E 1 xs v hb) (hsub : Sub hb H Hr) (hb1 : xs.length + l.length ≤ 140737488355328) :
    Ef x env H ⟨dst, .call ⟨.builtin .append, #[p, q], #[T, U]⟩, ty, pos, aft, gd⟩ (fun v' H' => ∃ hb', OwnS E 1 (xs ++ l.map fun b => Value.int .u8 b.toNat) v' hb' ∧ (OffZ v → OffZ v') ∧ H' = hb' ++ Hr) := ⟨fun a w he hi => by
  have hperm := hi.perm hsub.perm'
  have hst := st.i
  have hzt := zt.h
  cases hinf : x.P.info? E with
  | none => simp [hinf] at hst
  | some i =>
  simp only [hinf, Option.map_some, Option.some.injEq, Prod.mk.injEq] at hst
  cases hzz : i.zero with
  | none => simp [hinf, hzz] at hzt
  | some zv =>
  have hzc : zv.cells = z.toArray := by simpa [hinf, hzz] using hzt
  obtain ⟨v', w', hb', hrun, hown', hzz', hcase⟩ := run_append_strS (ty := ty) st.h su.h hinf hst.1 hst.2 hzz (by rw [hzc]; simpa using hzl) hown (w := w) (fun p hp => hperm.own p (List.mem_append_left _ hp)) l hb1
  refine yields_of_run (v := v') (w' := w') (by simp only [execOp, resolve, invoke, builtin, List.map_toArray, List.map_cons, List.map_nil, he.eval hp, he.eval hq, Sem.run_bind, Sem.run_pure, Result.andThen_ok, hrun]) ⟨hb' ++ Hr, ⟨hb', hown', hzz', rfl⟩, ?_⟩
  rcases hcase with ⟨rfl, rfl⟩ | ⟨g, o, o', rfl, rfl, hu⟩ | ⟨o', rfl, rfl⟩
  · exact ⟨hperm, Same.refl _⟩
  · exact ⟨hperm.upd1 hu, hu.same⟩
  · have h2 := (hperm.right).drew.alloc o'
    exact ⟨h2, (Same.drew w).trans (Same.alloc _ _)⟩⟩
/-- a call, over a frame that has all that the caller's frame has, and what the caller keeps -/
theorem Ef.callP {f : FuncId} {args : List Operand} {tys : Array TypeId} {vals : List Value} {c Hr : HL} {R : Value → HL → Prop} [bd : Body x.P f] (hargs : args.map (ev env) = vals.map some) (hs : Sub c H Hr)
    (tr : ∀ F', (∀ b o, x.F b = some o → F' b = some o) → (∀ w, In F' [] w → In x.F Hr w) → Tr x.P f vals.toArray F' c R) : Ef x env H ⟨dst, .call ⟨.value (.func f), args.toArray, tys⟩, ty, pos, aft, gd⟩ (fun v H' => ∃ H1, R v H1 ∧ H' = H1 ++ Hr) := ⟨fun a w he hi =>
  (Ef.call (dst := dst) (tys := tys) (ty := ty) (pos := pos) (aft := aft) (gd := gd) hargs hs (tr (addF x.F Hr) (fun _ _ h => addF_ro (hi.perm hs.perm').right.dj h) (fun _ h => In.unfocus (H := c) (hi.perm hs.perm') h))).run a w he hi⟩
/-- where something can be read whatever else there is, the frame has that block -/
theorem Can.block {F : Nat → Option Obj} {b off : Nat} {v : Value} {vs : List Value} (hc : Can F [] b off (v :: vs)) {w : World} (hw : In F [] w) : ∃ o, F b = some o := by
  cases hF : F b with
  | some o => exact ⟨o, rfl⟩
  | none =>
    exfalso
    have h2 : In F [] { w with heap := w.heap.setIfInBounds b (.cells #[] 0 (0, 0)) } := ⟨hw.nd, fun _ h => (by cases h), fun b' o h => by
      have hne : b ≠ b' := fun e => by subst e; rw [hF] at h; cases h
      show (w.heap.setIfInBounds b _)[b']? = some o
      rw [Array.getElem?_setIfInBounds_ne hne]
      exact hw.fr b' o h, fun _ h => (by cases h)⟩
    have h3 := hc _ h2 0 v rfl
    unfold World.cell? at h3
    by_cases hb : b < w.heap.size
    · simp [hb] at h3
    · simp [hb] at h3
theorem Pu.sld0 {T : TypeId} {p : Operand} {n c : Nat} (hp : ev env p = some (.slice none n c)) :
    Pu x env ⟨dst, .call ⟨.builtin .unsafeSliceData, #[p], #[T]⟩, ty, pos, aft, gd⟩ (.pointer none) := ⟨fun a' he w => by
  have h := Lib.run_unsafeSliceData_nil (P := x.P) (w := w) #[T] ty n c
  simp [execOp, resolve, invoke, builtin, he.eval hp, h]⟩
theorem Pu.uStr0 {pt it : TypeId} {p q : Operand} (hp : ev env p = some (.pointer none)) (hq : ev env q = some (.int .i64 0)) :
    Pu x env ⟨dst, .call ⟨.builtin .unsafeString, #[p, q], #[pt, it]⟩, ty, pos, aft, gd⟩ (.string (strB [])) := ⟨fun a' he w => by
  have h := Lib.run_unsafeString_none (P := x.P) (w := w) pt it ty none
  have e : strB [] = ByteArray.empty := rfl
  simp [execOp, resolve, invoke, builtin, he.eval hp, he.eval hq, h, e]⟩
end
end Go.Sl
