/- Some texts as one. A region that draws its order and in which a variable is made anew without an edge to the acts: what stays chosen. No conditions: laws only. Joining ways: what holds behind a piece of code is said once, whichever way was taken. No conditions: laws only. The logic's stepping with more operations: the greater of two, quotients and remainders by numbers, shifts, numbers negated. No conditions: laws only. The logic: bits that are struck ('and not'), and numbers rounded up to fours. No conditions: laws only. The logic's rule for clear over a part of a slice that is owned. No conditions: laws only. Strings, interface values and their types, in the logic: rules for single operations. No conditions: definitions and laws. -/
import Derived.Test.YtlbbgmlmndbecaaGreatDoorBuC
import Derived.Test.YtlbbgmlmndbecaaGreatDoorBuB
namespace Go.Sl
open Go
section
variable {x : Cx} {K : Post} {env : Env} {H Hc : HL} {ops : Array Oper} {f : Tg} {l2 rest : List Tg}
theorem W.drawG {id : Nat} {l : List Oper} (k : Nat) (Hc : HL) (hc : ∀ w, In x.F H w → In x.F Hc w) (h : WF x Hc K l.toArray ((tags l)[k]?.getD ⟨.p, 0, ⟨none, .nilCheck (.tmp 0), 0, "", #[], none⟩, false⟩) ((tags l).drop (k + 1)) ((tags l).take k) env H) (hk : Nat.blt k (tags l).length = true := by kernel_rfl) (hfs : isAlloc ((tags l)[k]?.getD ⟨.p, 0, ⟨none, .nilCheck (.tmp 0), 0, "", #[], none⟩, false⟩).o.op = true := by kernel_rfl)
    (hm : x.P.follows .mixedOrders = true := by kernel_rfl) (hB : mixF k l = true := by kernel_rfl) : W x K (.region id l.toArray true) env H :=
  ⟨fun a w s => by
    have hlt : k < (tags l).length := Nat.le_of_ble_eq_true hk
    have hf : (tags l)[k]? = some ((tags l)[k]?.getD ⟨.p, 0, ⟨none, .nilCheck (.tmp 0), 0, "", #[], none⟩, false⟩) := by rw [List.getElem?_eq_getElem hlt]; rfl
    have hM : CC x H { w with drawn := w.drawn + 1 } := ⟨⟨s.hin.nd, s.hin.own, s.hin.fr, s.hin.dj⟩, ⟨s.same.os, s.same.tape, s.same.output, s.same.size, s.same.drawn.up⟩⟩
    exact wp_region_flo k hf hm hB (fun w h => ⟨hc w h.1, h.2⟩) (M := CC x H) hM (fun hfl hfk => h.run hfl hfk (fun cs b he => by rw [he] at hfs; cases hfs) a s.ev ⟨_, hM⟩)⟩
end
end Go.Sl
namespace Go.Sl
open Go
section
variable {x : Cx} {K : Post} {env : Env} {H : HL} {c : Code}
theorem Fin.weak {e : Exit} {env' : Env} {H' : HL} (he : ∀ t v, look env' t = some v → look env t = some v) (hH : ∀ w, In x.F H w → In x.F H' w) (h : Fin x K e env' H') : Fin x K e env H :=
  ⟨fun a w s => h.run a w ⟨s.ev.sub he, hH w s.hin, s.same⟩⟩
/-- what lies behind a piece of code is walked once; the piece is walked with the rest out of sight -/
theorem W.cut {G : Type} (E : G → Env) (Hp : G → HL) (ok : G → Prop) (h1 : ∀ K' : Post, (∀ g, ok g → Fin x K' .normal (E g) (Hp g)) → (∀ e env H, e ≠ .normal → Fin x K e env H → Fin x K' e env H) → W x K' c env H)
    (h2 : ∀ g, ok g → Fin x K .normal (E g) (Hp g)) : W x K c env H := h1 K h2 (fun _ _ _ _ h => h)
theorem Fin.cut {K' : Post} {G : Type} {E : G → Env} {Hp : G → HL} {ok : G → Prop} (hK : ∀ g, ok g → Fin x K' .normal (E g) (Hp g)) (g : G) (h0 : ok g) (he : ∀ t v, look (E g) t = some v → look env t = some v) (hH : ∀ w, In x.F H w → In x.F (Hp g) w) : Fin x K' .normal env H :=
  Fin.weak he hH (hK g h0)
/-- a loop that is left in one way: its rounds are walked with what lies behind it out of sight -/
theorem W.loopX {G : Type} (e0 : Exit) (E : G → Env) (Hp : G → HL) (ok : G → Prop) (μ : G → Nat) (g0 : G) (h0 : ok g0)
    (he : ∀ t v, look (E g0) t = some v → look env t = some v) (hH : ∀ w, In x.F H w → In x.F (Hp g0) w) (P : G → Prop)
    (round : ∀ K' : Post, (∀ g, ok g → P g → Fin x K' e0 (E g) (Hp g)) → ∀ g, ok g → W x (Exit.then (fun a w => ∃ g', ok g' ∧ St x (E g') (Hp g') a w ∧ μ g' < μ g) K') c (E g) (Hp g))
    (after : ∀ g, ok g → P g → Fin x K e0 (E g) (Hp g)) : W x K (.loop c) env H := W.loop E Hp ok μ g0 h0 he hH (round K after)
end
end Go.Sl
namespace Go.Sl
open Go
section
variable {x : Cx} {K : Post} {env : Env} {H Hc : HL} {ops : Array Oper}
theorem WL.pB {rest : List Oper} {d : Nat} {op : Op} {ty : TypeId} {pos : String} {aft : Array Edge} {v : Value} (next : WL x K ops rest ((d, v) :: env) H) (hn : Nat.blt d x.n = true := by exact rfl) (h : Pu x env ⟨some d, op, ty, pos, aft, none⟩ v := by first | exact Pu.max2 rfl rfl | exact Pu.quo rfl rfl (by decide) | exact Pu.rem rfl rfl (by decide) | exact Pu.shl rfl rfl (by decide) | exact Pu.neg rfl) : WL x K ops (⟨some d, op, ty, pos, aft, none⟩ :: rest) env H := WL.p hn h next
theorem WD.pB {rest : List Tg} {i : Nat} {nc : Bool} {d : Nat} {op : Op} {ty : TypeId} {pos : String} {aft : Array Edge} {v : Value} (next : WD x Hc K ops rest ((d, v) :: env) H) (hn : Nat.blt d x.n = true := by exact rfl) (h : Pu x env ⟨some d, op, ty, pos, aft, none⟩ v := by first | exact Pu.max2 rfl rfl | exact Pu.quo rfl rfl (by decide) | exact Pu.rem rfl rfl (by decide) | exact Pu.shl rfl rfl (by decide) | exact Pu.neg rfl) : WD x Hc K ops (⟨.p, i, ⟨some d, op, ty, pos, aft, none⟩, nc⟩ :: rest) env H := WD.p hn h next
end
theorem S2b {g n : Prop} (h : n) (s : n → g := by first
  | exact W.seq | exact W.region | exact W.block | exact W.skip | exact W.exit | exact W.ret | exact W.cond_t rfl | exact W.cond_f rfl | exact WL.nil | exact WD.nil | exact Fin.next | exact Fin.seq_exit | exact Fin.seq_ret | exact Fin.then_exit | exact Fin.then_ret | exact Fin.block_normal | exact Fin.block_ret | exact Fin.block_exit | exact Fin.block_other rfl
  | exact fun h => WL.pA h | exact fun h => WD.pA h | exact fun h => WL.sA h | exact fun h => WD.sA h | exact WL.g_yes rfl rfl | exact WL.g_no rfl rfl rfl rfl | exact WL.g_undef rfl rfl rfl | exact WD.g_yes rfl rfl | exact WD.g_no rfl rfl rfl rfl | exact WD.g_undef rfl rfl rfl
  | exact fun h => WL.e0A h | exact fun h => WD.e0A h | exact fun h => WL.pB h | exact fun h => WD.pB h) : g := s h
/-- a load by any can at hand -/
theorem SL {g n : Prop} (h : n) (s : n → g := by first | exact fun h => WL.s rfl (Rd.ldC rfl (Sl.Can.mono (by assumption) (fun _ h => h.sublist findA))) h | exact fun h => WD.s rfl (Rd.ldC rfl (Sl.Can.mono (by assumption) (fun _ h => h.sublist findA))) h) : g := s h
end Go.Sl
namespace Go.Sl
open Go
section
variable {x : Cx} {env : Env} {dst : Option Tmp} {ty : TypeId} {pos : String} {aft : Array Edge} {gd : Option (Nat × Bool)}
theorem Pu.andNot {T T' : TypeId} {p q : Operand} {k : IntKind} {m n : Int} (hp : ev env p = some (.int k m)) (hq : ev env q = some (.int k n)) :
    Pu x env ⟨dst, .binOp .andNot T p q T', ty, pos, aft, gd⟩ (.int k (k.wrap (BitVec.ofInt k.bits m &&& ~~~(BitVec.ofInt k.bits n)).toNat)) := ⟨fun a he w => by
  simp [execOp, he.eval hp, he.eval hq, eqGuard, binOp, Op.intArith, Op.intCmp, Op.intBits]⟩
end
theorem strike3 {n : Int} (h : 0 ≤ n ∧ n < 9223372036854775808) : IntKind.i64.wrap (BitVec.ofInt IntKind.i64.bits n &&& ~~~(BitVec.ofInt IntKind.i64.bits 3)).toNat = n / 4 * 4 := by
  obtain ⟨m, rfl⟩ : ∃ m : Nat, n = m := ⟨n.toNat, by omega⟩
  have hm : m < 2 ^ 63 := by omega
  have e : (BitVec.ofInt 64 (m : Int) &&& ~~~(BitVec.ofInt 64 3)).toNat = m / 4 * 4 := by
    have h1 : ∀ v : BitVec 64, (v &&& ~~~(BitVec.ofInt 64 3)) = (v >>> 2) <<< 2 := fun v => by
      refine BitVec.eq_of_getLsbD_eq (fun i hi => ?_)
      rw [BitVec.getLsbD_and, BitVec.getLsbD_not, BitVec.getLsbD_shiftLeft, BitVec.getLsbD_ushiftRight]
      have h3 : (BitVec.ofInt 64 3).getLsbD i = decide (i < 2) := by
        rw [show BitVec.ofInt 64 3 = 3#64 from rfl, BitVec.getLsbD_ofNat]
        match i, hi with
        | 0, _ => rfl
        | 1, _ => rfl
        | i + 2, hi =>
          have : (3 : Nat).testBit (i + 2) = false := by rw [Nat.testBit_succ, Nat.testBit_succ]; exact Nat.zero_testBit i
          rw [this]; simp
      rw [h3]
      by_cases h : i < 2
      · simp [h]
      · simp [h, hi, show 2 + (i - 2) = i by omega]
    rw [h1, BitVec.toNat_shiftLeft, BitVec.toNat_ushiftRight, BitVec.toNat_ofInt]
    simp only [Nat.shiftLeft_eq, Nat.shiftRight_eq_div_pow]
    have : ((m : Int) % ((2 ^ 64 : Nat) : Int)).toNat = m := by omega
    rw [this]
    omega
  show IntKind.i64.wrap ((BitVec.ofInt 64 (m : Int) &&& ~~~(BitVec.ofInt 64 3)).toNat : Int) = _
  rw [e, i64_id (by omega) (by omega)]
  omega
/-- a part of a slice that can be read -/
theorem Lst.part {F : Nat → Option Obj} {H : HL} {xs : List Value} {sa : Option Addr} {n c : Nat} (h : Lst F H 1 xs sa n c) {lo up : Nat} (h1 : lo ≤ up) (h2 : up ≤ n) :
    Lst F H 1 ((xs.drop lo).take (up - lo)) (if c = lo then sa else sa.map (·.add (lo * 1))) (up - lo) (c - lo) := by
  have hl := h.len; have hc := h.cap
  refine ⟨by simp; omega, by omega, fun h0 => ?_, fun h0 => ?_⟩
  · obtain ⟨b, off, rfl, hcan⟩ := h.can (by omega)
    refine ⟨b, off + lo, by rw [if_neg (by omega)]; simp [add_lit], fun w hw j u hu => ?_⟩
    have hj : j < up - lo := by
      have := (List.getElem?_eq_some_iff.1 hu).1
      simp at this
      omega
    have := hcan w hw (lo + j) u (by rw [List.getElem?_take_of_lt hj, List.getElem?_drop] at hu; exact hu)
    rw [show off + lo + j = off + (lo + j) by omega]
    exact this
  · by_cases hlo : c = lo
    · omega
    · rw [if_neg hlo] at h0
      have := h.ok (by cases sa with | none => rfl | some a => cases h0)
      omega
/-- as S2b, but a store is left -/
theorem S2c {g n : Prop} (h : n) (s : n → g := by first
  | exact W.seq | exact W.region | exact W.block | exact W.skip | exact W.exit | exact W.ret | exact W.cond_t rfl | exact W.cond_f rfl | exact WL.nil | exact WD.nil | exact Fin.next | exact Fin.seq_exit | exact Fin.seq_ret | exact Fin.then_exit | exact Fin.then_ret | exact Fin.block_normal | exact Fin.block_ret | exact Fin.block_exit | exact Fin.block_other rfl
  | exact fun h => WL.pA h | exact fun h => WD.pA h | exact fun h => WL.sA h | exact fun h => WD.sA h | exact WL.g_yes rfl rfl | exact WL.g_no rfl rfl rfl rfl | exact WL.g_undef rfl rfl rfl | exact WD.g_yes rfl rfl | exact WD.g_no rfl rfl rfl rfl | exact WD.g_undef rfl rfl rfl
  | exact fun h => WL.pB h | exact fun h => WD.pB h) : g := s h
theorem wpMix_weak {P : Program} {ops : Array Oper} {C : World → Prop} {Q : Act → World → Prop} : ∀ {l : List Tg} {M M' : World → Prop} {a : Act}, (∀ w, M' w → M w) → wpMix P ops C Q l M a → wpMix P ops C Q l M' a
  | [], _, _, _, h, k => fun w hw => k w (h w hw)
  | _ :: _, _, _, _, h, .inl ⟨v, hq, k⟩ => .inl ⟨v, hq, wpMix_weak h k⟩
  | _ :: _, _, _, _, h, .inr ⟨ha, k⟩ => .inr ⟨ha, fun w hw => k w (h w hw)⟩
theorem WD.weak {x : Cx} {K : Post} {env : Env} {H H' Hc : HL} {ops : Array Oper} {l : List Tg} (hH : ∀ w, In x.F H w → In x.F H' w) (h : WD x Hc K ops l env H') : WD x Hc K ops l env H :=
  ⟨fun a he => wpMix_weak (fun _ hw => ⟨hH _ hw.1, hw.2⟩) (h.run a he)⟩
end Go.Sl
namespace Go.Sl
open Go
theorem zeroCells_eq (z : List Value) (hz : 0 < z.length) (n : Nat) : (Builtin.zeroCells z.toArray n).toList = mkCells z n := by
  have h := madeCells_eq z hz n
  unfold madeCells at h
  unfold Builtin.zeroCells
  simp only [List.size_toArray] at h ⊢
  rw [h]
section
variable {x : Cx} {env : Env} {H : HL} {dst : Option Tmp} {ty : TypeId} {pos : String} {aft : Array Edge} {gd : Option (Nat × Bool)}
/-- nothing to clear -/
theorem Ef.clr0 {T e sz by_ : Nat} {p : Operand} {sa : Option Addr} {c : Nat} [st : SliceT x.P T e sz by_] (hp : ev env p = some (.slice sa 0 c)) :
    Ef x env H ⟨dst, .call ⟨.builtin .clear, #[p], #[T]⟩, ty, pos, aft, gd⟩ (fun v' H' => v' = .tuple #[] ∧ H' = H) := ⟨fun a w he hi => by
  have hrun : (Builtin.clear_ #[T] ty #[.slice sa 0 c]).run x.P w = .ok (.tuple #[]) w := by
    cases sa <;> simp [Builtin.clear_, run_underlying st.h]
  refine yields_of_run (v := .tuple #[]) (w' := w) ?_ ⟨H, ⟨rfl, rfl⟩, hi, Same.refl w⟩
  simp only [execOp, resolve, invoke, builtin, List.map_toArray, List.map_cons, List.map_nil, he.eval hp, Sem.run_bind, Sem.run_pure, Result.andThen_ok, hrun]⟩
theorem Ef.clr {T e sz by_ : Nat} {z : List Value} {p : Operand} {b off n c : Nat} {H1 : HL} [st : SliceT x.P T e sz by_] [zt : ZeroT x.P e z] (hz : Nat.blt 0 z.length = true) (h1 : z.all (·.oneCell') = true) (hp : ev env p = some (.slice (some ⟨b, off, none⟩) (n + 1) c)) (hc : PutAt b off (mkCells z (n + 1)) H H1) :
    Ef x env H ⟨dst, .call ⟨.builtin .clear, #[p], #[T]⟩, ty, pos, aft, gd⟩ (fun v' H' => v' = .tuple #[] ∧ H' = H1) := ⟨fun a w he hi => by
  obtain ⟨l, r, T', k, hf, hv, rfl⟩ := hc.foc
  have hg := hf.heap hi
  obtain ⟨i, hinf, _, _⟩ := info_sl st
  have hzt := zt.h
  cases hzz : i.zero with
  | none => simp [hinf, hzz] at hzt
  | some zv =>
  have hzc : zv.cells = z.toArray := by simpa [hinf, hzz] using hzt
  obtain ⟨hr, hle⟩ := splice_eq hv
  have hones : ∀ u ∈ mkCells z (n + 1), u.oneCell' = true := by
    have key : ∀ n, ∀ u ∈ mkCells z n, u.oneCell' = true := fun n => by
      induction n with
      | zero => intro u hu; cases hu
      | succ n ih =>
        intro u hu
        rw [mkCells] at hu
        rcases List.mem_append.1 hu with hu | hu
        · exact List.all_eq_true.1 h1 u hu
        · exact ih u hu
    exact key _
  have hst := run_storeCells_at x.P b off T' (mkCells z (n + 1)) 0 l.toArray w hg (by simpa using hle) hones
  simp only [Nat.add_zero] at hst
  have hrun : (Builtin.clear_ #[T] ty #[.slice (some ⟨b, off, none⟩) (n + 1) c]).run x.P w = .ok (.tuple #[]) (w.setRow b r.toArray) := by
    have hzv : (zeroValue e).run x.P w = .ok zv w := by simp [zeroValue, typeInfo, hinf, hzz]
    simp [Builtin.clear_, run_underlying st.h, hzv, hzc, zeroCells_eq z (Nat.le_of_ble_eq_true hz), hst, hr]
  refine yields_of_run (v := .tuple #[]) (w' := w.setRow b r.toArray) ?_ ⟨_, ⟨rfl, rfl⟩, hi.upd hf (Upd.setRow hg), (Upd.setRow hg).same⟩
  simp only [execOp, resolve, invoke, builtin, List.map_toArray, List.map_cons, List.map_nil, he.eval hp, Sem.run_bind, Sem.run_pure, Result.andThen_ok, hrun]⟩
end
section
variable {x : Cx} {env : Env} {H : HL} {dst : Option Tmp} {ty : TypeId} {pos : String} {aft : Array Edge} {gd : Option (Nat × Bool)}
/-- a call of a function value that may look at all that its caller keeps -/
theorem Ef.callVW {p : Operand} {f : FuncId} {args : List Operand} {tys : Array TypeId} {fv cv vals all : List Value} {c Hr : HL} {R : Value → HL → Prop} [bd : Body x.P f] (hp : ev env p = some (.func (.func f) fv.toArray cv.toArray)) (hargs : args.map (ev env) = vals.map some)
    (hall : fv ++ vals ++ cv = all) (hs : Sub c H Hr) (tr : ∀ F', (∀ w, In F' [] w → In x.F Hr w) → Tr x.P f all.toArray F' c R) : Ef x env H ⟨dst, .call ⟨.value p, args.toArray, tys⟩, ty, pos, aft, gd⟩ (fun v H' => ∃ H1, R v H1 ∧ H' = H1 ++ Hr) := ⟨fun a w he hi =>
  (Ef.callV (dst := dst) (tys := tys) (ty := ty) (pos := pos) (aft := aft) (gd := gd) hp hargs hall hs (tr (addF x.F Hr) (fun _ h => In.unfocus (H := c) (hi.perm hs.perm') h))).run a w he hi⟩
end
/-! ### elements struck out of a slice -/
/-- the first elements alone -/
theorem OwnS.shrink {E sz : Nat} {xs : List Value} {sa : Option Addr} {n c : Nat} {hb : HL} (h : OwnS E sz xs (.slice sa n c) hb) {k : Nat} (hk : k ≤ n) : OwnS E sz (xs.take (k * sz)) (.slice sa k c) hb := by
  rcases h with ⟨he, rfl, rfl⟩ | ⟨g, n', cap, pre, spare, post, he, rfl, hl, hc, hsp, hm⟩
  · cases he
    have hk0 : k = 0 := by omega
    subst hk0
    exact .inl ⟨rfl, by simp, rfl⟩
  · cases he
    have hks : k * sz ≤ n * sz := Nat.mul_le_mul_right sz hk
    refine .inr ⟨g, k, c, pre, xs.drop (k * sz) ++ spare, post, rfl, ?_, by rw [List.length_take]; omega, by omega, ?_, hm⟩
    · congr 4
      simp only [List.append_assoc]
      congr 1
      rw [← List.append_assoc (xs.take (k * sz)) (xs.drop (k * sz)), List.take_append_drop]
    · rw [List.length_append, List.length_drop, hsp, hl, ← Nat.sub_mul, ← Nat.add_mul]
      congr 1
      omega
section
variable {α : Type} {cells : α → List Value} {sz : Nat}
theorem flat_take (hc : ∀ a, (cells a).length = sz) (l : List α) (k : Nat) : (l.flatMap cells).take (k * sz) = (l.take k).flatMap cells := by
  by_cases hk : k ≤ l.length
  · have h1 : l.flatMap cells = (l.take k).flatMap cells ++ (l.drop k).flatMap cells := by rw [← List.flatMap_append, List.take_append_drop]
    rw [h1]
    refine List.take_left' ?_
    rw [flat_len' cells sz hc, List.length_take, Nat.min_eq_left hk]
  · rw [List.take_of_length_le (l := l) (by omega), List.take_of_length_le]
    rw [flat_len' cells sz hc]
    exact Nat.mul_le_mul_right sz (by omega)
theorem flat_drop (hc : ∀ a, (cells a).length = sz) (l : List α) (k : Nat) : (l.flatMap cells).drop (k * sz) = (l.drop k).flatMap cells := by
  by_cases hk : k ≤ l.length
  · have h1 : l.flatMap cells = (l.take k).flatMap cells ++ (l.drop k).flatMap cells := by rw [← List.flatMap_append, List.take_append_drop]
    rw [h1]
    refine List.drop_left' ?_
    rw [flat_len' cells sz hc, List.length_take, Nat.min_eq_left hk]
  · rw [List.drop_of_length_le (l := l) (by omega), List.drop_of_length_le]
    · rfl
    · rw [flat_len' cells sz hc]
      exact Nat.mul_le_mul_right sz (by omega)
/-- an element is another one -/
theorem OwnS.setEl (hc : ∀ a, (cells a).length = sz) {E : Nat} {X : List α} {g o n c : Nat} {hb : HL} (h : OwnS E sz (X.flatMap cells) (.slice (some ⟨g, o, none⟩) n c) hb) {k : Nat} (hk : k < X.length) (a : α) :
    ∃ hb', OwnS E sz ((X.set k a).flatMap cells) (.slice (some ⟨g, o, none⟩) n c) hb' ∧ PutAt g (o + k * sz) (cells a) hb hb' := by
  have hle : (k + 1) * sz ≤ X.length * sz := Nat.mul_le_mul_right sz hk
  obtain ⟨hb', hown', hput⟩ := h.put (k * sz) (cells a) (by rw [hc, flat_len' cells sz hc]; rw [Nat.add_mul] at hle; omega)
  refine ⟨hb', ?_, hput⟩
  have e : (X.set k a).flatMap cells = (X.flatMap cells).take (k * sz) ++ cells a ++ (X.flatMap cells).drop (k * sz + (cells a).length) := by
    rw [hc, show k * sz + sz = (k + 1) * sz by rw [Nat.add_mul]; omega, flat_take hc, flat_drop hc, List.set_eq_take_append_cons_drop, if_pos hk, List.flatMap_append, List.flatMap_cons, List.append_assoc]
  rw [e]
  exact hown'
/-- the row while elements are struck out: those that stay come first; those not looked at yet are as they were -/
structure Dl (dead : α → Bool) (L X : List α) (j : Nat) : Prop where
  len : X.length = L.length
  pre : X.take ((L.take j).filter (fun a => !dead a)).length = (L.take j).filter (fun a => !dead a)
  post : X.drop j = L.drop j
theorem Dl.kept {dead : α → Bool} {L X : List α} {j : Nat} (_ : Dl dead L X j) : ((L.take j).filter (fun a => !dead a)).length ≤ j := by
  have := List.length_filter_le (fun a => !dead a) (L.take j)
  rw [List.length_take] at this
  omega
theorem Dl.get {dead : α → Bool} {L X : List α} {j : Nat} (h : Dl dead L X j) {a : α} (ha : L[j]? = some a) : X[j]? = some a := by
  have := congrArg (·[0]?) h.post
  simpa [List.getElem?_drop, ha] using this
theorem Dl.goes {dead : α → Bool} {L X : List α} {j : Nat} (h : Dl dead L X j) {a : α} (ha : L[j]? = some a) (hd : dead a = true) : Dl dead L X (j + 1) := by
  have e : (L.take (j + 1)).filter (fun a => !dead a) = (L.take j).filter (fun a => !dead a) := by
    rw [List.take_add_one, ha, List.filter_append]
    simp [hd]
  refine ⟨h.len, by rw [e]; exact h.pre, ?_⟩
  have := congrArg (List.drop 1) h.post
  simpa [List.drop_drop, Nat.add_comm] using this
theorem Dl.stays {dead : α → Bool} {L X : List α} {j : Nat} (h : Dl dead L X j) {a : α} (ha : L[j]? = some a) (hd : dead a = false) :
    Dl dead L (X.set ((L.take j).filter (fun a => !dead a)).length a) (j + 1) ∧ ((L.take (j + 1)).filter (fun a => !dead a)).length = ((L.take j).filter (fun a => !dead a)).length + 1 := by
  have e : (L.take (j + 1)).filter (fun a => !dead a) = (L.take j).filter (fun a => !dead a) ++ [a] := by
    rw [List.take_add_one, ha, List.filter_append]
    simp [hd]
  have hk := h.kept
  have hj := (List.getElem?_eq_some_iff.1 ha).1
  have hl := h.len
  refine ⟨⟨by rw [List.length_set]; exact h.len, ?_, ?_⟩, by rw [e, List.length_append]; rfl⟩
  · rw [e, List.length_append, List.length_singleton, List.take_add_one, List.getElem?_set_self (by omega), List.take_set_of_le (by omega), h.pre]
    rfl
  · rw [List.drop_set_of_lt (by omega)]
    have := congrArg (List.drop 1) h.post
    simpa [List.drop_drop, Nat.add_comm] using this
end
end Go.Sl
namespace Go.Sl
open Go

/-- a type that is no interface's -/
def conB (P : Program) (T : TypeId) : Bool := match P.underlying T with | some (.interface _) | none => false | _ => true
class ConT (P : Program) (T : TypeId) : Prop where h : conB P T = true

section
variable {x : Cx} {env : Env} {H : HL} {dst : Option Tmp} {ty : TypeId} {pos : String} {aft : Array Edge} {gd : Option (Nat × Bool)}

theorem Pu.mkI {T : TypeId} {p : Operand} {v : Value} [ct : ConT x.P T] (h : ev env p = some v) : Pu x env ⟨dst, .makeInterface T p, ty, pos, aft, gd⟩ (.iface T v) := ⟨fun a he w => by
  have hc := ct.h
  unfold conB at hc
  cases hu : x.P.underlying T with
  | none => simp [hu] at hc
  | some d =>
    rw [hu] at hc
    cases d <;> first | (simp at hc; done) | simp [execOp, he.eval h, Instr.makeInterface, run_underlying hu]⟩
theorem Pu.ta_t {p : Operand} {X A : TypeId} {v : Value} [ct : ConT x.P A] (h : ev env p = some (.iface A v)) : Pu x env ⟨dst, .typeAssert p X A true, ty, pos, aft, gd⟩ (.tuple [v, .bool true].toArray) := ⟨fun a he w => by
  have hc := ct.h
  unfold conB at hc
  cases hu : x.P.underlying A with
  | none => simp [hu] at hc
  | some d =>
    rw [hu] at hc
    cases d <;> first | (simp at hc; done) | simp [execOp, he.eval h, Instr.typeAssert, run_underlying hu]⟩
theorem Pu.ta_f {p : Operand} {X A t : TypeId} {v z : Value} [ct : ConT x.P A] [zt : ZeroV x.P A z] (h : ev env p = some (.iface t v)) (hne : Nat.beq t A = false) : Pu x env ⟨dst, .typeAssert p X A true, ty, pos, aft, gd⟩ (.tuple [z, .bool false].toArray) := ⟨fun a he w => by
  have hc := ct.h
  have hz := zt.h
  have hn : t ≠ A := Nat.ne_of_beq_eq_false hne
  unfold conB at hc
  cases hi : x.P.info? A with
  | none => simp [hi] at hz
  | some inf =>
    have hz2 : inf.zero = some z := by simpa [hi] using hz
    cases hu : x.P.underlying A with
    | none => simp [hu] at hc
    | some d =>
      rw [hu] at hc
      cases d <;> first | (simp at hc; done) | simp [execOp, he.eval h, Instr.typeAssert, run_underlying hu, hn, zeroValue, typeInfo, hi, hz2]⟩
theorem Pu.addS {T T' : TypeId} {p q : Operand} {m n : ByteArray} (hp : ev env p = some (.string m)) (hq : ev env q = some (.string n)) (hs : ((m.size + n.size : Nat) : Int) ≤ 9223372036854775807) :
    Pu x env ⟨dst, .binOp .add T p q T', ty, pos, aft, gd⟩ (.string (m ++ n)) := ⟨fun a he w => by
  have e : ¬ ((m.size + n.size : Nat) : Int) > IntKind.i64.max := by
    have : IntKind.i64.max = 9223372036854775807 := by decide
    rw [this]; omega
  simp only [execOp, he.eval hp, he.eval hq, binOp, Op.stringOp, Sem.run_bind, if_neg e]
  first | rfl | simp [eqGuard]⟩
theorem Pu.lenStr {T : TypeId} {p : Operand} {m : ByteArray} [st : StrT x.P T] (hp : ev env p = some (.string m)) :
    Pu x env ⟨dst, .call ⟨.builtin .len, #[p], #[T]⟩, ty, pos, aft, gd⟩ (.int .i64 m.size) := ⟨fun a he w => by
  simp [execOp, resolve, invoke, builtin, he.eval hp, Builtin.len_, run_underlying st.h, goInt]⟩
theorem Pu.ixStr {T : TypeId} {p q : Operand} {m : ByteArray} {k : IntKind} {i : Int} {b : UInt8} [st : StrT x.P T] (hp : ev env p = some (.string m)) (hq : ev env q = some (.int k i)) (h0 : 0 ≤ i) (hb : m[i.toNat]? = some b) :
    Pu x env ⟨dst, .index T p q, ty, pos, aft, gd⟩ (.int .u8 b.toNat) := ⟨fun a he w => by
  simp [execOp, he.eval hp, he.eval hq, Instr.index, asIntOf, run_underlying st.h, h0, hb]⟩
theorem Pu.cutStr {T : TypeId} {p q r : Operand} {m : ByteArray} {k k' : IntKind} {i j : Int} [st : StrT x.P T] (hp : ev env p = some (.string m)) (hq : ev env q = some (.int k i)) (hr : ev env r = some (.int k' j)) (h0 : 0 ≤ i) (h1 : i ≤ j) (h2 : j ≤ m.size) :
    Pu x env ⟨dst, .slice T p (some q) (some r) none, ty, pos, aft, gd⟩ (.string (m.extract i.toNat j.toNat)) := ⟨fun a he w => by
  have e1 : 0 ≤ j ∧ j ≤ m.size := by omega
  have e2 : 0 ≤ i ∧ i ≤ j.toNat := by omega
  simp [execOp, he.eval hp, he.eval hq, he.eval hr, Instr.sliceAt, Instr.slice, Instr.sliceBounds, Instr.sliceBound, asIntOf, run_underlying st.h, e1, e2]
  intro h
  omega⟩
theorem Pu.cutStrL {T : TypeId} {p q : Operand} {m : ByteArray} {k : IntKind} {i : Int} [st : StrT x.P T] (hp : ev env p = some (.string m)) (hq : ev env q = some (.int k i)) (h0 : 0 ≤ i) (h1 : i ≤ m.size) :
    Pu x env ⟨dst, .slice T p (some q) none none, ty, pos, aft, gd⟩ (.string (m.extract i.toNat m.size)) := ⟨fun a he w => by
  have e2 : 0 ≤ i ∧ i ≤ m.size := by omega
  simp [execOp, he.eval hp, he.eval hq, Instr.sliceAt, Instr.slice, Instr.sliceBounds, Instr.sliceBound, asIntOf, run_underlying st.h, e2]⟩
theorem Pu.cutStrR {T : TypeId} {p r : Operand} {m : ByteArray} {k' : IntKind} {j : Int} [st : StrT x.P T] (hp : ev env p = some (.string m)) (hr : ev env r = some (.int k' j)) (h1 : 0 ≤ j) (h2 : j ≤ m.size) :
    Pu x env ⟨dst, .slice T p none (some r) none, ty, pos, aft, gd⟩ (.string (m.extract 0 j.toNat)) := ⟨fun a he w => by
  have e1 : 0 ≤ j ∧ j ≤ m.size := by omega
  simp [execOp, he.eval hp, he.eval hr, Instr.sliceAt, Instr.slice, Instr.sliceBounds, Instr.sliceBound, asIntOf, run_underlying st.h, e1]⟩
end

/-! ### strings as lists -/
theorem strB_size (a : List UInt8) : (strB a).size = a.length := by simp [strB, ByteArray.size]
theorem strB_app (a b : List UInt8) : strB a ++ strB b = strB (a ++ b) := by
  apply ByteArray.ext
  simp [strB]
theorem strB_get {a : List UInt8} {i : Nat} {b : UInt8} (h : a[i]? = some b) : (strB a)[i]? = some b := by
  have hlt : i < a.length := (List.getElem?_eq_some_iff.1 h).1
  rw [getElem?_pos (strB a) i (by rw [strB_size]; exact hlt)]
  show some ((strB a).data[i]'_) = some b
  have := (List.getElem?_eq_some_iff.1 h).2
  simp [strB, this]
theorem strB_cut (a : List UInt8) (i j : Nat) : (strB a).extract i j = strB ((a.take j).drop i) := by
  apply ByteArray.ext
  simp [strB, ByteArray.data_extract, List.drop_take]
theorem strB_inj {a b : List UInt8} (h : strB a = strB b) : a = b := by
  have := congrArg (fun s => s.data.toList) h
  simpa [strB] using this
theorem strB_eq (m : ByteArray) : m = strB m.data.toList := by
  apply ByteArray.ext
  simp [strB]
theorem eqS_bool (a b : List UInt8) : ((strB a).toList == (strB b).toList) = decide (a = b) := by
  rw [toList_strB, toList_strB]
  by_cases h : a = b
  · subst h; simp
  · rw [decide_eq_false h]; simpa using h
end Go.Sl
