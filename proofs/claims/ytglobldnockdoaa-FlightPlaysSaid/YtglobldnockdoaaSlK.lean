/- The logic's rules for a map's length, arrays' places, and the greater of two. No conditions: laws only. -/
import Derived.Test.YtglobldnockdoaaSlI
namespace Go.Sl
open Go
section
variable {x : Cx} {env : Env} {H : HL} {dst : Option Tmp} {ty : TypeId} {pos : String} {aft : Array Edge} {gd : Option (Nat × Bool)}
theorem Rd.lenM {T K E : TypeId} {p : Operand} {b clk : Nat} {es : List MapEntry} {kk : Obj → HL} [mt : MapT x.P T K E] (hp : ev env p = some (.map (some b))) (hm : MapAt b es clk H kk) :
    Rd x env H ⟨dst, .call ⟨.builtin .len, #[p], #[T]⟩, ty, pos, aft, gd⟩ (.int .i64 es.length) := ⟨fun a w he hi => by
  have hb := hm.foc.heap hi
  have hg : (getObj b).run x.P w = .ok (.map es.toArray clk) w := by simp [getObj, Sem.run, hb]
  simp [execOp, resolve, invoke, builtin, he.eval hp, Builtin.len_, run_underlying mt.h, goInt, hg]⟩
theorem Pu.iaA {T : TypeId} {n e sz : Nat} {p q : Operand} {b off : Nat} {k : IntKind} {i : Int} [at_ : ArrT x.P T n e sz] (hp : ev env p = some (.pointer (some ⟨b, off, none⟩))) (hq : ev env q = some (.int k i)) (h0 : 0 ≤ i ∧ i < n) :
    Pu x env ⟨dst, .indexAddr T p q, ty, pos, aft, gd⟩ (.pointer (some ⟨b, off + i.toNat * sz, none⟩)) := ⟨fun a he w => by
  have hi := at_.i
  cases hq2 : x.P.info? e with
  | none => simp [hq2] at hi
  | some inf =>
    have hs : inf.size = sz := by have := hi; simp [hq2] at this; exact this
    have hadd : (⟨b, off, none⟩ : Addr).add (i.toNat * sz) = ⟨b, off + i.toNat * sz, none⟩ := by
      unfold Addr.add; split <;> simp_all
    simp [execOp, he.eval hp, he.eval hq, Instr.indexAt, asIntOf, run_underlying at_.h, h0, sizeOf, typeInfo, hq2, hs, hadd, Instr.sureAddr]⟩
theorem Pu.max2 {T T' : TypeId} {p q : Operand} {k : IntKind} {m n : Int} (hp : ev env p = some (.int k m)) (hq : ev env q = some (.int k n)) :
    Pu x env ⟨dst, .call ⟨.builtin .max, #[p, q], #[T, T']⟩, ty, pos, aft, gd⟩ (.int k (if n > m then n else m)) := ⟨fun a he w => by
  simp [execOp, resolve, invoke, builtin, he.eval hp, he.eval hq, Builtin.max_, Builtin.max2]⟩
end
section
variable {x : Cx} {env : Env} {H : HL} {dst : Option Tmp} {ty : TypeId} {pos : String} {aft : Array Edge} {gd : Option (Nat × Bool)}
/-- a call that only looks at what its caller owns or may read -/
theorem Ef.look {f : FuncId} {args : List Operand} {tys : Array TypeId} {vals : List Value} {R : Value → HL → Prop} [bd : Body x.P f] (hargs : args.map (ev env) = vals.map some)
    (tr : ∀ F', (∀ w, In F' [] w → In x.F H w) → Tr x.P f vals.toArray F' [] R) : Ef x env H ⟨dst, .call ⟨.value (.func f), args.toArray, tys⟩, ty, pos, aft, gd⟩ (fun v H' => ∃ H1, R v H1 ∧ H' = H1 ++ H) := ⟨fun a w he hi =>
  (Ef.call (dst := dst) (tys := tys) (ty := ty) (pos := pos) (aft := aft) (gd := gd) hargs (.nil H) (tr (addF x.F H) (fun _ h => In.unfocus (H := []) hi h))).run a w he hi⟩
theorem Ef.lookR {f : FuncId} {args : List Operand} {tys : Array TypeId} {vals : List Value} {R : Value → Prop} [bd : Body x.P f] (hargs : args.map (ev env) = vals.map some)
    (tr : ∀ F', (∀ w, In F' [] w → In x.F H w) → Tr x.P f vals.toArray F' [] (fun v H' => R v ∧ H' = [])) : Ef x env H ⟨dst, .call ⟨.value (.func f), args.toArray, tys⟩, ty, pos, aft, gd⟩ (fun v H' => R v ∧ H' = H) := ⟨fun a w he hi =>
  (Ef.callR (dst := dst) (tys := tys) (ty := ty) (pos := pos) (aft := aft) (gd := gd) hargs (.nil H) (tr (addF x.F H) (fun _ h => In.unfocus (H := []) hi h))).run a w he hi⟩
end
theorem OwnS.empty (E sz b : Nat) : OwnS E sz [] (.slice (some ⟨b, 0, none⟩) 0 0) [(b, .cells ([] : List Value).toArray E (0, 0))] :=
  .inr ⟨b, 0, 0, [], [], [], rfl, rfl, by simp, Nat.le_refl _, by simp, by decide⟩
theorem OwnS.shape {E sz : Nat} {xs : List Value} {v : Value} {hb : HL} (h : OwnS E sz xs v hb) : ∃ sa sn sc, v = .slice sa sn sc ∧ xs.length = sn * sz ∧ sn ≤ sc := by
  rcases h with ⟨rfl, rfl, _⟩ | ⟨g, n, cap, pre, spare, post, rfl, _, hl, hc, _⟩
  · exact ⟨none, 0, 0, rfl, by simp, Nat.le_refl _⟩
  · exact ⟨_, n, cap, rfl, hl, hc⟩
theorem Src.mono {F F' : Nat → Option Obj} {H H' : HL} {v : Value} {m : Nat} {news : List Value} (hs : Src F H v m news) (hw : ∀ w, In F' H' w → In F H w) : Src F' H' v m news :=
  hs.imp id fun ⟨a, c, h1, h2⟩ => ⟨a, c, h1, fun w hi => h2 w (hw w hi)⟩
theorem B_one (bs : List UInt8) : ∀ u ∈ bs.map B, u.oneCell' = true := fun u hu => by
  obtain ⟨b, _, rfl⟩ := List.mem_map.1 hu; rfl
/-- a slice's first element goes -/
theorem OwnS.tail {E sz : Nat} {x xs : List Value} {ra : Option Addr} {rn rc : Nat} {hb : HL} (hx : x.length = sz) (hsz : 0 < sz) (h : OwnS E sz (x ++ xs) (.slice ra rn rc) hb) :
    OwnS E sz xs (.slice (if rc = (1 : Int).toNat then ra else ra.map (·.add ((1 : Int).toNat * sz))) (rn - (1 : Int).toNat) (rc - (1 : Int).toNat)) hb := by
  rcases h with ⟨he, hn, _⟩ | ⟨g, n, cap, pre, spare, post, he, rfl, hl, hc, hsp, hm⟩
  · simp at hn; rw [hn.1] at hx; simp at hx; omega
  · cases he
    have hn1 : 1 ≤ rn := by
      rcases Nat.eq_zero_or_pos rn with h0 | h0
      · subst h0; rw [Nat.zero_mul, List.length_append] at hl; omega
      · exact h0
    have hxs : xs.length = (rn - 1) * sz := by
      rw [Nat.sub_mul, ← hl]; simp; omega
    have e1 : (1 : Int).toNat = 1 := rfl
    simp only [e1, Nat.one_mul]
    by_cases h1 : rc = 1
    · have hr1 : rn = 1 := by omega
      rw [if_pos h1]
      subst h1 hr1
      have hx0 : xs = [] := List.eq_nil_of_length_eq_zero (by simpa using hxs)
      have hs0 : spare = [] := List.eq_nil_of_length_eq_zero (by simpa using hsp)
      subst hx0 hs0
      exact .inr ⟨g, 0, 0, pre, [], x ++ post, rfl, by simp, by simp, Nat.le_refl _, by simp, by unfold maxLen; omega⟩
    · rw [if_neg h1]
      refine .inr ⟨g, rn - 1, rc - 1, pre ++ x, spare, post, ?_, by simp, hxs, by omega, ?_, by omega⟩
      · simp [add_lit, hx]
      · rw [hsp]; congr 1; omega
theorem OwnS.src {E sz : Nat} {F : Nat → Option Obj} {H : HL} {xs : List Value} {sa : Option Addr} {sn sc : Nat} {hb : HL} (h : OwnS E sz xs (.slice sa sn sc) hb) (hw : ∀ w, In F H w → In F hb w) : Src F H (.slice sa sn sc) sn xs := by
  rcases h with ⟨he, rfl, _⟩ | ⟨g, n, cap, pre, spare, post, he, rfl, hl, hc, hsp, hm⟩
  · cases he; exact .inl ⟨0, rfl, rfl, rfl⟩
  · cases he
    refine .inr ⟨_, _, rfl, fun w hi j u hu => ?_⟩
    have hj : j < xs.length := (List.getElem?_eq_some_iff.1 hu).1
    have hg := (hw w hi).own _ (List.mem_cons_self ..)
    rw [add_lit, cell_of_row w g _ _ E _ hg]
    simp only [List.getElem?_toArray, List.append_assoc]
    rw [List.getElem?_append_right (by omega), Nat.add_sub_cancel_left, List.getElem?_append_left hj]
    exact hu
theorem i64_id {n : Int} (h1 : -9223372036854775808 ≤ n) (h2 : n ≤ 9223372036854775807) : IntKind.i64.wrap n = n := by
  simp only [IntKind.wrap, IntKind.bits, IntKind.signed]
  simp
  omega
theorem flat_at {α : Type} (f : α → List Value) (sz : Nat) (hf : ∀ a, (f a).length = sz) : ∀ (l : List α) (i : Nat) (a : α), l[i]? = some a → ((l.flatMap f).drop (i * sz)).take sz = f a
  | [], _, _, h => by simp at h
  | b :: l, 0, a, h => by
    simp at h; subst h
    rw [List.flatMap_cons, Nat.zero_mul, List.drop_zero, ← hf b, List.take_left']
    rfl
  | b :: l, i + 1, a, h => by
    rw [List.getElem?_cons_succ] at h
    rw [List.flatMap_cons, List.drop_append, List.drop_eq_nil_of_le (by rw [hf, Nat.succ_mul]; omega), List.nil_append, hf, Nat.succ_mul, Nat.add_sub_cancel, flat_at f sz hf l i a h]
theorem flat_len' {α : Type} (f : α → List Value) (sz : Nat) (hf : ∀ a, (f a).length = sz) (l : List α) : (l.flatMap f).length = l.length * sz := by
  induction l with
  | nil => simp
  | cons a l ih => rw [List.flatMap_cons, List.length_append, hf, ih, List.length_cons, Nat.succ_mul]; omega
theorem i64_succ {i : Nat} (h : i ≤ 1000000000000) : IntKind.i64.wrap ((i : Int) + 1) = ((i + 1 : Nat) : Int) := by rw [i64_id (by omega) (by omega)]; omega
theorem OwnS.srcB {F F' : Nat → Option Obj} {H hb : HL} {E : Nat} {bs : List UInt8} {sa : Option Addr} {sn sc : Nat} (h : OwnS E 1 (bs.map B) (.slice sa sn sc) hb) (hw : ∀ w, In F' H w → In F hb w) : Src F' H (.slice sa sn sc) bs.length (bs.map B) := by
  have hl := h.len
  simp at hl
  rw [hl]
  exact ((Lst.own (F := F) (H := hb) h (fun _ h => h)).mono hw).src

theorem fill_W {place : Nat → Option (Nat × Nat)} {pl : List (Nat × Nat)} (hpl : ∀ i q, pl[i]? = some q → place i = some q) : ∀ (parts : List (Nat × Value)) (cells r : List Value), fillK pl parts cells = some r → Instr.fill place cells.toArray parts = some r.toArray
  | [], cells, r, h => by simp [fillK] at h; subst h; rfl
  | (i, v) :: rest, cells, r, h => by
    rw [fillK] at h
    cases hp : pl[i]? with
    | none => simp [hp] at h
    | some q =>
      obtain ⟨off, size⟩ := q
      simp only [hp] at h
      cases hb : Nat.beq v.cells.size size with
      | false => simp [hb] at h
      | true =>
        simp only [hb] at h
        cases hs : spliceK cells off v.cells.toList some with
        | none => simp [hs] at h
        | some r' =>
          simp only [hs] at h
          rw [fill_one (hpl i _ hp) (Nat.eq_of_beq_eq_true hb) hs]
          exact fill_W hpl rest r' r h
section
variable {x : Cx} {env : Env} {H : HL} {dst : Option Tmp} {ty : TypeId} {pos : String} {aft : Array Edge} {gd : Option (Nat × Bool)}
/-- some elements -/
theorem Ef.bsN {T E sz by_ n : Nat} {z : List Value} {parts : List (Nat × Operand)} {vals : List (Nat × Value)} {r : List Value} [st : SliceT x.P T E sz by_] [zt : ZeroT x.P E z] (hz : z.length = sz) (hsz : Nat.blt 0 sz = true) (hn : Nat.blt 0 n = true) (hsm : Nat.ble (n * sz) 16777216 = true)
    (hv : evalP env parts = some vals) (hr : fillK ((List.range n).map (fun i => (i * sz, sz))) vals (mkCells z n) = some r) :
    Ef x env H ⟨dst, .buildSlice T n parts.toArray, ty, pos, aft, gd⟩ (fun v H' => ∃ b, v = .slice (some ⟨b, 0, none⟩) n n ∧ H' = (b, .cells r.toArray E (0, 0)) :: H) := ⟨fun a w he hi => by
  have hst := st.i
  have hzt := zt.h
  cases hinf : x.P.info? E with
  | none => simp [hinf] at hst
  | some i =>
  simp only [hinf, Option.map_some, Option.some.injEq, Prod.mk.injEq] at hst
  cases hzz : i.zero with
  | none => simp [hinf, hzz] at hzt
  | some zv =>
  have hzc : zv.cells = z.toArray := by simpa [hinf, hzz] using hzt
  have h0 := Nat.le_of_ble_eq_true hsz
  have h1 := Nat.le_of_ble_eq_true hn
  have hpos : n * sz ≠ 0 := Nat.mul_ne_zero (by omega) (by omega)
  have hbig : ¬ 16777216 < n * sz := by have := Nat.le_of_ble_eq_true hsm; omega
  refine yields_of_run (v := .slice (some ⟨w.heap.size, 0, none⟩) n n) (w' := w.alloc (.cells r.toArray E)) ?_ ⟨_, ⟨_, rfl, rfl⟩, hi.alloc _, Same.alloc w _⟩
  have hpe := parts_eval he parts vals hv
  have hparts : (parts.toArray.map fun (p : Nat × Operand) => (p.1, a.eval p.2)).toList = vals := by simpa using hpe
  have hfill := fill_W (place := fun i => some (i * sz, sz)) (fun i q h => by
    rw [List.getElem?_map] at h
    by_cases hi : i < n
    · rw [List.getElem?_range hi] at h; simpa using h
    · rw [List.getElem?_eq_none (by simpa using hi)] at h; cases h) vals (mkCells z n) r hr
  have hmade := madeCells_eq z (by omega) n
  unfold madeCells at hmade
  rw [hz] at hmade
  simp only [execOp, Instr.buildSlice, Sem.run_bind, run_underlying st.h, Result.andThen_ok, sizeOf, typeInfo, run_program, hinf, Sem.run_pure, hst.1]
  rw [if_neg (by simpa using hbig)]
  simp only [Sem.run_pure, Result.andThen_ok, if_neg hpos, zeroValue, typeInfo, Sem.run_bind, run_program, hinf, hzz, hzc]
  rw [hmade, hparts, hfill]
  simp [newRow]⟩
end
end Go.Sl
