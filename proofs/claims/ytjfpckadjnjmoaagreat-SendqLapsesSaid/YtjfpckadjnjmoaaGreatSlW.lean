/- The logic's rule for clear over a part of a slice that is owned. No conditions: laws only. -/
import Derived.Test.YtjfpckadjnjmoaaGreatSlV
namespace Go.Sl
open Go
theorem zeroCells_eq (z : List Value) (hz : 0 < z.length) (n : Nat) : (Builtin.zeroCells z.toArray n).toList = mkCells z n := by
  have h := madeCells_eq z hz n
  unfold madeCells at h
  unfold Builtin.zeroCells
  simp only [List.size_toArray] at h ⊢
  rw [h]
section
variable {x : Cx} {env : Env} {H : HL} {dst : Option Tmp} {ty : TypeId} {pos : String} {aft : Array Edge} {gd : Option (Nat × Bool)}
/-- nothing to clear -/
theorem Ef.clr0 {T e sz by_ : Nat} {p : Operand} {sa : Option Addr} {c : Nat} [st : SliceT x.P T e sz by_] (hp : ev env p = some (.slice sa 0 c)) :
    Ef x env H ⟨dst, .call ⟨.builtin .clear, #[p], #[T]⟩, ty, pos, aft, gd⟩ (fun v' H' => v' = .tuple #[] ∧ H' = H) := ⟨fun a w he hi => by
  have hrun : (Builtin.clear_ #[T] ty #[.slice sa 0 c]).run x.P w = .ok (.tuple #[]) w := by
    cases sa <;> simp [Builtin.clear_, run_underlying st.h]
  refine yields_of_run (v := .tuple #[]) (w' := w) ?_ ⟨H, ⟨rfl, rfl⟩, hi, Same.refl w⟩
  simp only [execOp, resolve, invoke, builtin, List.map_toArray, List.map_cons, List.map_nil, he.eval hp, Sem.run_bind, Sem.run_pure, Result.andThen_ok, hrun]⟩
theorem Ef.clr {T e sz by_ : Nat} {z : List Value} {p : Operand} {b off n c : Nat} {H1 : HL} [st : SliceT x.P T e sz by_] [zt : ZeroT x.P e z] (hz : Nat.blt 0 z.length = true) (h1 : z.all (·.oneCell') = true) (hp : ev env p = some (.slice (some ⟨b, off, none⟩) (n + 1) c)) (hc : PutAt b off (mkCells z (n + 1)) H H1) :
    Ef x env H ⟨dst, .call ⟨.builtin .clear, #[p], #[T]⟩, ty, pos, aft, gd⟩ (fun v' H' => v' = .tuple #[] ∧ H' = H1) := ⟨fun a w he hi => by
  obtain ⟨l, r, T', k, hf, hv, rfl⟩ := hc.foc
  have hg := hf.heap hi
  obtain ⟨i, hinf, _, _⟩ := info_sl st
  have hzt := zt.h
  cases hzz : i.zero with
  | none => simp [hinf, hzz] at hzt
  | some zv =>
  have hzc : zv.cells = z.toArray := by simpa [hinf, hzz] using hzt
  obtain ⟨hr, hle⟩ := splice_eq hv
  have hones : ∀ u ∈ mkCells z (n + 1), u.oneCell' = true := by
    have key : ∀ n, ∀ u ∈ mkCells z n, u.oneCell' = true := fun n => by
      induction n with
      | zero => intro u hu; cases hu
      | succ n ih =>
        intro u hu
        rw [mkCells] at hu
        rcases List.mem_append.1 hu with hu | hu
        · exact List.all_eq_true.1 h1 u hu
        · exact ih u hu
    exact key _
  have hst := run_storeCells_at x.P b off T' (mkCells z (n + 1)) 0 l.toArray w hg (by simpa using hle) hones
  simp only [Nat.add_zero] at hst
  have hrun : (Builtin.clear_ #[T] ty #[.slice (some ⟨b, off, none⟩) (n + 1) c]).run x.P w = .ok (.tuple #[]) (w.setRow b r.toArray) := by
    have hzv : (zeroValue e).run x.P w = .ok zv w := by simp [zeroValue, typeInfo, hinf, hzz]
    simp [Builtin.clear_, run_underlying st.h, hzv, hzc, zeroCells_eq z (Nat.le_of_ble_eq_true hz), hst, hr]
  refine yields_of_run (v := .tuple #[]) (w' := w.setRow b r.toArray) ?_ ⟨_, ⟨rfl, rfl⟩, hi.upd hf (Upd.setRow hg), (Upd.setRow hg).same⟩
  simp only [execOp, resolve, invoke, builtin, List.map_toArray, List.map_cons, List.map_nil, he.eval hp, Sem.run_bind, Sem.run_pure, Result.andThen_ok, hrun]⟩
end
section
variable {x : Cx} {env : Env} {H : HL} {dst : Option Tmp} {ty : TypeId} {pos : String} {aft : Array Edge} {gd : Option (Nat × Bool)}
/-- a call of a function value that may look at all that its caller keeps -/
theorem Ef.callVW {p : Operand} {f : FuncId} {args : List Operand} {tys : Array TypeId} {fv cv vals all : List Value} {c Hr : HL} {R : Value → HL → Prop} [bd : Body x.P f] (hp : ev env p = some (.func (.func f) fv.toArray cv.toArray)) (hargs : args.map (ev env) = vals.map some)
    (hall : fv ++ vals ++ cv = all) (hs : Sub c H Hr) (tr : ∀ F', (∀ w, In F' [] w → In x.F Hr w) → Tr x.P f all.toArray F' c R) : Ef x env H ⟨dst, .call ⟨.value p, args.toArray, tys⟩, ty, pos, aft, gd⟩ (fun v H' => ∃ H1, R v H1 ∧ H' = H1 ++ Hr) := ⟨fun a w he hi =>
  (Ef.callV (dst := dst) (tys := tys) (ty := ty) (pos := pos) (aft := aft) (gd := gd) hp hargs hall hs (tr (addF x.F Hr) (fun _ h => In.unfocus (H := c) (hi.perm hs.perm') h))).run a w he hi⟩
end
/-! ### elements struck out of a slice -/
/-- the first elements alone -/
theorem OwnS.shrink {E sz : Nat} {xs : List Value} {sa : Option Addr} {n c : Nat} {hb : HL} (h : OwnS E sz xs (.slice sa n c) hb) {k : Nat} (hk : k ≤ n) : OwnS E sz (xs.take (k * sz)) (.slice sa k c) hb := by
  rcases h with ⟨he, rfl, rfl⟩ | ⟨g, n', cap, pre, spare, post, he, rfl, hl, hc, hsp, hm⟩
  · cases he
    have hk0 : k = 0 := by omega
    subst hk0
    exact .inl ⟨rfl, by simp, rfl⟩
  · cases he
    have hks : k * sz ≤ n * sz := Nat.mul_le_mul_right sz hk
    refine .inr ⟨g, k, c, pre, xs.drop (k * sz) ++ spare, post, rfl, ?_, by rw [List.length_take]; omega, by omega, ?_, hm⟩
    · congr 4
      simp only [List.append_assoc]
      congr 1
      rw [← List.append_assoc (xs.take (k * sz)) (xs.drop (k * sz)), List.take_append_drop]
    · rw [List.length_append, List.length_drop, hsp, hl, ← Nat.sub_mul, ← Nat.add_mul]
      congr 1
      omega
section
variable {α : Type} {cells : α → List Value} {sz : Nat}
theorem flat_take (hc : ∀ a, (cells a).length = sz) (l : List α) (k : Nat) : (l.flatMap cells).take (k * sz) = (l.take k).flatMap cells := by
  by_cases hk : k ≤ l.length
  · have h1 : l.flatMap cells = (l.take k).flatMap cells ++ (l.drop k).flatMap cells := by rw [← List.flatMap_append, List.take_append_drop]
    rw [h1]
    refine List.take_left' ?_
    rw [flat_len' cells sz hc, List.length_take, Nat.min_eq_left hk]
  · rw [List.take_of_length_le (l := l) (by omega), List.take_of_length_le]
    rw [flat_len' cells sz hc]
    exact Nat.mul_le_mul_right sz (by omega)
theorem flat_drop (hc : ∀ a, (cells a).length = sz) (l : List α) (k : Nat) : (l.flatMap cells).drop (k * sz) = (l.drop k).flatMap cells := by
  by_cases hk : k ≤ l.length
  · have h1 : l.flatMap cells = (l.take k).flatMap cells ++ (l.drop k).flatMap cells := by rw [← List.flatMap_append, List.take_append_drop]
    rw [h1]
    refine List.drop_left' ?_
    rw [flat_len' cells sz hc, List.length_take, Nat.min_eq_left hk]
  · rw [List.drop_of_length_le (l := l) (by omega), List.drop_of_length_le]
    · rfl
    · rw [flat_len' cells sz hc]
      exact Nat.mul_le_mul_right sz (by omega)
/-- an element is another one -/
theorem OwnS.setEl (hc : ∀ a, (cells a).length = sz) {E : Nat} {X : List α} {g o n c : Nat} {hb : HL} (h : OwnS E sz (X.flatMap cells) (.slice (some ⟨g, o, none⟩) n c) hb) {k : Nat} (hk : k < X.length) (a : α) :
    ∃ hb', OwnS E sz ((X.set k a).flatMap cells) (.slice (some ⟨g, o, none⟩) n c) hb' ∧ PutAt g (o + k * sz) (cells a) hb hb' := by
  have hle : (k + 1) * sz ≤ X.length * sz := Nat.mul_le_mul_right sz hk
  obtain ⟨hb', hown', hput⟩ := h.put (k * sz) (cells a) (by rw [hc, flat_len' cells sz hc]; rw [Nat.add_mul] at hle; omega)
  refine ⟨hb', ?_, hput⟩
  have e : (X.set k a).flatMap cells = (X.flatMap cells).take (k * sz) ++ cells a ++ (X.flatMap cells).drop (k * sz + (cells a).length) := by
    rw [hc, show k * sz + sz = (k + 1) * sz by rw [Nat.add_mul]; omega, flat_take hc, flat_drop hc, List.set_eq_take_append_cons_drop, if_pos hk, List.flatMap_append, List.flatMap_cons, List.append_assoc]
  rw [e]
  exact hown'
/-- the row while elements are struck out: those that stay come first; those not looked at yet are as they were -/
structure Dl (dead : α → Bool) (L X : List α) (j : Nat) : Prop where
  len : X.length = L.length
  pre : X.take ((L.take j).filter (fun a => !dead a)).length = (L.take j).filter (fun a => !dead a)
  post : X.drop j = L.drop j
theorem Dl.kept {dead : α → Bool} {L X : List α} {j : Nat} (_ : Dl dead L X j) : ((L.take j).filter (fun a => !dead a)).length ≤ j := by
  have := List.length_filter_le (fun a => !dead a) (L.take j)
  rw [List.length_take] at this
  omega
theorem Dl.get {dead : α → Bool} {L X : List α} {j : Nat} (h : Dl dead L X j) {a : α} (ha : L[j]? = some a) : X[j]? = some a := by
  have := congrArg (·[0]?) h.post
  simpa [List.getElem?_drop, ha] using this
theorem Dl.goes {dead : α → Bool} {L X : List α} {j : Nat} (h : Dl dead L X j) {a : α} (ha : L[j]? = some a) (hd : dead a = true) : Dl dead L X (j + 1) := by
  have e : (L.take (j + 1)).filter (fun a => !dead a) = (L.take j).filter (fun a => !dead a) := by
    rw [List.take_add_one, ha, List.filter_append]
    simp [hd]
  refine ⟨h.len, by rw [e]; exact h.pre, ?_⟩
  have := congrArg (List.drop 1) h.post
  simpa [List.drop_drop, Nat.add_comm] using this
theorem Dl.stays {dead : α → Bool} {L X : List α} {j : Nat} (h : Dl dead L X j) {a : α} (ha : L[j]? = some a) (hd : dead a = false) :
    Dl dead L (X.set ((L.take j).filter (fun a => !dead a)).length a) (j + 1) ∧ ((L.take (j + 1)).filter (fun a => !dead a)).length = ((L.take j).filter (fun a => !dead a)).length + 1 := by
  have e : (L.take (j + 1)).filter (fun a => !dead a) = (L.take j).filter (fun a => !dead a) ++ [a] := by
    rw [List.take_add_one, ha, List.filter_append]
    simp [hd]
  have hk := h.kept
  have hj := (List.getElem?_eq_some_iff.1 ha).1
  have hl := h.len
  refine ⟨⟨by rw [List.length_set]; exact h.len, ?_, ?_⟩, by rw [e, List.length_append]; rfl⟩
  · rw [e, List.length_append, List.length_singleton, List.take_add_one, List.getElem?_set_self (by omega), List.take_set_of_le (by omega), h.pre]
    rfl
  · rw [List.drop_set_of_lt (by omega)]
    have := congrArg (List.drop 1) h.post
    simpa [List.drop_drop, Nat.add_comm] using this
end
end Go.Sl
