/- The logic's rules for function values and for a range over a function: closures are made and called; a loop's record, its rounds, its end; what such a function leaves behind. No conditions: laws only. -/
import Derived.Test.YtglobldnockdoaaSlH
import Derived.RangeFuncRecord
namespace Go.Sl
open Go
section
variable {x : Cx} {env : Env} {H : HL} {dst : Option Tmp} {ty : TypeId} {pos : String} {aft : Array Edge} {gd : Option (Nat × Bool)}

def evL (env : Env) : List Operand → Option (List Value)
  | [] => some []
  | o :: r => match ev env o, evL env r with
    | some v, some l => some (v :: l)
    | _, _ => none
theorem evL_map {env : Env} : ∀ {l : List Operand} {vs : List Value}, evL env l = some vs → l.map (ev env) = vs.map some
  | [], vs, h => by cases h; rfl
  | o :: r, vs, h => by
    rw [evL] at h
    cases h1 : ev env o with
    | none => rw [h1] at h; cases h
    | some v =>
      cases h2 : evL env r with
      | none => rw [h1, h2] at h; cases h
      | some l =>
        rw [h1, h2] at h
        cases h
        rw [List.map_cons, List.map_cons, h1, evL_map h2]
theorem Pu.mkF {fn : Fn} {first cap : List Operand} {fv cv : List Value} (e1 : evL env first = some fv) (e2 : evL env cap = some cv) :
    Pu x env ⟨dst, .makeFunc fn first.toArray cap.toArray, ty, pos, aft, gd⟩ (.func fn fv.toArray cv.toArray) := ⟨fun a he w => by
  have h1 := evL_map e1
  have h2 := evL_map e2
  simp [execOp, Instr.makeFunc, args_eval he first fv h1, args_eval he cap cv h2]⟩

/-- a call of a function value -/
theorem Ef.callV {p : Operand} {f : FuncId} {args : List Operand} {tys : Array TypeId} {fv cv vals all : List Value} {c Hr : HL} {R : Value → HL → Prop} [bd : Body x.P f] (hp : ev env p = some (.func (.func f) fv.toArray cv.toArray)) (hargs : args.map (ev env) = vals.map some)
    (hall : fv ++ vals ++ cv = all) (hs : Sub c H Hr) (tr : Tr x.P f all.toArray (addF x.F Hr) c R) : Ef x env H ⟨dst, .call ⟨.value p, args.toArray, tys⟩, ty, pos, aft, gd⟩ (fun v H' => ∃ H1, R v H1 ∧ H' = H1 ++ Hr) := ⟨fun a w he hi => by
  subst hall
  have hbb := bd.h
  unfold bodyB at hbb
  cases hf : x.P.funcs[f]? with
  | none => simp [hf] at hbb
  | some fn =>
  rw [hf] at hbb
  simp only [Bool.and_eq_true, Bool.not_eq_true'] at hbb
  obtain ⟨hname, hbody⟩ := hbb
  have hin : In x.F (c ++ Hr) w := hi.perm hs.perm'
  have hrun : (execOp a.eval ⟨dst, .call ⟨.value p, args.toArray, tys⟩, ty, pos, aft, gd⟩).run x.P w = .ok (.enter f (fv ++ vals ++ cv).toArray) w := by
    have hb : ∃ c, fn.body = some c := by cases hb2 : fn.body with | none => simp [hb2] at hbody | some c => exact ⟨c, rfl⟩
    obtain ⟨c, hc⟩ := hb
    have hne : ¬ fn.name = "runtime.NumGoroutine" := by simpa using hname
    simp [execOp, resolve, he.eval hp, Deferred.ofValue, invoke, callFunc, hf, hne, hc, args_eval he args vals hargs]
  unfold yields
  rw [hrun]
  refine (tr.frame hin).mono ?_
  rintro e w' ⟨v, H', rfl, hR, hi', hsm⟩
  exact ⟨v, rfl, H' ++ Hr, ⟨H', hR, rfl⟩, hi', hsm⟩⟩
/-- a call of a function value that leaves what it was handed as it was -/
theorem Ef.callVR {p : Operand} {f : FuncId} {args : List Operand} {tys : Array TypeId} {fv cv vals all : List Value} {c Hr : HL} {R : Value → Prop} [bd : Body x.P f] (hp : ev env p = some (.func (.func f) fv.toArray cv.toArray)) (hargs : args.map (ev env) = vals.map some)
    (hall : fv ++ vals ++ cv = all) (hs : Sub c H Hr) (tr : Tr x.P f all.toArray (addF x.F Hr) c (fun v H' => R v ∧ H' = c)) : Ef x env H ⟨dst, .call ⟨.value p, args.toArray, tys⟩, ty, pos, aft, gd⟩ (fun v H' => R v ∧ H' = H) := ⟨fun a w he hi => by
  refine Yr.mono ?_ ((Ef.callV (dst := dst) (tys := tys) (ty := ty) (pos := pos) (aft := aft) (gd := gd) hp hargs hall hs tr).run a w he hi)
  rintro v w' ⟨H', ⟨H1, ⟨hR, rfl⟩, rfl⟩, hi', hsm⟩
  exact ⟨H, ⟨hR, rfl⟩, hi'.perm hs.perm'.symm, hsm⟩⟩
/-- a call of a function value that only looks -/
theorem Ef.lookV {p : Operand} {f : FuncId} {args : List Operand} {tys : Array TypeId} {fv cv vals all : List Value} {R : Value → Prop} [bd : Body x.P f] (hp : ev env p = some (.func (.func f) fv.toArray cv.toArray)) (hargs : args.map (ev env) = vals.map some)
    (hall : fv ++ vals ++ cv = all) (tr : ∀ F', (∀ w, In F' [] w → In x.F H w) → Tr x.P f all.toArray F' [] (fun v H' => R v ∧ H' = [])) : Ef x env H ⟨dst, .call ⟨.value p, args.toArray, tys⟩, ty, pos, aft, gd⟩ (fun v H' => R v ∧ H' = H) := ⟨fun a w he hi =>
  (Ef.callVR (dst := dst) (tys := tys) (ty := ty) (pos := pos) (aft := aft) (gd := gd) hp hargs hall (.nil H) (tr (addF x.F H) (fun _ h => In.unfocus (H := []) hi h))).run a w he hi⟩

/-- a call of a loop's yield: one round -/
def TrY (P : Program) (l : Nat) (vals : List Value) (F : Nat → Option Obj) (H : HL) (R : Value → HL → Prop) : Prop :=
  ∀ w, In F H w → ∃ fn tmps assign body, (Instr.yield l vals.toArray).run P w = .ok (.round l fn tmps assign body) w ∧ RoundIn Fence.wide 0 P l fn tmps assign body w (RR F w R)
theorem TrY.mono {P : Program} {l : Nat} {vals : List Value} {F : Nat → Option Obj} {H : HL} {R R' : Value → HL → Prop} (h : TrY P l vals F H R) (hr : ∀ v H', R v H' → R' v H') : TrY P l vals F H R' := fun w hw => by
  obtain ⟨fn, tmps, as, bd, h1, h2⟩ := h w hw
  exact ⟨fn, tmps, as, bd, h1, h2.mono fun _ _ ⟨v, H', he, hR, hi, hs⟩ => ⟨v, H', he, hr v H' hR, hi, hs⟩⟩
theorem Ef.callY {p : Operand} {l : Nat} {args : List Operand} {tys : Array TypeId} {vals : List Value} {c Hr : HL} {R : Value → HL → Prop} (hp : ev env p = some (.func (.yield l) #[] #[])) (hargs : args.map (ev env) = vals.map some)
    (hs : Sub c H Hr) (tr : (∀ p ∈ Hr, x.F p.1 = none) → TrY x.P l vals (addF x.F Hr) c R) : Ef x env H ⟨dst, .call ⟨.value p, args.toArray, tys⟩, ty, pos, aft, gd⟩ (fun v H' => ∃ H1, R v H1 ∧ H' = H1 ++ Hr) := ⟨fun a w he hi => by
  have hin : In x.F (c ++ Hr) w := hi.perm hs.perm'
  obtain ⟨fn, tmps, as, bd, h1, h2⟩ := tr (fun p hp => hin.dj p (List.mem_append_right _ hp)) w hin.focus
  have hrun : (execOp a.eval ⟨dst, .call ⟨.value p, args.toArray, tys⟩, ty, pos, aft, gd⟩).run x.P w = .ok (.round l fn tmps as bd) w := by
    simp [execOp, resolve, he.eval hp, Deferred.ofValue, invoke, args_eval he args vals hargs, h1]
  unfold yields
  rw [hrun]
  refine RoundIn.mono h2 ?_
  rintro e w' ⟨v, H', rfl, hR, hi', hsm⟩
  exact ⟨v, rfl, H' ++ Hr, ⟨H', hR, rfl⟩, hin.unfocus hi', hsm⟩⟩
end

theorem Upd.putObj {w : World} {b : Nat} {o o' : Obj} (h : w.heap[b]? = some o) : Upd w (w.putObj b o') b o' := by
  have hlt := (Array.getElem?_eq_some_iff.1 h).1
  exact ⟨⟨rfl, rfl, rfl, by simp, Nat.le_refl _⟩, World.putObj_heap_same hlt, fun k hk => World.putObj_heap_other hk⟩

/-! ### a round -/
/-- a loop's record: of which loop, with which slots -/
structure LoopOk (r : Loop) (n : Nat) (env : Env) (t : Nat) (assign body : Code) : Prop where
  size : r.tmps.size = n
  env : ∀ t v, look env t = some v → r.tmps[t]? = some v
  params : r.params = #[t]
  assign : r.assign = assign
  body : r.body = body
  state : r.state = .ready
  pending : r.pending = none
theorem LoopOk.ready {r : Loop} {n : Nat} {env : Env} {t : Nat} {assign body : Code} (h : LoopOk r n env t assign body) : ({ r with state := if (none : Option Code).isNone then .ready else .done, pending := none } : Loop) = r := by
  cases r; have := h.state; have := h.pending; simp_all

theorem LoopOk.again {r : Loop} {n : Nat} {env : Env} {t : Nat} {assign body : Code} (h : LoopOk r n env t assign body) : ({ state := .ready, pending := none, fn := r.fn, tmps := r.tmps, params := r.params, assign := r.assign, body := r.body, defers := r.defers } : Loop) = r := by
  cases r; have := h.state; have := h.pending; simp_all
def AsgK (x : Cx) (l : Nat) (body : Code) (R : Value → HL → Prop) : Post :=
  Exit.then (fun a₁ w₁ => ∃ w₂, (Instr.beginRound l).run x.P w₁ = .ok () w₂ ∧ body.wpIn x.fc 0 x.P (roundPost x.P l (RR x.F x.w0 R)) a₁ w₂) (fun _ _ _ => False)

/-- one round, from the walk of its assignment and its body -/
theorem TrY.of {P : Program} {l : Nat} {v : Value} {F : Nat → Option Obj} {H : HL} {R : Value → HL → Prop} {r : Loop} {n : Nat} {env : Env} {t : Nat} {assign body : Code} (hr : LoopOk r n env t assign body) (ht : Nat.blt t n = true) (hl : ∀ w, In F H w → w.heap[l]? = some (.loop r))
    (h : ∀ w0, W ⟨P, n, w0, F, some l, []⟩ (AsgK ⟨P, n, w0, F, some l, []⟩ l body R) assign ((t, v) :: env) H) : TrY P l [v] F H R := fun w hw => by
  have e : ((#[t] : Array Tmp).zip #[v]) = #[(t, v)] := by simp
  have e2 := run_yield (P := P) (args := #[v]) (hl w hw) (by rw [hr.params]; rfl)
  rw [hr.params, e] at e2
  refine ⟨r.fn, r.tmps.setIfInBounds t v, r.assign, r.body, by simpa using e2, ?_⟩
  rw [hr.assign, hr.body]
  refine roundIn_of_wpIn trivial ?_
  have hst : St ⟨P, n, w, F, some l, []⟩ ((t, v) :: env) H { tmps := r.tmps.setIfInBounds t v, defers := [] } w := by
    refine ⟨⟨by simp [hr.size], rfl, fun u z hu => ?_⟩, hw, Same.refl w⟩
    · show (r.tmps.setIfInBounds t v)[u]? = some z
      rw [look_cons] at hu
      by_cases hk : t = u
      · subst hk
        simp at hu
        subst hu
        have : t < r.tmps.size := by rw [hr.size]; exact Nat.le_of_ble_eq_true ht
        simp [this]
      · simp only [if_neg hk] at hu
        rw [Array.getElem?_setIfInBounds_ne hk]
        exact hr.env u z hu
  exact (h w).run _ w hst

section
variable {x : Cx} {K : Post} {env : Env} {H : HL}
/-- the assignment is over: the round begins -/
theorem Fin.begin {l : Nat} {body : Code} {R : Value → HL → Prop} {r : Loop} {k : Obj → HL} (hf : Foc l (.loop r) H k) (hr : r.state = .ready) (h : W x (roundPost x.P l (RR x.F x.w0 R)) body env (k (.loop { r with state := .busy }))) : Fin x (AsgK x l body R) .normal env H :=
  ⟨fun a _w s => ⟨_, run_beginRound (hf.heap s.hin) hr, h.run a _ ⟨s.ev, s.hin.upd hf (Upd.putObj (hf.heap s.hin)), s.same.trans (Upd.putObj (o' := .loop { r with state := .busy }) (hf.heap s.hin)).same⟩⟩⟩
/-- a round is over, and says 'more' -/
theorem Fin.more {l : Nat} {R : Value → HL → Prop} {r : Loop} {k : Obj → HL} {H' : HL} (hf : Foc l (.loop r) H k) (hH : ∀ w, In x.F (k (.loop { r with state := .ready, pending := none })) w → In x.F H' w) (hR : R (.bool true) H') : Fin x (roundPost x.P l (RR x.F x.w0 R)) .normal env H :=
  ⟨fun _ _w s => ⟨_, _, run_endRound none (hf.heap s.hin), _, H', rfl, hR, hH _ (s.hin.upd hf (Upd.putObj (hf.heap s.hin))), s.same.trans (Upd.putObj (o' := .loop { r with state := .ready, pending := none }) (hf.heap s.hin)).same⟩⟩
/-- a round is left by a break, or by a return -/
theorem Fin.breaks {l id : Nat} {R : Value → HL → Prop} {r : Loop} {k : Obj → HL} {H' : HL} (hf : Foc l (.loop r) H k) (hH : ∀ w, In x.F (k (.loop { r with state := .done, pending := some (.exit id) })) w → In x.F H' w) (hR : R (.bool false) H') : Fin x (roundPost x.P l (RR x.F x.w0 R)) (.exit id) env H :=
  ⟨fun _ _w s => ⟨_, _, run_endRound (some (.exit id)) (hf.heap s.hin), _, H', rfl, hR, hH _ (s.hin.upd hf (Upd.putObj (hf.heap s.hin))), s.same.trans (Upd.putObj (o' := .loop { r with state := .done, pending := some (.exit id) }) (hf.heap s.hin)).same⟩⟩
theorem Fin.leaves {l : Nat} {R : Value → HL → Prop} {r : Loop} {k : Obj → HL} {H' : HL} (hf : Foc l (.loop r) H k) (hH : ∀ w, In x.F (k (.loop { r with state := .done, pending := some .ret })) w → In x.F H' w) (hR : R (.bool false) H') : Fin x (roundPost x.P l (RR x.F x.w0 R)) .ret env H :=
  ⟨fun _ _w s => ⟨_, _, run_endRound (some .ret) (hf.heap s.hin), _, H', rfl, hR, hH _ (s.hin.upd hf (Upd.putObj (hf.heap s.hin))), s.same.trans (Upd.putObj (o' := .loop { r with state := .done, pending := some .ret }) (hf.heap s.hin)).same⟩⟩

/-! ### the statement -/
def markD (D : Nat) : Deferred := { target := .collected D, args := #[] }
/-- the context behind a loop -/
def Cx.marked (x : Cx) (D : Nat) : Cx := { x with df := markD D :: x.df }
/-- what is left behind the iterator's call: the record, the block for deferred calls, the rest; then the pending jump -/
def LeftK (x : Cx) (K : Post) (env : Env) (l D : Nat) (H' : HL) : Prop :=
  ∃ (r : Loop) (Hn : HL), H'.Perm ((l, .loop r) :: (D, .deferred (some [])) :: Hn) ∧ r.state ≠ .busy ∧
    (match r.pending with
     | none => Fin (x.marked D) K .normal env ((D, .deferred (some [])) :: Hn)
     | some c => W (x.marked D) K c env ((D, .deferred (some [])) :: Hn))
theorem W.rangeF {g : Operand} {t : Nat} {assign body : Code} {gf : FuncId} {fv cv : List Value} [bd : Body x.P gf] (hrd : x.rd = none) (hg : ev env g = some (.func (.func gf) fv.toArray cv.toArray))
    (call : ∀ (l D : Nat) (r : Loop), LoopOk r x.n env t assign body → Tr x.P gf (fv ++ [Value.func (.yield l) #[] #[]] ++ cv).toArray x.F ((l, .loop r) :: (D, .deferred (some [])) :: H) (fun _ H' => LeftK x K env l D H')) : W x K (.rangeFunc g #[t] assign body) env H := ⟨fun a w s => by
  refine wpIn_rangeFunc fun fn _ => ?_
  have hro : x.fc.round = none := hrd
  have hbb := bd.h
  unfold bodyB at hbb
  cases hf : x.P.funcs[gf]? with
  | none => simp [hf] at hbb
  | some fn' =>
  rw [hf] at hbb
  simp only [Bool.and_eq_true, Bool.not_eq_true'] at hbb
  obtain ⟨hname, hbody⟩ := hbb
  obtain ⟨c, hc⟩ : ∃ c, fn'.body = some c := by cases hb2 : fn'.body with | none => simp [hb2] at hbody | some c => exact ⟨c, rfl⟩
  have hne : ¬ fn'.name = "runtime.NumGoroutine" := by simpa using hname
  let r : Loop := { state := .ready, pending := none, fn := fn, tmps := a.tmps, params := #[t], assign := assign, body := body, defers := w.heap.size }
  let w₁ : World := (w.alloc (.deferred (some []))).alloc (.loop r)
  have hin : In x.F ((w.heap.size + 1, .loop r) :: (w.heap.size, .deferred (some [])) :: H) w₁ := by
    have h1 := s.hin.alloc (.deferred (some []))
    have h2 := h1.alloc (.loop r)
    rw [World.size_alloc] at h2
    exact h2
  have hsm : Same w w₁ := (Same.alloc w (.deferred (some []))).trans (Same.alloc _ (.loop r))
  have hr : LoopOk r x.n env t assign body := ⟨s.ev.size, s.ev.env, rfl, rfl, rfl, rfl, rfl⟩
  refine ⟨w.heap.size + 1, [markD w.heap.size], w₁, { target := .fn (.func gf) cv.toArray, args := fv.toArray ++ #[Value.func (.yield (w.heap.size + 1)) #[] #[]] }, w₁, gf, (fv ++ [Value.func (.yield (w.heap.size + 1)) #[] #[]] ++ cv).toArray, w₁, ?_, ?_, fun _ _ => trivial, ?_, (fun h => by cases h), ?_⟩
  · rw [hro]; exact run_enterLoop_outer fn a.tmps #[t] assign body
  · show (Deferred.ofValue (a.eval g) _).run x.P w₁ = _
    rw [s.ev.eval hg]
    simp [Deferred.ofValue, Act.eval]
  · simp [invoke, callFunc, hf, hne, hc]
  · refine (callsIn_wide (n := 0 - 1)).2 ((call (w.heap.size + 1) w.heap.size r hr w₁ hin).mono ?_)
    rintro e w₃ ⟨v, H', rfl, ⟨r', Hn, hp, hb, hk⟩, hi, hs⟩
    have hi' := hi.perm hp
    have hl : w₃.heap[w.heap.size + 1]? = some (.loop r') := hi'.own (w.heap.size + 1, .loop r') (by simp)
    refine ⟨r'.pending, w₃.putObj (w.heap.size + 1) (.loop { r' with state := .exhausted }), run_endLoop hl hb, ?_⟩
    have hfoc : Foc (w.heap.size + 1) (.loop r') (((w.heap.size + 1), .loop r') :: (w.heap.size, .deferred (some [])) :: Hn) (fun o => ((w.heap.size + 1), o) :: (w.heap.size, .deferred (some [])) :: Hn) := Foc.here _
    have hu := hi'.upd hfoc (Upd.putObj (o' := .loop { r' with state := .exhausted }) hl)
    have hst : St (x.marked w.heap.size) env ((w.heap.size, .deferred (some [])) :: Hn) { a with defers := [markD w.heap.size] ++ a.defers } (w₃.putObj (w.heap.size + 1) (.loop { r' with state := .exhausted })) :=
      ⟨⟨s.ev.size, by show [markD w.heap.size] ++ a.defers = markD w.heap.size :: x.df; rw [s.ev.defers]; rfl, s.ev.env⟩, hu.sublist (List.sublist_cons_self _ _), (s.same.trans hsm).trans (hs.trans (Upd.putObj (o' := .loop { r' with state := .exhausted }) hl).same)⟩
    generalize (w₃.putObj (w.heap.size + 1) (.loop { r' with state := .exhausted })) = w₄ at hst ⊢
    cases hpd : r'.pending with
    | none => rw [hpd] at hk; exact hk.run _ _ hst
    | some c => rw [hpd] at hk; exact hk.run _ _ hst⟩
end

/-- a function whose body holds a range over a function -/
theorem Tr.enterM {P : Program} {f : FuncId} {fn : Func} {c : Code} {n : Nat} {vals : List Value} {F : Nat → Option Obj} {H : HL} {R : Value → HL → Prop}
    (hf : P.funcs[f]? = some fn) (hb : fn.body = some c) (hn : fn.ntmps = n) (hl : Nat.ble vals.length n = true)
    (h : ∀ w0, W ⟨P, n, w0, F, none, []⟩ (bodyPostM Fence.wide 0 P fn (RR F w0 R)) c (argsEnv vals 0) H) : Tr P f vals.toArray F H R := by
  intro w hw
  refine (callsIn_wide (n := 0)).1 (callsIn_of_wp_marks hf hb trivial ((h w).run _ w ⟨⟨?_, rfl, fun t v hv => ?_⟩, hw, Same.refl w⟩))
  · have := Nat.le_of_ble_eq_true hl
    simp [hn]; omega
  · obtain ⟨_, h2⟩ := look_argsEnv vals 0 t v hv
    simp only [Nat.sub_zero] at h2
    have hlt : t < vals.length := (List.getElem?_eq_some_iff.1 h2).1
    rw [Array.getElem?_append_left (by simpa using hlt)]
    simpa using h2
/-- it returns: no such loop was met -/
theorem Fin.retM0 {x : Cx} {fn : Func} {R : Value → HL → Prop} {env : Env} {H H' : HL} {rs : List ResultVar} {vs : List Value} (hr : fn.results = rs.toArray) (h : Res x env H rs vs) (hH : ∀ w, In x.F H w → In x.F H' w) (hR : R (tup vs) H') (hd : x.df = [] := by rfl) :
    Fin x (bodyPostM Fence.wide 0 x.P fn (RR x.F x.w0 R)) .ret env H :=
  ⟨fun a w s => by
    show LeavesInM Fence.wide 0 x.P fn a.tmps _ a.defers .returning w
    rw [s.ev.defers.trans hd]
    exact ⟨tup vs, results_run s hr h, tup vs, H', rfl, hR, hH w s.hin, s.same⟩⟩
/-- it returns: one such loop was met -/
theorem Fin.retM {x : Cx} {fn : Func} {R : Value → HL → Prop} {env : Env} {D : Nat} {H H' Hr : HL} {rs : List ResultVar} {vs : List Value} (hr : fn.results = rs.toArray) (hs : Ext1 (D, .deferred (some [])) H Hr) (h : Res x env Hr rs vs) (hH : ∀ w, In x.F Hr w → In x.F H' w) (hR : R (tup vs) H')
    (hd : x.df = [markD D] := by rfl) : Fin x (bodyPostM Fence.wide 0 x.P fn (RR x.F x.w0 R)) .ret env H :=
  ⟨fun a w s => by
    show LeavesInM Fence.wide 0 x.P fn a.tmps _ a.defers .returning w
    rw [s.ev.defers.trans hd]
    have hi := s.hin.perm hs.perm
    have hD : w.heap[D]? = some (.deferred (some [])) := hi.own (D, .deferred (some [])) (by simp)
    have hu := hi.upd (Foc.here _) (Upd.putObj (o' := .deferred none) hD)
    have s' : St x env Hr a (w.putObj D (.deferred none)) := ⟨s.ev, hu.sublist (List.sublist_cons_self _ _), s.same.trans (Upd.putObj (o' := .deferred none) hD).same⟩
    exact ⟨by simp, .inl ⟨D, _, rfl, run_takeDeferred hD, tup vs, results_run s' hr h, tup vs, H', rfl, hR, hH _ s'.hin, s'.same⟩⟩⟩
/-- a contract beside more blocks -/
theorem Tr.beside {P : Program} {f : FuncId} {args : Array Value} {F : Nat → Option Obj} {c H Hr : HL} {R : Value → HL → Prop} (hs : Sub c H Hr) (h : (∀ p ∈ Hr, F p.1 = none) → Tr P f args (addF F Hr) c R) : Tr P f args F H (fun v H' => ∃ H1, R v H1 ∧ H' = H1 ++ Hr) := fun w hw => by
  have hin := hw.perm hs.perm'
  exact ((h (fun p hp => hin.dj p (List.mem_append_right _ hp))).frame hin).mono fun _ _ ⟨v, H', he, hR, hi, hsm⟩ => ⟨v, H' ++ Hr, he, ⟨H', hR, rfl⟩, hi, hsm⟩
end Go.Sl
