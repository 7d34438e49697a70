/- Some texts as one. The evaluator: one operation, calls by a given reckoner, lists of operations. No conditions: definitions and laws. The evaluator: blocks set aside for reading only, and given back. No conditions: definitions and laws. A region that draws its order, once more: each read has a class of its own of what stays, which the acts unordered with it must leave as it is. No conditions: laws only. The evaluator: a region whose order is drawn, each read with a class of its own. No conditions: definitions and laws. A region that draws its order, each read with a class of its own, and one new block that is neither ahead of some acts nor behind them. No conditions: laws only. The evaluator: a region whose order is drawn, each read with a class of its own: the walk. No conditions: definitions and laws. -/
import Derived.Test.YtkelhlffeilakaaGreatDoorBuF
import Derived.Test.YtkelhlffeilakaaGreatDoorBuC
namespace Go.Ev
open Go Go.Sl
noncomputable section
section
variable {x : Cx} {ρ : Ro} {s : AS} {env : Env} {H : HL} {dst : Option Tmp} {ty : TypeId} {pos : String} {aft : Array Edge} {gd : Option (Nat × Bool)}
theorem Done.rd (h : Re x ρ s env H) {o : Oper} {v u : Value} (hv : VR ρ v u) (hr : Rd x env H o u) : Done x ρ s env H o v s :=
  ⟨_, Rd.ef hr, fun u' H' ⟨e1, e2⟩ _ => ⟨ρ, Le.refl ρ, by rw [e1]; exact hv, by rw [e2]; exact h⟩⟩
/-- an entry of a map's literal: as a map's update -/
theorem insA_ok (h : Re x ρ s env H) {T : TypeId} {p q r : Operand} {v : Value} {s' : AS} (e : muA x.P s T p q r = some (v, s')) : Done x ρ s env H ⟨dst, .insert T p q r, ty, pos, aft, gd⟩ v s' := by
  obtain ⟨R, hR, h2⟩ := muA_ok (dst := dst) (ty := ty) (pos := pos) (aft := aft) (gd := gd) h e
  exact ⟨R, ⟨fun a w he hi => hR.run a w he hi⟩, h2⟩
def effA (P : Program) (s : AS) (op : Op) : Option (Value × AS) := match op with
  | .alloc T => allocA P s T
  | .box T p => boxA P s T p
  | .makeSlice T p q => makeA P s T p q
  | .buildSlice T n ⟨parts⟩ => buildSA P s T n parts
  | .store T p q => (stA P s T p q).map (fun s' => (undef, s'))
  | .load T p => (ldA P s T p).map (fun r => (r.2, s))
  | .call ⟨.builtin .append, ⟨[p, q]⟩, ⟨[T, T']⟩⟩ => match Nat.beq T T' with
    | true => appA P s T p q
    | false => appZA P s T T' p q
  | .call ⟨.builtin .delete, ⟨[p, q]⟩, ⟨[T, _]⟩⟩ => delM P s T p q
  | .call ⟨.builtin .copy, ⟨[p, q]⟩, ⟨[T, _]⟩⟩ => cpA P s T p q
  | .makeMap _ none => mkMapA s
  | .mapUpdate T p q r => muA P s T p q r
  | .insert T p q r => muA P s T p q r
  | .range T p => rngA P s T p
  | .lookup T p q ok => (lkA P s T p q ok).map (fun r => (r.2, s))
  | .entry p => (entA s p).map (fun v => (v, s))
  | op => match puA P s op with
    | some v => some (v, s)
    | none => match eqPA P s op with
      | some r => some (r.2.2, s)
      | none => match moreA P s op with
        | some r => some (r.2, s)
        | none => cvM P s op
theorem effA_ok (h : Re x ρ s env H) {op : Op} {v : Value} {s' : AS} (e : effA x.P s op = some (v, s')) : Done x ρ s env H ⟨dst, op, ty, pos, aft, gd⟩ v s' := by
  unfold effA at e
  split at e
  · exact allocA_ok h e
  · exact boxA_ok h e
  · exact makeA_ok h e
  · exact buildSA_ok h e
  · obtain ⟨q, hq, he⟩ := Option.map_eq_some_iff.1 e
    cases he
    exact stA_ok h hq
  · obtain ⟨q, hq, he⟩ := Option.map_eq_some_iff.1 e
    cases he
    obtain ⟨u, hu, hr⟩ := ldA_ok h hq
    exact Done.rd h hu hr
  · split at e
    · rename_i hT
      cases beq_true hT
      exact appA_ok h e
    · exact appZA_ok h e
  · exact delM_ok h e
  · exact cpA_ok h e
  · exact mkMapA_ok h e
  · exact muA_ok h e
  · exact insA_ok h e
  · exact rngA_ok h e
  · obtain ⟨q, hq, he⟩ := Option.map_eq_some_iff.1 e
    cases he
    obtain ⟨u, hu, hr⟩ := lkA_ok0 h hq (fun _ _ _ => rfl)
    exact Done.rd h hu hr
  · obtain ⟨q, hq, he⟩ := Option.map_eq_some_iff.1 e
    cases he
    obtain ⟨u, hu, hr⟩ := entA_ok h hq
    exact Done.rd h hu hr
  · split at e
    · rename_i q hq
      cases e
      obtain ⟨u, hu, hr⟩ := puA_ok h hq
      exact Done.rd h hu (Pu.rd hr)
    · split at e
      · rename_i r hq
        obtain ⟨β, γ, w⟩ := r
        cases e
        obtain ⟨u, hu, hr⟩ := eqPA_ok0 h hq (fun _ _ _ _ _ => rfl)
        exact Done.rd h hu hr
      · split at e
        · rename_i q hq
          cases e
          obtain ⟨u, hu, hr⟩ := moreA_okG h hq (fun _ _ _ _ _ _ _ h => h)
          exact Done.rd h hu hr
        · exact cvM_ok h e
/-! ### calls -/
theorem Re.bare (h : Re x ρ s env H) : Re x ρ { s with env := .e } [] H := ⟨fun t v e => (by rw [show (T.e : T Value).get t = none from T.get_e t] at e; cases e), h.heap, h.inj, h.dom, h.nd, h.gl⟩
theorem Re.join {ρ' : Ro} {s' : AS} {H' : HL} (h : Re x ρ s env H) (k : Re x ρ' { s' with env := .e } [] H') (hl : Le ρ ρ') : Re x ρ' { s' with env := s.env } env H' :=
  ⟨fun t v e => let ⟨u, hu, hv⟩ := h.env t v e; ⟨u, hu, hv.mono hl⟩, k.heap, k.inj, k.dom, k.nd, k.gl⟩
theorem Re.cx {y : Cx} (h : Re x ρ s env H) (hP : y.P = x.P) (hF : y.F = x.F) : Re y ρ s env H := ⟨h.env, by rw [hP, hF]; exact h.heap, h.inj, h.dom, by rw [hF]; exact h.nd, h.gl⟩
/-- a reckoner of calls: of functions; of a loop's yield -/
structure CF where
  f : FuncId → List Value → AS → Option (Value × AS)
  y : Nat → List Value → AS → Option (Value × AS)
def FFok (P : Program) (cf : FuncId → List Value → AS → Option (Value × AS)) : Prop := ∀ (x : Cx) (ρ : Ro) (s : AS) (H : HL) (f : FuncId) (vs us : List Value) (r : Value) (s' : AS), x.P = P → cf f vs s = some (r, s') → Re x ρ { s with env := .e } [] H → VRs ρ vs us →
  Tr P f us.toArray x.F H (fun v H' => ∃ ρ', Le ρ ρ' ∧ VR ρ' r v ∧ Re x ρ' { s' with env := .e } [] H')
def YFok (P : Program) (yf : Nat → List Value → AS → Option (Value × AS)) : Prop := ∀ (x : Cx) (ρ : Ro) (s : AS) (H : HL) (β : Nat) (pl : Pl) (vs us : List Value) (r : Value) (s' : AS), x.P = P → yf β vs s = some (r, s') → ρ β = some pl → Re x ρ { s with env := .e } [] H → VRs ρ vs us →
  TrY P pl.g us x.F H (fun v H' => ∃ ρ', Le ρ ρ' ∧ VR ρ' r v ∧ Re x ρ' { s' with env := .e } [] H')
structure CFok (P : Program) (cf : CF) : Prop where
  f : FFok P cf.f
  y : YFok P cf.y
theorem Ef.callYH {p : Operand} {l : Nat} {args : List Operand} {tys : Array TypeId} {vals : List Value} {R : Value → HL → Prop} (hp : ev env p = some (.func (.yield l) #[] #[])) (hargs : args.map (ev env) = vals.map some)
    (tr : TrY x.P l vals x.F H R) : Ef x env H ⟨dst, .call ⟨.value p, args.toArray, tys⟩, ty, pos, aft, gd⟩ R := ⟨fun a w he hi => by
  obtain ⟨fn, tmps, as, bd, h1, h2⟩ := tr w hi
  have hrun : (execOp a.eval ⟨dst, .call ⟨.value p, args.toArray, tys⟩, ty, pos, aft, gd⟩).run x.P w = .ok (.round l fn tmps as bd) w := by
    simp [execOp, resolve, he.eval hp, Deferred.ofValue, invoke, args_eval he args vals hargs, h1]
  unfold yields
  rw [hrun]
  refine RoundIn.mono h2 ?_
  rintro e w' ⟨v, H', rfl, hR, hi', hsm⟩
  exact ⟨v, rfl, H', hR, hi', hsm⟩⟩
theorem Ef.callH {p : Operand} {f : FuncId} {args : List Operand} {tys : Array TypeId} {fv cv vals all : List Value} {R : Value → HL → Prop} (bd : bodyB x.P f = true) (hp : ev env p = some (.func (.func f) fv.toArray cv.toArray)) (hargs : args.map (ev env) = vals.map some)
    (hall : fv ++ vals ++ cv = all) (tr : Tr x.P f all.toArray x.F H R) : Ef x env H ⟨dst, .call ⟨.value p, args.toArray, tys⟩, ty, pos, aft, gd⟩ R := ⟨fun a w he hi => by
  subst hall
  have hbb := bd
  unfold bodyB at hbb
  cases hf : x.P.funcs[f]? with
  | none => simp [hf] at hbb
  | some fn =>
  rw [hf] at hbb
  simp only [Bool.and_eq_true, Bool.not_eq_true'] at hbb
  obtain ⟨hname, hbody⟩ := hbb
  have hrun : (execOp a.eval ⟨dst, .call ⟨.value p, args.toArray, tys⟩, ty, pos, aft, gd⟩).run x.P w = .ok (.enter f (fv ++ vals ++ cv).toArray) w := by
    have hb : ∃ c, fn.body = some c := by cases hb2 : fn.body with | none => simp [hb2] at hbody | some c => exact ⟨c, rfl⟩
    obtain ⟨c, hc⟩ := hb
    have hne : ¬ fn.name = "runtime.NumGoroutine" := by simpa using hname
    simp [execOp, resolve, he.eval hp, Deferred.ofValue, invoke, callFunc, hf, hne, hc, args_eval he args vals hargs]
  unfold yields
  rw [hrun]
  refine (tr w hi).mono ?_
  rintro e w' ⟨v, H', rfl, hR, hi', hsm⟩
  exact ⟨v, rfl, H', hR, hi', hsm⟩⟩
def stepA (cf : CF) (P : Program) (s : AS) (op : Op) : Option (Value × AS) := match op with
  | .call ⟨.value p, ⟨args⟩, _⟩ => match evA s p, evAs s args with
    | some (.func (.yield β) ⟨[]⟩ ⟨[]⟩), some vs => (cf.y β vs s).map (fun r => (r.1, { r.2 with env := s.env }))
    | some (.func (.func f) ⟨fv⟩ ⟨cv⟩), some vs => match bodyB P f with
      | true => (cf.f f (fv ++ vs ++ cv) s).map (fun r => (r.1, { r.2 with env := s.env }))
      | false => none
    | _, _ => none
  | op => effA P s op
theorem stepA_ok {cf : CF} (hcf : CFok x.P cf) (h : Re x ρ s env H) {op : Op} {v : Value} {s' : AS} (e : stepA cf x.P s op = some (v, s')) : Done x ρ s env H ⟨dst, op, ty, pos, aft, gd⟩ v s' := by
  unfold stepA at e
  split at e
  · split at e
    · rename_i p args _ β vs hp hargs
      obtain ⟨q, hq, he⟩ := Option.map_eq_some_iff.1 e
      cases he
      obtain ⟨u, hu, hvu⟩ := evA_ok h hp
      obtain ⟨us, hus, hvs⟩ := evAs_ok h hargs
      cases hvu with
      | yl hρ => exact ⟨_, Ef.callYH hu (evL_map hus) (hcf.y x ρ s H β _ _ _ _ _ rfl hq hρ h.bare hvs), fun u' H' ⟨ρ', h1, h2, h3⟩ _ => ⟨ρ', h1, h2, h.join h3 h1⟩⟩
    · rename_i p args _ f fv cv vs hp hargs
      split at e
      · rename_i hb
        obtain ⟨q, hq, he⟩ := Option.map_eq_some_iff.1 e
        cases he
        obtain ⟨u, hu, hvu⟩ := evA_ok h hp
        obtain ⟨us, hus, hvs⟩ := evAs_ok h hargs
        cases hvu with
        | func ha hc =>
          refine ⟨_, Ef.callH hb hu (evL_map hus) rfl (hcf.f x ρ s H f _ _ _ _ rfl hq h.bare ((ha.app hvs).app hc)), fun u' H' ⟨ρ', h1, h2, h3⟩ _ => ⟨ρ', h1, h2, h.join h3 h1⟩⟩
      · cases e
    · cases e
  · exact effA_ok h e
/-! ### lists -/
def putO (s : AS) : Option Nat → Value → AS
  | none, _ => s
  | some d, v => { s with env := s.env.put d v }
def dstB (n : Nat) : Option Nat → Bool
  | none => true
  | some d => Nat.blt d n && Nat.blt d 1000000
def envO (env : Env) : Option Nat → Value → Env
  | none, _ => env
  | some d, u => (d, u) :: env
theorem Re.put (h : Re x ρ s env H) {d : Option Nat} {v u : Value} (hd : dstB x.n d = true) (hv : VR ρ v u) : Re x ρ (putO s d v) (envO env d u) H := by
  cases d with
  | none => exact h
  | some d =>
    have hd2 : d < 1000000 := by
      simp only [dstB, Bool.and_eq_true] at hd
      exact Nat.le_of_ble_eq_true hd.2
    refine ⟨fun t w e => ?_, h.heap, h.inj, h.dom, h.nd, h.gl⟩
    have e' : (s.env.put d v).get t = some w := e
    rw [T.get_put hd2] at e'
    show ∃ u_1, Sl.look ((d, u) :: env) t = some u_1 ∧ VR ρ w u_1
    rw [look_cons]
    split at e'
    · rename_i ht
      cases e'
      exact ⟨u, by rw [if_pos ht.symm], hv⟩
    · rename_i ht
      rw [if_neg (fun e => ht e.symm)]
      exact h.env t w e'
def gA (ops : List Oper) (s : AS) : Option (Nat × Bool) → Option Bool
  | none => some true
  | some (j, b) => match (ops[j]?).bind (·.dst) with
    | some t => match s.env.get t with
      | some (.bool c) => match c, b with
        | true, true => some true
        | false, false => some true
        | _, _ => some false
      | some (.tuple ⟨[]⟩) => some false
      | _ => none
    | none => none
/-- whether an operation is wanted, seen from the act -/
theorem gA_ok {ops : List Oper} {a : Act} (h : Re x ρ s env H) (he : Ev x env a) {op : Op} {g : Bool} (e : gA ops s gd = some g) : Region.wanted ⟨dst, op, ty, pos, aft, gd⟩ (yielded ops.toArray a.tmps) = g := by
  unfold gA at e
  split at e
  · cases e; rfl
  · rename_i j b
    split at e
    · rename_i t ht
      have hj : gslot ops.toArray j = some t := by
        unfold gslot
        rw [List.getElem?_toArray]
        exact ht
      split at e
      · rename_i c hc
        obtain ⟨u, hu, hv⟩ := h.env _ _ hc
        cases VR.bool_inv hv
        simp only [Region.wanted, yielded_of he hj hu]
        cases c <;> cases b <;> cases e <;> rfl
      · rename_i hc
        obtain ⟨u, hu, hv⟩ := h.env _ _ hc
        obtain ⟨l', rfl, hl⟩ := VR.tup_inv hv
        cases hl
        cases e
        simp only [Region.wanted, yielded_of he hj hu]
        rfl
      · cases e
    · cases e
def listA (cf : CF) (P : Program) (n : Nat) (ops : List Oper) : List Oper → AS → Option (List AS)
  | [], s => some [s]
  | o :: l, s => match gA ops s o.guard, dstB n o.dst with
    | some true, true => match o.op with
      | .next p false => match nxtA s p with
        | some rs => bindL (fun r => listA cf P n ops l (putO r.2 o.dst r.1)) rs
        | none => none
      | op => match stepA cf P s op with
        | some (v, s') => listA cf P n ops l (putO s' o.dst v)
        | none => none
    | some false, true => listA cf P n ops l (putO s o.dst undef)
    | _, _ => none
theorem undef_vr : VR ρ undef undef := clear_vr (by unfold undef; rfl)
variable {K : Post}
theorem put_ev {a : Act} (he : Ev x env a) {d : Option Nat} (hd : dstB x.n d = true) (u : Value) : Ev x (envO env d u) (a.put d u) := by
  cases d with
  | none => exact he
  | some d =>
    simp only [dstB, Bool.and_eq_true] at hd
    exact he.put (Nat.le_of_ble_eq_true hd.1) u
theorem listA_ok {cf : CF} (hcf : CFok x.P cf) {ops : List Oper} : ∀ (l : List Oper) (s : AS) (ss : List AS) (ρ : Ro) (env : Env) (H : HL), listA cf x.P x.n ops l s = some ss → Re x ρ s env H → (∀ s' ∈ ss, ∀ ρ' env' H', Le ρ ρ' → Re x ρ' s' env' H' → Fin x K .normal env' H') → WL x K ops.toArray l env H
  | [], s, ss, ρ, env, H, e, h, hK => by
    cases e
    exact WL.nil (hK s List.mem_cons_self ρ env H (Le.refl ρ) h)
  | ⟨dst, op, ty, pos, aft, gd⟩ :: l, s, ss, ρ, env, H, e, h, hK => by
    unfold listA at e
    dsimp only at e
    refine ⟨fun a w st => ?_⟩
    unfold wpListIn
    split at e
    · rename_i hg hd
      split at e
      · rename_i p
        split at e
        · rename_i rs hn
          obtain ⟨R, hef, hR⟩ := nxtA_ok (dst := dst) (ty := ty) (pos := pos) (aft := aft) (gd := gd) h hn
          rw [if_pos (gA_ok h st.ev hg)]
          refine wpIn_of_yields ((ef_nd hef).run a w st.ev st.hin) ?_
          rintro u w' ⟨H', ⟨hRR, hok⟩, hi, hsm⟩
          obtain ⟨r, hr, h2, h3⟩ := hR u H' hRR hok
          obtain ⟨q, hq, hqs⟩ := bindL_ok e r hr
          exact (listA_ok hcf l _ q ρ _ H' hq (h3.put hd h2) (fun s' hs' ρ2 env2 H2 hl => hK s' (hqs s' hs') ρ2 env2 H2 hl)).run _ _ ⟨put_ev st.ev hd u, hi, st.same.trans hsm⟩
        · cases e
      · split at e
        · rename_i v s1 hs
          obtain ⟨R, hef, hR⟩ := (stepA_ok (dst := dst) (ty := ty) (pos := pos) (aft := aft) (gd := gd) hcf h hs).ef
          rw [if_pos (gA_ok h st.ev hg)]
          refine wpIn_of_yields ((ef_nd hef).run a w st.ev st.hin) ?_
          rintro u w' ⟨H', ⟨hRR, hok⟩, hi, hsm⟩
          obtain ⟨ρ', h1, h2, h3⟩ := hR u H' hRR hok
          exact (listA_ok hcf l _ ss ρ' _ H' e (h3.put hd h2) (fun s' hs' ρ2 env2 H2 hl => hK s' hs' ρ2 env2 H2 (h1.trans hl))).run _ _ ⟨put_ev st.ev hd u, hi, st.same.trans hsm⟩
        · cases e
    · rename_i hg hd
      rw [if_neg (by rw [gA_ok h st.ev hg]; simp)]
      exact ⟨fun _ _ => trivial, (listA_ok hcf l _ ss ρ _ H e (h.put hd undef_vr) hK).run _ _ ⟨put_ev st.ev hd undef, st.hin, st.same⟩⟩
    · cases e
end
end
end Go.Ev
namespace Go.Ev
open Go Go.Sl
noncomputable section
section
variable {x : Cx} {ρ : Ro} {s : AS} {env : Env} {H : HL} {dst : Option Tmp} {ty : TypeId} {pos : String} {aft : Array Edge} {gd : Option (Nat × Bool)}
def addX (x : Cx) (Hl : HL) : Cx := { x with F := addF x.F Hl }
theorem addF_nil (F : Nat → Option Obj) : addF F [] = F := by funext b; unfold addF; rfl
theorem addF_cons (F : Nat → Option Obj) (p : Nat × Obj) (Hl : HL) (b : Nat) : addF F (p :: Hl) b = if p.1 = b then some p.2 else addF F Hl b := by
  unfold addF
  by_cases hb : p.1 = b
  · rw [if_pos hb, List.find?_cons_of_pos (by simpa using hb)]
  · rw [if_neg hb, List.find?_cons_of_neg (by simpa using hb)]
theorem addF_mem {F : Nat → Option Obj} {Hl : HL} (nd : (Hl.map (·.1)).Nodup) {p : Nat × Obj} (hp : p ∈ Hl) : addF F Hl p.1 = some p.2 := by
  unfold addF; rw [find?_of_mem nd hp]
theorem addF_none {F : Nat → Option Obj} {Hl : HL} {b : Nat} (h : ∀ p ∈ Hl, p.1 ≠ b) : addF F Hl b = F b := by
  unfold addF
  split
  · rename_i p hf
    have h1 := List.mem_of_find?_eq_some hf
    have h2 : p.1 = b := by simpa using List.find?_some hf
    exact absurd h2 (h p h1)
  · rfl
theorem Okh.join {F : Nat → Option Obj} {H1 Hl : HL} (h : Okh (addF F Hl) H1) (k : Okh F Hl) : Okh F (H1 ++ Hl) := by
  refine ⟨?_, fun p hp => ?_⟩
  · rw [List.map_append, List.nodup_append]
    refine ⟨h.nd, k.nd, fun a ha b hb e => ?_⟩
    subst e
    obtain ⟨p, hp, rfl⟩ := List.mem_map.1 ha
    obtain ⟨q, hq, he⟩ := List.mem_map.1 hb
    have h1 := h.dj p hp
    rw [← he, addF_mem k.nd hq] at h1
    cases h1
  · rcases List.mem_append.1 hp with hp | hp
    · have h1 := h.dj p hp
      cases hF : F p.1 with
      | none => rfl
      | some o => rw [addF_ro k.dj hF] at h1; cases h1
    · exact k.dj p hp
/-- what has been set aside -/
structure Lk (x : Cx) (ρ : Ro) (L : List Nat) (Hl : HL) : Prop where
  ok : Okh x.F Hl
  fw : ∀ β ∈ L, ∃ pl o, ρ β = some pl ∧ (pl.g, o) ∈ Hl
  bw : ∀ p ∈ Hl, ∃ β ∈ L, ∃ pl, ρ β = some pl ∧ pl.g = p.1
theorem Lk.mono {ρ' : Ro} {L : List Nat} {Hl : HL} (h : Lk x ρ L Hl) (hl : Le ρ ρ') : Lk x ρ' L Hl :=
  ⟨h.ok, fun β hβ => let ⟨pl, o, h1, h2⟩ := h.fw β hβ; ⟨pl, o, hl _ _ h1, h2⟩, fun p hp => let ⟨β, h1, pl, h2, h3⟩ := h.bw p hp; ⟨β, h1, pl, hl _ _ h2, h3⟩⟩
def lockA : List Nat → AS → Option AS
  | [], s => some s
  | β :: L, s => match lockA L s with
    | some s' => match s'.heap.get β, Nat.blt β 1000000 with
      | some a, true => match a.rw with
        | true => some { s' with heap := s'.heap.put β (a.set false) }
        | false => none
      | _, _ => none
    | none => none
theorem lockA_ok (h : Re x ρ s env H) : ∀ (L : List Nat) (sk : AS), lockA L s = some sk → ∃ Hl Hm, H.Perm (Hm ++ Hl) ∧ Re (addX x Hl) ρ sk env Hm ∧ Lk x ρ L Hl
  | [], sk, e => by
    cases e
    refine ⟨[], H, by rw [List.append_nil], h.cx rfl (addF_nil x.F), ⟨⟨List.nodup_nil, fun _ h => (by cases h)⟩, fun _ h => (by cases h), fun _ h => (by cases h)⟩⟩
  | β :: L, sk, e => by
    unfold lockA at e
    split at e
    · rename_i s1 h1
      obtain ⟨Hl, Hm, hp, hre, hlk⟩ := lockA_ok h L s1 h1
      split at e
      · rename_i a hg hβ
        split at e
        rotate_left
        · cases e
        rename_i harw
        cases e
        have hβ := Nat.le_of_ble_eq_true hβ
        obtain ⟨pl, hρ, ob, hm, hov⟩ := hre.heap _ _ hg
        rw [harw] at hm
        have hm : (pl.g, ob) ∈ Hm := hm
        obtain ⟨Hm', hext⟩ := ext1_of hm
        have hpm := hext.perm
        have hnd : (((pl.g, ob) :: Hm').map (·.1)).Nodup := (hpm.map (·.1)).nodup_iff.1 hre.nd.nd
        rw [List.map_cons, List.nodup_cons] at hnd
        have hne : ∀ p ∈ Hm', p.1 ≠ pl.g := fun p hp e => hnd.1 (List.mem_map.2 ⟨p, hp, e⟩)
        have hdj : addF x.F Hl pl.g = none := hre.nd.dj _ hm
        have hnl : ∀ p ∈ Hl, p.1 ≠ pl.g := fun p hp e => by
          rw [← e, addF_mem hlk.ok.nd hp] at hdj
          cases hdj
        refine ⟨(pl.g, ob) :: Hl, Hm', hp.trans ?_, ⟨hre.env, fun γ q hγ => ?_, fun γ δ q q' p p' e1 e2 e3 e4 e5 => ?_, hre.dom, ⟨hnd.2, fun p hp' => ?_⟩, hre.gl⟩, ⟨⟨?_, fun p hp' => ?_⟩, fun γ hγ => ?_, fun p hp' => ?_⟩⟩
        · exact (hpm.append_right Hl).trans (List.perm_middle.symm)
        · dsimp only at hγ
          rw [T.get_put hβ] at hγ
          split at hγ
          · rename_i e
            subst e
            cases hγ
            refine ⟨pl, hρ, ob, ?_, hov.set false⟩
            rw [AO.rw_set]
            show addF x.F (_ :: Hl) pl.g = some _
            rw [addF_cons, if_pos rfl]
          · rename_i hγβ
            obtain ⟨pl2, hρ2, hO⟩ := hre.heap γ q hγ
            have hgne : pl2.g ≠ pl.g := fun e => hγβ (hre.inj γ β q _ pl2 pl hγ hg hρ2 hρ e)
            refine ⟨pl2, hρ2, ?_⟩
            obtain ⟨ob2, hm2, hov2⟩ := hO
            refine ⟨ob2, ?_, hov2⟩
            cases hr : q.rw
            · rw [hr] at hm2
              have hm2' : addF x.F Hl pl2.g = some _ := hm2
              show addF x.F (_ :: Hl) pl2.g = some _
              rw [addF_cons, if_neg (fun e => hgne e.symm)]
              exact hm2'
            · rw [hr] at hm2
              have hm2' : (pl2.g, _) ∈ Hm := hm2
              rcases List.mem_cons.1 (hpm.mem_iff.1 hm2') with e | hin
              · exact absurd (congrArg Prod.fst e) hgne
              · exact hin
        · dsimp only at e1 e2
          rw [T.get_put hβ] at e1 e2
          have k1 : ∃ q, s1.heap.get γ = some q := by
            split at e1
            · rename_i e; rw [e]; exact ⟨_, hg⟩
            · exact ⟨_, e1⟩
          have k2 : ∃ q, s1.heap.get δ = some q := by
            split at e2
            · rename_i e; rw [e]; exact ⟨_, hg⟩
            · exact ⟨_, e2⟩
          obtain ⟨a, ha⟩ := k1
          obtain ⟨b, hb⟩ := k2
          exact hre.inj γ δ a b p p' ha hb e3 e4 e5
        · show addF x.F (_ :: Hl) p.1 = none
          rw [addF_cons, if_neg (fun e => hne p hp' e.symm)]
          exact hre.nd.dj p (hpm.mem_iff.2 (List.mem_cons_of_mem _ hp'))
        · rw [List.map_cons, List.nodup_cons]
          exact ⟨fun hmm => by
            obtain ⟨q, hq, he⟩ := List.mem_map.1 hmm
            exact hnl q hq he, hlk.ok.nd⟩
        · rcases List.mem_cons.1 hp' with rfl | hp'
          · show x.F pl.g = none
            rw [← addF_none (F := x.F) hnl]
            exact hdj
          · exact hlk.ok.dj p hp'
        · rcases List.mem_cons.1 hγ with rfl | hγ
          · exact ⟨pl, _, hρ, List.mem_cons_self⟩
          · obtain ⟨pl2, o2, h2, h3⟩ := hlk.fw γ hγ
            exact ⟨pl2, o2, h2, List.mem_cons_of_mem _ h3⟩
        · rcases List.mem_cons.1 hp' with rfl | hp'
          · exact ⟨β, List.mem_cons_self, pl, hρ, rfl⟩
          · obtain ⟨γ, h2, h3⟩ := hlk.bw p hp'
            exact ⟨γ, List.mem_cons_of_mem _ h2, h3⟩
      · cases e
    · cases e
def unlA : List Nat → AS → Option AS
  | [], s => some s
  | β :: L, s => match s.heap.get β, Nat.blt β 1000000 with
    | some a, true => match a.rw with
      | false => unlA L { s with heap := s.heap.put β (a.set true) }
      | true => none
    | _, _ => none
theorem unlA_get : ∀ (L : List Nat) (s s' : AS), unlA L s = some s' → s'.env = s.env ∧ s'.nx = s.nx ∧ s'.gn = s.gn ∧ (∀ β ∈ L, ∃ a, s.heap.get β = some a ∧ a.rw = false) ∧ ∀ γ, s'.heap.get γ = if γ ∈ L then (s.heap.get γ).map (AO.set true) else s.heap.get γ
  | [], s, s', e => by
    cases e
    exact ⟨rfl, rfl, rfl, fun _ h => (by cases h), fun γ => by simp⟩
  | β :: L, s, s', e => by
    unfold unlA at e
    split at e
    · rename_i a hg hβ
      split at e
      rotate_left
      · cases e
      rename_i harw
      have hβ := Nat.le_of_ble_eq_true hβ
      obtain ⟨h1, h2, h5, h3, h4⟩ := unlA_get L _ s' e
      dsimp only at h3 h4
      refine ⟨h1, h2, h5, fun γ hγ => ?_, fun γ => ?_⟩
      · rcases List.mem_cons.1 hγ with rfl | hγ
        · exact ⟨a, hg, harw⟩
        · obtain ⟨a2, h5, h6⟩ := h3 γ hγ
          rw [T.get_put hβ] at h5
          split at h5
          · cases h5; rw [AO.rw_set] at h6; cases h6
          · exact ⟨a2, h5, h6⟩
      · rw [h4 γ, T.get_put hβ]
        by_cases hγβ : γ = β
        · subst hγβ
          rw [if_pos rfl, if_pos (List.mem_cons_self), hg]
          split
          · cases a <;> rfl
          · rfl
        · rw [if_neg hγβ]
          by_cases hγ : γ ∈ L
          · rw [if_pos hγ, if_pos (List.mem_cons_of_mem _ hγ)]
          · rw [if_neg hγ, if_neg (fun h => by rcases List.mem_cons.1 h with h | h; exact hγβ h; exact hγ h)]
    · cases e
theorem unlA_ok {L : List Nat} {Hl Hm : HL} {sk s' : AS} (h : Re (addX x Hl) ρ sk env Hm) (hlk : Lk x ρ L Hl) (e : unlA L sk = some s') : Re x ρ s' env (Hm ++ Hl) := by
  obtain ⟨h1, h2, h5, h3, h4⟩ := unlA_get L sk s' e
  refine ⟨fun t v ht => h.env t v (by rw [← h1]; exact ht), fun γ q hγ => ?_, fun γ δ q q' p p' e1 e2 e3 e4 e5 => ?_, fun β pl hβ => by rw [h2]; exact h.dom β pl hβ, Okh.join h.nd hlk.ok, fun g hg => h.gl g (by rw [← h5]; exact hg)⟩
  · rw [h4 γ] at hγ
    split at hγ
    · rename_i hL
      obtain ⟨a, hg, harw⟩ := h3 γ hL
      rw [hg] at hγ
      cases hγ
      obtain ⟨pl, hρ, ob, hm, hr⟩ := h.heap _ _ hg
      obtain ⟨pl2, o, hρ2, hin⟩ := hlk.fw γ hL
      rw [hρ] at hρ2
      cases hρ2
      refine ⟨pl, hρ, ob, ?_, hr.set true⟩
      rw [harw] at hm
      have hm' : addF x.F Hl pl.g = some ob := hm
      have h5 := addF_mem (F := x.F) hlk.ok.nd hin
      rw [show addF x.F Hl (pl.g, o).1 = addF x.F Hl pl.g from rfl, hm'] at h5
      cases h5
      rw [AO.rw_set]
      exact List.mem_append_right _ hin
    · rename_i hL
      obtain ⟨pl, hρ, ob, hm2, hr2⟩ := h.heap _ _ hγ
      refine ⟨pl, hρ, ob, ?_, hr2⟩
      cases hr : q.rw
      · rw [hr] at hm2
        have hm2' : addF x.F Hl pl.g = some ob := hm2
        show x.F pl.g = some ob
        rw [← hm2']
        refine (addF_none (fun p hp e => ?_)).symm
        obtain ⟨β, hβ, pl3, hρ3, hg3⟩ := hlk.bw p hp
        obtain ⟨a3, hs3, _⟩ := h3 β hβ
        exact hL (by rw [h.inj γ β _ _ pl pl3 hγ hs3 hρ hρ3 (by rw [hg3, e])]; exact hβ)
      · rw [hr] at hm2
        exact List.mem_append_left _ hm2
  · have k : ∀ {γ q}, s'.heap.get γ = some q → ∃ q0, sk.heap.get γ = some q0 := fun {γ q} hq => by
      rw [h4 γ] at hq
      split at hq
      · cases hs : sk.heap.get γ with
        | none => rw [hs] at hq; cases hq
        | some q0 => exact ⟨q0, rfl⟩
      · exact ⟨_, hq⟩
    obtain ⟨a, ha⟩ := k e1
    obtain ⟨b, hb⟩ := k e2
    exact h.inj γ δ a b p p' ha hb e3 e4 e5
/-! ### what is so beside what is set aside -/
theorem Ev.add {Hl : HL} {a : Act} (h : Ev x env a) : Ev (addX x Hl) env a := ⟨h.size, h.defers, h.env⟩
theorem Pu.unadd {Hl : HL} {o : Oper} {v : Value} (h : Pu (addX x Hl) env o v) : Pu x env o v := ⟨fun a he w => h.run a (Ev.add he) w⟩
theorem Rd.unadd {Hl : HL} {o : Oper} {v : Value} (h : Rd (addX x Hl) env [] o v) : Rd x env Hl o v := ⟨fun a w he hi => h.run a w (Ev.add he) (In.focus (H := []) hi)⟩
theorem Ef.unadd {Hl Hm : HL} {o : Oper} {R : Value → HL → Prop} (h : Ef (addX x Hl) env Hm o R) : Ef x env (Hm ++ Hl) o (fun v H' => ∃ H1, R v H1 ∧ H' = H1 ++ Hl) :=
  ⟨fun a w he hi => Yr.mono (fun v w' ⟨H', hR, hi', hs⟩ => ⟨H' ++ Hl, ⟨H', hR, rfl⟩, hi.unfocus hi', hs⟩) (h.run a w (Ev.add he) hi.focus)⟩
end
end
end Go.Ev
namespace Go.Ev
open Go Go.Sl
noncomputable section
section
variable {P : Program} {ops : Array Oper} {ms : List Nat} {Q : Act → World → Prop}
def un (ms : List Nat) (i j : Nat) : Bool := !anc ms i j && !anc ms j i
def wpMixU (P : Program) (ops : Array Oper) (ms : List Nat) (Q : Act → World → Prop) : List Tg → (Nat → World → Prop) → (World → Prop) → Act → Prop
  | [], _, M, a => ∀ w, M w → Q a w
  | t :: rest, C, M, a =>
    (∃ v, quietV P ops (C t.i) t a v ∧ wpMixU P ops ms Q rest C M (a.put t.o.dst v)) ∨
    (acts ops t a ∧ ∀ w, M w → yields P t.o a w (fun v w' => ∃ (M' : World → Prop) (C' : Nat → World → Prop), M' w' ∧ (∀ j, un ms t.i j = true → C' j = C j) ∧ (∀ w, M' w → ∀ j, C' j w) ∧ wpMixU P ops ms Q rest C' M' (a.put t.o.dst v)))
structure SwU (ops : Array Oper) (ms : List Nat) (x y : Tg) : Prop where
  apart : x.o.apart ops y.o = true
  ne : ¬ (x.k = .e ∧ y.k = .e)
  nc : un ms y.i x.i = true
  cn : un ms x.i y.i = true
theorem quietV_U {C C' : World → Prop} {t : Tg} {a : Act} {v : Value} (hC : t.k = .s → C' = C) (h : quietV P ops C t a v) : quietV P ops C' t a v := by
  rcases h with ⟨h1, h2, h3⟩ | h
  · exact .inl ⟨h1, h2, fun w hw => h3 w (fun hk => by rw [← hC hk]; exact hw hk)⟩
  · exact .inr h
theorem wpMixU_swap {x y : Tg} {rest : List Tg} {C : Nat → World → Prop} {M : World → Prop} {a : Act} (hx : ∀ cs b, x.o.op ≠ .select cs b) (hy : ∀ cs b, y.o.op ≠ .select cs b)
    (hsw : SwU ops ms x y) (hM : ∀ w, M w → ∀ j, C j w) (hw : ∃ w, M w)
    (h : wpMixU P ops ms Q (x :: y :: rest) C M a) : wpMixU P ops ms Q (y :: x :: rest) C M a := by
  obtain ⟨h1, h2, h3⟩ := Oper.apart_spec hsw.apart
  rcases h with ⟨v, hv, h⟩ | ⟨hax, h⟩
  · rcases h with ⟨u, hu, h⟩ | ⟨hay, h⟩
    · refine .inl ⟨u, (quietV_put hy h1).1 hu, .inl ⟨v, (quietV_put hx h3).2 hv, ?_⟩⟩
      rw [← Act.put_comm a v u h2]; exact h
    · refine .inr ⟨(acts_put h1).1 hay, fun w hMw => Yr.mono ?_ ((yields_put hy h1).1 (h w hMw))⟩
      rintro u w' ⟨M', C', hM', hk, hMC, hr⟩
      exact ⟨M', C', hM', hk, hMC, .inl ⟨v, quietV_U (fun _ => hk _ hsw.nc) ((quietV_put hx h3).2 hv), by rw [← Act.put_comm a v u h2]; exact hr⟩⟩
  · obtain ⟨w0, hw0⟩ := hw
    obtain ⟨v0, w0', M0, C0, hM0, hk0, hMC0, h0⟩ := (h w0 hw0).ex
    have hyq : ∃ u, quietV P ops (C y.i) y a u := by
      rcases h0 with ⟨u, hu, _⟩ | ⟨hay, _⟩
      · exact ⟨u, quietV_U (fun _ => (hk0 _ hsw.cn).symm) ((quietV_put hy h1).1 hu)⟩
      · exact absurd ⟨hax.2, hay.2⟩ hsw.ne
    obtain ⟨u, hu⟩ := hyq
    refine .inl ⟨u, hu, .inr ⟨(acts_put h3).2 hax, fun w hMw => Yr.mono ?_ ((yields_put hx h3).2 (h w hMw))⟩⟩
    rintro v w' ⟨M', C', hM', hk, hMC, hr⟩
    rcases hr with ⟨u', hu', hr⟩ | ⟨hay, _⟩
    · have hu2 : quietV P ops (C y.i) y a u' := quietV_U (fun _ => (hk _ hsw.cn).symm) ((quietV_put hy h1).1 hu')
      obtain rfl : u = u' := quietV_det (w := w) (fun _ => hM w hMw _) hu hu2
      refine ⟨M', C', hM', hk, hMC, ?_⟩
      rw [← Act.put_comm a v u h2]; exact hr
    · exact absurd ⟨hax.2, hay.2⟩ hsw.ne
theorem wpMixU_push {x : Tg} {r r' : List Tg} {C : Nat → World → Prop} {M : World → Prop} {a : Act} (hM : ∀ w, M w → ∀ j, C j w) (hw : ∃ w, M w)
    (hr : ∀ (C' : Nat → World → Prop) (M' : World → Prop) (a' : Act), (∀ w, M' w → ∀ j, C' j w) → (∃ w, M' w) → wpMixU P ops ms Q r C' M' a' → wpMixU P ops ms Q r' C' M' a')
    (h : wpMixU P ops ms Q (x :: r) C M a) : wpMixU P ops ms Q (x :: r') C M a := by
  rcases h with ⟨v, hv, h⟩ | ⟨hax, h⟩
  · exact .inl ⟨v, hv, hr C M _ hM hw h⟩
  · refine .inr ⟨hax, fun w hMw => Yr.mono ?_ (h w hMw)⟩
    rintro v w' ⟨M', C', hM', hk, hMC, h'⟩
    exact ⟨M', C', hM', hk, hMC, hr C' M' _ hMC ⟨w', hM'⟩ h'⟩
theorem wpMixU_front {i : Tg} {l2 : List Tg} : ∀ (l1 : List Tg) (C : Nat → World → Prop) (M : World → Prop) (a : Act), (∀ t ∈ l1 ++ i :: l2, ∀ cs b, t.o.op ≠ .select cs b) → (∀ x ∈ l1, SwU ops ms x i) →
    (∀ w, M w → ∀ j, C j w) → (∃ w, M w) → wpMixU P ops ms Q (l1 ++ i :: l2) C M a → wpMixU P ops ms Q (i :: (l1 ++ l2)) C M a
  | [], _, _, _, _, _, _, _, h => h
  | x :: l1, C, M, a, hns, hsw, hM, hw, h => by
    have h' : wpMixU P ops ms Q (x :: (i :: (l1 ++ l2))) C M a := by
      refine wpMixU_push hM hw (fun C' M' a' hM' hw' hr => ?_) h
      exact wpMixU_front l1 C' M' a' (fun t ht => hns t (List.mem_cons_of_mem _ ht)) (fun y hy => hsw y (List.mem_cons_of_mem _ hy)) hM' hw' hr
    exact wpMixU_swap (hns x (by simp)) (hns i (by simp)) (hsw x (by simp)) hM hw h'
theorem wpAny_of_mixU {rd : Option Nat} {ms : List Nat} {Q' : Post} (hq : ∀ a w, Q a w → Q' .normal a w) (hns : ∀ (j : Nat) (o : Oper) cs b, ops[j]? = some o → o.op ≠ .select cs b)
    (hs : ∀ i o, ops[i]? = some o → (∀ e ∈ o.after, Region.binds .any e = true → e.on < i) ∧ ∀ x, anc ms i x = true → ∃ e ∈ o.after, Region.binds .any e = true ∧ (e.on = x ∨ anc ms e.on x = true)) :
    ∀ (l : List Tg) (listed : Array Bool) (C : Nat → World → Prop) (M : World → Prop) (a : Act) (w : World), listed.size = ops.size → Closed ops listed → (∀ t ∈ l, ops[t.i]? = some t.o) → (l.map (·.i)).Nodup → (∀ j, j < ops.size → (listed.getD j true = false ↔ j ∈ l.map (·.i))) →
      (l.map (·.i)).Pairwise (· < ·) → l.Pairwise (fun x y => anc ms y.i x.i = true ∨ SwU ops ms x y) → (∀ w, M w → ∀ j, C j w) → M w → wpMixU P ops ms Q l C M a → wpAnyIn (fenceR rd) 0 P .any ops Q' l.length listed a w := by
  intro l
  generalize hn : l.length = n
  induction n generalizing l with
  | zero =>
    intro listed C M a w hsz hc ho hnd hl hlt hpw hM hw h
    obtain rfl := List.eq_nil_of_length_eq_zero hn
    refine ⟨?_, hq _ _ (h w hw)⟩
    refine List.eq_nil_iff_forall_not_mem.2 fun j hj => ?_
    obtain ⟨h0, o, hoj, _⟩ := mem_ready.1 hj
    have := (hl j (Array.getElem?_eq_some_iff.1 hoj).1).1 h0
    simp at this
  | succ n ih =>
    intro listed C M a w hsz hc ho hnd hl hlt hpw hM hw h
    refine ⟨fun hr => ?_, fun j hj => ?_⟩
    · -- the first of the list is ready
      exfalso
      obtain ⟨t, l', rfl⟩ : ∃ t l', l = t :: l' := by
        cases l with
        | nil => simp at hn
        | cons t l' => exact ⟨t, l', rfl⟩
      have hot := ho t (by simp)
      have htlt : t.i < ops.size := (Array.getElem?_eq_some_iff.1 hot).1
      have : t.i ∈ Region.ready .any ops listed := mem_ready.2 ⟨(hl t.i htlt).2 (by simp), t.o, hot, fun e he hb => by
        have he1 := (hs t.i t.o hot).1 e he hb
        have hnot : ¬ listed.getD e.on true = false := fun hf => by
          have hm := (hl e.on (by omega)).1 hf
          simp only [List.map_cons, List.mem_cons] at hm
          rw [List.map_cons, List.pairwise_cons] at hlt
          rcases hm with hm | hm
          · omega
          · have := hlt.1 _ hm; omega
        have hlt3 : e.on < listed.size := by omega
        simp only [Array.getD, hlt3, dite_true] at hnot ⊢
        simpa using hnot⟩
      rw [hr] at this
      cases this
    · obtain ⟨h0, o, hoj, hall⟩ := mem_ready.1 hj
      have hjlt := (Array.getElem?_eq_some_iff.1 hoj).1
      obtain ⟨t, ht, rfl⟩ := List.mem_map.1 ((hl j hjlt).1 h0)
      obtain ⟨l1, l2, rfl⟩ := List.append_of_mem ht
      have hot : ops[t.i]? = some t.o := ho t ht
      obtain rfl : o = t.o := by rw [hoj] at hot; cases hot; rfl
      have hpw' := hpw
      rw [List.pairwise_append] at hpw
      have hsw : ∀ x ∈ l1, SwU ops ms x t := fun x hx => by
        rcases hpw.2.2 x hx t (by simp) with hanc | hsw
        · exfalso
          have := anc_listed hs hsz hc (t.i + 1) t.i (by omega) t.o hoj hall x.i hanc
          have hxo := ho x (by simp [hx])
          have hxl : x.i < ops.size := (Array.getElem?_eq_some_iff.1 hxo).1
          have hf := (hl x.i hxl).2 (List.mem_map.2 ⟨x, by simp [hx], rfl⟩)
          have hlt3 : x.i < listed.size := by omega
          simp only [Array.getD, hlt3, dite_true] at hf this
          rw [hf] at this; cases this
        · exact hsw
      have hfront := wpMixU_front (Q := Q) (P := P) (ops := ops) (i := t) (l2 := l2) l1 C M a (fun u hu cs b => hns u.i u.o cs b (ho u hu)) hsw hM ⟨w, hw⟩ h
      have hlen : (l1 ++ l2).length = n := by simp at hn ⊢; omega
      have hsub : (l1 ++ l2).Sublist (l1 ++ t :: l2) := (List.Sublist.refl l1).append (List.sublist_cons_self t l2)
      have hnd' : ((l1 ++ l2).map (·.i)).Nodup := hnd.sublist (hsub.map _)
      have htn : t.i ∉ (l1 ++ l2).map (·.i) := by
        have := hnd
        rw [List.map_append, List.map_cons, List.nodup_append, List.nodup_cons] at this
        rw [List.map_append, List.mem_append]
        rintro (h1 | h1)
        · exact this.2.2 _ h1 t.i (by simp) rfl
        · exact this.2.1.1 h1
      have hc' : Closed ops (listed.setIfInBounds t.i true) := fun j o ho' hj' e he hb => by
        by_cases hji : t.i = j
        · subst hji
          rw [hoj] at ho'; cases ho'
          exact getD_set_true (hall e he hb)
        · rw [getD_set_ne true hji] at hj'
          exact getD_set_true (hc j o ho' hj' e he hb)
      have hl' : ∀ j, j < ops.size → ((listed.setIfInBounds t.i true).getD j true = false ↔ j ∈ (l1 ++ l2).map (·.i)) := fun j hjs => by
        by_cases hji : t.i = j
        · subst hji
          have : (listed.setIfInBounds t.i true).getD t.i true = true := by
            simp [Array.getD, hsz, hjs]
          rw [this]
          exact ⟨fun h => (by cases h), fun h => absurd h htn⟩
        · rw [getD_set_ne true hji, hl j hjs]
          simp only [List.map_append, List.map_cons, List.mem_append, List.mem_cons]
          exact ⟨fun h => by rcases h with h | h | h <;> first | exact .inl h | exact absurd h.symm hji | exact .inr h, fun h => by rcases h with h | h; exact .inl h; exact .inr (.inr h)⟩
      have next : ∀ (C' : Nat → World → Prop) (M' : World → Prop) (a' : Act) (w' : World), (∀ w, M' w → ∀ j, C' j w) → M' w' → wpMixU P ops ms Q (l1 ++ l2) C' M' a' → wpAnyIn (fenceR rd) 0 P .any ops Q' n (listed.setIfInBounds t.i true) a' w' :=
        fun C' M' a' w' hM' hw' h' => ih (l1 ++ l2) hlen _ C' M' a' w' (by simpa using hsz) hc' (fun u hu => ho u (hsub.mem hu)) hnd' hl' (hlt.sublist (hsub.map _)) (hpw'.sublist hsub) hM' hw' h'
      unfold wpOpIn
      rw [hoj]
      simp only []
      rcases hfront with ⟨v, hv, hr⟩ | ⟨hat, hr⟩
      · rcases hv with ⟨hwant, hne, hrun⟩ | ⟨hwant, rfl⟩
        · rw [if_pos hwant]
          refine wpIn_of_yields (yields_of_run (R := fun u w' => u = v ∧ w' = w) (hrun w (fun _ => hM w hw _)) ⟨rfl, rfl⟩) ?_
          rintro u w' ⟨rfl, rfl⟩
          exact next C M _ w' hM hw hr
        · rw [if_neg (by simp [hwant])]
          exact ⟨fun _ _ => trivial, next C M _ w hM hw hr⟩
      · rw [if_pos hat.1]
        refine wpIn_of_yields (hr w hw) ?_
        rintro v w' ⟨M', C', hM', hk, hMC, h'⟩
        exact next C' M' _ w' hMC hM' h'


/-! ### the check -/
def descU (ms : List Nat) (n : Nat) : List Nat → Nat → Nat
  | [], _ => 0
  | m :: l, i => (match m.testBit n with | true => 1 <<< i | false => 0) ||| descU ms n l (i + 1)
/-- reads that are neither ahead of an operation nor behind it -/
def unordU (ms : List Nat) (sm n : Nat) : Bool := Nat.beq (sm &&& (ms.getD n 0 ||| (descU ms n ms 0 ||| 1 <<< n))) sm
def sMaskU (kf : Nat → Op → Kd) : List Oper → Nat → Nat
  | [], _ => 0
  | o :: l, n => (if (kf n o.op).isS then 1 <<< n else 0) ||| sMaskU kf l (n + 1)
def tagU (kf : Nat → Op → Kd) (ms : List Nat) (sm : Nat) : List Oper → Nat → List Tg
  | [], _ => []
  | o :: l, n => ⟨kf n o.op, n, o, !unordU ms sm n⟩ :: tagU kf ms sm l (n + 1)
def tagsU (kf : Nat → Op → Kd) (l : List Oper) : List Tg := tagU kf (masks l []) (sMaskU kf l 0) l 0
def pairU (ops : Array Oper) (ms : List Nat) (x y : Tg) : Bool :=
  anc ms y.i x.i || (un ms x.i y.i && (x.o.apart ops y.o && !(x.k.isE && y.k.isE)))
def mixU (kf : Nat → Op → Kd) (l : List Oper) : Bool :=
  Region.noSelect l.toArray && soundB (masks l []) l 0 && pwB (pairU l.toArray (masks l [])) (tagsU kf l)
theorem tagU_mem {kf : Nat → Op → Kd} {ms : List Nat} {sm : Nat} : ∀ (l : List Oper) (n : Nat) (t : Tg), t ∈ tagU kf ms sm l n → n ≤ t.i ∧ l[t.i - n]? = some t.o
  | [], _, _, h => by cases h
  | o :: l, n, t, h => by
    rw [tagU, List.mem_cons] at h
    rcases h with rfl | h
    · exact ⟨Nat.le_refl _, by simp⟩
    · obtain ⟨h1, h2⟩ := tagU_mem l (n + 1) t h
      refine ⟨by omega, ?_⟩
      have : t.i - n = (t.i - (n + 1)) + 1 := by omega
      rw [this]; simpa using h2
theorem tagU_idx {kf : Nat → Op → Kd} {ms : List Nat} {sm : Nat} : ∀ (l : List Oper) (n : Nat), (tagU kf ms sm l n).map (·.i) = List.range' n l.length
  | [], _ => rfl
  | o :: l, n => by rw [tagU, List.map_cons, tagU_idx l (n + 1)]; rfl
theorem tagU_length {kf : Nat → Op → Kd} {ms : List Nat} {sm : Nat} (l : List Oper) (n : Nat) : (tagU kf ms sm l n).length = l.length := by
  have := congrArg List.length (tagU_idx (kf := kf) (ms := ms) (sm := sm) l n); simpa using this
theorem un_comm (ms : List Nat) (i j : Nat) : un ms i j = un ms j i := by unfold un; rw [Bool.and_comm]
theorem pairU_spec {ops : Array Oper} {ms : List Nat} {x y : Tg} (h : pairU ops ms x y = true) : anc ms y.i x.i = true ∨ SwU ops ms x y := by
  simp only [pairU, Bool.or_eq_true, Bool.and_eq_true, Bool.not_eq_true', Bool.and_eq_false_iff] at h
  rcases h with h | ⟨h0, h1, h2⟩
  · exact .inl h
  · refine .inr ⟨h1, fun ⟨a, b⟩ => ?_, by rw [un_comm]; exact h0, h0⟩
    rcases h2 with h2 | h2
    · rw [(isE_iff _).2 a] at h2; cases h2
    · rw [(isE_iff _).2 b] at h2; cases h2
end
theorem wp_region_mixU {rd : Option Nat} {P : Program} {C : Nat → World → Prop} {Q' : Post} {l : List Oper} {id : Nat} {a : Act} {w : World} {M : World → Prop} (hm : P.follows .mixedOrders = true) (kf : Nat → Op → Kd) (hB : mixU kf l = true)
    (hC : ∀ w, M w → ∀ j, C j w) (hw : M { w with drawn := w.drawn + 1 })
    (h : wpMixU P l.toArray (masks l []) (fun a w => Q' .normal a w) (tagsU kf l) C M a) : (Code.region id l.toArray true).wpIn (fenceR rd) 0 P Q' a w := by
  simp only [mixU, Bool.and_eq_true] at hB
  obtain ⟨⟨h1, h2⟩, h4⟩ := hB
  have hs := soundB_spec l 0 h2
  simp only [Nat.zero_add] at hs
  have hmem : ∀ t ∈ tagsU kf l, l.toArray[t.i]? = some t.o := fun t ht => by
    have := (tagU_mem l 0 t ht).2
    simpa using this
  have hidx : (tagsU kf l).map (·.i) = List.range' 0 l.length := tagU_idx l 0
  refine wpIn_region_any hm ?_
  have key := wpAny_of_mixU (rd := rd) (P := P) (ops := l.toArray) (Q := fun a w => Q' .normal a w) (ms := masks l []) (Q' := Q') (fun _ _ h => h) (fun j o cs b ho => Region.noSelect_spec h1 j o cs b ho)
    (fun i o ho => ⟨(hs i o (by simpa using ho)).1, fun x hx => (hs i o (by simpa using ho)).2 x hx⟩)
    (tagsU kf l) (Array.replicate l.toArray.size false) C M a { w with drawn := w.drawn + 1 } (by simp)
    (fun j o ho hj => by
      have := (Array.getElem?_eq_some_iff.1 ho).1
      simp only [List.size_toArray] at this
      simp [Array.getD, this] at hj)
    hmem (by rw [hidx]; exact List.nodup_range' ..) (fun j hj => by
      simp only [List.size_toArray] at hj
      rw [hidx]
      simp [Array.getD, hj, List.mem_range'_1]) (by rw [hidx]; exact List.pairwise_lt_range') ((pwB_spec _ h4).imp fun h => pairU_spec h) hC hw h
  have hlen : (tagsU kf l).length = l.toArray.size := by simp [tagsU, tagU_length]
  rw [hlen] at key
  exact key

/-- the judgement: what stays may be chosen anew on the way -/
structure WU (x : Cx) (ms : List Nat) (C : Nat → World → Prop) (K : Post) (ops : Array Oper) (l : List Tg) (env : Env) (H : HL) : Prop where
  run : ∀ a, Ev x env a → (∀ w, CC x H w → ∀ j, C j w) → wpMixU x.P ops ms (fun a w => K .normal a w) l C (CC x H) a
theorem W.drawU {x : Cx} {K : Post} {env : Env} {H : HL} {C : Nat → World → Prop} {id : Nat} {l : List Oper} (kf : Nat → Op → Kd) (hm : x.P.follows .mixedOrders = true) (hB : mixU kf l = true) (hC : ∀ w, CC x H w → ∀ j, C j w) (h : WU x (masks l []) C K l.toArray (tagsU kf l) env H) : W x K (.region id l.toArray true) env H :=
  ⟨fun a _w s => wp_region_mixU hm kf hB hC (M := CC x H) ⟨⟨s.hin.nd, s.hin.own, s.hin.fr, s.hin.dj⟩, ⟨s.same.os, s.same.tape, s.same.output, s.same.size, s.same.drawn.up⟩⟩ (h.run a s.ev hC)⟩
end
end Go.Ev
namespace Go.Ev
open Go Go.Sl
noncomputable section
section
variable {x : Cx} {ρ : Ro} {s : AS} {env : Env} {H : HL} {dst : Option Tmp} {ty : TypeId} {pos : String} {aft : Array Edge} {gd : Option (Nat × Bool)} {K : Post}
/-- a read: of which blocks, and what -/
def rdU (P : Program) (s : AS) (op : Op) : Option (List Nat × Value) := match op with
  | .load T p => match ldA P s T p with
    | some (β, v) => some ([β], v)
    | none => none
  | .lookup T p q ok => match lkA P s T p q ok with
    | some (β, v) => some ([β], v)
    | none => none
  | op => match puA P s op with
    | some v => some ([], v)
    | none => match eqPA P s op with
      | some (β, γ, v) => some ([β, γ], v)
      | none => moreA P s op
theorem rdU_ok (h : Re x ρ s env H) {H0 : HL} {op : Op} {bs : List Nat} {v : Value} (e : rdU x.P s op = some (bs, v)) (hH : ∀ β ∈ bs, ∀ a pl o, s.heap.get β = some a → ρ β = some pl → Has x.F H a.rw pl.g o → Has x.F H0 a.rw pl.g o) : ∃ u, VR ρ v u ∧ Rd x env H0 ⟨dst, op, ty, pos, aft, gd⟩ u := by
  unfold rdU at e
  split at e
  · split at e
    · rename_i β v0 hq
      cases e
      exact ldA_okG h hq (hH β List.mem_cons_self)
    · cases e
  · split at e
    · rename_i β v0 hq
      cases e
      exact lkA_okG h hq (hH β List.mem_cons_self)
    · cases e
  · split at e
    · rename_i v0 hq
      cases e
      obtain ⟨u, hu, hr⟩ := puA_ok h hq
      exact ⟨u, hu, Pu.rd hr⟩
    · split at e
      · rename_i β γ v0 hq
        cases e
        exact eqPA_okG h hq (fun δ a pl o hd => hH δ (by rcases hd with rfl | rfl; exact List.mem_cons_self; exact List.mem_cons_of_mem _ List.mem_cons_self) a pl o)
      · exact moreA_okG h e hH
inductive Du where
  | ok (s : AS)
  | need (j β : Nat)
  | no
abbrev Gu := List (Nat × Nat)
def inG (G : Gu) (j β : Nat) : Bool := G.any (fun q => Nat.beq q.1 j && Nat.beq q.2 β)
/-- a block that is read and was not guessed -/
def lackU (G : Gu) (j : Nat) : List Nat → Option Nat
  | [] => none
  | β :: l => match inG G j β with
    | true => lackU G j l
    | false => some β
theorem lackU_none {G : Gu} {j : Nat} : ∀ {l : List Nat}, lackU G j l = none → ∀ β ∈ l, inG G j β = true
  | [], _, _, h => by cases h
  | γ :: l, e, β, h => by
    unfold lackU at e
    split at e
    · rename_i hg
      rcases List.mem_cons.1 h with rfl | h
      · exact hg
      · exact lackU_none e β h
    · cases e
/-- what an act must leave as it is -/
def lockU (ms : List Nat) (i : Nat) (s : AS) : Gu → List Nat → Option (List Nat)
  | [], L => some L
  | (j, β) :: G, L => match un ms i j with
    | true => match s.heap.get β with
      | some a => match a.rw with
        | true => match L.any (Nat.beq β) with
          | true => lockU ms i s G L
          | false => lockU ms i s G (β :: L)
        | false => lockU ms i s G L
      | none => none
    | false => lockU ms i s G L
theorem any_mem {β : Nat} {L : List Nat} (h : L.any (Nat.beq β) = true) : β ∈ L := by
  obtain ⟨y, h1, h2⟩ := List.any_eq_true.1 h
  rw [beq_true h2]; exact h1
theorem lockU_ok {ms : List Nat} {i : Nat} : ∀ {G : Gu} {L L' : List Nat}, lockU ms i s G L = some L' → (∀ β ∈ L, β ∈ L') ∧ ∀ j β, (j, β) ∈ G → un ms i j = true → ∃ a, s.heap.get β = some a ∧ (a.rw = true → β ∈ L')
  | [], L, L', e => by
    cases e
    exact ⟨fun _ h => h, fun _ _ h => by cases h⟩
  | (j0, β0) :: G, L, L', e => by
    unfold lockU at e
    split at e
    · split at e
      · rename_i a hg
        split at e
        · rename_i hrw
          split at e
          · rename_i hany
            obtain ⟨h1, h2⟩ := lockU_ok e
            refine ⟨h1, fun j β hm hu => ?_⟩
            rcases List.mem_cons.1 hm with h | hm
            · cases h
              exact ⟨a, hg, fun _ => h1 _ (any_mem hany)⟩
            · exact h2 j β hm hu
          · obtain ⟨h1, h2⟩ := lockU_ok e
            refine ⟨fun β hβ => h1 β (List.mem_cons_of_mem _ hβ), fun j β hm hu => ?_⟩
            rcases List.mem_cons.1 hm with h | hm
            · cases h
              exact ⟨a, hg, fun _ => h1 _ List.mem_cons_self⟩
            · exact h2 j β hm hu
        · rename_i hrw
          obtain ⟨h1, h2⟩ := lockU_ok e
          refine ⟨h1, fun j β hm hu => ?_⟩
          rcases List.mem_cons.1 hm with h | hm
          · cases h
            exact ⟨a, hg, fun h => by rw [hrw] at h; cases h⟩
          · exact h2 j β hm hu
      · cases e
    · rename_i hun
      obtain ⟨h1, h2⟩ := lockU_ok e
      refine ⟨h1, fun j β hm hu => ?_⟩
      rcases List.mem_cons.1 hm with h | hm
      · cases h
        rw [hun] at hu
        cases hu
      · exact h2 j β hm hu
end
end
end Go.Ev
namespace Go.Ev
open Go Go.Sl
noncomputable section
section
variable {P : Program} {ops : Array Oper} {ms : List Nat} {Q : Act → World → Prop}
abbrev KK := (Nat → World → Prop) → (World → Prop) → Act → Prop
/-- one operation, and what comes behind it -/
def StepU (P : Program) (ops : Array Oper) (ms : List Nat) (t : Tg) (k : KK) : KK := fun C M a =>
  (∃ v, quietV P ops (C t.i) t a v ∧ k C M (a.put t.o.dst v)) ∨
  (acts ops t a ∧ ∀ w, M w → yields P t.o a w (fun v w' => ∃ (M' : World → Prop) (C' : Nat → World → Prop), M' w' ∧ (∀ j, un ms t.i j = true → C' j = C j) ∧ (∀ w, M' w → ∀ j, C' j w) ∧ k C' M' (a.put t.o.dst v)))
def wpU (P : Program) (ops : Array Oper) (ms : List Nat) : List Tg → KK → KK
  | [], k => k
  | t :: l, k => StepU P ops ms t (wpU P ops ms l k)
def finU (Q : Act → World → Prop) : KK := fun _ M a => ∀ w, M w → Q a w
theorem wpU_app (l l' : List Tg) (k : KK) : wpU P ops ms (l ++ l') k = wpU P ops ms l (wpU P ops ms l' k) := by
  induction l with
  | nil => rfl
  | cons t l ih => rw [List.cons_append, wpU, wpU, ih]
theorem StepU.swap {x y : Tg} {k : KK} {C : Nat → World → Prop} {M : World → Prop} {a : Act} (hx : ∀ cs b, x.o.op ≠ .select cs b) (hy : ∀ cs b, y.o.op ≠ .select cs b)
    (hsw : SwU ops ms x y) (hM : ∀ w, M w → ∀ j, C j w) (hw : ∃ w, M w)
    (h : StepU P ops ms x (StepU P ops ms y k) C M a) : StepU P ops ms y (StepU P ops ms x k) C M a := by
  obtain ⟨h1, h2, h3⟩ := Oper.apart_spec hsw.apart
  rcases h with ⟨v, hv, h⟩ | ⟨hax, h⟩
  · rcases h with ⟨u, hu, h⟩ | ⟨hay, h⟩
    · refine .inl ⟨u, (quietV_put hy h1).1 hu, .inl ⟨v, (quietV_put hx h3).2 hv, ?_⟩⟩
      rw [← Act.put_comm a v u h2]; exact h
    · refine .inr ⟨(acts_put h1).1 hay, fun w hMw => Yr.mono ?_ ((yields_put hy h1).1 (h w hMw))⟩
      rintro u w' ⟨M', C', hM', hk, hMC, hr⟩
      exact ⟨M', C', hM', hk, hMC, .inl ⟨v, quietV_U (fun _ => hk _ hsw.nc) ((quietV_put hx h3).2 hv), by rw [← Act.put_comm a v u h2]; exact hr⟩⟩
  · obtain ⟨w0, hw0⟩ := hw
    obtain ⟨v0, w0', M0, C0, hM0, hk0, hMC0, h0⟩ := (h w0 hw0).ex
    have hyq : ∃ u, quietV P ops (C y.i) y a u := by
      rcases h0 with ⟨u, hu, _⟩ | ⟨hay, _⟩
      · exact ⟨u, quietV_U (fun _ => (hk0 _ hsw.cn).symm) ((quietV_put hy h1).1 hu)⟩
      · exact absurd ⟨hax.2, hay.2⟩ hsw.ne
    obtain ⟨u, hu⟩ := hyq
    refine .inl ⟨u, hu, .inr ⟨(acts_put h3).2 hax, fun w hMw => Yr.mono ?_ ((yields_put hx h3).2 (h w hMw))⟩⟩
    rintro v w' ⟨M', C', hM', hk, hMC, hr⟩
    rcases hr with ⟨u', hu', hr⟩ | ⟨hay, _⟩
    · have hu2 : quietV P ops (C y.i) y a u' := quietV_U (fun _ => (hk _ hsw.cn).symm) ((quietV_put hy h1).1 hu')
      obtain rfl : u = u' := quietV_det (w := w) (fun _ => hM w hMw _) hu hu2
      refine ⟨M', C', hM', hk, hMC, ?_⟩
      rw [← Act.put_comm a v u h2]; exact hr
    · exact absurd ⟨hax.2, hay.2⟩ hsw.ne
theorem StepU.push {x : Tg} {k k' : KK} {C : Nat → World → Prop} {M : World → Prop} {a : Act} (hM : ∀ w, M w → ∀ j, C j w) (hw : ∃ w, M w)
    (hr : ∀ (C' : Nat → World → Prop) (M' : World → Prop) (a' : Act), (∀ w, M' w → ∀ j, C' j w) → (∃ w, M' w) → k C' M' a' → k' C' M' a')
    (h : StepU P ops ms x k C M a) : StepU P ops ms x k' C M a := by
  rcases h with ⟨v, hv, h⟩ | ⟨hax, h⟩
  · exact .inl ⟨v, hv, hr C M _ hM hw h⟩
  · refine .inr ⟨hax, fun w hMw => Yr.mono ?_ (h w hMw)⟩
    rintro v w' ⟨M', C', hM', hk, hMC, h'⟩
    exact ⟨M', C', hM', hk, hMC, hr C' M' _ hMC ⟨w', hM'⟩ h'⟩
theorem wpU_push {k k' : KK} (hr : ∀ (C' : Nat → World → Prop) (M' : World → Prop) (a' : Act), (∀ w, M' w → ∀ j, C' j w) → (∃ w, M' w) → k C' M' a' → k' C' M' a') :
    ∀ (l : List Tg) (C : Nat → World → Prop) (M : World → Prop) (a : Act), (∀ w, M w → ∀ j, C j w) → (∃ w, M w) → wpU P ops ms l k C M a → wpU P ops ms l k' C M a
  | [], C, M, a, hM, hw, h => hr C M a hM hw h
  | _ :: l, _, _, _, hM, hw, h => StepU.push hM hw (wpU_push hr l) h
/-- an operation comes ahead of those that it leaves alone -/
theorem wpU_front {i : Tg} {k : KK} (hi : ∀ cs b, i.o.op ≠ .select cs b) : ∀ (l : List Tg) (C : Nat → World → Prop) (M : World → Prop) (a : Act), (∀ t ∈ l, ∀ cs b, t.o.op ≠ .select cs b) → (∀ x ∈ l, SwU ops ms x i) →
    (∀ w, M w → ∀ j, C j w) → (∃ w, M w) → wpU P ops ms l (StepU P ops ms i k) C M a → StepU P ops ms i (wpU P ops ms l k) C M a
  | [], _, _, _, _, _, _, _, h => h
  | x :: l, C, M, a, hns, hsw, hM, hw, h => by
    have h' : StepU P ops ms x (StepU P ops ms i (wpU P ops ms l k)) C M a := StepU.push hM hw (fun C' M' a' hM' hw' hr => wpU_front hi l C' M' a' (fun t ht => hns t (List.mem_cons_of_mem _ ht)) (fun y hy => hsw y (List.mem_cons_of_mem _ hy)) hM' hw' hr) h
    exact StepU.swap (hns x List.mem_cons_self) hi (hsw x List.mem_cons_self) hM hw h'
/-- a quiet operation of which the value is known -/
theorem StepU.quiet {y : Tg} {k : KK} {C : Nat → World → Prop} {M : World → Prop} {a : Act} {u : Value} (hM : ∀ w, M w → ∀ j, C j w) (hw : ∃ w, M w) (hu : quietV P ops (C y.i) y a u) (h : StepU P ops ms y k C M a) : k C M (a.put y.o.dst u) := by
  obtain ⟨w, hw⟩ := hw
  rcases h with ⟨u', hu', h⟩ | ⟨ha, _⟩
  · obtain rfl := quietV_det (w := w) (fun _ => hM w hw _) hu hu'
    exact h
  · rcases hu with ⟨_, h1, _⟩ | ⟨h1, _⟩
    · exact absurd ha.2 h1
    · rw [ha.1] at h1; cases h1
/-! ### the new block -/
/-- 'f' and another one leave each other alone -/
structure FlU (ops : Array Oper) (ms : List Nat) (f t : Tg) : Prop where
  ns : ∀ cs b, t.o.op ≠ .select cs b
  g : t.o.guard = none
  a1 : t.o.apart ops f.o = true
  a2 : f.o.apart ops t.o = true
  u : un ms f.i t.i = true
theorem FlU.sw1 {f t : Tg} (h : FlU ops ms f t) (hne : t.k ≠ .e) : SwU ops ms t f := ⟨h.a1, fun h' => hne h'.1, h.u, by rw [un_comm]; exact h.u⟩
theorem FlU.sw2 {f t : Tg} (h : FlU ops ms f t) (hne : t.k ≠ .e) : SwU ops ms f t := ⟨h.a2, fun h' => hne h'.2, by rw [un_comm]; exact h.u, h.u⟩
/-- the operations of a list are walked; 'f' may come ahead of any of them -/
def wpL (P : Program) (ops : Array Oper) (ms : List Nat) (Q : Act → World → Prop) (f : Tg) (l2 : List Tg) : List Tg → KK
  | [] => StepU P ops ms f (wpU P ops ms l2 (finU Q))
  | t :: l => fun C M a => StepU P ops ms f (wpU P ops ms (t :: (l ++ l2)) (finU Q)) C M a ∧ StepU P ops ms t (wpL P ops ms Q f l2 l) C M a
theorem wpL_now {f : Tg} {l2 : List Tg} : ∀ {l : List Tg} {C : Nat → World → Prop} {M : World → Prop} {a : Act}, wpL P ops ms Q f l2 l C M a → StepU P ops ms f (wpU P ops ms (l ++ l2) (finU Q)) C M a
  | [], _, _, _, h => h
  | _ :: _, _, _, _, h => h.1
theorem wpL_swap {f x y : Tg} {l2 rest : List Tg} {C : Nat → World → Prop} {M : World → Prop} {a : Act} (hfs : ∀ cs b, f.o.op ≠ .select cs b) (hx : FlU ops ms f x) (hy : FlU ops ms f y) (hsw : SwU ops ms x y)
    (hM : ∀ w, M w → ∀ j, C j w) (hw : ∃ w, M w) (h : wpL P ops ms Q f l2 (x :: y :: rest) C M a) : wpL P ops ms Q f l2 (y :: x :: rest) C M a := by
  obtain ⟨h1, h2, h3⟩ := Oper.apart_spec hsw.apart
  have now : StepU P ops ms f (wpU P ops ms (y :: x :: (rest ++ l2)) (finU Q)) C M a := StepU.push hM hw (fun C' M' a' hM' hw' hr => StepU.swap hx.ns hy.ns hsw hM' hw' hr) h.1
  refine ⟨now, ?_⟩
  have past : ∀ {u : Value}, quietV P ops (C y.i) y a u → StepU P ops ms f (wpU P ops ms (x :: (rest ++ l2)) (finU Q)) C M (a.put y.o.dst u) := fun {u} hu =>
    StepU.quiet hM hw hu (StepU.swap hfs hy.ns (hy.sw2 (quiet_ne hy.g hu)) hM hw now)
  rcases h.2 with ⟨v, hv, hA⟩ | ⟨hax, hB⟩
  · rcases hA.2 with ⟨u, hu, hr⟩ | ⟨hay, hr⟩
    · have hu' := (quietV_put hy.ns h1).1 hu
      refine .inl ⟨u, hu', past hu', .inl ⟨v, (quietV_put hx.ns h3).2 hv, ?_⟩⟩
      rw [← Act.put_comm a v u h2]; exact hr
    · refine .inr ⟨(acts_put h1).1 hay, fun w hMw => Yr.mono ?_ ((yields_put hy.ns h1).1 (hr w hMw))⟩
      rintro u w' ⟨M', C', hM', hk, hMC, hr'⟩
      have hv' : quietV P ops (C' x.i) x (a.put y.o.dst u) v := quietV_U (fun _ => hk _ hsw.nc) ((quietV_put (d := y.o.dst) (u := u) hx.ns h3).2 hv)
      rw [Act.put_comm a v u h2] at hr'
      exact ⟨M', C', hM', hk, hMC, StepU.swap hx.ns hfs (hx.sw1 (quiet_ne hx.g hv)) hMC ⟨w', hM'⟩ (.inl ⟨v, hv', wpL_now hr'⟩), .inl ⟨v, hv', hr'⟩⟩
  · obtain ⟨w0, hw0⟩ := hw
    obtain ⟨v0, w0', M0, C0, hM0, hk0, hMC0, h0⟩ := (hB w0 hw0).ex
    have hyq : ∃ u, quietV P ops (C y.i) y a u := by
      rcases h0.2 with ⟨u, hu, _⟩ | ⟨hay, _⟩
      · exact ⟨u, quietV_U (fun _ => (hk0 _ hsw.cn).symm) ((quietV_put hy.ns h1).1 hu)⟩
      · exact absurd ⟨hax.2, hay.2⟩ hsw.ne
    obtain ⟨u, hu⟩ := hyq
    refine .inl ⟨u, hu, past hu, .inr ⟨(acts_put h3).2 hax, fun w hMw => Yr.mono ?_ ((yields_put hx.ns h3).2 (hB w hMw))⟩⟩
    rintro v w' ⟨M', C', hM', hk, hMC, hr⟩
    rcases hr.2 with ⟨u', hu', hr⟩ | ⟨hay, _⟩
    · have hu2 : quietV P ops (C y.i) y a u' := quietV_U (fun _ => (hk _ hsw.cn).symm) ((quietV_put hy.ns h1).1 hu')
      obtain rfl : u = u' := quietV_det (w := w) (fun _ => hM w hMw _) hu hu2
      refine ⟨M', C', hM', hk, hMC, ?_⟩
      rw [← Act.put_comm a v u h2]; exact hr
    · exact absurd ⟨hax.2, hay.2⟩ hsw.ne
theorem wpL_push {f x : Tg} {l2 r r' : List Tg} {C : Nat → World → Prop} {M : World → Prop} {a : Act} (hM : ∀ w, M w → ∀ j, C j w) (hw : ∃ w, M w)
    (hr1 : ∀ (C' : Nat → World → Prop) (M' : World → Prop) (a' : Act), (∀ w, M' w → ∀ j, C' j w) → (∃ w, M' w) → wpU P ops ms (r ++ l2) (finU Q) C' M' a' → wpU P ops ms (r' ++ l2) (finU Q) C' M' a')
    (hr2 : ∀ (C' : Nat → World → Prop) (M' : World → Prop) (a' : Act), (∀ w, M' w → ∀ j, C' j w) → (∃ w, M' w) → wpL P ops ms Q f l2 r C' M' a' → wpL P ops ms Q f l2 r' C' M' a')
    (h : wpL P ops ms Q f l2 (x :: r) C M a) : wpL P ops ms Q f l2 (x :: r') C M a :=
  ⟨StepU.push hM hw (fun _ _ _ hM' hw' hr => StepU.push hM' hw' hr1 hr) h.1, StepU.push hM hw hr2 h.2⟩
theorem wpL_front {f i : Tg} {l2 l3 : List Tg} (hfs : ∀ cs b, f.o.op ≠ .select cs b) : ∀ (l1 : List Tg) (C : Nat → World → Prop) (M : World → Prop) (a : Act), (∀ t ∈ l1 ++ i :: l3, FlU ops ms f t) → (∀ x ∈ l1, SwU ops ms x i) →
    (∀ w, M w → ∀ j, C j w) → (∃ w, M w) → wpL P ops ms Q f l2 (l1 ++ i :: l3) C M a → wpL P ops ms Q f l2 (i :: (l1 ++ l3)) C M a
  | [], _, _, _, _, _, _, _, h => h
  | x :: l1, C, M, a, hfl, hsw, hM, hw, h => by
    have hx := hfl x (by simp)
    have hi := hfl i (by simp)
    have h' : wpL P ops ms Q f l2 (x :: (i :: (l1 ++ l3))) C M a := by
      refine wpL_push hM hw (fun C' M' a' hM' hw' hr => ?_) (fun C' M' a' hM' hw' hr => ?_) h
      · have hr : wpU P ops ms ((l1 ++ i :: l3) ++ l2) (finU Q) C' M' a' := hr
        rw [List.append_assoc, wpU_app, List.cons_append, wpU] at hr
        rw [List.cons_append, wpU, List.append_assoc, wpU_app]
        exact wpU_front hi.ns l1 C' M' a' (fun t ht => (hfl t (by simp [ht])).ns) (fun y hy => hsw y (List.mem_cons_of_mem _ hy)) hM' hw' hr
      · exact wpL_front hfs l1 C' M' a' (fun t ht => hfl t (List.mem_cons_of_mem _ ht)) (fun y hy => hsw y (List.mem_cons_of_mem _ hy)) hM' hw' hr
    exact wpL_swap hfs hx hi (hsw x (by simp)) hM hw h'
/-! ### any order -/
/-- what is still to be done -/
structure Pend (ops : Array Oper) (listed : Array Bool) (l : List Tg) : Prop where
  sz : listed.size = ops.size
  cl : Closed ops listed
  ho : ∀ t ∈ l, ops[t.i]? = some t.o
  nd : (l.map (·.i)).Nodup
  hl : ∀ j, j < ops.size → (listed.getD j true = false ↔ j ∈ l.map (·.i))
  tp : l.Pairwise (fun x y => ∀ e ∈ x.o.after, Region.binds .any e = true → e.on ≠ y.i)
theorem Pend.step {listed : Array Bool} {l l' : List Tg} {t : Tg} (h : Pend ops listed l) (ht : t ∈ l) (hrd : t.i ∈ Region.ready .any ops listed) (hsub : l'.Sublist l) (hp : l.Perm (t :: l')) : Pend ops (listed.setIfInBounds t.i true) l' := by
  obtain ⟨h0, o, hoj, hall⟩ := mem_ready.1 hrd
  have hot : ops[t.i]? = some t.o := h.ho t ht
  obtain rfl : o = t.o := by rw [hoj] at hot; cases hot; rfl
  have htn : t.i ∉ l'.map (·.i) := by
    have := (hp.map (·.i)).nodup_iff.1 h.nd
    rw [List.map_cons, List.nodup_cons] at this
    exact this.1
  have hcov : ∀ u, u ∈ l → u = t ∨ u ∈ l' := fun u hu => List.mem_cons.1 (hp.mem_iff.1 hu)
  refine ⟨by simpa using h.sz, fun j o ho' hj' e he hb => ?_, fun u hu => h.ho u (hsub.mem hu), h.nd.sublist (hsub.map _), fun j hjs => ?_, h.tp.sublist hsub⟩
  · by_cases hji : t.i = j
    · subst hji
      rw [hoj] at ho'; cases ho'
      exact getD_set_true (hall e he hb)
    · rw [getD_set_ne true hji] at hj'
      exact getD_set_true (h.cl j o ho' hj' e he hb)
  · by_cases hji : t.i = j
    · subst hji
      have : (listed.setIfInBounds t.i true).getD t.i true = true := by
        simp [Array.getD, h.sz, hjs]
      rw [this]
      exact ⟨fun h => (by cases h), fun h => absurd h htn⟩
    · rw [getD_set_ne true hji, h.hl j hjs]
      constructor
      · intro hm
        obtain ⟨u, hu, rfl⟩ := List.mem_map.1 hm
        rcases hcov u hu with rfl | hu'
        · exact absurd rfl hji
        · exact List.mem_map.2 ⟨u, hu', rfl⟩
      · intro hm
        obtain ⟨u, hu, rfl⟩ := List.mem_map.1 hm
        exact List.mem_map.2 ⟨u, hsub.mem hu, rfl⟩
def SoundU (ops : Array Oper) (ms : List Nat) : Prop := ∀ i o, ops[i]? = some o → (∀ e ∈ o.after, Region.binds .any e = true → e.on < i) ∧ ∀ x, anc ms i x = true → ∃ e ∈ o.after, Region.binds .any e = true ∧ (e.on = x ∨ anc ms e.on x = true)
theorem Pend.first {listed : Array Bool} {t : Tg} {l : List Tg} (h : Pend ops listed (t :: l)) (hs : SoundU ops ms) : t.i ∈ Region.ready .any ops listed := by
  have hot := h.ho t (by simp)
  have htlt : t.i < ops.size := (Array.getElem?_eq_some_iff.1 hot).1
  refine mem_ready.2 ⟨(h.hl t.i htlt).2 (by simp), t.o, hot, fun e he hb => ?_⟩
  have he1 := (hs t.i t.o hot).1 e he hb
  have hnot : ¬ listed.getD e.on true = false := fun hf => by
    have hm := (h.hl e.on (by omega)).1 hf
    simp only [List.map_cons, List.mem_cons] at hm
    rcases hm with hm | hm
    · omega
    · obtain ⟨u, hu, hue⟩ := List.mem_map.1 hm
      have := h.tp
      rw [List.pairwise_cons] at this
      exact this.1 u hu e he hb hue.symm
  have hlt3 : e.on < listed.size := by rw [h.sz]; omega
  simp only [Array.getD, hlt3, dite_true] at hnot ⊢
  simpa using hnot
theorem Pend.behind {listed : Array Bool} {l : List Tg} {t u : Tg} (h : Pend ops listed l) (hs : SoundU ops ms) (ht : t ∈ l) (hu : u ∈ l) (hrd : t.i ∈ Region.ready .any ops listed) (ha : anc ms t.i u.i = true) : False := by
  obtain ⟨h0, o, hoj, hall⟩ := mem_ready.1 hrd
  have := anc_listed hs h.sz h.cl (t.i + 1) t.i (by omega) o hoj hall u.i ha
  have huo := h.ho u hu
  have hul : u.i < ops.size := (Array.getElem?_eq_some_iff.1 huo).1
  have hf := (h.hl u.i hul).2 (List.mem_map.2 ⟨u, hu, rfl⟩)
  have hlt3 : u.i < listed.size := by rw [h.sz]; omega
  simp only [Array.getD, hlt3, dite_true] at hf this
  rw [hf] at this; cases this
theorem StepU.run {rd : Option Nat} {t : Tg} {k : KK} {C : Nat → World → Prop} {M : World → Prop} {a : Act} {w : World} {n : Nat} {listed : Array Bool} {Q' : Post} (hot : ops[t.i]? = some t.o) (hM : ∀ w, M w → ∀ j, C j w) (hw : M w) (h : StepU P ops ms t k C M a)
    (next : ∀ (C' : Nat → World → Prop) (M' : World → Prop) (a' : Act) (w' : World), (∀ w, M' w → ∀ j, C' j w) → M' w' → k C' M' a' → wpAnyIn (fenceR rd) 0 P .any ops Q' n (listed.setIfInBounds t.i true) a' w') :
    wpOpIn (fenceR rd) 0 P ops Q' t.i (wpAnyIn (fenceR rd) 0 P .any ops Q' n (listed.setIfInBounds t.i true)) a w := by
  unfold wpOpIn
  rw [hot]
  simp only []
  rcases h with ⟨v, hv, hr⟩ | ⟨hat, hr⟩
  · rcases hv with ⟨hwant, hne, hrun⟩ | ⟨hwant, rfl⟩
    · rw [if_pos hwant]
      refine wpIn_of_yields (yields_of_run (R := fun u w' => u = v ∧ w' = w) (hrun w (fun _ => hM w hw _)) ⟨rfl, rfl⟩) ?_
      rintro u w' ⟨rfl, rfl⟩
      exact next C M _ w' hM hw hr
    · rw [if_neg (by simp [hwant])]
      exact ⟨fun _ _ => trivial, next C M _ w hM hw hr⟩
  · rw [if_pos hat.1]
    refine wpIn_of_yields (hr w hw) ?_
    rintro v w' ⟨M', C', hM', hk, hMC, h'⟩
    exact next C' M' _ w' hMC hM' h'
theorem len_step {l l' : List Tg} {t : Tg} {n : Nat} (hn : l.length = n + 1) (hp : l.Perm (t :: l')) : l'.length = n := by
  have := hp.length_eq
  rw [List.length_cons] at this
  omega
/-- all orders from one order -/
theorem wpAny_of_T {rd : Option Nat} {Q' : Post} (hq : ∀ a w, Q a w → Q' .normal a w) (hns : ∀ (j : Nat) (o : Oper) cs b, ops[j]? = some o → o.op ≠ .select cs b) (hs : SoundU ops ms) :
    ∀ (n : Nat) (l : List Tg) (listed : Array Bool) (C : Nat → World → Prop) (M : World → Prop) (a : Act) (w : World), l.length = n → Pend ops listed l → l.Pairwise (fun x y => anc ms y.i x.i = true ∨ SwU ops ms x y) → (∀ w, M w → ∀ j, C j w) → M w → wpU P ops ms l (finU Q) C M a → wpAnyIn (fenceR rd) 0 P .any ops Q' n listed a w := by
  intro n
  induction n with
  | zero =>
    intro l listed C M a w hn hp hpw hM hw h
    obtain rfl := List.eq_nil_of_length_eq_zero hn
    refine ⟨?_, hq _ _ (h w hw)⟩
    refine List.eq_nil_iff_forall_not_mem.2 fun j hj => ?_
    obtain ⟨h0, o, hoj, _⟩ := mem_ready.1 hj
    have := (hp.hl j (Array.getElem?_eq_some_iff.1 hoj).1).1 h0
    simp at this
  | succ n ih =>
    intro l listed C M a w hn hp hpw hM hw h
    refine ⟨fun hr => ?_, fun j hj => ?_⟩
    · exfalso
      obtain ⟨t, l', rfl⟩ : ∃ t l', l = t :: l' := by
        cases l with
        | nil => simp at hn
        | cons t l' => exact ⟨t, l', rfl⟩
      have := hp.first hs
      rw [hr] at this
      cases this
    · obtain ⟨h0, o, hoj, _⟩ := mem_ready.1 hj
      obtain ⟨t, ht, rfl⟩ := List.mem_map.1 ((hp.hl j (Array.getElem?_eq_some_iff.1 hoj).1).1 h0)
      obtain ⟨l1, l2, rfl⟩ := List.append_of_mem ht
      have hpw' := hpw
      rw [List.pairwise_append] at hpw
      have hsw : ∀ x ∈ l1, SwU ops ms x t := fun x hx => (hpw.2.2 x hx t (by simp)).resolve_left (fun ha => (hp.behind hs ht (by simp [hx]) hj ha))
      have hns' : ∀ u ∈ l1 ++ t :: l2, ∀ cs b, u.o.op ≠ .select cs b := fun u hu cs b => hns u.i u.o cs b (hp.ho u hu)
      rw [wpU_app, wpU] at h
      have hf := wpU_front (hns' t (by simp)) l1 C M a (fun u hu => hns' u (by simp [hu])) hsw hM ⟨w, hw⟩ h
      rw [← wpU_app] at hf
      have hsub : (l1 ++ l2).Sublist (l1 ++ t :: l2) := (List.Sublist.refl l1).append (List.sublist_cons_self t l2)
      have hperm : (l1 ++ t :: l2).Perm (t :: (l1 ++ l2)) := List.perm_middle
      exact hf.run (hp.ho t ht) hM hw (fun C' M' a' w' hM' hw' h' => ih (l1 ++ l2) _ C' M' a' w' (len_step hn hperm) (hp.step ht hj hsub hperm) (hpw'.sublist hsub) hM' hw' h')
theorem wpAny_of_F {rd : Option Nat} {Q' : Post} {f : Tg} {l2 : List Tg} (hq : ∀ a w, Q a w → Q' .normal a w) (hns : ∀ (j : Nat) (o : Oper) cs b, ops[j]? = some o → o.op ≠ .select cs b) (hs : SoundU ops ms)
    (hl2 : ∀ z ∈ l2, anc ms z.i f.i = true) :
    ∀ (n : Nat) (U L : List Tg) (listed : Array Bool) (C : Nat → World → Prop) (M : World → Prop) (a : Act) (w : World), (U ++ (L ++ f :: l2)).length = n → Pend ops listed (U ++ (L ++ f :: l2)) → (U ++ (L ++ l2)).Pairwise (fun x y => anc ms y.i x.i = true ∨ SwU ops ms x y) →
      (∀ x ∈ U, anc ms f.i x.i = true ∨ SwU ops ms x f) → (∀ t ∈ L, FlU ops ms f t) → (∀ w, M w → ∀ j, C j w) → M w → wpU P ops ms U (wpL P ops ms Q f l2 L) C M a → wpAnyIn (fenceR rd) 0 P .any ops Q' n listed a w := by
  intro n
  induction n with
  | zero =>
    intro U L listed C M a w hn
    simp at hn
  | succ n ih =>
    intro U L listed C M a w hn hp hpw hU hL hM hw h
    have hfm : f ∈ U ++ (L ++ f :: l2) := by simp
    have hns' : ∀ u ∈ U ++ (L ++ f :: l2), ∀ cs b, u.o.op ≠ .select cs b := fun u hu cs b => hns u.i u.o cs b (hp.ho u hu)
    have hfs := hns' f hfm
    refine ⟨fun hr => ?_, fun j hj => ?_⟩
    · exfalso
      obtain ⟨t, l', hl'⟩ : ∃ t l', U ++ (L ++ f :: l2) = t :: l' := by
        cases hU : U ++ (L ++ f :: l2) with
        | nil => rw [hU] at hn; simp at hn
        | cons t l' => exact ⟨t, l', rfl⟩
      rw [hl'] at hp
      have := hp.first hs
      rw [hr] at this
      cases this
    · obtain ⟨h0, o, hoj, _⟩ := mem_ready.1 hj
      obtain ⟨t, ht, rfl⟩ := List.mem_map.1 ((hp.hl j (Array.getElem?_eq_some_iff.1 hoj).1).1 h0)
      rcases List.mem_append.1 ht with htU | htL
      · obtain ⟨u1, u2, rfl⟩ := List.append_of_mem htU
        have hpw' := hpw
        rw [List.append_assoc, List.pairwise_append] at hpw
        have hsw : ∀ x ∈ u1, SwU ops ms x t := fun x hx => (hpw.2.2 x hx t (by simp)).resolve_left (fun ha => (hp.behind hs ht (by simp [hx]) hj ha))
        rw [wpU_app, wpU] at h
        have hf := wpU_front (hns' t ht) u1 C M a (fun u hu => hns' u (by simp [hu])) hsw hM ⟨w, hw⟩ h
        rw [← wpU_app] at hf
        have hsub0 : ∀ (r : List Tg), ((u1 ++ u2) ++ r).Sublist ((u1 ++ t :: u2) ++ r) := fun r => ((List.Sublist.refl u1).append (List.sublist_cons_self t u2)).append (List.Sublist.refl r)
        have hperm : ((u1 ++ t :: u2) ++ (L ++ f :: l2)).Perm (t :: ((u1 ++ u2) ++ (L ++ f :: l2))) := by
          rw [List.append_assoc, List.append_assoc]; exact List.perm_middle
        exact hf.run (hp.ho t ht) hM hw (fun C' M' a' w' hM' hw' h' => ih (u1 ++ u2) L _ C' M' a' w' (len_step hn hperm) (hp.step ht hj (hsub0 _) hperm) (hpw'.sublist (hsub0 _)) (fun x hx => hU x (by
          rcases List.mem_append.1 hx with hx | hx <;> simp [hx])) hL hM' hw' h')
      · rcases List.mem_append.1 htL with htL | htf
        · obtain ⟨l1, l3, rfl⟩ := List.append_of_mem htL
          have hpw' := hpw
          rw [List.pairwise_append] at hpw
          have hsw0 : ∀ x ∈ U, SwU ops ms x t := fun x hx => (hpw.2.2 x hx t (by simp)).resolve_left (fun ha => (hp.behind hs ht (by simp [hx]) hj ha))
          have hpw2 := hpw.2.1
          rw [List.append_assoc, List.pairwise_append] at hpw2
          have hsw : ∀ x ∈ l1, SwU ops ms x t := fun x hx => (hpw2.2.2 x hx t (by simp)).resolve_left (fun ha => (hp.behind hs ht (by simp [hx]) hj ha))
          have h1 : wpU P ops ms U (StepU P ops ms t (wpL P ops ms Q f l2 (l1 ++ l3))) C M a := wpU_push (fun C' M' a' hM' hw' hr => (wpL_front hfs l1 C' M' a' hL hsw hM' hw' hr).2) U C M a hM ⟨w, hw⟩ h
          have hf := wpU_front (hns' t ht) U C M a (fun u hu => hns' u (by simp [hu])) hsw0 hM ⟨w, hw⟩ h1
          have hsub0 : ∀ (r : List Tg), (U ++ ((l1 ++ l3) ++ r)).Sublist (U ++ ((l1 ++ t :: l3) ++ r)) := fun r => (List.Sublist.refl U).append (((List.Sublist.refl l1).append (List.sublist_cons_self t l3)).append (List.Sublist.refl r))
          have hperm : (U ++ ((l1 ++ t :: l3) ++ f :: l2)).Perm (t :: (U ++ ((l1 ++ l3) ++ f :: l2))) := by
            have : U ++ ((l1 ++ t :: l3) ++ f :: l2) = (U ++ l1) ++ t :: (l3 ++ f :: l2) := by simp
            rw [this]
            refine List.perm_middle.trans (List.Perm.cons t ?_)
            rw [show (U ++ l1) ++ (l3 ++ f :: l2) = U ++ ((l1 ++ l3) ++ f :: l2) by simp]
          exact hf.run (hp.ho t ht) hM hw (fun C' M' a' w' hM' hw' h' => ih U (l1 ++ l3) _ C' M' a' w' (len_step hn hperm) (hp.step ht hj (hsub0 _) hperm) (hpw'.sublist (hsub0 _)) hU (fun u hu => hL u (by
            rcases List.mem_append.1 hu with hu | hu <;> simp [hu])) hM' hw' h')
        · rcases List.mem_cons.1 htf with rfl | htl2
          · have h1 : wpU P ops ms U (StepU P ops ms t (wpU P ops ms (L ++ l2) (finU Q))) C M a := wpU_push (fun C' M' a' hM' hw' hr => wpL_now hr) U C M a hM ⟨w, hw⟩ h
            have hswU : ∀ x ∈ U, SwU ops ms x t := fun x hx => (hU x hx).resolve_left (fun ha => (hp.behind hs ht (by simp [hx]) hj ha))
            have hf := wpU_front hfs U C M a (fun u hu => hns' u (by simp [hu])) hswU hM ⟨w, hw⟩ h1
            rw [← wpU_app] at hf
            have hsub : (U ++ (L ++ l2)).Sublist (U ++ (L ++ t :: l2)) := (List.Sublist.refl U).append ((List.Sublist.refl L).append (List.sublist_cons_self t l2))
            have hperm : (U ++ (L ++ t :: l2)).Perm (t :: (U ++ (L ++ l2))) := by
              rw [← List.append_assoc, ← List.append_assoc]; exact List.perm_middle
            exact hf.run (hp.ho t ht) hM hw (fun C' M' a' w' hM' hw' h' => wpAny_of_T hq hns hs n (U ++ (L ++ l2)) _ C' M' a' w' (len_step hn hperm) (hp.step ht hj hsub hperm) hpw hM' hw' h')
          · exact (hp.behind hs ht hfm hj (hl2 t htl2)).elim
theorem mix_wpU : ∀ (l : List Tg) (C : Nat → World → Prop) (M : World → Prop) (a : Act), wpU P ops ms l (finU Q) C M a → wpMixU P ops ms Q l C M a
  | [], _, _, _, h => h
  | t :: l, C, M, a, h => by
    rcases h with ⟨v, hv, h⟩ | ⟨ha, h⟩
    · exact .inl ⟨v, hv, mix_wpU l C M _ h⟩
    · refine .inr ⟨ha, fun w hw => Yr.mono ?_ (h w hw)⟩
      rintro v w' ⟨M', C', h1, h2, h3, h4⟩
      exact ⟨M', C', h1, h2, h3, mix_wpU l C' M' _ h4⟩
end
/-! ### from the check -/
def topB (x y : Tg) : Bool := x.o.after.toList.all (fun e => match Region.binds .any e with
  | true => !(Nat.beq e.on y.i)
  | false => true)
theorem topB_spec {x y : Tg} (h : topB x y = true) : ∀ e ∈ x.o.after, Region.binds .any e = true → e.on ≠ y.i := fun e he hb => by
  have := List.all_eq_true.1 h e (Array.mem_toList_iff.2 he)
  rw [hb] at this
  simp only [Bool.not_eq_true'] at this
  exact beq_false this
/-- a region that is taken apart: ahead of the new block, those that it leaves alone, it, those behind it -/
structure FS where
  f : Tg
  U : List Tg
  L : List Tg
  l2 : List Tg
def isSeed (ms : List Nat) (f t : Tg) : Bool := t.k.isE && un ms f.i t.i
/-- whether it is one of the acts that are left alone, or is behind one -/
def inL (ms : List Nat) (f : Tg) (O : List Tg) (t : Tg) : Bool := O.any (fun y => isSeed ms f y && (Nat.beq y.i t.i || anc ms t.i y.i))
def splitFU (ms : List Nat) (T : List Tg) (k : Nat) : Option FS := match T[k]? with
  | some f =>
    let R := T.take k ++ T.drop (k + 1)
    let O := R.filter (fun z => !anc ms z.i f.i)
    some ⟨f, O.filter (fun t => !inL ms f O t), O.filter (inL ms f O), R.filter (fun z => anc ms z.i f.i)⟩
  | none => none
def FS.all (q : FS) : List Tg := q.U ++ (q.L ++ q.f :: q.l2)
theorem splitFU_perm {ms : List Nat} {T : List Tg} {k : Nat} {q : FS} (h : splitFU ms T k = some q) : q.all.Perm T ∧ ∀ z ∈ q.l2, anc ms z.i q.f.i = true := by
  unfold splitFU at h
  split at h
  · rename_i f hf
    cases h
    have hlt := (List.getElem?_eq_some_iff.1 hf).1
    have he := (List.getElem?_eq_some_iff.1 hf).2
    refine ⟨?_, fun z hz => (List.mem_filter.1 hz).2⟩
    have h0 : T.Perm (f :: (T.take k ++ T.drop (k + 1))) := by
      have : T.take k ++ f :: T.drop (k + 1) = T := by rw [← he, ← List.drop_eq_getElem_cons hlt, List.take_append_drop]
      exact (List.Perm.of_eq this.symm).trans List.perm_middle
    refine List.Perm.trans ?_ h0.symm
    unfold FS.all
    dsimp only
    generalize T.take k ++ T.drop (k + 1) = R
    have h1 : (R.filter (fun z => anc ms z.i f.i) ++ R.filter (fun z => !anc ms z.i f.i)).Perm R := List.filter_append_perm _ R
    have h2 := fun O : List Tg => List.filter_append_perm (inL ms f (R.filter (fun z => !anc ms z.i f.i))) O
    have h3 := h2 (R.filter (fun z => !anc ms z.i f.i))
    rw [← List.append_assoc]
    refine List.perm_middle.trans (List.Perm.cons f ?_)
    refine List.Perm.trans ?_ h1
    refine List.perm_append_comm.trans (List.Perm.append_left _ ?_)
    exact List.perm_append_comm.trans h3
  · cases h
def mixFU (l : List Oper) (q : FS) : Bool :=
  Region.noSelect l.toArray && soundB (masks l []) l 0 && pwB (pairU l.toArray (masks l [])) (q.U ++ (q.L ++ q.l2)) && pwB topB q.all && q.U.all (fun x => pairU l.toArray (masks l []) x q.f || anc (masks l []) q.f.i x.i) &&
  q.L.all (fun t => t.o.guard.isNone && (t.o.apart l.toArray q.f.o && (q.f.o.apart l.toArray t.o && un (masks l []) q.f.i t.i)))
theorem wp_region_FU {rd : Option Nat} {P : Program} {C : Nat → World → Prop} {Q' : Post} {l : List Oper} {id : Nat} {a : Act} {w : World} {M : World → Prop} (hm : P.follows .mixedOrders = true) (kf : Op → Kd) {k : Nat} {q : FS} (hq : splitFU (masks l []) (tagsU (fun _ => kf) l) k = some q) (hB : mixFU l q = true)
    (hC : ∀ w, M w → ∀ j, C j w) (hw : M { w with drawn := w.drawn + 1 })
    (h : (∀ t ∈ q.L, FlU l.toArray (masks l []) q.f t) → (∀ cs b, q.f.o.op ≠ .select cs b) → wpU P l.toArray (masks l []) q.U (wpL P l.toArray (masks l []) (fun a w => Q' .normal a w) q.f q.l2 q.L) C M a) : (Code.region id l.toArray true).wpIn (fenceR rd) 0 P Q' a w := by
  simp only [mixFU, Bool.and_eq_true] at hB
  obtain ⟨⟨⟨⟨⟨h1, h2⟩, h3⟩, h4⟩, h5⟩, h6⟩ := hB
  have hs := soundB_spec l 0 h2
  simp only [Nat.zero_add] at hs
  obtain ⟨hp, hl2⟩ := splitFU_perm hq
  have hmem0 : ∀ t ∈ tagsU (fun _ => kf) l, l.toArray[t.i]? = some t.o := fun t ht => by
    have := (tagU_mem l 0 t ht).2
    simpa using this
  have hmem : ∀ t ∈ q.all, l.toArray[t.i]? = some t.o := fun t ht => hmem0 t (hp.mem_iff.1 ht)
  have hidx : (tagsU (fun _ => kf) l).map (·.i) = List.range' 0 l.length := tagU_idx l 0
  have hns : ∀ t ∈ q.all, ∀ cs b, t.o.op ≠ .select cs b := fun t ht cs b => Region.noSelect_spec h1 t.i t.o cs b (hmem t ht)
  have hL : ∀ t ∈ q.L, FlU l.toArray (masks l []) q.f t := fun t ht => by
    have := List.all_eq_true.1 h6 t ht
    simp only [Bool.and_eq_true] at this
    exact ⟨hns t (by simp [FS.all, ht]), by simpa using this.1, this.2.1, this.2.2.1, this.2.2.2⟩
  have hU : ∀ x ∈ q.U, anc (masks l []) q.f.i x.i = true ∨ SwU l.toArray (masks l []) x q.f := fun x hx => by
    have := List.all_eq_true.1 h5 x hx
    rw [Bool.or_eq_true] at this
    rcases this with this | this
    · rcases pairU_spec this with h | h
      · exact .inl h
      · exact .inr h
    · exact .inl this
  have hlen : q.all.length = l.toArray.size := by rw [hp.length_eq]; simp [tagsU, tagU_length]
  have hpend : Pend l.toArray (Array.replicate l.toArray.size false) q.all := ⟨by simp, fun j o ho hj => by
      have := (Array.getElem?_eq_some_iff.1 ho).1
      simp only [List.size_toArray] at this
      simp [Array.getD, this] at hj, hmem, (hp.map (·.i)).nodup_iff.2 (by rw [hidx]; exact List.nodup_range' ..), fun j hj => by
      rw [(hp.map (·.i)).mem_iff, hidx]
      simp only [List.size_toArray] at hj
      simp [Array.getD, hj, List.mem_range'_1], (pwB_spec _ h4).imp fun h => topB_spec h⟩
  refine wpIn_region_any hm ?_
  have key := wpAny_of_F (rd := rd) (P := P) (ops := l.toArray) (Q := fun a w => Q' .normal a w) (ms := masks l []) (Q' := Q') (f := q.f) (l2 := q.l2) (fun _ _ h => h) (fun j o cs b ho => Region.noSelect_spec h1 j o cs b ho) (fun i o ho => hs i o (by simpa using ho)) hl2
    q.all.length q.U q.L (Array.replicate l.toArray.size false) C M a { w with drawn := w.drawn + 1 } rfl hpend ((pwB_spec _ h3).imp fun h => pairU_spec h) hU hL hC hw (h hL (hns _ (by simp [FS.all])))
  rw [hlen] at key
  exact key
end
end Go.Ev
namespace Go.Ev
open Go Go.Sl
noncomputable section
section
variable {x : Cx} {ρ : Ro} {s : AS} {env : Env} {H : HL} {dst : Option Tmp} {ty : TypeId} {pos : String} {aft : Array Edge} {gd : Option (Nat × Bool)} {K : Post}
/-- whether some act is neither ahead of a place nor behind it -/
def hasU (ms : List Nat) : List Nat → Nat → Bool
  | [], _ => false
  | i :: es, j => match un ms i j with
    | true => true
    | false => hasU ms es j
theorem hasU_of {ms : List Nat} {i j : Nat} (hu : un ms i j = true) : ∀ {es : List Nat}, i ∈ es → hasU ms es j = true
  | [], h => by cases h
  | k :: es, h => by
    unfold hasU
    split
    · rfl
    · rename_i hk
      rcases List.mem_cons.1 h with rfl | h
      · rw [hu] at hk; cases hk
      · exact hasU_of hu h
def unO (ms : List Nat) : Option Nat → Nat → Bool
  | none, _ => false
  | some i, j => un ms i j
/-- what a read still to come may look at -/
structure Kj (ρ : Ro) (s : AS) (H : HL) (ms es : List Nat) (G : Gu) (j : Nat) (Kk : HL) : Prop where
  all : hasU ms es j = false → Kk = H
  nd : (Kk.map (·.1)).Nodup
  sub : ∀ p ∈ Kk, p ∈ H
  bw : hasU ms es j = true → ∀ p ∈ Kk, ∃ β pl, (j, β) ∈ G ∧ ρ β = some pl ∧ pl.g = p.1
  fw : hasU ms es j = true → ∀ β a pl o, (j, β) ∈ G → s.heap.get β = some a → ρ β = some pl → (pl.g, o) ∈ H → (pl.g, o) ∈ Kk
open Classical in
def pickU (ρ : Ro) (ms es : List Nat) (G : Gu) (H : HL) (j : Nat) : HL := match hasU ms es j with
  | true => H.filter (fun p => decide (∃ β pl, (j, β) ∈ G ∧ ρ β = some pl ∧ pl.g = p.1))
  | false => H
theorem pickU_ok {ms es : List Nat} {G : Gu} (nd : (H.map (·.1)).Nodup) (j : Nat) : Kj ρ s H ms es G j (pickU ρ ms es G H j) := by
  unfold pickU
  cases hu : hasU ms es j
  · exact ⟨fun _ => rfl, nd, fun _ h => h, fun h => (by rw [hu] at h; cases h), fun h => (by rw [hu] at h; cases h)⟩
  · refine ⟨fun h => (by rw [hu] at h; cases h), nd.sublist (List.filter_sublist.map _), fun p hp => (List.mem_filter.1 hp).1, fun _ p hp => ?_, fun _ β a pl o h1 _ h3 h4 => ?_⟩
    · have := (List.mem_filter.1 hp).2
      simpa using this
    · refine List.mem_filter.2 ⟨h4, ?_⟩
      simp only [decide_eq_true_eq]
      exact ⟨β, pl, h1, h3, rfl⟩
theorem Kj.cc {ms es : List Nat} {G : Gu} {j : Nat} {Kk : HL} (h : Kj ρ s H ms es G j Kk) {w : World} (hw : CC x H w) : CC x Kk w :=
  ⟨⟨h.nd, fun p hp => hw.1.own p (h.sub p hp), hw.1.fr, fun p hp => hw.1.dj p (h.sub p hp)⟩, hw.2⟩
theorem Kj.put {ms es : List Nat} {G : Gu} {j : Nat} {Kk : HL} (h : Kj ρ s H ms es G j Kk) (d : Option Nat) (v : Value) : Kj ρ (putO s d v) H ms es G j Kk := by
  cases d with
  | none => exact h
  | some d => exact ⟨h.all, h.nd, h.sub, h.bw, h.fw⟩
theorem inG_mem {G : Gu} {j β : Nat} (h : inG G j β = true) : (j, β) ∈ G := by
  obtain ⟨q, h1, h2⟩ := List.any_eq_true.1 h
  simp only [Bool.and_eq_true] at h2
  obtain ⟨a, b⟩ := q
  cases beq_true h2.1
  cases beq_true h2.2
  exact h1
theorem Kj.rd {ms es : List Nat} {G : Gu} {j : Nat} {Kk : HL} (h : Kj ρ s H ms es G j Kk) (hre : Re x ρ s env H) {op : Op} {bs : List Nat} {v : Value} (e : rdU x.P s op = some (bs, v)) (hg : hasU ms es j = false ∨ lackU G j bs = none) : ∃ u, VR ρ v u ∧ Rd x env Kk ⟨dst, op, ty, pos, aft, gd⟩ u := by
  refine rdU_ok hre e (fun β hβ a pl o hs hρ hh => ?_)
  cases hr : a.rw
  · rw [hr] at hh
    exact hh
  · rw [hr] at hh
    cases hu : hasU ms es j
    · rw [h.all hu]
      exact hh
    · rcases hg with hg | hg
      · rw [hu] at hg; cases hg
      · exact h.fw hu β a pl o (inG_mem (lackU_none hg β hβ)) hs hρ hh
theorem key_eq {H : HL} (nd : (H.map (·.1)).Nodup) {p q : Nat × Obj} (hp : p ∈ H) (hq : q ∈ H) (e : p.1 = q.1) : p = q := by
  have h1 := find?_of_mem nd hp
  have h2 := find?_of_mem nd hq
  rw [e] at h1
  rw [h1] at h2
  cases h2
  rfl
/-- behind an act that is neither ahead of a read nor behind it, what that read may look at is as it was -/
theorem Kj.keep {ms es : List Nat} {G G' : Gu} {i j : Nat} {Kk : HL} (h : Kj ρ s H ms es G j Kk) (hre : Re x ρ s env H) (hu : un ms i j = true) (hi : i ∈ es) {L : List Nat} (hl : lockU ms i s G [] = some L)
    {Hl Hm H1 : HL} (hp : H.Perm (Hm ++ Hl)) (hlk : Lk x ρ L Hl) {ρ' : Ro} (hle : Le ρ ρ') {s' : AS} (nd : Okh x.F (H1 ++ Hl)) (g1 : ∀ j β, (j, β) ∈ G → (j, β) ∈ G') (g2 : ∀ β, (j, β) ∈ G' → (j, β) ∈ G) : Kj ρ' s' (H1 ++ Hl) ms es G' j Kk := by
  have hhas := hasU_of hu hi
  have hlock := (lockU_ok hl).2
  have hin : ∀ p ∈ Kk, p ∈ Hl := fun p hp' => by
    obtain ⟨β, pl, h1, h2, h3⟩ := h.bw hhas p hp'
    obtain ⟨a, h4, h5⟩ := hlock j β h1 hu
    have hpH := h.sub p hp'
    cases hr : a.rw
    · obtain ⟨pl2, h6, ob, h7, _⟩ := hre.heap β a h4
      rw [h2] at h6
      cases h6
      rw [hr] at h7
      have h8 : x.F pl.g = some ob := h7
      rw [h3, hre.nd.dj p hpH] at h8
      cases h8
    · obtain ⟨pl2, o, h6, h7⟩ := hlk.fw β (h5 hr)
      rw [h2] at h6
      cases h6
      have : p = (pl.g, o) := key_eq hre.nd.nd hpH (hp.mem_iff.2 (List.mem_append_right _ h7)) h3.symm
      rw [this]
      exact h7
  refine ⟨fun e => (by rw [hhas] at e; cases e), h.nd, fun p hp' => List.mem_append_right _ (hin p hp'), fun _ p hp' => ?_, fun _ β a' pl o h1 _ h3 h4 => ?_⟩
  · obtain ⟨β, pl, h1, h2, h3⟩ := h.bw hhas p hp'
    exact ⟨β, pl, g1 _ _ h1, hle _ _ h2, h3⟩
  · have h1' := g2 β h1
    obtain ⟨a, h5, h6⟩ := hlock j β h1' hu
    obtain ⟨pl2, h7, ob, h8, _⟩ := hre.heap β a h5
    have := hle _ _ h7
    rw [h3] at this
    cases this
    cases hr : a.rw
    · rw [hr] at h8
      have h9 : x.F pl.g = some ob := h8
      rw [nd.dj _ h4] at h9
      cases h9
    · obtain ⟨pl2, o2, h9, h10⟩ := hlk.fw β (h6 hr)
      rw [h7] at h9
      cases h9
      have : (pl.g, o) = (pl.g, o2) := key_eq nd.nd h4 (List.mem_append_right _ h10) rfl
      rw [this]
      exact h.fw hhas β a pl o2 h1' h5 h7 (hp.mem_iff.2 (List.mem_append_right _ h10))
/-- once more, with one block more that may be looked at -/
def retryU (ms : List Nat) (i : Option Nat) (f : Gu → Du) : Nat → Gu → Du
  | 0, _ => .no
  | k + 1, G => match f G with
    | .need j β => match unO ms i j with
      | true => .need j β
      | false => retryU ms i f k ((j, β) :: G)
    | r => r
theorem retryU_ok {ms : List Nat} {i : Option Nat} {f : Gu → Du} {s' : AS} : ∀ {k : Nat} {G : Gu}, retryU ms i f k G = .ok s' → ∃ G', f G' = .ok s' ∧ (∀ j β, (j, β) ∈ G → (j, β) ∈ G') ∧ ∀ j β, unO ms i j = true → (j, β) ∈ G' → (j, β) ∈ G
  | 0, _, h => by cases h
  | k + 1, G, h => by
    unfold retryU at h
    split at h
    · rename_i j β hf
      split at h
      · cases h
      · rename_i hun
        obtain ⟨G', h1, h2, h3⟩ := retryU_ok h
        refine ⟨G', h1, fun j' β' hm => h2 j' β' (List.mem_cons_of_mem _ hm), fun j' β' hu hm => ?_⟩
        rcases List.mem_cons.1 (h3 j' β' hu hm) with e | hm
        · cases e
          rw [hu] at hun
          cases hun
        · exact hm
    · exact ⟨G, h, fun _ _ h => h, fun _ _ _ h => h⟩
/-- one operation of a region that draws its order; 'ck' may ask for more of an act -/
def stepD (cf : CF) (P : Program) (n : Nat) (ops : List Oper) (ms es : List Nat) (ck : AS → AS → Bool) (t : Tg) (G : Gu) (s : AS) (k : Gu → AS → Du) : Du := match gA ops s t.o.guard, dstB n t.o.dst with
  | some true, true => match t.k with
    | .p => match puA P s t.o.op with
      | some v => k G (putO s t.o.dst v)
      | none => .no
    | .s => match rdU P s t.o.op with
      | some (bs, v) => match hasU ms es t.i with
        | false => k G (putO s t.o.dst v)
        | true => match lackU G t.i bs with
          | none => k G (putO s t.o.dst v)
          | some β => .need t.i β
      | none => .no
    | .e => match es.any (Nat.beq t.i), lockU ms t.i s G [] with
      | true, some L => match lockA L s with
        | some sk => match stepA cf P sk t.o.op with
          | some (v, s2) => match unlA L s2 with
            | some s3 => match ck s s3 with
              | true => retryU ms (some t.i) (fun G => k G (putO s3 t.o.dst v)) 12 G
              | false => .no
            | none => .no
          | none => .no
        | none => .no
      | _, _ => .no
  | some false, true => k G (putO s t.o.dst undef)
  | _, _ => .no
theorem beq_mem {i : Nat} {es : List Nat} (h : es.any (Nat.beq i) = true) : i ∈ es := by
  obtain ⟨y, h1, h2⟩ := List.any_eq_true.1 h
  rw [beq_true h2]; exact h1
theorem Okh.left {F : Nat → Option Obj} {H Hf : HL} (h : Okh F (H ++ Hf)) : Okh F H := by
  refine ⟨?_, fun p hp => h.dj p (List.mem_append_left _ hp)⟩
  have := h.nd
  rw [List.map_append, List.nodup_append] at this
  exact this.1
theorem Okh.ne {F : Nat → Option Obj} {H Hf : HL} (h : Okh F (H ++ Hf)) {p q : Nat × Obj} (hp : p ∈ H) (hq : q ∈ Hf) : p.1 ≠ q.1 := by
  have := h.nd
  rw [List.map_append, List.nodup_append] at this
  exact this.2.2 p.1 (List.mem_map.2 ⟨p, hp, rfl⟩) q.1 (List.mem_map.2 ⟨q, hq, rfl⟩)
theorem Re.addF (h : Re x ρ s env H) {Hf : HL} (hf : Okh x.F (H ++ Hf)) : Re (addX x Hf) ρ s env H := by
  refine ⟨h.env, fun β o hβ => ?_, h.inj, h.dom, ⟨hf.left.nd, fun p hp => ?_⟩, h.gl⟩
  · obtain ⟨pl, h1, ob, h2, h3⟩ := h.heap β o hβ
    refine ⟨pl, h1, ob, ?_, h3⟩
    cases hr : o.rw
    · rw [hr] at h2
      exact addF_ro (fun p hp => hf.dj p (List.mem_append_right _ hp)) h2
    · rw [hr] at h2
      exact h2
  · show Sl.addF x.F Hf p.1 = none
    rw [addF_none (fun q hq e => hf.ne hp hq e.symm)]
    exact hf.dj p (List.mem_append_left _ hp)
/-- blocks that may only be read were so ahead of it -/
def RoS (s s' : AS) : Prop := ∀ β a, s'.heap.get β = some a → a.rw = false → ∃ a0, s.heap.get β = some a0 ∧ a0.rw = false
theorem Re.subF (h : Re x ρ s env H) {Hf H' : HL} {ρ' : Ro} {s' : AS} {env' : Env} (hf : Okh x.F (H' ++ Hf)) (hl : Le ρ ρ') (hr : RoS s s') (h' : Re (addX x Hf) ρ' s' env' H') : Re x ρ' s' env' H' := by
  refine ⟨h'.env, fun β o hβ => ?_, h'.inj, h'.dom, hf.left, h'.gl⟩
  obtain ⟨pl, h1, ob, h2, h3⟩ := h'.heap β o hβ
  refine ⟨pl, h1, ob, ?_, h3⟩
  cases ho : o.rw
  · obtain ⟨a0, g1, g2⟩ := hr β o hβ ho
    obtain ⟨pl0, g3, ob0, g4, _⟩ := h.heap β a0 g1
    have := hl _ _ g3
    rw [h1] at this
    cases this
    rw [g2] at g4
    have g5 : x.F pl.g = some ob0 := g4
    rw [ho] at h2
    have g6 : Sl.addF x.F Hf pl.g = some ob := h2
    rw [addF_ro (fun p hp => hf.dj p (List.mem_append_right _ hp)) g5] at g6
    cases g6
    exact g5
  · rw [ho] at h2
    exact h2
theorem stepD_ok {cf : CF} (hcf : CFok x.P cf) {ops : List Oper} {ms es : List Nat} {ck : AS → AS → Bool} {t : Tg} {G : Gu} {k : Gu → AS → Du} {s' : AS} {Kf : Nat → HL} (e : stepD cf x.P x.n ops ms es ck t G s k = .ok s') (h : Re x ρ s env H) (hk : ∀ j, Kj ρ s H ms es G j (Kf j)) :
    dstB x.n t.o.dst = true ∧ ((∃ v u, VR ρ v u ∧ k G (putO s t.o.dst v) = .ok s' ∧ ∀ a, Ev x env a → quietV x.P ops.toArray (CC x (Kf t.i)) t a u) ∨
    ((∀ a, Ev x env a → acts ops.toArray t a) ∧ t.i ∈ es ∧ ∀ Hf, Okh x.F (H ++ Hf) → ∀ a w, Ev x env a → CC x (H ++ Hf) w → yields x.P t.o a w (fun u w' =>
      ∃ ρ' v s3 G' H', Le ρ ρ' ∧ VR ρ' v u ∧ Re (addX x Hf) ρ' s3 env H' ∧ CC x (H' ++ Hf) w' ∧ ck s s3 = true ∧ k G' (putO s3 t.o.dst v) = .ok s' ∧ (∀ j, un ms t.i j = true → Kj ρ' s3 H' ms es G' j (Kf j))))) := by
  obtain ⟨kk, i, ⟨dst, op, ty, pos, aft, gd⟩, nc⟩ := t
  unfold stepD at e
  dsimp only at e ⊢
  split at e
  · rename_i hg hd
    refine ⟨hd, ?_⟩
    have hw : ∀ a, Ev x env a → Region.wanted ⟨dst, op, ty, pos, aft, gd⟩ (yielded ops.toArray a.tmps) = true := fun a he => gA_ok h he hg
    split at e
    · split at e
      · rename_i v hp
        obtain ⟨u, hv, hr⟩ := puA_ok (dst := dst) (ty := ty) (pos := pos) (aft := aft) (gd := gd) h hp
        exact .inl ⟨v, u, hv, e, fun a he => .inl ⟨hw a he, (fun h => by cases h), fun w _ => hr.run a he w⟩⟩
      · cases e
    · split at e
      · rename_i bs v hq
        have fin : (hasU ms es i = false ∨ lackU G i bs = none) → k G (putO s dst v) = .ok s' → ∃ v u, VR ρ v u ∧ k G (putO s dst v) = .ok s' ∧ ∀ a, Ev x env a → quietV x.P ops.toArray (CC x (Kf i)) ⟨.s, i, ⟨dst, op, ty, pos, aft, gd⟩, nc⟩ a u := fun hor e => by
          obtain ⟨u, hv, hr⟩ := (hk i).rd (dst := dst) (ty := ty) (pos := pos) (aft := aft) (gd := gd) h hq hor
          exact ⟨v, u, hv, e, fun a he => .inl ⟨hw a he, (fun h => by cases h), fun w hc => hr.run a w he (hc rfl).1⟩⟩
        split at e
        · rename_i hu
          exact .inl (fin (.inl hu) e)
        · split at e
          · rename_i hu
            exact .inl (fin (.inr hu) e)
          · cases e
      · cases e
    · split at e
      · rename_i L hes hl
        split at e
        · rename_i sk hlo
          split at e
          · rename_i v s2 hs
            split at e
            · rename_i s3 hun
              split at e
              · rename_i hck
                refine .inr ⟨fun a he => ⟨hw a he, rfl⟩, beq_mem hes, fun Hf hf a w he hM => ?_⟩
                have h' := h.addF hf
                obtain ⟨Hl, Hm, hp, hre, hlk⟩ := lockA_ok h' L sk hlo
                obtain ⟨R, hef, hR⟩ := (stepA_ok (x := addX (addX x Hf) Hl) (dst := dst) (ty := ty) (pos := pos) (aft := aft) (gd := gd) hcf hre hs).ef
                refine Yr.mono ?_ ((Ef.unadd (Ef.unadd (ef_nd hef))).run a w he (hM.1.perm (hp.append_right Hf)))
                rintro u w' ⟨H', ⟨H1', ⟨H1, ⟨hRR, hok⟩, rfl⟩, rfl⟩, hi, hsm⟩
                obtain ⟨ρ', h1, h2, h3⟩ := hR u H1 hRR hok
                have h4 := unlA_ok h3 (hlk.mono h1) hun
                obtain ⟨G', e1, g1, g2⟩ := retryU_ok e
                exact ⟨ρ', v, s3, G', H1 ++ Hl, h1, h2, h4, ⟨hi, hM.2.trans hsm⟩, hck, e1, fun j hu => (hk j).keep h' hu (beq_mem hes) hl hp hlk h1 h4.nd g1 (fun β => g2 j β hu)⟩
              · cases e
            · cases e
          · cases e
        · cases e
      · cases e
  · rename_i hg hd
    refine ⟨hd, ?_⟩
    exact .inl ⟨undef, undef, undef_vr, e, fun a he => .inr ⟨gA_ok h he hg, rfl⟩⟩
  · cases e
/-- operations of a region that draws its order, in the order of a list -/
def dU (cf : CF) (P : Program) (n : Nat) (ops : List Oper) (ms es : List Nat) : List Tg → (Gu → AS → Du) → Gu → AS → Du
  | [], k, G, s => k G s
  | t :: l, k, G, s => stepD cf P n ops ms es (fun _ _ => true) t G s (dU cf P n ops ms es l k)
theorem Re.nil (h : Re (addX x []) ρ s env H) : Re x ρ s env H := Re.cx (x := addX x []) (y := x) h rfl (addF_nil x.F).symm
theorem CC.nil {w : World} : CC x (H ++ []) w = CC x H w := by rw [List.append_nil]
/-- the choice of what a read may look at, behind an act -/
def nextK (ms es : List Nat) (i : Nat) (ρ' : Ro) (G' : Gu) (H' : HL) (Kf : Nat → HL) (j : Nat) : HL := match un ms i j with
  | true => Kf j
  | false => pickU ρ' ms es G' H' j
theorem nextK_ok {ms es : List Nat} {i : Nat} {ρ' : Ro} {G' : Gu} {s3 : AS} {H' : HL} {Kf : Nat → HL} (nd : (H'.map (·.1)).Nodup) (h : ∀ j, un ms i j = true → Kj ρ' s3 H' ms es G' j (Kf j)) (j : Nat) : Kj ρ' s3 H' ms es G' j (nextK ms es i ρ' G' H' Kf j) := by
  unfold nextK
  cases hu : un ms i j
  · exact pickU_ok nd j
  · exact h j hu
theorem dU_ok {cf : CF} (hcf : CFok x.P cf) {ops : List Oper} {ms es : List Nat} {kk : KK} {k : Gu → AS → Du} {s' : AS} : ∀ (l : List Tg) (G : Gu) (s : AS) (ρ : Ro) (env : Env) (H : HL) (Kf : Nat → HL), dU cf x.P x.n ops ms es l k G s = .ok s' → Re x ρ s env H → (∀ j, Kj ρ s H ms es G j (Kf j)) →
    (∀ (G1 : Gu) (s1 : AS) (ρ1 : Ro) (env1 : Env) (H1 : HL) (Kf1 : Nat → HL), k G1 s1 = .ok s' → Le ρ ρ1 → Re x ρ1 s1 env1 H1 → (∀ j, Kj ρ1 s1 H1 ms es G1 j (Kf1 j)) → ∀ a, Ev x env1 a → kk (fun j => CC x (Kf1 j)) (CC x H1) a) →
    ∀ a, Ev x env a → wpU x.P ops.toArray ms l kk (fun j => CC x (Kf j)) (CC x H) a
  | [], G, s, ρ, env, H, Kf, e, h, hk, hK, a, he => hK G s ρ env H Kf e (Le.refl ρ) h hk a he
  | t :: l, G, s, ρ, env, H, Kf, e, h, hk, hK, a, he => by
    unfold dU at e
    obtain ⟨hd, hor⟩ := stepD_ok hcf e h hk
    rcases hor with ⟨v, u, hv, e1, hq⟩ | ⟨hat, _, hrun⟩
    · exact .inl ⟨u, hq a he, dU_ok hcf l G _ ρ _ H Kf e1 (h.put hd hv) (fun j => (hk j).put t.o.dst v) hK _ (put_ev he hd u)⟩
    · refine .inr ⟨hat a he, fun w hM => Yr.mono ?_ (hrun [] (by rw [List.append_nil]; exact h.nd) a w he (by rw [List.append_nil]; exact hM))⟩
      rintro u w' ⟨ρ', v, s3, G', H', h1, h2, h3, h4, _, e1, h5⟩
      rw [List.append_nil] at h4
      have h3 := h3.nil
      have hkk := nextK_ok (H' := H') h3.nd.nd h5
      exact ⟨CC x H', fun j => CC x (nextK ms es t.i ρ' G' H' Kf j), h4, (fun j hj => by unfold nextK; dsimp only; rw [hj]), fun w hw j => (hkk j).cc hw,
        dU_ok hcf l G' _ ρ' _ H' _ e1 (h3.put hd h2) (fun j => (hkk j).put t.o.dst v) (fun G1 s1 ρ1 env1 H1 Kf1 q1 q2 => hK G1 s1 ρ1 env1 H1 Kf1 q1 (h1.trans q2)) _ (put_ev he hd u)⟩
def esT : List Tg → List Nat
  | [] => []
  | t :: l => match t.k with
    | .e => t.i :: esT l
    | _ => esT l
def okU (_ : Gu) (s : AS) : Du := .ok s
theorem fin_kk {ms es : List Nat} {s' : AS} (hK : ∀ ρ' env' H', Le ρ ρ' → Re x ρ' s' env' H' → Fin x K .normal env' H') (G1 : Gu) (s1 : AS) (ρ1 : Ro) (env1 : Env) (H1 : HL) (Kf1 : Nat → HL) (e : okU G1 s1 = .ok s') (hl : Le ρ ρ1) (h : Re x ρ1 s1 env1 H1) (_ : ∀ j, Kj ρ1 s1 H1 ms es G1 j (Kf1 j)) (a : Act) (he : Ev x env1 a) :
    finU (fun a w => K .normal a w) (fun j => CC x (Kf1 j)) (CC x H1) a := by
  cases e
  exact fun w hw => (hK ρ1 env1 H1 hl h).run a w ⟨he, hw.1, hw.2⟩
def regU (cf : CF) (P : Program) (n : Nat) (l : List Oper) (s : AS) : Option AS := match retryU (masks l []) none (dU cf P n l (masks l []) (esT (tagsU (fun _ => kindV P) l)) (tagsU (fun _ => kindV P) l) okU · s) 12 [] with
  | .ok s' => some s'
  | _ => none
theorem regU_ok {cf : CF} (hcf : CFok x.P cf) {id : Nat} {l : List Oper} {s' : AS} (hm : x.P.follows .mixedOrders = true) (hB : mixU (fun _ => kindV x.P) l = true) (e : regU cf x.P x.n l s = some s') (h : Re x ρ s env H) (hK : ∀ ρ' env' H', Le ρ ρ' → Re x ρ' s' env' H' → Fin x K .normal env' H') : W x K (.region id l.toArray true) env H := by
  unfold regU at e
  split at e
  · rename_i s1 hph
    cases e
    obtain ⟨G', e1, _, _⟩ := retryU_ok hph
    have hkk := fun j => pickU_ok (ρ := ρ) (s := s) (ms := masks l []) (es := esT (tagsU (fun _ => kindV x.P) l)) (G := G') h.nd.nd j
    exact W.drawU (fun _ => kindV x.P) hm hB (fun w hw j => (hkk j).cc hw) ⟨fun a he _ => mix_wpU _ _ _ _ (dU_ok hcf _ G' s ρ env H _ e1 h hkk (fin_kk hK) a he)⟩
  · cases e
end
end
end Go.Ev
