/- Some texts as one. The logic's rule for copy into a slice that is owned (elements of one cell), and a made slice as an owned one. No conditions: laws only. Lists in memory that can be read: their elements, their first part; small facts on widths. No conditions: laws only. Regions that draw their order, in which one variable is made anew at any time: the others are walked in the text's order, and the new variable ahead of each act. No conditions: laws only. The logic's rule for two pointers that are compared: they lie in memory, and are equal just if they are one. No conditions: laws only. A region that draws its order, in which chosen reads are counted as acts (they must be ordered among the acts): what stays then need not bear what they read. No conditions: laws only. -/
import Derived.Test.YtkelhlffeilakaaGreatDoorBuB
import Derived.LaidEql
namespace Go.Sl
open Go
theorem OwnS.made (E : Nat) (z : Value) (b n : Nat) (h : n ≤ maxLen) : OwnS E 1 (mkCells [z] n) (.slice (some ⟨b, 0, none⟩) n n) [(b, .cells (mkCells [z] n).toArray E (0, 0))] :=
  .inr ⟨b, n, n, [], [], [], rfl, by simp, by rw [length_mkCells]; simp, Nat.le_refl _, by simp, h⟩
theorem OwnS.can {E : Nat} {F : Nat → Option Obj} {H : HL} {xs : List Value} {sa : Option Addr} {sn sc : Nat} {hb : HL} (h : OwnS E 1 xs (.slice sa sn sc) hb) (hw : ∀ w, In F H w → In F hb w) :
    (sa = none ∧ sn = 0 ∧ sc = 0) ∨ ∃ a, sa = some a ∧ ∀ w, In F H w → ∀ j u, xs[j]? = some u → w.cell? (a.add j) = some u := by
  rcases h with ⟨he, rfl, _⟩ | ⟨g, n, cap, pre, spare, post, he, rfl, hl, hc, hsp, hm⟩
  · cases he; exact .inl ⟨rfl, rfl, rfl⟩
  · cases he
    refine .inr ⟨_, rfl, fun w hi j u hu => ?_⟩
    have hj : j < xs.length := (List.getElem?_eq_some_iff.1 hu).1
    have hg := (hw w hi).own _ (List.mem_cons_self ..)
    rw [add_lit, cell_of_row w g _ _ E _ hg]
    simp only [List.getElem?_toArray, List.append_assoc]
    rw [List.getElem?_append_right (by omega), Nat.add_sub_cancel_left, List.getElem?_append_left hj]
    exact hu
section
variable {x : Cx} {env : Env} {H : HL} {dst : Option Tmp} {ty : TypeId} {pos : String} {aft : Array Edge} {gd : Option (Nat × Bool)}
end
end Go.Sl
namespace Go.Sl
open Go
theorem Lst.take {F : Nat → Option Obj} {H : HL} {α : Type} {cells : α → List Value} {sz : Nat} (hc : ∀ a, (cells a).length = sz) {l : List α} {sa : Option Addr} {n c : Nat} (h : Lst F H sz (l.flatMap cells) sa n c) (hsz : 0 < sz) {k : Nat} (hk : k ≤ l.length) : Lst F H sz ((l.take k).flatMap cells) sa k c := by
  have hl := h.len
  rw [flat_len' cells sz hc] at hl
  have hn : l.length = n := Nat.eq_of_mul_eq_mul_right hsz hl
  have e : l.flatMap cells = (l.take k).flatMap cells ++ (l.drop k).flatMap cells := by rw [← List.flatMap_append, List.take_append_drop]
  refine ⟨by rw [flat_len' cells sz hc, List.length_take, Nat.min_eq_left hk], Nat.le_trans (by omega) h.cap, fun h0 => ?_, fun h0 => by have := h.ok h0; omega⟩
  obtain ⟨b, off, rfl, hcan⟩ := h.can (by omega)
  refine ⟨b, off, rfl, fun w hw j u hu => hcan w hw j u ?_⟩
  rw [e, List.getElem?_append_left (List.getElem?_eq_some_iff.1 hu).1]
  exact hu
theorem u8_id {n : Int} (h : 0 ≤ n ∧ n < 256) : IntKind.u8.wrap n = n := by
  simp only [IntKind.wrap, IntKind.bits, IntKind.signed]
  simp
  omega
theorem u64_id {n : Int} (h : 0 ≤ n ∧ n < 18446744073709551616) : IntKind.u64.wrap n = n := by
  simp only [IntKind.wrap, IntKind.bits, IntKind.signed]
  simp
  omega
/-- what holds wherever the blocks lie may be used -/
theorem W.fact {x : Cx} {K : Post} {c : Code} {env : Env} {H : HL} {φ : Prop} (h : ∀ w, In x.F H w → φ) (next : φ → W x K c env H) : W x K c env H := ⟨fun a w s => (next (h w s.hin)).run a w s⟩
theorem WL.fact {x : Cx} {K : Post} {ops : Array Oper} {l : List Oper} {env : Env} {H : HL} {φ : Prop} (h : ∀ w, In x.F H w → φ) (next : φ → WL x K ops l env H) : WL x K ops l env H := ⟨fun a w s => (next (h w s.hin)).run a w s⟩
end Go.Sl
namespace Go.Sl
open Go
section
variable {P : Program} {ops : Array Oper} {C : World → Prop} {Q : Act → World → Prop} {f : Tg} {l2 : List Tg}

/-- The operations of a list are walked; 'f' may come ahead of any of them. -/
def wpFlo (P : Program) (ops : Array Oper) (C : World → Prop) (Q : Act → World → Prop) (f : Tg) (l2 : List Tg) : List Tg → (World → Prop) → Act → Prop
  | [], M, a => wpMix P ops C Q (f :: l2) M a
  | t :: rest, M, a => wpMix P ops C Q (f :: t :: (rest ++ l2)) M a ∧
    ((∃ v, quietV P ops C t a v ∧ wpFlo P ops C Q f l2 rest M (a.put t.o.dst v)) ∨
     (acts ops t a ∧ ∀ w, M w → yields P t.o a w (fun v w' => ∃ M' : World → Prop, M' w' ∧ (t.nc = true → ∀ w, M' w → C w) ∧ wpFlo P ops C Q f l2 rest M' (a.put t.o.dst v))))
theorem wpFlo_now : ∀ {l : List Tg} {M : World → Prop} {a : Act}, wpFlo P ops C Q f l2 l M a → wpMix P ops C Q (f :: (l ++ l2)) M a
  | [], _, _, h => h
  | _ :: _, _, _, h => h.1
/-- 'f' and another one leave each other alone. -/
structure Fl (ops : Array Oper) (f t : Tg) : Prop where
  ns : ∀ cs b, t.o.op ≠ .select cs b
  g : t.o.guard = none
  a1 : t.o.apart ops f.o = true
  a2 : f.o.apart ops t.o = true
  nc : t.k = .s → f.nc = true
theorem quiet_ne {t : Tg} {a : Act} {v : Value} (hg : t.o.guard = none) (h : quietV P ops C t a v) : t.k ≠ .e := by
  rcases h with ⟨_, h, _⟩ | ⟨h, _⟩
  · exact h
  · simp [Region.wanted, hg] at h
theorem Fl.sw1 {t : Tg} (h : Fl ops f t) (hne : t.k ≠ .e) : Sw ops t f := ⟨h.a1, fun h' => hne h'.1, fun hs _ => h.nc hs⟩
theorem Fl.sw2 {t : Tg} (h : Fl ops f t) (hf : f.k = .e) (hne : t.k ≠ .e) : Sw ops f t := ⟨h.a2, fun h' => hne h'.2, fun hs => by rw [hf] at hs; cases hs⟩
theorem quiet_back {x : Tg} {r : List Tg} {M : World → Prop} {a : Act} {v : Value} (hfk : f.k = .e) (hfs : ∀ cs b, f.o.op ≠ .select cs b) (hx : Fl ops f x) (hw : ∃ w, M w) (hv : quietV P ops C x a v)
    (h : wpMix P ops C Q (f :: r) M (a.put x.o.dst v)) : wpMix P ops C Q (f :: x :: r) M a :=
  wpMix_swap hx.ns hfs (hx.sw1 (quiet_ne hx.g hv)) (fun hs => by rw [hfk] at hs; cases hs) hw (.inl ⟨v, hv, h⟩)
/-! ### from the check -/
end

/-! ### the judgement -/
structure WF (x : Cx) (Hc : HL) (K : Post) (ops : Array Oper) (f : Tg) (l2 : List Tg) (l : List Tg) (env : Env) (H : HL) : Prop where
  run : (∀ t ∈ l, Fl ops f t) → f.k = .e → (∀ cs b, f.o.op ≠ .select cs b) → ∀ a, Ev x env a → (∃ w, CC x H w) → wpFlo x.P ops (CC x Hc) (fun a w => K .normal a w) f l2 l (CC x H) a
section
variable {x : Cx} {K : Post} {env : Env} {H Hc : HL} {ops : Array Oper} {f : Tg} {l2 rest : List Tg}
theorem WF.nil (h : WD x Hc K ops (f :: l2) env H) : WF x Hc K ops f l2 [] env H := ⟨fun _ _ _ a he _ => h.run a he⟩
theorem WF.p {d i : Nat} {nc : Bool} {op : Op} {ty : TypeId} {pos : String} {aft : Array Edge} {v : Value} (hn : Nat.blt d x.n = true) (h : Pu x env ⟨some d, op, ty, pos, aft, none⟩ v) (next : WF x Hc K ops f l2 rest ((d, v) :: env) H) :
    WF x Hc K ops f l2 (⟨.p, i, ⟨some d, op, ty, pos, aft, none⟩, nc⟩ :: rest) env H := ⟨fun hfl hfk hfs a he hw => by
  have hq : quietV x.P ops (CC x Hc) ⟨.p, i, ⟨some d, op, ty, pos, aft, none⟩, nc⟩ a v := .inl ⟨by simp [Region.wanted], (fun h => by cases h), fun w _ => h.run a he w⟩
  have hr := next.run (fun t ht => hfl t (List.mem_cons_of_mem _ ht)) hfk hfs _ (he.put (Nat.le_of_ble_eq_true hn) v) hw
  exact ⟨quiet_back hfk hfs (hfl _ (List.mem_cons_self ..)) hw hq (wpFlo_now hr), .inl ⟨v, hq, hr⟩⟩⟩
theorem WF.s {d i : Nat} {nc : Bool} {op : Op} {ty : TypeId} {pos : String} {aft : Array Edge} {v : Value} (hn : Nat.blt d x.n = true) (h : Rd x env Hc ⟨some d, op, ty, pos, aft, none⟩ v) (next : WF x Hc K ops f l2 rest ((d, v) :: env) H) :
    WF x Hc K ops f l2 (⟨.s, i, ⟨some d, op, ty, pos, aft, none⟩, nc⟩ :: rest) env H := ⟨fun hfl hfk hfs a he hw => by
  have hq : quietV x.P ops (CC x Hc) ⟨.s, i, ⟨some d, op, ty, pos, aft, none⟩, nc⟩ a v := .inl ⟨by simp [Region.wanted], (fun h => by cases h), fun w hw => h.run a w he (hw rfl).1⟩
  have hr := next.run (fun t ht => hfl t (List.mem_cons_of_mem _ ht)) hfk hfs _ (he.put (Nat.le_of_ble_eq_true hn) v) hw
  exact ⟨quiet_back hfk hfs (hfl _ (List.mem_cons_self ..)) hw hq (wpFlo_now hr), .inl ⟨v, hq, hr⟩⟩⟩
theorem WF.e {d i : Nat} {nc : Bool} {op : Op} {ty : TypeId} {pos : String} {aft : Array Edge} {R : Value → HL → Prop} (hn : Nat.blt d x.n = true) (h : Ef x env H ⟨some d, op, ty, pos, aft, none⟩ R)
    (next : ∀ v H', R v H' → (nc = false ∨ ∀ w, In x.F H' w → In x.F Hc w) ∧ WF x Hc K ops f l2 rest ((d, v) :: env) H')
    (now : WD x Hc K ops (f :: ⟨.e, i, ⟨some d, op, ty, pos, aft, none⟩, nc⟩ :: (rest ++ l2)) env H) :
    WF x Hc K ops f l2 (⟨.e, i, ⟨some d, op, ty, pos, aft, none⟩, nc⟩ :: rest) env H := ⟨fun hfl hfk hfs a he hw =>
  ⟨now.run a he, .inr ⟨⟨by simp [Region.wanted], rfl⟩, fun w hw => Yr.mono (fun v w' => by
    rintro ⟨H', hR, hi, hs⟩
    obtain ⟨hk, hn'⟩ := next v H' hR
    have hcc : CC x H' w' := ⟨hi, hw.2.trans hs⟩
    exact ⟨CC x H', hcc, fun hnc w hw => ⟨hk.resolve_left (by simp [show nc = true from hnc]) w hw.1, hw.2⟩, hn'.run (fun t ht => hfl t (List.mem_cons_of_mem _ ht)) hfk hfs _ (he.put (Nat.le_of_ble_eq_true hn) v) ⟨w', hcc⟩⟩) (h.run a w he hw.1)⟩⟩⟩
theorem WF.pA {rest : List Tg} {i : Nat} {nc : Bool} {d : Nat} {op : Op} {ty : TypeId} {pos : String} {aft : Array Edge} {v : Value} (next : WF x Hc K ops f l2 rest ((d, v) :: env) H) (hn : Nat.blt d x.n = true := by exact rfl) (h : Pu x env ⟨some d, op, ty, pos, aft, none⟩ v := by first | exact Pu.mv rfl | exact Pu.asg rfl | exact Pu.fa rfl | exact Pu.bin rfl rfl rfl | exact Pu.ext rfl rfl | exact Pu.nilCk rfl | exact Pu.notB rfl | exact Pu.pick_t rfl rfl | exact Pu.pick_f rfl rfl | exact Pu.cvI rfl | exact Pu.lenS rfl | exact Pu.fv rfl rfl | exact Pu.fva rfl rfl | exact Pu.eqB rfl rfl | exact Pu.eqN rfl rfl | exact Pu.neN rfl rfl | exact Pu.neB rfl rfl | exact Pu.eqSN rfl rfl | exact Pu.neSN rfl rfl | exact Pu.bld rfl rfl | exact Pu.min2 rfl rfl | exact Pu.xorU rfl | exact Pu.shr rfl rfl (by decide) | exact Pu.ia rfl rfl (by assumption) | exact Pu.mkF rfl rfl) : WF x Hc K ops f l2 (⟨.p, i, ⟨some d, op, ty, pos, aft, none⟩, nc⟩ :: rest) env H := WF.p hn h next
theorem WF.sA {rest : List Tg} {i : Nat} {nc : Bool} {d : Nat} {op : Op} {ty : TypeId} {pos : String} {aft : Array Edge} {v : Value} (next : WF x Hc K ops f l2 rest ((d, v) :: env) H) (hn : Nat.blt d x.n = true := by exact rfl) (h : Rd x env Hc ⟨some d, op, ty, pos, aft, none⟩ v := by first | exact Rd.ld rfl (by (repeat (first | exact CellAt.here rfl | exact CellAt.here (by assumption) | apply CellAt.there | apply CellAt.right)); first | done | fail) | exact Rd.lda rfl (by (repeat (first | exact CutAt.here rfl | apply CutAt.there | apply CutAt.right)); first | done | fail) | exact Rd.ldC rfl (by assumption) | exact Rd.ldaC rfl rfl (by assumption) | exact Rd.ldC0 rfl (by assumption) | exact Rd.ldaC0 rfl (by assumption) (by exact rfl) | exact Pu.rd (Pu.cvI rfl) | exact Pu.rd (Pu.lenS rfl)) : WF x Hc K ops f l2 (⟨.s, i, ⟨some d, op, ty, pos, aft, none⟩, nc⟩ :: rest) env H := WF.s hn h next
end
end Go.Sl
namespace Go.Sl
open Go

/-- a pointer to something that has cells -/
class PtrE (P : Program) (T : TypeId) : Prop where h : ∃ e n, P.underlying T = some (.pointer e) ∧ (P.info? e).map (·.size) = some (n + 1)
section
variable {x : Cx} {env : Env} {H : HL} {dst : Option Tmp} {ty : TypeId} {pos : String} {aft : Array Edge} {gd : Option (Nat × Bool)}
/-- a block that lies in memory -/
def Lies (F : Nat → Option Obj) (H : HL) (b : Nat) : Prop := ∀ w, In F H w → ∃ c T, w.heap[b]? = some (.cells c T (0, 0))
theorem Lies.mono {F F' : Nat → Option Obj} {H H' : HL} {b : Nat} (h : Lies F H b) (hw : ∀ w, In F' H' w → In F H w) : Lies F' H' b := fun w hi => h w (hw w hi)
/-- an array's literal -/
theorem Pu.bldA {T : TypeId} {n e sz : Nat} {z : List Value} {parts : List (Nat × Operand)} {vals : List (Nat × Value)} {r : List Value} [zt : ZeroT x.P T z] [at_ : ArrT x.P T n e sz] (hv : evalP env parts = some vals) (hr : fillK ((List.range n).map (fun i => (i * sz, sz))) vals z = some r) :
    Pu x env ⟨dst, .build T parts.toArray, ty, pos, aft, gd⟩ (.agg r.toArray) := ⟨fun a he w => by
  have hz := zt.h
  have hi := at_.i
  cases hinf : x.P.info? T with
  | none => simp [hinf] at hz
  | some i =>
  cases hzz : i.zero with
  | none => simp [hinf, hzz] at hz
  | some zv =>
  have hzc : zv.cells = z.toArray := by simpa [hinf, hzz] using hz
  cases hie : x.P.info? e with
  | none => simp [hie] at hi
  | some j =>
  have hsz : j.size = sz := by simpa [hie] using hi
  have hpe := parts_eval he parts vals hv
  have hparts : (parts.toArray.map fun (p : Nat × Operand) => (p.1, a.eval p.2)).toList = vals := by simpa using hpe
  have hfill := fill_W (place := fun i => some (i * sz, sz)) (fun i q h => by
    rw [List.getElem?_map] at h
    by_cases hi : i < n
    · rw [List.getElem?_range hi] at h; simpa using h
    · rw [List.getElem?_eq_none (by simpa using hi)] at h; cases h) vals z r hr
  simp only [execOp, Instr.build, zeroValue, typeInfo, sizeOf, Sem.run_bind, run_program, Result.andThen_ok, hinf, hzz, hie, hsz, Sem.run_pure, run_underlying at_.h, hzc, hparts, hfill]⟩
end
end Go.Sl
namespace Go.Sl
open Go

section
variable {x : Cx} {K : Post} {env : Env} {H Hc : HL} {ops : Array Oper} {rest : List Tg}
/-- a read that is counted as an act -/
theorem Rd.ef {o : Oper} {v : Value} (h : Rd x env H o v) : Ef x env H o (fun u H' => u = v ∧ H' = H) := ⟨fun a w he hi => yields_of_run (h.run a w he hi) ⟨H, ⟨rfl, rfl⟩, hi, Same.refl w⟩⟩
end
theorem Tr.more {P : Program} {f : FuncId} {args : Array Value} {F : Nat → Option Obj} {H Hr : HL} {R : Value → HL → Prop} (h : Tr P f args (addF F Hr) H R) : Tr P f args F (H ++ Hr) (fun v H' => ∃ H1, R v H1 ∧ H' = H1 ++ Hr) := fun _w hw =>
  (Tr.frame h hw).mono fun _ _ ⟨v, H', he, hR, hi, hs⟩ => ⟨v, H' ++ Hr, he, ⟨H', hR, rfl⟩, hi, hs⟩
theorem Tr.weak {P : Program} {f : FuncId} {args : Array Value} {F : Nat → Option Obj} {H : HL} {R R' : Value → HL → Prop} (h : Tr P f args F H R) (hr : ∀ v H', R v H' → ∃ H'', R' v H'' ∧ ∀ w, In F H' w → In F H'' w) : Tr P f args F H R' :=
  fun w hw => (h w hw).mono fun _ _ ⟨v, H', he, hR, hi, hs⟩ => let ⟨H'', h1, h2⟩ := hr v H' hR; ⟨v, H'', he, h1, h2 _ hi, hs⟩
section
variable {x : Cx} {env : Env} {H : HL} {dst : Option Tmp} {ty : TypeId} {pos : String} {aft : Array Edge} {gd : Option (Nat × Bool)}
/-- a call that may look at all that its caller keeps -/
theorem Ef.callW {f : FuncId} {args : List Operand} {tys : Array TypeId} {vals : List Value} {c Hr : HL} {R : Value → HL → Prop} [bd : Body x.P f] (hargs : args.map (ev env) = vals.map some) (hs : Sub c H Hr)
    (tr : ∀ F', (∀ w, In F' [] w → In x.F Hr w) → Tr x.P f vals.toArray F' c R) : Ef x env H ⟨dst, .call ⟨.value (.func f), args.toArray, tys⟩, ty, pos, aft, gd⟩ (fun v H' => ∃ H1, R v H1 ∧ H' = H1 ++ Hr) := ⟨fun a w he hi =>
  (Ef.call (dst := dst) (tys := tys) (ty := ty) (pos := pos) (aft := aft) (gd := gd) hargs hs (tr (addF x.F Hr) (fun _ h => In.unfocus (H := c) (hi.perm hs.perm') h))).run a w he hi⟩
end
theorem Tr.callW {P : Program} {f : FuncId} {args : Array Value} {F : Nat → Option Obj} {c Hr : HL} {R : Value → HL → Prop} (tr : ∀ F', (∀ w, In F' [] w → In F Hr w) → Tr P f args F' c R) : Tr P f args F (c ++ Hr) (fun v H' => ∃ H1, R v H1 ∧ H' = H1 ++ Hr) := fun w hw =>
  (Tr.more (tr (addF F Hr) (fun _ h => In.unfocus (H := c) hw h))) w hw
end Go.Sl
