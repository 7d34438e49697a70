/- A small program logic over the model's wp: the heap that a call owns is a list of blocks, the rest is a frame that it may read. No conditions: laws only. -/
import Derived.Calls
import Derived.Tactics
import Derived.Orders
import Derived.Laws.Sem
import Derived.RangeFuncLeaves
import Derived.RangeFuncCalls
import Derived.TacticsIn
namespace Go.Sl
open Go

abbrev Env := List (Nat × Value)
abbrev HL := List (Nat × Obj)

def look : Env → Nat → Option Value
  | [], _ => none
  | (k, v) :: r, t => match Nat.beq k t with
    | true => some v
    | false => look r t

structure Same (w w' : World) : Prop where
  os : w'.os = w.os
  tape : w'.tape = w.tape
  output : w'.output = w.output
  size : w.heap.size ≤ w'.heap.size
  drawn : w.drawn ≤ w'.drawn

theorem Same.refl (w : World) : Same w w := ⟨rfl, rfl, rfl, Nat.le_refl _, Nat.le_refl _⟩
theorem Same.trans {a b c : World} (h : Same a b) (k : Same b c) : Same a c :=
  ⟨k.os.trans h.os, k.tape.trans h.tape, k.output.trans h.output, Nat.le_trans h.size k.size, Nat.le_trans h.drawn k.drawn⟩

/-- The blocks of H are owned, and what F names lies there too. -/
structure In (F : Nat → Option Obj) (H : HL) (w : World) : Prop where
  nd : (H.map (·.1)).Nodup
  own : ∀ p ∈ H, w.heap[p.1]? = some p.2
  fr : ∀ b o, F b = some o → w.heap[b]? = some o
  dj : ∀ p ∈ H, F p.1 = none

structure Cx where
  P : Program
  n : Nat
  w0 : World
  F : Nat → Option Obj
  rd : Option Nat := none
  df : List Deferred := []
def fenceR (rd : Option Nat) : Fence := { Fence.wide with round := rd }
abbrev Cx.fc (x : Cx) : Fence := fenceR x.rd

structure Ev (x : Cx) (env : Env) (a : Act) : Prop where
  size : a.tmps.size = x.n
  defers : a.defers = x.df
  env : ∀ t v, look env t = some v → a.tmps[t]? = some v

structure St (x : Cx) (env : Env) (H : HL) (a : Act) (w : World) : Prop where
  ev : Ev x env a
  hin : In x.F H w
  same : Same x.w0 w

def ev (env : Env) : Operand → Option Value
  | .tmp t => look env t
  | .const v => some v
  | .global g => some (.pointer (some ⟨g, 0, none⟩))
  | .func f => some (.func (.func f) #[] #[])

theorem Ev.eval {x : Cx} {env : Env} {a : Act} (h : Ev x env a) {o : Operand} {v : Value} (ho : ev env o = some v) : a.eval o = v := by
  cases o with
  | tmp t => have := h.env t v ho; simp [Act.eval, this]
  | const u => simpa [ev, Act.eval] using ho
  | global g => simpa [ev, Act.eval] using ho
  | func f => simpa [ev, Act.eval] using ho

theorem look_cons (k : Nat) (v : Value) (env : Env) (t : Nat) : look ((k, v) :: env) t = if k = t then some v else look env t := by
  by_cases h : k = t
  · subst h; simp [look]
  · have : Nat.beq k t = false := by
      cases hb : Nat.beq k t with
      | false => rfl
      | true => exact absurd (Nat.eq_of_beq_eq_true hb) h
    simp [look, this, h]

theorem Ev.put {x : Cx} {env : Env} {a : Act} (h : Ev x env a) {d : Nat} (hd : d < x.n) (v : Value) : Ev x ((d, v) :: env) (a.put (some d) v) := by
  refine ⟨by simp [Act.put, h.size], by simp [Act.put, h.defers], fun t u hu => ?_⟩
  rw [look_cons] at hu
  by_cases hk : d = t
  · subst hk
    simp at hu
    subst hu
    simp [Act.put, h.size, hd]
  · simp only [if_neg hk] at hu
    simp [Act.put, Array.getElem?_setIfInBounds_ne hk, h.env t u hu]

theorem Ev.sub {x : Cx} {env env' : Env} {a : Act} (h : Ev x env a) (hs : ∀ t v, look env' t = some v → look env t = some v) : Ev x env' a :=
  ⟨h.size, h.defers, fun t v hv => h.env t v (hs t v hv)⟩

theorem St.same' {x : Cx} {env : Env} {H H' : HL} {a : Act} {w w' : World} (h : St x env H a w) (hi : In x.F H' w') (hs : Same w w') : St x env H' a w' :=
  ⟨h.ev, hi, h.same.trans hs⟩

/-! ### judgements -/
abbrev Post := Exit → Act → World → Prop

structure W (x : Cx) (K : Post) (c : Code) (env : Env) (H : HL) : Prop where
  run : ∀ a w, St x env H a w → c.wpIn x.fc 0 x.P K a w
structure WL (x : Cx) (K : Post) (ops : Array Oper) (l : List Oper) (env : Env) (H : HL) : Prop where
  run : ∀ a w, St x env H a w → wpListIn x.fc 0 x.P ops K l a w
structure Fin (x : Cx) (K : Post) (e : Exit) (env : Env) (H : HL) : Prop where
  run : ∀ a w, St x env H a w → K e a w

section
variable {x : Cx} {K : Post} {env : Env} {H : HL}

def Kseq (x : Cx) (q : Code) (K : Post) : Post := Exit.then (q.wpIn x.fc 0 x.P K) K
theorem W.seq {p q : Code} (h : W x (Kseq x q K) p env H) : W x K (.seq p q) env H := ⟨fun a w s => wpIn_seq (h.run a w s)⟩
theorem W.block {id : Nat} {c : Code} (h : W x (Exit.inBlock id K) c env H) : W x K (.block id c) env H := ⟨fun a w s => wpIn_block (h.run a w s)⟩
theorem W.skip (h : Fin x K .normal env H) : W x K .skip env H := ⟨fun a w s => wpIn_skip (h.run a w s)⟩
theorem W.exit {id : Nat} (h : Fin x K (.exit id) env H) : W x K (.exit id) env H := ⟨fun a w s => wpIn_exit (h.run a w s)⟩
theorem W.ret (h : Fin x K .ret env H) : W x K .ret env H := ⟨fun a w s => wpIn_ret (h.run a w s)⟩
theorem W.region {id : Nat} {l : List Oper} (h : WL x K l.toArray l env H) : W x K (.region id l.toArray false) env H := ⟨fun a w s => wpIn_region_lit (h.run a w s)⟩
theorem W.cond {c : Operand} {p q : Code} {b : Bool} (hc : ev env c = some (.bool b)) (ht : b = true → W x K p env H) (hf : b = false → W x K q env H) : W x K (.cond c p q) env H :=
  ⟨fun a w s => wpIn_cond_split (s.ev.eval hc) (fun h => (ht h).run a w s) (fun h => (hf h).run a w s)⟩
theorem W.cond_t {c : Operand} {p q : Code} (hc : ev env c = some (.bool true)) (ht : W x K p env H) : W x K (.cond c p q) env H :=
  ⟨fun a w s => wpIn_cond_true (s.ev.eval hc) (ht.run a w s)⟩
theorem W.cond_f {c : Operand} {p q : Code} (hc : ev env c = some (.bool false)) (ht : W x K q env H) : W x K (.cond c p q) env H :=
  ⟨fun a w s => wpIn_cond_false (s.ev.eval hc) (ht.run a w s)⟩

theorem WL.nil {ops : Array Oper} (h : Fin x K .normal env H) : WL x K ops [] env H := ⟨h.run⟩
theorem Fin.next {q : Code} (h : W x K q env H) : Fin x (Kseq x q K) .normal env H := ⟨h.run⟩
theorem Fin.seq_exit {q : Code} {id : Nat} (h : Fin x K (.exit id) env H) : Fin x (Kseq x q K) (.exit id) env H := ⟨h.run⟩
theorem Fin.seq_ret {q : Code} (h : Fin x K .ret env H) : Fin x (Kseq x q K) .ret env H := ⟨h.run⟩
theorem Fin.then_exit {n : Act → World → Prop} {id : Nat} (h : Fin x K (.exit id) env H) : Fin x (Exit.then n K) (.exit id) env H := ⟨h.run⟩
theorem Fin.then_ret {n : Act → World → Prop} (h : Fin x K .ret env H) : Fin x (Exit.then n K) .ret env H := ⟨h.run⟩
theorem Fin.block_normal {id : Nat} (h : Fin x K .normal env H) : Fin x (Exit.inBlock id K) .normal env H := ⟨h.run⟩
theorem Fin.block_ret {id : Nat} (h : Fin x K .ret env H) : Fin x (Exit.inBlock id K) .ret env H := ⟨h.run⟩
theorem Fin.block_exit {id : Nat} (h : Fin x K .normal env H) : Fin x (Exit.inBlock id K) (.exit id) env H := ⟨fun a w s => by
  simp only [Exit.inBlock, if_true]; exact h.run a w s⟩
theorem Fin.block_other {id id' : Nat} (hne : Nat.beq id' id = false) (h : Fin x K (.exit id') env H) : Fin x (Exit.inBlock id K) (.exit id') env H := ⟨fun a w s => by
  have : id' ≠ id := fun e => by subst e; simp at hne
  simp only [Exit.inBlock, if_neg this]; exact h.run a w s⟩

/-! ### forgetting -/
theorem W.weak {c : Code} {env' : Env} {H' : HL} (he : ∀ t v, look env' t = some v → look env t = some v) (hH : ∀ w, In x.F H w → In x.F H' w) (h : W x K c env' H') : W x K c env H :=
  ⟨fun a w s => h.run a w ⟨s.ev.sub he, hH w s.hin, s.same⟩⟩
theorem WL.weak {ops : Array Oper} {l : List Oper} {H' : HL} (hH : ∀ w, In x.F H w → In x.F H' w) (h : WL x K ops l env H') : WL x K ops l env H :=
  ⟨fun a w s => h.run a w ⟨s.ev, hH w s.hin, s.same⟩⟩
end

/-! ### the heap's list -/
theorem In.perm {F : Nat → Option Obj} {H H' : HL} {w : World} (hp : H.Perm H') (h : In F H w) : In F H' w :=
  ⟨(hp.map _).nodup_iff.1 h.nd, fun p hp' => h.own p (hp.mem_iff.2 hp'), h.fr, fun p hp' => h.dj p (hp.mem_iff.2 hp')⟩
theorem In.sublist {F : Nat → Option Obj} {H H' : HL} {w : World} (hp : H'.Sublist H) (h : In F H w) : In F H' w :=
  ⟨h.nd.sublist (hp.map _), fun p hp' => h.own p (hp.mem hp'), h.fr, fun p hp' => h.dj p (hp.mem hp')⟩
theorem In.right {F : Nat → Option Obj} {H H' : HL} {w : World} (h : In F (H ++ H') w) : In F H' w := h.sublist (List.sublist_append_right _ _)
theorem In.left {F : Nat → Option Obj} {H H' : HL} {w : World} (h : In F (H ++ H') w) : In F H w := h.sublist (List.sublist_append_left _ _)

/-- F with the blocks of a list beside it. -/
def addF (F : Nat → Option Obj) (H : HL) (b : Nat) : Option Obj := match H.find? (fun p => p.1 == b) with | some p => some p.2 | none => F b

theorem find?_of_mem {H : HL} (hn : (H.map (·.1)).Nodup) {p : Nat × Obj} (hp : p ∈ H) : H.find? (fun q => q.1 == p.1) = some p := by
  induction H with
  | nil => cases hp
  | cons q H ih =>
    simp only [List.map_cons, List.nodup_cons] at hn
    cases hp with
    | head => simp
    | tail _ hp =>
      have hne : q.1 ≠ p.1 := fun e => hn.1 (List.mem_map.2 ⟨p, hp, e.symm⟩)
      rw [List.find?_cons_of_neg (by simpa using hne)]
      exact ih hn.2 hp

theorem addF_ro {F : Nat → Option Obj} {H : HL} (hd : ∀ p ∈ H, F p.1 = none) {b : Nat} {o : Obj} (h : F b = some o) : addF F H b = some o := by
  unfold addF
  cases hf : H.find? (fun p => p.1 == b) with
  | none => exact h
  | some p =>
    have h1 := List.mem_of_find?_eq_some hf
    have h2 : p.1 = b := by simpa using List.find?_some hf
    have := hd p h1
    rw [h2, h] at this
    cases this

/-- The frame rule: the rest of the list goes into the frame. -/
theorem In.focus {F : Nat → Option Obj} {H Hr : HL} {w : World} (h : In F (H ++ Hr) w) : In (addF F Hr) H w := by
  have hnd := h.nd
  rw [List.map_append, List.nodup_append] at hnd
  refine ⟨hnd.1, fun p hp => h.own p (List.mem_append_left _ hp), fun b o hb => ?_, fun p hp => ?_⟩
  · unfold addF at hb
    split at hb
    · rename_i p hf
      cases hb
      have h1 := List.mem_of_find?_eq_some hf
      have h2 : p.1 = b := by simpa using List.find?_some hf
      rw [← h2]; exact h.own p (List.mem_append_right _ h1)
    · exact h.fr b o hb
  · unfold addF
    split
    · rename_i q hf
      have h1 := List.mem_of_find?_eq_some hf
      have h2 : q.1 = p.1 := by simpa using List.find?_some hf
      exact absurd h2.symm (hnd.2.2 p.1 (List.mem_map.2 ⟨p, hp, rfl⟩) q.1 (List.mem_map.2 ⟨q, h1, rfl⟩))
    · exact h.dj p (List.mem_append_left _ hp)

theorem In.unfocus {F : Nat → Option Obj} {H' Hr : HL} {w w' : World} {H : HL} (h0 : In F (H ++ Hr) w) (h : In (addF F Hr) H' w') : In F (H' ++ Hr) w' := by
  have hr : In F Hr w := h0.right
  have key : ∀ p ∈ Hr, addF F Hr p.1 = some p.2 := fun p hp => by
    unfold addF; rw [find?_of_mem hr.nd hp]
  refine ⟨?_, fun p hp => ?_, fun b o hb => h.fr b o (addF_ro hr.dj hb), fun p hp => ?_⟩
  · rw [List.map_append, List.nodup_append]
    refine ⟨h.nd, hr.nd, fun a ha b hb e => ?_⟩
    subst e
    obtain ⟨p, hp, rfl⟩ := List.mem_map.1 ha
    obtain ⟨q, hq, he⟩ := List.mem_map.1 hb
    have h1 := h.dj p hp
    rw [← he, key q hq] at h1
    cases h1
  · rcases List.mem_append.1 hp with hp | hp
    · exact h.own p hp
    · exact h.fr _ _ (key p hp)
  · rcases List.mem_append.1 hp with hp | hp
    · have h1 := h.dj p hp
      cases hF : F p.1 with
      | none => rfl
      | some o => rw [addF_ro hr.dj hF] at h1; cases h1
    · exact hr.dj p hp

/-! ### contracts -/
def RR (F : Nat → Option Obj) (w0 : World) (R : Value → HL → Prop) : Ending → World → Prop := fun e w' => ∃ v H', e = .returned v ∧ R v H' ∧ In F H' w' ∧ Same w0 w'

/-- A call: it returns; what it owned behind the call; the frame is as it was. -/
def Tr (P : Program) (f : FuncId) (args : Array Value) (F : Nat → Option Obj) (H : HL) (R : Value → HL → Prop) : Prop :=
  ∀ w, In F H w → Calls P f args w (RR F w R)

theorem Tr.mono {P : Program} {f : FuncId} {args : Array Value} {F : Nat → Option Obj} {H : HL} {R R' : Value → HL → Prop} (h : Tr P f args F H R) (hr : ∀ v H', R v H' → R' v H') : Tr P f args F H R' :=
  fun w hw => (h w hw).mono fun _ _ ⟨v, H', he, hR, hi, hs⟩ => ⟨v, H', he, hr v H' hR, hi, hs⟩

theorem Tr.frame {P : Program} {f : FuncId} {args : Array Value} {F : Nat → Option Obj} {H Hr : HL} {R : Value → HL → Prop} (h : Tr P f args (addF F Hr) H R) {w : World} (hw : In F (H ++ Hr) w) :
    Calls P f args w fun e w' => ∃ v H', e = .returned v ∧ R v H' ∧ In F (H' ++ Hr) w' ∧ Same w w' :=
  (h w hw.focus).mono fun _ _ ⟨v, H', he, hR, hi, hs⟩ => ⟨v, H', he, hR, hw.unfocus hi, hs⟩

def argsEnv : List Value → Nat → Env
  | [], _ => []
  | v :: r, i => (i, v) :: argsEnv r (i + 1)

theorem look_argsEnv (l : List Value) (i t : Nat) (v : Value) (h : look (argsEnv l i) t = some v) : i ≤ t ∧ l[t - i]? = some v := by
  induction l generalizing i with
  | nil => simp [argsEnv, look] at h
  | cons u r ih =>
    rw [argsEnv, look_cons] at h
    by_cases hk : i = t
    · subst hk; simp at h; subst h; simp
    · simp only [if_neg hk] at h
      obtain ⟨h1, h2⟩ := ih (i + 1) h
      refine ⟨by omega, ?_⟩
      have : t - i = (t - (i + 1)) + 1 := by omega
      rw [this]; simpa using h2

theorem Tr.enter {P : Program} {f : FuncId} {fn : Func} {c : Code} {n : Nat} {vals : List Value} {F : Nat → Option Obj} {H : HL} {R : Value → HL → Prop}
    (hf : P.funcs[f]? = some fn) (hb : fn.body = some c) (hn : fn.ntmps = n) (hl : Nat.ble vals.length n = true)
    (h : ∀ w0, W ⟨P, n, w0, F, none, []⟩ (bodyPost P fn (RR F w0 R)) c (argsEnv vals 0) H) : Tr P f vals.toArray F H R := by
  intro w hw
  refine calls_of_wp hf hb (wpIn_wide.1 ((h w).run _ w ⟨⟨?_, rfl, fun t v hv => ?_⟩, hw, Same.refl w⟩))
  · have := Nat.le_of_ble_eq_true hl
    simp [hn]; omega
  · obtain ⟨_, h2⟩ := look_argsEnv vals 0 t v hv
    simp only [Nat.sub_zero] at h2
    have hlt : t < vals.length := (List.getElem?_eq_some_iff.1 h2).1
    rw [Array.getElem?_append_left (by simpa using hlt)]
    simpa using h2

theorem Fin.ret_tmp {x : Cx} {fn : Func} {R : Value → HL → Prop} {env : Env} {H : HL} {t : Nat} {v : Value} (hr : fn.results = #[.tmp t]) (hv : look env t = some v) (h : R v H) (hd : x.df = [] := by rfl) : Fin x (bodyPost x.P fn (RR x.F x.w0 R)) .ret env H :=
  ⟨fun a w s => ⟨s.ev.defers.trans hd, v, by have := s.ev.env t v hv; simp [results, hr, this], v, H, rfl, h, s.hin, s.same⟩⟩
theorem Fin.end_none {x : Cx} {fn : Func} {R : Value → HL → Prop} {env : Env} {H : HL} (hr : fn.results = #[]) (h : R (.tuple #[]) H) (hd : x.df = [] := by rfl) : Fin x (bodyPost x.P fn (RR x.F x.w0 R)) .normal env H :=
  ⟨fun a w s => ⟨s.ev.defers.trans hd, .tuple #[], by simp [results, hr], _, H, rfl, h, s.hin, s.same⟩⟩
theorem Fin.ret_none {x : Cx} {fn : Func} {R : Value → HL → Prop} {env : Env} {H : HL} (hr : fn.results = #[]) (h : R (.tuple #[]) H) (hd : x.df = [] := by rfl) : Fin x (bodyPost x.P fn (RR x.F x.w0 R)) .ret env H :=
  ⟨fun a w s => ⟨s.ev.defers.trans hd, .tuple #[], by simp [results, hr], _, H, rfl, h, s.hin, s.same⟩⟩
theorem Fin.ret_tmp2 {x : Cx} {fn : Func} {R : Value → HL → Prop} {env : Env} {H : HL} {t u : Nat} {v1 v2 : Value} (hr : fn.results = #[.tmp t, .tmp u]) (hv : look env t = some v1) (hu : look env u = some v2) (h : R (.tuple #[v1, v2]) H) (hd : x.df = [] := by rfl) :
    Fin x (bodyPost x.P fn (RR x.F x.w0 R)) .ret env H :=
  ⟨fun a w s => ⟨s.ev.defers.trans hd, .tuple #[v1, v2], by have h1 := s.ev.env t v1 hv; have h2 := s.ev.env u v2 hu; simp [results, hr, h1, h2], _, H, rfl, h, s.hin, s.same⟩⟩
theorem Fin.ret_tmp3 {x : Cx} {fn : Func} {R : Value → HL → Prop} {env : Env} {H : HL} {t u s3 : Nat} {v1 v2 v3 : Value} (hr : fn.results = #[.tmp t, .tmp u, .tmp s3]) (hv : look env t = some v1) (hu : look env u = some v2) (h3 : look env s3 = some v3)
    (h : R (.tuple #[v1, v2, v3]) H) (hd : x.df = [] := by rfl) : Fin x (bodyPost x.P fn (RR x.F x.w0 R)) .ret env H :=
  ⟨fun a w s => ⟨s.ev.defers.trans hd, .tuple #[v1, v2, v3], by have h1 := s.ev.env t v1 hv; have h2 := s.ev.env u v2 hu; have h4 := s.ev.env s3 v3 h3; simp [results, hr, h1, h2, h4], _, H, rfl, h, s.hin, s.same⟩⟩

/-! ### loops -/
def LoopK (x : Cx) (K : Post) {G : Type} (I : G → Env → HL → Prop) (μ : G → Nat) (n : Nat) : Post :=
  Exit.then (fun a w => ∃ g env H, I g env H ∧ St x env H a w ∧ μ g < n) K

theorem wp_loop_ghost {F : Fence} {m : Nat} {P : Program} {Q : Post} {c : Code} {G : Type} (I : G → Act → World → Prop) (μ : G → Nat) (round : ∀ g a w, I g a w → c.wpIn F m P (Exit.then (fun a' w' => ∃ g', I g' a' w' ∧ μ g' < μ g) Q) a w) :
    ∀ g a w, I g a w → (Code.loop c).wpIn F m P Q a w := by
  intro g a w h0 b k cs hro hb hr
  have key : ∀ n g a w, μ g = n → I g a w → ∃ e a' w', Q e a' w' ∧ ArrivesIn (Machine.fenced P F) P (lone (b.atR a (.code c :: .inLoop c :: k)) cs w) b k cs e a' w' := by
    intro n
    induction n using Nat.strongRecOn with
    | _ n ih =>
      intro g a w hn hI
      obtain ⟨e, a₁, w₁, hq, harr⟩ := round g a w hI b (.inLoop c :: k) cs hro hb hr
      cases e with
      | normal =>
        obtain ⟨g', hI₁, hlt⟩ := hq
        obtain ⟨e₂, a₂, w₂, hq₂, harr₂⟩ := ih (μ g') (hn ▸ hlt) g' a₁ w₁ rfl hI₁
        exact ⟨e₂, a₂, w₂, hq₂, .of_steps (StepsIn.trans harr (.one (fenced_calm hb hr rfl) stepR_inLoop)) harr₂⟩
      | exit id => exact ⟨_, a₁, w₁, hq, .pass (x := .inLoop c) rfl (fun _ _ => .inl (by simp)) harr⟩
      | goto l => exact ⟨_, a₁, w₁, hq, .pass (x := .inLoop c) rfl (fun _ _ => .inl (by simp)) harr⟩
      | ret => exact ⟨_, a₁, w₁, hq, .pass (x := .inLoop c) rfl (fun _ _ => .inl (by simp)) harr⟩
      | panic ch => exact ⟨_, a₁, w₁, hq, .pass (x := .inLoop c) rfl (fun _ _ => .inl (by simp)) harr⟩
      | outgrown => exact ⟨_, a₁, w₁, hq, .pass (x := .inLoop c) rfl (fun _ _ => .inl (by simp)) harr⟩
  obtain ⟨e, a', w', hq, harr⟩ := key _ g a w rfl h0
  exact ⟨e, a', w', hq, .of_steps (.one (fenced_calm hb hr rfl) stepR_loop) harr⟩

/-- A loop: 'I' says at each round's head, for some ghost, which slots hold what and what is owned. -/
theorem W.loop {x : Cx} {K : Post} {env : Env} {H : HL} {c : Code} {G : Type} (E : G → Env) (Hp : G → HL) (ok : G → Prop) (μ : G → Nat) (g0 : G) (h0 : ok g0)
    (he : ∀ t v, look (E g0) t = some v → look env t = some v) (hH : ∀ w, In x.F H w → In x.F (Hp g0) w)
    (round : ∀ g, ok g → W x (Exit.then (fun a w => ∃ g', ok g' ∧ St x (E g') (Hp g') a w ∧ μ g' < μ g) K) c (E g) (Hp g)) : W x K (.loop c) env H :=
  ⟨fun a w s => wp_loop_ghost (fun g a w => ok g ∧ St x (E g) (Hp g) a w) μ
    (fun g a w ⟨hk, hs⟩ => Code.wpIn_mono (fun e a w q => by
      cases e with
      | normal => obtain ⟨g', h1, h2, h3⟩ := q; exact ⟨g', ⟨h1, h2⟩, h3⟩
      | _ => exact q) ((round g hk).run a w hs)) g0 a w ⟨h0, s.ev.sub he, hH w s.hin, s.same⟩⟩

/-- The end of a round. -/
theorem Fin.round {x : Cx} {K : Post} {env : Env} {H : HL} {G : Type} {E : G → Env} {Hp : G → HL} {ok : G → Prop} {μ : G → Nat} {n : Nat} (g' : G) (h0 : ok g')
    (he : ∀ t v, look (E g') t = some v → look env t = some v) (hH : ∀ w, In x.F H w → In x.F (Hp g') w) (hm : μ g' < n) :
    Fin x (Exit.then (fun a w => ∃ g', ok g' ∧ St x (E g') (Hp g') a w ∧ μ g' < n) K) .normal env H :=
  ⟨fun _ w s => ⟨g', h0, ⟨s.ev.sub he, hH w s.hin, s.same⟩, hm⟩⟩

/-- One list of slots says no more than another: slot by slot. -/
def subEnv (small big : Env) : Prop := ∀ p ∈ small, look big p.1 = some p.2
theorem sub_of {small big : Env} (h : subEnv small big) : ∀ t v, look small t = some v → look big t = some v := by
  intro t v hv
  have : ∀ (l : Env), look l t = some v → (t, v) ∈ l := by
    intro l
    induction l with
    | nil => intro h; simp [look] at h
    | cons p l ih =>
      obtain ⟨k, u⟩ := p
      intro h
      rw [look_cons] at h
      by_cases hk : k = t
      · subst hk; simp at h; subst h; exact List.mem_cons_self
      · simp only [if_neg hk] at h; exact List.mem_cons_of_mem _ (ih h)
  exact h _ (this small hv)
theorem subEnv.nil {big : Env} : subEnv [] big := fun _ h => nomatch h
theorem subEnv.cons {t : Nat} {v : Value} {s big : Env} (h : look big t = some v) (hs : subEnv s big) : subEnv ((t, v) :: s) big := fun p hp => by
  cases hp with
  | head => exact h
  | tail _ hp => exact hs p hp

end Go.Sl
