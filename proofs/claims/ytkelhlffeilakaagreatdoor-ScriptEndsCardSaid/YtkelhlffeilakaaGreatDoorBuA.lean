/- Some texts as one. A small program logic over the model's wp: the heap that a call owns is a list of blocks, the rest is a frame that it may read. No conditions: laws only. The logic's rules for single operations: what each yields, over owned blocks and over the frame. No conditions: laws only. A region that draws its order: one walk in the text's order serves every order, if what may be exchanged reads nothing that is written meanwhile. No conditions: laws only. The logic's rules for maps whose keys are integers: look-up, store, delete, and the walk over all entries in whatever order. No conditions: laws only. The logic's rules for slices: append to a slice that is owned, literals of slices and structs, make, parts of slices. No conditions: laws only. -/
import Derived.Calls
import Derived.Tactics
import Derived.Orders
import Derived.Laws.Sem
import Derived.RangeFuncLeaves
import Derived.RangeFuncCalls
import Derived.TacticsIn
import Derived.Laws.Rows
import Derived.Laws.CopyRow
import Derived.Laws.Entries
import Derived.OrdersIn
import Derived.Laws.AppendOwn
namespace Go.Sl
open Go

abbrev Env := List (Nat × Value)
abbrev HL := List (Nat × Obj)

def look : Env → Nat → Option Value
  | [], _ => none
  | (k, v) :: r, t => match Nat.beq k t with
    | true => some v
    | false => look r t

/-- what is kept of the count of draws: nothing (a library contract may say nothing of it) -/
def Drn (_ _ : World) : Prop := True
theorem Drn.any {w w' : World} : Drn w w' := trivial
theorem Drn.of {w w' : World} (_ : w.drawn ≤ w'.drawn) : Drn w w' := trivial
theorem Drn.tr {a b c : World} (_ : Drn a b) (_ : Drn b c) : Drn a c := trivial
theorem Drn.up {w w' : World} {n : Nat} (_ : Drn w w') : Drn w { w' with drawn := w'.drawn + n } := trivial
structure Same (w w' : World) : Prop where
  os : w'.os = w.os
  tape : w'.tape = w.tape
  output : w'.output = w.output
  size : w.heap.size ≤ w'.heap.size
  drawn : Drn w w'

theorem Same.refl (w : World) : Same w w := ⟨rfl, rfl, rfl, Nat.le_refl _, .of (Nat.le_refl _)⟩
theorem Same.trans {a b c : World} (h : Same a b) (k : Same b c) : Same a c :=
  ⟨k.os.trans h.os, k.tape.trans h.tape, k.output.trans h.output, Nat.le_trans h.size k.size, h.drawn.tr k.drawn⟩

/-- The blocks of H are owned, and what F names lies there too. -/
structure In (F : Nat → Option Obj) (H : HL) (w : World) : Prop where
  nd : (H.map (·.1)).Nodup
  own : ∀ p ∈ H, w.heap[p.1]? = some p.2
  fr : ∀ b o, F b = some o → w.heap[b]? = some o
  dj : ∀ p ∈ H, F p.1 = none

structure Cx where
  P : Program
  n : Nat
  w0 : World
  F : Nat → Option Obj
  rd : Option Nat := none
  df : List Deferred := []
def fenceR (rd : Option Nat) : Fence := { Fence.wide with round := rd }
abbrev Cx.fc (x : Cx) : Fence := fenceR x.rd

structure Ev (x : Cx) (env : Env) (a : Act) : Prop where
  size : a.tmps.size = x.n
  defers : a.defers = x.df
  env : ∀ t v, look env t = some v → a.tmps[t]? = some v

structure St (x : Cx) (env : Env) (H : HL) (a : Act) (w : World) : Prop where
  ev : Ev x env a
  hin : In x.F H w
  same : Same x.w0 w

def ev (env : Env) : Operand → Option Value
  | .tmp t => look env t
  | .const v => some v
  | .global g => some (.pointer (some ⟨g, 0, none⟩))
  | .func f => some (.func (.func f) #[] #[])

theorem Ev.eval {x : Cx} {env : Env} {a : Act} (h : Ev x env a) {o : Operand} {v : Value} (ho : ev env o = some v) : a.eval o = v := by
  cases o with
  | tmp t => have := h.env t v ho; simp [Act.eval, this]
  | const u => simpa [ev, Act.eval] using ho
  | global g => simpa [ev, Act.eval] using ho
  | func f => simpa [ev, Act.eval] using ho

theorem look_cons (k : Nat) (v : Value) (env : Env) (t : Nat) : look ((k, v) :: env) t = if k = t then some v else look env t := by
  by_cases h : k = t
  · subst h; simp [look]
  · have : Nat.beq k t = false := by
      cases hb : Nat.beq k t with
      | false => rfl
      | true => exact absurd (Nat.eq_of_beq_eq_true hb) h
    simp [look, this, h]

theorem Ev.put {x : Cx} {env : Env} {a : Act} (h : Ev x env a) {d : Nat} (hd : d < x.n) (v : Value) : Ev x ((d, v) :: env) (a.put (some d) v) := by
  refine ⟨by simp [Act.put, h.size], by simp [Act.put, h.defers], fun t u hu => ?_⟩
  rw [look_cons] at hu
  by_cases hk : d = t
  · subst hk
    simp at hu
    subst hu
    simp [Act.put, h.size, hd]
  · simp only [if_neg hk] at hu
    simp [Act.put, Array.getElem?_setIfInBounds_ne hk, h.env t u hu]

theorem Ev.sub {x : Cx} {env env' : Env} {a : Act} (h : Ev x env a) (hs : ∀ t v, look env' t = some v → look env t = some v) : Ev x env' a :=
  ⟨h.size, h.defers, fun t v hv => h.env t v (hs t v hv)⟩

/-! ### judgements -/
abbrev Post := Exit → Act → World → Prop

structure W (x : Cx) (K : Post) (c : Code) (env : Env) (H : HL) : Prop where
  run : ∀ a w, St x env H a w → c.wpIn x.fc 0 x.P K a w
structure WL (x : Cx) (K : Post) (ops : Array Oper) (l : List Oper) (env : Env) (H : HL) : Prop where
  run : ∀ a w, St x env H a w → wpListIn x.fc 0 x.P ops K l a w
structure Fin (x : Cx) (K : Post) (e : Exit) (env : Env) (H : HL) : Prop where
  run : ∀ a w, St x env H a w → K e a w

section
variable {x : Cx} {K : Post} {env : Env} {H : HL}

def Kseq (x : Cx) (q : Code) (K : Post) : Post := Exit.then (q.wpIn x.fc 0 x.P K) K
theorem W.seq {p q : Code} (h : W x (Kseq x q K) p env H) : W x K (.seq p q) env H := ⟨fun a w s => wpIn_seq (h.run a w s)⟩
theorem W.block {id : Nat} {c : Code} (h : W x (Exit.inBlock id K) c env H) : W x K (.block id c) env H := ⟨fun a w s => wpIn_block (h.run a w s)⟩
theorem W.skip (h : Fin x K .normal env H) : W x K .skip env H := ⟨fun a w s => wpIn_skip (h.run a w s)⟩
theorem W.exit {id : Nat} (h : Fin x K (.exit id) env H) : W x K (.exit id) env H := ⟨fun a w s => wpIn_exit (h.run a w s)⟩
theorem W.ret (h : Fin x K .ret env H) : W x K .ret env H := ⟨fun a w s => wpIn_ret (h.run a w s)⟩
theorem W.region {id : Nat} {l : List Oper} (h : WL x K l.toArray l env H) : W x K (.region id l.toArray false) env H := ⟨fun a w s => wpIn_region_lit (h.run a w s)⟩
theorem W.cond {c : Operand} {p q : Code} {b : Bool} (hc : ev env c = some (.bool b)) (ht : b = true → W x K p env H) (hf : b = false → W x K q env H) : W x K (.cond c p q) env H :=
  ⟨fun a w s => wpIn_cond_split (s.ev.eval hc) (fun h => (ht h).run a w s) (fun h => (hf h).run a w s)⟩
theorem W.cond_t {c : Operand} {p q : Code} (hc : ev env c = some (.bool true)) (ht : W x K p env H) : W x K (.cond c p q) env H :=
  ⟨fun a w s => wpIn_cond_true (s.ev.eval hc) (ht.run a w s)⟩
theorem W.cond_f {c : Operand} {p q : Code} (hc : ev env c = some (.bool false)) (ht : W x K q env H) : W x K (.cond c p q) env H :=
  ⟨fun a w s => wpIn_cond_false (s.ev.eval hc) (ht.run a w s)⟩

theorem WL.nil {ops : Array Oper} (h : Fin x K .normal env H) : WL x K ops [] env H := ⟨h.run⟩
theorem Fin.next {q : Code} (h : W x K q env H) : Fin x (Kseq x q K) .normal env H := ⟨h.run⟩
theorem Fin.seq_exit {q : Code} {id : Nat} (h : Fin x K (.exit id) env H) : Fin x (Kseq x q K) (.exit id) env H := ⟨h.run⟩
theorem Fin.seq_ret {q : Code} (h : Fin x K .ret env H) : Fin x (Kseq x q K) .ret env H := ⟨h.run⟩
theorem Fin.then_exit {n : Act → World → Prop} {id : Nat} (h : Fin x K (.exit id) env H) : Fin x (Exit.then n K) (.exit id) env H := ⟨h.run⟩
theorem Fin.then_ret {n : Act → World → Prop} (h : Fin x K .ret env H) : Fin x (Exit.then n K) .ret env H := ⟨h.run⟩
theorem Fin.block_normal {id : Nat} (h : Fin x K .normal env H) : Fin x (Exit.inBlock id K) .normal env H := ⟨h.run⟩
theorem Fin.block_ret {id : Nat} (h : Fin x K .ret env H) : Fin x (Exit.inBlock id K) .ret env H := ⟨h.run⟩
theorem Fin.block_exit {id : Nat} (h : Fin x K .normal env H) : Fin x (Exit.inBlock id K) (.exit id) env H := ⟨fun a w s => by
  simp only [Exit.inBlock, if_true]; exact h.run a w s⟩
theorem Fin.block_other {id id' : Nat} (hne : Nat.beq id' id = false) (h : Fin x K (.exit id') env H) : Fin x (Exit.inBlock id K) (.exit id') env H := ⟨fun a w s => by
  have : id' ≠ id := fun e => by subst e; simp at hne
  simp only [Exit.inBlock, if_neg this]; exact h.run a w s⟩

/-! ### forgetting -/
theorem W.weak {c : Code} {env' : Env} {H' : HL} (he : ∀ t v, look env' t = some v → look env t = some v) (hH : ∀ w, In x.F H w → In x.F H' w) (h : W x K c env' H') : W x K c env H :=
  ⟨fun a w s => h.run a w ⟨s.ev.sub he, hH w s.hin, s.same⟩⟩
theorem WL.weak {ops : Array Oper} {l : List Oper} {H' : HL} (hH : ∀ w, In x.F H w → In x.F H' w) (h : WL x K ops l env H') : WL x K ops l env H :=
  ⟨fun a w s => h.run a w ⟨s.ev, hH w s.hin, s.same⟩⟩
end

/-! ### the heap's list -/
theorem In.perm {F : Nat → Option Obj} {H H' : HL} {w : World} (hp : H.Perm H') (h : In F H w) : In F H' w :=
  ⟨(hp.map _).nodup_iff.1 h.nd, fun p hp' => h.own p (hp.mem_iff.2 hp'), h.fr, fun p hp' => h.dj p (hp.mem_iff.2 hp')⟩
theorem In.sublist {F : Nat → Option Obj} {H H' : HL} {w : World} (hp : H'.Sublist H) (h : In F H w) : In F H' w :=
  ⟨h.nd.sublist (hp.map _), fun p hp' => h.own p (hp.mem hp'), h.fr, fun p hp' => h.dj p (hp.mem hp')⟩
theorem In.right {F : Nat → Option Obj} {H H' : HL} {w : World} (h : In F (H ++ H') w) : In F H' w := h.sublist (List.sublist_append_right _ _)
theorem In.left {F : Nat → Option Obj} {H H' : HL} {w : World} (h : In F (H ++ H') w) : In F H w := h.sublist (List.sublist_append_left _ _)

/-- F with the blocks of a list beside it. -/
def addF (F : Nat → Option Obj) (H : HL) (b : Nat) : Option Obj := match H.find? (fun p => p.1 == b) with | some p => some p.2 | none => F b

theorem find?_of_mem {H : HL} (hn : (H.map (·.1)).Nodup) {p : Nat × Obj} (hp : p ∈ H) : H.find? (fun q => q.1 == p.1) = some p := by
  induction H with
  | nil => cases hp
  | cons q H ih =>
    simp only [List.map_cons, List.nodup_cons] at hn
    cases hp with
    | head => simp
    | tail _ hp =>
      have hne : q.1 ≠ p.1 := fun e => hn.1 (List.mem_map.2 ⟨p, hp, e.symm⟩)
      rw [List.find?_cons_of_neg (by simpa using hne)]
      exact ih hn.2 hp

theorem addF_ro {F : Nat → Option Obj} {H : HL} (hd : ∀ p ∈ H, F p.1 = none) {b : Nat} {o : Obj} (h : F b = some o) : addF F H b = some o := by
  unfold addF
  cases hf : H.find? (fun p => p.1 == b) with
  | none => exact h
  | some p =>
    have h1 := List.mem_of_find?_eq_some hf
    have h2 : p.1 = b := by simpa using List.find?_some hf
    have := hd p h1
    rw [h2, h] at this
    cases this

/-- The frame rule: the rest of the list goes into the frame. -/
theorem In.focus {F : Nat → Option Obj} {H Hr : HL} {w : World} (h : In F (H ++ Hr) w) : In (addF F Hr) H w := by
  have hnd := h.nd
  rw [List.map_append, List.nodup_append] at hnd
  refine ⟨hnd.1, fun p hp => h.own p (List.mem_append_left _ hp), fun b o hb => ?_, fun p hp => ?_⟩
  · unfold addF at hb
    split at hb
    · rename_i p hf
      cases hb
      have h1 := List.mem_of_find?_eq_some hf
      have h2 : p.1 = b := by simpa using List.find?_some hf
      rw [← h2]; exact h.own p (List.mem_append_right _ h1)
    · exact h.fr b o hb
  · unfold addF
    split
    · rename_i q hf
      have h1 := List.mem_of_find?_eq_some hf
      have h2 : q.1 = p.1 := by simpa using List.find?_some hf
      exact absurd h2.symm (hnd.2.2 p.1 (List.mem_map.2 ⟨p, hp, rfl⟩) q.1 (List.mem_map.2 ⟨q, h1, rfl⟩))
    · exact h.dj p (List.mem_append_left _ hp)

theorem In.unfocus {F : Nat → Option Obj} {H' Hr : HL} {w w' : World} {H : HL} (h0 : In F (H ++ Hr) w) (h : In (addF F Hr) H' w') : In F (H' ++ Hr) w' := by
  have hr : In F Hr w := h0.right
  have key : ∀ p ∈ Hr, addF F Hr p.1 = some p.2 := fun p hp => by
    unfold addF; rw [find?_of_mem hr.nd hp]
  refine ⟨?_, fun p hp => ?_, fun b o hb => h.fr b o (addF_ro hr.dj hb), fun p hp => ?_⟩
  · rw [List.map_append, List.nodup_append]
    refine ⟨h.nd, hr.nd, fun a ha b hb e => ?_⟩
    subst e
    obtain ⟨p, hp, rfl⟩ := List.mem_map.1 ha
    obtain ⟨q, hq, he⟩ := List.mem_map.1 hb
    have h1 := h.dj p hp
    rw [← he, key q hq] at h1
    cases h1
  · rcases List.mem_append.1 hp with hp | hp
    · exact h.own p hp
    · exact h.fr _ _ (key p hp)
  · rcases List.mem_append.1 hp with hp | hp
    · have h1 := h.dj p hp
      cases hF : F p.1 with
      | none => rfl
      | some o => rw [addF_ro hr.dj hF] at h1; cases h1
    · exact hr.dj p hp

/-! ### contracts -/
def RR (F : Nat → Option Obj) (w0 : World) (R : Value → HL → Prop) : Ending → World → Prop := fun e w' => ∃ v H', e = .returned v ∧ R v H' ∧ In F H' w' ∧ Same w0 w'

/-- A call: it returns; what it owned behind the call; the frame is as it was. -/
def Tr (P : Program) (f : FuncId) (args : Array Value) (F : Nat → Option Obj) (H : HL) (R : Value → HL → Prop) : Prop :=
  ∀ w, In F H w → Calls P f args w (RR F w R)

theorem Tr.mono {P : Program} {f : FuncId} {args : Array Value} {F : Nat → Option Obj} {H : HL} {R R' : Value → HL → Prop} (h : Tr P f args F H R) (hr : ∀ v H', R v H' → R' v H') : Tr P f args F H R' :=
  fun w hw => (h w hw).mono fun _ _ ⟨v, H', he, hR, hi, hs⟩ => ⟨v, H', he, hr v H' hR, hi, hs⟩

theorem Tr.frame {P : Program} {f : FuncId} {args : Array Value} {F : Nat → Option Obj} {H Hr : HL} {R : Value → HL → Prop} (h : Tr P f args (addF F Hr) H R) {w : World} (hw : In F (H ++ Hr) w) :
    Calls P f args w fun e w' => ∃ v H', e = .returned v ∧ R v H' ∧ In F (H' ++ Hr) w' ∧ Same w w' :=
  (h w hw.focus).mono fun _ _ ⟨v, H', he, hR, hi, hs⟩ => ⟨v, H', he, hR, hw.unfocus hi, hs⟩

def argsEnv : List Value → Nat → Env
  | [], _ => []
  | v :: r, i => (i, v) :: argsEnv r (i + 1)

theorem look_argsEnv (l : List Value) (i t : Nat) (v : Value) (h : look (argsEnv l i) t = some v) : i ≤ t ∧ l[t - i]? = some v := by
  induction l generalizing i with
  | nil => simp [argsEnv, look] at h
  | cons u r ih =>
    rw [argsEnv, look_cons] at h
    by_cases hk : i = t
    · subst hk; simp at h; subst h; simp
    · simp only [if_neg hk] at h
      obtain ⟨h1, h2⟩ := ih (i + 1) h
      refine ⟨by omega, ?_⟩
      have : t - i = (t - (i + 1)) + 1 := by omega
      rw [this]; simpa using h2

theorem Tr.enter {P : Program} {f : FuncId} {fn : Func} {c : Code} {n : Nat} {vals : List Value} {F : Nat → Option Obj} {H : HL} {R : Value → HL → Prop}
    (hf : P.funcs[f]? = some fn) (hb : fn.body = some c) (hn : fn.ntmps = n) (hl : Nat.ble vals.length n = true)
    (h : ∀ w0, W ⟨P, n, w0, F, none, []⟩ (bodyPost P fn (RR F w0 R)) c (argsEnv vals 0) H) : Tr P f vals.toArray F H R := by
  intro w hw
  refine calls_of_wp hf hb (wpIn_wide.1 ((h w).run _ w ⟨⟨?_, rfl, fun t v hv => ?_⟩, hw, Same.refl w⟩))
  · have := Nat.le_of_ble_eq_true hl
    simp [hn]; omega
  · obtain ⟨_, h2⟩ := look_argsEnv vals 0 t v hv
    simp only [Nat.sub_zero] at h2
    have hlt : t < vals.length := (List.getElem?_eq_some_iff.1 h2).1
    rw [Array.getElem?_append_left (by simpa using hlt)]
    simpa using h2

/-! ### loops -/
theorem wp_loop_ghost {F : Fence} {m : Nat} {P : Program} {Q : Post} {c : Code} {G : Type} (I : G → Act → World → Prop) (μ : G → Nat) (round : ∀ g a w, I g a w → c.wpIn F m P (Exit.then (fun a' w' => ∃ g', I g' a' w' ∧ μ g' < μ g) Q) a w) :
    ∀ g a w, I g a w → (Code.loop c).wpIn F m P Q a w := by
  intro g a w h0 b k cs hro hb hr
  have key : ∀ n g a w, μ g = n → I g a w → ∃ e a' w', Q e a' w' ∧ ArrivesIn (Machine.fenced P F) P (lone (b.atR a (.code c :: .inLoop c :: k)) cs w) b k cs e a' w' := by
    intro n
    induction n using Nat.strongRecOn with
    | _ n ih =>
      intro g a w hn hI
      obtain ⟨e, a₁, w₁, hq, harr⟩ := round g a w hI b (.inLoop c :: k) cs hro hb hr
      cases e with
      | normal =>
        obtain ⟨g', hI₁, hlt⟩ := hq
        obtain ⟨e₂, a₂, w₂, hq₂, harr₂⟩ := ih (μ g') (hn ▸ hlt) g' a₁ w₁ rfl hI₁
        exact ⟨e₂, a₂, w₂, hq₂, .of_steps (StepsIn.trans harr (.one (fenced_calm hb hr rfl) stepR_inLoop)) harr₂⟩
      | exit id => exact ⟨_, a₁, w₁, hq, .pass (x := .inLoop c) rfl (fun _ _ => .inl (by simp)) harr⟩
      | goto l => exact ⟨_, a₁, w₁, hq, .pass (x := .inLoop c) rfl (fun _ _ => .inl (by simp)) harr⟩
      | ret => exact ⟨_, a₁, w₁, hq, .pass (x := .inLoop c) rfl (fun _ _ => .inl (by simp)) harr⟩
      | panic ch => exact ⟨_, a₁, w₁, hq, .pass (x := .inLoop c) rfl (fun _ _ => .inl (by simp)) harr⟩
      | outgrown => exact ⟨_, a₁, w₁, hq, .pass (x := .inLoop c) rfl (fun _ _ => .inl (by simp)) harr⟩
  obtain ⟨e, a', w', hq, harr⟩ := key _ g a w rfl h0
  exact ⟨e, a', w', hq, .of_steps (.one (fenced_calm hb hr rfl) stepR_loop) harr⟩

/-- A loop: 'I' says at each round's head, for some ghost, which slots hold what and what is owned. -/
theorem W.loop {x : Cx} {K : Post} {env : Env} {H : HL} {c : Code} {G : Type} (E : G → Env) (Hp : G → HL) (ok : G → Prop) (μ : G → Nat) (g0 : G) (h0 : ok g0)
    (he : ∀ t v, look (E g0) t = some v → look env t = some v) (hH : ∀ w, In x.F H w → In x.F (Hp g0) w)
    (round : ∀ g, ok g → W x (Exit.then (fun a w => ∃ g', ok g' ∧ St x (E g') (Hp g') a w ∧ μ g' < μ g) K) c (E g) (Hp g)) : W x K (.loop c) env H :=
  ⟨fun a w s => wp_loop_ghost (fun g a w => ok g ∧ St x (E g) (Hp g) a w) μ
    (fun g a w ⟨hk, hs⟩ => Code.wpIn_mono (fun e a w q => by
      cases e with
      | normal => obtain ⟨g', h1, h2, h3⟩ := q; exact ⟨g', ⟨h1, h2⟩, h3⟩
      | _ => exact q) ((round g hk).run a w hs)) g0 a w ⟨h0, s.ev.sub he, hH w s.hin, s.same⟩⟩

/-- The end of a round. -/
theorem Fin.round {x : Cx} {K : Post} {env : Env} {H : HL} {G : Type} {E : G → Env} {Hp : G → HL} {ok : G → Prop} {μ : G → Nat} {n : Nat} (g' : G) (h0 : ok g')
    (he : ∀ t v, look (E g') t = some v → look env t = some v) (hH : ∀ w, In x.F H w → In x.F (Hp g') w) (hm : μ g' < n) :
    Fin x (Exit.then (fun a w => ∃ g', ok g' ∧ St x (E g') (Hp g') a w ∧ μ g' < n) K) .normal env H :=
  ⟨fun _ w s => ⟨g', h0, ⟨s.ev.sub he, hH w s.hin, s.same⟩, hm⟩⟩

/-- One list of slots says no more than another: slot by slot. -/
def subEnv (small big : Env) : Prop := ∀ p ∈ small, look big p.1 = some p.2
theorem sub_of {small big : Env} (h : subEnv small big) : ∀ t v, look small t = some v → look big t = some v := by
  intro t v hv
  have : ∀ (l : Env), look l t = some v → (t, v) ∈ l := by
    intro l
    induction l with
    | nil => intro h; simp [look] at h
    | cons p l ih =>
      obtain ⟨k, u⟩ := p
      intro h
      rw [look_cons] at h
      by_cases hk : k = t
      · subst hk; simp at h; subst h; exact List.mem_cons_self
      · simp only [if_neg hk] at h; exact List.mem_cons_of_mem _ (ih h)
  exact h _ (this small hv)
theorem subEnv.nil {big : Env} : subEnv [] big := fun _ h => nomatch h
theorem subEnv.cons {t : Nat} {v : Value} {s big : Env} (h : look big t = some v) (hs : subEnv s big) : subEnv ((t, v) :: s) big := fun p hp => by
  cases hp with
  | head => exact h
  | tail _ hp => exact hs p hp

end Go.Sl
namespace Go.Sl
open Go

/-- An operation's run yields a value, and no other end. -/
def Yr (P : Program) (R : Value → World → Prop) : Result Next → Prop
  | .ok (.value v) w => R v w
  | .ok .skip w => R undef w
  | .ok (.enter f args) w => Calls P f args w (fun e w' => ∃ v, e = .returned v ∧ R v w')
  | .ok (.round l f tmps as bd) w => RoundIn Fence.wide 0 P l f tmps as bd w (fun e w' => ∃ v, e = .returned v ∧ R v w')
  | _ => False
def yields (P : Program) (o : Oper) (a : Act) (w : World) (R : Value → World → Prop) : Prop := Yr P R ((execOp a.eval o).run P w)

theorem Yr.mono {P : Program} {R R' : Value → World → Prop} (h : ∀ v w, R v w → R' v w) {r : Result Next} (hy : Yr P R r) : Yr P R' r := by
  cases r with
  | ok n w =>
    cases n <;> simp only [Yr] at hy ⊢ <;> first
      | exact h _ _ hy
      | exact Calls.mono hy (fun e w' ⟨v, he, hR⟩ => ⟨v, he, h v w' hR⟩)
      | exact RoundIn.mono hy (fun e w' ⟨v, he, hR⟩ => ⟨v, he, h v w' hR⟩)
  | halt y w => simp only [Yr] at hy
theorem Yr.ex {P : Program} {R : Value → World → Prop} {r : Result Next} (hy : Yr P R r) : ∃ v w, R v w := by
  cases r with
  | ok n w =>
    cases n <;> simp only [Yr] at hy <;> first
      | exact ⟨_, _, hy⟩
      | (obtain ⟨e, w', fr, ⟨v, he, hR⟩, _⟩ := hy []; exact ⟨v, w', hR⟩)
      | (obtain ⟨e, w', ⟨v, he, hR⟩, _⟩ := hy.2 default [] (fun _ h => by cases h); exact ⟨v, w', hR⟩)
  | halt y w => simp only [Yr] at hy

structure Pu (x : Cx) (env : Env) (o : Oper) (v : Value) : Prop where
  run : ∀ a, Ev x env a → ∀ w, (execOp a.eval o).run x.P w = .ok (.value v) w
structure Rd (x : Cx) (env : Env) (H : HL) (o : Oper) (v : Value) : Prop where
  run : ∀ a w, Ev x env a → In x.F H w → (execOp a.eval o).run x.P w = .ok (.value v) w
structure Ef (x : Cx) (env : Env) (H : HL) (o : Oper) (R : Value → HL → Prop) : Prop where
  run : ∀ a w, Ev x env a → In x.F H w → yields x.P o a w (fun v w' => ∃ H', R v H' ∧ In x.F H' w' ∧ Same w w')

theorem Pu.rd {x : Cx} {env : Env} {H : HL} {o : Oper} {v : Value} (h : Pu x env o v) : Rd x env H o v := ⟨fun a w he _ => h.run a he w⟩

theorem yields_of_run {P : Program} {o : Oper} {a : Act} {w w' : World} {R : Value → World → Prop} {v : Value} (hr : (execOp a.eval o).run P w = .ok (.value v) w') (h : R v w') : yields P o a w R := by
  unfold yields; rw [hr]; exact h
theorem yields_of_skip {P : Program} {o : Oper} {a : Act} {w w' : World} {R : Value → World → Prop} (hr : (execOp a.eval o).run P w = .ok .skip w') (h : R undef w') : yields P o a w R := by
  unfold yields; rw [hr]; exact h

section
variable {x : Cx} {K : Post} {env : Env} {H : HL} {ops : Array Oper} {rest : List Oper}

theorem semAt_yields {P : Program} {rd : Option Nat} {o : Oper} {a : Act} {w : World} {R : Value → World → Prop} (hy : yields P o a w R) : o.semAt (fenceR rd).round a.eval = execOp a.eval o := by
  cases hr : (fenceR rd).round with
  | none => rfl
  | some l =>
    refine Oper.semAt_some l a.eval o (fun c hc => ?_)
    obtain ⟨dst, op, ty, pos, aft, gd⟩ := o
    simp only at hc
    subst hc
    unfold yields at hy
    simp only [execOp, Sem.run_bind] at hy
    cases hd : (resolve a.eval c ty).run P w with
    | ok d w' => rw [hd] at hy; exact hy
    | halt y w' => rw [hd] at hy; exact hy
theorem wpIn_of_yields {P : Program} {rd : Option Nat} {o : Oper} {a : Act} {w : World} {K' : Act → World → Prop} {Q : Post} {R : Value → World → Prop} (hy : yields P o a w R) (h : ∀ v w', R v w' → K' (a.put o.dst v) w') : o.wpIn (fenceR rd) 0 P a w K' Q := by
  refine ⟨fun _ _ => trivial, ?_⟩
  rw [semAt_yields hy]
  unfold yields at hy
  generalize (execOp a.eval o).run P w = r at hy ⊢
  cases r with
  | ok n w' =>
    cases n <;> simp only [Yr] at hy <;> simp only [Oper.uponIn] <;> first
      | exact h _ _ hy
      | exact ⟨(fun h => by cases h), (callsIn_wide (n := 0 - 1)).2 (Calls.mono hy (fun e w'' ⟨v, he, hR⟩ => by subst he; exact h v w'' hR))⟩
      | exact ⟨(fun h => by cases h), RoundIn.mono (F := Fence.wide) (n := 0) hy (fun e w'' ⟨v, he, hR⟩ => by subst he; exact h v w'' hR)⟩
  | halt y w' => simp only [Yr] at hy
theorem wpList_yields {o : Oper} {a : Act} {w : World} (hg : o.guard = none) {R : Value → World → Prop} (hy : yields x.P o a w R) (h : ∀ v w', R v w' → wpListIn x.fc 0 x.P ops K rest (a.put o.dst v) w') : wpListIn x.fc 0 x.P ops K (o :: rest) a w :=
  wpListIn_plain hg fun _ hK => wpIn_of_yields hy fun v w' hR => hK _ _ (h v w' hR)

theorem WL.p {d : Nat} {op : Op} {ty : TypeId} {pos : String} {aft : Array Edge} {v : Value} (hn : Nat.blt d x.n = true) (h : Pu x env ⟨some d, op, ty, pos, aft, none⟩ v) (next : WL x K ops rest ((d, v) :: env) H) :
    WL x K ops (⟨some d, op, ty, pos, aft, none⟩ :: rest) env H := ⟨fun a w s =>
  wpList_yields rfl (R := fun u w' => u = v ∧ w' = w) (yields_of_run (h.run a s.ev w) ⟨rfl, rfl⟩) (by
    rintro u w' ⟨rfl, rfl⟩
    exact next.run _ _ ⟨s.ev.put (Nat.le_of_ble_eq_true hn) u, s.hin, s.same⟩)⟩
theorem WL.s {d : Nat} {op : Op} {ty : TypeId} {pos : String} {aft : Array Edge} {v : Value} (hn : Nat.blt d x.n = true) (h : Rd x env H ⟨some d, op, ty, pos, aft, none⟩ v) (next : WL x K ops rest ((d, v) :: env) H) :
    WL x K ops (⟨some d, op, ty, pos, aft, none⟩ :: rest) env H := ⟨fun a w s =>
  wpList_yields rfl (R := fun u w' => u = v ∧ w' = w) (yields_of_run (h.run a w s.ev s.hin) ⟨rfl, rfl⟩) (by
    rintro u w' ⟨rfl, rfl⟩
    exact next.run _ _ ⟨s.ev.put (Nat.le_of_ble_eq_true hn) u, s.hin, s.same⟩)⟩
theorem WL.e {d : Nat} {op : Op} {ty : TypeId} {pos : String} {aft : Array Edge} {R : Value → HL → Prop} (hn : Nat.blt d x.n = true) (h : Ef x env H ⟨some d, op, ty, pos, aft, none⟩ R) (next : ∀ v H', R v H' → WL x K ops rest ((d, v) :: env) H') :
    WL x K ops (⟨some d, op, ty, pos, aft, none⟩ :: rest) env H := ⟨fun a w s =>
  wpList_yields rfl (h.run a w s.ev s.hin) (by
    rintro u w' ⟨H', hR, hi, hs⟩
    exact (next u H' hR).run _ _ ⟨s.ev.put (Nat.le_of_ble_eq_true hn) u, hi, s.same.trans hs⟩)⟩
theorem WL.e0 {op : Op} {ty : TypeId} {pos : String} {aft : Array Edge} {R : Value → HL → Prop} (h : Ef x env H ⟨none, op, ty, pos, aft, none⟩ R) (next : ∀ v H', R v H' → WL x K ops rest env H') :
    WL x K ops (⟨none, op, ty, pos, aft, none⟩ :: rest) env H := ⟨fun a w s =>
  wpList_yields rfl (h.run a w s.ev s.hin) (by
    rintro u w' ⟨H', hR, hi, hs⟩
    exact (next u H' hR).run _ _ ⟨s.ev, hi, s.same.trans hs⟩)⟩

/-! guards -/
def gslot (ops : Array Oper) (j : Nat) : Option Nat := (ops[j]?).bind (·.dst)
theorem yielded_of {a : Act} (he : Ev x env a) {j t : Nat} {v : Value} (hj : gslot ops j = some t) (hv : look env t = some v) : yielded ops a.tmps j = (match v with | .bool b => some b | _ => none) := by
  have hj' : (ops[j]?).bind (·.dst) = some t := hj
  have := he.env t v hv
  unfold yielded
  rw [hj']
  simp only [Option.bind_some, this]
  cases v <;> rfl
theorem WL.g_yes {dst : Option Nat} {op : Op} {ty : TypeId} {pos : String} {aft : Array Edge} {j t : Nat} {b : Bool} (hj : gslot ops j = some t) (hv : look env t = some (.bool b))
    (next : WL x K ops (⟨dst, op, ty, pos, aft, none⟩ :: rest) env H) : WL x K ops (⟨dst, op, ty, pos, aft, some (j, b)⟩ :: rest) env H := ⟨fun a w s => by
  have h := next.run a w s
  have hw : Region.wanted ⟨dst, op, ty, pos, aft, some (j, b)⟩ (yielded ops a.tmps) = true := by simp [Region.wanted, yielded_of s.ev hj hv]
  unfold wpListIn at h ⊢
  rw [if_pos (by simp [Region.wanted])] at h
  rw [if_pos hw]
  exact h⟩
theorem WL.g_no {d : Nat} {op : Op} {ty : TypeId} {pos : String} {aft : Array Edge} {j t : Nat} {b c : Bool} (hn : Nat.blt d x.n = true) (hj : gslot ops j = some t) (hv : look env t = some (.bool c)) (hc : c = !b)
    (next : WL x K ops rest ((d, undef) :: env) H) : WL x K ops (⟨some d, op, ty, pos, aft, some (j, b)⟩ :: rest) env H := ⟨fun a w s => by
  have hw : Region.wanted ⟨some d, op, ty, pos, aft, some (j, b)⟩ (yielded ops a.tmps) = false := by
    simp only [Region.wanted, yielded_of s.ev hj hv, hc]; cases b <;> rfl
  unfold wpListIn
  rw [if_neg (by simp [hw])]
  exact ⟨fun _ _ => trivial, next.run _ _ ⟨s.ev.put (Nat.le_of_ble_eq_true hn) undef, s.hin, s.same⟩⟩⟩
theorem WL.g_undef {d : Nat} {op : Op} {ty : TypeId} {pos : String} {aft : Array Edge} {j t : Nat} {b : Bool} (hn : Nat.blt d x.n = true) (hj : gslot ops j = some t) (hv : look env t = some undef)
    (next : WL x K ops rest ((d, undef) :: env) H) : WL x K ops (⟨some d, op, ty, pos, aft, some (j, b)⟩ :: rest) env H := ⟨fun a w s => by
  have hw : Region.wanted ⟨some d, op, ty, pos, aft, some (j, b)⟩ (yielded ops a.tmps) = false := by
    simp only [Region.wanted, yielded_of s.ev hj hv]; rfl
  unfold wpListIn
  rw [if_neg (by simp [hw])]
  exact ⟨fun _ _ => trivial, next.run _ _ ⟨s.ev.put (Nat.le_of_ble_eq_true hn) undef, s.hin, s.same⟩⟩⟩
/-- A slot's Bool is decided: both ways. -/
theorem WL.split {l : List Oper} {t : Nat} {b : Bool} (hv : look env t = some (.bool b)) (h1 : b = true → WL x K ops l ((t, .bool true) :: env) H) (h2 : b = false → WL x K ops l ((t, .bool false) :: env) H) : WL x K ops l env H := ⟨fun a w s => by
  have key : ∀ c, b = c → St x ((t, .bool c) :: env) H a w := fun c hc => ⟨⟨s.ev.size, s.ev.defers, fun u v hu => by
    rw [look_cons] at hu
    by_cases hk : t = u
    · subst hk; simp at hu; subst hu; rw [← hc]; exact s.ev.env t _ hv
    · simp only [if_neg hk] at hu; exact s.ev.env u v hu⟩, s.hin, s.same⟩
  cases hb : b with
  | true => exact (h1 hb).run a w (key true hb)
  | false => exact (h2 hb).run a w (key false hb)⟩
end

/-- A guard's Bool is not known: both ways. -/
theorem WL.g_split {x : Cx} {K : Post} {env : Env} {H : HL} {ops : Array Oper} {rest : List Oper} {dst : Option Nat} {op : Op} {ty : TypeId} {pos : String} {aft : Array Edge} {j t : Nat} {b c : Bool} (hj : gslot ops j = some t) (hv : look env t = some (.bool c))
    (h1 : c = true → WL x K ops (⟨dst, op, ty, pos, aft, some (j, b)⟩ :: rest) ((t, .bool true) :: env) H) (h2 : c = false → WL x K ops (⟨dst, op, ty, pos, aft, some (j, b)⟩ :: rest) ((t, .bool false) :: env) H) :
    WL x K ops (⟨dst, op, ty, pos, aft, some (j, b)⟩ :: rest) env H := have := hj; WL.split hv h1 h2

/-! ### focus on one block -/
inductive Foc (b : Nat) (o : Obj) : HL → (Obj → HL) → Prop
  | here (H : HL) : Foc b o ((b, o) :: H) (fun o' => (b, o') :: H)
  | there (p : Nat × Obj) {H : HL} {k : Obj → HL} : Foc b o H k → Foc b o (p :: H) (fun o' => p :: k o')
  | left {H1 H2 : HL} {k : Obj → HL} : Foc b o H1 k → Foc b o (H1 ++ H2) (fun o' => k o' ++ H2)
  | right {H1 H2 : HL} {k : Obj → HL} : Foc b o H2 k → Foc b o (H1 ++ H2) (fun o' => H1 ++ k o')

theorem Foc.split {b : Nat} {o : Obj} {H : HL} {k : Obj → HL} (h : Foc b o H k) : ∃ H1 H2, H = H1 ++ (b, o) :: H2 ∧ ∀ o', k o' = H1 ++ (b, o') :: H2 := by
  induction h with
  | here H => exact ⟨[], H, rfl, fun _ => rfl⟩
  | there p _ ih => obtain ⟨H1, H2, h1, h2⟩ := ih; exact ⟨p :: H1, H2, by rw [h1]; rfl, fun o' => by show p :: _ = _; rw [h2]; rfl⟩
  | @left A B _ _ ih => obtain ⟨H1, H2, h1, h2⟩ := ih; exact ⟨H1, H2 ++ B, by rw [h1]; simp, fun o' => by show _ ++ B = _; rw [h2]; simp⟩
  | @right A B _ _ ih => obtain ⟨H1, H2, h1, h2⟩ := ih; exact ⟨A ++ H1, H2, by rw [h1]; simp, fun o' => by show A ++ _ = _; rw [h2]; simp⟩

theorem Foc.heap {b : Nat} {o : Obj} {H : HL} {k : Obj → HL} (h : Foc b o H k) {F : Nat → Option Obj} {w : World} (hi : In F H w) : w.heap[b]? = some o := by
  obtain ⟨H1, H2, rfl, _⟩ := h.split
  exact hi.own (b, o) (by simp)

structure Upd (w w' : World) (b : Nat) (o : Obj) : Prop where
  same : Same w w'
  this : w'.heap[b]? = some o
  other : ∀ k, k ≠ b → w'.heap[k]? = w.heap[k]?

theorem In.upd {b : Nat} {o o' : Obj} {H : HL} {k : Obj → HL} (h : Foc b o H k) {F : Nat → Option Obj} {w w' : World} (hi : In F H w) (hu : Upd w w' b o') : In F (k o') w' := by
  obtain ⟨H1, H2, rfl, hk⟩ := h.split
  rw [hk]
  have hnd := hi.nd
  simp only [List.map_append, List.map_cons] at hnd
  have hF : F b = none := hi.dj (b, o) (by simp)
  refine ⟨by simpa using hnd, fun p hp => ?_, fun c oc hc => ?_, fun p hp => ?_⟩
  · rw [List.nodup_append] at hnd
    obtain ⟨_, hb, hne⟩ := hnd
    rw [List.nodup_cons] at hb
    have ho : ∀ p ∈ H1 ++ H2, p.1 ≠ b := fun p hp e => by
      rcases List.mem_append.1 hp with h1 | h1
      · exact hne p.1 (List.mem_map.2 ⟨p, h1, rfl⟩) b (by simp) e
      · exact hb.1 (List.mem_map.2 ⟨p, h1, e⟩)
    rcases List.mem_append.1 hp with h1 | h1
    · rw [hu.other _ (ho p (List.mem_append_left _ h1))]; exact hi.own p (by simp [h1])
    · cases h1 with
      | head => exact hu.this
      | tail _ h1 => rw [hu.other _ (ho p (List.mem_append_right _ h1))]; exact hi.own p (List.mem_append_right _ (List.mem_cons_of_mem _ h1))
  · have hne : c ≠ b := fun e => by subst e; rw [hF] at hc; cases hc
    rw [hu.other c hne]; exact hi.fr c oc hc
  · rcases List.mem_append.1 hp with h1 | h1
    · exact hi.dj p (by simp [h1])
    · cases h1 with
      | head => exact hF
      | tail _ h1 => exact hi.dj p (List.mem_append_right _ (List.mem_cons_of_mem _ h1))

theorem In.fresh {F : Nat → Option Obj} {H : HL} {w w' : World} {b : Nat} {o : Obj} (hi : In F H w) (hb : w.heap.size ≤ b) (ho : w'.heap[b]? = some o) (hold : ∀ k, k < w.heap.size → w'.heap[k]? = w.heap[k]?) : In F ((b, o) :: H) w' := by
  have hlt : ∀ k (o : Obj), w.heap[k]? = some o → k < w.heap.size := fun k o h => (Array.getElem?_eq_some_iff.1 h).1
  refine ⟨?_, fun p hp => ?_, fun c oc hc => ?_, fun p hp => ?_⟩
  · simp only [List.map_cons, List.nodup_cons]
    refine ⟨fun hm => ?_, hi.nd⟩
    obtain ⟨p, hp, he⟩ := List.mem_map.1 hm
    have := hlt _ _ (hi.own p hp)
    omega
  · cases hp with
    | head => exact ho
    | tail _ hp => rw [hold _ (hlt _ _ (hi.own p hp))]; exact hi.own p hp
  · have := hi.fr c oc hc
    rw [hold _ (hlt _ _ this)]; exact this
  · cases hp with
    | head =>
      cases hF : F b with
      | none => rfl
      | some q => have := hlt _ _ (hi.fr b q hF); omega
    | tail _ hp => exact hi.dj p hp

theorem In.alloc {F : Nat → Option Obj} {H : HL} {w : World} (hi : In F H w) (o : Obj) : In F ((w.heap.size, o) :: H) (w.alloc o) :=
  hi.fresh (Nat.le_refl _) (by show (w.heap.push o)[w.heap.size]? = _; simp) (fun k hk => by show (w.heap.push o)[k]? = _; rw [Array.getElem?_push, if_neg (by omega)])
theorem Same.alloc (w : World) (o : Obj) : Same w (w.alloc o) := ⟨rfl, rfl, rfl, by show _ ≤ (w.heap.push o).size; simp, .of (Nat.le_refl _)⟩
theorem Upd.setRow {w : World} {b : Nat} {old c : Array Value} {T : TypeId} {fr : Nat × Nat} (h : w.heap[b]? = some (.cells old T fr)) : Upd w (w.setRow b c) b (.cells c T fr) :=
  ⟨⟨rfl, rfl, rfl, by simp, .of (Nat.le_refl _)⟩, setRow_heap w b old c T fr h, fun k hk => setRow_other w b k c hk⟩

/-! ### lists, reckoned out -/
def takeK : Nat → List Value → (List Value → Option (List Value)) → Option (List Value)
  | 0, _, k => k []
  | _ + 1, [], _ => none
  | n + 1, x :: xs, k => takeK n xs (fun r => k (x :: r))
def dropK : Nat → List Value → (List Value → Option (List Value)) → Option (List Value)
  | 0, l, k => k l
  | _ + 1, [], _ => none
  | n + 1, _ :: xs, k => dropK n xs k
def cut (l : List Value) (off n : Nat) : Option (List Value) := dropK off l (fun l' => takeK n l' some)
def spliceK : List Value → Nat → List Value → (List Value → Option (List Value)) → Option (List Value)
  | l, 0, [], k => k l
  | _x :: l, 0, v :: vs, k => spliceK l 0 vs (fun r => k (v :: r))
  | [], 0, _ :: _, _ => none
  | x :: l, n + 1, vs, k => spliceK l n vs (fun r => k (x :: r))
  | [], _ + 1, _, _ => none

theorem takeK_eq (n : Nat) (l : List Value) (k : List Value → Option (List Value)) : takeK n l k = if n ≤ l.length then k (l.take n) else none := by
  induction n generalizing l k with
  | zero => simp [takeK]
  | succ n ih =>
    cases l with
    | nil => simp [takeK]
    | cons x xs => simp [takeK, ih]
theorem dropK_eq (n : Nat) (l : List Value) (k : List Value → Option (List Value)) : dropK n l k = if n ≤ l.length then k (l.drop n) else none := by
  induction n generalizing l k with
  | zero => simp [dropK]
  | succ n ih =>
    cases l with
    | nil => simp [dropK]
    | cons x xs => simp [dropK, ih]
theorem cut_eq {l : List Value} {off n : Nat} {r : List Value} (h : cut l off n = some r) : r = (l.drop off).take n ∧ off + n ≤ l.length := by
  unfold cut at h
  rw [dropK_eq] at h
  by_cases h1 : off ≤ l.length
  · rw [if_pos h1, takeK_eq] at h
    by_cases h2 : n ≤ (l.drop off).length
    · rw [if_pos h2] at h
      simp at h h2
      exact ⟨h.symm, by omega⟩
    · rw [if_neg h2] at h; cases h
  · rw [if_neg h1] at h; cases h
theorem spliceK_eq (l : List Value) (n : Nat) (vs : List Value) (k : List Value → Option (List Value)) : spliceK l n vs k = if n + vs.length ≤ l.length then k (l.take n ++ vs ++ l.drop (n + vs.length)) else none := by
  induction n generalizing l vs k with
  | zero =>
    induction vs generalizing l k with
    | nil => simp [spliceK]
    | cons v vs ih =>
      cases l with
      | nil => simp [spliceK]
      | cons x l => rw [spliceK, ih]; simp [Nat.add_comm]
  | succ n ih =>
    cases l with
    | nil => simp [spliceK]
    | cons x l =>
      rw [spliceK, ih]
      have e : n + 1 + vs.length = (n + vs.length) + 1 := by omega
      simp [e]
theorem splice_eq {l : List Value} {n : Nat} {vs r : List Value} (h : spliceK l n vs some = some r) : r = l.take n ++ vs ++ l.drop (n + vs.length) ∧ n + vs.length ≤ l.length := by
  rw [spliceK_eq] at h
  by_cases h1 : n + vs.length ≤ l.length
  · rw [if_pos h1] at h; simp at h; exact ⟨by rw [← h]; simp, h1⟩
  · rw [if_neg h1] at h; cases h

/-! ### what is known of types -/
def scalB (P : Program) (T : TypeId) : Bool :=
  (match P.underlying T with | some (.struct _) | some (.array _ _) | none => false | _ => true) && (P.info? T).map (·.size) == some 1
def aggS (P : Program) (T : TypeId) : Option Nat :=
  match P.underlying T with | some (.struct _) | some (.array _ _) => (P.info? T).map (·.size) | _ => none
def fldO (P : Program) (T i : Nat) : Option Nat :=
  match P.underlying T with
  | some (.struct fs) => match fs[i]? with
    | some f => match P.info? f.type with
      | some inf => if inf.size = 0 then none else some f.offset
      | none => none
    | none => none
  | _ => none
/-- offset, whether an aggregate, size: of a field taken from a value -/
def fldV (P : Program) (T i : Nat) : Option (Nat × Bool × Nat) :=
  match P.underlying T with
  | some (.struct fs) => match fs[i]? with
    | some f => match P.underlying f.type, P.info? f.type with
      | some (.struct _), some inf | some (.array _ _), some inf => some (f.offset, true, inf.size)
      | some _, some inf => some (f.offset, false, inf.size)
      | _, _ => none
    | none => none
  | _ => none

class IntT (P : Program) (T : TypeId) (k : outParam IntKind) : Prop where h : P.underlying T = some (.int k)
class BoolT (P : Program) (T : TypeId) : Prop where h : P.underlying T = some .bool
class StrT (P : Program) (T : TypeId) : Prop where h : P.underlying T = some .string
class PtrT (P : Program) (T : TypeId) : Prop where h : ∃ e, P.underlying T = some (.pointer e)
class ScalT (P : Program) (T : TypeId) : Prop where h : scalB P T = true
class AggT (P : Program) (T : TypeId) (n : outParam Nat) : Prop where h : aggS P T = some n
class FldT (P : Program) (T i : Nat) (off : outParam Nat) : Prop where h : fldO P T i = some off
class FldV (P : Program) (T i : Nat) (off : outParam Nat) (agg : outParam Bool) (sz : outParam Nat) : Prop where h : fldV P T i = some (off, agg, sz)
class ZeroT (P : Program) (T : TypeId) (z : outParam (List Value)) : Prop where h : ((P.info? T).bind (·.zero)).map (·.cells) = some z.toArray
class MapT (P : Program) (T : TypeId) (k : outParam TypeId) (e : outParam TypeId) : Prop where h : P.underlying T = some (.map k e)
class ArrT (P : Program) (T : TypeId) (n : outParam Nat) (e : outParam TypeId) (sz : outParam Nat) : Prop where
  h : P.underlying T = some (.array n e)
  i : (P.info? e).map (·.size) = some sz
class SliceT (P : Program) (T : TypeId) (e : outParam TypeId) (sz : outParam Nat) (by_ : outParam Nat) : Prop where
  h : P.underlying T = some (.slice e)
  i : (P.info? e).map (fun i => (i.size, i.bytes)) = some (sz, by_)
def bodyB (P : Program) (f : FuncId) : Bool := match P.funcs[f]? with | some fn => !(fn.name == "runtime.NumGoroutine") && fn.body.isSome | none => false
class Body (P : Program) (f : FuncId) : Prop where h : bodyB P f = true

theorem info_of_map {P : Program} {T n : Nat} (h : (P.info? T).map (·.size) = some n) : ∃ i, P.info? T = some i ∧ i.size = n := by
  cases hi : P.info? T with
  | none => simp [hi] at h
  | some i => exact ⟨i, rfl, by simpa [hi] using h⟩

theorem run_isAgg_scal {P : Program} {T : TypeId} (h : scalB P T = true) (w : World) : (isAgg T).run P w = .ok false w := by
  unfold scalB at h
  rw [Bool.and_eq_true] at h
  unfold isAgg
  cases hu : P.underlying T with
  | none => simp [hu] at h
  | some d =>
    rw [Sem.run_bind, run_underlying hu w]
    rw [hu] at h
    cases d <;> simp_all
theorem run_isAgg_agg {P : Program} {T n : Nat} (h : aggS P T = some n) (w : World) : (isAgg T).run P w = .ok true w := by
  unfold aggS at h
  unfold isAgg
  cases hu : P.underlying T with
  | none => simp [hu] at h
  | some d =>
    rw [Sem.run_bind, run_underlying hu w]
    rw [hu] at h
    cases d <;> simp_all
theorem aggS_info {P : Program} {T n : Nat} (h : aggS P T = some n) : ∃ i, P.info? T = some i ∧ i.size = n := by
  unfold aggS at h
  split at h
  · exact info_of_map h
  · exact info_of_map h
  · cases h
theorem run_loadVar_scal {P : Program} {T : TypeId} (h : scalB P T = true) {w : World} {a : Addr} {v : Value} (hc : w.cell? a = some v) : (loadVar T a).run P w = .ok v w := by
  unfold loadVar
  simp [run_isAgg_scal h w, hc]
theorem run_loadVar_agg {P : Program} {T n : Nat} (h : aggS P T = some n) {w : World} {b off : Nat} {l r : List Value} {T' : TypeId} {fr : Nat × Nat} (hg : w.heap[b]? = some (.cells l.toArray T' fr)) (hc : cut l off n = some r) :
    (loadVar T ⟨b, off, none⟩).run P w = .ok (.agg r.toArray) w := by
  obtain ⟨i, hi, hs⟩ := aggS_info h
  obtain ⟨hr, hle⟩ := cut_eq hc
  have hlen : r.length = n := by rw [hr]; simp; omega
  have hl := run_loadCells_list (P := P) w ⟨b, off, none⟩ r (fun j v hv => by
    have hadd : (⟨b, off, none⟩ : Addr).add j = ⟨b, off + j, none⟩ := by unfold Addr.add; split <;> simp_all
    rw [hadd, cell_of_row w b (off + j) l.toArray T' fr hg]
    rw [hr, List.getElem?_take] at hv
    split at hv
    · simpa using hv
    · cases hv)
  rw [hlen] at hl
  unfold loadVar
  simp [run_isAgg_agg h w, sizeOf, typeInfo, hi, hs, hl]

theorem scalB_info {P : Program} {T : TypeId} (h : scalB P T = true) : ∃ i, P.info? T = some i ∧ i.size = 1 := by
  unfold scalB at h
  rw [Bool.and_eq_true] at h
  exact info_of_map (by simpa using h.2)

theorem run_storeVar_at {P : Program} {T : TypeId} {w : World} {b off : Nat} {l r : List Value} {T' : TypeId} {v : Value} (hi : ∃ i, P.info? T = some i ∧ i.size = v.cells.size) (hg : w.heap[b]? = some (.cells l.toArray T' (0, 0)))
    (h1 : v.cells.toList.all (·.oneCell') = true) (hc : spliceK l off v.cells.toList some = some r) : (storeVar T ⟨b, off, none⟩ v).run P w = .ok () (w.setRow b r.toArray) := by
  obtain ⟨i, hi, hs⟩ := hi
  obtain ⟨hr, hle⟩ := splice_eq hc
  have hst := run_storeCells_at P b off T' v.cells.toList 0 l.toArray w hg (by simpa using hle) (fun u hu => by simpa using List.all_eq_true.1 h1 u hu)
  unfold storeVar
  simp only [Nat.add_zero] at hst
  simp [sizeOf, typeInfo, hi, hs, hst, hr]

/-! ### single operations -/
section
variable {x : Cx} {env : Env} {H : HL} {dst : Option Tmp} {ty : TypeId} {pos : String} {aft : Array Edge} {gd : Option (Nat × Bool)}

theorem Pu.mv {p : Operand} {v : Value} (h : ev env p = some v) : Pu x env ⟨dst, .move p, ty, pos, aft, gd⟩ v := ⟨fun a he w => by
  simp [execOp, he.eval h]⟩
theorem Pu.asg {p : Operand} {v : Value} (h : ev env p = some v) : Pu x env ⟨dst, .assign p, ty, pos, aft, gd⟩ v := ⟨fun a he w => by
  simp [execOp, he.eval h]⟩
theorem Pu.pick_t {c p q : Operand} {v : Value} (hc : ev env c = some (.bool true)) (h : ev env p = some v) : Pu x env ⟨dst, .pick c p q, ty, pos, aft, gd⟩ v := ⟨fun a he w => by
  simp [execOp, he.eval h, he.eval hc, asBool]⟩
theorem Pu.pick_f {c p q : Operand} {v : Value} (hc : ev env c = some (.bool false)) (h : ev env q = some v) : Pu x env ⟨dst, .pick c p q, ty, pos, aft, gd⟩ v := ⟨fun a he w => by
  simp [execOp, he.eval h, he.eval hc, asBool]⟩
theorem Pu.notB {T : TypeId} {p : Operand} {b : Bool} (h : ev env p = some (.bool b)) : Pu x env ⟨dst, .unOp .not T p, ty, pos, aft, gd⟩ (.bool (!b)) := ⟨fun a he w => by
  simp [execOp, he.eval h, Op.unary]⟩
theorem Pu.neg {T : TypeId} {p : Operand} {k : IntKind} {n : Int} (h : ev env p = some (.int k n)) : Pu x env ⟨dst, .unOp .neg T p, ty, pos, aft, gd⟩ (.int k (k.wrap (0 - n))) := ⟨fun a he w => by
  simp [execOp, he.eval h, Op.unary, Op.intArith]⟩
theorem Pu.xorU {T : TypeId} {p : Operand} {k : IntKind} {n : Int} (h : ev env p = some (.int k n)) :
    Pu x env ⟨dst, .unOp .xor T p, ty, pos, aft, gd⟩ (.int k (k.wrap (BitVec.ofInt k.bits (if k.signed then -1 else k.max) ^^^ BitVec.ofInt k.bits n).toNat)) := ⟨fun a he w => by
  simp [execOp, he.eval h, Op.unary, Op.intBits]⟩
theorem Pu.nilCk {p : Operand} {ad : Addr} (h : ev env p = some (.pointer (some ad))) : Pu x env ⟨dst, .nilCheck p, ty, pos, aft, gd⟩ (.pointer (some ad)) := ⟨fun a he w => by
  simp [execOp, he.eval h]⟩
theorem Pu.ext {p : Operand} {vs : List Value} {i : Nat} {v : Value} (h : ev env p = some (.tuple vs.toArray)) (hv : vs[i]? = some v) : Pu x env ⟨dst, .extract p i, ty, pos, aft, gd⟩ v := ⟨fun a he w => by
  simp [execOp, he.eval h, Instr.extract, hv]⟩
theorem Pu.fa {T f : Nat} {p : Operand} {b off fo : Nat} [ft : FldT x.P T f fo] (h : ev env p = some (.pointer (some ⟨b, off, none⟩))) : Pu x env ⟨dst, .fieldAddr T p f, ty, pos, aft, gd⟩ (.pointer (some ⟨b, off + fo, none⟩)) := ⟨fun a he w => by
  have hf := ft.h
  unfold fldO at hf
  split at hf
  · rename_i fs hu
    split at hf
    · rename_i f' hf'
      split at hf
      · rename_i inf hinf
        split at hf
        · cases hf
        · rename_i hz
          cases hf
          have hadd : (⟨b, off, none⟩ : Addr).add f'.offset = ⟨b, off + f'.offset, none⟩ := by unfold Addr.add; split <;> simp_all
          simp [execOp, he.eval h, Instr.fieldAt, run_underlying hu, hf', Instr.sureAddr, fieldPlace, sizeOf, typeInfo, hinf, hz, hadd]
      · cases hf
    · cases hf
  · cases hf⟩
theorem Pu.fv {T f : Nat} {p : Operand} {l : List Value} {off sz : Nat} {v : Value} [ft : FldV x.P T f off false sz] (h : ev env p = some (.agg l.toArray)) (hv : l[off]? = some v) : Pu x env ⟨dst, .field T p f, ty, pos, aft, gd⟩ v := ⟨fun a he w => by
  have hf := ft.h
  unfold fldV at hf
  split at hf
  · rename_i fs hu
    split at hf
    · rename_i f' hf'
      split at hf
      · simp at hf
      · simp at hf
      · rename_i d inf hd1 hd2 hd hinf
        simp only [Option.some.injEq, Prod.mk.injEq, true_and] at hf
        have hagg : (isAgg f'.type).run x.P w = .ok false w := by
          unfold isAgg
          rw [Sem.run_bind, run_underlying hd w]
          cases d <;> first | rfl | (exact absurd rfl (hd1 _)) | (exact absurd rfl (hd2 _ _))
        simp [execOp, he.eval h, Instr.field, run_underlying hu, hf', asAgg, part, hagg, hf.1, hv]
      · cases hf
    · cases hf
  · cases hf⟩
theorem Pu.fva {T f : Nat} {p : Operand} {l r : List Value} {off sz : Nat} [ft : FldV x.P T f off true sz] (h : ev env p = some (.agg l.toArray)) (hv : cut l off sz = some r) : Pu x env ⟨dst, .field T p f, ty, pos, aft, gd⟩ (.agg r.toArray) := ⟨fun a he w => by
  have hf := ft.h
  obtain ⟨hr, hle⟩ := cut_eq hv
  unfold fldV at hf
  split at hf
  · rename_i fs hu
    split at hf
    · rename_i f' hf'
      split at hf
      · rename_i q inf hd hinf
        simp only [Option.some.injEq, Prod.mk.injEq, true_and] at hf
        have hagg : (isAgg f'.type).run x.P w = .ok true w := by
          unfold isAgg; rw [Sem.run_bind, run_underlying hd w]; rfl
        simp [execOp, he.eval h, Instr.field, run_underlying hu, hf', asAgg, part, hagg, sizeOf, typeInfo, hinf, hf.1, hf.2, hr]
      · rename_i q q' inf hd hinf
        simp only [Option.some.injEq, Prod.mk.injEq, true_and] at hf
        have hagg : (isAgg f'.type).run x.P w = .ok true w := by
          unfold isAgg; rw [Sem.run_bind, run_underlying hd w]; rfl
        simp [execOp, he.eval h, Instr.field, run_underlying hu, hf', asAgg, part, hagg, sizeOf, typeInfo, hinf, hf.1, hf.2, hr]
      · simp at hf
      · cases hf
    · cases hf
  · cases hf⟩

def binI : BinOp → IntKind → Int → Int → Option Value
  | .add, k, a, b => some (.int k (k.wrap (a + b)))
  | .sub, k, a, b => some (.int k (k.wrap (a - b)))
  | .mul, k, a, b => some (.int k (k.wrap (a * b)))
  | .and, k, a, b => some (.int k (k.wrap (BitVec.ofInt k.bits a &&& BitVec.ofInt k.bits b).toNat))
  | .or, k, a, b => some (.int k (k.wrap (BitVec.ofInt k.bits a ||| BitVec.ofInt k.bits b).toNat))
  | .xor, k, a, b => some (.int k (k.wrap (BitVec.ofInt k.bits a ^^^ BitVec.ofInt k.bits b).toNat))
  | .eql, _, a, b => some (.bool (a == b))
  | .neq, _, a, b => some (.bool (a != b))
  | .lss, _, a, b => some (.bool (decide (a < b)))
  | .leq, _, a, b => some (.bool (decide (a ≤ b)))
  | .gtr, _, a, b => some (.bool (decide (a > b)))
  | .geq, _, a, b => some (.bool (decide (a ≥ b)))
  | _, _, _, _ => none
theorem Pu.bin {op : BinOp} {T T' : TypeId} {p q : Operand} {k : IntKind} {m n : Int} {v : Value} (hp : ev env p = some (.int k m)) (hq : ev env q = some (.int k n)) (hv : binI op k m n = some v) :
    Pu x env ⟨dst, .binOp op T p q T', ty, pos, aft, gd⟩ v := ⟨fun a he w => by
  cases op <;> simp [binI] at hv <;> subst hv <;> simp [execOp, he.eval hp, he.eval hq, eqGuard, binOp, Op.intArith, Op.intCmp, Op.intBits]⟩
theorem Pu.shr {T T' : TypeId} {p q : Operand} {k k' : IntKind} {m n : Int} (hp : ev env p = some (.int k m)) (hq : ev env q = some (.int k' n)) (hn : 0 ≤ n) :
    Pu x env ⟨dst, .binOp .shr T p q T', ty, pos, aft, gd⟩ (.int k (m.fdiv (2 ^ (min n.toNat k.bits)))) := ⟨fun a he w => by
  have : ¬ n < 0 := by omega
  simp [execOp, he.eval hp, he.eval hq, eqGuard, binOp, Op.shift, this]⟩
theorem Pu.shl {T T' : TypeId} {p q : Operand} {k k' : IntKind} {m n : Int} (hp : ev env p = some (.int k m)) (hq : ev env q = some (.int k' n)) (hn : 0 ≤ n) :
    Pu x env ⟨dst, .binOp .shl T p q T', ty, pos, aft, gd⟩ (.int k (k.wrap (m * 2 ^ (min n.toNat k.bits)))) := ⟨fun a he w => by
  have : ¬ n < 0 := by omega
  simp [execOp, he.eval hp, he.eval hq, eqGuard, binOp, Op.shift, this]⟩
theorem Pu.quo {T T' : TypeId} {p q : Operand} {k : IntKind} {m n : Int} (hp : ev env p = some (.int k m)) (hq : ev env q = some (.int k n)) (hn : n ≠ 0) :
    Pu x env ⟨dst, .binOp .quo T p q T', ty, pos, aft, gd⟩ (.int k (k.wrap (m.tdiv n))) := ⟨fun a he w => by
  simp [execOp, he.eval hp, he.eval hq, eqGuard, binOp, Op.intDiv, hn]⟩
theorem Pu.rem {T T' : TypeId} {p q : Operand} {k : IntKind} {m n : Int} (hp : ev env p = some (.int k m)) (hq : ev env q = some (.int k n)) (hn : n ≠ 0) :
    Pu x env ⟨dst, .binOp .rem T p q T', ty, pos, aft, gd⟩ (.int k (m.tmod n)) := ⟨fun a he w => by
  simp [execOp, he.eval hp, he.eval hq, eqGuard, binOp, Op.intDiv, hn]⟩
theorem run_equal_bool {P : Program} {T : TypeId} (h : P.underlying T = some .bool) (m n : Bool) (w : World) : (Op.equal T (.bool m) (.bool n)).run P w = .ok (m == n) w := by
  show (Op.equalIn (9999 + 1) T (.bool m) (.bool n)).run P w = _
  rw [Op.equalIn, Sem.run_bind, run_underlying h]
  rfl
theorem run_equal_nil {P : Program} {T e : TypeId} (h : P.underlying T = some (.pointer e)) (m : Option Addr) (w : World) : (Op.equal T (.pointer m) (.pointer none)).run P w = .ok m.isNone w := by
  show (Op.equalIn (9999 + 1) T (.pointer m) (.pointer none)).run P w = _
  rw [Op.equalIn, Sem.run_bind, run_underlying h]
  cases m <;> rfl
theorem Pu.eqB {T T' : TypeId} {p q : Operand} {m n : Bool} [bt : BoolT x.P T] (hp : ev env p = some (.bool m)) (hq : ev env q = some (.bool n)) :
    Pu x env ⟨dst, .binOp .eql T p q T', ty, pos, aft, gd⟩ (.bool (m == n)) := ⟨fun a he w => by
  simp [execOp, he.eval hp, he.eval hq, eqGuard, binOp, run_equal_bool bt.h]⟩
theorem Pu.neB {T T' : TypeId} {p q : Operand} {m n : Bool} [bt : BoolT x.P T] (hp : ev env p = some (.bool m)) (hq : ev env q = some (.bool n)) :
    Pu x env ⟨dst, .binOp .neq T p q T', ty, pos, aft, gd⟩ (.bool (!(m == n))) := ⟨fun a he w => by
  simp [execOp, he.eval hp, he.eval hq, eqGuard, binOp, run_equal_bool bt.h]⟩
theorem Pu.eqS {T T' : TypeId} {p q : Operand} {m n : ByteArray} (hp : ev env p = some (.string m)) (hq : ev env q = some (.string n)) :
    Pu x env ⟨dst, .binOp .eql T p q T', ty, pos, aft, gd⟩ (.bool (m.toList == n.toList)) := ⟨fun a he w => by
  simp [execOp, he.eval hp, he.eval hq, eqGuard, binOp, Op.stringOp]⟩
theorem Pu.neS {T T' : TypeId} {p q : Operand} {m n : ByteArray} (hp : ev env p = some (.string m)) (hq : ev env q = some (.string n)) :
    Pu x env ⟨dst, .binOp .neq T p q T', ty, pos, aft, gd⟩ (.bool (!(m.toList == n.toList))) := ⟨fun a he w => by
  simp [execOp, he.eval hp, he.eval hq, eqGuard, binOp, Op.stringOp]⟩
theorem Pu.eqN {T T' : TypeId} {p q : Operand} {m : Option Addr} [pt : PtrT x.P T] (hp : ev env p = some (.pointer m)) (hq : ev env q = some (.pointer none)) :
    Pu x env ⟨dst, .binOp .eql T p q T', ty, pos, aft, gd⟩ (.bool m.isNone) := ⟨fun a he w => by
  obtain ⟨e, hu⟩ := pt.h
  cases m <;> simp [execOp, he.eval hp, he.eval hq, eqGuard, binOp, run_equal_nil hu]⟩
theorem Pu.neN {T T' : TypeId} {p q : Operand} {m : Option Addr} [pt : PtrT x.P T] (hp : ev env p = some (.pointer m)) (hq : ev env q = some (.pointer none)) :
    Pu x env ⟨dst, .binOp .neq T p q T', ty, pos, aft, gd⟩ (.bool (!m.isNone)) := ⟨fun a he w => by
  obtain ⟨e, hu⟩ := pt.h
  cases m <;> simp [execOp, he.eval hp, he.eval hq, eqGuard, binOp, run_equal_nil hu]⟩
theorem Pu.cvI {S T : TypeId} {p : Operand} {k k' : IntKind} {n : Int} [st : IntT x.P S k'] [tt : IntT x.P T k] (hp : ev env p = some (.int k' n)) : Pu x env ⟨dst, .convert S T p, ty, pos, aft, gd⟩ (.int k (k.wrap n)) := ⟨fun a he w => by
  simp [execOp, he.eval hp, convert, run_underlying st.h, run_underlying tt.h, Conv.intToInt]⟩
theorem Pu.lenS {T : TypeId} {e sz by_ : Nat} {p : Operand} {ad : Option Addr} {n c : Nat} [st : SliceT x.P T e sz by_] (hp : ev env p = some (.slice ad n c)) :
    Pu x env ⟨dst, .call ⟨.builtin .len, #[p], #[T]⟩, ty, pos, aft, gd⟩ (.int .i64 n) := ⟨fun a he w => by
  simp [execOp, resolve, invoke, builtin, he.eval hp, Builtin.len_, run_underlying st.h, goInt]⟩
theorem Pu.min2 {T T' : TypeId} {p q : Operand} {k : IntKind} {m n : Int} (hp : ev env p = some (.int k m)) (hq : ev env q = some (.int k n)) :
    Pu x env ⟨dst, .call ⟨.builtin .min, #[p, q], #[T, T']⟩, ty, pos, aft, gd⟩ (.int k (if n < m then n else m)) := ⟨fun a he w => by
  simp [execOp, resolve, invoke, builtin, he.eval hp, he.eval hq, Builtin.min_, Builtin.min2]⟩
theorem Pu.ia {T : TypeId} {e sz by_ : Nat} {p q : Operand} {b off n c : Nat} {k : IntKind} {i : Int} [st : SliceT x.P T e sz by_] (hp : ev env p = some (.slice (some ⟨b, off, none⟩) n c)) (hq : ev env q = some (.int k i)) (h0 : 0 ≤ i ∧ i < n) :
    Pu x env ⟨dst, .indexAddr T p q, ty, pos, aft, gd⟩ (.pointer (some ⟨b, off + i.toNat * sz, none⟩)) := ⟨fun a he w => by
  have hi := st.i
  cases hq2 : x.P.info? e with
  | none => simp [hq2] at hi
  | some inf =>
    have hs : inf.size = sz := by have := hi; simp [hq2] at this; exact this.1
    have hadd : (⟨b, off, none⟩ : Addr).add (i.toNat * sz) = ⟨b, off + i.toNat * sz, none⟩ := by
      unfold Addr.add; split <;> simp_all
    simp [execOp, he.eval hp, he.eval hq, Instr.indexAt, asIntOf, run_underlying st.h, h0, sizeOf, typeInfo, hq2, hs, hadd]⟩

theorem cell_foc {b off : Nat} {l : List Value} {T : TypeId} {fr : Nat × Nat} {w : World} {v : Value} (hg : w.heap[b]? = some (.cells l.toArray T fr)) (hv : l[off]? = some v) : w.cell? ⟨b, off, none⟩ = some v := by
  rw [cell_of_row w b off l.toArray T fr hg]; simpa using hv

/-- A cell, and some cells, of an owned block: found in the list. -/
inductive CellAt (b off : Nat) (v : Value) : HL → Prop
  | here {l : List Value} {T : TypeId} {fr : Nat × Nat} {H : HL} : l[off]? = some v → CellAt b off v ((b, .cells l.toArray T fr) :: H)
  | there {p : Nat × Obj} {H : HL} : CellAt b off v H → CellAt b off v (p :: H)
  | left {H1 H2 : HL} : CellAt b off v H1 → CellAt b off v (H1 ++ H2)
  | right {H1 H2 : HL} : CellAt b off v H2 → CellAt b off v (H1 ++ H2)
inductive CutAt (b off n : Nat) (r : List Value) : HL → Prop
  | here {l : List Value} {T : TypeId} {fr : Nat × Nat} {H : HL} : cut l off n = some r → CutAt b off n r ((b, .cells l.toArray T fr) :: H)
  | there {p : Nat × Obj} {H : HL} : CutAt b off n r H → CutAt b off n r (p :: H)
  | left {H1 H2 : HL} : CutAt b off n r H1 → CutAt b off n r (H1 ++ H2)
  | right {H1 H2 : HL} : CutAt b off n r H2 → CutAt b off n r (H1 ++ H2)
/-- Some cells of an owned block are written. -/
inductive PutAt (b off : Nat) (vs : List Value) : HL → HL → Prop
  | here {l r : List Value} {T : TypeId} {H : HL} : spliceK l off vs some = some r → PutAt b off vs ((b, .cells l.toArray T (0, 0)) :: H) ((b, .cells r.toArray T (0, 0)) :: H)
  | there {p : Nat × Obj} {H H' : HL} : PutAt b off vs H H' → PutAt b off vs (p :: H) (p :: H')
  | left {H1 H1' H2 : HL} : PutAt b off vs H1 H1' → PutAt b off vs (H1 ++ H2) (H1' ++ H2)
  | right {H1 H2 H2' : HL} : PutAt b off vs H2 H2' → PutAt b off vs (H1 ++ H2) (H1 ++ H2')
theorem CellAt.foc {b off : Nat} {v : Value} {H : HL} (h : CellAt b off v H) : ∃ (l : List Value) (T : TypeId) (fr : Nat × Nat) (k : Obj → HL), Foc b (.cells l.toArray T fr) H k ∧ l[off]? = some v := by
  induction h with
  | here h => exact ⟨_, _, _, _, Foc.here _, h⟩
  | there _ ih => obtain ⟨l, T, fr, k, hf, h⟩ := ih; exact ⟨l, T, fr, _, Foc.there _ hf, h⟩
  | left _ ih => obtain ⟨l, T, fr, k, hf, h⟩ := ih; exact ⟨l, T, fr, _, Foc.left hf, h⟩
  | right _ ih => obtain ⟨l, T, fr, k, hf, h⟩ := ih; exact ⟨l, T, fr, _, Foc.right hf, h⟩
theorem CutAt.foc {b off n : Nat} {r : List Value} {H : HL} (h : CutAt b off n r H) : ∃ (l : List Value) (T : TypeId) (fr : Nat × Nat) (k : Obj → HL), Foc b (.cells l.toArray T fr) H k ∧ cut l off n = some r := by
  induction h with
  | here h => exact ⟨_, _, _, _, Foc.here _, h⟩
  | there _ ih => obtain ⟨l, T, fr, k, hf, h⟩ := ih; exact ⟨l, T, fr, _, Foc.there _ hf, h⟩
  | left _ ih => obtain ⟨l, T, fr, k, hf, h⟩ := ih; exact ⟨l, T, fr, _, Foc.left hf, h⟩
  | right _ ih => obtain ⟨l, T, fr, k, hf, h⟩ := ih; exact ⟨l, T, fr, _, Foc.right hf, h⟩
theorem PutAt.foc {b off : Nat} {vs : List Value} {H H' : HL} (h : PutAt b off vs H H') : ∃ (l r : List Value) (T : TypeId) (k : Obj → HL), Foc b (.cells l.toArray T (0, 0)) H k ∧ spliceK l off vs some = some r ∧ H' = k (.cells r.toArray T (0, 0)) := by
  induction h with
  | here h => exact ⟨_, _, _, _, Foc.here _, h, rfl⟩
  | there _ ih => obtain ⟨l, r, T, k, hf, h, rfl⟩ := ih; exact ⟨l, r, T, _, Foc.there _ hf, h, rfl⟩
  | left _ ih => obtain ⟨l, r, T, k, hf, h, rfl⟩ := ih; exact ⟨l, r, T, _, Foc.left hf, h, rfl⟩
  | right _ ih => obtain ⟨l, r, T, k, hf, h, rfl⟩ := ih; exact ⟨l, r, T, _, Foc.right hf, h, rfl⟩

theorem Rd.ld {T : TypeId} {p : Operand} {b off : Nat} {v : Value} [sc : ScalT x.P T] (hp : ev env p = some (.pointer (some ⟨b, off, none⟩))) (hc : CellAt b off v H) : Rd x env H ⟨dst, .load T p, ty, pos, aft, gd⟩ v := ⟨fun a w he hi => by
  obtain ⟨l, T', fr, k, hf, hv⟩ := hc.foc
  simp [execOp, he.eval hp, Instr.loadAt, Instr.sureAddr, run_loadVar_scal sc.h (cell_foc (hf.heap hi) hv)]⟩
theorem Rd.lda {T n : TypeId} {p : Operand} {b off : Nat} {r : List Value} [ag : AggT x.P T n] (hp : ev env p = some (.pointer (some ⟨b, off, none⟩))) (hc : CutAt b off n r H) : Rd x env H ⟨dst, .load T p, ty, pos, aft, gd⟩ (.agg r.toArray) := ⟨fun a w he hi => by
  obtain ⟨l, T', fr, k, hf, hv⟩ := hc.foc
  simp [execOp, he.eval hp, Instr.loadAt, Instr.sureAddr, run_loadVar_agg ag.h (hf.heap hi) hv]⟩
/-! effects: stores, new blocks -/
theorem Ef.st {T : TypeId} {p q : Operand} {b off : Nat} {v : Value} {H1 : HL} [sc : ScalT x.P T] (hp : ev env p = some (.pointer (some ⟨b, off, none⟩))) (hq : ev env q = some v) (h1 : v.oneCell' = true) (hc : PutAt b off [v] H H1) :
    Ef x env H ⟨dst, .store T p q, ty, pos, aft, gd⟩ (fun v H' => v = undef ∧ H' = H1) := ⟨fun a w he hi => by
  obtain ⟨l, r, T', k, hf, hv, rfl⟩ := hc.foc
  have hcs : v.cells = #[v] := by cases v <;> first | rfl | (simp [Value.oneCell'] at h1)
  obtain ⟨i, hi1, hi2⟩ := scalB_info sc.h
  have hg := hf.heap hi
  have hst := run_storeVar_at (P := x.P) (T := T) (v := v) (off := off) (r := r) ⟨i, hi1, by rw [hi2, hcs]; rfl⟩ hg (by rw [hcs]; simp [h1]) (by rw [hcs]; exact hv)
  refine yields_of_skip (w' := w.setRow b r.toArray) (by simp [execOp, he.eval hp, he.eval hq, Instr.storeAt, Instr.sureAddr, hst]) ⟨_, ⟨rfl, rfl⟩, hi.upd hf (Upd.setRow hg), (Upd.setRow hg).same⟩⟩
theorem Ef.sta {T n : TypeId} {p q : Operand} {b off : Nat} {cs : List Value} {H1 : HL} [ag : AggT x.P T n] (hp : ev env p = some (.pointer (some ⟨b, off, none⟩))) (hq : ev env q = some (.agg cs.toArray)) (hn : cs.length = n) (h1 : cs.all (·.oneCell') = true) (hc : PutAt b off cs H H1) :
    Ef x env H ⟨dst, .store T p q, ty, pos, aft, gd⟩ (fun v H' => v = undef ∧ H' = H1) := ⟨fun a w he hi => by
  obtain ⟨l, r, T', k, hf, hv, rfl⟩ := hc.foc
  obtain ⟨i, hi1, hi2⟩ := aggS_info ag.h
  have hg := hf.heap hi
  have hst := run_storeVar_at (P := x.P) (T := T) (v := .agg cs.toArray) (off := off) (r := r) ⟨i, hi1, by simp [Value.cells, hi2, hn]⟩ hg (by simpa [Value.cells] using h1) (by simpa [Value.cells] using hv)
  refine yields_of_skip (w' := w.setRow b r.toArray) (by simp [execOp, he.eval hp, he.eval hq, Instr.storeAt, Instr.sureAddr, hst]) ⟨_, ⟨rfl, rfl⟩, hi.upd hf (Upd.setRow hg), (Upd.setRow hg).same⟩⟩
theorem Ef.al {T : TypeId} {z : List Value} [zt : ZeroT x.P T z] : Ef x env H ⟨dst, .alloc T, ty, pos, aft, gd⟩ (fun v H' => ∃ b, v = .pointer (some ⟨b, 0, none⟩) ∧ H' = (b, .cells z.toArray T (0, 0)) :: H) := ⟨fun a w he hi => by
  have hz := zt.h
  cases h1 : x.P.info? T with
  | none => simp [h1] at hz
  | some i =>
  cases h2 : i.zero with
  | none => simp [h1, h2] at hz
  | some v =>
  have h3 : v.cells = z.toArray := by simpa [h1, h2] using hz
  refine yields_of_run (v := .pointer (some ⟨w.heap.size, 0, none⟩)) (w' := w.alloc (.cells z.toArray T)) (by simp [execOp, Instr.alloc, zeroValue, typeInfo, h1, h2, newVar, newRow, h3]) ⟨_, ⟨_, rfl, rfl⟩, hi.alloc _, Same.alloc w _⟩⟩
theorem Ef.bxa {T : TypeId} {p : Operand} {cs : List Value} (hp : ev env p = some (.agg cs.toArray)) : Ef x env H ⟨dst, .box T p, ty, pos, aft, gd⟩ (fun v H' => ∃ b, v = .pointer (some ⟨b, 0, none⟩) ∧ H' = (b, .cells cs.toArray T (0, 0)) :: H) := ⟨fun a w he hi => by
  refine yields_of_run (v := .pointer (some ⟨w.heap.size, 0, none⟩)) (w' := w.alloc (.cells cs.toArray T)) (by simp [execOp, he.eval hp, Instr.box, newVar, newRow, Value.cells]) ⟨_, ⟨_, rfl, rfl⟩, hi.alloc _, Same.alloc w _⟩⟩
theorem Ef.bx {T : TypeId} {p : Operand} {v : Value} (hp : ev env p = some v) (h1 : v.oneCell' = true) : Ef x env H ⟨dst, .box T p, ty, pos, aft, gd⟩ (fun u H' => ∃ b, u = .pointer (some ⟨b, 0, none⟩) ∧ H' = (b, .cells [v].toArray T (0, 0)) :: H) := ⟨fun a w he hi => by
  have hcs : v.cells = [v].toArray := by cases v <;> first | rfl | (simp [Value.oneCell'] at h1)
  refine yields_of_run (v := .pointer (some ⟨w.heap.size, 0, none⟩)) (w' := w.alloc (.cells [v].toArray T)) (by simp [execOp, he.eval hp, Instr.box, newVar, newRow, hcs]) ⟨_, ⟨_, rfl, rfl⟩, hi.alloc _, Same.alloc w _⟩⟩

/-! a call by its contract -/
/-- one block taken out of a list; a part taken out of a list -/
inductive Ext1 (p : Nat × Obj) : HL → HL → Prop
  | here {H : HL} : Ext1 p (p :: H) H
  | there {q : Nat × Obj} {H Hr : HL} : Ext1 p H Hr → Ext1 p (q :: H) (q :: Hr)
  | left {H1 H2 Hr : HL} : Ext1 p H1 Hr → Ext1 p (H1 ++ H2) (Hr ++ H2)
  | right {H1 H2 Hr : HL} : Ext1 p H2 Hr → Ext1 p (H1 ++ H2) (H1 ++ Hr)
inductive ExtL (L : HL) : HL → HL → Prop
  | all : ExtL L L []
  | here {H : HL} : ExtL L (L ++ H) H
  | there {q : Nat × Obj} {H Hr : HL} : ExtL L H Hr → ExtL L (q :: H) (q :: Hr)
  | right {H1 H2 Hr : HL} : ExtL L H2 Hr → ExtL L (H1 ++ H2) (H1 ++ Hr)
theorem Ext1.perm {p : Nat × Obj} {H Hr : HL} (h : Ext1 p H Hr) : H.Perm (p :: Hr) := by
  induction h with
  | here => exact List.Perm.refl _
  | @there q H Hr _ ih => exact (ih.cons q).trans (List.Perm.swap p q Hr)
  | left _ ih => exact ih.append_right _
  | @right H1 H2 Hr _ ih => exact (ih.append_left H1).trans List.perm_middle
theorem ExtL.perm {L H Hr : HL} (h : ExtL L H Hr) : H.Perm (L ++ Hr) := by
  induction h with
  | all => simp
  | here => exact List.Perm.refl _
  | @there q H Hr _ ih => exact (ih.cons q).trans List.perm_middle.symm
  | @right H1 H2 Hr _ ih =>
    refine (ih.append_left H1).trans ?_
    rw [← List.append_assoc, ← List.append_assoc]
    exact List.perm_append_comm.append_right Hr
/-- 'c' lies in 'H'; the rest is 'Hr'. -/
inductive Sub : HL → HL → HL → Prop
  | nil (H : HL) : Sub [] H H
  | one (L H : HL) : Sub L (L ++ H) H
  | all (H : HL) : Sub H H []
  | here {c H Hr : HL} (p : Nat × Obj) : Sub c H Hr → Sub (p :: c) (p :: H) Hr
  | skip {c H Hr : HL} (p : Nat × Obj) : Sub c H Hr → Sub c (p :: H) (p :: Hr)
  | hereL {c H Hr : HL} (L : HL) : Sub c H Hr → Sub (L ++ c) (L ++ H) Hr
  | skipL {c H Hr : HL} (L : HL) : Sub c H Hr → Sub c (L ++ H) (L ++ Hr)
  | perm {c c' H Hr : HL} : c'.Perm c → Sub c' H Hr → Sub c H Hr
  | pick {p : Nat × Obj} {c H H1 Hr : HL} : Ext1 p H H1 → Sub c H1 Hr → Sub (p :: c) H Hr
  | pickL {L c H H1 Hr : HL} : ExtL L H H1 → Sub c H1 Hr → Sub (L ++ c) H Hr
  | last {L H Hr : HL} : ExtL L H Hr → Sub L H Hr

theorem Sub.perm' {c H Hr : HL} (h : Sub c H Hr) : H.Perm (c ++ Hr) := by
  induction h with
  | nil H => exact List.Perm.refl _
  | one L H => exact List.Perm.refl _
  | all H => simp
  | here p _ ih => exact ih.cons p
  | @skip c H Hr p _ ih => exact (ih.cons p).trans (List.perm_middle.symm)
  | hereL L _ ih => rw [List.append_assoc]; exact ih.append_left L
  | @skipL c H Hr L _ ih =>
    refine (ih.append_left L).trans ?_
    rw [← List.append_assoc, ← List.append_assoc]
    exact (List.perm_append_comm).append_right Hr
  | perm hp _ ih => exact ih.trans (hp.append_right _)
  | pick he _ ih => exact he.perm.trans (ih.cons _)
  | pickL he _ ih => rw [List.append_assoc]; exact he.perm.trans (ih.append_left _)
  | last he => exact he.perm
theorem In.of_sub {F : Nat → Option Obj} {c H Hr : HL} {w : World} (h : Sub c H Hr) (hi : In F H w) : In F c w := (hi.perm h.perm').left

theorem args_eval {a : Act} (he : Ev x env a) : ∀ (args : List Operand) (vals : List Value), args.map (ev env) = vals.map some → args.map a.eval = vals
  | [], [], _ => rfl
  | [], _ :: _, h => by simp at h
  | _ :: _, [], h => by simp at h
  | p :: args, v :: vals, h => by
    simp only [List.map_cons, List.cons.injEq] at h ⊢
    exact ⟨he.eval h.1, args_eval he args vals h.2⟩

theorem Ef.call {f : FuncId} {args : List Operand} {tys : Array TypeId} {vals : List Value} {c Hr : HL} {R : Value → HL → Prop} [bd : Body x.P f] (hargs : args.map (ev env) = vals.map some) (hs : Sub c H Hr)
    (tr : Tr x.P f vals.toArray (addF x.F Hr) c R) : Ef x env H ⟨dst, .call ⟨.value (.func f), args.toArray, tys⟩, ty, pos, aft, gd⟩ (fun v H' => ∃ H1, R v H1 ∧ H' = H1 ++ Hr) := ⟨fun a w he hi => by
  have hbb := bd.h
  unfold bodyB at hbb
  cases hf : x.P.funcs[f]? with
  | none => simp [hf] at hbb
  | some fn =>
  rw [hf] at hbb
  simp only [Bool.and_eq_true, Bool.not_eq_true'] at hbb
  obtain ⟨hname, hbody⟩ := hbb
  have hin : In x.F (c ++ Hr) w := hi.perm hs.perm'
  have hrun : (execOp a.eval ⟨dst, .call ⟨.value (.func f), args.toArray, tys⟩, ty, pos, aft, gd⟩).run x.P w = .ok (.enter f vals.toArray) w := by
    have hv : a.eval (.func f) = .func (.func f) #[] #[] := rfl
    have hb : ∃ c, fn.body = some c := by cases hb2 : fn.body with | none => simp [hb2] at hbody | some c => exact ⟨c, rfl⟩
    obtain ⟨c, hc⟩ := hb
    have hne : ¬ fn.name = "runtime.NumGoroutine" := by simpa using hname
    simp [execOp, resolve, hv, Deferred.ofValue, invoke, callFunc, hf, hne, hc, args_eval he args vals hargs]
  unfold yields
  rw [hrun]
  refine (tr.frame hin).mono ?_
  rintro e w' ⟨v, H', rfl, hR, hi', hsm⟩
  exact ⟨v, rfl, H' ++ Hr, ⟨H', hR, rfl⟩, hi', hsm⟩⟩
/-- a call that leaves what it was handed as it was -/
theorem Ef.callR {f : FuncId} {args : List Operand} {tys : Array TypeId} {vals : List Value} {c Hr : HL} {R : Value → Prop} [bd : Body x.P f] (hargs : args.map (ev env) = vals.map some) (hs : Sub c H Hr)
    (tr : Tr x.P f vals.toArray (addF x.F Hr) c (fun v H' => R v ∧ H' = c)) : Ef x env H ⟨dst, .call ⟨.value (.func f), args.toArray, tys⟩, ty, pos, aft, gd⟩ (fun v H' => R v ∧ H' = H) := ⟨fun a w he hi => by
  refine Yr.mono ?_ ((Ef.call (dst := dst) (tys := tys) (ty := ty) (pos := pos) (aft := aft) (gd := gd) hargs hs tr).run a w he hi)
  rintro v w' ⟨H', ⟨H1, ⟨hR, rfl⟩, rfl⟩, hi', hsm⟩
  exact ⟨H, ⟨hR, rfl⟩, hi'.perm hs.perm'.symm, hsm⟩⟩
end

end Go.Sl
namespace Go.Sl
open Go

/-- p: its run looks at no memory; s: it reads what stays; e: it acts. -/
inductive Kd where
  | p | s | e
  deriving DecidableEq

def kindOf : Op → Kd
  | .move _ | .assign _ | .pick .. | .fieldAddr .. | .field .. | .extract .. | .nilCheck _ | .unOp .. | .build .. | .index .. | .indexAddr .. | .slice .. | .makeInterface .. | .makeFunc .. => .p
  | .binOp .. => .p
  | .call ⟨.builtin .min, _, _⟩ | .call ⟨.builtin .max, _, _⟩ => .p
  | .convert a b _ => if Nat.beq a b then .e else .s
  | .load .. | .lookup .. | .call ⟨.builtin .len, _, _⟩ => .s
  | _ => .e

/-- nc: something that it does not wait for is read: what it leaves must still be readable so. -/
structure Tg where
  k : Kd
  i : Nat
  o : Oper
  nc : Bool

def Kd.isS : Kd → Bool | .s => true | _ => false
def Kd.isE : Kd → Bool | .e => true | _ => false

def maskOf (o : Oper) (acc : List Nat) : Nat := o.after.toList.foldl (fun s e => if Region.binds .any e then s ||| (1 <<< e.on) ||| acc.getD e.on 0 else s) 0
def masks : List Oper → List Nat → List Nat
  | [], acc => acc
  | o :: l, acc => masks l (acc ++ [maskOf o acc])
def sMask : List Oper → Nat → Nat
  | [], _ => 0
  | o :: l, n => (if (kindOf o.op).isS then 1 <<< n else 0) ||| sMask l (n + 1)
def tag (ms : List Nat) (sm : Nat) : List Oper → Nat → List Tg
  | [], _ => []
  | o :: l, n => ⟨kindOf o.op, n, o, (sm &&& ms.getD n 0) != sm⟩ :: tag ms sm l (n + 1)
def tags (l : List Oper) : List Tg := tag (masks l []) (sMask l 0) l 0

def hasS : List Tg → Bool
  | [] => false
  | t :: l => t.k.isS || hasS l

def anc (ms : List Nat) (i x : Nat) : Bool := (ms.getD i 0).testBit x
def pairB (ops : Array Oper) (ms : List Nat) (x y : Tg) : Bool :=
  (anc ms y.i x.i || (x.o.apart ops y.o && !(x.k.isE && y.k.isE) && (!(x.k.isS && y.k.isE) || y.nc))) && !(x.k.isE && !x.nc && y.k.isS)
def pwB (f : Tg → Tg → Bool) : List Tg → Bool
  | [] => true
  | t :: l => l.all (f t) && pwB f l
def soundB (ms : List Nat) : List Oper → Nat → Bool
  | [], _ => true
  | o :: l, n =>
    o.after.toList.all (fun e => !Region.binds .any e || Nat.blt e.on n) &&
    Nat.blt (ms.getD n 0) (2 ^ n) && (List.range n).all (fun x => !anc ms n x || o.after.toList.any (fun e => Region.binds .any e && (e.on == x || anc ms e.on x))) && soundB ms l (n + 1)
def mixB (l : List Oper) : Bool :=
  Region.noSelect l.toArray && soundB (masks l []) l 0 && pwB (pairB l.toArray (masks l [])) (tags l)

section
variable {P : Program} {ops : Array Oper} {C : World → Prop} {Q : Act → World → Prop}

/-- Where an operation only looks. -/
def quietV (P : Program) (ops : Array Oper) (C : World → Prop) (t : Tg) (a : Act) (v : Value) : Prop :=
  (Region.wanted t.o (yielded ops a.tmps) = true ∧ t.k ≠ .e ∧ ∀ w, (t.k = .s → C w) → (execOp a.eval t.o).run P w = .ok (.value v) w) ∨
  (Region.wanted t.o (yielded ops a.tmps) = false ∧ v = undef)
/-- Where it acts. -/
def acts (ops : Array Oper) (t : Tg) (a : Act) : Prop := Region.wanted t.o (yielded ops a.tmps) = true ∧ t.k = .e

def wpMix (P : Program) (ops : Array Oper) (C : World → Prop) (Q : Act → World → Prop) : List Tg → (World → Prop) → Act → Prop
  | [], M, a => ∀ w, M w → Q a w
  | t :: rest, M, a =>
    (∃ v, quietV P ops C t a v ∧ wpMix P ops C Q rest M (a.put t.o.dst v)) ∨
    (acts ops t a ∧ ∀ w, M w → yields P t.o a w (fun v w' => ∃ M' : World → Prop, M' w' ∧ (t.nc = true → ∀ w, M' w → C w) ∧ wpMix P ops C Q rest M' (a.put t.o.dst v)))

theorem quietV_put {t : Tg} {a : Act} {v : Value} {d : Option Tmp} {u : Value} (hs : ∀ cs b, t.o.op ≠ .select cs b) (h : ∀ x, d = some x → x ∉ t.o.looksAt ops) : quietV P ops C t (a.put d u) v ↔ quietV P ops C t a v := by
  unfold quietV
  rw [wanted_put t.o a d u h, execOp_put t.o hs a d u h]
theorem acts_put {t : Tg} {a : Act} {d : Option Tmp} {u : Value} (h : ∀ x, d = some x → x ∉ t.o.looksAt ops) : acts ops t (a.put d u) ↔ acts ops t a := by
  unfold acts
  rw [wanted_put t.o a d u h]
theorem yields_put {o : Oper} {a : Act} {d : Option Tmp} {u : Value} {w : World} {R : Value → World → Prop} (hs : ∀ cs b, o.op ≠ .select cs b) (h : ∀ x, d = some x → x ∉ o.looksAt ops) : yields P o (a.put d u) w R ↔ yields P o a w R := by
  unfold yields
  rw [execOp_put o hs a d u h]
theorem quietV_det {t : Tg} {a : Act} {u v : Value} {w : World} (hC : t.k = .s → C w) (h1 : quietV P ops C t a u) (h2 : quietV P ops C t a v) : u = v := by
  rcases h1 with ⟨w1, _, r1⟩ | ⟨w1, rfl⟩ <;> rcases h2 with ⟨w2, _, r2⟩ | ⟨w2, rfl⟩
  · have := (r1 w hC).symm.trans (r2 w hC); simpa using this
  · rw [w1] at w2; cases w2
  · rw [w1] at w2; cases w2
  · rfl

theorem hasS_iff (l : List Tg) : hasS l = true ↔ ∃ t ∈ l, t.k = .s := by
  induction l with
  | nil => simp [hasS]
  | cons t l ih =>
    simp only [hasS, Bool.or_eq_true, ih, List.mem_cons]
    constructor
    · rintro (h | ⟨u, hu, hk⟩)
      · exact ⟨t, .inl rfl, by cases hk : t.k <;> simp [hk, Kd.isS] at h ⊢⟩
      · exact ⟨u, .inr hu, hk⟩
    · rintro ⟨u, rfl | hu, hk⟩
      · exact .inl (by rw [hk]; rfl)
      · exact .inr ⟨u, hu, hk⟩

/-- Two may be exchanged. -/
structure Sw (ops : Array Oper) (x y : Tg) : Prop where
  apart : x.o.apart ops y.o = true
  ne : ¬ (x.k = .e ∧ y.k = .e)
  nc : x.k = .s → y.k = .e → y.nc = true

theorem wpMix_swap {x y : Tg} {rest : List Tg} {M : World → Prop} {a : Act} (hx : ∀ cs b, x.o.op ≠ .select cs b) (hy : ∀ cs b, y.o.op ≠ .select cs b)
    (hsw : Sw ops x y) (hMy : y.k = .s → ∀ w, M w → C w) (hw : ∃ w, M w)
    (h : wpMix P ops C Q (x :: y :: rest) M a) : wpMix P ops C Q (y :: x :: rest) M a := by
  obtain ⟨h1, h2, h3⟩ := Oper.apart_spec hsw.apart
  rcases h with ⟨v, hv, h⟩ | ⟨hax, h⟩
  · rcases h with ⟨u, hu, h⟩ | ⟨hay, h⟩
    · refine .inl ⟨u, (quietV_put hy h1).1 hu, .inl ⟨v, (quietV_put hx h3).2 hv, ?_⟩⟩
      rw [← Act.put_comm a v u h2]; exact h
    · refine .inr ⟨(acts_put h1).1 hay, fun w hMw => Yr.mono ?_ ((yields_put hy h1).1 (h w hMw))⟩
      rintro u w' ⟨M', hM', hk, hr⟩
      exact ⟨M', hM', hk, .inl ⟨v, (quietV_put hx h3).2 hv, by rw [← Act.put_comm a v u h2]; exact hr⟩⟩
  · obtain ⟨w0, hw0⟩ := hw
    obtain ⟨v0, w0', M0, hM0, hk0, h0⟩ := (h w0 hw0).ex
    have hyq : ∃ u, quietV P ops C y a u := by
      rcases h0 with ⟨u, hu, _⟩ | ⟨hay, _⟩
      · exact ⟨u, (quietV_put hy h1).1 hu⟩
      · exact absurd ⟨hax.2, hay.2⟩ hsw.ne
    obtain ⟨u, hu⟩ := hyq
    refine .inl ⟨u, hu, .inr ⟨(acts_put h3).2 hax, fun w hMw => Yr.mono ?_ ((yields_put hx h3).2 (h w hMw))⟩⟩
    rintro v w' ⟨M', hM', hk, hr⟩
    rcases hr with ⟨u', hu', hr⟩ | ⟨hay, _⟩
    · have hu2 := (quietV_put hy h1).1 hu'
      obtain rfl : u = u' := quietV_det (w := w) (fun hs => hMy hs w hMw) hu hu2
      refine ⟨M', hM', hk, ?_⟩
      rw [← Act.put_comm a v u h2]; exact hr
    · exact absurd ⟨hax.2, hay.2⟩ hsw.ne

/-- Nothing that is read comes behind an act that need not leave it. -/
def Late (x y : Tg) : Prop := x.k = .e → x.nc = false → y.k ≠ .s

theorem wpMix_push {x : Tg} {r r' : List Tg} {M : World → Prop} {a : Act} (hl : ∀ y ∈ r, Late x y) (hM : hasS (x :: r) = true → ∀ w, M w → C w) (hw : ∃ w, M w)
    (hr : ∀ (M' : World → Prop) (a' : Act), (hasS r = true → ∀ w, M' w → C w) → (∃ w, M' w) → wpMix P ops C Q r M' a' → wpMix P ops C Q r' M' a')
    (h : wpMix P ops C Q (x :: r) M a) : wpMix P ops C Q (x :: r') M a := by
  rcases h with ⟨v, hv, h⟩ | ⟨hax, h⟩
  · exact .inl ⟨v, hv, hr M _ (fun hs => hM (by simp [hasS, hs])) hw h⟩
  · refine .inr ⟨hax, fun w hMw => Yr.mono ?_ (h w hMw)⟩
    rintro v w' ⟨M', hM', hk, h'⟩
    refine ⟨M', hM', hk, hr M' _ (fun hs => ?_) ⟨w', hM'⟩ h'⟩
    cases hnc : x.nc with
    | true => exact hk hnc
    | false =>
      obtain ⟨y, hy, hys⟩ := (hasS_iff r).1 hs
      exact absurd hys (hl y hy hax.2 hnc)

theorem wpMix_front {i : Tg} {l2 : List Tg} : ∀ (l1 : List Tg) (M : World → Prop) (a : Act), (∀ t ∈ l1 ++ i :: l2, ∀ cs b, t.o.op ≠ .select cs b) → (l1 ++ i :: l2).Pairwise Late → (∀ x ∈ l1, Sw ops x i) →
    (hasS (l1 ++ i :: l2) = true → ∀ w, M w → C w) → (∃ w, M w) → wpMix P ops C Q (l1 ++ i :: l2) M a → wpMix P ops C Q (i :: (l1 ++ l2)) M a
  | [], _, _, _, _, _, _, _, h => h
  | x :: l1, M, a, hns, hpw, hsw, hM, hw, h => by
    rw [List.cons_append, List.pairwise_cons] at hpw
    have h' : wpMix P ops C Q (x :: (i :: (l1 ++ l2))) M a := by
      refine wpMix_push hpw.1 hM hw (fun M' a' hM' hw' hr => ?_) h
      exact wpMix_front l1 M' a' (fun t ht => hns t (List.mem_cons_of_mem _ ht)) hpw.2 (fun y hy => hsw y (List.mem_cons_of_mem _ hy)) hM' hw' hr
    refine wpMix_swap (hns x (by simp)) (hns i (by simp)) (hsw x (by simp)) (fun hs => hM ?_) hw h'
    exact (hasS_iff _).2 ⟨i, by simp, hs⟩

/-- The listed ones are closed. -/
def Closed (ops : Array Oper) (listed : Array Bool) : Prop := ∀ j o, ops[j]? = some o → listed.getD j true = true → ∀ e ∈ o.after, Region.binds .any e = true → listed.getD e.on false = true

theorem anc_listed {ms : List Nat} (hs : ∀ i o, ops[i]? = some o → (∀ e ∈ o.after, Region.binds .any e = true → e.on < i) ∧ ∀ x, anc ms i x = true → ∃ e ∈ o.after, Region.binds .any e = true ∧ (e.on = x ∨ anc ms e.on x = true))
    {listed : Array Bool} (hsz : listed.size = ops.size) (hc : Closed ops listed) : ∀ (n i : Nat), i < n → ∀ o, ops[i]? = some o → (∀ e ∈ o.after, Region.binds .any e = true → listed.getD e.on false = true) → ∀ x, anc ms i x = true → listed.getD x false = true
  | 0, _, h, _, _, _, _, _ => by omega
  | n + 1, i, hi, o, ho, hall, x, hx => by
    obtain ⟨e, he, hb, h | h⟩ := (hs i o ho).2 x hx
    · rw [← h]; exact hall e he hb
    · have hl := hall e he hb
      have hlt := (hs i o ho).1 e he hb
      have hlt2 : e.on < ops.size := by
        have := (Array.getElem?_eq_some_iff.1 ho).1; omega
      have hoe : ops[e.on]? = some ops[e.on] := Array.getElem?_eq_getElem hlt2
      refine anc_listed hs hsz hc n e.on (by omega) _ hoe (fun e' he' hb' => hc e.on _ hoe ?_ e' he' hb') x h
      have hlt3 : e.on < listed.size := by omega
      simp only [Array.getD, hlt3, dite_true] at hl ⊢
      exact hl

theorem wpAny_of_mix {rd : Option Nat} {ms : List Nat} {Q' : Post} (hq : ∀ a w, Q a w → Q' .normal a w) (hns : ∀ (j : Nat) (o : Oper) cs b, ops[j]? = some o → o.op ≠ .select cs b)
    (hs : ∀ i o, ops[i]? = some o → (∀ e ∈ o.after, Region.binds .any e = true → e.on < i) ∧ ∀ x, anc ms i x = true → ∃ e ∈ o.after, Region.binds .any e = true ∧ (e.on = x ∨ anc ms e.on x = true)) :
    ∀ (l : List Tg) (listed : Array Bool) (M : World → Prop) (a : Act) (w : World), listed.size = ops.size → Closed ops listed → (∀ t ∈ l, ops[t.i]? = some t.o) → (l.map (·.i)).Nodup → (∀ j, j < ops.size → (listed.getD j true = false ↔ j ∈ l.map (·.i))) →
      (l.map (·.i)).Pairwise (· < ·) → l.Pairwise (fun x y => (anc ms y.i x.i = true ∨ Sw ops x y) ∧ Late x y) → (hasS l = true → ∀ w, M w → C w) → M w → wpMix P ops C Q l M a → wpAnyIn (fenceR rd) 0 P .any ops Q' l.length listed a w := by
  intro l
  generalize hn : l.length = n
  induction n generalizing l with
  | zero =>
    intro listed M a w hsz hc ho hnd hl hlt hpw hM hw h
    obtain rfl := List.eq_nil_of_length_eq_zero hn
    refine ⟨?_, hq _ _ (h w hw)⟩
    refine List.eq_nil_iff_forall_not_mem.2 fun j hj => ?_
    obtain ⟨h0, o, hoj, _⟩ := mem_ready.1 hj
    have := (hl j (Array.getElem?_eq_some_iff.1 hoj).1).1 h0
    simp at this
  | succ n ih =>
    intro listed M a w hsz hc ho hnd hl hlt hpw hM hw h
    refine ⟨fun hr => ?_, fun j hj => ?_⟩
    · -- the first of the list is ready
      exfalso
      obtain ⟨t, l', rfl⟩ : ∃ t l', l = t :: l' := by
        cases l with
        | nil => simp at hn
        | cons t l' => exact ⟨t, l', rfl⟩
      have hot := ho t (by simp)
      have htlt : t.i < ops.size := (Array.getElem?_eq_some_iff.1 hot).1
      have : t.i ∈ Region.ready .any ops listed := mem_ready.2 ⟨(hl t.i htlt).2 (by simp), t.o, hot, fun e he hb => by
        have he1 := (hs t.i t.o hot).1 e he hb
        have hnot : ¬ listed.getD e.on true = false := fun hf => by
          have hm := (hl e.on (by omega)).1 hf
          simp only [List.map_cons, List.mem_cons] at hm
          rw [List.map_cons, List.pairwise_cons] at hlt
          rcases hm with hm | hm
          · omega
          · have := hlt.1 _ hm; omega
        have hlt3 : e.on < listed.size := by omega
        simp only [Array.getD, hlt3, dite_true] at hnot ⊢
        simpa using hnot⟩
      rw [hr] at this
      cases this
    · obtain ⟨h0, o, hoj, hall⟩ := mem_ready.1 hj
      have hjlt := (Array.getElem?_eq_some_iff.1 hoj).1
      obtain ⟨t, ht, rfl⟩ := List.mem_map.1 ((hl j hjlt).1 h0)
      obtain ⟨l1, l2, rfl⟩ := List.append_of_mem ht
      have hot : ops[t.i]? = some t.o := ho t ht
      obtain rfl : o = t.o := by rw [hoj] at hot; cases hot; rfl
      have hpw' := hpw
      rw [List.pairwise_append] at hpw
      have hsw : ∀ x ∈ l1, Sw ops x t := fun x hx => by
        rcases (hpw.2.2 x hx t (by simp)).1 with hanc | hsw
        · exfalso
          have := anc_listed hs hsz hc (t.i + 1) t.i (by omega) t.o hoj hall x.i hanc
          have hxo := ho x (by simp [hx])
          have hxl : x.i < ops.size := (Array.getElem?_eq_some_iff.1 hxo).1
          have hf := (hl x.i hxl).2 (List.mem_map.2 ⟨x, by simp [hx], rfl⟩)
          have hlt3 : x.i < listed.size := by omega
          simp only [Array.getD, hlt3, dite_true] at hf this
          rw [hf] at this; cases this
        · exact hsw
      have hfront := wpMix_front (C := C) (Q := Q) (P := P) (ops := ops) l1 M a (fun u hu cs b => hns u.i u.o cs b (ho u hu)) (hpw'.imp fun h => h.2) hsw hM ⟨w, hw⟩ h
      have hlen : (l1 ++ l2).length = n := by simp at hn ⊢; omega
      have hsub : (l1 ++ l2).Sublist (l1 ++ t :: l2) := (List.Sublist.refl l1).append (List.sublist_cons_self t l2)
      have hnd' : ((l1 ++ l2).map (·.i)).Nodup := hnd.sublist (hsub.map _)
      have htn : t.i ∉ (l1 ++ l2).map (·.i) := by
        have := hnd
        rw [List.map_append, List.map_cons, List.nodup_append, List.nodup_cons] at this
        rw [List.map_append, List.mem_append]
        rintro (h1 | h1)
        · exact this.2.2 _ h1 t.i (by simp) rfl
        · exact this.2.1.1 h1
      have hc' : Closed ops (listed.setIfInBounds t.i true) := fun j o ho' hj' e he hb => by
        by_cases hji : t.i = j
        · subst hji
          rw [hoj] at ho'; cases ho'
          exact getD_set_true (hall e he hb)
        · rw [getD_set_ne true hji] at hj'
          exact getD_set_true (hc j o ho' hj' e he hb)
      have hl' : ∀ j, j < ops.size → ((listed.setIfInBounds t.i true).getD j true = false ↔ j ∈ (l1 ++ l2).map (·.i)) := fun j hjs => by
        by_cases hji : t.i = j
        · subst hji
          have : (listed.setIfInBounds t.i true).getD t.i true = true := by
            simp [Array.getD, hsz, hjs]
          rw [this]
          exact ⟨fun h => (by cases h), fun h => absurd h htn⟩
        · rw [getD_set_ne true hji, hl j hjs]
          simp only [List.map_append, List.map_cons, List.mem_append, List.mem_cons]
          exact ⟨fun h => by rcases h with h | h | h <;> first | exact .inl h | exact absurd h.symm hji | exact .inr h, fun h => by rcases h with h | h; exact .inl h; exact .inr (.inr h)⟩
      have next : ∀ (M' : World → Prop) (a' : Act) (w' : World), (hasS (l1 ++ l2) = true → ∀ w, M' w → C w) → M' w' → wpMix P ops C Q (l1 ++ l2) M' a' → wpAnyIn (fenceR rd) 0 P .any ops Q' n (listed.setIfInBounds t.i true) a' w' :=
        fun M' a' w' hM' hw' h' => ih (l1 ++ l2) hlen _ M' a' w' (by simpa using hsz) hc' (fun u hu => ho u (hsub.mem hu)) hnd' hl' (hlt.sublist (hsub.map _)) (hpw'.sublist hsub) hM' hw' h'
      have hMsub : hasS (l1 ++ l2) = true → ∀ w, M w → C w := fun h => hM ((hasS_iff _).2 (let ⟨u, hu, hk⟩ := (hasS_iff _).1 h; ⟨u, hsub.mem hu, hk⟩))
      unfold wpOpIn
      rw [hoj]
      simp only []
      rcases hfront with ⟨v, hv, hr⟩ | ⟨hat, hr⟩
      · rcases hv with ⟨hwant, hne, hrun⟩ | ⟨hwant, rfl⟩
        · rw [if_pos hwant]
          refine wpIn_of_yields (yields_of_run (R := fun u w' => u = v ∧ w' = w) (hrun w (fun hks => hM ((hasS_iff _).2 ⟨t, by simp, hks⟩) w hw)) ⟨rfl, rfl⟩) ?_
          rintro u w' ⟨rfl, rfl⟩
          exact next M _ w' hMsub hw hr
        · rw [if_neg (by simp [hwant])]
          exact ⟨fun _ _ => trivial, next M _ w hMsub hw hr⟩
      · rw [if_pos hat.1]
        refine wpIn_of_yields (hr w hw) ?_
        rintro v w' ⟨M', hM', hk, h'⟩
        refine next M' _ w' (fun hs => ?_) hM' h'
        cases hnc : t.nc with
        | true => exact hk hnc
        | false =>
          exfalso
          obtain ⟨u, hu, hus⟩ := (hasS_iff _).1 hs
          rcases List.mem_append.1 hu with hu | hu
          · have := (hsw u hu).nc hus hat.2
            rw [hnc] at this; cases this
          · have hp2 := hpw.2.1
            rw [List.pairwise_cons] at hp2
            exact (hp2.1 u hu).2 hat.2 hnc hus

/-! ### from the check -/
theorem tag_mem {ms : List Nat} {sm : Nat} : ∀ (l : List Oper) (n : Nat) (t : Tg), t ∈ tag ms sm l n → n ≤ t.i ∧ l[t.i - n]? = some t.o
  | [], _, _, h => by cases h
  | o :: l, n, t, h => by
    rw [tag, List.mem_cons] at h
    rcases h with rfl | h
    · exact ⟨Nat.le_refl _, by simp⟩
    · obtain ⟨h1, h2⟩ := tag_mem l (n + 1) t h
      refine ⟨by omega, ?_⟩
      have : t.i - n = (t.i - (n + 1)) + 1 := by omega
      rw [this]; simpa using h2
theorem tag_idx {ms : List Nat} {sm : Nat} : ∀ (l : List Oper) (n : Nat), (tag ms sm l n).map (·.i) = List.range' n l.length
  | [], _ => rfl
  | o :: l, n => by rw [tag, List.map_cons, tag_idx l (n + 1)]; rfl
theorem tag_length {ms : List Nat} {sm : Nat} (l : List Oper) (n : Nat) : (tag ms sm l n).length = l.length := by
  have := congrArg List.length (tag_idx (ms := ms) (sm := sm) l n); simpa using this
theorem testBit_lt {m n x : Nat} (h : m < 2 ^ n) (hb : m.testBit x = true) : x < n := by
  rcases Nat.lt_or_ge x n with h' | h'
  · exact h'
  · have : m < 2 ^ x := Nat.lt_of_lt_of_le h (Nat.pow_le_pow_right (by omega) h')
    rw [Nat.testBit_lt_two_pow this] at hb; cases hb

theorem soundB_spec {ms : List Nat} : ∀ (l : List Oper) (n : Nat), soundB ms l n = true → ∀ i o, l[i]? = some o →
    (∀ e ∈ o.after, Region.binds .any e = true → e.on < n + i) ∧ ∀ x, anc ms (n + i) x = true → ∃ e ∈ o.after, Region.binds .any e = true ∧ (e.on = x ∨ anc ms e.on x = true)
  | [], _, _, _, _, h => by simp at h
  | o' :: l, n, hB, i, o, h => by
    simp only [soundB, Bool.and_eq_true] at hB
    obtain ⟨⟨⟨h1, h0⟩, h2⟩, h3⟩ := hB
    cases i with
    | zero =>
      simp only [List.getElem?_cons_zero, Option.some.injEq] at h
      subst h
      refine ⟨fun e he hb => ?_, fun x ha => ?_⟩
      · have := List.all_eq_true.1 h1 e (by simpa using he)
        simp only [hb, Bool.not_true, Bool.false_or] at this
        exact Nat.le_of_ble_eq_true this
      · simp only [Nat.add_zero] at ha
        have hx : x < n := testBit_lt (Nat.le_of_ble_eq_true h0) ha
        have := List.all_eq_true.1 h2 x (List.mem_range.2 hx)
        simp only [ha, Bool.not_true, Bool.false_or, List.any_eq_true, Bool.and_eq_true, Bool.or_eq_true, beq_iff_eq] at this
        obtain ⟨e, he, hb, hor⟩ := this
        exact ⟨e, by simpa using he, hb, hor⟩
    | succ i =>
      have := soundB_spec l (n + 1) h3 i o (by simpa using h)
      have e : n + 1 + i = n + (i + 1) := by omega
      rw [e] at this
      exact this
theorem pwB_spec {f : Tg → Tg → Bool} : ∀ (l : List Tg), pwB f l = true → l.Pairwise (fun x y => f x y = true)
  | [], _ => List.Pairwise.nil
  | t :: l, h => by
    simp only [pwB, Bool.and_eq_true] at h
    exact List.pairwise_cons.2 ⟨fun y hy => List.all_eq_true.1 h.1 y hy, pwB_spec l h.2⟩

theorem isE_iff (k : Kd) : k.isE = true ↔ k = .e := by cases k <;> simp [Kd.isE]
theorem isS_iff (k : Kd) : k.isS = true ↔ k = .s := by cases k <;> simp [Kd.isS]

theorem pairB_spec {ms : List Nat} {x y : Tg} (h : pairB ops ms x y = true) : (anc ms y.i x.i = true ∨ Sw ops x y) ∧ Late x y := by
  simp only [pairB, Bool.and_eq_true, Bool.or_eq_true, Bool.not_eq_true', Bool.and_eq_false_iff] at h
  obtain ⟨h1, h2⟩ := h
  refine ⟨?_, fun hx hn hy => ?_⟩
  · rcases h1 with h1 | ⟨⟨h1, h3⟩, h4⟩
    · exact .inl h1
    · refine .inr ⟨h1, fun ⟨hx, hy⟩ => ?_, fun hx hy => ?_⟩
      · rcases h3 with h3 | h3
        · rw [(isE_iff _).2 hx] at h3; cases h3
        · rw [(isE_iff _).2 hy] at h3; cases h3
      · rcases h4 with (h4 | h4) | h4
        · rw [(isS_iff _).2 hx] at h4; cases h4
        · rw [(isE_iff _).2 hy] at h4; cases h4
        · exact h4
  · rcases h2 with (h2 | h2) | h2
    · rw [(isE_iff _).2 hx] at h2; cases h2
    · simp [hn] at h2
    · rw [(isS_iff _).2 hy] at h2; cases h2

end

theorem wp_region_mix {rd : Option Nat} {P : Program} {C : World → Prop} {Q' : Post} {l : List Oper} {id : Nat} {a : Act} {w : World} {M : World → Prop} (hm : P.follows .mixedOrders = true) (hB : mixB l = true)
    (hC : ∀ w, M w → C w) (hw : M { w with drawn := w.drawn + 1 })
    (h : wpMix P l.toArray C (fun a w => Q' .normal a w) (tags l) M a) : (Code.region id l.toArray true).wpIn (fenceR rd) 0 P Q' a w := by
  simp only [mixB, Bool.and_eq_true] at hB
  obtain ⟨⟨h1, h2⟩, h4⟩ := hB
  have hs := soundB_spec l 0 h2
  simp only [Nat.zero_add] at hs
  have hmem : ∀ t ∈ tags l, l.toArray[t.i]? = some t.o := fun t ht => by
    have := (tag_mem l 0 t ht).2
    simpa using this
  have hidx : (tags l).map (·.i) = List.range' 0 l.length := tag_idx l 0
  refine wpIn_region_any hm ?_
  have key := wpAny_of_mix (rd := rd) (P := P) (ops := l.toArray) (C := C) (Q := fun a w => Q' .normal a w) (ms := masks l []) (Q' := Q') (fun _ _ h => h) (fun j o cs b ho => Region.noSelect_spec h1 j o cs b ho)
    (fun i o ho => ⟨(hs i o (by simpa using ho)).1, fun x hx => (hs i o (by simpa using ho)).2 x hx⟩)
    (tags l) (Array.replicate l.toArray.size false) M a { w with drawn := w.drawn + 1 } (by simp)
    (fun j o ho hj => by
      have := (Array.getElem?_eq_some_iff.1 ho).1
      simp only [List.size_toArray] at this
      simp [Array.getD, this] at hj)
    hmem (by rw [hidx]; exact List.nodup_range' ..) (fun j hj => by
      simp only [List.size_toArray] at hj
      rw [hidx]
      simp [Array.getD, hj, List.mem_range'_1]) (by rw [hidx]; exact List.pairwise_lt_range') ((pwB_spec _ h4).imp fun h => pairB_spec h) (fun _ => hC) hw h
  have hlen : (tags l).length = l.toArray.size := by simp [tags, tag_length]
  rw [hlen] at key
  exact key

/-! ### the judgement -/
def CC (x : Cx) (H : HL) (w : World) : Prop := In x.F H w ∧ Same x.w0 w
structure WD (x : Cx) (Hc : HL) (K : Post) (ops : Array Oper) (l : List Tg) (env : Env) (H : HL) : Prop where
  run : ∀ a, Ev x env a → wpMix x.P ops (CC x Hc) (fun a w => K .normal a w) l (CC x H) a

section
variable {x : Cx} {K : Post} {env : Env} {H Hc : HL} {ops : Array Oper} {rest : List Tg}
theorem W.draw {id : Nat} {l : List Oper} (Hc : HL) (hm : x.P.follows .mixedOrders = true) (hB : mixB l = true) (hc : ∀ w, In x.F H w → In x.F Hc w) (h : WD x Hc K l.toArray (tags l) env H) : W x K (.region id l.toArray true) env H :=
  ⟨fun a _w s => wp_region_mix hm hB (fun w h => ⟨hc w h.1, h.2⟩) (M := CC x H) ⟨⟨s.hin.nd, s.hin.own, s.hin.fr, s.hin.dj⟩, ⟨s.same.os, s.same.tape, s.same.output, s.same.size, s.same.drawn.up⟩⟩ (h.run a s.ev)⟩
theorem WD.nil (h : Fin x K .normal env H) : WD x Hc K ops [] env H := ⟨fun a he w hw => h.run a w ⟨he, hw.1, hw.2⟩⟩
theorem WD.p {d i : Nat} {nc : Bool} {op : Op} {ty : TypeId} {pos : String} {aft : Array Edge} {v : Value} (hn : Nat.blt d x.n = true) (h : Pu x env ⟨some d, op, ty, pos, aft, none⟩ v) (next : WD x Hc K ops rest ((d, v) :: env) H) :
    WD x Hc K ops (⟨.p, i, ⟨some d, op, ty, pos, aft, none⟩, nc⟩ :: rest) env H := ⟨fun a he =>
  .inl ⟨v, .inl ⟨by simp [Region.wanted], (fun h => by cases h), fun w _ => h.run a he w⟩, next.run _ (he.put (Nat.le_of_ble_eq_true hn) v)⟩⟩
theorem WD.s {d i : Nat} {nc : Bool} {op : Op} {ty : TypeId} {pos : String} {aft : Array Edge} {v : Value} (hn : Nat.blt d x.n = true) (h : Rd x env Hc ⟨some d, op, ty, pos, aft, none⟩ v) (next : WD x Hc K ops rest ((d, v) :: env) H) :
    WD x Hc K ops (⟨.s, i, ⟨some d, op, ty, pos, aft, none⟩, nc⟩ :: rest) env H := ⟨fun a he =>
  .inl ⟨v, .inl ⟨by simp [Region.wanted], (fun h => by cases h), fun w hw => h.run a w he (hw rfl).1⟩, next.run _ (he.put (Nat.le_of_ble_eq_true hn) v)⟩⟩
theorem WD.e {d i : Nat} {nc : Bool} {op : Op} {ty : TypeId} {pos : String} {aft : Array Edge} {R : Value → HL → Prop} (hn : Nat.blt d x.n = true) (h : Ef x env H ⟨some d, op, ty, pos, aft, none⟩ R)
    (next : ∀ v H', R v H' → (nc = false ∨ ∀ w, In x.F H' w → In x.F Hc w) ∧ WD x Hc K ops rest ((d, v) :: env) H') :
    WD x Hc K ops (⟨.e, i, ⟨some d, op, ty, pos, aft, none⟩, nc⟩ :: rest) env H := ⟨fun a he =>
  .inr ⟨⟨by simp [Region.wanted], rfl⟩, fun w hw => Yr.mono (fun v w' => by
    rintro ⟨H', hR, hi, hs⟩
    obtain ⟨hk, hn'⟩ := next v H' hR
    exact ⟨CC x H', ⟨hi, hw.2.trans hs⟩, fun hnc w hw => ⟨hk.resolve_left (by simp [show nc = true from hnc]) w hw.1, hw.2⟩, hn'.run _ (he.put (Nat.le_of_ble_eq_true hn) v)⟩) (h.run a w he hw.1)⟩⟩
theorem WD.e0 {i : Nat} {nc : Bool} {op : Op} {ty : TypeId} {pos : String} {aft : Array Edge} {R : Value → HL → Prop} (h : Ef x env H ⟨none, op, ty, pos, aft, none⟩ R)
    (next : ∀ v H', R v H' → (nc = false ∨ ∀ w, In x.F H' w → In x.F Hc w) ∧ WD x Hc K ops rest env H') :
    WD x Hc K ops (⟨.e, i, ⟨none, op, ty, pos, aft, none⟩, nc⟩ :: rest) env H := ⟨fun a he =>
  .inr ⟨⟨by simp [Region.wanted], rfl⟩, fun w hw => Yr.mono (fun v w' => by
    rintro ⟨H', hR, hi, hs⟩
    obtain ⟨hk, hn'⟩ := next v H' hR
    exact ⟨CC x H', ⟨hi, hw.2.trans hs⟩, fun hnc w hw => ⟨hk.resolve_left (by simp [show nc = true from hnc]) w hw.1, hw.2⟩, hn'.run _ he⟩) (h.run a w he hw.1)⟩⟩
theorem WD.g_yes {dst : Option Nat} {i : Nat} {nc : Bool} {k : Kd} {op : Op} {ty : TypeId} {pos : String} {aft : Array Edge} {j t : Nat} {b : Bool} (hj : gslot ops j = some t) (hv : look env t = some (.bool b))
    (next : WD x Hc K ops (⟨k, i, ⟨dst, op, ty, pos, aft, none⟩, nc⟩ :: rest) env H) : WD x Hc K ops (⟨k, i, ⟨dst, op, ty, pos, aft, some (j, b)⟩, nc⟩ :: rest) env H := ⟨fun a he => by
  have hw : Region.wanted ⟨dst, op, ty, pos, aft, some (j, b)⟩ (yielded ops a.tmps) = true := by simp [Region.wanted, yielded_of he hj hv]
  rcases next.run a he with ⟨v, hq, h⟩ | ⟨ha, h⟩
  · refine .inl ⟨v, ?_, h⟩
    rcases hq with ⟨_, h2, h3⟩ | ⟨h1, _⟩
    · exact .inl ⟨hw, h2, h3⟩
    · simp [Region.wanted] at h1
  · exact .inr ⟨⟨hw, ha.2⟩, h⟩⟩
theorem WD.g_no {d i : Nat} {nc : Bool} {k : Kd} {op : Op} {ty : TypeId} {pos : String} {aft : Array Edge} {j t : Nat} {b c : Bool} (hn : Nat.blt d x.n = true) (hj : gslot ops j = some t) (hv : look env t = some (.bool c)) (hc : c = !b)
    (next : WD x Hc K ops rest ((d, undef) :: env) H) : WD x Hc K ops (⟨k, i, ⟨some d, op, ty, pos, aft, some (j, b)⟩, nc⟩ :: rest) env H := ⟨fun a he => by
  have hw : Region.wanted ⟨some d, op, ty, pos, aft, some (j, b)⟩ (yielded ops a.tmps) = false := by
    simp only [Region.wanted, yielded_of he hj hv, hc]; cases b <;> rfl
  exact .inl ⟨undef, .inr ⟨hw, rfl⟩, next.run _ (he.put (Nat.le_of_ble_eq_true hn) undef)⟩⟩
theorem WD.g_undef {d i : Nat} {nc : Bool} {k : Kd} {op : Op} {ty : TypeId} {pos : String} {aft : Array Edge} {j t : Nat} {b : Bool} (hn : Nat.blt d x.n = true) (hj : gslot ops j = some t) (hv : look env t = some undef)
    (next : WD x Hc K ops rest ((d, undef) :: env) H) : WD x Hc K ops (⟨k, i, ⟨some d, op, ty, pos, aft, some (j, b)⟩, nc⟩ :: rest) env H := ⟨fun a he => by
  have hw : Region.wanted ⟨some d, op, ty, pos, aft, some (j, b)⟩ (yielded ops a.tmps) = false := by
    simp only [Region.wanted, yielded_of he hj hv]; rfl
  exact .inl ⟨undef, .inr ⟨hw, rfl⟩, next.run _ (he.put (Nat.le_of_ble_eq_true hn) undef)⟩⟩
theorem WD.g_split {dst : Option Nat} {i : Nat} {nc : Bool} {k : Kd} {op : Op} {ty : TypeId} {pos : String} {aft : Array Edge} {j t : Nat} {b c : Bool} (hj : gslot ops j = some t) (hv : look env t = some (.bool c))
    (h1 : c = true → WD x Hc K ops (⟨k, i, ⟨dst, op, ty, pos, aft, some (j, b)⟩, nc⟩ :: rest) ((t, .bool true) :: env) H) (h2 : c = false → WD x Hc K ops (⟨k, i, ⟨dst, op, ty, pos, aft, some (j, b)⟩, nc⟩ :: rest) ((t, .bool false) :: env) H) :
    WD x Hc K ops (⟨k, i, ⟨dst, op, ty, pos, aft, some (j, b)⟩, nc⟩ :: rest) env H := ⟨fun a he => by
  have _ := hj
  have key : ∀ q, c = q → Ev x ((t, .bool q) :: env) a := fun q hq => ⟨he.size, he.defers, fun u v hu => by
    rw [look_cons] at hu
    by_cases hk : t = u
    · subst hk; simp at hu; subst hu; rw [← hq]; exact he.env t _ hv
    · simp only [if_neg hk] at hu; exact he.env u v hu⟩
  cases hc : c with
  | true => exact (h1 hc).run a (key true hc)
  | false => exact (h2 hc).run a (key false hc)⟩
end
end Go.Sl
namespace Go.Sl
open Go

def isKey (n : Int) (e : MapEntry) : Bool := match e.key with | .int _ m => n == m | _ => false
def keysOk (k : IntKind) (es : List MapEntry) : Prop := ∀ e ∈ es, ∃ n, e.key = .int k n
def mfind (es : List MapEntry) (n : Int) : Option Value := (es.find? (isKey n)).map (·.val)

/-- A map's block, found in the list. -/
inductive MapAt (b : Nat) (es : List MapEntry) (clk : Nat) : HL → (Obj → HL) → Prop
  | here {H : HL} : MapAt b es clk ((b, .map es.toArray clk) :: H) (fun o => (b, o) :: H)
  | there {p : Nat × Obj} {H : HL} {k : Obj → HL} : MapAt b es clk H k → MapAt b es clk (p :: H) (fun o => p :: k o)
  | left {H1 H2 : HL} {k : Obj → HL} : MapAt b es clk H1 k → MapAt b es clk (H1 ++ H2) (fun o => k o ++ H2)
  | right {H1 H2 : HL} {k : Obj → HL} : MapAt b es clk H2 k → MapAt b es clk (H1 ++ H2) (fun o => H1 ++ k o)
theorem MapAt.foc {b : Nat} {es : List MapEntry} {clk : Nat} {H : HL} {k : Obj → HL} (h : MapAt b es clk H k) : Foc b (.map es.toArray clk) H k := by
  induction h with
  | here => exact Foc.here _
  | there _ ih => exact Foc.there _ ih
  | left _ ih => exact Foc.left ih
  | right _ ih => exact Foc.right ih

class ZeroV (P : Program) (T : TypeId) (v : outParam Value) : Prop where h : (P.info? T).bind (·.zero) = some v

theorem findNow_int {k : IntKind} {n : Int} : ∀ (es : List MapEntry) (i : Nat), keysOk k es → Instr.findNow (.int k) (.int k n) es i = some ((es.findIdx? (isKey n)).map (fun j => (i + j, ((es[j]?).map (·.val)).getD undef)))
  | [], _, _ => rfl
  | e :: es, i, h => by
    obtain ⟨m, hm⟩ := h e (by simp)
    have ih := findNow_int (n := n) es (i + 1) (fun e' he' => h e' (by simp [he']))
    unfold Instr.findNow
    rw [hm]
    by_cases hnm : n = m
    · subst hnm
      simp [Instr.sameNow, List.findIdx?_cons, isKey, hm]
    · have hb : (n == m) = false := by simpa using hnm
      simp only [Instr.sameNow, if_true, hb, ih, List.findIdx?_cons, isKey, hm]
      cases hf : es.findIdx? (isKey n) with
      | none => simp
      | some j => simp; omega

theorem findIdx_find {α : Type} (p : α → Bool) : ∀ (l : List α), (l.findIdx? p).bind (fun j => l[j]?) = l.find? p
  | [] => rfl
  | a :: l => by
    rw [List.findIdx?_cons, List.find?_cons]
    cases h : p a with
    | true => simp
    | false => simp only; rw [← findIdx_find p l]; cases l.findIdx? p <;> simp

theorem run_findKey_int {P : Program} {K : TypeId} {k : IntKind} (hu : P.underlying K = some (.int k)) {n : Int} {es : List MapEntry} (h : keysOk k es) (w : World) :
    (Instr.findKey K (.int k n) es).run P w = .ok ((es.findIdx? (isKey n)).map (fun j => (j, ((es[j]?).map (·.val)).getD undef))) w := by
  unfold Instr.findKey
  rw [Sem.run_bind, run_underlying hu]
  simp only [Result.andThen_ok]
  rw [findNow_int es 0 h]
  simp

theorem run_checkKey_int {P : Program} {K : TypeId} {k : IntKind} (hu : P.underlying K = some (.int k)) (e : Bool) (n : Int) (w : World) : (Instr.checkKey e 10000 K (.int k n)).run P w = .ok () w := by
  show (Instr.checkKey e (9999 + 1) K (.int k n)).run P w = _
  rw [Instr.checkKey, Sem.run_bind, run_underlying hu]
  rfl

section
variable {x : Cx} {env : Env} {H : HL} {dst : Option Tmp} {ty : TypeId} {pos : String} {aft : Array Edge} {gd : Option (Nat × Bool)}

theorem run_lookup_int {P : Program} {T K E : TypeId} {k : IntKind} (ht : P.underlying T = some (.map K E)) (hu : P.underlying K = some (.int k)) {z : Value} (hz : (P.info? E).bind (·.zero) = some z) {w : World} {b clk : Nat} {es : List MapEntry} (hb : w.heap[b]? = some (.map es.toArray clk)) (h : keysOk k es) (n : Int) (ok : Bool) :
    (Instr.lookup T (.map (some b)) (.int k n) ok).run P w = .ok (if ok then .tuple #[(mfind es n).getD z, .bool (mfind es n).isSome] else (mfind es n).getD z) w := by
  unfold Instr.lookup
  have hg : (getObj b).run P w = .ok (.map es.toArray clk) w := by simp [getObj, Sem.run, hb]
  have hzv : (zeroValue E).run P w = .ok z w := by
    cases hi : P.info? E with
    | none => simp [hi] at hz
    | some i => simp [hi] at hz; simp [zeroValue, typeInfo, hi, hz]
  have hmf : mfind es n = ((es.findIdx? (isKey n)).bind (fun j => es[j]?)).map (·.val) := by rw [findIdx_find]; rfl
  simp only [Sem.run_bind, run_underlying ht, Result.andThen_ok, hg, run_checkKey_int hu, run_findKey_int hu h, Sem.run_pure]
  cases hf : es.findIdx? (isKey n) with
  | none => simp [hmf, hf, hzv]
  | some j =>
    have hj : j < es.length := by
      rw [List.findIdx?_eq_some_iff_getElem] at hf; exact hf.1
    simp [hmf, hf, List.getElem?_eq_getElem hj]

theorem Upd.setObj {w : World} {b : Nat} {o o' : Obj} (h : w.heap[b]? = some o) : Upd w { w with heap := w.heap.setIfInBounds b o' } b o' := by
  have hlt := (Array.getElem?_eq_some_iff.1 h).1
  refine ⟨⟨rfl, rfl, rfl, by simp, .of (Nat.le_refl _)⟩, by simp [hlt], fun k hk => ?_⟩
  simp [Array.getElem?_setIfInBounds_ne (Ne.symm hk)]
theorem run_setObj_map {P : Program} {w : World} {b clk : Nat} {es : Array MapEntry} (h : w.heap[b]? = some (.map es clk)) (o : Obj) : (setObj b o).run P w = .ok () { w with heap := w.heap.setIfInBounds b o } := by
  simp [setObj, Sem.run, h]

/-- a new key -/
theorem Ef.mu_new {T K E : TypeId} {k : IntKind} {p q r : Operand} {b clk : Nat} {es : List MapEntry} {n : Int} {v : Value} {kk : Obj → HL} [mt : MapT x.P T K E] [it : IntT x.P K k] (hp : ev env p = some (.map (some b))) (hq : ev env q = some (.int k n)) (hr : ev env r = some v) (hm : MapAt b es clk H kk) (h : keysOk k es) (hn : mfind es n = none) :
    Ef x env H ⟨dst, .mapUpdate T p q r, ty, pos, aft, gd⟩ (fun u H' => u = undef ∧ H' = kk (.map (es ++ [MapEntry.mk (.int k n) v clk]).toArray (clk + 1))) := ⟨fun a w he hi => by
  have hb := hm.foc.heap hi
  have hf : es.findIdx? (isKey n) = none := by
    unfold mfind at hn
    rw [← findIdx_find] at hn
    cases hf : es.findIdx? (isKey n) with
    | none => rfl
    | some j =>
      have hj : j < es.length := by rw [List.findIdx?_eq_some_iff_getElem] at hf; exact hf.1
      simp [hf, List.getElem?_eq_getElem hj] at hn
  have hg : (getObj b).run x.P w = .ok (.map es.toArray clk) w := by simp [getObj, Sem.run, hb]
  refine yields_of_skip (w' := { w with heap := w.heap.setIfInBounds b (.map (es ++ [MapEntry.mk (.int k n) v clk]).toArray (clk + 1)) }) ?_ ⟨_, ⟨rfl, rfl⟩, hi.upd hm.foc (Upd.setObj hb), (Upd.setObj hb).same⟩
  simp only [execOp, he.eval hp, he.eval hq, he.eval hr, Instr.mapUpdate, Sem.run_bind, run_underlying mt.h, Result.andThen_ok, hg, run_checkKey_int it.h, run_findKey_int it.h h, hf, Option.map_none, run_setObj_map hb, Sem.run_pure, List.push_toArray]⟩

theorem Ef.del {T KT K E : TypeId} {k : IntKind} {p q : Operand} {b clk : Nat} {es : List MapEntry} {n : Int} {kk : Obj → HL} [mt : MapT x.P T K E] [it : IntT x.P K k] (hp : ev env p = some (.map (some b))) (hq : ev env q = some (.int k n)) (hm : MapAt b es clk H kk) (h : keysOk k es) :
    Ef x env H ⟨dst, .call ⟨.builtin .delete, #[p, q], #[T, KT]⟩, ty, pos, aft, gd⟩ (fun v H' => v = .tuple #[] ∧ H' = kk (.map (es.eraseP (isKey n)).toArray clk)) := ⟨fun a w he hi => by
  have hb := hm.foc.heap hi
  have hg : (getObj b).run x.P w = .ok (.map es.toArray clk) w := by simp [getObj, Sem.run, hb]
  refine yields_of_run (v := .tuple #[]) (w' := { w with heap := w.heap.setIfInBounds b (.map (es.eraseP (isKey n)).toArray clk) }) ?_ ⟨_, ⟨rfl, rfl⟩, hi.upd hm.foc (Upd.setObj hb), (Upd.setObj hb).same⟩
  have hrun : (Builtin.delete_ #[T, KT] ty #[.map (some b), .int k n]).run x.P w = .ok (.tuple #[]) { w with heap := w.heap.setIfInBounds b (.map (es.eraseP (isKey n)).toArray clk) } := by
    unfold Builtin.delete_
    simp only [Sem.run_bind, List.getElem?_toArray, List.getElem?_cons_zero, List.getElem?_cons_succ, run_underlying mt.h, Result.andThen_ok, hg, run_checkKey_int it.h, run_findKey_int it.h h]
    cases hf : es.findIdx? (isKey n) with
    | none =>
      have : es.eraseP (isKey n) = es := by
        rw [List.eraseP_eq_self_iff]
        intro e he
        have := List.findIdx?_eq_none_iff.1 hf e he
        simpa using this
      simp [run_setObj_map hb, this]
    | some j =>
      have : es.eraseP (isKey n) = es.eraseIdx j := by
        rw [List.eraseP_eq_eraseIdx, hf]
      have hj : j < es.length := by rw [List.findIdx?_eq_some_iff_getElem] at hf; exact hf.1
      simp [run_setObj_map hb, this, Array.eraseIdxIfInBounds, hj]
  simp only [execOp, resolve, invoke, builtin, List.map_toArray, List.map_cons, List.map_nil, he.eval hp, he.eval hq, Sem.run_bind, Sem.run_pure, Result.andThen_ok, hrun]⟩

theorem Ef.mkMap {T : TypeId} : Ef x env H ⟨dst, .makeMap T none, ty, pos, aft, gd⟩ (fun v H' => ∃ b, v = .map (some b) ∧ H' = (b, .map ([] : List MapEntry).toArray 0) :: H) := ⟨fun a w he hi => by
  refine yields_of_run (v := .map (some w.heap.size)) (w' := w.alloc (.map #[] 0)) (by simp [execOp, Instr.makeMap]) ⟨_, ⟨_, rfl, rfl⟩, hi.alloc _, Same.alloc w _⟩⟩

/-! ### all entries, in whatever order -/
/-- An iterator over map 'm', before whose first step the clock stood at 'since'; 'seen': the births of the entries that it gave. -/
theorem Ef.rng {T K E : TypeId} {p : Operand} {b clk : Nat} {es : List MapEntry} {kk : Obj → HL} [mt : MapT x.P T K E] (hp : ev env p = some (.map (some b))) (hm : MapAt b es clk H kk) :
    Ef x env H ⟨dst, .range T p, ty, pos, aft, gd⟩ (fun v H' => ∃ it, v = .pointer (some ⟨it, 0, none⟩) ∧ H' = (it, .mapIter (some b) clk ([] : List Nat).toArray clk) :: H) := ⟨fun a w he hi => by
  have hb := hm.foc.heap hi
  have hg : (getObj b).run x.P w = .ok (.map es.toArray clk) w := by simp [getObj, Sem.run, hb]
  refine yields_of_run (v := .pointer (some ⟨w.heap.size, 0, none⟩)) (w' := w.alloc (.mapIter (some b) clk #[] clk)) (by simp [execOp, he.eval hp, Instr.range, run_underlying mt.h, hg]) ⟨_, ⟨_, rfl, rfl⟩, hi.alloc _, Same.alloc w _⟩⟩

/-- A step: an entry that was not given yet, or (where none is left) the end. No entry was put in since the walk began. -/
theorem Ef.nxt {p : Operand} {it b clk : Nat} {es : List MapEntry} {seen : List Nat} {last : Nat} {k1 k2 : Obj → HL} (hp : ev env p = some (.pointer (some ⟨it, 0, none⟩))) (hf : Foc it (.mapIter (some b) clk seen.toArray last) H k1) (hm : MapAt b es clk H k2)
    (hold : ∀ e ∈ es, e.born < clk) (hlast : seen = [] ∨ last = clk) :
    Ef x env H ⟨dst, .next p false, ty, pos, aft, gd⟩ (fun v H' =>
      ((∀ e ∈ es, e.born ∈ seen) ∧ v = .tuple [.bool false].toArray ∧ H' = H) ∨
      ∃ e ∈ es, e.born ∉ seen ∧ v = .tuple [.bool true, e.key, e.val].toArray ∧ H' = k1 (.mapIter (some b) clk (seen ++ [e.born]).toArray clk)) := ⟨fun a w he hi => by
  have hb := hm.foc.heap hi
  have hit := hf.heap hi
  have hg : ∀ w' : World, w'.heap = w.heap → (getObj b).run x.P w' = .ok (.map es.toArray clk) w' := fun w' h => by simp [getObj, Sem.run, h, hb]
  have hgi : (getObj it).run x.P w = .ok (.mapIter (some b) clk seen.toArray last) w := by simp [getObj, Sem.run, hit]
  have hnew : (es.toArray.filter fun e => !seen.toArray.contains e.born).filter (fun e => decide (e.born ≥ clk)) = #[] := by
    rw [Array.filter_filter]
    apply Array.eq_empty_of_size_eq_zero
    rw [Array.size_eq_zero_iff, Array.filter_eq_empty_iff]
    intro e hem
    have := hold e (by simpa using hem)
    simp; omega
  have holdf : (es.toArray.filter fun e => !seen.toArray.contains e.born).filter (fun e => decide (e.born < clk)) = es.toArray.filter fun e => !seen.toArray.contains e.born := by
    rw [Array.filter_eq_self]
    intro e hem
    have := hold e (by simpa using (Array.mem_filter.1 hem).1)
    simp [this]
  have hg1 : (!seen.toArray.isEmpty && !es.toArray.isEmpty && es.toArray.all fun e => decide (e.born ≥ last)) = false := by
    rcases hlast with rfl | rfl
    · simp
    · cases es with
      | nil => simp
      | cons e es =>
        have := hold e (by simp)
        have hne : decide (e.born ≥ last) = false := by simp; omega
        simp [hne]
  generalize hcand : (if (es.toArray.filter fun e => !seen.toArray.contains e.born).isEmpty then #[none] else #[]) ++ (es.toArray.filter fun e => !seen.toArray.contains e.born).map some = cand
  have hne : cand.size ≠ 0 := by
    rw [← hcand]
    by_cases hem : (es.toArray.filter fun e => !seen.toArray.contains e.born).isEmpty = true
    · simp
    · have : (es.toArray.filter fun e => !seen.toArray.contains e.born).size ≠ 0 := by simpa [Array.isEmpty] using hem
      simp
  -- which one is drawn
  obtain ⟨i, w1, hch, hi1, hw1, hos, htp, hout, hdr⟩ : ∃ i w1, (choose (.mapNext cand.size)).run x.P w = .ok i w1 ∧ i < cand.size ∧ w1.heap = w.heap ∧ w1.os = w.os ∧ w1.tape = w.tape ∧ w1.output = w.output ∧ w.drawn ≤ w1.drawn := by
    rw [run_choose]
    by_cases hfo : (Question.mapNext cand.size).forced = true
    · exact ⟨0, w, by rw [if_pos hfo], by omega, rfl, rfl, rfl, rfl, Nat.le_refl _⟩
    · exact ⟨(Question.mapNext cand.size).cut (w.tape w.drawn (Question.mapNext cand.size)), { w with drawn := w.drawn + 1 }, by rw [if_neg hfo], Nat.mod_lt _ (by omega), rfl, rfl, rfl, rfl, Nat.le_succ _⟩
  have hc : cand[i]? = some cand[i] := Array.getElem?_eq_getElem hi1
  have hrun0 : ∀ (r : Result Value), (match cand[i]? with
      | some (some e) => (do setObj it (.mapIter (some b) clk (seen.toArray.push e.born) clk); pure (.tuple #[.bool true, e.key, e.val]) : Sem Value)
      | some none => pure (.tuple #[.bool false])
      | none => stuck "Next: no such candidate").run x.P w1 = r → (Instr.next (.pointer (some ⟨it, 0, none⟩)) false ty).run x.P w = r := by
    intro r hr
    unfold Instr.next
    simp only [Sem.run_bind, hgi, Result.andThen_ok, hg w rfl, hg1, if_false, Bool.false_eq_true, hnew, holdf, Array.append_empty, hcand, hch]
    exact hr
  cases hce : cand[i] with
  | none =>
    rw [hc, hce] at hrun0
    have hlt := hi.nd
    refine yields_of_run (v := .tuple #[.bool false]) (w' := w1) (by simp only [execOp, he.eval hp, Sem.run_bind, hrun0 _ rfl, Sem.run_pure, Result.andThen_ok]) ⟨H, .inl ⟨?_, rfl, rfl⟩, ⟨hi.nd, fun p hp => by rw [hw1]; exact hi.own p hp, fun c o h => by rw [hw1]; exact hi.fr c o h, hi.dj⟩, ⟨hos, htp, hout, by rw [hw1]; exact Nat.le_refl _, .of hdr⟩⟩
    intro e hem
    by_cases hemp : (es.toArray.filter fun e => !seen.toArray.contains e.born).isEmpty = true
    · have hsz : es.toArray.filter (fun e => !seen.toArray.contains e.born) = #[] := by simpa [Array.isEmpty_iff] using hemp
      rw [Array.filter_eq_empty_iff] at hsz
      have := hsz e (by simpa using hem)
      simpa using this
    · exfalso
      have h1 : cand = (es.toArray.filter fun e => !seen.toArray.contains e.born).map some := by rw [← hcand, if_neg hemp, Array.empty_append]
      have h2 : none ∈ cand := by rw [← hce]; exact Array.getElem_mem hi1
      rw [h1] at h2
      simp at h2
  | some e =>
    rw [hc, hce] at hrun0
    have h2 : some e ∈ cand := by rw [← hce]; exact Array.getElem_mem hi1
    have h3 : e ∈ es ∧ e.born ∉ seen := by
      rw [← hcand] at h2
      rcases Array.mem_append.1 h2 with h2 | h2
      · split at h2 <;> simp at h2
      · simpa using h2
    have hit1 : w1.heap[it]? = some (.mapIter (some b) clk seen.toArray last) := by rw [hw1]; exact hit
    have hset : (setObj it (.mapIter (some b) clk (seen.toArray.push e.born) clk)).run x.P w1 = .ok () { w1 with heap := w1.heap.setIfInBounds it (.mapIter (some b) clk (seen.toArray.push e.born) clk) } := by simp [setObj, Sem.run, hit1]
    have hpu : seen.toArray.push e.born = (seen ++ [e.born]).toArray := by simp
    rw [hpu] at hset
    simp only [hpu] at hrun0
    have hin1 : In x.F H w1 := ⟨hi.nd, fun p hp => by rw [hw1]; exact hi.own p hp, fun c o h => by rw [hw1]; exact hi.fr c o h, hi.dj⟩
    have hupd : Upd w1 { w1 with heap := w1.heap.setIfInBounds it (.mapIter (some b) clk (seen ++ [e.born]).toArray clk) } it (.mapIter (some b) clk (seen ++ [e.born]).toArray clk) := Upd.setObj hit1
    refine yields_of_run (v := .tuple #[.bool true, e.key, e.val]) (w' := { w1 with heap := w1.heap.setIfInBounds it (.mapIter (some b) clk (seen ++ [e.born]).toArray clk) }) ?_ ⟨_, .inr ⟨e, h3.1, h3.2, rfl, rfl⟩, hin1.upd hf hupd, (Same.trans ⟨hos, htp, hout, by rw [hw1]; exact Nat.le_refl _, .of hdr⟩ hupd.same)⟩
    simp only [execOp, he.eval hp, Sem.run_bind]
    rw [hrun0 (.ok (.tuple #[.bool true, e.key, e.val]) { w1 with heap := w1.heap.setIfInBounds it (.mapIter (some b) clk (seen ++ [e.born]).toArray clk) }) (by simp only [Sem.run_bind, hset, Result.andThen_ok, Sem.run_pure])]
    rfl⟩

/-- The entry of the step just made. -/
theorem Rd.ent {p : Operand} {it b clk since : Nat} {es : List MapEntry} {seen : List Nat} {e : MapEntry} {k1 k2 : Obj → HL} (hp : ev env p = some (.pointer (some ⟨it, 0, none⟩))) (hf : Foc it (.mapIter (some b) since (seen ++ [e.born]).toArray clk) H k1) (hm : MapAt b es clk H k2) (he' : e ∈ es) (hnd : (es.map (·.born)).Nodup) :
    Rd x env H ⟨dst, .entry p, ty, pos, aft, gd⟩ (.tuple [e.key, e.val].toArray) := ⟨fun a w he hi => by
  have hb := hm.foc.heap hi
  have hit := hf.heap hi
  have hg : (getObj b).run x.P w = .ok (.map es.toArray clk) w := by simp [getObj, Sem.run, hb]
  have hgi : (getObj it).run x.P w = .ok (.mapIter (some b) since (seen ++ [e.born]).toArray clk) w := by simp [getObj, Sem.run, hit]
  have hfind : es.find? (fun e' => e'.born == e.born) = some e := by
    clear hb hg hm hi hgi hit hf
    induction es with
    | nil => cases he'
    | cons q es ih =>
      simp only [List.map_cons, List.nodup_cons] at hnd
      cases he' with
      | head => simp
      | tail _ h =>
        have hne : q.born ≠ e.born := fun h' => hnd.1 (List.mem_map.2 ⟨e, h, h'.symm⟩)
        rw [List.find?_cons_of_neg (by simpa using hne)]
        exact ih h hnd.2
  simp [execOp, he.eval hp, Instr.entry, hgi, hg, hfind]⟩
end
end Go.Sl
namespace Go.Sl
open Go

/-- The blocks 'hb' bear the slice 'v', whose cells are 'xs' (elements of sz cells). -/
def OwnS (E sz : Nat) (xs : List Value) (v : Value) (hb : HL) : Prop :=
  (v = .slice none 0 0 ∧ xs = [] ∧ hb = []) ∨
  ∃ g n cap pre spare post, v = .slice (some ⟨g, List.length pre, none⟩) n cap ∧ hb = [(g, .cells (pre ++ xs ++ spare ++ post).toArray E (0, 0))] ∧ xs.length = n * sz ∧ n ≤ cap ∧ spare.length = (cap - n) * sz ∧ cap ≤ maxLen

/-- What is appended can be read. -/
def Src (F : Nat → Option Obj) (H : HL) (v : Value) (m : Nat) (news : List Value) : Prop :=
  (∃ c, v = .slice none 0 c ∧ m = 0 ∧ news = []) ∨ ∃ a c, v = .slice (some a) m c ∧ ∀ w, In F H w → ∀ j u, news[j]? = some u → w.cell? (a.add j) = some u

theorem add_lit (g o j : Nat) : (⟨g, o, none⟩ : Addr).add j = ⟨g, o + j, none⟩ := by unfold Addr.add; split <;> simp_all

/-- a slice that is none, or begins where its block does -/
def OffZ (v : Value) : Prop := ∀ a n c, v = .slice (some a) n c → a = ⟨a.block, 0, none⟩
theorem OffZ.new (b n c : Nat) : OffZ (.slice (some ⟨b, 0, none⟩) n c) := fun _ _ _ e => by cases e; rfl
theorem OffZ.none (n c : Nat) : OffZ (.slice none n c) := fun _ _ _ e => by cases e
theorem OffZ.same {a : Addr} {n c n' c' : Nat} (h : OffZ (.slice (some a) n c)) : OffZ (.slice (some a) n' c') := fun _ _ _ e => by cases e; exact h _ _ _ rfl
theorem run_append_ownZ {P : Program} {T ty E sz by_ : Nat} {i : TypeInfo} {zv : Value} (ht : P.underlying T = some (.slice E)) (hi : P.info? E = some i) (hs : i.size = sz) (hby : i.bytes = by_) (hz : i.zero = some zv) (hzs : zv.cells.size = sz) (hsz : 0 < sz)
    {xs : List Value} {v : Value} {hb : HL} (hown : OwnS E sz xs v hb) {w : World} (hblk : ∀ p ∈ hb, w.heap[p.1]? = some p.2) {src : Value} {m : Nat} {news : List Value}
    (hsrc : (∃ c, src = .slice none 0 c ∧ m = 0 ∧ news = []) ∨ ∃ a c, src = .slice (some a) m c ∧ ∀ j u, news[j]? = some u → w.cell? (a.add j) = some u) (hl : news.length = m * sz) (h1 : ∀ u ∈ news, u.oneCell' = true)
    (hb1 : (xs.length + news.length) * by_ ≤ 140737488355328) (hb2 : xs.length + news.length ≤ maxLen) :
    ∃ v' w' hb', (Builtin.append_ #[T, T] ty #[v, src]).run P w = .ok v' w' ∧ OwnS E sz (xs ++ news) v' hb' ∧ (OffZ v → OffZ v') ∧
      ((hb' = hb ∧ w' = w) ∨ (∃ g o o', hb = [(g, o)] ∧ hb' = [(g, o')] ∧ Upd w w' g o') ∨ ∃ o', hb' = [(w.heap.size, o')] ∧ w' = w.drew.alloc o') := by
  subst hs
  have hnm : ∀ n : Nat, xs.length = n * i.size → n + m ≤ xs.length + news.length := fun n hn => by
    have h1 : n ≤ n * i.size := Nat.le_mul_of_pos_right n hsz
    have h2 : m ≤ m * i.size := Nat.le_mul_of_pos_right m hsz
    omega
  have hfit : ∀ n : Nat, xs.length = n * i.size → (n + m) * i.bytes ≤ 140737488355328 := fun n hn => by
    rw [hby]
    exact Nat.le_trans (Nat.mul_le_mul_right _ (hnm n hn)) hb1
  have hmax : maxLen = 9223372036854775807 := by unfold maxLen; rfl
  -- the new row
  have grown : ∀ (n old : Nat), xs.length = n * i.size → OwnS E i.size (xs ++ news) (.slice (some ⟨w.heap.size, 0, none⟩) (n + m) (grownCap w (n + m) old E))
      [(w.heap.size, .cells (xs.toArray ++ news.toArray ++ Builtin.zeroCells zv.cells (grownCap w (n + m) old E - (n + m))) E (0, 0))] := fun n old hn => by
    refine .inr ⟨w.heap.size, n + m, grownCap w (n + m) old E, [], (Builtin.zeroCells zv.cells (grownCap w (n + m) old E - (n + m))).toList, [], rfl, by simp, by simp [hn, hl, Nat.add_mul], grownCap_ge _ _ _ _, ?_, ?_⟩
    · simp [size_zeroCells, hzs]
    · exact grownCap_le_maxLen _ _ _ _ (Nat.le_trans (hnm n hn) hb2)
  rcases hown with ⟨rfl, rfl, rfl⟩ | ⟨g, n, cap, pre, spare, post, rfl, rfl, hlen, hnc, hsp, hcap⟩
  · have hn0 : ([] : List Value).length = 0 * i.size := by simp
    by_cases hm : m = 0
    · have hnew : news = [] := List.eq_nil_of_length_eq_zero (by rw [hl, hm]; simp)
      refine ⟨.slice none 0 0, w, [], ?_, .inl ⟨rfl, by simp [hnew], rfl⟩, fun hz => hz, .inl ⟨rfl, rfl⟩⟩
      rcases hsrc with ⟨c, rfl, _, _⟩ | ⟨a, c, rfl, _⟩
      · simp [Builtin.append_, run_underlying ht, sizeOf, typeInfo, hi, Builtin.lenOf, Builtin.firstCells]
      · subst hm
        simp [Builtin.append_, run_underlying ht, sizeOf, typeInfo, hi, Builtin.lenOf, Builtin.firstCells, loadCells, loadCellsFrom]
    · rcases hsrc with ⟨c, rfl, h0, _⟩ | ⟨a, c, rfl, hr⟩
      · exact absurd h0 hm
      · have hf := hfit 0 hn0
        have hle := hnm 0 hn0
        simp only [Nat.zero_add] at hf hle
        have hrun := run_append_nil (P := P) w T ty E i zv ht hi hz a m c news hl hr (by omega) (by omega) (by omega)
        have hg := grown 0 0 hn0
        simp only [Nat.zero_add, List.nil_append, Array.empty_append] at hg
        exact ⟨_, _, _, hrun, hg, fun _ => .new _ _ _, .inr (.inr ⟨_, rfl, rfl⟩)⟩
  · have hgh : w.heap[g]? = some (.cells (pre ++ xs ++ spare ++ post).toArray E (0, 0)) := hblk (g, _) List.mem_cons_self
    have hle := hnm n hlen
    by_cases hroom : n + m ≤ cap
    · -- in place
      have hfc : (Builtin.firstCells i.size m src).run P w = .ok news.toArray w ∧ (Builtin.lenOf src).run P w = .ok m w := by
        rcases hsrc with ⟨c, rfl, rfl, rfl⟩ | ⟨a, c, rfl, hr⟩
        · exact ⟨by simp [Builtin.firstCells], rfl⟩
        · exact ⟨run_firstCells_some (P := P) w i.size m a m c news hl hr, rfl⟩
      have hml : m * i.size ≤ (cap - n) * i.size := Nat.mul_le_mul_right _ (by omega)
      have hst := run_storeCells_at P g (pre.length + n * i.size) E news 0 (pre ++ xs ++ spare ++ post).toArray w hgh (by simp [hlen, hsp, hl]; omega) h1
      simp only [Nat.add_zero] at hst
      have hcells : ((pre ++ xs ++ spare ++ post).take (pre.length + n * i.size) ++ news ++ (pre ++ xs ++ spare ++ post).drop (pre.length + n * i.size + news.length)) = pre ++ (xs ++ news) ++ spare.drop (m * i.size) ++ post := by
        have e1 : (pre ++ xs ++ spare ++ post).take (pre.length + n * i.size) = pre ++ xs := by
          rw [List.append_assoc (pre ++ xs), List.take_append_of_le_length (by simp [hlen]), List.take_of_length_le (by simp [hlen])]
        have e2 : (pre ++ xs ++ spare ++ post).drop (pre.length + n * i.size + news.length) = spare.drop (m * i.size) ++ post := by
          have : pre.length + n * i.size + news.length = (pre ++ xs).length + m * i.size := by simp [hlen, hl]
          rw [this, List.append_assoc (pre ++ xs), ← List.drop_drop, List.drop_left, List.drop_append_of_le_length (by omega)]
        rw [e1, e2]; simp
      have hrun : (Builtin.append_ #[T, T] ty #[.slice (some ⟨g, pre.length, none⟩) n cap, src]).run P w = .ok (.slice (some ⟨g, pre.length, none⟩) (n + m) cap) (w.setRow g (pre ++ (xs ++ news) ++ spare.drop (m * i.size) ++ post).toArray) := by
        rw [← hcells]
        simp [Builtin.append_, run_underlying ht, sizeOf, typeInfo, hi, hfc.1, hfc.2, hroom, add_lit, hst]
      refine ⟨_, _, [(g, .cells (pre ++ (xs ++ news) ++ spare.drop (m * i.size) ++ post).toArray E (0, 0))], hrun, .inr ⟨g, n + m, cap, pre, spare.drop (m * i.size), post, rfl, rfl, by simp [hlen, hl, Nat.add_mul], hroom, ?_, hcap⟩, fun hz => .same hz, .inr (.inl ⟨g, _, _, rfl, rfl, Upd.setRow hgh⟩)⟩
      rw [List.length_drop, hsp, ← Nat.sub_mul]
      congr 1
      omega
    · rcases hsrc with ⟨c, rfl, h0, _⟩ | ⟨a, c, rfl, hr⟩
      · omega
      · have holds : ∀ j u, xs[j]? = some u → w.cell? ((⟨g, pre.length, none⟩ : Addr).add j) = some u := fun j u hu => by
          have hj : j < xs.length := (List.getElem?_eq_some_iff.1 hu).1
          rw [add_lit, cell_of_row w g _ _ E _ hgh]
          simp only [List.getElem?_toArray, List.append_assoc]
          rw [List.getElem?_append_right (by omega), Nat.add_sub_cancel_left, List.getElem?_append_left hj]
          exact hu
        have hrun := run_append_grow (P := P) w T ty E i zv ht hi hz ⟨g, pre.length, none⟩ n cap xs hlen holds a m c news hl hr (by omega) (by omega) (growslice_fits (by omega) (hfit n hlen))
        exact ⟨_, _, _, hrun, grown n cap hlen, fun _ => .new _ _ _, .inr (.inr ⟨_, rfl, rfl⟩)⟩
theorem run_append_ownS {P : Program} {T ty E sz by_ : Nat} {i : TypeInfo} {zv : Value} (ht : P.underlying T = some (.slice E)) (hi : P.info? E = some i) (hs : i.size = sz) (hby : i.bytes = by_) (hz : i.zero = some zv) (hzs : zv.cells.size = sz) (hsz : 0 < sz)
    {xs : List Value} {v : Value} {hb : HL} (hown : OwnS E sz xs v hb) {w : World} (hblk : ∀ p ∈ hb, w.heap[p.1]? = some p.2) {src : Value} {m : Nat} {news : List Value}
    (hsrc : (∃ c, src = .slice none 0 c ∧ m = 0 ∧ news = []) ∨ ∃ a c, src = .slice (some a) m c ∧ ∀ j u, news[j]? = some u → w.cell? (a.add j) = some u) (hl : news.length = m * sz) (h1 : ∀ u ∈ news, u.oneCell' = true)
    (hb1 : (xs.length + news.length) * by_ ≤ 140737488355328) (hb2 : xs.length + news.length ≤ maxLen) :
    ∃ v' w' hb', (Builtin.append_ #[T, T] ty #[v, src]).run P w = .ok v' w' ∧ OwnS E sz (xs ++ news) v' hb' ∧
      ((hb' = hb ∧ w' = w) ∨ (∃ g o o', hb = [(g, o)] ∧ hb' = [(g, o')] ∧ Upd w w' g o') ∨ ∃ o', hb' = [(w.heap.size, o')] ∧ w' = w.drew.alloc o') := by
  obtain ⟨v', w', hb', h1', h2', _, h3'⟩ := run_append_ownZ (ty := ty) ht hi hs hby hz hzs hsz hown hblk hsrc hl h1 hb1 hb2
  exact ⟨v', w', hb', h1', h2', h3'⟩

section
variable {x : Cx} {env : Env} {H : HL} {dst : Option Tmp} {ty : TypeId} {pos : String} {aft : Array Edge} {gd : Option (Nat × Bool)}

theorem In.drew {F : Nat → Option Obj} {H : HL} {w : World} (h : In F H w) : In F H w.drew := ⟨h.nd, h.own, h.fr, h.dj⟩
theorem Same.drew (w : World) : Same w w.drew := ⟨rfl, rfl, rfl, Nat.le_refl _, .of (Nat.le_succ _)⟩

theorem In.upd1 {F : Nat → Option Obj} {H : HL} {w w' : World} {g : Nat} {o o' : Obj} (hi : In F ((g, o) :: H) w) (hu : Upd w w' g o') : In F ((g, o') :: H) w' := hi.upd (Foc.here H) hu

theorem Ef.app {T E sz by_ : Nat} {z : List Value} {p q : Operand} {xs : List Value} {v src : Value} {hb Hr : HL} {m : Nat} {news : List Value} [st : SliceT x.P T E sz by_] [zt : ZeroT x.P E z] (hzl : z.length = sz) (hsz : Nat.blt 0 sz = true)
    (hp : ev env p = some v) (hq : ev env q = some src) (hown : OwnS E sz xs v hb) (hsub : Sub hb H Hr) (hsrc : Src x.F H src m news) (hl : news.length = m * sz) (h1 : ∀ u ∈ news, u.oneCell' = true)
    (hb1 : (xs.length + news.length) * by_ ≤ 140737488355328) (hb2 : xs.length + news.length ≤ maxLen) :
    Ef x env H ⟨dst, .call ⟨.builtin .append, #[p, q], #[T, T]⟩, ty, pos, aft, gd⟩ (fun v' H' => ∃ hb', OwnS E sz (xs ++ news) v' hb' ∧ H' = hb' ++ Hr) := ⟨fun a w he hi => by
  have hperm := hi.perm hsub.perm'
  have hst := st.i
  have hzt := zt.h
  cases hinf : x.P.info? E with
  | none => simp [hinf] at hst
  | some i =>
  simp only [hinf, Option.map_some, Option.some.injEq, Prod.mk.injEq] at hst
  cases hzz : i.zero with
  | none => simp [hinf, hzz] at hzt
  | some zv =>
  have hzc : zv.cells = z.toArray := by simpa [hinf, hzz] using hzt
  obtain ⟨v', w', hb', hrun, hown', hcase⟩ := run_append_ownS (ty := ty) st.h hinf hst.1 hst.2 hzz (by rw [hzc]; simpa using hzl) (Nat.le_of_ble_eq_true hsz) hown (w := w) (fun p hp => hperm.own p (List.mem_append_left _ hp))
    (hsrc.imp id fun ⟨a, c, h1, h2⟩ => ⟨a, c, h1, h2 w hi⟩) hl h1 hb1 hb2
  refine yields_of_run (v := v') (w' := w') (by simp only [execOp, resolve, invoke, builtin, List.map_toArray, List.map_cons, List.map_nil, he.eval hp, he.eval hq, Sem.run_bind, Sem.run_pure, Result.andThen_ok, hrun]) ⟨hb' ++ Hr, ⟨hb', hown', rfl⟩, ?_⟩
  rcases hcase with ⟨rfl, rfl⟩ | ⟨g, o, o', rfl, rfl, hu⟩ | ⟨o', rfl, rfl⟩
  · exact ⟨hperm, Same.refl _⟩
  · exact ⟨hperm.upd1 hu, hu.same⟩
  · have h2 := (hperm.right).drew.alloc o'
    exact ⟨h2, (Same.drew w).trans (Same.alloc _ _)⟩⟩

/-- as Ef.app, and where the slice begins -/
theorem Ef.appZ {T E sz by_ : Nat} {z : List Value} {p q : Operand} {xs : List Value} {v src : Value} {hb Hr : HL} {m : Nat} {news : List Value} [st : SliceT x.P T E sz by_] [zt : ZeroT x.P E z] (hzl : z.length = sz) (hsz : Nat.blt 0 sz = true)
    (hp : ev env p = some v) (hq : ev env q = some src) (hown : OwnS E sz xs v hb) (hsub : Sub hb H Hr) (hsrc : Src x.F H src m news) (hl : news.length = m * sz) (h1 : ∀ u ∈ news, u.oneCell' = true)
    (hb1 : (xs.length + news.length) * by_ ≤ 140737488355328) (hb2 : xs.length + news.length ≤ maxLen) :
    Ef x env H ⟨dst, .call ⟨.builtin .append, #[p, q], #[T, T]⟩, ty, pos, aft, gd⟩ (fun v' H' => ∃ hb', OwnS E sz (xs ++ news) v' hb' ∧ (OffZ v → OffZ v') ∧ H' = hb' ++ Hr) := ⟨fun a w he hi => by
  have hperm := hi.perm hsub.perm'
  have hst := st.i
  have hzt := zt.h
  cases hinf : x.P.info? E with
  | none => simp [hinf] at hst
  | some i =>
  simp only [hinf, Option.map_some, Option.some.injEq, Prod.mk.injEq] at hst
  cases hzz : i.zero with
  | none => simp [hinf, hzz] at hzt
  | some zv =>
  have hzc : zv.cells = z.toArray := by simpa [hinf, hzz] using hzt
  obtain ⟨v', w', hb', hrun, hown', hzz', hcase⟩ := run_append_ownZ (ty := ty) st.h hinf hst.1 hst.2 hzz (by rw [hzc]; simpa using hzl) (Nat.le_of_ble_eq_true hsz) hown (w := w) (fun p hp => hperm.own p (List.mem_append_left _ hp))
    (hsrc.imp id fun ⟨a, c, h1, h2⟩ => ⟨a, c, h1, h2 w hi⟩) hl h1 hb1 hb2
  refine yields_of_run (v := v') (w' := w') (by simp only [execOp, resolve, invoke, builtin, List.map_toArray, List.map_cons, List.map_nil, he.eval hp, he.eval hq, Sem.run_bind, Sem.run_pure, Result.andThen_ok, hrun]) ⟨hb' ++ Hr, ⟨hb', hown', hzz', rfl⟩, ?_⟩
  rcases hcase with ⟨rfl, rfl⟩ | ⟨g, o, o', rfl, rfl, hu⟩ | ⟨o', rfl, rfl⟩
  · exact ⟨hperm, Same.refl _⟩
  · exact ⟨hperm.upd1 hu, hu.same⟩
  · have h2 := (hperm.right).drew.alloc o'
    exact ⟨h2, (Same.drew w).trans (Same.alloc _ _)⟩⟩

/-- a part that is read: an owned block's first cells; a block of the frame -/
theorem Src.own {F : Nat → Option Obj} {b off m c : Nat} {news : List Value} {n : Nat} (h : CutAt b off n news H) : Src F H (.slice (some ⟨b, off, none⟩) m c) m news := .inr ⟨_, c, rfl, fun w hi j u hu => by
  obtain ⟨l, T', fr, k, hf, hv⟩ := h.foc
  obtain ⟨hr, hle⟩ := cut_eq hv
  rw [add_lit, cell_of_row w b _ _ T' fr (hf.heap hi)]
  rw [hr, List.getElem?_take] at hu
  split at hu
  · simpa using hu
  · cases hu⟩
theorem Src.foc {F : Nat → Option Obj} {b off m c : Nat} {news l : List Value} {T' : TypeId} {fr : Nat × Nat} {k : Obj → HL} (hf : Foc b (.cells l.toArray T' fr) H k) (h : ∀ j u, news[j]? = some u → l[off + j]? = some u) : Src F H (.slice (some ⟨b, off, none⟩) m c) m news := .inr ⟨_, c, rfl, fun w hi j u hu => by
  rw [add_lit, cell_of_row w b _ _ T' fr (hf.heap hi)]
  simpa using h j u hu⟩
theorem Src.fr {F : Nat → Option Obj} {b off m c : Nat} {news : List Value} {cs : Array Value} {T' : TypeId} {fr : Nat × Nat} (hf : F b = some (.cells cs T' fr)) (h : ∀ j u, news[j]? = some u → cs[off + j]? = some u) : Src F H (.slice (some ⟨b, off, none⟩) m c) m news := .inr ⟨_, c, rfl, fun w hi j u hu => by
  rw [add_lit, cell_of_row w b _ _ T' fr (hi.fr b _ hf)]
  exact h j u hu⟩
theorem Src.nil {F : Nat → Option Obj} {c : Nat} : Src F H (.slice none 0 c) 0 [] := .inl ⟨c, rfl, rfl, rfl⟩

/-- a slice's literal of no or one element -/
theorem Ef.bs0 {T E sz by_ : Nat} [st : SliceT x.P T E sz by_] : Ef x env H ⟨dst, .buildSlice T 0 #[], ty, pos, aft, gd⟩ (fun v H' => ∃ b, v = .slice (some ⟨b, 0, none⟩) 0 0 ∧ H' = (b, .cells ([] : List Value).toArray E (0, 0)) :: H) := ⟨fun a w he hi => by
  have hst := st.i
  cases hinf : x.P.info? E with
  | none => simp [hinf] at hst
  | some i =>
  refine yields_of_run (v := .slice (some ⟨w.heap.size, 0, none⟩) 0 0) (w' := w.alloc (.cells #[] E)) ?_ ⟨_, ⟨_, rfl, rfl⟩, hi.alloc _, Same.alloc w _⟩
  simp [execOp, Instr.buildSlice, run_underlying st.h, sizeOf, typeInfo, hinf, Instr.fill, newRow, show Array.range 0 = #[] from rfl]⟩

theorem foldl_set (vs : List Value) : ∀ (k : Nat) (cells : Array Value), k + vs.length ≤ cells.size → (vs.zipIdx.foldl (fun cs (p : Value × Nat) => cs.setIfInBounds (k + p.2) p.1) cells).toList = cells.toList.take k ++ vs ++ cells.toList.drop (k + vs.length) := by
  intro k cells h
  have key : ∀ (vs : List Value) (j : Nat) (cells : Array Value), k + j + vs.length ≤ cells.size → ((vs.zipIdx j).foldl (fun cs (p : Value × Nat) => cs.setIfInBounds (k + p.2) p.1) cells).toList = cells.toList.take (k + j) ++ vs ++ cells.toList.drop (k + j + vs.length) := by
    intro vs
    induction vs with
    | nil => intro j cells _; simp
    | cons v vs ih =>
      intro j cells h
      simp only [List.zipIdx_cons, List.foldl_cons]
      rw [ih (j + 1) _ (by simp at h ⊢; omega)]
      have hlt : k + j < cells.toList.length := by simp at h ⊢; omega
      have e := list_seg_step cells.toList (k + j) v vs (by simp at h ⊢; omega)
      simpa [Array.toList_setIfInBounds, Nat.add_assoc] using e
  simpa using key vs 0 cells (by simpa using h)

theorem fill_one {place : Nat → Option (Nat × Nat)} {cells : List Value} {v : Value} {i off size : Nat} {r : List Value} (hp : place i = some (off, size)) (hs : v.cells.size = size) (hr : spliceK cells off v.cells.toList some = some r) (rest : List (Nat × Value)) :
    Instr.fill place cells.toArray ((i, v) :: rest) = Instr.fill place r.toArray rest := by
  obtain ⟨h1, h2⟩ := splice_eq hr
  have hf := foldl_set v.cells.toList off cells.toArray (by simpa using h2)
  have hcell : v.cells.zipIdx.foldl (fun cs (p : Value × Nat) => cs.setIfInBounds (off + p.2) p.1) cells.toArray = r.toArray := by
    apply Array.ext'
    rw [h1, ← Array.foldl_toList, Array.toList_zipIdx]
    simpa using hf
  rw [Instr.fill, hp]
  simp only []
  rw [if_neg (by simp at h2 ⊢; omega)]
  exact congrArg (fun c => Instr.fill place c rest) hcell

def fillK (pl : List (Nat × Nat)) : List (Nat × Value) → List Value → Option (List Value)
  | [], cells => some cells
  | (i, v) :: rest, cells => match pl[i]? with
    | some (off, size) => match Nat.beq v.cells.size size with
      | true => match spliceK cells off v.cells.toList some with
        | some r => fillK pl rest r
        | none => none
      | false => none
    | none => none
theorem fill_K {place : Nat → Option (Nat × Nat)} {pl : List (Nat × Nat)} (hpl : ∀ i, place i = pl[i]?) : ∀ (parts : List (Nat × Value)) (cells r : List Value), fillK pl parts cells = some r → Instr.fill place cells.toArray parts = some r.toArray
  | [], cells, r, h => by simp [fillK] at h; subst h; rfl
  | (i, v) :: rest, cells, r, h => by
    rw [fillK] at h
    cases hp : pl[i]? with
    | none => simp [hp] at h
    | some q =>
      obtain ⟨off, size⟩ := q
      simp only [hp] at h
      cases hb : Nat.beq v.cells.size size with
      | false => simp [hb] at h
      | true =>
        simp only [hb] at h
        cases hs : spliceK cells off v.cells.toList some with
        | none => simp [hs] at h
        | some r' =>
          simp only [hs] at h
          rw [fill_one (by rw [hpl, hp]) (Nat.eq_of_beq_eq_true hb) hs]
          exact fill_K hpl rest r' r h

class StructP (P : Program) (T : TypeId) (pl : outParam (List (Nat × Nat))) : Prop where
  h : ((P.underlying T).bind (fun d => match d with | .struct fs => (fs.mapM (fun f => (P.info? f.type).map (fun i => (f.offset, i.size)))) | _ => none)) = some pl.toArray

theorem run_places {P : Program} {fs : Array Field} {w : World} : ∀ (l : List Field) (pl : List (Nat × Nat)), l.mapM (fun f => (P.info? f.type).map (fun i => (f.offset, i.size))) = some pl → (l.mapM (fun f => do pure (f.offset, ← sizeOf f.type) : Field → Sem (Nat × Nat))).run P w = .ok pl w
  | [], pl, h => by simp at h; subst h; rfl
  | f :: l, pl, h => by
    rw [List.mapM_cons] at h
    cases hf : P.info? f.type with
    | none => simp [hf] at h
    | some i =>
      simp only [hf, Option.map_some, Option.bind_eq_bind, Option.bind_some] at h
      cases hl : l.mapM (fun f => (P.info? f.type).map (fun i => (f.offset, i.size))) with
      | none => simp [hl] at h
      | some pl' =>
        simp only [hl, Option.bind_some, Option.pure_def, Option.some.injEq] at h
        subst h
        rw [List.mapM_cons]
        have ih := run_places (fs := fs) (w := w) l pl' hl
        simp only [Sem.run_bind, sizeOf, typeInfo, run_program, Result.andThen_ok, hf, Sem.run_pure] at ih ⊢
        rw [ih]
        rfl

def evalP (env : Env) : List (Nat × Operand) → Option (List (Nat × Value))
  | [] => some []
  | (i, q) :: r => match ev env q with
    | none => none
    | some v => match evalP env r with
      | none => none
      | some l => some ((i, v) :: l)
theorem parts_eval {a : Act} (he : Ev x env a) : ∀ (parts : List (Nat × Operand)) (vals : List (Nat × Value)), evalP env parts = some vals → parts.map (fun p => (p.1, a.eval p.2)) = vals
  | [], vals, h => by simp [evalP] at h; subst h; rfl
  | (i, q) :: parts, vals, h => by
    rw [evalP] at h
    cases hq : ev env q with
    | none => simp [hq] at h
    | some v =>
      simp only [hq] at h
      cases hr : evalP env parts with
      | none => simp [hr] at h
      | some l =>
        simp only [hr, Option.some.injEq] at h
        subst h
        simp [he.eval hq, parts_eval he parts l hr]

theorem Pu.bld {T : TypeId} {z : List Value} {pl : List (Nat × Nat)} {parts : List (Nat × Operand)} {vals : List (Nat × Value)} {r : List Value} [zt : ZeroT x.P T z] [sp : StructP x.P T pl] (hv : evalP env parts = some vals) (hr : fillK pl vals z = some r) :
    Pu x env ⟨dst, .build T parts.toArray, ty, pos, aft, gd⟩ (.agg r.toArray) := ⟨fun a he w => by
  have hz := zt.h
  have hs := sp.h
  cases hinf : x.P.info? T with
  | none => simp [hinf] at hz
  | some i =>
  cases hzz : i.zero with
  | none => simp [hinf, hzz] at hz
  | some zv =>
  have hzc : zv.cells = z.toArray := by simpa [hinf, hzz] using hz
  cases hu : x.P.underlying T with
  | none => simp [hu] at hs
  | some d =>
  rw [hu] at hs
  simp only [Option.bind_some] at hs
  cases d with
  | struct fs =>
    simp only at hs
    have hpl : fs.toList.mapM (fun f => (x.P.info? f.type).map (fun i => (f.offset, i.size))) = some pl := by
      rw [← Array.toArray_toList (xs := fs), List.mapM_toArray] at hs
      cases hm : fs.toList.mapM (fun f => (x.P.info? f.type).map (fun i => (f.offset, i.size))) with
      | none => simp [hm] at hs
      | some q => simp [hm] at hs; rw [hs]
    have hrun := run_places (P := x.P) (fs := fs) (w := w) fs.toList pl hpl
    have hfs : (fs.mapM (fun f => do pure (f.offset, ← sizeOf f.type) : Field → Sem (Nat × Nat))).run x.P w = .ok pl.toArray w := by
      rw [← Array.toArray_toList (xs := fs), List.mapM_toArray]
      rw [Sem.run_map, hrun]; rfl
    have hpe := parts_eval he parts vals hv
    have hfill := fill_K (place := fun i => pl.toArray[i]?) (pl := pl) (fun i => by simp) vals z r hr
    have hparts : (parts.toArray.map fun (p : Nat × Operand) => (p.1, a.eval p.2)).toList = vals := by simpa using hpe
    simp only [execOp, Instr.build, zeroValue, typeInfo, Sem.run_bind, run_program, Result.andThen_ok, hinf, hzz, Sem.run_pure, run_underlying hu, hfs, hzc, hparts, hfill]
  | _ => simp at hs⟩

/-- one element -/
theorem Ef.bs1 {T E sz by_ : Nat} {z : List Value} {q : Operand} {v : Value} {cs : List Value} [st : SliceT x.P T E sz by_] [zt : ZeroT x.P E z] (hq : ev env q = some v) (hc : v.cells = cs.toArray) (hl : cs.length = sz) (hz : z.length = sz) (hsz : Nat.blt 0 sz = true) (hsm : Nat.ble sz 16777216 = true) :
    Ef x env H ⟨dst, .buildSlice T 1 #[(0, q)], ty, pos, aft, gd⟩ (fun v H' => ∃ b, v = .slice (some ⟨b, 0, none⟩) 1 1 ∧ H' = (b, .cells cs.toArray E (0, 0)) :: H) := ⟨fun a w he hi => by
  have hst := st.i
  have hzt := zt.h
  cases hinf : x.P.info? E with
  | none => simp [hinf] at hst
  | some i =>
  simp only [hinf, Option.map_some, Option.some.injEq, Prod.mk.injEq] at hst
  cases hzz : i.zero with
  | none => simp [hinf, hzz] at hzt
  | some zv =>
  have hpos : sz ≠ 0 := by have := Nat.le_of_ble_eq_true hsz; omega
  have hbig : ¬ 16777216 < sz := by have := Nat.le_of_ble_eq_true hsm; omega
  refine yields_of_run (v := .slice (some ⟨w.heap.size, 0, none⟩) 1 1) (w' := w.alloc (.cells cs.toArray E)) ?_ ⟨_, ⟨_, rfl, rfl⟩, hi.alloc _, Same.alloc w _⟩
  have hfill : ∀ c0 : List Value, c0.length = sz → Instr.fill (fun i => some (i * sz, sz)) c0.toArray [(0, v)] = some cs.toArray := fun c0 h0 => by
    rw [fill_one (off := 0) (size := sz) (r := cs) (by simp) (by rw [hc]; simpa using hl)]
    · rfl
    · rw [hc, spliceK_eq]
      simp [h0, hl]
  have hc0 : (Array.range sz).map (zv.cells[· % zv.cells.size]!) = ((List.range sz).map (zv.cells[· % zv.cells.size]!)).toArray := by
    apply Array.ext'; simp
  simp only [execOp, Instr.buildSlice, Sem.run_bind, run_underlying st.h, Result.andThen_ok, sizeOf, typeInfo, run_program, hinf, Sem.run_pure, hst.1, Nat.one_mul]
  rw [if_neg (by simpa using hbig)]
  simp only [Sem.run_pure, Result.andThen_ok, if_neg hpos, zeroValue, typeInfo, Sem.run_bind, run_program, hinf, hzz, List.map_toArray, List.map_cons, List.map_nil, he.eval hq, hc0]
  rw [hfill _ (by simp)]
  simp [newRow]⟩
end
end Go.Sl
