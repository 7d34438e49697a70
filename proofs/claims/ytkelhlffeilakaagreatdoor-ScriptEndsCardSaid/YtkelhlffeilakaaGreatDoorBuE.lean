/- Some texts as one. The evaluator: maps by binary signs; values up to where the blocks lie. No conditions: definitions and laws. The evaluator: its state, and operations that look at no memory. No conditions: definitions and laws. The evaluator: the rest of what looks at no memory: fields, literals, parts of slices, function values. No conditions: definitions and laws. The evaluator: slices of arrays. No conditions: definitions and laws. The evaluator: all that looks at no memory, at once; loads. No conditions: definitions and laws. The evaluator: what acts on memory: new blocks, stores, appends. No conditions: definitions and laws. The evaluator: the operations that act on memory. No conditions: definitions and laws. -/
import Derived.Test.YtkelhlffeilakaaGreatDoorBuD
import Derived.Test.YtkelhlffeilakaaGreatDoorBuC
namespace Go.Ev
open Go Go.Sl
noncomputable section

/-- a map from numbers, by their binary signs -/
inductive T (α : Type) where
  | e
  | n (l : T α) (v : Option α) (r : T α)
/-K-/
def T.get {α : Type} (t : T α) : Nat → Option α := T.rec (motive := fun _ => Nat → Option α) (fun _ => none) (fun _ v _ gl gr k => Nat.rec (motive := fun _ => Option α) v (fun j _ => Bool.rec (motive := fun _ => Option α) (gr (Nat.div j 2)) (gl (Nat.div j 2)) (Nat.beq (Nat.mod j 2) 0)) k) t
def T.set {α : Type} (f : Nat) : T α → Nat → Option α → T α := Nat.rec (motive := fun _ => T α → Nat → Option α → T α) (fun t _ _ => t) (fun _ ih t k v => T.rec (motive := fun _ => T α)
  (Nat.rec (motive := fun _ => T α) (.n .e v .e) (fun j _ => Bool.rec (motive := fun _ => T α) (.n .e none (ih .e (Nat.div j 2) v)) (.n (ih .e (Nat.div j 2) v) none .e) (Nat.beq (Nat.mod j 2) 0)) k)
  (fun l w r _ _ => Nat.rec (motive := fun _ => T α) (.n l v r) (fun j _ => Bool.rec (motive := fun _ => T α) (.n l w (ih r (Nat.div j 2) v)) (.n (ih l (Nat.div j 2) v) w r) (Nat.beq (Nat.mod j 2) 0)) k) t) f
/-K.-/
/-C
def T.get {α : Type} : T α → Nat → Option α
  | .e, _ => none
  | .n l v r, k => match k with
    | 0 => v
    | j + 1 => match Nat.beq (j % 2) 0 with
      | true => l.get (j / 2)
      | false => r.get (j / 2)
def T.set {α : Type} : Nat → T α → Nat → Option α → T α
  | 0, t, _, _ => t
  | f + 1, .e, k, v => match k with
    | 0 => .n .e v .e
    | j + 1 => match Nat.beq (j % 2) 0 with
      | true => .n (T.set f .e (j / 2) v) none .e
      | false => .n .e none (T.set f .e (j / 2) v)
  | f + 1, .n l w r, k, v => match k with
    | 0 => .n l v r
    | j + 1 => match Nat.beq (j % 2) 0 with
      | true => .n (T.set f l (j / 2) v) w r
      | false => .n l w (T.set f r (j / 2) v)
C.-/
theorem beq_true {a b : Nat} (h : Nat.beq a b = true) : a = b := Nat.eq_of_beq_eq_true h
theorem beq_false {a b : Nat} (h : Nat.beq a b = false) : a ≠ b := fun e => by subst e; rw [show Nat.beq a a = true from Nat.beq_refl a] at h; cases h
theorem T.get_e {α : Type} (k : Nat) : (T.e : T α).get k = none := by
  first | rfl | (unfold T.get; rfl)
theorem T.get_n0 {α : Type} (l r : T α) (v : Option α) : (T.n l v r).get 0 = v := rfl
theorem T.get_nS {α : Type} (l r : T α) (v : Option α) (j : Nat) : (T.n l v r).get (j + 1) = if j % 2 = 0 then l.get (j / 2) else r.get (j / 2) := by
  cases hb : Nat.beq (j % 2) 0 with
  | true =>
    rw [if_pos (beq_true hb)]
    show (Bool.rec _ _ (Nat.beq (j % 2) 0) : Option α) = _
    rw [hb]
    all_goals rfl
  | false =>
    rw [if_neg (beq_false hb)]
    show (Bool.rec _ _ (Nat.beq (j % 2) 0) : Option α) = _
    rw [hb]
    all_goals rfl
theorem T.set_e0 {α : Type} (f : Nat) (v : Option α) : T.set (f + 1) .e 0 v = .n .e v .e := rfl
theorem T.set_n0 {α : Type} (f : Nat) (l r : T α) (w v : Option α) : T.set (f + 1) (.n l w r) 0 v = .n l v r := rfl
theorem T.set_eS {α : Type} (f j : Nat) (v : Option α) : T.set (f + 1) .e (j + 1) v = if j % 2 = 0 then .n (T.set f .e (j / 2) v) none .e else .n .e none (T.set f .e (j / 2) v) := by
  cases hb : Nat.beq (j % 2) 0 with
  | true =>
    rw [if_pos (beq_true hb)]
    show (Bool.rec _ _ (Nat.beq (j % 2) 0) : T α) = _
    rw [hb]
    all_goals rfl
  | false =>
    rw [if_neg (beq_false hb)]
    show (Bool.rec _ _ (Nat.beq (j % 2) 0) : T α) = _
    rw [hb]
    all_goals rfl
theorem T.set_nS {α : Type} (f j : Nat) (l r : T α) (w v : Option α) : T.set (f + 1) (.n l w r) (j + 1) v = if j % 2 = 0 then .n (T.set f l (j / 2) v) w r else .n l w (T.set f r (j / 2) v) := by
  cases hb : Nat.beq (j % 2) 0 with
  | true =>
    rw [if_pos (beq_true hb)]
    show (Bool.rec _ _ (Nat.beq (j % 2) 0) : T α) = _
    rw [hb]
    all_goals rfl
  | false =>
    rw [if_neg (beq_false hb)]
    show (Bool.rec _ _ (Nat.beq (j % 2) 0) : T α) = _
    rw [hb]
    all_goals rfl
theorem T.get_set {α : Type} : ∀ (f : Nat) (t : T α) (k : Nat) (v : Option α), k + 1 < 2 ^ f → ∀ j, (T.set f t k v).get j = if j = k then v else t.get j
  | 0, t, k, v, h, j => by simp at h
  | f + 1, t, k, v, h, j => by
    have hp : 2 ^ (f + 1) = 2 * 2 ^ f := by rw [Nat.pow_succ, Nat.mul_comm]
    cases t with
    | e =>
      cases k with
      | zero =>
        rw [T.set_e0]
        cases j with
        | zero => rw [T.get_n0, if_pos rfl]
        | succ i => rw [T.get_nS, T.get_e, T.get_e, ite_self, if_neg (by omega)]
      | succ q =>
        rw [T.set_eS]
        by_cases hq : q % 2 = 0
        · rw [if_pos hq]
          cases j with
          | zero => rw [T.get_n0, if_neg (by omega), T.get_e]
          | succ i =>
            rw [T.get_nS, T.get_set f .e (q / 2) v (by omega), T.get_e, T.get_e]
            by_cases h1 : i % 2 = 0
            · rw [if_pos h1]
              by_cases h2 : i / 2 = q / 2
              · rw [if_pos h2, if_pos (by omega)]
              · rw [if_neg h2, if_neg (by omega)]
            · rw [if_neg h1, if_neg (by omega)]
        · rw [if_neg hq]
          cases j with
          | zero => rw [T.get_n0, if_neg (by omega), T.get_e]
          | succ i =>
            rw [T.get_nS, T.get_set f .e (q / 2) v (by omega), T.get_e, T.get_e]
            by_cases h1 : i % 2 = 0
            · rw [if_pos h1, if_neg (by omega)]
            · rw [if_neg h1]
              by_cases h2 : i / 2 = q / 2
              · rw [if_pos h2, if_pos (by omega)]
              · rw [if_neg h2, if_neg (by omega)]
    | n l w r =>
      cases k with
      | zero =>
        rw [T.set_n0]
        cases j with
        | zero => rw [T.get_n0, if_pos rfl]
        | succ i => rw [T.get_nS, T.get_nS, if_neg (show ¬ i + 1 = 0 by omega)]
      | succ q =>
        rw [T.set_nS]
        by_cases hq : q % 2 = 0
        · rw [if_pos hq]
          cases j with
          | zero => rw [T.get_n0, T.get_n0, if_neg (by omega)]
          | succ i =>
            rw [T.get_nS, T.get_nS, T.get_set f l (q / 2) v (by omega)]
            by_cases h1 : i % 2 = 0
            · rw [if_pos h1, if_pos h1]
              by_cases h2 : i / 2 = q / 2
              · rw [if_pos h2, if_pos (by omega)]
              · rw [if_neg h2, if_neg (by omega)]
            · rw [if_neg h1, if_neg h1, if_neg (by omega)]
        · rw [if_neg hq]
          cases j with
          | zero => rw [T.get_n0, T.get_n0, if_neg (by omega)]
          | succ i =>
            rw [T.get_nS, T.get_nS, T.get_set f r (q / 2) v (by omega)]
            by_cases h1 : i % 2 = 0
            · rw [if_pos h1, if_pos h1, if_neg (by omega)]
            · rw [if_neg h1, if_neg h1]
              by_cases h2 : i / 2 = q / 2
              · rw [if_pos h2, if_pos (by omega)]
              · rw [if_neg h2, if_neg (by omega)]
def T.put {α : Type} (t : T α) (k : Nat) (v : α) : T α := T.set 20 t k (some v)
def T.del {α : Type} (t : T α) (k : Nat) : T α := T.set 20 t k none
theorem T.get_put {α : Type} {t : T α} {k : Nat} {v : α} (h : k < 1000000) (j : Nat) : (t.put k v).get j = if j = k then some v else t.get j := T.get_set 20 t k (some v) (by omega) j
theorem T.get_del {α : Type} {t : T α} {k : Nat} (h : k < 1000000) (j : Nat) : (t.del k).get j = if j = k then none else t.get j := T.get_set 20 t k none (by omega) j

/-! ### values, up to where the blocks lie -/
/-- where a block of the evaluator's lies: its block, how many cells are ahead, where its room ends, the size of an element -/
structure Pl where
  g : Nat
  sh : Nat
  ce : Nat
  sz : Nat
abbrev Ro := Nat → Option Pl
mutual
inductive VR (ρ : Ro) : Value → Value → Prop where
  | bool (b : Bool) : VR ρ (.bool b) (.bool b)
  | int (k : IntKind) (n : Int) : VR ρ (.int k n) (.int k n)
  | str (s : ByteArray) : VR ρ (.string s) (.string s)
  | nf : VR ρ .nilFunc .nilFunc
  | ni : VR ρ .nilIface .nilIface
  | ptr0 : VR ρ (.pointer none) (.pointer none)
  | ptr {β o : Nat} {pl : Pl} : ρ β = some pl → VR ρ (.pointer (some ⟨β, o, none⟩)) (.pointer (some ⟨pl.g, pl.sh + o, none⟩))
  | sl0 : VR ρ (.slice none 0 0) (.slice none 0 0)
  | sl {β o n c : Nat} {pl : Pl} : ρ β = some pl → pl.sh + o + c * pl.sz = pl.ce → n ≤ c → VR ρ (.slice (some ⟨β, o, none⟩) n 0) (.slice (some ⟨pl.g, pl.sh + o, none⟩) n c)
  | slE {β o off : Nat} {pl : Pl} : ρ β = some pl → off ≤ pl.sh + o → VR ρ (.slice (some ⟨β, o, none⟩) 0 0) (.slice (some ⟨pl.g, off, none⟩) 0 0)
  | slX {β o n c : Nat} {pl : Pl} : ρ β = some pl → n ≤ c → VR ρ (.slice (some ⟨β, o, none⟩) n 1) (.slice (some ⟨pl.g, pl.sh + o, none⟩) n c)
  | slY {β o off c : Nat} {pl : Pl} : ρ β = some pl → off ≤ pl.sh + o → VR ρ (.slice (some ⟨β, o, none⟩) 0 1) (.slice (some ⟨pl.g, off, none⟩) 0 c)
  | map0 : VR ρ (.map none) (.map none)
  | map {β : Nat} {pl : Pl} : ρ β = some pl → VR ρ (.map (some β)) (.map (some pl.g))
  | yl {β : Nat} {pl : Pl} : ρ β = some pl → VR ρ (.func (.yield β) ⟨[]⟩ ⟨[]⟩) (.func (.yield pl.g) ⟨[]⟩ ⟨[]⟩)
  | func {f : FuncId} {a a' c c' : List Value} : VRs ρ a a' → VRs ρ c c' → VR ρ (.func (.func f) ⟨a⟩ ⟨c⟩) (.func (.func f) ⟨a'⟩ ⟨c'⟩)
  | iface {t : TypeId} {v v' : Value} : VR ρ v v' → VR ρ (.iface t v) (.iface t v')
  | agg {l l' : List Value} : VRs ρ l l' → VR ρ (.agg ⟨l⟩) (.agg ⟨l'⟩)
  | tup {l l' : List Value} : VRs ρ l l' → VR ρ (.tuple ⟨l⟩) (.tuple ⟨l'⟩)
inductive VRs (ρ : Ro) : List Value → List Value → Prop where
  | nil : VRs ρ [] []
  | cons {v v' : Value} {l l' : List Value} : VR ρ v v' → VRs ρ l l' → VRs ρ (v :: l) (v' :: l')
end
def Le (ρ ρ' : Ro) : Prop := ∀ β pl, ρ β = some pl → ρ' β = some pl
theorem Le.refl (ρ : Ro) : Le ρ ρ := fun _ _ h => h
theorem Le.trans {a b c : Ro} (h : Le a b) (k : Le b c) : Le a c := fun β pl e => k β pl (h β pl e)
mutual
theorem VR.mono {ρ ρ' : Ro} (h : Le ρ ρ') : ∀ {v v' : Value}, VR ρ v v' → VR ρ' v v'
  | _, _, .bool b => .bool b
  | _, _, .int k n => .int k n
  | _, _, .str s => .str s
  | _, _, .nf => .nf
  | _, _, .ni => .ni
  | _, _, .ptr0 => .ptr0
  | _, _, .ptr e => .ptr (h _ _ e)
  | _, _, .sl0 => .sl0
  | _, _, .sl e a b => .sl (h _ _ e) a b
  | _, _, .slE e a => .slE (h _ _ e) a
  | _, _, .slX e a => .slX (h _ _ e) a
  | _, _, .slY e a => .slY (h _ _ e) a
  | _, _, .map0 => .map0
  | _, _, .map e => .map (h _ _ e)
  | _, _, .yl e => .yl (h _ _ e)
  | _, _, .func a b => .func (VRs.mono h a) (VRs.mono h b)
  | _, _, .iface a => .iface (VR.mono h a)
  | _, _, .agg a => .agg (VRs.mono h a)
  | _, _, .tup a => .tup (VRs.mono h a)
theorem VRs.mono {ρ ρ' : Ro} (h : Le ρ ρ') : ∀ {v v' : List Value}, VRs ρ v v' → VRs ρ' v v'
  | _, _, .nil => .nil
  | _, _, .cons a b => .cons (VR.mono h a) (VRs.mono h b)
end
section
variable {ρ : Ro}
theorem VRs.len : ∀ {l l' : List Value}, VRs ρ l l' → l.length = l'.length
  | _, _, .nil => rfl
  | _, _, .cons _ b => congrArg (· + 1) b.len
theorem VRs.at : ∀ {l l' : List Value}, VRs ρ l l' → ∀ {i : Nat} {v : Value}, l[i]? = some v → ∃ v', l'[i]? = some v' ∧ VR ρ v v'
  | _, _, .nil, _, _, h => by cases h
  | _, _, .cons a b, 0, _, h => by cases h; exact ⟨_, rfl, a⟩
  | _, _, .cons a b, i + 1, _, h => b.at (i := i) (by simpa using h)
theorem VRs.app : ∀ {l l' m m' : List Value}, VRs ρ l l' → VRs ρ m m' → VRs ρ (l ++ m) (l' ++ m')
  | _, _, _, _, .nil, h => h
  | _, _, _, _, .cons a b, h => .cons a (b.app h)
theorem VRs.drop : ∀ (n : Nat) {l l' : List Value}, VRs ρ l l' → VRs ρ (l.drop n) (l'.drop n)
  | 0, _, _, h => by simpa using h
  | n + 1, _, _, .nil => by simpa using VRs.nil
  | n + 1, _, _, .cons _ b => by simpa using b.drop n
theorem VRs.take : ∀ (n : Nat) {l l' : List Value}, VRs ρ l l' → VRs ρ (l.take n) (l'.take n)
  | 0, _, _, _ => by simpa using VRs.nil
  | n + 1, _, _, .nil => by simpa using VRs.nil
  | n + 1, _, _, .cons a b => by simpa using VRs.cons a (b.take n)
theorem VRs.set : ∀ (i : Nat) {l l' : List Value} {v v' : Value}, VRs ρ l l' → VR ρ v v' → VRs ρ (l.set i v) (l'.set i v')
  | _, _, _, _, _, .nil, _ => by simpa using VRs.nil
  | 0, _, _, _, _, .cons _ b, h => by simpa using VRs.cons h b
  | i + 1, _, _, _, _, .cons a b, h => by simpa using VRs.cons a (b.set i h)
end
/-- a value in which no block is named -/
def flatB : Value → Bool
  | .bool _ | .int _ _ | .string _ | .nilFunc | .nilIface | .pointer none | .slice none 0 0 | .map none => true
  | _ => false
def clearB : Value → Bool
  | .agg ⟨l⟩ => l.all flatB
  | .tuple ⟨l⟩ => l.all flatB
  | v => flatB v
theorem flat_vr {ρ : Ro} {v : Value} (h : flatB v = true) : VR ρ v v := by
  unfold flatB at h
  split at h
  all_goals first | exact .bool _ | exact .int _ _ | exact .str _ | exact .nf | exact .ni | exact .ptr0 | exact .sl0 | exact .map0 | (cases h)
theorem flat_vrs {ρ : Ro} : ∀ {l : List Value}, l.all flatB = true → VRs ρ l l
  | [], _ => .nil
  | v :: l, h => by
    rw [List.all_cons, Bool.and_eq_true] at h
    exact .cons (flat_vr h.1) (flat_vrs h.2)
theorem clear_vr {ρ : Ro} {v : Value} (h : clearB v = true) : VR ρ v v := by
  unfold clearB at h
  split at h
  · exact .agg (flat_vrs h)
  · exact .tup (flat_vrs h)
  · exact flat_vr h
end
end Go.Ev
namespace Go.Ev
open Go Go.Sl
noncomputable section

def eqU : List UInt8 → List UInt8 → Bool
  | [], [] => true
  | a :: l, b :: m => match Nat.beq a.toNat b.toNat with
    | true => eqU l m
    | false => false
  | _, _ => false
def eqBA (m n : ByteArray) : Bool := eqU m.data.toList n.data.toList
theorem eqU_eq : ∀ (l m : List UInt8), (l == m) = eqU l m
  | [], [] => rfl
  | [], _ :: _ => rfl
  | _ :: _, [] => rfl
  | a :: l, b :: m => by
    unfold eqU
    rw [List.cons_beq_cons, eqU_eq l m]
    cases hb : Nat.beq a.toNat b.toNat with
    | true =>
      have : a = b := UInt8.toNat_inj.1 (Nat.eq_of_beq_eq_true hb)
      subst this
      simp
    | false =>
      have : a ≠ b := fun e => by subst e; rw [show Nat.beq a.toNat a.toNat = true from Nat.beq_refl _] at hb; cases hb
      have : (a == b) = false := by simpa using this
      rw [this]
      rfl
theorem eqBA_eq (m n : ByteArray) : (m.toList == n.toList) = eqBA m n := by
  have h : ∀ a : ByteArray, a.toList = a.data.toList := fun a => toList_strB a.data.toList
  rw [h, h, eqU_eq]
  rfl
/-- a loop's record, as the evaluator has it -/
structure LpA where
  st : LoopState
  pd : Option Code
  n : Nat
  env : T Value
  ps : List Tmp
  a : Code
  b : Code
/-- a loop's record in memory -/
structure LpR (ρ : Ro) (L : LpA) (r : Loop) : Prop where
  st : r.state = L.st
  pd : r.pending = L.pd
  size : r.tmps.size = L.n
  env : ∀ t v, L.env.get t = some v → ∃ u, r.tmps[t]? = some u ∧ VR ρ v u
  ps : r.params = L.ps.toArray
  a : r.assign = L.a
  b : r.body = L.b
theorem LpR.mono {ρ ρ' : Ro} {L : LpA} {r : Loop} (hl : Le ρ ρ') (h : LpR ρ L r) : LpR ρ' L r :=
  ⟨h.st, h.pd, h.size, fun t v e => let ⟨u, h1, h2⟩ := h.env t v e; ⟨u, h1, h2.mono hl⟩, h.ps, h.a, h.b⟩
/-- what the evaluator has in a block: cells of a type; a map; a walk over a map -/
inductive AO where
  | cells (rw : Bool) (l : List Value) (E : TypeId)
  | mp (rw : Bool) (es : List MapEntry) (clk : Nat)
  | it (rw : Bool) (m : Nat) (since : Nat) (seen : List Nat) (last : Nat)
  | lp (rw : Bool) (L : LpA)
  | dfr (rw : Bool)
  | mk (rw : Bool) (l : List Value) (E : TypeId)
def AO.rw : AO → Bool
  | .cells rw _ _ => rw
  | .mp rw _ _ => rw
  | .it rw _ _ _ _ => rw
  | .lp rw _ => rw
  | .dfr rw => rw
  | .mk rw _ _ => rw
def AO.set (b : Bool) : AO → AO
  | .cells _ l E => .cells b l E
  | .mp _ es clk => .mp b es clk
  | .it _ m since seen last => .it b m since seen last
  | .lp _ L => .lp b L
  | .dfr _ => .dfr b
  | .mk _ l E => .mk b l E
theorem AO.rw_set (b : Bool) (a : AO) : (a.set b).rw = b := by cases a <;> rfl
structure AS where
  env : T Value
  heap : T AO
  nx : Nat
  gn : Nat
/-- where a block lies: owned (it may be written), or in the frame -/
def Has (F : Nat → Option Obj) (H : HL) : Bool → Nat → Obj → Prop
  | true, g, o => (g, o) ∈ H
  | false, g, o => F g = some o
theorem Has.heap {F : Nat → Option Obj} {H : HL} {rw : Bool} {g : Nat} {o : Obj} {w : World} (h : Has F H rw g o) (hi : In F H w) : w.heap[g]? = some o := by
  cases rw
  · exact hi.fr _ _ h
  · exact hi.own _ h
structure Okh (F : Nat → Option Obj) (H : HL) : Prop where
  nd : (H.map (·.1)).Nodup
  dj : ∀ p ∈ H, F p.1 = none
inductive ERs (ρ : Ro) : List MapEntry → List MapEntry → Prop where
  | nil : ERs ρ [] []
  | cons {k : IntKind} {n : Int} {v v' : Value} {b : Nat} {l l' : List MapEntry} : VR ρ v v' → ERs ρ l l' → ERs ρ (⟨.int k n, v, b⟩ :: l) (⟨.int k n, v', b⟩ :: l')
theorem ERs.mono {ρ ρ' : Ro} (h : Le ρ ρ') : ∀ {l l' : List MapEntry}, ERs ρ l l' → ERs ρ' l l'
  | _, _, .nil => .nil
  | _, _, .cons a b => .cons (a.mono h) (b.mono h)
def OV (P : Program) (ρ : Ro) (pl : Pl) : AO → Obj → Prop
  | .cells _ l E, o => ∃ pre l' post, o = Obj.cells (pre ++ l' ++ post).toArray E (0, 0) ∧ pre.length = pl.sh ∧ VRs ρ l l' ∧ pl.ce ≤ pre.length + l'.length + post.length ∧ (P.info? E).map (·.size) = some pl.sz ∧ pl.ce ≤ pl.sh + maxLen * pl.sz
  | .mp _ es clk, o => ∃ es', o = Obj.map es'.toArray clk ∧ ERs ρ es es'
  | .it _ m since seen last, o => pl.sh = 0 ∧ ∃ pm, ρ m = some pm ∧ o = Obj.mapIter (some pm.g) since seen.toArray last
  | .lp _ L, o => ∃ r, o = Obj.loop r ∧ LpR ρ L r
  | .dfr _, o => o = Obj.deferred (some [])
  | .mk _ l _, o => ∃ pre l' post fr E, o = Obj.cells (pre ++ l' ++ post).toArray E fr ∧ pre.length = pl.sh ∧ VRs ρ l l'
theorem OV.mono {P : Program} {ρ ρ' : Ro} {pl : Pl} {a : AO} {o : Obj} (hl : Le ρ ρ') (h : OV P ρ pl a o) : OV P ρ' pl a o := by
  cases a with
  | cells rw l E =>
    obtain ⟨pre, l', post, h1, h2, h3, h4⟩ := h
    exact ⟨pre, l', post, h1, h2, h3.mono hl, h4⟩
  | mp rw es clk =>
    obtain ⟨es', h1, h2⟩ := h
    exact ⟨es', h1, h2.mono hl⟩
  | it rw m since seen last =>
    obtain ⟨h0, pm, h1, h2⟩ := h
    exact ⟨h0, pm, hl _ _ h1, h2⟩
  | lp rw L =>
    obtain ⟨r, h1, h2⟩ := h
    exact ⟨r, h1, h2.mono hl⟩
  | dfr rw => exact h
  | mk rw l E =>
    obtain ⟨pre, l', post, fr, E', h1, h2, h3⟩ := h
    exact ⟨pre, l', post, fr, E', h1, h2, h3.mono hl⟩
theorem OV.set {P : Program} {ρ : Ro} {pl : Pl} {a : AO} {o : Obj} (b : Bool) (h : OV P ρ pl a o) : OV P ρ pl (a.set b) o := by cases a <;> exact h
def OR (P : Program) (F : Nat → Option Obj) (ρ : Ro) (pl : Pl) (H : HL) (a : AO) : Prop := ∃ o, Has F H a.rw pl.g o ∧ OV P ρ pl a o
structure Re (x : Cx) (ρ : Ro) (s : AS) (env : Env) (H : HL) : Prop where
  env : ∀ t v, s.env.get t = some v → ∃ u, Sl.look env t = some u ∧ VR ρ v u
  heap : ∀ β o, s.heap.get β = some o → ∃ pl, ρ β = some pl ∧ OR x.P x.F ρ pl H o
  inj : ∀ β γ o o' pl pl', s.heap.get β = some o → s.heap.get γ = some o' → ρ β = some pl → ρ γ = some pl' → pl.g = pl'.g → β = γ
  dom : ∀ β pl, ρ β = some pl → β < s.nx
  nd : Okh x.F H
  gl : ∀ g, g < s.gn → ∃ pl, ρ g = some pl ∧ pl.g = g ∧ pl.sh = 0
theorem Re.cells {x : Cx} {ρ : Ro} {s : AS} {env : Env} {H : HL} (h : Re x ρ s env H) {β : Nat} {rw : Bool} {l : List Value} {E : TypeId} (hg : s.heap.get β = some (.cells rw l E)) : ∃ pl, ρ β = some pl ∧ ∃ pre l' post, Has x.F H rw pl.g (Obj.cells (pre ++ l' ++ post).toArray E (0, 0)) ∧ pre.length = pl.sh ∧ VRs ρ l l' ∧ pl.ce ≤ pre.length + l'.length + post.length ∧ (x.P.info? E).map (·.size) = some pl.sz ∧ pl.ce ≤ pl.sh + maxLen * pl.sz := by
  obtain ⟨pl, h1, o, h2, pre, l', post, rfl, h3⟩ := h.heap β _ hg
  exact ⟨pl, h1, pre, l', post, h2, h3⟩
def evA (s : AS) : Operand → Option Value
  | .tmp t => s.env.get t
  | .const v => match clearB v with
    | true => some v
    | false => none
  | .func f => some (.func (.func f) ⟨[]⟩ ⟨[]⟩)
  | .global g => match Nat.blt g s.gn with
    | true => some (.pointer (some ⟨g, 0, none⟩))
    | false => none
section
variable {x : Cx} {ρ : Ro} {s : AS} {env : Env} {H : HL} {dst : Option Tmp} {ty : TypeId} {pos : String} {aft : Array Edge} {gd : Option (Nat × Bool)}
theorem evA_ok (h : Re x ρ s env H) {p : Operand} {v : Value} (e : evA s p = some v) : ∃ u, ev env p = some u ∧ VR ρ v u := by
  cases p with
  | tmp t => exact h.env t v e
  | const c =>
    have e' : (match clearB c with | true => some c | false => none) = some v := e
    cases hc : clearB c with
    | true => rw [hc] at e'; cases e'; exact ⟨_, rfl, clear_vr hc⟩
    | false => rw [hc] at e'; cases e'
  | global g =>
    unfold evA at e
    dsimp only at e
    split at e
    · rename_i hg
      cases e
      obtain ⟨pl, h1, h2, h3⟩ := h.gl g (Nat.le_of_ble_eq_true hg)
      have := VR.ptr (o := 0) h1
      rw [h2, h3] at this
      exact ⟨_, rfl, this⟩
    · cases e
  | func f =>
    cases e
    exact ⟨_, rfl, .func .nil .nil⟩
def evAs (s : AS) : List Operand → Option (List Value)
  | [] => some []
  | p :: l => match evA s p with
    | none => none
    | some v => match evAs s l with
      | none => none
      | some vs => some (v :: vs)
theorem evAs_ok (h : Re x ρ s env H) : ∀ {l : List Operand} {vs : List Value}, evAs s l = some vs → ∃ us, evL env l = some us ∧ VRs ρ vs us
  | [], vs, e => by cases e; exact ⟨[], rfl, .nil⟩
  | p :: l, vs, e => by
    unfold evAs at e
    cases h1 : evA s p with
    | none => rw [h1] at e; cases e
    | some v =>
      rw [h1] at e
      dsimp only at e
      cases h2 : evAs s l with
      | none => rw [h2] at e; cases e
      | some ws =>
        rw [h2] at e
        cases e
        obtain ⟨u, hu, hv⟩ := evA_ok h h1
        obtain ⟨us, hus, hvs⟩ := evAs_ok h h2
        exact ⟨u :: us, by rw [evL, hu, hus], .cons hv hvs⟩
/-! ### two operands -/
/-- an array of two numbers -/
def arr2B (P : Program) (T : TypeId) (k : IntKind) : Bool := match P.underlying T with
  | some (.array n e) => match P.underlying e with
    | some (.int k') => (Nat.beq n 2 && decide (k = k')) && scalB P e
    | _ => false
  | _ => false
theorem run_eqArr2 {P : Program} {T : TypeId} {k : IntKind} (h : arr2B P T k = true) (w : World) (a b c d : Int) :
    (Op.equal T (.agg ⟨[.int k a, .int k b]⟩) (.agg ⟨[.int k c, .int k d]⟩)).run P w = .ok (decide (a = c) && decide (b = d)) w ∧ P.eqGuardType P.depth T = false := by
  unfold arr2B at h
  split at h
  · rename_i n e hT
    split at h
    · rename_i k' he
      simp only [Bool.and_eq_true, decide_eq_true_eq, Nat.beq_eq] at h
      obtain ⟨⟨rfl, rfl⟩, hsc⟩ := h
      obtain ⟨i, hi, hs⟩ := scalB_info hsc
      refine ⟨?_, ?_⟩
      · show (Op.equalIn (9998 + 2) T (.agg [.int k a, .int k b].toArray) (.agg [.int k c, .int k d].toArray)).run P w = _
        rw [Op.equalIn, Sem.run_bind, run_underlying hT]
        have e1 : ∀ (l : List Value) (j : Nat) (v : Value), l[j]? = some v → (part e l.toArray j).run P w = .ok v w := fun l j v hv => by simp [part, run_isAgg_scal hsc w, hv]
        have f : ∀ a c : Int, (Op.equalIn (9998 + 1) e (.int k a) (.int k c)).run P w = .ok (a == c) w := fun a c => by
          rw [Op.equalIn, Sem.run_bind, run_underlying he]
          simp
        have a0 := e1 [.int k a, .int k b] 0 _ rfl
        have a1 := e1 [.int k a, .int k b] 1 _ rfl
        have c0 := e1 [.int k c, .int k d] 0 _ rfl
        have c1 := e1 [.int k c, .int k d] 1 _ rfl
        simp [sizeOf, typeInfo, hi, hs, a0, a1, c0, c1, f, Std.Legacy.Range.forIn_eq_forIn_range', List.range']
        by_cases h1 : a = c <;> by_cases h2 : b = d <;> simp [h1, h2]
      · have hd : P.depth = (2 * (P.types.size + Made.depth)) + 1 + 1 := rfl
        rw [hd]
        simp [Program.eqGuardType, hT, he]
    · cases h
  · cases h
def binA (P : Program) (op : BinOp) (T : TypeId) : Value → Value → Option Value
  | .int k m, .int k' n => match op with
    | .shl => match decide (0 ≤ n) with
      | true => some (.int k (k.wrap (m * 2 ^ (min n.toNat k.bits))))
      | false => none
    | .shr => match decide (0 ≤ n) with
      | true => some (.int k (m.fdiv (2 ^ (min n.toNat k.bits))))
      | false => none
    | op => match decide (k = k') with
      | false => none
      | true => match op with
        | .quo => match decide (n = 0) with
          | true => none
          | false => some (.int k (k.wrap (m.tdiv n)))
        | .rem => match decide (n = 0) with
          | true => none
          | false => some (.int k (m.tmod n))
        | .andNot => some (.int k (k.wrap (BitVec.ofInt k.bits m &&& ~~~(BitVec.ofInt k.bits n)).toNat))
        | op => binI op k m n
  | .bool m, .bool n => match P.underlying T with
    | some .bool => match op with
      | .eql => some (.bool (m == n))
      | .neq => some (.bool (!(m == n)))
      | _ => none
    | _ => none
  | .string m, .string n => match op with
    | .eql => some (.bool (eqBA m n))
    | .neq => some (.bool (!(eqBA m n)))
    | _ => none
  | .pointer m, .pointer none => match P.underlying T with
    | some (.pointer _) => match op with
      | .eql => some (.bool m.isNone)
      | .neq => some (.bool (!m.isNone))
      | _ => none
    | _ => none
  | .slice m _ _, .slice none _ _ => match P.underlying T with
    | some (.slice e) => match P.info? e with
      | some _ => match op with
        | .eql => some (.bool m.isNone)
        | .neq => some (.bool (!m.isNone))
        | _ => none
      | none => none
    | _ => none
  | .agg ⟨[.int k a, .int k1 b]⟩, .agg ⟨[.int k2 c, .int k3 d]⟩ => match (decide (k = k1) && decide (k = k2)) && (decide (k = k3) && arr2B P T k) with
    | true => match op with
      | .eql => some (.bool (decide (a = c) && decide (b = d)))
      | .neq => some (.bool (!(decide (a = c) && decide (b = d))))
      | _ => none
    | false => none
  | _, _ => none
theorem VR.int_inv {k : IntKind} {n : Int} {u : Value} (h : VR ρ (.int k n) u) : u = .int k n := by cases h; rfl
theorem VR.bool_inv {b : Bool} {u : Value} (h : VR ρ (.bool b) u) : u = .bool b := by cases h; rfl
theorem VR.str_inv {b : ByteArray} {u : Value} (h : VR ρ (.string b) u) : u = .string b := by cases h; rfl
theorem VR.ptr_inv {m : Option Addr} {u : Value} (h : VR ρ (.pointer m) u) : ∃ m', u = .pointer m' ∧ m'.isNone = m.isNone := by cases h <;> exact ⟨_, rfl, rfl⟩
theorem VR.ptr0_inv {u : Value} (h : VR ρ (.pointer none) u) : u = .pointer none := by cases h; rfl
theorem VR.ptrS_inv {β o : Nat} {u : Value} (h : VR ρ (.pointer (some ⟨β, o, none⟩)) u) : ∃ pl, ρ β = some pl ∧ u = .pointer (some ⟨pl.g, pl.sh + o, none⟩) := by cases h with | ptr e => exact ⟨_, e, rfl⟩
theorem VR.sl_inv {m : Option Addr} {n c : Nat} {u : Value} (h : VR ρ (.slice m n c) u) : ∃ m' c', u = .slice m' n c' ∧ m'.isNone = m.isNone := by cases h <;> exact ⟨_, _, rfl, rfl⟩
theorem VR.sl0_inv {n c : Nat} {u : Value} (h : VR ρ (.slice none n c) u) : u = .slice none 0 0 ∧ n = 0 ∧ c = 0 := by cases h; exact ⟨rfl, rfl, rfl⟩
theorem VR.slG_inv {β o n c : Nat} {u : Value} (h : VR ρ (.slice (some ⟨β, o, none⟩) n c) u) : ∃ pl, ρ β = some pl ∧ ((∃ c', u = .slice (some ⟨pl.g, pl.sh + o, none⟩) n c' ∧ n ≤ c') ∨ (n = 0 ∧ ∃ off c', u = .slice (some ⟨pl.g, off, none⟩) 0 c' ∧ off ≤ pl.sh + o)) := by
  cases h with
  | sl e a b => exact ⟨_, e, .inl ⟨_, rfl, b⟩⟩
  | slE e a => exact ⟨_, e, .inr ⟨rfl, _, _, rfl, a⟩⟩
  | slX e b => exact ⟨_, e, .inl ⟨_, rfl, b⟩⟩
  | slY e a => exact ⟨_, e, .inr ⟨rfl, _, _, rfl, a⟩⟩
theorem VR.slS_inv {β o n : Nat} {u : Value} (h : VR ρ (.slice (some ⟨β, o, none⟩) n 0) u) : ∃ pl, ρ β = some pl ∧ ((∃ c', u = .slice (some ⟨pl.g, pl.sh + o, none⟩) n c' ∧ pl.sh + o + c' * pl.sz = pl.ce ∧ n ≤ c') ∨ (n = 0 ∧ ∃ off, u = .slice (some ⟨pl.g, off, none⟩) 0 0 ∧ off ≤ pl.sh + o)) := by
  cases h with
  | sl e a b => exact ⟨_, e, .inl ⟨_, rfl, a, b⟩⟩
  | slE e a => exact ⟨_, e, .inr ⟨rfl, _, rfl, a⟩⟩
theorem VR.agg_inv {l : List Value} {u : Value} (h : VR ρ (.agg ⟨l⟩) u) : ∃ l', u = .agg ⟨l'⟩ ∧ VRs ρ l l' := by cases h with | agg e => exact ⟨_, rfl, e⟩
theorem VR.tup_inv {l : List Value} {u : Value} (h : VR ρ (.tuple ⟨l⟩) u) : ∃ l', u = .tuple ⟨l'⟩ ∧ VRs ρ l l' := by cases h with | tup e => exact ⟨_, rfl, e⟩
theorem binA_ok {op : BinOp} {T T' : TypeId} {a b v a' b' : Value} (e : binA x.P op T a b = some v) (ha : VR ρ a a') (hb : VR ρ b b') {p q : Operand} (hp : ev env p = some a') (hq : ev env q = some b') : VR ρ v v ∧ Pu x env ⟨dst, .binOp op T p q T', ty, pos, aft, gd⟩ v := by
  unfold binA at e
  split at e
  · rename_i k m k' n
    cases VR.int_inv ha
    cases VR.int_inv hb
    split at e
    · split at e
      · rename_i h; cases e; exact ⟨.int _ _, Pu.shl hp hq (of_decide_eq_true h)⟩
      · cases e
    · split at e
      · rename_i h; cases e; exact ⟨.int _ _, Pu.shr hp hq (of_decide_eq_true h)⟩
      · cases e
    · split at e
      · cases e
      · rename_i hk
        have hk := of_decide_eq_true hk
        subst hk
        split at e
        · split at e
          · cases e
          · rename_i h; cases e; exact ⟨.int _ _, Pu.quo hp hq (of_decide_eq_false h)⟩
        · split at e
          · cases e
          · rename_i h; cases e; exact ⟨.int _ _, Pu.rem hp hq (of_decide_eq_false h)⟩
        · cases e; exact ⟨.int _ _, Pu.andNot hp hq⟩
        · refine ⟨?_, Pu.bin hp hq e⟩
          unfold binI at e
          split at e
          all_goals first | (cases e; exact .int _ _) | (cases e; exact .bool _) | cases e
  · cases VR.bool_inv ha
    cases VR.bool_inv hb
    split at e
    · rename_i hu
      have : BoolT x.P T := ⟨hu⟩
      split at e
      · cases e; exact ⟨.bool _, Pu.eqB hp hq⟩
      · cases e; exact ⟨.bool _, Pu.neB hp hq⟩
      · cases e
    · cases e
  · cases VR.str_inv ha
    cases VR.str_inv hb
    split at e
    · cases e; rw [← eqBA_eq]; exact ⟨.bool _, Pu.eqS hp hq⟩
    · cases e; rw [← eqBA_eq]; exact ⟨.bool _, Pu.neS hp hq⟩
    · cases e
  · obtain ⟨m', rfl, hm⟩ := VR.ptr_inv ha
    cases VR.ptr0_inv hb
    split at e
    · rename_i t hu
      have : PtrT x.P T := ⟨_, hu⟩
      split at e
      · cases e; rw [← hm]; exact ⟨.bool _, Pu.eqN hp hq⟩
      · cases e; rw [← hm]; exact ⟨.bool _, Pu.neN hp hq⟩
      · cases e
    · cases e
  · obtain ⟨m', c', rfl, hm⟩ := VR.sl_inv ha
    obtain ⟨rfl, _, _⟩ := VR.sl0_inv hb
    split at e
    · rename_i t hu
      split at e
      · rename_i inf hi
        have : SliceT x.P T t inf.size inf.bytes := ⟨hu, by rw [hi]; rfl⟩
        split at e
        · cases e; rw [← hm]; exact ⟨.bool _, Pu.eqSN hp hq⟩
        · cases e; rw [← hm]; exact ⟨.bool _, Pu.neSN hp hq⟩
        · cases e
      · cases e
    · cases e
  · split at e
    · rename_i hk
      simp only [Bool.and_eq_true, decide_eq_true_eq] at hk
      obtain ⟨⟨rfl, rfl⟩, rfl, h2⟩ := hk
      obtain ⟨l1, rfl, v1⟩ := VR.agg_inv ha
      obtain ⟨l2, rfl, v2⟩ := VR.agg_inv hb
      cases v1 with | cons x1 r1 => cases r1 with | cons x2 r2 => cases r2 with | nil =>
      cases v2 with | cons y1 s1 => cases s1 with | cons y2 s2 => cases s2 with | nil =>
      cases VR.int_inv x1
      cases VR.int_inv x2
      cases VR.int_inv y1
      cases VR.int_inv y2
      split at e
      · cases e
        refine ⟨.bool _, ⟨fun ac he w => ?_⟩⟩
        have g1 := fun a b c d => (run_eqArr2 h2 w a b c d).1
        have g2 := (run_eqArr2 h2 w 0 0 0 0).2
        simp [execOp, he.eval hp, he.eval hq, eqGuard, binOp, g1, g2]
      · cases e
        refine ⟨.bool _, ⟨fun ac he w => ?_⟩⟩
        have g1 := fun a b c d => (run_eqArr2 h2 w a b c d).1
        have g2 := (run_eqArr2 h2 w 0 0 0 0).2
        simp [execOp, he.eval hp, he.eval hq, eqGuard, binOp, g1, g2]
      · cases e
    · cases e
  · cases e
/-! ### the other ones -/
def unA (op : UnOp) : Value → Option Value
  | .bool b => match op with
    | .not => some (.bool (!b))
    | _ => none
  | .int k n => match op with
    | .neg => some (.int k (k.wrap (0 - n)))
    | .xor => some (.int k (k.wrap (BitVec.ofInt k.bits (if k.signed then -1 else k.max) ^^^ BitVec.ofInt k.bits n).toNat))
    | _ => none
  | _ => none
theorem unA_ok {op : UnOp} {T : TypeId} {a v a' : Value} (e : unA op a = some v) (ha : VR ρ a a') {p : Operand} (hp : ev env p = some a') : VR ρ v v ∧ Pu x env ⟨dst, .unOp op T p, ty, pos, aft, gd⟩ v := by
  unfold unA at e
  split at e
  · cases VR.bool_inv ha
    split at e
    · cases e; exact ⟨.bool _, Pu.notB hp⟩
    · cases e
  · cases VR.int_inv ha
    split at e
    · cases e; exact ⟨.int _ _, Pu.neg hp⟩
    · cases e; exact ⟨.int _ _, Pu.xorU hp⟩
    · cases e
  · cases e
def sliceT (P : Program) (T : TypeId) : Option (TypeId × Nat × Nat) := match P.underlying T with
  | some (.slice e) => match P.info? e with
    | some i => some (e, i.size, i.bytes)
    | none => none
  | _ => none
theorem sliceT_ok {P : Program} {T e sz by_ : Nat} (h : sliceT P T = some (e, sz, by_)) : SliceT P T e sz by_ := by
  unfold sliceT at h
  split at h
  · rename_i t hu
    split at h
    · rename_i i hi
      cases h
      exact ⟨hu, by rw [hi]; rfl⟩
    · cases h
  · cases h
def arrT (P : Program) (T : TypeId) : Option (Nat × TypeId × Nat) := match P.underlying T with
  | some (.array n e) => match P.info? e with
    | some i => some (n, e, i.size)
    | none => none
  | _ => none
theorem arrT_ok {P : Program} {T n e sz : Nat} (h : arrT P T = some (n, e, sz)) : ArrT P T n e sz := by
  unfold arrT at h
  split at h
  · rename_i t hu
    split at h
    · rename_i i hi
      cases h
      exact ⟨‹_›, by rw [hi]; rfl⟩
    · cases h
  · cases h
def idxA (P : Program) (T : TypeId) : Value → Value → Option Value
  | .slice (some ⟨β, o, none⟩) n _, .int _ i => match sliceT P T with
    | some (_, sz, _) => match decide (0 ≤ i ∧ i < n) with
      | true => some (.pointer (some ⟨β, o + i.toNat * sz, none⟩))
      | false => none
    | none => none
  | .pointer (some ⟨β, o, none⟩), .int _ i => match arrT P T with
    | some (n, _, sz) => match decide (0 ≤ i ∧ i < n) with
      | true => some (.pointer (some ⟨β, o + i.toNat * sz, none⟩))
      | false => none
    | none => none
  | _, _ => none
theorem idxA_ok {T : TypeId} {a b v a' b' : Value} (e : idxA x.P T a b = some v) (ha : VR ρ a a') (hb : VR ρ b b') {p q : Operand} (hp : ev env p = some a') (hq : ev env q = some b') : ∃ u, VR ρ v u ∧ Pu x env ⟨dst, .indexAddr T p q, ty, pos, aft, gd⟩ u := by
  unfold idxA at e
  split at e
  · cases VR.int_inv hb
    obtain ⟨pl, hρ, hor⟩ := VR.slG_inv ha
    split at e
    · rename_i e' sz by_ hs
      have := sliceT_ok hs
      split at e
      · rename_i hd
        cases e
        obtain ⟨c', rfl, _⟩ := hor.resolve_right (fun ⟨h0, _⟩ => by have := of_decide_eq_true hd; omega)
        exact ⟨_, .ptr hρ, by rw [← Nat.add_assoc]; exact Pu.ia hp hq (of_decide_eq_true hd)⟩
      · cases e
    · cases e
  · cases VR.int_inv hb
    obtain ⟨pl, hρ, rfl⟩ := VR.ptrS_inv ha
    split at e
    · rename_i n e' sz hs
      have := arrT_ok hs
      split at e
      · rename_i hd
        cases e
        exact ⟨_, .ptr hρ, by rw [← Nat.add_assoc]; exact Pu.iaA hp hq (of_decide_eq_true hd)⟩
      · cases e
    · cases e
  · cases e
end
end
end Go.Ev
namespace Go.Ev
open Go Go.Sl
noncomputable section
section
variable {x : Cx} {ρ : Ro} {s : AS} {env : Env} {H : HL} {dst : Option Tmp} {ty : TypeId} {pos : String} {aft : Array Edge} {gd : Option (Nat × Bool)}
theorem VRs.cut {l l' r : List Value} {off n : Nat} (h : VRs ρ l l') (e : cut l off n = some r) : ∃ r', Sl.cut l' off n = some r' ∧ VRs ρ r r' := by
  have hl := h.len
  unfold Sl.cut at e ⊢
  rw [dropK_eq] at e ⊢
  split at e
  · rename_i h1
    rw [if_pos (by omega)]
    rw [takeK_eq] at e ⊢
    split at e
    · rename_i h2
      cases e
      rw [if_pos (by simp at h2 ⊢; omega)]
      exact ⟨_, rfl, (h.drop off).take n⟩
    · cases e
  · cases e
theorem VRs.splice : ∀ {l l' vs vs' r : List Value} {off : Nat}, VRs ρ l l' → VRs ρ vs vs' → spliceK l off vs some = some r → ∃ r', spliceK l' off vs' some = some r' ∧ VRs ρ r r'
  | l, l', vs, vs', r, off, h, k, e => by
    have hl := h.len
    have kl := k.len
    rw [spliceK_eq] at e ⊢
    split at e
    · rename_i h1
      cases e
      rw [if_pos (by omega)]
      refine ⟨_, rfl, ?_⟩
      rw [kl]
      exact ((h.take off).app k).app (h.drop _)
    · cases e
theorem VR.cells {v v' : Value} (h : VR ρ v v') : VRs ρ v.cells.toList v'.cells.toList := by
  cases h
  case agg e => exact e
  case bool => exact .cons (.bool _) .nil
  case int => exact .cons (.int _ _) .nil
  case str => exact .cons (.str _) .nil
  case nf => exact .cons .nf .nil
  case ni => exact .cons .ni .nil
  case ptr0 => exact .cons .ptr0 .nil
  case ptr e => exact .cons (.ptr e) .nil
  case sl0 => exact .cons .sl0 .nil
  case sl e a b => exact .cons (.sl e a b) .nil
  case slE e a => exact .cons (.slE e a) .nil
  case slX e a => exact .cons (.slX e a) .nil
  case slY e a => exact .cons (.slY e a) .nil
  case map0 => exact .cons .map0 .nil
  case map e => exact .cons (.map e) .nil
  case func a b => exact .cons (.func a b) .nil
  case yl e => exact .cons (.yl e) .nil
  case iface a => exact .cons (.iface a) .nil
  case tup a => exact .cons (.tup a) .nil
def evPs (s : AS) : List (Nat × Operand) → Option (List (Nat × Value))
  | [] => some []
  | (i, q) :: r => match evA s q with
    | none => none
    | some v => match evPs s r with
      | none => none
      | some l => some ((i, v) :: l)
inductive VPs (ρ : Ro) : List (Nat × Value) → List (Nat × Value) → Prop where
  | nil : VPs ρ [] []
  | cons {i : Nat} {v v' : Value} {l l' : List (Nat × Value)} : VR ρ v v' → VPs ρ l l' → VPs ρ ((i, v) :: l) ((i, v') :: l')
theorem evPs_ok (h : Re x ρ s env H) : ∀ {l : List (Nat × Operand)} {vs : List (Nat × Value)}, evPs s l = some vs → ∃ us, evalP env l = some us ∧ VPs ρ vs us
  | [], vs, e => by cases e; exact ⟨[], rfl, .nil⟩
  | (i, q) :: l, vs, e => by
    unfold evPs at e
    cases h1 : evA s q with
    | none => rw [h1] at e; cases e
    | some v =>
      rw [h1] at e
      dsimp only at e
      cases h2 : evPs s l with
      | none => rw [h2] at e; cases e
      | some ws =>
        rw [h2] at e
        cases e
        obtain ⟨u, hu, hv⟩ := evA_ok h h1
        obtain ⟨us, hus, hvs⟩ := evPs_ok h h2
        exact ⟨(i, u) :: us, by rw [evalP, hu]; dsimp only; rw [hus], .cons hv hvs⟩
theorem fill_ok {pl : List (Nat × Nat)} : ∀ {vs vs' : List (Nat × Value)} {z z' r : List Value}, VPs ρ vs vs' → VRs ρ z z' → fillK pl vs z = some r → ∃ r', fillK pl vs' z' = some r' ∧ VRs ρ r r'
  | _, _, z, z', r, .nil, hz, e => by cases e; exact ⟨z', rfl, hz⟩
  | _, _, z, z', r, .cons (i := i) (v := v) (v' := v') hv hr, hz, e => by
    unfold fillK at e ⊢
    have hc := hv.cells
    have hcl : v'.cells.size = v.cells.size := by have := hc.len; simpa using this.symm
    cases hp : pl[i]? with
    | none => rw [hp] at e; cases e
    | some os =>
      obtain ⟨off, size⟩ := os
      rw [hp] at e
      dsimp only at e ⊢
      rw [hcl]
      cases hb : Nat.beq v.cells.size size with
      | false => rw [hb] at e; cases e
      | true =>
        rw [hb] at e
        dsimp only at e ⊢
        cases hs : spliceK z off v.cells.toList some with
        | none => rw [hs] at e; cases e
        | some q =>
          rw [hs] at e
          dsimp only at e
          obtain ⟨q', hq', hqq⟩ := VRs.splice hz hc hs
          rw [hq']
          exact fill_ok hr hqq e
def zeroT (P : Program) (T : TypeId) : Option (List Value) := match (((P.info? T).bind (·.zero)).map (·.cells) : Option (Array Value)) with
  | some ⟨z⟩ => match z.all flatB with
    | true => some z
    | false => none
  | none => none
theorem zeroT_ok {P : Program} {T : TypeId} {z : List Value} (h : zeroT P T = some z) : ZeroT P T z ∧ VRs ρ z z := by
  unfold zeroT at h
  split at h
  · rename_i q hq
    split at h
    · rename_i hf
      cases h
      exact ⟨⟨hq⟩, flat_vrs hf⟩
    · cases h
  · cases h
def structP (P : Program) (T : TypeId) : Option (List (Nat × Nat)) := match ((P.underlying T).bind (fun d => match d with | .struct fs => (fs.mapM (fun f => (P.info? f.type).map (fun i => (f.offset, i.size)))) | _ => none) : Option (Array (Nat × Nat))) with
  | some ⟨l⟩ => some l
  | none => none
theorem structP_ok {P : Program} {T : TypeId} {l : List (Nat × Nat)} (h : structP P T = some l) : StructP P T l := by
  unfold structP at h
  split at h
  · rename_i q hq
    cases h
    exact ⟨hq⟩
  · cases h
def buildA (P : Program) (s : AS) (T : TypeId) (parts : List (Nat × Operand)) : Option Value := match evPs s parts, zeroT P T with
  | some vs, some z => match structP P T with
    | some pl => (fillK pl vs z).map (fun r => .agg ⟨r⟩)
    | none => match arrT P T with
      | some (n, _, sz) => (fillK ((List.range n).map (fun i => (i * sz, sz))) vs z).map (fun r => .agg ⟨r⟩)
      | none => none
  | _, _ => none
theorem buildA_ok (h : Re x ρ s env H) {T : TypeId} {parts : List (Nat × Operand)} {v : Value} (e : buildA x.P s T parts = some v) : ∃ u, VR ρ v u ∧ Pu x env ⟨dst, .build T ⟨parts⟩, ty, pos, aft, gd⟩ u := by
  unfold buildA at e
  split at e
  · rename_i vs z hvs hz
    obtain ⟨us, hus, hvu⟩ := evPs_ok h hvs
    obtain ⟨zt, hzz⟩ := zeroT_ok (ρ := ρ) hz
    split at e
    · rename_i pl hpl
      have := structP_ok hpl
      cases hf : fillK pl vs z with
      | none => rw [hf] at e; cases e
      | some r =>
        rw [hf] at e
        cases e
        obtain ⟨r', hr', hrr⟩ := fill_ok hvu hzz hf
        exact ⟨.agg ⟨r'⟩, .agg hrr, Pu.bld hus hr'⟩
    · split at e
      · rename_i n e' sz ha
        have := arrT_ok ha
        cases hf : fillK ((List.range n).map (fun i => (i * sz, sz))) vs z with
        | none => rw [hf] at e; cases e
        | some r =>
          rw [hf] at e
          cases e
          obtain ⟨r', hr', hrr⟩ := fill_ok hvu hzz hf
          exact ⟨.agg ⟨r'⟩, .agg hrr, Pu.bldA hus hr'⟩
      · cases e
  · cases e
/-! ### a part of a slice -/
def cutA (P : Program) (s : AS) (T : TypeId) (v : Value) (lo up : Nat) : Option Value := match v with
  | .slice (some ⟨β, o, none⟩) n 0 => match sliceT P T, s.heap.get β with
    | some (e, sz, _), some (.cells _ _ E) => match Nat.beq e E && (Nat.ble lo up && Nat.ble up n) with
      | true => some (.slice (some ⟨β, o + lo * sz, none⟩) (up - lo) 0)
      | false => none
    | _, _ => none
  | .slice (some ⟨β, o, none⟩) n 1 => match sliceT P T with
    | some (_, sz, _) => match Nat.ble lo up && Nat.ble up n, Nat.beq lo up with
      | true, true => some (.slice (some ⟨β, o + lo * sz, none⟩) 0 1)
      | true, false => some (.slice (some ⟨β, o + lo * sz, none⟩) (up - lo) 1)
      | _, _ => none
    | none => none
  | .slice none 0 0 => match sliceT P T, lo, up with
    | some _, 0, 0 => some (.slice none 0 0)
    | _, _, _ => none
  | _ => none
def lenA : Value → Option Nat
  | .slice _ n _ => some n
  | _ => none
def intA (v : Option Value) : Option Nat := match v with
  | some (.int _ n) => match decide (0 ≤ n) with
    | true => some n.toNat
    | false => none
  | _ => none
def sliceA (P : Program) (s : AS) (T : TypeId) (p : Operand) (lo up : Option Operand) : Option Value := match evA s p with
  | none => none
  | some v => match lenA v with
    | none => none
    | some n => match lo, up with
      | some l, none => match intA (evA s l) with
        | some a => cutA P s T v a n
        | none => none
      | none, some u => match intA (evA s u) with
        | some b => cutA P s T v 0 b
        | none => none
      | some l, some u => match intA (evA s l), intA (evA s u) with
        | some a, some b => cutA P s T v a b
        | _, _ => none
      | none, none => none
theorem intA_ok (h : Re x ρ s env H) {p : Operand} {n : Nat} (e : intA (evA s p) = some n) : ∃ k, ev env p = some (.int k (n : Int)) := by
  unfold intA at e
  split at e
  · rename_i k m hm
    split at e
    · rename_i hd
      cases e
      obtain ⟨u, hu, hv⟩ := evA_ok h hm
      cases VR.int_inv hv
      have := of_decide_eq_true hd
      exact ⟨k, by rw [hu, Int.toNat_of_nonneg this]⟩
    · cases e
  · cases e
/-- what a part of a slice is, in memory -/
theorem cutA_ok (h : Re x ρ s env H) {T : TypeId} {v v' w : Value} {lo up : Nat} (e : cutA x.P s T v lo up = some w) (hv : VR ρ v v') :
    ∃ (e' sz by_ : Nat) (ad : Option Addr) (n c : Nat), SliceT x.P T e' sz by_ ∧ v' = .slice ad n c ∧ lo ≤ up ∧ up ≤ n ∧ n ≤ c ∧ VR ρ w (.slice (if c = lo then ad else ad.map (·.add (lo * sz))) (up - lo) (c - lo)) := by
  unfold cutA at e
  split at e
  · rename_i β o n
    split at e
    · rename_i e1 sz by_ _ l E hs hh
      split at e
      · rename_i hb
        cases e
        simp only [Bool.and_eq_true, Nat.ble_eq] at hb
        obtain ⟨hb1, hb2, hb3⟩ := hb
        have hb1 := beq_true hb1
        subst hb1
        have st := sliceT_ok hs
        obtain ⟨pl, hρ, hor⟩ := VR.slS_inv hv
        obtain ⟨pl', hρ', hO⟩ := h.cells hh
        rw [hρ] at hρ'
        cases hρ'
        obtain ⟨pre, l', post, _, _, _, _, hsz, _⟩ := hO
        have hsz2 : pl.sz = sz := by
          have := st.i
          cases hi : x.P.info? e1 with
          | none => rw [hi] at hsz; cases hsz
          | some i =>
            rw [hi] at hsz this
            have a := Option.some.inj hsz
            have b := congrArg Prod.fst (Option.some.inj this)
            exact a.symm.trans b
        rcases hor with ⟨c', rfl, hce, hnc⟩ | ⟨h0, off, rfl, hoff⟩
        · refine ⟨_, sz, by_, _, n, c', st, rfl, hb2, hb3, hnc, ?_⟩
          by_cases hc : c' = lo
          · rw [if_pos hc, hc, Nat.sub_self, show up - lo = 0 by omega]
            exact .slE hρ (by omega)
          · rw [if_neg hc]
            show VR ρ _ (.slice (some ((⟨pl.g, pl.sh + o, none⟩ : Addr).add (lo * sz))) _ _)
            rw [add_lit, Nat.add_assoc]
            refine .sl hρ ?_ (by omega)
            rw [← hce, hsz2, Nat.sub_mul]
            have : lo * sz ≤ c' * sz := Nat.mul_le_mul_right sz (by omega)
            omega
        · subst h0
          obtain rfl : lo = 0 := by omega
          obtain rfl : up = 0 := by omega
          exact ⟨_, sz, by_, _, 0, 0, st, rfl, Nat.le_refl _, Nat.le_refl _, Nat.le_refl _, by rw [if_pos rfl]; exact .slE hρ (by omega)⟩
      · cases e
    · cases e
  · rename_i β o n
    split at e
    · rename_i e1 sz by_ hs
      have st := sliceT_ok hs
      obtain ⟨pl, hρ, hor⟩ := VR.slG_inv hv
      have key : ∀ (c' : Nat), lo ≤ up → up ≤ n → n ≤ c' → VR ρ (.slice (some ⟨β, o + lo * sz, none⟩) (up - lo) 1) (.slice (if c' = lo then some ⟨pl.g, pl.sh + o, none⟩ else (some (⟨pl.g, pl.sh + o, none⟩ : Addr)).map (·.add (lo * sz))) (up - lo) (c' - lo)) := fun c' h1 h2 h3 => by
        by_cases hc : c' = lo
        · rw [if_pos hc]
          obtain rfl : up = lo := by omega
          rw [Nat.sub_self]
          exact .slY hρ (by rw [← Nat.add_assoc]; exact Nat.le_add_right _ _)
        · rw [if_neg hc, Option.map_some, add_lit, Nat.add_assoc]
          exact .slX hρ (by omega)
      split at e
      · rename_i hb hlu
        cases e
        simp only [Bool.and_eq_true, Nat.ble_eq] at hb
        have hlu := beq_true hlu
        rcases hor with ⟨c', rfl, hc⟩ | ⟨h0, off, c', rfl, hoff⟩
        · refine ⟨_, sz, by_, _, n, c', st, rfl, hb.1, hb.2, hc, ?_⟩
          have := key c' hb.1 hb.2 hc
          rw [hlu, Nat.sub_self] at this ⊢
          exact this
        · subst h0
          obtain rfl : up = 0 := by omega
          obtain rfl : lo = 0 := by omega
          refine ⟨_, sz, by_, _, 0, c', st, rfl, Nat.le_refl _, Nat.le_refl _, Nat.zero_le _, ?_⟩
          have hadd : (if c' = 0 then some (⟨pl.g, off, none⟩ : Addr) else (some (⟨pl.g, off, none⟩ : Addr)).map (·.add (0 * sz))) = some ⟨pl.g, off, none⟩ := by
            split
            · rfl
            · rw [Option.map_some, add_lit, Nat.zero_mul, Nat.add_zero]
          rw [hadd, Nat.sub_zero, Nat.zero_mul, Nat.add_zero]
          exact .slY hρ hoff
      · rename_i hb hlu
        cases e
        simp only [Bool.and_eq_true, Nat.ble_eq] at hb
        have hlu := beq_false hlu
        rcases hor with ⟨c', rfl, hc⟩ | ⟨h0, _⟩
        · exact ⟨_, sz, by_, _, n, c', st, rfl, hb.1, hb.2, hc, key c' hb.1 hb.2 hc⟩
        · omega
      · cases e
    · cases e
  · obtain ⟨rfl, _, _⟩ := VR.sl0_inv hv
    split at e
    · rename_i q hs
      obtain ⟨e1, sz, by_⟩ := q
      cases e
      exact ⟨_, sz, by_, none, 0, 0, sliceT_ok hs, rfl, Nat.le_refl _, Nat.le_refl _, Nat.le_refl _, by rw [if_pos rfl]; exact .sl0⟩
    · cases e
  · cases e
theorem sliceA_ok (h : Re x ρ s env H) {T : TypeId} {p : Operand} {lo up : Option Operand} {w : Value} (e : sliceA x.P s T p lo up = some w) : ∃ u, VR ρ w u ∧ Pu x env ⟨dst, .slice T p lo up none, ty, pos, aft, gd⟩ u := by
  unfold sliceA at e
  split at e
  · cases e
  · rename_i v hv
    obtain ⟨v', hp, hvv⟩ := evA_ok h hv
    split at e
    · cases e
    · rename_i n hn
      have hln : ∀ ad m c, v' = .slice ad m c → m = n := fun ad m c hm => by
        subst hm
        cases hvv with
        | sl0 => cases hn; rfl
        | sl _ _ _ => cases hn; rfl
        | slE _ _ => cases hn; rfl
        | slX _ _ => cases hn; rfl
        | slY _ _ => cases hn; rfl
      split at e
      · split at e
        · rename_i l _ a ha
          obtain ⟨k, hq⟩ := intA_ok h ha
          obtain ⟨e1, sz, by_, ad, m, c, st, hm, h1, h2, h3, h4⟩ := cutA_ok h e hvv
          have := hln ad m c hm
          subst hm this
          refine ⟨_, h4, ?_⟩
          have := Pu.slLo (x := x) (env := env) (dst := dst) (ty := ty) (pos := pos) (aft := aft) (gd := gd) (T := T) (p := p) (q := l) (lo := (a : Int)) hp hq (by omega)
          simpa using this
        · cases e
      · split at e
        · rename_i u _ b hb
          obtain ⟨k, hq⟩ := intA_ok h hb
          obtain ⟨e1, sz, by_, ad, m, c, st, hm, h1, h2, h3, h4⟩ := cutA_ok h e hvv
          subst hm
          refine ⟨_, h4, ?_⟩
          have := Pu.slHi (x := x) (env := env) (dst := dst) (ty := ty) (pos := pos) (aft := aft) (gd := gd) (T := T) (p := p) (q := u) (up := (b : Int)) hp hq (by omega)
          have hz : (if c = 0 then ad else ad.map (·.add (0 * sz))) = ad := by
            split
            · rfl
            · cases ad with
              | none => rfl
              | some q => rw [Nat.zero_mul]; rfl
          rw [hz, Nat.sub_zero, Nat.sub_zero]
          simpa using this
        · cases e
      · split at e
        · rename_i l u _ _ a b ha hb
          obtain ⟨k, hq⟩ := intA_ok h ha
          obtain ⟨k', hr⟩ := intA_ok h hb
          obtain ⟨e1, sz, by_, ad, m, c, st, hm, h1, h2, h3, h4⟩ := cutA_ok h e hvv
          subst hm
          refine ⟨_, h4, ?_⟩
          have := Pu.slLH (x := x) (env := env) (dst := dst) (ty := ty) (pos := pos) (aft := aft) (gd := gd) (T := T) (p := p) (q := l) (r := u) (lo := (a : Int)) (up := (b : Int)) hp hq hr (by omega) (by omega)
          simpa using this
        · cases e
      · cases e
end
end
end Go.Ev
namespace Go.Ev
open Go Go.Sl
noncomputable section
section
variable {x : Cx} {ρ : Ro} {s : AS} {env : Env} {H : HL} {dst : Option Tmp} {ty : TypeId} {pos : String} {aft : Array Edge} {gd : Option (Nat × Bool)}
theorem Pu.slAr {T e n sz : Nat} {p : Operand} {ad : Addr} {lo up : Option Operand} {a b : Nat} (h2 : x.P.underlying T = some (.array n e)) (h3 : (x.P.info? e).map (·.size) = some sz) (hp : ev env p = some (.pointer (some ad)))
    (hlo : (lo = none ∧ a = 0) ∨ ∃ q k, lo = some q ∧ ev env q = some (.int k (a : Int))) (hup : (up = none ∧ b = n) ∨ ∃ q k, up = some q ∧ ev env q = some (.int k (b : Int))) (hab : a ≤ b) (hbn : b ≤ n) :
    Pu x env ⟨dst, .slice T p lo up none, ty, pos, aft, gd⟩ (.slice (some (if n = a then ad else ad.add (a * sz))) (b - a) (n - a)) := ⟨fun ac he w => by
  obtain ⟨i, hi, hs⟩ := info_of_map h3
  subst hs
  have e1 : ((a : Int) ≤ (b : Int)) := by omega
  have e2 : ((b : Int) ≤ (n : Int)) := by omega
  have e3 : ((a : Int) ≤ (n : Int)) := by omega
  have e4 : (0 : Int) ≤ (a : Int) := by omega
  have e5 : (0 : Int) ≤ (b : Int) := by omega
  rcases hlo with ⟨rfl, rfl⟩ | ⟨q, k, rfl, hq⟩ <;> rcases hup with ⟨rfl, rfl⟩ | ⟨q', k', rfl, hq'⟩
  · simp [execOp, he.eval hp, Instr.sliceAt, run_underlying h2, Instr.sureAddr, Instr.sliceBounds, run_asAddr, sizeOf, typeInfo, hi]
  · simp [execOp, he.eval hp, he.eval hq', Instr.sliceAt, run_underlying h2, Instr.sureAddr, Instr.sliceBounds, Instr.sliceBound, asIntOf, e2, e5, hbn, run_asAddr, sizeOf, typeInfo, hi]
  · simp [execOp, he.eval hp, he.eval hq, Instr.sliceAt, run_underlying h2, Instr.sureAddr, Instr.sliceBounds, Instr.sliceBound, asIntOf, e3, e4, hab, hbn, run_asAddr, sizeOf, typeInfo, hi]
  · simp [execOp, he.eval hp, he.eval hq, he.eval hq', Instr.sliceAt, run_underlying h2, Instr.sureAddr, Instr.sliceBounds, Instr.sliceBound, asIntOf, e1, e2, e4, e5, hab, hbn, run_asAddr, sizeOf, typeInfo, hi]⟩
def arrP (P : Program) (T : TypeId) : Option (Nat × Nat) := match P.underlying T with
  | some (.array n e) => match P.info? e with
    | some i => some (n, i.size)
    | none => none
  | _ => none
def loA (s : AS) : Option Operand → Option Nat
  | none => some 0
  | some q => intA (evA s q)
def upA (s : AS) (n : Nat) : Option Operand → Option Nat
  | none => some n
  | some q => intA (evA s q)
def sliceR (P : Program) (s : AS) (T : TypeId) (p : Operand) (lo up : Option Operand) : Option Value := match evA s p, arrP P T with
  | some (.pointer (some ⟨β, o, none⟩)), some (n, sz) => match loA s lo, upA s n up with
    | some a, some b => match Nat.ble a b && Nat.ble b n, Nat.beq a b with
      | true, true => some (.slice (some ⟨β, o + a * sz, none⟩) 0 1)
      | true, false => some (.slice (some ⟨β, o + a * sz, none⟩) (b - a) 1)
      | _, _ => none
    | _, _ => none
  | _, _ => none
theorem sliceR_ok (h : Re x ρ s env H) {T : TypeId} {p : Operand} {lo up : Option Operand} {w : Value} (e : sliceR x.P s T p lo up = some w) : ∃ u, VR ρ w u ∧ Pu x env ⟨dst, .slice T p lo up none, ty, pos, aft, gd⟩ u := by
  unfold sliceR at e
  split at e
  · rename_i β o n sz hp ha
    unfold arrP at ha
    split at ha
    · rename_i n' e' h2
      split at ha
      · rename_i i h3
        · cases ha
          obtain ⟨u, hu, hv⟩ := evA_ok h hp
          obtain ⟨pl, hρ, rfl⟩ := VR.ptrS_inv hv
          split at e
          · rename_i a b hlo hup
            have hlo' : (lo = none ∧ a = 0) ∨ ∃ q k, lo = some q ∧ ev env q = some (.int k (a : Int)) := by
              cases lo with
              | none => cases hlo; exact .inl ⟨rfl, rfl⟩
              | some q => obtain ⟨k, hk⟩ := intA_ok h hlo; exact .inr ⟨q, k, rfl, hk⟩
            have hup' : (up = none ∧ b = n) ∨ ∃ q k, up = some q ∧ ev env q = some (.int k (b : Int)) := by
              cases up with
              | none => cases hup; exact .inl ⟨rfl, rfl⟩
              | some q => obtain ⟨k, hk⟩ := intA_ok h hup; exact .inr ⟨q, k, rfl, hk⟩
            have key : a ≤ b → b ≤ n → Pu x env ⟨dst, .slice T p lo up none, ty, pos, aft, gd⟩ (.slice (some (if n = a then (⟨pl.g, pl.sh + o, none⟩ : Addr) else (⟨pl.g, pl.sh + o, none⟩ : Addr).add (a * i.size))) (b - a) (n - a)) :=
              fun hab hbn => Pu.slAr h2 (by rw [h3]; rfl) hu hlo' hup' hab hbn
            split at e
            · rename_i hb hab
              cases e
              simp only [Bool.and_eq_true, Nat.ble_eq] at hb
              have hab := beq_true hab
              refine ⟨_, ?_, key hb.1 hb.2⟩
              subst hab
              rw [Nat.sub_self]
              by_cases hn : n = a
              · rw [if_pos hn]
                exact .slY hρ (by rw [← Nat.add_assoc]; exact Nat.le_add_right _ _)
              · rw [if_neg hn, add_lit]
                exact .slY hρ (by omega)
            · rename_i hb hab
              cases e
              simp only [Bool.and_eq_true, Nat.ble_eq] at hb
              have hab := beq_false hab
              refine ⟨_, ?_, key hb.1 hb.2⟩
              rw [if_neg (by omega), add_lit, Nat.add_assoc]
              exact .slX hρ (by omega)
            · cases e
          · cases e
      · cases ha
    · cases ha
  · cases e
/-! ### an array's element -/
def idxV (P : Program) (T : TypeId) (l : List Value) (i : Int) : Option Value := match P.underlying T with
  | some (.array n e) => match P.info? e, scalB P e, decide (0 ≤ i ∧ i < n) with
    | some f, true, true => l[i.toNat * f.size]?
    | _, _, _ => none
  | _ => none
theorem idxV_ok {T : TypeId} {p q : Operand} {l l' : List Value} {k : IntKind} {i : Int} {v : Value} (e : idxV x.P T l i = some v) (hl : VRs ρ l l') (hp : ev env p = some (.agg ⟨l'⟩)) (hq : ev env q = some (.int k i)) : ∃ u, VR ρ v u ∧ Pu x env ⟨dst, .index T p q, ty, pos, aft, gd⟩ u := by
  unfold idxV at e
  split at e
  · rename_i n e' hu
    split at e
    · rename_i f hi hs hb
      have hb := of_decide_eq_true hb
      obtain ⟨u, hu', hv⟩ := hl.at e
      refine ⟨u, hv, ⟨fun a he w => ?_⟩⟩
      simp [execOp, he.eval hp, he.eval hq, Instr.index, asIntOf, run_underlying hu, hb, part, run_isAgg_scal hs, sizeOf, typeInfo, hi, hu']
    · cases e
  · cases e
end
end
end Go.Ev
namespace Go.Ev
open Go Go.Sl
noncomputable section
section
variable {x : Cx} {ρ : Ro} {s : AS} {env : Env} {H : HL} {dst : Option Tmp} {ty : TypeId} {pos : String} {aft : Array Edge} {gd : Option (Nat × Bool)}
def convA (P : Program) (S T : TypeId) : Value → Option Value
  | .int k' n => match P.underlying S, P.underlying T with
    | some (.int k''), some (.int k) => match decide (k' = k'') with
      | true => some (.int k (k.wrap n))
      | false => none
    | _, _ => none
  | _ => none
def fieldA (P : Program) (T f : Nat) : Value → Option Value
  | .agg ⟨l⟩ => match fldV P T f with
    | some (off, false, _) => l[off]?
    | some (off, true, sz) => (cut l off sz).map (fun r => .agg ⟨r⟩)
    | none => none
  | _ => none
def callA (P : Program) (s : AS) (b : Builtin) (args : List Operand) (tys : List TypeId) : Option Value := match b, args, tys with
  | .len, [p], [T] => match evA s p, sliceT P T with
    | some (.slice _ n _), some _ => some (.int .i64 n)
    | _, _ => none
  | .min, [p, q], [_, _] => match evA s p, evA s q with
    | some (.int k m), some (.int k' n) => match decide (k = k') with
      | true => some (.int k (if n < m then n else m))
      | false => none
    | _, _ => none
  | .max, [p, q], [_, _] => match evA s p, evA s q with
    | some (.int k m), some (.int k' n) => match decide (k = k') with
      | true => some (.int k (if n > m then n else m))
      | false => none
    | _, _ => none
  | _, _, _ => none
def puA (P : Program) (s : AS) : Op → Option Value
  | .move p => evA s p
  | .assign p => evA s p
  | .pick c a b => match evA s c with
    | some (.bool true) => evA s a
    | some (.bool false) => evA s b
    | _ => none
  | .nilCheck p => match evA s p with
    | some (.pointer (some ⟨β, o, none⟩)) => some (.pointer (some ⟨β, o, none⟩))
    | _ => none
  | .unOp op _ p => match evA s p with
    | some a => unA op a
    | none => none
  | .extract p i => match evA s p with
    | some (.tuple ⟨l⟩) => l[i]?
    | _ => none
  | .fieldAddr T p f => match evA s p, fldO P T f with
    | some (.pointer (some ⟨β, o, none⟩)), some fo => some (.pointer (some ⟨β, o + fo, none⟩))
    | _, _ => none
  | .field T p f => match evA s p with
    | some v => fieldA P T f v
    | none => none
  | .binOp op T p q _ => match evA s p, evA s q with
    | some a, some b => binA P op T a b
    | _, _ => none
  | .convert S T p => match evA s p with
    | some v => convA P S T v
    | none => none
  | .indexAddr T p q => match evA s p, evA s q with
    | some a, some b => idxA P T a b
    | _, _ => none
  | .build T ⟨parts⟩ => buildA P s T parts
  | .slice T p lo up none => match sliceA P s T p lo up with
    | some v => some v
    | none => sliceR P s T p lo up
  | .makeFunc (.func f) ⟨a⟩ ⟨c⟩ => match evAs s a, evAs s c with
    | some fv, some cv => some (.func (.func f) ⟨fv⟩ ⟨cv⟩)
    | _, _ => none
  | .call ⟨.builtin b, ⟨args⟩, ⟨tys⟩⟩ => callA P s b args tys
  | .index T p q => match evA s p, evA s q with
    | some (.agg ⟨l⟩), some (.int _ i) => idxV P T l i
    | some (.string m), some (.int _ i) => match P.underlying T, decide (0 ≤ i) with
      | some .string, true => match m.data.toList[i.toNat]? with
        | some b => some (.int .u8 b.toNat)
        | none => none
      | _, _ => none
    | _, _ => none
  | _ => none
theorem puA_ok (h : Re x ρ s env H) {op : Op} {v : Value} (e : puA x.P s op = some v) : ∃ u, VR ρ v u ∧ Pu x env ⟨dst, op, ty, pos, aft, gd⟩ u := by
  unfold puA at e
  split at e
  · obtain ⟨u, hu, hv⟩ := evA_ok h e; exact ⟨u, hv, Pu.mv hu⟩
  · obtain ⟨u, hu, hv⟩ := evA_ok h e; exact ⟨u, hv, Pu.asg hu⟩
  · split at e
    · rename_i hc
      obtain ⟨w, hw, hb⟩ := evA_ok h hc
      cases VR.bool_inv hb
      obtain ⟨u, hu, hv⟩ := evA_ok h e
      exact ⟨u, hv, Pu.pick_t hw hu⟩
    · rename_i hc
      obtain ⟨w, hw, hb⟩ := evA_ok h hc
      cases VR.bool_inv hb
      obtain ⟨u, hu, hv⟩ := evA_ok h e
      exact ⟨u, hv, Pu.pick_f hw hu⟩
    · cases e
  · split at e
    · rename_i hc
      cases e
      obtain ⟨w, hw, hb⟩ := evA_ok h hc
      obtain ⟨pl, hρ, rfl⟩ := VR.ptrS_inv hb
      exact ⟨_, .ptr hρ, Pu.nilCk hw⟩
    · cases e
  · split at e
    · rename_i a ha
      obtain ⟨w, hw, hb⟩ := evA_ok h ha
      obtain ⟨h1, h2⟩ := unA_ok e hb hw
      exact ⟨v, h1, h2⟩
    · cases e
  · split at e
    · rename_i l hl
      obtain ⟨w, hw, hb⟩ := evA_ok h hl
      obtain ⟨l', rfl, hll⟩ := VR.tup_inv hb
      obtain ⟨u, hu, hv⟩ := hll.at e
      exact ⟨u, hv, Pu.ext hw hu⟩
    · cases e
  · split at e
    · rename_i hc hf
      cases e
      obtain ⟨w, hw, hb⟩ := evA_ok h hc
      obtain ⟨pl, hρ, rfl⟩ := VR.ptrS_inv hb
      have : FldT x.P _ _ _ := ⟨hf⟩
      exact ⟨_, .ptr hρ, by rw [← Nat.add_assoc]; exact Pu.fa hw⟩
    · cases e
  · split at e
    · rename_i a ha
      obtain ⟨w, hw, hb⟩ := evA_ok h ha
      unfold fieldA at e
      split at e
      · obtain ⟨l', rfl, hll⟩ := VR.agg_inv hb
        split at e
        · rename_i hf
          have : FldV x.P _ _ _ false _ := ⟨hf⟩
          obtain ⟨u, hu, hv⟩ := hll.at e
          exact ⟨u, hv, Pu.fv hw hu⟩
        · rename_i hf
          have : FldV x.P _ _ _ true _ := ⟨hf⟩
          obtain ⟨r, hc, rfl⟩ := Option.map_eq_some_iff.1 e
          obtain ⟨r', hr', hrr⟩ := VRs.cut hll hc
          exact ⟨_, .agg hrr, Pu.fva hw hr'⟩
        · cases e
      · cases e
    · cases e
  · split at e
    · rename_i a b ha hb
      obtain ⟨u, hu, hv⟩ := evA_ok h ha
      obtain ⟨w, hw, hww⟩ := evA_ok h hb
      obtain ⟨h1, h2⟩ := binA_ok e hv hww hu hw
      exact ⟨v, h1, h2⟩
    · cases e
  · split at e
    · rename_i a ha
      obtain ⟨u, hu, hv⟩ := evA_ok h ha
      unfold convA at e
      split at e
      · cases VR.int_inv hv
        split at e
        · rename_i k2 k hS hT
          split at e
          · rename_i hk
            have hk := of_decide_eq_true hk
            subst hk
            cases e
            have : IntT x.P _ _ := ⟨hS⟩
            have : IntT x.P _ _ := ⟨hT⟩
            exact ⟨_, .int _ _, Pu.cvI hu⟩
          · cases e
        · cases e
      · cases e
    · cases e
  · split at e
    · rename_i a b ha hb
      obtain ⟨u, hu, hv⟩ := evA_ok h ha
      obtain ⟨w, hw, hww⟩ := evA_ok h hb
      exact idxA_ok e hv hww hu hw
    · cases e
  · exact buildA_ok h e
  · split at e
    · rename_i hq
      cases e
      exact sliceA_ok h hq
    · exact sliceR_ok h e
  · split at e
    · rename_i fv cv ha hc
      cases e
      obtain ⟨us, hus, hvs⟩ := evAs_ok h ha
      obtain ⟨ws, hws, hcs⟩ := evAs_ok h hc
      exact ⟨_, .func hvs hcs, Pu.mkF hus hws⟩
    · cases e
  · unfold callA at e
    split at e
    · split at e
      · rename_i T a n c q hp hs
        cases e
        obtain ⟨e1, sz, by_⟩ := q
        have := sliceT_ok hs
        obtain ⟨u, hu, hv⟩ := evA_ok h hp
        obtain ⟨m', c', rfl, _⟩ := VR.sl_inv hv
        exact ⟨_, .int _ _, Pu.lenS hu⟩
      · cases e
    · split at e
      · rename_i k m k' n hp hq
        split at e
        · rename_i hk
          have hk := of_decide_eq_true hk
          subst hk
          cases e
          obtain ⟨u, hu, hv⟩ := evA_ok h hp
          obtain ⟨w, hw, hww⟩ := evA_ok h hq
          cases VR.int_inv hv
          cases VR.int_inv hww
          exact ⟨_, .int _ _, Pu.min2 hu hw⟩
        · cases e
      · cases e
    · split at e
      · rename_i k m k' n hp hq
        split at e
        · rename_i hk
          have hk := of_decide_eq_true hk
          subst hk
          cases e
          obtain ⟨u, hu, hv⟩ := evA_ok h hp
          obtain ⟨w, hw, hww⟩ := evA_ok h hq
          cases VR.int_inv hv
          cases VR.int_inv hww
          exact ⟨_, .int _ _, Pu.max2 hu hw⟩
        · cases e
      · cases e
    · cases e
  · split at e
    · rename_i l k i hp hq
      obtain ⟨u, hu, hv⟩ := evA_ok h hp
      obtain ⟨w, hw, hww⟩ := evA_ok h hq
      obtain ⟨l', rfl, hl⟩ := VR.agg_inv hv
      cases VR.int_inv hww
      exact idxV_ok e hl hu hw
    · rename_i m k i hm hi
      obtain ⟨u, hu, hv⟩ := evA_ok h hm
      obtain ⟨w, hw, hww⟩ := evA_ok h hi
      cases VR.str_inv hv
      cases VR.int_inv hww
      split at e
      · rename_i hT h0
        split at e
        · rename_i b hb
          cases e
          have : StrT x.P _ := ⟨hT⟩
          refine ⟨_, .int _ _, Pu.ixStr hu hw (of_decide_eq_true h0) ?_⟩
          have h1 := strB_get hb
          rw [← strB_eq m] at h1
          exact h1
        · cases e
      · cases e
    · cases e
  · cases e
/-! ### loads -/
theorem can_of {F : Nat → Option Obj} {g off : Nat} {l : List Value} {E : TypeId} {fr : Nat × Nat} {vs : List Value} {rw : Bool} (hm : Has F H rw g (Obj.cells l.toArray E fr)) (hv : ∀ j u, vs[j]? = some u → l[off + j]? = some u) : Sl.Can F H g off vs := fun w hi j u hu => by
  rw [cell_of_row w g _ l.toArray E fr (hm.heap hi)]
  simpa using hv j u hu
/-- a block's cells -/
def rowOf : AO → Option (List Value)
  | .cells _ l _ => some l
  | .mk _ l _ => some l
  | _ => none
theorem Re.row (h : Re x ρ s env H) {β : Nat} {a : AO} {l : List Value} (hg : s.heap.get β = some a) (hr : rowOf a = some l) : ∃ pl, ρ β = some pl ∧ ∃ pre l' post fr E, Has x.F H a.rw pl.g (Obj.cells (pre ++ l' ++ post).toArray E fr) ∧ pre.length = pl.sh ∧ VRs ρ l l' := by
  unfold rowOf at hr
  split at hr
  · cases hr
    obtain ⟨pl, h1, pre, l', post, h2, h3, h4, _⟩ := h.cells hg
    exact ⟨pl, h1, pre, l', post, _, _, h2, h3, h4⟩
  · cases hr
    obtain ⟨pl, h1, ob, h2, pre, l', post, fr, E, rfl, h3, h4⟩ := h.heap _ _ hg
    exact ⟨pl, h1, pre, l', post, fr, E, h2, h3, h4⟩
  · cases hr
def ldA (P : Program) (s : AS) (T : TypeId) (p : Operand) : Option (Nat × Value) := match evA s p with
  | some (.pointer (some ⟨β, o, none⟩)) => match s.heap.get β with
    | some a => match rowOf a with
      | some l => match scalB P T with
        | true => (l[o]?).map (fun v => (β, v))
        | false => match aggS P T with
          | some n => (cut l o n).map (fun r => (β, .agg ⟨r⟩))
          | none => none
      | none => none
    | none => none
  | _ => none
theorem ldA_okG (h : Re x ρ s env H) {H0 : HL} {T : TypeId} {p : Operand} {β : Nat} {v : Value} (e : ldA x.P s T p = some (β, v)) (hH : ∀ a pl o, s.heap.get β = some a → ρ β = some pl → Has x.F H a.rw pl.g o → Has x.F H0 a.rw pl.g o) : ∃ u, VR ρ v u ∧ Rd x env H0 ⟨dst, .load T p, ty, pos, aft, gd⟩ u := by
  unfold ldA at e
  split at e
  · rename_i γ o hp
    obtain ⟨w, hw, hb⟩ := evA_ok h hp
    obtain ⟨pl, hρ, rfl⟩ := VR.ptrS_inv hb
    split at e
    · rename_i a hg
      split at e
      · rename_i l hro
        obtain ⟨pl', hρ', pre, l', post, fr, E, hm0, hsh, hll⟩ := h.row hg hro
        rw [hρ] at hρ'
        cases hρ'
        have hm : γ = β → Has x.F H0 a.rw pl.g (Obj.cells (pre ++ l' ++ post).toArray E fr) := fun hgb => by
          subst hgb
          exact hH _ pl _ hg hρ hm0
        split at e
        · rename_i hs
          have : ScalT x.P T := ⟨hs⟩
          cases hl : l[o]? with
          | none => rw [hl] at e; cases e
          | some v0 =>
            rw [hl] at e
            cases e
            obtain ⟨u, hu, hv⟩ := hll.at hl
            refine ⟨u, hv, Rd.ldC hw (can_of (hm rfl) (fun j q hq => ?_))⟩
            cases j with
            | succ j => cases hq
            | zero =>
              cases hq
              rw [Nat.add_zero, List.append_assoc, List.getElem?_append_right (by omega), ← hsh, Nat.add_sub_cancel_left, List.getElem?_append_left (List.getElem?_eq_some_iff.1 hu).1]
              first | done | exact hu
        · split at e
          · rename_i n ha
            have : AggT x.P T n := ⟨ha⟩
            cases hc : cut l o n with
            | none => rw [hc] at e; cases e
            | some r =>
              rw [hc] at e
              cases e
              obtain ⟨r', hr', hrr⟩ := VRs.cut hll hc
              obtain ⟨hr1, hr2⟩ := cut_eq hr'
              refine ⟨.agg ⟨r'⟩, .agg hrr, Rd.ldaC hw (by rw [hr1]; simp; omega) (can_of (hm rfl) (fun j q hq => ?_))⟩
              rw [hr1, List.getElem?_take] at hq
              split at hq
              · rw [List.getElem?_drop] at hq
                rw [List.append_assoc, List.getElem?_append_right (by omega), ← hsh, show pre.length + o + j - pre.length = o + j by omega, List.getElem?_append_left (List.getElem?_eq_some_iff.1 hq).1]
                first | done | exact hq
              · cases hq
          · cases e
      · cases e
    · cases e
  · cases e
theorem ldA_ok (h : Re x ρ s env H) {T : TypeId} {p : Operand} {β : Nat} {v : Value} (e : ldA x.P s T p = some (β, v)) : ∃ u, VR ρ v u ∧ Rd x env H ⟨dst, .load T p, ty, pos, aft, gd⟩ u := ldA_okG h e (fun _ _ _ _ _ h => h)
end
end
end Go.Ev
namespace Go.Ev
open Go Go.Sl
noncomputable section
section
variable {x : Cx} {ρ : Ro} {s : AS} {env : Env} {H : HL} {dst : Option Tmp} {ty : TypeId} {pos : String} {aft : Array Edge} {gd : Option (Nat × Bool)}
theorem ef_nd {o : Oper} {R : Value → HL → Prop} (h : Ef x env H o R) : Ef x env H o (fun v H' => R v H' ∧ Okh x.F H') := ⟨fun a w he hi => Yr.mono (fun v w' ⟨H', hR, hi', hs⟩ => ⟨H', ⟨hR, hi'.nd, hi'.dj⟩, hi', hs⟩) (h.run a w he hi)⟩
theorem VR.one {v v' : Value} (h : VR ρ v v') : v'.oneCell' = v.oneCell' := by cases h <;> rfl
theorem VRs.ones : ∀ {l l' : List Value}, VRs ρ l l' → l'.all (·.oneCell') = l.all (·.oneCell')
  | _, _, .nil => rfl
  | _, _, .cons a b => by rw [List.all_cons, List.all_cons, a.one, b.ones]
theorem OR.mono {P : Program} {F : Nat → Option Obj} {ρ' : Ro} {pl : Pl} {H' : HL} {a : AO} (h : OR P F ρ pl H a) (hρ : Le ρ ρ') (hH : ∀ q ∈ H, q.1 = pl.g → q ∈ H') : OR P F ρ' pl H' a := by
  obtain ⟨o, h1, h2⟩ := h
  refine ⟨o, ?_, h2.mono hρ⟩
  cases hr : a.rw
  · rw [hr] at h1; exact h1
  · rw [hr] at h1; exact hH _ h1 rfl
def up (ρ : Ro) (β : Nat) (pl : Pl) : Ro := fun γ => if γ = β then some pl else ρ γ
theorem up_le {β : Nat} {pl : Pl} (h : ρ β = none) : Le ρ (up ρ β pl) := fun γ q e => by
  unfold up
  split
  · rename_i hg; subst hg; rw [h] at e; cases e
  · exact e
theorem Re.free (h : Re x ρ s env H) : ρ s.nx = none := by
  cases hr : ρ s.nx with
  | none => rfl
  | some pl => have := h.dom _ _ hr; omega
/-- a new block -/
theorem Re.newO (h : Re x ρ s env H) {pl : Pl} {a : AO} {obj : Obj} {H' : HL} (ha : a.rw = true) (hov : ∀ ρ', Le ρ ρ' → ρ' s.nx = some pl → OV x.P ρ' pl a obj) (hm : (pl.g, obj) ∈ H') (hb : ∀ q ∈ H, q.1 ≠ pl.g) (hH : ∀ q ∈ H, q ∈ H') (nd : Okh x.F H') (hnx : s.nx < 1000000) :
    ∃ ρ', Le ρ ρ' ∧ ρ' s.nx = some pl ∧ Re x ρ' { s with heap := s.heap.put s.nx a, nx := s.nx + 1 } env H' := by
  have hf := h.free
  have hle := up_le (pl := pl) hf
  have hat : up ρ s.nx pl s.nx = some pl := by unfold up; rw [if_pos rfl]
  have hold : ∀ {β o q}, s.heap.get β = some o → up ρ s.nx pl β = some q → β ≠ s.nx ∧ ρ β = some q ∧ q.g ≠ pl.g := fun {β o q0} h1 h2 => by
    obtain ⟨q, hq, ob, hm0, _⟩ := h.heap β o h1
    have hne : β ≠ s.nx := fun e => by rw [e, hf] at hq; cases hq
    unfold up at h2
    rw [if_neg hne] at h2
    rw [h2] at hq
    cases hq
    refine ⟨hne, h2, ?_⟩
    cases hr : o.rw
    · rw [hr] at hm0
      intro e
      have h1 : x.F q0.g = some _ := hm0
      have h2 := nd.dj _ hm
      rw [e, h2] at h1
      cases h1
    · rw [hr] at hm0
      exact hb _ hm0
  refine ⟨_, hle, hat, ⟨fun t v hv => ?_, fun β o hβ => ?_, fun β γ o o' pl pl' h1 h2 h3 h4 h5 => ?_, fun β pl hβ => ?_, nd, fun g hg => ?_⟩⟩
  · obtain ⟨u, hu, hvu⟩ := h.env t v hv
    exact ⟨u, hu, hvu.mono hle⟩
  · dsimp only at hβ
    rw [T.get_put hnx] at hβ
    split at hβ
    · rename_i e
      subst e
      cases hβ
      exact ⟨_, hat, obj, by rw [ha]; exact hm, hov _ hle hat⟩
    · obtain ⟨q, hq, hO⟩ := h.heap β o hβ
      exact ⟨q, hle _ _ hq, hO.mono hle (fun p hp _ => hH p hp)⟩
  · dsimp only at h1 h2
    rw [T.get_put hnx] at h1 h2
    split at h1
    · rename_i e1
      split at h2
      · rename_i e2; rw [e1, e2]
      · rename_i e2
        exfalso
        obtain ⟨_, _, h6⟩ := hold h2 h4
        subst e1
        rw [hat] at h3
        cases h3
        exact h6 h5.symm
    · rename_i e1
      split at h2
      · rename_i e2
        exfalso
        obtain ⟨_, _, h6⟩ := hold h1 h3
        subst e2
        rw [hat] at h4
        cases h4
        exact h6 h5
      · obtain ⟨_, h6, _⟩ := hold h1 h3
        obtain ⟨_, h7, _⟩ := hold h2 h4
        exact h.inj β γ o o' pl pl' h1 h2 h6 h7 h5
  · dsimp only
    unfold up at hβ
    split at hβ
    · omega
    · have := h.dom _ _ hβ; omega
  · obtain ⟨q, h1, h2⟩ := h.gl g hg
    exact ⟨q, hle _ _ h1, h2⟩
theorem Re.new (h : Re x ρ s env H) {b sz ce : Nat} {l l' pre post : List Value} {E : TypeId} {H' : HL} (hl : VRs ρ l l') (hm : (b, Obj.cells (pre ++ l' ++ post).toArray E (0, 0)) ∈ H') (hb : ∀ q ∈ H, q.1 ≠ b) (hH : ∀ q ∈ H, q ∈ H') (nd : Okh x.F H') (hsz : (x.P.info? E).map (·.size) = some sz) (hnx : s.nx < 1000000) (hce : ce ≤ pre.length + l'.length + post.length) (hcm : ce ≤ pre.length + maxLen * sz) :
    ∃ ρ', Le ρ ρ' ∧ ρ' s.nx = some ⟨b, pre.length, ce, sz⟩ ∧ Re x ρ' { s with heap := s.heap.put s.nx (.cells true l E), nx := s.nx + 1 } env H' :=
  h.newO (pl := ⟨b, pre.length, ce, sz⟩) rfl (fun _ hle _ => ⟨pre, l', post, rfl, rfl, hl.mono hle, hce, hsz, hcm⟩) hm hb hH nd hnx
theorem nd_cons {F : Nat → Option Obj} {b : Nat} {o : Obj} (nd : Okh F ((b, o) :: H)) : ∀ q ∈ H, q.1 ≠ b := fun q hq e => by
  have nd := nd.nd
  rw [List.map_cons, List.nodup_cons] at nd
  exact nd.1 (List.mem_map.2 ⟨q, hq, e⟩)
/-- some cells of a block are others -/
theorem putAt_of {g off : Nat} {vs : List Value} : ∀ {H : HL} {L R : List Value} {E : TypeId}, (g, Obj.cells L.toArray E (0, 0)) ∈ H → spliceK L off vs some = some R → ∃ H1, PutAt g off vs H H1 ∧ (g, Obj.cells R.toArray E (0, 0)) ∈ H1 ∧ (∀ p ∈ H, p.1 ≠ g → p ∈ H1) ∧ H1.map (·.1) = H.map (·.1)
  | [], _, _, _, hm, _ => by cases hm
  | p :: H, L, R, E, hm, hs => by
    rcases List.mem_cons.1 hm with rfl | hm
    · exact ⟨(g, .cells R.toArray E (0, 0)) :: H, .here hs, List.mem_cons_self, fun q hq hne => by
        rcases List.mem_cons.1 hq with rfl | hq
        · exact absurd rfl hne
        · exact List.mem_cons_of_mem _ hq, rfl⟩
    · obtain ⟨H1, h1, h2, h3, h4⟩ := putAt_of hm hs
      exact ⟨p :: H1, .there h1, List.mem_cons_of_mem _ h2, fun q hq hne => by
        rcases List.mem_cons.1 hq with rfl | hq
        · exact List.mem_cons_self
        · exact List.mem_cons_of_mem _ (h3 q hq hne), by rw [List.map_cons, List.map_cons, h4]⟩
theorem Re.updO (h : Re x ρ s env H) {β : Nat} {a a' : AO} {obj : Obj} {pl : Pl} {H1 : HL} (hg : s.heap.get β = some a) (hρ : ρ β = some pl) (ha : a'.rw = true) (hov : OV x.P ρ pl a' obj) (h2 : (pl.g, obj) ∈ H1) (h3 : ∀ p ∈ H, p.1 ≠ pl.g → p ∈ H1) (h4 : H1.map (·.1) = H.map (·.1)) (hβ : β < 1000000) :
    Re x ρ { s with heap := s.heap.put β a' } env H1 := by
  refine ⟨h.env, fun γ q hγ => ?_, fun γ δ q q' p p' e1 e2 e3 e4 e5 => ?_, h.dom, ⟨by rw [h4]; exact h.nd.nd, fun p hp => ?_⟩, h.gl⟩
  · dsimp only at hγ
    rw [T.get_put hβ] at hγ
    split at hγ
    · rename_i e
      subst e
      cases hγ
      exact ⟨pl, hρ, obj, by rw [ha]; exact h2, hov⟩
    · rename_i hne
      obtain ⟨pl2, hρ2, hO⟩ := h.heap γ q hγ
      have hgne : pl2.g ≠ pl.g := fun e => hne (h.inj γ β q _ pl2 pl hγ hg hρ2 hρ e)
      exact ⟨pl2, hρ2, hO.mono (Le.refl ρ) (fun p hp hpg => h3 p hp (by rw [hpg]; exact hgne))⟩
  · dsimp only at e1 e2
    rw [T.get_put hβ] at e1 e2
    have k1 : ∃ q, s.heap.get γ = some q := by
      split at e1
      · rename_i e; rw [e]; exact ⟨_, hg⟩
      · exact ⟨_, e1⟩
    have k2 : ∃ q, s.heap.get δ = some q := by
      split at e2
      · rename_i e; rw [e]; exact ⟨_, hg⟩
      · exact ⟨_, e2⟩
    obtain ⟨a, ha⟩ := k1
    obtain ⟨b, hb⟩ := k2
    exact h.inj γ δ a b p p' ha hb e3 e4 e5
  · obtain ⟨q, hq, he⟩ := List.mem_map.1 (h4 ▸ List.mem_map.2 ⟨p, hp, rfl⟩ : p.1 ∈ H.map (·.1))
    rw [← he]
    exact h.nd.dj q hq
theorem Re.upd (h : Re x ρ s env H) {β o : Nat} {l r vs vs' : List Value} {E : TypeId} {pl : Pl} (hg : s.heap.get β = some (.cells true l E)) (hρ : ρ β = some pl) (hs : spliceK l o vs some = some r) (hv : VRs ρ vs vs') (hβ : β < 1000000) :
    ∃ H1, PutAt pl.g (pl.sh + o) vs' H H1 ∧ Re x ρ { s with heap := s.heap.put β (.cells true r E) } env H1 := by
  obtain ⟨pl', hρ', pre, l', post, hm, hsh, hll, hce, hsz, hcm⟩ := h.cells hg
  rw [hρ] at hρ'
  cases hρ'
  obtain ⟨r', hr', hrr⟩ := VRs.splice hll hv hs
  obtain ⟨hr1, hr2⟩ := splice_eq hr'
  have hbig : spliceK (pre ++ l' ++ post) (pl.sh + o) vs' some = some (pre ++ r' ++ post) := by
    rw [spliceK_eq, if_pos (by simp only [List.length_append]; omega), hr1]
    congr 1
    rw [List.append_assoc pre l' post, ← hsh, List.take_length_add_append, show pre.length + o + vs'.length = pre.length + (o + vs'.length) by omega, List.drop_length_add_append, List.take_append_of_le_length (by omega), List.drop_append_of_le_length (by omega)]
    simp only [List.append_assoc]
  obtain ⟨H1, h1, h2, h3, h4⟩ := putAt_of hm hbig
  have hlen : r'.length = l'.length := by rw [hr1]; simp; omega
  exact ⟨H1, h1, h.updO hg hρ rfl ⟨pre, r', post, rfl, hsh, hrr, by omega, hsz, hcm⟩ h2 h3 h4 hβ⟩
end
end
end Go.Ev
namespace Go.Ev
open Go Go.Sl
noncomputable section
section
variable {x : Cx} {ρ : Ro} {s : AS} {env : Env} {H : HL} {dst : Option Tmp} {ty : TypeId} {pos : String} {aft : Array Edge} {gd : Option (Nat × Bool)}
/-- nothing is appended -/
theorem pu_app0 {T E sz by_ : Nat} {p q : Operand} {ad sa : Option Addr} {n c c' : Nat} [st : SliceT x.P T E sz by_] (hp : ev env p = some (.slice ad n c)) (hq : ev env q = some (.slice sa 0 c')) (hnc : n ≤ c) :
    Pu x env ⟨dst, .call ⟨.builtin .append, #[p, q], #[T, T]⟩, ty, pos, aft, gd⟩ (.slice ad n c) := ⟨fun a he w => by
  obtain ⟨i, hi, hs, _⟩ := info_sl st
  have hsrc : (Builtin.firstCells i.size 0 (.slice sa 0 c')).run x.P w = .ok #[] w := by
    cases sa <;> simp [Builtin.firstCells, loadCells, loadCellsFrom]
  have hst : ∀ b : Addr, (storeCells b ([] : List Value)).run x.P w = .ok () w := fun b => by simp [storeCells]
  cases ad <;> simp [execOp, resolve, invoke, builtin, he.eval hp, he.eval hq, Builtin.append_, run_underlying st.h, sizeOf, typeInfo, hi, Builtin.lenOf, hsrc, hnc, hst]⟩
/-- what an effect is: a value, and what is so behind it -/
structure Done (x : Cx) (ρ : Ro) (s : AS) (env : Env) (H : HL) (o : Oper) (v : Value) (s' : AS) : Prop where
  ef : ∃ R, Ef x env H o R ∧ ∀ u H', R u H' → Okh x.F H' → ∃ ρ', Le ρ ρ' ∧ VR ρ' v u ∧ Re x ρ' s' env H'
def newA (P : Program) (s : AS) (l : List Value) (E : TypeId) : Option AS := match P.info? E, Nat.blt s.nx 1000000 with
  | some _, true => some { s with heap := s.heap.put s.nx (.cells true l E), nx := s.nx + 1 }
  | _, _ => none
theorem newA_ok (h : Re x ρ s env H) {b ce n : Nat} {l l' : List Value} {E : TypeId} {s' : AS} (e : newA x.P s l E = some s') (hl : VRs ρ l l') {H' : HL} (hH : H' = (b, Obj.cells l'.toArray E (0, 0)) :: H) (nd : Okh x.F H') (hce : ce ≤ l.length) (hc2 : ∀ sz, (x.P.info? E).map (·.size) = some sz → ce ≤ maxLen * sz) :
    ∃ ρ' sz, Le ρ ρ' ∧ ρ' s.nx = some ⟨b, 0, ce, sz⟩ ∧ (x.P.info? E).map (·.size) = some sz ∧ Re x ρ' s' env H' := by
  unfold newA at e
  split at e
  · rename_i i hi hn
    cases e
    subst hH
    have hll := hl.len
    obtain ⟨ρ', h1, h2, h3⟩ := h.new (E := E) (b := b) (sz := i.size) (ce := ce) (pre := []) (post := []) hl (by simp) (nd_cons nd) (fun q hq => List.mem_cons_of_mem _ hq) nd (by rw [hi]; rfl) (Nat.le_of_ble_eq_true hn) (by simp; omega) (by simpa using hc2 i.size (by rw [hi]; rfl))
    exact ⟨ρ', i.size, h1, h2, by rw [hi]; rfl, h3⟩
  · cases e
/-! ### variables -/
def allocA (P : Program) (s : AS) (T : TypeId) : Option (Value × AS) := match zeroT P T with
  | some z => (newA P s z T).map (fun s' => (.pointer (some ⟨s.nx, 0, none⟩), s'))
  | none => none
theorem allocA_ok (h : Re x ρ s env H) {T : TypeId} {v : Value} {s' : AS} (e : allocA x.P s T = some (v, s')) : Done x ρ s env H ⟨dst, .alloc T, ty, pos, aft, gd⟩ v s' := by
  unfold allocA at e
  split at e
  · rename_i z hz
    obtain ⟨q, hq, he⟩ := Option.map_eq_some_iff.1 e
    cases he
    obtain ⟨zt, hzz⟩ := zeroT_ok (ρ := ρ) hz
    refine ⟨_, Ef.al, fun u H' ⟨b, hu, hH⟩ nd => ?_⟩
    obtain ⟨ρ', sz, h1, h2, _, h3⟩ := newA_ok (n := 0) (ce := 0) h hq hzz hH nd (Nat.zero_le _) (fun _ _ => Nat.zero_le _)
    exact ⟨ρ', h1, by rw [hu]; exact .ptr h2, h3⟩
  · cases e
def boxA (P : Program) (s : AS) (T : TypeId) (p : Operand) : Option (Value × AS) := match evA s p with
  | some (.agg ⟨l⟩) => (newA P s l T).map (fun s' => (.pointer (some ⟨s.nx, 0, none⟩), s'))
  | some v => match v.oneCell' with
    | true => (newA P s [v] T).map (fun s' => (.pointer (some ⟨s.nx, 0, none⟩), s'))
    | false => none
  | none => none
theorem boxA_ok (h : Re x ρ s env H) {T : TypeId} {p : Operand} {v : Value} {s' : AS} (e : boxA x.P s T p = some (v, s')) : Done x ρ s env H ⟨dst, .box T p, ty, pos, aft, gd⟩ v s' := by
  unfold boxA at e
  split at e
  · rename_i l hp
    obtain ⟨q, hq, he⟩ := Option.map_eq_some_iff.1 e
    cases he
    obtain ⟨u0, hu0, hv0⟩ := evA_ok h hp
    obtain ⟨l', rfl, hll⟩ := VR.agg_inv hv0
    refine ⟨_, Ef.bxa (cs := l') hu0, fun u H' ⟨b, hu, hH⟩ nd => ?_⟩
    obtain ⟨ρ', sz, h1, h2, _, h3⟩ := newA_ok (n := 0) (ce := 0) h hq hll hH nd (Nat.zero_le _) (fun _ _ => Nat.zero_le _)
    exact ⟨ρ', h1, by rw [hu]; exact .ptr h2, h3⟩
  · rename_i v0 _ hp
    split at e
    · rename_i h1c
      obtain ⟨q, hq, he⟩ := Option.map_eq_some_iff.1 e
      cases he
      obtain ⟨u0, hu0, hv0⟩ := evA_ok h hp
      refine ⟨_, Ef.bx hu0 (by rw [hv0.one]; exact h1c), fun u H' ⟨b, hu, hH⟩ nd => ?_⟩
      obtain ⟨ρ', sz, h1, h2, _, h3⟩ := newA_ok (n := 0) (ce := 0) h hq (.cons hv0 .nil) hH nd (Nat.zero_le _) (fun _ _ => Nat.zero_le _)
      exact ⟨ρ', h1, by rw [hu]; exact .ptr h2, h3⟩
    · cases e
  · cases e
/-! ### slices that are made -/
theorem mkCells_vrs {z z' : List Value} (h : VRs ρ z z') : ∀ n, VRs ρ (mkCells z n) (mkCells z' n)
  | 0 => .nil
  | n + 1 => h.app (mkCells_vrs h n)
theorem size_of {P : Program} {T e sz by_ : Nat} (st : SliceT P T e sz by_) {q : Nat} (h : (P.info? e).map (·.size) = some q) : q = sz := by
  have := st.i
  cases hi : P.info? e with
  | none => rw [hi] at h; cases h
  | some i =>
    rw [hi] at h this
    have a := Option.some.inj h
    have b := congrArg Prod.fst (Option.some.inj this)
    exact a.symm.trans b
theorem mkCells_add (z : List Value) (b : Nat) : ∀ a, mkCells z (a + b) = mkCells z a ++ mkCells z b
  | 0 => by rw [Nat.zero_add]; rfl
  | a + 1 => by rw [show a + 1 + b = (a + b) + 1 by omega, mkCells, mkCells, mkCells_add z b a, List.append_assoc]
theorem Ef.mkSC {T e sz by_ : Nat} {z : List Value} {p q : Operand} {k k' : IntKind} {n m : Nat} [st : SliceT x.P T e sz by_] [zt : ZeroT x.P e z] (hz : z.length = sz) (hsz : Nat.blt 0 sz = true) (hp : ev env p = some (.int k n)) (hq : ev env q = some (.int k' m)) (hnm : n ≤ m) (hb : by_ * m ≤ 281474976710656) (h63 : m ≤ 9223372036854775807) :
    Ef x env H ⟨dst, .makeSlice T p q, ty, pos, aft, gd⟩ (fun v H' => ∃ b, v = .slice (some ⟨b, 0, none⟩) n m ∧ H' = (b, .cells (mkCells z m).toArray e (0, 0)) :: H) := ⟨fun a w he hi => by
  obtain ⟨i, hinf, hs, hbb⟩ := info_sl st
  have hzt := zt.h
  cases hzz : i.zero with
  | none => simp [hinf, hzz] at hzt
  | some zv =>
  have hzc : zv.cells = z.toArray := by simpa [hinf, hzz] using hzt
  have hb' : ((by_ * m : Nat) : Int) ≤ 281474976710656 := by omega
  rw [Int.natCast_mul, ← hbb] at hb'
  have hrun := run_make (P := x.P) w T e i zv st.h hinf hzz k k' n m (by omega) (by omega) hb' (by omega)
  rw [hzc, hs, ← hz] at hrun
  simp only [Int.toNat_natCast] at hrun
  rw [madeCells_eq z (by rw [hz]; exact Nat.le_of_ble_eq_true hsz)] at hrun
  refine yields_of_run (v := .slice (some ⟨w.heap.size, 0, none⟩) n m) (w' := w.alloc (.cells (mkCells z m).toArray e)) ?_ ⟨_, ⟨_, rfl, rfl⟩, hi.alloc _, Same.alloc w _⟩
  simp only [execOp, he.eval hp, he.eval hq, Sem.run_bind, hrun, Result.andThen_ok, Sem.run_pure]⟩
def makeA (P : Program) (s : AS) (T : TypeId) (p q : Operand) : Option (Value × AS) := match sliceT P T, intA (evA s p), intA (evA s q) with
  | some (e, sz, by_), some n, some m => match zeroT P e with
    | some z => match Nat.ble n m && (Nat.beq z.length sz && (Nat.blt 0 sz && (Nat.ble (by_ * m) 281474976710656 && Nat.ble m 281474976710656))) with
      | true => (newA P s (mkCells z n) e).map (fun s' => (.slice (some ⟨s.nx, 0, none⟩) n 0, s'))
      | false => none
    | none => none
  | _, _, _ => none
theorem makeA_ok (h : Re x ρ s env H) {T : TypeId} {p q : Operand} {v : Value} {s' : AS} (e : makeA x.P s T p q = some (v, s')) : Done x ρ s env H ⟨dst, .makeSlice T p q, ty, pos, aft, gd⟩ v s' := by
  unfold makeA at e
  split at e
  · rename_i e1 sz by_ n m hs hn hm
    split at e
    · rename_i z hz
      split at e
      · rename_i hb
        simp only [Bool.and_eq_true, Nat.ble_eq] at hb
        obtain ⟨b1, b2, b3, b4, b5⟩ := hb
        have b2 := beq_true b2
        obtain ⟨q1, hq, he⟩ := Option.map_eq_some_iff.1 e
        cases he
        have st := sliceT_ok hs
        obtain ⟨zt, hzz⟩ := zeroT_ok (ρ := ρ) hz
        obtain ⟨k, hk⟩ := intA_ok h hn
        obtain ⟨k', hk'⟩ := intA_ok h hm
        have hlen : (mkCells z n).length = n * sz := by rw [length_mkCells, b2]
        have hlen2 : (mkCells z (m - n)).length = (m - n) * sz := by rw [length_mkCells, b2]
        have hcap : n * sz + (m - n) * sz = m * sz := by rw [← Nat.add_mul]; congr 1; omega
        have hmax : maxLen = 9223372036854775807 := by unfold maxLen; rfl
        refine ⟨_, Ef.mkSC b2 b3 hk hk' b1 b4 (by omega), fun u H' ⟨b, hu, hH⟩ nd => ?_⟩
        unfold newA at hq
        split at hq
        · rename_i i hi hnx
          cases hq
          have hszE : (x.P.info? e1).map (·.size) = some sz := by
            have := st.i
            rw [hi] at this ⊢
            exact congrArg some (congrArg Prod.fst (Option.some.inj this))
          have hHe : H' = (b, Obj.cells ([] ++ mkCells z n ++ mkCells z (m - n)).toArray e1 (0, 0)) :: H := by
            rw [hH, List.nil_append, ← mkCells_add, show n + (m - n) = m by omega]
          rw [hHe] at nd ⊢
          obtain ⟨ρ', h1, h2, h3⟩ := h.new (E := e1) (b := b) (sz := sz) (ce := m * sz) (pre := []) (post := mkCells z (m - n)) (mkCells_vrs hzz n) List.mem_cons_self (nd_cons nd) (fun q hq => List.mem_cons_of_mem _ hq) nd hszE (Nat.le_of_ble_eq_true hnx) (by rw [hlen, hlen2, List.length_nil]; omega) (by
            rw [List.length_nil, Nat.zero_add]
            exact Nat.mul_le_mul_right sz (by omega))
          exact ⟨ρ', h1, by rw [hu]; exact .sl h2 (by simp) b1, h3⟩
        · cases hq
      · cases e
    · cases e
  · cases e
def buildSA (P : Program) (s : AS) (T : TypeId) (n : Nat) (parts : List (Nat × Operand)) : Option (Value × AS) := match sliceT P T with
  | some (e, sz, _) => match n, parts with
    | 0, [] => (newA P s [] e).map (fun s' => (.slice (some ⟨s.nx, 0, none⟩) 0 0, s'))
    | 0, _ => none
    | m + 1, parts => match evPs s parts, zeroT P e with
      | some vs, some z => match Nat.beq z.length sz && (Nat.blt 0 sz && Nat.ble ((m + 1) * sz) 16777216) with
        | true => match fillK ((List.range (m + 1)).map (fun i => (i * sz, sz))) vs (mkCells z (m + 1)) with
          | some r => match Nat.beq r.length ((m + 1) * sz) with
            | true => (newA P s r e).map (fun s' => (.slice (some ⟨s.nx, 0, none⟩) (m + 1) 0, s'))
            | false => none
          | none => none
        | false => none
      | _, _ => none
  | none => none
theorem buildSA_ok (h : Re x ρ s env H) {T : TypeId} {n : Nat} {parts : List (Nat × Operand)} {v : Value} {s' : AS} (e : buildSA x.P s T n parts = some (v, s')) : Done x ρ s env H ⟨dst, .buildSlice T n ⟨parts⟩, ty, pos, aft, gd⟩ v s' := by
  unfold buildSA at e
  split at e
  · rename_i e1 sz by_ hs
    have st := sliceT_ok hs
    have hmax : maxLen = 9223372036854775807 := by unfold maxLen; rfl
    split at e
    · obtain ⟨q1, hq, he⟩ := Option.map_eq_some_iff.1 e
      cases he
      refine ⟨_, Ef.bs0, fun u H' ⟨b, hu, hH⟩ nd => ?_⟩
      obtain ⟨ρ', sz', h1, h2, h4, h3⟩ := newA_ok (n := 0) (ce := 0) h hq .nil hH nd (Nat.le_refl _) (fun _ _ => Nat.zero_le _)
      exact ⟨ρ', h1, by rw [hu]; exact .sl h2 (by simp) (Nat.le_refl _), h3⟩
    · cases e
    · rename_i m
      split at e
      · rename_i vs z hvs hz
        split at e
        · rename_i hb
          simp only [Bool.and_eq_true, Nat.ble_eq] at hb
          obtain ⟨b2, b3, b4⟩ := hb
          have b2 := beq_true b2
          obtain ⟨zt, hzz⟩ := zeroT_ok (ρ := ρ) hz
          split at e
          · rename_i r hr
            split at e
            · rename_i hrl
              have hrl := beq_true hrl
              obtain ⟨q1, hq, he⟩ := Option.map_eq_some_iff.1 e
              cases he
              obtain ⟨us, hus, hvu⟩ := evPs_ok h hvs
              obtain ⟨r', hr', hrr⟩ := fill_ok hvu (mkCells_vrs hzz (m + 1)) hr
              have b3' : 0 < sz := Nat.le_of_ble_eq_true b3
              refine ⟨_, Ef.bsN b2 b3 rfl (Nat.ble_eq_true_of_le b4) hus hr', fun u H' ⟨b, hu, hH⟩ nd => ?_⟩
              have hmle : m + 1 ≤ (m + 1) * sz := Nat.le_mul_of_pos_right _ b3'
              obtain ⟨ρ', sz', h1, h2, h4, h3⟩ := newA_ok (n := 0) (ce := (m + 1) * sz) h hq hrr hH nd (by rw [hrl]; exact Nat.le_refl _) (fun sz' hsz' => by
                rw [size_of st hsz']
                exact Nat.mul_le_mul_right sz (by omega))
              have := size_of st h4
              subst this
              exact ⟨ρ', h1, by rw [hu]; exact .sl h2 (by simp) (Nat.le_refl _), h3⟩
            · cases e
          · cases e
        · cases e
      · cases e
  · cases e
/-! ### stores -/
def stA (P : Program) (s : AS) (T : TypeId) (p q : Operand) : Option AS := match evA s p, evA s q with
  | some (.pointer (some ⟨β, o, none⟩)), some v => match s.heap.get β, Nat.blt β 1000000 with
    | some (.cells true l E), true => match scalB P T with
      | true => match v.oneCell' with
        | true => (spliceK l o [v] some).map (fun r => { s with heap := s.heap.put β (.cells true r E) })
        | false => none
      | false => match aggS P T, v with
        | some n, .agg ⟨vs⟩ => match Nat.beq vs.length n && vs.all (·.oneCell') with
          | true => (spliceK l o vs some).map (fun r => { s with heap := s.heap.put β (.cells true r E) })
          | false => none
        | _, _ => none
    | _, _ => none
  | _, _ => none
theorem stA_ok (h : Re x ρ s env H) {T : TypeId} {p q : Operand} {s' : AS} (e : stA x.P s T p q = some s') : Done x ρ s env H ⟨dst, .store T p q, ty, pos, aft, gd⟩ undef s' := by
  unfold stA at e
  split at e
  · rename_i β o v hp hq
    obtain ⟨w, hw, hb⟩ := evA_ok h hp
    obtain ⟨pl, hρ, rfl⟩ := VR.ptrS_inv hb
    obtain ⟨u, hu, hv⟩ := evA_ok h hq
    split at e
    · rename_i l E hg hβ
      have hβ := Nat.le_of_ble_eq_true hβ
      split at e
      · rename_i hs
        have : ScalT x.P T := ⟨hs⟩
        split at e
        · rename_i h1
          obtain ⟨r, hr, rfl⟩ := Option.map_eq_some_iff.1 e
          obtain ⟨H1, hput, hre⟩ := h.upd hg hρ hr (.cons hv .nil) hβ
          exact ⟨_, Ef.st hw hu (by rw [hv.one]; exact h1) hput, fun u' H' ⟨e1, e2⟩ _ => ⟨ρ, Le.refl ρ, by rw [e1]; exact .tup .nil, by rw [e2]; exact hre⟩⟩
        · cases e
      · split at e
        · rename_i n vs ha
          have : AggT x.P T n := ⟨ha⟩
          split at e
          · rename_i hb2
            simp only [Bool.and_eq_true] at hb2
            obtain ⟨c1, c2⟩ := hb2
            have c1 := beq_true c1
            obtain ⟨r, hr, rfl⟩ := Option.map_eq_some_iff.1 e
            obtain ⟨l', rfl, hll⟩ := VR.agg_inv hv
            obtain ⟨H1, hput, hre⟩ := h.upd hg hρ hr hll hβ
            exact ⟨_, Ef.sta (cs := l') hw hu (by rw [← hll.len]; exact c1) (by rw [hll.ones]; exact c2) hput, fun u' H' ⟨e1, e2⟩ _ => ⟨ρ, Le.refl ρ, by rw [e1]; exact .tup .nil, by rw [e2]; exact hre⟩⟩
          · cases e
        · cases e
    · cases e
  · cases e
end
end
end Go.Ev
