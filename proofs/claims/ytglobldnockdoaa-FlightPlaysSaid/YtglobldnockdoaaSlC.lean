/- A region that draws its order: one walk in the text's order serves every order, if what may be exchanged reads nothing that is written meanwhile. No conditions: laws only. -/
import Derived.Test.YtglobldnockdoaaSlB
import Derived.OrdersIn
namespace Go.Sl
open Go

/-- p: its run looks at no memory; s: it reads what stays; e: it acts. -/
inductive Kd where
  | p | s | e
  deriving DecidableEq

def kindOf : Op → Kd
  | .move _ | .assign _ | .pick .. | .fieldAddr .. | .field .. | .extract .. | .nilCheck _ | .unOp .. | .build .. | .index .. | .indexAddr .. | .slice .. | .makeInterface .. | .makeFunc .. => .p
  | .binOp .. => .p
  | .call ⟨.builtin .min, _, _⟩ | .call ⟨.builtin .max, _, _⟩ => .p
  | .convert a b _ => if Nat.beq a b then .e else .s
  | .load .. | .lookup .. | .call ⟨.builtin .len, _, _⟩ => .s
  | _ => .e

/-- nc: something that it does not wait for is read: what it leaves must still be readable so. -/
structure Tg where
  k : Kd
  i : Nat
  o : Oper
  nc : Bool

def Kd.isS : Kd → Bool | .s => true | _ => false
def Kd.isE : Kd → Bool | .e => true | _ => false

def maskOf (o : Oper) (acc : List Nat) : Nat := o.after.toList.foldl (fun s e => if Region.binds .any e then s ||| (1 <<< e.on) ||| acc.getD e.on 0 else s) 0
def masks : List Oper → List Nat → List Nat
  | [], acc => acc
  | o :: l, acc => masks l (acc ++ [maskOf o acc])
def sMask : List Oper → Nat → Nat
  | [], _ => 0
  | o :: l, n => (if (kindOf o.op).isS then 1 <<< n else 0) ||| sMask l (n + 1)
def tag (ms : List Nat) (sm : Nat) : List Oper → Nat → List Tg
  | [], _ => []
  | o :: l, n => ⟨kindOf o.op, n, o, (sm &&& ms.getD n 0) != sm⟩ :: tag ms sm l (n + 1)
def tags (l : List Oper) : List Tg := tag (masks l []) (sMask l 0) l 0

def hasS : List Tg → Bool
  | [] => false
  | t :: l => t.k.isS || hasS l

def anc (ms : List Nat) (i x : Nat) : Bool := (ms.getD i 0).testBit x
def pairB (ops : Array Oper) (ms : List Nat) (x y : Tg) : Bool :=
  (anc ms y.i x.i || (x.o.apart ops y.o && !(x.k.isE && y.k.isE) && (!(x.k.isS && y.k.isE) || y.nc))) && !(x.k.isE && !x.nc && y.k.isS)
def pwB (f : Tg → Tg → Bool) : List Tg → Bool
  | [] => true
  | t :: l => l.all (f t) && pwB f l
def soundB (ms : List Nat) : List Oper → Nat → Bool
  | [], _ => true
  | o :: l, n =>
    o.after.toList.all (fun e => !Region.binds .any e || Nat.blt e.on n) &&
    Nat.blt (ms.getD n 0) (2 ^ n) && (List.range n).all (fun x => !anc ms n x || o.after.toList.any (fun e => Region.binds .any e && (e.on == x || anc ms e.on x))) && soundB ms l (n + 1)
def mixB (l : List Oper) : Bool :=
  Region.noSelect l.toArray && soundB (masks l []) l 0 && pwB (pairB l.toArray (masks l [])) (tags l)

section
variable {P : Program} {ops : Array Oper} {C : World → Prop} {Q : Act → World → Prop}

/-- Where an operation only looks. -/
def quietV (P : Program) (ops : Array Oper) (C : World → Prop) (t : Tg) (a : Act) (v : Value) : Prop :=
  (Region.wanted t.o (yielded ops a.tmps) = true ∧ t.k ≠ .e ∧ ∀ w, (t.k = .s → C w) → (execOp a.eval t.o).run P w = .ok (.value v) w) ∨
  (Region.wanted t.o (yielded ops a.tmps) = false ∧ v = undef)
/-- Where it acts. -/
def acts (ops : Array Oper) (t : Tg) (a : Act) : Prop := Region.wanted t.o (yielded ops a.tmps) = true ∧ t.k = .e

def wpMix (P : Program) (ops : Array Oper) (C : World → Prop) (Q : Act → World → Prop) : List Tg → (World → Prop) → Act → Prop
  | [], M, a => ∀ w, M w → Q a w
  | t :: rest, M, a =>
    (∃ v, quietV P ops C t a v ∧ wpMix P ops C Q rest M (a.put t.o.dst v)) ∨
    (acts ops t a ∧ ∀ w, M w → yields P t.o a w (fun v w' => ∃ M' : World → Prop, M' w' ∧ (t.nc = true → ∀ w, M' w → C w) ∧ wpMix P ops C Q rest M' (a.put t.o.dst v)))

theorem quietV_put {t : Tg} {a : Act} {v : Value} {d : Option Tmp} {u : Value} (hs : ∀ cs b, t.o.op ≠ .select cs b) (h : ∀ x, d = some x → x ∉ t.o.looksAt ops) : quietV P ops C t (a.put d u) v ↔ quietV P ops C t a v := by
  unfold quietV
  rw [wanted_put t.o a d u h, execOp_put t.o hs a d u h]
theorem acts_put {t : Tg} {a : Act} {d : Option Tmp} {u : Value} (h : ∀ x, d = some x → x ∉ t.o.looksAt ops) : acts ops t (a.put d u) ↔ acts ops t a := by
  unfold acts
  rw [wanted_put t.o a d u h]
theorem yields_put {o : Oper} {a : Act} {d : Option Tmp} {u : Value} {w : World} {R : Value → World → Prop} (hs : ∀ cs b, o.op ≠ .select cs b) (h : ∀ x, d = some x → x ∉ o.looksAt ops) : yields P o (a.put d u) w R ↔ yields P o a w R := by
  unfold yields
  rw [execOp_put o hs a d u h]
theorem quietV_det {t : Tg} {a : Act} {u v : Value} {w : World} (hC : t.k = .s → C w) (h1 : quietV P ops C t a u) (h2 : quietV P ops C t a v) : u = v := by
  rcases h1 with ⟨w1, _, r1⟩ | ⟨w1, rfl⟩ <;> rcases h2 with ⟨w2, _, r2⟩ | ⟨w2, rfl⟩
  · have := (r1 w hC).symm.trans (r2 w hC); simpa using this
  · rw [w1] at w2; cases w2
  · rw [w1] at w2; cases w2
  · rfl

theorem hasS_iff (l : List Tg) : hasS l = true ↔ ∃ t ∈ l, t.k = .s := by
  induction l with
  | nil => simp [hasS]
  | cons t l ih =>
    simp only [hasS, Bool.or_eq_true, ih, List.mem_cons]
    constructor
    · rintro (h | ⟨u, hu, hk⟩)
      · exact ⟨t, .inl rfl, by cases hk : t.k <;> simp [hk, Kd.isS] at h ⊢⟩
      · exact ⟨u, .inr hu, hk⟩
    · rintro ⟨u, rfl | hu, hk⟩
      · exact .inl (by rw [hk]; rfl)
      · exact .inr ⟨u, hu, hk⟩

/-- Two may be exchanged. -/
structure Sw (ops : Array Oper) (x y : Tg) : Prop where
  apart : x.o.apart ops y.o = true
  ne : ¬ (x.k = .e ∧ y.k = .e)
  nc : x.k = .s → y.k = .e → y.nc = true

theorem wpMix_swap {x y : Tg} {rest : List Tg} {M : World → Prop} {a : Act} (hx : ∀ cs b, x.o.op ≠ .select cs b) (hy : ∀ cs b, y.o.op ≠ .select cs b)
    (hsw : Sw ops x y) (hMy : y.k = .s → ∀ w, M w → C w) (hw : ∃ w, M w)
    (h : wpMix P ops C Q (x :: y :: rest) M a) : wpMix P ops C Q (y :: x :: rest) M a := by
  obtain ⟨h1, h2, h3⟩ := Oper.apart_spec hsw.apart
  rcases h with ⟨v, hv, h⟩ | ⟨hax, h⟩
  · rcases h with ⟨u, hu, h⟩ | ⟨hay, h⟩
    · refine .inl ⟨u, (quietV_put hy h1).1 hu, .inl ⟨v, (quietV_put hx h3).2 hv, ?_⟩⟩
      rw [← Act.put_comm a v u h2]; exact h
    · refine .inr ⟨(acts_put h1).1 hay, fun w hMw => Yr.mono ?_ ((yields_put hy h1).1 (h w hMw))⟩
      rintro u w' ⟨M', hM', hk, hr⟩
      exact ⟨M', hM', hk, .inl ⟨v, (quietV_put hx h3).2 hv, by rw [← Act.put_comm a v u h2]; exact hr⟩⟩
  · obtain ⟨w0, hw0⟩ := hw
    obtain ⟨v0, w0', M0, hM0, hk0, h0⟩ := (h w0 hw0).ex
    have hyq : ∃ u, quietV P ops C y a u := by
      rcases h0 with ⟨u, hu, _⟩ | ⟨hay, _⟩
      · exact ⟨u, (quietV_put hy h1).1 hu⟩
      · exact absurd ⟨hax.2, hay.2⟩ hsw.ne
    obtain ⟨u, hu⟩ := hyq
    refine .inl ⟨u, hu, .inr ⟨(acts_put h3).2 hax, fun w hMw => Yr.mono ?_ ((yields_put hx h3).2 (h w hMw))⟩⟩
    rintro v w' ⟨M', hM', hk, hr⟩
    rcases hr with ⟨u', hu', hr⟩ | ⟨hay, _⟩
    · have hu2 := (quietV_put hy h1).1 hu'
      obtain rfl : u = u' := quietV_det (w := w) (fun hs => hMy hs w hMw) hu hu2
      refine ⟨M', hM', hk, ?_⟩
      rw [← Act.put_comm a v u h2]; exact hr
    · exact absurd ⟨hax.2, hay.2⟩ hsw.ne

/-- Nothing that is read comes behind an act that need not leave it. -/
def Late (x y : Tg) : Prop := x.k = .e → x.nc = false → y.k ≠ .s

theorem wpMix_push {x : Tg} {r r' : List Tg} {M : World → Prop} {a : Act} (hl : ∀ y ∈ r, Late x y) (hM : hasS (x :: r) = true → ∀ w, M w → C w) (hw : ∃ w, M w)
    (hr : ∀ (M' : World → Prop) (a' : Act), (hasS r = true → ∀ w, M' w → C w) → (∃ w, M' w) → wpMix P ops C Q r M' a' → wpMix P ops C Q r' M' a')
    (h : wpMix P ops C Q (x :: r) M a) : wpMix P ops C Q (x :: r') M a := by
  rcases h with ⟨v, hv, h⟩ | ⟨hax, h⟩
  · exact .inl ⟨v, hv, hr M _ (fun hs => hM (by simp [hasS, hs])) hw h⟩
  · refine .inr ⟨hax, fun w hMw => Yr.mono ?_ (h w hMw)⟩
    rintro v w' ⟨M', hM', hk, h'⟩
    refine ⟨M', hM', hk, hr M' _ (fun hs => ?_) ⟨w', hM'⟩ h'⟩
    cases hnc : x.nc with
    | true => exact hk hnc
    | false =>
      obtain ⟨y, hy, hys⟩ := (hasS_iff r).1 hs
      exact absurd hys (hl y hy hax.2 hnc)

theorem wpMix_front {i : Tg} {l2 : List Tg} : ∀ (l1 : List Tg) (M : World → Prop) (a : Act), (∀ t ∈ l1 ++ i :: l2, ∀ cs b, t.o.op ≠ .select cs b) → (l1 ++ i :: l2).Pairwise Late → (∀ x ∈ l1, Sw ops x i) →
    (hasS (l1 ++ i :: l2) = true → ∀ w, M w → C w) → (∃ w, M w) → wpMix P ops C Q (l1 ++ i :: l2) M a → wpMix P ops C Q (i :: (l1 ++ l2)) M a
  | [], _, _, _, _, _, _, _, h => h
  | x :: l1, M, a, hns, hpw, hsw, hM, hw, h => by
    rw [List.cons_append, List.pairwise_cons] at hpw
    have h' : wpMix P ops C Q (x :: (i :: (l1 ++ l2))) M a := by
      refine wpMix_push hpw.1 hM hw (fun M' a' hM' hw' hr => ?_) h
      exact wpMix_front l1 M' a' (fun t ht => hns t (List.mem_cons_of_mem _ ht)) hpw.2 (fun y hy => hsw y (List.mem_cons_of_mem _ hy)) hM' hw' hr
    refine wpMix_swap (hns x (by simp)) (hns i (by simp)) (hsw x (by simp)) (fun hs => hM ?_) hw h'
    exact (hasS_iff _).2 ⟨i, by simp, hs⟩

/-- The listed ones are closed. -/
def Closed (ops : Array Oper) (listed : Array Bool) : Prop := ∀ j o, ops[j]? = some o → listed.getD j true = true → ∀ e ∈ o.after, Region.binds .any e = true → listed.getD e.on false = true

theorem anc_listed {ms : List Nat} (hs : ∀ i o, ops[i]? = some o → (∀ e ∈ o.after, Region.binds .any e = true → e.on < i) ∧ ∀ x, anc ms i x = true → ∃ e ∈ o.after, Region.binds .any e = true ∧ (e.on = x ∨ anc ms e.on x = true))
    {listed : Array Bool} (hsz : listed.size = ops.size) (hc : Closed ops listed) : ∀ (n i : Nat), i < n → ∀ o, ops[i]? = some o → (∀ e ∈ o.after, Region.binds .any e = true → listed.getD e.on false = true) → ∀ x, anc ms i x = true → listed.getD x false = true
  | 0, _, h, _, _, _, _, _ => by omega
  | n + 1, i, hi, o, ho, hall, x, hx => by
    obtain ⟨e, he, hb, h | h⟩ := (hs i o ho).2 x hx
    · rw [← h]; exact hall e he hb
    · have hl := hall e he hb
      have hlt := (hs i o ho).1 e he hb
      have hlt2 : e.on < ops.size := by
        have := (Array.getElem?_eq_some_iff.1 ho).1; omega
      have hoe : ops[e.on]? = some ops[e.on] := Array.getElem?_eq_getElem hlt2
      refine anc_listed hs hsz hc n e.on (by omega) _ hoe (fun e' he' hb' => hc e.on _ hoe ?_ e' he' hb') x h
      have hlt3 : e.on < listed.size := by omega
      simp only [Array.getD, hlt3, dite_true] at hl ⊢
      exact hl

theorem wpAny_of_mix {rd : Option Nat} {ms : List Nat} {Q' : Post} (hq : ∀ a w, Q a w → Q' .normal a w) (hns : ∀ (j : Nat) (o : Oper) cs b, ops[j]? = some o → o.op ≠ .select cs b)
    (hs : ∀ i o, ops[i]? = some o → (∀ e ∈ o.after, Region.binds .any e = true → e.on < i) ∧ ∀ x, anc ms i x = true → ∃ e ∈ o.after, Region.binds .any e = true ∧ (e.on = x ∨ anc ms e.on x = true)) :
    ∀ (l : List Tg) (listed : Array Bool) (M : World → Prop) (a : Act) (w : World), listed.size = ops.size → Closed ops listed → (∀ t ∈ l, ops[t.i]? = some t.o) → (l.map (·.i)).Nodup → (∀ j, j < ops.size → (listed.getD j true = false ↔ j ∈ l.map (·.i))) →
      (l.map (·.i)).Pairwise (· < ·) → l.Pairwise (fun x y => (anc ms y.i x.i = true ∨ Sw ops x y) ∧ Late x y) → (hasS l = true → ∀ w, M w → C w) → M w → wpMix P ops C Q l M a → wpAnyIn (fenceR rd) 0 P .any ops Q' l.length listed a w := by
  intro l
  generalize hn : l.length = n
  induction n generalizing l with
  | zero =>
    intro listed M a w hsz hc ho hnd hl hlt hpw hM hw h
    obtain rfl := List.eq_nil_of_length_eq_zero hn
    refine ⟨?_, hq _ _ (h w hw)⟩
    refine List.eq_nil_iff_forall_not_mem.2 fun j hj => ?_
    obtain ⟨h0, o, hoj, _⟩ := mem_ready.1 hj
    have := (hl j (Array.getElem?_eq_some_iff.1 hoj).1).1 h0
    simp at this
  | succ n ih =>
    intro listed M a w hsz hc ho hnd hl hlt hpw hM hw h
    refine ⟨fun hr => ?_, fun j hj => ?_⟩
    · -- the first of the list is ready
      exfalso
      obtain ⟨t, l', rfl⟩ : ∃ t l', l = t :: l' := by
        cases l with
        | nil => simp at hn
        | cons t l' => exact ⟨t, l', rfl⟩
      have hot := ho t (by simp)
      have htlt : t.i < ops.size := (Array.getElem?_eq_some_iff.1 hot).1
      have : t.i ∈ Region.ready .any ops listed := mem_ready.2 ⟨(hl t.i htlt).2 (by simp), t.o, hot, fun e he hb => by
        have he1 := (hs t.i t.o hot).1 e he hb
        have hnot : ¬ listed.getD e.on true = false := fun hf => by
          have hm := (hl e.on (by omega)).1 hf
          simp only [List.map_cons, List.mem_cons] at hm
          rw [List.map_cons, List.pairwise_cons] at hlt
          rcases hm with hm | hm
          · omega
          · have := hlt.1 _ hm; omega
        have hlt3 : e.on < listed.size := by omega
        simp only [Array.getD, hlt3, dite_true] at hnot ⊢
        simpa using hnot⟩
      rw [hr] at this
      cases this
    · obtain ⟨h0, o, hoj, hall⟩ := mem_ready.1 hj
      have hjlt := (Array.getElem?_eq_some_iff.1 hoj).1
      obtain ⟨t, ht, rfl⟩ := List.mem_map.1 ((hl j hjlt).1 h0)
      obtain ⟨l1, l2, rfl⟩ := List.append_of_mem ht
      have hot : ops[t.i]? = some t.o := ho t ht
      obtain rfl : o = t.o := by rw [hoj] at hot; cases hot; rfl
      have hpw' := hpw
      rw [List.pairwise_append] at hpw
      have hsw : ∀ x ∈ l1, Sw ops x t := fun x hx => by
        rcases (hpw.2.2 x hx t (by simp)).1 with hanc | hsw
        · exfalso
          have := anc_listed hs hsz hc (t.i + 1) t.i (by omega) t.o hoj hall x.i hanc
          have hxo := ho x (by simp [hx])
          have hxl : x.i < ops.size := (Array.getElem?_eq_some_iff.1 hxo).1
          have hf := (hl x.i hxl).2 (List.mem_map.2 ⟨x, by simp [hx], rfl⟩)
          have hlt3 : x.i < listed.size := by omega
          simp only [Array.getD, hlt3, dite_true] at hf this
          rw [hf] at this; cases this
        · exact hsw
      have hfront := wpMix_front (C := C) (Q := Q) (P := P) (ops := ops) l1 M a (fun u hu cs b => hns u.i u.o cs b (ho u hu)) (hpw'.imp fun h => h.2) hsw hM ⟨w, hw⟩ h
      have hlen : (l1 ++ l2).length = n := by simp at hn ⊢; omega
      have hsub : (l1 ++ l2).Sublist (l1 ++ t :: l2) := (List.Sublist.refl l1).append (List.sublist_cons_self t l2)
      have hnd' : ((l1 ++ l2).map (·.i)).Nodup := hnd.sublist (hsub.map _)
      have htn : t.i ∉ (l1 ++ l2).map (·.i) := by
        have := hnd
        rw [List.map_append, List.map_cons, List.nodup_append, List.nodup_cons] at this
        rw [List.map_append, List.mem_append]
        rintro (h1 | h1)
        · exact this.2.2 _ h1 t.i (by simp) rfl
        · exact this.2.1.1 h1
      have hc' : Closed ops (listed.setIfInBounds t.i true) := fun j o ho' hj' e he hb => by
        by_cases hji : t.i = j
        · subst hji
          rw [hoj] at ho'; cases ho'
          exact getD_set_true (hall e he hb)
        · rw [getD_set_ne true hji] at hj'
          exact getD_set_true (hc j o ho' hj' e he hb)
      have hl' : ∀ j, j < ops.size → ((listed.setIfInBounds t.i true).getD j true = false ↔ j ∈ (l1 ++ l2).map (·.i)) := fun j hjs => by
        by_cases hji : t.i = j
        · subst hji
          have : (listed.setIfInBounds t.i true).getD t.i true = true := by
            simp [Array.getD, hsz, hjs]
          rw [this]
          exact ⟨fun h => (by cases h), fun h => absurd h htn⟩
        · rw [getD_set_ne true hji, hl j hjs]
          simp only [List.map_append, List.map_cons, List.mem_append, List.mem_cons]
          exact ⟨fun h => by rcases h with h | h | h <;> first | exact .inl h | exact absurd h.symm hji | exact .inr h, fun h => by rcases h with h | h; exact .inl h; exact .inr (.inr h)⟩
      have next : ∀ (M' : World → Prop) (a' : Act) (w' : World), (hasS (l1 ++ l2) = true → ∀ w, M' w → C w) → M' w' → wpMix P ops C Q (l1 ++ l2) M' a' → wpAnyIn (fenceR rd) 0 P .any ops Q' n (listed.setIfInBounds t.i true) a' w' :=
        fun M' a' w' hM' hw' h' => ih (l1 ++ l2) hlen _ M' a' w' (by simpa using hsz) hc' (fun u hu => ho u (hsub.mem hu)) hnd' hl' (hlt.sublist (hsub.map _)) (hpw'.sublist hsub) hM' hw' h'
      have hMsub : hasS (l1 ++ l2) = true → ∀ w, M w → C w := fun h => hM ((hasS_iff _).2 (let ⟨u, hu, hk⟩ := (hasS_iff _).1 h; ⟨u, hsub.mem hu, hk⟩))
      unfold wpOpIn
      rw [hoj]
      simp only []
      rcases hfront with ⟨v, hv, hr⟩ | ⟨hat, hr⟩
      · rcases hv with ⟨hwant, hne, hrun⟩ | ⟨hwant, rfl⟩
        · rw [if_pos hwant]
          refine wpIn_of_yields (yields_of_run (R := fun u w' => u = v ∧ w' = w) (hrun w (fun hks => hM ((hasS_iff _).2 ⟨t, by simp, hks⟩) w hw)) ⟨rfl, rfl⟩) ?_
          rintro u w' ⟨rfl, rfl⟩
          exact next M _ w' hMsub hw hr
        · rw [if_neg (by simp [hwant])]
          exact ⟨fun _ _ => trivial, next M _ w hMsub hw hr⟩
      · rw [if_pos hat.1]
        refine wpIn_of_yields (hr w hw) ?_
        rintro v w' ⟨M', hM', hk, h'⟩
        refine next M' _ w' (fun hs => ?_) hM' h'
        cases hnc : t.nc with
        | true => exact hk hnc
        | false =>
          exfalso
          obtain ⟨u, hu, hus⟩ := (hasS_iff _).1 hs
          rcases List.mem_append.1 hu with hu | hu
          · have := (hsw u hu).nc hus hat.2
            rw [hnc] at this; cases this
          · have hp2 := hpw.2.1
            rw [List.pairwise_cons] at hp2
            exact (hp2.1 u hu).2 hat.2 hnc hus

/-! ### from the check -/
theorem tag_mem {ms : List Nat} {sm : Nat} : ∀ (l : List Oper) (n : Nat) (t : Tg), t ∈ tag ms sm l n → n ≤ t.i ∧ l[t.i - n]? = some t.o
  | [], _, _, h => by cases h
  | o :: l, n, t, h => by
    rw [tag, List.mem_cons] at h
    rcases h with rfl | h
    · exact ⟨Nat.le_refl _, by simp⟩
    · obtain ⟨h1, h2⟩ := tag_mem l (n + 1) t h
      refine ⟨by omega, ?_⟩
      have : t.i - n = (t.i - (n + 1)) + 1 := by omega
      rw [this]; simpa using h2
theorem tag_idx {ms : List Nat} {sm : Nat} : ∀ (l : List Oper) (n : Nat), (tag ms sm l n).map (·.i) = List.range' n l.length
  | [], _ => rfl
  | o :: l, n => by rw [tag, List.map_cons, tag_idx l (n + 1)]; rfl
theorem tag_length {ms : List Nat} {sm : Nat} (l : List Oper) (n : Nat) : (tag ms sm l n).length = l.length := by
  have := congrArg List.length (tag_idx (ms := ms) (sm := sm) l n); simpa using this
theorem testBit_lt {m n x : Nat} (h : m < 2 ^ n) (hb : m.testBit x = true) : x < n := by
  rcases Nat.lt_or_ge x n with h' | h'
  · exact h'
  · have : m < 2 ^ x := Nat.lt_of_lt_of_le h (Nat.pow_le_pow_right (by omega) h')
    rw [Nat.testBit_lt_two_pow this] at hb; cases hb

theorem soundB_spec {ms : List Nat} : ∀ (l : List Oper) (n : Nat), soundB ms l n = true → ∀ i o, l[i]? = some o →
    (∀ e ∈ o.after, Region.binds .any e = true → e.on < n + i) ∧ ∀ x, anc ms (n + i) x = true → ∃ e ∈ o.after, Region.binds .any e = true ∧ (e.on = x ∨ anc ms e.on x = true)
  | [], _, _, _, _, h => by simp at h
  | o' :: l, n, hB, i, o, h => by
    simp only [soundB, Bool.and_eq_true] at hB
    obtain ⟨⟨⟨h1, h0⟩, h2⟩, h3⟩ := hB
    cases i with
    | zero =>
      simp only [List.getElem?_cons_zero, Option.some.injEq] at h
      subst h
      refine ⟨fun e he hb => ?_, fun x ha => ?_⟩
      · have := List.all_eq_true.1 h1 e (by simpa using he)
        simp only [hb, Bool.not_true, Bool.false_or] at this
        exact Nat.le_of_ble_eq_true this
      · simp only [Nat.add_zero] at ha
        have hx : x < n := testBit_lt (Nat.le_of_ble_eq_true h0) ha
        have := List.all_eq_true.1 h2 x (List.mem_range.2 hx)
        simp only [ha, Bool.not_true, Bool.false_or, List.any_eq_true, Bool.and_eq_true, Bool.or_eq_true, beq_iff_eq] at this
        obtain ⟨e, he, hb, hor⟩ := this
        exact ⟨e, by simpa using he, hb, hor⟩
    | succ i =>
      have := soundB_spec l (n + 1) h3 i o (by simpa using h)
      have e : n + 1 + i = n + (i + 1) := by omega
      rw [e] at this
      exact this
theorem pwB_spec {f : Tg → Tg → Bool} : ∀ (l : List Tg), pwB f l = true → l.Pairwise (fun x y => f x y = true)
  | [], _ => List.Pairwise.nil
  | t :: l, h => by
    simp only [pwB, Bool.and_eq_true] at h
    exact List.pairwise_cons.2 ⟨fun y hy => List.all_eq_true.1 h.1 y hy, pwB_spec l h.2⟩

theorem isE_iff (k : Kd) : k.isE = true ↔ k = .e := by cases k <;> simp [Kd.isE]
theorem isS_iff (k : Kd) : k.isS = true ↔ k = .s := by cases k <;> simp [Kd.isS]

theorem pairB_spec {ms : List Nat} {x y : Tg} (h : pairB ops ms x y = true) : (anc ms y.i x.i = true ∨ Sw ops x y) ∧ Late x y := by
  simp only [pairB, Bool.and_eq_true, Bool.or_eq_true, Bool.not_eq_true', Bool.and_eq_false_iff] at h
  obtain ⟨h1, h2⟩ := h
  refine ⟨?_, fun hx hn hy => ?_⟩
  · rcases h1 with h1 | ⟨⟨h1, h3⟩, h4⟩
    · exact .inl h1
    · refine .inr ⟨h1, fun ⟨hx, hy⟩ => ?_, fun hx hy => ?_⟩
      · rcases h3 with h3 | h3
        · rw [(isE_iff _).2 hx] at h3; cases h3
        · rw [(isE_iff _).2 hy] at h3; cases h3
      · rcases h4 with (h4 | h4) | h4
        · rw [(isS_iff _).2 hx] at h4; cases h4
        · rw [(isE_iff _).2 hy] at h4; cases h4
        · exact h4
  · rcases h2 with (h2 | h2) | h2
    · rw [(isE_iff _).2 hx] at h2; cases h2
    · simp [hn] at h2
    · rw [(isS_iff _).2 hy] at h2; cases h2

end

theorem wp_region_mix {rd : Option Nat} {P : Program} {C : World → Prop} {Q' : Post} {l : List Oper} {id : Nat} {a : Act} {w : World} {M : World → Prop} (hm : P.follows .mixedOrders = true) (hB : mixB l = true)
    (hC : ∀ w, M w → C w) (hw : M { w with drawn := w.drawn + 1 })
    (h : wpMix P l.toArray C (fun a w => Q' .normal a w) (tags l) M a) : (Code.region id l.toArray true).wpIn (fenceR rd) 0 P Q' a w := by
  simp only [mixB, Bool.and_eq_true] at hB
  obtain ⟨⟨h1, h2⟩, h4⟩ := hB
  have hs := soundB_spec l 0 h2
  simp only [Nat.zero_add] at hs
  have hmem : ∀ t ∈ tags l, l.toArray[t.i]? = some t.o := fun t ht => by
    have := (tag_mem l 0 t ht).2
    simpa using this
  have hidx : (tags l).map (·.i) = List.range' 0 l.length := tag_idx l 0
  refine wpIn_region_any hm ?_
  have key := wpAny_of_mix (rd := rd) (P := P) (ops := l.toArray) (C := C) (Q := fun a w => Q' .normal a w) (ms := masks l []) (Q' := Q') (fun _ _ h => h) (fun j o cs b ho => Region.noSelect_spec h1 j o cs b ho)
    (fun i o ho => ⟨(hs i o (by simpa using ho)).1, fun x hx => (hs i o (by simpa using ho)).2 x hx⟩)
    (tags l) (Array.replicate l.toArray.size false) M a { w with drawn := w.drawn + 1 } (by simp)
    (fun j o ho hj => by
      have := (Array.getElem?_eq_some_iff.1 ho).1
      simp only [List.size_toArray] at this
      simp [Array.getD, this] at hj)
    hmem (by rw [hidx]; exact List.nodup_range' ..) (fun j hj => by
      simp only [List.size_toArray] at hj
      rw [hidx]
      simp [Array.getD, hj, List.mem_range'_1]) (by rw [hidx]; exact List.pairwise_lt_range') ((pwB_spec _ h4).imp fun h => pairB_spec h) (fun _ => hC) hw h
  have hlen : (tags l).length = l.toArray.size := by simp [tags, tag_length]
  rw [hlen] at key
  exact key

/-! ### the judgement -/
def CC (x : Cx) (H : HL) (w : World) : Prop := In x.F H w ∧ Same x.w0 w
structure WD (x : Cx) (Hc : HL) (K : Post) (ops : Array Oper) (l : List Tg) (env : Env) (H : HL) : Prop where
  run : ∀ a, Ev x env a → wpMix x.P ops (CC x Hc) (fun a w => K .normal a w) l (CC x H) a

section
variable {x : Cx} {K : Post} {env : Env} {H Hc : HL} {ops : Array Oper} {rest : List Tg}
theorem W.draw {id : Nat} {l : List Oper} (Hc : HL) (hm : x.P.follows .mixedOrders = true) (hB : mixB l = true) (hc : ∀ w, In x.F H w → In x.F Hc w) (h : WD x Hc K l.toArray (tags l) env H) : W x K (.region id l.toArray true) env H :=
  ⟨fun a _w s => wp_region_mix hm hB (fun w h => ⟨hc w h.1, h.2⟩) (M := CC x H) ⟨⟨s.hin.nd, s.hin.own, s.hin.fr, s.hin.dj⟩, ⟨s.same.os, s.same.tape, s.same.output, s.same.size, Nat.le_succ_of_le s.same.drawn⟩⟩ (h.run a s.ev)⟩
theorem WD.nil (h : Fin x K .normal env H) : WD x Hc K ops [] env H := ⟨fun a he w hw => h.run a w ⟨he, hw.1, hw.2⟩⟩
theorem WD.p {d i : Nat} {nc : Bool} {op : Op} {ty : TypeId} {pos : String} {aft : Array Edge} {v : Value} (hn : Nat.blt d x.n = true) (h : Pu x env ⟨some d, op, ty, pos, aft, none⟩ v) (next : WD x Hc K ops rest ((d, v) :: env) H) :
    WD x Hc K ops (⟨.p, i, ⟨some d, op, ty, pos, aft, none⟩, nc⟩ :: rest) env H := ⟨fun a he =>
  .inl ⟨v, .inl ⟨by simp [Region.wanted], (fun h => by cases h), fun w _ => h.run a he w⟩, next.run _ (he.put (Nat.le_of_ble_eq_true hn) v)⟩⟩
theorem WD.s {d i : Nat} {nc : Bool} {op : Op} {ty : TypeId} {pos : String} {aft : Array Edge} {v : Value} (hn : Nat.blt d x.n = true) (h : Rd x env Hc ⟨some d, op, ty, pos, aft, none⟩ v) (next : WD x Hc K ops rest ((d, v) :: env) H) :
    WD x Hc K ops (⟨.s, i, ⟨some d, op, ty, pos, aft, none⟩, nc⟩ :: rest) env H := ⟨fun a he =>
  .inl ⟨v, .inl ⟨by simp [Region.wanted], (fun h => by cases h), fun w hw => h.run a w he (hw rfl).1⟩, next.run _ (he.put (Nat.le_of_ble_eq_true hn) v)⟩⟩
theorem WD.e {d i : Nat} {nc : Bool} {op : Op} {ty : TypeId} {pos : String} {aft : Array Edge} {R : Value → HL → Prop} (hn : Nat.blt d x.n = true) (h : Ef x env H ⟨some d, op, ty, pos, aft, none⟩ R)
    (next : ∀ v H', R v H' → (nc = false ∨ ∀ w, In x.F H' w → In x.F Hc w) ∧ WD x Hc K ops rest ((d, v) :: env) H') :
    WD x Hc K ops (⟨.e, i, ⟨some d, op, ty, pos, aft, none⟩, nc⟩ :: rest) env H := ⟨fun a he =>
  .inr ⟨⟨by simp [Region.wanted], rfl⟩, fun w hw => Yr.mono (fun v w' => by
    rintro ⟨H', hR, hi, hs⟩
    obtain ⟨hk, hn'⟩ := next v H' hR
    exact ⟨CC x H', ⟨hi, hw.2.trans hs⟩, fun hnc w hw => ⟨hk.resolve_left (by simp [show nc = true from hnc]) w hw.1, hw.2⟩, hn'.run _ (he.put (Nat.le_of_ble_eq_true hn) v)⟩) (h.run a w he hw.1)⟩⟩
theorem WD.e0 {i : Nat} {nc : Bool} {op : Op} {ty : TypeId} {pos : String} {aft : Array Edge} {R : Value → HL → Prop} (h : Ef x env H ⟨none, op, ty, pos, aft, none⟩ R)
    (next : ∀ v H', R v H' → (nc = false ∨ ∀ w, In x.F H' w → In x.F Hc w) ∧ WD x Hc K ops rest env H') :
    WD x Hc K ops (⟨.e, i, ⟨none, op, ty, pos, aft, none⟩, nc⟩ :: rest) env H := ⟨fun a he =>
  .inr ⟨⟨by simp [Region.wanted], rfl⟩, fun w hw => Yr.mono (fun v w' => by
    rintro ⟨H', hR, hi, hs⟩
    obtain ⟨hk, hn'⟩ := next v H' hR
    exact ⟨CC x H', ⟨hi, hw.2.trans hs⟩, fun hnc w hw => ⟨hk.resolve_left (by simp [show nc = true from hnc]) w hw.1, hw.2⟩, hn'.run _ he⟩) (h.run a w he hw.1)⟩⟩
theorem WD.g_yes {dst : Option Nat} {i : Nat} {nc : Bool} {k : Kd} {op : Op} {ty : TypeId} {pos : String} {aft : Array Edge} {j t : Nat} {b : Bool} (hj : gslot ops j = some t) (hv : look env t = some (.bool b))
    (next : WD x Hc K ops (⟨k, i, ⟨dst, op, ty, pos, aft, none⟩, nc⟩ :: rest) env H) : WD x Hc K ops (⟨k, i, ⟨dst, op, ty, pos, aft, some (j, b)⟩, nc⟩ :: rest) env H := ⟨fun a he => by
  have hw : Region.wanted ⟨dst, op, ty, pos, aft, some (j, b)⟩ (yielded ops a.tmps) = true := by simp [Region.wanted, yielded_of he hj hv]
  rcases next.run a he with ⟨v, hq, h⟩ | ⟨ha, h⟩
  · refine .inl ⟨v, ?_, h⟩
    rcases hq with ⟨_, h2, h3⟩ | ⟨h1, _⟩
    · exact .inl ⟨hw, h2, h3⟩
    · simp [Region.wanted] at h1
  · exact .inr ⟨⟨hw, ha.2⟩, h⟩⟩
theorem WD.g_no {d i : Nat} {nc : Bool} {k : Kd} {op : Op} {ty : TypeId} {pos : String} {aft : Array Edge} {j t : Nat} {b c : Bool} (hn : Nat.blt d x.n = true) (hj : gslot ops j = some t) (hv : look env t = some (.bool c)) (hc : c = !b)
    (next : WD x Hc K ops rest ((d, undef) :: env) H) : WD x Hc K ops (⟨k, i, ⟨some d, op, ty, pos, aft, some (j, b)⟩, nc⟩ :: rest) env H := ⟨fun a he => by
  have hw : Region.wanted ⟨some d, op, ty, pos, aft, some (j, b)⟩ (yielded ops a.tmps) = false := by
    simp only [Region.wanted, yielded_of he hj hv, hc]; cases b <;> rfl
  exact .inl ⟨undef, .inr ⟨hw, rfl⟩, next.run _ (he.put (Nat.le_of_ble_eq_true hn) undef)⟩⟩
theorem WD.g_undef {d i : Nat} {nc : Bool} {k : Kd} {op : Op} {ty : TypeId} {pos : String} {aft : Array Edge} {j t : Nat} {b : Bool} (hn : Nat.blt d x.n = true) (hj : gslot ops j = some t) (hv : look env t = some undef)
    (next : WD x Hc K ops rest ((d, undef) :: env) H) : WD x Hc K ops (⟨k, i, ⟨some d, op, ty, pos, aft, some (j, b)⟩, nc⟩ :: rest) env H := ⟨fun a he => by
  have hw : Region.wanted ⟨some d, op, ty, pos, aft, some (j, b)⟩ (yielded ops a.tmps) = false := by
    simp only [Region.wanted, yielded_of he hj hv]; rfl
  exact .inl ⟨undef, .inr ⟨hw, rfl⟩, next.run _ (he.put (Nat.le_of_ble_eq_true hn) undef)⟩⟩
theorem WD.g_split {dst : Option Nat} {i : Nat} {nc : Bool} {k : Kd} {op : Op} {ty : TypeId} {pos : String} {aft : Array Edge} {j t : Nat} {b c : Bool} (hj : gslot ops j = some t) (hv : look env t = some (.bool c))
    (h1 : c = true → WD x Hc K ops (⟨k, i, ⟨dst, op, ty, pos, aft, some (j, b)⟩, nc⟩ :: rest) ((t, .bool true) :: env) H) (h2 : c = false → WD x Hc K ops (⟨k, i, ⟨dst, op, ty, pos, aft, some (j, b)⟩, nc⟩ :: rest) ((t, .bool false) :: env) H) :
    WD x Hc K ops (⟨k, i, ⟨dst, op, ty, pos, aft, some (j, b)⟩, nc⟩ :: rest) env H := ⟨fun a he => by
  have _ := hj
  have key : ∀ q, c = q → Ev x ((t, .bool q) :: env) a := fun q hq => ⟨he.size, he.defers, fun u v hu => by
    rw [look_cons] at hu
    by_cases hk : t = u
    · subst hk; simp at hu; subst hu; rw [← hq]; exact he.env t _ hv
    · simp only [if_neg hk] at hu; exact he.env u v hu⟩
  cases hc : c with
  | true => exact (h1 hc).run a (key true hc)
  | false => exact (h2 hc).run a (key false hc)⟩
end
end Go.Sl
