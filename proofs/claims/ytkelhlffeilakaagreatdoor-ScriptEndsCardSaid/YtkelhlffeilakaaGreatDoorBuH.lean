/- Some texts as one. The evaluator: a region that draws its order and in which a new block is neither ahead of some acts nor behind them. No conditions: definitions and laws. The evaluator: the walk through a region in which a new block floats. No conditions: definitions and laws. The evaluator: rounds of a range over a function, and the statement itself: the logic's rules for any number of parameters. No conditions: laws only. The evaluator, in stages: what hangs on the program's text alone is a value of its own, which the kernel keeps. No conditions: definitions and laws. The evaluator: code and functions, by fuel. No conditions: definitions and laws. The evaluator: calls that were reckoned before, as a table. No conditions: definitions and laws. The evaluator: a run from the beginning, where only the globals are there. No conditions: laws. The evaluator: calls one behind the other, each over a frame of its own. No conditions: definitions and laws. -/
import Derived.Test.YtkelhlffeilakaaGreatDoorBuG
namespace Go.Ev
open Go Go.Sl
noncomputable section
section
variable {x : Cx} {ρ : Ro} {s : AS} {env : Env} {H : HL} {dst : Option Tmp} {ty : TypeId} {pos : String} {aft : Array Edge} {gd : Option (Nat × Bool)} {K : Post}
/-- how a new block is told of -/
inductive NV where
  | ptr
  | sl (n : Nat)
def NV.at : NV → Nat → Value
  | .ptr, ν => .pointer (some ⟨ν, 0, none⟩)
  | .sl n, ν => .slice (some ⟨ν, 0, none⟩) n 0
structure NB where
  l : List Value
  E : TypeId
  v : NV
def freshE (P : Program) (nb : NB) : Option NB := match P.info? nb.E with
  | some _ => some nb
  | none => none
/-- a new block, and what it holds -/
def freshA (P : Program) (s : AS) (op : Op) : Option NB := match op with
  | .alloc T => match zeroT P T with
    | some z => freshE P ⟨z, T, .ptr⟩
    | none => none
  | .makeSlice T p q => match sliceT P T, intA (evA s p), intA (evA s q) with
    | some (e, sz, by_), some n, some m => match zeroT P e with
      | some z => match Nat.ble n m && (Nat.beq z.length sz && (Nat.blt 0 sz && (Nat.ble (by_ * m) 281474976710656 && Nat.ble m 281474976710656))) with
        | true => freshE P ⟨mkCells z n, e, .sl n⟩
        | false => none
      | none => none
    | _, _, _ => none
  | .buildSlice T (m + 1) ⟨parts⟩ => match sliceT P T, evPs s parts, zeroT P ((sliceT P T).elim 0 (·.1)) with
    | some (e, sz, _), some vs, some z => match Nat.beq z.length sz && (Nat.blt 0 sz && Nat.ble ((m + 1) * sz) 16777216) with
      | true => match fillK ((List.range (m + 1)).map (fun i => (i * sz, sz))) vs (mkCells z (m + 1)) with
        | some r => match Nat.beq r.length ((m + 1) * sz) with
          | true => freshE P ⟨r, e, .sl (m + 1)⟩
          | false => none
        | none => none
      | false => none
    | _, _, _ => none
  | _ => none
theorem freshE_ok {P : Program} {nb nb' : NB} (h : freshE P nb = some nb') : nb = nb' ∧ ∃ i, P.info? nb.E = some i := by
  unfold freshE at h
  split at h
  · rename_i i hi
    cases h
    exact ⟨rfl, i, hi⟩
  · cases h
/-- a new block, as it lies in memory -/
structure NewQ (x : Cx) (ρ : Ro) (nb : NB) (pl : Pl) (obj : Obj) (u : Value) : Prop where
  ov : ∀ ρ', Le ρ ρ' → OV x.P ρ' pl (.cells true nb.l nb.E) obj
  vr : ∀ ρ' ν, Le ρ ρ' → ρ' ν = some pl → VR ρ' (nb.v.at ν) u
theorem NewQ.mono {ρ' : Ro} {nb : NB} {pl : Pl} {obj : Obj} {u : Value} (h : NewQ x ρ nb pl obj u) (hl : Le ρ ρ') : NewQ x ρ' nb pl obj u :=
  ⟨fun ρ2 h2 => h.ov ρ2 (hl.trans h2), fun ρ2 ν h2 => h.vr ρ2 ν (hl.trans h2)⟩
theorem freshA_ok (h : Re x ρ s env H) {op : Op} {nb : NB} (e : freshA x.P s op = some nb) : ∃ R, Ef x env H ⟨dst, op, ty, pos, aft, gd⟩ R ∧ ∀ u H', R u H' → ∃ pl obj, H' = (pl.g, obj) :: H ∧ NewQ x ρ nb pl obj u := by
  unfold freshA at e
  have hmax : maxLen = 9223372036854775807 := by unfold maxLen; rfl
  split at e
  · split at e
    · rename_i T z hz
      obtain ⟨rfl, i, hi⟩ := freshE_ok e
      obtain ⟨zt, hzz⟩ := zeroT_ok (ρ := ρ) hz
      refine ⟨_, Ef.al, fun u H' ⟨b, hu, hH⟩ => ⟨⟨b, 0, 0, i.size⟩, _, hH, ⟨fun ρ' hl => ⟨[], z, [], by simp, rfl, hzz.mono hl, by simp, ?_, by simp⟩, fun ρ' ν hl hν => ?_⟩⟩⟩
      · show Option.map _ (x.P.info? _) = _
        rw [hi]; rfl
      · rw [hu]; exact .ptr hν
    · cases e
  · split at e
    · rename_i T p q e1 sz by_ n m hs hn hm
      split at e
      · rename_i z hz
        split at e
        · rename_i hb
          simp only [Bool.and_eq_true, Nat.ble_eq] at hb
          obtain ⟨b1, b2, b3, b4, b5⟩ := hb
          have b2 := beq_true b2
          obtain ⟨rfl, i, hi⟩ := freshE_ok e
          have st := sliceT_ok hs
          obtain ⟨zt, hzz⟩ := zeroT_ok (ρ := ρ) hz
          obtain ⟨k, hk⟩ := intA_ok h hn
          obtain ⟨k', hk'⟩ := intA_ok h hm
          have hlen : (mkCells z n).length = n * sz := by rw [length_mkCells, b2]
          have hlen2 : (mkCells z (m - n)).length = (m - n) * sz := by rw [length_mkCells, b2]
          have hcap : n * sz + (m - n) * sz = m * sz := by rw [← Nat.add_mul]; congr 1; omega
          have hszE : (x.P.info? e1).map (·.size) = some sz := by
            have := st.i
            rw [show x.P.info? e1 = some i from hi] at this ⊢
            exact congrArg some (congrArg Prod.fst (Option.some.inj this))
          have hzb : ∀ (z' : List Value), VRs ρ z z' → VRs ρ (mkCells z n) (mkCells z' n) := fun z' h => mkCells_vrs h n
          refine ⟨_, Ef.mkSC b2 b3 hk hk' b1 b4 (by omega), fun u H' ⟨b, hu, hH⟩ => ⟨⟨b, 0, m * sz, sz⟩, _, hH, ⟨fun ρ' hl => ⟨[], mkCells z n, mkCells z (m - n), ?_, rfl, (mkCells_vrs hzz n).mono hl, ?_, hszE, ?_⟩, fun ρ' ν hl hν => ?_⟩⟩⟩
          · rw [List.nil_append, ← mkCells_add, show n + (m - n) = m by omega]
          · rw [hlen, hlen2, List.length_nil]; show m * sz ≤ _; omega
          · show m * sz ≤ 0 + maxLen * sz
            rw [Nat.zero_add]
            exact Nat.mul_le_mul_right sz (by omega)
          · rw [hu]; exact .sl hν (by simp) b1
        · cases e
      · cases e
    · cases e
  · split at e
    · rename_i T m parts _ _ _ e1 sz by_ vs z hs hvs hz
      rw [hs] at hz
      have hz : zeroT x.P e1 = some z := hz
      split at e
      · rename_i hb
        simp only [Bool.and_eq_true, Nat.ble_eq] at hb
        obtain ⟨b2, b3, b4⟩ := hb
        have b2 := beq_true b2
        have st := sliceT_ok hs
        obtain ⟨zt, hzz⟩ := zeroT_ok (ρ := ρ) hz
        split at e
        · rename_i r hr
          split at e
          · rename_i hrl
            have hrl := beq_true hrl
            obtain ⟨rfl, i, hi⟩ := freshE_ok e
            obtain ⟨us, hus, hvu⟩ := evPs_ok h hvs
            obtain ⟨r', hr', hrr⟩ := fill_ok hvu (mkCells_vrs hzz (m + 1)) hr
            have b3' : 0 < sz := Nat.le_of_ble_eq_true b3
            have hmle : m + 1 ≤ (m + 1) * sz := Nat.le_mul_of_pos_right _ b3'
            have hszE : (x.P.info? e1).map (·.size) = some sz := by
              have := st.i
              rw [show x.P.info? e1 = some i from hi] at this ⊢
              exact congrArg some (congrArg Prod.fst (Option.some.inj this))
            refine ⟨_, Ef.bsN b2 b3 rfl (Nat.ble_eq_true_of_le b4) hus hr', fun u H' ⟨b, hu, hH⟩ => ⟨⟨b, 0, (m + 1) * sz, sz⟩, _, hH, ⟨fun ρ' hl => ⟨[], r', [], by simp, rfl, hrr.mono hl, ?_, hszE, ?_⟩, fun ρ' ν hl hν => ?_⟩⟩⟩
            · have := hrr.len
              show (m + 1) * sz ≤ _
              simp only [List.length_nil]
              omega
            · show (m + 1) * sz ≤ 0 + maxLen * sz
              rw [Nat.zero_add]
              exact Nat.mul_le_mul_right sz (by omega)
            · rw [hu]; exact .sl hν (by simp) (Nat.le_refl _)
          · cases e
        · cases e
      · cases e
    · cases e
  · cases e
def eqNV : NV → NV → Bool
  | .ptr, .ptr => true
  | .sl n, .sl m => Nat.beq n m
  | _, _ => false
def eqNB (a b : NB) : Bool := eqL (eqV 9) a.l b.l && (Nat.beq a.E b.E && eqNV a.v b.v)
theorem eqNB_ok {a b : NB} (h : eqNB a b = true) : a = b := by
  obtain ⟨l, E, v⟩ := a
  obtain ⟨l', E', v'⟩ := b
  simp only [eqNB, Bool.and_eq_true] at h
  have h3 : v = v' := by
    have := h.2.2
    unfold eqNV at this
    split at this
    · rfl
    · rw [beq_true this]
    · cases this
  rw [eqL_ok (eqV_ok 9) h.1, beq_true h.2.1, h3]
/-- whether it would be the same block now -/
def frz (P : Program) (s : AS) (op : Op) (nb : NB) : Bool := match freshA P s op with
  | some nb' => eqNB nb' nb
  | none => false
theorem frz_ok {P : Program} {op : Op} {nb : NB} (h : frz P s op nb = true) : freshA P s op = some nb := by
  unfold frz at h
  split at h
  · rename_i nb' h1
    rw [h1, eqNB_ok h]
  · cases h
/-! ### blocks that may only be read -/
def roT (p : T AO) : T AO → Nat → Nat → Bool
  | .e, _, _ => true
  | .n l v r, a, b => match (match v with
    | none => true
    | some o => match o.rw with
      | true => true
      | false => match p.get b with
        | some o0 => !o0.rw
        | none => false) with
    | true => match roT p l (2 * a) (a + b) with
      | true => roT p r (2 * a) (2 * a + b)
      | false => false
    | false => false
theorem roT_ok {p : T AO} : ∀ {t : T AO} {a b : Nat}, roT p t a b = true → ∀ i o, t.get i = some o → o.rw = false → ∃ o0, p.get (a * i + b) = some o0 ∧ o0.rw = false
  | .e, _, _, _, i, o, hg, _ => by rw [T.get_e] at hg; cases hg
  | .n l v r, a, b, h, i, o, hg, ho => by
    unfold roT at h
    split at h
    · rename_i hv
      split at h
      · rename_i hl
        cases i with
        | zero =>
          rw [T.get_n0] at hg
          subst hg
          dsimp only at hv
          rw [ho] at hv
          dsimp only at hv
          rw [Nat.mul_zero, Nat.zero_add]
          split at hv
          · rename_i o0 h0
            exact ⟨o0, h0, by simpa using hv⟩
          · cases hv
        | succ j =>
          rw [T.get_nS] at hg
          by_cases hb : j % 2 = 0
          · rw [if_pos hb] at hg
            obtain ⟨o0, h1, h2⟩ := roT_ok hl (j / 2) o hg ho
            refine ⟨o0, ?_, h2⟩
            rw [← h1]
            congr 1
            have : j = 2 * (j / 2) := by omega
            generalize j / 2 = q at this
            subst this
            rw [Nat.mul_comm 2 a, Nat.mul_assoc, Nat.mul_add, Nat.mul_one]
            omega
          · rw [if_neg hb] at hg
            obtain ⟨o0, h1, h2⟩ := roT_ok h (j / 2) o hg ho
            refine ⟨o0, ?_, h2⟩
            rw [← h1]
            congr 1
            have : j = 2 * (j / 2) + 1 := by omega
            generalize j / 2 = q at this
            subst this
            rw [Nat.mul_comm 2 a, Nat.mul_assoc, show 2 * q + 1 + 1 = 2 * q + 2 by omega, Nat.mul_add]
            omega
      · cases h
    · cases h
def roC (s s' : AS) : Bool := roT s.heap s'.heap 1 0
theorem roC_ok {s' : AS} (h : roC s s' = true) : RoS s s' := fun β a hg ha => by
  obtain ⟨o0, h1, h2⟩ := roT_ok h β a hg ha
  rw [Nat.one_mul, Nat.add_zero] at h1
  exact ⟨o0, h1, h2⟩
end
end
end Go.Ev
namespace Go.Ev
open Go Go.Sl
noncomputable section
section
variable {x : Cx} {ρ : Ro} {s : AS} {env : Env} {H : HL} {K : Post}
theorem look_envO (env : Env) (d : Option Nat) (u : Value) (t : Nat) : Sl.look (envO env d u) t = if d = some t then some u else Sl.look env t := by
  cases d with
  | none => simp [envO]
  | some d =>
    show Sl.look ((d, u) :: env) t = _
    rw [look_cons]
    by_cases h : d = t
    · subst h; simp
    · rw [if_neg h, if_neg (by simpa using h)]
def lookN (env : Env) (d : Option Nat) : Prop := ∀ k, d = some k → Sl.look env k = none
def dstNe : Option Nat → Option Nat → Bool
  | some a, some b => !(Nat.beq a b)
  | _, _ => true
theorem dstNe_ne {a b : Nat} (h : dstNe (some a) (some b) = true) : a ≠ b := fun e => by
  subst e
  simp [dstNe] at h
theorem lookN.put {d df : Option Nat} {u : Value} (h : lookN env df) (hd : dstNe d df = true) : lookN (envO env d u) df := fun k hk => by
  subst hk
  rw [look_envO]
  rw [if_neg (fun e => by subst e; exact dstNe_ne hd rfl)]
  exact h k rfl
theorem Ev.drop {a : Act} {df : Option Nat} {u : Value} (h : Ev x (envO env df u) a) (hn : lookN env df) : Ev x env a := ⟨h.size, h.defers, fun t v hv => h.env t v (by
  rw [look_envO, if_neg (fun e => by rw [hn t e] at hv; cases hv)]
  exact hv)⟩
theorem Ev.swap {a : Act} {d df : Option Nat} {u u' : Value} (hd : dstNe d df = true) (h : Ev x (envO (envO env df u) d u') a) : Ev x (envO (envO env d u') df u) a := ⟨h.size, h.defers, fun t v hv => h.env t v (by
  rw [look_envO, look_envO] at hv ⊢
  by_cases h1 : d = some t
  · rw [if_pos h1]
    rw [if_neg (fun e => by subst h1; subst e; exact dstNe_ne hd rfl), if_pos h1] at hv
    exact hv
  · rw [if_neg h1]
    rw [if_neg h1] at hv
    exact hv)⟩
def delE (env : Env) : Option Nat → Env
  | none => env
  | some d => env.filter (fun p => !(Nat.beq p.1 d))
theorem look_del (d t : Nat) : ∀ (env : Env), Sl.look (delE env (some d)) t = if t = d then none else Sl.look env t
  | [] => by unfold delE; simp [Sl.look]
  | (k, v) :: env => by
    have ih := look_del d t env
    unfold delE at ih ⊢
    dsimp only at ih ⊢
    rw [look_cons]
    cases hb : Nat.beq k d with
    | true =>
      rw [List.filter_cons_of_neg (by simp only [hb]; simp), ih]
      have := beq_true hb
      subst this
      by_cases h : t = k
      · rw [if_pos h, if_pos h]
      · rw [if_neg h, if_neg h, if_neg (fun e => h e.symm)]
    | false =>
      rw [List.filter_cons_of_pos (by simp only [hb]; simp), look_cons, ih]
      have hne := beq_false hb
      by_cases h : k = t
      · subst h
        rw [if_pos rfl, if_neg hne, if_pos rfl]
      · rw [if_neg h, if_neg h]
theorem delE_N (env : Env) (d : Option Nat) : lookN (delE env d) d := fun k hk => by
  subst hk
  rw [look_del, if_pos rfl]
theorem Ev.del {a : Act} (h : Ev x env a) (d : Option Nat) : Ev x (delE env d) a := ⟨h.size, h.defers, fun t v hv => h.env t v (by
  cases d with
  | none => exact hv
  | some d =>
    rw [look_del] at hv
    split at hv
    · cases hv
    · exact hv)⟩
def delF (s : AS) : Option Nat → AS
  | none => s
  | some d => { s with env := s.env.del d }
theorem Re.del (h : Re x ρ s env H) {d : Option Nat} (hd : dstB x.n d = true) : Re x ρ (delF s d) (delE env d) H := by
  cases d with
  | none => exact h
  | some d =>
    simp only [dstB, Bool.and_eq_true] at hd
    have hd2 : d < 1000000 := Nat.le_of_ble_eq_true hd.2
    refine ⟨fun t v e => ?_, h.heap, h.inj, h.dom, h.nd, h.gl⟩
    have e' : (s.env.del d).get t = some v := e
    rw [T.get_del hd2] at e'
    split at e'
    · cases e'
    · rename_i ht
      rw [look_del, if_neg ht]
      exact h.env t v e'
theorem Kj.del {ms es : List Nat} {G : Gu} {j : Nat} {Kk : HL} (h : Kj ρ s H ms es G j Kk) (d : Option Nat) : Kj ρ (delF s d) H ms es G j Kk := by
  cases d with
  | none => exact h
  | some d => exact ⟨h.all, h.nd, h.sub, h.bw, h.fw⟩
def mergeN (s : AS) (nb : NB) (d : Option Nat) : AS := putO { s with heap := s.heap.put s.nx (.cells true nb.l nb.E), nx := s.nx + 1 } d (nb.v.at s.nx)
/-- the operations that the new block leaves alone, it itself at the end -/
def fL (cf : CF) (P : Program) (n : Nat) (ops : List Oper) (ms es : List Nat) (f : Tg) (nb : NB) (k : Gu → AS → Du) : List Tg → Gu → AS → Du
  | [], G, s => match frz P s f.o.op nb, G.any (fun q => Nat.beq q.2 s.nx), Nat.blt s.nx 1000000 with
    | true, false, true => k G (mergeN s nb f.o.dst)
    | _, _, _ => .no
  | t :: l, G, s => match frz P s f.o.op nb, dstNe t.o.dst f.o.dst with
    | true, true => stepD cf P n ops ms es roC t G s (fL cf P n ops ms es f nb k l)
    | _, _ => .no
theorem fL_frz {cf : CF} {P : Program} {n : Nat} {ops : List Oper} {ms es : List Nat} {f : Tg} {nb : NB} {k : Gu → AS → Du} {s' : AS} : ∀ {l : List Tg} {G : Gu}, fL cf P n ops ms es f nb k l G s = .ok s' → freshA P s f.o.op = some nb
  | [], G, e => by
    unfold fL at e
    split at e
    · rename_i h _ _; exact frz_ok h
    · cases e
  | t :: l, G, e => by
    unfold fL at e
    split at e
    · rename_i h _; exact frz_ok h
    · cases e
def selK (ms es : List Nat) (Kf : Nat → HL) (Ht : HL) (j : Nat) : HL := match hasU ms es j with
  | true => Kf j
  | false => Ht
theorem selK_t {ms es : List Nat} {Kf : Nat → HL} {Ht : HL} {j : Nat} (h : hasU ms es j = true) : selK ms es Kf Ht j = Kf j := by unfold selK; rw [h]
theorem selK_f {ms es : List Nat} {Kf : Nat → HL} {Ht : HL} {j : Nat} (h : hasU ms es j = false) : selK ms es Kf Ht j = Ht := by unfold selK; rw [h]
section
variable {cf : CF} {ops : List Oper} {ms es : List Nat} {f : Tg} {nb : NB} {k : Gu → AS → Du} {s' : AS} {l2 : List Tg} {Q : Act → World → Prop}
/-- the new block is there -/
theorem fD_ok (hcf : CFok x.P cf) (hfe : f.i ∈ es) (hd : dstB x.n f.o.dst = true) {pl : Pl} {obj : Obj} {u : Value} : ∀ (l : List Tg) (G : Gu) (s : AS) (ρ : Ro) (env : Env) (H : HL) (Kf : Nat → HL) (a : Act), fL cf x.P x.n ops ms es f nb k l G s = .ok s' → Re x ρ s env H → Okh x.F (H ++ [(pl.g, obj)]) → NewQ x ρ nb pl obj u → lookN env f.o.dst →
    (∀ t ∈ l, FlU ops.toArray ms f t) → (∀ j, hasU ms es j = true → Kj ρ s H ms es G j (Kf j)) → (∀ j, hasU ms es j = false → Kf j = H ++ [(pl.g, obj)]) →
    (∀ (G1 : Gu) (s1 : AS) (ρ1 : Ro) (env1 : Env) (H1 : HL) (Kf1 : Nat → HL), k G1 s1 = .ok s' → Le ρ ρ1 → Re x ρ1 s1 env1 H1 → (∀ j, Kj ρ1 s1 H1 ms es G1 j (Kf1 j)) → ∀ a, Ev x env1 a → wpU x.P ops.toArray ms l2 (finU Q) (fun j => CC x (Kf1 j)) (CC x H1) a) →
    Ev x (envO env f.o.dst u) a → wpU x.P ops.toArray ms (l ++ l2) (finU Q) (fun j => CC x (Kf j)) (CC x (H ++ [(pl.g, obj)])) a
  | [], G, s, ρ, env, H, Kf, a, e, h, hok, hq, hn, hfl, hkt, hkf, hK, he => by
    unfold fL at e
    split at e
    · rename_i hz hG hnx
      have hnx := Nat.le_of_ble_eq_true hnx
      obtain ⟨ρ', hle, hν, hre⟩ := h.newO (a := .cells true nb.l nb.E) (pl := pl) (obj := obj) (H' := H ++ [(pl.g, obj)]) rfl (fun ρ' hl _ => hq.ov ρ' hl) (by simp) (fun q hq' => hok.ne (q := (pl.g, obj)) hq' (by simp)) (fun q hq' => List.mem_append_left _ hq') hok hnx
      refine hK G _ ρ' (envO env f.o.dst u) (H ++ [(pl.g, obj)]) Kf e hle (hre.put hd (hq.vr ρ' s.nx hle hν)) (fun j => Kj.put ?_ _ _) a he
      cases hu : hasU ms es j
      · rw [hkf j hu]
        exact ⟨fun _ => rfl, hok.nd, fun _ h => h, fun e => (by rw [hu] at e; cases e), fun e => (by rw [hu] at e; cases e)⟩
      · have hj := hkt j hu
        refine ⟨fun e => (by rw [hu] at e; cases e), hj.nd, fun p hp => List.mem_append_left _ (hj.sub p hp), fun _ p hp => ?_, fun _ β a' pl' o h1 h2 h3 h4 => ?_⟩
        · obtain ⟨β, pl', h1, h2, h3⟩ := hj.bw hu p hp
          exact ⟨β, pl', h1, hle _ _ h2, h3⟩
        · have hne : β ≠ s.nx := fun e => by
            have : G.any (fun q => Nat.beq q.2 s.nx) = true := List.any_eq_true.2 ⟨(j, β), h1, by rw [e]; exact Nat.beq_refl _⟩
            rw [hG] at this
            cases this
          dsimp only at h2
          rw [T.get_put hnx, if_neg hne] at h2
          obtain ⟨pl0, g1, ob, g2, _⟩ := h.heap β a' h2
          have := hle _ _ g1
          rw [h3] at this
          cases this
          rcases List.mem_append.1 h4 with h4 | h4
          · exact hj.fw hu β a' pl' o h1 h2 g1 h4
          · exfalso
            simp only [List.mem_singleton] at h4
            have hg : pl'.g = pl.g := congrArg Prod.fst h4
            cases hr : a'.rw
            · rw [hr] at g2
              have g2 : x.F pl'.g = some ob := g2
              have := hok.dj (pl.g, obj) (by simp)
              rw [hg] at g2
              rw [g2] at this
              cases this
            · rw [hr] at g2
              exact hok.ne (p := (pl'.g, ob)) (q := (pl.g, obj)) g2 (by simp) hg
    · cases e
  | t :: l, G, s, ρ, env, H, Kf, a, e, h, hok, hq, hn, hfl, hkt, hkf, hK, he => by
    unfold fL at e
    split at e
    · rename_i hz hne
      have hev := Ev.drop he hn
      have hk0 : ∀ j, Kj ρ s H ms es G j (selK ms es Kf H j) := fun j => by
        cases hu : hasU ms es j
        · rw [selK_f hu]
          exact ⟨fun _ => rfl, h.nd.nd, fun _ h => h, fun e => (by rw [hu] at e; cases e), fun e => (by rw [hu] at e; cases e)⟩
        · rw [selK_t hu]
          exact hkt j hu
      have hti : hasU ms es t.i = true := hasU_of (hfl t List.mem_cons_self).u hfe
      obtain ⟨hdt, hor⟩ := stepD_ok hcf e h hk0
      rcases hor with ⟨v, u', hv, e1, hqv⟩ | ⟨hat, hes, hrun⟩
      · have hqa := hqv a hev
        rw [selK_t hti] at hqa
        exact .inl ⟨u', hqa, fD_ok hcf hfe hd l G _ ρ _ H Kf _ e1 (h.put hdt hv) hok hq (hn.put hne) (fun t ht => hfl t (List.mem_cons_of_mem _ ht)) (fun j hj => (hkt j hj).put t.o.dst v) hkf hK (Ev.swap hne (put_ev he hdt u'))⟩
      · refine .inr ⟨hat a hev, fun w hM => Yr.mono ?_ (hrun [(pl.g, obj)] hok a w hev hM)⟩
        rintro u' w' ⟨ρ', v, s3, G', H', h1, h2, h3, h4, hck, e1, h5⟩
        have hok' : Okh x.F (H' ++ [(pl.g, obj)]) := ⟨h4.1.nd, h4.1.dj⟩
        have h3 := h.subF hok' h1 (roC_ok hck) h3
        have hnk := nextK_ok h3.nd.nd h5
        have hsub : ∀ w, CC x (H' ++ [(pl.g, obj)]) w → ∀ j, CC x (selK ms es (nextK ms es t.i ρ' G' H' (selK ms es Kf H)) (H' ++ [(pl.g, obj)]) j) w := fun w hw j => by
          cases hu : hasU ms es j
          · rw [selK_f hu]; exact hw
          · rw [selK_t hu]; exact (hnk j).cc ⟨hw.1.left, hw.2⟩
        exact ⟨CC x (H' ++ [(pl.g, obj)]), fun j => CC x (selK ms es (nextK ms es t.i ρ' G' H' (selK ms es Kf H)) (H' ++ [(pl.g, obj)]) j), h4, (fun j hj => by
            dsimp only
            have hu := hasU_of hj hes
            rw [selK_t hu]
            unfold nextK
            rw [hj]
            dsimp only
            rw [selK_t hu]), hsub,
          fD_ok hcf hfe hd l G' _ ρ' _ H' _ _ e1 (h3.put hdt h2) hok' (hq.mono h1) (hn.put hne) (fun t ht => hfl t (List.mem_cons_of_mem _ ht)) (fun j hj => by rw [selK_t hj]; exact (hnk j).put t.o.dst v) (fun j hj => selK_f hj)
            (fun G1 s1 ρ1 env1 H1 Kf1 q1 q2 => hK G1 s1 ρ1 env1 H1 Kf1 q1 (h1.trans q2)) (Ev.swap hne (put_ev he hdt u'))⟩
    · cases e
/-- the new block comes now -/
theorem fN_ok (hcf : CFok x.P cf) (hfe : f.i ∈ es) (hd : dstB x.n f.o.dst = true) (hfk : f.k = .e) (hfg : f.o.guard = none) {l : List Tg} {G : Gu} {Kf : Nat → HL} {a : Act} (e : fL cf x.P x.n ops ms es f nb k l G s = .ok s') (h : Re x ρ s env H) (hn : lookN env f.o.dst)
    (hfl : ∀ t ∈ l, FlU ops.toArray ms f t) (hk : ∀ j, Kj ρ s H ms es G j (Kf j))
    (hK : ∀ (G1 : Gu) (s1 : AS) (ρ1 : Ro) (env1 : Env) (H1 : HL) (Kf1 : Nat → HL), k G1 s1 = .ok s' → Le ρ ρ1 → Re x ρ1 s1 env1 H1 → (∀ j, Kj ρ1 s1 H1 ms es G1 j (Kf1 j)) → ∀ a, Ev x env1 a → wpU x.P ops.toArray ms l2 (finU Q) (fun j => CC x (Kf1 j)) (CC x H1) a)
    (he : Ev x env a) : StepU x.P ops.toArray ms f (wpU x.P ops.toArray ms (l ++ l2) (finU Q)) (fun j => CC x (Kf j)) (CC x H) a := by
  have hfr := fL_frz e
  obtain ⟨fk, fi, ⟨dst, op, ty, pos, aft, gd⟩, nc⟩ := f
  obtain ⟨R, hef, hR⟩ := freshA_ok (dst := dst) (ty := ty) (pos := pos) (aft := aft) (gd := gd) h hfr
  refine .inr ⟨⟨?_, hfk⟩, fun w hM => Yr.mono ?_ ((ef_nd hef).run a w he hM.1)⟩
  · have hfg : gd = none := hfg
    simp [Region.wanted, hfg]
  · rintro u w' ⟨H', ⟨hRR, hok0⟩, hi, hsm⟩
    obtain ⟨pl, obj, rfl, hq⟩ := hR u H' hRR
    have hperm : ((pl.g, obj) :: H).Perm (H ++ [(pl.g, obj)]) := (List.perm_append_comm (l₁ := [(pl.g, obj)]) (l₂ := H))
    have hcc : CC x (H ++ [(pl.g, obj)]) w' := ⟨hi.perm hperm, hM.2.trans hsm⟩
    have hok : Okh x.F (H ++ [(pl.g, obj)]) := ⟨hcc.1.nd, hcc.1.dj⟩
    have hsub : ∀ w, CC x (H ++ [(pl.g, obj)]) w → ∀ j, CC x (selK ms es Kf (H ++ [(pl.g, obj)]) j) w := fun w hw j => by
      cases hu : hasU ms es j
      · rw [selK_f hu]; exact hw
      · rw [selK_t hu]; exact (hk j).cc ⟨hw.1.left, hw.2⟩
    exact ⟨CC x (H ++ [(pl.g, obj)]), fun j => CC x (selK ms es Kf (H ++ [(pl.g, obj)]) j), hcc, (fun j hj => by dsimp only; rw [selK_t (hasU_of hj hfe)]), hsub,
      fD_ok hcf hfe hd l G s ρ env H _ _ e h hok hq hn hfl (fun j hj => by rw [selK_t hj]; exact hk j) (fun j hj => selK_f hj) hK (put_ev he hd u)⟩
theorem fL_ok (hcf : CFok x.P cf) (hfe : f.i ∈ es) (hd : dstB x.n f.o.dst = true) (hfk : f.k = .e) (hfg : f.o.guard = none) : ∀ (l : List Tg) (G : Gu) (s : AS) (ρ : Ro) (env : Env) (H : HL) (Kf : Nat → HL) (a : Act), fL cf x.P x.n ops ms es f nb k l G s = .ok s' → Re x ρ s env H → lookN env f.o.dst →
    (∀ t ∈ l, FlU ops.toArray ms f t) → (∀ j, Kj ρ s H ms es G j (Kf j)) →
    (∀ (G1 : Gu) (s1 : AS) (ρ1 : Ro) (env1 : Env) (H1 : HL) (Kf1 : Nat → HL), k G1 s1 = .ok s' → Le ρ ρ1 → Re x ρ1 s1 env1 H1 → (∀ j, Kj ρ1 s1 H1 ms es G1 j (Kf1 j)) → ∀ a, Ev x env1 a → wpU x.P ops.toArray ms l2 (finU Q) (fun j => CC x (Kf1 j)) (CC x H1) a) →
    Ev x env a → wpL x.P ops.toArray ms Q f l2 l (fun j => CC x (Kf j)) (CC x H) a
  | [], G, s, ρ, env, H, Kf, a, e, h, hn, hfl, hk, hK, he => fN_ok hcf hfe hd hfk hfg e h hn hfl hk hK he
  | t :: l, G, s, ρ, env, H, Kf, a, e, h, hn, hfl, hk, hK, he => by
    refine ⟨fN_ok hcf hfe hd hfk hfg e h hn hfl hk hK he, ?_⟩
    unfold fL at e
    split at e
    · rename_i hz hne
      obtain ⟨hdt, hor⟩ := stepD_ok hcf e h hk
      rcases hor with ⟨v, u, hv, e1, hq⟩ | ⟨hat, _, hrun⟩
      · exact .inl ⟨u, hq a he, fL_ok hcf hfe hd hfk hfg l G _ ρ _ H Kf _ e1 (h.put hdt hv) (hn.put hne) (fun t ht => hfl t (List.mem_cons_of_mem _ ht)) (fun j => (hk j).put t.o.dst v) hK (put_ev he hdt u)⟩
      · refine .inr ⟨hat a he, fun w hM => Yr.mono ?_ (hrun [] (by rw [List.append_nil]; exact h.nd) a w he (by rw [List.append_nil]; exact hM))⟩
        rintro u w' ⟨ρ', v, s3, G', H', h1, h2, h3, h4, _, e1, h5⟩
        rw [List.append_nil] at h4
        have h3 := h3.nil
        have hkk := nextK_ok (H' := H') h3.nd.nd h5
        exact ⟨CC x H', fun j => CC x (nextK ms es t.i ρ' G' H' Kf j), h4, (fun j hj => by unfold nextK; dsimp only; rw [hj]), fun w hw j => (hkk j).cc hw,
          fL_ok hcf hfe hd hfk hfg l G' _ ρ' _ H' _ _ e1 (h3.put hdt h2) (hn.put hne) (fun t ht => hfl t (List.mem_cons_of_mem _ ht)) (fun j => (hkk j).put t.o.dst v) (fun G1 s1 ρ1 env1 H1 Kf1 q1 q2 => hK G1 s1 ρ1 env1 H1 Kf1 q1 (h1.trans q2)) (put_ev he hdt u)⟩
    · cases e
end
/-- behind the others: the new block is begun -/
def fK (cf : CF) (P : Program) (n : Nat) (ops : List Oper) (ms es : List Nat) (q : FS) (k : Gu → AS → Du) (G : Gu) (s : AS) : Du := match freshA P (delF s q.f.o.dst) q.f.o.op with
  | some nb => fL cf P n ops ms es q.f nb k q.L G (delF s q.f.o.dst)
  | none => .no
def regF (cf : CF) (P : Program) (n : Nat) (l : List Oper) (k : Nat) (s : AS) : Option AS := match splitFU (masks l []) (tagsU (fun _ => kindV P) l) k with
  | some q => match mixFU l q, q.f.o.guard, q.f.k, (esT (tagsU (fun _ => kindV P) l)).any (Nat.beq q.f.i) && dstB n q.f.o.dst with
    | true, none, .e, true => match retryU (masks l []) none (dU cf P n l (masks l []) (esT (tagsU (fun _ => kindV P) l)) q.U (fK cf P n l (masks l []) (esT (tagsU (fun _ => kindV P) l)) q (dU cf P n l (masks l []) (esT (tagsU (fun _ => kindV P) l)) q.l2 okU)) · s) 12 [] with
      | .ok s' => some s'
      | _ => none
    | _, _, _, _ => none
  | none => none
theorem regF_ok {cf : CF} (hcf : CFok x.P cf) {id k : Nat} {l : List Oper} {s' : AS} (hm : x.P.follows .mixedOrders = true) (e : regF cf x.P x.n l k s = some s') (h : Re x ρ s env H) (hK : ∀ ρ' env' H', Le ρ ρ' → Re x ρ' s' env' H' → Fin x K .normal env' H') : W x K (.region id l.toArray true) env H := by
  unfold regF at e
  split at e
  · rename_i q hsp
    split at e
    · rename_i hB hfg hfk hfe
      rw [Bool.and_eq_true] at hfe
      split at e
      · rename_i s1 hph
        cases e
        obtain ⟨G', e1, _, _⟩ := retryU_ok hph
        have hkk := fun j => pickU_ok (ρ := ρ) (s := s) (ms := masks l []) (es := esT (tagsU (fun _ => kindV x.P) l)) (G := G') h.nd.nd j
        refine ⟨fun a w st => wp_region_FU hm (kindV x.P) hsp hB (C := fun j => CC x (pickU ρ (masks l []) (esT (tagsU (fun _ => kindV x.P) l)) G' H j)) (fun w hw j => (hkk j).cc hw) (M := CC x H)
          ⟨⟨st.hin.nd, st.hin.own, st.hin.fr, st.hin.dj⟩, ⟨st.same.os, st.same.tape, st.same.output, st.same.size, st.same.drawn.up⟩⟩ (fun hfl _ => ?_)⟩
        refine dU_ok hcf q.U G' s ρ env H _ e1 h hkk (fun G1 s1 ρ1 env1 H1 Kf1 e2 hl1 h1 hk1 a1 he1 => ?_) a st.ev
        unfold fK at e2
        split at e2
        · rename_i nb hnb
          refine fL_ok hcf (beq_mem hfe.1) hfe.2 hfk hfg q.L G1 _ ρ1 _ H1 Kf1 a1 e2 (h1.del hfe.2) (delE_N env1 _) hfl (fun j => (hk1 j).del _) (fun G2 s2 ρ2 env2 H2 Kf2 e3 hl2 h2 hk2 a2 he2 => ?_) (Ev.del he1 _)
          exact dU_ok hcf q.l2 G2 s2 ρ2 env2 H2 Kf2 e3 h2 hk2 (fin_kk (fun ρ' env' H' hl h' => hK ρ' env' H' ((hl1.trans hl2).trans hl) h')) a2 he2
        · cases e2
      · cases e
    · cases e
  · cases e
/-- a place of which a new block may float -/
def findF (cf : CF) (P : Program) (n : Nat) (l : List Oper) (s : AS) : List Nat → Option AS
  | [] => none
  | k :: ks => match regF cf P n l k s with
    | some s' => some s'
    | none => findF cf P n l s ks
def floats (l : List Oper) : Nat → List Nat
  | 0 => []
  | n + 1 => match l[n]? with
    | some o => match o.op with
      | .alloc _ => n :: floats l n
      | .makeSlice _ _ _ => n :: floats l n
      | .buildSlice _ _ _ => n :: floats l n
      | _ => floats l n
    | none => floats l n
def regX (cf : CF) (P : Program) (n : Nat) (l : List Oper) (s : AS) : Option AS := match P.follows .mixedOrders with
  | true => match mixU (fun _ => kindV P) l with
    | true => regU cf P n l s
    | false => findF cf P n l s (floats l l.length)
  | false => none
theorem findF_ok {cf : CF} {P : Program} {n : Nat} {l : List Oper} {s' : AS} : ∀ {ks : List Nat}, findF cf P n l s ks = some s' → ∃ k, regF cf P n l k s = some s'
  | [], e => by cases e
  | k :: ks, e => by
    unfold findF at e
    split at e
    · rename_i s1 h1
      cases e
      exact ⟨k, h1⟩
    · exact findF_ok e
theorem regX_ok {cf : CF} (hcf : CFok x.P cf) {id : Nat} {l : List Oper} {s' : AS} (e : regX cf x.P x.n l s = some s') (h : Re x ρ s env H) (hK : ∀ ρ' env' H', Le ρ ρ' → Re x ρ' s' env' H' → Fin x K .normal env' H') : W x K (.region id l.toArray true) env H := by
  unfold regX at e
  split at e
  · rename_i hm
    split at e
    · rename_i hB
      exact regU_ok hcf hm hB e h hK
    · obtain ⟨k, e⟩ := findF_ok e
      exact regF_ok hcf hm e h hK
  · cases e
end
end
end Go.Ev
namespace Go.Ev
open Go Go.Sl
noncomputable section
/-- parameters and their values, the later ones ahead -/
def putsE (env : Env) : List Tmp → List Value → Env
  | t :: ps, u :: us => putsE ((t, u) :: env) ps us
  | _, _ => env
def putsA (env : T Value) : List Tmp → List Value → T Value
  | t :: ps, v :: vs => putsA (env.put t v) ps vs
  | _, _ => env
theorem putsE_tmps {n : Nat} : ∀ (ps : List Tmp) (us : List Value) (env : Env) (tm : Array Value), tm.size = n → (∀ t v, Sl.look env t = some v → tm[t]? = some v) → (∀ t ∈ ps, t < n) →
    ((ps.zip us).foldl (fun tmps (p : Tmp × Value) => tmps.setIfInBounds p.1 p.2) tm).size = n ∧ ∀ t v, Sl.look (putsE env ps us) t = some v → ((ps.zip us).foldl (fun tmps (p : Tmp × Value) => tmps.setIfInBounds p.1 p.2) tm)[t]? = some v
  | [], us, env, tm, hs, he, _ => ⟨by simpa using hs, by simpa [putsE] using he⟩
  | t :: ps, [], env, tm, hs, he, _ => ⟨by simpa using hs, by simpa [putsE] using he⟩
  | t :: ps, u :: us, env, tm, hs, he, hp => by
    rw [List.zip_cons_cons, List.foldl_cons, putsE]
    refine putsE_tmps ps us _ _ (by simpa using hs) (fun k v hk => ?_) (fun q hq => hp q (List.mem_cons_of_mem _ hq))
    dsimp only
    rw [look_cons] at hk
    by_cases h : t = k
    · subst h
      rw [if_pos rfl] at hk
      cases hk
      have : t < tm.size := by rw [hs]; exact hp t List.mem_cons_self
      simp [this]
    · rw [if_neg h] at hk
      rw [Array.getElem?_setIfInBounds_ne h]
      exact he k v hk
/-- one round, from the walk of its assignment and its body -/
theorem TrY.ofL {P : Program} {l : Nat} {us : List Value} {F : Nat → Option Obj} {H : HL} {R : Value → HL → Prop} {r : Loop} {n : Nat} {env : Env} {ps : List Tmp} {assign body : Code} (hsz : r.tmps.size = n) (henv : ∀ t v, Sl.look env t = some v → r.tmps[t]? = some v) (hps : r.params = ps.toArray) (has : r.assign = assign) (hbd : r.body = body) (hlen : ps.length = us.length) (hpn : ∀ t ∈ ps, t < n) (hl : ∀ w, In F H w → w.heap[l]? = some (.loop r))
    (h : ∀ w0, W ⟨P, n, w0, F, some l, []⟩ (AsgK ⟨P, n, w0, F, some l, []⟩ l body R) assign (putsE env ps us) H) : TrY P l us F H R := fun w hw => by
  have e2 := run_yield (P := P) (args := us.toArray) (hl w hw) (by rw [hps]; simpa using hlen.symm)
  obtain ⟨k1, k2⟩ := putsE_tmps ps us env r.tmps hsz henv hpn
  have ez : ((r.params.zip us.toArray).foldl (fun tmps (t, a) => tmps.setIfInBounds t a) r.tmps) = (ps.zip us).foldl (fun tmps (p : Tmp × Value) => tmps.setIfInBounds p.1 p.2) r.tmps := by
    rw [hps]
    simp
  rw [ez] at e2
  refine ⟨r.fn, _, r.assign, r.body, e2, ?_⟩
  rw [has, hbd]
  refine roundIn_of_wpIn trivial ?_
  exact (h w).run _ w ⟨⟨k1, rfl, k2⟩, hw, Same.refl w⟩
theorem W.rangeL {x : Cx} {K : Post} {env : Env} {H : HL} {g : Operand} {ps : List Tmp} {assign body : Code} {gf : FuncId} {fv cv : List Value} (bd : bodyB x.P gf = true) (hrd : x.rd = none) (hg : ev env g = some (.func (.func gf) fv.toArray cv.toArray))
    (call : ∀ (l D : Nat) (r : Loop), r.state = .ready → r.pending = none → r.tmps.size = x.n → (∀ t v, Sl.look env t = some v → r.tmps[t]? = some v) → r.params = ps.toArray → r.assign = assign → r.body = body →
      Tr x.P gf (fv ++ [Value.func (.yield l) #[] #[]] ++ cv).toArray x.F ((l, .loop r) :: (D, .deferred (some [])) :: H) (fun _ H' => LeftK x K env l D H')) : W x K (.rangeFunc g ps.toArray assign body) env H := ⟨fun a w s => by
  refine wpIn_rangeFunc fun fn _ => ?_
  have hro : x.fc.round = none := hrd
  have hbb := bd
  unfold bodyB at hbb
  cases hf : x.P.funcs[gf]? with
  | none => simp [hf] at hbb
  | some fn' =>
  rw [hf] at hbb
  simp only [Bool.and_eq_true, Bool.not_eq_true'] at hbb
  obtain ⟨hname, hbody⟩ := hbb
  obtain ⟨c, hc⟩ : ∃ c, fn'.body = some c := by cases hb2 : fn'.body with | none => simp [hb2] at hbody | some c => exact ⟨c, rfl⟩
  have hne : ¬ fn'.name = "runtime.NumGoroutine" := by simpa using hname
  let r : Loop := { state := .ready, pending := none, fn := fn, tmps := a.tmps, params := ps.toArray, assign := assign, body := body, defers := w.heap.size }
  let w₁ : World := (w.alloc (.deferred (some []))).alloc (.loop r)
  have hin : In x.F ((w.heap.size + 1, .loop r) :: (w.heap.size, .deferred (some [])) :: H) w₁ := by
    have h1 := s.hin.alloc (.deferred (some []))
    have h2 := h1.alloc (.loop r)
    rw [World.size_alloc] at h2
    exact h2
  have hsm : Same w w₁ := (Same.alloc w (.deferred (some []))).trans (Same.alloc _ (.loop r))
  refine ⟨w.heap.size + 1, [markD w.heap.size], w₁, { target := .fn (.func gf) cv.toArray, args := fv.toArray ++ #[Value.func (.yield (w.heap.size + 1)) #[] #[]] }, w₁, gf, (fv ++ [Value.func (.yield (w.heap.size + 1)) #[] #[]] ++ cv).toArray, w₁, ?_, ?_, fun _ _ => trivial, ?_, (fun h => by cases h), ?_⟩
  · rw [hro]; exact run_enterLoop_outer fn a.tmps ps.toArray assign body
  · show (Deferred.ofValue (a.eval g) _).run x.P w₁ = _
    rw [s.ev.eval hg]
    simp [Deferred.ofValue, Act.eval]
  · simp [invoke, callFunc, hf, hne, hc]
  · refine (callsIn_wide (n := 0 - 1)).2 ((call (w.heap.size + 1) w.heap.size r rfl rfl s.ev.size s.ev.env rfl rfl rfl w₁ hin).mono ?_)
    rintro e w₃ ⟨v, H', rfl, ⟨r', Hn, hp, hb, hk⟩, hi, hs⟩
    have hi' := hi.perm hp
    have hl : w₃.heap[w.heap.size + 1]? = some (.loop r') := hi'.own (w.heap.size + 1, .loop r') (by simp)
    refine ⟨r'.pending, w₃.putObj (w.heap.size + 1) (.loop { r' with state := .exhausted }), run_endLoop hl hb, ?_⟩
    have hfoc : Foc (w.heap.size + 1) (.loop r') (((w.heap.size + 1), .loop r') :: (w.heap.size, .deferred (some [])) :: Hn) (fun o => ((w.heap.size + 1), o) :: (w.heap.size, .deferred (some [])) :: Hn) := Foc.here _
    have hu := hi'.upd hfoc (Upd.putObj (o' := .loop { r' with state := .exhausted }) hl)
    have hst : St (x.marked w.heap.size) env ((w.heap.size, .deferred (some [])) :: Hn) { a with defers := [markD w.heap.size] ++ a.defers } (w₃.putObj (w.heap.size + 1) (.loop { r' with state := .exhausted })) :=
      ⟨⟨s.ev.size, by show [markD w.heap.size] ++ a.defers = markD w.heap.size :: x.df; rw [s.ev.defers]; rfl, s.ev.env⟩, hu.sublist (List.sublist_cons_self _ _), (s.same.trans hsm).trans (hs.trans (Upd.putObj (o' := .loop { r' with state := .exhausted }) hl).same)⟩
    generalize (w₃.putObj (w.heap.size + 1) (.loop { r' with state := .exhausted })) = w₄ at hst ⊢
    cases hpd : r'.pending with
    | none => rw [hpd] at hk; exact hk.run _ _ hst
    | some c => rw [hpd] at hk; exact hk.run _ _ hst⟩
/-! ### ends of functions -/
theorem Fin.outM0 {x : Cx} {fn : Func} {R : Value → HL → Prop} {env : Env} {H : HL} {rs : List ResultVar} {vs : List Value} {e : Exit} (he : e = .normal ∨ e = .ret) (hr : fn.results = rs.toArray) (h : Res x env H rs vs) (hR : R (tup vs) H) (hd : x.df = []) :
    Fin x (bodyPostM Fence.wide 0 x.P fn (RR x.F x.w0 R)) e env H :=
  ⟨fun a w s => by
    have key : LeavesInM Fence.wide 0 x.P fn a.tmps (RR x.F x.w0 R) a.defers .returning w := by
      rw [s.ev.defers.trans hd]
      exact ⟨tup vs, results_run s hr h, tup vs, H, rfl, hR, s.hin, s.same⟩
    rcases he with rfl | rfl <;> exact key⟩
theorem Fin.outM1 {x : Cx} {fn : Func} {R : Value → HL → Prop} {env : Env} {D : Nat} {H Hr : HL} {rs : List ResultVar} {vs : List Value} {e : Exit} (he : e = .normal ∨ e = .ret) (hr : fn.results = rs.toArray) (hs : Ext1 (D, .deferred (some [])) H Hr) (h : Res x env Hr rs vs) (hR : R (tup vs) Hr) (hd : x.df = [markD D]) :
    Fin x (bodyPostM Fence.wide 0 x.P fn (RR x.F x.w0 R)) e env H :=
  ⟨fun a w s => by
    have key : LeavesInM Fence.wide 0 x.P fn a.tmps (RR x.F x.w0 R) a.defers .returning w := by
      rw [s.ev.defers.trans hd]
      have hi := s.hin.perm hs.perm
      have hD : w.heap[D]? = some (.deferred (some [])) := hi.own (D, .deferred (some [])) (by simp)
      have hu := hi.upd (Foc.here _) (Upd.putObj (o' := .deferred none) hD)
      have s' : St x env Hr a (w.putObj D (.deferred none)) := ⟨s.ev, hu.sublist (List.sublist_cons_self _ _), s.same.trans (Upd.putObj (o' := .deferred none) hD).same⟩
      exact ⟨by simp, .inl ⟨D, _, rfl, run_takeDeferred hD, tup vs, results_run s' hr h, tup vs, Hr, rfl, hR, s'.hin, s'.same⟩⟩
    rcases he with rfl | rfl <;> exact key⟩
end
end Go.Ev
namespace Go.Ev
open Go Go.Sl
noncomputable section
structure Bx (α : Type) where
  f : α
/-- operands -/
def tmB (p : Operand) : Bx (AS → Option Value) := match p with
  | .tmp t => ⟨fun s => s.env.get t⟩
  | .const v => match clearB v with
    | true => ⟨fun _ => some v⟩
    | false => ⟨fun _ => none⟩
  | p => ⟨fun s => evA s p⟩
theorem tmB_eq (p : Operand) (s : AS) : (tmB p).f s = evA s p := by
  cases p with
  | tmp t => rfl
  | const v =>
    unfold tmB evA
    dsimp only
    cases clearB v <;> rfl
  | func f => rfl
  | global g => rfl
/-- operations that look at no memory -/
def puB (P : Program) (op : Op) : Bx (AS → Option Value) := match op with
  | .move p => ⟨fun s => (tmB p).f s⟩
  | .assign p => ⟨fun s => (tmB p).f s⟩
  | .pick c a b => ⟨fun s => match (tmB c).f s with
    | some (.bool true) => (tmB a).f s
    | some (.bool false) => (tmB b).f s
    | _ => none⟩
  | .nilCheck p => ⟨fun s => match (tmB p).f s with
    | some (.pointer (some ⟨β, o, none⟩)) => some (.pointer (some ⟨β, o, none⟩))
    | _ => none⟩
  | .unOp op _ p => ⟨fun s => match (tmB p).f s with
    | some a => unA op a
    | none => none⟩
  | .extract p i => ⟨fun s => match (tmB p).f s with
    | some (.tuple ⟨l⟩) => l[i]?
    | _ => none⟩
  | .fieldAddr T p f => ⟨fun s => match (tmB p).f s, fldO P T f with
    | some (.pointer (some ⟨β, o, none⟩)), some fo => some (.pointer (some ⟨β, o + fo, none⟩))
    | _, _ => none⟩
  | .field T p f => ⟨fun s => match (tmB p).f s with
    | some v => fieldA P T f v
    | none => none⟩
  | .binOp op T p q _ => ⟨fun s => match (tmB p).f s, (tmB q).f s with
    | some a, some b => binA P op T a b
    | _, _ => none⟩
  | .convert S T p => ⟨fun s => match (tmB p).f s with
    | some v => convA P S T v
    | none => none⟩
  | .indexAddr T p q => ⟨fun s => match (tmB p).f s, (tmB q).f s with
    | some a, some b => idxA P T a b
    | _, _ => none⟩
  | op => ⟨fun s => puA P s op⟩
theorem puB_eq (P : Program) (op : Op) (s : AS) : (puB P op).f s = puA P s op := by
  cases op <;> first | rfl | (unfold puB puA; simp only [tmB_eq]; done) | (unfold puB puA; simp only [tmB_eq]; rfl)
/-- whether an operation is one of those -/
def quickB : Op → Bool
  | .move _ | .assign _ | .pick _ _ _ | .nilCheck _ | .unOp _ _ _ | .extract _ _ | .fieldAddr _ _ _ | .field _ _ _ | .indexAddr _ _ _ => true
  | _ => false
/-- operations -/
def opB (P : Program) (op : Op) : Bx (AS → Option (Value × AS)) := match quickB op with
  | true => ⟨fun s => match (puB P op).f s with
    | some v => some (v, s)
    | none => effA P s op⟩
  | false => match op with
    | .binOp b T p q T' => ⟨fun s => match (puB P (.binOp b T p q T')).f s with
      | some v => some (v, s)
      | none => effA P s (.binOp b T p q T')⟩
    | .convert S T p => ⟨fun s => match (puB P (.convert S T p)).f s with
      | some v => some (v, s)
      | none => effA P s (.convert S T p)⟩
    | .load T p => ⟨fun s => (ldA P s T p).map (fun r => (r.2, s))⟩
    | .store T p q => ⟨fun s => (stA P s T p q).map (fun s' => (undef, s'))⟩
    | .alloc T => ⟨fun s => allocA P s T⟩
    | op => ⟨fun s => effA P s op⟩
theorem opB_eq (P : Program) (op : Op) (s : AS) : (opB P op).f s = effA P s op := by
  have key : ∀ op, (∀ v, puA P s op = some v → effA P s op = some (v, s)) → (match (puB P op).f s with | some v => some (v, s) | none => effA P s op) = effA P s op := fun op h => by
    rw [puB_eq]
    cases hp : puA P s op with
    | none => rfl
    | some v => exact (h v hp).symm
  unfold opB
  cases op <;> first
    | rfl
    | exact key _ (fun v hv => by unfold effA; dsimp only; rw [hv])
/-- one operation, calls too -/
def stB (P : Program) (op : Op) : Bx (CF → AS → Option (Value × AS)) := match op with
  | .call c => ⟨fun cf s => stepA cf P s (.call c)⟩
  | op => ⟨fun _ s => (opB P op).f s⟩
def isCall : Op → Bool
  | .call _ => true
  | _ => false
theorem stB_eq (P : Program) (op : Op) (cf : CF) (s : AS) : (stB P op).f cf s = stepA cf P s op := by
  cases hc : isCall op with
  | true => cases op <;> first | rfl | cases hc
  | false =>
    have h1 : stB P op = ⟨fun _ s => (opB P op).f s⟩ := by cases op <;> first | rfl | cases hc
    have h2 : stepA cf P s op = effA P s op := by cases op <;> first | rfl | cases hc
    rw [h1, h2]
    exact opB_eq P op s
def isNext : Op → Bool
  | .next _ _ => true
  | _ => false
/-- lists of operations -/
def lsB (P : Program) (n : Nat) (ops : List Oper) : List Oper → Bx (CF → AS → Option (List AS))
  | [] => ⟨fun _ s => some [s]⟩
  | ⟨dst, op, ty, pos, aft, gd⟩ :: l => match gd, dstB n dst, isNext op with
    | none, true, false => ⟨fun cf s => match (stB P op).f cf s with
      | some (v, s') => (lsB P n ops l).f cf (putO s' dst v)
      | none => none⟩
    | _, _, _ => ⟨fun cf s => match gA ops s gd, dstB n dst with
      | some true, true => match op with
        | .next p false => match nxtA s p with
          | some rs => bindL (fun r => (lsB P n ops l).f cf (putO r.2 dst r.1)) rs
          | none => none
        | op => match stepA cf P s op with
          | some (v, s') => (lsB P n ops l).f cf (putO s' dst v)
          | none => none
      | some false, true => (lsB P n ops l).f cf (putO s dst undef)
      | _, _ => none⟩
theorem lsB_eq (P : Program) (n : Nat) (ops : List Oper) : ∀ (l : List Oper) (cf : CF) (s : AS), (lsB P n ops l).f cf s = listA cf P n ops l s
  | [], cf, s => rfl
  | ⟨dst, op, ty, pos, aft, gd⟩ :: l, cf, s => by
    have ih : ∀ cf s, (lsB P n ops l).f cf s = listA cf P n ops l s := lsB_eq P n ops l
    unfold lsB listA
    dsimp only
    split
    · rename_i hd hn
      dsimp only
      rw [hd, show gA ops s none = some true from rfl]
      dsimp only
      rw [stB_eq]
      have hnx : ∀ p b, op ≠ .next p b := fun p b e => by subst e; cases hn
      split
      · rename_i v s' he
        rw [ih]
        split
        · rename_i p
          exact absurd rfl (hnx p false)
        · rw [he]
      · rename_i he
        split
        · rename_i p
          exact absurd rfl (hnx p false)
        · rw [he]
    · simp only [ih]
      rfl
/-! ### regions that draw their order -/
def rdX (P : Program) (op : Op) : Bx (AS → Option (List Nat × Value)) := match op with
  | .load T p => ⟨fun s => match ldA P s T p with
    | some (β, v) => some ([β], v)
    | none => none⟩
  | op => ⟨fun s => rdU P s op⟩
theorem rdX_eq (P : Program) (op : Op) (s : AS) : (rdX P op).f s = rdU P s op := by
  cases op <;> rfl
abbrev SgF := CF → (AS → AS → Bool) → Gu → AS → (Gu → AS → Du) → Du
def sgB (P : Program) (n : Nat) (ops : List Oper) (ms es : List Nat) : Tg → Bx SgF
  | ⟨kd, i, ⟨dst, op, ty, pos, aft, gd⟩, nc⟩ => match gd, dstB n dst, kd with
    | none, true, .p => ⟨fun _ _ G s k => match (puB P op).f s with
      | some v => k G (putO s dst v)
      | none => .no⟩
    | none, true, .s => match hasU ms es i with
      | false => ⟨fun _ _ G s k => match (rdX P op).f s with
        | some (_, v) => k G (putO s dst v)
        | none => .no⟩
      | true => ⟨fun _ _ G s k => match (rdX P op).f s with
        | some (bs, v) => match lackU G i bs with
          | none => k G (putO s dst v)
          | some β => .need i β
        | none => .no⟩
    | none, true, .e => match es.any (Nat.beq i) with
      | true => ⟨fun cf ck G s k => match lockU ms i s G [] with
        | some L => match lockA L s with
          | some sk => match (stB P op).f cf sk with
            | some (v, s2) => match unlA L s2 with
              | some s3 => match ck s s3 with
                | true => retryU ms (some i) (fun G => k G (putO s3 dst v)) 12 G
                | false => .no
              | none => .no
            | none => .no
          | none => .no
        | none => .no⟩
      | false => ⟨fun _ _ _ _ _ => .no⟩
    | _, _, _ => ⟨fun cf ck G s k => stepD cf P n ops ms es ck ⟨kd, i, ⟨dst, op, ty, pos, aft, gd⟩, nc⟩ G s k⟩
theorem sgB_eq (P : Program) (n : Nat) (ops : List Oper) (ms es : List Nat) (t : Tg) (cf : CF) (ck : AS → AS → Bool) (G : Gu) (s : AS) (k : Gu → AS → Du) : (sgB P n ops ms es t).f cf ck G s k = stepD cf P n ops ms es ck t G s k := by
  obtain ⟨kd, i, ⟨dst, op, ty, pos, aft, gd⟩, nc⟩ := t
  have hg : gA ops s none = some true := rfl
  unfold sgB
  dsimp only
  split
  · rename_i hd
    unfold stepD
    dsimp only
    rw [hg, hd]
    dsimp only
    rw [puB_eq]
    all_goals rfl
  · rename_i hd
    unfold stepD
    dsimp only
    rw [hg, hd]
    dsimp only
    split
    · rename_i hu
      dsimp only
      rw [rdX_eq]
      simp only [hu]
      all_goals rfl
    · rename_i hu
      dsimp only
      rw [rdX_eq]
      simp only [hu]
      all_goals rfl
  · rename_i hd
    unfold stepD
    dsimp only
    rw [hg, hd]
    dsimp only
    split
    · rename_i hu
      rw [hu]
      dsimp only
      cases lockU ms i s G [] with
      | none => rfl
      | some L =>
        dsimp only
        cases lockA L s with
        | none => rfl
        | some sk =>
          dsimp only
          rw [stB_eq]
          all_goals rfl
    · rename_i hu
      rw [hu]
  · rfl
def dUB (P : Program) (n : Nat) (ops : List Oper) (ms es : List Nat) : List Tg → Bx (CF → (Gu → AS → Du) → Gu → AS → Du)
  | [] => ⟨fun _ k G s => k G s⟩
  | t :: l => ⟨fun cf k G s => (sgB P n ops ms es t).f cf (fun _ _ => true) G s ((dUB P n ops ms es l).f cf k)⟩
theorem dUB_eq (P : Program) (n : Nat) (ops : List Oper) (ms es : List Nat) : ∀ (l : List Tg) (cf : CF) (k : Gu → AS → Du), (dUB P n ops ms es l).f cf k = dU cf P n ops ms es l k
  | [], cf, k => rfl
  | t :: l, cf, k => by
    funext G s
    unfold dUB dU
    dsimp only
    rw [sgB_eq, dUB_eq P n ops ms es l cf k]
def regXB (P : Program) (n : Nat) (l : List Oper) : Bx (CF → AS → Option AS) := match P.follows .mixedOrders, mixU (fun _ => kindV P) l with
  | true, true => ⟨fun cf s => match retryU (masks l []) none ((dUB P n l (masks l []) (esT (tagsU (fun _ => kindV P) l)) (tagsU (fun _ => kindV P) l)).f cf okU · s) 12 [] with
    | .ok s' => some s'
    | _ => none⟩
  | _, _ => ⟨fun cf s => regX cf P n l s⟩
theorem regXB_eq (P : Program) (n : Nat) (l : List Oper) (cf : CF) (s : AS) : (regXB P n l).f cf s = regX cf P n l s := by
  unfold regXB
  split
  · rename_i h1 h2
    unfold regX regU
    rw [h1, h2]
    dsimp only
    rw [dUB_eq]
    all_goals rfl
  · rfl
end
end Go.Ev
namespace Go.Ev
open Go Go.Sl
noncomputable section
section
variable {x : Cx} {ρ : Ro} {s : AS} {env : Env} {H : HL} {K : Post}
theorem Fin.passT {n : Act → World → Prop} {e : Exit} (he : e ≠ .normal) (h : Fin x K e env H) : Fin x (Exit.then n K) e env H := ⟨fun a w s => by
  have := h.run a w s
  cases e <;> first | exact this | exact absurd rfl he⟩
/-- where the code stands: in a round; in a function that met no range over a function; in one that met one -/
inductive MdA where
  | rnd
  | out
  | one (δ : Nat)
def MdOk (x : Cx) (ρ : Ro) : MdA → Prop
  | .rnd => True
  | .out => x.rd = none ∧ x.df = []
  | .one δ => x.rd = none ∧ ∃ pl, ρ δ = some pl ∧ x.df = [markD pl.g]
theorem MdOk.mono {ρ' : Ro} {m : MdA} (h : MdOk x ρ m) (hl : Le ρ ρ') : MdOk x ρ' m := by
  cases m with
  | rnd => trivial
  | out => exact h
  | one δ =>
    obtain ⟨h1, pl, h2, h3⟩ := h
    exact ⟨h1, pl, hl _ _ h2, h3⟩
abbrev XR := Exit × MdA × AS
abbrev EX := Nat → Code → MdA → AS → Option (List XR)
def nextE (f : MdA → AS → Option (List XR)) (r : XR) : Option (List XR) := match r with
  | (.normal, m, s) => f m s
  | r => some [r]
def blkE (id : Nat) (r : XR) : XR := match r with
  | (.exit id', m, s) => match Nat.beq id' id with
    | true => (.normal, m, s)
    | false => (.exit id', m, s)
  | r => r
/-- behind an iterator's call -/
def aftL (δ β : Nat) (env : T Value) (s1 : AS) : Option (List XR) := match s1.heap.get β, s1.heap.get δ with
  | some (.lp true ⟨st, pd, _, _, _, _, _⟩), some (.dfr true) => match st with
    | .busy => none
    | _ => match pd with
      | none => some [(.normal, .one δ, { s1 with env := env, heap := s1.heap.del β })]
      | some (.exit id) => some [(.exit id, .one δ, { s1 with env := env, heap := s1.heap.del β })]
      | some .ret => some [(.ret, .one δ, { s1 with env := env, heap := s1.heap.del β })]
      | _ => none
  | _, _ => none
def rangeB (cf : CF) (P : Program) (n : Nat) (g : Operand) (ps : List Tmp) (a b : Code) (m : MdA) (s : AS) : Option (List XR) := match m, evA s g with
  | .out, some (.func (.func gf) ⟨fv⟩ ⟨cv⟩) => match bodyB P gf && Nat.blt (s.nx + 1) 1000000 with
    | true => match cf.f gf (fv ++ [Value.func (.yield (s.nx + 1)) ⟨[]⟩ ⟨[]⟩] ++ cv) { s with heap := (s.heap.put s.nx (.dfr true)).put (s.nx + 1) (.lp true ⟨.ready, none, n, s.env, ps, a, b⟩), nx := s.nx + 1 + 1 } with
      | some (_, s1) => aftL s.nx (s.nx + 1) s.env s1
      | none => none
    | false => none
  | _, _ => none
def codeB (cf : CF) (P : Program) (n : Nat) (ih : Code → MdA → AS → Option (List XR)) (c : Code) (m : MdA) (s : AS) : Option (List XR) := match c with
  | .skip => some [(.normal, m, s)]
  | .exit id => some [(.exit id, m, s)]
  | .ret => some [(.ret, m, s)]
  | .seq p q => match ih p m s with
    | some rs => bindL (nextE (ih q)) rs
    | none => none
  | .block id c => match ih c m s with
    | some rs => some (rs.map (blkE id))
    | none => none
  | .cond c p q => match evA s c with
    | some (.bool true) => ih p m s
    | some (.bool false) => ih q m s
    | _ => none
  | .loop c => match ih c m s with
    | some rs => bindL (nextE (ih (.loop c))) rs
    | none => none
  | .region _ ⟨l⟩ false => match listA cf P n l l s with
    | some ss => some (ss.map (fun s' => (.normal, m, s')))
    | none => none
  | .region _ ⟨l⟩ true => match regX cf P n l s with
    | some s' => some [(.normal, m, s')]
    | none => none
  | .rangeFunc g ⟨ps⟩ a b => rangeB cf P n g ps a b m s
  | _ => none
/-- the same, in stages -/
abbrev CdF := CF → (Code → MdA → AS → Option (List XR)) → MdA → AS → Option (List XR)
def cdB (P : Program) (n : Nat) (c : Code) : Bx CdF := match c with
  | .skip => ⟨fun _ _ m s => some [(.normal, m, s)]⟩
  | .seq p q => ⟨fun _ ih m s => match ih p m s with
    | some rs => bindL (nextE (ih q)) rs
    | none => none⟩
  | .block id c => ⟨fun _ ih m s => match ih c m s with
    | some rs => some (rs.map (blkE id))
    | none => none⟩
  | .cond c p q => ⟨fun _ ih m s => match (tmB c).f s with
    | some (.bool true) => ih p m s
    | some (.bool false) => ih q m s
    | _ => none⟩
  | .loop c => ⟨fun _ ih m s => match ih c m s with
    | some rs => bindL (nextE (ih (.loop c))) rs
    | none => none⟩
  | .region _ ⟨l⟩ false => ⟨fun cf _ m s => match (lsB P n l l).f cf s with
    | some ss => some (ss.map (fun s' => (.normal, m, s')))
    | none => none⟩
  | .region _ ⟨l⟩ true => ⟨fun cf _ m s => match (regXB P n l).f cf s with
    | some s' => some [(.normal, m, s')]
    | none => none⟩
  | c => ⟨fun cf ih m s => codeB cf P n ih c m s⟩
theorem cdB_eq (P : Program) (n : Nat) (c : Code) (cf : CF) (ih : Code → MdA → AS → Option (List XR)) (m : MdA) (s : AS) : (cdB P n c).f cf ih m s = codeB cf P n ih c m s := by
  unfold cdB
  split
  · rfl
  · rfl
  · rfl
  · rename_i c p q
    show (match (tmB c).f s with | some (.bool true) => ih p m s | some (.bool false) => ih q m s | _ => none) = _
    rw [tmB_eq]
    rfl
  · rfl
  · rename_i id l
    show (match (lsB P n l l).f cf s with | some ss => some (ss.map (fun s' => ((.normal, m, s') : XR))) | none => none) = _
    rw [lsB_eq]
    rfl
  · rename_i id l
    show (match (regXB P n l).f cf s with | some s' => some [((.normal, m, s') : XR)] | none => none) = _
    rw [regXB_eq]
    rfl
  · rfl
theorem cellAt_of {g off : Nat} {v : Value} : ∀ {H : HL} {L : List Value} {E : TypeId}, (g, Obj.cells L.toArray E (0, 0)) ∈ H → L[off]? = some v → CellAt g off v H
  | p :: H, L, E, hm, hv => by
    rcases List.mem_cons.1 hm with rfl | hm
    · exact .here hv
    · exact .there (cellAt_of hm hv)
theorem cutAt_of {g off n : Nat} {r : List Value} : ∀ {H : HL} {L : List Value} {E : TypeId}, (g, Obj.cells L.toArray E (0, 0)) ∈ H → cut L off n = some r → CutAt g off n r H
  | p :: H, L, E, hm, hv => by
    rcases List.mem_cons.1 hm with rfl | hm
    · exact .here hv
    · exact .there (cutAt_of hm hv)
/-- results, also those that lie in memory -/
def resA (P : Program) (s : AS) : List ResultVar → Option (List Value)
  | [] => some []
  | .tmp t :: l => match s.env.get t, resA P s l with
    | some v, some vs => some (v :: vs)
    | _, _ => none
  | .cell t T :: l => match s.env.get t, resA P s l with
    | some (.pointer (some ⟨β, o, none⟩)), some vs => match s.heap.get β with
      | some (.cells true c _) => match scalB P T with
        | true => match c[o]? with
          | some v => some (v :: vs)
          | none => none
        | false => match aggS P T with
          | some n => match cut c o n with
            | some r => some (.agg ⟨r⟩ :: vs)
            | none => none
          | none => none
      | _ => none
    | _, _ => none
theorem resA_ok (h : Re x ρ s env H) : ∀ {l : List ResultVar} {vs : List Value}, resA x.P s l = some vs → ∃ us, Res x env H l us ∧ VRs ρ vs us
  | [], vs, e => by cases e; exact ⟨[], .nil, .nil⟩
  | .tmp t :: l, vs, e => by
    unfold resA at e
    split at e
    · rename_i v ws h1 h2
      cases e
      obtain ⟨u, hu, hv⟩ := h.env _ _ h1
      obtain ⟨us, hus, hvs⟩ := resA_ok h h2
      exact ⟨u :: us, .tmp hu hus, .cons hv hvs⟩
    · cases e
  | .cell t T :: l, vs, e => by
    unfold resA at e
    split at e
    · rename_i β o ws h1 h2
      obtain ⟨u, hu, hv⟩ := h.env _ _ h1
      obtain ⟨pl, hρ, rfl⟩ := VR.ptrS_inv hv
      obtain ⟨us, hus, hvs⟩ := resA_ok h h2
      split at e
      · rename_i c E hg
        obtain ⟨pl', hρ', pre, l', post, hm, hsh, hll, _⟩ := h.cells hg
        rw [hρ] at hρ'
        cases hρ'
        have hat : ∀ j u, l'[j]? = some u → (pre ++ l' ++ post)[pl.sh + j]? = some u := fun j u hj => by
          rw [List.append_assoc, List.getElem?_append_right (by omega), ← hsh, Nat.add_sub_cancel_left, List.getElem?_append_left (List.getElem?_eq_some_iff.1 hj).1]
          exact hj
        split at e
        · rename_i hs
          split at e
          · rename_i v0 hv0
            cases e
            obtain ⟨w, hw, hvw⟩ := hll.at hv0
            exact ⟨w :: us, .cell hs hu (cellAt_of hm (hat _ _ hw)) hus, .cons hvw hvs⟩
          · cases e
        · split at e
          · rename_i n ha
            split at e
            · rename_i r hr
              cases e
              obtain ⟨r', hr', hrr⟩ := hll.cut hr
              obtain ⟨h3, h4⟩ := cut_eq hr'
              refine ⟨.agg ⟨r'⟩ :: us, .agg ha hu (cutAt_of hm ?_) hus, .cons (.agg hrr) hvs⟩
              unfold cut
              rw [dropK_eq, if_pos (by simp only [List.length_append]; omega), takeK_eq, if_pos (by simp only [List.length_drop, List.length_append]; omega), h3, ← hsh, List.append_assoc, List.drop_length_add_append, List.drop_append_of_le_length (by omega), List.take_append_of_le_length (by simp only [List.length_drop]; omega)]
            · cases e
          · cases e
      · cases e
    · cases e
theorem tup_vr {vs us : List Value} (h : VRs ρ vs us) : VR ρ (tup vs) (tup us) := by
  cases h with
  | nil => exact .tup .nil
  | cons a b => cases b with
    | nil => exact a
    | cons c d => exact .tup (.cons a (.cons c d))
def argsT : List Value → Nat → T Value
  | [], _ => .e
  | v :: r, i => (argsT r (i + 1)).put i v
theorem argsT_ok (h : Re x ρ { s with env := .e } [] H) : ∀ {vs us : List Value} (i : Nat), VRs ρ vs us → i + vs.length ≤ x.n → i + vs.length ≤ 1000000 → Re x ρ { s with env := argsT vs i } (argsEnv us i) H
  | [], _, i, hv, _, _ => by cases hv; exact h
  | v :: vs, _, i, hv, h1, h2 => by
    cases hv with
    | cons a b =>
      rw [List.length_cons] at h1 h2
      have := (argsT_ok h (i + 1) b (by omega) (by omega)).put (d := some i) (by simp only [dstB, Bool.and_eq_true]; exact ⟨Nat.ble_eq_true_of_le (by omega), Nat.ble_eq_true_of_le (by omega)⟩) a
      exact this
/-- slots as a list -/
theorem look_range {n : Nat} (tm : Array Value) (hs : tm.size = n) (t : Nat) : Sl.look ((List.range n).filterMap (fun t => (tm[t]?).map (fun v => (t, v)))) t = tm[t]? := by
  have key : ∀ (l : List Nat), (∀ t ∈ l, t < n) → Sl.look (l.filterMap (fun t => (tm[t]?).map (fun v => (t, v)))) t = if t ∈ l then tm[t]? else none := by
    intro l
    induction l with
    | nil => intro _; simp [Sl.look]
    | cons k l ih =>
      intro hl
      have hk : k < tm.size := by rw [hs]; exact hl k List.mem_cons_self
      rw [List.filterMap_cons_some (b := (k, tm[k])) (by rw [Array.getElem?_eq_getElem hk]; rfl), look_cons, ih (fun t ht => hl t (List.mem_cons_of_mem _ ht))]
      by_cases h : k = t
      · subst h
        rw [if_pos rfl, if_pos List.mem_cons_self, Array.getElem?_eq_getElem hk]
      · rw [if_neg h]
        by_cases h2 : t ∈ l
        · rw [if_pos h2, if_pos (List.mem_cons_of_mem _ h2)]
        · rw [if_neg h2, if_neg (fun e => by rcases List.mem_cons.1 e with e | e; exact h e.symm; exact h2 e)]
  rw [key _ (fun t ht => List.mem_range.1 ht)]
  split
  · rfl
  · rename_i h
    rw [List.mem_range] at h
    rw [Array.getElem?_eq_none (by omega)]
def endA (P : Program) (rv : List ResultVar) (m : MdA) (s : AS) : Option (Value × AS) := match m with
  | .out => match resA P s rv with
    | some rs => some (tup rs, s)
    | none => none
  | .one δ => match s.heap.get δ, Nat.blt δ 1000000 with
    | some (.dfr true), true => match resA P { s with heap := s.heap.del δ } rv with
      | some rs => some (tup rs, { s with heap := s.heap.del δ })
      | none => none
    | _, _ => none
  | .rnd => none
def outA (P : Program) (rv : List ResultVar) (r : XR) : Option (Value × AS) := match r with
  | (.normal, m, s') => endA P rv m s'
  | (.ret, m, s') => endA P rv m s'
  | _ => none
theorem outA_ok {P : Program} {rv : List ResultVar} {r : XR} {q : Value × AS} (h : outA P rv r = some q) : (r.1 = .normal ∨ r.1 = .ret) ∧ endA P rv r.2.1 r.2.2 = some q := by
  unfold outA at h
  split at h
  · exact ⟨.inl rfl, h⟩
  · exact ⟨.inr rfl, h⟩
  · cases h
def sameA (P : Program) (rv : List ResultVar) (a : Value × AS) : List XR → Bool
  | [] => true
  | r :: l => match outA P rv r with
    | some b => match eqR a b with
      | true => sameA P rv a l
      | false => false
    | none => false
def callF (P : Program) (ex : EX) (f : FuncId) (vs : List Value) (s : AS) : Option (Value × AS) := match P.funcs[f]? with
  | some fn => match fn.body with
    | some c => match Nat.ble vs.length fn.ntmps && Nat.ble fn.ntmps 1000000 with
      | true => match ex fn.ntmps c .out { s with env := argsT vs 0 } with
        | some (r :: rs) => match outA P fn.results.toList r with
          | some a => match sameA P fn.results.toList a rs with
            | true => some a
            | false => none
          | none => none
        | _ => none
      | false => none
    | none => none
  | none => none
/-- a round is over -/
def endY (β : Nat) (e : Exit) (s : AS) : Option (Value × AS) := match s.heap.get β with
  | some (.lp true L) => match e with
    | .normal => some (.bool true, { s with heap := s.heap.put β (.lp true { L with st := .ready, pd := none }) })
    | .exit id => some (.bool false, { s with heap := s.heap.put β (.lp true { L with st := .done, pd := some (.exit id) }) })
    | .ret => some (.bool false, { s with heap := s.heap.put β (.lp true { L with st := .done, pd := some .ret }) })
    | _ => none
  | _ => none
def yieldF (ex : EX) (β : Nat) (vs : List Value) (s : AS) : Option (Value × AS) := match s.heap.get β, Nat.blt β 1000000 with
  | some (.lp true L), true => match Nat.beq L.ps.length vs.length && L.ps.all (fun t => Nat.blt t L.n && Nat.blt t 1000000) with
    | true => match ex L.n L.a .rnd { s with env := putsA L.env L.ps vs } with
      | some [(.normal, _, s1)] => match s1.heap.get β with
        | some (.lp true L1) => match L1.st with
          | .ready => match ex L.n L.b .rnd { s1 with heap := s1.heap.put β (.lp true { L1 with st := .busy }) } with
            | some [(e, _, s2)] => endY β e s2
            | _ => none
          | _ => none
        | _ => none
      | _ => none
    | false => none
  | _, _ => none
def EXok (P : Program) (ex : EX) : Prop := ∀ (x : Cx) (K : Post) (c : Code) (m : MdA) (s : AS) (rs : List XR) (ρ : Ro) (env : Env) (H : HL), x.P = P → ex x.n c m s = some rs → MdOk x ρ m → Re x ρ s env H →
  (∀ r ∈ rs, ∀ (d : List Deferred) ρ' env' H', Le ρ ρ' → MdOk { x with df := d } ρ' r.2.1 → Re { x with df := d } ρ' r.2.2 env' H' → Fin { x with df := d } K r.1 env' H') → W x K c env H
theorem sameA_ok {P : Program} {rv : List ResultVar} {a : Value × AS} : ∀ {l : List XR}, sameA P rv a l = true → ∀ r ∈ l, ∃ s', outA P rv r = some (a.1, s') ∧ { s' with env := .e } = { a.2 with env := .e }
  | [], _, r, hr => by cases hr
  | q :: l, h, r, hr => by
    unfold sameA at h
    split at h
    · rename_i b hb
      split at h
      · rename_i heq
        rcases List.mem_cons.1 hr with rfl | hr
        · obtain ⟨v, s1⟩ := a
          obtain ⟨v', s2⟩ := b
          obtain ⟨e1, e2⟩ := eqR_ok heq
          exact ⟨s2, by rw [hb, e1], e2.symm⟩
        · exact sameA_ok h r hr
      · cases h
    · cases h
theorem callF_ok {P : Program} {ex : EX} (hex : EXok P ex) : FFok P (callF P ex) := by
  intro x ρ s H f vs us r s' hP e h hvs
  subst hP
  unfold callF at e
  split at e
  · rename_i fn hf
    split at e
    · rename_i c hb
      split at e
      · rename_i hl
        simp only [Bool.and_eq_true] at hl
        have hl1 := Nat.le_of_ble_eq_true hl.1
        have hl2 := Nat.le_of_ble_eq_true hl.2
        have hlen := hvs.len
        have key : ∀ (w0 : World), Re ⟨x.P, fn.ntmps, w0, x.F, none, []⟩ ρ { s with env := argsT vs 0 } (argsEnv us 0) H := fun w0 =>
          argsT_ok (x := ⟨x.P, fn.ntmps, w0, x.F, none, []⟩) (h.cx rfl rfl) 0 hvs (by show 0 + _ ≤ fn.ntmps; omega) (by omega)
        have fin : ∀ (w0 : World) (d : List Deferred) (q : XR) (ρ' : Ro) (s2 : AS) (env' : Env) (H' : HL), Le ρ ρ' → MdOk ⟨x.P, fn.ntmps, w0, x.F, none, d⟩ ρ' q.2.1 → Re ⟨x.P, fn.ntmps, w0, x.F, none, d⟩ ρ' q.2.2 env' H' → outA x.P fn.results.toList q = some (r, s2) → { s2 with env := .e } = { s' with env := .e } →
            Fin ⟨x.P, fn.ntmps, w0, x.F, none, d⟩ (bodyPostM Fence.wide 0 x.P fn (RR x.F w0 (fun v H' => ∃ ρ', Le ρ ρ' ∧ VR ρ' r v ∧ Re x ρ' { s' with env := .e } [] H'))) q.1 env' H' := fun w0 d q ρ' s2 env' H' h1 hm h2 h3 h4 => by
          obtain ⟨he, h3⟩ := outA_ok h3
          obtain ⟨ee, mm, s1⟩ := q
          unfold endA at h3
          dsimp only at h3 hm h2 he ⊢
          split at h3
          · split at h3
            · rename_i rs hr
              cases h3
              obtain ⟨us', h5, h6⟩ := resA_ok h2 hr
              exact Fin.outM0 (x := ⟨x.P, fn.ntmps, w0, x.F, none, d⟩) he (by simp) h5 ⟨ρ', h1, tup_vr h6, by rw [← h4]; exact h2.bare.cx rfl rfl⟩ hm.2
            · cases h3
          · rename_i δ
            obtain ⟨_, pl, hρ, hdf⟩ := hm
            split at h3
            · rename_i hg hδ
              have hδ := Nat.le_of_ble_eq_true hδ
              split at h3
              · rename_i rs hr
                cases h3
                obtain ⟨pl', hρ', ob, hin, hov⟩ := h2.heap _ _ hg
                rw [hρ] at hρ'
                cases hρ'
                have hov : ob = Obj.deferred (some []) := hov
                subst hov
                obtain ⟨Hr, hext⟩ := ext1_of (show (pl.g, Obj.deferred (some [])) ∈ H' from hin)
                have h2' := h2.less hρ hext hg hδ
                obtain ⟨us', h5, h6⟩ := resA_ok h2' hr
                exact Fin.outM1 (x := ⟨x.P, fn.ntmps, w0, x.F, none, d⟩) he (by simp) hext h5 ⟨ρ', h1, tup_vr h6, by rw [← h4]; exact h2'.bare.cx rfl rfl⟩ hdf
              · cases h3
            · cases h3
          · cases h3
        split at e
        · rename_i q qs hx
          split at e
          · rename_i a ho
            split at e
            · rename_i hsame
              cases e
              refine Tr.enterM hf hb rfl (by rw [← hlen]; exact hl.1) (fun w0 => hex ⟨x.P, fn.ntmps, w0, x.F, none, []⟩ _ c _ _ _ ρ _ H rfl hx ⟨rfl, rfl⟩ (key w0) (fun q1 hq1 d ρ' env' H' h1 hm h2 => ?_))
              rcases List.mem_cons.1 hq1 with rfl | hq1
              · exact fin w0 d _ ρ' s' env' H' h1 hm h2 ho rfl
              · obtain ⟨s2, h3, h4⟩ := sameA_ok hsame q1 hq1
                exact fin w0 d _ ρ' s2 env' H' h1 hm h2 h3 h4
            · cases e
          · cases e
        · cases e
      · cases e
    · cases e
  · cases e
theorem putsA_ok (h : Re x ρ s env H) : ∀ {ps : List Tmp} {vs us : List Value} {aenv : T Value} {cenv : Env}, Re x ρ { s with env := aenv } cenv H → VRs ρ vs us → (∀ t ∈ ps, t < x.n ∧ t < 1000000) → Re x ρ { s with env := putsA aenv ps vs } (putsE cenv ps us) H
  | [], vs, us, aenv, cenv, h0, hv, _ => by
    cases hv <;> exact h0
  | t :: ps, [], us, aenv, cenv, h0, hv, _ => by
    cases hv
    exact h0
  | t :: ps, v :: vs, us, aenv, cenv, h0, hv, hp => by
    cases hv with
    | cons a b =>
      have ht := hp t List.mem_cons_self
      have h1 := h0.put (d := some t) (by simp only [dstB, Bool.and_eq_true]; exact ⟨Nat.ble_eq_true_of_le ht.1, Nat.ble_eq_true_of_le ht.2⟩) a
      exact putsA_ok h (aenv := aenv.put t v) h1 b (fun q hq => hp q (List.mem_cons_of_mem _ hq))
/-- a loop's record turns -/
theorem Re.lpU (h : Re x ρ s env H) {β : Nat} {L : LpA} (hg : s.heap.get β = some (.lp true L)) (hβ : β < 1000000) : ∃ pl r k, ρ β = some pl ∧ LpR ρ L r ∧ Foc pl.g (.loop r) H k ∧ ∀ (L' : LpA) (r' : Loop), LpR ρ L' r' → Re x ρ { s with heap := s.heap.put β (.lp true L') } env (k (.loop r')) := by
  obtain ⟨pl, hρ, ob, hin, r, rfl, hr⟩ := h.heap _ _ hg
  obtain ⟨k, hk⟩ := foc_of (show (pl.g, Obj.loop r) ∈ H from hin)
  refine ⟨pl, r, k, hρ, hr, hk, fun L' r' hr' => ?_⟩
  obtain ⟨h2, h3, h4⟩ := foc_upd (o' := Obj.loop r') hk
  exact h.updO hg hρ rfl ⟨r', rfl, hr'⟩ h2 h3 h4 hβ
theorem yieldF_ok {P : Program} {ex : EX} (hex : EXok P ex) : YFok P (yieldF ex) := by
  intro x ρ s H β pl vs us r s' hP e hρβ h hvs
  subst hP
  unfold yieldF at e
  split at e
  · rename_i L hg hβ
    have hβ := Nat.le_of_ble_eq_true hβ
    split at e
    · rename_i hps
      simp only [Bool.and_eq_true, List.all_eq_true] at hps
      have hlen := beq_true hps.1
      have hpn : ∀ t ∈ L.ps, t < L.n ∧ t < 1000000 := fun t ht => ⟨Nat.le_of_ble_eq_true (hps.2 t ht).1, Nat.le_of_ble_eq_true (hps.2 t ht).2⟩
      have hg0 : ({ s with env := .e } : AS).heap.get β = some (.lp true L) := hg
      obtain ⟨pl0, hρ0, ob0, hin0, r0, rfl, hr0⟩ := h.heap _ _ hg0
      rw [hρβ] at hρ0
      cases hρ0
      have hin0 : (pl.g, Obj.loop r0) ∈ H := hin0
      -- the slots of the record, as a list
      let cenv : Env := (List.range L.n).filterMap (fun t => (r0.tmps[t]?).map (fun v => (t, v)))
      have hlook : ∀ t, Sl.look cenv t = r0.tmps[t]? := fun t => look_range r0.tmps hr0.size t
      split at e
      · rename_i m1 s1 h1x
        split at e
        · rename_i L1 hg1
          split at e
          · rename_i hst1
            split at e
            · rename_i ee m2 s2 h2x
              refine TrY.ofL (n := L.n) (env := cenv) (ps := L.ps) (assign := L.a) (body := L.b) hr0.size (fun t v hv => by rw [← hlook]; exact hv) hr0.ps hr0.a hr0.b (by rw [hlen]; exact hvs.len) (fun t ht => (hpn t ht).1) (fun w hw => hw.own _ hin0) (fun w0 => ?_)
              have hx0 : Re ⟨x.P, L.n, w0, x.F, some pl.g, []⟩ ρ { s with env := L.env } cenv H := by
                have hb : Re ⟨x.P, L.n, w0, x.F, some pl.g, []⟩ ρ { s with env := .e } [] H := h.cx rfl rfl
                exact ⟨fun t v hv => by
                  obtain ⟨u, hu, hvu⟩ := hr0.env t v hv
                  exact ⟨u, by rw [hlook]; exact hu, hvu⟩, hb.heap, hb.inj, hb.dom, hb.nd, hb.gl⟩
              have hx1 := putsA_ok (ps := L.ps) hx0 hx0 hvs hpn
              refine hex ⟨x.P, L.n, w0, x.F, some pl.g, []⟩ _ L.a .rnd _ _ ρ _ H rfl h1x trivial hx1 (fun q hq d ρ1 env1 H1 hl1 _ hr1 => ?_)
              rw [List.mem_singleton] at hq
              subst hq
              obtain ⟨pl1, r1, k1, e1, hr1', hf1, hup1⟩ := hr1.lpU hg1 hβ
              have := hl1 _ _ hρβ
              rw [e1] at this
              cases this
              refine Fin.begin (x := ⟨x.P, L.n, w0, x.F, some pl.g, d⟩) hf1 (by rw [hr1'.st]; exact hst1) ?_
              have hx2 := hup1 { L1 with st := .busy } { r1 with state := .busy } ⟨rfl, hr1'.pd, hr1'.size, hr1'.env, hr1'.ps, hr1'.a, hr1'.b⟩
              refine hex ⟨x.P, L.n, w0, x.F, some pl.g, d⟩ _ L.b .rnd _ _ ρ1 _ _ rfl h2x trivial hx2 (fun q hq d2 ρ2 env2 H2 hl2 hmd2 hr2 => ?_)
              rw [List.mem_singleton] at hq
              subst hq
              dsimp only at hr2 ⊢
              unfold endY at e
              split at e
              · rename_i L2 hg2
                obtain ⟨pl2, r2, k2, e2, hr2', hf2, hup2⟩ := hr2.lpU hg2 hβ
                have := hl2 _ _ e1
                rw [e2] at this
                cases this
                split at e
                · cases e
                  have hz := hup2 { L2 with st := .ready, pd := none } { r2 with state := .ready, pending := none } ⟨rfl, rfl, hr2'.size, hr2'.env, hr2'.ps, hr2'.a, hr2'.b⟩
                  exact Fin.more (x := ⟨x.P, L.n, w0, x.F, some pl.g, d2⟩) hf2 (fun _ h => h) ⟨ρ2, hl1.trans hl2, .bool _, hz.bare.cx rfl rfl⟩
                · rename_i id
                  cases e
                  have hz := hup2 { L2 with st := .done, pd := some (.exit id) } { r2 with state := .done, pending := some (.exit id) } ⟨rfl, rfl, hr2'.size, hr2'.env, hr2'.ps, hr2'.a, hr2'.b⟩
                  exact Fin.breaks (x := ⟨x.P, L.n, w0, x.F, some pl.g, d2⟩) hf2 (fun _ h => h) ⟨ρ2, hl1.trans hl2, .bool _, hz.bare.cx rfl rfl⟩
                · cases e
                  have hz := hup2 { L2 with st := .done, pd := some .ret } { r2 with state := .done, pending := some .ret } ⟨rfl, rfl, hr2'.size, hr2'.env, hr2'.ps, hr2'.a, hr2'.b⟩
                  exact Fin.leaves (x := ⟨x.P, L.n, w0, x.F, some pl.g, d2⟩) hf2 (fun _ h => h) ⟨ρ2, hl1.trans hl2, .bool _, hz.bare.cx rfl rfl⟩
                · cases e
              · cases e
            · cases e
          · cases e
        · cases e
      · cases e
    · cases e
  · cases e
/-- with functions whose contracts are given -/
def orF (hk cf : FuncId → List Value → AS → Option (Value × AS)) (f : FuncId) (vs : List Value) (s : AS) : Option (Value × AS) := match hk f vs s with
  | some r => some r
  | none => cf f vs s
theorem orF_ok {P : Program} {hk cf : FuncId → List Value → AS → Option (Value × AS)} (h1 : FFok P hk) (h2 : FFok P cf) : FFok P (orF hk cf) := by
  intro x ρ s H f vs us r s' hP e h hvs
  unfold orF at e
  split at e
  · rename_i q hq
    cases e
    exact h1 x ρ s H f vs us r s' hP hq h hvs
  · exact h2 x ρ s H f vs us r s' hP e h hvs
abbrev HK := FuncId → List Value → AS → Option (Value × AS)
def noF : HK := fun _ _ _ => none
theorem noF_ok {P : Program} : FFok P noF := fun _ _ _ _ _ _ _ _ _ _ e => by cases e
def mkCF (hk : HK) (P : Program) (ex : EX) : CF := ⟨orF hk (callF P ex), yieldF ex⟩
def exN (hk : HK) (P : Program) (k : Nat) : EX := Nat.rec (fun _ _ _ _ => none) (fun _ ih n c m s => (cdB P n c).f (mkCF hk P ih) (ih n) m s) k
theorem exN_succ (hk : HK) (P : Program) (k : Nat) : exN hk P (k + 1) = fun n c m s => codeB (mkCF hk P (exN hk P k)) P n (exN hk P k n) c m s := by
  funext n c m s
  exact cdB_eq P n c _ _ m s
theorem exN_zero (hk : HK) (P : Program) : exN hk P 0 = fun _ _ _ _ => none := rfl
theorem nextE_ok {f : MdA → AS → Option (List XR)} {r : XR} {q : List XR} (h : nextE f r = some q) : (∃ m s, r = (.normal, m, s) ∧ f m s = some q) ∨ (r.1 ≠ .normal ∧ q = [r]) := by
  obtain ⟨e, m, s⟩ := r
  cases e <;> first | exact .inl ⟨m, s, rfl, h⟩ | (cases h; exact .inr ⟨by simp, rfl⟩)
theorem rangeB_ok {cf : CF} (hcf : CFok x.P cf) {g : Operand} {ps : List Tmp} {a b : Code} {m : MdA} {rs : List XR} (e : rangeB cf x.P x.n g ps a b m s = some rs) (hm : MdOk x ρ m) (h : Re x ρ s env H)
    (hK : ∀ r ∈ rs, ∀ (d : List Deferred) ρ' env' H', Le ρ ρ' → MdOk { x with df := d } ρ' r.2.1 → Re { x with df := d } ρ' r.2.2 env' H' → Fin { x with df := d } K r.1 env' H') : W x K (.rangeFunc g ps.toArray a b) env H := by
  unfold rangeB at e
  split at e
  · rename_i gf fv cv hg
    split at e
    · rename_i hb
      simp only [Bool.and_eq_true] at hb
      have hnx := Nat.le_of_ble_eq_true hb.2
      split at e
      · rename_i v1 s1 hc
        obtain ⟨u, hu, hv⟩ := evA_ok h hg
        cases hv with
        | func ha hcv =>
          rename_i fv' cv'
          refine W.rangeL hb.1 hm.1 hu (fun l D r h1 h2 h3 h4 h5 h6 h7 w hw => ?_)
          have hndw := hw.nd
          have hdjw := hw.dj
          rw [List.map_cons, List.map_cons, List.nodup_cons, List.nodup_cons] at hndw
          -- the two blocks
          obtain ⟨ρ1, hl1, e1, hr1⟩ := h.newO (pl := ⟨D, 0, 0, 0⟩) (a := .dfr true) (obj := .deferred (some [])) (H' := (D, .deferred (some [])) :: H) rfl (fun _ _ _ => rfl) List.mem_cons_self (fun q hq e => hndw.2.1 (List.mem_map.2 ⟨q, hq, e⟩)) (fun q hq => List.mem_cons_of_mem _ hq)
            ⟨by rw [List.map_cons, List.nodup_cons]; exact hndw.2, fun p hp => hdjw p (List.mem_cons_of_mem _ hp)⟩ (by omega)
          obtain ⟨ρ2, hl2, e2, hr2⟩ := hr1.newO (pl := ⟨l, 0, 0, 0⟩) (a := .lp true ⟨.ready, none, x.n, s.env, ps, a, b⟩) (obj := .loop r) (H' := (l, .loop r) :: (D, .deferred (some [])) :: H) rfl
            (fun ρ' hl _ => ⟨r, rfl, h1, h2, h3, fun t v hv => by
              obtain ⟨u, hu, hvu⟩ := h.env t v hv
              exact ⟨u, h4 t u hu, hvu.mono (hl1.trans hl)⟩, h5, h6, h7⟩) List.mem_cons_self (fun q hq e => hndw.1 (by rw [← List.map_cons]; exact List.mem_map.2 ⟨q, hq, e⟩)) (fun q hq => List.mem_cons_of_mem _ hq) ⟨hw.nd, hw.dj⟩ hnx
          have hl12 := hl1.trans hl2
          have hvs : VRs ρ2 (fv ++ [Value.func (.yield (s.nx + 1)) ⟨[]⟩ ⟨[]⟩] ++ cv) (fv' ++ [Value.func (.yield l) #[] #[]] ++ cv') := ((VRs.mono hl12 ha).app (.cons (.yl (pl := ⟨l, 0, 0, 0⟩) e2) .nil)).app (VRs.mono hl12 hcv)
          refine ((hcf.f x ρ2 _ _ gf _ _ _ _ rfl hc hr2.bare hvs) w hw).mono ?_
          rintro ex w' ⟨v, H', rfl, ⟨ρ3, hl3, _, hr3⟩, hi, hs⟩
          refine ⟨v, H', rfl, ?_, hi, hs⟩
          have hl13 := hl12.trans hl3
          unfold aftL at e
          split at e
          · rename_i st pd n1 env1 ps1 a1 b1 gl gd
            obtain ⟨pl, p1, ob1, p2, r', rfl, p4⟩ := hr3.heap _ _ gl
            have := hl3 _ _ e2
            rw [p1] at this
            cases this
            obtain ⟨Hr, hx1⟩ := ext1_of (show (l, Obj.loop r') ∈ H' from p2)
            have hr4 := hr3.less p1 hx1 gl hnx
            have hne : s.nx ≠ s.nx + 1 := by omega
            have gd' : (s1.heap.del (s.nx + 1)).get s.nx = some (.dfr true) := by rw [T.get_del hnx, if_neg hne]; exact gd
            obtain ⟨pl2, q1, ob2, q2, q3⟩ := hr4.heap _ _ gd'
            have := hl3 _ _ (hl2 _ _ e1)
            rw [q1] at this
            cases this
            have q3 : ob2 = Obj.deferred (some []) := q3
            subst q3
            obtain ⟨Hn, hx2⟩ := ext1_of (show (D, Obj.deferred (some [])) ∈ Hr from q2)
            have hperm : H'.Perm ((l, Obj.loop r') :: (D, Obj.deferred (some [])) :: Hn) := hx1.perm.trans (List.Perm.cons _ hx2.perm)
            have hr5 : Re { x with df := markD D :: x.df } ρ3 { s1 with env := s.env, heap := s1.heap.del (s.nx + 1) } env ((D, Obj.deferred (some [])) :: Hn) := by
              have hk : Re x ρ3 { s1 with env := .e, heap := s1.heap.del (s.nx + 1) } [] ((D, Obj.deferred (some [])) :: Hn) :=
                ⟨hr4.env, fun β o hβ => by
                  obtain ⟨pl, g1, g2⟩ := hr4.heap β o hβ
                  exact ⟨pl, g1, g2.mono (Le.refl _) (fun p hp _ => hx2.perm.mem_iff.1 hp)⟩, hr4.inj, hr4.dom, ⟨(hx2.perm.map (·.1)).nodup_iff.1 hr4.nd.nd, fun p hp => hr4.nd.dj p (hx2.perm.mem_iff.2 hp)⟩, hr4.gl⟩
              exact (Re.cx (x := x) (y := { x with df := markD D :: x.df }) (h.join (s' := { s1 with heap := s1.heap.del (s.nx + 1) }) hk hl13) rfl rfl)
            have hmd : MdOk { x with df := markD D :: x.df } ρ3 (.one s.nx) := ⟨hm.1, _, q1, by show markD D :: x.df = _; rw [hm.2]⟩
            split at e
            · cases e
            · rename_i hnb
              refine ⟨r', Hn, hperm, by rw [p4.st]; intro hh; exact hnb hh, ?_⟩
              rw [p4.pd]
              dsimp only at e ⊢
              split at e
              · cases e
                exact hK _ List.mem_cons_self (markD D :: x.df) ρ3 env _ hl13 hmd hr5
              · cases e
                exact W.exit (hK _ List.mem_cons_self (markD D :: x.df) ρ3 env _ hl13 hmd hr5)
              · cases e
                exact W.ret (hK _ List.mem_cons_self (markD D :: x.df) ρ3 env _ hl13 hmd hr5)
              · cases e
          · cases e
      · cases e
    · cases e
  · cases e
theorem exN_ok {hk : HK} {P : Program} (hhk : FFok P hk) (k : Nat) : EXok P (exN hk P k) := by
  induction k using Nat.strongRecOn with
  | _ k ih =>
    intro x K c m s rs ρ env H hP h0 hm hre hK
    subst hP
    cases k with
    | zero => rw [exN_zero] at h0; cases h0
    | succ k =>
      have ihk := ih k (Nat.lt_succ_self k)
      have hcf : CFok x.P (mkCF hk x.P (exN hk x.P k)) := ⟨orF_ok hhk (callF_ok ihk), yieldF_ok ihk⟩
      have h1 := h0
      rw [exN_succ] at h1
      unfold codeB at h1
      dsimp only at h1
      split at h1
      · cases h1
        exact W.skip (hK _ List.mem_cons_self x.df ρ env H (Le.refl ρ) hm hre)
      · cases h1
        exact W.exit (hK _ List.mem_cons_self x.df ρ env H (Le.refl ρ) hm hre)
      · cases h1
        exact W.ret (hK _ List.mem_cons_self x.df ρ env H (Le.refl ρ) hm hre)
      · rename_i p q
        refine W.seq ?_
        split at h1
        · rename_i qs hp
          refine ihk x _ p m s qs ρ env H rfl hp hm hre (fun r hr d ρ1 env1 H1 l1 m1 r1 => ?_)
          obtain ⟨ts, h2, h3⟩ := bindL_ok h1 r hr
          rcases nextE_ok h2 with ⟨mm, s1, rfl, h4⟩ | ⟨hne, rfl⟩
          · exact Fin.next (x := { x with df := d }) (ihk { x with df := d } K q mm s1 ts ρ1 env1 H1 rfl h4 m1 r1 (fun r2 hr2 d2 ρ2 env2 H2 l2 m2 r2' => hK r2 (h3 r2 hr2) d2 ρ2 env2 H2 (l1.trans l2) m2 r2'))
          · exact Fin.passT hne (hK r (h3 r List.mem_cons_self) d ρ1 env1 H1 l1 m1 r1)
        · cases h1
      · rename_i id c
        refine W.block ?_
        split at h1
        · rename_i qs hp
          cases h1
          refine ihk x _ c m s qs ρ env H rfl hp hm hre (fun r hr d ρ1 env1 H1 l1 m1 r1 => ?_)
          have hb := hK (blkE id r) (List.mem_map.2 ⟨r, hr, rfl⟩) d ρ1 env1 H1 l1
          obtain ⟨e, mm, s1⟩ := r
          cases e with
          | exit id' =>
            have hb' : MdOk { x with df := d } ρ1 (match Nat.beq id' id with | true => ((Exit.normal, mm, s1) : XR) | false => (Exit.exit id', mm, s1)).2.1 → Re { x with df := d } ρ1 (match Nat.beq id' id with | true => ((Exit.normal, mm, s1) : XR) | false => (Exit.exit id', mm, s1)).2.2 env1 H1 → Fin { x with df := d } K (match Nat.beq id' id with | true => ((Exit.normal, mm, s1) : XR) | false => (Exit.exit id', mm, s1)).1 env1 H1 := hb
            cases hid : Nat.beq id' id with
            | true =>
              rw [hid] at hb'
              cases beq_true hid
              exact Fin.block_exit (hb' m1 r1)
            | false =>
              rw [hid] at hb'
              exact Fin.block_other hid (hb' m1 r1)
          | _ => exact ⟨fun a w st => (hb m1 r1).run a w st⟩
        · cases h1
      · rename_i c p q
        split at h1
        · rename_i hc
          obtain ⟨u, hu, hv⟩ := evA_ok hre hc
          cases VR.bool_inv hv
          exact W.cond_t hu (ihk x K p m s rs ρ env H rfl h1 hm hre hK)
        · rename_i hc
          obtain ⟨u, hu, hv⟩ := evA_ok hre hc
          cases VR.bool_inv hv
          exact W.cond_f hu (ihk x K q m s rs ρ env H rfl h1 hm hre hK)
        · cases h1
      · rename_i c
        refine ⟨fun a w st => ?_⟩
        refine wp_loop_ghost (G := Nat) (fun g a w => g ≤ k + 1 ∧ ∃ d m1 s1 rs1 ρ1 env1 H1, exN hk x.P g x.n (.loop c) m1 s1 = some rs1 ∧ (∀ r ∈ rs1, r ∈ rs) ∧ Le ρ ρ1 ∧ MdOk { x with df := d } ρ1 m1 ∧ Re { x with df := d } ρ1 s1 env1 H1 ∧ St { x with df := d } env1 H1 a w) (fun g => g) ?_ (k + 1) a w ⟨Nat.le_refl _, x.df, m, s, rs, ρ, env, H, h0, fun _ h => h, Le.refl ρ, hm, hre, st⟩
        rintro g a w ⟨hg, d, m1, s1, rs1, ρ1, env1, H1, hx, hsub, l1, mm1, r1, st1⟩
        cases g with
        | zero => rw [exN_zero] at hx; cases hx
        | succ g =>
          have ihg := ih g (by omega)
          rw [exN_succ] at hx
          unfold codeB at hx
          dsimp only at hx
          split at hx
          · rename_i qs hp
            refine (ihg { x with df := d } _ c m1 s1 qs ρ1 env1 H1 rfl hp mm1 r1 (fun r hr d2 ρ2 env2 H2 l2 m2 r2 => ?_)).run a w st1
            obtain ⟨ts, h2, h3⟩ := bindL_ok hx r hr
            rcases nextE_ok h2 with ⟨m3, s2, rfl, h4⟩ | ⟨hne, rfl⟩
            · exact ⟨fun a w st2 => ⟨g, ⟨by omega, d2, m3, s2, ts, ρ2, env2, H2, h4, fun r hr => hsub r (h3 r hr), l1.trans l2, m2, r2, st2⟩, Nat.lt_succ_self g⟩⟩
            · exact Fin.passT hne (hK r (hsub r (h3 r List.mem_cons_self)) d2 ρ2 env2 H2 (l1.trans l2) m2 r2)
          · cases hx
      · rename_i id l
        split at h1
        · rename_i ss hl
          cases h1
          exact W.region (listA_ok hcf l s ss ρ env H hl hre (fun s' hs' ρ' env' H' hl' hr' => hK (.normal, m, s') (List.mem_map.2 ⟨s', hs', rfl⟩) x.df ρ' env' H' hl' (hm.mono hl') hr'))
        · cases h1
      · rename_i id l
        split at h1
        · rename_i s1 hl
          cases h1
          exact regX_ok hcf hl hre (fun ρ' env' H' hl' hr' => hK (.normal, m, s1) List.mem_cons_self x.df ρ' env' H' hl' (hm.mono hl') hr')
        · cases h1
      · exact rangeB_ok hcf h1 hm hre hK
      · cases h1
/-- a function reckoned out -/
def runF (hk : HK) (P : Program) (k : Nat) : HK := orF hk (callF P (exN hk P k))
theorem runF_ok {hk : HK} {P : Program} (hhk : FFok P hk) (k : Nat) : FFok P (runF hk P k) := orF_ok hhk (callF_ok (exN_ok hhk k))
end
end
end Go.Ev
namespace Go.Ev
open Go Go.Sl
noncomputable section
section
variable {x : Cx} {ρ : Ro} {s : AS} {env : Env} {H : HL}
/-! ### whole states -/
def noneT : T AO → Bool
  | .e => true
  | .n l v r => match v with
    | none => match noneT l with
      | true => noneT r
      | false => false
    | some _ => false
theorem noneT_ok : ∀ {t : T AO}, noneT t = true → ∀ k, t.get k = none
  | .e, _, k => T.get_e k
  | .n l v r, h, k => by
    unfold noneT at h
    split at h
    · split at h
      · rename_i hl
        cases k with
        | zero => rw [T.get_n0]
        | succ j =>
          rw [T.get_nS, noneT_ok hl, noneT_ok h, ite_self]
      · cases h
    · cases h
/-- all of the first are in the second -/
def subT : T AO → T AO → Bool
  | .e, _ => true
  | .n l v r, .n l' v' r' => match (match v with
    | none => true
    | some a => match v' with
      | some a' => eqA a a'
      | none => false) with
    | true => match subT l l' with
      | true => subT r r'
      | false => false
    | false => false
  | .n l v r, .e => noneT (.n l v r)
theorem subT_ok : ∀ {a b : T AO}, subT a b = true → ∀ k o, a.get k = some o → b.get k = some o
  | .e, _, _, k, o, h => by rw [T.get_e] at h; cases h
  | .n l v r, .e, hs, k, o, h => by
    have hs : noneT (.n l v r) = true := hs
    rw [noneT_ok hs] at h
    cases h
  | .n l v r, .n l' v' r', hs, k, o, h => by
    unfold subT at hs
    split at hs
    · rename_i hv
      split at hs
      · rename_i hl
        cases k with
        | zero =>
          rw [T.get_n0] at h ⊢
          subst h
          dsimp only at hv
          split at hv
          · rw [eqA_ok _ _ hv]
          · cases hv
        | succ j =>
          rw [T.get_nS] at h ⊢
          split at h
          · rename_i hj
            rw [if_pos hj]
            exact subT_ok hl _ _ h
          · rename_i hj
            rw [if_neg hj]
            exact subT_ok hs _ _ h
      · cases hs
    · cases hs
def eqS (a b : AS) : Bool := match Nat.beq a.nx b.nx && Nat.beq a.gn b.gn with
  | true => match subT a.heap b.heap with
    | true => subT b.heap a.heap
    | false => false
  | false => false
def isT : Option (Value × AS) → Bool
  | some (.bool true, _) => true
  | _ => false
/-! ### states as they are written down -/
def n8 (l : List Nat) : List Value := l.map (fun (n : Nat) => Value.int .u8 (Int.ofNat n))
def n1 (l : List Nat) : List Value := l.map (fun (n : Nat) => Value.int .u16 (Int.ofNat n))
def n3 (l : List Nat) : List Value := l.map (fun (n : Nat) => Value.int .u32 (Int.ofNat n))
def n6 (l : List Nat) : List Value := l.map (fun (n : Nat) => Value.int .u64 (Int.ofNat n))
def ni (l : List Int) : List Value := l.map (fun n => .int .i64 n)
def vp (β o : Nat) : Value := .pointer (some ⟨β, o, none⟩)
def vs (β o n c : Nat) : Value := .slice (some ⟨β, o, none⟩) n c
def vm (β : Nat) : Value := .map (some β)
def p0 : Value := .pointer none
def s0 : Value := .slice none 0 0
def vf (f : Nat) (a c : List Value) : Value := .func (.func f) ⟨a⟩ ⟨c⟩
def co (l : List (List Value)) : List Value := l.foldr (· ++ ·) []
def mkS (l : List (Nat × AO)) (nx gn : Nat) : AS := ⟨.e, l.foldr (fun p t => t.put p.1 p.2) .e, nx, gn⟩
/-- another state with the same blocks, or fewer -/
theorem Re.less' {t : AS} (h : Re x ρ { s with env := .e } [] H) (hs : ∀ k o, t.heap.get k = some o → s.heap.get k = some o) (hn : t.nx = s.nx) (hg : t.gn = s.gn) : Re x ρ { t with env := .e } [] H :=
  ⟨fun k v e => (by rw [show (T.e : T Value).get k = none from T.get_e k] at e; cases e), fun β o hβ => h.heap β o (hs _ _ hβ), fun β γ o o' pl pl' e1 e2 => h.inj β γ o o' pl pl' (hs _ _ e1) (hs _ _ e2), fun β pl hβ => by rw [hn]; exact h.dom β pl hβ, h.nd, fun g hg' => h.gl g (by rw [← hg]; exact hg')⟩
/-- a call that was reckoned: of what, from which state, with which answer, to which state -/
structure Ent where
  f : FuncId
  vs : List Value
  si : AS
  v : Value
  so : AS
def chkE (hk : HK) (P : Program) (k : Nat) (e : Ent) : Bool := match runF hk P k e.f e.vs e.si with
  | some (v, s') => match eqV 9 v e.v with
    | true => match subT e.so.heap s'.heap with
      | true => Nat.beq e.so.nx s'.nx && Nat.beq e.so.gn s'.gn
      | false => false
    | false => false
  | none => false
def EntOk (P : Program) (e : Ent) : Prop := ∃ (hk : HK) (k : Nat), FFok P hk ∧ chkE hk P k e = true
def hkE : List Ent → HK
  | [], _, _, _ => none
  | e :: es, f, vs, s => match Nat.beq f e.f with
    | true => match eqL (eqV 9) vs e.vs && eqS s e.si with
      | true => some (e.v, e.so)
      | false => hkE es f vs s
    | false => hkE es f vs s
theorem hkE_ok {P : Program} : ∀ {es : List Ent}, (∀ e ∈ es, EntOk P e) → FFok P (hkE es)
  | [], _ => fun _ _ _ _ _ _ _ _ _ _ e => by cases e
  | e :: es, hall => by
    intro x ρ s H f vs us r s' hP he h hvs
    have ih := hkE_ok (P := P) (es := es) (fun q hq => hall q (List.mem_cons_of_mem _ hq))
    unfold hkE at he
    split at he
    · rename_i hf
      split at he
      · rename_i hb
        cases he
        cases beq_true hf
        rw [Bool.and_eq_true] at hb
        have hv := eqL_ok (eqV_ok 9) hb.1
        subst hv
        obtain ⟨hk, k, hhk, hc⟩ := hall e List.mem_cons_self
        have hq := hb.2
        unfold eqS at hq
        split at hq
        · rename_i hs
          split at hq
          · rename_i s1
            have s2 := hq
            rw [Bool.and_eq_true] at hs
            have h' : Re x ρ { e.si with env := .e } [] H := h.less' (subT_ok s2) (beq_true hs.1).symm (beq_true hs.2).symm
            unfold chkE at hc
            split at hc
            · rename_i v0 s0 hrun
              split at hc
              · rename_i hv0
                split at hc
                · rename_i hsub
                  rw [Bool.and_eq_true] at hc
                  have hv0 := eqV_ok 9 _ _ hv0
                  subst hv0
                  refine (runF_ok hhk k x ρ e.si H e.f e.vs us e.v s0 hP hrun h' hvs).mono ?_
                  rintro v1 H1 ⟨ρ', h1, h2, h3⟩
                  exact ⟨ρ', h1, h2, h3.less' (subT_ok hsub) (beq_true hc.1) (beq_true hc.2)⟩
                · cases hc
              · cases hc
            · cases hc
          · cases hq
        · cases hq
      · exact ih x ρ s H f vs us r s' hP he h hvs
    · exact ih x ρ s H f vs us r s' hP he h hvs
/-! ### one block -/
/-- a call that looks at one block of flat cells, and at globals, and turns that block: cells ahead, cells behind -/
structure En1 where
  f : FuncId
  o : Nat
  E : TypeId
  l : List Value
  v : Value
  l' : List Value
/-- the state in which it was reckoned: the globals, and that block -/
def st1 (G : List (Nat × AO)) (gn : Nat) (e : En1) : AS := ⟨.e, (G.foldr (fun p t => t.put p.1 p.2) (.e : T AO)).put gn (.cells true e.l e.E), gn + 1, gn⟩
def chk1 (hk : HK) (P : Program) (k : Nat) (G : List (Nat × AO)) (gn : Nat) (e : En1) : Bool := match runF hk P k e.f [.pointer (some ⟨gn, e.o, none⟩)] (st1 G gn e) with
  | some (v, s') => match s'.heap.get gn with
    | some (.cells true l E) => (eqV 9 v e.v && (eqL (eqV 9) l e.l' && Nat.beq E e.E)) && (clearB e.v && (e.l.all flatB && e.l'.all flatB))
    | _ => false
  | none => false
def roF : AO → Bool
  | .mk false l _ => l.all flatB
  | _ => false
def gOk (G : List (Nat × AO)) (gn : Nat) : Bool := G.all (fun p => Nat.blt p.1 gn && roF p.2) && Nat.blt gn 1000000
/-- the globals are there -/
def gIn (s : AS) : List (Nat × AO) → Bool
  | [] => true
  | p :: G => match s.heap.get p.1 with
    | some a => match eqA a p.2 with
      | true => gIn s G
      | false => false
    | none => false
def hk1 (G : List (Nat × AO)) (gn : Nat) : List En1 → HK
  | [], _, _, _ => none
  | e :: es, f, vs, s => match Nat.beq f e.f, vs with
    | true, [.pointer (some ⟨β, o, none⟩)] => match s.heap.get β, Nat.blt β 1000000 with
      | some (.cells true l E), true => match (Nat.beq o e.o && Nat.beq E e.E) && eqL (eqV 9) l e.l with
        | true => match Nat.beq s.gn gn && gIn s G with
          | true => some (e.v, { s with heap := s.heap.put β (.cells true e.l' e.E) })
          | false => none
        | false => hk1 G gn es f vs s
      | _, _ => none
    | _, _ => hk1 G gn es f vs s
theorem gIn_ok : ∀ {G : List (Nat × AO)}, gIn s G = true → ∀ p ∈ G, s.heap.get p.1 = some p.2
  | [], _, p, hp => by cases hp
  | q :: G, h, p, hp => by
    unfold gIn at h
    split at h
    · rename_i a ha
      split at h
      · rename_i he
        rcases List.mem_cons.1 hp with rfl | hp
        · rw [ha, eqA_ok _ _ he]
        · exact gIn_ok h p hp
      · cases h
    · cases h
theorem puts_get : ∀ {G : List (Nat × AO)} {t : T AO}, (∀ p ∈ G, p.1 < 1000000) → ∀ k o, (G.foldr (fun p t => t.put p.1 p.2) t).get k = some o → (k, o) ∈ G ∨ t.get k = some o
  | [], t, _, k, o, h => .inr h
  | p :: G, t, hp, k, o, h => by
    rw [List.foldr_cons, T.get_put (hp p List.mem_cons_self)] at h
    split at h
    · rename_i hk
      cases h
      subst hk
      exact .inl List.mem_cons_self
    · rcases puts_get (fun q hq => hp q (List.mem_cons_of_mem _ hq)) k o h with h | h
      · exact .inl (List.mem_cons_of_mem _ h)
      · exact .inr h
theorem flat_eq {v u : Value} (hf : flatB v = true) (h : VR ρ v u) : u = v := by
  unfold flatB at hf
  split at hf <;> first | (exact absurd hf Bool.false_ne_true) | (cases h; rfl)
theorem flats_eq : ∀ {l m : List Value}, l.all flatB = true → VRs ρ l m → m = l
  | [], _, _, h => by cases h; rfl
  | v :: l, _, hf, h => by
    rw [List.all_cons, Bool.and_eq_true] at hf
    cases h with
    | cons a b => rw [flat_eq hf.1 a, flats_eq hf.2 b]
theorem clear_eq {v u : Value} (hf : clearB v = true) (h : VR ρ v u) : u = v := by
  unfold clearB at hf
  split at hf
  · obtain ⟨l', rfl, hl⟩ := VR.agg_inv h
    rw [flats_eq hf hl]
  · obtain ⟨l', rfl, hl⟩ := VR.tup_inv h
    rw [flats_eq hf hl]
  · exact flat_eq hf h
theorem hk1_ok {P : Program} {G : List (Nat × AO)} {gn : Nat} (hG : gOk G gn = true) : ∀ {es : List En1}, (∀ e ∈ es, ∃ (hk : HK) (k : Nat), FFok P hk ∧ chk1 hk P k G gn e = true) → FFok P (hk1 G gn es)
  | [], _ => fun _ _ _ _ _ _ _ _ _ _ e => by cases e
  | e :: es, hall => by
    intro x ρ s H f vs us r s' hP he h hvs
    have ih := hk1_ok (P := P) hG (es := es) (fun q hq => hall q (List.mem_cons_of_mem _ hq))
    unfold hk1 at he
    split at he
    · rename_i β o hf
      cases beq_true hf
      split at he
      · rename_i l E hg hβ
        have hβ := Nat.le_of_ble_eq_true hβ
        split at he
        · rename_i hb
          simp only [Bool.and_eq_true] at hb
          obtain ⟨⟨b1, b2⟩, b3⟩ := hb
          cases beq_true b1
          cases beq_true b2
          have b3 := eqL_ok (eqV_ok 9) b3
          subst b3
          split at he
          · rename_i hb
            cases he
            simp only [Bool.and_eq_true] at hb
            have hgn := beq_true hb.1
            have hgin := gIn_ok hb.2
            simp only [gOk, Bool.and_eq_true, List.all_eq_true] at hG
            obtain ⟨hG1, hG2⟩ := hG
            have hgnM : gn < 1000000 := Nat.le_of_ble_eq_true hG2
            have hGlt : ∀ p ∈ G, p.1 < gn := fun p hp => Nat.le_of_ble_eq_true (hG1 p hp).1
            obtain ⟨hk, k, hhk, hc⟩ := hall e List.mem_cons_self
            cases hvs with
            | cons hv0 hn =>
            cases hn
            obtain ⟨pl, hρ, rfl⟩ := VR.ptrS_inv hv0
            obtain ⟨pl', hρ', ob, hin, hov⟩ := h.heap β _ hg
            rw [hρ] at hρ'
            cases hρ'
            have hin : (pl.g, ob) ∈ H := hin
            obtain ⟨Hr, hext⟩ := ext1_of hin
            have hperm := hext.perm
            have hnd0 := (hperm.map (·.1)).nodup_iff.1 h.nd.nd
            rw [List.map_cons, List.nodup_cons] at hnd0
            have hdjr : ∀ p ∈ Hr, x.F p.1 = none := fun p hp => h.nd.dj p (hperm.mem_iff.2 (List.mem_cons_of_mem _ hp))
            have hndr : (Hr.map (·.1)).Nodup := hnd0.2
            have hner : ∀ p ∈ Hr, p.1 ≠ pl.g := fun p hp e => hnd0.1 (List.mem_map.2 ⟨p, hp, e⟩)
            -- the small state
            let ρ1 : Ro := fun n => if n = gn then some pl else if n < gn then ρ n else none
            have hρgn : ρ1 gn = some pl := by show (if gn = gn then _ else _) = _; rw [if_pos rfl]
            have hρlt : ∀ g, g < gn → ρ1 g = ρ g := fun g hg => by show (if g = gn then _ else if g < gn then _ else _) = _; rw [if_neg (by omega), if_pos hg]
            have hget : ∀ γ a, (st1 G gn e).heap.get γ = some a → (γ = gn ∧ a = .cells true e.l e.E) ∨ ((γ, a) ∈ G ∧ γ < gn) := fun γ a hγ => by
              unfold st1 at hγ
              dsimp only at hγ
              rw [T.get_put hgnM] at hγ
              split at hγ
              · rename_i e1
                cases hγ
                exact .inl ⟨e1, rfl⟩
              · rcases puts_get (fun p hp => Nat.lt_trans (hGlt p hp) hgnM) γ a hγ with h1 | h1
                · exact .inr ⟨h1, hGlt _ h1⟩
                · rw [T.get_e] at h1; cases h1
            unfold chk1 at hc
            split at hc
            · rename_i v0 s0 hrun
              split at hc
              · rename_i l0 E0 hg0
                simp only [Bool.and_eq_true] at hc
                obtain ⟨⟨c1, c2, c3⟩, c4, c5, c6⟩ := hc
                have c1 := eqV_ok 9 _ _ c1
                have c2 := eqL_ok (eqV_ok 9) c2
                have c3 := beq_true c3
                subst c1
                subst c2
                subst c3
                have hre1 : Re (addX x Hr) ρ1 { st1 G gn e with env := .e } [] [(pl.g, ob)] := by
                  refine ⟨fun t v ht => (by rw [show (T.e : T Value).get t = none from T.get_e t] at ht; cases ht), fun γ a hγ => ?_, fun γ δ a a' p p' e1 e2 e3 e4 e5 => ?_, fun γ p hγ => ?_, ⟨by simp, fun p hp => ?_⟩, fun g hg' => ?_⟩
                  · rcases hget γ a hγ with ⟨rfl, rfl⟩ | ⟨hm, hlt⟩
                    · obtain ⟨pre, l'', post, q1, q2, q3, q4⟩ := hov
                      have := flats_eq c5 q3
                      subst this
                      exact ⟨pl, hρgn, ob, List.mem_singleton.2 rfl, pre, e.l, post, q1, q2, flat_vrs c5, q4⟩
                    · have hro := (hG1 _ hm).2
                      obtain ⟨p, hp, o2, hh, hv2⟩ := h.heap γ a (hgin _ hm)
                      dsimp only at hro
                      unfold roF at hro
                      split at hro
                      · rename_i lg Eg
                        have hh : x.F p.g = some o2 := hh
                        obtain ⟨pre, l'', post, fr, E2, q1, q2, q3⟩ := hv2
                        have := flats_eq hro q3
                        subst this
                        exact ⟨p, by rw [hρlt γ hlt]; exact hp, o2, addF_ro hdjr hh, pre, _, post, fr, E2, q1, q2, flat_vrs hro⟩
                      · cases hro
                  · have hne : ∀ δ a', (δ, a') ∈ G → δ ≠ β := fun δ a' hm e6 => by
                      have hro := (hG1 _ hm).2
                      have := hgin _ hm
                      dsimp only at this hro
                      rw [e6, hg] at this
                      cases this
                      cases hro
                    rcases hget γ a e1 with ⟨rfl, rfl⟩ | ⟨hm, hlt⟩
                    · rcases hget δ a' e2 with ⟨rfl, rfl⟩ | ⟨hm', hlt'⟩
                      · rfl
                      · exfalso
                        rw [hρgn] at e3
                        cases e3
                        rw [hρlt δ hlt'] at e4
                        exact hne δ a' hm' (h.inj β δ _ _ _ _ hg (hgin _ hm') hρ e4 e5).symm
                    · rw [hρlt γ hlt] at e3
                      rcases hget δ a' e2 with ⟨rfl, rfl⟩ | ⟨hm', hlt'⟩
                      · exfalso
                        rw [hρgn] at e4
                        cases e4
                        exact hne γ a hm (h.inj γ β _ _ _ _ (hgin _ hm) hg e3 hρ e5)
                      · rw [hρlt δ hlt'] at e4
                        exact h.inj γ δ a a' p p' (hgin _ hm) (hgin _ hm') e3 e4 e5
                  · show γ < gn + 1
                    have hγ : (if γ = gn then some pl else if γ < gn then ρ γ else none) = some p := hγ
                    split at hγ
                    · omega
                    · split at hγ
                      · omega
                      · cases hγ
                  · rw [List.mem_singleton] at hp
                    subst hp
                    show Sl.addF x.F Hr pl.g = none
                    rw [addF_none hner]
                    exact h.nd.dj _ hin
                  · obtain ⟨p, q1, q2⟩ := h.gl g (by show g < s.gn; rw [hgn]; exact hg')
                    exact ⟨p, by rw [hρlt g hg']; exact q1, q2⟩
                have tr := runF_ok hhk k (addX x Hr) ρ1 (st1 G gn e) [(pl.g, ob)] e.f _ _ _ s0 hP hrun hre1 (.cons (.ptr hρgn) .nil)
                intro w hw
                refine ((Tr.beside (Hr := Hr) (.pick hext (.nil _)) (fun _ => tr)) w hw).mono ?_
                rintro ee w' ⟨v1, H', rfl, ⟨H1, ⟨ρ2, hle, hvr, hre2⟩, rfl⟩, hi, hs⟩
                refine ⟨v1, H1 ++ Hr, rfl, ⟨ρ, Le.refl ρ, ?_, ?_⟩, hi, hs⟩
                · rw [clear_eq c4 hvr]
                  exact clear_vr c4
                · obtain ⟨p2, r1, o2, r2, r3⟩ := hre2.heap gn _ hg0
                  have := hle _ _ hρgn
                  rw [r1] at this
                  cases this
                  have r2 : (pl.g, o2) ∈ H1 := r2
                  obtain ⟨pre, l'', post, q1, q2, q3, q4⟩ := r3
                  have := flats_eq c6 q3
                  subst this
                  refine ⟨fun t v ht => (by rw [show (T.e : T Value).get t = none from T.get_e t] at ht; cases ht), fun γ a hγ => ?_, fun γ δ a a' p p' e1 e2 e3 e4 e5 => ?_, h.dom, ⟨hi.nd, hi.dj⟩, h.gl⟩
                  · dsimp only at hγ
                    rw [T.get_put hβ] at hγ
                    split at hγ
                    · rename_i e6
                      subst e6
                      cases hγ
                      exact ⟨pl, hρ, o2, List.mem_append_left _ r2, pre, _, post, q1, q2, flat_vrs c6, q4⟩
                    · rename_i hne
                      obtain ⟨p, hp, o3, hh, hv3⟩ := h.heap γ a hγ
                      refine ⟨p, hp, o3, ?_, hv3⟩
                      cases hr : a.rw
                      · rw [hr] at hh
                        exact hh
                      · rw [hr] at hh
                        have hh : (p.g, o3) ∈ H := hh
                        rcases List.mem_cons.1 (hperm.mem_iff.1 hh) with e7 | hm
                        · exact absurd (h.inj γ β _ _ _ _ hγ hg hp hρ (congrArg Prod.fst e7)) hne
                        · exact List.mem_append_right _ hm
                  · dsimp only at e1 e2
                    rw [T.get_put hβ] at e1 e2
                    have k1 : ∃ q, s.heap.get γ = some q := by
                      split at e1
                      · rename_i e; rw [e]; exact ⟨_, hg⟩
                      · exact ⟨_, e1⟩
                    have k2 : ∃ q, s.heap.get δ = some q := by
                      split at e2
                      · rename_i e; rw [e]; exact ⟨_, hg⟩
                      · exact ⟨_, e2⟩
                    obtain ⟨q1, hq1⟩ := k1
                    obtain ⟨q2, hq2⟩ := k2
                    exact h.inj γ δ q1 q2 p p' hq1 hq2 e3 e4 e5
              · cases hc
            · cases hc
          · cases he
        · exact ih x ρ s H e.f _ us r s' hP he h hvs
      · cases he
    · exact ih x ρ s H f _ us r s' hP he h hvs
end
end
end Go.Ev
namespace Go.Ev
open Go Go.Sl
noncomputable section
theorem start_re {x : Cx} {G : List (Nat × AO)} {gn : Nat} (hG : gOk G gn = true) (hF : ∀ p ∈ G, ∃ l E t fr, p.2 = .mk false l E ∧ x.F p.1 = some (.cells l.toArray t fr)) : Re x (fun n => if n < gn then some ⟨n, 0, 0, 0⟩ else none) { mkS G gn gn with env := .e } [] [] := by
  simp only [gOk, Bool.and_eq_true, List.all_eq_true] at hG
  obtain ⟨hG1, hG2⟩ := hG
  have hgnM : gn < 1000000 := Nat.le_of_ble_eq_true hG2
  have hGlt : ∀ p ∈ G, p.1 < gn := fun p hp => Nat.le_of_ble_eq_true (hG1 p hp).1
  have hget : ∀ γ a, (mkS G gn gn).heap.get γ = some a → (γ, a) ∈ G := fun γ a hγ => by
    rcases puts_get (fun p hp => Nat.lt_trans (hGlt p hp) hgnM) γ a hγ with h | h
    · exact h
    · rw [T.get_e] at h; cases h
  have hρ : ∀ γ, γ < gn → (if γ < gn then some (⟨γ, 0, 0, 0⟩ : Pl) else none) = some ⟨γ, 0, 0, 0⟩ := fun γ h => if_pos h
  refine ⟨fun t v ht => (by rw [show (T.e : T Value).get t = none from T.get_e t] at ht; cases ht), fun γ a hγ => ?_, fun γ δ a a' p p' e1 e2 e3 e4 e5 => ?_, fun γ p hγ => ?_, ⟨List.nodup_nil, fun _ h => (by cases h)⟩, fun g hg => ?_⟩
  · have hm := hget γ a hγ
    obtain ⟨l, E, t, fr, h1, h2⟩ := hF _ hm
    have hro := (hG1 _ hm).2
    dsimp only at h1 h2 hro
    subst h1
    exact ⟨⟨γ, 0, 0, 0⟩, hρ γ (hGlt _ hm), _, h2, [], l, [], fr, t, by simp, rfl, flat_vrs hro⟩
  · have h1 := hGlt _ (hget γ a e1)
    have h2 := hGlt _ (hget δ a' e2)
    dsimp only at h1 h2 e3 e4
    rw [hρ γ h1] at e3
    rw [hρ δ h2] at e4
    cases e3
    cases e4
    exact e5
  · show γ < gn
    have hγ : (if γ < gn then some (⟨γ, 0, 0, 0⟩ : Pl) else none) = some p := hγ
    split at hγ
    · assumption
    · cases hγ
  · exact ⟨_, hρ g hg, rfl, rfl⟩
/-- a run that answers true -/
theorem run_tr {P : Program} {hk : HK} (hhk : FFok P hk) {k f gn : Nat} {G : List (Nat × AO)} (hG : gOk G gn = true) (hr : isT (runF hk P k f [] (mkS G gn gn)) = true) {F : Nat → Option Obj} (hF : ∀ p ∈ G, ∃ l E t fr, p.2 = .mk false l E ∧ F p.1 = some (.cells l.toArray t fr)) :
    Tr P f ([] : List Value).toArray F [] (fun v _ => v = .bool true) := by
  unfold isT at hr
  split at hr
  · rename_i s' he
    intro w hw
    refine ((runF_ok hhk k ⟨P, 0, w, F, none, []⟩ _ (mkS G gn gn) [] f [] [] _ s' rfl he (start_re (x := ⟨P, 0, w, F, none, []⟩) hG hF) .nil) w hw).mono ?_
    rintro e w' ⟨v, H', rfl, ⟨ρ', _, hv, _⟩, hi, hs⟩
    exact ⟨v, H', rfl, VR.bool_inv hv, hi, hs⟩
  · cases hr
end
end Go.Ev
namespace Go.Ev
open Go Go.Sl
noncomputable section
/-- every block may be written -/
def allRw : T AO → Bool
  | .e => true
  | .n l v r => match (match v with
    | none => true
    | some a => a.rw) with
    | true => match allRw l with
      | true => allRw r
      | false => false
    | false => false
theorem allRw_ok : ∀ {t : T AO}, allRw t = true → ∀ k o, t.get k = some o → o.rw = true
  | .e, _, k, o, h => by rw [T.get_e] at h; cases h
  | .n l v r, hs, k, o, h => by
    unfold allRw at hs
    split at hs
    · rename_i hv
      split at hs
      · rename_i hl
        cases k with
        | zero =>
          rw [T.get_n0] at h
          subst h
          exact hv
        | succ j =>
          rw [T.get_nS] at h
          split at h
          · exact allRw_ok hl _ _ h
          · exact allRw_ok hs _ _ h
      · cases hs
    · cases hs
/-- without some blocks -/
def delAll : List (Nat × AO) → T AO → T AO
  | [], t => t
  | p :: G, t => delAll G (t.del p.1)
theorem delAll_get : ∀ {G : List (Nat × AO)} {t : T AO} {k : Nat}, (∀ p ∈ G, p.1 < 1000000 ∧ p.1 ≠ k) → (delAll G t).get k = t.get k
  | [], _, _, _ => rfl
  | p :: G, t, k, h => by
    have h1 := h p List.mem_cons_self
    unfold delAll
    rw [delAll_get (fun q hq => h q (List.mem_cons_of_mem _ hq)), T.get_del h1.1, if_neg (fun e => h1.2 e.symm)]
/-- the globals are there, and nothing else that may only be read -/
def roB (G : List (Nat × AO)) (a : AS) : Bool := gIn a G && allRw (delAll G a.heap)
theorem gIn_mem {a : AS} : ∀ {G : List (Nat × AO)}, gIn a G = true → ∀ p ∈ G, a.heap.get p.1 = some p.2
  | [], _, p, hp => by cases hp
  | q :: G, h, p, hp => by
    unfold gIn at h
    split at h
    · rename_i v hv
      split at h
      · rename_i he
        rcases List.mem_cons.1 hp with e | hp
        · subst e
          rw [hv, eqA_ok _ _ he]
        · exact gIn_mem h p hp
      · cases h
    · cases h
/-- a state, up to the frame in which its globals lie -/
structure Fr (P : Program) (G : List (Nat × AO)) (gn : Nat) (a : AS) (ρ : Ro) (H : HL) : Prop where
  heap : ∀ β o, a.heap.get β = some o → (∃ pl ob, ρ β = some pl ∧ (pl.g, ob) ∈ H ∧ OV P ρ pl o ob ∧ o.rw = true) ∨ (β, o) ∈ G
  inj : ∀ β γ o o' pl pl', a.heap.get β = some o → a.heap.get γ = some o' → ρ β = some pl → ρ γ = some pl' → pl.g = pl'.g → β = γ
  dom : ∀ β pl, ρ β = some pl → β < a.nx
  gl : ∀ g, g < gn → ∃ pl, ρ g = some pl ∧ pl.g = g ∧ pl.sh = 0
  gn : a.gn = gn
/-- the globals as a frame has them -/
def GF (G : List (Nat × AO)) (F : Nat → Option Obj) : Prop := ∀ p ∈ G, ∃ l E t fr, p.2 = .mk false l E ∧ F p.1 = some (.cells l.toArray t fr)
theorem GF.mono {G : List (Nat × AO)} {F F' : Nat → Option Obj} (h : GF G F) (hp : ∀ b o, F b = some o → F' b = some o) : GF G F' := fun p hm =>
  let ⟨l, E, t, fr, h1, h2⟩ := h p hm
  ⟨l, E, t, fr, h1, hp _ _ h2⟩
section
variable {x : Cx} {ρ : Ro} {a : AS} {H : HL} {G : List (Nat × AO)} {gn : Nat}
theorem Fr.of (hG : gOk G gn = true) (hgn : a.gn = gn) (h : Re x ρ { a with env := .e } [] H) (hr : roB G a = true) : Fr x.P G gn a ρ H := by
  simp only [gOk, Bool.and_eq_true, List.all_eq_true] at hG
  have hGlt : ∀ p ∈ G, p.1 < 1000000 := fun p hp => by
    have h1 : p.1 < gn := Nat.le_of_ble_eq_true (hG.1 p hp).1
    have h2 : gn < 1000000 := Nat.le_of_ble_eq_true hG.2
    omega
  unfold roB at hr
  rw [Bool.and_eq_true] at hr
  refine ⟨fun β o hβ => ?_, h.inj, h.dom, fun g hg => h.gl g (by show g < a.gn; rw [hgn]; exact hg), hgn⟩
  by_cases hm : ∃ p ∈ G, p.1 = β
  · obtain ⟨p, hp, rfl⟩ := hm
    have := gIn_mem hr.1 p hp
    rw [hβ] at this
    cases this
    exact .inr hp
  · have h1 := delAll_get (t := a.heap) (k := β) (G := G) (fun p hp => ⟨hGlt p hp, fun e => hm ⟨p, hp, e⟩⟩)
    have h2 := allRw_ok hr.2 β o (by rw [h1]; exact hβ)
    obtain ⟨pl, e1, ob, e2, e3⟩ := h.heap β o hβ
    rw [h2] at e2
    exact .inl ⟨pl, ob, e1, e2, e3, h2⟩
theorem Fr.re (hG : gOk G gn = true) (h : Fr x.P G gn a ρ H) (hF : GF G x.F) {w : World} (hin : In x.F H w) : Re x ρ { a with env := .e } [] H := by
  simp only [gOk, Bool.and_eq_true, List.all_eq_true] at hG
  refine ⟨fun t v e => (by rw [show (T.e : T Value).get t = none from T.get_e t] at e; cases e), fun β o hβ => ?_, h.inj, h.dom, ⟨hin.nd, hin.dj⟩, fun g hg => h.gl g (by rw [← h.gn]; exact hg)⟩
  rcases h.heap β o hβ with ⟨pl, ob, e1, e2, e3, e4⟩ | hm
  · exact ⟨pl, e1, ob, by rw [e4]; exact e2, e3⟩
  · obtain ⟨l, E, t, fr, h1, h2⟩ := hF _ hm
    dsimp only at h1 h2
    subst h1
    obtain ⟨pl, e1, e2, e3⟩ := h.gl β (Nat.le_of_ble_eq_true (hG.1 _ hm).1)
    have hro := (hG.1 _ hm).2
    dsimp only at hro
    refine ⟨pl, e1, _, by rw [e2]; exact h2, [], l, [], fr, t, by simp, by rw [e3]; rfl, flat_vrs hro⟩
/-- one more block, that may only be read -/
theorem Re.more {l : List Value} {E : TypeId} {b o c : Nat} {cs : List Value} {t : TypeId} {fr : Nat × Nat} (h : Re x ρ { a with env := .e } [] H) (hnx : a.nx < 1000000) (hb : x.F b = some (.cells cs.toArray t fr)) (hl : l.all flatB = true) (hcs : (cs.drop o).take l.length = l) (ho : o ≤ cs.length)
    (hne : ∀ β ob pl, a.heap.get β = some ob → ρ β = some pl → pl.g ≠ b) (hgn : a.gn ≤ a.nx) :
    ∃ ρ', Le ρ ρ' ∧ ρ' a.nx = some ⟨b, o, o + c * 1, 1⟩ ∧ Re x ρ' { a with env := .e, heap := a.heap.put a.nx (.mk false l E), nx := a.nx + 1 } [] H := by
  have hfree : ρ a.nx = none := by
    cases hr : ρ a.nx with
    | none => rfl
    | some pl => exact absurd (h.dom _ _ hr) (Nat.lt_irrefl _)
  have hle : Le ρ (fun n => if n = a.nx then some ⟨b, o, o + c * 1, 1⟩ else ρ n) := fun β pl e => by
    show (if β = a.nx then _ else ρ β) = some pl
    rw [if_neg (fun e' => by subst e'; rw [hfree] at e; cases e)]
    exact e
  have hn0 : (fun n => if n = a.nx then some (⟨b, o, o + c * 1, 1⟩ : Pl) else ρ n) a.nx = some ⟨b, o, o + c * 1, 1⟩ := if_pos rfl
  have hget : ∀ β, (a.heap.put a.nx (.mk false l E)).get β = if β = a.nx then some (.mk false l E) else a.heap.get β := fun β => T.get_put hnx β
  have hold : ∀ β pl, β ≠ a.nx → (fun n => if n = a.nx then some (⟨b, o, o + c * 1, 1⟩ : Pl) else ρ n) β = some pl → ρ β = some pl := fun β pl hb e => by
    have e : (if β = a.nx then _ else ρ β) = some pl := e
    rw [if_neg hb] at e
    exact e
  refine ⟨_, hle, hn0, ⟨fun t v e => (by rw [show (T.e : T Value).get t = none from T.get_e t] at e; cases e), fun β ob hβ => ?_, fun β γ ob ob' pl pl' e1 e2 e3 e4 e5 => ?_, fun β pl e => ?_, h.nd, fun g hg => ?_⟩⟩
  · dsimp only at hβ
    rw [hget] at hβ
    split at hβ
    · rename_i e
      subst e
      cases hβ
      refine ⟨_, hn0, _, hb, cs.take o, l, cs.drop (o + l.length), fr, t, ?_, by simp [ho], flat_vrs hl⟩
      congr 2
      rw [← List.drop_drop, ← hcs]
      conv => lhs; rw [← List.take_append_drop o cs, ← List.take_append_drop l.length (cs.drop o)]
      rw [hcs]
      simp
    · rename_i hne1
      obtain ⟨pl, e1, ob', e2, e3⟩ := h.heap β ob hβ
      exact ⟨pl, hle _ _ e1, ob', e2, e3.mono hle⟩
  · dsimp only at e1 e2
    rw [hget] at e1 e2
    by_cases hβ : β = a.nx
    · by_cases hγ : γ = a.nx
      · rw [hβ, hγ]
      · rw [if_neg hγ] at e2
        subst hβ
        rw [if_pos rfl] at e3
        cases e3
        exact absurd e5.symm (hne γ ob' pl' e2 (hold _ _ hγ e4))
    · rw [if_neg hβ] at e1
      by_cases hγ : γ = a.nx
      · subst hγ
        rw [if_pos rfl] at e4
        cases e4
        exact absurd e5 (hne β ob pl e1 (hold _ _ hβ e3))
      · rw [if_neg hγ] at e2
        exact h.inj β γ ob ob' pl pl' e1 e2 (hold _ _ hβ e3) (hold _ _ hγ e4) e5
  · show β < a.nx + 1
    by_cases hβ : β = a.nx
    · omega
    · have := h.dom β pl (hold _ _ hβ e)
      exact Nat.lt_succ_of_lt this
  · obtain ⟨pl, e1, e2, e3⟩ := h.gl g hg
    exact ⟨pl, hle _ _ e1, e2, e3⟩
/-- a call that was reckoned, as a contract -/
theorem Ent.tr {P : Program} {e : Ent} (he : EntOk P e) (hP : x.P = P) {us : List Value} (h : Re x ρ { e.si with env := .e } [] H) (hvs : VRs ρ e.vs us) :
    Tr P e.f us.toArray x.F H (fun v H' => ∃ ρ', Le ρ ρ' ∧ VR ρ' e.v v ∧ Re x ρ' { e.so with env := .e } [] H') := by
  obtain ⟨hk, k, hhk, hc⟩ := he
  unfold chkE at hc
  split at hc
  · rename_i v0 s0 hrun
    split at hc
    · rename_i hv0
      split at hc
      · rename_i hsub
        rw [Bool.and_eq_true] at hc
        have hv0 := eqV_ok 9 _ _ hv0
        subst hv0
        refine (runF_ok hhk k x ρ e.si H e.f e.vs us e.v s0 hP hrun h hvs).mono ?_
        rintro v1 H1 ⟨ρ', h1, h2, h3⟩
        exact ⟨ρ', h1, h2, h3.less' (subT_ok hsub) (beq_true hc.1) (beq_true hc.2)⟩
      · cases hc
    · cases hc
  · cases hc
end
end
end Go.Ev
