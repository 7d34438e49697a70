/- Some texts as one. The evaluator: appends. No conditions: definitions and laws. The evaluator: maps whose keys are integers, and walks over them. No conditions: definitions and laws. The evaluator: two states compared; several ways. No conditions: definitions and laws. The evaluator: copies. No conditions: definitions and laws. A region that draws its order, its operations sorted by a given rule: what the evaluator knows to look at no memory need not count as a read. No conditions: laws only. The evaluator: two pointers compared. No conditions: definitions and laws. The evaluator: lengths of maps, bytes as strings, noughts that are appended. No conditions: definitions and laws. -/
import Derived.Test.YtkelhlffeilakaaGreatDoorBuE
import Derived.Test.YtkelhlffeilakaaGreatDoorBuC
import Derived.Laws.IdiomCopy
import Derived.Test.YtkelhlffeilakaaGreatDoorBuB
namespace Go.Ev
open Go Go.Sl
noncomputable section
section
variable {x : Cx} {ρ : Ro} {s : AS} {env : Env} {H : HL} {dst : Option Tmp} {ty : TypeId} {pos : String} {aft : Array Edge} {gd : Option (Nat × Bool)}
theorem ext1_of {p : Nat × Obj} : ∀ {H : HL}, p ∈ H → ∃ Hr, Ext1 p H Hr
  | [], h => by cases h
  | q :: H, h => by
    rcases List.mem_cons.1 h with rfl | h
    · exact ⟨H, .here⟩
    · obtain ⟨Hr, hr⟩ := ext1_of h
      exact ⟨q :: Hr, .there hr⟩
/-- a block is not the evaluator's any more -/
theorem Re.less (h : Re x ρ s env H) {β : Nat} {pl : Pl} {o : Obj} {Hr : HL} (hρ : ρ β = some pl) (he : Ext1 (pl.g, o) H Hr) {a : AO} (hg : s.heap.get β = some a) (hβ : β < 1000000) : Re x ρ { s with heap := s.heap.del β } env Hr := by
  have hp := he.perm
  have hnd : (Hr.map (·.1)).Nodup := by
    have := (hp.map (·.1)).nodup_iff.1 h.nd.nd
    rw [List.map_cons, List.nodup_cons] at this
    exact this.2
  refine ⟨h.env, fun γ q hγ => ?_, fun γ δ q q' p p' e1 e2 e3 e4 e5 => ?_, h.dom, ⟨hnd, fun p hp' => h.nd.dj p (hp.mem_iff.2 (List.mem_cons_of_mem _ hp'))⟩, h.gl⟩
  · dsimp only at hγ
    rw [T.get_del hβ] at hγ
    split at hγ
    · cases hγ
    · rename_i hne
      obtain ⟨pl2, hρ2, hO⟩ := h.heap γ q hγ
      have hgne : pl2.g ≠ pl.g := fun e => hne (h.inj γ β q _ pl2 pl hγ hg hρ2 hρ e)
      refine ⟨pl2, hρ2, hO.mono (Le.refl ρ) (fun p hp' hpg => ?_)⟩
      rcases List.mem_cons.1 (hp.mem_iff.1 hp') with rfl | hm
      · exact absurd hpg.symm hgne
      · exact hm
  · dsimp only at e1 e2
    rw [T.get_del hβ] at e1 e2
    split at e1
    · cases e1
    · split at e2
      · cases e2
      · exact h.inj γ δ q q' p p' e1 e2 e3 e4 e5
/-- what is appended -/
def srcA (s : AS) (E sz : Nat) : Value → Option (List Value × Nat)
  | .slice (some ⟨γ, o, none⟩) m c => match s.heap.get γ with
    | some (.cells _ l E') => match Nat.beq c 1 || Nat.beq E E' with
      | true => (cut l o (m * sz)).map (fun r => (r, m))
      | false => none
    | some (.mk _ l _) => (cut l o (m * sz)).map (fun r => (r, m))
    | _ => none
  | _ => none
theorem srcA_ok (h : Re x ρ s env H) {E sz m : Nat} {v u : Value} {r : List Value} (e : srcA s E sz v = some (r, m)) (hm : 0 < m) (hv : VR ρ v u) : ∃ r', VRs ρ r r' ∧ Src x.F H u m r' ∧ r'.length = m * sz := by
  unfold srcA at e
  split at e
  · split at e
    · rename_i γ o m' _ _ _ l E' hg
      split at e
      · obtain ⟨q, hq, he⟩ := Option.map_eq_some_iff.1 e
        cases he
        obtain ⟨pl, hρ, hor⟩ := VR.slG_inv hv
        obtain ⟨c', rfl, _⟩ := hor.resolve_right (fun ⟨h0, _⟩ => by omega)
        obtain ⟨pl', hρ', pre, l', post, hmm, hsh, hll, _⟩ := h.cells hg
        rw [hρ] at hρ'
        cases hρ'
        obtain ⟨r', hr', hrr⟩ := VRs.cut hll hq
        obtain ⟨hr1, hr2⟩ := cut_eq hr'
        refine ⟨r', hrr, .inr ⟨_, _, rfl, fun w hi j u hu => ?_⟩, by rw [hr1]; simp; omega⟩
        rw [add_lit, cell_of_row w pl.g _ _ _ _ (hmm.heap hi)]
        rw [hr1, List.getElem?_take] at hu
        split at hu
        · rw [List.getElem?_drop] at hu
          rw [List.getElem?_toArray, List.append_assoc, List.getElem?_append_right (by omega), show pl.sh + o + j - pre.length = o + j by omega, List.getElem?_append_left (List.getElem?_eq_some_iff.1 hu).1]
          first | done | exact hu
        · cases hu
      · cases e
    · rename_i γ o m' _ _ _ l E' hg
      obtain ⟨q, hq, he⟩ := Option.map_eq_some_iff.1 e
      cases he
      obtain ⟨pl, hρ, hor⟩ := VR.slG_inv hv
      obtain ⟨c', rfl, _⟩ := hor.resolve_right (fun ⟨h0, _⟩ => by omega)
      obtain ⟨pl', hρ', ob, hmm, pre, l', post, fr, E2, rfl, hsh, hll⟩ := h.heap _ _ hg
      rw [hρ] at hρ'
      cases hρ'
      obtain ⟨r', hr', hrr⟩ := VRs.cut hll hq
      obtain ⟨hr1, hr2⟩ := cut_eq hr'
      refine ⟨r', hrr, .inr ⟨_, _, rfl, fun w hi j u hu => ?_⟩, by rw [hr1]; simp; omega⟩
      rw [add_lit, cell_of_row w pl.g _ _ _ _ (hmm.heap hi)]
      rw [hr1, List.getElem?_take] at hu
      split at hu
      · rw [List.getElem?_drop] at hu
        rw [List.getElem?_toArray, List.append_assoc, List.getElem?_append_right (by omega), show pl.sh + o + j - pre.length = o + j by omega, List.getElem?_append_left (List.getElem?_eq_some_iff.1 hu).1]
        first | done | exact hu
      · cases hu
    · cases e
  · cases e
def rowA (s : AS) (E sz : Nat) : Value → Option (List Value × Option Nat)
  | .slice none 0 0 => some ([], none)
  | .slice (some ⟨β, o, none⟩) n 0 => match s.heap.get β, Nat.blt β 1000000 with
    | some (.cells true l E'), true => match Nat.beq E E' && Nat.beq l.length (o + n * sz) with
      | true => some (l.drop o, some β)
      | false => none
    | _, _ => none
  | _ => none
def fitA (by_ : Nat) (xs news : List Value) : Bool := Nat.ble ((xs.length + news.length) * by_) 140737488355328 && (Nat.ble (xs.length + news.length) 140737488355328 && news.all (·.oneCell'))
def delA (s : AS) : Option Nat → AS
  | none => s
  | some β => { s with heap := s.heap.del β }
def appA (P : Program) (s : AS) (T : TypeId) (p q : Operand) : Option (Value × AS) := match sliceT P T, evA s p, evA s q with
  | some (E, sz, by_), some v, some src => match src with
    | .slice _ 0 _ => match v with
      | .slice _ _ _ => some (v, s)
      | _ => none
    | src => match srcA s E sz src, rowA s E sz v, zeroT P E, lenA v with
      | some (news, m), some (xs, d), some z, some n => match fitA by_ xs news && (Nat.beq z.length sz && (Nat.blt 0 sz && Nat.blt 0 m)) with
        | true => (newA P (delA s d) (xs ++ news) E).map (fun s' => (.slice (some ⟨s.nx, 0, none⟩) (n + m) 0, s'))
        | false => none
      | _, _, _, _ => none
  | _, _, _ => none
/-- the row that is appended to, in memory -/
theorem rowA_ok (h : Re x ρ s env H) {E sz n : Nat} {v u : Value} {xs : List Value} {d : Option Nat} (hsz : (x.P.info? E).map (·.size) = some sz) (hs0 : 0 < sz) (e : rowA s E sz v = some (xs, d)) (hn : lenA v = some n) (hv : VR ρ v u) :
    ∃ xs' hb Hr, VRs ρ xs xs' ∧ OwnS E sz xs' u hb ∧ Sub hb H Hr ∧ Re x ρ (delA s d) env Hr ∧ xs'.length = n * sz := by
  unfold rowA at e
  split at e
  · cases e
    cases hn
    obtain ⟨rfl, _, _⟩ := VR.sl0_inv hv
    exact ⟨[], [], H, .nil, .inl ⟨rfl, rfl, rfl⟩, .nil H, h, by simp⟩
  · rename_i β o n'
    cases hn
    split at e
    · rename_i l E' hg hβ
      have hβ := Nat.le_of_ble_eq_true hβ
      split at e
      · rename_i hb
        cases e
        simp only [Bool.and_eq_true] at hb
        obtain ⟨b1, b2⟩ := hb
        have b1 := beq_true b1
        have b2 := beq_true b2
        subst b1
        obtain ⟨pl, hρ, hor⟩ := VR.slS_inv hv
        obtain ⟨pl', hρ', pre, l', post, hm, hsh, hll, hce, hsz', hcm⟩ := h.cells hg
        rw [hρ] at hρ'
        cases hρ'
        rw [hsz] at hsz'
        cases hsz'
        have hlen := hll.len
        obtain ⟨Hr, hext⟩ := ext1_of hm
        have hre := h.less hρ hext hg hβ
        have hx := hll.drop o
        have hxl : (l'.drop o).length = n * pl.sz := by rw [List.length_drop]; omega
        rcases hor with ⟨c', rfl, hc1, hc2⟩ | ⟨h0, off, rfl, hoff⟩
        · have hcs : n * pl.sz ≤ c' * pl.sz := Nat.mul_le_mul_right _ hc2
          have hsub : (c' - n) * pl.sz = c' * pl.sz - n * pl.sz := Nat.sub_mul _ _ _
          refine ⟨l'.drop o, [(pl.g, _)], Hr, hx, .inr ⟨pl.g, n, c', pre ++ l'.take o, post.take ((c' - n) * pl.sz), post.drop ((c' - n) * pl.sz), ?_, ?_, hxl, hc2, ?_, ?_⟩, .pick hext (.nil _), hre, hxl⟩
          · rw [show (pre ++ l'.take o).length = pl.sh + o by simp; omega]
          · congr 3
            rw [show pre ++ l'.take o ++ l'.drop o ++ post.take ((c' - n) * pl.sz) ++ post.drop ((c' - n) * pl.sz) = pre ++ ((l'.take o ++ l'.drop o) ++ (post.take ((c' - n) * pl.sz) ++ post.drop ((c' - n) * pl.sz))) by simp only [List.append_assoc], List.take_append_drop, List.take_append_drop, List.append_assoc]
          · rw [List.length_take]; omega
          · have : c' * pl.sz ≤ maxLen * pl.sz := by omega
            exact Nat.le_of_mul_le_mul_right this hs0
        · subst h0
          have hdrop : l'.drop o = [] := List.eq_nil_of_length_eq_zero (by rw [hxl]; simp)
          rw [hdrop] at hx hxl
          refine ⟨[], [(pl.g, _)], Hr, hx, .inr ⟨pl.g, 0, 0, (pre ++ l' ++ post).take off, [], (pre ++ l' ++ post).drop off, ?_, ?_, by simp, Nat.le_refl _, by simp, Nat.zero_le _⟩, .pick hext (.nil _), hre, by simp⟩
          · rw [show ((pre ++ l' ++ post).take off).length = off by rw [List.length_take]; simp only [List.length_append]; omega]
          · congr 3
            rw [List.append_nil, List.append_nil, List.take_append_drop]
      · cases e
    · cases e
  · cases e
theorem appA_ok (h : Re x ρ s env H) {T : TypeId} {p q : Operand} {v : Value} {s' : AS} (e : appA x.P s T p q = some (v, s')) : Done x ρ s env H ⟨dst, .call ⟨.builtin .append, #[p, q], #[T, T]⟩, ty, pos, aft, gd⟩ v s' := by
  unfold appA at e
  split at e
  · rename_i E sz by_ v0 src hs hp hq
    have st := sliceT_ok hs
    obtain ⟨u, hu, hvu⟩ := evA_ok h hp
    obtain ⟨w, hw, hww⟩ := evA_ok h hq
    split at e
    · split at e
      · cases e
        obtain ⟨sa, c', rfl, _⟩ := VR.sl_inv hww
        have hcap : ∃ m' n' cc, u = .slice m' n' cc ∧ n' ≤ cc := by
          cases hvu with
          | sl0 => exact ⟨_, _, _, rfl, Nat.le_refl _⟩
          | sl _ _ hc => exact ⟨_, _, _, rfl, hc⟩
          | slE _ _ => exact ⟨_, _, _, rfl, Nat.le_refl _⟩
          | slX _ hc => exact ⟨_, _, _, rfl, hc⟩
          | slY _ _ => exact ⟨_, _, _, rfl, Nat.zero_le _⟩
        obtain ⟨m', n', cc, rfl, hcc⟩ := hcap
        exact ⟨_, Rd.ef (Pu.rd (pu_app0 hu hw hcc)), fun u' H' ⟨e1, e2⟩ _ => ⟨ρ, Le.refl ρ, by rw [e1]; exact hvu, by rw [e2]; exact h⟩⟩
      · cases e
    · split at e
      · rename_i news m xs d z n hsrc hrow hz hn
        split at e
        · rename_i hb
          simp only [Bool.and_eq_true, fitA, Nat.ble_eq] at hb
          obtain ⟨⟨f1, f2, f3⟩, b1, b2, b3⟩ := hb
          have b1 := beq_true b1
          have b3 : 0 < m := Nat.le_of_ble_eq_true b3
          have hs0 : 0 < sz := Nat.le_of_ble_eq_true b2
          obtain ⟨q1, hq1, he⟩ := Option.map_eq_some_iff.1 e
          cases he
          obtain ⟨zt, hzz⟩ := zeroT_ok (ρ := ρ) hz
          have hszE : (x.P.info? E).map (·.size) = some sz := by
            have := st.i
            cases hi : x.P.info? E with
            | none => rw [hi] at this; cases this
            | some i => rw [hi] at this; exact congrArg some (congrArg Prod.fst (Option.some.inj this))
          obtain ⟨r', hrr, hsr, hrl⟩ := srcA_ok h hsrc b3 hww
          obtain ⟨xs', hb', Hr, hxx, hown, hsub, hre, hxl⟩ := rowA_ok h hszE hs0 hrow hn hvu
          have hl1 := hxx.len
          have hl2 := hrr.len
          have hmax : maxLen = 9223372036854775807 := by unfold maxLen; rfl
          refine ⟨_, Ef.app b1 b2 hu hw hown hsub hsr hrl (fun a ha => by have := hrr.ones; rw [f3] at this; exact List.all_eq_true.1 this a ha) (by rw [← hl1, ← hl2]; exact f1) (by omega), fun u' H' ⟨hb2, hown2, hH⟩ nd => ?_⟩
          rcases hown2 with ⟨_, hnil, _⟩ | ⟨g2, n2, cap2, pre2, spare2, post2, rfl, rfl, hlen2, hnc2, hsp2, hcm2⟩
          · exfalso
            have := congrArg List.length hnil
            simp only [List.length_append, List.length_nil] at this
            have : 0 < m * sz := Nat.mul_pos b3 hs0
            omega
          · have hn2 : n2 = n + m := by
              rw [List.length_append, hxl, hrl, ← Nat.add_mul] at hlen2
              exact (Nat.eq_of_mul_eq_mul_right hs0 hlen2).symm
            subst hn2
            unfold newA at hq1
            split at hq1
            · rename_i i hi hnx
              cases hq1
              have hnx : s.nx < 1000000 := by
                have := Nat.le_of_ble_eq_true hnx
                cases d <;> exact this
              have hnxe : (delA s d).nx = s.nx := by cases d <;> rfl
              have hHe : H' = (g2, Obj.cells (pre2 ++ (xs' ++ r') ++ (spare2 ++ post2)).toArray E (0, 0)) :: Hr := by rw [hH]; simp
              rw [hHe] at nd ⊢
              obtain ⟨ρ', h1, h2, h3⟩ := hre.new (E := E) (b := g2) (sz := sz) (ce := pre2.length + cap2 * sz) (pre := pre2) (post := spare2 ++ post2) (hxx.app hrr) List.mem_cons_self (nd_cons nd) (fun q hq => List.mem_cons_of_mem _ hq) nd hszE (by rw [hnxe]; exact hnx) (by
                have : (n + m) * sz ≤ cap2 * sz := Nat.mul_le_mul_right _ hnc2
                rw [hlen2, List.length_append, hsp2, Nat.sub_mul]
                omega) (by have := Nat.mul_le_mul_right sz hcm2; omega)
              rw [hnxe] at h2 h3
              refine ⟨ρ', h1, .sl h2 (by simp) hnc2, by rw [hnxe]; exact h3⟩
            · cases hq1
        · cases e
      · cases e
  · cases e
end
end
end Go.Ev
namespace Go.Ev
open Go Go.Sl
noncomputable section
section
variable {x : Cx} {ρ : Ro} {s : AS} {env : Env} {H : HL} {dst : Option Tmp} {ty : TypeId} {pos : String} {aft : Array Edge} {gd : Option (Nat × Bool)}
/-- a block that is not looked at any more -/
theorem Re.drop (h : Re x ρ s env H) {β : Nat} (hβ : β < 1000000) : Re x ρ { s with heap := s.heap.del β } env H := by
  have k : ∀ {γ q}, (s.heap.del β).get γ = some q → s.heap.get γ = some q := fun {γ q} hq => by
    rw [T.get_del hβ] at hq
    split at hq
    · cases hq
    · exact hq
  exact ⟨h.env, fun γ q hγ => h.heap γ q (k hγ), fun γ δ q q' p p' e1 e2 => h.inj γ δ q q' p p' (k e1) (k e2), h.dom, h.nd, h.gl⟩
theorem VR.map_inv {β : Nat} {u : Value} (h : VR ρ (.map (some β)) u) : ∃ pl, ρ β = some pl ∧ u = .map (some pl.g) := by cases h with | map e => exact ⟨_, e, rfl⟩
theorem mapAt_of {g clk : Nat} {es : List MapEntry} : ∀ {H : HL}, (g, Obj.map es.toArray clk) ∈ H → ∃ k, MapAt g es clk H k
  | [], h => by cases h
  | p :: H, h => by
    rcases List.mem_cons.1 h with rfl | h
    · exact ⟨_, .here⟩
    · obtain ⟨k, hk⟩ := mapAt_of h
      exact ⟨_, .there hk⟩
theorem foc_of {g : Nat} {o : Obj} : ∀ {H : HL}, (g, o) ∈ H → ∃ k, Foc g o H k
  | [], h => by cases h
  | p :: H, h => by
    rcases List.mem_cons.1 h with rfl | h
    · exact ⟨_, .here H⟩
    · obtain ⟨k, hk⟩ := foc_of h
      exact ⟨_, .there p hk⟩
/-- what has changed where one block's object has -/
theorem foc_upd {g : Nat} {o o' : Obj} {H : HL} {k : Obj → HL} (h : Foc g o H k) : (g, o') ∈ k o' ∧ (∀ p ∈ H, p.1 ≠ g → p ∈ k o') ∧ (k o').map (·.1) = H.map (·.1) := by
  obtain ⟨H1, H2, rfl, hk⟩ := h.split
  rw [hk]
  refine ⟨by simp, fun p hp hne => ?_, by simp⟩
  simp only [List.mem_append, List.mem_cons] at hp ⊢
  rcases hp with hp | rfl | hp
  · exact .inl hp
  · exact absurd rfl hne
  · exact .inr (.inr hp)
def mapT (P : Program) (T : TypeId) : Option (TypeId × TypeId × IntKind) := match P.underlying T with
  | some (.map K E) => match P.underlying K with
    | some (.int k) => some (K, E, k)
    | _ => none
  | _ => none
theorem mapT_ok {P : Program} {T K E : TypeId} {k : IntKind} (h : mapT P T = some (K, E, k)) : MapT P T K E ∧ IntT P K k := by
  unfold mapT at h
  split at h
  · rename_i h1
    split at h
    · rename_i h2
      cases h
      exact ⟨⟨h1⟩, ⟨h2⟩⟩
    · cases h
  · cases h
def keysB (k : IntKind) : List MapEntry → Bool
  | [] => true
  | e :: l => match e.key with
    | .int k' _ => match decide (k' = k) with
      | true => keysB k l
      | false => false
    | _ => false
theorem keysB_ok {k : IntKind} {es es' : List MapEntry} (h : keysB k es = true) (r : ERs ρ es es') : keysOk k es' := by
  induction r with
  | nil => exact fun _ h => by cases h
  | cons a r ih =>
    unfold keysB at h
    dsimp only at h
    split at h
    · rename_i hk
      have hk := of_decide_eq_true hk
      subst hk
      intro e he
      rcases List.mem_cons.1 he with rfl | he
      · exact ⟨_, rfl⟩
      · exact ih h e he
    · cases h
/-- an entry's value by its key -/
def findM : List MapEntry → Int → Option Value
  | [], _ => none
  | e :: l, n => match isKey n e with
    | true => some e.val
    | false => findM l n
theorem findM_ok : ∀ {es es' : List MapEntry} {n : Int}, ERs ρ es es' → (findM es n = none ∧ mfind es' n = none) ∨ ∃ v u, findM es n = some v ∧ mfind es' n = some u ∧ VR ρ v u
  | _, _, n, .nil => .inl ⟨rfl, rfl⟩
  | _, _, n, .cons (k := k) (n := m) (v := v) (v' := v') (b := b) (l := l) (l' := l') a r => by
    unfold findM mfind
    cases hk : isKey n ⟨.int k m, v, b⟩ with
    | true =>
      have hk' : isKey n ⟨.int k m, v', b⟩ = true := hk
      exact .inr ⟨v, v', rfl, by rw [List.find?_cons_of_pos hk']; rfl, a⟩
    | false =>
      have hk' : ¬ isKey n ⟨.int k m, v', b⟩ = true := by rw [show isKey n ⟨.int k m, v', b⟩ = false from hk]; simp
      rw [List.find?_cons_of_neg hk']
      exact findM_ok r
def zeroVT (P : Program) (E : TypeId) : Option Value := match (P.info? E).bind (·.zero) with
  | some z => match clearB z with
    | true => some z
    | false => none
  | none => none
theorem zeroVT_ok {P : Program} {E : TypeId} {z : Value} (h : zeroVT P E = some z) : ZeroV P E z ∧ VR ρ z z := by
  unfold zeroVT at h
  split at h
  · rename_i z' hz
    split at h
    · rename_i hc
      cases h
      exact ⟨⟨hz⟩, clear_vr hc⟩
    · cases h
  · cases h
def lkA (P : Program) (s : AS) (T : TypeId) (p q : Operand) (ok : Bool) : Option (Nat × Value) := match evA s p, evA s q, mapT P T with
  | some (.map (some β)), some (.int k n), some (_, E, k') => match s.heap.get β, zeroVT P E with
    | some (.mp _ es _), some z => match decide (k = k') && keysB k' es with
      | true => match findM es n, ok with
        | some v, true => some (β, .tuple ⟨[v, .bool true]⟩)
        | none, true => some (β, .tuple ⟨[z, .bool false]⟩)
        | some v, false => some (β, v)
        | none, false => some (β, z)
      | false => none
    | _, _ => none
  | _, _, _ => none
theorem lkA_okG (h : Re x ρ s env H) {H0 : HL} {T : TypeId} {p q : Operand} {ok : Bool} {β : Nat} {v : Value} (e : lkA x.P s T p q ok = some (β, v)) (hH : ∀ a pl o, s.heap.get β = some a → ρ β = some pl → Has x.F H a.rw pl.g o → Has x.F H0 a.rw pl.g o) : ∃ u, VR ρ v u ∧ Rd x env H0 ⟨dst, .lookup T p q ok, ty, pos, aft, gd⟩ u := by
  unfold lkA at e
  split at e
  · rename_i γ k n K E k' hp hq ht
    obtain ⟨mt, it⟩ := mapT_ok ht
    split at e
    · rename_i rw es clk z hg hz
      obtain ⟨zv, hzz⟩ := zeroVT_ok (ρ := ρ) hz
      split at e
      · rename_i hb
        simp only [Bool.and_eq_true, decide_eq_true_eq] at hb
        obtain ⟨rfl, hkb⟩ := hb
        obtain ⟨u, hu, hv⟩ := evA_ok h hp
        obtain ⟨w, hw, hww⟩ := evA_ok h hq
        obtain ⟨pl, hρ, rfl⟩ := VR.map_inv hv
        cases VR.int_inv hww
        obtain ⟨pl', hρ', ob, hm, es', rfl, hes⟩ := h.heap _ _ hg
        rw [hρ] at hρ'
        cases hρ'
        have hko := keysB_ok hkb hes
        have hrun : γ = β → ∀ a w, Ev x env a → In x.F H0 w → (execOp a.eval ⟨dst, .lookup T p q ok, ty, pos, aft, gd⟩).run x.P w = .ok (.value (if ok then .tuple #[(mfind es' n).getD z, .bool (mfind es' n).isSome] else (mfind es' n).getD z)) w := fun hγ a w he hi => by
          have hh : w.heap[pl.g]? = some (.map es'.toArray clk) := by
            subst hγ
            exact (hH _ pl _ hg hρ hm).heap hi
          cases ok <;> simp [execOp, he.eval hu, he.eval hw, run_lookup_int mt.h it.h zv.h hh hko]
        rcases findM_ok (n := n) hes with ⟨h1, h2⟩ | ⟨v1, u1, h1, h2, h3⟩
        · rw [h1] at e
          rw [h2] at hrun
          cases ok
          · cases e
            exact ⟨_, hzz, ⟨hrun rfl⟩⟩
          · cases e
            exact ⟨_, .tup (.cons hzz (.cons (.bool false) .nil)), ⟨hrun rfl⟩⟩
        · rw [h1] at e
          rw [h2] at hrun
          cases ok
          · cases e
            exact ⟨_, h3, ⟨hrun rfl⟩⟩
          · cases e
            exact ⟨_, .tup (.cons h3 (.cons (.bool true) .nil)), ⟨hrun rfl⟩⟩
      · cases e
    · cases e
  · cases e
theorem has_of {H0 : HL} {a : AO} {g : Nat} {o : Obj} (hH : a.rw = true → H0 = H) (h : Has x.F H a.rw g o) : Has x.F H0 a.rw g o := by
  cases hr : a.rw
  · rw [hr] at h; exact h
  · rw [hr] at h
    rw [hH hr]
    exact h
theorem lkA_ok0 (h : Re x ρ s env H) {H0 : HL} {T : TypeId} {p q : Operand} {ok : Bool} {β : Nat} {v : Value} (e : lkA x.P s T p q ok = some (β, v)) (hH : ∀ a, s.heap.get β = some a → a.rw = true → H0 = H) : ∃ u, VR ρ v u ∧ Rd x env H0 ⟨dst, .lookup T p q ok, ty, pos, aft, gd⟩ u :=
  lkA_okG h e (fun a pl o hg _ hm => has_of (hH a hg) hm)
/-! ### acts -/
def mkMapA (s : AS) : Option (Value × AS) := match Nat.blt s.nx 1000000 with
  | true => some (.map (some s.nx), { s with heap := s.heap.put s.nx (.mp true [] 0), nx := s.nx + 1 })
  | false => none
theorem mkMapA_ok (h : Re x ρ s env H) {T : TypeId} {v : Value} {s' : AS} (e : mkMapA s = some (v, s')) : Done x ρ s env H ⟨dst, .makeMap T none, ty, pos, aft, gd⟩ v s' := by
  unfold mkMapA at e
  split at e
  · rename_i hn
    cases e
    refine ⟨_, Ef.mkMap, fun u H' ⟨b, hu, hH⟩ nd => ?_⟩
    subst hH
    obtain ⟨ρ', h1, h2, h3⟩ := h.newO (pl := ⟨b, 0, 0, 0⟩) (a := .mp true [] 0) rfl (fun _ _ _ => ⟨[], rfl, .nil⟩) List.mem_cons_self (nd_cons nd) (fun q hq => List.mem_cons_of_mem _ hq) nd (Nat.le_of_ble_eq_true hn)
    exact ⟨ρ', h1, by rw [hu]; exact .map h2, h3⟩
  · cases e
theorem ERs.snoc {k : IntKind} {n : Int} {v v' : Value} {b : Nat} (hv : VR ρ v v') : ∀ {l l' : List MapEntry}, ERs ρ l l' → ERs ρ (l ++ [⟨.int k n, v, b⟩]) (l' ++ [⟨.int k n, v', b⟩])
  | _, _, .nil => .cons hv .nil
  | _, _, .cons a r => .cons a (ERs.snoc hv r)
theorem ERs.erase {n : Int} : ∀ {l l' : List MapEntry}, ERs ρ l l' → ERs ρ (l.eraseP (isKey n)) (l'.eraseP (isKey n))
  | _, _, .nil => .nil
  | _, _, .cons (k := k) (n := m) (v := v) (v' := v') (b := b) a r => by
    cases hk : isKey n ⟨.int k m, v, b⟩ with
    | true =>
      rw [List.eraseP_cons_of_pos hk, List.eraseP_cons_of_pos (show isKey n ⟨.int k m, v', b⟩ = true from hk)]
      exact r
    | false =>
      rw [List.eraseP_cons_of_neg (by rw [hk]; simp), List.eraseP_cons_of_neg (by rw [show isKey n ⟨.int k m, v', b⟩ = false from hk]; simp)]
      exact .cons a (ERs.erase r)
def muA (P : Program) (s : AS) (T : TypeId) (p q r : Operand) : Option (Value × AS) := match evA s p, evA s q, evA s r, mapT P T with
  | some (.map (some β)), some (.int k n), some v, some (_, _, k') => match s.heap.get β, Nat.blt β 1000000 with
    | some (.mp true es clk), true => match decide (k = k') && keysB k' es, findM es n with
      | true, none => some (undef, { s with heap := s.heap.put β (.mp true (es ++ [⟨.int k n, v, clk⟩]) (clk + 1)) })
      | _, _ => none
    | _, _ => none
  | _, _, _, _ => none
theorem muA_ok (h : Re x ρ s env H) {T : TypeId} {p q r : Operand} {v : Value} {s' : AS} (e : muA x.P s T p q r = some (v, s')) : Done x ρ s env H ⟨dst, .mapUpdate T p q r, ty, pos, aft, gd⟩ v s' := by
  unfold muA at e
  split at e
  · rename_i β k n v0 K E k' hp hq hr ht
    obtain ⟨mt, it⟩ := mapT_ok ht
    split at e
    · rename_i es clk hg hβ
      have hβ := Nat.le_of_ble_eq_true hβ
      split at e
      · rename_i hb hf
        simp only [Bool.and_eq_true, decide_eq_true_eq] at hb
        obtain ⟨rfl, hkb⟩ := hb
        cases e
        obtain ⟨u, hu, hv⟩ := evA_ok h hp
        obtain ⟨w, hw, hww⟩ := evA_ok h hq
        obtain ⟨y, hy, hyy⟩ := evA_ok h hr
        obtain ⟨pl, hρ, rfl⟩ := VR.map_inv hv
        cases VR.int_inv hww
        obtain ⟨pl', hρ', ob, hm, es', rfl, hes⟩ := h.heap _ _ hg
        rw [hρ] at hρ'
        cases hρ'
        obtain ⟨kk, hkk⟩ := mapAt_of (show (pl.g, _) ∈ H from hm)
        have hnone : mfind es' n = none := by
          rcases findM_ok (n := n) hes with ⟨_, h2⟩ | ⟨v1, u1, h1, _, _⟩
          · exact h2
          · rw [hf] at h1; cases h1
        refine ⟨_, Ef.mu_new hu hw hy hkk (keysB_ok hkb hes) hnone, fun u' H' ⟨e1, e2⟩ _ => ⟨ρ, Le.refl ρ, by rw [e1]; exact clear_vr (by unfold undef; rfl), ?_⟩⟩
        subst e2
        obtain ⟨h2, h3, h4⟩ := foc_upd (o' := .map (es' ++ [MapEntry.mk (.int k n) y clk]).toArray (clk + 1)) hkk.foc
        exact h.updO hg hρ rfl ⟨_, rfl, hes.snoc hyy⟩ h2 h3 h4 hβ
      · cases e
    · cases e
  · cases e
def delM (P : Program) (s : AS) (T : TypeId) (p q : Operand) : Option (Value × AS) := match evA s p, evA s q, mapT P T with
  | some (.map (some β)), some (.int k n), some (_, _, k') => match s.heap.get β, Nat.blt β 1000000 with
    | some (.mp true es clk), true => match decide (k = k') && keysB k' es with
      | true => some (undef, { s with heap := s.heap.put β (.mp true (es.eraseP (isKey n)) clk) })
      | false => none
    | _, _ => none
  | _, _, _ => none
theorem delM_ok (h : Re x ρ s env H) {T KT : TypeId} {p q : Operand} {v : Value} {s' : AS} (e : delM x.P s T p q = some (v, s')) : Done x ρ s env H ⟨dst, .call ⟨.builtin .delete, #[p, q], #[T, KT]⟩, ty, pos, aft, gd⟩ v s' := by
  unfold delM at e
  split at e
  · rename_i β k n K E k' hp hq ht
    obtain ⟨mt, it⟩ := mapT_ok ht
    split at e
    · rename_i es clk hg hβ
      have hβ := Nat.le_of_ble_eq_true hβ
      split at e
      · rename_i hb
        simp only [Bool.and_eq_true, decide_eq_true_eq] at hb
        obtain ⟨rfl, hkb⟩ := hb
        cases e
        obtain ⟨u, hu, hv⟩ := evA_ok h hp
        obtain ⟨w, hw, hww⟩ := evA_ok h hq
        obtain ⟨pl, hρ, rfl⟩ := VR.map_inv hv
        cases VR.int_inv hww
        obtain ⟨pl', hρ', ob, hm, es', rfl, hes⟩ := h.heap _ _ hg
        rw [hρ] at hρ'
        cases hρ'
        obtain ⟨kk, hkk⟩ := mapAt_of (show (pl.g, _) ∈ H from hm)
        refine ⟨_, Ef.del hu hw hkk (keysB_ok hkb hes), fun u' H' ⟨e1, e2⟩ _ => ⟨ρ, Le.refl ρ, by rw [e1]; exact .tup .nil, ?_⟩⟩
        subst e2
        obtain ⟨h2, h3, h4⟩ := foc_upd (o' := .map (es'.eraseP (isKey n)).toArray clk) hkk.foc
        exact h.updO hg hρ rfl ⟨_, rfl, hes.erase⟩ h2 h3 h4 hβ
      · cases e
    · cases e
  · cases e
/-! ### walks -/
def rngA (P : Program) (s : AS) (T : TypeId) (p : Operand) : Option (Value × AS) := match evA s p, mapT P T, Nat.blt s.nx 1000000 with
  | some (.map (some β)), some _, true => match s.heap.get β with
    | some (.mp true _ clk) => some (.pointer (some ⟨s.nx, 0, none⟩), { s with heap := s.heap.put s.nx (.it true β clk [] clk), nx := s.nx + 1 })
    | _ => none
  | _, _, _ => none
theorem rngA_ok (h : Re x ρ s env H) {T : TypeId} {p : Operand} {v : Value} {s' : AS} (e : rngA x.P s T p = some (v, s')) : Done x ρ s env H ⟨dst, .range T p, ty, pos, aft, gd⟩ v s' := by
  unfold rngA at e
  split at e
  · rename_i β q hp ht hn
    obtain ⟨K, E, k⟩ := q
    obtain ⟨mt, _⟩ := mapT_ok ht
    split at e
    · rename_i es clk hg
      cases e
      obtain ⟨u, hu, hv⟩ := evA_ok h hp
      obtain ⟨pl, hρ, rfl⟩ := VR.map_inv hv
      obtain ⟨pl', hρ', ob, hm, es', rfl, hes⟩ := h.heap _ _ hg
      rw [hρ] at hρ'
      cases hρ'
      obtain ⟨kk, hkk⟩ := mapAt_of (show (pl.g, _) ∈ H from hm)
      refine ⟨_, Ef.rng hu hkk, fun u' H' ⟨b, e1, e2⟩ nd => ?_⟩
      subst e2
      obtain ⟨ρ', h1, h2, h3⟩ := h.newO (pl := ⟨b, 0, 0, 0⟩) (a := .it true β clk [] clk) rfl (fun ρ' hl _ => ⟨rfl, pl, hl _ _ hρ, rfl⟩) List.mem_cons_self (nd_cons nd) (fun q hq => List.mem_cons_of_mem _ hq) nd (Nat.le_of_ble_eq_true hn)
      exact ⟨ρ', h1, by rw [e1]; exact VR.ptr (o := 0) h2, h3⟩
    · cases e
  · cases e
def bornIn (l : List Nat) (b : Nat) : Bool := l.any (Nat.beq b)
theorem bornIn_iff {l : List Nat} {b : Nat} : bornIn l b = true ↔ b ∈ l := by
  unfold bornIn
  rw [List.any_eq_true]
  exact ⟨fun ⟨y, h1, h2⟩ => by rw [beq_true h2]; exact h1, fun h => ⟨b, h, Nat.beq_refl b⟩⟩
/-- the entries that were not given yet -/
def unseen (seen : List Nat) : List MapEntry → List MapEntry
  | [] => []
  | e :: l => match bornIn seen e.born with
    | true => unseen seen l
    | false => e :: unseen seen l
theorem ERs.bwd : ∀ {l l' : List MapEntry}, ERs ρ l l' → ∀ e' ∈ l', ∃ e ∈ l, e'.key = e.key ∧ e'.born = e.born ∧ VR ρ e.key e'.key ∧ VR ρ e.val e'.val
  | _, _, .nil, _, h => by cases h
  | _, _, .cons a r, e', h => by
    rcases List.mem_cons.1 h with rfl | h
    · exact ⟨_, List.mem_cons_self, rfl, rfl, .int _ _, a⟩
    · obtain ⟨e, h1, h2⟩ := r.bwd e' h
      exact ⟨e, List.mem_cons_of_mem _ h1, h2⟩
theorem ERs.fwd : ∀ {l l' : List MapEntry}, ERs ρ l l' → ∀ e ∈ l, ∃ e' ∈ l', e'.born = e.born
  | _, _, .nil, _, h => by cases h
  | _, _, .cons a r, e, h => by
    rcases List.mem_cons.1 h with rfl | h
    · exact ⟨_, List.mem_cons_self, rfl⟩
    · obtain ⟨e', h1, h2⟩ := r.fwd e h
      exact ⟨e', List.mem_cons_of_mem _ h1, h2⟩
theorem mem_unseen {seen : List Nat} {e : MapEntry} : ∀ {l : List MapEntry}, e ∈ unseen seen l ↔ e ∈ l ∧ e.born ∉ seen
  | [] => by simp [unseen]
  | q :: l => by
    unfold unseen
    cases hb : bornIn seen q.born with
    | true =>
      have := bornIn_iff.1 hb
      dsimp only
      rw [mem_unseen, List.mem_cons]
      exact ⟨fun ⟨a, b⟩ => ⟨.inr a, b⟩, fun ⟨a, b⟩ => ⟨a.resolve_left (fun e => b (by rw [e]; exact this)), b⟩⟩
    | false =>
      have hn : q.born ∉ seen := fun h => by rw [bornIn_iff.2 h] at hb; cases hb
      dsimp only
      rw [List.mem_cons, mem_unseen, List.mem_cons]
      exact ⟨fun h => by rcases h with rfl | ⟨a, b⟩; exact ⟨.inl rfl, hn⟩; exact ⟨.inr a, b⟩, fun ⟨a, b⟩ => by rcases a with rfl | a; exact .inl rfl; exact .inr ⟨a, b⟩⟩
/-- a step of a walk: all ways -/
def nxtA (s : AS) (p : Operand) : Option (List (Value × AS)) := match evA s p with
  | some (.pointer (some ⟨γ, 0, none⟩)) => match s.heap.get γ, Nat.blt γ 1000000 with
    | some (.it true β since seen last), true => match s.heap.get β with
      | some (.mp true es clk) => match Nat.beq since clk && (es.all (fun e => Nat.blt e.born clk) && (seen.isEmpty || Nat.beq last clk)) with
        | true => match unseen seen es with
          | [] => some [(.tuple ⟨[.bool false]⟩, { s with heap := s.heap.del γ })]
          | l => some (l.map (fun e => (.tuple ⟨[.bool true, e.key, e.val]⟩, { s with heap := s.heap.put γ (.it true β clk (seen ++ [e.born]) clk) })))
        | false => none
      | _ => none
    | _, _ => none
  | _ => none
theorem nxtA_ok (h : Re x ρ s env H) {p : Operand} {l : List (Value × AS)} (e : nxtA s p = some l) :
    ∃ R, Ef x env H ⟨dst, .next p false, ty, pos, aft, gd⟩ R ∧ ∀ u H', R u H' → Okh x.F H' → ∃ r ∈ l, VR ρ r.1 u ∧ Re x ρ r.2 env H' := by
  unfold nxtA at e
  split at e
  · rename_i γ hp
    obtain ⟨w, hw, hb⟩ := evA_ok h hp
    obtain ⟨pi, hρi, rfl⟩ := VR.ptrS_inv hb
    split at e
    · rename_i β since seen last hgi hγ
      have hγ := Nat.le_of_ble_eq_true hγ
      split at e
      · rename_i es clk hg
        split at e
        · rename_i hc
          simp only [Bool.and_eq_true, Bool.or_eq_true, List.all_eq_true] at hc
          obtain ⟨c1, c2, c3⟩ := hc
          have c1 := beq_true c1
          subst c1
          obtain ⟨pi', hρi', oi, hmi, hsh, pm, hρm, rfl⟩ := h.heap _ _ hgi
          rw [hρi] at hρi'
          cases hρi'
          obtain ⟨pm', hρm', om, hmm, es', rfl, hes⟩ := h.heap _ _ hg
          rw [hρm] at hρm'
          cases hρm'
          obtain ⟨k1, hk1⟩ := foc_of (show (pi.g, _) ∈ H from hmi)
          obtain ⟨k2, hk2⟩ := mapAt_of (show (pm.g, _) ∈ H from hmm)
          have hold : ∀ e ∈ es', e.born < since := fun e' he' => by
            obtain ⟨e, h1, _, h3, _⟩ := hes.bwd e' he'
            rw [h3]
            exact Nat.le_of_ble_eq_true (c2 e h1)
          have hlast : seen = [] ∨ last = since := by
            rcases c3 with c3 | c3
            · exact .inl (List.isEmpty_iff.1 c3)
            · exact .inr (beq_true c3)
          rw [hsh] at hw
          refine ⟨_, Ef.nxt hw hk1 hk2 hold hlast, fun u H' hR _ => ?_⟩
          rcases hR with ⟨h1, rfl, rfl⟩ | ⟨e', he', hns, rfl, rfl⟩
          · have hnil : unseen seen es = [] := by
              cases hu : unseen seen es with
              | nil => rfl
              | cons q r =>
                exfalso
                have hq : q ∈ unseen seen es := by rw [hu]; exact List.mem_cons_self
                obtain ⟨h2, h3⟩ := mem_unseen.1 hq
                obtain ⟨q', h4, h5⟩ := hes.fwd q h2
                exact h3 (by rw [← h5]; exact h1 q' h4)
            rw [hnil] at e
            cases e
            exact ⟨_, List.mem_cons_self, .tup (.cons (.bool false) .nil), h.drop hγ⟩
          · obtain ⟨q, hq, hk, hbn, hvk, hvv⟩ := hes.bwd e' he'
            have hqu : q ∈ unseen seen es := mem_unseen.2 ⟨hq, by rw [← hbn]; exact hns⟩
            split at e
            · rename_i hnil
              rw [hnil] at hqu
              cases hqu
            · cases e
              refine ⟨_, List.mem_map.2 ⟨q, hqu, rfl⟩, .tup (.cons (.bool true) (.cons hvk (.cons hvv .nil))), ?_⟩
              obtain ⟨h2, h3, h4⟩ := foc_upd (o' := .mapIter (some pm.g) since (seen ++ [e'.born]).toArray since) hk1
              exact h.updO hgi hρi rfl ⟨hsh, pm, hρm, by rw [hbn]⟩ h2 h3 h4 hγ
        · cases e
      · cases e
    · cases e
  · cases e
def lastB : List Nat → Option Nat
  | [] => none
  | [b] => some b
  | _ :: l => lastB l
theorem lastB_ok : ∀ {l : List Nat} {b : Nat}, lastB l = some b → ∃ l0, l = l0 ++ [b]
  | [b], _, h => by cases h; exact ⟨[], rfl⟩
  | a :: c :: l, b, h => by
    obtain ⟨l0, h1⟩ := lastB_ok (l := c :: l) (b := b) h
    exact ⟨a :: l0, by rw [h1]; rfl⟩
def findB (b : Nat) : List MapEntry → Option MapEntry
  | [] => none
  | e :: l => match Nat.beq e.born b with
    | true => some e
    | false => findB b l
def nodupB : List MapEntry → Bool
  | [] => true
  | e :: l => match l.any (fun q => Nat.beq q.born e.born) with
    | true => false
    | false => nodupB l
theorem ERs.borns : ∀ {l l' : List MapEntry}, ERs ρ l l' → l'.map (·.born) = l.map (·.born)
  | _, _, .nil => rfl
  | _, _, .cons a r => by rw [List.map_cons, List.map_cons, r.borns]
theorem nodupB_ok : ∀ {l : List MapEntry}, nodupB l = true → (l.map (·.born)).Nodup
  | [], _ => List.nodup_nil
  | e :: l, h => by
    unfold nodupB at h
    split at h
    · cases h
    · rename_i h1
      rw [List.map_cons, List.nodup_cons]
      refine ⟨fun hm => ?_, nodupB_ok h⟩
      obtain ⟨q, hq, he⟩ := List.mem_map.1 hm
      have : l.any (fun q => Nat.beq q.born e.born) = true := List.any_eq_true.2 ⟨q, hq, by rw [he]; exact Nat.beq_refl _⟩
      rw [this] at h1
      cases h1
theorem findB_ok {b : Nat} : ∀ {l l' : List MapEntry}, ERs ρ l l' → ∀ {e : MapEntry}, findB b l = some e → ∃ e' ∈ l', e'.born = b ∧ VR ρ e.key e'.key ∧ VR ρ e.val e'.val
  | _, _, .nil, _, h => by cases h
  | _, _, .cons a r, e, h => by
    unfold findB at h
    split at h
    · rename_i hb
      cases h
      exact ⟨_, List.mem_cons_self, beq_true hb, .int _ _, a⟩
    · obtain ⟨e', h1, h2⟩ := findB_ok r h
      exact ⟨e', List.mem_cons_of_mem _ h1, h2⟩
def entA (s : AS) (p : Operand) : Option Value := match evA s p with
  | some (.pointer (some ⟨γ, 0, none⟩)) => match s.heap.get γ with
    | some (.it true β _ seen last) => match s.heap.get β, lastB seen with
      | some (.mp true es clk), some b => match Nat.beq last clk && nodupB es, findB b es with
        | true, some e => some (.tuple ⟨[e.key, e.val]⟩)
        | _, _ => none
      | _, _ => none
    | _ => none
  | _ => none
theorem entA_ok (h : Re x ρ s env H) {p : Operand} {v : Value} (e : entA s p = some v) : ∃ u, VR ρ v u ∧ Rd x env H ⟨dst, .entry p, ty, pos, aft, gd⟩ u := by
  unfold entA at e
  split at e
  · rename_i γ hp
    obtain ⟨w, hw, hb⟩ := evA_ok h hp
    obtain ⟨pi, hρi, rfl⟩ := VR.ptrS_inv hb
    split at e
    · rename_i β since seen last hgi
      split at e
      · rename_i es clk b hg hl
        split at e
        · rename_i q hc hf
          cases e
          simp only [Bool.and_eq_true] at hc
          obtain ⟨c1, c2⟩ := hc
          have c1 := beq_true c1
          subst c1
          obtain ⟨pi', hρi', oi, hmi, hsh, pm, hρm, rfl⟩ := h.heap _ _ hgi
          rw [hρi] at hρi'
          cases hρi'
          obtain ⟨pm', hρm', om, hmm, es', rfl, hes⟩ := h.heap _ _ hg
          rw [hρm] at hρm'
          cases hρm'
          obtain ⟨k1, hk1⟩ := foc_of (show (pi.g, _) ∈ H from hmi)
          obtain ⟨k2, hk2⟩ := mapAt_of (show (pm.g, _) ∈ H from hmm)
          obtain ⟨e', he', hbn, hvk, hvv⟩ := findB_ok hes hf
          obtain ⟨l0, rfl⟩ := lastB_ok hl
          rw [hsh] at hw
          subst hbn
          exact ⟨_, .tup (.cons hvk (.cons hvv .nil)), Rd.ent hw hk1 hk2 he' (by rw [hes.borns]; exact nodupB_ok c2)⟩
        · cases e
      · cases e
    · cases e
  · cases e
end
end
end Go.Ev
namespace Go.Ev
open Go Go.Sl
noncomputable section
def eqL {α : Type} (f : α → α → Bool) : List α → List α → Bool
  | [], [] => true
  | a :: l, b :: m => match f a b with
    | true => eqL f l m
    | false => false
  | _, _ => false
theorem eqL_ok {α : Type} {f : α → α → Bool} (hf : ∀ a b, f a b = true → a = b) : ∀ {l m : List α}, eqL f l m = true → l = m
  | [], [], _ => rfl
  | a :: l, b :: m, h => by
    unfold eqL at h
    split at h
    · rename_i h1
      rw [hf a b h1, eqL_ok hf h]
    · cases h
  | [], _ :: _, h => by cases h
  | _ :: _, [], h => by cases h
def eqB : Bool → Bool → Bool
  | true, true => true
  | false, false => true
  | _, _ => false
theorem eqB_ok {a b : Bool} (h : eqB a b = true) : a = b := by cases a <;> cases b <;> first | rfl | cases h
def eqV : Nat → Value → Value → Bool
  | 0, _, _ => false
  | n + 1, a, b => match a, b with
    | .bool a, .bool b => eqB a b
    | .int k a, .int k' b => decide (k = k') && decide (a = b)
    | .string a, .string b => decide (a = b)
    | .nilFunc, .nilFunc => true
    | .nilIface, .nilIface => true
    | .pointer none, .pointer none => true
    | .pointer (some ⟨b, o, none⟩), .pointer (some ⟨b', o', none⟩) => Nat.beq b b' && Nat.beq o o'
    | .slice none n c, .slice none n' c' => Nat.beq n n' && Nat.beq c c'
    | .slice (some ⟨b, o, none⟩) n c, .slice (some ⟨b', o', none⟩) n' c' => (Nat.beq b b' && Nat.beq o o') && (Nat.beq n n' && Nat.beq c c')
    | .map none, .map none => true
    | .map (some b), .map (some b') => Nat.beq b b'
    | .func (.func f) ⟨a⟩ ⟨c⟩, .func (.func f') ⟨a'⟩ ⟨c'⟩ => Nat.beq f f' && (eqL (eqV n) a a' && eqL (eqV n) c c')
    | .iface t v, .iface t' v' => Nat.beq t t' && eqV n v v'
    | .agg ⟨l⟩, .agg ⟨l'⟩ => eqL (eqV n) l l'
    | .tuple ⟨l⟩, .tuple ⟨l'⟩ => eqL (eqV n) l l'
    | _, _ => false
theorem eqV_ok : ∀ (n : Nat) (a b : Value), eqV n a b = true → a = b
  | 0, _, _, h => by cases h
  | n + 1, a, b, h => by
    unfold eqV at h
    split at h <;> (try simp only [Bool.and_eq_true, decide_eq_true_eq] at h)
    · rw [eqB_ok h]
    · rw [h.1, h.2]
    · rw [h]
    · rfl
    · rfl
    · rfl
    · rw [beq_true h.1, beq_true h.2]
    · rw [beq_true h.1, beq_true h.2]
    · rw [beq_true h.1.1, beq_true h.1.2, beq_true h.2.1, beq_true h.2.2]
    · rfl
    · rw [beq_true h]
    · rw [beq_true h.1, eqL_ok (eqV_ok n) h.2.1, eqL_ok (eqV_ok n) h.2.2]
    · rw [beq_true h.1, eqV_ok n _ _ h.2]
    · rw [eqL_ok (eqV_ok n) h]
    · rw [eqL_ok (eqV_ok n) h]
    · cases h
def eqE (a b : MapEntry) : Bool := (eqV 9 a.key b.key && eqV 9 a.val b.val) && Nat.beq a.born b.born
theorem eqE_ok (a b : MapEntry) (h : eqE a b = true) : a = b := by
  obtain ⟨k, v, n⟩ := a
  obtain ⟨k', v', n'⟩ := b
  simp only [eqE, Bool.and_eq_true] at h
  rw [eqV_ok 9 k k' h.1.1, eqV_ok 9 v v' h.1.2, beq_true h.2]
def eqA : AO → AO → Bool
  | .cells rw l E, .cells rw' l' E' => eqB rw rw' && (Nat.beq E E' && eqL (eqV 9) l l')
  | .mp rw es c, .mp rw' es' c' => eqB rw rw' && (Nat.beq c c' && eqL eqE es es')
  | .it rw m a l c, .it rw' m' a' l' c' => (eqB rw rw' && Nat.beq m m') && ((Nat.beq a a' && Nat.beq c c') && eqL Nat.beq l l')
  | .mk rw l E, .mk rw' l' E' => eqB rw rw' && (Nat.beq E E' && eqL (eqV 9) l l')
  | _, _ => false
theorem eqA_ok (a b : AO) (h : eqA a b = true) : a = b := by
  unfold eqA at h
  split at h <;> (try simp only [Bool.and_eq_true] at h)
  · rw [eqB_ok h.1, beq_true h.2.1, eqL_ok (eqV_ok 9) h.2.2]
  · rw [eqB_ok h.1, beq_true h.2.1, eqL_ok eqE_ok h.2.2]
  · rw [eqB_ok h.1.1, beq_true h.1.2, beq_true h.2.1.1, beq_true h.2.1.2, eqL_ok (fun _ _ => beq_true) h.2.2]
  · rw [eqB_ok h.1, beq_true h.2.1, eqL_ok (eqV_ok 9) h.2.2]
  · cases h
def eqO : Option AO → Option AO → Bool
  | none, none => true
  | some a, some b => eqA a b
  | _, _ => false
theorem eqO_ok {a b : Option AO} (h : eqO a b = true) : a = b := by
  unfold eqO at h
  split at h
  · rfl
  · rw [eqA_ok _ _ h]
  · cases h
def eqT : T AO → T AO → Bool
  | .e, .e => true
  | .n l v r, .n l' v' r' => eqO v v' && (eqT l l' && eqT r r')
  | _, _ => false
theorem eqT_ok : ∀ {a b : T AO}, eqT a b = true → a = b
  | .e, .e, _ => rfl
  | .n l v r, .n l' v' r', h => by
    simp only [eqT, Bool.and_eq_true] at h
    rw [eqO_ok h.1, eqT_ok h.2.1, eqT_ok h.2.2]
  | .e, .n _ _ _, h => by cases h
  | .n _ _ _, .e, h => by cases h
/-- two answers are the same -/
def eqR (a b : Value × AS) : Bool := (eqV 9 a.1 b.1 && eqT a.2.heap b.2.heap) && (Nat.beq a.2.nx b.2.nx && Nat.beq a.2.gn b.2.gn)
theorem eqR_ok {v v' : Value} {s s' : AS} (h : eqR (v, s) (v', s') = true) : v = v' ∧ { s with env := .e } = { s' with env := .e } := by
  simp only [eqR, Bool.and_eq_true] at h
  refine ⟨eqV_ok 9 v v' h.1.1, ?_⟩
  rw [eqT_ok h.1.2, beq_true h.2.1, beq_true h.2.2]
/-! ### several ways -/
def bindL {α β : Type} (f : α → Option (List β)) : List α → Option (List β)
  | [] => some []
  | a :: l => match l with
    | [] => f a
    | l => match f a, bindL f l with
      | some r, some q => some (r ++ q)
      | _, _ => none
theorem bindL_ok {α β : Type} {f : α → Option (List β)} : ∀ {l : List α} {r : List β}, bindL f l = some r → ∀ a ∈ l, ∃ q, f a = some q ∧ ∀ b ∈ q, b ∈ r
  | [], _, _, _, h => by cases h
  | a :: l, r, h, c, hc => by
    unfold bindL at h
    split at h
    · rcases List.mem_cons.1 hc with rfl | hc
      · exact ⟨r, h, fun _ h => h⟩
      · cases hc
    · split at h
      · rename_i r1 q1 h1 h2
        cases h
        rcases List.mem_cons.1 hc with rfl | hc
        · exact ⟨r1, h1, fun b hb => List.mem_append_left _ hb⟩
        · obtain ⟨q, h3, h4⟩ := bindL_ok h2 c hc
          exact ⟨q, h3, fun b hb => List.mem_append_right _ (h4 b hb)⟩
      · cases h
end
end Go.Ev
namespace Go.Ev
open Go Go.Sl
noncomputable section
section
variable {x : Cx} {ρ : Ro} {s : AS} {env : Env} {H : HL} {dst : Option Tmp} {ty : TypeId} {pos : String} {aft : Array Edge} {gd : Option (Nat × Bool)}
theorem Ef.cpB {T T' E by_ : Nat} {p q : Operand} {news : List Value} {g o n c g2 o2 m c2 : Nat} {H1 : HL} [st : SliceT x.P T E 1 by_]
    (hp : ev env p = some (.slice (some ⟨g, o, none⟩) n c)) (hq : ev env q = some (.slice (some ⟨g2, o2, none⟩) m c2)) (hl : news.length = Nat.min m n) (hcan : Sl.Can x.F H g2 o2 news) (hput : PutAt g o news H H1) (h1 : ∀ u ∈ news, u.oneCell' = true) :
    Ef x env H ⟨dst, .call ⟨.builtin .copy, #[p, q], #[T, T']⟩, ty, pos, aft, gd⟩ (fun v' H' => v' = .int .i64 (news.length : Nat) ∧ H' = H1) := ⟨fun a w he hi => by
  obtain ⟨i, hinf, hsz, _⟩ := info_sl st
  obtain ⟨l, r, T2, k, hf, hspl, rfl⟩ := hput.foc
  have hg := hf.heap hi
  obtain ⟨hr, hfit⟩ := splice_eq hspl
  have hrun := run_copy_row (P := x.P) w T T' ty E g o n c ⟨g2, o2, none⟩ m c2 l.toArray T2 news st.h (by rw [hinf]; simp [hsz]) hg hl
    (fun j v hv => by rw [add_lit]; exact hcan w hi j v hv) (by simpa using hfit) h1
  have hrr : (l.take o ++ news ++ l.drop (o + news.length)) = r := by rw [hr]
  simp only [] at hrun
  rw [hrr] at hrun
  have hupd : Upd w (w.setRow g r.toArray) g (.cells r.toArray T2 (0, 0)) := Upd.setRow hg
  refine yields_of_run (v := .int .i64 (news.length : Nat)) (w' := w.setRow g r.toArray) ?_ ⟨k (.cells r.toArray T2 (0, 0)), ⟨rfl, rfl⟩, hi.upd hf hupd, hupd.same⟩
  simp only [execOp, resolve, invoke, builtin, List.map_toArray, List.map_cons, List.map_nil, he.eval hp, he.eval hq, Sem.run_bind, Sem.run_pure, Result.andThen_ok, hrun]
  rfl⟩
def cpR (P : Program) (s : AS) (T : TypeId) (p q : Operand) : Option (Value × AS) := match evA s p, evA s q, sliceT P T with
  | some (.slice (some ⟨β, o, none⟩) n _), some (.slice (some ⟨γ, o2, none⟩) m _), some (_, 1, _) => match s.heap.get γ, s.heap.get β, Nat.blt 0 (Nat.min m n) && Nat.blt β 1000000 with
    | some (.cells _ l2 _), some (.cells true l E), true => match cut l2 o2 (Nat.min m n) with
      | some r => match r.all (·.oneCell'), spliceK l o r some with
        | true, some l' => some (.int .i64 (r.length : Nat), { s with heap := s.heap.put β (.cells true l' E) })
        | _, _ => none
      | none => none
    | _, _, _ => none
  | _, _, _ => none
theorem cpR_ok (h : Re x ρ s env H) {T T' : TypeId} {p q : Operand} {v : Value} {s' : AS} (e : cpR x.P s T p q = some (v, s')) : Done x ρ s env H ⟨dst, .call ⟨.builtin .copy, #[p, q], #[T, T']⟩, ty, pos, aft, gd⟩ v s' := by
  unfold cpR at e
  split at e
  · rename_i β o n _ γ o2 m _ E1 by_ hp hq ht
    have st := sliceT_ok ht
    split at e
    · rename_i rw2 l2 E2 l E hg2 hg hb
      simp only [Bool.and_eq_true] at hb
      have hpos := Nat.le_of_ble_eq_true hb.1
      have hβ := Nat.le_of_ble_eq_true hb.2
      have hm0 : Nat.min m n ≤ m := Nat.min_le_left m n
      have hn0 : Nat.min m n ≤ n := Nat.min_le_right m n
      split at e
      · rename_i r hr
        split at e
        · rename_i l' hones hspl
          cases e
          obtain ⟨u, hu, hv⟩ := evA_ok h hp
          obtain ⟨w, hw, hww⟩ := evA_ok h hq
          obtain ⟨pl, hρ, hor⟩ := VR.slG_inv hv
          obtain ⟨c1, rfl, _⟩ := hor.resolve_right (fun ⟨h0, _⟩ => by omega)
          obtain ⟨pl2, hρ2, hor2⟩ := VR.slG_inv hww
          obtain ⟨c2, rfl, _⟩ := hor2.resolve_right (fun ⟨h0, _⟩ => by omega)
          obtain ⟨pl2', hρ2', pre, k2, post, hm, hsh, hll, _⟩ := h.cells hg2
          rw [hρ2] at hρ2'
          cases hρ2'
          obtain ⟨r', hr', hrr⟩ := VRs.cut hll hr
          obtain ⟨hr1, hr2⟩ := cut_eq hr'
          have hlen := hrr.len
          have hrl : r'.length = Nat.min m n := by rw [hr1, List.length_take, List.length_drop]; omega
          obtain ⟨H1, hput, hre⟩ := h.upd hg hρ hspl hrr hβ
          have hcan : Sl.Can x.F H pl2.g (pl2.sh + o2) r' := can_of hm (fun j q hq => by
            rw [hr1, List.getElem?_take] at hq
            split at hq
            · rw [List.getElem?_drop] at hq
              rw [List.append_assoc, List.getElem?_append_right (by omega), ← hsh, show pre.length + o2 + j - pre.length = o2 + j by omega, List.getElem?_append_left (List.getElem?_eq_some_iff.1 hq).1]
              first | done | exact hq
            · cases hq)
          refine ⟨_, Ef.cpB hu hw hrl hcan hput (fun a ha => by have := hrr.ones; rw [hones] at this; exact List.all_eq_true.1 this a ha), fun u' H' ⟨e1, e2⟩ _ => ⟨ρ, Le.refl ρ, by rw [e1, hlen]; exact .int _ _, by rw [e2]; exact hre⟩⟩
        · cases e
      · cases e
    · cases e
  · cases e
/-- nothing to copy -/
def cp0 (P : Program) (s : AS) (T : TypeId) (p q : Operand) : Option (Value × AS) := match evA s p, evA s q, sliceT P T with
  | some (.slice _ n _), some (.slice _ m _), some (_, 1, _) => match Nat.beq (Nat.min m n) 0 with
    | true => some (.int .i64 0, s)
    | false => none
  | _, _, _ => none
theorem cp0_ok (h : Re x ρ s env H) {T T' : TypeId} {p q : Operand} {v : Value} {s' : AS} (e : cp0 x.P s T p q = some (v, s')) : Done x ρ s env H ⟨dst, .call ⟨.builtin .copy, #[p, q], #[T, T']⟩, ty, pos, aft, gd⟩ v s' := by
  unfold cp0 at e
  split at e
  · rename_i d n c a m c2 E by_ hp hq ht
    have st := sliceT_ok ht
    split at e
    · rename_i hz
      cases e
      obtain ⟨u, hu, hv⟩ := evA_ok h hp
      obtain ⟨w, hw, hww⟩ := evA_ok h hq
      obtain ⟨d', c', rfl, _⟩ := VR.sl_inv hv
      obtain ⟨a', c2', rfl, _⟩ := VR.sl_inv hww
      obtain ⟨i, hinf, hsz, _⟩ := info_sl st
      have key : Ef x env H ⟨dst, .call ⟨.builtin .copy, #[p, q], #[T, T']⟩, ty, pos, aft, gd⟩ (fun v' H' => v' = .int .i64 0 ∧ H' = H) := ⟨fun ac w0 he hi => by
        have hrun := run_copy_none (P := x.P) w0 T T' ty E d' a' n c' m c2' st.h (by rw [hinf]; simp [hsz]) (Nat.eq_of_beq_eq_true hz)
        refine yields_of_run (v := .int .i64 0) (w' := w0) ?_ ⟨H, ⟨rfl, rfl⟩, hi, Same.refl _⟩
        simp only [execOp, resolve, invoke, builtin, List.map_toArray, List.map_cons, List.map_nil, he.eval hu, he.eval hw, Sem.run_bind, Sem.run_pure, Result.andThen_ok, hrun]
        rfl⟩
      exact ⟨_, key, fun u' H' e1 _ => ⟨ρ, Le.refl ρ, by rw [e1.1]; exact .int _ _, by rw [e1.2]; exact h⟩⟩
    · cases e
  · cases e
def cpA (P : Program) (s : AS) (T : TypeId) (p q : Operand) : Option (Value × AS) := match cp0 P s T p q with
  | some r => some r
  | none => cpR P s T p q
theorem cpA_ok (h : Re x ρ s env H) {T T' : TypeId} {p q : Operand} {v : Value} {s' : AS} (e : cpA x.P s T p q = some (v, s')) : Done x ρ s env H ⟨dst, .call ⟨.builtin .copy, #[p, q], #[T, T']⟩, ty, pos, aft, gd⟩ v s' := by
  unfold cpA at e
  split at e
  · rename_i r hr
    cases e
    exact cp0_ok h hr
  · exact cpR_ok h e
end
end
end Go.Ev
namespace Go.Ev
open Go Go.Sl
noncomputable section
section
variable {x : Cx} {K : Post} {env : Env} {H Hc : HL} {ops : Array Oper} {rest : List Tg}
end
def isInt (P : Program) (T : TypeId) : Bool := match P.underlying T with
  | some (.int _) => true
  | _ => false
def ptrT (P : Program) (T : TypeId) : Bool := match P.underlying T with
  | some (.pointer e) => match (P.info? e).map (·.size) with
    | some (_ + 1) => true
    | _ => false
  | _ => false
def isNilC : Operand → Bool
  | .const (.pointer none) => true
  | _ => false
def kindV (P : Program) (op : Op) : Kd := match op with
  | .call ⟨.builtin .len, _, ⟨[T]⟩⟩ => match sliceT P T with
    | some _ => .p
    | none => .s
  | .convert S T p => match isInt P S, isInt P T with
    | true, true => .p
    | _, _ => kindOf (.convert S T p)
  | .binOp b T p q T' => match b with
    | .eql => match ptrT P T && (!isNilC p && !isNilC q) with
      | true => .s
      | false => kindOf (.binOp b T p q T')
    | .neq => match ptrT P T && (!isNilC p && !isNilC q) with
      | true => .s
      | false => kindOf (.binOp b T p q T')
    | _ => kindOf (.binOp b T p q T')
  | op => kindOf op
end
end Go.Ev
namespace Go.Ev
open Go Go.Sl
noncomputable section
section
variable {x : Cx} {ρ : Ro} {s : AS} {env : Env} {H : HL} {dst : Option Tmp} {ty : TypeId} {pos : String} {aft : Array Edge} {gd : Option (Nat × Bool)}
theorem Rd.eqPo {T T' : TypeId} {p q : Operand} {a o b o' : Nat} [pt : PtrE x.P T] (hp : ev env p = some (.pointer (some ⟨a, o, none⟩))) (hq : ev env q = some (.pointer (some ⟨b, o', none⟩))) (ha : Lies x.F H a) (hb : Lies x.F H b) (ne : Bool) :
    Rd x env H ⟨dst, .binOp (if ne then .neq else .eql) T p q T', ty, pos, aft, gd⟩ (.bool (decide ((⟨a, o, none⟩ : Addr) = ⟨b, o', none⟩) != ne)) := ⟨fun ac w he hi => by
  obtain ⟨e, n, hu, hn⟩ := pt.h
  obtain ⟨i, hinf, hsz⟩ : ∃ i, x.P.info? e = some i ∧ i.size ≠ 0 := by
    cases h : x.P.info? e with
    | none => rw [h] at hn; cases hn
    | some i => rw [h] at hn; simp at hn; exact ⟨i, rfl, by omega⟩
  obtain ⟨c1, t1, h1⟩ := ha w hi
  obtain ⟨c2, t2, h2⟩ := hb w hi
  have key0 : ∀ d, (Op.equalIn (d + 1) T (.pointer (some ⟨a, o, none⟩)) (.pointer (some ⟨b, o', none⟩))).run x.P w = .ok (decide ((⟨a, o, none⟩ : Addr) = ⟨b, o', none⟩)) w := by
    intro d
    by_cases hab : (⟨a, o, none⟩ : Addr) = ⟨b, o', none⟩
    · rw [hab]
      simp [Op.equalIn, run_underlying hu, sizeOf, typeInfo, hinf, run_sameAddr_same]
    · rw [decide_eq_false hab]
      simp only [Op.equalIn, Sem.run_bind, run_underlying hu, Result.andThen_ok, sizeOf, typeInfo, run_program, hinf, Sem.run_pure, if_pos hsz, ne_eq, hsz, not_false_eq_true, if_true, run_sameAddr_other w hab h1 h2]
  have key : (Op.equal T (.pointer (some ⟨a, o, none⟩)) (.pointer (some ⟨b, o', none⟩))).run x.P w = .ok (decide ((⟨a, o, none⟩ : Addr) = ⟨b, o', none⟩)) w := key0 9999
  cases ne
  · simp [execOp, he.eval hp, he.eval hq, eqGuard, binOp, key]
  · simp [execOp, he.eval hp, he.eval hq, eqGuard, binOp, key]⟩
theorem ptrT_ok {P : Program} {T : TypeId} (h : ptrT P T = true) : PtrE P T := by
  unfold ptrT at h
  split at h
  · rename_i e hu
    split at h
    · rename_i n hn
      exact ⟨e, n, hu, hn⟩
    · cases h
  · cases h
def isCells (s : AS) (β : Nat) : Bool := match s.heap.get β with
  | some (.cells _ _ _) => true
  | _ => false
/-- two pointers into blocks of cells -/
def eqPA (P : Program) (s : AS) (op : Op) : Option (Nat × Nat × Value) := match op with
  | .binOp b T p q _ => match b with
    | .eql => match evA s p, evA s q, ptrT P T with
      | some (.pointer (some ⟨β, o, none⟩)), some (.pointer (some ⟨γ, o', none⟩)), true => match isCells s β && isCells s γ with
        | true => some (β, γ, .bool (Nat.beq β γ && Nat.beq o o'))
        | false => none
      | _, _, _ => none
    | .neq => match evA s p, evA s q, ptrT P T with
      | some (.pointer (some ⟨β, o, none⟩)), some (.pointer (some ⟨γ, o', none⟩)), true => match isCells s β && isCells s γ with
        | true => some (β, γ, .bool (!(Nat.beq β γ && Nat.beq o o')))
        | false => none
      | _, _, _ => none
    | _ => none
  | _ => none
theorem isCells_ok {β : Nat} (h : isCells s β = true) : ∃ rw l E, s.heap.get β = some (.cells rw l E) := by
  unfold isCells at h
  split at h
  · rename_i rw l E hg; exact ⟨rw, l, E, hg⟩
  · cases h
theorem lies_of (h : Re x ρ s env H) {H0 : HL} {β : Nat} {rw : Bool} {l : List Value} {E : TypeId} {pl : Pl} (hg : s.heap.get β = some (.cells rw l E)) (hρ : ρ β = some pl) (hH : ∀ o, Has x.F H rw pl.g o → Has x.F H0 rw pl.g o) : Lies x.F H0 pl.g := by
  obtain ⟨pl', hρ', pre, l', post, hm, _⟩ := h.cells hg
  rw [hρ] at hρ'
  cases hρ'
  exact fun w hi => ⟨_, _, (hH _ hm).heap hi⟩
theorem same_of (h : Re x ρ s env H) {β γ o o' : Nat} {pl pl' : Pl} {a b : AO} (h1 : s.heap.get β = some a) (h2 : s.heap.get γ = some b) (e1 : ρ β = some pl) (e2 : ρ γ = some pl') :
    decide ((⟨pl.g, pl.sh + o, none⟩ : Addr) = ⟨pl'.g, pl'.sh + o', none⟩) = (Nat.beq β γ && Nat.beq o o') := by
  by_cases hb : β = γ
  · subst hb
    rw [e1] at e2
    cases e2
    rw [show Nat.beq β β = true from Nat.beq_refl β, Bool.true_and]
    by_cases ho : o = o'
    · subst ho
      rw [show Nat.beq o o = true from Nat.beq_refl o]
      exact decide_eq_true rfl
    · have : Nat.beq o o' = false := by
        cases hh : Nat.beq o o' with
        | false => rfl
        | true => exact absurd (beq_true hh) ho
      rw [this]
      refine decide_eq_false (fun e => ho ?_)
      have := congrArg Addr.off e
      dsimp only at this
      omega
  · have : Nat.beq β γ = false := by
      cases hh : Nat.beq β γ with
      | false => rfl
      | true => exact absurd (beq_true hh) hb
    rw [this, Bool.false_and]
    exact decide_eq_false (fun e => hb (h.inj β γ a b pl pl' h1 h2 e1 e2 (congrArg Addr.block e)))
theorem eqPA_okG (h : Re x ρ s env H) {H0 : HL} {op : Op} {β γ : Nat} {v : Value} (e : eqPA x.P s op = some (β, γ, v)) (hH : ∀ δ a pl o, δ = β ∨ δ = γ → s.heap.get δ = some a → ρ δ = some pl → Has x.F H a.rw pl.g o → Has x.F H0 a.rw pl.g o) : ∃ u, VR ρ v u ∧ Rd x env H0 ⟨dst, op, ty, pos, aft, gd⟩ u := by
  unfold eqPA at e
  split at e
  · rename_i b0 T0 p0 q0 T1
    split at e
    · split at e
      · rename_i β' o γ' o' hp hq ht
        split at e
        · rename_i hb
          cases e
          simp only [Bool.and_eq_true] at hb
          obtain ⟨r1, l1, E1, g1⟩ := isCells_ok hb.1
          obtain ⟨r2, l2, E2, g2⟩ := isCells_ok hb.2
          obtain ⟨u, hu, hv⟩ := evA_ok h hp
          obtain ⟨w, hw, hww⟩ := evA_ok h hq
          obtain ⟨pl, hρ, rfl⟩ := VR.ptrS_inv hv
          obtain ⟨pl', hρ', rfl⟩ := VR.ptrS_inv hww
          have hr := Rd.eqPo (x := x) (env := env) (dst := dst) (ty := ty) (pos := pos) (aft := aft) (gd := gd) (pt := ptrT_ok ht) (T' := T1) hu hw (lies_of h g1 hρ (fun o e => hH _ _ _ o (.inl rfl) g1 hρ e)) (lies_of h g2 hρ' (fun o e => hH _ _ _ o (.inr rfl) g2 hρ' e)) false
          rw [same_of h g1 g2 hρ hρ', Bool.bne_false] at hr
          exact ⟨_, .bool _, hr⟩
        · cases e
      · cases e
    · split at e
      · rename_i β' o γ' o' hp hq ht
        split at e
        · rename_i hb
          cases e
          simp only [Bool.and_eq_true] at hb
          obtain ⟨r1, l1, E1, g1⟩ := isCells_ok hb.1
          obtain ⟨r2, l2, E2, g2⟩ := isCells_ok hb.2
          obtain ⟨u, hu, hv⟩ := evA_ok h hp
          obtain ⟨w, hw, hww⟩ := evA_ok h hq
          obtain ⟨pl, hρ, rfl⟩ := VR.ptrS_inv hv
          obtain ⟨pl', hρ', rfl⟩ := VR.ptrS_inv hww
          have hr := Rd.eqPo (x := x) (env := env) (dst := dst) (ty := ty) (pos := pos) (aft := aft) (gd := gd) (pt := ptrT_ok ht) (T' := T1) hu hw (lies_of h g1 hρ (fun o e => hH _ _ _ o (.inl rfl) g1 hρ e)) (lies_of h g2 hρ' (fun o e => hH _ _ _ o (.inr rfl) g2 hρ' e)) true
          rw [same_of h g1 g2 hρ hρ', Bool.bne_true] at hr
          exact ⟨_, .bool _, hr⟩
        · cases e
      · cases e
    · cases e
  · cases e
theorem eqPA_ok0 (h : Re x ρ s env H) {H0 : HL} {op : Op} {β γ : Nat} {v : Value} (e : eqPA x.P s op = some (β, γ, v)) (hH : ∀ δ a, δ = β ∨ δ = γ → s.heap.get δ = some a → a.rw = true → H0 = H) : ∃ u, VR ρ v u ∧ Rd x env H0 ⟨dst, op, ty, pos, aft, gd⟩ u :=
  eqPA_okG h e (fun δ a pl o hd hg _ hm => has_of (hH δ a hd hg) hm)
end
end
end Go.Ev
namespace Go.Ev
open Go Go.Sl
noncomputable section
theorem zeroCells_mk {z : List Value} (hz : 0 < z.length) (n : Nat) : Builtin.zeroCells z.toArray n = (mkCells z n).toArray := by
  rw [← madeCells_eq z hz n]
  unfold Builtin.zeroCells madeCells
  simp
theorem run_append_ownZ {P : Program} {T T' ty E sz by_ : Nat} {k k' : IntKind} {i : TypeInfo} {zv : Value} {z : List Value} (ht : P.underlying T = some (.slice E)) (hx : P.underlying T' = some (.int k')) (hi : P.info? E = some i) (hs : i.size = sz) (hby : i.bytes = by_) (hz : i.zero = some zv) (hzc : zv.cells = z.toArray) (hzs : z.length = sz) (hsz : 0 < sz)
    {xs : List Value} {v : Value} {hb : HL} (hown : OwnS E sz xs v hb) {w : World} (hblk : ∀ p ∈ hb, w.heap[p.1]? = some p.2) {m : Nat} (hm : 0 < m) (h1 : ∀ u ∈ mkCells z m, u.oneCell' = true)
    (hb1 : (xs.length + m * sz) * by_ ≤ 140737488355328) (hb2 : xs.length + m * sz ≤ 140737488355328) :
    ∃ v' w' hb', (Builtin.append_ #[T, T'] ty #[v, .int k m]).run P w = .ok v' w' ∧ OwnS E sz (xs ++ mkCells z m) v' hb' ∧
      ((hb' = hb ∧ w' = w) ∨ (∃ g o o', hb = [(g, o)] ∧ hb' = [(g, o')] ∧ Upd w w' g o') ∨ ∃ o', hb' = [(w.heap.size, o')] ∧ w' = w.drew.alloc o') := by
  subst hs
  have hmax : maxLen = 9223372036854775807 := by unfold maxLen; rfl
  have hzz := zeroCells_mk (z := z) (by omega) m
  have hlm : (mkCells z m).length = m * i.size := by rw [length_mkCells, hzs]
  have hmm : m ≤ m * i.size := Nat.le_mul_of_pos_right m hsz
  have hwr : IntKind.i64.wrap (m : Int) = m := i64_id (by omega) (by omega)
  have hmb : m * i.bytes ≤ 140737488355328 := by
    rw [hby]
    exact Nat.le_trans (Nat.mul_le_mul_right _ (by omega)) hb1
  have hmb' : ¬ (281474976710656 < (m : Int) * (i.bytes : Int)) := by
    have : ((m * i.bytes : Nat) : Int) = (m : Int) * (i.bytes : Int) := by simp
    omega
  have hm0 : ¬ (m = 0 ∨ i.size = 0) := by omega
  have hne0 : ¬ (m * i.size = 0) := by omega
  have hneg : ¬ ((m : Int) < 0) := by omega
  have hnm : ∀ n : Nat, xs.length = n * i.size → n + m ≤ xs.length + m * i.size := fun n hn => by
    have h1 : n ≤ n * i.size := Nat.le_mul_of_pos_right n hsz
    omega
  have hfit : ∀ n : Nat, xs.length = n * i.size → (n + m) * i.bytes ≤ 140737488355328 := fun n hn => by
    rw [hby]
    exact Nat.le_trans (Nat.mul_le_mul_right _ (hnm n hn)) hb1
  have hzs2 : zv.cells.size = i.size := by rw [hzc]; simpa using hzs
  have grown : ∀ (n old : Nat), xs.length = n * i.size → OwnS E i.size (xs ++ mkCells z m) (.slice (some ⟨w.heap.size, 0, none⟩) (n + m) (grownCap w (n + m) old E))
      [(w.heap.size, .cells (xs.toArray ++ (mkCells z m).toArray ++ Builtin.zeroCells zv.cells (grownCap w (n + m) old E - (n + m))) E (0, 0))] := fun n old hn => by
    refine .inr ⟨w.heap.size, n + m, grownCap w (n + m) old E, [], (Builtin.zeroCells zv.cells (grownCap w (n + m) old E - (n + m))).toList, [], rfl, by simp, by simp [hn, hlm, Nat.add_mul], grownCap_ge _ _ _ _, ?_, ?_⟩
    · simp [size_zeroCells, hzs2]
    · have := hnm n hn
      exact grownCap_le_maxLen _ _ _ _ (by omega)
  rcases hown with ⟨rfl, rfl, rfl⟩ | ⟨g, n, cap, pre, spare, post, rfl, rfl, hlen, hnc, hsp, hcap⟩
  · have hn0 : ([] : List Value).length = 0 * i.size := by simp
    have hf := hfit 0 hn0
    have hle := hnm 0 hn0
    simp only [Nat.zero_add] at hf hle
    have hn : m ≠ 0 := by omega
    have h63' : ¬ (9223372036854775807 < (m : Int)) := by omega
    have h48' : ¬ (281474976710656 < Builtin.nextslicecap m 0 * i.bytes) := by rw [nextslicecap_zero hm]; omega
    have hg := grown 0 0 hn0
    simp only [Nat.zero_add, List.nil_append, Array.empty_append] at hg
    refine ⟨_, _, _, ?_, hg, .inr (.inr ⟨_, rfl, rfl⟩)⟩
    simp [Builtin.append_, run_underlying ht, run_underlying hx, asInt, asIntOf, hwr, hneg, hmb', sizeOf, typeInfo, zeroValue, hi, hz, hn, hm0, hne0, h63', h48', Question.forced, run_firstCells_none, newRow, grownCap, hzc, hzz]
    first | done | omega
  · have hgh : w.heap[g]? = some (.cells (pre ++ xs ++ spare ++ post).toArray E (0, 0)) := hblk (g, _) List.mem_cons_self
    have hle := hnm n hlen
    by_cases hroom : n + m ≤ cap
    · have hml : m * i.size ≤ (cap - n) * i.size := Nat.mul_le_mul_right _ (by omega)
      have hst := run_storeCells_at P g (pre.length + n * i.size) E (mkCells z m) 0 (pre ++ xs ++ spare ++ post).toArray w hgh (by simp [hlen, hsp, hlm]; omega) h1
      simp only [Nat.add_zero] at hst
      have hcells : ((pre ++ xs ++ spare ++ post).take (pre.length + n * i.size) ++ mkCells z m ++ (pre ++ xs ++ spare ++ post).drop (pre.length + n * i.size + (mkCells z m).length)) = pre ++ (xs ++ mkCells z m) ++ spare.drop (m * i.size) ++ post := by
        have e1 : (pre ++ xs ++ spare ++ post).take (pre.length + n * i.size) = pre ++ xs := by
          rw [List.append_assoc (pre ++ xs), List.take_append_of_le_length (by simp [hlen]), List.take_of_length_le (by simp [hlen])]
        have e2 : (pre ++ xs ++ spare ++ post).drop (pre.length + n * i.size + (mkCells z m).length) = spare.drop (m * i.size) ++ post := by
          have : pre.length + n * i.size + (mkCells z m).length = (pre ++ xs).length + m * i.size := by simp [hlen, hlm]
          rw [this, List.append_assoc (pre ++ xs), ← List.drop_drop, List.drop_left, List.drop_append_of_le_length (by omega)]
        rw [e1, e2]; simp
      have hrun : (Builtin.append_ #[T, T'] ty #[.slice (some ⟨g, pre.length, none⟩) n cap, .int k m]).run P w = .ok (.slice (some ⟨g, pre.length, none⟩) (n + m) cap) (w.setRow g (pre ++ (xs ++ mkCells z m) ++ spare.drop (m * i.size) ++ post).toArray) := by
        rw [← hcells]
        simp [Builtin.append_, run_underlying ht, run_underlying hx, asInt, asIntOf, hwr, hneg, hmb', sizeOf, typeInfo, zeroValue, hi, hz, hm0, hne0, hroom, add_lit, hzc, hzz, hst]
      refine ⟨_, _, [(g, .cells (pre ++ (xs ++ mkCells z m) ++ spare.drop (m * i.size) ++ post).toArray E (0, 0))], hrun, .inr ⟨g, n + m, cap, pre, spare.drop (m * i.size), post, rfl, rfl, by simp [hlen, hlm, Nat.add_mul], hroom, ?_, hcap⟩, .inr (.inl ⟨g, _, _, rfl, rfl, Upd.setRow hgh⟩)⟩
      rw [List.length_drop, hsp, ← Nat.sub_mul]
      congr 1
      omega
    · have holds : ∀ j u, xs[j]? = some u → w.cell? ((⟨g, pre.length, none⟩ : Addr).add j) = some u := fun j u hu => by
        have hj : j < xs.length := (List.getElem?_eq_some_iff.1 hu).1
        rw [add_lit, cell_of_row w g _ _ E _ hgh]
        simp only [List.getElem?_toArray, List.append_assoc]
        rw [List.getElem?_append_right (by omega), Nat.add_sub_cancel_left, List.getElem?_append_left hj]
        exact hu
      have h63' : ¬ (9223372036854775807 < ((n : Int) + (m : Int))) := by omega
      have hfits := growslice_fits (need := n + m) (old := cap) (by omega) (hfit n hlen)
      have h48' : ¬ (281474976710656 < Builtin.nextslicecap (n + m) cap * i.bytes) := by omega
      have hfo := run_firstCells_some (P := P) w.drew i.size n ⟨g, pre.length, none⟩ n cap xs hlen (by simpa using holds)
      refine ⟨_, _, _, ?_, grown n cap hlen, .inr (.inr ⟨_, rfl, rfl⟩)⟩
      simp [Builtin.append_, run_underlying ht, run_underlying hx, asInt, asIntOf, hwr, hneg, hmb', sizeOf, typeInfo, zeroValue, hi, hz, hm0, hne0, hroom, h63', h48', Question.forced, hfo, newRow, grownCap, hzc, hzz]
      congr 2
      apply Array.ext'
      simp [List.append_assoc]
section
variable {x : Cx} {ρ : Ro} {s : AS} {env : Env} {H : HL} {dst : Option Tmp} {ty : TypeId} {pos : String} {aft : Array Edge} {gd : Option (Nat × Bool)}
theorem Ef.appZ {T T' E sz by_ : Nat} {k k' : IntKind} {z : List Value} {p q : Operand} {xs : List Value} {v : Value} {hb Hr : HL} {m : Nat} [st : SliceT x.P T E sz by_] [zt : ZeroT x.P E z] (hx : x.P.underlying T' = some (.int k')) (hzl : z.length = sz) (hsz : Nat.blt 0 sz = true)
    (hp : ev env p = some v) (hq : ev env q = some (.int k m)) (hown : OwnS E sz xs v hb) (hsub : Sub hb H Hr) (hm : 0 < m) (h1 : ∀ u ∈ mkCells z m, u.oneCell' = true)
    (hb1 : (xs.length + m * sz) * by_ ≤ 140737488355328) (hb2 : xs.length + m * sz ≤ 140737488355328) :
    Ef x env H ⟨dst, .call ⟨.builtin .append, #[p, q], #[T, T']⟩, ty, pos, aft, gd⟩ (fun v' H' => ∃ hb', OwnS E sz (xs ++ mkCells z m) v' hb' ∧ H' = hb' ++ Hr) := ⟨fun a w he hi => by
  have hperm := hi.perm hsub.perm'
  have hst := st.i
  have hzt := zt.h
  cases hinf : x.P.info? E with
  | none => simp [hinf] at hst
  | some i =>
  simp only [hinf, Option.map_some, Option.some.injEq, Prod.mk.injEq] at hst
  cases hzz : i.zero with
  | none => simp [hinf, hzz] at hzt
  | some zv =>
  have hzc : zv.cells = z.toArray := by simpa [hinf, hzz] using hzt
  obtain ⟨v', w', hb', hrun, hown', hcase⟩ := run_append_ownZ (ty := ty) (k := k) st.h hx hinf hst.1 hst.2 hzz hzc hzl (Nat.le_of_ble_eq_true hsz) hown (w := w) (fun p hp => hperm.own p (List.mem_append_left _ hp)) hm h1 hb1 hb2
  refine yields_of_run (v := v') (w' := w') (by simp only [execOp, resolve, invoke, builtin, List.map_toArray, List.map_cons, List.map_nil, he.eval hp, he.eval hq, Sem.run_bind, Sem.run_pure, Result.andThen_ok, hrun]) ⟨hb' ++ Hr, ⟨hb', hown', rfl⟩, ?_⟩
  rcases hcase with ⟨rfl, rfl⟩ | ⟨g, o, o', rfl, rfl, hu⟩ | ⟨o', rfl, rfl⟩
  · exact ⟨hperm, Same.refl _⟩
  · exact ⟨hperm.upd1 hu, hu.same⟩
  · have h2 := (hperm.right).drew.alloc o'
    exact ⟨h2, (Same.drew w).trans (Same.alloc _ _)⟩⟩
theorem pu_appZ0 {T T' E sz by_ : Nat} {k k' : IntKind} {p q : Operand} {ad : Option Addr} {n c : Nat} [st : SliceT x.P T E sz by_] (hx : x.P.underlying T' = some (.int k')) (hp : ev env p = some (.slice ad n c)) (hq : ev env q = some (.int k 0)) (hnc : n ≤ c) :
    Pu x env ⟨dst, .call ⟨.builtin .append, #[p, q], #[T, T']⟩, ty, pos, aft, gd⟩ (.slice ad n c) := ⟨fun a he w => by
  obtain ⟨i, hi, hs, _⟩ := info_sl st
  have hst : ∀ b : Addr, (storeCells b ([] : List Value)).run x.P w = .ok () w := fun b => by simp [storeCells]
  have hw0 : IntKind.i64.wrap (0 : Int) = 0 := i64_id (by omega) (by omega)
  cases ad <;> simp [execOp, resolve, invoke, builtin, he.eval hp, he.eval hq, Builtin.append_, run_underlying st.h, run_underlying hx, asInt, asIntOf, hw0, sizeOf, typeInfo, hi, hnc, hst]⟩
theorem mk_one {z : List Value} (h : ∀ u ∈ z, u.oneCell' = true) : ∀ (m : Nat), ∀ u ∈ mkCells z m, u.oneCell' = true
  | 0, _, hu => by cases hu
  | m + 1, u, hu => by
    rw [mkCells] at hu
    rcases List.mem_append.1 hu with hu | hu
    · exact h u hu
    · exact mk_one h m u hu
def appZA (P : Program) (s : AS) (T T' : TypeId) (p q : Operand) : Option (Value × AS) := match sliceT P T, P.underlying T', evA s p, evA s q with
  | some (E, sz, by_), some (.int _), some v, some (.int _ (.ofNat m)) => match m with
    | 0 => match v with
      | .slice _ _ _ => some (v, s)
      | _ => none
    | m + 1 => match rowA s E sz v, zeroT P E, lenA v with
      | some (xs, d), some z, some n => match (Nat.ble ((xs.length + (m + 1) * sz) * by_) 140737488355328 && Nat.ble (xs.length + (m + 1) * sz) 140737488355328) && (Nat.beq z.length sz && (Nat.blt 0 sz && z.all (·.oneCell'))) with
        | true => (newA P (delA s d) (xs ++ mkCells z (m + 1)) E).map (fun s' => (.slice (some ⟨s.nx, 0, none⟩) (n + (m + 1)) 0, s'))
        | false => none
      | _, _, _ => none
  | _, _, _, _ => none
theorem appZA_ok (h : Re x ρ s env H) {T T' : TypeId} {p q : Operand} {v : Value} {s' : AS} (e : appZA x.P s T T' p q = some (v, s')) : Done x ρ s env H ⟨dst, .call ⟨.builtin .append, #[p, q], #[T, T']⟩, ty, pos, aft, gd⟩ v s' := by
  unfold appZA at e
  split at e
  · rename_i E sz by_ kx v0 kq m hs hx hp hq
    have st := sliceT_ok hs
    obtain ⟨u, hu, hvu⟩ := evA_ok h hp
    obtain ⟨w, hw, hww⟩ := evA_ok h hq
    cases VR.int_inv hww
    split at e
    · split at e
      · cases e
        have hcap : ∃ m' n' cc, u = .slice m' n' cc ∧ n' ≤ cc := by
          cases hvu with
          | sl0 => exact ⟨_, _, _, rfl, Nat.le_refl _⟩
          | sl _ _ hc => exact ⟨_, _, _, rfl, hc⟩
          | slE _ _ => exact ⟨_, _, _, rfl, Nat.le_refl _⟩
          | slX _ hc => exact ⟨_, _, _, rfl, hc⟩
          | slY _ _ => exact ⟨_, _, _, rfl, Nat.zero_le _⟩
        obtain ⟨m', n', cc, rfl, hcc⟩ := hcap
        exact ⟨_, Rd.ef (Pu.rd (pu_appZ0 hx hu hw hcc)), fun u' H' ⟨e1, e2⟩ _ => ⟨ρ, Le.refl ρ, by rw [e1]; exact hvu, by rw [e2]; exact h⟩⟩
      · cases e
    · rename_i m
      split at e
      · rename_i xs d z n hrow hz hn
        split at e
        · rename_i hb
          simp only [Bool.and_eq_true, Nat.ble_eq] at hb
          obtain ⟨⟨f1, f2⟩, b1, b2, f3⟩ := hb
          have b1 := beq_true b1
          have hs0 : 0 < sz := Nat.le_of_ble_eq_true b2
          obtain ⟨q1, hq1, he⟩ := Option.map_eq_some_iff.1 e
          cases he
          obtain ⟨zt, hzz⟩ := zeroT_ok (ρ := ρ) hz
          have hszE : (x.P.info? E).map (·.size) = some sz := by
            have := st.i
            cases hi : x.P.info? E with
            | none => rw [hi] at this; cases this
            | some i => rw [hi] at this; exact congrArg some (congrArg Prod.fst (Option.some.inj this))
          obtain ⟨xs', hb', Hr, hxx, hown, hsub, hre, hxl⟩ := rowA_ok h hszE hs0 hrow hn hvu
          have hl1 := hxx.len
          have hlm : (mkCells z (m + 1)).length = (m + 1) * sz := by rw [length_mkCells, b1]
          have hmax : maxLen = 9223372036854775807 := by unfold maxLen; rfl
          refine ⟨_, Ef.appZ (m := m + 1) hx b1 b2 hu hw hown hsub (Nat.succ_pos m) (mk_one (fun a ha => List.all_eq_true.1 f3 a ha) (m + 1)) (by rw [← hl1]; exact f1) (by rw [← hl1]; exact f2), fun u' H' ⟨hb2, hown2, hH⟩ nd => ?_⟩
          rcases hown2 with ⟨_, hnil, _⟩ | ⟨g2, n2, cap2, pre2, spare2, post2, rfl, rfl, hlen2, hnc2, hsp2, hcm2⟩
          · exfalso
            have := congrArg List.length hnil
            simp only [List.length_append, List.length_nil] at this
            have : 0 < (m + 1) * sz := Nat.mul_pos (Nat.succ_pos m) hs0
            omega
          · have hn2 : n2 = n + (m + 1) := by
              rw [List.length_append, hxl, hlm, ← Nat.add_mul] at hlen2
              exact (Nat.eq_of_mul_eq_mul_right hs0 hlen2).symm
            subst hn2
            unfold newA at hq1
            split at hq1
            · rename_i i hi hnx
              cases hq1
              have hnx : s.nx < 1000000 := by
                have := Nat.le_of_ble_eq_true hnx
                cases d <;> exact this
              have hnxe : (delA s d).nx = s.nx := by cases d <;> rfl
              have hHe : H' = (g2, Obj.cells (pre2 ++ (xs' ++ mkCells z (m + 1)) ++ (spare2 ++ post2)).toArray E (0, 0)) :: Hr := by rw [hH]; simp
              rw [hHe] at nd ⊢
              obtain ⟨ρ', h1, h2, h3⟩ := hre.new (E := E) (b := g2) (sz := sz) (ce := pre2.length + cap2 * sz) (pre := pre2) (post := spare2 ++ post2) (hxx.app (mkCells_vrs hzz (m + 1))) List.mem_cons_self (nd_cons nd) (fun q hq => List.mem_cons_of_mem _ hq) nd hszE (by rw [hnxe]; exact hnx) (by
                have : (n + (m + 1)) * sz ≤ cap2 * sz := Nat.mul_le_mul_right _ hnc2
                rw [hlen2, List.length_append, hsp2, Nat.sub_mul]
                omega) (by have := Nat.mul_le_mul_right sz hcm2; omega)
              rw [hnxe] at h2 h3
              refine ⟨ρ', h1, .sl h2 (by simp) hnc2, by rw [hnxe]; exact h3⟩
            · cases hq1
        · cases e
      · cases e
  · cases e
/-! ### further reads -/
def bytesB : List Value → Option (List UInt8)
  | [] => some []
  | .int .u8 (.ofNat n) :: l => match Nat.blt n 256, bytesB l with
    | true, some bs => some (UInt8.ofNat n :: bs)
    | _, _ => none
  | _ => none
theorem bytesB_ok : ∀ {l l' : List Value} {bs : List UInt8}, bytesB l = some bs → VRs ρ l l' → l' = bs.map B
  | [], _, _, e, h => by
    cases e
    cases h
    rfl
  | v :: l, _, _, e, h => by
    cases h with
    | cons a b =>
      unfold bytesB at e
      split at e
      · rename_i heq
        cases heq
      · rename_i n l0 heq
        cases heq
        split at e
        · rename_i bs hn hb
          cases e
          have hn := Nat.le_of_ble_eq_true hn
          cases VR.int_inv a
          rw [bytesB_ok hb b, List.map_cons]
          congr 1
          unfold B
          congr 1
          show Int.ofNat n = _
          have : (UInt8.ofNat n).toNat = n := by
            rw [UInt8.toNat_ofNat']
            omega
          rw [this]
          rfl
        · cases e
      · cases e
def moreA (P : Program) (s : AS) (op : Op) : Option (List Nat × Value) := match op with
  | .call ⟨.builtin .len, ⟨[p]⟩, ⟨[T]⟩⟩ => match evA s p, P.underlying T with
    | some (.map (some β)), some (.map _ _) => match s.heap.get β with
      | some (.mp _ es _) => some ([β], .int .i64 es.length)
      | _ => none
    | _, _ => none
  | .convert S T p => match evA s p, sliceT P S, P.underlying T with
    | some (.slice (some ⟨β, o, none⟩) n _), some (e, _, _), some .string => match P.underlying e, s.heap.get β with
      | some (.int .u8), some (.cells _ l _) => match (cut l o n).bind bytesB with
        | some bs => some ([β], .string (strB bs))
        | none => none
      | _, _ => none
    | _, _, _ => none
  | _ => none
theorem ERs.len : ∀ {l l' : List MapEntry}, ERs ρ l l' → l.length = l'.length
  | _, _, .nil => rfl
  | _, _, .cons _ b => congrArg (· + 1) (ERs.len b)
theorem run_lenM {P : Program} {T K E : TypeId} {a : Act} {w : World} {p : Operand} {b clk : Nat} {es : List MapEntry} (he : Ev x env a) (ht : x.P.underlying T = some (.map K E)) (hp : ev env p = some (.map (some b))) (hb : w.heap[b]? = some (.map es.toArray clk)) :
    (execOp a.eval ⟨dst, .call ⟨.builtin .len, #[p], #[T]⟩, ty, pos, aft, gd⟩).run x.P w = .ok (.value (.int .i64 es.length)) w := by
  have hg : (getObj b).run x.P w = .ok (.map es.toArray clk) w := by simp [getObj, Sem.run, hb]
  simp [execOp, resolve, invoke, builtin, he.eval hp, Builtin.len_, run_underlying ht, goInt, hg]
theorem moreA_okG (h : Re x ρ s env H) {H0 : HL} {op : Op} {bs : List Nat} {v : Value} (e : moreA x.P s op = some (bs, v)) (hH : ∀ β ∈ bs, ∀ a pl o, s.heap.get β = some a → ρ β = some pl → Has x.F H a.rw pl.g o → Has x.F H0 a.rw pl.g o) : ∃ u, VR ρ v u ∧ Rd x env H0 ⟨dst, op, ty, pos, aft, gd⟩ u := by
  unfold moreA at e
  split at e
  · rename_i p T
    split at e
    · rename_i β K E hp ht
      split at e
      · rename_i rw es clk hg
        cases e
        obtain ⟨u, hu, hv⟩ := evA_ok h hp
        obtain ⟨pl, hρ, rfl⟩ := VR.map_inv hv
        obtain ⟨pl', hρ', ob, hm, es', rfl, hes⟩ := h.heap _ _ hg
        rw [hρ] at hρ'
        cases hρ'
        have hm' := hH β List.mem_cons_self _ pl _ hg hρ hm
        refine ⟨.int .i64 es'.length, by rw [hes.len]; exact .int _ _, ⟨fun a w he hi => run_lenM (P := x.P) he ht hu (hm'.heap hi)⟩⟩
      · cases e
    · cases e
  · rename_i S T p
    split at e
    · rename_i β o n c E sz by_ hp hs ht
      split at e
      · rename_i rw l E' hb8 hg
        split at e
        · rename_i bs hbs
          cases e
          obtain ⟨r, hr, hb⟩ := Option.bind_eq_some_iff.1 hbs
          obtain ⟨u, hu, hv⟩ := evA_ok h hp
          obtain ⟨pl, hρ, hor⟩ := VR.slG_inv hv
          obtain ⟨pl', hρ', pre, l', post, hmm, hsh, hll, _⟩ := h.cells hg
          rw [hρ] at hρ'
          cases hρ'
          obtain ⟨r', hr', hrr⟩ := hll.cut hr
          have hrb := bytesB_ok hb hrr
          obtain ⟨hr1, hr2⟩ := cut_eq hr'
          have hmm' := hH β List.mem_cons_self _ pl _ hg hρ hmm
          have st := sliceT_ok hs
          have bt : IntT x.P E .u8 := ⟨hb8⟩
          have sr : StrT x.P T := ⟨ht⟩
          have hlen : bs.length = n := by
            have := congrArg List.length hrb
            rw [List.length_map, hr1, List.length_take, List.length_drop] at this
            omega
          refine ⟨_, .str _, Rd.cvBS (m := n) hu ?_ hlen⟩
          rcases hor with ⟨c', rfl, _⟩ | ⟨h0, off, c', rfl, _⟩
          · refine .inr ⟨_, _, rfl, fun w hi j u hu => ?_⟩
            rw [add_lit, cell_of_row w pl.g _ _ _ _ (hmm'.heap hi)]
            rw [← hrb, hr1, List.getElem?_take] at hu
            split at hu
            · rw [List.getElem?_drop] at hu
              rw [List.getElem?_toArray, List.append_assoc, List.getElem?_append_right (by omega), show pl.sh + o + j - pre.length = o + j by omega, List.getElem?_append_left (List.getElem?_eq_some_iff.1 hu).1]
              first | done | exact hu
            · cases hu
          · subst h0
            refine .inr ⟨_, _, rfl, fun w hi j u hu => ?_⟩
            have : bs = [] := List.eq_nil_of_length_eq_zero hlen
            subst this
            cases hu
        · cases e
      · cases e
    · cases e
  · cases e
/-! ### the mark of a constant's bytes -/
theorem Ef.cvSo {S e sz by_ : Nat} {p : Operand} {b off n c : Nat} {l : List Value} {E : TypeId} {k : Obj → HL} [st : SliceT x.P S e sz by_] (bt : x.P.underlying e = some (.int .u8)) (hp : ev env p = some (.slice (some ⟨b, off, none⟩) n c)) (hf : Foc b (.cells l.toArray E (0, 0)) H k) :
    Ef x env H ⟨dst, .convert S S p, ty, pos, aft, gd⟩ (fun v H' => v = .slice (some ⟨b, off, none⟩) n c ∧ H' = k (.cells l.toArray E (l.length, l.length + 1))) := ⟨fun a w he hi => by
  have hg := hf.heap hi
  have hsh : w.shape? b = some (E, l.length) := by simp [World.shape?, hg]
  have hlt := (Array.getElem?_eq_some_iff.1 hg).1
  have hupd : Upd w (w.freeze ⟨b, l.length, none⟩ 1) b (.cells l.toArray E (l.length, l.length + 1)) := by
    unfold World.freeze
    rw [if_neg (by decide)]
    refine ⟨⟨rfl, rfl, rfl, by simp, .of (Nat.le_refl _)⟩, ?_, fun j hj => ?_⟩
    · simp only [Array.getElem?_modify, if_true, hg]
      simp
    · simp only [Array.getElem?_modify]
      rw [if_neg (Ne.symm hj)]
  refine yields_of_run (v := .slice (some ⟨b, off, none⟩) n c) (w' := w.freeze ⟨b, l.length, none⟩ 1) ?_ ⟨_, ⟨rfl, rfl⟩, hi.upd hf hupd, hupd.same⟩
  simp [execOp, he.eval hp, convert, run_underlying st.h, run_underlying bt, markStringish, hsh]⟩
def cvM (P : Program) (s : AS) (op : Op) : Option (Value × AS) := match op with
  | .convert S T p => match Nat.beq S T, evA s p, sliceT P S with
    | true, some (.slice (some ⟨β, o, none⟩) (n + 1) c), some (e, _, _) => match P.underlying e, s.heap.get β, Nat.blt β 1000000 with
      | some (.int .u8), some (.cells true l E), true => some (.slice (some ⟨β, o, none⟩) (n + 1) c, { s with heap := s.heap.put β (.mk true l E) })
      | _, _, _ => none
    | _, _, _ => none
  | _ => none
theorem cvM_ok (h : Re x ρ s env H) {op : Op} {v : Value} {s' : AS} (e : cvM x.P s op = some (v, s')) : Done x ρ s env H ⟨dst, op, ty, pos, aft, gd⟩ v s' := by
  unfold cvM at e
  split at e
  · rename_i S T p
    split at e
    · rename_i β o n c E sz by_ hST hp hs
      cases beq_true hST
      split at e
      · rename_i l E' h8 hg hβ
        cases e
        have hβ := Nat.le_of_ble_eq_true hβ
        have st := sliceT_ok hs
        obtain ⟨u, hu, hv⟩ := evA_ok h hp
        obtain ⟨pl, hρ, hor⟩ := VR.slG_inv hv
        obtain ⟨c', rfl, _⟩ := hor.resolve_right (fun ⟨h0, _⟩ => by omega)
        obtain ⟨pl', hρ', pre, l', post, hm, hsh, hll, _⟩ := h.cells hg
        rw [hρ] at hρ'
        cases hρ'
        have hm : (pl.g, Obj.cells (pre ++ l' ++ post).toArray E' (0, 0)) ∈ H := hm
        obtain ⟨k, hk⟩ := foc_of hm
        refine ⟨_, Ef.cvSo h8 hu hk, fun u' H' ⟨e1, e2⟩ _ => ⟨ρ, Le.refl ρ, by rw [e1]; exact hv, ?_⟩⟩
        subst e2
        obtain ⟨h2, h3, h4⟩ := foc_upd (o' := Obj.cells (pre ++ l' ++ post).toArray E' ((pre ++ l' ++ post).length, (pre ++ l' ++ post).length + 1)) hk
        exact h.updO hg hρ rfl ⟨pre, l', post, _, _, rfl, hsh, hll⟩ h2 h3 h4 hβ
      · cases e
    · cases e
  · cases e
end
end
end Go.Ev
