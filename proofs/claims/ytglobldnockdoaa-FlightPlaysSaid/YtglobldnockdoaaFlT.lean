/- A flight of pieces: what is done with it, in plain Lean, and what stays true. No conditions: definitions and laws. -/
import Derived.Test.YtglobldnockdoaaFlS
namespace Go.Flt
open Go

structure FOp where
  kind : Int
  d : Dt
  path : Int
  now : Int
  id : Int
  by_ : Int
  gaps : List (Nat × Nat)
structure FAns where
  d : Dt
  n : Int
  is_ : Bool
  e : Int
  t : Tld
def Dt.zero : Dt := ⟨0, 0, 0, false, false, false, []⟩
def FAns.zero : FAns := ⟨Dt.zero, 0, false, 0, Tld.zero⟩
def doS (s : S) (o : FOp) (cum : Int) : S :=
  if o.kind = 0 then add s o.d o.path o.now o.id
  else if o.kind = 1 then (again s (Spn.u32 (cum + o.by_)) o.path o.now).1
  else if o.kind = 2 then s
  else if o.kind = 3 then mark s o.path
  else if o.kind = 4 then abandon s o.id
  else if o.kind = 5 then (match sack s (Spn.u32 (cum + o.by_)) o.gaps with | some (s', _) => s' | none => s)
  else s
def doA (s : S) (o : FOp) (cum : Int) : FAns :=
  if o.kind = 0 then { FAns.zero with n := if addE s o.d o.path = 0 then newT s else 0, e := addE s o.d o.path }
  else if o.kind = 1 then { FAns.zero with e := (again s (Spn.u32 (cum + o.by_)) o.path o.now).2 }
  else if o.kind = 2 then (match getD s (Spn.u32 (cum + o.by_)) with | some (d, p) => { FAns.zero with d := d, n := p, is_ := true } | none => FAns.zero)
  else if o.kind = 3 then { FAns.zero with n := markN s o.path }
  else if o.kind = 4 then { FAns.zero with n := abandonN s o.id }
  else if o.kind = 5 then (match sack s (Spn.u32 (cum + o.by_)) o.gaps with | some (_, t) => { FAns.zero with t := t } | none => { FAns.zero with e := 1 })
  else FAns.zero

theorem set_map {β : Type} (g : Rc → β) {L : List Rc} {i : Nat} {r r' : Rc} (h : L[i]? = some r) (hb : g r' = g r) : (L.set i r').map g = L.map g := by
  rw [List.map_set]
  refine List.ext_getElem? (fun j => ?_)
  by_cases hj : i = j
  · subst hj
    have hi := (List.getElem?_eq_some_iff.1 h).1
    rw [List.getElem?_set_self (by simpa using hi), List.getElem?_map, h, hb]
    rfl
  · rw [List.getElem?_set_ne hj]
/-- what of a record never is turned but by sending it again -/
def Rc.k (r : Rc) : Dt × Int := (r.d, r.path)
theorem ack1_k (low : Q4 (Option Nat)) (k : AK) (i : Nat) : (ack1 low k i).L.map Rc.k = k.L.map Rc.k := by
  unfold ack1
  split
  · rfl
  · rename_i r h
    split
    · rfl
    · exact set_map Rc.k h rfl
theorem ackR_k (low : Q4 (Option Nat)) (a : Nat) : ∀ (n : Nat) (k : AK), (ackR low k a n).L.map Rc.k = k.L.map Rc.k
  | 0, _ => rfl
  | n + 1, k => by rw [ackR_succ, ack1_k, ackR_k low a n k]
theorem ackAll_k (low : Q4 (Option Nat)) : ∀ (sp : List (Nat × Nat)) (k : AK), (ackAll low k sp).L.map Rc.k = k.L.map Rc.k
  | [], _ => rfl
  | g :: sp, k => by
    show (ackAll low (ackR low k g.1 (g.2 - g.1)) sp).L.map Rc.k = _
    rw [ackAll_k low sp, ackR_k]
theorem missR_k (r : Rc) : (missR r).k = r.k := by unfold missR; split <;> rfl
theorem miss1_k (high : Q4 Int) (x : List Rc × Tld) (i : Nat) : (miss1 high x i).1.map Rc.k = x.1.map Rc.k := by
  unfold miss1
  split
  · rfl
  · rename_i r h
    split
    · exact set_map Rc.k h (missR_k r)
    · rfl
theorem missF_k (high : Q4 Int) (x : List Rc × Tld) : ∀ n, ((List.range n).foldl (miss1 high) x).1.map Rc.k = x.1.map Rc.k
  | 0 => rfl
  | n + 1 => by rw [miss_snoc, miss1_k, missF_k high x n]
/-- of records that are alike -/
theorem k_get {L M : List Rc} (h : L.map Rc.k = M.map Rc.k) {i : Nat} {r : Rc} (hr : L[i]? = some r) : ∃ q, M[i]? = some q ∧ r.d = q.d ∧ r.path = q.path := by
  have := congrArg (fun l => l[i]?) h
  simp only [List.getElem?_map, hr, Option.map_some] at this
  cases hm : M[i]? with
  | none => simp [hm] at this
  | some q =>
    simp [hm, Rc.k] at this
    exact ⟨q, rfl, this.1, this.2⟩

structure Good (s : S) : Prop where
  c : 0 ≤ s.c ∧ s.c < 4294967296
  paths : 1 ≤ s.paths ∧ s.paths ≤ 4
  few : s.L.length ≤ 2048
  tsn : ∀ (i : Nat) r, s.L[i]? = some r → r.tsn = Spn.u32 (s.c + 1 + i)
  path : ∀ (i : Nat) r, s.L[i]? = some r → 0 ≤ r.path ∧ r.path < s.paths
  bs : ∀ (i : Nat) r, s.L[i]? = some r → r.bs ≠ []
/-- the same records -/
theorem Good.like {s : S} (h : Good s) {L : List Rc} (hl : L.map Rc.k = s.L.map Rc.k) : Good { s with L := L } := by
  have hd : ∀ {r q : Rc}, r.d = q.d → r.tsn = q.tsn ∧ r.bs = q.bs := fun {r q} h => ⟨congrArg Dt.tsn h, congrArg Dt.bs h⟩
  refine ⟨h.c, h.paths, ?_, fun i r hr => ?_, fun i r hr => ?_, fun i r hr => ?_⟩
  · have := congrArg List.length hl; simp at this; have := h.few; dsimp only; omega
  · obtain ⟨q, hq, h1, h2⟩ := k_get hl hr; rw [(hd h1).1]; exact h.tsn i q hq
  · obtain ⟨q, hq, h1, h2⟩ := k_get hl hr; rw [h2]; exact h.path i q hq
  · obtain ⟨q, hq, h1, h2⟩ := k_get hl hr; rw [(hd h1).2]; exact h.bs i q hq
theorem Good.set {s : S} (h : Good s) {i : Nat} {r r' : Rc} (hr : s.L[i]? = some r) (h1 : r'.tsn = r.tsn) (h2 : r'.bs = r.bs) (h3 : 0 ≤ r'.path ∧ r'.path < s.paths) : Good { s with L := s.L.set i r' } := by
  have key : ∀ (j : Nat) q, (s.L.set i r')[j]? = some q → s.L[j]? = some q ∨ (j = i ∧ q = r') := fun j q hq => by
    by_cases hj : i = j
    · subst hj
      rw [List.getElem?_set_self (List.getElem?_eq_some_iff.1 hr).1] at hq
      cases hq
      exact .inr ⟨rfl, rfl⟩
    · rw [List.getElem?_set_ne hj] at hq
      exact .inl hq
  refine ⟨h.c, h.paths, by simpa using h.few, fun j q hq => ?_, fun j q hq => ?_, fun j q hq => ?_⟩
  · rcases key j q hq with hq | ⟨rfl, rfl⟩
    · exact h.tsn j q hq
    · rw [h1]; exact h.tsn _ _ hr
  · rcases key j q hq with hq | ⟨rfl, rfl⟩
    · exact h.path j q hq
    · exact h3
  · rcases key j q hq with hq | ⟨rfl, rfl⟩
    · exact h.bs j q hq
    · rw [h2]; exact h.bs _ _ hr
theorem sel_k (q : Rc → Bool) (f : Rc → Rc) (hf : ∀ r, (f r).k = r.k) (L : List Rc) : (sel q f L).map Rc.k = L.map Rc.k := by
  unfold sel
  rw [List.map_map]
  refine List.map_congr_left (fun r _ => ?_)
  dsimp only [Function.comp]
  split
  · exact hf r
  · rfl
theorem u32_mod (n : Int) : 0 ≤ Spn.u32 n ∧ Spn.u32 n < 4294967296 := by rw [Spn.u32_eq]; omega
theorem newT_eq {s : S} (_h : Good s) : newT s = Spn.u32 (s.c + 1 + s.L.length) := by
  unfold newT
  simp only [Spn.u32_eq]
  omega
theorem Good.add {s : S} (h : Good s) (d : Dt) (path now id : Int) : Good (Flt.add s d path now id) := by
  unfold Flt.add
  split
  · rename_i he
    unfold addE at he
    split at he
    · cases he
    · split at he
      · cases he
      · rename_i h1 h2
        have key : ∀ (i : Nat) r, (s.L ++ [newR s d path now id])[i]? = some r → s.L[i]? = some r ∨ (i = s.L.length ∧ r = newR s d path now id) := fun i r hr => by
          rw [List.getElem?_append] at hr
          split at hr
          · exact .inl hr
          · have : i - s.L.length = 0 := by
              have := (List.getElem?_eq_some_iff.1 hr).1
              simp at this
              omega
            rw [this] at hr
            simp at hr
            exact .inr ⟨by omega, hr.symm⟩
        refine ⟨h.c, h.paths, by simp; omega, fun i r hr => ?_, fun i r hr => ?_, fun i r hr => ?_⟩
        · rcases key i r hr with hr | ⟨rfl, rfl⟩
          · exact h.tsn i r hr
          · exact newT_eq h
        · rcases key i r hr with hr | ⟨rfl, rfl⟩
          · exact h.path i r hr
          · dsimp only [newR]; omega
        · rcases key i r hr with hr | ⟨rfl, rfl⟩
          · exact h.bs i r hr
          · dsimp only [newR]; exact fun hb => h1 (.inr (.inr hb))
  · exact h
theorem Good.again {s : S} (h : Good s) (t path now : Int) : Good (Flt.again s t path now).1 := by
  unfold Flt.again
  split
  · exact h
  · split
    · exact h
    · split
      · exact h
      · rename_i i _ r hr
        split
        · exact h.set hr rfl rfl (by dsimp only [setAgain]; omega)
        · exact h
theorem sack_some {s s' : S} {y : Int} {gs : List (Nat × Nat)} {t : Tld} (h : sack s y gs = some (s', t)) : ∃ sp : List (Nat × Nat), span s y gs = some sp ∧
    s' = ⟨(missAll (ackAll (lowQ s.L) ⟨s.L, Tld.zero, ⟨-1, -1, -1, -1⟩⟩ sp).high ((ackAll (lowQ s.L) ⟨s.L, Tld.zero, ⟨-1, -1, -1, -1⟩⟩ sp).L, (ackAll (lowQ s.L) ⟨s.L, Tld.zero, ⟨-1, -1, -1, -1⟩⟩ sp).t)).1.drop (Spn.far s.c y), y, s.paths⟩ ∧
    t = { (missAll (ackAll (lowQ s.L) ⟨s.L, Tld.zero, ⟨-1, -1, -1, -1⟩⟩ sp).high ((ackAll (lowQ s.L) ⟨s.L, Tld.zero, ⟨-1, -1, -1, -1⟩⟩ sp).L, (ackAll (lowQ s.L) ⟨s.L, Tld.zero, ⟨-1, -1, -1, -1⟩⟩ sp).t)).2 with
      freed := sumB (fun _ => true) ((missAll (ackAll (lowQ s.L) ⟨s.L, Tld.zero, ⟨-1, -1, -1, -1⟩⟩ sp).high ((ackAll (lowQ s.L) ⟨s.L, Tld.zero, ⟨-1, -1, -1, -1⟩⟩ sp).L, (ackAll (lowQ s.L) ⟨s.L, Tld.zero, ⟨-1, -1, -1, -1⟩⟩ sp).t)).1.take (Spn.far s.c y)),
      whole := decide (y ≠ s.c) || decide (toldN sp = cntB isAck (missAll (ackAll (lowQ s.L) ⟨s.L, Tld.zero, ⟨-1, -1, -1, -1⟩⟩ sp).high ((ackAll (lowQ s.L) ⟨s.L, Tld.zero, ⟨-1, -1, -1, -1⟩⟩ sp).L, (ackAll (lowQ s.L) ⟨s.L, Tld.zero, ⟨-1, -1, -1, -1⟩⟩ sp).t)).1) } := by
  unfold sack at h
  cases hsp : span s y gs with
  | none => rw [hsp] at h; cases h
  | some sp =>
    rw [hsp] at h
    simp only [Option.some.injEq, Prod.mk.injEq] at h
    exact ⟨sp, rfl, h.1.symm, h.2.symm⟩
/-- the records behind all but the dropping -/
theorem sack_L {s s' : S} {y : Int} {gs : List (Nat × Nat)} {t : Tld} (h : sack s y gs = some (s', t)) : ∃ M : List Rc, M.map Rc.k = s.L.map Rc.k ∧ s' = ⟨M.drop (Spn.far s.c y), y, s.paths⟩ ∧ t.freed = (sumB (fun _ => true) (M.take (Spn.far s.c y)) : Nat) := by
  obtain ⟨sp, _, h1, h2⟩ := sack_some h
  refine ⟨_, ?_, h1, by rw [h2]⟩
  unfold missAll
  rw [missF_k]
  exact ackAll_k _ _ _
theorem Good.sack {s s' : S} (h : Good s) {y : Int} (hy : 0 ≤ y ∧ y < 4294967296) {gs : List (Nat × Nat)} {t : Tld} (hs : Flt.sack s y gs = some (s', t)) : Good s' := by
  obtain ⟨M, hM, rfl, _⟩ := sack_L hs
  have g := h.like hM
  have hf := Spn.far_int s.c y
  rw [Spn.u32_eq] at hf
  have hc := h.c
  refine ⟨hy, h.paths, ?_, fun i r hr => ?_, fun i r hr => ?_, fun i r hr => ?_⟩
  · have := g.few; dsimp only at this ⊢; rw [List.length_drop]; omega
  · rw [List.getElem?_drop] at hr
    rw [g.tsn _ r hr]
    simp only [Spn.u32_eq]
    omega
  · rw [List.getElem?_drop] at hr
    exact g.path _ r hr
  · rw [List.getElem?_drop] at hr
    exact g.bs _ r hr
theorem Good.doS {s : S} (h : Good s) (o : FOp) (cum : Int) : Good (doS s o cum) := by
  unfold Flt.doS
  split
  · exact h.add _ _ _ _
  · split
    · exact h.again _ _ _
    · split
      · exact h
      · split
        · exact h.like (sel_k _ setLost (fun _ => rfl) _)
        · split
          · exact h.like (sel_k _ setGone (fun _ => rfl) _)
          · split
            · split
              · rename_i h1
                exact h.sack (u32_mod _) h1
              · exact h
            · exact h
/-- no bytes come but those that are added -/
theorem sumB_k {L M : List Rc} (h : L.map Rc.k = M.map Rc.k) : sumB (fun _ => true) L = sumB (fun _ => true) M := by
  refine sumB_bs ?_
  have : ∀ l : List Rc, l.map (·.bs) = (l.map Rc.k).map (fun x => x.1.bs) := fun l => by rw [List.map_map]; rfl
  rw [this, this, h]
theorem sumB_drop (q : Rc → Bool) (L : List Rc) (i : Nat) : sumB q L = sumB q (L.take i) + sumB q (L.drop i) := by
  rw [← sumB_append, List.take_append_drop]
theorem add_sum (s : S) (d : Dt) (path now id : Int) : sumB (fun _ => true) (add s d path now id).L = sumB (fun _ => true) s.L + if addE s d path = 0 then d.bs.length else 0 := by
  unfold add
  split
  · dsimp only
    rw [sumB_append]
    simp [sumB, newR]
  · simp
theorem again_k (s : S) (t path now : Int) : (again s t path now).1.L.map (·.bs) = s.L.map (·.bs) := by
  unfold again
  split
  · rfl
  · split
    · rfl
    · split
      · rfl
      · rename_i i _ r hr
        split
        · exact set_bs hr rfl
        · rfl
theorem doS_sum (s : S) (o : FOp) (cum : Int) : sumB (fun _ => true) (doS s o cum).L + (doA s o cum).t.freed.toNat = sumB (fun _ => true) s.L + if o.kind = 0 ∧ (doA s o cum).e = 0 then o.d.bs.length else 0 := by
  unfold doS doA
  split
  · rename_i hk
    rw [add_sum]
    dsimp only [FAns.zero, Tld.zero]
    simp [hk]
  · rename_i hk
    have hk0 : ∀ e : Prop, ¬(o.kind = 0 ∧ e) := fun _ h => hk h.1
    simp only [hk0, if_false]
    split
    · rw [sumB_bs (again_k _ _ _ _)]; rfl
    · split
      · split <;> rfl
      · split
        · rw [show (mark s o.path).L = sel (byP o.path) setLost s.L from rfl, sumB_k (sel_k _ setLost (fun _ => rfl) _)]; rfl
        · split
          · rw [show (abandon s o.id).L = sel (ofId o.id) setGone s.L from rfl, sumB_k (sel_k _ setGone (fun _ => rfl) _)]; rfl
          · split
            · cases hs : sack s (Spn.u32 (cum + o.by_)) o.gaps with
              | none => rfl
              | some x =>
                obtain ⟨s', t⟩ := x
                obtain ⟨M, hM, rfl, ht⟩ := sack_L hs
                dsimp only
                rw [ht, ← sumB_k hM, sumB_drop _ M (Spn.far s.c (Spn.u32 (cum + o.by_)))]
                omega
            · rfl
end Go.Flt
