/- A flight of pieces: lowest, take, span, walked: they answer as the plain functions do. Conditions: it is well formed; the paths are 0 to 3. -/
import Derived.Test.YtjfpckadjnjmoaaGreatFlE
import Derived.Test.YtjfpckadjnjmoaaGreatBa
import Derived.Test.YtjfpckadjnjmoaaGreatBc
namespace Go.Proofs.YtjfpckadjnjmoaaGreat
open Go Go.Sl Go.Flt

instance : PtrE Tryz.prog 147 := ⟨149, 14, by kernel_rfl, by kernel_rfl⟩
def lv (f : FM) (o : Option Nat) : Value := match o with
  | some j => (match f.rs[j]? with | some m => m.p | none => .pointer none)
  | none => .pointer none
theorem lv_one (f : FM) (o : Option Nat) : (lv f o).oneCell' = true := by
  cases o with
  | none => rfl
  | some j =>
    unfold lv
    dsimp only
    split <;> rfl
def lowC (f : FM) (q : Q4 (Option Nat)) : List Value := [lv f q.q0, lv f q.q1, lv f q.q2, lv f q.q3]
def pathOk (L : List Rc) : Prop := ∀ r ∈ L, r.path = 0 ∨ r.path = 1 ∨ r.path = 2 ∨ r.path = 3
set_option maxHeartbeats 4000000 in
theorem lowest_tr (F : Nat → Option Obj) (f : FM) (hf : f.ok) (hpo : pathOk f.S.L) : Tr Tryz.prog 79 [.pointer (some ⟨f.R, 0, none⟩)].toArray F f.H (fun v H => v = tup [.agg (lowC f (lowQ f.S.L)).toArray] ∧ H = f.H) := by
  refine Tr.enterM Tryz.func79 rfl Tryz.ntmps79 rfl (fun w0 => ?_)
  have hlen := hf.len
  have hfew := hf.few
  repeat' (first | refine S1 ?_ | refine SD ?_ | refine SA (fun _ => ?_) | refine G1 (fun hc => ?_) (fun hc => ?_) | refine G2 (fun hc => ?_) (fun hc => ?_) | refine G3 (fun hc => ?_) (fun hc => ?_))
  rename_i tb
  refine WL.e rfl (Ef.call (by exact rfl) (.nil _) (such_tr _ (.pointer (some ⟨f.R, 0, none⟩)) (.func (.func 105) ([] : List Value).toArray ([] : List Value).toArray) rfl rfl)) ?_
  rintro _ _ ⟨_, ⟨b2, b3, rfl, rfl⟩, rfl⟩
  repeat' (first | refine S1 ?_ | refine SD ?_ | refine SA (fun _ => ?_) | refine G1 (fun hc => ?_) (fun hc => ?_) | refine G2 (fun hc => ?_) (fun hc => ?_) | refine G3 (fun hc => ?_) (fun hc => ?_))
  refine W.rangeF (gf := 91) (fv := []) (cv := [.pointer (some ⟨b2, 0, none⟩), .pointer (some ⟨b3, 0, none⟩)]) rfl rfl (fun l D r hr => ?_)
  obtain ⟨RE, hRE⟩ : ∃ RE : Nat → HL, RE = fun i => (tb, .cells (lowC f (lowQ ((f.rs.map (·.r)).take i))).toArray 172 (0, 0)) :: f.H := ⟨_, rfl⟩
  have hRw : ∀ i w, In F (RE i) w → In F f.H w := fun i w h => by rw [hRE] at h; exact h.sublist (.cons _ (.refl _))
  have hcall := such1_tr F f.R b2 b3 l 105 [] f.sn f.sc f.sa (ptOf f) (by omega) (fun i => match f.rs[i]? with | some m => low1 m.r | none => false)
    (fun i H => H = HS l D r b2 b3 f.R (.func (.func 105) ([] : List Value).toArray ([] : List Value).toArray) (RE i))
    (fun i H hi hH => by
      subst hH
      obtain ⟨h1, h2, h3, h4⟩ := su_cans (F := F) (l := l) (D := D) (lp := r) (b2 := b2) (b3 := b3) (isV := .func (.func 105) ([] : List Value).toArray ([] : List Value).toArray) (rest := RE i) hf rfl (hRw i)
      exact ⟨h1, h2, h3, h4 i⟩)
    (fun i H hi hH F' hF => by
      subst hH
      obtain ⟨m, hm⟩ : ∃ m, f.rs[i]? = some m := ⟨f.rs[i]'(by omega), by simp⟩
      unfold ptOf
      rw [hm]
      exact low1_tr F' m (su_rec (hRw i) hF hm))
    (fun i H hi hq hH => by
      subst hH
      obtain ⟨m, hm⟩ : ∃ m, f.rs[i]? = some m := ⟨f.rs[i]'(by omega), by simp⟩
      rw [hm] at hq
      have hmr : (f.rs.map (·.r))[i]? = some m.r := by rw [List.getElem?_map, hm]; rfl
      have hq' : low1 m.r = false := hq
      rw [hRE]
      dsimp only
      have e : lowQ ((f.rs.map (·.r)).take (i + 1)) = lowQ ((f.rs.map (·.r)).take i) := by
        unfold lowQ
        simp [lowP_snoc hmr, hq']
      rw [e])
    (fun i H hi hq hH F' hF => by
      subst hH
      obtain ⟨m, hm⟩ : ∃ m, f.rs[i]? = some m := ⟨f.rs[i]'(by omega), by simp⟩
      rw [hm] at hq
      have hmr : (f.rs.map (·.r))[i]? = some m.r := by rw [List.getElem?_map, hm]; rfl
      have hq' : low1 m.r = true := hq
      have hpath := hpo m.r (List.mem_of_getElem? hmr)
      unfold ptOf
      rw [hm]
      rw [hRE]
      dsimp only
      have hlv : ∀ p, lowP ((f.rs.map (·.r)).take i) p = none ∨ ∃ j mj, lowP ((f.rs.map (·.r)).take i) p = some j ∧ lv f (some j) = RcM.p mj := fun p => by
        cases h : lowP ((f.rs.map (·.r)).take i) p with
        | none => exact .inl rfl
        | some j =>
          have := lowP_lt h
          simp at this
          have hmj : f.rs[j]? = some (f.rs[j]'(by omega)) := by simp
          refine .inr ⟨j, f.rs[j]'(by omega), rfl, ?_⟩
          unfold lv
          dsimp only
          rw [hmj]
      refine TrY.of hr rfl (fun w h => h.own (l, .loop r) (by simp [HS])) (fun w1 => ?_)
      unfold RcM.p HS
      repeat' (first | refine S1 ?_ | refine SD ?_ | refine SA (fun _ => ?_) | refine G1 (fun hc => ?_) (fun hc => ?_) | refine G2 (fun hc => ?_) (fun hc => ?_) | refine G3 (fun hc => ?_) (fun hc => ?_))
      refine Fin.begin (Foc.here _) hr.state ?_
      rcases hpath with hpa | hpa | hpa | hpa
      all_goals
        have hcp : Sl.Can F' f.H m.b (0 + 7) [.int .i64 m.r.path] := (rec_can hm).one (i := 7) rfl
        rw [hpa] at hcp
        repeat' (first | refine S1 ?_ | refine SD ?_ | refine SA (fun _ => ?_) | refine G1 (fun hc => ?_) (fun hc => ?_) | refine G2 (fun hc => ?_) (fun hc => ?_) | refine G3 (fun hc => ?_) (fun hc => ?_))
        refine WL.s rfl (Rd.ldC rfl (hcp.mono (fun _ h => h.sublist findA))) ?_
        refine WL.p rfl (Pu.iaA rfl rfl (by decide)) ?_
        repeat' (first | refine S1 ?_ | refine SD ?_ | refine SA (fun _ => ?_) | refine G1 (fun hc => ?_) (fun hc => ?_) | refine G2 (fun hc => ?_) (fun hc => ?_) | refine G3 (fun hc => ?_) (fun hc => ?_))
        have hl := hlv m.r.path
        rw [hpa] at hl
        have hpi : lv f (some i) = RcM.p m := by unfold lv; dsimp only; rw [hm]
        rcases hl with hl | ⟨j, mj, hl, hj⟩
        · have e : lowQ ((f.rs.map (·.r)).take (i + 1)) = (lowQ ((f.rs.map (·.r)).take i)).set m.r.path (some i) := by
            unfold lowQ
            simp [lowP_snoc hmr, hq', hpa, hl, Q4.set]
          rw [e, hpa]
          refine WL.p rfl (Pu.eqN (m := none) (by show some (lv f (lowP _ _)) = _; rw [hl]; rfl) rfl) ?_
          repeat' (first | refine S1 ?_ | refine SD ?_ | refine SA (fun _ => ?_) | refine G1 (fun hc => ?_) (fun hc => ?_) | refine G2 (fun hc => ?_) (fun hc => ?_) | refine G3 (fun hc => ?_) (fun hc => ?_))
          refine WL.s rfl (Rd.ldC rfl (hcp.mono (fun _ h => h.sublist findA))) ?_
          repeat' (first | refine S1 ?_ | refine SD ?_ | refine SA (fun _ => ?_) | refine G1 (fun hc => ?_) (fun hc => ?_) | refine G2 (fun hc => ?_) (fun hc => ?_) | refine G3 (fun hc => ?_) (fun hc => ?_))
          refine WL.p rfl (Pu.iaA rfl rfl (by decide)) ?_
          repeat' (first | refine S1 ?_ | refine SD ?_ | refine SA (fun _ => ?_) | refine G1 (fun hc => ?_) (fun hc => ?_) | refine G2 (fun hc => ?_) (fun hc => ?_) | refine G3 (fun hc => ?_) (fun hc => ?_))
          refine Fin.more (Foc.here _) (fun _ h => h) ⟨rfl, ?_⟩
          simp only [hr.again]
          simp [lowC, Q4.set, hpi, RcM.p]
        · have e : lowQ ((f.rs.map (·.r)).take (i + 1)) = lowQ ((f.rs.map (·.r)).take i) := by
            unfold lowQ
            simp [lowP_snoc hmr, hq', hpa, hl]
          rw [e]
          refine WL.p rfl (Pu.eqN (m := some ⟨mj.b, 0, none⟩) (by show some (lv f (lowP _ _)) = _; rw [hl, hj]; rfl) rfl) ?_
          repeat' (first | refine S1 ?_ | refine SD ?_ | refine SA (fun _ => ?_) | refine G1 (fun hc => ?_) (fun hc => ?_) | refine G2 (fun hc => ?_) (fun hc => ?_) | refine G3 (fun hc => ?_) (fun hc => ?_))
          refine Fin.more (Foc.here _) (fun _ h => h) ⟨rfl, ?_⟩
          simp only [hr.again])
    (HS l D r b2 b3 f.R (.func (.func 105) ([] : List Value).toArray ([] : List Value).toArray) (RE 0)) (by rfl)
  refine Tr.mono (R := fun _ H => H = HS l D r b2 b3 f.R (.func (.func 105) ([] : List Value).toArray ([] : List Value).toArray) (RE f.sn)) ?_ ?_
  · rw [hRE] at hcall ⊢
    exact hcall
  · rintro _ _ rfl
    refine ⟨r, _, .refl _, by rw [hr.state]; simp, ?_⟩
    rw [hr.pending, hRE]
    dsimp only [Cx.marked]
    rw [List.take_of_length_le (by simp; omega)]
    repeat' (first | refine S1 ?_ | refine SD ?_ | refine SA (fun _ => ?_) | refine G1 (fun hc => ?_) (fun hc => ?_) | refine G2 (fun hc => ?_) (fun hc => ?_) | refine G3 (fun hc => ?_) (fun hc => ?_))
    refine WL.e0A ?_ (Ef.sta rfl rfl (by exact rfl) (by simp [lv_one]) (.there (.there (.there (.here rfl)))))
    repeat' (first | refine S1 ?_ | refine SD ?_ | refine SA (fun _ => ?_) | refine G1 (fun hc => ?_) (fun hc => ?_) | refine G2 (fun hc => ?_) (fun hc => ?_) | refine G3 (fun hc => ?_) (fun hc => ?_))
    exact Fin.retM (D := D) (by exact rfl) .here resA (H' := f.H) (fun _ h => h.sublist findA) ⟨rfl, rfl⟩

/-! ### take -/
def PTcells (q : PT) : List Value := [.int .i64 q.acked, .bool q.pseudo, .bool q.fast, .int .i64 q.at_, .bool q.some_]
def tldC (t : Tld) : List Value := [.int .i64 t.freed, .bool t.whole, .int .i64 t.p0.acked, .bool t.p0.pseudo, .bool t.p0.fast, .int .i64 t.p0.at_, .bool t.p0.some_, .int .i64 t.p1.acked, .bool t.p1.pseudo, .bool t.p1.fast, .int .i64 t.p1.at_, .bool t.p1.some_,
  .int .i64 t.p2.acked, .bool t.p2.pseudo, .bool t.p2.fast, .int .i64 t.p2.at_, .bool t.p2.some_, .int .i64 t.p3.acked, .bool t.p3.pseudo, .bool t.p3.fast, .int .i64 t.p3.at_, .bool t.p3.some_]
theorem rec_lies {F : Nat → Option Obj} {f : FM} {i : Nat} {m : RcM} (h : f.rs[i]? = some m) : Lies F f.H m.b := fun w hi => by
  unfold FM.H at hi
  rw [flat_split h] at hi
  exact ⟨_, _, hi.own (m.b, .cells m.cells.toArray 149 (0, 0)) (by simp [RcM.H])⟩
theorem flat_inj : ∀ {l : List RcM}, ((l.flatMap RcM.H).map (·.1)).Nodup → ∀ {i j : Nat} {m m' : RcM}, l[i]? = some m → l[j]? = some m' → m.b = m'.b → i = j
  | [], _, _, _, _, _, h, _, _ => by simp at h
  | a :: l, hn, i, j, m, m', h1, h2, hb => by
    rw [List.flatMap_cons, List.map_append, List.nodup_append] at hn
    obtain ⟨_, hl, hne⟩ := hn
    have mem : ∀ {k : Nat} {q : RcM}, l[k]? = some q → q.b ∈ (l.flatMap RcM.H).map (·.1) := fun {k q} hq =>
      List.mem_map.2 ⟨(q.b, .cells q.cells.toArray 149 (0, 0)), List.mem_flatMap.2 ⟨q, List.mem_of_getElem? hq, by simp [RcM.H]⟩, rfl⟩
    have hd : a.b ∈ (RcM.H a).map (·.1) := by simp [RcM.H]
    cases i with
    | zero => cases j with
      | zero => rfl
      | succ j =>
        simp at h1 h2
        subst h1
        exact absurd hb (hne _ hd _ (mem h2))
    | succ i => cases j with
      | zero =>
        simp at h1 h2
        subst h2
        exact absurd hb.symm (hne _ hd _ (mem h1))
      | succ j =>
        simp at h1 h2
        rw [flat_inj hl h1 h2 hb]
theorem rec_inj {F : Nat → Option Obj} {f : FM} {w : World} (hi : In F f.H w) {i j : Nat} {m m' : RcM} (h1 : f.rs[i]? = some m) (h2 : f.rs[j]? = some m') : decide (m.b = m'.b) = decide (j = i) := by
  have hn := hi.nd
  unfold FM.H at hn
  rw [List.map_cons, List.nodup_cons, List.map_append, List.nodup_append] at hn
  have hinj := flat_inj hn.2.2.1 h1 h2
  by_cases h : j = i
  · subst h
    rw [h1] at h2
    cases h2
    simp
  · rw [decide_eq_false h, decide_eq_false (fun hb => h (hinj hb).symm)]
/-- what the lowest of a path is, as a value -/
def isLv (f : FM) (o : Option Nat) (v : Value) : Prop := (o = none ∧ v = .pointer none) ∨ ∃ j mj, o = some j ∧ f.rs[j]? = some mj ∧ v = .pointer (some ⟨mj.b, 0, none⟩)
def offP (p : Int) : Nat := if p = 0 then 2 else if p = 1 then 7 else if p = 2 then 12 else 17
set_option maxHeartbeats 8000000 in
theorem take_tr (F : Nat → Option Obj) (f : FM) (hf : f.ok) {i : Nat} {m : RcM} (hm : f.rs[i]? = some m) (hpath : m.r.path = 0 ∨ m.r.path = 1 ∨ m.r.path = 2 ∨ m.r.path = 3) (tb : Nat) (t : Tld) (o : Option Nat) (v : Value) (hv : isLv f o v) :
    Tr Tryz.prog 80 [.pointer (some ⟨m.b, 0, none⟩), .pointer (some ⟨tb, offP m.r.path, none⟩), v].toArray F ((tb, .cells (tldC t).toArray 111 (0, 0)) :: f.H) (fun v H => v = tup [] ∧ H = (tb, .cells (tldC (t.upd m.r.path (takeP m.r (decide (o = some i))))).toArray 111 (0, 0)) :: ({ f with rs := f.rs.set i { m with r := setAck m.r } } : FM).H) := by
  refine Tr.enter Tryz.func80 rfl Tryz.ntmps80 rfl (fun w0 => ?_)
  refine W.fact (φ := ∀ j mj, f.rs[j]? = some mj → decide (m.b = mj.b) = decide (j = i)) (fun w h j mj hj => rec_inj (h.sublist (.cons _ (.refl _))) hm hj) (fun hinj => ?_)
  have hlen := hf.len
  have hml := (hf.recs m (List.mem_of_getElem? hm)).len
  have g1 := set_get hm (m' := { m with r := setAck m.r })
  obtain ⟨f', hf'⟩ : ∃ f' : FM, f' = { f with rs := f.rs.set i { m with r := setAck m.r } } := ⟨_, rfl⟩
  have hput := rec_put hm (off := 0 + 11) (vs := [.bool true]) (r' := setAck m.r) rfl
  rw [← hf'] at hput ⊢
  have g2 : f'.rs[i]? = some { m with r := setAck m.r } := by rw [hf']; exact g1
  have c6 : Sl.Can F f'.H m.b (0 + 0 + 6) [.slice m.ba m.bn m.bc] := (rec_can g2).one (i := 6) rfl
  have c10 : Sl.Can F f'.H m.b (0 + 10) [.int .i64 m.r.at_] := (rec_can g2).one (i := 10) rfl
  have c13 : Sl.Can F f'.H m.b (0 + 13) [.bool m.r.gone] := (rec_can g2).one (i := 13) rfl
  have c14 : Sl.Can F f'.H m.b (0 + 14) [.bool m.r.again] := (rec_can g2).one (i := 14) rfl
  have hL1 : Lies F f'.H m.b := rec_lies (m := { m with r := setAck m.r }) g2
  rcases hv with ⟨ho, rfl⟩ | ⟨j, mj, ho, hj, rfl⟩
  · rcases hpath with hpa | hpa | hpa | hpa
    all_goals
      rw [hpa]
      unfold tldC
      repeat' (first | refine S1 ?_ | refine SD ?_ | refine SA (fun _ => ?_) | refine G1 (fun hc => ?_) (fun hc => ?_) | refine G2 (fun hc => ?_) (fun hc => ?_) | refine G3 (fun hc => ?_) (fun hc => ?_))
      refine WL.e0A ?_ (Ef.st rfl rfl rfl (.there hput))
      repeat' (first | refine S1 ?_ | refine SD ?_ | refine SA (fun _ => ?_) | refine G1 (fun hc => ?_) (fun hc => ?_) | refine G2 (fun hc => ?_) (fun hc => ?_) | refine G3 (fun hc => ?_) (fun hc => ?_))
      refine WL.s rfl (Rd.ldC rfl (c13.mono (fun _ h => h.sublist findA))) ?_
      cases hgo : m.r.gone
      · repeat' (first | refine S1 ?_ | refine SD ?_ | refine SA (fun _ => ?_) | refine G1 (fun hc => ?_) (fun hc => ?_) | refine G2 (fun hc => ?_) (fun hc => ?_) | refine G3 (fun hc => ?_) (fun hc => ?_))
        refine WD.s rfl (Rd.ldC rfl (c6.mono (fun _ h => h.sublist findA))) ?_
        repeat' (first | refine S1 ?_ | refine SD ?_ | refine SA (fun _ => ?_) | refine G1 (fun hc => ?_) (fun hc => ?_) | refine G2 (fun hc => ?_) (fun hc => ?_) | refine G3 (fun hc => ?_) (fun hc => ?_))
        refine WL.s rfl (Rd.ldC rfl (c14.mono (fun _ h => h.sublist findA))) ?_
        cases hag : m.r.again
        · repeat' (first | refine S1 ?_ | refine SD ?_ | refine SA (fun _ => ?_) | refine G1 (fun hc => ?_) (fun hc => ?_) | refine G2 (fun hc => ?_) (fun hc => ?_) | refine G3 (fun hc => ?_) (fun hc => ?_))
          refine WL.s rfl (Rd.ldC rfl (c10.mono (fun _ h => h.sublist findA))) ?_
          repeat' (first | refine S1 ?_ | refine SD ?_ | refine SA (fun _ => ?_) | refine G1 (fun hc => ?_) (fun hc => ?_) | refine G2 (fun hc => ?_) (fun hc => ?_) | refine G3 (fun hc => ?_) (fun hc => ?_))
          all_goals
            refine Fin.endW (by exact rfl) resA (fun _ h => h) ⟨rfl, ?_⟩
            simp_all [Tld.upd, takeP]
        · repeat' (first | refine S1 ?_ | refine SD ?_ | refine SA (fun _ => ?_) | refine G1 (fun hc => ?_) (fun hc => ?_) | refine G2 (fun hc => ?_) (fun hc => ?_) | refine G3 (fun hc => ?_) (fun hc => ?_))
          all_goals
            refine Fin.endW (by exact rfl) resA (fun _ h => h) ⟨rfl, ?_⟩
            simp_all [Tld.upd, takeP]
      · repeat' (first | refine S1 ?_ | refine SD ?_ | refine SA (fun _ => ?_) | refine G1 (fun hc => ?_) (fun hc => ?_) | refine G2 (fun hc => ?_) (fun hc => ?_) | refine G3 (fun hc => ?_) (fun hc => ?_))
        refine WL.s rfl (Rd.ldC rfl (c14.mono (fun _ h => h.sublist findA))) ?_
        cases hag : m.r.again
        · repeat' (first | refine S1 ?_ | refine SD ?_ | refine SA (fun _ => ?_) | refine G1 (fun hc => ?_) (fun hc => ?_) | refine G2 (fun hc => ?_) (fun hc => ?_) | refine G3 (fun hc => ?_) (fun hc => ?_))
          refine WL.s rfl (Rd.ldC rfl (c10.mono (fun _ h => h.sublist findA))) ?_
          repeat' (first | refine S1 ?_ | refine SD ?_ | refine SA (fun _ => ?_) | refine G1 (fun hc => ?_) (fun hc => ?_) | refine G2 (fun hc => ?_) (fun hc => ?_) | refine G3 (fun hc => ?_) (fun hc => ?_))
          all_goals
            refine Fin.endW (by exact rfl) resA (fun _ h => h) ⟨rfl, ?_⟩
            simp_all [Tld.upd, takeP]
        · repeat' (first | refine S1 ?_ | refine SD ?_ | refine SA (fun _ => ?_) | refine G1 (fun hc => ?_) (fun hc => ?_) | refine G2 (fun hc => ?_) (fun hc => ?_) | refine G3 (fun hc => ?_) (fun hc => ?_))
          all_goals
            refine Fin.endW (by exact rfl) resA (fun _ h => h) ⟨rfl, ?_⟩
            simp_all [Tld.upd, takeP]
  · have hinj' := hinj j mj hj
    clear hinj
    have hL2 : Lies F f'.H mj.b := by
      by_cases hji : i = j
      · subst hji
        rw [hm] at hj
        cases hj
        exact hL1
      · exact rec_lies (i := j) (by rw [hf']; dsimp only; rw [List.getElem?_set_ne hji]; exact hj)
    rcases hpath with hpa | hpa | hpa | hpa
    all_goals
      rw [hpa]
      unfold tldC
      repeat' (first | refine S1 ?_ | refine SD ?_ | refine SA (fun _ => ?_) | refine G1 (fun hc => ?_) (fun hc => ?_) | refine G2 (fun hc => ?_) (fun hc => ?_) | refine G3 (fun hc => ?_) (fun hc => ?_))
      refine WL.e0A ?_ (Ef.st rfl rfl rfl (.there hput))
      repeat' (first | refine S1 ?_ | refine SD ?_ | refine SA (fun _ => ?_) | refine G1 (fun hc => ?_) (fun hc => ?_) | refine G2 (fun hc => ?_) (fun hc => ?_) | refine G3 (fun hc => ?_) (fun hc => ?_))
      refine WL.s rfl (Rd.ldC rfl (c13.mono (fun _ h => h.sublist findA))) ?_
      cases hgo : m.r.gone
      · repeat' (first | refine S1 ?_ | refine SD ?_ | refine SA (fun _ => ?_) | refine G1 (fun hc => ?_) (fun hc => ?_) | refine G2 (fun hc => ?_) (fun hc => ?_) | refine G3 (fun hc => ?_) (fun hc => ?_))
        refine WD.s rfl (Rd.ldC rfl (c6.mono (fun _ h => h.sublist findA))) ?_
        repeat' (first | refine S1 ?_ | refine SD ?_ | refine SA (fun _ => ?_) | refine G1 (fun hc => ?_) (fun hc => ?_) | refine G2 (fun hc => ?_) (fun hc => ?_) | refine G3 (fun hc => ?_) (fun hc => ?_))
        refine WL.s rfl (Rd.ldC rfl (c14.mono (fun _ h => h.sublist findA))) ?_
        cases hag : m.r.again
        · repeat' (first | refine S1 ?_ | refine SD ?_ | refine SA (fun _ => ?_) | refine G1 (fun hc => ?_) (fun hc => ?_) | refine G2 (fun hc => ?_) (fun hc => ?_) | refine G3 (fun hc => ?_) (fun hc => ?_))
          refine WL.s rfl (Rd.ldC rfl (c10.mono (fun _ h => h.sublist findA))) ?_
          repeat' (first | refine S1 ?_ | refine SD ?_ | refine SA (fun _ => ?_) | refine G1 (fun hc => ?_) (fun hc => ?_) | refine G2 (fun hc => ?_) (fun hc => ?_) | refine G3 (fun hc => ?_) (fun hc => ?_))
          · refine Fin.endW (by exact rfl) resA (fun _ h => h) ⟨rfl, ?_⟩
            simp_all [Tld.upd, takeP]
          · refine WL.s rfl (Rd.eqPP rfl rfl (hL1.mono (fun _ h => h.sublist findA)) (hL2.mono (fun _ h => h.sublist findA))) ?_
            rw [hinj']
            repeat' (first | refine S1 ?_ | refine SD ?_ | refine SA (fun _ => ?_) | refine G1 (fun hc => ?_) (fun hc => ?_) | refine G2 (fun hc => ?_) (fun hc => ?_) | refine G3 (fun hc => ?_) (fun hc => ?_))
            refine Fin.endW (by exact rfl) resA (fun _ h => h) ⟨rfl, ?_⟩
            simp_all [Tld.upd, takeP]
        · repeat' (first | refine S1 ?_ | refine SD ?_ | refine SA (fun _ => ?_) | refine G1 (fun hc => ?_) (fun hc => ?_) | refine G2 (fun hc => ?_) (fun hc => ?_) | refine G3 (fun hc => ?_) (fun hc => ?_))
          · refine Fin.endW (by exact rfl) resA (fun _ h => h) ⟨rfl, ?_⟩
            simp_all [Tld.upd, takeP]
          · refine WL.s rfl (Rd.eqPP rfl rfl (hL1.mono (fun _ h => h.sublist findA)) (hL2.mono (fun _ h => h.sublist findA))) ?_
            rw [hinj']
            repeat' (first | refine S1 ?_ | refine SD ?_ | refine SA (fun _ => ?_) | refine G1 (fun hc => ?_) (fun hc => ?_) | refine G2 (fun hc => ?_) (fun hc => ?_) | refine G3 (fun hc => ?_) (fun hc => ?_))
            refine Fin.endW (by exact rfl) resA (fun _ h => h) ⟨rfl, ?_⟩
            simp_all [Tld.upd, takeP]
      · repeat' (first | refine S1 ?_ | refine SD ?_ | refine SA (fun _ => ?_) | refine G1 (fun hc => ?_) (fun hc => ?_) | refine G2 (fun hc => ?_) (fun hc => ?_) | refine G3 (fun hc => ?_) (fun hc => ?_))
        refine WL.s rfl (Rd.ldC rfl (c14.mono (fun _ h => h.sublist findA))) ?_
        cases hag : m.r.again
        · repeat' (first | refine S1 ?_ | refine SD ?_ | refine SA (fun _ => ?_) | refine G1 (fun hc => ?_) (fun hc => ?_) | refine G2 (fun hc => ?_) (fun hc => ?_) | refine G3 (fun hc => ?_) (fun hc => ?_))
          refine WL.s rfl (Rd.ldC rfl (c10.mono (fun _ h => h.sublist findA))) ?_
          repeat' (first | refine S1 ?_ | refine SD ?_ | refine SA (fun _ => ?_) | refine G1 (fun hc => ?_) (fun hc => ?_) | refine G2 (fun hc => ?_) (fun hc => ?_) | refine G3 (fun hc => ?_) (fun hc => ?_))
          · refine Fin.endW (by exact rfl) resA (fun _ h => h) ⟨rfl, ?_⟩
            simp_all [Tld.upd, takeP]
          · refine WL.s rfl (Rd.eqPP rfl rfl (hL1.mono (fun _ h => h.sublist findA)) (hL2.mono (fun _ h => h.sublist findA))) ?_
            rw [hinj']
            repeat' (first | refine S1 ?_ | refine SD ?_ | refine SA (fun _ => ?_) | refine G1 (fun hc => ?_) (fun hc => ?_) | refine G2 (fun hc => ?_) (fun hc => ?_) | refine G3 (fun hc => ?_) (fun hc => ?_))
            refine Fin.endW (by exact rfl) resA (fun _ h => h) ⟨rfl, ?_⟩
            simp_all [Tld.upd, takeP]
        · repeat' (first | refine S1 ?_ | refine SD ?_ | refine SA (fun _ => ?_) | refine G1 (fun hc => ?_) (fun hc => ?_) | refine G2 (fun hc => ?_) (fun hc => ?_) | refine G3 (fun hc => ?_) (fun hc => ?_))
          · refine Fin.endW (by exact rfl) resA (fun _ h => h) ⟨rfl, ?_⟩
            simp_all [Tld.upd, takeP]
          · refine WL.s rfl (Rd.eqPP rfl rfl (hL1.mono (fun _ h => h.sublist findA)) (hL2.mono (fun _ h => h.sublist findA))) ?_
            rw [hinj']
            repeat' (first | refine S1 ?_ | refine SD ?_ | refine SA (fun _ => ?_) | refine G1 (fun hc => ?_) (fun hc => ?_) | refine G2 (fun hc => ?_) (fun hc => ?_) | refine G3 (fun hc => ?_) (fun hc => ?_))
            refine Fin.endW (by exact rfl) resA (fun _ h => h) ⟨rfl, ?_⟩
            simp_all [Tld.upd, takeP]
end Go.Proofs.YtjfpckadjnjmoaaGreat
