/- A flight of pieces: Out, Open, Lost, Mark, Abandon, walked: they answer as the plain functions do. Conditions: it is well formed; the bytes are few. -/
import Derived.Test.YtjfpckadjnjmoaaGreatFlB
namespace Go.Proofs.YtjfpckadjnjmoaaGreat
open Go Go.Sl Go.Flt

/-- so few bytes that no sum overflows -/
def FM.small (f : FM) : Prop := sumB (fun _ => true) (f.rs.map (·.r)) ≤ 1000000000000
theorem sum_small {f : FM} (h : f.small) (q : Rc → Bool) (i : Nat) : sumB q ((f.rs.map (·.r)).take i) ≤ 1000000000000 := by
  have h1 : ∀ L : List Rc, sumB q L ≤ sumB (fun _ => true) L := fun L => by
    induction L with
    | nil => exact Nat.le_refl _
    | cons a L ih =>
      have e1 : sumB q (a :: L) = (if q a then a.bs.length else 0) + sumB q L := by
        unfold sumB
        cases hq : q a <;> simp [hq]
      have e2 : sumB (fun _ => true) (a :: L) = a.bs.length + sumB (fun _ => true) L := by unfold sumB; simp
      rw [e1, e2]
      split <;> omega
  exact Nat.le_trans (sumB_take q _ i) (Nat.le_trans (h1 _) h)
/-- what is owned while the records of a kind are gone through -/
def HS (l D : Nat) (lp : Loop) (b2 b3 R : Nat) (isV : Value) (rest : HL) : HL := (l, .loop lp) :: (D, .deferred (some [])) :: (b3, .cells [isV].toArray 150 (0, 0)) :: (b2, .cells [.pointer (some ⟨R, 0, none⟩)].toArray 66 (0, 0)) :: rest
def ptOf (f : FM) (i : Nat) : Value := match f.rs[i]? with | some m => m.p | none => undef
theorem su_cans {F : Nat → Option Obj} {l D b2 b3 R : Nat} {lp : Loop} {isV : Value} {rest : HL} {f : FM} (hf : f.ok) (hR : f.R = R) (hw : ∀ w, In F rest w → In F f.H w) :
    Sl.Can F (HS l D lp b2 b3 R isV rest) b2 0 [.pointer (some ⟨R, 0, none⟩)] ∧ Sl.Can F (HS l D lp b2 b3 R isV rest) b3 0 [isV] ∧ Sl.Can F (HS l D lp b2 b3 R isV rest) R (0 + 0) [.slice f.sa f.sn f.sc] ∧
      (∀ i, i < f.sn → ∃ gb go, f.sa = some ⟨gb, go, none⟩ ∧ Sl.Can F (HS l D lp b2 b3 R isV rest) gb (go + (i : Int).toNat * 1) [ptOf f i]) := by
  subst hR
  have hw' : ∀ w, In F (HS l D lp b2 b3 f.R isV rest) w → In F f.H w := fun w h => hw w (h.sublist (.cons _ (.cons _ (.cons _ (.cons _ (.refl _))))))
  refine ⟨Can.cut (n := 1) (.there (.there (.there (.here rfl)))), Can.cut (n := 1) (.there (.there (.here rfl))), ((fl_can f).mono hw').one (i := 0) rfl, fun i hi => ?_⟩
  have hlen := hf.len
  have hm : f.rs[i]? = some (f.rs[i]'(by omega)) := by simp
  obtain ⟨gb, go, h1, h2⟩ := fl_ptr (F := F) hf hm
  exact ⟨gb, go, h1, by unfold ptOf; rw [hm]; exact h2.mono hw'⟩
theorem su_rec {F F' : Nat → Option Obj} {l D b2 b3 R : Nat} {lp : Loop} {isV : Value} {rest : HL} {f : FM} (hw : ∀ w, In F rest w → In F f.H w) (hF : ∀ w, In F' [] w → In F (HS l D lp b2 b3 R isV rest) w) {i : Nat} {m : RcM} (hm : f.rs[i]? = some m) : Sl.Can F' [] m.b 0 m.cells :=
  (rec_can (F := F) hm).mono (fun w h => hw w ((hF w h).sublist (.cons _ (.cons _ (.cons _ (.cons _ (.refl _)))))))

/-- of a flight the first so many records of a kind are turned -/
def turnM (q : Rc → Bool) (g : Rc → Rc) (m : RcM) : RcM := if q m.r then { m with r := g m.r } else m
def FM.half (f : FM) (q : Rc → Bool) (g : Rc → Rc) (i : Nat) : FM := { f with rs := (f.rs.take i).map (turnM q g) ++ f.rs.drop i }
theorem halfM_get {f : FM} (q : Rc → Bool) (g : Rc → Rc) {i : Nat} {m : RcM} (h : f.rs[i]? = some m) : (f.half q g i).rs[i]? = some m := by
  have hi := (List.getElem?_eq_some_iff.1 h).1
  dsimp only [FM.half]
  rw [List.getElem?_append_right (by simp; omega)]
  simp only [List.length_map, List.length_take]
  rw [List.getElem?_drop, show i + (i - min i f.rs.length) = i by omega]
  exact h
theorem halfM_succ {f : FM} (q : Rc → Bool) (g : Rc → Rc) {i : Nat} {m : RcM} (h : f.rs[i]? = some m) : f.half q g (i + 1) = { f.half q g i with rs := (f.half q g i).rs.set i (turnM q g m) } := by
  have hi := (List.getElem?_eq_some_iff.1 h).1
  have hd : f.rs.drop i = m :: f.rs.drop (i + 1) := by
    rw [List.drop_eq_getElem_cons hi]
    have := (List.getElem?_eq_some_iff.1 h).2
    rw [this]
  unfold FM.half
  dsimp only
  congr 1
  rw [List.take_add_one, h, hd, List.map_append, List.set_append_right _ _ (by simp; omega)]
  have : i - ((f.rs.take i).map (turnM q g)).length = 0 := by simp; omega
  rw [this]
  simp
theorem halfM_len (f : FM) (q : Rc → Bool) (g : Rc → Rc) (i : Nat) : (f.half q g i).rs.length = f.rs.length := by
  dsimp only [FM.half]
  rw [List.length_append, List.length_map, ← List.length_append, List.take_append_drop]
theorem halfM_ok {f : FM} (hf : f.ok) (q : Rc → Bool) (g : Rc → Rc) (hg : ∀ r, (g r).bs = r.bs) : ∀ i, i ≤ f.rs.length → (f.half q g i).ok
  | 0, _ => hf
  | i + 1, hi => by
    have hm : f.rs[i]? = some (f.rs[i]'(by omega)) := by simp
    have ih := halfM_ok hf q g hg i (by omega)
    rw [halfM_succ q g hm]
    unfold turnM
    split
    · exact set_ok ih (halfM_get q g hm) (hg _)
    · have := set_ok ih (halfM_get q g hm) (r' := (f.rs[i]'(by omega)).r) rfl
      exact this
theorem halfM_no {f : FM} (q : Rc → Bool) (g : Rc → Rc) {i : Nat} {m : RcM} (h : f.rs[i]? = some m) (hq : q m.r = false) : f.half q g (i + 1) = f.half q g i := by
  rw [halfM_succ q g h]
  unfold turnM
  rw [hq, if_neg (by simp)]
  have hg := halfM_get q g h
  have : (f.half q g i).rs.set i m = (f.half q g i).rs := by
    refine List.ext_getElem? (fun j => ?_)
    by_cases hj : i = j
    · subst hj
      rw [List.getElem?_set_self (List.getElem?_eq_some_iff.1 hg).1, hg]
    · rw [List.getElem?_set_ne hj]
  rw [this]
theorem halfM_yes {f : FM} (q : Rc → Bool) (g : Rc → Rc) {i : Nat} {m : RcM} (h : f.rs[i]? = some m) (hq : q m.r = true) : f.half q g (i + 1) = { f.half q g i with rs := (f.half q g i).rs.set i { m with r := g m.r } } := by
  rw [halfM_succ q g h]
  unfold turnM
  rw [hq, if_pos rfl]
theorem halfM_all (f : FM) (q : Rc → Bool) (g : Rc → Rc) : (f.half q g f.rs.length).S = { f.S with L := sel q g f.S.L } := by
  unfold FM.half FM.S sel
  dsimp only
  rw [List.take_length, List.drop_length, List.append_nil, List.map_map, List.map_map]
  congr 1
  refine List.map_congr_left (fun m _ => ?_)
  dsimp only [Function.comp, turnM]
  split <;> rfl
theorem ptOf_half (f : FM) (q : Rc → Bool) (g : Rc → Rc) {i : Nat} {m : RcM} (h : f.rs[i]? = some m) : ptOf (f.half q g i) i = ptOf f i := by
  unfold ptOf
  rw [halfM_get q g h, h]
set_option maxHeartbeats 4000000 in
theorem out_tr (F : Nat → Option Obj) (f : FM) (hf : f.ok) (hs : f.small) (p : Int) : Tr Tryz.prog 58 [.pointer (some ⟨f.R, 0, none⟩), .int .i64 p].toArray F f.H (fun v H => v = .int .i64 (Flt.out f.S p) ∧ H = f.H) := by
  refine Tr.enterM Tryz.func58 rfl Tryz.ntmps58 rfl (fun w0 => ?_)
  have hlen := hf.len
  have hfew := hf.few
  repeat' (first | refine S1 ?_ | refine SD ?_ | refine SA (fun _ => ?_) | refine G1 (fun hc => ?_) (fun hc => ?_) | refine G2 (fun hc => ?_) (fun hc => ?_) | refine G3 (fun hc => ?_) (fun hc => ?_))
  rename_i bn
  refine WL.e rfl (Ef.call (by exact rfl) (.nil _) (by_tr _ p)) ?_
  rintro _ _ ⟨_, ⟨bp, rfl, rfl⟩, rfl⟩
  repeat' (first | refine S1 ?_ | refine SD ?_ | refine SA (fun _ => ?_) | refine G1 (fun hc => ?_) (fun hc => ?_) | refine G2 (fun hc => ?_) (fun hc => ?_) | refine G3 (fun hc => ?_) (fun hc => ?_))
  refine WL.e rfl (Ef.call (by exact rfl) (.nil _) (such_tr _ (.pointer (some ⟨f.R, 0, none⟩)) (.func (.func 92) ([] : List Value).toArray [.pointer (some ⟨bp, 0, none⟩)].toArray) rfl rfl)) ?_
  rintro _ _ ⟨_, ⟨b2, b3, rfl, rfl⟩, rfl⟩
  repeat' (first | refine S1 ?_ | refine SD ?_ | refine SA (fun _ => ?_) | refine G1 (fun hc => ?_) (fun hc => ?_) | refine G2 (fun hc => ?_) (fun hc => ?_) | refine G3 (fun hc => ?_) (fun hc => ?_))
  refine W.rangeF (gf := 91) (fv := []) (cv := [.pointer (some ⟨b2, 0, none⟩), .pointer (some ⟨b3, 0, none⟩)]) rfl rfl (fun l D r hr => ?_)
  obtain ⟨RE, hRE⟩ : ∃ RE : Nat → HL, RE = fun i => (bp, Obj.cells [.int .i64 p].toArray 3 (0, 0)) :: (bn, .cells [.int .i64 (sumB (byP p) ((f.rs.map (·.r)).take i) : Nat)].toArray 3 (0, 0)) :: f.H := ⟨_, rfl⟩
  have hRw : ∀ i w, In F (RE i) w → In F f.H w := fun i w h => by rw [hRE] at h; exact h.sublist (.cons _ (.cons _ (.refl _)))
  have hcall := such1_tr F f.R b2 b3 l 92 [.pointer (some ⟨bp, 0, none⟩)] f.sn f.sc f.sa (ptOf f) (by omega) (fun i => match f.rs[i]? with | some m => byP p m.r | none => false)
    (fun i H => H = HS l D r b2 b3 f.R (.func (.func 92) ([] : List Value).toArray [.pointer (some ⟨bp, 0, none⟩)].toArray) (RE i))
    (fun i H hi hH => by
      subst hH
      obtain ⟨h1, h2, h3, h4⟩ := su_cans (F := F) (l := l) (D := D) (lp := r) (b2 := b2) (b3 := b3) (isV := .func (.func 92) ([] : List Value).toArray [.pointer (some ⟨bp, 0, none⟩)].toArray) (rest := RE i) hf rfl (hRw i)
      exact ⟨h1, h2, h3, h4 i⟩)
    (fun i H hi hH F' hF => by
      subst hH
      obtain ⟨m, hm⟩ : ∃ m, f.rs[i]? = some m := ⟨f.rs[i]'(by omega), by simp⟩
      unfold ptOf
      rw [hm]
      refine by1_tr F' m bp p (su_rec (hRw i) hF hm) ?_
      refine Can.mono (F := F) (H := RE i) ?_ (fun w h => (hF w h).sublist (.cons _ (.cons _ (.cons _ (.cons _ (.refl _))))))
      rw [hRE]
      exact Can.cut (n := 1) (.here rfl))
    (fun i H hi hq hH => by
      subst hH
      obtain ⟨m, hm⟩ : ∃ m, f.rs[i]? = some m := ⟨f.rs[i]'(by omega), by simp⟩
      rw [hm] at hq
      have hsn := sumB_snoc (byP p) (L := f.rs.map (·.r)) (i := i) (r := m.r) (by rw [List.getElem?_map, hm]; rfl)
      rw [show (byP p) m.r = false from hq, if_neg (by simp)] at hsn
      rw [hRE]
      dsimp only
      rw [hsn]
      rfl)
    (fun i H hi hq hH F' hF => by
      subst hH
      obtain ⟨m, hm⟩ : ∃ m, f.rs[i]? = some m := ⟨f.rs[i]'(by omega), by simp⟩
      rw [hm] at hq
      have hsn := sumB_snoc (byP p) (L := f.rs.map (·.r)) (i := i) (r := m.r) (by rw [List.getElem?_map, hm]; rfl)
      rw [show (byP p) m.r = true from hq, if_pos rfl] at hsn
      have hsm := sum_small hs (byP p) (i + 1)
      have hml := (hf.recs m (List.mem_of_getElem? hm)).len
      unfold ptOf
      rw [hm]
      rw [hRE]
      dsimp only
      rw [hsn]
      rw [hsn] at hsm
      obtain ⟨c, hc⟩ : ∃ c, sumB (byP p) ((f.rs.map (·.r)).take i) = c := ⟨_, rfl⟩
      rw [hc] at hsm ⊢
      refine TrY.of hr rfl (fun w h => h.own (l, .loop r) (by simp [HS])) (fun w1 => ?_)
      unfold RcM.p HS
      repeat' (first | refine S1 ?_ | refine SD ?_ | refine SA (fun _ => ?_) | refine G1 (fun hc => ?_) (fun hc => ?_) | refine G2 (fun hc => ?_) (fun hc => ?_) | refine G3 (fun hc => ?_) (fun hc => ?_))
      refine Fin.begin (Foc.here _) hr.state ?_
      repeat' (first | refine S1 ?_ | refine SD ?_ | refine SA (fun _ => ?_) | refine G1 (fun hc => ?_) (fun hc => ?_) | refine G2 (fun hc => ?_) (fun hc => ?_) | refine G3 (fun hc => ?_) (fun hc => ?_))
      refine WD.s rfl (Rd.ldC rfl ((rec_can' hm (fun _ h => h.sublist findA)).one (i := 6) rfl)) ?_
      repeat' (first | refine S1 ?_ | refine SD ?_ | refine SA (fun _ => ?_) | refine G1 (fun hc => ?_) (fun hc => ?_) | refine G2 (fun hc => ?_) (fun hc => ?_) | refine G3 (fun hc => ?_) (fun hc => ?_))
      refine Fin.more (Foc.here _) (fun _ h => h) ⟨rfl, ?_⟩
      simp only [hr.again]
      rw [i64_id (by omega) (by omega), hml]
      rfl)
    (HS l D r b2 b3 f.R (.func (.func 92) ([] : List Value).toArray [.pointer (some ⟨bp, 0, none⟩)].toArray) (RE 0)) (by rfl)
  refine Tr.mono (R := fun _ H => H = HS l D r b2 b3 f.R (.func (.func 92) ([] : List Value).toArray [.pointer (some ⟨bp, 0, none⟩)].toArray) (RE f.sn)) ?_ ?_
  · rw [hRE] at hcall ⊢
    exact hcall
  · rintro _ _ rfl
    refine ⟨r, _, .refl _, by rw [hr.state]; simp, ?_⟩
    rw [hr.pending, hRE]
    dsimp only [Cx.marked]
    rw [List.take_of_length_le (by simp; omega)]
    repeat' (first | refine S1 ?_ | refine SD ?_ | refine SA (fun _ => ?_) | refine G1 (fun hc => ?_) (fun hc => ?_) | refine G2 (fun hc => ?_) (fun hc => ?_) | refine G3 (fun hc => ?_) (fun hc => ?_))
    exact Fin.retM (D := D) (by exact rfl) .here resA (H' := f.H) (fun _ h => h.sublist findA) ⟨rfl, rfl⟩
set_option maxHeartbeats 4000000 in
theorem openB_tr (F : Nat → Option Obj) (f : FM) (hf : f.ok) (hs : f.small) : Tr Tryz.prog 46 [.pointer (some ⟨f.R, 0, none⟩)].toArray F f.H (fun v H => v = .int .i64 (Flt.openB f.S) ∧ H = f.H) := by
  refine Tr.enterM Tryz.func46 rfl Tryz.ntmps46 rfl (fun w0 => ?_)
  have hlen := hf.len
  have hfew := hf.few
  repeat' (first | refine S1 ?_ | refine SD ?_ | refine SA (fun _ => ?_) | refine G1 (fun hc => ?_) (fun hc => ?_) | refine G2 (fun hc => ?_) (fun hc => ?_) | refine G3 (fun hc => ?_) (fun hc => ?_))
  rename_i bn
  refine WL.e rfl (Ef.call (by exact rfl) (.nil _) (such_tr _ (.pointer (some ⟨f.R, 0, none⟩)) (.func (.func 88) ([] : List Value).toArray ([] : List Value).toArray) rfl rfl)) ?_
  rintro _ _ ⟨_, ⟨b2, b3, rfl, rfl⟩, rfl⟩
  repeat' (first | refine S1 ?_ | refine SD ?_ | refine SA (fun _ => ?_) | refine G1 (fun hc => ?_) (fun hc => ?_) | refine G2 (fun hc => ?_) (fun hc => ?_) | refine G3 (fun hc => ?_) (fun hc => ?_))
  refine W.rangeF (gf := 91) (fv := []) (cv := [.pointer (some ⟨b2, 0, none⟩), .pointer (some ⟨b3, 0, none⟩)]) rfl rfl (fun l D r hr => ?_)
  obtain ⟨RE, hRE⟩ : ∃ RE : Nat → HL, RE = fun i => (bn, .cells [.int .i64 (sumB (unack) ((f.rs.map (·.r)).take i) : Nat)].toArray 3 (0, 0)) :: f.H := ⟨_, rfl⟩
  have hRw : ∀ i w, In F (RE i) w → In F f.H w := fun i w h => by rw [hRE] at h; exact h.sublist (.cons _ (.refl _))
  have hcall := such1_tr F f.R b2 b3 l 88 [] f.sn f.sc f.sa (ptOf f) (by omega) (fun i => match f.rs[i]? with | some m => unack m.r | none => false)
    (fun i H => H = HS l D r b2 b3 f.R (.func (.func 88) ([] : List Value).toArray ([] : List Value).toArray) (RE i))
    (fun i H hi hH => by
      subst hH
      obtain ⟨h1, h2, h3, h4⟩ := su_cans (F := F) (l := l) (D := D) (lp := r) (b2 := b2) (b3 := b3) (isV := .func (.func 88) ([] : List Value).toArray ([] : List Value).toArray) (rest := RE i) hf rfl (hRw i)
      exact ⟨h1, h2, h3, h4 i⟩)
    (fun i H hi hH F' hF => by
      subst hH
      obtain ⟨m, hm⟩ : ∃ m, f.rs[i]? = some m := ⟨f.rs[i]'(by omega), by simp⟩
      unfold ptOf
      rw [hm]
      exact unack_tr F' m (su_rec (hRw i) hF hm))
    (fun i H hi hq hH => by
      subst hH
      obtain ⟨m, hm⟩ : ∃ m, f.rs[i]? = some m := ⟨f.rs[i]'(by omega), by simp⟩
      rw [hm] at hq
      have hsn := sumB_snoc (unack) (L := f.rs.map (·.r)) (i := i) (r := m.r) (by rw [List.getElem?_map, hm]; rfl)
      rw [show (unack) m.r = false from hq, if_neg (by simp)] at hsn
      rw [hRE]
      dsimp only
      rw [hsn]
      rfl)
    (fun i H hi hq hH F' hF => by
      subst hH
      obtain ⟨m, hm⟩ : ∃ m, f.rs[i]? = some m := ⟨f.rs[i]'(by omega), by simp⟩
      rw [hm] at hq
      have hsn := sumB_snoc (unack) (L := f.rs.map (·.r)) (i := i) (r := m.r) (by rw [List.getElem?_map, hm]; rfl)
      rw [show (unack) m.r = true from hq, if_pos rfl] at hsn
      have hsm := sum_small hs (unack) (i + 1)
      have hml := (hf.recs m (List.mem_of_getElem? hm)).len
      unfold ptOf
      rw [hm]
      rw [hRE]
      dsimp only
      rw [hsn]
      rw [hsn] at hsm
      obtain ⟨c, hc⟩ : ∃ c, sumB (unack) ((f.rs.map (·.r)).take i) = c := ⟨_, rfl⟩
      rw [hc] at hsm ⊢
      refine TrY.of hr rfl (fun w h => h.own (l, .loop r) (by simp [HS])) (fun w1 => ?_)
      unfold RcM.p HS
      repeat' (first | refine S1 ?_ | refine SD ?_ | refine SA (fun _ => ?_) | refine G1 (fun hc => ?_) (fun hc => ?_) | refine G2 (fun hc => ?_) (fun hc => ?_) | refine G3 (fun hc => ?_) (fun hc => ?_))
      refine Fin.begin (Foc.here _) hr.state ?_
      repeat' (first | refine S1 ?_ | refine SD ?_ | refine SA (fun _ => ?_) | refine G1 (fun hc => ?_) (fun hc => ?_) | refine G2 (fun hc => ?_) (fun hc => ?_) | refine G3 (fun hc => ?_) (fun hc => ?_))
      refine WD.s rfl (Rd.ldC rfl ((rec_can' hm (fun _ h => h.sublist findA)).one (i := 6) rfl)) ?_
      repeat' (first | refine S1 ?_ | refine SD ?_ | refine SA (fun _ => ?_) | refine G1 (fun hc => ?_) (fun hc => ?_) | refine G2 (fun hc => ?_) (fun hc => ?_) | refine G3 (fun hc => ?_) (fun hc => ?_))
      refine Fin.more (Foc.here _) (fun _ h => h) ⟨rfl, ?_⟩
      simp only [hr.again]
      rw [i64_id (by omega) (by omega), hml]
      rfl)
    (HS l D r b2 b3 f.R (.func (.func 88) ([] : List Value).toArray ([] : List Value).toArray) (RE 0)) (by rfl)
  refine Tr.mono (R := fun _ H => H = HS l D r b2 b3 f.R (.func (.func 88) ([] : List Value).toArray ([] : List Value).toArray) (RE f.sn)) ?_ ?_
  · rw [hRE] at hcall ⊢
    exact hcall
  · rintro _ _ rfl
    refine ⟨r, _, .refl _, by rw [hr.state]; simp, ?_⟩
    rw [hr.pending, hRE]
    dsimp only [Cx.marked]
    rw [List.take_of_length_le (by simp; omega)]
    repeat' (first | refine S1 ?_ | refine SD ?_ | refine SA (fun _ => ?_) | refine G1 (fun hc => ?_) (fun hc => ?_) | refine G2 (fun hc => ?_) (fun hc => ?_) | refine G3 (fun hc => ?_) (fun hc => ?_))
    exact Fin.retM (D := D) (by exact rfl) .here resA (H' := f.H) (fun _ h => h.sublist findA) ⟨rfl, rfl⟩
set_option maxHeartbeats 4000000 in
theorem mark_tr (F : Nat → Option Obj) (f : FM) (hf : f.ok) (p : Int) : Tr Tryz.prog 32 [.pointer (some ⟨f.R, 0, none⟩), .int .i64 p].toArray F f.H (fun v H => v = .int .i64 (Flt.markN f.S p) ∧ ∃ f' : FM, f'.ok ∧ H = f'.H ∧ f'.R = f.R ∧ f'.S = Flt.mark f.S p) := by
  refine Tr.enterM Tryz.func32 rfl Tryz.ntmps32 rfl (fun w0 => ?_)
  have hlen := hf.len
  have hfew := hf.few
  repeat' (first | refine S1 ?_ | refine SD ?_ | refine SA (fun _ => ?_) | refine G1 (fun hc => ?_) (fun hc => ?_) | refine G2 (fun hc => ?_) (fun hc => ?_) | refine G3 (fun hc => ?_) (fun hc => ?_))
  rename_i bn
  refine WL.e rfl (Ef.call (by exact rfl) (.nil _) (by_tr _ p)) ?_
  rintro _ _ ⟨_, ⟨bp, rfl, rfl⟩, rfl⟩
  repeat' (first | refine S1 ?_ | refine SD ?_ | refine SA (fun _ => ?_) | refine G1 (fun hc => ?_) (fun hc => ?_) | refine G2 (fun hc => ?_) (fun hc => ?_) | refine G3 (fun hc => ?_) (fun hc => ?_))
  refine WL.e rfl (Ef.call (by exact rfl) (.nil _) (such_tr _ (.pointer (some ⟨f.R, 0, none⟩)) (.func (.func 92) ([] : List Value).toArray [.pointer (some ⟨bp, 0, none⟩)].toArray) rfl rfl)) ?_
  rintro _ _ ⟨_, ⟨b2, b3, rfl, rfl⟩, rfl⟩
  repeat' (first | refine S1 ?_ | refine SD ?_ | refine SA (fun _ => ?_) | refine G1 (fun hc => ?_) (fun hc => ?_) | refine G2 (fun hc => ?_) (fun hc => ?_) | refine G3 (fun hc => ?_) (fun hc => ?_))
  refine W.rangeF (gf := 91) (fv := []) (cv := [.pointer (some ⟨b2, 0, none⟩), .pointer (some ⟨b3, 0, none⟩)]) rfl rfl (fun l D r hr => ?_)
  obtain ⟨RE, hRE⟩ : ∃ RE : Nat → HL, RE = fun i => (bp, Obj.cells [.int .i64 p].toArray 3 (0, 0)) :: (bn, .cells [.int .i64 (cntB (byP p) ((f.rs.map (·.r)).take i) : Nat)].toArray 3 (0, 0)) :: (f.half (byP p) setLost i).H := ⟨_, rfl⟩
  have hRw : ∀ i w, In F (RE i) w → In F (f.half (byP p) setLost i).H w := fun i w h => by rw [hRE] at h; exact h.sublist (.cons _ (.cons _ (.refl _)))
  have hok : ∀ i, i ≤ f.sn → (f.half (byP p) setLost i).ok := fun i hi => halfM_ok hf (byP p) setLost (fun _ => rfl) i (by omega)
  have hcall := such1_tr F f.R b2 b3 l 92 [.pointer (some ⟨bp, 0, none⟩)] f.sn f.sc f.sa (ptOf f) (by omega) (fun i => match f.rs[i]? with | some m => byP p m.r | none => false)
    (fun i H => H = HS l D r b2 b3 f.R (.func (.func 92) ([] : List Value).toArray [.pointer (some ⟨bp, 0, none⟩)].toArray) (RE i))
    (fun i H hi hH => by
      subst hH
      obtain ⟨h1, h2, h3, h4⟩ := su_cans (F := F) (l := l) (D := D) (lp := r) (b2 := b2) (b3 := b3) (isV := .func (.func 92) ([] : List Value).toArray [.pointer (some ⟨bp, 0, none⟩)].toArray) (rest := RE i) (hok i hi) rfl (hRw i)
      refine ⟨h1, h2, h3, fun hi' => ?_⟩
      obtain ⟨m, hm⟩ : ∃ m, f.rs[i]? = some m := ⟨f.rs[i]'(by omega), by simp⟩
      have h5 := h4 i hi'
      rw [ptOf_half f _ _ hm] at h5
      exact h5)
    (fun i H hi hH F' hF => by
      subst hH
      obtain ⟨m, hm⟩ : ∃ m, f.rs[i]? = some m := ⟨f.rs[i]'(by omega), by simp⟩
      unfold ptOf
      rw [hm]
      refine by1_tr F' m bp p (su_rec (hRw i) hF (halfM_get _ _ hm)) ?_
      refine Can.mono (F := F) (H := RE i) ?_ (fun w h => (hF w h).sublist (.cons _ (.cons _ (.cons _ (.cons _ (.refl _))))))
      rw [hRE]
      exact Can.cut (n := 1) (.here rfl))
    (fun i H hi hq hH => by
      subst hH
      obtain ⟨m, hm⟩ : ∃ m, f.rs[i]? = some m := ⟨f.rs[i]'(by omega), by simp⟩
      rw [hm] at hq
      have hsn := cntB_snoc (byP p) (L := f.rs.map (·.r)) (i := i) (r := m.r) (by rw [List.getElem?_map, hm]; rfl)
      rw [show (byP p) m.r = false from hq, if_neg (by simp)] at hsn
      rw [hRE]
      dsimp only
      rw [hsn, halfM_no _ _ hm hq]
      rfl)
    (fun i H hi hq hH F' hF => by
      subst hH
      obtain ⟨m, hm⟩ : ∃ m, f.rs[i]? = some m := ⟨f.rs[i]'(by omega), by simp⟩
      rw [hm] at hq
      have hsn := cntB_snoc (byP p) (L := f.rs.map (·.r)) (i := i) (r := m.r) (by rw [List.getElem?_map, hm]; rfl)
      rw [show (byP p) m.r = true from hq, if_pos rfl] at hsn
      have hsm : cntB (byP p) ((f.rs.map (·.r)).take (i + 1)) ≤ 2048 := Nat.le_trans (cntB_le _ _) (by simp; omega)
      have hyes := halfM_yes (byP p) setLost hm hq
      have hmi := halfM_get (byP p) setLost hm
      have hput := rec_put hmi (off := 0 + 12) (vs := [.bool true]) (r' := setLost m.r) rfl
      unfold ptOf
      rw [hm]
      rw [hRE]
      dsimp only
      rw [hsn, hyes]
      rw [hsn] at hsm
      obtain ⟨c, hc⟩ : ∃ c, cntB (byP p) ((f.rs.map (·.r)).take i) = c := ⟨_, rfl⟩
      rw [hc] at hsm ⊢
      refine TrY.of hr rfl (fun w h => h.own (l, .loop r) (by simp [HS])) (fun w1 => ?_)
      unfold RcM.p HS
      repeat' (first | refine S1 ?_ | refine SD ?_ | refine SA (fun _ => ?_) | refine G1 (fun hc => ?_) (fun hc => ?_) | refine G2 (fun hc => ?_) (fun hc => ?_) | refine G3 (fun hc => ?_) (fun hc => ?_))
      refine Fin.begin (Foc.here _) hr.state ?_
      repeat' (first | refine S1 ?_ | refine SD ?_ | refine SA (fun _ => ?_) | refine G1 (fun hc => ?_) (fun hc => ?_) | refine G2 (fun hc => ?_) (fun hc => ?_) | refine G3 (fun hc => ?_) (fun hc => ?_))
      refine WL.e0A ?_ (Ef.st rfl rfl rfl (.there (.there (.there (.there (.there (.there hput)))))))
      repeat' (first | refine S1 ?_ | refine SD ?_ | refine SA (fun _ => ?_) | refine G1 (fun hc => ?_) (fun hc => ?_) | refine G2 (fun hc => ?_) (fun hc => ?_) | refine G3 (fun hc => ?_) (fun hc => ?_))
      refine Fin.more (Foc.here _) (fun _ h => h) ⟨rfl, ?_⟩
      simp only [hr.again]
      rw [i64_succ (by omega)])
    (HS l D r b2 b3 f.R (.func (.func 92) ([] : List Value).toArray [.pointer (some ⟨bp, 0, none⟩)].toArray) (RE 0)) (by rfl)
  refine Tr.mono (R := fun _ H => H = HS l D r b2 b3 f.R (.func (.func 92) ([] : List Value).toArray [.pointer (some ⟨bp, 0, none⟩)].toArray) (RE f.sn)) ?_ ?_
  · rw [hRE] at hcall ⊢
    exact hcall
  · rintro _ _ rfl
    refine ⟨r, _, .refl _, by rw [hr.state]; simp, ?_⟩
    rw [hr.pending, hRE]
    dsimp only [Cx.marked]
    rw [List.take_of_length_le (by simp; omega)]
    repeat' (first | refine S1 ?_ | refine SD ?_ | refine SA (fun _ => ?_) | refine G1 (fun hc => ?_) (fun hc => ?_) | refine G2 (fun hc => ?_) (fun hc => ?_) | refine G3 (fun hc => ?_) (fun hc => ?_))
    exact Fin.retM (D := D) (by exact rfl) .here resA (H' := (f.half (byP p) setLost f.sn).H) (fun _ h => h.sublist findA) ⟨rfl, (f.half (byP p) setLost f.sn), hok f.sn (Nat.le_refl _), rfl, rfl, by rw [← hlen]; exact halfM_all f _ _⟩
set_option maxHeartbeats 4000000 in
theorem abandon_tr (F : Nat → Option Obj) (f : FM) (hf : f.ok) (p : Int) : Tr Tryz.prog 27 [.pointer (some ⟨f.R, 0, none⟩), .int .i64 p].toArray F f.H (fun v H => v = .int .i64 (Flt.abandonN f.S p) ∧ ∃ f' : FM, f'.ok ∧ H = f'.H ∧ f'.R = f.R ∧ f'.S = Flt.abandon f.S p) := by
  refine Tr.enterM Tryz.func27 rfl Tryz.ntmps27 rfl (fun w0 => ?_)
  have hlen := hf.len
  have hfew := hf.few
  repeat' (first | refine S1 ?_ | refine SD ?_ | refine SA (fun _ => ?_) | refine G1 (fun hc => ?_) (fun hc => ?_) | refine G2 (fun hc => ?_) (fun hc => ?_) | refine G3 (fun hc => ?_) (fun hc => ?_))
  rename_i bp bn
  refine WL.e rfl (Ef.call (by exact rfl) (.nil _) (such_tr _ (.pointer (some ⟨f.R, 0, none⟩)) (.func (.func 55) ([] : List Value).toArray [.pointer (some ⟨bp, 0, none⟩)].toArray) rfl rfl)) ?_
  rintro _ _ ⟨_, ⟨b2, b3, rfl, rfl⟩, rfl⟩
  repeat' (first | refine S1 ?_ | refine SD ?_ | refine SA (fun _ => ?_) | refine G1 (fun hc => ?_) (fun hc => ?_) | refine G2 (fun hc => ?_) (fun hc => ?_) | refine G3 (fun hc => ?_) (fun hc => ?_))
  refine W.rangeF (gf := 91) (fv := []) (cv := [.pointer (some ⟨b2, 0, none⟩), .pointer (some ⟨b3, 0, none⟩)]) rfl rfl (fun l D r hr => ?_)
  obtain ⟨RE, hRE⟩ : ∃ RE : Nat → HL, RE = fun i => (bn, .cells [.int .i64 (cntB (ofId p) ((f.rs.map (·.r)).take i) : Nat)].toArray 3 (0, 0)) :: (bp, Obj.cells [.int .i64 p].toArray 3 (0, 0)) :: (f.half (ofId p) setGone i).H := ⟨_, rfl⟩
  have hRw : ∀ i w, In F (RE i) w → In F (f.half (ofId p) setGone i).H w := fun i w h => by rw [hRE] at h; exact h.sublist (.cons _ (.cons _ (.refl _)))
  have hok : ∀ i, i ≤ f.sn → (f.half (ofId p) setGone i).ok := fun i hi => halfM_ok hf (ofId p) setGone (fun _ => rfl) i (by omega)
  have hcall := such1_tr F f.R b2 b3 l 55 [.pointer (some ⟨bp, 0, none⟩)] f.sn f.sc f.sa (ptOf f) (by omega) (fun i => match f.rs[i]? with | some m => ofId p m.r | none => false)
    (fun i H => H = HS l D r b2 b3 f.R (.func (.func 55) ([] : List Value).toArray [.pointer (some ⟨bp, 0, none⟩)].toArray) (RE i))
    (fun i H hi hH => by
      subst hH
      obtain ⟨h1, h2, h3, h4⟩ := su_cans (F := F) (l := l) (D := D) (lp := r) (b2 := b2) (b3 := b3) (isV := .func (.func 55) ([] : List Value).toArray [.pointer (some ⟨bp, 0, none⟩)].toArray) (rest := RE i) (hok i hi) rfl (hRw i)
      refine ⟨h1, h2, h3, fun hi' => ?_⟩
      obtain ⟨m, hm⟩ : ∃ m, f.rs[i]? = some m := ⟨f.rs[i]'(by omega), by simp⟩
      have h5 := h4 i hi'
      rw [ptOf_half f _ _ hm] at h5
      exact h5)
    (fun i H hi hH F' hF => by
      subst hH
      obtain ⟨m, hm⟩ : ∃ m, f.rs[i]? = some m := ⟨f.rs[i]'(by omega), by simp⟩
      unfold ptOf
      rw [hm]
      refine ofId_tr F' m bp p (su_rec (hRw i) hF (halfM_get _ _ hm)) ?_
      refine Can.mono (F := F) (H := RE i) ?_ (fun w h => (hF w h).sublist (.cons _ (.cons _ (.cons _ (.cons _ (.refl _))))))
      rw [hRE]
      exact Can.cut (n := 1) (.there (.here rfl)))
    (fun i H hi hq hH => by
      subst hH
      obtain ⟨m, hm⟩ : ∃ m, f.rs[i]? = some m := ⟨f.rs[i]'(by omega), by simp⟩
      rw [hm] at hq
      have hsn := cntB_snoc (ofId p) (L := f.rs.map (·.r)) (i := i) (r := m.r) (by rw [List.getElem?_map, hm]; rfl)
      rw [show (ofId p) m.r = false from hq, if_neg (by simp)] at hsn
      rw [hRE]
      dsimp only
      rw [hsn, halfM_no _ _ hm hq]
      rfl)
    (fun i H hi hq hH F' hF => by
      subst hH
      obtain ⟨m, hm⟩ : ∃ m, f.rs[i]? = some m := ⟨f.rs[i]'(by omega), by simp⟩
      rw [hm] at hq
      have hsn := cntB_snoc (ofId p) (L := f.rs.map (·.r)) (i := i) (r := m.r) (by rw [List.getElem?_map, hm]; rfl)
      rw [show (ofId p) m.r = true from hq, if_pos rfl] at hsn
      have hsm : cntB (ofId p) ((f.rs.map (·.r)).take (i + 1)) ≤ 2048 := Nat.le_trans (cntB_le _ _) (by simp; omega)
      have hyes := halfM_yes (ofId p) setGone hm hq
      have hmi := halfM_get (ofId p) setGone hm
      have hput := rec_put hmi (off := 0 + 13) (vs := [.bool true]) (r' := setGone m.r) rfl
      unfold ptOf
      rw [hm]
      rw [hRE]
      dsimp only
      rw [hsn, hyes]
      rw [hsn] at hsm
      obtain ⟨c, hc⟩ : ∃ c, cntB (ofId p) ((f.rs.map (·.r)).take i) = c := ⟨_, rfl⟩
      rw [hc] at hsm ⊢
      refine TrY.of hr rfl (fun w h => h.own (l, .loop r) (by simp [HS])) (fun w1 => ?_)
      unfold RcM.p HS
      repeat' (first | refine S1 ?_ | refine SD ?_ | refine SA (fun _ => ?_) | refine G1 (fun hc => ?_) (fun hc => ?_) | refine G2 (fun hc => ?_) (fun hc => ?_) | refine G3 (fun hc => ?_) (fun hc => ?_))
      refine Fin.begin (Foc.here _) hr.state ?_
      repeat' (first | refine S1 ?_ | refine SD ?_ | refine SA (fun _ => ?_) | refine G1 (fun hc => ?_) (fun hc => ?_) | refine G2 (fun hc => ?_) (fun hc => ?_) | refine G3 (fun hc => ?_) (fun hc => ?_))
      refine WL.e0A ?_ (Ef.st rfl rfl rfl (.there (.there (.there (.there (.there (.there hput)))))))
      repeat' (first | refine S1 ?_ | refine SD ?_ | refine SA (fun _ => ?_) | refine G1 (fun hc => ?_) (fun hc => ?_) | refine G2 (fun hc => ?_) (fun hc => ?_) | refine G3 (fun hc => ?_) (fun hc => ?_))
      refine Fin.more (Foc.here _) (fun _ h => h) ⟨rfl, ?_⟩
      simp only [hr.again]
      rw [i64_succ (by omega)])
    (HS l D r b2 b3 f.R (.func (.func 55) ([] : List Value).toArray [.pointer (some ⟨bp, 0, none⟩)].toArray) (RE 0)) (by rfl)
  refine Tr.mono (R := fun _ H => H = HS l D r b2 b3 f.R (.func (.func 55) ([] : List Value).toArray [.pointer (some ⟨bp, 0, none⟩)].toArray) (RE f.sn)) ?_ ?_
  · rw [hRE] at hcall ⊢
    exact hcall
  · rintro _ _ rfl
    refine ⟨r, _, .refl _, by rw [hr.state]; simp, ?_⟩
    rw [hr.pending, hRE]
    dsimp only [Cx.marked]
    rw [List.take_of_length_le (by simp; omega)]
    repeat' (first | refine S1 ?_ | refine SD ?_ | refine SA (fun _ => ?_) | refine G1 (fun hc => ?_) (fun hc => ?_) | refine G2 (fun hc => ?_) (fun hc => ?_) | refine G3 (fun hc => ?_) (fun hc => ?_))
    exact Fin.retM (D := D) (by exact rfl) .here resA (H' := (f.half (ofId p) setGone f.sn).H) (fun _ h => h.sublist findA) ⟨rfl, (f.half (ofId p) setGone f.sn), hok f.sn (Nat.le_refl _), rfl, rfl, by rw [← hlen]; exact halfM_all f _ _⟩
end Go.Proofs.YtjfpckadjnjmoaaGreat
