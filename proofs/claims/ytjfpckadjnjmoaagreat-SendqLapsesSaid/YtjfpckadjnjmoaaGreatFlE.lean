/- A flight of pieces: Point, Get, Again, Add, walked: they answer as the plain functions do. Conditions: it is well formed; the bytes are few. -/
import Derived.Test.YtjfpckadjnjmoaaGreatFlD
namespace Go.Proofs.YtjfpckadjnjmoaaGreat
open Go Go.Sl Go.Flt

/-- a piece in memory -/
structure DM where
  d : Dt
  ba : Option Addr
  bn : Nat
  bc : Nat
  bb : HL
def DM.cells (m : DM) : List Value := [.int .u32 m.d.tsn, .int .u16 m.d.stream, .int .u16 m.d.ssn, .bool m.d.un, .bool m.d.fi, .bool m.d.la, .slice m.ba m.bn m.bc]
def DM.ok (m : DM) : Prop := OwnS 5 1 (m.d.bs.map B) (.slice m.ba m.bn m.bc) m.bb
theorem DM.len (m : DM) : m.cells.length = 7 := rfl
theorem rec_src {F : Nat → Option Obj} {f : FM} (hf : f.ok) {i : Nat} {m : RcM} (h : f.rs[i]? = some m) : Lst F f.H 1 (m.r.bs.map B) m.ba m.bn m.bc := by
  refine (Lst.own (F := F) (H := m.bb) (hf.recs m (List.mem_of_getElem? h)) (fun _ h => h)).mono (fun w hw => ?_)
  unfold FM.H at hw
  rw [flat_split h] at hw
  exact hw.sublist (.cons _ (.trans (.trans (.trans (.cons _ (.refl _)) (List.sublist_append_left _ _)) (List.sublist_append_right _ _)) (List.sublist_append_right _ _)))
theorem rec_d {F : Nat → Option Obj} {f : FM} {i : Nat} {m : RcM} (h : f.rs[i]? = some m) : Sl.Can F f.H m.b (0 + 0) [.int .u32 m.r.tsn, .int .u16 m.r.stream, .int .u16 m.r.ssn, .bool m.r.un, .bool m.r.fi, .bool m.r.la, .slice m.ba m.bn m.bc] := (rec_can h).sub 0 7
theorem set_get {l : List RcM} {i : Nat} {m m' : RcM} (h : l[i]? = some m) : (l.set i m')[i]? = some m' := List.getElem?_set_self (List.getElem?_eq_some_iff.1 h).1
theorem rec_few {f : FM} (_hf : f.ok) (hs : f.small) {i : Nat} {m : RcM} (h : f.rs[i]? = some m) : m.r.bs.length ≤ 1000000000000 := by
  have h1 := sumB_snoc (fun _ => true) (L := f.rs.map (·.r)) (i := i) (r := m.r) (by rw [List.getElem?_map, h]; rfl)
  have h2 := sum_small hs (fun _ => true) (i + 1)
  rw [if_pos rfl] at h1
  omega
set_option maxHeartbeats 4000000 in
theorem getD_tr (F : Nat → Option Obj) (f : FM) (hf : f.ok) (hs : f.small) (t : Int) : Tr Tryz.prog 65 [.pointer (some ⟨f.R, 0, none⟩), .int .u32 t].toArray F f.H (fun v H =>
    (Flt.getD f.S t = none ∧ v = tup [.agg [.int .u32 0, .int .u16 0, .int .u16 0, .bool false, .bool false, .bool false, .slice none 0 0].toArray, .int .i64 0, .bool false] ∧ H = f.H) ∨
    (∃ m : DM, ∃ p, Flt.getD f.S t = some (m.d, p) ∧ m.ok ∧ v = tup [.agg m.cells.toArray, .int .i64 p, .bool true] ∧ H = m.bb ++ f.H)) := by
  refine Tr.enter Tryz.func65 rfl Tryz.ntmps65 rfl (fun w0 => ?_)
  have hlen := hf.len
  repeat' (first | refine S1 ?_ | refine SD ?_ | refine SA (fun _ => ?_) | refine G1 (fun hc => ?_) (fun hc => ?_) | refine G2 (fun hc => ?_) (fun hc => ?_) | refine G3 (fun hc => ?_) (fun hc => ?_))
  refine WL.e rfl (Ef.callR (c := f.H) (by exact rfl) (.last (.there .all)) (get_tr _ f hf t)) ?_
  rintro _ _ ⟨rfl, rfl⟩
  have hL : f.S.L.length = f.sn := by rw [← hlen]; simp [FM.S]
  cases ha : atI f.c f.sn t with
  | none =>
    repeat' (first | refine S1 ?_ | refine SD ?_ | refine SA (fun _ => ?_) | refine G1 (fun hc => ?_) (fun hc => ?_) | refine G2 (fun hc => ?_) (fun hc => ?_) | refine G3 (fun hc => ?_) (fun hc => ?_))
    exact Fin.retW (by exact rfl) resA (H' := f.H) (fun _ h => h.sublist findA) (.inl ⟨by unfold Flt.getD; rw [hL, show f.S.c = f.c from rfl, ha], rfl, rfl⟩)
  | some i =>
    have hi : i < f.sn := by
      unfold atI at ha
      split at ha
      · simp at ha; omega
      · cases ha
    obtain ⟨m, hm⟩ : ∃ m, f.rs[i]? = some m := ⟨f.rs[i]'(by omega), by simp⟩
    have hfew := rec_few hf hs hm
    unfold ptOf
    dsimp only
    rw [hm]
    dsimp only
    unfold RcM.p
    repeat' (first | refine S1 ?_ | refine SD ?_ | refine SA (fun _ => ?_) | refine G1 (fun hc => ?_) (fun hc => ?_) | refine G2 (fun hc => ?_) (fun hc => ?_) | refine G3 (fun hc => ?_) (fun hc => ?_))
    refine WL.s rfl (Rd.ldaC rfl (by exact rfl) ((rec_d hm).mono (fun _ h => h.sublist findA))) ?_
    repeat' (first | refine S1 ?_ | refine SD ?_ | refine SA (fun _ => ?_) | refine G1 (fun hc => ?_) (fun hc => ?_) | refine G2 (fun hc => ?_) (fun hc => ?_) | refine G3 (fun hc => ?_) (fun hc => ?_))
    refine WL.e rfl (Ef.look (by exact rfl) (fun F' hF => clone_tr F' m.r.bs m.ba m.bn m.bc ((rec_src hf hm).mono (fun w h => (hF w h).sublist findA)) hfew)) ?_
    rintro _ _ ⟨H1, ⟨sa', sn', sc', rfl, hown⟩, rfl⟩
    repeat' (first | refine S1 ?_ | refine SA (fun _ => ?_) | refine G1 (fun hc => ?_) (fun hc => ?_) | refine G2 (fun hc => ?_) (fun hc => ?_) | refine G3 (fun hc => ?_) (fun hc => ?_))
    rename_i x4 x8
    refine W.draw (H1 ++ (x8, .cells [.int .u32 m.r.tsn, .int .u16 m.r.stream, .int .u16 m.r.ssn, .bool m.r.un, .bool m.r.fi, .bool m.r.la, .slice sa' sn' sc'].toArray 50 (0, 0)) :: f.H) (by kernel_rfl) (by kernel_rfl) (fun _ h => h.sublist ((List.Sublist.refl _).append (.cons_cons _ (.cons _ (.refl _))))) ?_
    repeat' (first | refine S1 ?_ | refine SD ?_ | refine SA (fun _ => ?_) | refine G1 (fun hc => ?_) (fun hc => ?_) | refine G2 (fun hc => ?_) (fun hc => ?_) | refine G3 (fun hc => ?_) (fun hc => ?_))
    refine WD.s rfl (Rd.ldC rfl (((rec_can hm).one (i := 7) rfl).mono (fun _ h => h.sublist findA))) ?_
    refine WD.e0 (Ef.sta rfl rfl (by exact rfl) (by exact rfl) (.right (.there (.here rfl)))) ?_
    rintro _ _ ⟨rfl, rfl⟩
    refine ⟨.inr (fun _ h => h.sublist ((List.Sublist.refl _).append (.cons_cons _ (.cons _ (.refl _))))), ?_⟩
    repeat' (first | refine S1 ?_ | refine SD ?_ | refine SA (fun _ => ?_) | refine G1 (fun hc => ?_) (fun hc => ?_) | refine G2 (fun hc => ?_) (fun hc => ?_) | refine G3 (fun hc => ?_) (fun hc => ?_))
    refine Fin.retW (by exact rfl) resA (H' := H1 ++ f.H) (fun _ h => In.of_sub (.pickL .here (.last (.there (.there .all)))) h) (.inr ⟨⟨m.r.d, sa', sn', sc', H1⟩, m.r.path, ?_, hown, rfl, rfl⟩)
    unfold Flt.getD
    rw [hL, show f.S.c = f.c from rfl, ha]
    dsimp only
    rw [show f.S.L = f.rs.map (·.r) from rfl, List.getElem?_map, hm]
    rfl
theorem getD_nil (F : Nat → Option Obj) (t : Int) : Tr Tryz.prog 65 [.pointer none, .int .u32 t].toArray F [] (fun v H => v = tup [.agg [.int .u32 0, .int .u16 0, .int .u16 0, .bool false, .bool false, .bool false, .slice none 0 0].toArray, .int .i64 0, .bool false] ∧ H = []) := by
  refine Tr.enter Tryz.func65 rfl Tryz.ntmps65 rfl (fun w0 => ?_)
  repeat' (first | refine S1 ?_ | refine SD ?_ | refine SA (fun _ => ?_) | refine G1 (fun hc => ?_) (fun hc => ?_) | refine G2 (fun hc => ?_) (fun hc => ?_) | refine G3 (fun hc => ?_) (fun hc => ?_))
  refine WL.e rfl (Ef.callR (c := []) (by exact rfl) (.nil _) (get_nil _ t)) ?_
  rintro _ _ ⟨rfl, rfl⟩
  repeat' (first | refine S1 ?_ | refine SD ?_ | refine SA (fun _ => ?_) | refine G1 (fun hc => ?_) (fun hc => ?_) | refine G2 (fun hc => ?_) (fun hc => ?_) | refine G3 (fun hc => ?_) (fun hc => ?_))
  exact Fin.retW (by exact rfl) resA (H' := []) (fun _ h => h.sublist (List.nil_sublist _)) ⟨rfl, rfl⟩

theorem again_nil (F : Nat → Option Obj) (t p now : Int) : Tr Tryz.prog 67 [.pointer none, .int .u32 t, .int .i64 p, .int .i64 now].toArray F [] (fun v H => v = .int .i64 2 ∧ H = []) := by
  refine Tr.enter Tryz.func67 rfl Tryz.ntmps67 rfl (fun w0 => ?_)
  repeat' (first | refine S1 ?_ | refine SD ?_ | refine SA (fun _ => ?_) | refine G1 (fun hc => ?_) (fun hc => ?_) | refine G2 (fun hc => ?_) (fun hc => ?_) | refine G3 (fun hc => ?_) (fun hc => ?_))
  exact Fin.retW (by exact rfl) resA (fun _ h => h) ⟨rfl, rfl⟩
set_option maxHeartbeats 4000000 in
theorem again_tr (F : Nat → Option Obj) (f : FM) (hf : f.ok) (t p now : Int) : Tr Tryz.prog 67 [.pointer (some ⟨f.R, 0, none⟩), .int .u32 t, .int .i64 p, .int .i64 now].toArray F f.H (fun v H => v = .int .i64 (Flt.again f.S t p now).2 ∧ ∃ f' : FM, f'.ok ∧ H = f'.H ∧ f'.R = f.R ∧ f'.S = (Flt.again f.S t p now).1) := by
  refine Tr.enter Tryz.func67 rfl Tryz.ntmps67 rfl (fun w0 => ?_)
  have hlen := hf.len
  have hL : f.S.L.length = f.sn := by rw [← hlen]; simp [FM.S]
  have hpc : Sl.Can F f.H f.R (0 + 2) [.int .i64 f.paths] := (fl_can f).one (i := 2) rfl
  repeat' (first | refine S1 ?_ | refine SD ?_ | refine SA (fun _ => ?_) | refine G1 (fun hc => ?_) (fun hc => ?_) | refine G2 (fun hc => ?_) (fun hc => ?_) | refine G3 (fun hc => ?_) (fun hc => ?_))
  ·
    refine Fin.retW (by exact rfl) resA (H' := f.H) (fun _ h => h) ⟨?_, f, hf, rfl, rfl, ?_⟩
    · unfold Flt.again
      rw [if_pos (by rw [show f.S.paths = f.paths from rfl]; simp at hc; omega)]
      rfl
    · unfold Flt.again
      rw [if_pos (by rw [show f.S.paths = f.paths from rfl]; simp at hc; omega)]
  ·
    refine Fin.retW (by exact rfl) resA (H' := f.H) (fun _ h => h) ⟨?_, f, hf, rfl, rfl, ?_⟩
    · unfold Flt.again
      rw [if_pos (by rw [show f.S.paths = f.paths from rfl]; simp at hc; omega)]
      rfl
    · unfold Flt.again
      rw [if_pos (by rw [show f.S.paths = f.paths from rfl]; simp at hc; omega)]
  · refine WL.e rfl (Ef.callR (c := f.H) (by exact rfl) (.all _) (get_tr _ f hf t)) ?_
    rintro _ _ ⟨rfl, rfl⟩
    have hagain : Flt.again f.S t p now = (match atI f.c f.sn t with | none => (f.S, 11) | some i => match f.S.L[i]? with | none => (f.S, 11) | some r => if Flt.openR r then ({ f.S with L := f.S.L.set i (setAgain p now r) }, 0) else (f.S, 11)) := by
      unfold Flt.again
      rw [if_neg (by rw [show f.S.paths = f.paths from rfl]; simp at *; omega), hL]
      rfl
    cases ha : atI f.c f.sn t with
    | none =>
      rw [ha] at hagain
      repeat' (first | refine S1 ?_ | refine SD ?_ | refine SA (fun _ => ?_) | refine G1 (fun hc => ?_) (fun hc => ?_) | refine G2 (fun hc => ?_) (fun hc => ?_) | refine G3 (fun hc => ?_) (fun hc => ?_))
      exact Fin.retW (by exact rfl) resA (H' := f.H) (fun _ h => h) ⟨by rw [hagain]; rfl, f, hf, rfl, rfl, by rw [hagain]⟩
    | some i =>
      have hi : i < f.sn := by
        unfold atI at ha
        split at ha
        · simp at ha; omega
        · cases ha
      obtain ⟨m, hm⟩ : ∃ m, f.rs[i]? = some m := ⟨f.rs[i]'(by omega), by simp⟩
      have hmr : f.S.L[i]? = some m.r := by rw [show f.S.L = f.rs.map (·.r) from rfl, List.getElem?_map, hm]; rfl
      rw [ha] at hagain
      dsimp only at hagain
      rw [hmr] at hagain
      dsimp only at hagain
      unfold ptOf
      dsimp only
      rw [hm]
      dsimp only
      unfold RcM.p
      repeat' (first | refine S1 ?_ | refine SD ?_ | refine SA (fun _ => ?_) | refine G1 (fun hc => ?_) (fun hc => ?_) | refine G2 (fun hc => ?_) (fun hc => ?_) | refine G3 (fun hc => ?_) (fun hc => ?_))
      refine WL.e rfl (Ef.lookR (by exact rfl) (fun F' hF => open_tr F' m ((rec_can hm).mono (fun w h => hF w h)))) ?_
      rintro _ _ ⟨rfl, rfl⟩
      cases hq : Flt.openR m.r with
      | false =>
        rw [hq, if_neg (by simp)] at hagain
        repeat' (first | refine S1 ?_ | refine SD ?_ | refine SA (fun _ => ?_) | refine G1 (fun hc => ?_) (fun hc => ?_) | refine G2 (fun hc => ?_) (fun hc => ?_) | refine G3 (fun hc => ?_) (fun hc => ?_))
        exact Fin.retW (by exact rfl) resA (H' := f.H) (fun _ h => h) ⟨by rw [hagain]; rfl, f, hf, rfl, rfl, by rw [hagain]⟩
      | true =>
        rw [hq, if_pos rfl] at hagain
        have g1 := set_get hm (m' := { m with r := { m.r with path := p } })
        have g2 := set_get g1 (m' := { m with r := { m.r with path := p, at_ := now } })
        have g3 := set_get g2 (m' := { m with r := { m.r with path := p, at_ := now, lost := false } })
        repeat' (first | refine S1 ?_ | refine SD ?_ | refine SA (fun _ => ?_) | refine G1 (fun hc => ?_) (fun hc => ?_) | refine G2 (fun hc => ?_) (fun hc => ?_) | refine G3 (fun hc => ?_) (fun hc => ?_))
        refine WL.e0A ?_ (Ef.st rfl rfl rfl (rec_put hm (off := 0 + 7) (vs := [.int .i64 p]) (r' := { m.r with path := p }) rfl))
        repeat' (first | refine S1 ?_ | refine SD ?_ | refine SA (fun _ => ?_) | refine G1 (fun hc => ?_) (fun hc => ?_) | refine G2 (fun hc => ?_) (fun hc => ?_) | refine G3 (fun hc => ?_) (fun hc => ?_))
        refine WL.e0A ?_ (Ef.st rfl rfl rfl (rec_put (f := { f with rs := f.rs.set i { m with r := { m.r with path := p } } }) (m := { m with r := { m.r with path := p } }) g1 (off := 0 + 10) (vs := [.int .i64 now]) (r' := { m.r with path := p, at_ := now }) rfl))
        repeat' (first | refine S1 ?_ | refine SD ?_ | refine SA (fun _ => ?_) | refine G1 (fun hc => ?_) (fun hc => ?_) | refine G2 (fun hc => ?_) (fun hc => ?_) | refine G3 (fun hc => ?_) (fun hc => ?_))
        refine WL.e0A ?_ (Ef.st rfl rfl rfl (rec_put (f := { f with rs := (f.rs.set i { m with r := { m.r with path := p } }).set i { m with r := { m.r with path := p, at_ := now } } }) (m := { m with r := { m.r with path := p, at_ := now } }) g2 (off := 0 + 12) (vs := [.bool false]) (r' := { m.r with path := p, at_ := now, lost := false }) rfl))
        repeat' (first | refine S1 ?_ | refine SD ?_ | refine SA (fun _ => ?_) | refine G1 (fun hc => ?_) (fun hc => ?_) | refine G2 (fun hc => ?_) (fun hc => ?_) | refine G3 (fun hc => ?_) (fun hc => ?_))
        refine WL.e0A ?_ (Ef.st rfl rfl rfl (rec_put (f := { f with rs := ((f.rs.set i { m with r := { m.r with path := p } }).set i { m with r := { m.r with path := p, at_ := now } }).set i { m with r := { m.r with path := p, at_ := now, lost := false } } }) (m := { m with r := { m.r with path := p, at_ := now, lost := false } }) g3 (off := 0 + 14) (vs := [.bool true]) (r' := setAgain p now m.r) rfl))
        repeat' (first | refine S1 ?_ | refine SD ?_ | refine SA (fun _ => ?_) | refine G1 (fun hc => ?_) (fun hc => ?_) | refine G2 (fun hc => ?_) (fun hc => ?_) | refine G3 (fun hc => ?_) (fun hc => ?_))
        refine Fin.retW (by exact rfl) resA (fun _ h => h) ⟨by rw [hagain]; rfl, { f with rs := f.rs.set i { m with r := setAgain p now m.r } }, set_ok hf hm rfl, ?_, rfl, ?_⟩
        · simp only [List.set_set]
        · rw [hagain]
          unfold FM.S
          dsimp only
          rw [List.map_set]

/-! ### Point -/
theorem ptL_at : ∀ {L : List Rc} {i : Nat}, (∀ r ∈ L.take i, r.gone = true) → (∀ r, L[i]? = some r → r.gone = false) → Flt.ptL L = (L.take i).map Rc.d
  | [], _, _, _ => by simp [Flt.ptL]
  | r :: L, 0, _, h2 => by
    have := h2 r rfl
    simp [Flt.ptL, this]
  | r :: L, i + 1, h1, h2 => by
    have := h1 r (by simp)
    have ih := ptL_at (L := L) (i := i) (fun x hx => h1 x (by simp [hx])) (fun x hx => h2 x (by simpa using hx))
    unfold Flt.ptL at ih ⊢
    rw [List.takeWhile_cons, if_pos this, List.map_cons, ih, List.take_succ_cons, List.map_cons]
structure PtG where
  i : Nat
  sa : Option Addr
  sn : Nat
  sc : Nat
  hb : HL
  ds : List DM
theorem point_nil (F : Nat → Option Obj) : Tr Tryz.prog 73 [.pointer none].toArray F [] (fun v H => v = tup [.int .u32 0, .slice none 0 0] ∧ H = []) := by
  refine Tr.enter Tryz.func73 rfl Tryz.ntmps73 rfl (fun w0 => ?_)
  repeat' (first | refine S1 ?_ | refine SD ?_ | refine SA (fun _ => ?_) | refine G1 (fun hc => ?_) (fun hc => ?_) | refine G2 (fun hc => ?_) (fun hc => ?_) | refine G3 (fun hc => ?_) (fun hc => ?_))
  exact Fin.retW (by exact rfl) resA (fun _ h => h) ⟨rfl, rfl⟩
theorem ds_len (ds : List DM) : (ds.flatMap DM.cells).length = ds.length * 7 := flat_len' DM.cells 7 DM.len ds
theorem dm_one (m : DM) : ∀ u ∈ m.cells, u.oneCell' = true := by
  intro u hu
  simp only [DM.cells, List.mem_cons, List.not_mem_nil, or_false] at hu
  rcases hu with rfl | rfl | rfl | rfl | rfl | rfl | rfl <;> rfl
set_option maxHeartbeats 4000000 in
theorem point_tr (F : Nat → Option Obj) (f : FM) (hf : f.ok) (hs : f.small) : Tr Tryz.prog 73 [.pointer (some ⟨f.R, 0, none⟩)].toArray F f.H (fun v H => ∃ (sa : Option Addr) (sn sc : Nat) (hb : HL) (ds : List DM), v = tup [.int .u32 (Spn.u32 (f.c + Spn.u32 (Flt.ptL f.S.L).length)), .slice sa sn sc] ∧
    OwnS 50 7 (ds.flatMap DM.cells) (.slice sa sn sc) hb ∧ (∀ m ∈ ds, m.ok) ∧ ds.map (·.d) = Flt.ptL f.S.L ∧ H = hb ++ (ds.flatMap DM.bb ++ f.H)) := by
  refine Tr.enter Tryz.func73 rfl Tryz.ntmps73 rfl (fun w0 => ?_)
  have hlen := hf.len
  have hfew := hf.few
  have hrow : Sl.Can F f.H f.R (0 + 0) [.slice f.sa f.sn f.sc] := (fl_can f).one (i := 0) rfl
  repeat' (first | refine S1 ?_ | refine SD ?_ | refine SA (fun _ => ?_) | refine G1 (fun hc => ?_) (fun hc => ?_) | refine G2 (fun hc => ?_) (fun hc => ?_) | refine G3 (fun hc => ?_) (fun hc => ?_))
  refine W.loop (G := PtG) (fun g => [(0, .pointer (some ⟨f.R, 0, none⟩)), (13, .slice f.sa f.sn f.sc), (14, .int .i64 f.sn), (15, .int .i64 g.i), (4, .slice g.sa g.sn g.sc)]) (fun g => g.hb ++ (g.ds.flatMap DM.bb ++ f.H))
    (fun g => g.i ≤ f.sn ∧ OwnS 50 7 (g.ds.flatMap DM.cells) (.slice g.sa g.sn g.sc) g.hb ∧ (∀ m ∈ g.ds, m.ok) ∧ g.ds.map (·.d) = (f.S.L.take g.i).map Rc.d ∧ ∀ r ∈ f.S.L.take g.i, r.gone = true) (fun g => f.sn - g.i) ⟨0, none, 0, 0, [], []⟩ ⟨Nat.zero_le _, .inl ⟨rfl, rfl, rfl⟩, (fun _ h => by cases h), rfl, (fun _ h => by simp at h)⟩ envA (fun _ h => h) ?_
  rintro ⟨i, sa, sn, sc, hb, ds⟩ ⟨hi, hown, hds, hdd, hgone⟩
  dsimp only at hi hown hds hdd hgone ⊢
  have hdl : ds.length = i := by
    have := congrArg List.length hdd
    simp only [List.length_map, List.length_take] at this
    have hL : f.S.L.length = f.sn := by rw [← hlen]; simp [FM.S]
    omega
  repeat' (first | refine S1 ?_ | refine SD ?_ | refine SA (fun _ => ?_) | refine G1 (fun hc => ?_) (fun hc => ?_) | refine G2 (fun hc => ?_) (fun hc => ?_) | refine G3 (fun hc => ?_) (fun hc => ?_))
  · have hi' : i < f.sn := by have := of_decide_eq_true hc; omega
    obtain ⟨m, hm⟩ : ∃ m, f.rs[i]? = some m := ⟨f.rs[i]'(by omega), by simp⟩
    have hmr : f.S.L[i]? = some m.r := by rw [show f.S.L = f.rs.map (·.r) from rfl, List.getElem?_map, hm]; rfl
    obtain ⟨gb, go, hsa, hp⟩ := fl_ptr (F := F) hf hm
    have hia : 0 ≤ (i : Int) ∧ (i : Int) < f.sn := by omega
    have hrl := rec_few hf hs hm
    rw [hsa]
    have hp' : Sl.Can F (hb ++ (ds.flatMap DM.bb ++ f.H)) gb (go + (i : Int).toNat * 1) [m.p] := hp.mono (fun _ h => h.sublist findA)
    have hg' : Sl.Can F (hb ++ (ds.flatMap DM.bb ++ f.H)) m.b (0 + 13) [.bool m.r.gone] := ((rec_can hm).one (i := 13) rfl).mono (fun _ h => h.sublist findA)
    have hd' : Sl.Can F (hb ++ (ds.flatMap DM.bb ++ f.H)) m.b (0 + 0) [.int .u32 m.r.tsn, .int .u16 m.r.stream, .int .u16 m.r.ssn, .bool m.r.un, .bool m.r.fi, .bool m.r.la, .slice m.ba m.bn m.bc] := (rec_d hm).mono (fun _ h => h.sublist findA)
    unfold RcM.p at hp'
    cases hgo : m.r.gone with
    | false =>
      rw [hgo] at hg'
      repeat' (first | refine S1 ?_ | refine SD ?_ | refine SA (fun _ => ?_) | refine G1 (fun hc => ?_) (fun hc => ?_) | refine G2 (fun hc => ?_) (fun hc => ?_) | refine G3 (fun hc => ?_) (fun hc => ?_))
      rw [← hsa]
      have hpt : Flt.ptL f.S.L = (f.S.L.take i).map Rc.d := ptL_at hgone (fun r hr => by rw [hmr] at hr; cases hr; exact hgo)
      refine Fin.retW (by exact rfl) resA (H' := hb ++ (ds.flatMap DM.bb ++ f.H)) (fun _ h => h) ⟨sa, sn, sc, hb, ds, ?_, hown, hds, by rw [hpt, hdd], rfl⟩
      rw [hpt, ← hdd, List.length_map]
      have hsn := hown.len
      rw [ds_len] at hsn
      rw [show ds.length = sn by omega]
    | true =>
      rw [hgo] at hg'
      repeat' (first | refine S1 ?_ | refine SD ?_ | refine SA (fun _ => ?_) | refine G1 (fun hc => ?_) (fun hc => ?_) | refine G2 (fun hc => ?_) (fun hc => ?_) | refine G3 (fun hc => ?_) (fun hc => ?_))
      refine WL.s rfl (Rd.ldaC rfl (by exact rfl) hd') ?_
      repeat' (first | refine S1 ?_ | refine SD ?_ | refine SA (fun _ => ?_) | refine G1 (fun hc => ?_) (fun hc => ?_) | refine G2 (fun hc => ?_) (fun hc => ?_) | refine G3 (fun hc => ?_) (fun hc => ?_))
      refine WL.e rfl (Ef.look (by exact rfl) (fun F' hF => clone_tr F' m.r.bs m.ba m.bn m.bc ((rec_src hf hm).mono (fun w h => (hF w h).sublist findA)) hrl)) ?_
      rintro _ _ ⟨H1, ⟨sa', sn', sc', rfl, hb1⟩, rfl⟩
      repeat' (first | refine S1 ?_ | refine SD ?_ | refine SA (fun _ => ?_) | refine G1 (fun hc => ?_) (fun hc => ?_) | refine G2 (fun hc => ?_) (fun hc => ?_) | refine G3 (fun hc => ?_) (fun hc => ?_))
      refine WL.e rfl (Ef.app (m := 1) (news := DM.cells ⟨m.r.d, sa', sn', sc', H1⟩) (hb := hb) (by exact rfl) (by exact rfl) rfl rfl hown (.last (.there (.right (.there .here)))) (Src.own (n := 7) (.here rfl)) rfl (dm_one _) (by rw [ds_len, DM.len]; omega) (by rw [ds_len, DM.len]; simp [maxLen]; omega)) ?_
      rintro v' _ ⟨hb', hown', rfl⟩
      obtain ⟨sa2, sn2, sc2, rfl, _, _⟩ := OwnS.shape hown'
      repeat' (first | refine S1 ?_ | refine SD ?_ | refine SA (fun _ => ?_) | refine G1 (fun hc => ?_) (fun hc => ?_) | refine G2 (fun hc => ?_) (fun hc => ?_) | refine G3 (fun hc => ?_) (fun hc => ?_))
      rw [i64_succ (by omega), ← hsa]
      refine Fin.round ⟨i + 1, sa2, sn2, sc2, hb', ds ++ [⟨m.r.d, sa', sn', sc', H1⟩]⟩ ⟨hi', ?_, ?_, ?_, ?_⟩ envA (fun _ h => ?_) (by dsimp only; omega)
      · dsimp only
        rw [List.flatMap_append]
        simpa using hown'
      · intro q hq
        rcases List.mem_append.1 hq with hq | hq
        · exact hds q hq
        · rw [List.mem_singleton.1 hq]
          exact hb1
      · dsimp only
        rw [List.map_append, hdd, List.take_add_one, hmr, List.map_append]
        rfl
      · intro r hr
        dsimp only at hr
        rw [List.take_add_one, hmr] at hr
        rcases List.mem_append.1 hr with hr | hr
        · exact hgone r hr
        · rw [List.mem_singleton.1 hr]
          exact hgo
      · have := In.of_sub (.pickL (L := hb') .here (.pickL (L := ds.flatMap DM.bb) (.there (.right (.there .here))) (.pickL (L := H1) (.there .here) (.last (L := f.H) (.there (.there .all)))))) h
        rw [List.flatMap_append]
        simpa using this
  · have hin : i = f.sn := by have := of_decide_eq_false hc; omega
    have hpt : Flt.ptL f.S.L = (f.S.L.take i).map Rc.d := ptL_at hgone (fun r hr => by
      have := (List.getElem?_eq_some_iff.1 hr).1
      have hL : f.S.L.length = f.sn := by rw [← hlen]; simp [FM.S]
      omega)
    refine Fin.retW (by exact rfl) resA (H' := hb ++ (ds.flatMap DM.bb ++ f.H)) (fun _ h => h) ⟨sa, sn, sc, hb, ds, ?_, hown, hds, by rw [hpt, hdd], rfl⟩
    rw [hpt, ← hdd, List.length_map]
    have hsn := hown.len
    rw [ds_len] at hsn
    rw [show ds.length = sn by omega]

/-! ### Add -/
theorem add_nil (F : Nat → Option Obj) (d : Dt) (ba : Option Addr) (bn bc : Nat) (p now id : Int) : Tr Tryz.prog 57 [.pointer none, .agg [.int .u32 d.tsn, .int .u16 d.stream, .int .u16 d.ssn, .bool d.un, .bool d.fi, .bool d.la, .slice ba bn bc].toArray, .int .i64 p, .int .i64 now, .int .i64 id].toArray F [] (fun v H => v = tup [.int .u32 0, .int .i64 2] ∧ H = []) := by
  refine Tr.enter Tryz.func57 rfl Tryz.ntmps57 rfl (fun w0 => ?_)
  repeat' (first | refine S1 ?_ | refine SD ?_ | refine SA (fun _ => ?_) | refine G1 (fun hc => ?_) (fun hc => ?_) | refine G2 (fun hc => ?_) (fun hc => ?_) | refine G3 (fun hc => ?_) (fun hc => ?_))
  exact Fin.retW (by exact rfl) resA (H' := []) (fun _ h => h.sublist (List.nil_sublist _)) ⟨rfl, rfl⟩
set_option maxHeartbeats 4000000 in
theorem add_tr (F : Nat → Option Obj) (f : FM) (hf : f.ok) (d : Dt) (ba : Option Addr) (bn bc : Nat) (hl : Lst F [] 1 (d.bs.map B) ba bn bc) (hdl : d.bs.length ≤ 1000000000000) (p now id : Int) :
    Tr Tryz.prog 57 [.pointer (some ⟨f.R, 0, none⟩), .agg [.int .u32 d.tsn, .int .u16 d.stream, .int .u16 d.ssn, .bool d.un, .bool d.fi, .bool d.la, .slice ba bn bc].toArray, .int .i64 p, .int .i64 now, .int .i64 id].toArray F f.H (fun v H =>
      v = tup [.int .u32 (if Flt.addE f.S d p = 0 then newT f.S else 0), .int .i64 (Flt.addE f.S d p)] ∧ ∃ f' : FM, f'.ok ∧ H = f'.H ∧ f'.R = f.R ∧ f'.S = Flt.add f.S d p now id) := by
  refine Tr.enter Tryz.func57 rfl Tryz.ntmps57 rfl (fun w0 => ?_)
  have hlen := hf.len
  have hfew := hf.few
  have hL : f.S.L.length = f.sn := by rw [← hlen]; simp [FM.S]
  have hbl : d.bs.length = bn := by have := hl.len; simp at this; exact this
  unfold FM.H FM.B
  repeat' (first | refine S1 ?_ | refine SD ?_ | refine SA (fun _ => ?_) | refine G1 (fun hc => ?_) (fun hc => ?_) | refine G2 (fun hc => ?_) (fun hc => ?_) | refine G3 (fun hc => ?_) (fun hc => ?_))
  · have he : Flt.addE f.S d p = 1 := by unfold Flt.addE; rw [if_pos (.inl (of_decide_eq_true hc))]
    refine Fin.retW (by exact rfl) resA (H' := f.H) (fun _ h => h.sublist (.cons _ (.refl _))) ⟨by rw [he]; rfl, f, hf, rfl, rfl, by unfold Flt.add; rw [he]; rfl⟩
  · have he : Flt.addE f.S d p = 1 := by unfold Flt.addE; rw [if_pos (.inr (.inl (of_decide_eq_true hc)))]
    refine Fin.retW (by exact rfl) resA (H' := f.H) (fun _ h => h.sublist (.cons _ (.refl _))) ⟨by rw [he]; rfl, f, hf, rfl, rfl, by unfold Flt.add; rw [he]; rfl⟩
  · have h0 : d.bs = [] := List.eq_nil_of_length_eq_zero (by simp at hc; omega)
    have he : Flt.addE f.S d p = 1 := by unfold Flt.addE; rw [if_pos (.inr (.inr h0))]
    refine Fin.retW (by exact rfl) resA (H' := f.H) (fun _ h => h.sublist (.cons _ (.refl _))) ⟨by rw [he]; rfl, f, hf, rfl, rfl, by unfold Flt.add; rw [he]; rfl⟩
  · have h0 : ¬ (p < 0 ∨ f.S.paths ≤ p ∨ d.bs = []) := by
      rw [show f.S.paths = f.paths from rfl]
      rintro (h | h | h)
      · simp_all
      · simp_all
      · rw [h] at hbl
        simp at hbl
        subst hbl
        simp_all
    have he : Flt.addE f.S d p = 6 := by unfold Flt.addE; rw [if_neg h0, if_pos (by rw [hL]; have := of_decide_eq_true hc; omega)]
    refine Fin.retW (by exact rfl) resA (H' := f.H) (fun _ h => h.sublist (.cons _ (.refl _))) ⟨by rw [he]; rfl, f, hf, rfl, rfl, by unfold Flt.add; rw [he]; rfl⟩
  · have h0 : ¬ (p < 0 ∨ f.S.paths ≤ p ∨ d.bs = []) := by
      rw [show f.S.paths = f.paths from rfl]
      rintro (h | h | h)
      · simp_all
      · simp_all
      · rw [h] at hbl
        simp at hbl
        subst hbl
        simp_all
    have hlt : f.sn < 2048 := by have := of_decide_eq_false hc; omega
    have he : Flt.addE f.S d p = 0 := by unfold Flt.addE; rw [if_neg h0, if_neg (by rw [hL]; omega)]
    refine WL.e rfl (Ef.look (by exact rfl) (fun F' hF => clone_tr F' d.bs ba bn bc (hl.mono (fun w h => (hF w h).sublist (List.nil_sublist _))) hdl)) ?_
    rintro _ _ ⟨H1, ⟨sa', sn', sc', rfl, hb1⟩, rfl⟩
    repeat' (first | refine S1 ?_ | refine SD ?_ | refine SA (fun _ => ?_) | refine G1 (fun hc => ?_) (fun hc => ?_) | refine G2 (fun hc => ?_) (fun hc => ?_) | refine G3 (fun hc => ?_) (fun hc => ?_))
    rename_i xq xr x6
    have hpl : (f.rs.map RcM.p).length ≤ 2048 := by rw [List.length_map]; omega
    refine WD.e rfl (Ef.app (m := 1) (news := [.pointer (some ⟨xr, 0, none⟩)]) (hb := f.sb) (by exact rfl) (by exact rfl) rfl rfl hf.own (.last (.there (.there (.right (.there (.there .here)))))) (Src.own (n := 1) (.here rfl)) rfl (by simp [Value.oneCell']) (by simp; omega) (by simp [maxLen]; omega)) ?_
    rintro v' _ ⟨hb', hown', rfl⟩
    refine ⟨.inl (by kernel_rfl), ?_⟩
    obtain ⟨sa2, sn2, sc2, rfl, _, _⟩ := OwnS.shape hown'
    repeat' (first | refine S1 ?_ | refine SD ?_ | refine SA (fun _ => ?_) | refine G1 (fun hc => ?_) (fun hc => ?_) | refine G2 (fun hc => ?_) (fun hc => ?_) | refine G3 (fun hc => ?_) (fun hc => ?_))
    obtain ⟨m, hm⟩ : ∃ m : RcM, m = ⟨xr, newR f.S d p now id, sa', sn', sc', H1⟩ := ⟨_, rfl⟩
    refine Fin.retW (by exact rfl) resA (H' := ({ f with sa := sa2, sn := sn2, sc := sc2, sb := hb', rs := f.rs ++ [m] } : FM).H) (fun _ h => ?_) ⟨?_, { f with sa := sa2, sn := sn2, sc := sc2, sb := hb', rs := f.rs ++ [m] }, ⟨?_, ?_, hf.c, ?_⟩, rfl, rfl, ?_⟩
    · have := In.of_sub (.pick (.right (.there (.there (.right (.there .here))))) (.pickL (L := hb') .here (.pickL (L := f.rs.flatMap RcM.H) (.there (.there (.right (.there .all)))) (.pick (.there .here) (.last (L := H1) (.there .here)))))) h
      unfold FM.H FM.B
      dsimp only
      have e : RcM.H ⟨xr, newR f.S d p now id, sa', sn', sc', H1⟩ = (xr, .cells [.int .u32 (IntKind.u32.wrap (IntKind.u32.wrap (f.c + 1) + IntKind.u32.wrap (f.sn : Int))), .int .u16 d.stream, .int .u16 d.ssn, .bool d.un, .bool d.fi, .bool d.la, .slice sa' sn' sc', .int .i64 p, .int .i64 id, .int .i64 0, .int .i64 now, .bool false, .bool false, .bool false, .bool false].toArray 149 (0, 0)) :: H1 := by
        unfold RcM.H RcM.cells newR newT
        rw [hL]
        rfl
      rw [List.flatMap_append, hm, List.flatMap_cons, List.flatMap_nil, List.append_nil, e]
      exact this
    · rw [he]
      unfold newT
      rw [hL]
      rfl
    · dsimp only
      rw [List.map_append, hm]
      exact hown'
    · intro q hq
      rcases List.mem_append.1 hq with hq | hq
      · exact hf.recs q hq
      · rw [List.mem_singleton.1 hq, hm]
        exact hb1
    · dsimp only
      rw [List.length_append]
      show f.rs.length + 1 ≤ 2048
      omega
    · unfold Flt.add
      rw [he, if_pos rfl]
      unfold FM.S
      dsimp only
      rw [List.map_append, hm]
      rfl
end Go.Proofs.YtjfpckadjnjmoaaGreat
