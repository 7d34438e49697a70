/- A flight of pieces, in memory; going through the records of a kind, walked. Conditions: it is well formed. -/
import Derived.Test.YtjfpckadjnjmoaaGreatBc
import Derived.Test.YtjfpckadjnjmoaaGreatTy
import Derived.Test.YtjfpckadjnjmoaaGreatBa
namespace Go.Proofs.YtjfpckadjnjmoaaGreat
open Go Go.Sl Go.Flt

structure RcM where
  b : Nat
  r : Rc
  ba : Option Addr
  bn : Nat
  bc : Nat
  bb : HL
def RcM.cells (m : RcM) : List Value := [.int .u32 m.r.tsn, .int .u16 m.r.stream, .int .u16 m.r.ssn, .bool m.r.un, .bool m.r.fi, .bool m.r.la, .slice m.ba m.bn m.bc, .int .i64 m.r.path, .int .i64 m.r.id, .int .i64 m.r.miss, .int .i64 m.r.at_, .bool m.r.acked, .bool m.r.lost, .bool m.r.gone, .bool m.r.again]
def RcM.H (m : RcM) : HL := (m.b, .cells m.cells.toArray 149 (0, 0)) :: m.bb
def RcM.ok (m : RcM) : Prop := OwnS 5 1 (m.r.bs.map B) (.slice m.ba m.bn m.bc) m.bb
def RcM.p (m : RcM) : Value := .pointer (some ⟨m.b, 0, none⟩)
theorem RcM.ok.len {m : RcM} (h : m.ok) : m.r.bs.length = m.bn := by have := OwnS.len h; simp at this; exact this
structure FM where
  R : Nat
  sa : Option Addr
  sn : Nat
  sc : Nat
  sb : HL
  rs : List RcM
  c : Int
  paths : Int
def FM.B (f : FM) : Nat × Obj := (f.R, .cells [.slice f.sa f.sn f.sc, .int .u32 f.c, .int .i64 f.paths].toArray 118 (0, 0))
def FM.H (f : FM) : HL := f.B :: (f.sb ++ f.rs.flatMap RcM.H)
def FM.S (f : FM) : Flt.S := ⟨f.rs.map (·.r), f.c, f.paths⟩
structure FM.ok (f : FM) : Prop where
  own : OwnS 147 1 (f.rs.map RcM.p) (.slice f.sa f.sn f.sc) f.sb
  recs : ∀ m ∈ f.rs, m.ok
  c : 0 ≤ f.c ∧ f.c < 4294967296
  few : f.rs.length ≤ 2048
theorem FM.ok.len {f : FM} (h : f.ok) : f.rs.length = f.sn := by have := h.own.len; simp at this; exact this

/-- the record at a place, among all -/
theorem flat_split {l : List RcM} {i : Nat} {m : RcM} (h : l[i]? = some m) : l.flatMap RcM.H = (l.take i).flatMap RcM.H ++ (m.H ++ (l.drop (i + 1)).flatMap RcM.H) := by
  have hi := (List.getElem?_eq_some_iff.1 h).1
  have he := (List.getElem?_eq_some_iff.1 h).2
  have : l = l.take i ++ m :: l.drop (i + 1) := by rw [← he, ← List.drop_eq_getElem_cons hi, List.take_append_drop]
  rw [← List.flatMap_cons, ← List.flatMap_append, ← this]
theorem flat_set {l : List RcM} {i : Nat} {m m' : RcM} (h : l[i]? = some m) : (l.set i m').flatMap RcM.H = (l.take i).flatMap RcM.H ++ (m'.H ++ (l.drop (i + 1)).flatMap RcM.H) := by
  have hi := (List.getElem?_eq_some_iff.1 h).1
  rw [List.set_eq_take_append_cons_drop, if_pos hi, List.flatMap_append, List.flatMap_cons]
theorem rec_can {F : Nat → Option Obj} {f : FM} {i : Nat} {m : RcM} (h : f.rs[i]? = some m) : Sl.Can F f.H m.b 0 m.cells := by
  unfold FM.H
  rw [flat_split h]
  exact Can.cut (n := 15) (.there (.right (.right (.left (.here rfl)))))
theorem rec_can' {F : Nat → Option Obj} {H : HL} {f : FM} {i : Nat} {m : RcM} (h : f.rs[i]? = some m) (hw : ∀ w, In F H w → In F f.H w) : Sl.Can F H m.b 0 m.cells := (rec_can (F := F) h).mono hw
/-- a record's cell is written -/
theorem rec_put {f : FM} {i : Nat} {m : RcM} (h : f.rs[i]? = some m) {off : Nat} {vs : List Value} {r' : Rc} (hs : spliceK m.cells off vs some = some ({ m with r := r' } : RcM).cells) :
    PutAt m.b off vs f.H ({ f with rs := f.rs.set i { m with r := r' } } : FM).H := by
  unfold FM.H
  rw [flat_split h, flat_set h]
  exact .there (.right (.right (.left (.here hs))))
theorem fl_can {F : Nat → Option Obj} (f : FM) : Sl.Can F f.H f.R 0 [.slice f.sa f.sn f.sc, .int .u32 f.c, .int .i64 f.paths] := Can.cut (n := 3) (.here rfl)
theorem fl_row {F : Nat → Option Obj} {f : FM} (hf : f.ok) : Lst F f.H 1 (f.rs.map RcM.p) f.sa f.sn f.sc := (Lst.own (F := F) (H := f.sb) hf.own (fun _ h => h)).mono (fun _ h => h.sublist (.cons _ (List.sublist_append_left _ _)))
theorem fl_ptr {F : Nat → Option Obj} {f : FM} (hf : f.ok) {i : Nat} {m : RcM} (h : f.rs[i]? = some m) : ∃ gb go, f.sa = some ⟨gb, go, none⟩ ∧ Sl.Can F f.H gb (go + (i : Int).toNat * 1) [m.p] := by
  have hl := fl_row (F := F) hf
  have e : (f.rs.map RcM.p).flatMap (fun v : Value => [v]) = f.rs.map RcM.p := by
    induction f.rs.map RcM.p with
    | nil => rfl
    | cons a l ih => simp [ih]
  rw [← e] at hl
  have hlen := hf.len
  have hi := (List.getElem?_eq_some_iff.1 h).1
  exact hl.el (cells := fun v : Value => [v]) (fun _ => rfl) (by rw [List.getElem?_map, h]; rfl) (by omega)
theorem set_ok {f : FM} (hf : f.ok) {i : Nat} {m : RcM} (h : f.rs[i]? = some m) {r' : Rc} (hb : r'.bs = m.r.bs) : ({ f with rs := f.rs.set i { m with r := r' } } : FM).ok := by
  refine ⟨?_, fun q hq => ?_, hf.c, by simpa using hf.few⟩
  · have : (f.rs.set i { m with r := r' }).map RcM.p = f.rs.map RcM.p := by
      rw [List.map_set]
      refine List.ext_getElem? (fun j => ?_)
      by_cases hj : i = j
      · subst hj
        have hi := (List.getElem?_eq_some_iff.1 h).1
        rw [List.getElem?_set_self (by simpa using hi), List.getElem?_map, h]
        rfl
      · rw [List.getElem?_set_ne hj]
    dsimp only
    rw [this]
    exact hf.own
  · dsimp only at hq
    rcases List.mem_or_eq_of_mem_set hq with hq | rfl
    · exact hf.recs q hq
    · have := hf.recs m (List.mem_of_getElem? h)
      unfold RcM.ok at this ⊢
      dsimp only
      rw [hb]
      exact this

theorem such_tr (F : Nat → Option Obj) (p isV : Value) (h1 : p.oneCell' = true) (h2 : isV.oneCell' = true) : Tr Tryz.prog 54 [p, isV].toArray F [] (fun v H => ∃ b2 b3, v = .func (.func 91) ([] : List Value).toArray [.pointer (some ⟨b2, 0, none⟩), .pointer (some ⟨b3, 0, none⟩)].toArray ∧ H = [(b3, .cells [isV].toArray 150 (0, 0)), (b2, .cells [p].toArray 66 (0, 0))]) := by
  refine Tr.enter Tryz.func54 rfl Tryz.ntmps54 rfl (fun w0 => ?_)
  repeat' (first | refine S1 ?_ | refine SD ?_ | refine SA (fun _ => ?_) | refine G1 (fun hc => ?_) (fun hc => ?_) | refine G2 (fun hc => ?_) (fun hc => ?_) | refine G3 (fun hc => ?_) (fun hc => ?_))
  refine WL.e rfl (Ef.bx rfl h1) ?_
  rintro _ _ ⟨b2, rfl, rfl⟩
  refine WL.e rfl (Ef.bx rfl h2) ?_
  rintro _ _ ⟨b3, rfl, rfl⟩
  repeat' (first | refine S1 ?_ | refine SD ?_ | refine SA (fun _ => ?_) | refine G1 (fun hc => ?_) (fun hc => ?_) | refine G2 (fun hc => ?_) (fun hc => ?_) | refine G3 (fun hc => ?_) (fun hc => ?_))
  exact Fin.retW (by exact rfl) resA (fun _ h => h) ⟨b2, b3, rfl, rfl⟩
structure SuG where
  i : Nat
  H : HL
set_option maxHeartbeats 2000000 in
/-- going through the records of a kind -/
theorem such1_tr (F : Nat → Option Obj) (R b2 b3 l : Nat) (ig : FuncId) (icv : List Value) [bd : Body Tryz.prog ig] (n sc : Nat) (sa : Option Addr) (pt : Nat → Value) (hn : n ≤ 1000000) (q : Nat → Bool) (J : Nat → HL → Prop)
    (hJ : ∀ i H, i ≤ n → J i H → Sl.Can F H b2 0 [.pointer (some ⟨R, 0, none⟩)] ∧ Sl.Can F H b3 0 [.func (.func ig) ([] : List Value).toArray icv.toArray] ∧ Sl.Can F H R (0 + 0) [.slice sa n sc] ∧ (i < n → ∃ gb go, sa = some ⟨gb, go, none⟩ ∧ Sl.Can F H gb (go + (i : Int).toNat * 1) [pt i]))
    (his : ∀ i H, i < n → J i H → ∀ F', (∀ w, In F' [] w → In F H w) → Tr Tryz.prog ig (pt i :: icv).toArray F' [] (fun v H' => v = .bool (q i) ∧ H' = []))
    (hno : ∀ i H, i < n → q i = false → J i H → J (i + 1) H)
    (hyes : ∀ i H, i < n → q i = true → J i H → ∀ F', (∀ w, In F' [] w → In F [] w) → TrY Tryz.prog l [pt i] F' H (fun v H' => v = .bool true ∧ J (i + 1) H')) (H0 : HL) (h0 : J 0 H0) :
    Tr Tryz.prog 91 [.func (.yield l) #[] #[], .pointer (some ⟨b2, 0, none⟩), .pointer (some ⟨b3, 0, none⟩)].toArray F H0 (fun _ H => J n H) := by
  refine Tr.enter Tryz.func91 rfl Tryz.ntmps91 rfl (fun w0 => ?_)
  obtain ⟨hc2, hc3, hcR, _⟩ := hJ 0 H0 (Nat.zero_le _) h0
  repeat' (first | refine S1 ?_ | refine SD ?_ | refine SA (fun _ => ?_) | refine G1 (fun hc => ?_) (fun hc => ?_) | refine G2 (fun hc => ?_) (fun hc => ?_) | refine G3 (fun hc => ?_) (fun hc => ?_))
  refine W.loop (G := SuG) (fun g => [(0, .func (.yield l) #[] #[]), (1, .pointer (some ⟨b2, 0, none⟩)), (2, .pointer (some ⟨b3, 0, none⟩)), (11, .slice sa n sc), (12, .int .i64 n), (13, .int .i64 g.i)]) (fun g => g.H) (fun g => g.i ≤ n ∧ J g.i g.H) (fun g => n - g.i) ⟨0, H0⟩ ⟨Nat.zero_le _, h0⟩ envA (fun _ h => h) ?_
  clear hc2 hc3 hcR
  rintro ⟨i, H⟩ ⟨hi, hj⟩
  dsimp only at hi hj ⊢
  obtain ⟨hc2, hc3, hcR, hpt⟩ := hJ i H hi hj
  repeat' (first | refine S1 ?_ | refine SD ?_ | refine SA (fun _ => ?_) | refine G1 (fun hc => ?_) (fun hc => ?_) | refine G2 (fun hc => ?_) (fun hc => ?_) | refine G3 (fun hc => ?_) (fun hc => ?_))
  · have hi' : i < n := by have := of_decide_eq_true hc; omega
    obtain ⟨gb, go, rfl, hp⟩ := hpt hi'
    have hia : 0 ≤ (i : Int) ∧ (i : Int) < n := by omega
    repeat' (first | refine S1 ?_ | refine SD ?_ | refine SA (fun _ => ?_) | refine G1 (fun hc => ?_) (fun hc => ?_) | refine G2 (fun hc => ?_) (fun hc => ?_) | refine G3 (fun hc => ?_) (fun hc => ?_))
    refine WL.e rfl (Ef.lookV (fv := []) (cv := icv) (vals := [pt i]) rfl (by exact rfl) rfl (his i H hi' hj)) ?_
    rintro _ H ⟨rfl, rfl⟩
    cases hq : q i with
    | false =>
      repeat' (first | refine S1 ?_ | refine SD ?_ | refine SA (fun _ => ?_) | refine G1 (fun hc => ?_) (fun hc => ?_) | refine G2 (fun hc => ?_) (fun hc => ?_) | refine G3 (fun hc => ?_) (fun hc => ?_))
      rw [i64_succ (by omega)]
      exact Fin.round ⟨i + 1, H⟩ ⟨hi', hno i H hi' hq hj⟩ envA (fun _ h => h) (by dsimp only; omega)
    | true =>
      repeat' (first | refine S1 ?_ | refine SD ?_ | refine SA (fun _ => ?_) | refine G1 (fun hc => ?_) (fun hc => ?_) | refine G2 (fun hc => ?_) (fun hc => ?_) | refine G3 (fun hc => ?_) (fun hc => ?_))
      refine WL.e rfl (Ef.callY (l := l) (vals := [pt i]) rfl (by exact rfl) (.all H) (fun hd => hyes i H hi' hq hj _ (fun _ h => addF_in hd h))) ?_
      rintro _ _ ⟨H1, ⟨rfl, hj'⟩, rfl⟩
      rw [List.append_nil]
      repeat' (first | refine S1 ?_ | refine SD ?_ | refine SA (fun _ => ?_) | refine G1 (fun hc => ?_) (fun hc => ?_) | refine G2 (fun hc => ?_) (fun hc => ?_) | refine G3 (fun hc => ?_) (fun hc => ?_))
      rw [i64_succ (by omega)]
      exact Fin.round ⟨i + 1, H1⟩ ⟨hi', hj'⟩ envA (fun _ h => h) (by dsimp only; omega)
  · have hin : i = n := by have := of_decide_eq_false hc; omega
    subst hin
    exact Fin.endW (by exact rfl) resA (fun _ h => h) hj

/-! ### what a record is -/
theorem away_tr (F : Nat → Option Obj) (m : RcM) (hm : Sl.Can F [] m.b 0 m.cells) : Tr Tryz.prog 81 [m.p].toArray F [] (fun v H => v = .bool (Flt.away m.r) ∧ H = []) := by
  refine Tr.enter Tryz.func81 rfl Tryz.ntmps81 rfl (fun w0 => ?_)
  have h1 : Sl.Can F [] m.b (0 + 11) [.bool m.r.acked] := hm.one (i := 11) rfl
  have h2 : Sl.Can F [] m.b (0 + 12) [.bool m.r.lost] := hm.one (i := 12) rfl
  have h3 : Sl.Can F [] m.b (0 + 13) [.bool m.r.gone] := hm.one (i := 13) rfl
  unfold RcM.p
  repeat' (first | refine S1 ?_ | refine SD ?_ | refine SA (fun _ => ?_) | refine G1 (fun hc => ?_) (fun hc => ?_) | refine G2 (fun hc => ?_) (fun hc => ?_) | refine G3 (fun hc => ?_) (fun hc => ?_))
  all_goals
    refine Fin.retW (by exact rfl) resA (fun _ h => h) ⟨?_, rfl⟩
    unfold Flt.away
    dsimp only [tup]
    simp_all
theorem open_tr (F : Nat → Option Obj) (m : RcM) (hm : Sl.Can F [] m.b 0 m.cells) : Tr Tryz.prog 95 [m.p].toArray F [] (fun v H => v = .bool (Flt.openR m.r) ∧ H = []) := by
  refine Tr.enter Tryz.func95 rfl Tryz.ntmps95 rfl (fun w0 => ?_)
  have h1 : Sl.Can F [] m.b (0 + 11) [.bool m.r.acked] := hm.one (i := 11) rfl
  have h2 : Sl.Can F [] m.b (0 + 12) [.bool m.r.lost] := hm.one (i := 12) rfl
  have h3 : Sl.Can F [] m.b (0 + 13) [.bool m.r.gone] := hm.one (i := 13) rfl
  unfold RcM.p
  repeat' (first | refine S1 ?_ | refine SD ?_ | refine SA (fun _ => ?_) | refine G1 (fun hc => ?_) (fun hc => ?_) | refine G2 (fun hc => ?_) (fun hc => ?_) | refine G3 (fun hc => ?_) (fun hc => ?_))
  all_goals
    refine Fin.retW (by exact rfl) resA (fun _ h => h) ⟨?_, rfl⟩
    unfold Flt.openR
    dsimp only [tup]
    simp_all
theorem by_tr (F : Nat → Option Obj) (p : Int) : Tr Tryz.prog 59 [.int .i64 p].toArray F [] (fun v H => ∃ bp, v = .func (.func 92) ([] : List Value).toArray [.pointer (some ⟨bp, 0, none⟩)].toArray ∧ H = [(bp, .cells [.int .i64 p].toArray 3 (0, 0))]) := by
  refine Tr.enter Tryz.func59 rfl Tryz.ntmps59 rfl (fun w0 => ?_)
  repeat' (first | refine S1 ?_ | refine SD ?_ | refine SA (fun _ => ?_) | refine G1 (fun hc => ?_) (fun hc => ?_) | refine G2 (fun hc => ?_) (fun hc => ?_) | refine G3 (fun hc => ?_) (fun hc => ?_))
  exact Fin.retW (by exact rfl) resA (fun _ h => h) ⟨_, rfl, rfl⟩
theorem by1_tr (F : Nat → Option Obj) (m : RcM) (bp : Nat) (p : Int) (hm : Sl.Can F [] m.b 0 m.cells) (hp : Sl.Can F [] bp 0 [.int .i64 p]) : Tr Tryz.prog 92 [m.p, .pointer (some ⟨bp, 0, none⟩)].toArray F [] (fun v H => v = .bool (byP p m.r) ∧ H = []) := by
  refine Tr.enter Tryz.func92 rfl Tryz.ntmps92 rfl (fun w0 => ?_)
  have h1 : Sl.Can F [] m.b (0 + 7) [.int .i64 m.r.path] := hm.one (i := 7) rfl
  unfold RcM.p
  repeat' (first | refine S1 ?_ | refine SD ?_ | refine SA (fun _ => ?_) | refine G1 (fun hc => ?_) (fun hc => ?_) | refine G2 (fun hc => ?_) (fun hc => ?_) | refine G3 (fun hc => ?_) (fun hc => ?_))
  · have hpp : m.r.path = p := by simpa using hc
    refine WD.e rfl (Ef.lookR (by exact rfl) (fun F' hF => away_tr F' m (hm.mono (fun w h => hF w h)))) ?_
    rintro _ _ ⟨rfl, rfl⟩
    refine ⟨.inr (fun _ h => h), ?_⟩
    repeat' (first | refine S1 ?_ | refine SD ?_ | refine SA (fun _ => ?_) | refine G1 (fun hc => ?_) (fun hc => ?_) | refine G2 (fun hc => ?_) (fun hc => ?_) | refine G3 (fun hc => ?_) (fun hc => ?_))
    exact Fin.retW (by exact rfl) resA (fun _ h => h) ⟨by unfold byP; rw [decide_eq_true hpp, Bool.true_and]; rfl, rfl⟩
  · have hpp : ¬ m.r.path = p := by simpa using hc
    exact Fin.retW (by exact rfl) resA (fun _ h => h) ⟨by unfold byP; rw [decide_eq_false hpp]; rfl, rfl⟩
theorem ofId_tr (F : Nat → Option Obj) (m : RcM) (bp : Nat) (p : Int) (hm : Sl.Can F [] m.b 0 m.cells) (hp : Sl.Can F [] bp 0 [.int .i64 p]) : Tr Tryz.prog 55 [m.p, .pointer (some ⟨bp, 0, none⟩)].toArray F [] (fun v H => v = .bool (ofId p m.r) ∧ H = []) := by
  refine Tr.enter Tryz.func55 rfl Tryz.ntmps55 rfl (fun w0 => ?_)
  have h0 : Sl.Can F [] m.b (0 + 8) [.int .i64 m.r.id] := hm.one (i := 8) rfl
  have h1 : Sl.Can F [] m.b (0 + 11) [.bool m.r.acked] := hm.one (i := 11) rfl
  have h3 : Sl.Can F [] m.b (0 + 13) [.bool m.r.gone] := hm.one (i := 13) rfl
  unfold RcM.p
  repeat' (first | refine S1 ?_ | refine SD ?_ | refine SA (fun _ => ?_) | refine G1 (fun hc => ?_) (fun hc => ?_) | refine G2 (fun hc => ?_) (fun hc => ?_) | refine G3 (fun hc => ?_) (fun hc => ?_))
  all_goals
    refine Fin.retW (by exact rfl) resA (fun _ h => h) ⟨?_, rfl⟩
    unfold ofId
    dsimp only [tup]
    simp_all
theorem unack_tr (F : Nat → Option Obj) (m : RcM) (hm : Sl.Can F [] m.b 0 m.cells) : Tr Tryz.prog 88 [m.p].toArray F [] (fun v H => v = .bool (unack m.r) ∧ H = []) := by
  refine Tr.enter Tryz.func88 rfl Tryz.ntmps88 rfl (fun w0 => ?_)
  have h1 : Sl.Can F [] m.b (0 + 11) [.bool m.r.acked] := hm.one (i := 11) rfl
  unfold RcM.p
  repeat' (first | refine S1 ?_ | refine SD ?_ | refine SA (fun _ => ?_) | refine G1 (fun hc => ?_) (fun hc => ?_) | refine G2 (fun hc => ?_) (fun hc => ?_) | refine G3 (fun hc => ?_) (fun hc => ?_))
  exact Fin.retW (by exact rfl) resA (fun _ h => h) ⟨rfl, rfl⟩
theorem isAck_tr (F : Nat → Option Obj) (m : RcM) (hm : Sl.Can F [] m.b 0 m.cells) : Tr Tryz.prog 82 [m.p].toArray F [] (fun v H => v = .bool (isAck m.r) ∧ H = []) := by
  refine Tr.enter Tryz.func82 rfl Tryz.ntmps82 rfl (fun w0 => ?_)
  have h1 : Sl.Can F [] m.b (0 + 11) [.bool m.r.acked] := hm.one (i := 11) rfl
  unfold RcM.p
  repeat' (first | refine S1 ?_ | refine SD ?_ | refine SA (fun _ => ?_) | refine G1 (fun hc => ?_) (fun hc => ?_) | refine G2 (fun hc => ?_) (fun hc => ?_) | refine G3 (fun hc => ?_) (fun hc => ?_))
  exact Fin.retW (by exact rfl) resA (fun _ h => h) ⟨rfl, rfl⟩
theorem low1_tr (F : Nat → Option Obj) (m : RcM) (hm : Sl.Can F [] m.b 0 m.cells) : Tr Tryz.prog 105 [m.p].toArray F [] (fun v H => v = .bool (low1 m.r) ∧ H = []) := by
  refine Tr.enter Tryz.func105 rfl Tryz.ntmps105 rfl (fun w0 => ?_)
  have h1 : Sl.Can F [] m.b (0 + 11) [.bool m.r.acked] := hm.one (i := 11) rfl
  have h3 : Sl.Can F [] m.b (0 + 13) [.bool m.r.gone] := hm.one (i := 13) rfl
  unfold RcM.p
  repeat' (first | refine S1 ?_ | refine SD ?_ | refine SA (fun _ => ?_) | refine G1 (fun hc => ?_) (fun hc => ?_) | refine G2 (fun hc => ?_) (fun hc => ?_) | refine G3 (fun hc => ?_) (fun hc => ?_))
  all_goals
    refine Fin.retW (by exact rfl) resA (fun _ h => h) ⟨?_, rfl⟩
    unfold low1
    dsimp only [tup]
    simp_all
end Go.Proofs.YtjfpckadjnjmoaaGreat
