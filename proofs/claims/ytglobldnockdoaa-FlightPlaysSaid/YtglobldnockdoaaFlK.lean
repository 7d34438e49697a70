/- The law's 'does', walked: a thing is done to a flight as the plain functions say; what was handed in is written over behind it. Conditions: bounds on what there is. -/
import Derived.Test.YtglobldnockdoaaFlI
import Derived.Test.YtglobldnockdoaaSlH
import Derived.Test.YtglobldnockdoaaSlS
namespace Go.Proofs.Ytglobldnockdoaa
open Go Go.Sl Go.Flt

def ansC (a : FAns) (sa : Option Addr) (sn sc : Nat) : List Value := .int .u32 a.d.tsn :: .int .u16 a.d.stream :: .int .u16 a.d.ssn :: .bool a.d.un :: .bool a.d.fi :: .bool a.d.la :: .slice sa sn sc :: .int .i64 a.n :: .bool a.is_ :: .int .i64 a.e :: tldC a.t
def zAns : List Value := ansC FAns.zero none 0 0
def DoesQ (f : FM) (o : FOp) (cum : Int) (v : Value) (H : HL) : Prop :=
  ∃ (sa : Option Addr) (sn sc : Nat) (hb : HL) (f' : FM), v = tup [.agg (ansC (doA f.S o cum) sa sn sc).toArray] ∧ OwnS 5 1 ((doA f.S o cum).d.bs.map B) (.slice sa sn sc) hb ∧ f'.ok ∧ H = hb ++ f'.H ∧ f'.R = f.R ∧ f'.S = doS f.S o cum
theorem pathOk_of {s : Flt.S} (h : Flt.Good s) : pathOk s.L := fun r hr => by
  obtain ⟨i, hi⟩ := List.getElem?_of_mem hr
  have := h.path i r hi
  have := h.paths
  omega
theorem newT_id {s : Flt.S} : IntKind.i64.wrap (newT s) = newT s := by
  have := u32_mod (Spn.u32 (s.c + 1) + Spn.u32 s.L.length)
  unfold newT
  exact i64_id (by omega) (by omega)
structure DoG where
  i : Nat
  xs : List Value
  hb : HL
set_option maxHeartbeats 4000000 in
theorem does_add (F : Nat → Option Obj) (o : OpM) (bs : List UInt8) (gs : List (Nat × Nat)) (ho : o.Is F bs gs) (hbs : bs.length ≤ 1000000) (hk : o.kind = 0) (f : FM) (hf : f.ok) (cum : Int) :
    Tr Try.prog 22 [.pointer (some ⟨f.R, 0, none⟩), .agg o.cells.toArray, .int .u32 cum].toArray F f.H (DoesQ f (o.op bs gs) cum) := by
  refine Tr.enter Try.func22 rfl Try.ntmps22 rfl (fun w0 => ?_)
  unfold OpM.cells
  rw [hk]
  have hbn : o.bn = bs.length := by have := ho.bytes.len; simp at this; omega
  repeat' (first | refine S1 ?_ | refine SD ?_ | refine SA (fun _ => ?_) | refine WL.g_split rfl rfl (fun hc => ?_) (fun hc => ?_) | refine WD.g_split rfl rfl (fun hc => ?_) (fun hc => ?_) | refine W.cond rfl (fun hc => ?_) (fun hc => ?_))
  rename_i b4 b6 b7 b8 b24
  refine WL.e rfl (Ef.app (m := o.bn) (news := bs.map B) (by exact rfl) (by exact rfl) rfl rfl (OwnS.empty _ _ b24) subA ((ho.bytes.mono (fun _ h => h.sublist (List.nil_sublist _))).src) (by simp [hbn])
    (B_one bs) (by simp; omega) (by simp [maxLen]; omega)) ?_
  rintro v' _ ⟨thb, hown, rfl⟩
  obtain ⟨ta, tn, tc, rfl, hl2, _⟩ := OwnS.shape hown
  rw [List.nil_append] at hown
  have htn : tn = bs.length := by have := hown.len; simp at this; omega
  repeat' (first | refine S1 ?_ | refine SD ?_ | refine SA (fun _ => ?_) | refine WL.g_split rfl rfl (fun hc => ?_) (fun hc => ?_) | refine WD.g_split rfl rfl (fun hc => ?_) (fun hc => ?_) | refine W.cond rfl (fun hc => ?_) (fun hc => ?_))
  refine WL.e rfl (Ef.callW (c := f.H) (by exact rfl) subA (fun F' hF => add_tr F' f hf (o.op bs gs).d ta tn tc ((Lst.own (F := F) (H := thb) hown (fun _ h => h)).mono (fun w h => (hF w h).sublist findA)) (by show bs.length ≤ _; omega) o.path o.now o.id)) ?_
  rintro _ _ ⟨_, ⟨rfl, f', hf', rfl, hr', hS'⟩, rfl⟩
  repeat' (first | refine S1 ?_ | refine SD ?_ | refine SA (fun _ => ?_) | refine WL.g_split rfl rfl (fun hc => ?_) (fun hc => ?_) | refine WD.g_split rfl rfl (fun hc => ?_) (fun hc => ?_) | refine W.cond rfl (fun hc => ?_) (fun hc => ?_))
  refine W.loop (G := DoG) (fun g => [(6, .pointer (some ⟨b6, 0, none⟩)), (8, .pointer (some ⟨b8, 0, none⟩)), (9, .int .u32 (if addE f.S (o.op bs gs).d o.path = 0 then newT f.S else 0)), (10, .int .i64 (addE f.S (o.op bs gs).d o.path)), (11, .int .i64 g.i)])
    (fun g => f'.H ++ (g.hb ++ [(b8, .cells [.int .u32 o.tsn, .int .u16 o.stream, .int .u16 o.ssn, .bool o.un, .bool o.fi, .bool o.la, .slice ta tn tc].toArray 32 (0, 0)), (b6, .cells zAns.toArray 67 (0, 0))]))
    (fun g => g.i ≤ tn ∧ OwnS 5 1 g.xs (.slice ta tn tc) g.hb) (fun g => tn - g.i) ⟨0, _, thb⟩ ⟨Nat.zero_le _, hown⟩ envA (fun _ h => h.sublist (.append (.refl _) (.append (.refl _) (.cons_cons _ (.cons _ (.cons_cons _ (List.nil_sublist _))))))) ?_
  rintro ⟨i, xs, hb⟩ ⟨hi, hx⟩
  dsimp only at hi hx ⊢
  repeat' (first | refine S1 ?_ | refine SD ?_ | refine SA (fun _ => ?_) | refine WL.g_split rfl rfl (fun hc => ?_) (fun hc => ?_) | refine WD.g_split rfl rfl (fun hc => ?_) (fun hc => ?_) | refine W.cond rfl (fun hc => ?_) (fun hc => ?_))
  · have hi' : i < tn := by simp at hc; omega
    obtain ⟨g, oo, rfl⟩ := hx.addr (by omega)
    have hia : 0 ≤ (i : Int) ∧ (i : Int) < tn := by omega
    obtain ⟨hb', hx', hput⟩ := hx.put i [.int .u8 85] (by have := hx.len; simp at this ⊢; omega)
    repeat' (first | refine S1 ?_ | refine SD ?_ | refine SA (fun _ => ?_) | refine WL.g_split rfl rfl (fun hc => ?_) (fun hc => ?_) | refine WD.g_split rfl rfl (fun hc => ?_) (fun hc => ?_) | refine W.cond rfl (fun hc => ?_) (fun hc => ?_))
    refine WL.e0 (Ef.st rfl rfl rfl (PutAt.right (PutAt.left (H1' := hb') (by simpa using hput)))) ?_
    rintro _ _ ⟨rfl, rfl⟩
    repeat' (first | refine S1 ?_ | refine SD ?_ | refine SA (fun _ => ?_) | refine WL.g_split rfl rfl (fun hc => ?_) (fun hc => ?_) | refine WD.g_split rfl rfl (fun hc => ?_) (fun hc => ?_) | refine W.cond rfl (fun hc => ?_) (fun hc => ?_))
    rw [i64_succ (by omega)]
    exact Fin.round ⟨i + 1, _, hb'⟩ ⟨hi', hx'⟩ envA (fun _ h => h) (by dsimp only; omega)
  · refine Fin.retW (by exact rfl) resA (H' := f'.H) (fun _ h => h.sublist (List.sublist_append_left _ _)) ⟨none, 0, 0, [], f', ?_, .inl ⟨rfl, ?_, rfl⟩, hf', rfl, hr', ?_⟩
    · have e : IntKind.i64.wrap (if addE f.S (o.op bs gs).d o.path = 0 then newT f.S else 0) = (if addE f.S (o.op bs gs).d o.path = 0 then newT f.S else 0) := by
        split
        · exact newT_id
        · rfl
      rw [e]
      unfold doA
      rw [show (o.op bs gs).kind = 0 from hk]
      rfl
    · unfold doA
      rw [show (o.op bs gs).kind = 0 from hk]
      rfl
    · rw [hS']
      unfold doS
      rw [show (o.op bs gs).kind = 0 from hk]
      rfl
set_option maxHeartbeats 4000000 in
theorem does_again (F : Nat → Option Obj) (o : OpM) (bs : List UInt8) (gs : List (Nat × Nat)) (hk : o.kind = 1) (f : FM) (hf : f.ok) (cum : Int) :
    Tr Try.prog 22 [.pointer (some ⟨f.R, 0, none⟩), .agg o.cells.toArray, .int .u32 cum].toArray F f.H (DoesQ f (o.op bs gs) cum) := by
  refine Tr.enter Try.func22 rfl Try.ntmps22 rfl (fun w0 => ?_)
  unfold OpM.cells
  rw [hk]
  repeat' (first | refine S1 ?_ | refine SD ?_ | refine SA (fun _ => ?_) | refine WL.g_split rfl rfl (fun hc => ?_) (fun hc => ?_) | refine WD.g_split rfl rfl (fun hc => ?_) (fun hc => ?_) | refine W.cond rfl (fun hc => ?_) (fun hc => ?_))
  refine WL.e rfl (Ef.call (c := f.H) (by exact rfl) (.last (.there (.there (.there .all)))) (again_tr _ f hf (Spn.u32 (cum + o.by_)) o.path o.now)) ?_
  rintro _ _ ⟨_, ⟨rfl, f', hf', rfl, hr', hS'⟩, rfl⟩
  repeat' (first | refine S1 ?_ | refine SD ?_ | refine SA (fun _ => ?_) | refine WL.g_split rfl rfl (fun hc => ?_) (fun hc => ?_) | refine WD.g_split rfl rfl (fun hc => ?_) (fun hc => ?_) | refine W.cond rfl (fun hc => ?_) (fun hc => ?_))
  refine Fin.retW (by exact rfl) resA (H' := f'.H) (fun _ h => h.sublist findA) ⟨none, 0, 0, [], f', ?_, .inl ⟨rfl, ?_, rfl⟩, hf', rfl, hr', ?_⟩
  · unfold doA
    rw [show (o.op bs gs).kind = _ from hk]
    rfl
  · unfold doA
    rw [show (o.op bs gs).kind = _ from hk]
    rfl
  · rw [hS']
    unfold doS
    rw [show (o.op bs gs).kind = _ from hk]
    rfl
set_option maxHeartbeats 4000000 in
theorem does_mark (F : Nat → Option Obj) (o : OpM) (bs : List UInt8) (gs : List (Nat × Nat)) (hk : o.kind = 3) (f : FM) (hf : f.ok) (cum : Int) :
    Tr Try.prog 22 [.pointer (some ⟨f.R, 0, none⟩), .agg o.cells.toArray, .int .u32 cum].toArray F f.H (DoesQ f (o.op bs gs) cum) := by
  refine Tr.enter Try.func22 rfl Try.ntmps22 rfl (fun w0 => ?_)
  unfold OpM.cells
  rw [hk]
  repeat' (first | refine S1 ?_ | refine SD ?_ | refine SA (fun _ => ?_) | refine WL.g_split rfl rfl (fun hc => ?_) (fun hc => ?_) | refine WD.g_split rfl rfl (fun hc => ?_) (fun hc => ?_) | refine W.cond rfl (fun hc => ?_) (fun hc => ?_))
  refine WL.e rfl (Ef.call (c := f.H) (by exact rfl) (.last (.there (.there (.there .all)))) (mark_tr _ f hf o.path)) ?_
  rintro _ _ ⟨_, ⟨rfl, f', hf', rfl, hr', hS'⟩, rfl⟩
  repeat' (first | refine S1 ?_ | refine SD ?_ | refine SA (fun _ => ?_) | refine WL.g_split rfl rfl (fun hc => ?_) (fun hc => ?_) | refine WD.g_split rfl rfl (fun hc => ?_) (fun hc => ?_) | refine W.cond rfl (fun hc => ?_) (fun hc => ?_))
  refine Fin.retW (by exact rfl) resA (H' := f'.H) (fun _ h => h.sublist findA) ⟨none, 0, 0, [], f', ?_, .inl ⟨rfl, ?_, rfl⟩, hf', rfl, hr', ?_⟩
  · unfold doA
    rw [show (o.op bs gs).kind = _ from hk]
    rfl
  · unfold doA
    rw [show (o.op bs gs).kind = _ from hk]
    rfl
  · rw [hS']
    unfold doS
    rw [show (o.op bs gs).kind = _ from hk]
    rfl
set_option maxHeartbeats 4000000 in
theorem does_abandon (F : Nat → Option Obj) (o : OpM) (bs : List UInt8) (gs : List (Nat × Nat)) (hk : o.kind = 4) (f : FM) (hf : f.ok) (cum : Int) :
    Tr Try.prog 22 [.pointer (some ⟨f.R, 0, none⟩), .agg o.cells.toArray, .int .u32 cum].toArray F f.H (DoesQ f (o.op bs gs) cum) := by
  refine Tr.enter Try.func22 rfl Try.ntmps22 rfl (fun w0 => ?_)
  unfold OpM.cells
  rw [hk]
  repeat' (first | refine S1 ?_ | refine SD ?_ | refine SA (fun _ => ?_) | refine WL.g_split rfl rfl (fun hc => ?_) (fun hc => ?_) | refine WD.g_split rfl rfl (fun hc => ?_) (fun hc => ?_) | refine W.cond rfl (fun hc => ?_) (fun hc => ?_))
  refine WL.e rfl (Ef.call (c := f.H) (by exact rfl) (.last (.there (.there (.there .all)))) (abandon_tr _ f hf o.id)) ?_
  rintro _ _ ⟨_, ⟨rfl, f', hf', rfl, hr', hS'⟩, rfl⟩
  repeat' (first | refine S1 ?_ | refine SD ?_ | refine SA (fun _ => ?_) | refine WL.g_split rfl rfl (fun hc => ?_) (fun hc => ?_) | refine WD.g_split rfl rfl (fun hc => ?_) (fun hc => ?_) | refine W.cond rfl (fun hc => ?_) (fun hc => ?_))
  refine Fin.retW (by exact rfl) resA (H' := f'.H) (fun _ h => h.sublist findA) ⟨none, 0, 0, [], f', ?_, .inl ⟨rfl, ?_, rfl⟩, hf', rfl, hr', ?_⟩
  · unfold doA
    rw [show (o.op bs gs).kind = _ from hk]
    rfl
  · unfold doA
    rw [show (o.op bs gs).kind = _ from hk]
    rfl
  · rw [hS']
    unfold doS
    rw [show (o.op bs gs).kind = _ from hk]
    rfl
set_option maxHeartbeats 4000000 in
theorem does_none (F : Nat → Option Obj) (o : OpM) (bs : List UInt8) (gs : List (Nat × Nat)) (h0 : o.kind ≠ 0) (h1 : o.kind ≠ 1) (h2 : o.kind ≠ 2) (h3 : o.kind ≠ 3) (h4 : o.kind ≠ 4) (h5 : o.kind ≠ 5) (f : FM) (hf : f.ok) (cum : Int) :
    Tr Try.prog 22 [.pointer (some ⟨f.R, 0, none⟩), .agg o.cells.toArray, .int .u32 cum].toArray F f.H (DoesQ f (o.op bs gs) cum) := by
  refine Tr.enter Try.func22 rfl Try.ntmps22 rfl (fun w0 => ?_)
  unfold OpM.cells
  repeat' (first | refine S1 ?_ | refine SA (fun _ => ?_) | refine WL.g_split rfl rfl (fun hc => ?_) (fun hc => ?_) | refine WD.g_split rfl rfl (fun hc => ?_) (fun hc => ?_) | refine W.cond rfl (fun hc => ?_) (fun hc => ?_))
  · exact absurd (by simpa using hc) h0
  · exact absurd (by simpa using hc) h1
  · exact absurd (by simpa using hc) h2
  · exact absurd (by simpa using hc) h3
  · exact absurd (by simpa using hc) h4
  · exact absurd (by simpa using hc) h5
  · have e : ∀ k : Int, o.kind ≠ k → ((o.op bs gs).kind = k) = False := fun k h => eq_false h
    refine Fin.retW (by exact rfl) resA (H' := f.H) (fun _ h => h.sublist findA) ⟨none, 0, 0, [], f, ?_, .inl ⟨rfl, ?_, rfl⟩, hf, rfl, rfl, ?_⟩
    · unfold doA
      simp only [e _ h0, e _ h1, e _ h2, e _ h3, e _ h4, e _ h5, if_false]
      rfl
    · unfold doA
      simp only [e _ h0, e _ h1, e _ h2, e _ h3, e _ h4, e _ h5, if_false]
      rfl
    · unfold doS
      simp only [e _ h0, e _ h1, e _ h2, e _ h3, e _ h4, e _ h5, if_false]
theorem getD_few {f : FM} (hs : f.small) {t : Int} {d : Dt} {p : Int} (h : Flt.getD f.S t = some (d, p)) : d.bs.length ≤ 1000000000000 := by
  unfold Flt.getD at h
  split at h
  · rename_i i _
    obtain ⟨r, hr, he⟩ := Option.map_eq_some_iff.1 h
    have h1 := sumB_snoc (fun _ => true) hr
    have h2 := sum_small hs (fun _ => true) (i + 1)
    rw [if_pos rfl] at h1
    have : d.bs = r.bs := by cases he; rfl
    rw [this]
    show r.bs.length ≤ _
    have e : f.S.L = f.rs.map (·.r) := rfl
    rw [e] at h1
    omega
  · cases h
theorem get_uni {f : FM} (hs : f.small) {o : FOp} {cum : Int} (hk : o.kind = 2) {v : Value} {H : HL} (h : (Flt.getD f.S (Spn.u32 (cum + o.by_)) = none ∧ v = tup [.agg [.int .u32 0, .int .u16 0, .int .u16 0, .bool false, .bool false, .bool false, .slice none 0 0].toArray, .int .i64 0, .bool false] ∧ H = f.H) ∨
    (∃ m : DM, ∃ p, Flt.getD f.S (Spn.u32 (cum + o.by_)) = some (m.d, p) ∧ m.ok ∧ v = tup [.agg m.cells.toArray, .int .i64 p, .bool true] ∧ H = m.bb ++ f.H)) :
    ∃ (d : Dt) (p : Int) (is : Bool) (sa : Option Addr) (sn sc : Nat) (bb : HL), v = tup [.agg [.int .u32 d.tsn, .int .u16 d.stream, .int .u16 d.ssn, .bool d.un, .bool d.fi, .bool d.la, .slice sa sn sc].toArray, .int .i64 p, .bool is] ∧ OwnS 5 1 (d.bs.map B) (.slice sa sn sc) bb ∧ H = bb ++ f.H ∧ doA f.S o cum = { FAns.zero with d := d, n := p, is_ := is } ∧ doS f.S o cum = f.S ∧ d.bs.length ≤ 1000000000000 := by
  have hS : doS f.S o cum = f.S := by unfold doS; rw [hk]; rfl
  rcases h with ⟨h1, h2, h3⟩ | ⟨m, p, h1, h2, h3, h4⟩
  · refine ⟨Dt.zero, 0, false, none, 0, 0, [], h2, .inl ⟨rfl, rfl, rfl⟩, h3, ?_, hS, Nat.zero_le _⟩
    unfold doA
    rw [hk]
    simp only [show ¬ ((2 : Int) = 0) by decide, show ¬ ((2 : Int) = 1) by decide, if_false, if_true]
    rw [h1]
    rfl
  · refine ⟨m.d, p, true, m.ba, m.bn, m.bc, m.bb, h3, h2, h4, ?_, hS, getD_few hs h1⟩
    unfold doA
    rw [hk]
    simp only [show ¬ ((2 : Int) = 0) by decide, show ¬ ((2 : Int) = 1) by decide, if_false, if_true]
    rw [h1]
set_option maxHeartbeats 4000000 in
theorem does_get (F : Nat → Option Obj) (o : OpM) (bs : List UInt8) (gs : List (Nat × Nat)) (hk : o.kind = 2) (f : FM) (hf : f.ok) (hs : f.small) (cum : Int) :
    Tr Try.prog 22 [.pointer (some ⟨f.R, 0, none⟩), .agg o.cells.toArray, .int .u32 cum].toArray F f.H (DoesQ f (o.op bs gs) cum) := by
  refine Tr.enter Try.func22 rfl Try.ntmps22 rfl (fun w0 => ?_)
  unfold OpM.cells
  rw [hk]
  repeat' (first | refine S1 ?_ | refine SD ?_ | refine SA (fun _ => ?_) | refine WL.g_split rfl rfl (fun hc => ?_) (fun hc => ?_) | refine WD.g_split rfl rfl (fun hc => ?_) (fun hc => ?_) | refine W.cond rfl (fun hc => ?_) (fun hc => ?_))
  refine WL.e rfl (Ef.call (c := f.H) (by exact rfl) (.last (.there (.there (.there .all)))) (getD_tr _ f hf hs (Spn.u32 (cum + o.by_)))) ?_
  rintro v _ ⟨H1, hq, rfl⟩
  obtain ⟨d, p, is, sa, sn, sc, bb, rfl, hown, rfl, hA, hS, hbig⟩ := get_uni (f := f) hs (o := o.op bs gs) (cum := cum) hk hq
  clear hq
  have hdl : d.bs.length = sn := by have := hown.len; simp at this; exact this
  dsimp only [tup]
  rw [List.append_assoc]
  repeat' (first | refine S1 ?_ | refine SD ?_ | refine SA (fun _ => ?_) | refine WL.g_split rfl rfl (fun hc => ?_) (fun hc => ?_) | refine WD.g_split rfl rfl (fun hc => ?_) (fun hc => ?_) | refine W.cond rfl (fun hc => ?_) (fun hc => ?_))
  rename_i b4 b6 b7 b12 b86
  refine WL.e rfl (Ef.app (m := sn) (news := d.bs.map B) (by exact rfl) (by exact rfl) rfl rfl (OwnS.empty _ _ b86) (.last .here) (OwnS.src hown (fun _ h => h.sublist findA)) (by simp [hdl])
    (B_one d.bs) (by simp; omega) (by simp [maxLen]; omega)) ?_
  rintro v' _ ⟨thb, hown2, rfl⟩
  obtain ⟨ta, tn, tc, rfl, hl2, _⟩ := OwnS.shape hown2
  rw [List.nil_append] at hown2
  repeat' (first | refine S1 ?_ | refine SD ?_ | refine SA (fun _ => ?_) | refine WL.g_split rfl rfl (fun hc => ?_) (fun hc => ?_) | refine WD.g_split rfl rfl (fun hc => ?_) (fun hc => ?_) | refine W.cond rfl (fun hc => ?_) (fun hc => ?_))
  refine W.loop (G := DoG) (fun g => [(6, .pointer (some ⟨b6, 0, none⟩)), (7, .pointer (some ⟨b7, 0, none⟩)), (12, .pointer (some ⟨b12, 0, none⟩)), (15, .int .i64 g.i)])
    (fun g => thb ++ ((b12, .cells [.int .u32 d.tsn, .int .u16 d.stream, .int .u16 d.ssn, .bool d.un, .bool d.fi, .bool d.la, .slice sa sn sc].toArray 32 (0, 0)) :: (g.hb ++ (f.H ++ [(b7, .cells (ansC { FAns.zero with d := d, n := p, is_ := is } ta tn tc).toArray 67 (0, 0)), (b6, .cells zAns.toArray 67 (0, 0))]))))
    (fun g => g.i ≤ sn ∧ OwnS 5 1 g.xs (.slice sa sn sc) g.hb) (fun g => sn - g.i) ⟨0, _, bb⟩ ⟨Nat.zero_le _, hown⟩ envA (fun _ h => h.sublist (.append (.refl _) (.cons_cons _ (.append (.refl _) (List.Sublist.append (.refl f.H) (.cons_cons _ (.cons_cons _ (List.nil_sublist _)))))))) ?_
  rintro ⟨i, xs, hb⟩ ⟨hi, hx⟩
  dsimp only at hi hx ⊢
  repeat' (first | refine S1 ?_ | refine SD ?_ | refine SA (fun _ => ?_) | refine WL.g_split rfl rfl (fun hc => ?_) (fun hc => ?_) | refine WD.g_split rfl rfl (fun hc => ?_) (fun hc => ?_) | refine W.cond rfl (fun hc => ?_) (fun hc => ?_))
  · have hi' : i < sn := by simp at hc; omega
    obtain ⟨g, oo, rfl⟩ := hx.addr (by omega)
    have hia : 0 ≤ (i : Int) ∧ (i : Int) < sn := by omega
    obtain ⟨hb', hx', hput⟩ := hx.put i [.int .u8 85] (by have := hx.len; simp at this ⊢; omega)
    repeat' (first | refine S1 ?_ | refine SD ?_ | refine SA (fun _ => ?_) | refine WL.g_split rfl rfl (fun hc => ?_) (fun hc => ?_) | refine WD.g_split rfl rfl (fun hc => ?_) (fun hc => ?_) | refine W.cond rfl (fun hc => ?_) (fun hc => ?_))
    refine WL.e0 (Ef.st rfl rfl rfl (PutAt.right (PutAt.there (PutAt.left (H1' := hb') (by simpa using hput))))) ?_
    rintro _ _ ⟨rfl, rfl⟩
    repeat' (first | refine S1 ?_ | refine SD ?_ | refine SA (fun _ => ?_) | refine WL.g_split rfl rfl (fun hc => ?_) (fun hc => ?_) | refine WD.g_split rfl rfl (fun hc => ?_) (fun hc => ?_) | refine W.cond rfl (fun hc => ?_) (fun hc => ?_))
    rw [i64_succ (by omega)]
    exact Fin.round ⟨i + 1, _, hb'⟩ ⟨hi', hx'⟩ envA (fun _ h => h) (by dsimp only; omega)
  · refine Fin.retW (by exact rfl) resA (H' := thb ++ f.H) (fun _ h => h.sublist (.append (.refl _) (.cons _ (.trans (List.sublist_append_left f.H _) (List.sublist_append_right _ _))))) ⟨ta, tn, tc, thb, f, ?_, ?_, hf, rfl, rfl, hS.symm⟩
    · rw [hA]
      rfl
    · rw [hA]
      exact hown2
theorem sack_uni {f : FM} (hf : f.ok) {o : FOp} {cum : Int} (hk : o.kind = 5) {v : Value} {H : HL} (h : SackR f (Flt.sack f.S (Spn.u32 (cum + o.by_)) o.gaps) v H) :
    ∃ (t : Tld) (e : Int) (f' : FM), v = tup [.agg (tldC t).toArray, .int .i64 e] ∧ f'.ok ∧ H = f'.H ∧ f'.R = f.R ∧ f'.S = doS f.S o cum ∧ doA f.S o cum = { FAns.zero with t := t, e := e } := by
  unfold doS doA
  rw [hk]
  simp only [show ¬ ((5 : Int) = 0) by decide, show ¬ ((5 : Int) = 1) by decide, show ¬ ((5 : Int) = 2) by decide, show ¬ ((5 : Int) = 3) by decide, show ¬ ((5 : Int) = 4) by decide, if_false, if_true]
  unfold SackR at h
  split at h
  · rename_i hs
    rw [hs]
    exact ⟨Tld.zero, 1, f, h.1, hf, h.2, rfl, rfl, rfl⟩
  · rename_i s' t hs
    obtain ⟨h1, f', h2, h3, h4, h5⟩ := h
    rw [hs]
    exact ⟨t, 0, f', h1, h2, h3, h4, h5, rfl⟩
theorem gs_one (gs : List (Nat × Nat)) : ∀ u ∈ gs.flatMap gC, u.oneCell' = true := fun u hu => by
  obtain ⟨k, _, h⟩ := List.mem_flatMap.1 hu
  simp only [gC, List.mem_cons, List.not_mem_nil, or_false] at h
  rcases h with rfl | rfl <;> rfl
set_option maxHeartbeats 8000000 in
theorem does_sack (F : Nat → Option Obj) (o : OpM) (bs : List UInt8) (gs : List (Nat × Nat)) (ho : o.Is F bs gs) (hgs : gs.length ≤ 1000) (hk : o.kind = 5) (f : FM) (hf : f.ok) (hs : f.small) (hg : Flt.Good f.S) (cum : Int) :
    Tr Try.prog 22 [.pointer (some ⟨f.R, 0, none⟩), .agg o.cells.toArray, .int .u32 cum].toArray F f.H (DoesQ f (o.op bs gs) cum) := by
  refine Tr.enter Try.func22 rfl Try.ntmps22 rfl (fun w0 => ?_)
  unfold OpM.cells
  rw [hk]
  have hgn : gs.length = o.gn := lst_len gC_len (by decide) ho.gaps
  repeat' (first | refine S1 ?_ | refine SA (fun _ => ?_) | refine WL.g_split rfl rfl (fun hc => ?_) (fun hc => ?_) | refine WD.g_split rfl rfl (fun hc => ?_) (fun hc => ?_) | refine W.cond rfl (fun hc => ?_) (fun hc => ?_))
  rename_i b4 b6 b7
  refine W.drawG 14 [(b4, .cells [.int .i64 5, .int .u32 o.tsn, .int .u16 o.stream, .int .u16 o.ssn, .bool o.un, .bool o.fi, .bool o.la, .slice o.ba o.bn o.bc, .int .i64 o.path, .int .i64 o.now, .int .i64 o.id, .int .u32 o.by_, .slice o.ga o.gn o.gc].toArray 70 (0, 0))] (fun _ h => h.sublist (.cons _ (.cons _ (.cons_cons _ (List.nil_sublist _))))) ?_
  repeat' (first
    | refine WF.pA ?_ | refine WF.sA ?_)
  refine WF.e rfl Ef.bs0 ?_ ?_
  · rintro _ _ ⟨b5, rfl, rfl⟩
    refine ⟨.inr (fun _ h => h.sublist (.cons _ (.cons _ (.cons _ (.cons_cons _ (List.nil_sublist _)))))), ?_⟩
    repeat' (first
      | refine WF.pA ?_ | refine WF.sA ?_)
    refine WF.e rfl (Ef.app (m := o.gn) (news := gs.flatMap gC) (by exact rfl) (by exact rfl) rfl rfl (OwnS.empty _ _ b5) (.last .here) ((ho.gaps.mono (fun _ h => h.sublist (List.nil_sublist _))).src) (by rw [flat_len' gC 2 gC_len, hgn]) (gs_one gs) (by rw [flat_len' gC 2 gC_len]; simp; omega) (by rw [flat_len' gC 2 gC_len]; simp [maxLen]; omega)) ?_ ?_
    · rintro v' _ ⟨ghb, hown, rfl⟩
      obtain ⟨sa, sn, sc, rfl, hl2, _⟩ := OwnS.shape hown
      rw [List.nil_append] at hown
      refine ⟨.inr (fun _ h => h.right.sublist (.cons _ (.cons _ (.cons_cons _ (List.nil_sublist _))))), ?_⟩
      repeat' (first
        | refine WF.pA ?_ | refine WF.sA ?_)
      refine WF.e rfl (Ef.callW (c := f.H) (by exact rfl) subA (fun F' hF => sack_tr F' f hf hs (pathOk_of hg) (Spn.u32 (cum + o.by_)) 0 (u32_mod _) gs sa sn sc ((Lst.own (F := F) (H := ghb) hown (fun _ h => h)).mono (fun w h => (hF w h).sublist findA)) ho.g16 hgs none 0 0)) ?_ ?_
      · rintro _ _ ⟨_, hq, rfl⟩
        obtain ⟨t, e, f', rfl, hf', rfl, hr', hS', hA⟩ := sack_uni hf (o := o.op bs gs) hk hq
        refine ⟨.inr (fun _ h => h.right.right.sublist (.cons _ (.cons _ (.cons_cons _ (List.nil_sublist _))))), ?_⟩
        repeat' (first
          | refine WF.pA ?_ | refine WF.sA ?_)
        refine WF.nil ?_
        refine WD.aA (fun b16 => ?_) (hk := fun _ => .inr (fun _ h => In.sublist (.cons _ (.trans (.trans (.cons _ (.cons _ (.cons_cons _ (List.nil_sublist _)))) (List.sublist_append_right _ _)) (List.sublist_append_right _ _))) h))
        refine WD.e0A ?_
        repeat' (first | refine S1 ?_ | refine SA (fun _ => ?_) | refine WL.g_split rfl rfl (fun hc => ?_) (fun hc => ?_) | refine WD.g_split rfl rfl (fun hc => ?_) (fun hc => ?_) | refine W.cond rfl (fun hc => ?_) (fun hc => ?_))
        refine WL.e rfl (Ef.call (c := []) (by exact rfl) (.nil _) (plain_tr _ t)) ?_
        rintro _ _ ⟨_, ⟨rfl, rfl⟩, rfl⟩
        dsimp only [tup]
        rw [List.nil_append]
        repeat' (first | refine S1 ?_ | refine SA (fun _ => ?_) | refine WL.g_split rfl rfl (fun hc => ?_) (fun hc => ?_) | refine WD.g_split rfl rfl (fun hc => ?_) (fun hc => ?_) | refine W.cond rfl (fun hc => ?_) (fun hc => ?_))
        refine Fin.retW (by exact rfl) resA (H' := f'.H) (fun _ h => h.sublist findA) ⟨none, 0, 0, [], f', ?_, .inl ⟨rfl, ?_, rfl⟩, hf', rfl, hr', hS'⟩
        · rw [hA]
          rfl
        · rw [hA]
          rfl
      · refine WD.aA (fun b16 => ?_) (hk := fun _ => .inr (fun _ h => h.sublist (.cons _ (.trans (.cons _ (.cons _ (.cons_cons _ (List.nil_sublist _)))) (List.sublist_append_right _ _)))))
        refine WD.e rfl (Ef.callW (c := f.H) (by exact rfl) subA (fun F' hF => sack_tr F' f hf hs (pathOk_of hg) (Spn.u32 (cum + o.by_)) 0 (u32_mod _) gs sa sn sc ((Lst.own (F := F) (H := ghb) hown (fun _ h => h)).mono (fun w h => (hF w h).sublist findA)) ho.g16 hgs none 0 0)) ?_
        rintro _ _ ⟨_, hq, rfl⟩
        obtain ⟨t, e, f', rfl, hf', rfl, hr', hS', hA⟩ := sack_uni hf (o := o.op bs gs) hk hq
        refine ⟨.inr (fun _ h => h.right.sublist (by repeat (first | exact List.Sublist.refl _ | exact List.Sublist.cons_cons _ (List.nil_sublist _) | refine List.Sublist.cons _ ?_ | refine List.Sublist.trans ?_ (List.sublist_append_right _ _)))), ?_⟩
        repeat' (first | refine S1 ?_ | refine SA (fun _ => ?_) | refine WL.g_split rfl rfl (fun hc => ?_) (fun hc => ?_) | refine WD.g_split rfl rfl (fun hc => ?_) (fun hc => ?_) | refine W.cond rfl (fun hc => ?_) (fun hc => ?_))
        repeat' (first | refine S1 ?_ | refine SA (fun _ => ?_) | refine WL.g_split rfl rfl (fun hc => ?_) (fun hc => ?_) | refine WD.g_split rfl rfl (fun hc => ?_) (fun hc => ?_) | refine W.cond rfl (fun hc => ?_) (fun hc => ?_))
        refine WL.e rfl (Ef.call (c := []) (by exact rfl) (.nil _) (plain_tr _ t)) ?_
        rintro _ _ ⟨_, ⟨rfl, rfl⟩, rfl⟩
        dsimp only [tup]
        rw [List.nil_append]
        repeat' (first | refine S1 ?_ | refine SA (fun _ => ?_) | refine WL.g_split rfl rfl (fun hc => ?_) (fun hc => ?_) | refine WD.g_split rfl rfl (fun hc => ?_) (fun hc => ?_) | refine W.cond rfl (fun hc => ?_) (fun hc => ?_))
        refine Fin.retW (by exact rfl) resA (H' := f'.H) (fun _ h => h.sublist findA) ⟨none, 0, 0, [], f', ?_, .inl ⟨rfl, ?_, rfl⟩, hf', rfl, hr', hS'⟩
        · rw [hA]
          rfl
        · rw [hA]
          rfl
    · refine WD.aA (fun b16 => ?_) (hk := fun _ => .inr (fun _ h => h.sublist (.cons _ (.cons _ (.cons _ (.cons _ (.cons_cons _ (List.nil_sublist _)))))))) 
      refine WD.e rfl (Ef.app (m := o.gn) (news := gs.flatMap gC) (by exact rfl) (by exact rfl) rfl rfl (OwnS.empty _ _ b5) subA ((ho.gaps.mono (fun _ h => h.sublist (List.nil_sublist _))).src) (by rw [flat_len' gC 2 gC_len, hgn]) (gs_one gs) (by rw [flat_len' gC 2 gC_len]; simp; omega) (by rw [flat_len' gC 2 gC_len]; simp [maxLen]; omega)) ?_
      rintro v' _ ⟨ghb, hown, rfl⟩
      obtain ⟨sa, sn, sc, rfl, hl2, _⟩ := OwnS.shape hown
      rw [List.nil_append] at hown
      refine ⟨.inr (fun _ h => h.right.sublist (.cons _ (.cons _ (.cons _ (.cons_cons _ (List.nil_sublist _)))))), ?_⟩
      repeat' (first | refine S1 ?_ | refine SA (fun _ => ?_) | refine WL.g_split rfl rfl (fun hc => ?_) (fun hc => ?_) | refine WD.g_split rfl rfl (fun hc => ?_) (fun hc => ?_) | refine W.cond rfl (fun hc => ?_) (fun hc => ?_))
      refine WD.e rfl (Ef.callW (c := f.H) (by exact rfl) subA (fun F' hF => sack_tr F' f hf hs (pathOk_of hg) (Spn.u32 (cum + o.by_)) 0 (u32_mod _) gs sa sn sc ((Lst.own (F := F) (H := ghb) hown (fun _ h => h)).mono (fun w h => (hF w h).sublist findA)) ho.g16 hgs none 0 0)) ?_
      rintro _ _ ⟨_, hq, rfl⟩
      obtain ⟨t, e, f', rfl, hf', rfl, hr', hS', hA⟩ := sack_uni hf (o := o.op bs gs) hk hq
      refine ⟨.inr (fun _ h => h.right.sublist (by repeat (first | exact List.Sublist.refl _ | exact List.Sublist.cons_cons _ (List.nil_sublist _) | refine List.Sublist.cons _ ?_ | refine List.Sublist.trans ?_ (List.sublist_append_right _ _)))), ?_⟩
      repeat' (first | refine S1 ?_ | refine SA (fun _ => ?_) | refine WL.g_split rfl rfl (fun hc => ?_) (fun hc => ?_) | refine WD.g_split rfl rfl (fun hc => ?_) (fun hc => ?_) | refine W.cond rfl (fun hc => ?_) (fun hc => ?_))
      repeat' (first | refine S1 ?_ | refine SA (fun _ => ?_) | refine WL.g_split rfl rfl (fun hc => ?_) (fun hc => ?_) | refine WD.g_split rfl rfl (fun hc => ?_) (fun hc => ?_) | refine W.cond rfl (fun hc => ?_) (fun hc => ?_))
      refine WL.e rfl (Ef.call (c := []) (by exact rfl) (.nil _) (plain_tr _ t)) ?_
      rintro _ _ ⟨_, ⟨rfl, rfl⟩, rfl⟩
      dsimp only [tup]
      rw [List.nil_append]
      repeat' (first | refine S1 ?_ | refine SA (fun _ => ?_) | refine WL.g_split rfl rfl (fun hc => ?_) (fun hc => ?_) | refine WD.g_split rfl rfl (fun hc => ?_) (fun hc => ?_) | refine W.cond rfl (fun hc => ?_) (fun hc => ?_))
      refine Fin.retW (by exact rfl) resA (H' := f'.H) (fun _ h => h.sublist findA) ⟨none, 0, 0, [], f', ?_, .inl ⟨rfl, ?_, rfl⟩, hf', rfl, hr', hS'⟩
      · rw [hA]
        rfl
      · rw [hA]
        rfl
  · refine WD.aA (fun b16 => ?_) (hk := fun _ => .inr (fun _ h => h.sublist (.cons _ (.cons _ (.cons _ (.cons_cons _ (List.nil_sublist _))))))) 
    refine WD.e rfl Ef.bs0 ?_
    rintro _ _ ⟨b5, rfl, rfl⟩
    refine ⟨.inr (fun _ h => h.sublist (.cons _ (.cons _ (.cons _ (.cons _ (.cons_cons _ (List.nil_sublist _))))))), ?_⟩
    repeat' (first | refine S1 ?_ | refine SA (fun _ => ?_) | refine WL.g_split rfl rfl (fun hc => ?_) (fun hc => ?_) | refine WD.g_split rfl rfl (fun hc => ?_) (fun hc => ?_) | refine W.cond rfl (fun hc => ?_) (fun hc => ?_))
    refine WD.e rfl (Ef.app (m := o.gn) (news := gs.flatMap gC) (by exact rfl) (by exact rfl) rfl rfl (OwnS.empty _ _ b5) subA ((ho.gaps.mono (fun _ h => h.sublist (List.nil_sublist _))).src) (by rw [flat_len' gC 2 gC_len, hgn]) (gs_one gs) (by rw [flat_len' gC 2 gC_len]; simp; omega) (by rw [flat_len' gC 2 gC_len]; simp [maxLen]; omega)) ?_
    rintro v' _ ⟨ghb, hown, rfl⟩
    obtain ⟨sa, sn, sc, rfl, hl2, _⟩ := OwnS.shape hown
    rw [List.nil_append] at hown
    refine ⟨.inr (fun _ h => h.right.sublist (.cons _ (.cons _ (.cons _ (.cons_cons _ (List.nil_sublist _)))))), ?_⟩
    repeat' (first | refine S1 ?_ | refine SA (fun _ => ?_) | refine WL.g_split rfl rfl (fun hc => ?_) (fun hc => ?_) | refine WD.g_split rfl rfl (fun hc => ?_) (fun hc => ?_) | refine W.cond rfl (fun hc => ?_) (fun hc => ?_))
    refine WD.e rfl (Ef.callW (c := f.H) (by exact rfl) subA (fun F' hF => sack_tr F' f hf hs (pathOk_of hg) (Spn.u32 (cum + o.by_)) 0 (u32_mod _) gs sa sn sc ((Lst.own (F := F) (H := ghb) hown (fun _ h => h)).mono (fun w h => (hF w h).sublist findA)) ho.g16 hgs none 0 0)) ?_
    rintro _ _ ⟨_, hq, rfl⟩
    obtain ⟨t, e, f', rfl, hf', rfl, hr', hS', hA⟩ := sack_uni hf (o := o.op bs gs) hk hq
    refine ⟨.inr (fun _ h => h.right.sublist (by repeat (first | exact List.Sublist.refl _ | exact List.Sublist.cons_cons _ (List.nil_sublist _) | refine List.Sublist.cons _ ?_ | refine List.Sublist.trans ?_ (List.sublist_append_right _ _)))), ?_⟩
    repeat' (first | refine S1 ?_ | refine SA (fun _ => ?_) | refine WL.g_split rfl rfl (fun hc => ?_) (fun hc => ?_) | refine WD.g_split rfl rfl (fun hc => ?_) (fun hc => ?_) | refine W.cond rfl (fun hc => ?_) (fun hc => ?_))
    repeat' (first | refine S1 ?_ | refine SA (fun _ => ?_) | refine WL.g_split rfl rfl (fun hc => ?_) (fun hc => ?_) | refine WD.g_split rfl rfl (fun hc => ?_) (fun hc => ?_) | refine W.cond rfl (fun hc => ?_) (fun hc => ?_))
    refine WL.e rfl (Ef.call (c := []) (by exact rfl) (.nil _) (plain_tr _ t)) ?_
    rintro _ _ ⟨_, ⟨rfl, rfl⟩, rfl⟩
    dsimp only [tup]
    rw [List.nil_append]
    repeat' (first | refine S1 ?_ | refine SA (fun _ => ?_) | refine WL.g_split rfl rfl (fun hc => ?_) (fun hc => ?_) | refine WD.g_split rfl rfl (fun hc => ?_) (fun hc => ?_) | refine W.cond rfl (fun hc => ?_) (fun hc => ?_))
    refine Fin.retW (by exact rfl) resA (H' := f'.H) (fun _ h => h.sublist findA) ⟨none, 0, 0, [], f', ?_, .inl ⟨rfl, ?_, rfl⟩, hf', rfl, hr', hS'⟩
    · rw [hA]
      rfl
    · rw [hA]
      rfl
theorem does_tr (F : Nat → Option Obj) (o : OpM) (bs : List UInt8) (gs : List (Nat × Nat)) (ho : o.Is F bs gs) (hbs : bs.length ≤ 1000000) (hgs : gs.length ≤ 1000) (f : FM) (hf : f.ok) (hs : f.small) (hg : Flt.Good f.S) (cum : Int) :
    Tr Try.prog 22 [.pointer (some ⟨f.R, 0, none⟩), .agg o.cells.toArray, .int .u32 cum].toArray F f.H (DoesQ f (o.op bs gs) cum) := by
  by_cases h0 : o.kind = 0
  · exact does_add F o bs gs ho hbs h0 f hf cum
  by_cases h1 : o.kind = 1
  · exact does_again F o bs gs h1 f hf cum
  by_cases h2 : o.kind = 2
  · exact does_get F o bs gs h2 f hf hs cum
  by_cases h3 : o.kind = 3
  · exact does_mark F o bs gs h3 f hf cum
  by_cases h4 : o.kind = 4
  · exact does_abandon F o bs gs h4 f hf cum
  by_cases h5 : o.kind = 5
  · exact does_sack F o bs gs ho hgs h5 f hf hs hg cum
  · exact does_none F o bs gs h0 h1 h2 h3 h4 h5 f hf cum
end Go.Proofs.Ytglobldnockdoaa
