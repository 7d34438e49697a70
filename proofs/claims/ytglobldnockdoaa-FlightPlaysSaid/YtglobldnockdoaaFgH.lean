/- The law's 'meant' (the document's flight), walked: a thing is done to a flight as the plain functions say. Conditions: bounds on what there is. -/
import Derived.Test.YtglobldnockdoaaFgF
import Derived.Test.YtglobldnockdoaaFlK
namespace Go.Proofs.Ytglobldnockdoaa
open Go Go.Sl Go.Flt

def MeantQ (f : FR) (o : FOp) (cum : Int) (v : Value) (H : HL) : Prop :=
  ∃ (sa : Option Addr) (sn sc : Nat) (hb : HL) (f' : FR), v = tup [.agg (ansC (doA f.S o cum) sa sn sc).toArray] ∧ OwnS 5 1 ((doA f.S o cum).d.bs.map B) (.slice sa sn sc) hb ∧ f'.ok ∧ H = hb ++ f'.H ∧ f'.R = f.R ∧ f'.S = doS f.S o cum
attribute [local irreducible] FR.H
set_option maxHeartbeats 4000000 in
theorem meant_add (F : Nat → Option Obj) (o : OpM) (bs : List UInt8) (gs : List (Nat × Nat)) (ho : o.Is F bs gs) (hbs : bs.length ≤ 1000000) (hk : o.kind = 0) (f : FR) (hf : f.ok) (cum : Int) :
    Tr Try.prog 28 [.pointer (some ⟨f.R, 0, none⟩), .agg o.cells.toArray, .int .u32 cum].toArray F f.H (MeantQ f (o.op bs gs) cum) := by
  refine Tr.enter Try.func28 rfl Try.ntmps28 rfl (fun w0 => ?_)
  unfold OpM.cells
  rw [hk]
  repeat' (first | refine S1 ?_ | refine SD ?_ | refine SA (fun _ => ?_) | refine WL.g_split rfl rfl (fun hc => ?_) (fun hc => ?_) | refine WD.g_split rfl rfl (fun hc => ?_) (fun hc => ?_) | refine W.cond rfl (fun hc => ?_) (fun hc => ?_))
  refine WL.e rfl (Ef.callF (c := f.H) (by exact rfl) (.last (.there (.there (.there .all)))) (fun hd => radd_tr _ f hf (o.op bs gs).d o.ba o.bn o.bc (ho.bytes.mono (fun _ h => addF_in hd h)) (by show bs.length ≤ _; omega) o.path o.now o.id)) ?_
  rintro _ _ ⟨_, ⟨rfl, f', hf', rfl, hr', hS'⟩, rfl⟩
  repeat' (first | refine S1 ?_ | refine SD ?_ | refine SA (fun _ => ?_) | refine WL.g_split rfl rfl (fun hc => ?_) (fun hc => ?_) | refine WD.g_split rfl rfl (fun hc => ?_) (fun hc => ?_) | refine W.cond rfl (fun hc => ?_) (fun hc => ?_))
  have e : IntKind.i64.wrap (if addE f.S (o.op bs gs).d o.path = 0 then newT f.S else 0) = (if addE f.S (o.op bs gs).d o.path = 0 then newT f.S else 0) := by
    split
    · exact newT_id
    · rfl
  rw [e]
  refine Fin.retW (by exact rfl) resA (H' := f'.H) (fun _ h => h.sublist findA) ⟨none, 0, 0, [], f', ?_, .inl ⟨rfl, ?_, rfl⟩, hf', rfl, hr', ?_⟩
  · unfold doA
    rw [show (o.op bs gs).kind = _ from hk]
    rfl
  · unfold doA
    rw [show (o.op bs gs).kind = _ from hk]
    rfl
  · rw [hS']
    unfold doS
    rw [show (o.op bs gs).kind = _ from hk]
    rfl
set_option maxHeartbeats 4000000 in
theorem meant_again (F : Nat → Option Obj) (o : OpM) (bs : List UInt8) (gs : List (Nat × Nat)) (hk : o.kind = 1) (f : FR) (hf : f.ok) (cum : Int) :
    Tr Try.prog 28 [.pointer (some ⟨f.R, 0, none⟩), .agg o.cells.toArray, .int .u32 cum].toArray F f.H (MeantQ f (o.op bs gs) cum) := by
  refine Tr.enter Try.func28 rfl Try.ntmps28 rfl (fun w0 => ?_)
  unfold OpM.cells
  rw [hk]
  repeat' (first | refine S1 ?_ | refine SD ?_ | refine SA (fun _ => ?_) | refine WL.g_split rfl rfl (fun hc => ?_) (fun hc => ?_) | refine WD.g_split rfl rfl (fun hc => ?_) (fun hc => ?_) | refine W.cond rfl (fun hc => ?_) (fun hc => ?_))
  refine WL.e rfl (Ef.call (c := f.H) (by exact rfl) (.last (.there (.there (.there .all)))) (ragain_tr _ f hf (Spn.u32 (cum + o.by_)) o.path o.now)) ?_
  rintro _ _ ⟨_, ⟨rfl, f', hf', rfl, hr', hS'⟩, rfl⟩
  repeat' (first | refine S1 ?_ | refine SD ?_ | refine SA (fun _ => ?_) | refine WL.g_split rfl rfl (fun hc => ?_) (fun hc => ?_) | refine WD.g_split rfl rfl (fun hc => ?_) (fun hc => ?_) | refine W.cond rfl (fun hc => ?_) (fun hc => ?_))
  refine Fin.retW (by exact rfl) resA (H' := f'.H) (fun _ h => h.sublist findA) ⟨none, 0, 0, [], f', ?_, .inl ⟨rfl, ?_, rfl⟩, hf', rfl, hr', ?_⟩
  · unfold doA
    rw [show (o.op bs gs).kind = _ from hk]
    rfl
  · unfold doA
    rw [show (o.op bs gs).kind = _ from hk]
    rfl
  · rw [hS']
    unfold doS
    rw [show (o.op bs gs).kind = _ from hk]
    rfl
set_option maxHeartbeats 4000000 in
theorem meant_mark (F : Nat → Option Obj) (o : OpM) (bs : List UInt8) (gs : List (Nat × Nat)) (hk : o.kind = 3) (f : FR) (hf : f.ok) (cum : Int) :
    Tr Try.prog 28 [.pointer (some ⟨f.R, 0, none⟩), .agg o.cells.toArray, .int .u32 cum].toArray F f.H (MeantQ f (o.op bs gs) cum) := by
  refine Tr.enter Try.func28 rfl Try.ntmps28 rfl (fun w0 => ?_)
  unfold OpM.cells
  rw [hk]
  repeat' (first | refine S1 ?_ | refine SD ?_ | refine SA (fun _ => ?_) | refine WL.g_split rfl rfl (fun hc => ?_) (fun hc => ?_) | refine WD.g_split rfl rfl (fun hc => ?_) (fun hc => ?_) | refine W.cond rfl (fun hc => ?_) (fun hc => ?_))
  refine WL.e rfl (Ef.call (c := f.H) (by exact rfl) (.last (.there (.there (.there .all)))) (rmark_tr _ f hf o.path)) ?_
  rintro _ _ ⟨_, ⟨rfl, f', hf', rfl, hr', hS'⟩, rfl⟩
  repeat' (first | refine S1 ?_ | refine SD ?_ | refine SA (fun _ => ?_) | refine WL.g_split rfl rfl (fun hc => ?_) (fun hc => ?_) | refine WD.g_split rfl rfl (fun hc => ?_) (fun hc => ?_) | refine W.cond rfl (fun hc => ?_) (fun hc => ?_))
  refine Fin.retW (by exact rfl) resA (H' := f'.H) (fun _ h => h.sublist findA) ⟨none, 0, 0, [], f', ?_, .inl ⟨rfl, ?_, rfl⟩, hf', rfl, hr', ?_⟩
  · unfold doA
    rw [show (o.op bs gs).kind = _ from hk]
    rfl
  · unfold doA
    rw [show (o.op bs gs).kind = _ from hk]
    rfl
  · rw [hS']
    unfold doS
    rw [show (o.op bs gs).kind = _ from hk]
    rfl
set_option maxHeartbeats 4000000 in
theorem meant_abandon (F : Nat → Option Obj) (o : OpM) (bs : List UInt8) (gs : List (Nat × Nat)) (hk : o.kind = 4) (f : FR) (hf : f.ok) (cum : Int) :
    Tr Try.prog 28 [.pointer (some ⟨f.R, 0, none⟩), .agg o.cells.toArray, .int .u32 cum].toArray F f.H (MeantQ f (o.op bs gs) cum) := by
  refine Tr.enter Try.func28 rfl Try.ntmps28 rfl (fun w0 => ?_)
  unfold OpM.cells
  rw [hk]
  repeat' (first | refine S1 ?_ | refine SD ?_ | refine SA (fun _ => ?_) | refine WL.g_split rfl rfl (fun hc => ?_) (fun hc => ?_) | refine WD.g_split rfl rfl (fun hc => ?_) (fun hc => ?_) | refine W.cond rfl (fun hc => ?_) (fun hc => ?_))
  refine WL.e rfl (Ef.call (c := f.H) (by exact rfl) (.last (.there (.there (.there .all)))) (rabandon_tr _ f hf o.id)) ?_
  rintro _ _ ⟨_, ⟨rfl, f', hf', rfl, hr', hS'⟩, rfl⟩
  repeat' (first | refine S1 ?_ | refine SD ?_ | refine SA (fun _ => ?_) | refine WL.g_split rfl rfl (fun hc => ?_) (fun hc => ?_) | refine WD.g_split rfl rfl (fun hc => ?_) (fun hc => ?_) | refine W.cond rfl (fun hc => ?_) (fun hc => ?_))
  refine Fin.retW (by exact rfl) resA (H' := f'.H) (fun _ h => h.sublist findA) ⟨none, 0, 0, [], f', ?_, .inl ⟨rfl, ?_, rfl⟩, hf', rfl, hr', ?_⟩
  · unfold doA
    rw [show (o.op bs gs).kind = _ from hk]
    rfl
  · unfold doA
    rw [show (o.op bs gs).kind = _ from hk]
    rfl
  · rw [hS']
    unfold doS
    rw [show (o.op bs gs).kind = _ from hk]
    rfl
set_option maxHeartbeats 4000000 in
theorem meant_none (F : Nat → Option Obj) (o : OpM) (bs : List UInt8) (gs : List (Nat × Nat)) (h0 : o.kind ≠ 0) (h1 : o.kind ≠ 1) (h2 : o.kind ≠ 2) (h3 : o.kind ≠ 3) (h4 : o.kind ≠ 4) (h5 : o.kind ≠ 5) (f : FR) (hf : f.ok) (cum : Int) :
    Tr Try.prog 28 [.pointer (some ⟨f.R, 0, none⟩), .agg o.cells.toArray, .int .u32 cum].toArray F f.H (MeantQ f (o.op bs gs) cum) := by
  refine Tr.enter Try.func28 rfl Try.ntmps28 rfl (fun w0 => ?_)
  unfold OpM.cells
  repeat' (first | refine S1 ?_ | refine SA (fun _ => ?_) | refine WL.g_split rfl rfl (fun hc => ?_) (fun hc => ?_) | refine WD.g_split rfl rfl (fun hc => ?_) (fun hc => ?_) | refine W.cond rfl (fun hc => ?_) (fun hc => ?_))
  · exact absurd (by simpa using hc) h0
  · exact absurd (by simpa using hc) h1
  · exact absurd (by simpa using hc) h2
  · exact absurd (by simpa using hc) h3
  · exact absurd (by simpa using hc) h4
  · exact absurd (by simpa using hc) h5
  · have e : ∀ k : Int, o.kind ≠ k → ((o.op bs gs).kind = k) = False := fun k h => eq_false h
    refine Fin.retW (by exact rfl) resA (H' := f.H) (fun _ h => h.sublist findA) ⟨none, 0, 0, [], f, ?_, .inl ⟨rfl, ?_, rfl⟩, hf, rfl, rfl, ?_⟩
    · unfold doA
      simp only [e _ h0, e _ h1, e _ h2, e _ h3, e _ h4, e _ h5, if_false]
      rfl
    · unfold doA
      simp only [e _ h0, e _ h1, e _ h2, e _ h3, e _ h4, e _ h5, if_false]
      rfl
    · unfold doS
      simp only [e _ h0, e _ h1, e _ h2, e _ h3, e _ h4, e _ h5, if_false]
theorem rget_uni {f : FR} {o : FOp} {cum : Int} (hk : o.kind = 2) {v : Value} {H : HL} (h : (Flt.getD f.S (Spn.u32 (cum + o.by_)) = none ∧ v = tup [.agg [.int .u32 0, .int .u16 0, .int .u16 0, .bool false, .bool false, .bool false, .slice none 0 0].toArray, .int .i64 0, .bool false] ∧ H = f.H) ∨
    (∃ m : DM, ∃ p, Flt.getD f.S (Spn.u32 (cum + o.by_)) = some (m.d, p) ∧ m.ok ∧ v = tup [.agg m.cells.toArray, .int .i64 p, .bool true] ∧ H = m.bb ++ f.H)) :
    ∃ (d : Dt) (p : Int) (is : Bool) (sa : Option Addr) (sn sc : Nat) (bb : HL), v = tup [.agg [.int .u32 d.tsn, .int .u16 d.stream, .int .u16 d.ssn, .bool d.un, .bool d.fi, .bool d.la, .slice sa sn sc].toArray, .int .i64 p, .bool is] ∧ OwnS 5 1 (d.bs.map B) (.slice sa sn sc) bb ∧ H = bb ++ f.H ∧ doA f.S o cum = { FAns.zero with d := d, n := p, is_ := is } ∧ doS f.S o cum = f.S := by
  have hS : doS f.S o cum = f.S := by unfold doS; rw [hk]; rfl
  rcases h with ⟨h1, h2, h3⟩ | ⟨m, p, h1, h2, h3, h4⟩
  · refine ⟨Dt.zero, 0, false, none, 0, 0, [], h2, .inl ⟨rfl, rfl, rfl⟩, h3, ?_, hS⟩
    unfold doA
    rw [hk]
    simp only [show ¬ ((2 : Int) = 0) by decide, show ¬ ((2 : Int) = 1) by decide, if_false, if_true]
    rw [h1]
    rfl
  · refine ⟨m.d, p, true, m.ba, m.bn, m.bc, m.bb, h3, h2, h4, ?_, hS⟩
    unfold doA
    rw [hk]
    simp only [show ¬ ((2 : Int) = 0) by decide, show ¬ ((2 : Int) = 1) by decide, if_false, if_true]
    rw [h1]
set_option maxHeartbeats 4000000 in
theorem meant_get (F : Nat → Option Obj) (o : OpM) (bs : List UInt8) (gs : List (Nat × Nat)) (hk : o.kind = 2) (f : FR) (hf : f.ok) (hs : f.small) (cum : Int) :
    Tr Try.prog 28 [.pointer (some ⟨f.R, 0, none⟩), .agg o.cells.toArray, .int .u32 cum].toArray F f.H (MeantQ f (o.op bs gs) cum) := by
  refine Tr.enter Try.func28 rfl Try.ntmps28 rfl (fun w0 => ?_)
  unfold OpM.cells
  rw [hk]
  repeat' (first | refine S1 ?_ | refine SD ?_ | refine SA (fun _ => ?_) | refine WL.g_split rfl rfl (fun hc => ?_) (fun hc => ?_) | refine WD.g_split rfl rfl (fun hc => ?_) (fun hc => ?_) | refine W.cond rfl (fun hc => ?_) (fun hc => ?_))
  refine WL.e rfl (Ef.call (c := f.H) (by exact rfl) (.last (.there (.there (.there .all)))) (rgetD_tr _ f hf hs (Spn.u32 (cum + o.by_)))) ?_
  rintro v _ ⟨H1, hq, rfl⟩
  obtain ⟨d, p, is, sa, sn, sc, bb, rfl, hown, rfl, hA, hS⟩ := rget_uni (f := f) (o := o.op bs gs) (cum := cum) hk hq
  clear hq
  dsimp only [tup]
  rw [List.append_assoc]
  repeat' (first | refine S1 ?_ | refine SD ?_ | refine SA (fun _ => ?_) | refine WL.g_split rfl rfl (fun hc => ?_) (fun hc => ?_) | refine WD.g_split rfl rfl (fun hc => ?_) (fun hc => ?_) | refine W.cond rfl (fun hc => ?_) (fun hc => ?_))
  refine Fin.retW (by exact rfl) resA (H' := bb ++ f.H) (fun _ h => h.sublist (List.Sublist.append (.refl bb) (List.sublist_append_left f.H _))) ⟨sa, sn, sc, bb, f, ?_, ?_, hf, rfl, rfl, hS.symm⟩
  · rw [hA]
    rfl
  · rw [hA]
    exact hown
end Go.Proofs.Ytglobldnockdoaa
