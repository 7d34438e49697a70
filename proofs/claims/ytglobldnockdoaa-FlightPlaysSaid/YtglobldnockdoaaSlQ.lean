/- A region that draws its order, in which chosen reads are counted as acts (they must be ordered among the acts): what stays then need not bear what they read. No conditions: laws only. -/
import Derived.Test.YtglobldnockdoaaSlK
namespace Go.Sl
open Go

def kindE (es : List Nat) (n : Nat) (op : Op) : Kd := if es.contains n then .e else kindOf op
def sMaskE (es : List Nat) : List Oper → Nat → Nat
  | [], _ => 0
  | o :: l, n => (if (kindE es n o.op).isS then 1 <<< n else 0) ||| sMaskE es l (n + 1)
def tagE (es : List Nat) (ms : List Nat) (sm : Nat) : List Oper → Nat → List Tg
  | [], _ => []
  | o :: l, n => ⟨kindE es n o.op, n, o, (sm &&& ms.getD n 0) != sm⟩ :: tagE es ms sm l (n + 1)
def tagsE (es : List Nat) (l : List Oper) : List Tg := tagE es (masks l []) (sMaskE es l 0) l 0
def mixE (es : List Nat) (l : List Oper) : Bool :=
  Region.noSelect l.toArray && soundB (masks l []) l 0 && pwB (pairB l.toArray (masks l [])) (tagsE es l)
theorem tagE_mem {es ms : List Nat} {sm : Nat} : ∀ (l : List Oper) (n : Nat) (t : Tg), t ∈ tagE es ms sm l n → n ≤ t.i ∧ l[t.i - n]? = some t.o
  | [], _, _, h => by cases h
  | o :: l, n, t, h => by
    rw [tagE, List.mem_cons] at h
    rcases h with rfl | h
    · exact ⟨Nat.le_refl _, by simp⟩
    · obtain ⟨h1, h2⟩ := tagE_mem l (n + 1) t h
      refine ⟨by omega, ?_⟩
      have : t.i - n = (t.i - (n + 1)) + 1 := by omega
      rw [this]; simpa using h2
theorem tagE_idx {es ms : List Nat} {sm : Nat} : ∀ (l : List Oper) (n : Nat), (tagE es ms sm l n).map (·.i) = List.range' n l.length
  | [], _ => rfl
  | o :: l, n => by rw [tagE, List.map_cons, tagE_idx l (n + 1)]; rfl
theorem tagE_length {es ms : List Nat} {sm : Nat} (l : List Oper) (n : Nat) : (tagE es ms sm l n).length = l.length := by
  have := congrArg List.length (tagE_idx (es := es) (ms := ms) (sm := sm) l n); simpa using this

theorem wp_region_mixE {rd : Option Nat} {P : Program} {C : World → Prop} {Q' : Post} {l : List Oper} {id : Nat} {a : Act} {w : World} {M : World → Prop} (es : List Nat) (hm : P.follows .mixedOrders = true) (hB : mixE es l = true)
    (hC : ∀ w, M w → C w) (hw : M { w with drawn := w.drawn + 1 })
    (h : wpMix P l.toArray C (fun a w => Q' .normal a w) (tagsE es l) M a) : (Code.region id l.toArray true).wpIn (fenceR rd) 0 P Q' a w := by
  simp only [mixE, Bool.and_eq_true] at hB
  obtain ⟨⟨h1, h2⟩, h4⟩ := hB
  have hs := soundB_spec l 0 h2
  simp only [Nat.zero_add] at hs
  have hmem : ∀ t ∈ tagsE es l, l.toArray[t.i]? = some t.o := fun t ht => by
    have := (tagE_mem l 0 t ht).2
    simpa using this
  have hidx : (tagsE es l).map (·.i) = List.range' 0 l.length := tagE_idx l 0
  refine wpIn_region_any hm ?_
  have key := wpAny_of_mix (rd := rd) (P := P) (ops := l.toArray) (C := C) (Q := fun a w => Q' .normal a w) (ms := masks l []) (Q' := Q') (fun _ _ h => h) (fun j o cs b ho => Region.noSelect_spec h1 j o cs b ho)
    (fun i o ho => ⟨(hs i o (by simpa using ho)).1, fun x hx => (hs i o (by simpa using ho)).2 x hx⟩)
    (tagsE es l) (Array.replicate l.toArray.size false) M a { w with drawn := w.drawn + 1 } (by simp)
    (fun j o ho hj => by
      have := (Array.getElem?_eq_some_iff.1 ho).1
      simp only [List.size_toArray] at this
      simp [Array.getD, this] at hj)
    hmem (by rw [hidx]; exact List.nodup_range' ..) (fun j hj => by
      simp only [List.size_toArray] at hj
      rw [hidx]
      simp [Array.getD, hj, List.mem_range'_1]) (by rw [hidx]; exact List.pairwise_lt_range') ((pwB_spec _ h4).imp fun h => pairB_spec h) (fun _ => hC) hw h
  have hlen : (tagsE es l).length = l.toArray.size := by simp [tagsE, tagE_length]
  rw [hlen] at key
  exact key
section
variable {x : Cx} {K : Post} {env : Env} {H Hc : HL} {ops : Array Oper} {rest : List Tg}
theorem W.drawE {id : Nat} {l : List Oper} (es : List Nat) (Hc : HL) (hm : x.P.follows .mixedOrders = true) (hB : mixE es l = true) (hc : ∀ w, In x.F H w → In x.F Hc w) (h : WD x Hc K l.toArray (tagsE es l) env H) : W x K (.region id l.toArray true) env H :=
  ⟨fun a _w s => wp_region_mixE es hm hB (fun w h => ⟨hc w h.1, h.2⟩) (M := CC x H) ⟨⟨s.hin.nd, s.hin.own, s.hin.fr, s.hin.dj⟩, ⟨s.same.os, s.same.tape, s.same.output, s.same.size, Nat.le_succ_of_le s.same.drawn⟩⟩ (h.run a s.ev)⟩
/-- a read that is counted as an act -/
theorem Rd.ef {o : Oper} {v : Value} (h : Rd x env H o v) : Ef x env H o (fun u H' => u = v ∧ H' = H) := ⟨fun a w he hi => yields_of_run (h.run a w he hi) ⟨H, ⟨rfl, rfl⟩, hi, Same.refl w⟩⟩
end
theorem Tr.more {P : Program} {f : FuncId} {args : Array Value} {F : Nat → Option Obj} {H Hr : HL} {R : Value → HL → Prop} (h : Tr P f args (addF F Hr) H R) : Tr P f args F (H ++ Hr) (fun v H' => ∃ H1, R v H1 ∧ H' = H1 ++ Hr) := fun _w hw =>
  (Tr.frame h hw).mono fun _ _ ⟨v, H', he, hR, hi, hs⟩ => ⟨v, H' ++ Hr, he, ⟨H', hR, rfl⟩, hi, hs⟩
theorem Tr.weak {P : Program} {f : FuncId} {args : Array Value} {F : Nat → Option Obj} {H : HL} {R R' : Value → HL → Prop} (h : Tr P f args F H R) (hr : ∀ v H', R v H' → ∃ H'', R' v H'' ∧ ∀ w, In F H' w → In F H'' w) : Tr P f args F H R' :=
  fun w hw => (h w hw).mono fun _ _ ⟨v, H', he, hR, hi, hs⟩ => let ⟨H'', h1, h2⟩ := hr v H' hR; ⟨v, H'', he, h1, h2 _ hi, hs⟩
section
variable {x : Cx} {env : Env} {H : HL} {dst : Option Tmp} {ty : TypeId} {pos : String} {aft : Array Edge} {gd : Option (Nat × Bool)}
/-- a call that may look at all that its caller keeps -/
theorem Ef.callW {f : FuncId} {args : List Operand} {tys : Array TypeId} {vals : List Value} {c Hr : HL} {R : Value → HL → Prop} [bd : Body x.P f] (hargs : args.map (ev env) = vals.map some) (hs : Sub c H Hr)
    (tr : ∀ F', (∀ w, In F' [] w → In x.F Hr w) → Tr x.P f vals.toArray F' c R) : Ef x env H ⟨dst, .call ⟨.value (.func f), args.toArray, tys⟩, ty, pos, aft, gd⟩ (fun v H' => ∃ H1, R v H1 ∧ H' = H1 ++ Hr) := ⟨fun a w he hi =>
  (Ef.call (dst := dst) (tys := tys) (ty := ty) (pos := pos) (aft := aft) (gd := gd) hargs hs (tr (addF x.F Hr) (fun _ h => In.unfocus (H := c) (hi.perm hs.perm') h))).run a w he hi⟩
end
theorem Tr.callW {P : Program} {f : FuncId} {args : Array Value} {F : Nat → Option Obj} {c Hr : HL} {R : Value → HL → Prop} (tr : ∀ F', (∀ w, In F' [] w → In F Hr w) → Tr P f args F' c R) : Tr P f args F (c ++ Hr) (fun v H' => ∃ H1, R v H1 ∧ H' = H1 ++ Hr) := fun w hw =>
  (Tr.more (tr (addF F Hr) (fun _ h => In.unfocus (H := c) hw h))) w hw
end Go.Sl
