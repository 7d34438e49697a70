/- The document's flight of pieces: what an acknowledgement writes, cell by cell, in plain Lean. No conditions: laws. -/
import Derived.Test.YtglobldnockdoaaFgE
import Derived.Test.YtglobldnockdoaaFlH
namespace Go.Proofs.Ytglobldnockdoaa
open Go Go.Sl Go.Flt

def pth (p : Int) : Prop := p = 0 ∨ p = 1 ∨ p = 2 ∨ p = 3
def qP (p : Int) (r : Rc) : Bool := low1 r && decide (r.path = p)
def fsP (L : List Rc) (n : Nat) (p : Int) : Option Nat := ((L.drop n).findIdx? (qP p)).map (· + n)
theorem fsP_step {L : List Rc} {n : Nat} {r : Rc} (h : L[n]? = some r) (p : Int) : fsP L n p = if qP p r then some n else fsP L (n + 1) p := by
  have hi := (List.getElem?_eq_some_iff.1 h).1
  have he := (List.getElem?_eq_some_iff.1 h).2
  unfold fsP
  rw [List.drop_eq_getElem_cons hi, he, List.findIdx?_cons]
  cases qP p r with
  | true => simp
  | false =>
    simp only [Bool.false_eq_true, if_false, Option.map_map]
    congr 1
    funext a
    simp only [Function.comp]
    omega
theorem fsP_end {L : List Rc} {n : Nat} (h : L.length ≤ n) (p : Int) : fsP L n p = none := by
  unfold fsP
  rw [List.drop_eq_nil_of_le h]
  rfl
theorem fsP_zero (L : List Rc) (p : Int) : fsP L 0 p = lowP L p := by
  unfold fsP lowP
  rw [List.drop_zero]
  show Option.map (fun a => a + 0) (List.findIdx? (fun r => low1 r && decide (r.path = p)) L) = _
  cases List.findIdx? (fun r => low1 r && decide (r.path = p)) L <;> rfl
def oI : Option Nat → Int
  | none => -1
  | some i => i
def fsC (L : List Rc) (n : Nat) : List Value := [.int .i64 (oI (fsP L n 0)), .int .i64 (oI (fsP L n 1)), .int .i64 (oI (fsP L n 2)), .int .i64 (oI (fsP L n 3))]
theorem fsC_end {L : List Rc} {n : Nat} (h : L.length ≤ n) : fsC L n = [.int .i64 (-1), .int .i64 (-1), .int .i64 (-1), .int .i64 (-1)] := by
  unfold fsC
  simp only [fsP_end h]
  rfl
theorem fsC_no {L : List Rc} {n : Nat} {r : Rc} (h : L[n]? = some r) (h1 : low1 r = false) : fsC L n = fsC L (n + 1) := by
  unfold fsC
  simp [fsP_step h, qP, h1]
theorem fsC_put {L : List Rc} {n : Nat} {r : Rc} (h : L[n]? = some r) (h1 : low1 r = true) (hp : pth r.path) : spliceK (fsC L (n + 1)) (0 + r.path.toNat * 1) [.int .i64 n] some = some (fsC L n) := by
  unfold fsC
  simp only [fsP_step h, qP, h1, Bool.true_and]
  rcases hp with hp | hp | hp | hp <;> rw [hp] <;> simp [spliceK, oI]
theorem fsC_get {L : List Rc} {p : Int} (hp : pth p) : (fsC L 0)[p.toNat]? = some (.int .i64 (oI ((lowQ L).get p))) := by
  unfold fsC
  simp only [fsP_zero]
  rcases hp with rfl | rfl | rfl | rfl <;> rfl
theorem hiC_put {q : Q4 Int} {p v : Int} (hp : pth p) : spliceK (hiC q) (0 + p.toNat * 1) [.int .i64 v] some = some (hiC (q.set p v)) := by rcases hp with rfl | rfl | rfl | rfl <;> rfl
theorem hiC_get {q : Q4 Int} {p : Int} (hp : pth p) : (hiC q)[p.toNat]? = some (.int .i64 (q.get p)) := by rcases hp with rfl | rfl | rfl | rfl <;> rfl
def Flt.Tld.gt (t : Tld) (p : Int) : PT := if p = 0 then t.p0 else if p = 1 then t.p1 else if p = 2 then t.p2 else t.p3
def sAck (a : Int) (q : PT) : PT := { q with acked := a }
def sPse (q : PT) : PT := { q with pseudo := true }
def sAt (a : Int) (q : PT) : PT := { q with at_ := a }
def sSome (q : PT) : PT := { q with some_ := true }
theorem tl_get {t : Tld} {p : Int} (hp : pth p) : (tldC t)[2 + p.toNat * 5]? = some (.int .i64 (Flt.Tld.gt t p).acked) := by rcases hp with rfl | rfl | rfl | rfl <;> rfl
theorem tl_ack {t : Tld} {p a : Int} (hp : pth p) : spliceK (tldC t) (0 + 2 + p.toNat * 5 + 0) [.int .i64 a] some = some (tldC (t.upd p (sAck a))) := by rcases hp with rfl | rfl | rfl | rfl <;> rfl
theorem tl_pse {t : Tld} {p : Int} (hp : pth p) : spliceK (tldC t) (0 + 2 + p.toNat * 5 + 1) [.bool true] some = some (tldC (t.upd p sPse)) := by rcases hp with rfl | rfl | rfl | rfl <;> rfl
theorem tl_fast {t : Tld} {p : Int} (hp : pth p) : spliceK (tldC t) (0 + 2 + p.toNat * 5 + 2) [.bool true] some = some (tldC (t.upd p fastP)) := by rcases hp with rfl | rfl | rfl | rfl <;> rfl
theorem tl_at {t : Tld} {p a : Int} (hp : pth p) : spliceK (tldC t) (0 + 2 + p.toNat * 5 + 3) [.int .i64 a] some = some (tldC (t.upd p (sAt a))) := by rcases hp with rfl | rfl | rfl | rfl <;> rfl
theorem tl_some {t : Tld} {p : Int} (hp : pth p) : spliceK (tldC t) (0 + 2 + p.toNat * 5 + 4) [.bool true] some = some (tldC (t.upd p sSome)) := by rcases hp with rfl | rfl | rfl | rfl <;> rfl
def tk1 (r : Rc) (t : Tld) : Tld := if r.gone then t else t.upd r.path (sAck (IntKind.i64.wrap ((Flt.Tld.gt t r.path).acked + r.bs.length)))
def tk2 (r : Rc) (t : Tld) : Tld := if r.again then t else (t.upd r.path (sAt r.at_)).upd r.path sSome
def tk3 (r : Rc) (low : Bool) (t : Tld) : Tld := if low then t.upd r.path sPse else t
theorem tk_all {r : Rc} (hp : pth r.path) (low : Bool) (t : Tld) : tk3 r low (tk2 r (tk1 r t)) = t.upd r.path (takeP r low) := by
  unfold tk1 tk2 tk3
  have e : ∀ q : PT, takeP r low q = ⟨if r.gone then q.acked else IntKind.i64.wrap (q.acked + r.bs.length), q.pseudo || low, q.fast, if r.again then q.at_ else r.at_, if r.again then q.some_ else true⟩ := fun q => rfl
  rcases hp with h | h | h | h <;> rw [h] <;> cases hg : r.gone <;> cases ha : r.again <;> cases low <;> simp [Tld.upd, Flt.Tld.gt, sAck, sAt, sSome, sPse, e, hg, ha]
/-- alike, but for the records -/
structure Lk (f g : FR) : Prop where
  R : g.R = f.R
  la : g.la = f.la
  ln : g.ln = f.ln
  lc : g.lc = f.lc
  c : g.c = f.c
  paths : g.paths = f.paths
theorem Lk.refl (f : FR) : Lk f f := ⟨rfl, rfl, rfl, rfl, rfl, rfl⟩
theorem fr_set {F : Nat → Option Obj} {f g : FR} (hk : Lk f g) (hg : g.ok) {i : Nat} {m : RrM} (h : g.rs[i]? = some m) {b o : Nat} (hla : f.la = some ⟨b, o, none⟩) {k : Nat} {v : Value} {r' : Rc} (hb : r'.bs = m.r.bs) (hs : spliceK m.cells k [v] some = some ({ m with r := r' } : RrM).cells) :
    ∃ g' : FR, Lk f g' ∧ g'.ok ∧ PutAt b (o + (i : Int).toNat * 15 + k) [v] g.H g'.H ∧ g'.rs = g.rs.set i { m with r := r' } ∧ g'.S.L = g.S.L.set i r' ∧ g'.rs[i]? = some { m with r := r' } := by
  obtain ⟨g', h1, h2, h3, h4, h5, h6, h7, h8, h9⟩ := fr_put hg h (hk.la.trans hla) hb hs
  refine ⟨g', ⟨h3.trans hk.R, h4.trans hk.la, h5.trans hk.ln, h6.trans hk.lc, h7.trans hk.c, h8.trans hk.paths⟩, h1, h2, h9, ?_, ?_⟩
  · show g'.rs.map (·.r) = _
    rw [h9, List.map_set]
    rfl
  · rw [h9, List.getElem?_set_self (List.getElem?_eq_some_iff.1 h).1]
theorem fr_row {F : Nat → Option Obj} {f g : FR} (hk : Lk f g) (hg : g.ok) {i : Nat} {m : RrM} (h : g.rs[i]? = some m) {b o : Nat} (hla : f.la = some ⟨b, o, none⟩) : Sl.Can F g.H f.R (0 + 0) [.slice (some ⟨b, o, none⟩) f.ln f.lc] ∧ Sl.Can F g.H b (o + (i : Int).toNat * 15) m.cells := by
  obtain ⟨b2, o2, h1, h2⟩ := fr_el (F := F) hg h
  rw [hk.la, hla] at h1
  cases h1
  refine ⟨?_, h2⟩
  have := (fr_can (F := F) g).one (i := 0) rfl
  rw [hk.R, hk.la, hk.ln, hk.lc, hla] at this
  exact this
theorem oI_eq (o : Option Nat) (i : Nat) : (oI o == (i : Int)) = decide (o = some i) := by
  cases o with
  | none => simp [oI]
  | some j =>
    show ((j : Int) == (i : Int)) = _
    by_cases h : j = i
    · subst h; simp
    · rw [beq_eq_false_iff_ne.2 (by omega), decide_eq_false (by simpa using h)]
theorem cT_can {F : Nat → Option Obj} (b : Nat) (t : Tld) {T : TypeId} {fr : Nat × Nat} {p : Int} (hp : pth p) : Sl.Can F [(b, .cells (tldC t).toArray T fr)] b (0 + 2 + p.toNat * 5 + 0) [.int .i64 (Flt.Tld.gt t p).acked] := by
  have := (Can.cut (F := F) (n := 22) (.here rfl) : Sl.Can F [(b, .cells (tldC t).toArray T fr)] b 0 (tldC t)).one (tl_get hp)
  rw [show 0 + 2 + p.toNat * 5 + 0 = 0 + (2 + p.toNat * 5) by omega]
  exact this
theorem fsC_can {F : Nat → Option Obj} (b : Nat) (L : List Rc) {T : TypeId} {fr : Nat × Nat} {p : Int} (hp : pth p) : Sl.Can F [(b, .cells (fsC L 0).toArray T fr)] b (0 + p.toNat * 1) [.int .i64 (oI ((lowQ L).get p))] := by
  have := (Can.cut (F := F) (n := 4) (.here rfl) : Sl.Can F [(b, .cells (fsC L 0).toArray T fr)] b 0 (fsC L 0)).one (fsC_get hp)
  rw [show 0 + p.toNat * 1 = 0 + p.toNat by omega]
  exact this
theorem hiC_can {F : Nat → Option Obj} (b : Nat) (q : Q4 Int) {T : TypeId} {fr : Nat × Nat} {p : Int} (hp : pth p) : Sl.Can F [(b, .cells (hiC q).toArray T fr)] b (0 + p.toNat * 1) [.int .i64 (q.get p)] := by
  have := (Can.cut (F := F) (n := 4) (.here rfl) : Sl.Can F [(b, .cells (hiC q).toArray T fr)] b 0 (hiC q)).one (hiC_get hp)
  rw [show 0 + p.toNat * 1 = 0 + p.toNat by omega]
  exact this
theorem fr_head (g : FR) (a : Option Addr) (n c : Nat) : PutAt g.R (0 + 0) [.slice a n c] g.H ({ g with la := a, ln := n, lc := c } : FR).H := by
  unfold FR.H FR.hd
  exact .here rfl
theorem fr_hc (g : FR) (y : Int) : PutAt g.R (0 + 1) [.int .u32 y] g.H ({ g with c := y } : FR).H := by
  unfold FR.H FR.hd
  exact .here rfl
theorem fr_tail {F : Nat → Option Obj} {g : FR} (hg : g.ok) {n : Nat} (hn : n ≤ g.ln) : Src F g.H (.slice (if g.lc = (n : Int).toNat then g.la else g.la.map (·.add ((n : Int).toNat * 15))) (g.ln - (n : Int).toNat) (g.lc - (n : Int).toNat)) (g.ln - n) ((g.rs.drop n).flatMap RrM.cells) := by
  have e1 : (n : Int).toNat = n := by omega
  simp only [e1]
  have hl : Lst F g.H 15 (g.rs.flatMap RrM.cells) g.la g.ln g.lc := (Lst.own (F := F) (H := g.lb) hg.own (fun _ h => h)).mono (fun _ h => by unfold FR.H at h; exact h.sublist (.cons _ (List.sublist_append_left _ _)))
  have hlen := hg.len
  rcases Nat.lt_or_ge n g.ln with h | h
  · obtain ⟨b, off, hla, hcan⟩ := hl.can (by omega)
    have hcap := hl.cap
    rw [if_neg (by omega), hla, Option.map_some, add_lit]
    refine .inr ⟨_, _, rfl, fun w hw j u hu => ?_⟩
    rw [add_lit, Nat.add_assoc]
    refine hcan w hw (n * 15 + j) u ?_
    have e : g.rs.flatMap RrM.cells = (g.rs.take n).flatMap RrM.cells ++ (g.rs.drop n).flatMap RrM.cells := by rw [← List.flatMap_append, List.take_append_drop]
    have e2 : ((g.rs.take n).flatMap RrM.cells).length = n * 15 := by rw [flat_len' RrM.cells 15 (fun _ => rfl), List.length_take, Nat.min_eq_left (by omega)]
    rw [e, List.getElem?_append_right (by omega), e2, Nat.add_sub_cancel_left]
    exact hu
  · rw [List.drop_of_length_le (by omega), List.flatMap_nil]
    cases hla : g.la with
    | none => exact .inl ⟨_, by rw [Option.map_none, ite_self, show g.ln - n = 0 by omega], by omega, rfl⟩
    | some a => exact .inr ⟨if g.lc = n then a else a.add (n * 15), _, by rw [Option.map_some]; congr 1; split <;> rfl, fun _ _ j u hu => by simp at hu⟩
theorem fr_keep {F : Nat → Option Obj} (g : FR) (n : Nat) (sa : Option Addr) (sn sc : Nat) (lb' X : HL) (y : Int) : ∀ w, In F (lb' ++ (X ++ ({ g with la := sa, ln := sn, lc := sc, c := y } : FR).H)) w → In F ({ g with la := sa, ln := sn, lc := sc, c := y, lb := lb', rs := g.rs.drop n } : FR).H w := fun w h => by
  have hsub : ((g.rs.drop n).flatMap (·.bb)).Sublist (g.rs.flatMap (·.bb)) := by
    conv => rhs; rw [← List.take_append_drop n g.rs, List.flatMap_append]
    exact List.sublist_append_right _ _
  unfold FR.H FR.hd at h ⊢
  dsimp only at h ⊢
  have h1 : In F (lb' ++ ((g.R, .cells [.slice sa sn sc, .int .u32 y, .int .i64 g.paths].toArray 107 (0, 0)) :: (g.rs.drop n).flatMap (·.bb))) w := h.sublist (.append (.refl _) (.trans (.cons_cons _ (.trans hsub (List.sublist_append_right _ _))) (List.sublist_append_right _ _)))
  exact In.of_sub (.pick (.right .here) (.pickL (L := lb') .here (.last (L := (g.rs.drop n).flatMap (·.bb)) .all))) h1
end Go.Proofs.Ytglobldnockdoaa
