/- Words filled into fields, walked. Conditions: the fields lie in an owned block; lengths within bounds. -/
import Derived.Test.YtkelhlffeilakaaGreatDoorBuD
import Derived.Test.YtkelhlffeilakaaGreatDoorStF
namespace Go.Proofs.YtkelhlffeilakaaGreatDoor
open Go Go.Sl Go.Scr

/-- words filled into fields, one behind the other -/
inductive FillC : List Fl → List Str → List Value → List Value → HL → Prop
  | nil (cs : List Value) : FillC [] [] cs cs []
  | snoc {ps : List Fl} {ws : List Str} {cs cs' : List Value} {hb hb' : HL} {p : Fl} {w : Str} {x : FV} {c : Value} (r : FillC ps ws cs cs' hb) (hw : Wd p.1.ft w x) (hc : CellOwn p.1 x c hb') : FillC (ps ++ [p]) (ws ++ [w]) cs (cs'.set p.2 c) (hb' ++ hb)
theorem set_one {cs : List Value} {n : Nat} {c : Value} (h : ∀ v ∈ cs, v.oneCell' = true) (hc : c.oneCell' = true) : ∀ v ∈ cs.set n c, v.oneCell' = true := fun v hv => by
  rcases List.mem_or_eq_of_mem_set hv with h1 | h1
  · exact h v h1
  · rw [h1]; exact hc
theorem FillC.one {ps : List Fl} {ws : List Str} {cs cs' : List Value} {hb : HL} (h : FillC ps ws cs cs' hb) (h0 : ∀ v ∈ cs, v.oneCell' = true) : ∀ v ∈ cs', v.oneCell' = true := by
  induction h with
  | nil => exact h0
  | snoc _ _ hc ih => exact set_one (ih h0) hc.one
theorem FillC.len {ps : List Fl} {ws : List Str} {cs cs' : List Value} {hb : HL} (h : FillC ps ws cs cs' hb) : cs'.length = cs.length := by
  induction h with
  | nil => rfl
  | snoc _ _ _ ih => rw [List.length_set, ih]
def FillQ (ps : List Fl) (ws : List Str) (b : Nat) (cs : List Value) (T : TypeId) (v : Value) (H' : HL) : Prop :=
  ∃ ok, v = .bool ok ∧ (ok = true → ∃ cs' hb, FillC ps ws cs cs' hb ∧ H' = (b, .cells cs'.toArray T (0, 0)) :: hb) ∧ (ok = false → (ps.length ≠ ws.length ∨ ∃ (i : Nat) (p : Fl) (w : Str), ps[i]? = some p ∧ ws[i]? = some w ∧ ∀ x, ¬ Wd p.1.ft w x) ∧ ∃ cs' : List Value, cs'.length = cs.length ∧ ((∀ v ∈ cs, v.oneCell' = true) → ∀ v ∈ cs', v.oneCell' = true) ∧ H' = [(b, .cells cs'.toArray T (0, 0))])
structure FlG where
  i : Nat
  cs : List Value
  hb : HL
set_option maxHeartbeats 8000000 in
theorem fill_tr (F : Nat → Option Obj) (hG : Gl F) (ps : List Fl) (ws : List Str) (b : Nat) (cs : List Value) (T : TypeId) (sa : Option Addr) (n c : Nat) (sa' : Option Addr) (n' c' : Nat) (hp : Lst F [] 1 (ps.map (flp b)) sa n c) (hw : Lst F [] 1 (ws.map S) sa' n' c') (ho : ∀ p ∈ ps, p.2 < cs.length) (hl : ∀ w ∈ ws, w.length ≤ 1000000000) (hm : ps.length ≤ 1000) :
    Tr Tryz.prog 25 [.slice sa n c, .slice sa' n' c'].toArray F [(b, .cells cs.toArray T (0, 0))] (FillQ ps ws b cs T) := by
  refine Tr.enter Tryz.func25 rfl Tryz.ntmps25 rfl (fun w0 => ?_)
  have hn : n = ps.length := by have := hp.len; simp at this; omega
  have hn' : n' = ws.length := by have := hw.len; simp at this; omega
  refine SP ?_; repeat' (first|refine ⟨fun hc=>?_,fun hc=>?_⟩|intro)
  · refine Fin.retW (by exact rfl) resA (H' := [(b, _)]) (fun _ h => h) ⟨false, rfl, fun h => (by cases h), fun _ => ⟨.inl ?_, cs, rfl, id, rfl⟩⟩
    simp at hc
    omega
  have hnn : n = n' := by simp at hc; omega
  clear hc
  refine W.loop (G := FlG) (fun g => [(0, .slice sa n c), (1, .slice sa' n' c'), (12, .slice sa n c), (13, .int .i64 n), (14, .int .i64 g.i)]) (fun g => (b, .cells g.cs.toArray T (0, 0)) :: g.hb) (fun g => g.i ≤ n ∧ FillC (ps.take g.i) (ws.take g.i) cs g.cs g.hb) (fun g => n - g.i) ⟨0, cs, []⟩ ⟨Nat.zero_le _, .nil _⟩ envA (fun _ h => h) ?_
  rintro ⟨i, cs', hb⟩ ⟨hi, hF⟩
  dsimp only at hi hF ⊢
  refine SP ?_; repeat' (first|refine ⟨fun hc=>?_,fun hc=>?_⟩|intro)
  · have hi' : i < n := by simp at hc; omega
    obtain ⟨p, hpi⟩ : ∃ y, ps[i]? = some y := ⟨ps[i]'(by omega), by simp⟩
    obtain ⟨w, hwi⟩ : ∃ y, ws[i]? = some y := ⟨ws[i]'(by omega), by simp⟩
    obtain ⟨b1, o1, rfl, hcan⟩ := hp.can (by omega)
    obtain ⟨b2, o2, rfl, hcan'⟩ := hw.can (by omega)
    have hia : 0 ≤ (i : Int) ∧ (i : Int) < n := by omega
    have hia' : 0 ≤ (i : Int) ∧ (i : Int) < n' := by omega
    have hC : Sl.Can F [] b1 (o1 + (i : Int).toNat * 1) [flp b p] := by
      simpa using hcan.one (i := i) (v := flp b p) (by rw [List.getElem?_map, hpi]; rfl)
    have hC' : Sl.Can F [] b2 (o2 + (i : Int).toNat * 1) [S w] := by
      simpa using hcan'.one (i := i) (v := S w) (by rw [List.getElem?_map, hwi]; rfl)
    have hFl := hF.len
    have t1 : ps.take (i + 1) = ps.take i ++ [p] := by rw [List.take_add_one, hpi]; rfl
    have t2 : ws.take (i + 1) = ws.take i ++ [w] := by rw [List.take_add_one, hwi]; rfl
    refine SP ?_; repeat' (first|refine ⟨fun hc=>?_,fun hc=>?_⟩|intro)
    refine WL.e rfl (Ef.callW (c := [(b, _)]) (by exact rfl) subA (fun F' hF => set_tr F' (hG.at hF) p.1 b p.2 cs' T (by rw [hFl]; exact ho p (List.mem_of_getElem? hpi)) w (hl w (List.mem_of_getElem? hwi)))) ?_
    rintro _ _ ⟨_, ⟨ok, rfl, hy, hno⟩, rfl⟩
    cases ok with
    | true =>
      obtain ⟨x, cv, hb', hwd, hown, rfl⟩ := hy rfl
      refine SP ?_; repeat' (first|refine ⟨fun hc=>?_,fun hc=>?_⟩|intro)
      rw [i64_succ (by omega)]
      refine Fin.round ⟨i + 1, cs'.set p.2 cv, hb' ++ hb⟩ ⟨hi', ?_⟩ envA (fun _ h => h) (by dsimp only; omega)
      dsimp only
      rw [t1, t2]
      exact .snoc hF hwd hown
    | false =>
      obtain ⟨hno1, cv, h1, rfl⟩ := hno rfl
      refine SP ?_; repeat' (first|refine ⟨fun hc=>?_,fun hc=>?_⟩|intro)
      exact Fin.retW (by exact rfl) resA (H' := [(b, _)]) (fun _ h => h.sublist (by simp)) ⟨false, rfl, fun h => (by cases h), fun _ => ⟨.inr ⟨i, p, w, hpi, hwi, hno1⟩, cs'.set p.2 cv, by rw [List.length_set, hFl], fun h => set_one (hF.one h) h1, rfl⟩⟩
  · have hi' : i = n := by simp at hc; omega
    rw [hi', List.take_of_length_le (by omega), List.take_of_length_le (by omega)] at hF
    exact Fin.retW (by exact rfl) resA (fun _ h => h) ⟨true, rfl, fun _ => ⟨cs', hb, hF, rfl⟩, fun h => (by cases h)⟩
end Go.Proofs.YtkelhlffeilakaaGreatDoor
