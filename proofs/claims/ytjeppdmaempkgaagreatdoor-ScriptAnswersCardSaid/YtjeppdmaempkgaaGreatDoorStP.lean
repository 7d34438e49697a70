/- Two answers compared, walked; the law ScriptAnswers, walked. Conditions: what the answers are in memory, and what the law's run answers. -/
import Derived.Test.YtjeppdmaempkgaaGreatDoorStO
namespace Go.Proofs.YtjeppdmaempkgaaGreatDoor
open Go Go.Sl Go.Scr

theorem told_ext {a b : Tld} (h1 : (a.err == b.err) = true) (h2 : (a.s0 == b.s0 && a.s1 == b.s1) = true) (h3 : (a.now == b.now) = true) (h4 : (a.some == b.some) = true) (h5 : (a.stream == b.stream) = true) (h6 : (a.ord == b.ord) = true) : a = b ↔ a.bytes = b.bytes := by
  simp only [beq_iff_eq, Bool.and_eq_true] at *
  obtain ⟨err, s0, s1, now, stream, ord, bytes, some⟩ := a
  obtain ⟨err', s0', s1', now', stream', ord', bytes', some'⟩ := b
  dsimp only at *
  subst h1 h3 h4 h5 h6
  obtain ⟨rfl, rfl⟩ := h2
  simp
set_option maxHeartbeats 8000000 in
theorem same_tr (F : Nat → Option Obj) (x y : Tlx) (hx : x.Is F) (hy : y.Is F) :
    Tr Tryz.prog 7 [.agg x.cells.toArray, .agg y.cells.toArray].toArray F [] (fun v H => v = .bool (decide (x.t = y.t)) ∧ H = []) := by
  refine Tr.enter Tryz.func7 rfl Tryz.ntmps7 rfl (fun w0 => ?_)
  unfold Tlx.cells
  have bB : ∀ b : Str, b.map B = b.map B := fun _ => rfl
  have hxn : x.bn = x.t.bytes.length := by have := hx.bytes.len; simp at this; omega
  have hyn : y.bn = y.t.bytes.length := by have := hy.bytes.len; simp at this; omega
  have srcx : ∀ H, Src F H (.slice x.ba x.bn x.bc) x.t.bytes.length (x.t.bytes.map B) := fun H => by rw [← hxn]; exact hx.bytes.any.src
  have srcy : ∀ H, Src F H (.slice y.ba y.bn y.bc) y.t.bytes.length (y.t.bytes.map B) := fun H => by rw [← hyn]; exact hy.bytes.any.src
  repeat' (first | refine S2b ?_ | refine S3 ?_ | refine SA (fun _ => ?_) | refine G1 (fun hc => ?_) (fun hc => ?_) | refine G2 (fun hc => ?_) (fun hc => ?_) | refine G3 (fun hc => ?_) (fun hc => ?_) | refine SL ?_ | fail)
  any_goals
    exact Fin.retW (by exact rfl) resA (H' := []) (fun _ h => h.sublist (List.nil_sublist _)) ⟨by
      have hne : ¬ x.t = y.t := fun h => by rw [h] at hc; simp at hc
      rw [decide_eq_false hne]
      rfl, rfl⟩
  rename_i e1
  refine WL.p rfl (Pu.eqSt rfl (a := x.t.s0) (b := x.t.s1) (c := y.t.s0) (d := y.t.s1) rfl rfl) ?_
  repeat' (first | refine S2b ?_ | refine S3 ?_ | refine SA (fun _ => ?_) | refine G1 (fun hc => ?_) (fun hc => ?_) | refine G2 (fun hc => ?_) (fun hc => ?_) | refine G3 (fun hc => ?_) (fun hc => ?_) | refine SL ?_ | fail)
  any_goals
    exact Fin.retW (by exact rfl) resA (H' := []) (fun _ h => h.sublist (List.nil_sublist _)) ⟨by
      have hne : ¬ x.t = y.t := fun h => by rw [h] at hc; simp at hc
      rw [decide_eq_false hne]
      rfl, rfl⟩
  refine WL.s rfl (Rd.cvBS (m := x.t.bytes.length) (bs := x.t.bytes) rfl (srcx _) rfl) ?_
  repeat' (first | refine S2b ?_ | refine S3 ?_ | refine SA (fun _ => ?_) | refine G1 (fun hc => ?_) (fun hc => ?_) | refine G2 (fun hc => ?_) (fun hc => ?_) | refine G3 (fun hc => ?_) (fun hc => ?_) | refine SL ?_ | fail)
  refine WL.s rfl (Rd.cvBS (m := y.t.bytes.length) (bs := y.t.bytes) rfl (srcy _) rfl) ?_
  repeat' (first | refine S2b ?_ | refine S3 ?_ | refine SA (fun _ => ?_) | refine G1 (fun hc => ?_) (fun hc => ?_) | refine G2 (fun hc => ?_) (fun hc => ?_) | refine G3 (fun hc => ?_) (fun hc => ?_) | refine SL ?_ | fail)
  refine Fin.retW (by exact rfl) resA (H' := []) (fun _ h => h.sublist (List.nil_sublist _)) ⟨?_, rfl⟩
  rename_i h1 h2 h3 h4 h5
  show Value.bool _ = _
  rw [eqS_bool]
  congr 1
  refine decide_eq_decide.2 (told_ext h1 h2 h3 h4 h5 hc).symm
/-- the law's run, whatever else is in memory -/
def WorksOk (F : Nat → Option Obj) : Prop := ∀ Hr : HL, (∀ p ∈ Hr, F p.1 = none) → Tr Tryz.prog 4 ([] : List Value).toArray (addF F Hr) [] (fun v _ => v = .bool true)
set_option maxHeartbeats 8000000 in
theorem answers_tr (F : Nat → Option Obj) (hG : Gl F) (hW : WorksOk F) (x y : Tlx) (hx : x.Is F) (hy : y.Is F) :
    Tr Tryz.prog 3 [.agg x.cells.toArray, .agg y.cells.toArray].toArray F [] (fun v H => v = .bool true ∧ H = []) := by
  refine Tr.enter Tryz.func3 rfl Tryz.ntmps3 rfl (fun w0 => ?_)
  have hxn : x.bn = x.t.bytes.length := by have := hx.bytes.len; simp at this; omega
  have hyn : y.bn = y.t.bytes.length := by have := hy.bytes.len; simp at this; omega
  have at0 : ∀ {F' : Nat → Option Obj} {H : HL}, (∀ w, In F' [] w → In F H w) → x.Is F' ∧ y.Is F' := fun hF => ⟨hx.mono (fun w h => (hF w h).sublist (List.nil_sublist _)), hy.mono (fun w h => (hF w h).sublist (List.nil_sublist _))⟩
  unfold Tlx.cells
  repeat' (first | refine S2b ?_ | refine S3 ?_ | refine SA (fun _ => ?_) | refine G1 (fun hc => ?_) (fun hc => ?_) | refine G2 (fun hc => ?_) (fun hc => ?_) | refine G3 (fun hc => ?_) (fun hc => ?_) | refine SL ?_ | fail)
  · skip
    refine WL.e rfl (Ef.callF (by exact rfl) (.nil _) (fun hd => hW _ hd)) ?_
    rintro _ _ ⟨_, rfl, rfl⟩
    repeat' (first | refine S2b ?_ | refine S3 ?_ | refine SA (fun _ => ?_) | refine G1 (fun hc => ?_) (fun hc => ?_) | refine G2 (fun hc => ?_) (fun hc => ?_) | refine G3 (fun hc => ?_) (fun hc => ?_) | refine SL ?_ | fail)
    exact Fin.retW (by exact rfl) resA (H' := []) (fun _ h => h.sublist (List.nil_sublist _)) ⟨rfl, rfl⟩
  · skip
    refine WL.e rfl (Ef.callF (by exact rfl) (.nil _) (fun hd => hW _ hd)) ?_
    rintro _ _ ⟨_, rfl, rfl⟩
    repeat' (first | refine S2b ?_ | refine S3 ?_ | refine SA (fun _ => ?_) | refine G1 (fun hc => ?_) (fun hc => ?_) | refine G2 (fun hc => ?_) (fun hc => ?_) | refine G3 (fun hc => ?_) (fun hc => ?_) | refine SL ?_ | fail)
    exact Fin.retW (by exact rfl) resA (H' := []) (fun _ h => h.sublist (List.nil_sublist _)) ⟨rfl, rfl⟩
  rename_i hc1
  have hbx : x.t.bytes.length ≤ 100000000000 := by simp at hc1; omega
  have hby : y.t.bytes.length ≤ 100000000000 := by simp at hc; omega
  refine WL.e rfl (Ef.lookR (by exact rfl) (fun F' hF => stold_tr F' (hG.at hF) x (at0 hF).1 hbx)) ?_
  rintro _ _ ⟨rfl, rfl⟩
  repeat' (first | refine S2b ?_ | refine S3 ?_ | refine SA (fun _ => ?_) | refine G1 (fun hc => ?_) (fun hc => ?_) | refine G2 (fun hc => ?_) (fun hc => ?_) | refine G3 (fun hc => ?_) (fun hc => ?_) | refine SL ?_ | fail)
  refine WL.e rfl (Ef.lookR (by exact rfl) (fun F' hF => stold_tr F' (hG.at hF) y (at0 hF).2 hby)) ?_
  rintro _ _ ⟨rfl, rfl⟩
  repeat' (first | refine S2b ?_ | refine S3 ?_ | refine SA (fun _ => ?_) | refine G1 (fun hc => ?_) (fun hc => ?_) | refine G2 (fun hc => ?_) (fun hc => ?_) | refine G3 (fun hc => ?_) (fun hc => ?_) | refine SL ?_ | fail)
  refine WL.e rfl (Ef.lookR (by exact rfl) (fun F' hF => rtold_tr F' x (at0 hF).1 hbx)) ?_
  rintro _ _ ⟨rfl, rfl⟩
  repeat' (first | refine S2b ?_ | refine S3 ?_ | refine SA (fun _ => ?_) | refine G1 (fun hc => ?_) (fun hc => ?_) | refine G2 (fun hc => ?_) (fun hc => ?_) | refine G3 (fun hc => ?_) (fun hc => ?_) | refine SL ?_ | fail)
  any_goals (exfalso; simp at hc; done)
  refine WL.e rfl (Ef.lookR (by exact rfl) (fun F' hF => rtold_tr F' y (at0 hF).2 hby)) ?_
  rintro _ _ ⟨rfl, rfl⟩
  repeat' (first | refine S2b ?_ | refine S3 ?_ | refine SA (fun _ => ?_) | refine G1 (fun hc => ?_) (fun hc => ?_) | refine G2 (fun hc => ?_) (fun hc => ?_) | refine G3 (fun hc => ?_) (fun hc => ?_) | refine SL ?_ | fail)
  any_goals (exfalso; simp at hc; done)
  refine WL.e rfl (Ef.lookR (by exact rfl) (fun F' hF => same_tr F' x y (at0 hF).1 (at0 hF).2)) ?_
  rintro _ _ ⟨rfl, rfl⟩
  have key : (((strB x.t.line).toList == (strB y.t.line).toList) == decide (x.t = y.t)) = true := by
    have e : decide (x.t.line = y.t.line) = decide (x.t = y.t) := decide_eq_decide.2 ⟨told_inj, fun h => by rw [h]⟩
    rw [eqS_bool, e]
    simp
  repeat' (first | refine S2b ?_ | refine S3 ?_ | refine SA (fun _ => ?_) | refine G1 (fun hc => ?_) (fun hc => ?_) | refine G2 (fun hc => ?_) (fun hc => ?_) | refine G3 (fun hc => ?_) (fun hc => ?_) | refine SL ?_ | fail)
  any_goals (exfalso; rw [key] at hc; cases hc; done)
  refine WL.e rfl (Ef.callF (by exact rfl) (.nil _) (fun hd => hW _ hd)) ?_
  rintro _ _ ⟨_, rfl, rfl⟩
  repeat' (first | refine S2b ?_ | refine S3 ?_ | refine SA (fun _ => ?_) | refine G1 (fun hc => ?_) (fun hc => ?_) | refine G2 (fun hc => ?_) (fun hc => ?_) | refine G3 (fun hc => ?_) (fun hc => ?_) | refine SL ?_ | fail)
  exact Fin.retW (by exact rfl) resA (H' := []) (fun _ h => h.sublist (List.nil_sublist _)) ⟨rfl, rfl⟩
end Go.Proofs.YtjeppdmaempkgaaGreatDoor
