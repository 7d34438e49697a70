/- The script's works, walked: its text's config and events, what is told of them, and a text that is wrong. Conditions: the package variables as the statement lays them. -/
import Derived.Test.YtkelhlffeilakaaGreatDoorBuD
import Derived.Test.YtkelhlffeilakaaGreatDoorStT
import Derived.Test.YtkelhlffeilakaaGreatDoorStX
import Derived.Test.YtkelhlffeilakaaGreatDoorStP
namespace Go.Proofs.YtkelhlffeilakaaGreatDoor
open Go Go.Sl Go.Scr Go.Ev

/-! ### the text -/
def headS : Str := [101, 110, 100, 115, 32, 49, 32, 49, 50, 56, 32, 49, 32, 49, 48, 48, 48, 32, 49, 48, 48, 48, 32, 49, 48, 48, 48, 32, 49, 48, 32, 53, 32, 53, 48, 32, 48, 32, 49, 48, 48, 32, 53, 48, 32, 50, 32, 52]
def lnsW : List Str := [[111, 112, 101, 110, 32, 49, 32, 110, 111, 32, 48], [111, 112, 101, 110, 32, 48, 32, 121, 101, 115, 32, 53], [116, 105, 99, 107, 32, 52], [115, 101, 110, 100, 32, 48, 32, 48, 32, 110, 111, 32, 48, 32, 48, 55], [116, 105, 99, 107, 32, 49], [114, 101, 99, 101, 105, 118, 101, 32, 49]]
def idleS : Str := [35, 32, 111, 112, 101, 110, 101, 100]
def textW : Str := join 10 (headS :: idleS :: lnsW)
def evsW : List (Str × Evt) := lnsW.zip evW
theorem linesW : lines textW = headS :: idleS :: lnsW := by decide +kernel
theorem headW : HeadOf headS cfgW := headB_ok (by kernel_rfl)
theorem readsW : ∀ q ∈ evsW, Reads q.1 q.2 := by
  have h : evsW.all (fun q => readsB q.1 q.2) = true := by kernel_rfl
  exact fun q hq => readsB_ok (List.all_eq_true.1 h q hq)
theorem pgoW : ∀ (l : List (Str × Evt)), (∀ q ∈ l, Reads q.1 q.2 ∧ Scr.idle q.1 = false) → ∀ (m : List Str) (p : Ps) (q : Nat × List Int), Pgo m p → p.c = some q → Pgo (m ++ l.map (·.1)) ⟨some q, p.ev ++ l⟩ := by
  intro l
  induction l with
  | nil =>
    intro _ m p q h hc
    obtain ⟨c, ev⟩ := p
    dsimp only at hc
    subst hc
    simpa using h
  | cons x l ih =>
    intro hl m p q h hc
    have h1 := hl x List.mem_cons_self
    have h2 := Pgo.snoc h (.event h1.2 hc h1.1)
    have h3 := ih (fun y hy => hl y (List.mem_cons_of_mem _ hy)) (m ++ [x.1]) _ q h2 hc
    simpa using h3
theorem text1 : Text textW (.inr (0, cfgW, evsW)) := by
  have h1 : Pgo [headS] ⟨some (0, cfgW), []⟩ := .snoc (l := []) .nil (.head (by rfl) rfl headW)
  have h2 : Pgo [headS, idleS] ⟨some (0, cfgW), []⟩ := .snoc (l := [headS]) h1 (.idle (by rfl))
  have h3 := pgoW evsW (fun q hq => ⟨readsW q hq, by
    have h : evsW.all (fun q => !Scr.idle q.1) = true := by kernel_rfl
    simpa using List.all_eq_true.1 h q hq⟩) _ _ _ h2 rfl
  have h4 : [headS, idleS] ++ evsW.map (·.1) = lines textW := by rw [linesW]; rfl
  rw [h4] at h3
  exact Text.some h3 rfl
def tickS : Str := [116, 105, 99, 107]
def textV : Str := join 10 [headS, tickS] ++ [10]
theorem linesV : lines textV = [headS, tickS] := by decide +kernel
theorem tick_no : ∀ e, ¬ Reads tickS e := fun e he => by
  have h := (fills_of_reads he).1
  have hs : split 32 tickS = [tickS] := by decide
  rw [hs] at h
  simp only [List.cons.injEq] at h
  have h2 := h.2
  unfold Evt.words at h2
  have h3 : fds e.kind = [] := by
    cases hf : fds e.kind with
    | nil => rfl
    | cons a b => rw [hf] at h2; cases h2
  rcases kind_cases he.2.1.1 he.2.1.2.1 with e1 | e1 | e1 | e1 | e1 | e1 | e1 | e1 | e1 | e1 | e1 <;> rw [e1] at h3 <;> exact absurd h3 (by decide)
theorem text2 : Text textV (.inl 1) := by
  have h1 : Pgo [headS] ⟨some (0, cfgW), []⟩ := .snoc (l := []) .nil (.head (by rfl) rfl headW)
  exact Text.wrong (l := [headS]) (m := []) (s := tickS) linesV h1 ⟨rfl, tick_no⟩
/-! ### what is told -/
def outF : List Str → List Tld → Str
  | s :: ss, t :: ts => (s ++ [32, 61, 62, 32] ++ t.lineF ++ [10]) ++ outF ss ts
  | _, _ => []
theorem outF_eq : ∀ {ss : List Str} {ts : List Tld}, (∀ t ∈ ts, t.okB = true) → outF ss ts = tell ss ts
  | [], ts, _ => by cases ts <;> rfl
  | _ :: _, [], _ => rfl
  | s :: ss, t :: ts, h => by
    unfold outF tell tellOne
    rw [outF_eq (fun u hu => h u (List.mem_cons_of_mem _ hu)), Tld.lineF_eq (h t List.mem_cons_self)]
def outW : Str := outF lnsW toldW
def lastW : Str := [114, 101, 99, 101, 105, 118, 101, 32, 49, 32, 61, 62, 32, 48, 32, 52, 32, 52, 32, 53, 32, 121, 101, 115, 32, 48, 32, 110, 111, 32, 48, 55, 10]
theorem outW_eq : tell (evsW.map (·.1)) toldW = outW := (outF_eq (fun t ht => by
  have h : toldW.all Tld.okB = true := by kernel_rfl
  exact List.all_eq_true.1 h t ht)).symm
theorem outW_len : outW.length = 194 := by kernel_rfl
theorem lastW_ok : outW.drop 161 = lastW := by kernel_rfl
theorem linesO : (lines outW).length = 6 := by kernel_rfl
theorem wk_hP {t : Str} {k : Nat} {c : List Int} {ev : List (Str × Evt)} (h : Text t (.inr (k, c, ev))) (ht : t = textW ∨ t = textV) : c = cfgW ∧ ev.map (·.2) = evW := by
  rcases ht with rfl | rfl
  · have := h.inj text1
    cases this
    exact ⟨rfl, rfl⟩
  · have := h.inj text2
    cases this
set_option maxHeartbeats 8000000 in
theorem works_tr (F : Nat → Option Obj) (hG : Gl F) (hGF : GF Ks.glb F) : Tr Tryz.prog 8 ([] : List Value).toArray F [] (fun v _ => v = .bool true) := by
  refine Tr.enter Tryz.func8 rfl Tryz.ntmps8 rfl (fun w0 => ?_)
  have e1 : ∀ F', (∀ b o, F b = some o → F' b = some o) → (∀ w, In F' [] w → In F [] w) → Tr Tryz.prog 6 [S textW].toArray F' [] (fun v H' => v = tup [S outW, .int .i64 0, .int .i64 0] ∧ H' = []) := fun F' hp hF => by
    refine (run_tr F' (hG.mono hF) (wkM F' (hGF.mono hp)) textW (Nat.le_of_ble_eq_true (by kernel_rfl)) (fun k c ev h => wk_hP h (.inl rfl))).mono ?_
    rintro v H' ⟨hq, rfl⟩
    refine ⟨?_, rfl⟩
    rcases hq with ⟨i, h, _⟩ | ⟨k, c, ev, h, hq⟩
    · have := h.inj text1
      cases this
    · have := h.inj text1
      cases this
      rcases hq with ⟨e, _, h, _⟩ | ⟨s, ts, s', h0, hr, hl, rfl⟩
      · exact h.elim
      · have h1 := (runs_told hr h0).2
        have h2 : ts = toldW := by
          refine List.ext_getElem? fun k => ?_
          by_cases hk : k < ts.length
          · exact (h1 k hk).symm
          · have h6 : ts.length = 6 := hl
            rw [List.getElem?_eq_none (by omega), List.getElem?_eq_none (by show 6 ≤ k; omega)]
        rw [h2, outW_eq]
  have e2 : ∀ F', (∀ b o, F b = some o → F' b = some o) → (∀ w, In F' [] w → In F [] w) → Tr Tryz.prog 6 [S textV].toArray F' [] (fun v H' => v = tup [S [], .int .i64 1, .int .i64 7] ∧ H' = []) := fun F' hp hF => by
    refine (run_tr F' (hG.mono hF) (wkM F' (hGF.mono hp)) textV (Nat.le_of_ble_eq_true (by kernel_rfl)) (fun k c ev h => wk_hP h (.inr rfl))).mono ?_
    rintro v H' ⟨hq, rfl⟩
    refine ⟨?_, rfl⟩
    rcases hq with ⟨i, h, rfl⟩ | ⟨k, c, ev, h, hq⟩
    · have := h.inj text2
      cases this
      rfl
    · have := h.inj text2
      cases this
  obtain ⟨ow, how⟩ : ∃ ow, ow = outW := ⟨_, rfl⟩
  have hol : ow.length = 194 := by rw [how, outW_len]
  rw [← how] at e1
  refine SP ?_; repeat' (first|refine ⟨fun hc=>?_,fun hc=>?_⟩|intro)
  refine WL.e rfl (Ef.callP (c := []) (vals := [S textW]) (by exact rfl) (Sub.nil _) e1) ?_
  rintro _ _ ⟨_, ⟨rfl, rfl⟩, rfl⟩
  unfold S
  refine SP ?_; repeat' (first|refine ⟨fun hc=>?_,fun hc=>?_⟩|intro)
  · rw [strB_size, hol] at hc
    exact absurd hc (by decide)
  have e29 : IntKind.i64.wrap (((strB ow).size : Int) - ((strB lastW).size : Int)) = 161 := by
    rw [strB_size, strB_size, hol]
    rfl
  have ex : (strB ow).extract 161 (strB ow).size = strB lastW := by
    rw [strB_size, strB_cut, hol, List.take_of_length_le (by omega), how, lastW_ok]
  clear hc
  refine WL.p rfl (Pu.cutStrL (m := strB ow) (i := IntKind.i64.wrap (((strB ow).size : Int) - ((strB lastW).size : Int))) rfl rfl (by rw [e29]; decide) (by rw [e29, strB_size, hol]; decide)) ?_
  rw [e29, show (161 : Int).toNat = 161 from rfl, ex]
  refine SP ?_; repeat' (first|refine ⟨fun hc=>?_,fun hc=>?_⟩|intro)
  · exfalso
    have hc' : (!((strB lastW).toList == (strB lastW).toList)) = true := hc
    simp at hc'
  refine WL.e rfl (Ef.callP (c := []) (vals := [S textV]) (by exact rfl) (Sub.nil _) e2) ?_
  rintro _ _ ⟨_, ⟨rfl, rfl⟩, rfl⟩
  unfold S
  refine SP ?_; repeat' (first|refine ⟨fun hc=>?_,fun hc=>?_⟩|intro)
  refine WL.e rfl (Ef.callW (c := []) (vals := [S ow]) (by exact rfl) (Sub.nil _) (fun F' hF => (rlines_tr F' ow (by omega)).mono (R' := fun v _ => ∃ sa sc, v = .slice sa (lines ow).length sc) (fun v H' ⟨sa, sc, h, _⟩ => ⟨sa, sc, h⟩))) ?_
  rintro _ _ ⟨hb, ⟨sa, sc, rfl⟩, rfl⟩
  rw [how, linesO]
  refine SP ?_; repeat' (first|refine ⟨fun hc=>?_,fun hc=>?_⟩|intro)
  exact Fin.retW (by exact rfl) resA (H' := []) (fun _ h => h.sublist (List.nil_sublist _)) rfl
theorem works_ok {F : Nat → Option Obj} (hG : Gl F) (hGF : GF Ks.glb F) : WorksOk F := fun Hr hd =>
  works_tr (addF F Hr) (hG.mono fun w hw => ⟨hw.nd, hw.own, fun b o h => hw.fr b o (addF_ro hd h), fun _ h => (by cases h)⟩) (hGF.mono fun b o h => addF_ro hd h)
end Go.Proofs.YtkelhlffeilakaaGreatDoor
