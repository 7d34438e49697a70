/- A sender: messages whose life is over are struck out, and abandoned, walked. Conditions: it is well formed. -/
import Derived.Test.YtjfpckadjnjmoaaGreatSnF
import Derived.Test.YtjfpckadjnjmoaaGreatSlW
namespace Go.Proofs.YtjfpckadjnjmoaaGreat
open Go Go.Sl Go.Pth

/-- what the function that is handed on owns: the moment, the sender's address, its struct, its flight -/
def capH (b3 b2 : Nat) (now : Int) (s : SdM) (f : FM) : HL := (b3, .cells [.int .i64 now].toArray 2 (0, 0)) :: (b2, .cells [ptr s.R].toArray 26 (0, 0)) :: s.hd :: f.H
def lapse1 (now : Int) (f : Flt.S) (x : Snd.Life) : Flt.S := if Snd.lifeDead (Snd.clock now) x then Flt.abandon f x.id else f
set_option maxHeartbeats 2000000 in
theorem exp1_tr (F : Nat → Option Obj) (b3 b2 : Nat) (now : Int) (s : SdM) (f : FM) (hf : f.ok) (hR : f.R = s.f.R) (x : Snd.Life) : Tr Tryz.prog 29 [.agg (lifeC x).toArray, ptr b3, ptr b2].toArray F (capH b3 b2 now s f) (fun v H => v = .bool (Snd.lifeDead (Snd.clock now) x) ∧ ∃ f' : FM, f'.ok ∧ f'.R = f.R ∧ f'.S = lapse1 now f.S x ∧ H = capH b3 b2 now s f') := by
  refine Tr.enter Tryz.func29 rfl Tryz.ntmps29 rfl (fun w0 => ?_)
  unfold capH SdM.hd SdM.cells
  rw [← hR]
  repeat' (first | refine S2b ?_ | refine SD ?_ | refine SA (fun _ => ?_) | refine G1 (fun hc => ?_) (fun hc => ?_) | refine G2 (fun hc => ?_) (fun hc => ?_) | refine G3 (fun hc => ?_) (fun hc => ?_) | refine SL ?_ | fail)
  rename_i b0
  refine WD.e rfl (Ef.callR (by exact rfl) (.nil _) (clock_tr _ now)) ?_
  rintro _ _ ⟨rfl, rfl⟩
  refine ⟨.inr (fun _ h => h), ?_⟩
  repeat' (first | refine S2b ?_ | refine SA (fun _ => ?_) | refine G1 (fun hc => ?_) (fun hc => ?_) | refine G2 (fun hc => ?_) (fun hc => ?_) | refine G3 (fun hc => ?_) (fun hc => ?_) | refine SL ?_ | fail)
  · have hd : Snd.lifeDead (Snd.clock now) x = false := decide_eq_false (by have := of_decide_eq_true hc; omega)
    refine Fin.retW (by exact rfl) resA (fun _ h => h.sublist (.cons _ (List.Sublist.refl _))) ⟨by rw [hd]; rfl, f, hf, rfl, by unfold lapse1; rw [hd]; rfl, rfl⟩
  · have hd : Snd.lifeDead (Snd.clock now) x = true := decide_eq_true (by have := of_decide_eq_false hc; omega)
    refine W.drawA ?_
    repeat' (first | refine S2b ?_ | refine SA (fun _ => ?_) | refine G1 (fun hc => ?_) (fun hc => ?_) | refine G2 (fun hc => ?_) (fun hc => ?_) | refine G3 (fun hc => ?_) (fun hc => ?_) | refine SL ?_ | fail)
    refine WD.e rfl (Ef.call (c := f.H) (by exact rfl) (.last (.there (.there (.there (.there .all))))) (abandon_tr _ f hf x.id)) ?_
    rintro _ _ ⟨_, ⟨rfl, f', hf', rfl, hfR, hfS⟩, rfl⟩
    refine ⟨.inl (by kernel_rfl), ?_⟩
    repeat' (first | refine S2b ?_ | refine SA (fun _ => ?_) | refine G1 (fun hc => ?_) (fun hc => ?_) | refine G2 (fun hc => ?_) (fun hc => ?_) | refine G3 (fun hc => ?_) (fun hc => ?_) | refine SL ?_ | fail)
    refine Fin.retW (by exact rfl) resA (H' := capH b3 b2 now s f') (fun _ h => ?_) ⟨by rw [hd]; rfl, f', hf', hfR, by unfold lapse1; rw [hd, hfS]; rfl, by unfold capH SdM.hd SdM.cells; rw [← hR]⟩
    unfold capH SdM.hd SdM.cells
    rw [← hR]
    exact In.of_sub (.pick (.right (.there .here)) (.pick (.right (.there .here)) (.pick (.right (.there .here)) (.last .here)))) h
/-! ### the first one whose life is over -/
def lapseN (now : Int) (f : Flt.S) (l : List Snd.Life) : Flt.S := l.foldl (lapse1 now) f
def deadL (now : Int) (x : Snd.Life) : Bool := Snd.lifeDead (Snd.clock now) x
theorem lapseN_alive (now : Int) (f : Flt.S) {l : List Snd.Life} (h : ∀ x ∈ l, deadL now x = false) : lapseN now f l = f := by
  induction l with
  | nil => rfl
  | cons x l ih =>
    show lapseN now (lapse1 now f x) l = f
    have h1 : lapse1 now f x = f := by unfold lapse1; exact if_neg (by have := h x List.mem_cons_self; unfold deadL at this; rw [this]; decide)
    rw [h1]
    exact ih (fun y hy => h y (List.mem_cons_of_mem _ hy))
theorem lapseN_eq (now : Int) : ∀ (l : List Snd.Life) (f : Flt.S), lapseN now f l = (l.filter (deadL now)).foldl (fun f x => Flt.abandon f x.id) f
  | [], _ => rfl
  | x :: l, f => by
    show lapseN now (lapse1 now f x) l = _
    rw [lapseN_eq now l]
    unfold lapse1 deadL
    rw [List.filter_cons]
    split <;> rfl
theorem lapseN_snoc (now : Int) (f : Flt.S) {l : List Snd.Life} {j : Nat} {x : Snd.Life} (h : l[j]? = some x) : lapseN now f (l.take (j + 1)) = lapse1 now (lapseN now f (l.take j)) x := by
  rw [List.take_add_one, h]
  unfold lapseN
  rw [List.foldl_append]
  rfl
def idxV (o : Option Nat) : Int := match o with | some k => k | none => -1
structure GIx where
  i : Nat
  f : FM
set_option maxHeartbeats 4000000 in
theorem idxL_tr (F : Nat → Option Obj) (b3 b2 : Nat) (now : Int) (s : SdM) (f : FM) (hf : f.ok) (hR : f.R = s.f.R) (L : List Snd.Life) (la : Option Addr) (ln lc : Nat) (lb : HL) (hown : OwnS 87 2 (L.flatMap lifeC) (.slice la ln lc) lb) (hn : L.length ≤ 1000000) :
    Tr Tryz.prog 56 [.slice la ln lc, .func (.func 29) ([] : List Value).toArray [ptr b3, ptr b2].toArray].toArray F (lb ++ capH b3 b2 now s f) (fun v H => v = .int .i64 (idxV (L.findIdx? (deadL now))) ∧ ∃ f' : FM, f'.ok ∧ f'.R = f.R ∧ f'.S = (match L.findIdx? (deadL now) with | some k => lapseN now f.S (L.take (k + 1)) | none => f.S) ∧ H = lb ++ capH b3 b2 now s f') := by
  refine Tr.enter Tryz.func56 rfl Tryz.ntmps56 rfl (fun w0 => ?_)
  have hln : L.length = ln := by have := OwnS.len hown; rw [flat_len' lifeC 2 lifeC_len] at this; omega
  repeat' (first | refine S2b ?_ | refine SD ?_ | refine SA (fun _ => ?_) | refine G1 (fun hc => ?_) (fun hc => ?_) | refine G2 (fun hc => ?_) (fun hc => ?_) | refine G3 (fun hc => ?_) (fun hc => ?_) | refine SL ?_ | fail)
  refine W.loop (G := GIx) (fun g => [(0, .slice la ln lc), (1, .func (.func 29) ([] : List Value).toArray [ptr b3, ptr b2].toArray), (7, .int .i64 ln), (8, .int .i64 g.i)]) (fun g => lb ++ capH b3 b2 now s g.f) (fun g => g.i ≤ ln ∧ (∀ x ∈ L.take g.i, deadL now x = false) ∧ g.f.ok ∧ g.f.R = f.R ∧ g.f.S = f.S) (fun g => ln - g.i) ⟨0, f⟩ ⟨Nat.zero_le _, (fun _ h => by simp at h), hf, rfl, rfl⟩ envA (fun _ h => h) ?_
  rintro ⟨i, g⟩ ⟨hi, hal, hg, hgR, hgS⟩
  dsimp only at hi hal hg hgR hgS ⊢
  repeat' (first | refine S2b ?_ | refine SA (fun _ => ?_) | refine G1 (fun hc => ?_) (fun hc => ?_) | refine G2 (fun hc => ?_) (fun hc => ?_) | refine SL ?_ | fail)
  cases hc : decide ((i : Int) < ln) with
  | false =>
    have hi' : i = L.length := by have := of_decide_eq_false hc; omega
    subst hi'
    rw [List.take_length] at hal
    have hnone : L.findIdx? (deadL now) = none := List.findIdx?_eq_none_iff.2 hal
    rw [hnone]
    repeat' (first | refine S2b ?_ | refine SA (fun _ => ?_) | refine G1 (fun hc => ?_) (fun hc => ?_) | refine G2 (fun hc => ?_) (fun hc => ?_) | refine G3 (fun hc => ?_) (fun hc => ?_) | refine SL ?_ | fail)
    exact Fin.retW (by exact rfl) resA (fun _ h => h) ⟨rfl, g, hg, hgR, hgS, rfl⟩
  | true =>
  have hi' : i < ln := by have := of_decide_eq_true hc; omega
  obtain ⟨x, hx⟩ : ∃ x, L[i]? = some x := ⟨L[i]'(by omega), List.getElem?_eq_getElem _⟩
  obtain ⟨sb, so, hla, hcan⟩ := (Lst.own (F := F) hown (fun _ h => h)).el lifeC_len hx (by omega)
  have hia : 0 ≤ (i : Int) ∧ (i : Int) < ln := by omega
  have hcan' := hcan.mono (F' := F) (H' := lb ++ capH b3 b2 now s g) (fun w h => h.left)
  rw [hla]
  repeat' (first | refine S2b ?_ | refine SA (fun _ => ?_) | refine G1 (fun hc => ?_) (fun hc => ?_) | refine G2 (fun hc => ?_) (fun hc => ?_) | refine G3 (fun hc => ?_) (fun hc => ?_) | refine SL ?_ | fail)
  refine WL.s rfl (Rd.ldaC rfl (by exact rfl) hcan') ?_
  repeat' (first | refine S2b ?_ | refine SA (fun _ => ?_) | refine G1 (fun hc => ?_) (fun hc => ?_) | refine G2 (fun hc => ?_) (fun hc => ?_) | refine G3 (fun hc => ?_) (fun hc => ?_) | refine SL ?_ | fail)
  refine WL.e rfl (Ef.callV (fv := []) (cv := [ptr b3, ptr b2]) (vals := [.agg (lifeC x).toArray]) (c := capH b3 b2 now s g) rfl (by exact rfl) rfl (.last (.right .all)) (exp1_tr _ b3 b2 now s g hg (hgR.trans hR) x)) ?_
  rintro _ _ ⟨_, ⟨rfl, f', hf', hfR, hfS, rfl⟩, rfl⟩
  have hsn : L.take (i + 1) = L.take i ++ [x] := by rw [List.take_add_one, hx]; rfl
  cases hd : Snd.lifeDead (Snd.clock now) x with
  | true =>
    have hsome : L.findIdx? (deadL now) = some i := by
      rw [List.findIdx?_eq_some_iff_getElem]
      refine ⟨by omega, by rw [(List.getElem?_eq_some_iff.1 hx).2]; exact hd, fun j hj => ?_⟩
      rw [hal L[j] (by rw [List.mem_take_iff_getElem]; exact ⟨j, by omega, rfl⟩)]
      decide
    rw [hsome]
    repeat' (first | refine S2b ?_ | refine SA (fun _ => ?_) | refine G1 (fun hc => ?_) (fun hc => ?_) | refine G2 (fun hc => ?_) (fun hc => ?_) | refine G3 (fun hc => ?_) (fun hc => ?_) | refine SL ?_ | fail)
    refine Fin.retW (by exact rfl) resA (H' := lb ++ capH b3 b2 now s f') (fun _ h => ?_) ⟨rfl, f', hf', hfR.trans hgR, ?_, rfl⟩
    · rw [List.append_nil] at h
      exact h.perm List.perm_append_comm
    · dsimp only
      rw [hfS, hgS, lapseN_snoc now f.S hx, lapseN_alive now f.S hal]
  | false =>
    have hsame : f'.S = g.S := by rw [hfS]; unfold lapse1; rw [hd]; rfl
    repeat' (first | refine S2b ?_ | refine SA (fun _ => ?_) | refine G1 (fun hc => ?_) (fun hc => ?_) | refine G2 (fun hc => ?_) (fun hc => ?_) | refine G3 (fun hc => ?_) (fun hc => ?_) | refine SL ?_ | fail)
    rw [i64_succ (by omega), ← hla]
    refine Fin.round ⟨i + 1, f'⟩ ⟨hi', fun y hy => ?_, hf', hfR.trans hgR, hsame.trans hgS⟩ envA (fun _ h => ?_) (by dsimp only; omega)
    · rw [hsn] at hy
      rcases List.mem_append.1 hy with hy | hy
      · exact hal y hy
      · rw [List.mem_singleton.1 hy]; exact hd
    · rw [List.append_nil] at h
      exact h.perm List.perm_append_comm
/-! ### all whose life is over are struck out -/
structure GDl where
  j : Nat
  X : List Snd.Life
  hb : HL
  f : FM
def aliveL (now : Int) (L : List Snd.Life) : List Snd.Life := L.filter (fun x => !deadL now x)
set_option maxHeartbeats 4000000 in
theorem delL_tr (F : Nat → Option Obj) (b3 b2 : Nat) (now : Int) (s : SdM) (f : FM) (hf : f.ok) (hR : f.R = s.f.R) (L : List Snd.Life) (la : Option Addr) (ln lc : Nat) (lb : HL) (hown : OwnS 87 2 (L.flatMap lifeC) (.slice la ln lc) lb) (hn : L.length ≤ 1000000) :
    Tr Tryz.prog 28 [.slice la ln lc, .func (.func 29) ([] : List Value).toArray [ptr b3, ptr b2].toArray].toArray F (lb ++ capH b3 b2 now s f) (fun v H => ∃ (hb : HL) (f' : FM), v = .slice la (aliveL now L).length lc ∧ OwnS 87 2 ((aliveL now L).flatMap lifeC) (.slice la (aliveL now L).length lc) hb ∧ f'.ok ∧ f'.R = f.R ∧ f'.S = lapseN now f.S L ∧ H = hb ++ capH b3 b2 now s f') := by
  refine Tr.enter Tryz.func28 rfl Tryz.ntmps28 rfl (fun w0 => ?_)
  have hln : L.length = ln := by have := OwnS.len hown; rw [flat_len' lifeC 2 lifeC_len] at this; omega
  repeat' (first | refine S2b ?_ | refine SA (fun _ => ?_) | refine G1 (fun hc => ?_) (fun hc => ?_) | refine G2 (fun hc => ?_) (fun hc => ?_) | refine G3 (fun hc => ?_) (fun hc => ?_) | refine SL ?_ | fail)
  refine WL.e rfl (Ef.call (c := lb ++ capH b3 b2 now s f) (by exact rfl) (.all _) (idxL_tr _ b3 b2 now s f hf hR L la ln lc lb hown hn)) ?_
  rintro _ _ ⟨_, ⟨rfl, f1, hf1, hf1R, hf1S, rfl⟩, rfl⟩
  rw [List.append_nil]
  cases hfi : L.findIdx? (deadL now) with
  | none =>
    rw [hfi] at hf1S
    have hal := List.findIdx?_eq_none_iff.1 hfi
    have hK : aliveL now L = L := List.filter_eq_self.2 (fun x hx => by rw [hal x hx]; rfl)
    have hS : lapseN now f.S L = f.S := lapseN_alive now f.S hal
    rw [hK, hS, hln]
    unfold idxV
    repeat' (first | refine S2b ?_ | refine SA (fun _ => ?_) | refine G1 (fun hc => ?_) (fun hc => ?_) | refine G2 (fun hc => ?_) (fun hc => ?_) | refine G3 (fun hc => ?_) (fun hc => ?_) | refine SL ?_ | fail)
    exact Fin.retW (by exact rfl) resA (fun _ h => h) ⟨lb, f1, rfl, hown, hf1, hf1R, hf1S, rfl⟩
  | some i0 =>
  rw [hfi] at hf1S
  dsimp only at hf1S
  obtain ⟨hi0, hp0, hb0⟩ := List.findIdx?_eq_some_iff_getElem.1 hfi
  have hal : ∀ x ∈ L.take i0, deadL now x = false := fun x hx => by
    obtain ⟨j, hj, rfl⟩ := List.mem_take_iff_getElem.1 hx
    have := hb0 j (by omega)
    simpa using this
  have hK0 : (L.take i0).filter (fun x => !deadL now x) = L.take i0 := List.filter_eq_self.2 (fun x hx => by rw [hal x hx]; rfl)
  have hK1 : (L.take (i0 + 1)).filter (fun x => !deadL now x) = L.take i0 := by
    rw [List.take_add_one, List.getElem?_eq_getElem hi0, List.filter_append, hK0]
    simp [hp0]
  have hlt : (aliveL now L).length < L.length := by
    unfold aliveL
    rw [List.length_filter_lt_length_iff_exists]
    exact ⟨L[i0], List.getElem_mem _, by rw [hp0]; decide⟩
  obtain ⟨sb, so, rfl⟩ := OwnS.addr hown (by omega)
  have hD0 : Dl (deadL now) L L (i0 + 1) := ⟨rfl, by rw [hK1, List.length_take, Nat.min_eq_left (by omega)], rfl⟩
  unfold idxV
  dsimp only
  repeat' (first | refine S2b ?_ | refine SA (fun _ => ?_) | refine G1 (fun hc => ?_) (fun hc => ?_) | refine G2 (fun hc => ?_) (fun hc => ?_) | refine G3 (fun hc => ?_) (fun hc => ?_) | refine SL ?_ | fail)
  rw [i64_succ (i := i0) (by omega)]
  refine W.loop (G := GDl) (fun g => [(0, .slice (some ⟨sb, so, none⟩) ln lc), (1, .func (.func 29) ([] : List Value).toArray [ptr b3, ptr b2].toArray), (5, .int .i64 ((L.take g.j).filter (fun x => !deadL now x)).length), (6, .int .i64 g.j)]) (fun g => g.hb ++ capH b3 b2 now s g.f)
    (fun g => g.j ≤ ln ∧ Dl (deadL now) L g.X g.j ∧ OwnS 87 2 (g.X.flatMap lifeC) (.slice (some ⟨sb, so, none⟩) ln lc) g.hb ∧ g.f.ok ∧ g.f.R = f.R ∧ g.f.S = lapseN now f.S (L.take g.j)) (fun g => ln - g.j) ⟨i0 + 1, L, lb, f1⟩ ⟨by dsimp only; omega, hD0, hown, hf1, hf1R, hf1S⟩ (by dsimp only; rw [hK1, List.length_take, Nat.min_eq_left (by omega)]; exact envA) (fun _ h => h) ?_
  clear hf1 hf1R hf1S hD0
  rintro ⟨j, X, hb, g⟩ ⟨hj, hD, hX, hg, hgR, hgS⟩
  dsimp only at hj hD hX hg hgR hgS ⊢
  obtain ⟨k, hk⟩ : ∃ k, ((L.take j).filter (fun x => !deadL now x)).length = k := ⟨_, rfl⟩
  have hkj := hD.kept
  rw [hk] at hkj ⊢
  have hXl := hD.len
  repeat' (first | refine S2b ?_ | refine SA (fun _ => ?_) | refine G1 (fun hc => ?_) (fun hc => ?_) | refine G2 (fun hc => ?_) (fun hc => ?_) | refine SL ?_ | fail)
  cases hc : decide ((j : Int) < ln) with
  | true =>
    have hj' : j < ln := by have := of_decide_eq_true hc; omega
    obtain ⟨x, hx⟩ : ∃ x, L[j]? = some x := ⟨L[j]'(by omega), List.getElem?_eq_getElem _⟩
    have hXx := hD.get hx
    obtain ⟨sb', so', hla', hcan⟩ := (Lst.own (F := F) hX (fun _ h => h)).el lifeC_len hXx (by omega)
    cases hla'
    have hia : 0 ≤ (j : Int) ∧ (j : Int) < ln := by omega
    have hik : 0 ≤ (k : Int) ∧ (k : Int) < ln := by omega
    have hcan' := hcan.mono (F' := F) (H' := hb ++ capH b3 b2 now s g) (fun w h => h.left)
    repeat' (first | refine S2b ?_ | refine SA (fun _ => ?_) | refine G1 (fun hc => ?_) (fun hc => ?_) | refine G2 (fun hc => ?_) (fun hc => ?_) | refine G3 (fun hc => ?_) (fun hc => ?_) | refine SL ?_ | fail)
    refine WL.s rfl (Rd.ldaC rfl (by exact rfl) hcan') ?_
    clear hcan hcan'
    repeat' (first | refine S2b ?_ | refine SA (fun _ => ?_) | refine G1 (fun hc => ?_) (fun hc => ?_) | refine G2 (fun hc => ?_) (fun hc => ?_) | refine G3 (fun hc => ?_) (fun hc => ?_) | refine SL ?_ | fail)
    rename_i b7
    refine WL.e rfl (Ef.callV (fv := []) (cv := [ptr b3, ptr b2]) (vals := [.agg (lifeC x).toArray]) (c := capH b3 b2 now s g) rfl (by exact rfl) rfl (.last (.there (.right .all))) (exp1_tr _ b3 b2 now s g hg (hgR.trans hR) x)) ?_
    rintro _ _ ⟨_, ⟨rfl, f', hf', hfR, hfS, rfl⟩, rfl⟩
    have hf'S : f'.S = lapseN now f.S (L.take (j + 1)) := by rw [lapseN_snoc now f.S hx, ← hgS, hfS]
    refine WL.weak (H' := (b7, .cells (lifeC x).toArray 87 (0, 0)) :: (hb ++ capH b3 b2 now s f')) (fun _ h => by rw [List.append_nil] at h; exact h.perm (List.perm_middle.trans ((List.perm_append_comm).cons _))) ?_
    cases hd : Snd.lifeDead (Snd.clock now) x with
    | true =>
      have hsame : (L.take (j + 1)).filter (fun x => !deadL now x) = (L.take j).filter (fun x => !deadL now x) := by
        rw [List.take_add_one, hx, List.filter_append]
        have : deadL now x = true := hd
        simp [this]
      repeat' (first | refine S2b ?_ | refine SA (fun _ => ?_) | refine G1 (fun hc => ?_) (fun hc => ?_) | refine G2 (fun hc => ?_) (fun hc => ?_) | refine G3 (fun hc => ?_) (fun hc => ?_) | refine SL ?_ | fail)
      rw [i64_succ (i := j) (by omega)]
      refine Fin.round ⟨j + 1, X, hb, f'⟩ ⟨by dsimp only; omega, hD.goes hx hd, hX, hf', hfR.trans hgR, hf'S⟩ (by dsimp only; rw [hsame, hk]; exact envA) (fun _ h => h.sublist (.cons _ (List.Sublist.refl _))) (by dsimp only; omega)
    | false =>
      obtain ⟨hD', hlen'⟩ := hD.stays hx hd
      rw [hk] at hD' hlen'
      obtain ⟨hb', hX', hput⟩ := hX.setEl lifeC_len (k := k) (by omega) x
      have hput' : PutAt sb (so + (k : Int).toNat * 2) (lifeC x) hb hb' := hput
      repeat' (first | refine S2b ?_ | refine SA (fun _ => ?_) | refine G1 (fun hc => ?_) (fun hc => ?_) | refine G2 (fun hc => ?_) (fun hc => ?_) | refine G3 (fun hc => ?_) (fun hc => ?_) | refine SL ?_ | fail)
      refine WL.e0 (Ef.sta rfl rfl rfl rfl (.there (.left hput'))) ?_
      rintro _ _ ⟨rfl, rfl⟩
      repeat' (first | refine S2b ?_ | refine SA (fun _ => ?_) | refine G1 (fun hc => ?_) (fun hc => ?_) | refine G2 (fun hc => ?_) (fun hc => ?_) | refine G3 (fun hc => ?_) (fun hc => ?_) | refine SL ?_ | fail)
      rw [i64_succ (i := j) (by omega), i64_succ (i := k) (by omega)]
      refine Fin.round ⟨j + 1, X.set k x, hb', f'⟩ ⟨by dsimp only; omega, hD', hX', hf', hfR.trans hgR, hf'S⟩ (by dsimp only; rw [hlen']; exact envA) (fun _ h => h.sublist (.cons _ (List.Sublist.refl _))) (by dsimp only; omega)
  | false =>
    have hj' : j = L.length := by have := of_decide_eq_false hc; omega
    subst hj'
    rw [List.take_length] at hk hgS
    have hK : aliveL now L = X.take k := by
      have := hD.pre
      rw [List.take_length, hk] at this
      exact this.symm
    have hkl : (aliveL now L).length = k := hk
    have hkn : k < ln := by omega
    obtain ⟨r, hr⟩ : ∃ r, ln - k = r + 1 := ⟨ln - k - 1, by omega⟩
    have hXc : (X.flatMap lifeC).length = L.length * 2 := by rw [flat_len' lifeC 2 lifeC_len, hXl]
    obtain ⟨hb', hX', hput⟩ := hX.put (k * 2) (mkCells [.int .i64 0, .int .i64 0] (r + 1)) (by rw [length_mkCells, hXc]; simp only [List.length_cons, List.length_nil]; omega)
    have hX2 := hX'.shrink (k := k) (by omega)
    rw [show ((X.flatMap lifeC).take (k * 2) ++ mkCells [.int .i64 0, .int .i64 0] (r + 1) ++ (X.flatMap lifeC).drop (k * 2 + (mkCells [.int .i64 0, .int .i64 0] (r + 1)).length)).take (k * 2) = (aliveL now L).flatMap lifeC from by
      rw [List.append_assoc, List.take_left' (by rw [List.length_take, hXc]; omega), flat_take lifeC_len, hK]] at hX2
    repeat' (first | refine S2b ?_ | refine SA (fun _ => ?_) | refine G1 (fun hc => ?_) (fun hc => ?_) | refine G2 (fun hc => ?_) (fun hc => ?_) | refine G3 (fun hc => ?_) (fun hc => ?_) | refine SL ?_ | fail)
    refine WL.p rfl (by exact Pu.slLo rfl rfl (by omega)) ?_
    rw [show ((k : Int)).toNat = k from rfl, hr, if_neg (by obtain ⟨_, _, _, he, _, h⟩ := OwnS.shape hX; cases he; omega), Option.map_some, add_lit]
    refine WL.e0 (Ef.clr (z := [.int .i64 0, .int .i64 0]) rfl rfl rfl (.left hput)) ?_
    rintro _ _ ⟨rfl, rfl⟩
    repeat' (first | refine S2b ?_ | refine SA (fun _ => ?_) | refine G1 (fun hc => ?_) (fun hc => ?_) | refine G2 (fun hc => ?_) (fun hc => ?_) | refine G3 (fun hc => ?_) (fun hc => ?_) | refine SL ?_ | fail)
    have hlc : ln ≤ lc := by obtain ⟨_, _, _, he, _, h⟩ := OwnS.shape hX; cases he; exact h
    refine WL.p rfl (by exact Pu.slHi rfl rfl (by omega)) ?_
    rw [show ((k : Int)).toNat = k from rfl]
    repeat' (first | refine S2b ?_ | refine SA (fun _ => ?_) | refine G1 (fun hc => ?_) (fun hc => ?_) | refine G2 (fun hc => ?_) (fun hc => ?_) | refine G3 (fun hc => ?_) (fun hc => ?_) | refine SL ?_ | fail)
    exact Fin.retW (by exact rfl) resA (fun _ h => h) ⟨hb', g, by rw [hkl]; rfl, by rw [hkl]; exact hX2, hg, hgR, hgS, rfl⟩
end Go.Proofs.YtjfpckadjnjmoaaGreat
