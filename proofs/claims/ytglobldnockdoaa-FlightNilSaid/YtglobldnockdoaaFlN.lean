/- No flight: Out, Open, Lost, Mark, Abandon, walked. No conditions. -/
import Derived.Test.YtglobldnockdoaaFlB
namespace Go.Proofs.Ytglobldnockdoaa
open Go Go.Sl Go.Flt

theorem such1_nil (F : Nat → Option Obj) (b2 b3 l : Nat) (H0 : HL) (h : Sl.Can F H0 b2 0 [.pointer none]) :
    Tr Try.prog 57 [.func (.yield l) #[] #[], .pointer (some ⟨b2, 0, none⟩), .pointer (some ⟨b3, 0, none⟩)].toArray F H0 (fun _ H => H = H0) := by
  refine Tr.enter Try.func57 rfl Try.ntmps57 rfl (fun w0 => ?_)
  repeat' (first | refine S1 ?_ | refine SD ?_ | refine SA (fun _ => ?_) | refine WL.g_split rfl rfl (fun hc => ?_) (fun hc => ?_) | refine WD.g_split rfl rfl (fun hc => ?_) (fun hc => ?_) | refine W.cond rfl (fun hc => ?_) (fun hc => ?_))
  exact Fin.retW (by exact rfl) resA (fun _ h => h) rfl
theorem out_nil (F : Nat → Option Obj) (p : Int) : Tr Try.prog 17 [.pointer none, .int .i64 p].toArray F [] (fun v H => v = .int .i64 0 ∧ H = []) := by
  refine Tr.enterM Try.func17 rfl Try.ntmps17 rfl (fun w0 => ?_)
  repeat' (first | refine S1 ?_ | refine SD ?_ | refine SA (fun _ => ?_) | refine WL.g_split rfl rfl (fun hc => ?_) (fun hc => ?_) | refine WD.g_split rfl rfl (fun hc => ?_) (fun hc => ?_) | refine W.cond rfl (fun hc => ?_) (fun hc => ?_))
  refine WL.e rfl (Ef.call (by exact rfl) (.nil _) (by_tr _ p)) ?_
  rintro _ _ ⟨_, ⟨bp, rfl, rfl⟩, rfl⟩
  repeat' (first | refine S1 ?_ | refine SD ?_ | refine SA (fun _ => ?_) | refine WL.g_split rfl rfl (fun hc => ?_) (fun hc => ?_) | refine WD.g_split rfl rfl (fun hc => ?_) (fun hc => ?_) | refine W.cond rfl (fun hc => ?_) (fun hc => ?_))
  refine WL.e rfl (Ef.call (by exact rfl) (.nil _) (such_tr _ (.pointer none) (.func (.func 58) ([] : List Value).toArray [.pointer (some ⟨bp, 0, none⟩)].toArray) rfl rfl)) ?_
  rintro _ _ ⟨_, ⟨b2, b3, rfl, rfl⟩, rfl⟩
  repeat' (first | refine S1 ?_ | refine SD ?_ | refine SA (fun _ => ?_) | refine WL.g_split rfl rfl (fun hc => ?_) (fun hc => ?_) | refine WD.g_split rfl rfl (fun hc => ?_) (fun hc => ?_) | refine W.cond rfl (fun hc => ?_) (fun hc => ?_))
  refine W.rangeF (gf := 57) (fv := []) (cv := [.pointer (some ⟨b2, 0, none⟩), .pointer (some ⟨b3, 0, none⟩)]) rfl rfl (fun l D r hr => ?_)
  refine Tr.mono (such1_nil F b2 b3 l _ (Can.cut (n := 1) (.there (.there (.there (.here rfl)))))) ?_
  rintro _ _ rfl
  refine ⟨r, _, .refl _, by rw [hr.state]; simp, ?_⟩
  rw [hr.pending]
  dsimp only [Cx.marked]
  repeat' (first | refine S1 ?_ | refine SD ?_ | refine SA (fun _ => ?_) | refine WL.g_split rfl rfl (fun hc => ?_) (fun hc => ?_) | refine WD.g_split rfl rfl (fun hc => ?_) (fun hc => ?_) | refine W.cond rfl (fun hc => ?_) (fun hc => ?_))
  exact Fin.retM (D := D) (by exact rfl) .here resA (H' := []) (fun _ h => h.sublist (List.nil_sublist _)) ⟨rfl, rfl⟩
theorem openB_nil (F : Nat → Option Obj) : Tr Try.prog 25 [.pointer none].toArray F [] (fun v H => v = .int .i64 0 ∧ H = []) := by
  refine Tr.enterM Try.func25 rfl Try.ntmps25 rfl (fun w0 => ?_)
  repeat' (first | refine S1 ?_ | refine SD ?_ | refine SA (fun _ => ?_) | refine WL.g_split rfl rfl (fun hc => ?_) (fun hc => ?_) | refine WD.g_split rfl rfl (fun hc => ?_) (fun hc => ?_) | refine W.cond rfl (fun hc => ?_) (fun hc => ?_))
  refine WL.e rfl (Ef.call (by exact rfl) (.nil _) (such_tr _ (.pointer none) (.func (.func 49) ([] : List Value).toArray ([] : List Value).toArray) rfl rfl)) ?_
  rintro _ _ ⟨_, ⟨b2, b3, rfl, rfl⟩, rfl⟩
  repeat' (first | refine S1 ?_ | refine SD ?_ | refine SA (fun _ => ?_) | refine WL.g_split rfl rfl (fun hc => ?_) (fun hc => ?_) | refine WD.g_split rfl rfl (fun hc => ?_) (fun hc => ?_) | refine W.cond rfl (fun hc => ?_) (fun hc => ?_))
  refine W.rangeF (gf := 57) (fv := []) (cv := [.pointer (some ⟨b2, 0, none⟩), .pointer (some ⟨b3, 0, none⟩)]) rfl rfl (fun l D r hr => ?_)
  refine Tr.mono (such1_nil F b2 b3 l _ (Can.cut (n := 1) (.there (.there (.there (.here rfl)))))) ?_
  rintro _ _ rfl
  refine ⟨r, _, .refl _, by rw [hr.state]; simp, ?_⟩
  rw [hr.pending]
  dsimp only [Cx.marked]
  repeat' (first | refine S1 ?_ | refine SD ?_ | refine SA (fun _ => ?_) | refine WL.g_split rfl rfl (fun hc => ?_) (fun hc => ?_) | refine WD.g_split rfl rfl (fun hc => ?_) (fun hc => ?_) | refine W.cond rfl (fun hc => ?_) (fun hc => ?_))
  exact Fin.retM (D := D) (by exact rfl) .here resA (H' := []) (fun _ h => h.sublist (List.nil_sublist _)) ⟨rfl, rfl⟩
theorem lost_nil (F : Nat → Option Obj) : Tr Try.prog 15 [.pointer none].toArray F [] (fun v H => v = .slice none 0 0 ∧ H = []) := by
  refine Tr.enterM Try.func15 rfl Try.ntmps15 rfl (fun w0 => ?_)
  repeat' (first | refine S1 ?_ | refine SD ?_ | refine SA (fun _ => ?_) | refine WL.g_split rfl rfl (fun hc => ?_) (fun hc => ?_) | refine WD.g_split rfl rfl (fun hc => ?_) (fun hc => ?_) | refine W.cond rfl (fun hc => ?_) (fun hc => ?_))
  refine WL.e rfl (Ef.call (by exact rfl) (.nil _) (such_tr _ (.pointer none) (.func (.func 41) ([] : List Value).toArray ([] : List Value).toArray) rfl rfl)) ?_
  rintro _ _ ⟨_, ⟨b2, b3, rfl, rfl⟩, rfl⟩
  repeat' (first | refine S1 ?_ | refine SD ?_ | refine SA (fun _ => ?_) | refine WL.g_split rfl rfl (fun hc => ?_) (fun hc => ?_) | refine WD.g_split rfl rfl (fun hc => ?_) (fun hc => ?_) | refine W.cond rfl (fun hc => ?_) (fun hc => ?_))
  refine W.rangeF (gf := 57) (fv := []) (cv := [.pointer (some ⟨b2, 0, none⟩), .pointer (some ⟨b3, 0, none⟩)]) rfl rfl (fun l D r hr => ?_)
  refine Tr.mono (such1_nil F b2 b3 l _ (Can.cut (n := 1) (.there (.there (.there (.here rfl)))))) ?_
  rintro _ _ rfl
  refine ⟨r, _, .refl _, by rw [hr.state]; simp, ?_⟩
  rw [hr.pending]
  dsimp only [Cx.marked]
  repeat' (first | refine S1 ?_ | refine SD ?_ | refine SA (fun _ => ?_) | refine WL.g_split rfl rfl (fun hc => ?_) (fun hc => ?_) | refine WD.g_split rfl rfl (fun hc => ?_) (fun hc => ?_) | refine W.cond rfl (fun hc => ?_) (fun hc => ?_))
  exact Fin.retM (D := D) (by exact rfl) .here resA (H' := []) (fun _ h => h.sublist (List.nil_sublist _)) ⟨rfl, rfl⟩
theorem mark_nil (F : Nat → Option Obj) (p : Int) : Tr Try.prog 12 [.pointer none, .int .i64 p].toArray F [] (fun v H => v = .int .i64 0 ∧ H = []) := by
  refine Tr.enterM Try.func12 rfl Try.ntmps12 rfl (fun w0 => ?_)
  repeat' (first | refine S1 ?_ | refine SD ?_ | refine SA (fun _ => ?_) | refine WL.g_split rfl rfl (fun hc => ?_) (fun hc => ?_) | refine WD.g_split rfl rfl (fun hc => ?_) (fun hc => ?_) | refine W.cond rfl (fun hc => ?_) (fun hc => ?_))
  refine WL.e rfl (Ef.call (by exact rfl) (.nil _) (by_tr _ p)) ?_
  rintro _ _ ⟨_, ⟨bp, rfl, rfl⟩, rfl⟩
  repeat' (first | refine S1 ?_ | refine SD ?_ | refine SA (fun _ => ?_) | refine WL.g_split rfl rfl (fun hc => ?_) (fun hc => ?_) | refine WD.g_split rfl rfl (fun hc => ?_) (fun hc => ?_) | refine W.cond rfl (fun hc => ?_) (fun hc => ?_))
  refine WL.e rfl (Ef.call (by exact rfl) (.nil _) (such_tr _ (.pointer none) (.func (.func 58) ([] : List Value).toArray [.pointer (some ⟨bp, 0, none⟩)].toArray) rfl rfl)) ?_
  rintro _ _ ⟨_, ⟨b2, b3, rfl, rfl⟩, rfl⟩
  repeat' (first | refine S1 ?_ | refine SD ?_ | refine SA (fun _ => ?_) | refine WL.g_split rfl rfl (fun hc => ?_) (fun hc => ?_) | refine WD.g_split rfl rfl (fun hc => ?_) (fun hc => ?_) | refine W.cond rfl (fun hc => ?_) (fun hc => ?_))
  refine W.rangeF (gf := 57) (fv := []) (cv := [.pointer (some ⟨b2, 0, none⟩), .pointer (some ⟨b3, 0, none⟩)]) rfl rfl (fun l D r hr => ?_)
  refine Tr.mono (such1_nil F b2 b3 l _ (Can.cut (n := 1) (.there (.there (.there (.here rfl)))))) ?_
  rintro _ _ rfl
  refine ⟨r, _, .refl _, by rw [hr.state]; simp, ?_⟩
  rw [hr.pending]
  dsimp only [Cx.marked]
  repeat' (first | refine S1 ?_ | refine SD ?_ | refine SA (fun _ => ?_) | refine WL.g_split rfl rfl (fun hc => ?_) (fun hc => ?_) | refine WD.g_split rfl rfl (fun hc => ?_) (fun hc => ?_) | refine W.cond rfl (fun hc => ?_) (fun hc => ?_))
  exact Fin.retM (D := D) (by exact rfl) .here resA (H' := []) (fun _ h => h.sublist (List.nil_sublist _)) ⟨rfl, rfl⟩
theorem abandon_nil (F : Nat → Option Obj) (p : Int) : Tr Try.prog 19 [.pointer none, .int .i64 p].toArray F [] (fun v H => v = .int .i64 0 ∧ H = []) := by
  refine Tr.enterM Try.func19 rfl Try.ntmps19 rfl (fun w0 => ?_)
  repeat' (first | refine S1 ?_ | refine SD ?_ | refine SA (fun _ => ?_) | refine WL.g_split rfl rfl (fun hc => ?_) (fun hc => ?_) | refine WD.g_split rfl rfl (fun hc => ?_) (fun hc => ?_) | refine W.cond rfl (fun hc => ?_) (fun hc => ?_))
  rename_i bp bn
  refine WL.e rfl (Ef.call (by exact rfl) (.nil _) (such_tr _ (.pointer none) (.func (.func 47) ([] : List Value).toArray [.pointer (some ⟨bp, 0, none⟩)].toArray) rfl rfl)) ?_
  rintro _ _ ⟨_, ⟨b2, b3, rfl, rfl⟩, rfl⟩
  repeat' (first | refine S1 ?_ | refine SD ?_ | refine SA (fun _ => ?_) | refine WL.g_split rfl rfl (fun hc => ?_) (fun hc => ?_) | refine WD.g_split rfl rfl (fun hc => ?_) (fun hc => ?_) | refine W.cond rfl (fun hc => ?_) (fun hc => ?_))
  refine W.rangeF (gf := 57) (fv := []) (cv := [.pointer (some ⟨b2, 0, none⟩), .pointer (some ⟨b3, 0, none⟩)]) rfl rfl (fun l D r hr => ?_)
  refine Tr.mono (such1_nil F b2 b3 l _ (Can.cut (n := 1) (.there (.there (.there (.here rfl)))))) ?_
  rintro _ _ rfl
  refine ⟨r, _, .refl _, by rw [hr.state]; simp, ?_⟩
  rw [hr.pending]
  dsimp only [Cx.marked]
  repeat' (first | refine S1 ?_ | refine SD ?_ | refine SA (fun _ => ?_) | refine WL.g_split rfl rfl (fun hc => ?_) (fun hc => ?_) | refine WD.g_split rfl rfl (fun hc => ?_) (fun hc => ?_) | refine W.cond rfl (fun hc => ?_) (fun hc => ?_))
  exact Fin.retM (D := D) (by exact rfl) .here resA (H' := []) (fun _ h => h.sublist (List.nil_sublist _)) ⟨rfl, rfl⟩
end Go.Proofs.Ytglobldnockdoaa
