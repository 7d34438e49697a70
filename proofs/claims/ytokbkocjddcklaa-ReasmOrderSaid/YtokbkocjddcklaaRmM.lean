/- The law's 'SameMsg', 'twin' and 'ReasmNil', walked. No conditions. -/
import Derived.Test.YtokbkocjddcklaaRmL
namespace Go.Proofs.Ytokbkocjddcklaa
open Go Go.Sl Go.Rm

def mCells (g : Mg) (v : Value) : List Value := [.int .u16 g.stream, .bool g.ordered, v]
def sameMg (a b : Mg) : Bool := a.stream == b.stream && a.ordered == b.ordered && a.bytes == b.bytes
set_option maxHeartbeats 4000000 in
theorem same_tr (F : Nat → Option Obj) (X : HL) (a b : Mg) (va vb : Value) (h1 : va.oneCell' = true) (h2 : vb.oneCell' = true) (ha : Src F X va a.bytes.length (a.bytes.map B)) (hb : Src F X vb b.bytes.length (b.bytes.map B)) :
    Tr Try.prog 16 [.agg (mCells a va).toArray, .agg (mCells b vb).toArray].toArray F X (fun v H => v = .bool (sameMg a b) ∧ H = X) := by
  refine Tr.enter Try.func16 rfl Try.ntmps16 rfl (fun w0 => ?_)
  unfold mCells
  repeat' (first | refine S1 ?_ | refine SD ?_ | refine SA (fun _ => ?_) | refine WL.g_split rfl rfl (fun hc => ?_) (fun hc => ?_) | refine WD.g_split rfl rfl (fun hc => ?_) (fun hc => ?_) | refine W.cond rfl (fun hc => ?_) (fun hc => ?_))
  · refine WL.s rfl (Rd.cvBS (bs := a.bytes) (m := a.bytes.length) rfl (Src.mono ha (fun _ h => h.sublist (.cons _ (.cons _ (.refl _))))) rfl) ?_
    repeat' (first | refine S1 ?_ | refine SD ?_ | refine SA (fun _ => ?_) | refine WL.g_split rfl rfl (fun hc => ?_) (fun hc => ?_) | refine WD.g_split rfl rfl (fun hc => ?_) (fun hc => ?_) | refine W.cond rfl (fun hc => ?_) (fun hc => ?_))
    refine WL.s rfl (Rd.cvBS (bs := b.bytes) (m := b.bytes.length) rfl (Src.mono hb (fun _ h => h.sublist (.cons _ (.cons _ (.refl _))))) rfl) ?_
    repeat' (first | refine S1 ?_ | refine SD ?_ | refine SA (fun _ => ?_) | refine WL.g_split rfl rfl (fun hc => ?_) (fun hc => ?_) | refine WD.g_split rfl rfl (fun hc => ?_) (fun hc => ?_) | refine W.cond rfl (fun hc => ?_) (fun hc => ?_))
    refine WL.p rfl (by exact Pu.eqS rfl rfl) ?_
    repeat' (first | refine S1 ?_ | refine SD ?_ | refine SA (fun _ => ?_) | refine WL.g_split rfl rfl (fun hc => ?_) (fun hc => ?_) | refine WD.g_split rfl rfl (fun hc => ?_) (fun hc => ?_) | refine W.cond rfl (fun hc => ?_) (fun hc => ?_))
    refine Fin.retW (by exact rfl) resA (H' := X) (fun _ h => h.sublist (.cons _ (.cons _ (.refl _)))) ⟨?_, rfl⟩
    rename_i hc1
    simp only [tup, sameMg, hc, hc1, toList_strB, Bool.true_and]
  · refine Fin.retW (by exact rfl) resA (H' := X) (fun _ h => h.sublist (.cons _ (.cons _ (.refl _)))) ⟨?_, rfl⟩
    simp only [tup, sameMg, hc, Bool.and_false, Bool.false_and]
  · refine Fin.retW (by exact rfl) resA (H' := X) (fun _ h => h.sublist (.cons _ (.cons _ (.refl _)))) ⟨?_, rfl⟩
    simp only [tup, sameMg, hc, Bool.false_and]

set_option maxHeartbeats 4000000 in
theorem nil_tr (F : Nat → Option Obj) (o : Ov) : Tr Try.prog 8 [.agg o.cells.toArray].toArray F [] (fun v H => v = .bool true ∧ H = []) := by
  refine Tr.enter Try.func8 rfl Try.ntmps8 rfl (fun w0 => ?_)
  unfold Ov.cells
  repeat' (first | refine S1 ?_ | refine SD ?_ | refine SA (fun _ => ?_) | refine WL.g_split rfl rfl (fun hc => ?_) (fun hc => ?_) | refine WD.g_split rfl rfl (fun hc => ?_) (fun hc => ?_) | refine W.cond rfl (fun hc => ?_) (fun hc => ?_))
  rename_i b1 b7
  refine WL.e rfl (Ef.callR (c := [(b7, _)]) (by exact rfl) subA (vast_tr _ _ [o] (some ⟨b7, 0, none⟩) 1 1 ⟨rfl, Nat.le_refl _, fun _ => ⟨b7, 0, rfl, Can.cut (n := 10) (.here rfl)⟩, fun h => by cases h⟩)) ?_
  rintro _ _ ⟨rfl, rfl⟩
  repeat' (first | refine S1 ?_ | refine SD ?_ | refine SA (fun _ => ?_) | refine WL.g_split rfl rfl (fun hc => ?_) (fun hc => ?_) | refine WD.g_split rfl rfl (fun hc => ?_) (fun hc => ?_) | refine W.cond rfl (fun hc => ?_) (fun hc => ?_))
  · refine WL.e rfl (Ef.callR (by exact rfl) (.nil _) (works_tr _)) ?_
    rintro _ _ ⟨rfl, rfl⟩
    repeat' (first | refine S1 ?_ | refine SD ?_ | refine SA (fun _ => ?_) | refine WL.g_split rfl rfl (fun hc => ?_) (fun hc => ?_) | refine WD.g_split rfl rfl (fun hc => ?_) (fun hc => ?_) | refine W.cond rfl (fun hc => ?_) (fun hc => ?_))
    exact Fin.retW (by exact rfl) resA (fun _ h => h.sublist (List.nil_sublist _)) ⟨rfl, rfl⟩
  · refine WL.e rfl (Ef.callR (by exact rfl) (.nil _) (take_nil _)) ?_
    rintro _ _ ⟨rfl, rfl⟩
    dsimp only [tup]
    repeat' (first | refine S1 ?_ | refine SD ?_ | refine SA (fun _ => ?_) | refine WL.g_split rfl rfl (fun hc => ?_) (fun hc => ?_) | refine WD.g_split rfl rfl (fun hc => ?_) (fun hc => ?_) | refine W.cond rfl (fun hc => ?_) (fun hc => ?_))
    refine WL.e rfl (Ef.callR (by exact rfl) (.nil _) (put_nil _ ⟨o.tsn, o.stream, o.ssn, o.un, o.fi, o.la, []⟩ (.slice o.ba o.bn o.bc))) ?_
    rintro _ _ ⟨rfl, rfl⟩
    repeat' (first | refine S1 ?_ | refine SD ?_ | refine SA (fun _ => ?_) | refine WL.g_split rfl rfl (fun hc => ?_) (fun hc => ?_) | refine WD.g_split rfl rfl (fun hc => ?_) (fun hc => ?_) | refine W.cond rfl (fun hc => ?_) (fun hc => ?_))
    refine WL.e rfl (Ef.callR (by exact rfl) (.nil _) (skip_nil _ o.cum (.slice o.ka o.kn o.kc))) ?_
    rintro _ _ ⟨rfl, rfl⟩
    repeat' (first | refine S1 ?_ | refine SD ?_ | refine SA (fun _ => ?_) | refine WL.g_split rfl rfl (fun hc => ?_) (fun hc => ?_) | refine WD.g_split rfl rfl (fun hc => ?_) (fun hc => ?_) | refine W.cond rfl (fun hc => ?_) (fun hc => ?_))
    refine WL.e rfl (Ef.callR (by exact rfl) (.nil _) (same_tr _ [] ⟨0, false, []⟩ ⟨0, false, []⟩ (.slice none 0 0) (.slice none 0 0) rfl rfl Src.nil Src.nil)) ?_
    rintro _ _ ⟨rfl, rfl⟩
    rw [show sameMg ⟨0, false, []⟩ ⟨0, false, []⟩ = true from rfl]
    repeat' (first | refine S1 ?_ | refine SD ?_ | refine SA (fun _ => ?_) | refine WL.g_split rfl rfl (fun hc => ?_) (fun hc => ?_) | refine WD.g_split rfl rfl (fun hc => ?_) (fun hc => ?_) | refine W.cond rfl (fun hc => ?_) (fun hc => ?_))
    refine WL.e rfl (Ef.callR (by exact rfl) (.nil _) (rdy_nil _)) ?_
    rintro _ _ ⟨rfl, rfl⟩
    repeat' (first | refine S1 ?_ | refine SD ?_ | refine SA (fun _ => ?_) | refine WL.g_split rfl rfl (fun hc => ?_) (fun hc => ?_) | refine WD.g_split rfl rfl (fun hc => ?_) (fun hc => ?_) | refine W.cond rfl (fun hc => ?_) (fun hc => ?_))
    refine WL.e rfl (Ef.callR (by exact rfl) (.nil _) (held_nil _)) ?_
    rintro _ _ ⟨rfl, rfl⟩
    repeat' (first | refine S1 ?_ | refine SD ?_ | refine SA (fun _ => ?_) | refine WL.g_split rfl rfl (fun hc => ?_) (fun hc => ?_) | refine WD.g_split rfl rfl (fun hc => ?_) (fun hc => ?_) | refine W.cond rfl (fun hc => ?_) (fun hc => ?_))
    refine WL.e rfl (Ef.callR (by exact rfl) (.nil _) (works_tr _)) ?_
    rintro _ _ ⟨rfl, rfl⟩
    repeat' (first | refine S1 ?_ | refine SD ?_ | refine SA (fun _ => ?_) | refine WL.g_split rfl rfl (fun hc => ?_) (fun hc => ?_) | refine WD.g_split rfl rfl (fun hc => ?_) (fun hc => ?_) | refine W.cond rfl (fun hc => ?_) (fun hc => ?_))
    exact Fin.retW (by exact rfl) resA (fun _ h => h.sublist (List.nil_sublist _)) ⟨rfl, rfl⟩
end Go.Proofs.Ytokbkocjddcklaa
