/- The law's 'SameMsg', walked. No conditions. -/
import Derived.Test.YthjglhdjlmjffaaGreatRmK2
namespace Go.Proofs.YthjglhdjlmjffaaGreat
open Go Go.Sl Go.Rm

def mCells (g : Mg) (v : Value) : List Value := [.int .u16 g.stream, .bool g.ordered, v]
def sameMg (a b : Mg) : Bool := a.stream == b.stream && a.ordered == b.ordered && a.bytes == b.bytes
set_option maxHeartbeats 4000000 in
theorem msgSame_tr (F : Nat → Option Obj) (X : HL) (a b : Mg) (va vb : Value) (h1 : va.oneCell' = true) (h2 : vb.oneCell' = true) (ha : Src F X va a.bytes.length (a.bytes.map B)) (hb : Src F X vb b.bytes.length (b.bytes.map B)) :
    Tr Tryz.prog 11 [.agg (mCells a va).toArray, .agg (mCells b vb).toArray].toArray F X (fun v H => v = .bool (sameMg a b) ∧ H = X) := by
  refine Tr.enter Tryz.func11 rfl Tryz.ntmps11 rfl (fun w0 => ?_)
  unfold mCells
  repeat' (first | refine S1 ?_ | refine SD ?_ | refine SA (fun _ => ?_) | refine WL.g_split rfl rfl (fun hc => ?_) (fun hc => ?_) | refine WD.g_split rfl rfl (fun hc => ?_) (fun hc => ?_) | refine W.cond rfl (fun hc => ?_) (fun hc => ?_))
  · refine WL.s rfl (Rd.cvBS (bs := a.bytes) (m := a.bytes.length) rfl (Src.mono ha (fun _ h => h.sublist (.cons _ (.cons _ (.refl _))))) rfl) ?_
    repeat' (first | refine S1 ?_ | refine SD ?_ | refine SA (fun _ => ?_) | refine WL.g_split rfl rfl (fun hc => ?_) (fun hc => ?_) | refine WD.g_split rfl rfl (fun hc => ?_) (fun hc => ?_) | refine W.cond rfl (fun hc => ?_) (fun hc => ?_))
    refine WL.s rfl (Rd.cvBS (bs := b.bytes) (m := b.bytes.length) rfl (Src.mono hb (fun _ h => h.sublist (.cons _ (.cons _ (.refl _))))) rfl) ?_
    repeat' (first | refine S1 ?_ | refine SD ?_ | refine SA (fun _ => ?_) | refine WL.g_split rfl rfl (fun hc => ?_) (fun hc => ?_) | refine WD.g_split rfl rfl (fun hc => ?_) (fun hc => ?_) | refine W.cond rfl (fun hc => ?_) (fun hc => ?_))
    refine WL.p rfl (by exact Pu.eqS rfl rfl) ?_
    repeat' (first | refine S1 ?_ | refine SD ?_ | refine SA (fun _ => ?_) | refine WL.g_split rfl rfl (fun hc => ?_) (fun hc => ?_) | refine WD.g_split rfl rfl (fun hc => ?_) (fun hc => ?_) | refine W.cond rfl (fun hc => ?_) (fun hc => ?_))
    refine Fin.retW (by exact rfl) resA (H' := X) (fun _ h => h.sublist (.cons _ (.cons _ (.refl _)))) ⟨?_, rfl⟩
    rename_i hc1
    simp only [tup, sameMg, hc, hc1, toList_strB, Bool.true_and]
  · refine Fin.retW (by exact rfl) resA (H' := X) (fun _ h => h.sublist (.cons _ (.cons _ (.refl _)))) ⟨?_, rfl⟩
    simp only [tup, sameMg, hc, Bool.and_false, Bool.false_and]
  · refine Fin.retW (by exact rfl) resA (H' := X) (fun _ h => h.sublist (.cons _ (.cons _ (.refl _)))) ⟨?_, rfl⟩
    simp only [tup, sameMg, hc, Bool.false_and]

end Go.Proofs.YthjglhdjlmjffaaGreat
