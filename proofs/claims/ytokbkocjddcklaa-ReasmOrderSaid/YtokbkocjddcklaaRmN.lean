/- The law's 'twin', walked: bytes in memory of their own. Condition: at most 10^9 of them. -/
import Derived.Test.YtokbkocjddcklaaRmM
namespace Go.Proofs.Ytokbkocjddcklaa
open Go Go.Sl Go.Rm

theorem twin_tr (F : Nat → Option Obj) (X : HL) (v : Value) (bs : List UInt8) (hs : Src F X v bs.length (bs.map B)) (hb : bs.length ≤ 1000000000) :
    Tr Try.prog 24 [v].toArray F X (fun v H' => ∃ sa sn sc hb, v = .slice sa sn sc ∧ OwnS 5 1 (bs.map B) v hb ∧ H' = hb ++ X) := by
  refine Tr.enter Try.func24 rfl Try.ntmps24 rfl (fun w0 => ?_)
  repeat' (first | refine S1 ?_ | refine SD ?_ | refine SA (fun _ => ?_) | refine WL.g_split rfl rfl (fun hc => ?_) (fun hc => ?_) | refine WD.g_split rfl rfl (fun hc => ?_) (fun hc => ?_) | refine W.cond rfl (fun hc => ?_) (fun hc => ?_))
  rename_i b0
  refine WL.e rfl (Ef.app (m := bs.length) (news := bs.map B) (by exact rfl) (by exact rfl) rfl rfl (OwnS.empty _ _ b0) subA (Src.mono hs weakA) (by simp) (B_one bs) (by simp; omega) (by simp [maxLen]; omega)) ?_
  rintro v' _ ⟨hb', hown, rfl⟩
  repeat' (first | refine S1 ?_ | refine SD ?_ | refine SA (fun _ => ?_) | refine WL.g_split rfl rfl (fun hc => ?_) (fun hc => ?_) | refine WD.g_split rfl rfl (fun hc => ?_) (fun hc => ?_) | refine W.cond rfl (fun hc => ?_) (fun hc => ?_))
  obtain ⟨sa, sn, sc, rfl, _, _⟩ := OwnS.shape hown
  refine Fin.retW (by exact rfl) resA (fun _ h => h) ?_
  exact ⟨sa, sn, sc, hb', rfl, by simpa [tup] using hown, rfl⟩
end Go.Proofs.Ytokbkocjddcklaa
