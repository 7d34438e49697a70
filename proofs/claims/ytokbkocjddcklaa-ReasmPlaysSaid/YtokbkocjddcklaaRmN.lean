/- The law's 'twin', walked: bytes in memory of their own. Condition: at most 10^9 of them. -/
import Derived.Test.YtokbkocjddcklaaRmM
namespace Go.Proofs.Ytokbkocjddcklaa
open Go Go.Sl Go.Rm

theorem twin_tr (F : Nat → Option Obj) (X : HL) (v : Value) (bs : List UInt8) (hs : Src F X v bs.length (bs.map B)) (hb : bs.length ≤ 1000000000) :
    Tr Try.prog 24 [v].toArray F X (fun v H' => ∃ sa sn sc hb, v = .slice sa sn sc ∧ OwnS 5 1 (bs.map B) v hb ∧ H' = hb ++ X) := by
  refine Tr.enter Try.func24 rfl Try.ntmps24 rfl (fun w0 => ?_)
  repeat' (first
    | refine W.seq ?_ | refine W.region ?_ | refine W.block ?_ | refine W.skip ?_ | refine W.exit ?_ | refine W.ret ?_ | refine W.cond_t rfl ?_ | refine W.cond_f rfl ?_ | refine WL.nil ?_ | refine WD.nil ?_ | refine Fin.next ?_ | refine Fin.then_exit ?_ | refine Fin.then_ret ?_ | refine Fin.block_normal ?_ | refine Fin.block_ret ?_ | refine Fin.block_exit ?_ | refine Fin.block_other rfl ?_
    | refine WL.pA ?_ | refine WD.pA ?_ | refine WL.sA ?_ | refine WD.sA ?_ | refine WL.g_yes rfl rfl ?_ | refine WL.g_no rfl rfl rfl rfl ?_ | refine WL.g_undef rfl rfl rfl ?_ | refine WL.g_split rfl rfl (fun hc => ?_) (fun hc => ?_) | refine WD.g_yes rfl rfl ?_ | refine WD.g_no rfl rfl rfl rfl ?_ | refine WD.g_undef rfl rfl rfl ?_ | refine WD.g_split rfl rfl (fun hc => ?_) (fun hc => ?_)
    | refine W.drawA ?_ | refine WL.aA (fun _ => ?_) | refine WD.aA (fun _ => ?_) | refine WL.e0A ?_ | refine WD.e0A ?_
    | refine W.cond rfl (fun hc => ?_) (fun hc => ?_))
  rename_i b0
  refine WL.e rfl (Ef.app (m := bs.length) (news := bs.map B) (by exact rfl) (by exact rfl) rfl rfl (OwnS.empty _ _ b0) (by repeat' (first | exact Sub.nil _ | exact Ext1.here | exact ExtL.here | apply Sub.pick | apply Sub.pickL | apply Sub.last | apply Ext1.there | apply ExtL.there | apply Ext1.right | apply ExtL.right | exact ExtL.all)) (Src.mono hs (fun _ h => h.sublist (by (repeat (first | exact List.Sublist.refl _ | refine List.Sublist.cons_cons _ ?_ | refine List.Sublist.cons _ ?_))))) (by simp) (B_one bs) (by simp; omega) (by simp [maxLen]; omega)) ?_
  rintro v' _ ⟨hb', hown, rfl⟩
  repeat' (first
    | refine W.seq ?_ | refine W.region ?_ | refine W.block ?_ | refine W.skip ?_ | refine W.exit ?_ | refine W.ret ?_ | refine W.cond_t rfl ?_ | refine W.cond_f rfl ?_ | refine WL.nil ?_ | refine WD.nil ?_ | refine Fin.next ?_ | refine Fin.then_exit ?_ | refine Fin.then_ret ?_ | refine Fin.block_normal ?_ | refine Fin.block_ret ?_ | refine Fin.block_exit ?_ | refine Fin.block_other rfl ?_
    | refine WL.pA ?_ | refine WD.pA ?_ | refine WL.sA ?_ | refine WD.sA ?_ | refine WL.g_yes rfl rfl ?_ | refine WL.g_no rfl rfl rfl rfl ?_ | refine WL.g_undef rfl rfl rfl ?_ | refine WL.g_split rfl rfl (fun hc => ?_) (fun hc => ?_) | refine WD.g_yes rfl rfl ?_ | refine WD.g_no rfl rfl rfl rfl ?_ | refine WD.g_undef rfl rfl rfl ?_ | refine WD.g_split rfl rfl (fun hc => ?_) (fun hc => ?_)
    | refine W.drawA ?_ | refine WL.aA (fun _ => ?_) | refine WD.aA (fun _ => ?_) | refine WL.e0A ?_ | refine WD.e0A ?_
    | refine W.cond rfl (fun hc => ?_) (fun hc => ?_))
  obtain ⟨sa, sn, sc, rfl, _, _⟩ := OwnS.shape hown
  refine Fin.retW (by exact rfl) (by repeat' (first | exact Res.nil | exact rfl | exact CutAt.here rfl | exact CellAt.here rfl | apply CutAt.there | apply CellAt.there | apply CutAt.right | apply CellAt.right | apply Res.tmp | apply Res.agg' | apply Res.cell')) (fun _ h => h) ?_
  exact ⟨sa, sn, sc, hb', rfl, by simpa [tup] using hown, rfl⟩
end Go.Proofs.Ytokbkocjddcklaa
