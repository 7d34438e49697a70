/- No receiver: what its methods answer, walked. No conditions. -/
import Derived.Test.YthjglhdjlmjffaaGreatDeB
namespace Go.Proofs.YthjglhdjlmjffaaGreat
open Go Go.Sl

theorem rdata_nil (F : Nat → Option Obj) (d : List Value) (hd : d.all (fun u => u.oneCell') = true) (hl : d.length = 7) : Tr Tryz.prog 23 [.pointer none, .agg d.toArray].toArray F [] (fun v H => v = tup [.bool false, .int .i64 2] ∧ H = []) := by
  match d, hl with
  | [d0, d1, d2, d3, d4, d5, d6], _ =>
  refine Tr.enter Tryz.func23 rfl Tryz.ntmps23 rfl (fun w0 => ?_)
  repeat' (first | refine S1 ?_ | refine SD ?_ | refine SA (fun _ => ?_) | refine WL.g_split rfl rfl (fun hc => ?_) (fun hc => ?_) | refine WD.g_split rfl rfl (fun hc => ?_) (fun hc => ?_) | refine W.cond rfl (fun hc => ?_) (fun hc => ?_))
  exact Fin.retW (by exact rfl) resA (H' := []) (fun _ h => h.sublist (List.nil_sublist _)) ⟨rfl, rfl⟩
theorem rend_nil (F : Nat → Option Obj) (now : Int) : Tr Tryz.prog 24 [.pointer none, .int .i64 now].toArray F [] (fun v H => v = .tuple #[] ∧ H = []) := by
  refine Tr.enter Tryz.func24 rfl Tryz.ntmps24 rfl (fun w0 => ?_)
  repeat' (first | refine S1 ?_ | refine SD ?_ | refine SA (fun _ => ?_) | refine WL.g_split rfl rfl (fun hc => ?_) (fun hc => ?_) | refine WD.g_split rfl rfl (fun hc => ?_) (fun hc => ?_) | refine W.cond rfl (fun hc => ?_) (fun hc => ?_))
  exact Fin.retW (by exact rfl) resA (H' := []) (fun _ h => h.sublist (List.nil_sublist _)) ⟨rfl, rfl⟩
theorem rsack_nil (F : Nat → Option Obj) : Tr Tryz.prog 25 [.pointer none].toArray F [] (fun v H => v = .agg [.int .u32 0, .int .u32 0, .slice none 0 0, .slice none 0 0].toArray ∧ H = []) := by
  refine Tr.enter Tryz.func25 rfl Tryz.ntmps25 rfl (fun w0 => ?_)
  repeat' (first | refine S1 ?_ | refine SD ?_ | refine SA (fun _ => ?_) | refine WL.g_split rfl rfl (fun hc => ?_) (fun hc => ?_) | refine WD.g_split rfl rfl (fun hc => ?_) (fun hc => ?_) | refine W.cond rfl (fun hc => ?_) (fun hc => ?_))
  exact Fin.retW (by exact rfl) resA (H' := []) (fun _ h => h.sublist (List.nil_sublist _)) ⟨rfl, rfl⟩
theorem rheld_nil (F : Nat → Option Obj) : Tr Tryz.prog 16 [.pointer none].toArray F [] (fun v H => v = .int .i64 0 ∧ H = []) := by
  refine Tr.enter Tryz.func16 rfl Tryz.ntmps16 rfl (fun w0 => ?_)
  repeat' (first | refine S1 ?_ | refine SD ?_ | refine SA (fun _ => ?_) | refine WL.g_split rfl rfl (fun hc => ?_) (fun hc => ?_) | refine WD.g_split rfl rfl (fun hc => ?_) (fun hc => ?_) | refine W.cond rfl (fun hc => ?_) (fun hc => ?_))
  exact Fin.retW (by exact rfl) resA (fun _ h => h) ⟨rfl, rfl⟩
theorem rready_nil (F : Nat → Option Obj) : Tr Tryz.prog 18 [.pointer none].toArray F [] (fun v H => v = .int .i64 0 ∧ H = []) := by
  refine Tr.enter Tryz.func18 rfl Tryz.ntmps18 rfl (fun w0 => ?_)
  repeat' (first | refine S1 ?_ | refine SD ?_ | refine SA (fun _ => ?_) | refine WL.g_split rfl rfl (fun hc => ?_) (fun hc => ?_) | refine WD.g_split rfl rfl (fun hc => ?_) (fun hc => ?_) | refine W.cond rfl (fun hc => ?_) (fun hc => ?_))
  exact Fin.retW (by exact rfl) resA (fun _ h => h) ⟨rfl, rfl⟩
theorem rcum_nil (F : Nat → Option Obj) : Tr Tryz.prog 15 [.pointer none].toArray F [] (fun v H => v = .int .u32 0 ∧ H = []) := by
  refine Tr.enter Tryz.func15 rfl Tryz.ntmps15 rfl (fun w0 => ?_)
  repeat' (first | refine S1 ?_ | refine SD ?_ | refine SA (fun _ => ?_) | refine WL.g_split rfl rfl (fun hc => ?_) (fun hc => ?_) | refine WD.g_split rfl rfl (fun hc => ?_) (fun hc => ?_) | refine W.cond rfl (fun hc => ?_) (fun hc => ?_))
  exact Fin.retW (by exact rfl) resA (fun _ h => h) ⟨rfl, rfl⟩
theorem rdue_nil (F : Nat → Option Obj) (now : Int) : Tr Tryz.prog 20 [.pointer none, .int .i64 now].toArray F [] (fun v H => v = .bool false ∧ H = []) := by
  refine Tr.enter Tryz.func20 rfl Tryz.ntmps20 rfl (fun w0 => ?_)
  repeat' (first | refine S1 ?_ | refine SD ?_ | refine SA (fun _ => ?_) | refine WL.g_split rfl rfl (fun hc => ?_) (fun hc => ?_) | refine WD.g_split rfl rfl (fun hc => ?_) (fun hc => ?_) | refine W.cond rfl (fun hc => ?_) (fun hc => ?_))
  exact Fin.retW (by exact rfl) resA (fun _ h => h) ⟨rfl, rfl⟩
theorem rwhen_nil (F : Nat → Option Obj) : Tr Tryz.prog 13 [.pointer none].toArray F [] (fun v H => v = tup [.int .i64 0, .bool false] ∧ H = []) := by
  refine Tr.enter Tryz.func13 rfl Tryz.ntmps13 rfl (fun w0 => ?_)
  repeat' (first | refine S1 ?_ | refine SD ?_ | refine SA (fun _ => ?_) | refine WL.g_split rfl rfl (fun hc => ?_) (fun hc => ?_) | refine WD.g_split rfl rfl (fun hc => ?_) (fun hc => ?_) | refine W.cond rfl (fun hc => ?_) (fun hc => ?_))
  exact Fin.retW (by exact rfl) resA (fun _ h => h) ⟨rfl, rfl⟩
theorem rforward_nil (F : Nat → Option Obj) (a : List Value) (_ : a.all (fun u => u.oneCell') = true) : Tr Tryz.prog 35 [.pointer none, .agg a.toArray].toArray F [] (fun v H => v = .bool false ∧ H = []) := by
  refine Tr.enter Tryz.func35 rfl Tryz.ntmps35 rfl (fun w0 => ?_)
  repeat' (first | refine S1 ?_ | refine SD ?_ | refine SA (fun _ => ?_) | refine WL.g_split rfl rfl (fun hc => ?_) (fun hc => ?_) | refine WD.g_split rfl rfl (fun hc => ?_) (fun hc => ?_) | refine W.cond rfl (fun hc => ?_) (fun hc => ?_))
  exact Fin.retW (by exact rfl) resA (H' := []) (fun _ h => h.sublist (List.nil_sublist _)) ⟨rfl, rfl⟩
theorem rtake_nil (F : Nat → Option Obj) : Tr Tryz.prog 26 [.pointer none].toArray F [] (fun v H => v = tup [.agg [.int .u16 0, .bool false, .slice none 0 0].toArray, .bool false] ∧ H = []) := by
  refine Tr.enter Tryz.func26 rfl Tryz.ntmps26 rfl (fun w0 => ?_)
  repeat' (first | refine S1 ?_ | refine SD ?_ | refine SA (fun _ => ?_) | refine WL.g_split rfl rfl (fun hc => ?_) (fun hc => ?_) | refine WD.g_split rfl rfl (fun hc => ?_) (fun hc => ?_) | refine W.cond rfl (fun hc => ?_) (fun hc => ?_))
  exact Fin.retW (by exact rfl) resA (H' := []) (fun _ h => h.sublist (List.nil_sublist _)) ⟨rfl, rfl⟩
end Go.Proofs.YthjglhdjlmjffaaGreat
