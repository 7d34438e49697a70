/- No receiver: what its methods answer, walked. No conditions. -/
import Derived.Test.YthjglhdjlmjffaaDeB
namespace Go.Proofs.Ythjglhdjlmjffaa
open Go Go.Sl

theorem rdata_nil (F : Nat → Option Obj) (d : List Value) (hd : d.all (fun u => u.oneCell') = true) (hl : d.length = 7) : Tr Try.prog 9 [.pointer none, .agg d.toArray].toArray F [] (fun v H => v = tup [.bool false, .int .i64 2] ∧ H = []) := by
  match d, hl with
  | [d0, d1, d2, d3, d4, d5, d6], _ =>
  refine Tr.enter Try.func9 rfl Try.ntmps9 rfl (fun w0 => ?_)
  repeat' (first | refine S1 ?_ | refine SD ?_ | refine SA (fun _ => ?_) | refine WL.g_split rfl rfl (fun hc => ?_) (fun hc => ?_) | refine WD.g_split rfl rfl (fun hc => ?_) (fun hc => ?_) | refine W.cond rfl (fun hc => ?_) (fun hc => ?_))
  exact Fin.retW (by exact rfl) resA (H' := []) (fun _ h => h.sublist (List.nil_sublist _)) ⟨rfl, rfl⟩
theorem rend_nil (F : Nat → Option Obj) (now : Int) : Tr Try.prog 11 [.pointer none, .int .i64 now].toArray F [] (fun v H => v = .tuple #[] ∧ H = []) := by
  refine Tr.enter Try.func11 rfl Try.ntmps11 rfl (fun w0 => ?_)
  repeat' (first | refine S1 ?_ | refine SD ?_ | refine SA (fun _ => ?_) | refine WL.g_split rfl rfl (fun hc => ?_) (fun hc => ?_) | refine WD.g_split rfl rfl (fun hc => ?_) (fun hc => ?_) | refine W.cond rfl (fun hc => ?_) (fun hc => ?_))
  exact Fin.retW (by exact rfl) resA (H' := []) (fun _ h => h.sublist (List.nil_sublist _)) ⟨rfl, rfl⟩
theorem rsack_nil (F : Nat → Option Obj) : Tr Try.prog 12 [.pointer none].toArray F [] (fun v H => v = .agg [.int .u32 0, .int .u32 0, .slice none 0 0, .slice none 0 0].toArray ∧ H = []) := by
  refine Tr.enter Try.func12 rfl Try.ntmps12 rfl (fun w0 => ?_)
  repeat' (first | refine S1 ?_ | refine SD ?_ | refine SA (fun _ => ?_) | refine WL.g_split rfl rfl (fun hc => ?_) (fun hc => ?_) | refine WD.g_split rfl rfl (fun hc => ?_) (fun hc => ?_) | refine W.cond rfl (fun hc => ?_) (fun hc => ?_))
  exact Fin.retW (by exact rfl) resA (H' := []) (fun _ h => h.sublist (List.nil_sublist _)) ⟨rfl, rfl⟩
theorem rheld_nil (F : Nat → Option Obj) : Tr Try.prog 14 [.pointer none].toArray F [] (fun v H => v = .int .i64 0 ∧ H = []) := by
  refine Tr.enter Try.func14 rfl Try.ntmps14 rfl (fun w0 => ?_)
  repeat' (first | refine S1 ?_ | refine SD ?_ | refine SA (fun _ => ?_) | refine WL.g_split rfl rfl (fun hc => ?_) (fun hc => ?_) | refine WD.g_split rfl rfl (fun hc => ?_) (fun hc => ?_) | refine W.cond rfl (fun hc => ?_) (fun hc => ?_))
  exact Fin.retW (by exact rfl) resA (fun _ h => h) ⟨rfl, rfl⟩
theorem rready_nil (F : Nat → Option Obj) : Tr Try.prog 22 [.pointer none].toArray F [] (fun v H => v = .int .i64 0 ∧ H = []) := by
  refine Tr.enter Try.func22 rfl Try.ntmps22 rfl (fun w0 => ?_)
  repeat' (first | refine S1 ?_ | refine SD ?_ | refine SA (fun _ => ?_) | refine WL.g_split rfl rfl (fun hc => ?_) (fun hc => ?_) | refine WD.g_split rfl rfl (fun hc => ?_) (fun hc => ?_) | refine W.cond rfl (fun hc => ?_) (fun hc => ?_))
  exact Fin.retW (by exact rfl) resA (fun _ h => h) ⟨rfl, rfl⟩
theorem rcum_nil (F : Nat → Option Obj) : Tr Try.prog 15 [.pointer none].toArray F [] (fun v H => v = .int .u32 0 ∧ H = []) := by
  refine Tr.enter Try.func15 rfl Try.ntmps15 rfl (fun w0 => ?_)
  repeat' (first | refine S1 ?_ | refine SD ?_ | refine SA (fun _ => ?_) | refine WL.g_split rfl rfl (fun hc => ?_) (fun hc => ?_) | refine WD.g_split rfl rfl (fun hc => ?_) (fun hc => ?_) | refine W.cond rfl (fun hc => ?_) (fun hc => ?_))
  exact Fin.retW (by exact rfl) resA (fun _ h => h) ⟨rfl, rfl⟩
theorem rdue_nil (F : Nat → Option Obj) (now : Int) : Tr Try.prog 17 [.pointer none, .int .i64 now].toArray F [] (fun v H => v = .bool false ∧ H = []) := by
  refine Tr.enter Try.func17 rfl Try.ntmps17 rfl (fun w0 => ?_)
  repeat' (first | refine S1 ?_ | refine SD ?_ | refine SA (fun _ => ?_) | refine WL.g_split rfl rfl (fun hc => ?_) (fun hc => ?_) | refine WD.g_split rfl rfl (fun hc => ?_) (fun hc => ?_) | refine W.cond rfl (fun hc => ?_) (fun hc => ?_))
  exact Fin.retW (by exact rfl) resA (fun _ h => h) ⟨rfl, rfl⟩
theorem rwhen_nil (F : Nat → Option Obj) : Tr Try.prog 20 [.pointer none].toArray F [] (fun v H => v = tup [.int .i64 0, .bool false] ∧ H = []) := by
  refine Tr.enter Try.func20 rfl Try.ntmps20 rfl (fun w0 => ?_)
  repeat' (first | refine S1 ?_ | refine SD ?_ | refine SA (fun _ => ?_) | refine WL.g_split rfl rfl (fun hc => ?_) (fun hc => ?_) | refine WD.g_split rfl rfl (fun hc => ?_) (fun hc => ?_) | refine W.cond rfl (fun hc => ?_) (fun hc => ?_))
  exact Fin.retW (by exact rfl) resA (fun _ h => h) ⟨rfl, rfl⟩
theorem rforward_nil (F : Nat → Option Obj) (a : List Value) (_ : a.all (fun u => u.oneCell') = true) : Tr Try.prog 37 [.pointer none, .agg a.toArray].toArray F [] (fun v H => v = .bool false ∧ H = []) := by
  refine Tr.enter Try.func37 rfl Try.ntmps37 rfl (fun w0 => ?_)
  repeat' (first | refine S1 ?_ | refine SD ?_ | refine SA (fun _ => ?_) | refine WL.g_split rfl rfl (fun hc => ?_) (fun hc => ?_) | refine WD.g_split rfl rfl (fun hc => ?_) (fun hc => ?_) | refine W.cond rfl (fun hc => ?_) (fun hc => ?_))
  exact Fin.retW (by exact rfl) resA (H' := []) (fun _ h => h.sublist (List.nil_sublist _)) ⟨rfl, rfl⟩
theorem rtake_nil (F : Nat → Option Obj) : Tr Try.prog 13 [.pointer none].toArray F [] (fun v H => v = tup [.agg [.int .u16 0, .bool false, .slice none 0 0].toArray, .bool false] ∧ H = []) := by
  refine Tr.enter Try.func13 rfl Try.ntmps13 rfl (fun w0 => ?_)
  repeat' (first | refine S1 ?_ | refine SD ?_ | refine SA (fun _ => ?_) | refine WL.g_split rfl rfl (fun hc => ?_) (fun hc => ?_) | refine WD.g_split rfl rfl (fun hc => ?_) (fun hc => ?_) | refine W.cond rfl (fun hc => ?_) (fun hc => ?_))
  exact Fin.retW (by exact rfl) resA (H' := []) (fun _ h => h.sublist (List.nil_sublist _)) ⟨rfl, rfl⟩
end Go.Proofs.Ythjglhdjlmjffaa
