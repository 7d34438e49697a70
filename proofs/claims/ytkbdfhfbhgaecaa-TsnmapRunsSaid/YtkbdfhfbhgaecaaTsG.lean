/- The law TsnmapRuns, walked. Conditions: what the arguments' cells are. -/
import Derived.Test.YtkbdfhfbhgaecaaTsC
import Derived.Test.YtkbdfhfbhgaecaaTsD
namespace Go.Proofs.Ytkbdfhfbhgaecaa
open Go Go.Sl Go.Spn

theorem inL_tr (F : Nat → Option Obj) (us : List Int) (y : Int) (ua : Option Addr) (un uc : Nat) (hu : Lst F [] 1 (us.map (Value.int .u32)) ua un uc) (hul : us.length ≤ 1000000) :
    Tr Try.prog 26 [.slice ua un uc, .int .u32 y].toArray F [] (fun v H => v = .bool (decide (y ∈ us)) ∧ H = []) := by
  refine Tr.enter Try.func26 rfl Try.ntmps26 rfl (fun w0 => ?_)
  have hn := lst_int hu
  repeat' (first
    | refine W.seq ?_ | refine W.region ?_ | refine W.block ?_ | refine W.skip ?_ | refine W.exit ?_ | refine W.ret ?_ | refine W.cond_t rfl ?_ | refine W.cond_f rfl ?_ | refine WL.nil ?_ | refine WD.nil ?_ | refine Fin.next ?_ | refine Fin.then_exit ?_ | refine Fin.then_ret ?_ | refine Fin.block_normal ?_ | refine Fin.block_ret ?_ | refine Fin.block_exit ?_ | refine Fin.block_other rfl ?_
    | refine WL.pA ?_ | refine WD.pA ?_ | refine WL.sA ?_ | refine WD.sA ?_ | refine WL.g_yes rfl rfl ?_ | refine WL.g_no rfl rfl rfl rfl ?_ | refine WL.g_undef rfl rfl rfl ?_ | refine WL.g_split rfl rfl (fun hc => ?_) (fun hc => ?_) | refine WD.g_yes rfl rfl ?_ | refine WD.g_no rfl rfl rfl rfl ?_ | refine WD.g_undef rfl rfl rfl ?_ | refine WD.g_split rfl rfl (fun hc => ?_) (fun hc => ?_)
    | refine W.drawA ?_ | refine WL.aA (fun _ => ?_) | refine WD.aA (fun _ => ?_) | refine WL.e0A ?_ | refine WD.e0A ?_
    | refine W.cond rfl (fun hc => ?_) (fun hc => ?_))
  refine W.loop (G := Nat) (fun g => [(0, .slice ua un uc), (1, .int .u32 y), (5, .int .i64 g)]) (fun _ => []) (fun g => g ≤ un ∧ y ∉ us.take g) (fun g => un - g) 0 ⟨Nat.zero_le _, by simp⟩ (sub_of (by repeat (first | exact subEnv.nil | refine subEnv.cons rfl ?_))) (fun _ h => h) ?_
  rintro i ⟨hi, hno⟩
  dsimp only at hi hno ⊢
  repeat' (first
    | refine W.seq ?_ | refine W.region ?_ | refine W.block ?_ | refine W.skip ?_ | refine W.exit ?_ | refine W.ret ?_ | refine W.cond_t rfl ?_ | refine W.cond_f rfl ?_ | refine WL.nil ?_ | refine WD.nil ?_ | refine Fin.next ?_ | refine Fin.then_exit ?_ | refine Fin.then_ret ?_ | refine Fin.block_normal ?_ | refine Fin.block_ret ?_ | refine Fin.block_exit ?_ | refine Fin.block_other rfl ?_
    | refine WL.pA ?_ | refine WD.pA ?_ | refine WL.sA ?_ | refine WD.sA ?_ | refine WL.g_yes rfl rfl ?_ | refine WL.g_no rfl rfl rfl rfl ?_ | refine WL.g_undef rfl rfl rfl ?_ | refine WL.g_split rfl rfl (fun hc => ?_) (fun hc => ?_) | refine WD.g_yes rfl rfl ?_ | refine WD.g_no rfl rfl rfl rfl ?_ | refine WD.g_undef rfl rfl rfl ?_ | refine WD.g_split rfl rfl (fun hc => ?_) (fun hc => ?_)
    | refine W.drawA ?_ | refine WL.aA (fun _ => ?_) | refine WD.aA (fun _ => ?_) | refine WL.e0A ?_ | refine WD.e0A ?_
    | refine W.cond rfl (fun hc => ?_) (fun hc => ?_))
  · have hi' : i < un := by have := of_decide_eq_true hc; omega
    obtain ⟨a, ha⟩ : ∃ a, us[i]? = some a := ⟨us[i]'(by omega), by simp⟩
    obtain ⟨lb, lo, rfl, hcan⟩ := lst_el hu ha
    have hia : 0 ≤ (i : Int) ∧ (i : Int) < un := by omega
    repeat' (first
      | refine W.seq ?_ | refine W.region ?_ | refine W.block ?_ | refine W.skip ?_ | refine W.exit ?_ | refine W.ret ?_ | refine W.cond_t rfl ?_ | refine W.cond_f rfl ?_ | refine WL.nil ?_ | refine WD.nil ?_ | refine Fin.next ?_ | refine Fin.then_exit ?_ | refine Fin.then_ret ?_ | refine Fin.block_normal ?_ | refine Fin.block_ret ?_ | refine Fin.block_exit ?_ | refine Fin.block_other rfl ?_
      | refine WL.pA ?_ | refine WD.pA ?_ | refine WL.sA ?_ | refine WD.sA ?_ | refine WL.g_yes rfl rfl ?_ | refine WL.g_no rfl rfl rfl rfl ?_ | refine WL.g_undef rfl rfl rfl ?_ | refine WL.g_split rfl rfl (fun hc => ?_) (fun hc => ?_) | refine WD.g_yes rfl rfl ?_ | refine WD.g_no rfl rfl rfl rfl ?_ | refine WD.g_undef rfl rfl rfl ?_ | refine WD.g_split rfl rfl (fun hc => ?_) (fun hc => ?_)
      | refine W.drawA ?_ | refine WL.aA (fun _ => ?_) | refine WD.aA (fun _ => ?_) | refine WL.e0A ?_ | refine WD.e0A ?_
      | refine W.cond rfl (fun hc => ?_) (fun hc => ?_))
    · refine Fin.retW (by exact rfl) (by repeat' (first | exact Res.nil | exact rfl | exact CutAt.here rfl | exact CellAt.here rfl | apply CutAt.there | apply CellAt.there | apply CutAt.right | apply CellAt.right | apply Res.tmp | apply Res.agg' | apply Res.cell')) (fun _ h => h) ⟨?_, rfl⟩
      have : a = y := by simpa using hc
      rw [decide_eq_true (show y ∈ us by rw [← this]; exact List.mem_of_getElem? ha)]
      rfl
    · rw [i64_succ (by omega)]
      refine Fin.round (i + 1) ⟨hi', ?_⟩ (sub_of (by repeat (first | exact subEnv.nil | refine subEnv.cons rfl ?_))) (fun _ h => h) (by omega)
      rw [List.take_add_one, ha]
      have : ¬ y = a := fun h => by subst h; simp at hc
      simp [hno, this]
  · refine Fin.retW (by exact rfl) (by repeat' (first | exact Res.nil | exact rfl | exact CutAt.here rfl | exact CellAt.here rfl | apply CutAt.there | apply CellAt.there | apply CutAt.right | apply CellAt.right | apply Res.tmp | apply Res.agg' | apply Res.cell')) (fun _ h => h) ⟨?_, rfl⟩
    have hin : i = us.length := by have := of_decide_eq_false hc; omega
    rw [hin, List.take_length] at hno
    rw [decide_eq_false hno]
    rfl
/-- a TSN stands in a run -/
def inRun (G : List (Nat × Nat)) (d : Nat) : Prop := ∃ g ∈ G, g.1 ≤ d ∧ d ≤ g.2
instance (G : List (Nat × Nat)) (d : Nat) : Decidable (inRun G d) := inferInstanceAs (Decidable (∃ g ∈ G, g.1 ≤ d ∧ d ≤ g.2))
set_option maxHeartbeats 2000000 in
theorem inside_tr (F : Nat → Option Obj) (c r : Int) (xs : List (Nat × Nat)) (hxr : ∀ g ∈ xs, g.1 ≤ 4096 ∧ g.2 ≤ 4096) (y : Int) (xa : Option Addr) (xn xc : Nat) (ua : Option Addr) (un uc : Nat) (hx : Lst F [] 2 (xs.flatMap gCells) xa xn xc) (hxl : xs.length ≤ 1000000) :
    Tr Try.prog 25 [.agg (sackV c r xa xn xc ua un uc).toArray, .int .u32 y].toArray F [] (fun v H => v = .bool (decide (inRun xs (far c y))) ∧ H = []) := by
  refine Tr.enter Try.func25 rfl Try.ntmps25 rfl (fun w0 => ?_)
  have hn : xs.length = xn := lst_len (cells := gCells) (fun _ => rfl) (by decide) hx
  have hf : IntKind.u32.wrap (y - c) = ((far c y : Nat) : Int) := (far_int c y).symm
  unfold sackV
  repeat' (first
    | refine W.seq ?_ | refine W.region ?_ | refine W.block ?_ | refine W.skip ?_ | refine W.exit ?_ | refine W.ret ?_ | refine W.cond_t rfl ?_ | refine W.cond_f rfl ?_ | refine WL.nil ?_ | refine WD.nil ?_ | refine Fin.next ?_ | refine Fin.then_exit ?_ | refine Fin.then_ret ?_ | refine Fin.block_normal ?_ | refine Fin.block_ret ?_ | refine Fin.block_exit ?_ | refine Fin.block_other rfl ?_
    | refine WL.pA ?_ | refine WD.pA ?_ | refine WL.sA ?_ | refine WD.sA ?_ | refine WL.g_yes rfl rfl ?_ | refine WL.g_no rfl rfl rfl rfl ?_ | refine WL.g_undef rfl rfl rfl ?_ | refine WL.g_split rfl rfl (fun hc => ?_) (fun hc => ?_) | refine WD.g_yes rfl rfl ?_ | refine WD.g_no rfl rfl rfl rfl ?_ | refine WD.g_undef rfl rfl rfl ?_ | refine WD.g_split rfl rfl (fun hc => ?_) (fun hc => ?_)
    | refine W.drawA ?_ | refine WL.aA (fun _ => ?_) | refine WD.aA (fun _ => ?_) | refine WL.e0A ?_ | refine WD.e0A ?_
    | refine W.cond rfl (fun hc => ?_) (fun hc => ?_))
  rename_i b2
  refine W.loop (G := Nat) (fun g => [(1, .int .u32 y), (2, .pointer (some ⟨b2, 0, none⟩)), (5, .int .i64 g)]) (fun _ => [(b2, .cells [.int .u32 c, .int .u32 r, .slice xa xn xc, .slice ua un uc].toArray 38 (0, 0))]) (fun g => g ≤ xn ∧ ¬ inRun (xs.take g) (far c y)) (fun g => xn - g) 0 ⟨Nat.zero_le _, by simp [inRun]⟩ (sub_of (by repeat (first | exact subEnv.nil | refine subEnv.cons rfl ?_))) (fun _ h => h) ?_
  rintro i ⟨hi, hno⟩
  dsimp only at hi hno ⊢
  repeat' (first
    | refine W.seq ?_ | refine W.region ?_ | refine W.block ?_ | refine W.skip ?_ | refine W.exit ?_ | refine W.ret ?_ | refine W.cond_t rfl ?_ | refine W.cond_f rfl ?_ | refine WL.nil ?_ | refine WD.nil ?_ | refine Fin.next ?_ | refine Fin.then_exit ?_ | refine Fin.then_ret ?_ | refine Fin.block_normal ?_ | refine Fin.block_ret ?_ | refine Fin.block_exit ?_ | refine Fin.block_other rfl ?_
    | refine WL.pA ?_ | refine WD.pA ?_ | refine WL.sA ?_ | refine WD.sA ?_ | refine WL.g_yes rfl rfl ?_ | refine WL.g_no rfl rfl rfl rfl ?_ | refine WL.g_undef rfl rfl rfl ?_ | refine WL.g_split rfl rfl (fun hc => ?_) (fun hc => ?_) | refine WD.g_yes rfl rfl ?_ | refine WD.g_no rfl rfl rfl rfl ?_ | refine WD.g_undef rfl rfl rfl ?_ | refine WD.g_split rfl rfl (fun hc => ?_) (fun hc => ?_)
    | refine W.drawA ?_ | refine WL.aA (fun _ => ?_) | refine WD.aA (fun _ => ?_) | refine WL.e0A ?_ | refine WD.e0A ?_
    | refine W.cond rfl (fun hc => ?_) (fun hc => ?_))
  · have hi' : i < xn := by have := of_decide_eq_true hc; omega
    obtain ⟨g, hg⟩ : ∃ g, xs[i]? = some g := ⟨xs[i]'(by omega), by simp⟩
    obtain ⟨gb, go, rfl, hcan⟩ := hx.el (cells := gCells) (fun _ => rfl) hg (by omega)
    have hgm := List.mem_of_getElem? hg
    have hgr := hxr g hgm
    have hia : 0 ≤ (i : Int) ∧ (i : Int) < xn := by omega
    have hc1 : Sl.Can F [] gb (go + (i : Int).toNat * 2 + 0) [.int .u16 g.1] := hcan.one (i := 0) rfl
    have hc2 : Sl.Can F [] gb (go + (i : Int).toNat * 2 + 1) [.int .u16 g.2] := hcan.one (i := 1) rfl
    have e1 : IntKind.u32.wrap ((g.1 : Nat) : Int) = g.1 := u32_id (by omega)
    have e2 : IntKind.u32.wrap ((g.2 : Nat) : Int) = g.2 := u32_id (by omega)
    repeat' (first
      | refine W.seq ?_ | refine W.region ?_ | refine W.block ?_ | refine W.skip ?_ | refine W.exit ?_ | refine W.ret ?_ | refine W.cond_t rfl ?_ | refine W.cond_f rfl ?_ | refine WL.nil ?_ | refine WD.nil ?_ | refine Fin.next ?_ | refine Fin.then_exit ?_ | refine Fin.then_ret ?_ | refine Fin.block_normal ?_ | refine Fin.block_ret ?_ | refine Fin.block_exit ?_ | refine Fin.block_other rfl ?_
      | refine WL.pA ?_ | refine WD.pA ?_ | refine WL.sA ?_ | refine WD.sA ?_ | refine WL.g_yes rfl rfl ?_ | refine WL.g_no rfl rfl rfl rfl ?_ | refine WL.g_undef rfl rfl rfl ?_ | refine WL.g_split rfl rfl (fun hc => ?_) (fun hc => ?_) | refine WD.g_yes rfl rfl ?_ | refine WD.g_no rfl rfl rfl rfl ?_ | refine WD.g_undef rfl rfl rfl ?_ | refine WD.g_split rfl rfl (fun hc => ?_) (fun hc => ?_)
      | refine W.drawA ?_ | refine WL.aA (fun _ => ?_) | refine WD.aA (fun _ => ?_) | refine WL.e0A ?_ | refine WD.e0A ?_
      | refine W.cond rfl (fun hc => ?_) (fun hc => ?_))
    · refine Fin.retW (by exact rfl) (by repeat' (first | exact Res.nil | exact rfl | exact CutAt.here rfl | exact CellAt.here rfl | apply CutAt.there | apply CellAt.there | apply CutAt.right | apply CellAt.right | apply Res.tmp | apply Res.agg' | apply Res.cell')) (fun _ h => h.sublist (List.nil_sublist _)) ⟨?_, rfl⟩
      rw [decide_eq_true (show inRun xs (far c y) from ⟨g, hgm, ?_⟩)]
      · rfl
      · have h1 := of_decide_eq_true (by assumption : decide (IntKind.u32.wrap (y - c) ≥ IntKind.u32.wrap ((g.1 : Nat) : Int)) = true)
        have h2 := of_decide_eq_true hc
        rw [hf, e1] at h1
        rw [hf, e2] at h2
        omega
    all_goals
      rw [i64_succ (by omega)]
      refine Fin.round (i + 1) ⟨hi', ?_⟩ (sub_of (by repeat (first | exact subEnv.nil | refine subEnv.cons rfl ?_))) (fun _ h => h) (by omega)
      rw [List.take_add_one, hg]
      rintro ⟨q, hq, h1, h2⟩
      rcases List.mem_append.1 hq with hq | hq
      · exact hno ⟨q, hq, h1, h2⟩
      · have : q = g := by simpa using hq
        subst this
        have h3 := of_decide_eq_false hc
        simp only [hf, e1, e2] at h3
        omega
  · refine Fin.retW (by exact rfl) (by repeat' (first | exact Res.nil | exact rfl | exact CutAt.here rfl | exact CellAt.here rfl | apply CutAt.there | apply CellAt.there | apply CutAt.right | apply CellAt.right | apply Res.tmp | apply Res.agg' | apply Res.cell')) (fun _ h => h.sublist (List.nil_sublist _)) ⟨?_, rfl⟩
    have hin : i = xs.length := by have := of_decide_eq_false hc; omega
    rw [hin, List.take_length] at hno
    rw [decide_eq_false hno]
    rfl
end Go.Proofs.Ytkbdfhfbhgaecaa
