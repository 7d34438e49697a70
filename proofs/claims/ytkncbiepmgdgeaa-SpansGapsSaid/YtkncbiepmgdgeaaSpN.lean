/- The law SpansGaps, walked. Conditions: what the arguments' cells are. -/
import Derived.Test.YtkncbiepmgdgeaaSpK
import Derived.Test.YtkncbiepmgdgeaaSpR
namespace Go.Proofs.Ytkncbiepmgdgeaa
open Go Go.Sl Go.Spn

def lastG (L : List (Nat × Nat)) : Nat → Int
  | 0 => -1
  | i + 1 => ((L.getD i (0, 0)).2 : Nat)
theorem last_gap {s : Spn.S} {g : Nat × Nat} {n : Nat} (hn : (gapsU s).length = n) (h : (gapsU s)[n - 1]? = some g) : Spn.last s = u32 (s.b + (g.2 : Nat)) := by
  unfold Spn.last
  rw [gap_last (g := g) (by rw [List.getLast?_eq_getElem?, hn]; exact h)]
  rfl
set_option maxRecDepth 20000 in
set_option maxHeartbeats 8000000 in
theorem gapsLaw_tr (F : Nat → Option Obj) (b : Int) (hb : 0 ≤ b ∧ b < 4294967296) (l : List Int) (hl : ∀ a ∈ l, 0 ≤ a ∧ a < 4294967296) (ba : Option Addr) (bn bc : Nat) (hlst : Lst F [] 1 (l.map (Value.int .u32)) ba bn bc) :
    Tr Try.prog 3 [.int .u32 b, .slice ba bn bc].toArray F [] (fun v H => v = .bool true ∧ H = []) := by
  refine Tr.enter Try.func3 rfl Try.ntmps3 rfl (fun w0 => ?_)
  have hbn := lst_int hlst
  repeat' (first
    | refine W.seq ?_ | refine W.region ?_ | refine W.block ?_ | refine W.skip ?_ | refine W.exit ?_ | refine W.ret ?_ | refine W.cond_t rfl ?_ | refine W.cond_f rfl ?_ | refine WL.nil ?_ | refine WD.nil ?_ | refine Fin.next ?_ | refine Fin.then_exit ?_ | refine Fin.then_ret ?_ | refine Fin.block_normal ?_ | refine Fin.block_ret ?_ | refine Fin.block_exit ?_ | refine Fin.block_other rfl ?_
    | refine WL.pA ?_ | refine WD.pA ?_ | refine WL.sA ?_ | refine WD.sA ?_ | refine WL.g_yes rfl rfl ?_ | refine WL.g_no rfl rfl rfl rfl ?_ | refine WL.g_undef rfl rfl rfl ?_ | refine WL.g_split rfl rfl (fun hc => ?_) (fun hc => ?_) | refine WD.g_yes rfl rfl ?_ | refine WD.g_no rfl rfl rfl rfl ?_ | refine WD.g_undef rfl rfl rfl ?_ | refine WD.g_split rfl rfl (fun hc => ?_) (fun hc => ?_)
    | refine W.drawA ?_ | refine WL.aA (fun _ => ?_) | refine WD.aA (fun _ => ?_) | refine WL.e0A ?_ | refine WD.e0A ?_
    | refine W.cond rfl (fun hc => ?_) (fun hc => ?_))
  · refine WL.e rfl (Ef.callR (by exact rfl) (.nil _) (works_tr _)) ?_
    rintro _ _ ⟨rfl, rfl⟩
    repeat' (first
      | refine W.seq ?_ | refine W.region ?_ | refine W.block ?_ | refine W.skip ?_ | refine W.exit ?_ | refine W.ret ?_ | refine W.cond_t rfl ?_ | refine W.cond_f rfl ?_ | refine WL.nil ?_ | refine WD.nil ?_ | refine Fin.next ?_ | refine Fin.then_exit ?_ | refine Fin.then_ret ?_ | refine Fin.block_normal ?_ | refine Fin.block_ret ?_ | refine Fin.block_exit ?_ | refine Fin.block_other rfl ?_
      | refine WL.pA ?_ | refine WD.pA ?_ | refine WL.sA ?_ | refine WD.sA ?_ | refine WL.g_yes rfl rfl ?_ | refine WL.g_no rfl rfl rfl rfl ?_ | refine WL.g_undef rfl rfl rfl ?_ | refine WL.g_split rfl rfl (fun hc => ?_) (fun hc => ?_) | refine WD.g_yes rfl rfl ?_ | refine WD.g_no rfl rfl rfl rfl ?_ | refine WD.g_undef rfl rfl rfl ?_ | refine WD.g_split rfl rfl (fun hc => ?_) (fun hc => ?_)
      | refine W.drawA ?_ | refine WL.aA (fun _ => ?_) | refine WD.aA (fun _ => ?_) | refine WL.e0A ?_ | refine WD.e0A ?_
      | refine W.cond rfl (fun hc => ?_) (fun hc => ?_))
    exact Fin.retW (by exact rfl) (by repeat' (first | exact Res.nil | exact rfl | exact CutAt.here rfl | exact CellAt.here rfl | apply CutAt.there | apply CellAt.there | apply CutAt.right | apply CellAt.right | apply Res.tmp | apply Res.agg' | apply Res.cell')) (fun _ h => h) ⟨rfl, rfl⟩
  have h200 : bn ≤ 200 := by have := of_decide_eq_false hc; omega
  refine WL.e rfl (Ef.callF (by exact rfl) (.nil _) (fun hd => filled_tr _ b hb l hl ba bn bc (hlst.mono (fun _ h => addF_in hd h)) (by omega))) ?_
  rintro _ _ ⟨_, ⟨s, hs, rfl, rfl, hS⟩, rfl⟩
  rw [List.append_nil]
  have hok : (fill b l).ok := fill_ok hb hl
  have hfe := fill_eq (b := b) hl
  have hbs : s.base = b := by have := congrArg Spn.S.b hS; rw [hfe] at this; exact this
  have hp : ∀ d, s.S.p d = told l d := fun d => by rw [hS, hfe]
  repeat' (first
    | refine W.seq ?_ | refine W.region ?_ | refine W.block ?_ | refine W.skip ?_ | refine W.exit ?_ | refine W.ret ?_ | refine W.cond_t rfl ?_ | refine W.cond_f rfl ?_ | refine WL.nil ?_ | refine WD.nil ?_ | refine Fin.next ?_ | refine Fin.then_exit ?_ | refine Fin.then_ret ?_ | refine Fin.block_normal ?_ | refine Fin.block_ret ?_ | refine Fin.block_exit ?_ | refine Fin.block_other rfl ?_
    | refine WL.pA ?_ | refine WD.pA ?_ | refine WL.sA ?_ | refine WD.sA ?_ | refine WL.g_yes rfl rfl ?_ | refine WL.g_no rfl rfl rfl rfl ?_ | refine WL.g_undef rfl rfl rfl ?_ | refine WL.g_split rfl rfl (fun hc => ?_) (fun hc => ?_) | refine WD.g_yes rfl rfl ?_ | refine WD.g_no rfl rfl rfl rfl ?_ | refine WD.g_undef rfl rfl rfl ?_ | refine WD.g_split rfl rfl (fun hc => ?_) (fun hc => ?_)
    | refine W.drawA ?_ | refine WL.aA (fun _ => ?_) | refine WD.aA (fun _ => ?_) | refine WL.e0A ?_ | refine WD.e0A ?_
    | refine W.cond rfl (fun hc => ?_) (fun hc => ?_))
  refine WL.e rfl (Ef.call (by exact rfl) (.all _) (gaps_tr _ s hs 4096 (by decide))) ?_
  rintro _ _ ⟨_, ⟨a1, n1, c1, l1, rfl, ho1, rfl⟩, rfl⟩
  rw [gaps_all hs.S (by decide)] at ho1
  rw [List.append_nil]
  have hul := gapsU_len hs.S
  have hlist : Lst F (s.H ++ l1) 2 ((gapsU s.S).flatMap gCells) a1 n1 c1 := (Lst.own (F := F) (H := l1) ho1 (fun _ h => h)).mono (fun _ h => h.right)
  have hn1 : (gapsU s.S).length = n1 := by have := hlist.len; rw [flat_len' gCells 2 (fun _ => rfl)] at this; omega
  repeat' (first
    | refine W.seq ?_ | refine W.region ?_ | refine W.block ?_ | refine W.skip ?_ | refine W.exit ?_ | refine W.ret ?_ | refine W.cond_t rfl ?_ | refine W.cond_f rfl ?_ | refine WL.nil ?_ | refine WD.nil ?_ | refine Fin.next ?_ | refine Fin.then_exit ?_ | refine Fin.then_ret ?_ | refine Fin.block_normal ?_ | refine Fin.block_ret ?_ | refine Fin.block_exit ?_ | refine Fin.block_other rfl ?_
    | refine WL.pA ?_ | refine WD.pA ?_ | refine WL.sA ?_ | refine WD.sA ?_ | refine WL.g_yes rfl rfl ?_ | refine WL.g_no rfl rfl rfl rfl ?_ | refine WL.g_undef rfl rfl rfl ?_ | refine WL.g_split rfl rfl (fun hc => ?_) (fun hc => ?_) | refine WD.g_yes rfl rfl ?_ | refine WD.g_no rfl rfl rfl rfl ?_ | refine WD.g_undef rfl rfl rfl ?_ | refine WD.g_split rfl rfl (fun hc => ?_) (fun hc => ?_)
    | refine W.drawA ?_ | refine WL.aA (fun _ => ?_) | refine WD.aA (fun _ => ?_) | refine WL.e0A ?_ | refine WD.e0A ?_
    | refine W.cond rfl (fun hc => ?_) (fun hc => ?_))
  refine W.loop (G := Nat) (fun g => [(0, .int .u32 b), (1, .slice ba bn bc), (5, .pointer (some ⟨s.R, 0, none⟩)), (6, .slice a1 n1 c1), (7, .int .i64 (gapN ((gapsU s.S).take g))), (8, .int .i64 (lastG (gapsU s.S) g)), (9, .int .i64 g)]) (fun _ => s.H ++ l1) (fun g => g ≤ n1) (fun g => n1 - g) 0 (Nat.zero_le _) (sub_of (by repeat (first | exact subEnv.nil | refine subEnv.cons rfl ?_))) (fun _ h => h) ?_
  intro i hi
  dsimp only at hi ⊢
  repeat' (first
    | refine W.seq ?_ | refine W.region ?_ | refine W.block ?_ | refine W.skip ?_ | refine W.exit ?_ | refine W.ret ?_ | refine W.cond_t rfl ?_ | refine W.cond_f rfl ?_ | refine WL.nil ?_ | refine WD.nil ?_ | refine Fin.next ?_ | refine Fin.then_exit ?_ | refine Fin.then_ret ?_ | refine Fin.block_normal ?_ | refine Fin.block_ret ?_ | refine Fin.block_exit ?_ | refine Fin.block_other rfl ?_
    | refine WL.pA ?_ | refine WD.pA ?_ | refine WL.sA ?_ | refine WD.sA ?_ | refine WL.g_yes rfl rfl ?_ | refine WL.g_no rfl rfl rfl rfl ?_ | refine WL.g_undef rfl rfl rfl ?_ | refine WL.g_split rfl rfl (fun hc => ?_) (fun hc => ?_) | refine WD.g_yes rfl rfl ?_ | refine WD.g_no rfl rfl rfl rfl ?_ | refine WD.g_undef rfl rfl rfl ?_ | refine WD.g_split rfl rfl (fun hc => ?_) (fun hc => ?_)
    | refine W.drawA ?_ | refine WL.aA (fun _ => ?_) | refine WD.aA (fun _ => ?_) | refine WL.e0A ?_ | refine WD.e0A ?_
    | refine W.cond rfl (fun hc => ?_) (fun hc => ?_))
  · have hi' : i < n1 := by have := of_decide_eq_true hc; omega
    obtain ⟨g, hg⟩ : ∃ g, (gapsU s.S)[i]? = some g := ⟨(gapsU s.S)[i]'(by omega), by simp⟩
    obtain ⟨gb, go, rfl, hcan⟩ := hlist.el (cells := gCells) (fun _ => rfl) hg (by omega)
    have hgm := List.mem_of_getElem? hg
    have hgr := gap_rng hs.S hgm
    have hia : 0 ≤ (i : Int) ∧ (i : Int) < n1 := by omega
    have hc1 : Sl.Can F (s.H ++ l1) gb (go + (i : Int).toNat * 2 + 0) [.int .u16 g.1] := hcan.one (i := 0) rfl
    have hc2 : Sl.Can F (s.H ++ l1) gb (go + (i : Int).toNat * 2 + 1) [.int .u16 g.2] := hcan.one (i := 1) rfl
    have e1 : IntKind.i64.wrap ((g.1 : Nat) : Int) = g.1 := i64_id (by omega) (by omega)
    have e2 : IntKind.i64.wrap ((g.2 : Nat) : Int) = g.2 := i64_id (by omega) (by omega)
    have hlast : lastG (gapsU s.S) i + 2 ≤ g.1 ∧ -1 ≤ lastG (gapsU s.S) i ∧ lastG (gapsU s.S) i ≤ 4096 := by
      cases i with
      | zero => dsimp only [lastG]; omega
      | succ j =>
        obtain ⟨h, hh⟩ : ∃ h, (gapsU s.S)[j]? = some h := ⟨(gapsU s.S)[j]'(by omega), by simp⟩
        have h1 := gap_apart hh hg
        have h2 := gap_rng hs.S (List.mem_of_getElem? hh)
        have h3 : (gapsU s.S).getD j (0, 0) = h := by rw [List.getD_eq_getElem?_getD, hh]; rfl
        dsimp only [lastG]
        rw [h3]
        omega
    have e3 : IntKind.i64.wrap (lastG (gapsU s.S) i + 2) = lastG (gapsU s.S) i + 2 := i64_id (by omega) (by omega)
    have d1 : ¬ (decide (IntKind.i64.wrap ((g.1 : Nat) : Int) < IntKind.i64.wrap (lastG (gapsU s.S) i + 2)) = true) := by rw [e1, e3]; simp; omega
    have d2 : ¬ (decide (IntKind.i64.wrap ((g.2 : Nat) : Int) < IntKind.i64.wrap ((g.1 : Nat) : Int)) = true) := by rw [e1, e2]; simp; omega
    have d3 : ¬ (decide (IntKind.i64.wrap ((g.2 : Nat) : Int) > 4096) = true) := by rw [e2]; simp; omega
    have d4 : ¬ (decide (IntKind.i64.wrap ((g.1 : Nat) : Int) < 1) = true) := by rw [e1]; simp; omega
    repeat' (first
      | refine W.seq ?_ | refine W.region ?_ | refine W.block ?_ | refine W.skip ?_ | refine W.exit ?_ | refine W.ret ?_ | refine W.cond_t rfl ?_ | refine W.cond_f rfl ?_ | refine WL.nil ?_ | refine WD.nil ?_ | refine Fin.next ?_ | refine Fin.then_exit ?_ | refine Fin.then_ret ?_ | refine Fin.block_normal ?_ | refine Fin.block_ret ?_ | refine Fin.block_exit ?_ | refine Fin.block_other rfl ?_
      | refine WL.pA ?_ | refine WD.pA ?_ | refine WL.sA ?_ | refine WD.sA ?_ | refine WL.g_yes rfl rfl ?_ | refine WL.g_no rfl rfl rfl rfl ?_ | refine WL.g_undef rfl rfl rfl ?_ | refine WL.g_split rfl rfl (fun hc => ?_) (fun hc => ?_) | refine WD.g_yes rfl rfl ?_ | refine WD.g_no rfl rfl rfl rfl ?_ | refine WD.g_undef rfl rfl rfl ?_ | refine WD.g_split rfl rfl (fun hc => ?_) (fun hc => ?_)
      | refine W.drawA ?_ | refine WL.aA (fun _ => ?_) | refine WD.aA (fun _ => ?_) | refine WL.e0A ?_ | refine WD.e0A ?_
      | refine W.cond rfl (fun hc => ?_) (fun hc => ?_))
    all_goals try contradiction
    rw [e1, e2]
    refine W.loop (G := Nat) (fun j => [(0, .int .u32 b), (1, .slice ba bn bc), (5, .pointer (some ⟨s.R, 0, none⟩)), (6, .slice (some ⟨gb, go, none⟩) n1 c1), (7, .int .i64 (gapN ((gapsU s.S).take i))), (9, .int .i64 i), (10, .int .i64 g.1), (11, .int .i64 g.2), (12, .int .i64 (g.1 + j : Nat))]) (fun _ => s.H ++ l1) (fun j => g.1 + j ≤ g.2 + 1) (fun j => g.2 + 1 - (g.1 + j)) 0 (by omega) (sub_of (by repeat (first | exact subEnv.nil | refine subEnv.cons rfl ?_))) (fun _ h => h) ?_
    intro j hj
    dsimp only at hj ⊢
    have hk1 : IntKind.u32.wrap ((g.1 + j : Nat) : Int) = (g.1 + j : Nat) := u32_id (by omega)
    repeat' (first
      | refine W.seq ?_ | refine W.region ?_ | refine W.block ?_ | refine W.skip ?_ | refine W.exit ?_ | refine W.ret ?_ | refine W.cond_t rfl ?_ | refine W.cond_f rfl ?_ | refine WL.nil ?_ | refine WD.nil ?_ | refine Fin.next ?_ | refine Fin.then_exit ?_ | refine Fin.then_ret ?_ | refine Fin.block_normal ?_ | refine Fin.block_ret ?_ | refine Fin.block_exit ?_ | refine Fin.block_other rfl ?_
      | refine WL.pA ?_ | refine WD.pA ?_ | refine WL.sA ?_ | refine WD.sA ?_ | refine WL.g_yes rfl rfl ?_ | refine WL.g_no rfl rfl rfl rfl ?_ | refine WL.g_undef rfl rfl rfl ?_ | refine WL.g_split rfl rfl (fun hc => ?_) (fun hc => ?_) | refine WD.g_yes rfl rfl ?_ | refine WD.g_no rfl rfl rfl rfl ?_ | refine WD.g_undef rfl rfl rfl ?_ | refine WD.g_split rfl rfl (fun hc => ?_) (fun hc => ?_)
      | refine W.drawA ?_ | refine WL.aA (fun _ => ?_) | refine WD.aA (fun _ => ?_) | refine WL.e0A ?_ | refine WD.e0A ?_
      | refine W.cond rfl (fun hc => ?_) (fun hc => ?_))
    · have hj' : g.1 + j ≤ g.2 := by have := of_decide_eq_true hc; omega
      have hin := gap_in hgm (Nat.le_add_right g.1 j) hj'
      rw [hk1]
      refine WL.e rfl (Ef.callF (c := []) (by exact rfl) (.nil _) (fun hd => within_tr _ ((g.1 + j : Nat) : Int) (by omega) l ba bn bc (hlst.mono (fun _ h => addF_in hd h)) (by omega))) ?_
      rintro _ _ ⟨_, ⟨rfl, rfl⟩, rfl⟩
      rw [List.nil_append, Int.toNat_natCast, ← hp, hin]
      repeat' (first
        | refine W.seq ?_ | refine W.region ?_ | refine W.block ?_ | refine W.skip ?_ | refine W.exit ?_ | refine W.ret ?_ | refine W.cond_t rfl ?_ | refine W.cond_f rfl ?_ | refine WL.nil ?_ | refine WD.nil ?_ | refine Fin.next ?_ | refine Fin.then_exit ?_ | refine Fin.then_ret ?_ | refine Fin.block_normal ?_ | refine Fin.block_ret ?_ | refine Fin.block_exit ?_ | refine Fin.block_other rfl ?_
        | refine WL.pA ?_ | refine WD.pA ?_ | refine WL.sA ?_ | refine WD.sA ?_ | refine WL.g_yes rfl rfl ?_ | refine WL.g_no rfl rfl rfl rfl ?_ | refine WL.g_undef rfl rfl rfl ?_ | refine WL.g_split rfl rfl (fun hc => ?_) (fun hc => ?_) | refine WD.g_yes rfl rfl ?_ | refine WD.g_no rfl rfl rfl rfl ?_ | refine WD.g_undef rfl rfl rfl ?_ | refine WD.g_split rfl rfl (fun hc => ?_) (fun hc => ?_)
        | refine W.drawA ?_ | refine WL.aA (fun _ => ?_) | refine WD.aA (fun _ => ?_) | refine WL.e0A ?_ | refine WD.e0A ?_
        | refine W.cond rfl (fun hc => ?_) (fun hc => ?_))
      rw [hk1]
      refine WL.e rfl (Ef.callR (c := s.H) (by exact rfl) (.one _ _) (has_tr _ s hs (u32 (b + (g.1 + j : Nat))) (by rw [u32_eq]; omega))) ?_
      rintro _ _ ⟨rfl, rfl⟩
      have hhas : Spn.has s.S (u32 (b + (g.1 + j : Nat))) = true := by
        unfold Spn.has
        rw [show s.S.b = b from hbs, far_add (by omega), Int.toNat_natCast, hin, inW_iff.2 (by omega)]
        rfl
      rw [hhas]
      repeat' (first
        | refine W.seq ?_ | refine W.region ?_ | refine W.block ?_ | refine W.skip ?_ | refine W.exit ?_ | refine W.ret ?_ | refine W.cond_t rfl ?_ | refine W.cond_f rfl ?_ | refine WL.nil ?_ | refine WD.nil ?_ | refine Fin.next ?_ | refine Fin.then_exit ?_ | refine Fin.then_ret ?_ | refine Fin.block_normal ?_ | refine Fin.block_ret ?_ | refine Fin.block_exit ?_ | refine Fin.block_other rfl ?_
        | refine WL.pA ?_ | refine WD.pA ?_ | refine WL.sA ?_ | refine WD.sA ?_ | refine WL.g_yes rfl rfl ?_ | refine WL.g_no rfl rfl rfl rfl ?_ | refine WL.g_undef rfl rfl rfl ?_ | refine WL.g_split rfl rfl (fun hc => ?_) (fun hc => ?_) | refine WD.g_yes rfl rfl ?_ | refine WD.g_no rfl rfl rfl rfl ?_ | refine WD.g_undef rfl rfl rfl ?_ | refine WD.g_split rfl rfl (fun hc => ?_) (fun hc => ?_)
        | refine W.drawA ?_ | refine WL.aA (fun _ => ?_) | refine WD.aA (fun _ => ?_) | refine WL.e0A ?_ | refine WD.e0A ?_
        | refine W.cond rfl (fun hc => ?_) (fun hc => ?_))
      rw [i64_succ (i := g.1 + j) (by omega)]
      exact Fin.round (j + 1) (by omega) (sub_of (by repeat (first | exact subEnv.nil | refine subEnv.cons rfl ?_))) (fun _ h => h) (by omega)
    · have hjn : g.1 + j = g.2 + 1 := by have := of_decide_eq_false hc; omega
      have hgn := gapN_snoc hg
      have hgl := gapN_le hs.S i
      have e4 : IntKind.i64.wrap (IntKind.i64.wrap (IntKind.i64.wrap (((gapN ((gapsU s.S).take i) : Nat) : Int) + (g.2 : Nat)) - (g.1 : Nat)) + 1) = (gapN ((gapsU s.S).take (i + 1)) : Nat) := by
        rw [i64_id (n := ((gapN ((gapsU s.S).take i) : Nat) : Int) + (g.2 : Nat)) (by omega) (by omega), i64_id (n := ((gapN ((gapsU s.S).take i) : Nat) : Int) + (g.2 : Nat) - (g.1 : Nat)) (by omega) (by omega), i64_id (by omega) (by omega), hgn]
        omega
      rw [e4, i64_succ (by omega)]
      refine Fin.round (i + 1) hi' ?_ (fun _ h => h) (by omega)
      have e5 : lastG (gapsU s.S) (i + 1) = (g.2 : Nat) := by
        dsimp only [lastG]
        rw [List.getD_eq_getElem?_getD, hg]
        rfl
      rw [e5]
      exact (sub_of (by repeat (first | exact subEnv.nil | refine subEnv.cons rfl ?_)))
  · have hin : i = n1 := by have := of_decide_eq_false hc; omega
    subst hin
    rw [← hn1, List.take_length, gapN_all]
    have hcle : count s.S ≤ 4097 := dist_le _
    have hbl := hs.base
    have hlastv : Spn.last s.S = if h : 0 < i then u32 (b + (((gapsU s.S)[i - 1]'(by omega)).2 : Nat)) else b := by
      split
      · rename_i h0
        rw [last_gap hn1 (g := (gapsU s.S)[i - 1]'(by omega)) (by simp), show s.S.b = b from hbs]
      · have : gapsU s.S = [] := List.eq_nil_of_length_eq_zero (by omega)
        unfold Spn.last
        rw [gap_nil this, show s.S.b = b from hbs, u32_eq]
        simp
        omega
    refine W.loop (G := Nat) (fun g => [(0, .int .u32 b), (1, .slice ba bn bc), (5, .pointer (some ⟨s.R, 0, none⟩)), (6, .slice a1 i c1), (7, .int .i64 (count s.S)), (13, .int .i64 g)]) (fun _ => s.H ++ l1) (fun g => g ≤ bn) (fun g => bn - g) 0 (Nat.zero_le _) ?_ (fun _ h => h) ?_
    · rw [← hn1]; exact (sub_of (by repeat (first | exact subEnv.nil | refine subEnv.cons rfl ?_)))
    intro k hk
    dsimp only at hk ⊢
    repeat' (first
      | refine W.seq ?_ | refine W.region ?_ | refine W.block ?_ | refine W.skip ?_ | refine W.exit ?_ | refine W.ret ?_ | refine W.cond_t rfl ?_ | refine W.cond_f rfl ?_ | refine WL.nil ?_ | refine WD.nil ?_ | refine Fin.next ?_ | refine Fin.then_exit ?_ | refine Fin.then_ret ?_ | refine Fin.block_normal ?_ | refine Fin.block_ret ?_ | refine Fin.block_exit ?_ | refine Fin.block_other rfl ?_
      | refine WL.pA ?_ | refine WD.pA ?_ | refine WL.sA ?_ | refine WD.sA ?_ | refine WL.g_yes rfl rfl ?_ | refine WL.g_no rfl rfl rfl rfl ?_ | refine WL.g_undef rfl rfl rfl ?_ | refine WL.g_split rfl rfl (fun hc => ?_) (fun hc => ?_) | refine WD.g_yes rfl rfl ?_ | refine WD.g_no rfl rfl rfl rfl ?_ | refine WD.g_undef rfl rfl rfl ?_ | refine WD.g_split rfl rfl (fun hc => ?_) (fun hc => ?_)
      | refine W.drawA ?_ | refine WL.aA (fun _ => ?_) | refine WD.aA (fun _ => ?_) | refine WL.e0A ?_ | refine WD.e0A ?_
      | refine W.cond rfl (fun hc => ?_) (fun hc => ?_))
    · have hk' : k < bn := by have := of_decide_eq_true hc; omega
      obtain ⟨a, ha⟩ : ∃ a, l[k]? = some a := ⟨l[k]'(by omega), by simp⟩
      obtain ⟨lb, lo, rfl, hcan⟩ := lst_el hlst ha
      have hia : 0 ≤ (k : Int) ∧ (k : Int) < bn := by omega
      have ham := List.mem_of_getElem? ha
      have har := hl a ham
      have hhas : Spn.has s.S (u32 (b + a)) = (decide (1 ≤ a) && decide (a ≤ 4096)) := by
        unfold Spn.has
        rw [show s.S.b = b from hbs, far_add har, hp]
        unfold told
        rw [show ((a.toNat : Nat) : Int) = a by omega, decide_eq_true ham, Bool.and_true, Bool.and_self]
        by_cases h1 : 1 ≤ a ∧ a ≤ 4096
        · rw [inW_iff.2 (by omega)]; simp [h1]
        · have : inW a.toNat = false := by
            cases hq : inW a.toNat with
            | false => rfl
            | true => have := inW_iff.1 hq; omega
          rw [this]
          simp
          omega
      repeat' (first
        | refine W.seq ?_ | refine W.region ?_ | refine W.block ?_ | refine W.skip ?_ | refine W.exit ?_ | refine W.ret ?_ | refine W.cond_t rfl ?_ | refine W.cond_f rfl ?_ | refine WL.nil ?_ | refine WD.nil ?_ | refine Fin.next ?_ | refine Fin.then_exit ?_ | refine Fin.then_ret ?_ | refine Fin.block_normal ?_ | refine Fin.block_ret ?_ | refine Fin.block_exit ?_ | refine Fin.block_other rfl ?_
        | refine WL.pA ?_ | refine WD.pA ?_ | refine WL.sA ?_ | refine WD.sA ?_ | refine WL.g_yes rfl rfl ?_ | refine WL.g_no rfl rfl rfl rfl ?_ | refine WL.g_undef rfl rfl rfl ?_ | refine WL.g_split rfl rfl (fun hc => ?_) (fun hc => ?_) | refine WD.g_yes rfl rfl ?_ | refine WD.g_no rfl rfl rfl rfl ?_ | refine WD.g_undef rfl rfl rfl ?_ | refine WD.g_split rfl rfl (fun hc => ?_) (fun hc => ?_)
        | refine W.drawA ?_ | refine WL.aA (fun _ => ?_) | refine WD.aA (fun _ => ?_) | refine WL.e0A ?_ | refine WD.e0A ?_
        | refine W.cond rfl (fun hc => ?_) (fun hc => ?_))
      refine WD.e rfl (Ef.callR (c := s.H) (by exact rfl) (.one _ _) (has_tr _ s hs (u32 (b + a)) (by rw [u32_eq]; omega))) ?_
      rintro _ _ ⟨rfl, rfl⟩
      refine ⟨by first | (refine Or.inr (fun _ h => h.sublist ?_); (repeat (first | exact List.Sublist.refl _ | refine List.Sublist.cons_cons _ ?_ | refine List.Sublist.cons _ ?_)); first | done | fail) | exact Or.inl (by kernel_rfl), ?_⟩
      rw [hhas]
      repeat' (first
        | refine W.seq ?_ | refine W.region ?_ | refine W.block ?_ | refine W.skip ?_ | refine W.exit ?_ | refine W.ret ?_ | refine W.cond_t rfl ?_ | refine W.cond_f rfl ?_ | refine WL.nil ?_ | refine WD.nil ?_ | refine Fin.next ?_ | refine Fin.then_exit ?_ | refine Fin.then_ret ?_ | refine Fin.block_normal ?_ | refine Fin.block_ret ?_ | refine Fin.block_exit ?_ | refine Fin.block_other rfl ?_
        | refine WL.pA ?_ | refine WD.pA ?_ | refine WL.sA ?_ | refine WD.sA ?_ | refine WL.g_yes rfl rfl ?_ | refine WL.g_no rfl rfl rfl rfl ?_ | refine WL.g_undef rfl rfl rfl ?_ | refine WL.g_split rfl rfl (fun hc => ?_) (fun hc => ?_) | refine WD.g_yes rfl rfl ?_ | refine WD.g_no rfl rfl rfl rfl ?_ | refine WD.g_undef rfl rfl rfl ?_ | refine WD.g_split rfl rfl (fun hc => ?_) (fun hc => ?_)
        | refine W.drawA ?_ | refine WL.aA (fun _ => ?_) | refine WD.aA (fun _ => ?_) | refine WL.e0A ?_ | refine WD.e0A ?_
        | refine W.cond rfl (fun hc => ?_) (fun hc => ?_))
      all_goals first
        | (exfalso; simp_all; done)
        | (rw [i64_succ (by omega)]; exact Fin.round (k + 1) hk' (sub_of (by repeat (first | exact subEnv.nil | refine subEnv.cons rfl ?_))) (fun _ h => h) (by omega))
        | (exfalso; simp at *; omega)
    · have h0 : 0 < i := by have := of_decide_eq_true hc; omega
      rw [dif_pos h0] at hlastv
      have hg : (gapsU s.S)[i - 1]? = some ((gapsU s.S)[i - 1]'(by omega)) := by simp
      obtain ⟨gb, go, rfl, hcan⟩ := hlist.el (cells := gCells) (fun _ => rfl) hg (by omega)
      have hgm := List.mem_of_getElem? hg
      have hgr := gap_rng hs.S hgm
      generalize (gapsU s.S)[i - 1]'(by omega) = g at *
      have e0 : IntKind.i64.wrap ((i : Int) - 1) = ((i - 1 : Nat) : Int) := by rw [i64_id (by omega) (by omega)]; omega
      have hia : 0 ≤ IntKind.i64.wrap ((i : Int) - 1) ∧ IntKind.i64.wrap ((i : Int) - 1) < i := by rw [e0]; omega
      have hc2 : Sl.Can F (s.H ++ l1) gb (go + (IntKind.i64.wrap ((i : Int) - 1)).toNat * 2 + 1) [.int .u16 g.2] := by rw [e0]; exact hcan.one (i := 1) rfl
      refine WD.e rfl (Ef.callR (c := s.H) (by exact rfl) (.one _ _) (last_tr _ s hs)) ?_
      rintro _ _ ⟨rfl, rfl⟩
      refine ⟨by first | (refine Or.inr (fun _ h => h.sublist ?_); (repeat (first | exact List.Sublist.refl _ | refine List.Sublist.cons_cons _ ?_ | refine List.Sublist.cons _ ?_)); first | done | fail) | exact Or.inl (by kernel_rfl), ?_⟩
      rw [hlastv]
      have e1 : IntKind.u32.wrap ((g.2 : Nat) : Int) = g.2 := u32_id (by omega)
      have d1 : ¬ ((u32 (b + (g.2 : Nat)) != IntKind.u32.wrap (b + IntKind.u32.wrap ((g.2 : Nat) : Int))) = true) := by rw [e1]; simp [u32]
      have d2 : ¬ (((i : Int) == 0) = true) := by simp; omega
      repeat' (first
        | refine W.seq ?_ | refine W.region ?_ | refine W.block ?_ | refine W.skip ?_ | refine W.exit ?_ | refine W.ret ?_ | refine W.cond_t rfl ?_ | refine W.cond_f rfl ?_ | refine WL.nil ?_ | refine WD.nil ?_ | refine Fin.next ?_ | refine Fin.then_exit ?_ | refine Fin.then_ret ?_ | refine Fin.block_normal ?_ | refine Fin.block_ret ?_ | refine Fin.block_exit ?_ | refine Fin.block_other rfl ?_
        | refine WL.pA ?_ | refine WD.pA ?_ | refine WL.sA ?_ | refine WD.sA ?_ | refine WL.g_yes rfl rfl ?_ | refine WL.g_no rfl rfl rfl rfl ?_ | refine WL.g_undef rfl rfl rfl ?_ | refine WL.g_split rfl rfl (fun hc => ?_) (fun hc => ?_) | refine WD.g_yes rfl rfl ?_ | refine WD.g_no rfl rfl rfl rfl ?_ | refine WD.g_undef rfl rfl rfl ?_ | refine WD.g_split rfl rfl (fun hc => ?_) (fun hc => ?_)
        | refine W.drawA ?_ | refine WL.aA (fun _ => ?_) | refine WD.aA (fun _ => ?_) | refine WL.e0A ?_ | refine WD.e0A ?_
        | refine W.cond rfl (fun hc => ?_) (fun hc => ?_))
      all_goals try contradiction
      refine WL.e rfl (Ef.callR (c := s.H) (by exact rfl) (.one _ _) (count_tr _ s hs)) ?_
      rintro _ _ ⟨rfl, rfl⟩
      repeat' (first
        | refine W.seq ?_ | refine W.region ?_ | refine W.block ?_ | refine W.skip ?_ | refine W.exit ?_ | refine W.ret ?_ | refine W.cond_t rfl ?_ | refine W.cond_f rfl ?_ | refine WL.nil ?_ | refine WD.nil ?_ | refine Fin.next ?_ | refine Fin.then_exit ?_ | refine Fin.then_ret ?_ | refine Fin.block_normal ?_ | refine Fin.block_ret ?_ | refine Fin.block_exit ?_ | refine Fin.block_other rfl ?_
        | refine WL.pA ?_ | refine WD.pA ?_ | refine WL.sA ?_ | refine WD.sA ?_ | refine WL.g_yes rfl rfl ?_ | refine WL.g_no rfl rfl rfl rfl ?_ | refine WL.g_undef rfl rfl rfl ?_ | refine WL.g_split rfl rfl (fun hc => ?_) (fun hc => ?_) | refine WD.g_yes rfl rfl ?_ | refine WD.g_no rfl rfl rfl rfl ?_ | refine WD.g_undef rfl rfl rfl ?_ | refine WD.g_split rfl rfl (fun hc => ?_) (fun hc => ?_)
        | refine W.drawA ?_ | refine WL.aA (fun _ => ?_) | refine WD.aA (fun _ => ?_) | refine WL.e0A ?_ | refine WD.e0A ?_
        | refine W.cond rfl (fun hc => ?_) (fun hc => ?_))
      rotate_left
      · exfalso; simp at hc
      refine WL.e rfl (Ef.callR (by exact rfl) (.nil _) (works_tr _)) ?_
      rintro _ _ ⟨rfl, rfl⟩
      repeat' (first
        | refine W.seq ?_ | refine W.region ?_ | refine W.block ?_ | refine W.skip ?_ | refine W.exit ?_ | refine W.ret ?_ | refine W.cond_t rfl ?_ | refine W.cond_f rfl ?_ | refine WL.nil ?_ | refine WD.nil ?_ | refine Fin.next ?_ | refine Fin.then_exit ?_ | refine Fin.then_ret ?_ | refine Fin.block_normal ?_ | refine Fin.block_ret ?_ | refine Fin.block_exit ?_ | refine Fin.block_other rfl ?_
        | refine WL.pA ?_ | refine WD.pA ?_ | refine WL.sA ?_ | refine WD.sA ?_ | refine WL.g_yes rfl rfl ?_ | refine WL.g_no rfl rfl rfl rfl ?_ | refine WL.g_undef rfl rfl rfl ?_ | refine WL.g_split rfl rfl (fun hc => ?_) (fun hc => ?_) | refine WD.g_yes rfl rfl ?_ | refine WD.g_no rfl rfl rfl rfl ?_ | refine WD.g_undef rfl rfl rfl ?_ | refine WD.g_split rfl rfl (fun hc => ?_) (fun hc => ?_)
        | refine W.drawA ?_ | refine WL.aA (fun _ => ?_) | refine WD.aA (fun _ => ?_) | refine WL.e0A ?_ | refine WD.e0A ?_
        | refine W.cond rfl (fun hc => ?_) (fun hc => ?_))
      exact Fin.retW (by exact rfl) (by repeat' (first | exact Res.nil | exact rfl | exact CutAt.here rfl | exact CellAt.here rfl | apply CutAt.there | apply CellAt.there | apply CutAt.right | apply CellAt.right | apply Res.tmp | apply Res.agg' | apply Res.cell')) (fun _ h => h.sublist (List.nil_sublist _)) ⟨rfl, rfl⟩
    · have h0 : i = 0 := by have := of_decide_eq_false (by assumption : decide ((i : Int) > 0) = false); omega
      rw [dif_neg (by omega)] at hlastv
      refine WD.e rfl (Ef.callR (c := s.H) (by exact rfl) (.one _ _) (last_tr _ s hs)) ?_
      rintro _ _ ⟨rfl, rfl⟩
      refine ⟨by first | (refine Or.inr (fun _ h => h.sublist ?_); (repeat (first | exact List.Sublist.refl _ | refine List.Sublist.cons_cons _ ?_ | refine List.Sublist.cons _ ?_)); first | done | fail) | exact Or.inl (by kernel_rfl), ?_⟩
      rw [hlastv]
      repeat' (first
        | refine W.seq ?_ | refine W.region ?_ | refine W.block ?_ | refine W.skip ?_ | refine W.exit ?_ | refine W.ret ?_ | refine W.cond_t rfl ?_ | refine W.cond_f rfl ?_ | refine WL.nil ?_ | refine WD.nil ?_ | refine Fin.next ?_ | refine Fin.then_exit ?_ | refine Fin.then_ret ?_ | refine Fin.block_normal ?_ | refine Fin.block_ret ?_ | refine Fin.block_exit ?_ | refine Fin.block_other rfl ?_
        | refine WL.pA ?_ | refine WD.pA ?_ | refine WL.sA ?_ | refine WD.sA ?_ | refine WL.g_yes rfl rfl ?_ | refine WL.g_no rfl rfl rfl rfl ?_ | refine WL.g_undef rfl rfl rfl ?_ | refine WL.g_split rfl rfl (fun hc => ?_) (fun hc => ?_) | refine WD.g_yes rfl rfl ?_ | refine WD.g_no rfl rfl rfl rfl ?_ | refine WD.g_undef rfl rfl rfl ?_ | refine WD.g_split rfl rfl (fun hc => ?_) (fun hc => ?_)
        | refine W.drawA ?_ | refine WL.aA (fun _ => ?_) | refine WD.aA (fun _ => ?_) | refine WL.e0A ?_ | refine WD.e0A ?_
        | refine W.cond rfl (fun hc => ?_) (fun hc => ?_))
      · exfalso; simp at *
      refine WL.e rfl (Ef.callR (c := s.H) (by exact rfl) (.one _ _) (count_tr _ s hs)) ?_
      rintro _ _ ⟨rfl, rfl⟩
      repeat' (first
        | refine W.seq ?_ | refine W.region ?_ | refine W.block ?_ | refine W.skip ?_ | refine W.exit ?_ | refine W.ret ?_ | refine W.cond_t rfl ?_ | refine W.cond_f rfl ?_ | refine WL.nil ?_ | refine WD.nil ?_ | refine Fin.next ?_ | refine Fin.then_exit ?_ | refine Fin.then_ret ?_ | refine Fin.block_normal ?_ | refine Fin.block_ret ?_ | refine Fin.block_exit ?_ | refine Fin.block_other rfl ?_
        | refine WL.pA ?_ | refine WD.pA ?_ | refine WL.sA ?_ | refine WD.sA ?_ | refine WL.g_yes rfl rfl ?_ | refine WL.g_no rfl rfl rfl rfl ?_ | refine WL.g_undef rfl rfl rfl ?_ | refine WL.g_split rfl rfl (fun hc => ?_) (fun hc => ?_) | refine WD.g_yes rfl rfl ?_ | refine WD.g_no rfl rfl rfl rfl ?_ | refine WD.g_undef rfl rfl rfl ?_ | refine WD.g_split rfl rfl (fun hc => ?_) (fun hc => ?_)
        | refine W.drawA ?_ | refine WL.aA (fun _ => ?_) | refine WD.aA (fun _ => ?_) | refine WL.e0A ?_ | refine WD.e0A ?_
        | refine W.cond rfl (fun hc => ?_) (fun hc => ?_))
      rotate_left
      · exfalso; simp at hc
      refine WL.e rfl (Ef.callR (by exact rfl) (.nil _) (works_tr _)) ?_
      rintro _ _ ⟨rfl, rfl⟩
      repeat' (first
        | refine W.seq ?_ | refine W.region ?_ | refine W.block ?_ | refine W.skip ?_ | refine W.exit ?_ | refine W.ret ?_ | refine W.cond_t rfl ?_ | refine W.cond_f rfl ?_ | refine WL.nil ?_ | refine WD.nil ?_ | refine Fin.next ?_ | refine Fin.then_exit ?_ | refine Fin.then_ret ?_ | refine Fin.block_normal ?_ | refine Fin.block_ret ?_ | refine Fin.block_exit ?_ | refine Fin.block_other rfl ?_
        | refine WL.pA ?_ | refine WD.pA ?_ | refine WL.sA ?_ | refine WD.sA ?_ | refine WL.g_yes rfl rfl ?_ | refine WL.g_no rfl rfl rfl rfl ?_ | refine WL.g_undef rfl rfl rfl ?_ | refine WL.g_split rfl rfl (fun hc => ?_) (fun hc => ?_) | refine WD.g_yes rfl rfl ?_ | refine WD.g_no rfl rfl rfl rfl ?_ | refine WD.g_undef rfl rfl rfl ?_ | refine WD.g_split rfl rfl (fun hc => ?_) (fun hc => ?_)
        | refine W.drawA ?_ | refine WL.aA (fun _ => ?_) | refine WD.aA (fun _ => ?_) | refine WL.e0A ?_ | refine WD.e0A ?_
        | refine W.cond rfl (fun hc => ?_) (fun hc => ?_))
      exact Fin.retW (by exact rfl) (by repeat' (first | exact Res.nil | exact rfl | exact CutAt.here rfl | exact CellAt.here rfl | apply CutAt.there | apply CellAt.there | apply CutAt.right | apply CellAt.right | apply Res.tmp | apply Res.agg' | apply Res.cell')) (fun _ h => h.sublist (List.nil_sublist _)) ⟨rfl, rfl⟩
    · exfalso
      have h1 := of_decide_eq_false (by assumption : decide ((i : Int) > 0) = false)
      simp at hc
      omega
end Go.Proofs.Ytkncbiepmgdgeaa
