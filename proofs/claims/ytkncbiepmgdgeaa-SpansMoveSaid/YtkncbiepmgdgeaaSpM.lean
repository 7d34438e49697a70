/- The law SpansMove, walked. Conditions: what the arguments' cells are. -/
import Derived.Test.YtkncbiepmgdgeaaSpK
namespace Go.Proofs.Ytkncbiepmgdgeaa
open Go Go.Sl Go.Spn

theorem move_shift {s : Spn.S} (h : s.ok) {x : Int} (hw : inW (far s.b x) = true) : Spn.move s x = Spn.shift s (Spn.moveN s x) := by
  unfold Spn.move Spn.moveN
  rw [if_pos hw, if_pos hw]
  exact shift_shift h _ _
set_option maxRecDepth 20000 in
set_option maxHeartbeats 8000000 in
theorem moveLaw_tr (F : Nat → Option Obj) (b : Int) (hb : 0 ≤ b ∧ b < 4294967296) (l : List Int) (hl : ∀ a ∈ l, 0 ≤ a ∧ a < 4294967296) (ba : Option Addr) (bn bc : Nat) (hlst : Lst F [] 1 (l.map (Value.int .u32)) ba bn bc) (to : Int) (hto : 0 ≤ to ∧ to < 4294967296) :
    Tr Try.prog 8 [.int .u32 b, .slice ba bn bc, .int .u32 to].toArray F [] (fun v H => v = .bool true ∧ H = []) := by
  refine Tr.enter Try.func8 rfl Try.ntmps8 rfl (fun w0 => ?_)
  have hbn := lst_int hlst
  repeat' (first
    | refine W.seq ?_ | refine W.region ?_ | refine W.block ?_ | refine W.skip ?_ | refine W.exit ?_ | refine W.ret ?_ | refine W.cond_t rfl ?_ | refine W.cond_f rfl ?_ | refine WL.nil ?_ | refine WD.nil ?_ | refine Fin.next ?_ | refine Fin.then_exit ?_ | refine Fin.then_ret ?_ | refine Fin.block_normal ?_ | refine Fin.block_ret ?_ | refine Fin.block_exit ?_ | refine Fin.block_other rfl ?_
    | refine WL.pA ?_ | refine WD.pA ?_ | refine WL.sA ?_ | refine WD.sA ?_ | refine WL.g_yes rfl rfl ?_ | refine WL.g_no rfl rfl rfl rfl ?_ | refine WL.g_undef rfl rfl rfl ?_ | refine WL.g_split rfl rfl (fun hc => ?_) (fun hc => ?_) | refine WD.g_yes rfl rfl ?_ | refine WD.g_no rfl rfl rfl rfl ?_ | refine WD.g_undef rfl rfl rfl ?_ | refine WD.g_split rfl rfl (fun hc => ?_) (fun hc => ?_)
    | refine W.drawA ?_ | refine WL.aA (fun _ => ?_) | refine WD.aA (fun _ => ?_) | refine WL.e0A ?_ | refine WD.e0A ?_
    | refine W.cond rfl (fun hc => ?_) (fun hc => ?_))
  · refine WL.e rfl (Ef.callR (by exact rfl) (.nil _) (works_tr _)) ?_
    rintro _ _ ⟨rfl, rfl⟩
    repeat' (first
      | refine W.seq ?_ | refine W.region ?_ | refine W.block ?_ | refine W.skip ?_ | refine W.exit ?_ | refine W.ret ?_ | refine W.cond_t rfl ?_ | refine W.cond_f rfl ?_ | refine WL.nil ?_ | refine WD.nil ?_ | refine Fin.next ?_ | refine Fin.then_exit ?_ | refine Fin.then_ret ?_ | refine Fin.block_normal ?_ | refine Fin.block_ret ?_ | refine Fin.block_exit ?_ | refine Fin.block_other rfl ?_
      | refine WL.pA ?_ | refine WD.pA ?_ | refine WL.sA ?_ | refine WD.sA ?_ | refine WL.g_yes rfl rfl ?_ | refine WL.g_no rfl rfl rfl rfl ?_ | refine WL.g_undef rfl rfl rfl ?_ | refine WL.g_split rfl rfl (fun hc => ?_) (fun hc => ?_) | refine WD.g_yes rfl rfl ?_ | refine WD.g_no rfl rfl rfl rfl ?_ | refine WD.g_undef rfl rfl rfl ?_ | refine WD.g_split rfl rfl (fun hc => ?_) (fun hc => ?_)
      | refine W.drawA ?_ | refine WL.aA (fun _ => ?_) | refine WD.aA (fun _ => ?_) | refine WL.e0A ?_ | refine WD.e0A ?_
      | refine W.cond rfl (fun hc => ?_) (fun hc => ?_))
    exact Fin.retW (by exact rfl) (by repeat' (first | exact Res.nil | exact rfl | exact CutAt.here rfl | exact CellAt.here rfl | apply CutAt.there | apply CellAt.there | apply CutAt.right | apply CellAt.right | apply Res.tmp | apply Res.agg' | apply Res.cell')) (fun _ h => h) ⟨rfl, rfl⟩
  have h200 : bn ≤ 200 := by have := of_decide_eq_false hc; omega
  refine WL.e rfl (Ef.callF (by exact rfl) (.nil _) (fun hd => filled_tr _ b hb l hl ba bn bc (hlst.mono (fun _ h => addF_in hd h)) (by omega))) ?_
  rintro _ _ ⟨_, ⟨s, hs, rfl, rfl, hS⟩, rfl⟩
  rw [List.append_nil]
  have hok : (fill b l).ok := fill_ok hb hl
  have hfe := fill_eq (b := b) hl
  have hbs : s.base = b := by have := congrArg Spn.S.b hS; rw [hfe] at this; exact this
  repeat' (first
    | refine W.seq ?_ | refine W.region ?_ | refine W.block ?_ | refine W.skip ?_ | refine W.exit ?_ | refine W.ret ?_ | refine W.cond_t rfl ?_ | refine W.cond_f rfl ?_ | refine WL.nil ?_ | refine WD.nil ?_ | refine Fin.next ?_ | refine Fin.then_exit ?_ | refine Fin.then_ret ?_ | refine Fin.block_normal ?_ | refine Fin.block_ret ?_ | refine Fin.block_exit ?_ | refine Fin.block_other rfl ?_
    | refine WL.pA ?_ | refine WD.pA ?_ | refine WL.sA ?_ | refine WD.sA ?_ | refine WL.g_yes rfl rfl ?_ | refine WL.g_no rfl rfl rfl rfl ?_ | refine WL.g_undef rfl rfl rfl ?_ | refine WL.g_split rfl rfl (fun hc => ?_) (fun hc => ?_) | refine WD.g_yes rfl rfl ?_ | refine WD.g_no rfl rfl rfl rfl ?_ | refine WD.g_undef rfl rfl rfl ?_ | refine WD.g_split rfl rfl (fun hc => ?_) (fun hc => ?_)
    | refine W.drawA ?_ | refine WL.aA (fun _ => ?_) | refine WD.aA (fun _ => ?_) | refine WL.e0A ?_ | refine WD.e0A ?_
    | refine W.cond rfl (fun hc => ?_) (fun hc => ?_))
  refine WL.e rfl (Ef.call (by exact rfl) (.all _) (gaps_tr _ s hs 4096 (by decide))) ?_
  rintro _ _ ⟨_, ⟨a1, n1, c1, l1, rfl, ho1, rfl⟩, rfl⟩
  rw [gaps_all hs.S (by decide)] at ho1
  rw [List.append_nil]
  have hul := gapsU_len hs.S
  repeat' (first
    | refine W.seq ?_ | refine W.region ?_ | refine W.block ?_ | refine W.skip ?_ | refine W.exit ?_ | refine W.ret ?_ | refine W.cond_t rfl ?_ | refine W.cond_f rfl ?_ | refine WL.nil ?_ | refine WD.nil ?_ | refine Fin.next ?_ | refine Fin.then_exit ?_ | refine Fin.then_ret ?_ | refine Fin.block_normal ?_ | refine Fin.block_ret ?_ | refine Fin.block_exit ?_ | refine Fin.block_other rfl ?_
    | refine WL.pA ?_ | refine WD.pA ?_ | refine WL.sA ?_ | refine WD.sA ?_ | refine WL.g_yes rfl rfl ?_ | refine WL.g_no rfl rfl rfl rfl ?_ | refine WL.g_undef rfl rfl rfl ?_ | refine WL.g_split rfl rfl (fun hc => ?_) (fun hc => ?_) | refine WD.g_yes rfl rfl ?_ | refine WD.g_no rfl rfl rfl rfl ?_ | refine WD.g_undef rfl rfl rfl ?_ | refine WD.g_split rfl rfl (fun hc => ?_) (fun hc => ?_)
    | refine W.drawA ?_ | refine WL.aA (fun _ => ?_) | refine WD.aA (fun _ => ?_) | refine WL.e0A ?_ | refine WD.e0A ?_
    | refine W.cond rfl (fun hc => ?_) (fun hc => ?_))
  refine WL.e rfl (Ef.call (c := s.H) (by exact rfl) (.one _ _) (move_tr _ s hs (u32 (b + to)) (by rw [u32_eq]; omega))) ?_
  rintro _ _ ⟨_, ⟨rfl, s1, hs1, rfl, hR1, hS1⟩, rfl⟩
  rw [← hR1]
  have hfar : far s.S.b (u32 (b + to)) = to.toNat := by rw [show s.S.b = b from hbs]; exact far_add hto
  by_cases hw : inW to.toNat = true
  · have hw2 := inW_iff.1 hw
    have hw3 : inW (far s.S.b (u32 (b + to))) = true := by rw [hfar]; exact hw
    rw [move_shift hs.S hw3] at hS1
    obtain ⟨f, hf⟩ : ∃ f, fol (Spn.shift s.S to.toNat) = f := ⟨_, rfl⟩
    have hfl : f ≤ 4096 := by rw [← hf]; exact fol_le _
    have hn : Spn.moveN s.S (u32 (b + to)) = to.toNat + f := by unfold Spn.moveN; rw [if_pos hw3, hfar, hf]
    rw [hn] at hS1 ⊢
    obtain ⟨n, hnn⟩ : ∃ n, to.toNat + f = n := ⟨_, rfl⟩
    rw [hnn] at hS1 ⊢
    have hshok : (Spn.shift s.S to.toNat).ok := shift_ok hs.S _
    have hsp : ∀ d, (Spn.shift s.S to.toNat).p d = (inW d && told l (d + to.toNat)) := fun d => by rw [hS, hfe]; rfl
    have hp1 : ∀ d, s1.S.p d = (inW d && told l (d + n)) := fun d => by rw [hS1, hS, hfe]; rfl
    have hb1 : s1.base = u32 (b + n) := by
      have h1 := congrArg Spn.S.b hS1
      have h2 : (Spn.shift s.S n).b = u32 (s.S.b + n) := rfl
      rw [h2, show s.S.b = b from hbs] at h1
      exact h1
    have hall : ∀ k, to.toNat < k → k ≤ n → told l k = true := fun k h1 h2 => by
      have := fol_all (s := Spn.shift s.S to.toNat) (k := k - to.toNat) (by omega) (by omega)
      rw [hsp, show k - to.toNat + to.toNat = k by omega, Bool.and_eq_true] at this
      exact this.2
    have hstop : told l (n + 1) = false := by
      have := fol_stop hshok
      rw [hsp, hf, show f + 1 + to.toNat = n + 1 by omega] at this
      cases ht : told l (n + 1) with
      | false => rfl
      | true =>
        rw [ht, Bool.and_true] at this
        unfold told at ht
        rw [Bool.and_eq_true] at ht
        have h1 := inW_iff.1 ht.1
        rw [inW_iff.2 (show 1 ≤ f + 1 ∧ f + 1 ≤ 4096 by omega)] at this
        cases this
    have e1 : IntKind.i64.wrap to = to := i64_id (by omega) (by omega)
    have e2 : IntKind.u32.wrap (n : Int) = n := u32_id (by omega)
    have e3 : decide ((n : Int) < IntKind.i64.wrap to) = false := by rw [e1]; simp; omega
    repeat' (first
      | refine W.seq ?_ | refine W.region ?_ | refine W.block ?_ | refine W.skip ?_ | refine W.exit ?_ | refine W.ret ?_ | refine W.cond_t rfl ?_ | refine W.cond_f rfl ?_ | refine WL.nil ?_ | refine WD.nil ?_ | refine Fin.next ?_ | refine Fin.then_exit ?_ | refine Fin.then_ret ?_ | refine Fin.block_normal ?_ | refine Fin.block_ret ?_ | refine Fin.block_exit ?_ | refine Fin.block_other rfl ?_
      | refine WL.pA ?_ | refine WD.pA ?_ | refine WL.sA ?_ | refine WD.sA ?_ | refine WL.g_yes rfl rfl ?_ | refine WL.g_no rfl rfl rfl rfl ?_ | refine WL.g_undef rfl rfl rfl ?_ | refine WL.g_split rfl rfl (fun hc => ?_) (fun hc => ?_) | refine WD.g_yes rfl rfl ?_ | refine WD.g_no rfl rfl rfl rfl ?_ | refine WD.g_undef rfl rfl rfl ?_ | refine WD.g_split rfl rfl (fun hc => ?_) (fun hc => ?_)
      | refine W.drawA ?_ | refine WL.aA (fun _ => ?_) | refine WD.aA (fun _ => ?_) | refine WL.e0A ?_ | refine WD.e0A ?_
      | refine W.cond rfl (fun hc => ?_) (fun hc => ?_))
    all_goals try (exfalso; have := of_decide_eq_true (by assumption : decide (to < 1) = true); omega)
    all_goals try (exfalso; have := of_decide_eq_true (by assumption : decide (to > 4096) = true); omega)
    · exfalso; rw [e3] at hc; cases hc
    refine WL.e rfl (Ef.callR (c := s1.H) (by exact rfl) (.one _ _) (base_tr _ s1)) ?_
    rintro _ _ ⟨rfl, rfl⟩
    rw [hb1]
    repeat' (first
      | refine W.seq ?_ | refine W.region ?_ | refine W.block ?_ | refine W.skip ?_ | refine W.exit ?_ | refine W.ret ?_ | refine W.cond_t rfl ?_ | refine W.cond_f rfl ?_ | refine WL.nil ?_ | refine WD.nil ?_ | refine Fin.next ?_ | refine Fin.then_exit ?_ | refine Fin.then_ret ?_ | refine Fin.block_normal ?_ | refine Fin.block_ret ?_ | refine Fin.block_exit ?_ | refine Fin.block_other rfl ?_
      | refine WL.pA ?_ | refine WD.pA ?_ | refine WL.sA ?_ | refine WD.sA ?_ | refine WL.g_yes rfl rfl ?_ | refine WL.g_no rfl rfl rfl rfl ?_ | refine WL.g_undef rfl rfl rfl ?_ | refine WL.g_split rfl rfl (fun hc => ?_) (fun hc => ?_) | refine WD.g_yes rfl rfl ?_ | refine WD.g_no rfl rfl rfl rfl ?_ | refine WD.g_undef rfl rfl rfl ?_ | refine WD.g_split rfl rfl (fun hc => ?_) (fun hc => ?_)
      | refine W.drawA ?_ | refine WL.aA (fun _ => ?_) | refine WD.aA (fun _ => ?_) | refine WL.e0A ?_ | refine WD.e0A ?_
      | refine W.cond rfl (fun hc => ?_) (fun hc => ?_))
    · exfalso; rw [e2] at hc; simp at hc
    rw [e1, show IntKind.i64.wrap (to + 1) = ((to.toNat + 1 : Nat) : Int) by rw [i64_id (by omega) (by omega)]; omega]
    refine W.loop (G := Nat) (fun g => [(0, .int .u32 b), (1, .slice ba bn bc), (7, .pointer (some ⟨s1.R, 0, none⟩)), (9, .int .i64 n), (10, .int .i64 (to.toNat + 1 + g : Nat))]) (fun _ => s1.H) (fun g => to.toNat + g ≤ n) (fun g => n - (to.toNat + g)) 0 (by omega) (sub_of (by repeat (first | exact subEnv.nil | refine subEnv.cons rfl ?_))) (fun _ h => h.left) ?_
    intro k hk
    dsimp only at hk ⊢
    have hk1 : IntKind.u32.wrap ((to.toNat + 1 + k : Nat) : Int) = (to.toNat + 1 + k : Nat) := u32_id (by omega)
    repeat' (first
      | refine W.seq ?_ | refine W.region ?_ | refine W.block ?_ | refine W.skip ?_ | refine W.exit ?_ | refine W.ret ?_ | refine W.cond_t rfl ?_ | refine W.cond_f rfl ?_ | refine WL.nil ?_ | refine WD.nil ?_ | refine Fin.next ?_ | refine Fin.then_exit ?_ | refine Fin.then_ret ?_ | refine Fin.block_normal ?_ | refine Fin.block_ret ?_ | refine Fin.block_exit ?_ | refine Fin.block_other rfl ?_
      | refine WL.pA ?_ | refine WD.pA ?_ | refine WL.sA ?_ | refine WD.sA ?_ | refine WL.g_yes rfl rfl ?_ | refine WL.g_no rfl rfl rfl rfl ?_ | refine WL.g_undef rfl rfl rfl ?_ | refine WL.g_split rfl rfl (fun hc => ?_) (fun hc => ?_) | refine WD.g_yes rfl rfl ?_ | refine WD.g_no rfl rfl rfl rfl ?_ | refine WD.g_undef rfl rfl rfl ?_ | refine WD.g_split rfl rfl (fun hc => ?_) (fun hc => ?_)
      | refine W.drawA ?_ | refine WL.aA (fun _ => ?_) | refine WD.aA (fun _ => ?_) | refine WL.e0A ?_ | refine WD.e0A ?_
      | refine W.cond rfl (fun hc => ?_) (fun hc => ?_))
    · have hk' : to.toNat + 1 + k ≤ n := by have := of_decide_eq_true hc; omega
      rw [hk1]
      refine WL.e rfl (Ef.callF (c := []) (by exact rfl) (.nil _) (fun hd => within_tr _ ((to.toNat + 1 + k : Nat) : Int) (by omega) l ba bn bc (hlst.mono (fun _ h => addF_in hd h)) (by omega))) ?_
      rintro _ _ ⟨_, ⟨rfl, rfl⟩, rfl⟩
      rw [List.nil_append, Int.toNat_natCast, hall _ (by omega) (by omega)]
      repeat' (first
        | refine W.seq ?_ | refine W.region ?_ | refine W.block ?_ | refine W.skip ?_ | refine W.exit ?_ | refine W.ret ?_ | refine W.cond_t rfl ?_ | refine W.cond_f rfl ?_ | refine WL.nil ?_ | refine WD.nil ?_ | refine Fin.next ?_ | refine Fin.then_exit ?_ | refine Fin.then_ret ?_ | refine Fin.block_normal ?_ | refine Fin.block_ret ?_ | refine Fin.block_exit ?_ | refine Fin.block_other rfl ?_
        | refine WL.pA ?_ | refine WD.pA ?_ | refine WL.sA ?_ | refine WD.sA ?_ | refine WL.g_yes rfl rfl ?_ | refine WL.g_no rfl rfl rfl rfl ?_ | refine WL.g_undef rfl rfl rfl ?_ | refine WL.g_split rfl rfl (fun hc => ?_) (fun hc => ?_) | refine WD.g_yes rfl rfl ?_ | refine WD.g_no rfl rfl rfl rfl ?_ | refine WD.g_undef rfl rfl rfl ?_ | refine WD.g_split rfl rfl (fun hc => ?_) (fun hc => ?_)
        | refine W.drawA ?_ | refine WL.aA (fun _ => ?_) | refine WD.aA (fun _ => ?_) | refine WL.e0A ?_ | refine WD.e0A ?_
        | refine W.cond rfl (fun hc => ?_) (fun hc => ?_))
      rw [i64_succ (i := to.toNat + 1 + k) (by omega)]
      exact Fin.round (k + 1) (by omega) (sub_of (by repeat (first | exact subEnv.nil | refine subEnv.cons rfl ?_))) (fun _ h => h) (by omega)
    · rw [e2, show IntKind.u32.wrap ((n : Int) + 1) = ((n + 1 : Nat) : Int) from u32_id (by omega)]
      refine WL.e rfl (Ef.callF (c := []) (by exact rfl) (.nil _) (fun hd => within_tr _ ((n + 1 : Nat) : Int) (by omega) l ba bn bc (hlst.mono (fun _ h => addF_in hd h)) (by omega))) ?_
      rintro _ _ ⟨_, ⟨rfl, rfl⟩, rfl⟩
      rw [List.nil_append, Int.toNat_natCast, hstop]
      repeat' (first
        | refine W.seq ?_ | refine W.region ?_ | refine W.block ?_ | refine W.skip ?_ | refine W.exit ?_ | refine W.ret ?_ | refine W.cond_t rfl ?_ | refine W.cond_f rfl ?_ | refine WL.nil ?_ | refine WD.nil ?_ | refine Fin.next ?_ | refine Fin.then_exit ?_ | refine Fin.then_ret ?_ | refine Fin.block_normal ?_ | refine Fin.block_ret ?_ | refine Fin.block_exit ?_ | refine Fin.block_other rfl ?_
        | refine WL.pA ?_ | refine WD.pA ?_ | refine WL.sA ?_ | refine WD.sA ?_ | refine WL.g_yes rfl rfl ?_ | refine WL.g_no rfl rfl rfl rfl ?_ | refine WL.g_undef rfl rfl rfl ?_ | refine WL.g_split rfl rfl (fun hc => ?_) (fun hc => ?_) | refine WD.g_yes rfl rfl ?_ | refine WD.g_no rfl rfl rfl rfl ?_ | refine WD.g_undef rfl rfl rfl ?_ | refine WD.g_split rfl rfl (fun hc => ?_) (fun hc => ?_)
        | refine W.drawA ?_ | refine WL.aA (fun _ => ?_) | refine WD.aA (fun _ => ?_) | refine WL.e0A ?_ | refine WD.e0A ?_
        | refine W.cond rfl (fun hc => ?_) (fun hc => ?_))
      refine W.loop (G := Nat) (fun g => [(0, .int .u32 b), (1, .slice ba bn bc), (7, .pointer (some ⟨s1.R, 0, none⟩)), (9, .int .i64 n), (11, .int .i64 g)]) (fun _ => s1.H) (fun g => g ≤ bn) (fun g => bn - g) 0 (Nat.zero_le _) (sub_of (by repeat (first | exact subEnv.nil | refine subEnv.cons rfl ?_))) (fun _ h => h) ?_
      intro i hi
      dsimp only at hi ⊢
      repeat' (first
        | refine W.seq ?_ | refine W.region ?_ | refine W.block ?_ | refine W.skip ?_ | refine W.exit ?_ | refine W.ret ?_ | refine W.cond_t rfl ?_ | refine W.cond_f rfl ?_ | refine WL.nil ?_ | refine WD.nil ?_ | refine Fin.next ?_ | refine Fin.then_exit ?_ | refine Fin.then_ret ?_ | refine Fin.block_normal ?_ | refine Fin.block_ret ?_ | refine Fin.block_exit ?_ | refine Fin.block_other rfl ?_
        | refine WL.pA ?_ | refine WD.pA ?_ | refine WL.sA ?_ | refine WD.sA ?_ | refine WL.g_yes rfl rfl ?_ | refine WL.g_no rfl rfl rfl rfl ?_ | refine WL.g_undef rfl rfl rfl ?_ | refine WL.g_split rfl rfl (fun hc => ?_) (fun hc => ?_) | refine WD.g_yes rfl rfl ?_ | refine WD.g_no rfl rfl rfl rfl ?_ | refine WD.g_undef rfl rfl rfl ?_ | refine WD.g_split rfl rfl (fun hc => ?_) (fun hc => ?_)
        | refine W.drawA ?_ | refine WL.aA (fun _ => ?_) | refine WD.aA (fun _ => ?_) | refine WL.e0A ?_ | refine WD.e0A ?_
        | refine W.cond rfl (fun hc => ?_) (fun hc => ?_))
      · have hi' : i < bn := by have := of_decide_eq_true hc; omega
        obtain ⟨a, ha⟩ : ∃ a, l[i]? = some a := ⟨l[i]'(by omega), by simp⟩
        obtain ⟨lb, lo, rfl, hcan⟩ := lst_el hlst ha
        have hia : 0 ≤ (i : Int) ∧ (i : Int) < bn := by omega
        have ham := List.mem_of_getElem? ha
        have har := hl a ham
        have hhas : Spn.has s1.S (u32 (b + a)) = (decide ((n : Int) < a) && decide (a ≤ 4096)) := by
          unfold Spn.has
          rw [show s1.S.b = s1.base from rfl, hb1]
          by_cases h1 : (n : Int) < a
          · have hf2 : far (u32 (b + n)) (u32 (b + a)) = a.toNat - n := by unfold far; simp only [u32_eq]; omega
            rw [hf2, hp1, show a.toNat - n + n = a.toNat by omega]
            by_cases h2 : a ≤ 4096
            · unfold told
              rw [inW_iff.2 (show 1 ≤ a.toNat - n ∧ a.toNat - n ≤ 4096 by omega), inW_iff.2 (show 1 ≤ a.toNat ∧ a.toNat ≤ 4096 by omega), show ((a.toNat : Nat) : Int) = a by omega]
              simp [ham, h1, h2]
            · have : told l a.toNat = false := by
                unfold told
                cases hq : inW a.toNat with
                | false => rfl
                | true => have := inW_iff.1 hq; omega
              rw [this]
              simp [h2]
          · have : inW (far (u32 (b + n)) (u32 (b + a))) = false := by
              cases hq : inW (far (u32 (b + n)) (u32 (b + a))) with
              | false => rfl
              | true =>
                have := inW_iff.1 hq
                unfold far at this
                simp only [u32_eq] at this
                omega
            rw [this]
            simp [h1]
        repeat' (first
          | refine W.seq ?_ | refine W.region ?_ | refine W.block ?_ | refine W.skip ?_ | refine W.exit ?_ | refine W.ret ?_ | refine W.cond_t rfl ?_ | refine W.cond_f rfl ?_ | refine WL.nil ?_ | refine WD.nil ?_ | refine Fin.next ?_ | refine Fin.then_exit ?_ | refine Fin.then_ret ?_ | refine Fin.block_normal ?_ | refine Fin.block_ret ?_ | refine Fin.block_exit ?_ | refine Fin.block_other rfl ?_
          | refine WL.pA ?_ | refine WD.pA ?_ | refine WL.sA ?_ | refine WD.sA ?_ | refine WL.g_yes rfl rfl ?_ | refine WL.g_no rfl rfl rfl rfl ?_ | refine WL.g_undef rfl rfl rfl ?_ | refine WL.g_split rfl rfl (fun hc => ?_) (fun hc => ?_) | refine WD.g_yes rfl rfl ?_ | refine WD.g_no rfl rfl rfl rfl ?_ | refine WD.g_undef rfl rfl rfl ?_ | refine WD.g_split rfl rfl (fun hc => ?_) (fun hc => ?_)
          | refine W.drawA ?_ | refine WL.aA (fun _ => ?_) | refine WD.aA (fun _ => ?_) | refine WL.e0A ?_ | refine WD.e0A ?_
          | refine W.cond rfl (fun hc => ?_) (fun hc => ?_))
        refine WD.e rfl (Ef.callR (by exact rfl) (.all _) (has_tr _ s1 hs1 (u32 (b + a)) (by rw [u32_eq]; omega))) ?_
        rintro _ _ ⟨rfl, rfl⟩
        refine ⟨by first | (refine Or.inr (fun _ h => h.sublist ?_); (repeat (first | exact List.Sublist.refl _ | refine List.Sublist.cons_cons _ ?_ | refine List.Sublist.cons _ ?_)); first | done | fail) | exact Or.inl (by kernel_rfl), ?_⟩
        rw [hhas]
        repeat' (first
          | refine W.seq ?_ | refine W.region ?_ | refine W.block ?_ | refine W.skip ?_ | refine W.exit ?_ | refine W.ret ?_ | refine W.cond_t rfl ?_ | refine W.cond_f rfl ?_ | refine WL.nil ?_ | refine WD.nil ?_ | refine Fin.next ?_ | refine Fin.then_exit ?_ | refine Fin.then_ret ?_ | refine Fin.block_normal ?_ | refine Fin.block_ret ?_ | refine Fin.block_exit ?_ | refine Fin.block_other rfl ?_
          | refine WL.pA ?_ | refine WD.pA ?_ | refine WL.sA ?_ | refine WD.sA ?_ | refine WL.g_yes rfl rfl ?_ | refine WL.g_no rfl rfl rfl rfl ?_ | refine WL.g_undef rfl rfl rfl ?_ | refine WL.g_split rfl rfl (fun hc => ?_) (fun hc => ?_) | refine WD.g_yes rfl rfl ?_ | refine WD.g_no rfl rfl rfl rfl ?_ | refine WD.g_undef rfl rfl rfl ?_ | refine WD.g_split rfl rfl (fun hc => ?_) (fun hc => ?_)
          | refine W.drawA ?_ | refine WL.aA (fun _ => ?_) | refine WD.aA (fun _ => ?_) | refine WL.e0A ?_ | refine WD.e0A ?_
          | refine W.cond rfl (fun hc => ?_) (fun hc => ?_))
        all_goals rw [e2] at *
        all_goals first
          | (exfalso; simp_all; done)
          | (rw [i64_succ (by omega)]; exact Fin.round (i + 1) hi' (sub_of (by repeat (first | exact subEnv.nil | refine subEnv.cons rfl ?_))) (fun _ h => h) (by omega))
          | (exfalso; simp at *; omega)
      · refine WL.e rfl (Ef.callR (by exact rfl) (.nil _) (works_tr _)) ?_
        rintro _ _ ⟨rfl, rfl⟩
        repeat' (first
          | refine W.seq ?_ | refine W.region ?_ | refine W.block ?_ | refine W.skip ?_ | refine W.exit ?_ | refine W.ret ?_ | refine W.cond_t rfl ?_ | refine W.cond_f rfl ?_ | refine WL.nil ?_ | refine WD.nil ?_ | refine Fin.next ?_ | refine Fin.then_exit ?_ | refine Fin.then_ret ?_ | refine Fin.block_normal ?_ | refine Fin.block_ret ?_ | refine Fin.block_exit ?_ | refine Fin.block_other rfl ?_
          | refine WL.pA ?_ | refine WD.pA ?_ | refine WL.sA ?_ | refine WD.sA ?_ | refine WL.g_yes rfl rfl ?_ | refine WL.g_no rfl rfl rfl rfl ?_ | refine WL.g_undef rfl rfl rfl ?_ | refine WL.g_split rfl rfl (fun hc => ?_) (fun hc => ?_) | refine WD.g_yes rfl rfl ?_ | refine WD.g_no rfl rfl rfl rfl ?_ | refine WD.g_undef rfl rfl rfl ?_ | refine WD.g_split rfl rfl (fun hc => ?_) (fun hc => ?_)
          | refine W.drawA ?_ | refine WL.aA (fun _ => ?_) | refine WD.aA (fun _ => ?_) | refine WL.e0A ?_ | refine WD.e0A ?_
          | refine W.cond rfl (fun hc => ?_) (fun hc => ?_))
        exact Fin.retW (by exact rfl) (by repeat' (first | exact Res.nil | exact rfl | exact CutAt.here rfl | exact CellAt.here rfl | apply CutAt.there | apply CellAt.there | apply CutAt.right | apply CellAt.right | apply Res.tmp | apply Res.agg' | apply Res.cell')) (fun _ h => h.sublist (List.nil_sublist _)) ⟨rfl, rfl⟩
  · have hw3 : inW (far s.S.b (u32 (b + to))) = false := by rw [hfar]; simpa using hw
    have hn : Spn.moveN s.S (u32 (b + to)) = 0 := by unfold Spn.moveN; rw [hw3]; rfl
    have hsame : s1.S = s.S := by rw [hS1]; unfold Spn.move; rw [hw3]; rfl
    have hout : to < 1 ∨ 4096 < to := by
      rcases Int.lt_or_le to 1 with h | h
      · exact .inl h
      · rcases Int.lt_or_le 4096 to with h' | h'
        · exact .inr h'
        · exact absurd (inW_iff.2 (show 1 ≤ to.toNat ∧ to.toNat ≤ 4096 by omega)) hw
    rw [hn]
    repeat' (first
      | refine W.seq ?_ | refine W.region ?_ | refine W.block ?_ | refine W.skip ?_ | refine W.exit ?_ | refine W.ret ?_ | refine W.cond_t rfl ?_ | refine W.cond_f rfl ?_ | refine WL.nil ?_ | refine WD.nil ?_ | refine Fin.next ?_ | refine Fin.then_exit ?_ | refine Fin.then_ret ?_ | refine Fin.block_normal ?_ | refine Fin.block_ret ?_ | refine Fin.block_exit ?_ | refine Fin.block_other rfl ?_
      | refine WL.pA ?_ | refine WD.pA ?_ | refine WL.sA ?_ | refine WD.sA ?_ | refine WL.g_yes rfl rfl ?_ | refine WL.g_no rfl rfl rfl rfl ?_ | refine WL.g_undef rfl rfl rfl ?_ | refine WL.g_split rfl rfl (fun hc => ?_) (fun hc => ?_) | refine WD.g_yes rfl rfl ?_ | refine WD.g_no rfl rfl rfl rfl ?_ | refine WD.g_undef rfl rfl rfl ?_ | refine WD.g_split rfl rfl (fun hc => ?_) (fun hc => ?_)
      | refine W.drawA ?_ | refine WL.aA (fun _ => ?_) | refine WD.aA (fun _ => ?_) | refine WL.e0A ?_ | refine WD.e0A ?_
      | refine W.cond rfl (fun hc => ?_) (fun hc => ?_))
    all_goals try (exfalso; have h1 := of_decide_eq_false (by assumption : decide (to < 1) = false); have h2 := of_decide_eq_false (by assumption : decide (to > 4096) = false); omega)
    all_goals try (exfalso; simp at hc; done)
    all_goals
      refine WL.e rfl (Ef.callR (c := s1.H) (by exact rfl) (.one _ _) (base_tr _ s1)) ?_
      rintro _ _ ⟨rfl, rfl⟩
      rw [show s1.base = b by have := congrArg Spn.S.b hsame; exact this.trans hbs]
      repeat' (first
        | refine W.seq ?_ | refine W.region ?_ | refine W.block ?_ | refine W.skip ?_ | refine W.exit ?_ | refine W.ret ?_ | refine W.cond_t rfl ?_ | refine W.cond_f rfl ?_ | refine WL.nil ?_ | refine WD.nil ?_ | refine Fin.next ?_ | refine Fin.then_exit ?_ | refine Fin.then_ret ?_ | refine Fin.block_normal ?_ | refine Fin.block_ret ?_ | refine Fin.block_exit ?_ | refine Fin.block_other rfl ?_
        | refine WL.pA ?_ | refine WD.pA ?_ | refine WL.sA ?_ | refine WD.sA ?_ | refine WL.g_yes rfl rfl ?_ | refine WL.g_no rfl rfl rfl rfl ?_ | refine WL.g_undef rfl rfl rfl ?_ | refine WL.g_split rfl rfl (fun hc => ?_) (fun hc => ?_) | refine WD.g_yes rfl rfl ?_ | refine WD.g_no rfl rfl rfl rfl ?_ | refine WD.g_undef rfl rfl rfl ?_ | refine WD.g_split rfl rfl (fun hc => ?_) (fun hc => ?_)
        | refine W.drawA ?_ | refine WL.aA (fun _ => ?_) | refine WD.aA (fun _ => ?_) | refine WL.e0A ?_ | refine WD.e0A ?_
        | refine W.cond rfl (fun hc => ?_) (fun hc => ?_))
      rotate_left
      · exfalso; simp at *
      refine WL.e rfl (Ef.call (c := s1.H) (by exact rfl) (.one _ _) (gaps_tr _ s1 hs1 4096 (by decide))) ?_
      rintro _ _ ⟨_, ⟨a2, n2, c2, l2, rfl, ho2, rfl⟩, rfl⟩
      rw [gaps_all hs1.S (by decide), hsame] at ho2
      rw [List.append_assoc]
      repeat' (first
        | refine W.seq ?_ | refine W.region ?_ | refine W.block ?_ | refine W.skip ?_ | refine W.exit ?_ | refine W.ret ?_ | refine W.cond_t rfl ?_ | refine W.cond_f rfl ?_ | refine WL.nil ?_ | refine WD.nil ?_ | refine Fin.next ?_ | refine Fin.then_exit ?_ | refine Fin.then_ret ?_ | refine Fin.block_normal ?_ | refine Fin.block_ret ?_ | refine Fin.block_exit ?_ | refine Fin.block_other rfl ?_
        | refine WL.pA ?_ | refine WD.pA ?_ | refine WL.sA ?_ | refine WD.sA ?_ | refine WL.g_yes rfl rfl ?_ | refine WL.g_no rfl rfl rfl rfl ?_ | refine WL.g_undef rfl rfl rfl ?_ | refine WL.g_split rfl rfl (fun hc => ?_) (fun hc => ?_) | refine WD.g_yes rfl rfl ?_ | refine WD.g_no rfl rfl rfl rfl ?_ | refine WD.g_undef rfl rfl rfl ?_ | refine WD.g_split rfl rfl (fun hc => ?_) (fun hc => ?_)
        | refine W.drawA ?_ | refine WL.aA (fun _ => ?_) | refine WD.aA (fun _ => ?_) | refine WL.e0A ?_ | refine WD.e0A ?_
        | refine W.cond rfl (fun hc => ?_) (fun hc => ?_))
      refine WL.e rfl (Ef.lookR (by exact rfl) (fun F' hF => same_tr F' (gapsU s.S) (gapsU s.S) a2 n2 c2 a1 n1 c1 ((Lst.own (F := F) (H := l2) ho2 (fun _ h => h)).mono (fun w h => (hF w h).sublist (by repeat (first | exact List.Sublist.refl _ | exact List.sublist_append_left _ _ | refine List.Sublist.cons _ ?_ | refine List.Sublist.trans ?_ (List.sublist_append_right _ _))))) ((Lst.own (F := F) (H := l1) ho1 (fun _ h => h)).mono (fun w h => (hF w h).sublist (by repeat (first | exact List.Sublist.refl _ | exact List.sublist_append_left _ _ | refine List.Sublist.cons _ ?_ | refine List.Sublist.trans ?_ (List.sublist_append_right _ _))))) (by omega))) ?_
      rintro _ _ ⟨rfl, rfl⟩
      rw [decide_eq_true rfl]
      repeat' (first
        | refine W.seq ?_ | refine W.region ?_ | refine W.block ?_ | refine W.skip ?_ | refine W.exit ?_ | refine W.ret ?_ | refine W.cond_t rfl ?_ | refine W.cond_f rfl ?_ | refine WL.nil ?_ | refine WD.nil ?_ | refine Fin.next ?_ | refine Fin.then_exit ?_ | refine Fin.then_ret ?_ | refine Fin.block_normal ?_ | refine Fin.block_ret ?_ | refine Fin.block_exit ?_ | refine Fin.block_other rfl ?_
        | refine WL.pA ?_ | refine WD.pA ?_ | refine WL.sA ?_ | refine WD.sA ?_ | refine WL.g_yes rfl rfl ?_ | refine WL.g_no rfl rfl rfl rfl ?_ | refine WL.g_undef rfl rfl rfl ?_ | refine WL.g_split rfl rfl (fun hc => ?_) (fun hc => ?_) | refine WD.g_yes rfl rfl ?_ | refine WD.g_no rfl rfl rfl rfl ?_ | refine WD.g_undef rfl rfl rfl ?_ | refine WD.g_split rfl rfl (fun hc => ?_) (fun hc => ?_)
        | refine W.drawA ?_ | refine WL.aA (fun _ => ?_) | refine WD.aA (fun _ => ?_) | refine WL.e0A ?_ | refine WD.e0A ?_
        | refine W.cond rfl (fun hc => ?_) (fun hc => ?_))
      refine WL.e rfl (Ef.callR (by exact rfl) (.nil _) (works_tr _)) ?_
      rintro _ _ ⟨rfl, rfl⟩
      repeat' (first
        | refine W.seq ?_ | refine W.region ?_ | refine W.block ?_ | refine W.skip ?_ | refine W.exit ?_ | refine W.ret ?_ | refine W.cond_t rfl ?_ | refine W.cond_f rfl ?_ | refine WL.nil ?_ | refine WD.nil ?_ | refine Fin.next ?_ | refine Fin.then_exit ?_ | refine Fin.then_ret ?_ | refine Fin.block_normal ?_ | refine Fin.block_ret ?_ | refine Fin.block_exit ?_ | refine Fin.block_other rfl ?_
        | refine WL.pA ?_ | refine WD.pA ?_ | refine WL.sA ?_ | refine WD.sA ?_ | refine WL.g_yes rfl rfl ?_ | refine WL.g_no rfl rfl rfl rfl ?_ | refine WL.g_undef rfl rfl rfl ?_ | refine WL.g_split rfl rfl (fun hc => ?_) (fun hc => ?_) | refine WD.g_yes rfl rfl ?_ | refine WD.g_no rfl rfl rfl rfl ?_ | refine WD.g_undef rfl rfl rfl ?_ | refine WD.g_split rfl rfl (fun hc => ?_) (fun hc => ?_)
        | refine W.drawA ?_ | refine WL.aA (fun _ => ?_) | refine WD.aA (fun _ => ?_) | refine WL.e0A ?_ | refine WD.e0A ?_
        | refine W.cond rfl (fun hc => ?_) (fun hc => ?_))
      exact Fin.retW (by exact rfl) (by repeat' (first | exact Res.nil | exact rfl | exact CutAt.here rfl | exact CellAt.here rfl | apply CutAt.there | apply CellAt.there | apply CutAt.right | apply CellAt.right | apply Res.tmp | apply Res.agg' | apply Res.cell')) (fun _ h => h.sublist (List.nil_sublist _)) ⟨rfl, rfl⟩
end Go.Proofs.Ytkncbiepmgdgeaa
