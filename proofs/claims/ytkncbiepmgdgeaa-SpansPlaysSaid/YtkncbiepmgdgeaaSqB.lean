/- The document's 'Gaps', walked: the same runs. Conditions: the set is well formed. -/
import Derived.Test.YtkncbiepmgdgeaaSqA
namespace Go.Proofs.Ytkncbiepmgdgeaa
open Go Go.Sl Go.Spn

structure RgG where
  i : Nat
  va : Option Addr
  vn : Nat
  vc : Nat
  vb : HL
set_option maxRecDepth 40000 in
set_option maxHeartbeats 8000000 in
theorem rgaps_tr (F : Nat → Option Obj) (r : RS) (hr : r.ok) (most : Int) (hm : -9223372036854775808 ≤ most ∧ most ≤ 9223372036854775807) : Tr Try.prog 27 [.pointer (some ⟨r.R, 0, none⟩), .int .i64 most].toArray F r.H
    (fun v H => ∃ (la : Option Addr) (ln lc : Nat) (lb : HL), v = .slice la ln lc ∧ OwnS 31 2 ((Spn.gaps r.S most).flatMap gCells) v lb ∧ H = r.H ++ lb) := by
  refine Tr.enter Try.func27 rfl Try.ntmps27 rfl (fun w0 => ?_)
  repeat' (first
    | refine W.seq ?_ | refine W.region ?_ | refine W.block ?_ | refine W.skip ?_ | refine W.exit ?_ | refine W.ret ?_ | refine W.cond_t rfl ?_ | refine W.cond_f rfl ?_ | refine WL.nil ?_ | refine WD.nil ?_ | refine Fin.next ?_ | refine Fin.then_exit ?_ | refine Fin.then_ret ?_ | refine Fin.block_normal ?_ | refine Fin.block_ret ?_ | refine Fin.block_exit ?_ | refine Fin.block_other rfl ?_
    | refine WL.pA ?_ | refine WD.pA ?_ | refine WL.sA ?_ | refine WD.sA ?_ | refine WL.g_yes rfl rfl ?_ | refine WL.g_no rfl rfl rfl rfl ?_ | refine WL.g_undef rfl rfl rfl ?_ | refine WL.g_split rfl rfl (fun hc => ?_) (fun hc => ?_) | refine WD.g_yes rfl rfl ?_ | refine WD.g_no rfl rfl rfl rfl ?_ | refine WD.g_undef rfl rfl rfl ?_ | refine WD.g_split rfl rfl (fun hc => ?_) (fun hc => ?_)
    | refine W.drawA ?_ | refine WL.aA (fun _ => ?_) | refine WD.aA (fun _ => ?_) | refine WL.e0A ?_ | refine WD.e0A ?_
    | refine W.cond rfl (fun hc => ?_) (fun hc => ?_))
  refine W.loop (G := RgG) (fun g => [(0, .pointer (some ⟨r.R, 0, none⟩)), (1, .int .i64 most), (5, .slice g.va g.vn g.vc), (6, .int .i64 g.i)]) (fun g => (r.R, .cells (.int .u32 r.b :: r.cs).toArray 45 (0, 0)) :: g.vb)
    (fun g => (1 ≤ g.i ∧ g.i ≤ 4097) ∧ (before (gapsU r.S) g.i).length ≤ most.toNat ∧ OwnS 31 2 ((before (gapsU r.S) g.i).flatMap gCells) (.slice g.va g.vn g.vc) g.vb) (fun g => 4097 - g.i)
    ⟨1, none, 0, 0, []⟩ ⟨⟨Nat.le_refl _, by dsimp only; omega⟩, by dsimp only; rw [before_one hr.S]; exact Nat.zero_le _, by dsimp only; rw [before_one hr.S]; exact .inl ⟨rfl, rfl, rfl⟩⟩ (sub_of (by repeat (first | exact subEnv.nil | refine subEnv.cons rfl ?_))) (fun _ h => h) ?_
  rintro ⟨i, va, vn, vc, vb⟩ ⟨hi, hl, hx⟩
  dsimp only at hi hl hx ⊢
  have hvn : (before (gapsU r.S) i).length = vn := by have := hx.len; rw [flat_len' gCells 2 (fun _ => rfl)] at this; omega
  have hbl := before_len hr.S i
  repeat' (first
    | refine W.seq ?_ | refine W.region ?_ | refine W.block ?_ | refine W.skip ?_ | refine W.exit ?_ | refine W.ret ?_ | refine W.cond_t rfl ?_ | refine W.cond_f rfl ?_ | refine WL.nil ?_ | refine WD.nil ?_ | refine Fin.next ?_ | refine Fin.then_exit ?_ | refine Fin.then_ret ?_ | refine Fin.block_normal ?_ | refine Fin.block_ret ?_ | refine Fin.block_exit ?_ | refine Fin.block_other rfl ?_
    | refine WL.pA ?_ | refine WD.pA ?_ | refine WL.sA ?_ | refine WD.sA ?_ | refine WL.g_yes rfl rfl ?_ | refine WL.g_no rfl rfl rfl rfl ?_ | refine WL.g_undef rfl rfl rfl ?_ | refine WL.g_split rfl rfl (fun hc => ?_) (fun hc => ?_) | refine WD.g_yes rfl rfl ?_ | refine WD.g_no rfl rfl rfl rfl ?_ | refine WD.g_undef rfl rfl rfl ?_ | refine WD.g_split rfl rfl (fun hc => ?_) (fun hc => ?_)
    | refine W.drawA ?_ | refine WL.aA (fun _ => ?_) | refine WD.aA (fun _ => ?_) | refine WL.e0A ?_ | refine WD.e0A ?_
    | refine W.cond rfl (fun hc => ?_) (fun hc => ?_))
  · have hi' : i ≤ 4096 := by have := of_decide_eq_true (by assumption : decide ((i : Int) ≤ 4096) = true); omega
    have hvm : (vn : Int) < most := of_decide_eq_true hc
    refine WL.p rfl (Pu.iaA rfl rfl (by omega)) ?_
    have hcell := bit_get hr.bits (.int .u32 r.b) hi'
    repeat' (first
      | refine W.seq ?_ | refine W.region ?_ | refine W.block ?_ | refine W.skip ?_ | refine W.exit ?_ | refine W.ret ?_ | refine W.cond_t rfl ?_ | refine W.cond_f rfl ?_ | refine WL.nil ?_ | refine WD.nil ?_ | refine Fin.next ?_ | refine Fin.then_exit ?_ | refine Fin.then_ret ?_ | refine Fin.block_normal ?_ | refine Fin.block_ret ?_ | refine Fin.block_exit ?_ | refine Fin.block_other rfl ?_
      | refine WL.pA ?_ | refine WD.pA ?_ | refine WL.sA ?_ | refine WD.sA ?_ | refine WL.g_yes rfl rfl ?_ | refine WL.g_no rfl rfl rfl rfl ?_ | refine WL.g_undef rfl rfl rfl ?_ | refine WL.g_split rfl rfl (fun hc => ?_) (fun hc => ?_) | refine WD.g_yes rfl rfl ?_ | refine WD.g_no rfl rfl rfl rfl ?_ | refine WD.g_undef rfl rfl rfl ?_ | refine WD.g_split rfl rfl (fun hc => ?_) (fun hc => ?_)
      | refine W.drawA ?_ | refine WL.aA (fun _ => ?_) | refine WD.aA (fun _ => ?_) | refine WL.e0A ?_ | refine WD.e0A ?_
      | refine W.cond rfl (fun hc => ?_) (fun hc => ?_))
    · have hbit : r.S.p i = false := by simpa [RS.S] using hc
      have hno : ∀ g ∈ gapsU r.S, g.1 ≠ i := fun g hg he => by
        have := ((gap_start hr.S hi.1).1 ⟨g, hg, he⟩).1
        rw [hbit] at this; cases this
      rw [i64_succ (by omega)]
      refine Fin.round ⟨i + 1, va, vn, vc, vb⟩ ⟨by dsimp only; omega, ?_, ?_⟩ (sub_of (by repeat (first | exact subEnv.nil | refine subEnv.cons rfl ?_))) (fun _ h => h) (by dsimp only; omega)
      · dsimp only; rw [before_no hno]; exact hl
      · dsimp only; rw [before_no hno]; exact hx
    · have hS1 : r.S.p i = true := by have := (by assumption : (!bitAt r.cs i) = false); simpa [RS.S] using this
      have hi1 : 1 < i := by have := of_decide_eq_true hc; omega
      rw [show IntKind.i64.wrap ((i : Int) - 1) = ((i - 1 : Nat) : Int) by rw [i64_id (by omega) (by omega)]; omega]
      refine WL.p rfl (Pu.iaA rfl rfl (by omega)) ?_
      have hcell1 := bit_get hr.bits (.int .u32 r.b) (k := i - 1) (by omega)
      repeat' (first
        | refine W.seq ?_ | refine W.region ?_ | refine W.block ?_ | refine W.skip ?_ | refine W.exit ?_ | refine W.ret ?_ | refine W.cond_t rfl ?_ | refine W.cond_f rfl ?_ | refine WL.nil ?_ | refine WD.nil ?_ | refine Fin.next ?_ | refine Fin.then_exit ?_ | refine Fin.then_ret ?_ | refine Fin.block_normal ?_ | refine Fin.block_ret ?_ | refine Fin.block_exit ?_ | refine Fin.block_other rfl ?_
        | refine WL.pA ?_ | refine WD.pA ?_ | refine WL.sA ?_ | refine WD.sA ?_ | refine WL.g_yes rfl rfl ?_ | refine WL.g_no rfl rfl rfl rfl ?_ | refine WL.g_undef rfl rfl rfl ?_ | refine WL.g_split rfl rfl (fun hc => ?_) (fun hc => ?_) | refine WD.g_yes rfl rfl ?_ | refine WD.g_no rfl rfl rfl rfl ?_ | refine WD.g_undef rfl rfl rfl ?_ | refine WD.g_split rfl rfl (fun hc => ?_) (fun hc => ?_)
        | refine W.drawA ?_ | refine WL.aA (fun _ => ?_) | refine WD.aA (fun _ => ?_) | refine WL.e0A ?_ | refine WD.e0A ?_
        | refine W.cond rfl (fun hc => ?_) (fun hc => ?_))
      · have hno : ∀ g ∈ gapsU r.S, g.1 ≠ i := fun g hg he => by
          have := ((gap_start hr.S hi.1).1 ⟨g, hg, he⟩).2
          rw [show r.S.p (i - 1) = true from hc] at this; cases this
        rw [i64_succ (by omega)]
        refine Fin.round ⟨i + 1, va, vn, vc, vb⟩ ⟨by dsimp only; omega, ?_, ?_⟩ (sub_of (by repeat (first | exact subEnv.nil | refine subEnv.cons rfl ?_))) (fun _ h => h) (by dsimp only; omega)
        · dsimp only; rw [before_no hno]; exact hl
        · dsimp only; rw [before_no hno]; exact hx
      · have hS2 : r.S.p (i - 1) = false := hc
        obtain ⟨g, hg, hgi⟩ := (gap_start hr.S hi.1).2 ⟨hS1, hS2⟩
        have hgr := gap_rng hr.S hg
        refine W.loop (G := Nat) (fun k => [(0, .pointer (some ⟨r.R, 0, none⟩)), (1, .int .i64 most), (5, .slice va vn vc), (6, .int .i64 i), (7, .int .i64 k)]) (fun _ => (r.R, .cells (.int .u32 r.b :: r.cs).toArray 45 (0, 0)) :: vb) (fun k => i ≤ k ∧ k ≤ g.2) (fun k => g.2 - k) i ⟨Nat.le_refl _, by omega⟩ (sub_of (by repeat (first | exact subEnv.nil | refine subEnv.cons rfl ?_))) (fun _ h => h) ?_
        intro k hk
        dsimp only at hk ⊢
        have hgo := run_go hr.S hg (k := k) (by omega) hk.2
        have e1 : IntKind.u16.wrap (i : Int) = i := by simp [IntKind.wrap, IntKind.bits, IntKind.signed]; omega
        have e2 : IntKind.u16.wrap (k : Int) = k := by simp [IntKind.wrap, IntKind.bits, IntKind.signed]; omega
        repeat' (first
          | refine W.seq ?_ | refine W.region ?_ | refine W.block ?_ | refine W.skip ?_ | refine W.exit ?_ | refine W.ret ?_ | refine W.cond_t rfl ?_ | refine W.cond_f rfl ?_ | refine WL.nil ?_ | refine WD.nil ?_ | refine Fin.next ?_ | refine Fin.then_exit ?_ | refine Fin.then_ret ?_ | refine Fin.block_normal ?_ | refine Fin.block_ret ?_ | refine Fin.block_exit ?_ | refine Fin.block_other rfl ?_
          | refine WL.pA ?_ | refine WD.pA ?_ | refine WL.sA ?_ | refine WD.sA ?_ | refine WL.g_yes rfl rfl ?_ | refine WL.g_no rfl rfl rfl rfl ?_ | refine WL.g_undef rfl rfl rfl ?_ | refine WL.g_split rfl rfl (fun hc => ?_) (fun hc => ?_) | refine WD.g_yes rfl rfl ?_ | refine WD.g_no rfl rfl rfl rfl ?_ | refine WD.g_undef rfl rfl rfl ?_ | refine WD.g_split rfl rfl (fun hc => ?_) (fun hc => ?_)
          | refine W.drawA ?_ | refine WL.aA (fun _ => ?_) | refine WD.aA (fun _ => ?_) | refine WL.e0A ?_ | refine WD.e0A ?_
          | refine W.cond rfl (fun hc => ?_) (fun hc => ?_))
        · have hk4 : k < 4096 := by have := of_decide_eq_true hc; omega
          rw [i64_succ (by omega)]
          refine WL.p rfl (Pu.iaA rfl rfl (by omega)) ?_
          have hcell2 := bit_get hr.bits (.int .u32 r.b) (k := k + 1) (by omega)
          repeat' (first
            | refine W.seq ?_ | refine W.region ?_ | refine W.block ?_ | refine W.skip ?_ | refine W.exit ?_ | refine W.ret ?_ | refine W.cond_t rfl ?_ | refine W.cond_f rfl ?_ | refine WL.nil ?_ | refine WD.nil ?_ | refine Fin.next ?_ | refine Fin.then_exit ?_ | refine Fin.then_ret ?_ | refine Fin.block_normal ?_ | refine Fin.block_ret ?_ | refine Fin.block_exit ?_ | refine Fin.block_other rfl ?_
            | refine WL.pA ?_ | refine WD.pA ?_ | refine WL.sA ?_ | refine WD.sA ?_ | refine WL.g_yes rfl rfl ?_ | refine WL.g_no rfl rfl rfl rfl ?_ | refine WL.g_undef rfl rfl rfl ?_ | refine WL.g_split rfl rfl (fun hc => ?_) (fun hc => ?_) | refine WD.g_yes rfl rfl ?_ | refine WD.g_no rfl rfl rfl rfl ?_ | refine WD.g_undef rfl rfl rfl ?_ | refine WD.g_split rfl rfl (fun hc => ?_) (fun hc => ?_)
            | refine W.drawA ?_ | refine WL.aA (fun _ => ?_) | refine WD.aA (fun _ => ?_) | refine WL.e0A ?_ | refine WD.e0A ?_
            | refine W.cond rfl (fun hc => ?_) (fun hc => ?_))
          · rw [i64_succ (by omega)]
            have := hgo.2 ⟨hk4, hc⟩
            exact Fin.round (k + 1) ⟨by omega, by omega⟩ (sub_of (by repeat (first | exact subEnv.nil | refine subEnv.cons rfl ?_))) (fun _ h => h) (by omega)
          · have hkn : k = g.2 := by
              rcases Nat.lt_or_ge k g.2 with h | h
              · have := (hgo.1 h).2
                rw [show r.S.p (k + 1) = false from hc] at this
                cases this
              · omega
            rw [e1, e2]
            rename_i b58
            refine WL.e rfl (Ef.app (m := 1) (news := gCells (i, k)) (by exact rfl) (by exact rfl) rfl rfl hx (.last (.there (.there .all))) (Src.own (n := 2) (.here rfl)) rfl (by simp [gCells, Value.oneCell']) (by rw [flat_len' gCells 2 (fun _ => rfl)]; simp [gCells]; omega) (by rw [flat_len' gCells 2 (fun _ => rfl)]; simp [gCells, maxLen]; omega)) ?_
            rintro v' _ ⟨vb', hx', rfl⟩
            obtain ⟨va', vn', vc', rfl, _, _⟩ := OwnS.shape hx'
            repeat' (first
              | refine W.seq ?_ | refine W.region ?_ | refine W.block ?_ | refine W.skip ?_ | refine W.exit ?_ | refine W.ret ?_ | refine W.cond_t rfl ?_ | refine W.cond_f rfl ?_ | refine WL.nil ?_ | refine WD.nil ?_ | refine Fin.next ?_ | refine Fin.then_exit ?_ | refine Fin.then_ret ?_ | refine Fin.block_normal ?_ | refine Fin.block_ret ?_ | refine Fin.block_exit ?_ | refine Fin.block_other rfl ?_
              | refine WL.pA ?_ | refine WD.pA ?_ | refine WL.sA ?_ | refine WD.sA ?_ | refine WL.g_yes rfl rfl ?_ | refine WL.g_no rfl rfl rfl rfl ?_ | refine WL.g_undef rfl rfl rfl ?_ | refine WL.g_split rfl rfl (fun hc => ?_) (fun hc => ?_) | refine WD.g_yes rfl rfl ?_ | refine WD.g_no rfl rfl rfl rfl ?_ | refine WD.g_undef rfl rfl rfl ?_ | refine WD.g_split rfl rfl (fun hc => ?_) (fun hc => ?_)
              | refine W.drawA ?_ | refine WL.aA (fun _ => ?_) | refine WD.aA (fun _ => ?_) | refine WL.e0A ?_ | refine WD.e0A ?_
              | refine W.cond rfl (fun hc => ?_) (fun hc => ?_))
            rw [i64_succ (by omega)]
            have hyes := before_yes (gapsU r.S) g (gapsU_good r.S).1 (gapsU_good r.S).2.1 hg
            rw [hgi] at hyes
            refine Fin.round ⟨i + 1, va', vn', vc', vb'⟩ ⟨by dsimp only; omega, ?_, ?_⟩ (sub_of (by repeat (first | exact subEnv.nil | refine subEnv.cons rfl ?_))) (fun _ h => In.of_sub (.pick (.right (.there .here)) (.last (L := vb') .here)) h) (by dsimp only; omega)
            · dsimp only; rw [hyes, List.length_append, List.length_singleton]; omega
            · dsimp only
              rw [hyes, List.flatMap_append, List.flatMap_singleton, show g = (i, k) by rw [← hgi, hkn]]
              exact hx'
        · have hkn : k = g.2 := by
            rcases Nat.lt_or_ge k g.2 with h | h
            · have := (hgo.1 h).1
              have := of_decide_eq_false hc
              omega
            · omega
          rw [e1, e2]
          rename_i b58
          refine WL.e rfl (Ef.app (m := 1) (news := gCells (i, k)) (by exact rfl) (by exact rfl) rfl rfl hx (.last (.there (.there .all))) (Src.own (n := 2) (.here rfl)) rfl (by simp [gCells, Value.oneCell']) (by rw [flat_len' gCells 2 (fun _ => rfl)]; simp [gCells]; omega) (by rw [flat_len' gCells 2 (fun _ => rfl)]; simp [gCells, maxLen]; omega)) ?_
          rintro v' _ ⟨vb', hx', rfl⟩
          obtain ⟨va', vn', vc', rfl, _, _⟩ := OwnS.shape hx'
          repeat' (first
            | refine W.seq ?_ | refine W.region ?_ | refine W.block ?_ | refine W.skip ?_ | refine W.exit ?_ | refine W.ret ?_ | refine W.cond_t rfl ?_ | refine W.cond_f rfl ?_ | refine WL.nil ?_ | refine WD.nil ?_ | refine Fin.next ?_ | refine Fin.then_exit ?_ | refine Fin.then_ret ?_ | refine Fin.block_normal ?_ | refine Fin.block_ret ?_ | refine Fin.block_exit ?_ | refine Fin.block_other rfl ?_
            | refine WL.pA ?_ | refine WD.pA ?_ | refine WL.sA ?_ | refine WD.sA ?_ | refine WL.g_yes rfl rfl ?_ | refine WL.g_no rfl rfl rfl rfl ?_ | refine WL.g_undef rfl rfl rfl ?_ | refine WL.g_split rfl rfl (fun hc => ?_) (fun hc => ?_) | refine WD.g_yes rfl rfl ?_ | refine WD.g_no rfl rfl rfl rfl ?_ | refine WD.g_undef rfl rfl rfl ?_ | refine WD.g_split rfl rfl (fun hc => ?_) (fun hc => ?_)
            | refine W.drawA ?_ | refine WL.aA (fun _ => ?_) | refine WD.aA (fun _ => ?_) | refine WL.e0A ?_ | refine WD.e0A ?_
            | refine W.cond rfl (fun hc => ?_) (fun hc => ?_))
          rw [i64_succ (by omega)]
          have hyes := before_yes (gapsU r.S) g (gapsU_good r.S).1 (gapsU_good r.S).2.1 hg
          rw [hgi] at hyes
          refine Fin.round ⟨i + 1, va', vn', vc', vb'⟩ ⟨by dsimp only; omega, ?_, ?_⟩ (sub_of (by repeat (first | exact subEnv.nil | refine subEnv.cons rfl ?_))) (fun _ h => In.of_sub (.pick (.right (.there .here)) (.last (L := vb') .here)) h) (by dsimp only; omega)
          · dsimp only; rw [hyes, List.length_append, List.length_singleton]; omega
          · dsimp only
            rw [hyes, List.flatMap_append, List.flatMap_singleton, show g = (i, k) by rw [← hgi, hkn]]
            exact hx'
    · have hS1 : r.S.p i = true := by have := (by assumption : (!bitAt r.cs i) = false); simpa [RS.S] using this
      have hi1 : i = 1 := by have := of_decide_eq_false hc; omega
      have hS2 : r.S.p (i - 1) = false := by rw [hi1]; exact hr.bits.2.2
      obtain ⟨g, hg, hgi⟩ := (gap_start hr.S hi.1).2 ⟨hS1, hS2⟩
      have hgr := gap_rng hr.S hg
      refine W.loop (G := Nat) (fun k => [(0, .pointer (some ⟨r.R, 0, none⟩)), (1, .int .i64 most), (5, .slice va vn vc), (6, .int .i64 i), (7, .int .i64 k)]) (fun _ => (r.R, .cells (.int .u32 r.b :: r.cs).toArray 45 (0, 0)) :: vb) (fun k => i ≤ k ∧ k ≤ g.2) (fun k => g.2 - k) i ⟨Nat.le_refl _, by omega⟩ (sub_of (by repeat (first | exact subEnv.nil | refine subEnv.cons rfl ?_))) (fun _ h => h) ?_
      intro k hk
      dsimp only at hk ⊢
      have hgo := run_go hr.S hg (k := k) (by omega) hk.2
      have e1 : IntKind.u16.wrap (i : Int) = i := by simp [IntKind.wrap, IntKind.bits, IntKind.signed]; omega
      have e2 : IntKind.u16.wrap (k : Int) = k := by simp [IntKind.wrap, IntKind.bits, IntKind.signed]; omega
      repeat' (first
        | refine W.seq ?_ | refine W.region ?_ | refine W.block ?_ | refine W.skip ?_ | refine W.exit ?_ | refine W.ret ?_ | refine W.cond_t rfl ?_ | refine W.cond_f rfl ?_ | refine WL.nil ?_ | refine WD.nil ?_ | refine Fin.next ?_ | refine Fin.then_exit ?_ | refine Fin.then_ret ?_ | refine Fin.block_normal ?_ | refine Fin.block_ret ?_ | refine Fin.block_exit ?_ | refine Fin.block_other rfl ?_
        | refine WL.pA ?_ | refine WD.pA ?_ | refine WL.sA ?_ | refine WD.sA ?_ | refine WL.g_yes rfl rfl ?_ | refine WL.g_no rfl rfl rfl rfl ?_ | refine WL.g_undef rfl rfl rfl ?_ | refine WL.g_split rfl rfl (fun hc => ?_) (fun hc => ?_) | refine WD.g_yes rfl rfl ?_ | refine WD.g_no rfl rfl rfl rfl ?_ | refine WD.g_undef rfl rfl rfl ?_ | refine WD.g_split rfl rfl (fun hc => ?_) (fun hc => ?_)
        | refine W.drawA ?_ | refine WL.aA (fun _ => ?_) | refine WD.aA (fun _ => ?_) | refine WL.e0A ?_ | refine WD.e0A ?_
        | refine W.cond rfl (fun hc => ?_) (fun hc => ?_))
      · have hk4 : k < 4096 := by have := of_decide_eq_true hc; omega
        rw [i64_succ (by omega)]
        refine WL.p rfl (Pu.iaA rfl rfl (by omega)) ?_
        have hcell2 := bit_get hr.bits (.int .u32 r.b) (k := k + 1) (by omega)
        repeat' (first
          | refine W.seq ?_ | refine W.region ?_ | refine W.block ?_ | refine W.skip ?_ | refine W.exit ?_ | refine W.ret ?_ | refine W.cond_t rfl ?_ | refine W.cond_f rfl ?_ | refine WL.nil ?_ | refine WD.nil ?_ | refine Fin.next ?_ | refine Fin.then_exit ?_ | refine Fin.then_ret ?_ | refine Fin.block_normal ?_ | refine Fin.block_ret ?_ | refine Fin.block_exit ?_ | refine Fin.block_other rfl ?_
          | refine WL.pA ?_ | refine WD.pA ?_ | refine WL.sA ?_ | refine WD.sA ?_ | refine WL.g_yes rfl rfl ?_ | refine WL.g_no rfl rfl rfl rfl ?_ | refine WL.g_undef rfl rfl rfl ?_ | refine WL.g_split rfl rfl (fun hc => ?_) (fun hc => ?_) | refine WD.g_yes rfl rfl ?_ | refine WD.g_no rfl rfl rfl rfl ?_ | refine WD.g_undef rfl rfl rfl ?_ | refine WD.g_split rfl rfl (fun hc => ?_) (fun hc => ?_)
          | refine W.drawA ?_ | refine WL.aA (fun _ => ?_) | refine WD.aA (fun _ => ?_) | refine WL.e0A ?_ | refine WD.e0A ?_
          | refine W.cond rfl (fun hc => ?_) (fun hc => ?_))
        · rw [i64_succ (by omega)]
          have := hgo.2 ⟨hk4, hc⟩
          exact Fin.round (k + 1) ⟨by omega, by omega⟩ (sub_of (by repeat (first | exact subEnv.nil | refine subEnv.cons rfl ?_))) (fun _ h => h) (by omega)
        · have hkn : k = g.2 := by
            rcases Nat.lt_or_ge k g.2 with h | h
            · have := (hgo.1 h).2
              rw [show r.S.p (k + 1) = false from hc] at this
              cases this
            · omega
          rw [e1, e2]
          rename_i b58
          refine WL.e rfl (Ef.app (m := 1) (news := gCells (i, k)) (by exact rfl) (by exact rfl) rfl rfl hx (.last (.there (.there .all))) (Src.own (n := 2) (.here rfl)) rfl (by simp [gCells, Value.oneCell']) (by rw [flat_len' gCells 2 (fun _ => rfl)]; simp [gCells]; omega) (by rw [flat_len' gCells 2 (fun _ => rfl)]; simp [gCells, maxLen]; omega)) ?_
          rintro v' _ ⟨vb', hx', rfl⟩
          obtain ⟨va', vn', vc', rfl, _, _⟩ := OwnS.shape hx'
          repeat' (first
            | refine W.seq ?_ | refine W.region ?_ | refine W.block ?_ | refine W.skip ?_ | refine W.exit ?_ | refine W.ret ?_ | refine W.cond_t rfl ?_ | refine W.cond_f rfl ?_ | refine WL.nil ?_ | refine WD.nil ?_ | refine Fin.next ?_ | refine Fin.then_exit ?_ | refine Fin.then_ret ?_ | refine Fin.block_normal ?_ | refine Fin.block_ret ?_ | refine Fin.block_exit ?_ | refine Fin.block_other rfl ?_
            | refine WL.pA ?_ | refine WD.pA ?_ | refine WL.sA ?_ | refine WD.sA ?_ | refine WL.g_yes rfl rfl ?_ | refine WL.g_no rfl rfl rfl rfl ?_ | refine WL.g_undef rfl rfl rfl ?_ | refine WL.g_split rfl rfl (fun hc => ?_) (fun hc => ?_) | refine WD.g_yes rfl rfl ?_ | refine WD.g_no rfl rfl rfl rfl ?_ | refine WD.g_undef rfl rfl rfl ?_ | refine WD.g_split rfl rfl (fun hc => ?_) (fun hc => ?_)
            | refine W.drawA ?_ | refine WL.aA (fun _ => ?_) | refine WD.aA (fun _ => ?_) | refine WL.e0A ?_ | refine WD.e0A ?_
            | refine W.cond rfl (fun hc => ?_) (fun hc => ?_))
          rw [i64_succ (by omega)]
          have hyes := before_yes (gapsU r.S) g (gapsU_good r.S).1 (gapsU_good r.S).2.1 hg
          rw [hgi] at hyes
          refine Fin.round ⟨i + 1, va', vn', vc', vb'⟩ ⟨by dsimp only; omega, ?_, ?_⟩ (sub_of (by repeat (first | exact subEnv.nil | refine subEnv.cons rfl ?_))) (fun _ h => In.of_sub (.pick (.right (.there .here)) (.last (L := vb') .here)) h) (by dsimp only; omega)
          · dsimp only; rw [hyes, List.length_append, List.length_singleton]; omega
          · dsimp only
            rw [hyes, List.flatMap_append, List.flatMap_singleton, show g = (i, k) by rw [← hgi, hkn]]
            exact hx'
      · have hkn : k = g.2 := by
          rcases Nat.lt_or_ge k g.2 with h | h
          · have := (hgo.1 h).1
            have := of_decide_eq_false hc
            omega
          · omega
        rw [e1, e2]
        rename_i b58
        refine WL.e rfl (Ef.app (m := 1) (news := gCells (i, k)) (by exact rfl) (by exact rfl) rfl rfl hx (.last (.there (.there .all))) (Src.own (n := 2) (.here rfl)) rfl (by simp [gCells, Value.oneCell']) (by rw [flat_len' gCells 2 (fun _ => rfl)]; simp [gCells]; omega) (by rw [flat_len' gCells 2 (fun _ => rfl)]; simp [gCells, maxLen]; omega)) ?_
        rintro v' _ ⟨vb', hx', rfl⟩
        obtain ⟨va', vn', vc', rfl, _, _⟩ := OwnS.shape hx'
        repeat' (first
          | refine W.seq ?_ | refine W.region ?_ | refine W.block ?_ | refine W.skip ?_ | refine W.exit ?_ | refine W.ret ?_ | refine W.cond_t rfl ?_ | refine W.cond_f rfl ?_ | refine WL.nil ?_ | refine WD.nil ?_ | refine Fin.next ?_ | refine Fin.then_exit ?_ | refine Fin.then_ret ?_ | refine Fin.block_normal ?_ | refine Fin.block_ret ?_ | refine Fin.block_exit ?_ | refine Fin.block_other rfl ?_
          | refine WL.pA ?_ | refine WD.pA ?_ | refine WL.sA ?_ | refine WD.sA ?_ | refine WL.g_yes rfl rfl ?_ | refine WL.g_no rfl rfl rfl rfl ?_ | refine WL.g_undef rfl rfl rfl ?_ | refine WL.g_split rfl rfl (fun hc => ?_) (fun hc => ?_) | refine WD.g_yes rfl rfl ?_ | refine WD.g_no rfl rfl rfl rfl ?_ | refine WD.g_undef rfl rfl rfl ?_ | refine WD.g_split rfl rfl (fun hc => ?_) (fun hc => ?_)
          | refine W.drawA ?_ | refine WL.aA (fun _ => ?_) | refine WD.aA (fun _ => ?_) | refine WL.e0A ?_ | refine WD.e0A ?_
          | refine W.cond rfl (fun hc => ?_) (fun hc => ?_))
        rw [i64_succ (by omega)]
        have hyes := before_yes (gapsU r.S) g (gapsU_good r.S).1 (gapsU_good r.S).2.1 hg
        rw [hgi] at hyes
        refine Fin.round ⟨i + 1, va', vn', vc', vb'⟩ ⟨by dsimp only; omega, ?_, ?_⟩ (sub_of (by repeat (first | exact subEnv.nil | refine subEnv.cons rfl ?_))) (fun _ h => In.of_sub (.pick (.right (.there .here)) (.last (L := vb') .here)) h) (by dsimp only; omega)
        · dsimp only; rw [hyes, List.length_append, List.length_singleton]; omega
        · dsimp only
          rw [hyes, List.flatMap_append, List.flatMap_singleton, show g = (i, k) by rw [← hgi, hkn]]
          exact hx'
  all_goals
    refine Fin.retW (by exact rfl) (by repeat' (first | exact Res.nil | exact rfl | exact CutAt.here rfl | exact CellAt.here rfl | apply CutAt.there | apply CellAt.there | apply CutAt.right | apply CellAt.right | apply Res.tmp | apply Res.agg' | apply Res.cell')) (fun _ h => h) ⟨va, vn, vc, vb, rfl, ?_, rfl⟩
    rw [← before_end hr.S (i := i) hl (by
      have := hi.2
      first
        | (have h1 := of_decide_eq_false (by assumption : decide ((i : Int) ≤ 4096) = false); exact .inl (by omega))
        | (have h1 := of_decide_eq_false (by assumption : decide ((vn : Int) < most) = false); exact .inr (by omega)))]
    exact hx
end Go.Proofs.Ytkncbiepmgdgeaa
