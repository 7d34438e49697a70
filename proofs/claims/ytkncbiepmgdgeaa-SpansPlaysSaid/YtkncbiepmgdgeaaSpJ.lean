/- The laws' 'same', walked: the same gaps? No conditions. -/
import Derived.Test.YtkncbiepmgdgeaaSpI
namespace Go.Proofs.Ytkncbiepmgdgeaa
open Go Go.Sl Go.Spn

theorem part_u16 (w : World) (l : List Value) (i : Nat) (v : Value) (h : l[i]? = some v) : (part 29 l.toArray i).run Try.prog w = .ok v w := by
  simp [part, Try.isAgg29, h]
theorem eq_u16 (w : World) (n : Nat) (a c : Int) : (Op.equalIn (n + 1) 29 (.int .u16 a) (.int .u16 c)).run Try.prog w = .ok (a == c) w := by
  rw [Op.equalIn, Sem.run_bind, run_underlying Try.underlying29]
  simp
theorem gap_equal (w : World) (a b c d : Int) : (Op.equal 31 (.agg [.int .u16 a, .int .u16 b].toArray) (.agg [.int .u16 c, .int .u16 d].toArray)).run Try.prog w = .ok (a == c && b == d) w := by
  show (Op.equalIn (9998 + 1 + 1) _ _ _).run _ w = _
  rw [Op.equalIn, Sem.run_bind, run_underlying Try.underlying31]
  have h1 := part_u16 w [.int .u16 a, .int .u16 b] 0 _ rfl
  have h2 := part_u16 w [.int .u16 c, .int .u16 d] 0 _ rfl
  have h3 := part_u16 w [.int .u16 a, .int .u16 b] 1 _ rfl
  have h4 := part_u16 w [.int .u16 c, .int .u16 d] 1 _ rfl
  have e : ∀ a c : Int, (Op.equalIn 9999 29 (.int .u16 a) (.int .u16 c)).run Try.prog w = .ok (a == c) w := fun a c => eq_u16 w 9998 a c
  simp [h1, h2, h3, h4, e]
  by_cases ha : a = c
  · by_cases hb : b = d
    · simp [ha, hb]
    · simp [ha, hb]
  · simp [ha]
section
variable {x : Cx} {env : Env} {dst : Option Tmp} {ty : TypeId} {pos : String} {aft : Array Edge} {gd : Option (Nat × Bool)}
theorem Pu.neGap (hP : x.P = Try.prog) {p q : Operand} {a b c d : Int} (hp : ev env p = some (.agg [.int .u16 a, .int .u16 b].toArray)) (hq : ev env q = some (.agg [.int .u16 c, .int .u16 d].toArray)) :
    Pu x env ⟨dst, .binOp .neq 31 p q 31, ty, pos, aft, gd⟩ (.bool (!(a == c && b == d))) := ⟨fun a' he w => by
  rw [hP]
  have h := gap_equal w a b c d
  simp [execOp, he.eval hp, he.eval hq, eqGuard, binOp, h]⟩
end
theorem gap_beq (g h : Nat × Nat) : (((g.1 : Nat) : Int) == ((h.1 : Nat) : Int) && ((g.2 : Nat) : Int) == ((h.2 : Nat) : Int)) = decide (g = h) := by
  obtain ⟨a, b⟩ := g
  obtain ⟨c, d⟩ := h
  rw [Bool.eq_iff_iff]
  simp [Prod.ext_iff]
  omega
set_option maxRecDepth 20000 in
theorem same_tr (F : Nat → Option Obj) (xs ys : List (Nat × Nat)) (a1 : Option Addr) (n1 c1 : Nat) (a2 : Option Addr) (n2 c2 : Nat) (h1 : Lst F [] 2 (xs.flatMap gCells) a1 n1 c1) (h2 : Lst F [] 2 (ys.flatMap gCells) a2 n2 c2) (hx : xs.length ≤ 1000000) :
    Tr Try.prog 19 [.slice a1 n1 c1, .slice a2 n2 c2].toArray F [] (fun v H => v = .bool (decide (xs = ys)) ∧ H = []) := by
  refine Tr.enter Try.func19 rfl Try.ntmps19 rfl (fun w0 => ?_)
  have hn1 : n1 = xs.length := by have := h1.len; rw [flat_len' gCells 2 (fun _ => rfl)] at this; omega
  have hn2 : n2 = ys.length := by have := h2.len; rw [flat_len' gCells 2 (fun _ => rfl)] at this; omega
  repeat' (first
    | refine W.seq ?_ | refine W.region ?_ | refine W.block ?_ | refine W.skip ?_ | refine W.exit ?_ | refine W.ret ?_ | refine W.cond_t rfl ?_ | refine W.cond_f rfl ?_ | refine WL.nil ?_ | refine WD.nil ?_ | refine Fin.next ?_ | refine Fin.then_exit ?_ | refine Fin.then_ret ?_ | refine Fin.block_normal ?_ | refine Fin.block_ret ?_ | refine Fin.block_exit ?_ | refine Fin.block_other rfl ?_
    | refine WL.pA ?_ | refine WD.pA ?_ | refine WL.sA ?_ | refine WD.sA ?_ | refine WL.g_yes rfl rfl ?_ | refine WL.g_no rfl rfl rfl rfl ?_ | refine WL.g_undef rfl rfl rfl ?_ | refine WL.g_split rfl rfl (fun hc => ?_) (fun hc => ?_) | refine WD.g_yes rfl rfl ?_ | refine WD.g_no rfl rfl rfl rfl ?_ | refine WD.g_undef rfl rfl rfl ?_ | refine WD.g_split rfl rfl (fun hc => ?_) (fun hc => ?_)
    | refine W.drawA ?_ | refine WL.aA (fun _ => ?_) | refine WD.aA (fun _ => ?_) | refine WL.e0A ?_ | refine WD.e0A ?_
    | refine W.cond rfl (fun hc => ?_) (fun hc => ?_))
  · refine Fin.retW (by exact rfl) (by repeat' (first | exact Res.nil | exact rfl | exact CutAt.here rfl | exact CellAt.here rfl | apply CutAt.there | apply CellAt.there | apply CutAt.right | apply CellAt.right | apply Res.tmp | apply Res.agg' | apply Res.cell')) (fun _ h => h) ⟨?_, rfl⟩
    have : xs ≠ ys := fun h => by subst h; simp [hn1, hn2] at hc
    rw [decide_eq_false this]
    rfl
  have hl : xs.length = ys.length := by simp at hc; omega
  refine W.loop (G := Nat) (fun g => [(0, .slice a1 n1 c1), (1, .slice a2 n2 c2), (5, .int .i64 g)]) (fun _ => []) (fun g => g ≤ n1 ∧ xs.take g = ys.take g) (fun g => n1 - g) 0 ⟨Nat.zero_le _, rfl⟩ (sub_of (by repeat (first | exact subEnv.nil | refine subEnv.cons rfl ?_))) (fun _ h => h) ?_
  rintro i ⟨hi, heq⟩
  dsimp only at hi heq ⊢
  repeat' (first
    | refine W.seq ?_ | refine W.region ?_ | refine W.block ?_ | refine W.skip ?_ | refine W.exit ?_ | refine W.ret ?_ | refine W.cond_t rfl ?_ | refine W.cond_f rfl ?_ | refine WL.nil ?_ | refine WD.nil ?_ | refine Fin.next ?_ | refine Fin.then_exit ?_ | refine Fin.then_ret ?_ | refine Fin.block_normal ?_ | refine Fin.block_ret ?_ | refine Fin.block_exit ?_ | refine Fin.block_other rfl ?_
    | refine WL.pA ?_ | refine WD.pA ?_ | refine WL.sA ?_ | refine WD.sA ?_ | refine WL.g_yes rfl rfl ?_ | refine WL.g_no rfl rfl rfl rfl ?_ | refine WL.g_undef rfl rfl rfl ?_ | refine WL.g_split rfl rfl (fun hc => ?_) (fun hc => ?_) | refine WD.g_yes rfl rfl ?_ | refine WD.g_no rfl rfl rfl rfl ?_ | refine WD.g_undef rfl rfl rfl ?_ | refine WD.g_split rfl rfl (fun hc => ?_) (fun hc => ?_)
    | refine W.drawA ?_ | refine WL.aA (fun _ => ?_) | refine WD.aA (fun _ => ?_) | refine WL.e0A ?_ | refine WD.e0A ?_
    | refine W.cond rfl (fun hc => ?_) (fun hc => ?_))
  · have hi' : i < n1 := by have := of_decide_eq_true hc; omega
    obtain ⟨g, hg⟩ : ∃ g, xs[i]? = some g := ⟨xs[i]'(by omega), by simp⟩
    obtain ⟨k, hk⟩ : ∃ g, ys[i]? = some g := ⟨ys[i]'(by omega), by simp⟩
    obtain ⟨b1, o1, rfl, hc1⟩ := h1.el (fun _ => rfl) hg (by omega)
    obtain ⟨b2, o2, rfl, hc2⟩ := h2.el (fun _ => rfl) hk (by omega)
    have hia : 0 ≤ (i : Int) ∧ (i : Int) < n1 := by omega
    have hia2 : 0 ≤ (i : Int) ∧ (i : Int) < n2 := by omega
    repeat' (first
      | refine W.seq ?_ | refine W.region ?_ | refine W.block ?_ | refine W.skip ?_ | refine W.exit ?_ | refine W.ret ?_ | refine W.cond_t rfl ?_ | refine W.cond_f rfl ?_ | refine WL.nil ?_ | refine WD.nil ?_ | refine Fin.next ?_ | refine Fin.then_exit ?_ | refine Fin.then_ret ?_ | refine Fin.block_normal ?_ | refine Fin.block_ret ?_ | refine Fin.block_exit ?_ | refine Fin.block_other rfl ?_
      | refine WL.pA ?_ | refine WD.pA ?_ | refine WL.sA ?_ | refine WD.sA ?_ | refine WL.g_yes rfl rfl ?_ | refine WL.g_no rfl rfl rfl rfl ?_ | refine WL.g_undef rfl rfl rfl ?_ | refine WL.g_split rfl rfl (fun hc => ?_) (fun hc => ?_) | refine WD.g_yes rfl rfl ?_ | refine WD.g_no rfl rfl rfl rfl ?_ | refine WD.g_undef rfl rfl rfl ?_ | refine WD.g_split rfl rfl (fun hc => ?_) (fun hc => ?_)
      | refine W.drawA ?_ | refine WL.aA (fun _ => ?_) | refine WD.aA (fun _ => ?_) | refine WL.e0A ?_ | refine WD.e0A ?_
      | refine W.cond rfl (fun hc => ?_) (fun hc => ?_))
    refine WD.p rfl (Pu.neGap rfl (a := g.1) (b := g.2) (c := k.1) (d := k.2) rfl rfl) ?_
    rw [gap_beq]
    repeat' (first
      | refine W.seq ?_ | refine W.region ?_ | refine W.block ?_ | refine W.skip ?_ | refine W.exit ?_ | refine W.ret ?_ | refine W.cond_t rfl ?_ | refine W.cond_f rfl ?_ | refine WL.nil ?_ | refine WD.nil ?_ | refine Fin.next ?_ | refine Fin.then_exit ?_ | refine Fin.then_ret ?_ | refine Fin.block_normal ?_ | refine Fin.block_ret ?_ | refine Fin.block_exit ?_ | refine Fin.block_other rfl ?_
      | refine WL.pA ?_ | refine WD.pA ?_ | refine WL.sA ?_ | refine WD.sA ?_ | refine WL.g_yes rfl rfl ?_ | refine WL.g_no rfl rfl rfl rfl ?_ | refine WL.g_undef rfl rfl rfl ?_ | refine WL.g_split rfl rfl (fun hc => ?_) (fun hc => ?_) | refine WD.g_yes rfl rfl ?_ | refine WD.g_no rfl rfl rfl rfl ?_ | refine WD.g_undef rfl rfl rfl ?_ | refine WD.g_split rfl rfl (fun hc => ?_) (fun hc => ?_)
      | refine W.drawA ?_ | refine WL.aA (fun _ => ?_) | refine WD.aA (fun _ => ?_) | refine WL.e0A ?_ | refine WD.e0A ?_
      | refine W.cond rfl (fun hc => ?_) (fun hc => ?_))
    · refine Fin.retW (by exact rfl) (by repeat' (first | exact Res.nil | exact rfl | exact CutAt.here rfl | exact CellAt.here rfl | apply CutAt.there | apply CellAt.there | apply CutAt.right | apply CellAt.right | apply Res.tmp | apply Res.agg' | apply Res.cell')) (fun _ h => h) ⟨?_, rfl⟩
      have hne : g ≠ k := by simpa using hc
      have : xs ≠ ys := fun h => by subst h; rw [hg] at hk; cases hk; exact hne rfl
      rw [decide_eq_false this]
      rfl
    · have he : g = k := by simpa using hc
      rw [i64_succ (by omega)]
      refine Fin.round (i + 1) ⟨hi', ?_⟩ (sub_of (by repeat (first | exact subEnv.nil | refine subEnv.cons rfl ?_))) (fun _ h => h) (by omega)
      rw [List.take_add_one, List.take_add_one, hg, hk, heq, he]
  · have hin : i = n1 := by have := of_decide_eq_false hc; omega
    refine Fin.retW (by exact rfl) (by repeat' (first | exact Res.nil | exact rfl | exact CutAt.here rfl | exact CellAt.here rfl | apply CutAt.there | apply CellAt.there | apply CutAt.right | apply CellAt.right | apply Res.tmp | apply Res.agg' | apply Res.cell')) (fun _ h => h) ⟨?_, rfl⟩
    rw [hin, hn1, List.take_length, hl, List.take_length] at heq
    rw [decide_eq_true heq]
    rfl
end Go.Proofs.Ytkncbiepmgdgeaa
