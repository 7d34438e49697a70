/- The law TsnmapRow, walked. Conditions: what the arguments' cells are. -/
import Derived.Test.YtkbdfhfbhgaecaaTsC
import Derived.Test.YtkbdfhfbhgaecaaTsD
namespace Go.Proofs.Ytkbdfhfbhgaecaa
open Go Go.Sl Go.Spn

structure RwG where
  i : Nat
  m : MM
def rowD (first : Int) (l : List Int) : List Int := (l.map (fun y => u32 (first + y))).take 64
theorem rowD_step (first : Int) (l : List Int) (y : Int) : (if (rowD first l).length < 64 then rowD first l ++ [u32 (first + y)] else rowD first l) = rowD first (l ++ [y]) := by
  unfold rowD
  rw [List.map_append, List.length_take, List.length_map, List.map_singleton]
  by_cases h : l.length < 64
  · rw [if_pos (by omega), List.take_of_length_le (by simp; omega), List.take_of_length_le (by simp; omega)]
  · rw [if_neg (by omega), List.take_append_of_le_length (by simp; omega)]
theorem rowD_len (first : Int) (l : List Int) : (rowD first l).length = min 64 l.length := by unfold rowD; simp
set_option maxRecDepth 20000 in
set_option maxHeartbeats 8000000 in
theorem rowLaw_tr (F : Nat → Option Obj) (first : Int) (l : List Int) (hl : ∀ a ∈ l, 0 ≤ a ∧ a < 256) (ba : Option Addr) (bn bc : Nat) (hlst : Lst F [] 1 (l.map (Value.int .u8)) ba bn bc) (dups : Int) (hdu : -9223372036854775808 ≤ dups ∧ dups ≤ 9223372036854775807) :
    Tr Try.prog 7 [.int .u32 first, .slice ba bn bc, .int .i64 dups].toArray F [] (fun v H => v = .bool true ∧ H = []) := by
  refine Tr.enter Try.func7 rfl Try.ntmps7 rfl (fun w0 => ?_)
  have hbn := lst_int hlst
  repeat' (first
    | refine W.seq ?_ | refine W.region ?_ | refine W.block ?_ | refine W.skip ?_ | refine W.exit ?_ | refine W.ret ?_ | refine W.cond_t rfl ?_ | refine W.cond_f rfl ?_ | refine WL.nil ?_ | refine WD.nil ?_ | refine Fin.next ?_ | refine Fin.then_exit ?_ | refine Fin.then_ret ?_ | refine Fin.block_normal ?_ | refine Fin.block_ret ?_ | refine Fin.block_exit ?_ | refine Fin.block_other rfl ?_
    | refine WL.pA ?_ | refine WD.pA ?_ | refine WL.sA ?_ | refine WD.sA ?_ | refine WL.g_yes rfl rfl ?_ | refine WL.g_no rfl rfl rfl rfl ?_ | refine WL.g_undef rfl rfl rfl ?_ | refine WL.g_split rfl rfl (fun hc => ?_) (fun hc => ?_) | refine WD.g_yes rfl rfl ?_ | refine WD.g_no rfl rfl rfl rfl ?_ | refine WD.g_undef rfl rfl rfl ?_ | refine WD.g_split rfl rfl (fun hc => ?_) (fun hc => ?_)
    | refine W.drawA ?_ | refine WL.aA (fun _ => ?_) | refine WD.aA (fun _ => ?_) | refine WL.e0A ?_ | refine WD.e0A ?_
    | refine W.cond rfl (fun hc => ?_) (fun hc => ?_))
  · refine WL.e rfl (Ef.callR (by exact rfl) (.nil _) (works_tr _)) ?_
    rintro _ _ ⟨rfl, rfl⟩
    repeat' (first
      | refine W.seq ?_ | refine W.region ?_ | refine W.block ?_ | refine W.skip ?_ | refine W.exit ?_ | refine W.ret ?_ | refine W.cond_t rfl ?_ | refine W.cond_f rfl ?_ | refine WL.nil ?_ | refine WD.nil ?_ | refine Fin.next ?_ | refine Fin.then_exit ?_ | refine Fin.then_ret ?_ | refine Fin.block_normal ?_ | refine Fin.block_ret ?_ | refine Fin.block_exit ?_ | refine Fin.block_other rfl ?_
      | refine WL.pA ?_ | refine WD.pA ?_ | refine WL.sA ?_ | refine WD.sA ?_ | refine WL.g_yes rfl rfl ?_ | refine WL.g_no rfl rfl rfl rfl ?_ | refine WL.g_undef rfl rfl rfl ?_ | refine WL.g_split rfl rfl (fun hc => ?_) (fun hc => ?_) | refine WD.g_yes rfl rfl ?_ | refine WD.g_no rfl rfl rfl rfl ?_ | refine WD.g_undef rfl rfl rfl ?_ | refine WD.g_split rfl rfl (fun hc => ?_) (fun hc => ?_)
      | refine W.drawA ?_ | refine WL.aA (fun _ => ?_) | refine WD.aA (fun _ => ?_) | refine WL.e0A ?_ | refine WD.e0A ?_
      | refine W.cond rfl (fun hc => ?_) (fun hc => ?_))
    exact Fin.retW (by exact rfl) (by repeat' (first | exact Res.nil | exact rfl | exact CutAt.here rfl | exact CellAt.here rfl | apply CutAt.there | apply CellAt.there | apply CutAt.right | apply CellAt.right | apply Res.tmp | apply Res.agg' | apply Res.cell')) (fun _ h => h) ⟨rfl, rfl⟩
  have h120 : bn ≤ 120 := by have := of_decide_eq_false hc; omega
  refine WL.e rfl (Ef.call (by exact rfl) (.nil _) (begin_tr _ first)) ?_
  rintro _ _ ⟨_, ⟨m0, hm0, rfl, rfl, hS0, hd0⟩, rfl⟩
  rw [List.append_nil]
  have hbr := u32_rng (first - 1)
  obtain ⟨b, hb⟩ : ∃ b, u32 (first - 1) = b := ⟨_, rfl⟩
  rw [hb] at hS0 hbr
  rw [first_nil b hbr] at hS0
  have htsn : ∀ k : Int, u32 (first + k) = u32 (b + (k + 1)) := fun k => by rw [← hb]; simp only [u32_eq]; omega
  repeat' (first
    | refine W.seq ?_ | refine W.region ?_ | refine W.block ?_ | refine W.skip ?_ | refine W.exit ?_ | refine W.ret ?_ | refine W.cond_t rfl ?_ | refine W.cond_f rfl ?_ | refine WL.nil ?_ | refine WD.nil ?_ | refine Fin.next ?_ | refine Fin.then_exit ?_ | refine Fin.then_ret ?_ | refine Fin.block_normal ?_ | refine Fin.block_ret ?_ | refine Fin.block_exit ?_ | refine Fin.block_other rfl ?_
    | refine WL.pA ?_ | refine WD.pA ?_ | refine WL.sA ?_ | refine WD.sA ?_ | refine WL.g_yes rfl rfl ?_ | refine WL.g_no rfl rfl rfl rfl ?_ | refine WL.g_undef rfl rfl rfl ?_ | refine WL.g_split rfl rfl (fun hc => ?_) (fun hc => ?_) | refine WD.g_yes rfl rfl ?_ | refine WD.g_no rfl rfl rfl rfl ?_ | refine WD.g_undef rfl rfl rfl ?_ | refine WD.g_split rfl rfl (fun hc => ?_) (fun hc => ?_)
    | refine W.drawA ?_ | refine WL.aA (fun _ => ?_) | refine WD.aA (fun _ => ?_) | refine WL.e0A ?_ | refine WD.e0A ?_
    | refine W.cond rfl (fun hc => ?_) (fun hc => ?_))
  refine W.loop (G := RwG) (fun g => [(0, .int .u32 first), (1, .slice ba bn bc), (2, .int .i64 dups), (7, .pointer (some ⟨g.m.R, 0, none⟩)), (8, .int .i64 g.i)]) (fun g => g.m.H) (fun g => g.i ≤ 256 ∧ g.m.ok ∧ g.m.s.S = firstS b g.i ∧ g.m.ds = []) (fun g => 256 - g.i)
    ⟨0, m0⟩ ⟨Nat.zero_le _, hm0, hS0, hd0⟩ (sub_of (by repeat (first | exact subEnv.nil | refine subEnv.cons rfl ?_))) (fun _ h => h) ?_
  rintro ⟨i, m⟩ ⟨hi, hm, hS, hd⟩
  dsimp only at hi hm hS hd ⊢
  repeat' (first
    | refine W.seq ?_ | refine W.region ?_ | refine W.block ?_ | refine W.skip ?_ | refine W.exit ?_ | refine W.ret ?_ | refine W.cond_t rfl ?_ | refine W.cond_f rfl ?_ | refine WL.nil ?_ | refine WD.nil ?_ | refine Fin.next ?_ | refine Fin.then_exit ?_ | refine Fin.then_ret ?_ | refine Fin.block_normal ?_ | refine Fin.block_ret ?_ | refine Fin.block_exit ?_ | refine Fin.block_other rfl ?_
    | refine WL.pA ?_ | refine WD.pA ?_ | refine WL.sA ?_ | refine WD.sA ?_ | refine WL.g_yes rfl rfl ?_ | refine WL.g_no rfl rfl rfl rfl ?_ | refine WL.g_undef rfl rfl rfl ?_ | refine WL.g_split rfl rfl (fun hc => ?_) (fun hc => ?_) | refine WD.g_yes rfl rfl ?_ | refine WD.g_no rfl rfl rfl rfl ?_ | refine WD.g_undef rfl rfl rfl ?_ | refine WD.g_split rfl rfl (fun hc => ?_) (fun hc => ?_)
    | refine W.drawA ?_ | refine WL.aA (fun _ => ?_) | refine WD.aA (fun _ => ?_) | refine WL.e0A ?_ | refine WD.e0A ?_
    | refine W.cond rfl (fun hc => ?_) (fun hc => ?_))
  · have hi' : i < 256 := by have := of_decide_eq_true hc; omega
    rw [u32_id (n := (i : Int)) (by omega)]
    have hx : IntKind.u32.wrap (first + (i : Int)) = u32 (b + (i + 1 : Nat)) := htsn i
    rw [hx]
    refine WL.e rfl (Ef.call (by exact rfl) (.all _) (take_tr _ m hm (u32 (b + (i + 1 : Nat))) (u32_rng _))) ?_
    rintro _ _ ⟨_, ⟨rfl, m', hm', rfl, hR', hS', hd'⟩, rfl⟩
    rw [List.append_nil, ← hR']
    have h1 := first_step b i
    repeat' (first
      | refine W.seq ?_ | refine W.region ?_ | refine W.block ?_ | refine W.skip ?_ | refine W.exit ?_ | refine W.ret ?_ | refine W.cond_t rfl ?_ | refine W.cond_f rfl ?_ | refine WL.nil ?_ | refine WD.nil ?_ | refine Fin.next ?_ | refine Fin.then_exit ?_ | refine Fin.then_ret ?_ | refine Fin.block_normal ?_ | refine Fin.block_ret ?_ | refine Fin.block_exit ?_ | refine Fin.block_other rfl ?_
      | refine WL.pA ?_ | refine WD.pA ?_ | refine WL.sA ?_ | refine WD.sA ?_ | refine WL.g_yes rfl rfl ?_ | refine WL.g_no rfl rfl rfl rfl ?_ | refine WL.g_undef rfl rfl rfl ?_ | refine WL.g_split rfl rfl (fun hc => ?_) (fun hc => ?_) | refine WD.g_yes rfl rfl ?_ | refine WD.g_no rfl rfl rfl rfl ?_ | refine WD.g_undef rfl rfl rfl ?_ | refine WD.g_split rfl rfl (fun hc => ?_) (fun hc => ?_)
      | refine W.drawA ?_ | refine WL.aA (fun _ => ?_) | refine WD.aA (fun _ => ?_) | refine WL.e0A ?_ | refine WD.e0A ?_
      | refine W.cond rfl (fun hc => ?_) (fun hc => ?_))
    rw [i64_succ (by omega)]
    refine Fin.round ⟨i + 1, m'⟩ ⟨hi', hm', by dsimp only; rw [hS', hS, h1.2], ?_⟩ (sub_of (by repeat (first | exact subEnv.nil | refine subEnv.cons rfl ?_))) (fun _ h => h) (by dsimp only; omega)
    dsimp only
    rw [hd', hS, hd]
    unfold takeD
    rw [h1.1]
    rfl
  have hin : i = 256 := by have := of_decide_eq_false hc; omega
  subst hin
  refine W.loop (G := RwG) (fun g => [(0, .int .u32 first), (1, .slice ba bn bc), (2, .int .i64 dups), (7, .pointer (some ⟨g.m.R, 0, none⟩)), (9, .int .i64 g.i)]) (fun g => g.m.H) (fun g => g.i ≤ bn ∧ g.m.ok ∧ g.m.s.S = firstS b 256 ∧ g.m.ds = rowD first (l.take g.i)) (fun g => bn - g.i)
    ⟨0, m⟩ ⟨Nat.zero_le _, hm, hS, hd⟩ (sub_of (by repeat (first | exact subEnv.nil | refine subEnv.cons rfl ?_))) (fun _ h => h) ?_
  clear hS hd hm hi hc
  rintro ⟨i, m⟩ ⟨hi, hm, hS, hd⟩
  dsimp only at hi hm hS hd ⊢
  repeat' (first
    | refine W.seq ?_ | refine W.region ?_ | refine W.block ?_ | refine W.skip ?_ | refine W.exit ?_ | refine W.ret ?_ | refine W.cond_t rfl ?_ | refine W.cond_f rfl ?_ | refine WL.nil ?_ | refine WD.nil ?_ | refine Fin.next ?_ | refine Fin.then_exit ?_ | refine Fin.then_ret ?_ | refine Fin.block_normal ?_ | refine Fin.block_ret ?_ | refine Fin.block_exit ?_ | refine Fin.block_other rfl ?_
    | refine WL.pA ?_ | refine WD.pA ?_ | refine WL.sA ?_ | refine WD.sA ?_ | refine WL.g_yes rfl rfl ?_ | refine WL.g_no rfl rfl rfl rfl ?_ | refine WL.g_undef rfl rfl rfl ?_ | refine WL.g_split rfl rfl (fun hc => ?_) (fun hc => ?_) | refine WD.g_yes rfl rfl ?_ | refine WD.g_no rfl rfl rfl rfl ?_ | refine WD.g_undef rfl rfl rfl ?_ | refine WD.g_split rfl rfl (fun hc => ?_) (fun hc => ?_)
    | refine W.drawA ?_ | refine WL.aA (fun _ => ?_) | refine WD.aA (fun _ => ?_) | refine WL.e0A ?_ | refine WD.e0A ?_
    | refine W.cond rfl (fun hc => ?_) (fun hc => ?_))
  · have hi' : i < bn := by have := of_decide_eq_true hc; omega
    obtain ⟨a, ha⟩ : ∃ a, l[i]? = some a := ⟨l[i]'(by omega), by simp⟩
    obtain ⟨lb, lo, rfl, hcan⟩ := lst_el hlst ha
    have hia : 0 ≤ (i : Int) ∧ (i : Int) < bn := by omega
    have har := hl a (List.mem_of_getElem? ha)
    repeat' (first
      | refine W.seq ?_ | refine W.region ?_ | refine W.block ?_ | refine W.skip ?_ | refine W.exit ?_ | refine W.ret ?_ | refine W.cond_t rfl ?_ | refine W.cond_f rfl ?_ | refine WL.nil ?_ | refine WD.nil ?_ | refine Fin.next ?_ | refine Fin.then_exit ?_ | refine Fin.then_ret ?_ | refine Fin.block_normal ?_ | refine Fin.block_ret ?_ | refine Fin.block_exit ?_ | refine Fin.block_other rfl ?_
      | refine WL.pA ?_ | refine WD.pA ?_ | refine WL.sA ?_ | refine WD.sA ?_ | refine WL.g_yes rfl rfl ?_ | refine WL.g_no rfl rfl rfl rfl ?_ | refine WL.g_undef rfl rfl rfl ?_ | refine WL.g_split rfl rfl (fun hc => ?_) (fun hc => ?_) | refine WD.g_yes rfl rfl ?_ | refine WD.g_no rfl rfl rfl rfl ?_ | refine WD.g_undef rfl rfl rfl ?_ | refine WD.g_split rfl rfl (fun hc => ?_) (fun hc => ?_)
      | refine W.drawA ?_ | refine WL.aA (fun _ => ?_) | refine WD.aA (fun _ => ?_) | refine WL.e0A ?_ | refine WD.e0A ?_
      | refine W.cond rfl (fun hc => ?_) (fun hc => ?_))
    rw [u32_id (n := a) (by omega)]
    obtain ⟨n, rfl⟩ : ∃ n : Nat, a = n := ⟨a.toNat, by omega⟩
    have hx : IntKind.u32.wrap (first + (n : Int)) = u32 (b + (n + 1 : Nat)) := htsn n
    have h1 := first_again b (n := 256) (k := n + 1) (by decide) (by omega) (by omega)
    rw [hx]
    refine WL.e rfl (Ef.call (by exact rfl) (.all _) (take_tr _ m hm (u32 (b + (n + 1 : Nat))) (u32_rng _))) ?_
    rintro _ _ ⟨_, ⟨rfl, m', hm', rfl, hR', hS', hd'⟩, rfl⟩
    rw [List.append_nil, ← hR', hS, h1.1]
    repeat' (first
      | refine W.seq ?_ | refine W.region ?_ | refine W.block ?_ | refine W.skip ?_ | refine W.exit ?_ | refine W.ret ?_ | refine W.cond_t rfl ?_ | refine W.cond_f rfl ?_ | refine WL.nil ?_ | refine WD.nil ?_ | refine Fin.next ?_ | refine Fin.then_exit ?_ | refine Fin.then_ret ?_ | refine Fin.block_normal ?_ | refine Fin.block_ret ?_ | refine Fin.block_exit ?_ | refine Fin.block_other rfl ?_
      | refine WL.pA ?_ | refine WD.pA ?_ | refine WL.sA ?_ | refine WD.sA ?_ | refine WL.g_yes rfl rfl ?_ | refine WL.g_no rfl rfl rfl rfl ?_ | refine WL.g_undef rfl rfl rfl ?_ | refine WL.g_split rfl rfl (fun hc => ?_) (fun hc => ?_) | refine WD.g_yes rfl rfl ?_ | refine WD.g_no rfl rfl rfl rfl ?_ | refine WD.g_undef rfl rfl rfl ?_ | refine WD.g_split rfl rfl (fun hc => ?_) (fun hc => ?_)
      | refine W.drawA ?_ | refine WL.aA (fun _ => ?_) | refine WD.aA (fun _ => ?_) | refine WL.e0A ?_ | refine WD.e0A ?_
      | refine W.cond rfl (fun hc => ?_) (fun hc => ?_))
    rw [i64_succ (by omega)]
    refine Fin.round ⟨i + 1, m'⟩ ⟨hi', hm', by dsimp only; rw [hS', hS, h1.2], ?_⟩ (sub_of (by repeat (first | exact subEnv.nil | refine subEnv.cons rfl ?_))) (fun _ h => h) (by dsimp only; omega)
    dsimp only
    rw [hd', hS, hd, List.take_add_one, ha]
    have := rowD_step first (l.take i) (n : Int)
    rw [show u32 (first + (n : Int)) = u32 (b + (n + 1 : Nat)) from htsn n] at this
    unfold takeD
    rw [h1.1]
    simpa using this
  have hin : i = l.length := by have := of_decide_eq_false hc; omega
  subst hin
  rw [List.take_length] at hd
  refine WL.e rfl (Ef.call (by exact rfl) (.all _) (report_tr _ m hm 9 dups (by decide))) ?_
  rintro _ _ ⟨_, ⟨m1, ga, gn, gc, gb, ra, rn, rc, rb, rfl, hq, rfl⟩, rfl⟩
  have hg := hq.g
  have hr := hq.d
  rw [hS, first_gaps] at hg
  have hdl : m.ds.length = min 64 l.length := by rw [hd, rowD_len]
  obtain rfl : gn = 0 := by have := hg.len; simp at this; omega
  have hrn : rn = dupN dups (min 64 l.length) := by
    have := hr.len
    rw [List.length_map, List.length_take, hdl] at this
    have h2 := dupN_le dups (min 64 l.length)
    omega
  have hrd : List.take (dupN dups m.ds.length) m.ds = (l.take rn).map (fun y => u32 (first + y)) := by
    have h2 := dupN_le dups (min 64 l.length)
    rw [hdl, hd, hrn]
    unfold rowD
    rw [List.take_take, List.map_take, Nat.min_eq_left (by omega)]
  rw [hrd] at hr
  rw [← hq.R, List.append_nil]
  repeat' (first
    | refine W.seq ?_ | refine W.region ?_ | refine W.block ?_ | refine W.skip ?_ | refine W.exit ?_ | refine W.ret ?_ | refine W.cond_t rfl ?_ | refine W.cond_f rfl ?_ | refine WL.nil ?_ | refine WD.nil ?_ | refine Fin.next ?_ | refine Fin.then_exit ?_ | refine Fin.then_ret ?_ | refine Fin.block_normal ?_ | refine Fin.block_ret ?_ | refine Fin.block_exit ?_ | refine Fin.block_other rfl ?_
    | refine WL.pA ?_ | refine WD.pA ?_ | refine WL.sA ?_ | refine WD.sA ?_ | refine WL.g_yes rfl rfl ?_ | refine WL.g_no rfl rfl rfl rfl ?_ | refine WL.g_undef rfl rfl rfl ?_ | refine WL.g_split rfl rfl (fun hc => ?_) (fun hc => ?_) | refine WD.g_yes rfl rfl ?_ | refine WD.g_no rfl rfl rfl rfl ?_ | refine WD.g_undef rfl rfl rfl ?_ | refine WD.g_split rfl rfl (fun hc => ?_) (fun hc => ?_)
    | refine W.drawA ?_ | refine WL.aA (fun _ => ?_) | refine WD.aA (fun _ => ?_) | refine WL.e0A ?_ | refine WD.e0A ?_
    | refine W.cond rfl (fun hc => ?_) (fun hc => ?_))
  refine WL.p rfl (Pu.max2 rfl rfl) ?_
  have hmin : (if (64 : Int) < bn then (64 : Int) else bn) = ((min 64 l.length : Nat) : Int) := by rw [hbn]; split <;> omega
  have hmx : (if (if ((min 64 l.length : Nat) : Int) < dups then ((min 64 l.length : Nat) : Int) else dups) > 0 then (if ((min 64 l.length : Nat) : Int) < dups then ((min 64 l.length : Nat) : Int) else dups) else 0) = (rn : Nat) := by
    rw [hrn]
    unfold dupN
    split <;> split <;> omega
  rw [hmin, hmx]
  have hrl : rn ≤ l.length := by have := dupN_le dups (min 64 l.length); omega
  repeat' (first
    | refine W.seq ?_ | refine W.region ?_ | refine W.block ?_ | refine W.skip ?_ | refine W.exit ?_ | refine W.ret ?_ | refine W.cond_t rfl ?_ | refine W.cond_f rfl ?_ | refine WL.nil ?_ | refine WD.nil ?_ | refine Fin.next ?_ | refine Fin.then_exit ?_ | refine Fin.then_ret ?_ | refine Fin.block_normal ?_ | refine Fin.block_ret ?_ | refine Fin.block_exit ?_ | refine Fin.block_other rfl ?_
    | refine WL.pA ?_ | refine WD.pA ?_ | refine WL.sA ?_ | refine WD.sA ?_ | refine WL.g_yes rfl rfl ?_ | refine WL.g_no rfl rfl rfl rfl ?_ | refine WL.g_undef rfl rfl rfl ?_ | refine WL.g_split rfl rfl (fun hc => ?_) (fun hc => ?_) | refine WD.g_yes rfl rfl ?_ | refine WD.g_no rfl rfl rfl rfl ?_ | refine WD.g_undef rfl rfl rfl ?_ | refine WD.g_split rfl rfl (fun hc => ?_) (fun hc => ?_)
    | refine W.drawA ?_ | refine WL.aA (fun _ => ?_) | refine WD.aA (fun _ => ?_) | refine WL.e0A ?_ | refine WD.e0A ?_
    | refine W.cond rfl (fun hc => ?_) (fun hc => ?_))
  · exfalso; simp at hc
  rename_i b10
  refine W.loop (G := Nat) (fun g => [(0, .int .u32 first), (1, .slice ba bn bc), (7, .pointer (some ⟨m1.R, 0, none⟩)), (10, .pointer (some ⟨b10, 0, none⟩)), (11, .int .i64 g)]) (fun _ => (b10, .cells [.int .u32 m.s.base, .int .u32 0, .slice ga 0 gc, .slice ra rn rc].toArray 38 (0, 0)) :: (m1.H ++ (gb ++ rb))) (fun g => g ≤ rn) (fun g => rn - g) 0 (Nat.zero_le _) (sub_of (by repeat (first | exact subEnv.nil | refine subEnv.cons rfl ?_))) (fun _ h => h) ?_
  clear hd hi hc
  intro i hi
  dsimp only at hi ⊢
  have hrlst : Lst F ((b10, .cells [.int .u32 m.s.base, .int .u32 0, .slice ga 0 gc, .slice ra rn rc].toArray 38 (0, 0)) :: (m1.H ++ (gb ++ rb))) 1 (((l.take rn).map (fun y => u32 (first + y))).map (Value.int .u32)) ra rn rc := (Lst.own (F := F) (H := rb) hr (fun _ h => h)).mono (fun _ h => h.sublist (by repeat (first | exact List.Sublist.refl _ | exact List.sublist_append_left _ _ | refine List.Sublist.cons _ ?_ | refine List.Sublist.trans ?_ (List.sublist_append_right _ _))))
  repeat' (first
    | refine W.seq ?_ | refine W.region ?_ | refine W.block ?_ | refine W.skip ?_ | refine W.exit ?_ | refine W.ret ?_ | refine W.cond_t rfl ?_ | refine W.cond_f rfl ?_ | refine WL.nil ?_ | refine WD.nil ?_ | refine Fin.next ?_ | refine Fin.then_exit ?_ | refine Fin.then_ret ?_ | refine Fin.block_normal ?_ | refine Fin.block_ret ?_ | refine Fin.block_exit ?_ | refine Fin.block_other rfl ?_
    | refine WL.pA ?_ | refine WD.pA ?_ | refine WL.sA ?_ | refine WD.sA ?_ | refine WL.g_yes rfl rfl ?_ | refine WL.g_no rfl rfl rfl rfl ?_ | refine WL.g_undef rfl rfl rfl ?_ | refine WL.g_split rfl rfl (fun hc => ?_) (fun hc => ?_) | refine WD.g_yes rfl rfl ?_ | refine WD.g_no rfl rfl rfl rfl ?_ | refine WD.g_undef rfl rfl rfl ?_ | refine WD.g_split rfl rfl (fun hc => ?_) (fun hc => ?_)
    | refine W.drawA ?_ | refine WL.aA (fun _ => ?_) | refine WD.aA (fun _ => ?_) | refine WL.e0A ?_ | refine WD.e0A ?_
    | refine W.cond rfl (fun hc => ?_) (fun hc => ?_))
  · have hi' : i < rn := by have := of_decide_eq_true hc; omega
    obtain ⟨a, ha⟩ : ∃ a, l[i]? = some a := ⟨l[i]'(by omega), by simp⟩
    obtain ⟨lb, lo, rfl, hcan⟩ := lst_el hlst ha
    have hx : ((l.take rn).map (fun y => u32 (first + y)))[i]? = some (u32 (first + a)) := by rw [List.getElem?_map, List.getElem?_take, if_pos hi', ha]; rfl
    obtain ⟨rb0, ro, rfl, hcan2⟩ := lst_el hrlst hx
    have hia : 0 ≤ (i : Int) ∧ (i : Int) < rn := by omega
    have hia2 : 0 ≤ (i : Int) ∧ (i : Int) < bn := by omega
    have har := hl a (List.mem_of_getElem? ha)
    have e1 : IntKind.u32.wrap a = a := u32_id (by omega)
    repeat' (first
      | refine W.seq ?_ | refine W.region ?_ | refine W.block ?_ | refine W.skip ?_ | refine W.exit ?_ | refine W.ret ?_ | refine W.cond_t rfl ?_ | refine W.cond_f rfl ?_ | refine WL.nil ?_ | refine WD.nil ?_ | refine Fin.next ?_ | refine Fin.then_exit ?_ | refine Fin.then_ret ?_ | refine Fin.block_normal ?_ | refine Fin.block_ret ?_ | refine Fin.block_exit ?_ | refine Fin.block_other rfl ?_
      | refine WL.pA ?_ | refine WD.pA ?_ | refine WL.sA ?_ | refine WD.sA ?_ | refine WL.g_yes rfl rfl ?_ | refine WL.g_no rfl rfl rfl rfl ?_ | refine WL.g_undef rfl rfl rfl ?_ | refine WL.g_split rfl rfl (fun hc => ?_) (fun hc => ?_) | refine WD.g_yes rfl rfl ?_ | refine WD.g_no rfl rfl rfl rfl ?_ | refine WD.g_undef rfl rfl rfl ?_ | refine WD.g_split rfl rfl (fun hc => ?_) (fun hc => ?_)
      | refine W.drawA ?_ | refine WL.aA (fun _ => ?_) | refine WD.aA (fun _ => ?_) | refine WL.e0A ?_ | refine WD.e0A ?_
      | refine W.cond rfl (fun hc => ?_) (fun hc => ?_))
    · exfalso; rw [e1] at hc; simp [u32] at hc
    rw [i64_succ (by omega)]
    exact Fin.round (i + 1) hi' (sub_of (by repeat (first | exact subEnv.nil | refine subEnv.cons rfl ?_))) (fun _ h => h) (by omega)
  refine WL.e rfl (Ef.call (c := m1.H) (by exact rfl) (.last (.there .here)) (report_tr _ m1 hq.ok 9 9 (by decide))) ?_
  rintro _ _ ⟨_, ⟨m2, ga2, gn2, gc2, gb2, ra2, rn2, rc2, rb2, rfl, hq2, rfl⟩, rfl⟩
  have hr2 := hq2.d
  rw [hq.ds] at hr2
  obtain rfl : rn2 = 0 := by have := hr2.len; simp at this; omega
  repeat' (first
    | refine W.seq ?_ | refine W.region ?_ | refine W.block ?_ | refine W.skip ?_ | refine W.exit ?_ | refine W.ret ?_ | refine W.cond_t rfl ?_ | refine W.cond_f rfl ?_ | refine WL.nil ?_ | refine WD.nil ?_ | refine Fin.next ?_ | refine Fin.then_exit ?_ | refine Fin.then_ret ?_ | refine Fin.block_normal ?_ | refine Fin.block_ret ?_ | refine Fin.block_exit ?_ | refine Fin.block_other rfl ?_
    | refine WL.pA ?_ | refine WD.pA ?_ | refine WL.sA ?_ | refine WD.sA ?_ | refine WL.g_yes rfl rfl ?_ | refine WL.g_no rfl rfl rfl rfl ?_ | refine WL.g_undef rfl rfl rfl ?_ | refine WL.g_split rfl rfl (fun hc => ?_) (fun hc => ?_) | refine WD.g_yes rfl rfl ?_ | refine WD.g_no rfl rfl rfl rfl ?_ | refine WD.g_undef rfl rfl rfl ?_ | refine WD.g_split rfl rfl (fun hc => ?_) (fun hc => ?_)
    | refine W.drawA ?_ | refine WL.aA (fun _ => ?_) | refine WD.aA (fun _ => ?_) | refine WL.e0A ?_ | refine WD.e0A ?_
    | refine W.cond rfl (fun hc => ?_) (fun hc => ?_))
  refine WL.e rfl (Ef.callR (by exact rfl) (.nil _) (works_tr _)) ?_
  rintro _ _ ⟨rfl, rfl⟩
  repeat' (first
    | refine W.seq ?_ | refine W.region ?_ | refine W.block ?_ | refine W.skip ?_ | refine W.exit ?_ | refine W.ret ?_ | refine W.cond_t rfl ?_ | refine W.cond_f rfl ?_ | refine WL.nil ?_ | refine WD.nil ?_ | refine Fin.next ?_ | refine Fin.then_exit ?_ | refine Fin.then_ret ?_ | refine Fin.block_normal ?_ | refine Fin.block_ret ?_ | refine Fin.block_exit ?_ | refine Fin.block_other rfl ?_
    | refine WL.pA ?_ | refine WD.pA ?_ | refine WL.sA ?_ | refine WD.sA ?_ | refine WL.g_yes rfl rfl ?_ | refine WL.g_no rfl rfl rfl rfl ?_ | refine WL.g_undef rfl rfl rfl ?_ | refine WL.g_split rfl rfl (fun hc => ?_) (fun hc => ?_) | refine WD.g_yes rfl rfl ?_ | refine WD.g_no rfl rfl rfl rfl ?_ | refine WD.g_undef rfl rfl rfl ?_ | refine WD.g_split rfl rfl (fun hc => ?_) (fun hc => ?_)
    | refine W.drawA ?_ | refine WL.aA (fun _ => ?_) | refine WD.aA (fun _ => ?_) | refine WL.e0A ?_ | refine WD.e0A ?_
    | refine W.cond rfl (fun hc => ?_) (fun hc => ?_))
  exact Fin.retW (by exact rfl) (by repeat' (first | exact Res.nil | exact rfl | exact CutAt.here rfl | exact CellAt.here rfl | apply CutAt.there | apply CellAt.there | apply CutAt.right | apply CellAt.right | apply Res.tmp | apply Res.agg' | apply Res.cell')) (fun _ h => h.sublist (List.nil_sublist _)) ⟨rfl, rfl⟩
end Go.Proofs.Ytkbdfhfbhgaecaa
