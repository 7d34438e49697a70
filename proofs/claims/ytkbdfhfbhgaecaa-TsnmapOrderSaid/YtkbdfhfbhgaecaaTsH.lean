/- The law TsnmapOrder, walked. Conditions: what the arguments' cells are. -/
import Derived.Test.YtkbdfhfbhgaecaaTsC
import Derived.Test.YtkbdfhfbhgaecaaTsD
namespace Go.Proofs.Ytkbdfhfbhgaecaa
open Go Go.Sl Go.Spn

structure OrG where
  i : Nat
  a : MM
  b : MM
  c : MM
/-- the TSN that lies by so much beyond the first one -/
def tsnOf (b y : Int) : Int := u32 (b + (y % 4096 + 1))
theorem tsn_val {first y : Int} (hy : 0 ≤ y ∧ y < 65536) : IntKind.u32.wrap (first + (IntKind.u32.wrap y).tmod 4096) = tsnOf (u32 (first - 1)) y := by
  rw [u32_id (n := y) (by omega), Int.tmod_eq_emod_of_nonneg hy.1]
  unfold tsnOf
  show u32 _ = _
  simp only [u32_eq]
  omega
theorem rev_take {l : List Int} {i : Nat} {a : Int} (hi : i < l.length) (h : l[l.length - 1 - i]? = some a) : l.reverse.take (i + 1) = l.reverse.take i ++ [a] := by
  rw [List.take_add_one, List.getElem?_reverse hi, h]
  rfl
set_option maxRecDepth 20000 in
set_option maxHeartbeats 16000000 in
theorem orderLaw_tr (F : Nat → Option Obj) (first : Int) (l : List Int) (hl : ∀ a ∈ l, 0 ≤ a ∧ a < 65536) (ba : Option Addr) (bn bc : Nat) (hlst : Lst F [] 1 (l.map (Value.int .u16)) ba bn bc) :
    Tr Try.prog 4 [.int .u32 first, .slice ba bn bc].toArray F [] (fun v H => v = .bool true ∧ H = []) := by
  refine Tr.enter Try.func4 rfl Try.ntmps4 rfl (fun w0 => ?_)
  have hbn := lst_int hlst
  repeat' (first
    | refine W.seq ?_ | refine W.region ?_ | refine W.block ?_ | refine W.skip ?_ | refine W.exit ?_ | refine W.ret ?_ | refine W.cond_t rfl ?_ | refine W.cond_f rfl ?_ | refine WL.nil ?_ | refine WD.nil ?_ | refine Fin.next ?_ | refine Fin.then_exit ?_ | refine Fin.then_ret ?_ | refine Fin.block_normal ?_ | refine Fin.block_ret ?_ | refine Fin.block_exit ?_ | refine Fin.block_other rfl ?_
    | refine WL.pA ?_ | refine WD.pA ?_ | refine WL.sA ?_ | refine WD.sA ?_ | refine WL.g_yes rfl rfl ?_ | refine WL.g_no rfl rfl rfl rfl ?_ | refine WL.g_undef rfl rfl rfl ?_ | refine WL.g_split rfl rfl (fun hc => ?_) (fun hc => ?_) | refine WD.g_yes rfl rfl ?_ | refine WD.g_no rfl rfl rfl rfl ?_ | refine WD.g_undef rfl rfl rfl ?_ | refine WD.g_split rfl rfl (fun hc => ?_) (fun hc => ?_)
    | refine W.drawA ?_ | refine WL.aA (fun _ => ?_) | refine WD.aA (fun _ => ?_) | refine WL.e0A ?_ | refine WD.e0A ?_
    | refine W.cond rfl (fun hc => ?_) (fun hc => ?_))
  · refine WL.e rfl (Ef.callR (by exact rfl) (.nil _) (works_tr _)) ?_
    rintro _ _ ⟨rfl, rfl⟩
    repeat' (first
      | refine W.seq ?_ | refine W.region ?_ | refine W.block ?_ | refine W.skip ?_ | refine W.exit ?_ | refine W.ret ?_ | refine W.cond_t rfl ?_ | refine W.cond_f rfl ?_ | refine WL.nil ?_ | refine WD.nil ?_ | refine Fin.next ?_ | refine Fin.then_exit ?_ | refine Fin.then_ret ?_ | refine Fin.block_normal ?_ | refine Fin.block_ret ?_ | refine Fin.block_exit ?_ | refine Fin.block_other rfl ?_
      | refine WL.pA ?_ | refine WD.pA ?_ | refine WL.sA ?_ | refine WD.sA ?_ | refine WL.g_yes rfl rfl ?_ | refine WL.g_no rfl rfl rfl rfl ?_ | refine WL.g_undef rfl rfl rfl ?_ | refine WL.g_split rfl rfl (fun hc => ?_) (fun hc => ?_) | refine WD.g_yes rfl rfl ?_ | refine WD.g_no rfl rfl rfl rfl ?_ | refine WD.g_undef rfl rfl rfl ?_ | refine WD.g_split rfl rfl (fun hc => ?_) (fun hc => ?_)
      | refine W.drawA ?_ | refine WL.aA (fun _ => ?_) | refine WD.aA (fun _ => ?_) | refine WL.e0A ?_ | refine WD.e0A ?_
      | refine W.cond rfl (fun hc => ?_) (fun hc => ?_))
    exact Fin.retW (by exact rfl) (by repeat' (first | exact Res.nil | exact rfl | exact CutAt.here rfl | exact CellAt.here rfl | apply CutAt.there | apply CellAt.there | apply CutAt.right | apply CellAt.right | apply Res.tmp | apply Res.agg' | apply Res.cell')) (fun _ h => h) ⟨rfl, rfl⟩
  have h120 : bn ≤ 120 := by have := of_decide_eq_false hc; omega
  refine WL.e rfl (Ef.call (by exact rfl) (.nil _) (begin_tr _ first)) ?_
  rintro _ _ ⟨_, ⟨a0, ha0, rfl, rfl, hA0, _⟩, rfl⟩
  repeat' (first
    | refine W.seq ?_ | refine W.region ?_ | refine W.block ?_ | refine W.skip ?_ | refine W.exit ?_ | refine W.ret ?_ | refine W.cond_t rfl ?_ | refine W.cond_f rfl ?_ | refine WL.nil ?_ | refine WD.nil ?_ | refine Fin.next ?_ | refine Fin.then_exit ?_ | refine Fin.then_ret ?_ | refine Fin.block_normal ?_ | refine Fin.block_ret ?_ | refine Fin.block_exit ?_ | refine Fin.block_other rfl ?_
    | refine WL.pA ?_ | refine WD.pA ?_ | refine WL.sA ?_ | refine WD.sA ?_ | refine WL.g_yes rfl rfl ?_ | refine WL.g_no rfl rfl rfl rfl ?_ | refine WL.g_undef rfl rfl rfl ?_ | refine WL.g_split rfl rfl (fun hc => ?_) (fun hc => ?_) | refine WD.g_yes rfl rfl ?_ | refine WD.g_no rfl rfl rfl rfl ?_ | refine WD.g_undef rfl rfl rfl ?_ | refine WD.g_split rfl rfl (fun hc => ?_) (fun hc => ?_)
    | refine W.drawA ?_ | refine WL.aA (fun _ => ?_) | refine WD.aA (fun _ => ?_) | refine WL.e0A ?_ | refine WD.e0A ?_
    | refine W.cond rfl (fun hc => ?_) (fun hc => ?_))
  refine WL.e rfl (Ef.call (by exact rfl) (.nil _) (begin_tr _ first)) ?_
  rintro _ _ ⟨_, ⟨b0, hb0, rfl, rfl, hB0, _⟩, rfl⟩
  repeat' (first
    | refine W.seq ?_ | refine W.region ?_ | refine W.block ?_ | refine W.skip ?_ | refine W.exit ?_ | refine W.ret ?_ | refine W.cond_t rfl ?_ | refine W.cond_f rfl ?_ | refine WL.nil ?_ | refine WD.nil ?_ | refine Fin.next ?_ | refine Fin.then_exit ?_ | refine Fin.then_ret ?_ | refine Fin.block_normal ?_ | refine Fin.block_ret ?_ | refine Fin.block_exit ?_ | refine Fin.block_other rfl ?_
    | refine WL.pA ?_ | refine WD.pA ?_ | refine WL.sA ?_ | refine WD.sA ?_ | refine WL.g_yes rfl rfl ?_ | refine WL.g_no rfl rfl rfl rfl ?_ | refine WL.g_undef rfl rfl rfl ?_ | refine WL.g_split rfl rfl (fun hc => ?_) (fun hc => ?_) | refine WD.g_yes rfl rfl ?_ | refine WD.g_no rfl rfl rfl rfl ?_ | refine WD.g_undef rfl rfl rfl ?_ | refine WD.g_split rfl rfl (fun hc => ?_) (fun hc => ?_)
    | refine W.drawA ?_ | refine WL.aA (fun _ => ?_) | refine WD.aA (fun _ => ?_) | refine WL.e0A ?_ | refine WD.e0A ?_
    | refine W.cond rfl (fun hc => ?_) (fun hc => ?_))
  refine WL.e rfl (Ef.call (by exact rfl) (.nil _) (begin_tr _ first)) ?_
  rintro _ _ ⟨_, ⟨c0, hc0, rfl, rfl, hC0, _⟩, rfl⟩
  have hbr := u32_rng (first - 1)
  have htv : ∀ y, (0 ≤ y ∧ y < 65536) → IntKind.u32.wrap (first + (IntKind.u32.wrap y).tmod 4096) = tsnOf (u32 (first - 1)) y := fun y hy => tsn_val hy
  have hfb : IntKind.u32.wrap (first - 1) = u32 (first - 1) := rfl
  generalize u32 (first - 1) = b at hbr hA0 hB0 hC0 htv hfb
  rw [← came_nil b hbr] at hA0 hB0 hC0
  rw [List.append_nil]
  repeat' (first
    | refine W.seq ?_ | refine W.region ?_ | refine W.block ?_ | refine W.skip ?_ | refine W.exit ?_ | refine W.ret ?_ | refine W.cond_t rfl ?_ | refine W.cond_f rfl ?_ | refine WL.nil ?_ | refine WD.nil ?_ | refine Fin.next ?_ | refine Fin.then_exit ?_ | refine Fin.then_ret ?_ | refine Fin.block_normal ?_ | refine Fin.block_ret ?_ | refine Fin.block_exit ?_ | refine Fin.block_other rfl ?_
    | refine WL.pA ?_ | refine WD.pA ?_ | refine WL.sA ?_ | refine WD.sA ?_ | refine WL.g_yes rfl rfl ?_ | refine WL.g_no rfl rfl rfl rfl ?_ | refine WL.g_undef rfl rfl rfl ?_ | refine WL.g_split rfl rfl (fun hc => ?_) (fun hc => ?_) | refine WD.g_yes rfl rfl ?_ | refine WD.g_no rfl rfl rfl rfl ?_ | refine WD.g_undef rfl rfl rfl ?_ | refine WD.g_split rfl rfl (fun hc => ?_) (fun hc => ?_)
    | refine W.drawA ?_ | refine WL.aA (fun _ => ?_) | refine WD.aA (fun _ => ?_) | refine WL.e0A ?_ | refine WD.e0A ?_
    | refine W.cond rfl (fun hc => ?_) (fun hc => ?_))
  refine W.loop (G := OrG) (fun g => [(0, .int .u32 first), (1, .slice ba bn bc), (5, .pointer (some ⟨g.a.R, 0, none⟩)), (6, .pointer (some ⟨g.b.R, 0, none⟩)), (7, .pointer (some ⟨g.c.R, 0, none⟩)), (8, .int .i64 (count (fill b (dl (l.take g.i))))), (9, .int .i64 (count (fill b (dl (l.take g.i))))), (10, .int .i64 g.i)]) (fun g => g.a.H ++ (g.b.H ++ g.c.H))
    (fun g => g.i ≤ bn ∧ g.a.ok ∧ g.b.ok ∧ g.c.ok ∧ g.a.s.S = came b (l.take g.i) ∧ g.b.s.S = came b (l.reverse.take g.i) ∧ g.c.s.S = came b (l.take g.i)) (fun g => bn - g.i)
    ⟨0, a0, b0, c0⟩ ⟨Nat.zero_le _, ha0, hb0, hc0, hA0, hB0, hC0⟩ (by dsimp only; rw [List.take_zero, count_nil]; exact (sub_of (by repeat (first | exact subEnv.nil | refine subEnv.cons rfl ?_)))) (fun _ h => In.of_sub (.pickL (L := a0.H) (.right (.right .all)) (.pickL (L := b0.H) (.right .here) (.last (L := c0.H) (by simp only [List.append_nil]; exact .all)))) h) ?_
  rintro ⟨i, ma, mb, mc⟩ ⟨hi, ha, hb, hcc, hSa, hSb, hSc⟩
  dsimp only at hi ha hb hcc hSa hSb hSc ⊢
  repeat' (first
    | refine W.seq ?_ | refine W.region ?_ | refine W.block ?_ | refine W.skip ?_ | refine W.exit ?_ | refine W.ret ?_ | refine W.cond_t rfl ?_ | refine W.cond_f rfl ?_ | refine WL.nil ?_ | refine WD.nil ?_ | refine Fin.next ?_ | refine Fin.then_exit ?_ | refine Fin.then_ret ?_ | refine Fin.block_normal ?_ | refine Fin.block_ret ?_ | refine Fin.block_exit ?_ | refine Fin.block_other rfl ?_
    | refine WL.pA ?_ | refine WD.pA ?_ | refine WL.sA ?_ | refine WD.sA ?_ | refine WL.g_yes rfl rfl ?_ | refine WL.g_no rfl rfl rfl rfl ?_ | refine WL.g_undef rfl rfl rfl ?_ | refine WL.g_split rfl rfl (fun hc => ?_) (fun hc => ?_) | refine WD.g_yes rfl rfl ?_ | refine WD.g_no rfl rfl rfl rfl ?_ | refine WD.g_undef rfl rfl rfl ?_ | refine WD.g_split rfl rfl (fun hc => ?_) (fun hc => ?_)
    | refine W.drawA ?_ | refine WL.aA (fun _ => ?_) | refine WD.aA (fun _ => ?_) | refine WL.e0A ?_ | refine WD.e0A ?_
    | refine W.cond rfl (fun hc => ?_) (fun hc => ?_))
  · have hi' : i < bn := by have := of_decide_eq_true hc; omega
    obtain ⟨y, hy⟩ : ∃ a, l[i]? = some a := ⟨l[i]'(by omega), by simp⟩
    obtain ⟨y2, hy2⟩ : ∃ a, l[l.length - 1 - i]? = some a := ⟨l[l.length - 1 - i]'(by omega), by simp⟩
    obtain ⟨lb, lo, rfl, hcan⟩ := lst_el hlst hy
    obtain ⟨lb2, lo2, he2, hcan2⟩ := lst_el hlst hy2
    cases he2
    have hia : 0 ≤ (i : Int) ∧ (i : Int) < bn := by omega
    have hia2 : 0 ≤ ((l.length - 1 - i : Nat) : Int) ∧ ((l.length - 1 - i : Nat) : Int) < bn := by omega
    have hyr := hl y (List.mem_of_getElem? hy)
    have hyr2 := hl y2 (List.mem_of_getElem? hy2)
    have htk : l.take (i + 1) = l.take i ++ [y] := by rw [List.take_add_one, hy]; rfl
    repeat' (first
      | refine W.seq ?_ | refine W.region ?_ | refine W.block ?_ | refine W.skip ?_ | refine W.exit ?_ | refine W.ret ?_ | refine W.cond_t rfl ?_ | refine W.cond_f rfl ?_ | refine WL.nil ?_ | refine WD.nil ?_ | refine Fin.next ?_ | refine Fin.then_exit ?_ | refine Fin.then_ret ?_ | refine Fin.block_normal ?_ | refine Fin.block_ret ?_ | refine Fin.block_exit ?_ | refine Fin.block_other rfl ?_
      | refine WL.pA ?_ | refine WD.pA ?_ | refine WL.sA ?_ | refine WD.sA ?_ | refine WL.g_yes rfl rfl ?_ | refine WL.g_no rfl rfl rfl rfl ?_ | refine WL.g_undef rfl rfl rfl ?_ | refine WL.g_split rfl rfl (fun hc => ?_) (fun hc => ?_) | refine WD.g_yes rfl rfl ?_ | refine WD.g_no rfl rfl rfl rfl ?_ | refine WD.g_undef rfl rfl rfl ?_ | refine WD.g_split rfl rfl (fun hc => ?_) (fun hc => ?_)
      | refine W.drawA ?_ | refine WL.aA (fun _ => ?_) | refine WD.aA (fun _ => ?_) | refine WL.e0A ?_ | refine WD.e0A ?_
      | refine W.cond rfl (fun hc => ?_) (fun hc => ?_))
    refine WL.p rfl (Pu.rem rfl rfl (by decide)) ?_
    repeat' (first
      | refine W.seq ?_ | refine W.region ?_ | refine W.block ?_ | refine W.skip ?_ | refine W.exit ?_ | refine W.ret ?_ | refine W.cond_t rfl ?_ | refine W.cond_f rfl ?_ | refine WL.nil ?_ | refine WD.nil ?_ | refine Fin.next ?_ | refine Fin.then_exit ?_ | refine Fin.then_ret ?_ | refine Fin.block_normal ?_ | refine Fin.block_ret ?_ | refine Fin.block_exit ?_ | refine Fin.block_other rfl ?_
      | refine WL.pA ?_ | refine WD.pA ?_ | refine WL.sA ?_ | refine WD.sA ?_ | refine WL.g_yes rfl rfl ?_ | refine WL.g_no rfl rfl rfl rfl ?_ | refine WL.g_undef rfl rfl rfl ?_ | refine WL.g_split rfl rfl (fun hc => ?_) (fun hc => ?_) | refine WD.g_yes rfl rfl ?_ | refine WD.g_no rfl rfl rfl rfl ?_ | refine WD.g_undef rfl rfl rfl ?_ | refine WD.g_split rfl rfl (fun hc => ?_) (fun hc => ?_)
      | refine W.drawA ?_ | refine WL.aA (fun _ => ?_) | refine WD.aA (fun _ => ?_) | refine WL.e0A ?_ | refine WD.e0A ?_
      | refine W.cond rfl (fun hc => ?_) (fun hc => ?_))
    rw [htv y hyr, show IntKind.i64.wrap (IntKind.i64.wrap ((bn : Int) - 1) - (i : Int)) = ((l.length - 1 - i : Nat) : Int) by rw [i64_id (n := (bn : Int) - 1) (by omega) (by omega), i64_id (by omega) (by omega)]; omega]
    repeat' (first
      | refine W.seq ?_ | refine W.region ?_ | refine W.block ?_ | refine W.skip ?_ | refine W.exit ?_ | refine W.ret ?_ | refine W.cond_t rfl ?_ | refine W.cond_f rfl ?_ | refine WL.nil ?_ | refine WD.nil ?_ | refine Fin.next ?_ | refine Fin.then_exit ?_ | refine Fin.then_ret ?_ | refine Fin.block_normal ?_ | refine Fin.block_ret ?_ | refine Fin.block_exit ?_ | refine Fin.block_other rfl ?_
      | refine WL.pA ?_ | refine WD.pA ?_ | refine WL.sA ?_ | refine WD.sA ?_ | refine WL.g_yes rfl rfl ?_ | refine WL.g_no rfl rfl rfl rfl ?_ | refine WL.g_undef rfl rfl rfl ?_ | refine WL.g_split rfl rfl (fun hc => ?_) (fun hc => ?_) | refine WD.g_yes rfl rfl ?_ | refine WD.g_no rfl rfl rfl rfl ?_ | refine WD.g_undef rfl rfl rfl ?_ | refine WD.g_split rfl rfl (fun hc => ?_) (fun hc => ?_)
      | refine W.drawA ?_ | refine WL.aA (fun _ => ?_) | refine WD.aA (fun _ => ?_) | refine WL.e0A ?_ | refine WD.e0A ?_
      | refine W.cond rfl (fun hc => ?_) (fun hc => ?_))
    refine WL.p rfl (Pu.rem rfl rfl (by decide)) ?_
    repeat' (first
      | refine W.seq ?_ | refine W.region ?_ | refine W.block ?_ | refine W.skip ?_ | refine W.exit ?_ | refine W.ret ?_ | refine W.cond_t rfl ?_ | refine W.cond_f rfl ?_ | refine WL.nil ?_ | refine WD.nil ?_ | refine Fin.next ?_ | refine Fin.then_exit ?_ | refine Fin.then_ret ?_ | refine Fin.block_normal ?_ | refine Fin.block_ret ?_ | refine Fin.block_exit ?_ | refine Fin.block_other rfl ?_
      | refine WL.pA ?_ | refine WD.pA ?_ | refine WL.sA ?_ | refine WD.sA ?_ | refine WL.g_yes rfl rfl ?_ | refine WL.g_no rfl rfl rfl rfl ?_ | refine WL.g_undef rfl rfl rfl ?_ | refine WL.g_split rfl rfl (fun hc => ?_) (fun hc => ?_) | refine WD.g_yes rfl rfl ?_ | refine WD.g_no rfl rfl rfl rfl ?_ | refine WD.g_undef rfl rfl rfl ?_ | refine WD.g_split rfl rfl (fun hc => ?_) (fun hc => ?_)
      | refine W.drawA ?_ | refine WL.aA (fun _ => ?_) | refine WD.aA (fun _ => ?_) | refine WL.e0A ?_ | refine WD.e0A ?_
      | refine W.cond rfl (fun hc => ?_) (fun hc => ?_))
    rw [htv y2 hyr2]
    refine WL.e rfl (Ef.call (c := ma.H) (by exact rfl) (.one _ _) (take_tr _ ma ha (tsnOf b y) (u32_rng _))) ?_
    rintro _ _ ⟨_, ⟨rfl, ma1, ha1, rfl, hRa, hSa1, _⟩, rfl⟩
    have hstep : takeS (came b (l.take i)) (tsnOf b y) = came b (l.take i ++ [y]) ∧ Spn.look (came b (l.take i)) (tsnOf b y) = if told (dl (l.take i)) (y % 4096 + 1).toNat then 1 else 0 := came_step hbr (l.take i) y
    have hcnt := count_step (b := b) (l.take i) y
    have hcl : count (fill b (dl (l.take i))) ≤ 4097 := dist_le _
    rw [hSa, hstep.2, ← hRa]
    rw [hSa, hstep.1] at hSa1
    obtain ⟨n, hn⟩ : ∃ n, count (fill b (dl (l.take i))) = n := ⟨_, rfl⟩
    obtain ⟨n', hn'⟩ : ∃ n, count (fill b (dl (l.take i ++ [y]))) = n := ⟨_, rfl⟩
    rw [hn, hn'] at hcnt
    rw [hn]
    rw [hn] at hcl
    cases ht : told (dl (l.take i)) (y % 4096 + 1).toNat with
    | true =>
      rw [ht, if_pos rfl] at hcnt
      rw [if_pos rfl]
      obtain rfl : n' = n := by omega
      rw [ht, if_pos rfl] at hstep
      repeat' (first
        | refine W.seq ?_ | refine W.region ?_ | refine W.block ?_ | refine W.skip ?_ | refine W.exit ?_ | refine W.ret ?_ | refine W.cond_t rfl ?_ | refine W.cond_f rfl ?_ | refine WL.nil ?_ | refine WD.nil ?_ | refine Fin.next ?_ | refine Fin.then_exit ?_ | refine Fin.then_ret ?_ | refine Fin.block_normal ?_ | refine Fin.block_ret ?_ | refine Fin.block_exit ?_ | refine Fin.block_other rfl ?_
        | refine WL.pA ?_ | refine WD.pA ?_ | refine WL.sA ?_ | refine WD.sA ?_ | refine WL.g_yes rfl rfl ?_ | refine WL.g_no rfl rfl rfl rfl ?_ | refine WL.g_undef rfl rfl rfl ?_ | refine WL.g_split rfl rfl (fun hc => ?_) (fun hc => ?_) | refine WD.g_yes rfl rfl ?_ | refine WD.g_no rfl rfl rfl rfl ?_ | refine WD.g_undef rfl rfl rfl ?_ | refine WD.g_split rfl rfl (fun hc => ?_) (fun hc => ?_)
        | refine W.drawA ?_ | refine WL.aA (fun _ => ?_) | refine WD.aA (fun _ => ?_) | refine WL.e0A ?_ | refine WD.e0A ?_
        | refine W.cond rfl (fun hc => ?_) (fun hc => ?_))
      refine WL.e rfl (Ef.call (c := mb.H) (by exact rfl) (.last (.right .here)) (take_tr _ mb hb (tsnOf b y2) (u32_rng _))) ?_
      rintro _ _ ⟨_, ⟨rfl, mb1, hb1, rfl, hRb, hSb1, _⟩, rfl⟩
      rw [← hRb]
      repeat' (first
        | refine W.seq ?_ | refine W.region ?_ | refine W.block ?_ | refine W.skip ?_ | refine W.exit ?_ | refine W.ret ?_ | refine W.cond_t rfl ?_ | refine W.cond_f rfl ?_ | refine WL.nil ?_ | refine WD.nil ?_ | refine Fin.next ?_ | refine Fin.then_exit ?_ | refine Fin.then_ret ?_ | refine Fin.block_normal ?_ | refine Fin.block_ret ?_ | refine Fin.block_exit ?_ | refine Fin.block_other rfl ?_
        | refine WL.pA ?_ | refine WD.pA ?_ | refine WL.sA ?_ | refine WD.sA ?_ | refine WL.g_yes rfl rfl ?_ | refine WL.g_no rfl rfl rfl rfl ?_ | refine WL.g_undef rfl rfl rfl ?_ | refine WL.g_split rfl rfl (fun hc => ?_) (fun hc => ?_) | refine WD.g_yes rfl rfl ?_ | refine WD.g_no rfl rfl rfl rfl ?_ | refine WD.g_undef rfl rfl rfl ?_ | refine WD.g_split rfl rfl (fun hc => ?_) (fun hc => ?_)
        | refine W.drawA ?_ | refine WL.aA (fun _ => ?_) | refine WD.aA (fun _ => ?_) | refine WL.e0A ?_ | refine WD.e0A ?_
        | refine W.cond rfl (fun hc => ?_) (fun hc => ?_))
      refine WL.e rfl (Ef.call (c := mc.H) (by exact rfl) (.last (.right (.right .all))) (take_tr _ mc hcc (tsnOf b y) (u32_rng _))) ?_
      rintro _ _ ⟨_, ⟨rfl, mc1, hc1, rfl, hRc, hSc1, _⟩, rfl⟩
      rw [hSc, hstep.2, ← hRc]
      rw [hSc, hstep.1] at hSc1
      repeat' (first
        | refine W.seq ?_ | refine W.region ?_ | refine W.block ?_ | refine W.skip ?_ | refine W.exit ?_ | refine W.ret ?_ | refine W.cond_t rfl ?_ | refine W.cond_f rfl ?_ | refine WL.nil ?_ | refine WD.nil ?_ | refine Fin.next ?_ | refine Fin.then_exit ?_ | refine Fin.then_ret ?_ | refine Fin.block_normal ?_ | refine Fin.block_ret ?_ | refine Fin.block_exit ?_ | refine Fin.block_other rfl ?_
        | refine WL.pA ?_ | refine WD.pA ?_ | refine WL.sA ?_ | refine WD.sA ?_ | refine WL.g_yes rfl rfl ?_ | refine WL.g_no rfl rfl rfl rfl ?_ | refine WL.g_undef rfl rfl rfl ?_ | refine WL.g_split rfl rfl (fun hc => ?_) (fun hc => ?_) | refine WD.g_yes rfl rfl ?_ | refine WD.g_no rfl rfl rfl rfl ?_ | refine WD.g_undef rfl rfl rfl ?_ | refine WD.g_split rfl rfl (fun hc => ?_) (fun hc => ?_)
        | refine W.drawA ?_ | refine WL.aA (fun _ => ?_) | refine WD.aA (fun _ => ?_) | refine WL.e0A ?_ | refine WD.e0A ?_
        | refine W.cond rfl (fun hc => ?_) (fun hc => ?_))
      refine WL.e rfl (Ef.call (c := mc1.H) (by exact rfl) (.one _ _) (take_tr _ mc1 hc1 (tsnOf b y) (u32_rng _))) ?_
      rintro _ _ ⟨_, ⟨rfl, mc2, hc2, rfl, hRc2, hSc2, _⟩, rfl⟩
      have hag := came_step hbr (l.take i ++ [y]) y
      have hin : told (dl (l.take i ++ [y])) (y % 4096 + 1).toNat = true := told_in (by simp)
      rw [hSc1] at hSc2
      rw [hSc1, show Spn.look (came b (l.take i ++ [y])) (tsnOf b y) = 1 by rw [show tsnOf b y = u32 (b + (y % 4096 + 1)) from rfl, hag.2, hin]; rfl, ← hRc2]
      replace hSc2 : mc2.s.S = came b (l.take i ++ [y]) := by rw [hSc2, show tsnOf b y = u32 (b + (y % 4096 + 1)) from rfl, hag.1, came_add hbr hin]
      replace hSb1 : mb1.s.S = came b (l.reverse.take (i + 1)) := by
        rw [hSb1, hSb, show tsnOf b y2 = u32 (b + (y2 % 4096 + 1)) from rfl, (came_step hbr (l.reverse.take i) y2).1, rev_take (by omega) hy2]
      repeat' (first
        | refine W.seq ?_ | refine W.region ?_ | refine W.block ?_ | refine W.skip ?_ | refine W.exit ?_ | refine W.ret ?_ | refine W.cond_t rfl ?_ | refine W.cond_f rfl ?_ | refine WL.nil ?_ | refine WD.nil ?_ | refine Fin.next ?_ | refine Fin.then_exit ?_ | refine Fin.then_ret ?_ | refine Fin.block_normal ?_ | refine Fin.block_ret ?_ | refine Fin.block_exit ?_ | refine Fin.block_other rfl ?_
        | refine WL.pA ?_ | refine WD.pA ?_ | refine WL.sA ?_ | refine WD.sA ?_ | refine WL.g_yes rfl rfl ?_ | refine WL.g_no rfl rfl rfl rfl ?_ | refine WL.g_undef rfl rfl rfl ?_ | refine WL.g_split rfl rfl (fun hc => ?_) (fun hc => ?_) | refine WD.g_yes rfl rfl ?_ | refine WD.g_no rfl rfl rfl rfl ?_ | refine WD.g_undef rfl rfl rfl ?_ | refine WD.g_split rfl rfl (fun hc => ?_) (fun hc => ?_)
        | refine W.drawA ?_ | refine WL.aA (fun _ => ?_) | refine WD.aA (fun _ => ?_) | refine WL.e0A ?_ | refine WD.e0A ?_
        | refine W.cond rfl (fun hc => ?_) (fun hc => ?_))
      rw [i64_succ (i := i) (by omega)]
      refine Fin.round ⟨i + 1, ma1, mb1, mc2⟩ ⟨hi', ha1, hb1, hc2, by dsimp only; rw [htk]; exact hSa1, hSb1, by dsimp only; rw [htk]; exact hSc2⟩ (by dsimp only; rw [htk, hn']; exact (sub_of (by repeat (first | exact subEnv.nil | refine subEnv.cons rfl ?_)))) (fun _ h => In.of_sub (.pickL (L := ma1.H) (.right (.right .here)) (.pickL (L := mb1.H) (.right .here) (.last (L := mc2.H) (by simp only [List.append_nil]; exact .all)))) h) (by dsimp only; omega)
    | false =>
      rw [ht, if_neg (by simp)] at hcnt
      rw [if_neg (by simp)]
      obtain rfl : n' = n + 1 := by omega
      rw [ht, if_neg (by simp)] at hstep
      repeat' (first
        | refine W.seq ?_ | refine W.region ?_ | refine W.block ?_ | refine W.skip ?_ | refine W.exit ?_ | refine W.ret ?_ | refine W.cond_t rfl ?_ | refine W.cond_f rfl ?_ | refine WL.nil ?_ | refine WD.nil ?_ | refine Fin.next ?_ | refine Fin.then_exit ?_ | refine Fin.then_ret ?_ | refine Fin.block_normal ?_ | refine Fin.block_ret ?_ | refine Fin.block_exit ?_ | refine Fin.block_other rfl ?_
        | refine WL.pA ?_ | refine WD.pA ?_ | refine WL.sA ?_ | refine WD.sA ?_ | refine WL.g_yes rfl rfl ?_ | refine WL.g_no rfl rfl rfl rfl ?_ | refine WL.g_undef rfl rfl rfl ?_ | refine WL.g_split rfl rfl (fun hc => ?_) (fun hc => ?_) | refine WD.g_yes rfl rfl ?_ | refine WD.g_no rfl rfl rfl rfl ?_ | refine WD.g_undef rfl rfl rfl ?_ | refine WD.g_split rfl rfl (fun hc => ?_) (fun hc => ?_)
        | refine W.drawA ?_ | refine WL.aA (fun _ => ?_) | refine WD.aA (fun _ => ?_) | refine WL.e0A ?_ | refine WD.e0A ?_
        | refine W.cond rfl (fun hc => ?_) (fun hc => ?_))
      rw [i64_succ (i := n) (by omega)]
      refine WL.e rfl (Ef.call (c := mb.H) (by exact rfl) (.last (.right .here)) (take_tr _ mb hb (tsnOf b y2) (u32_rng _))) ?_
      rintro _ _ ⟨_, ⟨rfl, mb1, hb1, rfl, hRb, hSb1, _⟩, rfl⟩
      rw [← hRb]
      repeat' (first
        | refine W.seq ?_ | refine W.region ?_ | refine W.block ?_ | refine W.skip ?_ | refine W.exit ?_ | refine W.ret ?_ | refine W.cond_t rfl ?_ | refine W.cond_f rfl ?_ | refine WL.nil ?_ | refine WD.nil ?_ | refine Fin.next ?_ | refine Fin.then_exit ?_ | refine Fin.then_ret ?_ | refine Fin.block_normal ?_ | refine Fin.block_ret ?_ | refine Fin.block_exit ?_ | refine Fin.block_other rfl ?_
        | refine WL.pA ?_ | refine WD.pA ?_ | refine WL.sA ?_ | refine WD.sA ?_ | refine WL.g_yes rfl rfl ?_ | refine WL.g_no rfl rfl rfl rfl ?_ | refine WL.g_undef rfl rfl rfl ?_ | refine WL.g_split rfl rfl (fun hc => ?_) (fun hc => ?_) | refine WD.g_yes rfl rfl ?_ | refine WD.g_no rfl rfl rfl rfl ?_ | refine WD.g_undef rfl rfl rfl ?_ | refine WD.g_split rfl rfl (fun hc => ?_) (fun hc => ?_)
        | refine W.drawA ?_ | refine WL.aA (fun _ => ?_) | refine WD.aA (fun _ => ?_) | refine WL.e0A ?_ | refine WD.e0A ?_
        | refine W.cond rfl (fun hc => ?_) (fun hc => ?_))
      refine WL.e rfl (Ef.call (c := mc.H) (by exact rfl) (.last (.right (.right .all))) (take_tr _ mc hcc (tsnOf b y) (u32_rng _))) ?_
      rintro _ _ ⟨_, ⟨rfl, mc1, hc1, rfl, hRc, hSc1, _⟩, rfl⟩
      rw [hSc, hstep.2, ← hRc]
      rw [hSc, hstep.1] at hSc1
      repeat' (first
        | refine W.seq ?_ | refine W.region ?_ | refine W.block ?_ | refine W.skip ?_ | refine W.exit ?_ | refine W.ret ?_ | refine W.cond_t rfl ?_ | refine W.cond_f rfl ?_ | refine WL.nil ?_ | refine WD.nil ?_ | refine Fin.next ?_ | refine Fin.then_exit ?_ | refine Fin.then_ret ?_ | refine Fin.block_normal ?_ | refine Fin.block_ret ?_ | refine Fin.block_exit ?_ | refine Fin.block_other rfl ?_
        | refine WL.pA ?_ | refine WD.pA ?_ | refine WL.sA ?_ | refine WD.sA ?_ | refine WL.g_yes rfl rfl ?_ | refine WL.g_no rfl rfl rfl rfl ?_ | refine WL.g_undef rfl rfl rfl ?_ | refine WL.g_split rfl rfl (fun hc => ?_) (fun hc => ?_) | refine WD.g_yes rfl rfl ?_ | refine WD.g_no rfl rfl rfl rfl ?_ | refine WD.g_undef rfl rfl rfl ?_ | refine WD.g_split rfl rfl (fun hc => ?_) (fun hc => ?_)
        | refine W.drawA ?_ | refine WL.aA (fun _ => ?_) | refine WD.aA (fun _ => ?_) | refine WL.e0A ?_ | refine WD.e0A ?_
        | refine W.cond rfl (fun hc => ?_) (fun hc => ?_))
      rw [i64_succ (i := n) (by omega)]
      refine WL.e rfl (Ef.call (c := mc1.H) (by exact rfl) (.one _ _) (take_tr _ mc1 hc1 (tsnOf b y) (u32_rng _))) ?_
      rintro _ _ ⟨_, ⟨rfl, mc2, hc2, rfl, hRc2, hSc2, _⟩, rfl⟩
      have hag := came_step hbr (l.take i ++ [y]) y
      have hin : told (dl (l.take i ++ [y])) (y % 4096 + 1).toNat = true := told_in (by simp)
      rw [hSc1] at hSc2
      rw [hSc1, show Spn.look (came b (l.take i ++ [y])) (tsnOf b y) = 1 by rw [show tsnOf b y = u32 (b + (y % 4096 + 1)) from rfl, hag.2, hin]; rfl, ← hRc2]
      replace hSc2 : mc2.s.S = came b (l.take i ++ [y]) := by rw [hSc2, show tsnOf b y = u32 (b + (y % 4096 + 1)) from rfl, hag.1, came_add hbr hin]
      replace hSb1 : mb1.s.S = came b (l.reverse.take (i + 1)) := by
        rw [hSb1, hSb, show tsnOf b y2 = u32 (b + (y2 % 4096 + 1)) from rfl, (came_step hbr (l.reverse.take i) y2).1, rev_take (by omega) hy2]
      repeat' (first
        | refine W.seq ?_ | refine W.region ?_ | refine W.block ?_ | refine W.skip ?_ | refine W.exit ?_ | refine W.ret ?_ | refine W.cond_t rfl ?_ | refine W.cond_f rfl ?_ | refine WL.nil ?_ | refine WD.nil ?_ | refine Fin.next ?_ | refine Fin.then_exit ?_ | refine Fin.then_ret ?_ | refine Fin.block_normal ?_ | refine Fin.block_ret ?_ | refine Fin.block_exit ?_ | refine Fin.block_other rfl ?_
        | refine WL.pA ?_ | refine WD.pA ?_ | refine WL.sA ?_ | refine WD.sA ?_ | refine WL.g_yes rfl rfl ?_ | refine WL.g_no rfl rfl rfl rfl ?_ | refine WL.g_undef rfl rfl rfl ?_ | refine WL.g_split rfl rfl (fun hc => ?_) (fun hc => ?_) | refine WD.g_yes rfl rfl ?_ | refine WD.g_no rfl rfl rfl rfl ?_ | refine WD.g_undef rfl rfl rfl ?_ | refine WD.g_split rfl rfl (fun hc => ?_) (fun hc => ?_)
        | refine W.drawA ?_ | refine WL.aA (fun _ => ?_) | refine WD.aA (fun _ => ?_) | refine WL.e0A ?_ | refine WD.e0A ?_
        | refine W.cond rfl (fun hc => ?_) (fun hc => ?_))
      rw [i64_succ (i := i) (by omega)]
      refine Fin.round ⟨i + 1, ma1, mb1, mc2⟩ ⟨hi', ha1, hb1, hc2, by dsimp only; rw [htk]; exact hSa1, hSb1, by dsimp only; rw [htk]; exact hSc2⟩ (by dsimp only; rw [htk, hn']; exact (sub_of (by repeat (first | exact subEnv.nil | refine subEnv.cons rfl ?_)))) (fun _ h => In.of_sub (.pickL (L := ma1.H) (.right (.right .here)) (.pickL (L := mb1.H) (.right .here) (.last (L := mc2.H) (by simp only [List.append_nil]; exact .all)))) h) (by dsimp only; omega)
  · have hin : i = l.length := by have := of_decide_eq_false hc; omega
    subst hin
    rw [List.take_length] at hSa hSc ⊢
    rw [show l.length = l.reverse.length by simp, List.take_length, came_ext (m := l) (fun a => by simp)] at hSb
    have hFok : (fill b (dl l)).ok := fill_ok hbr dl_rng'
    obtain ⟨f, hf⟩ : ∃ f, fol (fill b (dl l)) = f := ⟨_, rfl⟩
    have hfl : f ≤ 4096 := by rw [← hf]; exact fol_le _
    obtain ⟨s, hs⟩ : ∃ s, came b l = s := ⟨_, rfl⟩
    have hsok : s.ok := by rw [← hs]; exact came_ok hbr l
    have hcs : count (fill b (dl l)) = f + count s := by rw [count_settle hFok, hf, ← hs]; rfl
    have hsb : s.b = u32 (b + f) := by rw [← hs]; show u32 ((fill b (dl l)).b + _) = _; rw [fill_b, hf]
    have hcl : count (fill b (dl l)) ≤ 4097 := dist_le _
    rw [hs] at hSa hSb hSc
    have hif : (if (1048576 : Int) < 0 then (0 : Int) else 1048576) = 1048576 := by decide
    have d0 : ∀ n, dupN 0 n = 0 := fun n => by rw [dupN_eq]; simp
    have hgall : Spn.gaps s 1048576 = gapsU s := gaps_all hsok (by decide)
    have hul := gapsU_len hsok
    obtain ⟨n, hn⟩ : ∃ n, count (fill b (dl l)) = n := ⟨_, rfl⟩
    rw [hn] at hcs hcl ⊢
    refine WL.e rfl (Ef.call (c := ma.H) (by exact rfl) (.one _ _) (report_tr _ ma ha 1048576 0 (by decide))) ?_
    rintro _ _ ⟨_, ⟨ma2, ga, gn, gc, gb, ra, rn, rc, rb, rfl, hq, rfl⟩, rfl⟩
    simp only [List.append_assoc]
    have hg1 := hq.g
    have hr1 := hq.d
    rw [d0, List.take_zero] at hr1
    rw [hSa, hif, hgall] at hg1
    have hab : ma.s.base = s.b := congrArg Spn.S.b hSa
    have hbb : mb.s.base = s.b := congrArg Spn.S.b hSb
    have hcb : mc.s.base = s.b := congrArg Spn.S.b hSc
    rw [hab]
    repeat' (first
      | refine W.seq ?_ | refine W.region ?_ | refine W.block ?_ | refine W.skip ?_ | refine W.exit ?_ | refine W.ret ?_ | refine W.cond_t rfl ?_ | refine W.cond_f rfl ?_ | refine WL.nil ?_ | refine WD.nil ?_ | refine Fin.next ?_ | refine Fin.then_exit ?_ | refine Fin.then_ret ?_ | refine Fin.block_normal ?_ | refine Fin.block_ret ?_ | refine Fin.block_exit ?_ | refine Fin.block_other rfl ?_
      | refine WL.pA ?_ | refine WD.pA ?_ | refine WL.sA ?_ | refine WD.sA ?_ | refine WL.g_yes rfl rfl ?_ | refine WL.g_no rfl rfl rfl rfl ?_ | refine WL.g_undef rfl rfl rfl ?_ | refine WL.g_split rfl rfl (fun hc => ?_) (fun hc => ?_) | refine WD.g_yes rfl rfl ?_ | refine WD.g_no rfl rfl rfl rfl ?_ | refine WD.g_undef rfl rfl rfl ?_ | refine WD.g_split rfl rfl (fun hc => ?_) (fun hc => ?_)
      | refine WL.aA (fun _ => ?_) | refine WD.aA (fun _ => ?_) | refine WL.e0A ?_ | refine WD.e0A ?_
      | refine W.cond rfl (fun hc => ?_) (fun hc => ?_))
    rename_i b13
    refine W.draw [(b13, .cells [.int .u32 s.b, .int .u32 0, .slice ga gn gc, .slice ra rn rc].toArray 38 (0, 0))] (by kernel_rfl) (by kernel_rfl) (fun _ h => In.of_sub (.pick .here (.nil _)) h) ?_
    repeat' (first
      | refine W.seq ?_ | refine W.region ?_ | refine W.block ?_ | refine W.skip ?_ | refine W.exit ?_ | refine W.ret ?_ | refine W.cond_t rfl ?_ | refine W.cond_f rfl ?_ | refine WL.nil ?_ | refine WD.nil ?_ | refine Fin.next ?_ | refine Fin.then_exit ?_ | refine Fin.then_ret ?_ | refine Fin.block_normal ?_ | refine Fin.block_ret ?_ | refine Fin.block_exit ?_ | refine Fin.block_other rfl ?_
      | refine WL.pA ?_ | refine WD.pA ?_ | refine WL.sA ?_ | refine WD.sA ?_ | refine WL.g_yes rfl rfl ?_ | refine WL.g_no rfl rfl rfl rfl ?_ | refine WL.g_undef rfl rfl rfl ?_ | refine WL.g_split rfl rfl (fun hc => ?_) (fun hc => ?_) | refine WD.g_yes rfl rfl ?_ | refine WD.g_no rfl rfl rfl rfl ?_ | refine WD.g_undef rfl rfl rfl ?_ | refine WD.g_split rfl rfl (fun hc => ?_) (fun hc => ?_)
      | refine W.drawA ?_ | refine WL.aA (fun _ => ?_) | refine WD.aA (fun _ => ?_) | refine WL.e0A ?_ | refine WD.e0A ?_
      | refine W.cond rfl (fun hc => ?_) (fun hc => ?_))
    refine WD.e rfl (Ef.call (c := mb.H) (by exact rfl) (.last (.there (.right (.right (.right .here))))) (report_tr _ mb hb 1048576 0 (by decide))) ?_
    rintro _ _ ⟨_, ⟨mb2, ga2, gn2, gc2, gb2, ra2, rn2, rc2, rb2, rfl, hq2, rfl⟩, rfl⟩
    simp only [List.append_assoc]
    refine ⟨.inr (fun _ h => In.of_sub (.pick (.right (.right (.right .here))) (.nil _)) h), ?_⟩
    have hg2 := hq2.g
    have hr2 := hq2.d
    rw [d0, List.take_zero] at hr2
    rw [hSb, hif, hgall] at hg2
    rw [hbb]
    refine WD.e rfl (Ef.lookR (by exact rfl) (fun F' hF => same_tr F' s.b 0 s.b 0 (gapsU s) (gapsU s) [] [] ga gn gc ga2 gn2 gc2 ra rn rc ra2 rn2 rc2
      ((Lst.own (F := F) (H := gb) hg1 (fun _ h => h)).mono (fun w h => (hF w h).sublist (by repeat (first | exact List.Sublist.refl _ | exact List.sublist_append_left _ _ | refine List.Sublist.cons _ ?_ | refine List.Sublist.trans ?_ (List.sublist_append_right _ _))))) ((Lst.own (F := F) (H := gb2) hg2 (fun _ h => h)).mono (fun w h => (hF w h).sublist (by repeat (first | exact List.Sublist.refl _ | exact List.sublist_append_left _ _ | refine List.Sublist.cons _ ?_ | refine List.Sublist.trans ?_ (List.sublist_append_right _ _)))))
      ((Lst.own (F := F) (H := rb) hr1 (fun _ h => h)).mono (fun w h => (hF w h).sublist (by repeat (first | exact List.Sublist.refl _ | exact List.sublist_append_left _ _ | refine List.Sublist.cons _ ?_ | refine List.Sublist.trans ?_ (List.sublist_append_right _ _))))) ((Lst.own (F := F) (H := rb2) hr2 (fun _ h => h)).mono (fun w h => (hF w h).sublist (by repeat (first | exact List.Sublist.refl _ | exact List.sublist_append_left _ _ | refine List.Sublist.cons _ ?_ | refine List.Sublist.trans ?_ (List.sublist_append_right _ _))))) (by omega) (by simp))) ?_
    rintro _ _ ⟨rfl, rfl⟩
    refine ⟨.inr (fun _ h => In.of_sub (.pick (.right (.right (.right .here))) (.nil _)) h), ?_⟩
    rw [decide_eq_true ⟨rfl, rfl, rfl, rfl⟩]
    repeat' (first
      | refine W.seq ?_ | refine W.region ?_ | refine W.block ?_ | refine W.skip ?_ | refine W.exit ?_ | refine W.ret ?_ | refine W.cond_t rfl ?_ | refine W.cond_f rfl ?_ | refine WL.nil ?_ | refine WD.nil ?_ | refine Fin.next ?_ | refine Fin.then_exit ?_ | refine Fin.then_ret ?_ | refine Fin.block_normal ?_ | refine Fin.block_ret ?_ | refine Fin.block_exit ?_ | refine Fin.block_other rfl ?_
      | refine WL.pA ?_ | refine WD.pA ?_ | refine WL.sA ?_ | refine WD.sA ?_ | refine WL.g_yes rfl rfl ?_ | refine WL.g_no rfl rfl rfl rfl ?_ | refine WL.g_undef rfl rfl rfl ?_ | refine WL.g_split rfl rfl (fun hc => ?_) (fun hc => ?_) | refine WD.g_yes rfl rfl ?_ | refine WD.g_no rfl rfl rfl rfl ?_ | refine WD.g_undef rfl rfl rfl ?_ | refine WD.g_split rfl rfl (fun hc => ?_) (fun hc => ?_)
      | refine W.drawA ?_ | refine WL.aA (fun _ => ?_) | refine WD.aA (fun _ => ?_) | refine WL.e0A ?_ | refine WD.e0A ?_
      | refine W.cond rfl (fun hc => ?_) (fun hc => ?_))
    refine WD.e rfl (Ef.call (c := mc.H) (by exact rfl) (.last (.right (.right (.right (.there (.right (.right (.right .all)))))))) (report_tr _ mc hcc 1048576 0 (by decide))) ?_
    rintro _ _ ⟨_, ⟨mc2, ga3, gn3, gc3, gb3, ra3, rn3, rc3, rb3, rfl, hq3, rfl⟩, rfl⟩
    simp only [List.append_assoc, List.append_nil]
    refine ⟨.inr (fun _ h => In.of_sub (.pick (.right (.right (.right (.right (.right (.right .here)))))) (.nil _)) h), ?_⟩
    have hg3 := hq3.g
    have hr3 := hq3.d
    rw [d0, List.take_zero] at hr3
    rw [hSc, hif, hgall] at hg3
    rw [hcb]
    repeat' (first
      | refine W.seq ?_ | refine W.region ?_ | refine W.block ?_ | refine W.skip ?_ | refine W.exit ?_ | refine W.ret ?_ | refine W.cond_t rfl ?_ | refine W.cond_f rfl ?_ | refine WL.nil ?_ | refine WD.nil ?_ | refine Fin.next ?_ | refine Fin.then_exit ?_ | refine Fin.then_ret ?_ | refine Fin.block_normal ?_ | refine Fin.block_ret ?_ | refine Fin.block_exit ?_ | refine Fin.block_other rfl ?_
      | refine WL.pA ?_ | refine WD.pA ?_ | refine WL.sA ?_ | refine WD.sA ?_ | refine WL.g_yes rfl rfl ?_ | refine WL.g_no rfl rfl rfl rfl ?_ | refine WL.g_undef rfl rfl rfl ?_ | refine WL.g_split rfl rfl (fun hc => ?_) (fun hc => ?_) | refine WD.g_yes rfl rfl ?_ | refine WD.g_no rfl rfl rfl rfl ?_ | refine WD.g_undef rfl rfl rfl ?_ | refine WD.g_split rfl rfl (fun hc => ?_) (fun hc => ?_)
      | refine W.drawA ?_ | refine WL.aA (fun _ => ?_) | refine WD.aA (fun _ => ?_) | refine WL.e0A ?_ | refine WD.e0A ?_
      | refine W.cond rfl (fun hc => ?_) (fun hc => ?_))
    refine WD.e rfl (Ef.lookR (by exact rfl) (fun F' hF => same_tr F' s.b 0 s.b 0 (gapsU s) (gapsU s) [] [] ga gn gc ga3 gn3 gc3 ra rn rc ra3 rn3 rc3
      ((Lst.own (F := F) (H := gb) hg1 (fun _ h => h)).mono (fun w h => (hF w h).sublist (by repeat (first | exact List.Sublist.refl _ | exact List.sublist_append_left _ _ | refine List.Sublist.cons _ ?_ | refine List.Sublist.trans ?_ (List.sublist_append_right _ _))))) ((Lst.own (F := F) (H := gb3) hg3 (fun _ h => h)).mono (fun w h => (hF w h).sublist (by repeat (first | exact List.Sublist.refl _ | exact List.sublist_append_left _ _ | refine List.Sublist.cons _ ?_ | refine List.Sublist.trans ?_ (List.sublist_append_right _ _)))))
      ((Lst.own (F := F) (H := rb) hr1 (fun _ h => h)).mono (fun w h => (hF w h).sublist (by repeat (first | exact List.Sublist.refl _ | exact List.sublist_append_left _ _ | refine List.Sublist.cons _ ?_ | refine List.Sublist.trans ?_ (List.sublist_append_right _ _))))) ((Lst.own (F := F) (H := rb3) hr3 (fun _ h => h)).mono (fun w h => (hF w h).sublist (by repeat (first | exact List.Sublist.refl _ | exact List.sublist_append_left _ _ | refine List.Sublist.cons _ ?_ | refine List.Sublist.trans ?_ (List.sublist_append_right _ _))))) (by omega) (by simp))) ?_
    rintro _ _ ⟨rfl, rfl⟩
    refine ⟨.inr (fun _ h => In.of_sub (.pick (.right (.right (.right (.right (.right (.right .here)))))) (.nil _)) h), ?_⟩
    rw [decide_eq_true ⟨rfl, rfl, rfl, rfl⟩]
    repeat' (first
      | refine W.seq ?_ | refine W.region ?_ | refine W.block ?_ | refine W.skip ?_ | refine W.exit ?_ | refine W.ret ?_ | refine W.cond_t rfl ?_ | refine W.cond_f rfl ?_ | refine WL.nil ?_ | refine WD.nil ?_ | refine Fin.next ?_ | refine Fin.then_exit ?_ | refine Fin.then_ret ?_ | refine Fin.block_normal ?_ | refine Fin.block_ret ?_ | refine Fin.block_exit ?_ | refine Fin.block_other rfl ?_
      | refine WL.pA ?_ | refine WD.pA ?_ | refine WL.sA ?_ | refine WD.sA ?_ | refine WL.g_yes rfl rfl ?_ | refine WL.g_no rfl rfl rfl rfl ?_ | refine WL.g_undef rfl rfl rfl ?_ | refine WL.g_split rfl rfl (fun hc => ?_) (fun hc => ?_) | refine WD.g_yes rfl rfl ?_ | refine WD.g_no rfl rfl rfl rfl ?_ | refine WD.g_undef rfl rfl rfl ?_ | refine WD.g_split rfl rfl (fun hc => ?_) (fun hc => ?_)
      | refine W.drawA ?_ | refine WL.aA (fun _ => ?_) | refine WD.aA (fun _ => ?_) | refine WL.e0A ?_ | refine WD.e0A ?_
      | refine W.cond rfl (fun hc => ?_) (fun hc => ?_))
    · exfalso; simp at hc
    have e1 : IntKind.i64.wrap (IntKind.u32.wrap (s.b - IntKind.u32.wrap (first - 1))) = (f : Nat) := by
      rw [hfb, hsb]
      have : IntKind.u32.wrap (u32 (b + f) - b) = (f : Nat) := by
        show u32 (u32 (b + f) - b) = _
        simp only [u32_eq]; omega
      rw [this, i64_id (by omega) (by omega)]
    rw [e1]
    obtain ⟨HH, hHH⟩ : ∃ HH : HL, (mc2.H ++ (gb3 ++ (rb3 ++ (mb2.H ++ (gb2 ++ (rb2 ++ ((b13, .cells [.int .u32 s.b, .int .u32 0, .slice ga gn gc, .slice ra rn rc].toArray 38 (0, 0)) :: (ma2.H ++ (gb ++ rb))))))))) = HH := ⟨_, rfl⟩
    have hlist : Lst F HH 2 ((gapsU s).flatMap gCells) ga gn gc := by rw [← hHH]; exact (Lst.own (F := F) (H := gb) hg1 (fun _ h => h)).mono (fun _ h => h.sublist (by repeat (first | exact List.Sublist.refl _ | exact List.sublist_append_left _ _ | refine List.Sublist.cons _ ?_ | refine List.Sublist.trans ?_ (List.sublist_append_right _ _))))
    have hgn : (gapsU s).length = gn := lst_len (cells := gCells) (fun _ => rfl) (by decide) hlist
    have hbox : ∀ (k : Nat) (v : Value), [Value.int .u32 s.b, .int .u32 0, .slice ga gn gc, .slice ra rn rc][k]? = some v → Sl.Can F HH b13 (0 + k) [v] := fun k v hv => by
      rw [← hHH]
      refine (Can.cut (n := 4) (vs := [Value.int .u32 s.b, .int .u32 0, .slice ga gn gc, .slice ra rn rc]) (.right (.right (.right (.right (.right (.right (.here rfl)))))))).one hv
    have hb2 : Sl.Can F HH b13 (0 + 2) [.slice ga gn gc] := hbox 2 _ rfl
    rw [hHH]
    refine W.loop (G := Nat) (fun g => [(8, .int .i64 n), (13, .pointer (some ⟨b13, 0, none⟩)), (14, .int .i64 (f + gapN ((gapsU s).take g) : Nat)), (15, .int .i64 g)]) (fun _ => HH) (fun g => g ≤ gn) (fun g => gn - g) 0 (Nat.zero_le _) (sub_of (by repeat (first | exact subEnv.nil | refine subEnv.cons rfl ?_))) (fun _ h => h) ?_
    clear hc
    intro j hj
    dsimp only at hj ⊢
    repeat' (first
      | refine W.seq ?_ | refine W.region ?_ | refine W.block ?_ | refine W.skip ?_ | refine W.exit ?_ | refine W.ret ?_ | refine W.cond_t rfl ?_ | refine W.cond_f rfl ?_ | refine WL.nil ?_ | refine WD.nil ?_ | refine Fin.next ?_ | refine Fin.then_exit ?_ | refine Fin.then_ret ?_ | refine Fin.block_normal ?_ | refine Fin.block_ret ?_ | refine Fin.block_exit ?_ | refine Fin.block_other rfl ?_
      | refine WL.pA ?_ | refine WD.pA ?_ | refine WL.sA ?_ | refine WD.sA ?_ | refine WL.g_yes rfl rfl ?_ | refine WL.g_no rfl rfl rfl rfl ?_ | refine WL.g_undef rfl rfl rfl ?_ | refine WL.g_split rfl rfl (fun hc => ?_) (fun hc => ?_) | refine WD.g_yes rfl rfl ?_ | refine WD.g_no rfl rfl rfl rfl ?_ | refine WD.g_undef rfl rfl rfl ?_ | refine WD.g_split rfl rfl (fun hc => ?_) (fun hc => ?_)
      | refine W.drawA ?_ | refine WL.aA (fun _ => ?_) | refine WD.aA (fun _ => ?_) | refine WL.e0A ?_ | refine WD.e0A ?_
      | refine W.cond rfl (fun hc => ?_) (fun hc => ?_))
    · have hj' : j < gn := by have := of_decide_eq_true hc; omega
      obtain ⟨g, hg⟩ : ∃ g, (gapsU s)[j]? = some g := ⟨(gapsU s)[j]'(by omega), by simp⟩
      obtain ⟨gbk, go, rfl, hcan⟩ := hlist.el (cells := gCells) (fun _ => rfl) hg (by omega)
      have hgr := gap_rng hsok (List.mem_of_getElem? hg)
      have hia : 0 ≤ (j : Int) ∧ (j : Int) < gn := by omega
      have hk1 : Sl.Can F HH gbk (go + (j : Int).toNat * 2 + 0) [.int .u16 g.1] := hcan.one (i := 0) rfl
      have hk2 : Sl.Can F HH gbk (go + (j : Int).toNat * 2 + 1) [.int .u16 g.2] := hcan.one (i := 1) rfl
      have hgn2 := gapN_snoc hg
      have hgl := gapN_le hsok j
      repeat' (first
        | refine W.seq ?_ | refine W.region ?_ | refine W.block ?_ | refine W.skip ?_ | refine W.exit ?_ | refine W.ret ?_ | refine W.cond_t rfl ?_ | refine W.cond_f rfl ?_ | refine WL.nil ?_ | refine WD.nil ?_ | refine Fin.next ?_ | refine Fin.then_exit ?_ | refine Fin.then_ret ?_ | refine Fin.block_normal ?_ | refine Fin.block_ret ?_ | refine Fin.block_exit ?_ | refine Fin.block_other rfl ?_
        | refine WL.pA ?_ | refine WD.pA ?_ | refine WL.sA ?_ | refine WD.sA ?_ | refine WL.g_yes rfl rfl ?_ | refine WL.g_no rfl rfl rfl rfl ?_ | refine WL.g_undef rfl rfl rfl ?_ | refine WL.g_split rfl rfl (fun hc => ?_) (fun hc => ?_) | refine WD.g_yes rfl rfl ?_ | refine WD.g_no rfl rfl rfl rfl ?_ | refine WD.g_undef rfl rfl rfl ?_ | refine WD.g_split rfl rfl (fun hc => ?_) (fun hc => ?_)
        | refine W.drawA ?_ | refine WL.aA (fun _ => ?_) | refine WD.aA (fun _ => ?_) | refine WL.e0A ?_ | refine WD.e0A ?_
        | refine W.cond rfl (fun hc => ?_) (fun hc => ?_))
      have e4 : IntKind.i64.wrap (IntKind.i64.wrap (IntKind.i64.wrap (((f + gapN ((gapsU s).take j) : Nat) : Int) + IntKind.i64.wrap (g.2 : Nat)) - IntKind.i64.wrap (g.1 : Nat)) + 1) = ((f + gapN ((gapsU s).take (j + 1)) : Nat) : Int) := by
        rw [i64_id (n := ((g.2 : Nat) : Int)) (by omega) (by omega), i64_id (n := ((g.1 : Nat) : Int)) (by omega) (by omega), i64_id (n := ((f + gapN ((gapsU s).take j) : Nat) : Int) + (g.2 : Nat)) (by omega) (by omega), i64_id (n := ((f + gapN ((gapsU s).take j) : Nat) : Int) + (g.2 : Nat) - (g.1 : Nat)) (by omega) (by omega), i64_id (by omega) (by omega), hgn2]
        omega
      rw [e4, i64_succ (by omega)]
      exact Fin.round (j + 1) hj' (sub_of (by repeat (first | exact subEnv.nil | refine subEnv.cons rfl ?_))) (fun _ h => h) (by omega)
    · refine WL.e rfl (Ef.callR (by exact rfl) (.nil _) (works_tr _)) ?_
      rintro _ _ ⟨rfl, rfl⟩
      repeat' (first
        | refine W.seq ?_ | refine W.region ?_ | refine W.block ?_ | refine W.skip ?_ | refine W.exit ?_ | refine W.ret ?_ | refine W.cond_t rfl ?_ | refine W.cond_f rfl ?_ | refine WL.nil ?_ | refine WD.nil ?_ | refine Fin.next ?_ | refine Fin.then_exit ?_ | refine Fin.then_ret ?_ | refine Fin.block_normal ?_ | refine Fin.block_ret ?_ | refine Fin.block_exit ?_ | refine Fin.block_other rfl ?_
        | refine WL.pA ?_ | refine WD.pA ?_ | refine WL.sA ?_ | refine WD.sA ?_ | refine WL.g_yes rfl rfl ?_ | refine WL.g_no rfl rfl rfl rfl ?_ | refine WL.g_undef rfl rfl rfl ?_ | refine WL.g_split rfl rfl (fun hc => ?_) (fun hc => ?_) | refine WD.g_yes rfl rfl ?_ | refine WD.g_no rfl rfl rfl rfl ?_ | refine WD.g_undef rfl rfl rfl ?_ | refine WD.g_split rfl rfl (fun hc => ?_) (fun hc => ?_)
        | refine W.drawA ?_ | refine WL.aA (fun _ => ?_) | refine WD.aA (fun _ => ?_) | refine WL.e0A ?_ | refine WD.e0A ?_
        | refine W.cond rfl (fun hc => ?_) (fun hc => ?_))
      exact Fin.retW (by exact rfl) (by repeat' (first | exact Res.nil | exact rfl | exact CutAt.here rfl | exact CellAt.here rfl | apply CutAt.there | apply CellAt.there | apply CutAt.right | apply CellAt.right | apply Res.tmp | apply Res.agg' | apply Res.cell')) (fun _ h => h.sublist (List.nil_sublist _)) ⟨rfl, rfl⟩
    · exfalso
      have hjn : j = gn := by have := of_decide_eq_false (by assumption : decide ((j : Int) < gn) = false); omega
      rw [hjn, ← hgn, List.take_length, gapN_all, ← hcs] at hc
      simp at hc
end Go.Proofs.Ytkbdfhfbhgaecaa
