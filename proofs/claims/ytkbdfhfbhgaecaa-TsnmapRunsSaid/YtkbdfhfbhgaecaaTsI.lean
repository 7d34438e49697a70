/- The law TsnmapRuns, walked. Conditions: what the arguments' cells are. -/
import Derived.Test.YtkbdfhfbhgaecaaTsG
import Derived.Test.YtkbdfhfbhgaecaaTsH
namespace Go.Proofs.Ytkbdfhfbhgaecaa
open Go Go.Sl Go.Spn

structure RnG where
  i : Nat
  m : MM
  ca : Option Addr
  cn : Nat
  cc : Nat
  cb : HL
def lastZ (L : List (Nat × Nat)) : Nat → Int
  | 0 => 0
  | i + 1 => ((L.getD i (0, 0)).2 : Nat)
theorem tsn_d (b y : Int) : tsnOf b y = u32 (b + ((y % 4096 + 1).toNat : Nat)) := by unfold tsnOf; congr 1; omega
theorem came_far {b : Int} {l : List Int} {y : Int} (k : Nat) (hk : k ≤ 1) : far (came b l).b (u32 (b + ((y % 4096 + 1).toNat + k : Nat))) = if fol (fill b (dl l)) ≤ (y % 4096 + 1).toNat + k then (y % 4096 + 1).toNat + k - fol (fill b (dl l)) else 4294967296 - (fol (fill b (dl l)) - ((y % 4096 + 1).toNat + k)) := by
  have h1 := fol_le (fill b (dl l))
  have h2 : (came b l).b = u32 (b + fol (fill b (dl l))) := by show u32 ((fill b (dl l)).b + _) = _; rw [fill_b]
  rw [h2]
  exact far_to _ _ (by omega) (by omega)
theorem came_p {b : Int} {l : List Int} (d : Nat) : (came b l).p d = (inW d && told (dl l) (d + fol (fill b (dl l)))) := by
  show (inW d && (fill b (dl l)).p (d + fol (fill b (dl l)))) = _
  rw [fill_eq dl_rng']
theorem runs_in {b : Int} (hb : 0 ≤ b ∧ b < 4294967296) {l : List Int} {y : Int} (hy : y ∈ l) : inRun (gapsU (came b l)) (far (came b l).b (tsnOf b y)) ∨ (y % 4096 + 1).toNat ≤ fol (fill b (dl l)) := by
  by_cases h : (y % 4096 + 1).toNat ≤ fol (fill b (dl l))
  · exact .inr h
  · left
    have h1 := came_far (b := b) (l := l) (y := y) 0 (by omega)
    rw [Nat.add_zero, ← tsn_d, if_pos (by omega)] at h1
    rw [h1]
    refine gap_cover (came_ok hb l) ?_
    rw [came_p, inW_iff.2 (by omega), show (y % 4096 + 1).toNat - fol (fill b (dl l)) + fol (fill b (dl l)) = (y % 4096 + 1).toNat by omega, told_in hy]
    rfl
theorem runs_next {b : Int} {l : List Int} (hb : 0 ≤ b ∧ b < 4294967296) {y : Int} (hno : u32 (tsnOf b y + 1) ∉ l.map (tsnOf b)) : Spn.look (came b l) (u32 (tsnOf b y + 1)) = 0 ∨ ¬ u32 (u32 (tsnOf b y + 1) - (came b l).b) ≤ 4096 := by
  have hnx : u32 (tsnOf b y + 1) = u32 (b + ((y % 4096 + 1).toNat + 1 : Nat)) := by unfold tsnOf; simp only [u32_eq]; omega
  have hF := fill_ok hb (dl_rng' (l := l))
  have ht : told (dl l) ((y % 4096 + 1).toNat + 1) = false := by
    cases h : told (dl l) ((y % 4096 + 1).toNat + 1) with
    | false => rfl
    | true =>
      exfalso
      unfold told at h
      rw [Bool.and_eq_true] at h
      have h2 := of_decide_eq_true h.2
      unfold dl at h2
      obtain ⟨y', hy', he⟩ := List.mem_map.1 h2
      refine hno (List.mem_map.2 ⟨y', hy', ?_⟩)
      rw [hnx]
      unfold tsnOf
      rw [he]
  have hgt : fol (fill b (dl l)) < (y % 4096 + 1).toNat + 1 := by
    rcases Nat.lt_or_ge (fol (fill b (dl l))) ((y % 4096 + 1).toNat + 1) with h | h
    · exact h
    · have := fol_all (s := fill b (dl l)) (k := (y % 4096 + 1).toNat + 1) (by omega) h
      rw [fill_eq dl_rng'] at this
      rw [show (told (dl l) ((y % 4096 + 1).toNat + 1)) = true from this] at ht
      cases ht
  have h1 := came_far (b := b) (l := l) (y := y) 1 (by omega)
  rw [← hnx, if_pos (by omega)] at h1
  by_cases h4 : (y % 4096 + 1).toNat + 1 - fol (fill b (dl l)) ≤ 4096
  · left
    refine look_new.2 ?_
    rw [h1]
    refine ⟨inW_iff.2 (by omega), ?_⟩
    rw [came_p, show (y % 4096 + 1).toNat + 1 - fol (fill b (dl l)) + fol (fill b (dl l)) = (y % 4096 + 1).toNat + 1 by omega, ht, Bool.and_false]
  · right
    have h5 := far_int (came b l).b (u32 (tsnOf b y + 1))
    rw [h1] at h5
    rw [← h5]
    omega
theorem gaps_some {s : Spn.S} : (0 < count s) ↔ 0 < (gapsU s).length := by
  rw [← gapN_all]
  constructor
  · intro h
    rcases Nat.eq_zero_or_pos (gapsU s).length with h0 | h0
    · rw [List.eq_nil_of_length_eq_zero h0] at h; simp [gapN, expG] at h
    · exact h0
  · intro h
    obtain ⟨g, hg⟩ := List.exists_mem_of_length_pos h
    have h2 := (gapsU_good s).2.1 g hg
    have h3 : g.1 ∈ expG (gapsU s) := mem_expG.2 ⟨g, hg, Nat.le_refl _, h2⟩
    exact List.length_pos_of_mem h3
set_option maxRecDepth 20000 in
set_option maxHeartbeats 16000000 in
theorem runsLaw_tr (F : Nat → Option Obj) (first : Int) (l : List Int) (hl : ∀ a ∈ l, 0 ≤ a ∧ a < 65536) (ba : Option Addr) (bn bc : Nat) (hlst : Lst F [] 1 (l.map (Value.int .u16)) ba bn bc) :
    Tr Try.prog 5 [.int .u32 first, .slice ba bn bc].toArray F [] (fun v H => v = .bool true ∧ H = []) := by
  refine Tr.enter Try.func5 rfl Try.ntmps5 rfl (fun w0 => ?_)
  have hbn := lst_int hlst
  repeat' (first
    | refine W.seq ?_ | refine W.region ?_ | refine W.block ?_ | refine W.skip ?_ | refine W.exit ?_ | refine W.ret ?_ | refine W.cond_t rfl ?_ | refine W.cond_f rfl ?_ | refine WL.nil ?_ | refine WD.nil ?_ | refine Fin.next ?_ | refine Fin.then_exit ?_ | refine Fin.then_ret ?_ | refine Fin.block_normal ?_ | refine Fin.block_ret ?_ | refine Fin.block_exit ?_ | refine Fin.block_other rfl ?_
    | refine WL.pA ?_ | refine WD.pA ?_ | refine WL.sA ?_ | refine WD.sA ?_ | refine WL.g_yes rfl rfl ?_ | refine WL.g_no rfl rfl rfl rfl ?_ | refine WL.g_undef rfl rfl rfl ?_ | refine WL.g_split rfl rfl (fun hc => ?_) (fun hc => ?_) | refine WD.g_yes rfl rfl ?_ | refine WD.g_no rfl rfl rfl rfl ?_ | refine WD.g_undef rfl rfl rfl ?_ | refine WD.g_split rfl rfl (fun hc => ?_) (fun hc => ?_)
    | refine W.drawA ?_ | refine WL.aA (fun _ => ?_) | refine WD.aA (fun _ => ?_) | refine WL.e0A ?_ | refine WD.e0A ?_
    | refine W.cond rfl (fun hc => ?_) (fun hc => ?_))
  · refine WL.e rfl (Ef.callR (by exact rfl) (.nil _) (works_tr _)) ?_
    rintro _ _ ⟨rfl, rfl⟩
    repeat' (first
      | refine W.seq ?_ | refine W.region ?_ | refine W.block ?_ | refine W.skip ?_ | refine W.exit ?_ | refine W.ret ?_ | refine W.cond_t rfl ?_ | refine W.cond_f rfl ?_ | refine WL.nil ?_ | refine WD.nil ?_ | refine Fin.next ?_ | refine Fin.then_exit ?_ | refine Fin.then_ret ?_ | refine Fin.block_normal ?_ | refine Fin.block_ret ?_ | refine Fin.block_exit ?_ | refine Fin.block_other rfl ?_
      | refine WL.pA ?_ | refine WD.pA ?_ | refine WL.sA ?_ | refine WD.sA ?_ | refine WL.g_yes rfl rfl ?_ | refine WL.g_no rfl rfl rfl rfl ?_ | refine WL.g_undef rfl rfl rfl ?_ | refine WL.g_split rfl rfl (fun hc => ?_) (fun hc => ?_) | refine WD.g_yes rfl rfl ?_ | refine WD.g_no rfl rfl rfl rfl ?_ | refine WD.g_undef rfl rfl rfl ?_ | refine WD.g_split rfl rfl (fun hc => ?_) (fun hc => ?_)
      | refine W.drawA ?_ | refine WL.aA (fun _ => ?_) | refine WD.aA (fun _ => ?_) | refine WL.e0A ?_ | refine WD.e0A ?_
      | refine W.cond rfl (fun hc => ?_) (fun hc => ?_))
    exact Fin.retW (by exact rfl) (by repeat' (first | exact Res.nil | exact rfl | exact CutAt.here rfl | exact CellAt.here rfl | apply CutAt.there | apply CellAt.there | apply CutAt.right | apply CellAt.right | apply Res.tmp | apply Res.agg' | apply Res.cell')) (fun _ h => h) ⟨rfl, rfl⟩
  have h120 : bn ≤ 120 := by have := of_decide_eq_false hc; omega
  refine WL.e rfl (Ef.call (by exact rfl) (.nil _) (begin_tr _ first)) ?_
  rintro _ _ ⟨_, ⟨m0, hm0, rfl, rfl, hA0, _⟩, rfl⟩
  have hbr := u32_rng (first - 1)
  have htv : ∀ y, (0 ≤ y ∧ y < 65536) → IntKind.u32.wrap (first + (IntKind.u32.wrap y).tmod 4096) = tsnOf (u32 (first - 1)) y := fun y hy => tsn_val hy
  have hfb : IntKind.u32.wrap (first - 1) = u32 (first - 1) := rfl
  generalize u32 (first - 1) = b at hbr hA0 htv hfb
  rw [← came_nil b hbr] at hA0
  rw [List.append_nil]
  repeat' (first
    | refine W.seq ?_ | refine W.region ?_ | refine W.block ?_ | refine W.skip ?_ | refine W.exit ?_ | refine W.ret ?_ | refine W.cond_t rfl ?_ | refine W.cond_f rfl ?_ | refine WL.nil ?_ | refine WD.nil ?_ | refine Fin.next ?_ | refine Fin.then_exit ?_ | refine Fin.then_ret ?_ | refine Fin.block_normal ?_ | refine Fin.block_ret ?_ | refine Fin.block_exit ?_ | refine Fin.block_other rfl ?_
    | refine WL.pA ?_ | refine WD.pA ?_ | refine WL.sA ?_ | refine WD.sA ?_ | refine WL.g_yes rfl rfl ?_ | refine WL.g_no rfl rfl rfl rfl ?_ | refine WL.g_undef rfl rfl rfl ?_ | refine WL.g_split rfl rfl (fun hc => ?_) (fun hc => ?_) | refine WD.g_yes rfl rfl ?_ | refine WD.g_no rfl rfl rfl rfl ?_ | refine WD.g_undef rfl rfl rfl ?_ | refine WD.g_split rfl rfl (fun hc => ?_) (fun hc => ?_)
    | refine W.drawA ?_ | refine WL.aA (fun _ => ?_) | refine WD.aA (fun _ => ?_) | refine WL.e0A ?_ | refine WD.e0A ?_
    | refine W.cond rfl (fun hc => ?_) (fun hc => ?_))
  refine W.loop (G := RnG) (fun g => [(0, .int .u32 first), (1, .slice ba bn bc), (5, .pointer (some ⟨g.m.R, 0, none⟩)), (6, .slice g.ca g.cn g.cc), (7, .int .i64 g.i)]) (fun g => g.m.H ++ g.cb)
    (fun g => g.i ≤ bn ∧ g.m.ok ∧ g.m.s.S = came b (l.take g.i) ∧ OwnS 22 1 (((l.take g.i).map (tsnOf b)).map (Value.int .u32)) (.slice g.ca g.cn g.cc) g.cb) (fun g => bn - g.i)
    ⟨0, m0, none, 0, 0, []⟩ ⟨Nat.zero_le _, hm0, hA0, .inl ⟨rfl, rfl, rfl⟩⟩ (sub_of (by repeat (first | exact subEnv.nil | refine subEnv.cons rfl ?_))) (fun _ h => by rw [List.append_nil]; exact h) ?_
  rintro ⟨i, m, ca, cn, cc, cb⟩ ⟨hi, hm, hS, hown⟩
  dsimp only at hi hm hS hown ⊢
  repeat' (first
    | refine W.seq ?_ | refine W.region ?_ | refine W.block ?_ | refine W.skip ?_ | refine W.exit ?_ | refine W.ret ?_ | refine W.cond_t rfl ?_ | refine W.cond_f rfl ?_ | refine WL.nil ?_ | refine WD.nil ?_ | refine Fin.next ?_ | refine Fin.then_exit ?_ | refine Fin.then_ret ?_ | refine Fin.block_normal ?_ | refine Fin.block_ret ?_ | refine Fin.block_exit ?_ | refine Fin.block_other rfl ?_
    | refine WL.pA ?_ | refine WD.pA ?_ | refine WL.sA ?_ | refine WD.sA ?_ | refine WL.g_yes rfl rfl ?_ | refine WL.g_no rfl rfl rfl rfl ?_ | refine WL.g_undef rfl rfl rfl ?_ | refine WL.g_split rfl rfl (fun hc => ?_) (fun hc => ?_) | refine WD.g_yes rfl rfl ?_ | refine WD.g_no rfl rfl rfl rfl ?_ | refine WD.g_undef rfl rfl rfl ?_ | refine WD.g_split rfl rfl (fun hc => ?_) (fun hc => ?_)
    | refine W.drawA ?_ | refine WL.aA (fun _ => ?_) | refine WD.aA (fun _ => ?_) | refine WL.e0A ?_ | refine WD.e0A ?_
    | refine W.cond rfl (fun hc => ?_) (fun hc => ?_))
  · have hi' : i < bn := by have := of_decide_eq_true hc; omega
    obtain ⟨y, hy⟩ : ∃ a, l[i]? = some a := ⟨l[i]'(by omega), by simp⟩
    obtain ⟨lb, lo, rfl, hcan⟩ := lst_el hlst hy
    have hia : 0 ≤ (i : Int) ∧ (i : Int) < bn := by omega
    have hyr := hl y (List.mem_of_getElem? hy)
    have htk : l.take (i + 1) = l.take i ++ [y] := by rw [List.take_add_one, hy]; rfl
    repeat' (first
      | refine W.seq ?_ | refine W.region ?_ | refine W.block ?_ | refine W.skip ?_ | refine W.exit ?_ | refine W.ret ?_ | refine W.cond_t rfl ?_ | refine W.cond_f rfl ?_ | refine WL.nil ?_ | refine WD.nil ?_ | refine Fin.next ?_ | refine Fin.then_exit ?_ | refine Fin.then_ret ?_ | refine Fin.block_normal ?_ | refine Fin.block_ret ?_ | refine Fin.block_exit ?_ | refine Fin.block_other rfl ?_
      | refine WL.pA ?_ | refine WD.pA ?_ | refine WL.sA ?_ | refine WD.sA ?_ | refine WL.g_yes rfl rfl ?_ | refine WL.g_no rfl rfl rfl rfl ?_ | refine WL.g_undef rfl rfl rfl ?_ | refine WL.g_split rfl rfl (fun hc => ?_) (fun hc => ?_) | refine WD.g_yes rfl rfl ?_ | refine WD.g_no rfl rfl rfl rfl ?_ | refine WD.g_undef rfl rfl rfl ?_ | refine WD.g_split rfl rfl (fun hc => ?_) (fun hc => ?_)
      | refine W.drawA ?_ | refine WL.aA (fun _ => ?_) | refine WD.aA (fun _ => ?_) | refine WL.e0A ?_ | refine WD.e0A ?_
      | refine W.cond rfl (fun hc => ?_) (fun hc => ?_))
    refine WL.p rfl (Pu.rem rfl rfl (by decide)) ?_
    repeat' (first
      | refine W.seq ?_ | refine W.region ?_ | refine W.block ?_ | refine W.skip ?_ | refine W.exit ?_ | refine W.ret ?_ | refine W.cond_t rfl ?_ | refine W.cond_f rfl ?_ | refine WL.nil ?_ | refine WD.nil ?_ | refine Fin.next ?_ | refine Fin.then_exit ?_ | refine Fin.then_ret ?_ | refine Fin.block_normal ?_ | refine Fin.block_ret ?_ | refine Fin.block_exit ?_ | refine Fin.block_other rfl ?_
      | refine WL.pA ?_ | refine WD.pA ?_ | refine WL.sA ?_ | refine WD.sA ?_ | refine WL.g_yes rfl rfl ?_ | refine WL.g_no rfl rfl rfl rfl ?_ | refine WL.g_undef rfl rfl rfl ?_ | refine WL.g_split rfl rfl (fun hc => ?_) (fun hc => ?_) | refine WD.g_yes rfl rfl ?_ | refine WD.g_no rfl rfl rfl rfl ?_ | refine WD.g_undef rfl rfl rfl ?_ | refine WD.g_split rfl rfl (fun hc => ?_) (fun hc => ?_)
      | refine W.drawA ?_ | refine WL.aA (fun _ => ?_) | refine WD.aA (fun _ => ?_) | refine WL.e0A ?_ | refine WD.e0A ?_
      | refine W.cond rfl (fun hc => ?_) (fun hc => ?_))
    rw [htv y hyr]
    refine WL.e rfl (Ef.call (c := m.H) (by exact rfl) (.one _ _) (take_tr _ m hm (tsnOf b y) (u32_rng _))) ?_
    rintro _ _ ⟨_, ⟨rfl, m1, hm1, rfl, hR1, hS1, _⟩, rfl⟩
    rw [← hR1]
    rw [hS, show tsnOf b y = u32 (b + (y % 4096 + 1)) from rfl, (came_step hbr (l.take i) y).1, ← htk] at hS1
    repeat' (first
      | refine W.seq ?_ | refine W.region ?_ | refine W.block ?_ | refine W.skip ?_ | refine W.exit ?_ | refine W.ret ?_ | refine W.cond_t rfl ?_ | refine W.cond_f rfl ?_ | refine WL.nil ?_ | refine WD.nil ?_ | refine Fin.next ?_ | refine Fin.then_exit ?_ | refine Fin.then_ret ?_ | refine Fin.block_normal ?_ | refine Fin.block_ret ?_ | refine Fin.block_exit ?_ | refine Fin.block_other rfl ?_
      | refine WL.pA ?_ | refine WD.pA ?_ | refine WL.sA ?_ | refine WD.sA ?_ | refine WL.g_yes rfl rfl ?_ | refine WL.g_no rfl rfl rfl rfl ?_ | refine WL.g_undef rfl rfl rfl ?_ | refine WL.g_split rfl rfl (fun hc => ?_) (fun hc => ?_) | refine WD.g_yes rfl rfl ?_ | refine WD.g_no rfl rfl rfl rfl ?_ | refine WD.g_undef rfl rfl rfl ?_ | refine WD.g_split rfl rfl (fun hc => ?_) (fun hc => ?_)
      | refine W.drawA ?_ | refine WL.aA (fun _ => ?_) | refine WD.aA (fun _ => ?_) | refine WL.e0A ?_ | refine WD.e0A ?_
      | refine W.cond rfl (fun hc => ?_) (fun hc => ?_))
    refine WL.e rfl (Ef.app (m := 1) (news := [.int .u32 (tsnOf b y)]) (by exact rfl) (by exact rfl) rfl rfl hown (.last (.there (.right .all))) (Src.own (n := 1) (.here rfl)) rfl (by simp [Value.oneCell']) (by simp; omega) (by simp [maxLen]; omega)) ?_
    rintro v' _ ⟨cb', hown', rfl⟩
    obtain ⟨ca', cn', cc', rfl, _, _⟩ := OwnS.shape hown'
    repeat' (first
      | refine W.seq ?_ | refine W.region ?_ | refine W.block ?_ | refine W.skip ?_ | refine W.exit ?_ | refine W.ret ?_ | refine W.cond_t rfl ?_ | refine W.cond_f rfl ?_ | refine WL.nil ?_ | refine WD.nil ?_ | refine Fin.next ?_ | refine Fin.then_exit ?_ | refine Fin.then_ret ?_ | refine Fin.block_normal ?_ | refine Fin.block_ret ?_ | refine Fin.block_exit ?_ | refine Fin.block_other rfl ?_
      | refine WL.pA ?_ | refine WD.pA ?_ | refine WL.sA ?_ | refine WD.sA ?_ | refine WL.g_yes rfl rfl ?_ | refine WL.g_no rfl rfl rfl rfl ?_ | refine WL.g_undef rfl rfl rfl ?_ | refine WL.g_split rfl rfl (fun hc => ?_) (fun hc => ?_) | refine WD.g_yes rfl rfl ?_ | refine WD.g_no rfl rfl rfl rfl ?_ | refine WD.g_undef rfl rfl rfl ?_ | refine WD.g_split rfl rfl (fun hc => ?_) (fun hc => ?_)
      | refine W.drawA ?_ | refine WL.aA (fun _ => ?_) | refine WD.aA (fun _ => ?_) | refine WL.e0A ?_ | refine WD.e0A ?_
      | refine W.cond rfl (fun hc => ?_) (fun hc => ?_))
    rw [i64_succ (by omega)]
    refine Fin.round ⟨i + 1, m1, ca', cn', cc', cb'⟩ ⟨hi', hm1, hS1, ?_⟩ (sub_of (by repeat (first | exact subEnv.nil | refine subEnv.cons rfl ?_))) (fun _ h => In.of_sub (.pickL (L := m1.H) (.right (.there .here)) (.last (L := cb') .here)) h) (by dsimp only; omega)
    dsimp only
    rw [htk, List.map_append, List.map_append]
    exact hown'
  have hin : i = l.length := by have := of_decide_eq_false hc; omega
  subst hin
  rw [List.take_length] at hS hown
  obtain ⟨s, hs⟩ : ∃ s, came b l = s := ⟨_, rfl⟩
  have hsok : s.ok := by rw [← hs]; exact came_ok hbr l
  rw [hs] at hS
  have hif : (if (1048576 : Int) < 0 then (0 : Int) else 1048576) = 1048576 := by decide
  have hgall : Spn.gaps s 1048576 = gapsU s := gaps_all hsok (by decide)
  have hul := gapsU_len hsok
  refine WL.e rfl (Ef.call (c := m.H) (by exact rfl) (.one _ _) (report_tr _ m hm 1048576 0 (by decide))) ?_
  rintro _ _ ⟨_, ⟨m1, ga, gn, gc, gb, ra, rn, rc, rb, rfl, hq, rfl⟩, rfl⟩
  simp only [List.append_assoc]
  have hg1 := hq.g
  rw [hS, hif, hgall] at hg1
  have hab : m.s.base = s.b := congrArg Spn.S.b hS
  have hm1 : m1.s.S = s := hq.S.trans hS
  have hp1 : s.p 1 = false := by rw [← hs]; exact settle_one (fill_ok hbr dl_rng')
  rw [hab, ← hq.R]
  repeat' (first
    | refine W.seq ?_ | refine W.region ?_ | refine W.block ?_ | refine W.skip ?_ | refine W.exit ?_ | refine W.ret ?_ | refine W.cond_t rfl ?_ | refine W.cond_f rfl ?_ | refine WL.nil ?_ | refine WD.nil ?_ | refine Fin.next ?_ | refine Fin.then_exit ?_ | refine Fin.then_ret ?_ | refine Fin.block_normal ?_ | refine Fin.block_ret ?_ | refine Fin.block_exit ?_ | refine Fin.block_other rfl ?_
    | refine WL.pA ?_ | refine WD.pA ?_ | refine WL.sA ?_ | refine WD.sA ?_ | refine WL.g_yes rfl rfl ?_ | refine WL.g_no rfl rfl rfl rfl ?_ | refine WL.g_undef rfl rfl rfl ?_ | refine WL.g_split rfl rfl (fun hc => ?_) (fun hc => ?_) | refine WD.g_yes rfl rfl ?_ | refine WD.g_no rfl rfl rfl rfl ?_ | refine WD.g_undef rfl rfl rfl ?_ | refine WD.g_split rfl rfl (fun hc => ?_) (fun hc => ?_)
    | refine W.drawA ?_ | refine WL.aA (fun _ => ?_) | refine WD.aA (fun _ => ?_) | refine WL.e0A ?_ | refine WD.e0A ?_
    | refine W.cond rfl (fun hc => ?_) (fun hc => ?_))
  rename_i b9
  obtain ⟨HH, hHH⟩ : ∃ HH : HL, ((b9, .cells [.int .u32 s.b, .int .u32 0, .slice ga gn gc, .slice ra rn rc].toArray 38 (0, 0)) :: (m1.H ++ (gb ++ (rb ++ cb)))) = HH := ⟨_, rfl⟩
  have hlist : Lst F HH 2 ((gapsU s).flatMap gCells) ga gn gc := by rw [← hHH]; exact (Lst.own (F := F) (H := gb) hg1 (fun _ h => h)).mono (fun _ h => h.sublist (by repeat (first | exact List.Sublist.refl _ | exact List.sublist_append_left _ _ | refine List.Sublist.cons _ ?_ | refine List.Sublist.trans ?_ (List.sublist_append_right _ _))))
  have hcame : Lst F HH 1 ((l.map (tsnOf b)).map (Value.int .u32)) ca cn cc := by rw [← hHH]; exact (Lst.own (F := F) (H := cb) hown (fun _ h => h)).mono (fun _ h => h.sublist (by repeat (first | exact List.Sublist.refl _ | exact List.sublist_append_left _ _ | refine List.Sublist.cons _ ?_ | refine List.Sublist.trans ?_ (List.sublist_append_right _ _))))
  have hgn : (gapsU s).length = gn := lst_len (cells := gCells) (fun _ => rfl) (by decide) hlist
  have hcn : cn = l.length := by have := lst_int hcame; simpa using this
  have hb4 : Sl.Can F HH b9 0 [.int .u32 s.b, .int .u32 0, .slice ga gn gc, .slice ra rn rc] := by rw [← hHH]; exact Can.cut (n := 4) (.here rfl)
  have hb0 : Sl.Can F HH b9 (0 + 0) [.int .u32 s.b] := hb4.one (i := 0) rfl
  have hb2 : Sl.Can F HH b9 (0 + 2) [.slice ga gn gc] := hb4.one (i := 2) rfl
  obtain ⟨Hr, hsub⟩ : ∃ Hr, Sub m1.H HH Hr := by rw [← hHH]; exact ⟨_, .last (.there .here)⟩
  rw [hHH]
  refine W.loop (G := Nat) (fun g => [(0, .int .u32 first), (5, .pointer (some ⟨m1.R, 0, none⟩)), (6, .slice ca cn cc), (9, .pointer (some ⟨b9, 0, none⟩)), (10, .int .i64 (lastZ (gapsU s) g)), (11, .int .i64 g)]) (fun _ => HH) (fun g => g ≤ gn) (fun g => gn - g) 0 (Nat.zero_le _) (sub_of (by repeat (first | exact subEnv.nil | refine subEnv.cons rfl ?_))) (fun _ h => h) ?_
  clear hc
  intro j hj
  dsimp only at hj ⊢
  repeat' (first
    | refine W.seq ?_ | refine W.region ?_ | refine W.block ?_ | refine W.skip ?_ | refine W.exit ?_ | refine W.ret ?_ | refine W.cond_t rfl ?_ | refine W.cond_f rfl ?_ | refine WL.nil ?_ | refine WD.nil ?_ | refine Fin.next ?_ | refine Fin.then_exit ?_ | refine Fin.then_ret ?_ | refine Fin.block_normal ?_ | refine Fin.block_ret ?_ | refine Fin.block_exit ?_ | refine Fin.block_other rfl ?_
    | refine WL.pA ?_ | refine WD.pA ?_ | refine WL.sA ?_ | refine WD.sA ?_ | refine WL.g_yes rfl rfl ?_ | refine WL.g_no rfl rfl rfl rfl ?_ | refine WL.g_undef rfl rfl rfl ?_ | refine WL.g_split rfl rfl (fun hc => ?_) (fun hc => ?_) | refine WD.g_yes rfl rfl ?_ | refine WD.g_no rfl rfl rfl rfl ?_ | refine WD.g_undef rfl rfl rfl ?_ | refine WD.g_split rfl rfl (fun hc => ?_) (fun hc => ?_)
    | refine W.drawA ?_ | refine WL.aA (fun _ => ?_) | refine WD.aA (fun _ => ?_) | refine WL.e0A ?_ | refine WD.e0A ?_
    | refine W.cond rfl (fun hc => ?_) (fun hc => ?_))
  · have hj' : j < gn := by have := of_decide_eq_true hc; omega
    obtain ⟨g, hg⟩ : ∃ g, (gapsU s)[j]? = some g := ⟨(gapsU s)[j]'(by omega), by simp⟩
    obtain ⟨gbk, go, rfl, hcan⟩ := hlist.el (cells := gCells) (fun _ => rfl) hg (by omega)
    have hgm := List.mem_of_getElem? hg
    have hgr := gap_rng hsok hgm
    have hg2 : 2 ≤ g.1 := by
      rcases Nat.lt_or_ge g.1 2 with h | h
      · have := gap_in hgm (k := 1) (by omega) (by omega)
        rw [hp1] at this; cases this
      · exact h
    have hia : 0 ≤ (j : Int) ∧ (j : Int) < gn := by omega
    have hk1 : Sl.Can F HH gbk (go + (j : Int).toNat * 2 + 0) [.int .u16 g.1] := hcan.one (i := 0) rfl
    have hk2 : Sl.Can F HH gbk (go + (j : Int).toNat * 2 + 1) [.int .u16 g.2] := hcan.one (i := 1) rfl
    have e1 : IntKind.i64.wrap ((g.1 : Nat) : Int) = g.1 := i64_id (by omega) (by omega)
    have e2 : IntKind.i64.wrap ((g.2 : Nat) : Int) = g.2 := i64_id (by omega) (by omega)
    have hlast : lastZ (gapsU s) j + 2 ≤ g.1 ∧ 0 ≤ lastZ (gapsU s) j ∧ lastZ (gapsU s) j ≤ 4096 := by
      cases j with
      | zero => dsimp only [lastZ]; omega
      | succ j =>
        obtain ⟨h, hh⟩ : ∃ h, (gapsU s)[j]? = some h := ⟨(gapsU s)[j]'(by omega), by simp⟩
        have h1 := gap_apart hh hg
        have h2 := gap_rng hsok (List.mem_of_getElem? hh)
        have h3 : (gapsU s).getD j (0, 0) = h := by rw [List.getD_eq_getElem?_getD, hh]; rfl
        dsimp only [lastZ]
        rw [h3]
        omega
    have e3 : IntKind.i64.wrap (lastZ (gapsU s) j + 2) = lastZ (gapsU s) j + 2 := i64_id (by omega) (by omega)
    have d1 : ¬ (decide (IntKind.i64.wrap ((g.1 : Nat) : Int) < IntKind.i64.wrap (lastZ (gapsU s) j + 2)) = true) := by rw [e1, e3]; simp; omega
    have d2 : ¬ (decide (((g.2 : Nat) : Int) < ((g.1 : Nat) : Int)) = true) := by simp; omega
    repeat' (first
      | refine W.seq ?_ | refine W.region ?_ | refine W.block ?_ | refine W.skip ?_ | refine W.exit ?_ | refine W.ret ?_ | refine W.cond_t rfl ?_ | refine W.cond_f rfl ?_ | refine WL.nil ?_ | refine WD.nil ?_ | refine Fin.next ?_ | refine Fin.then_exit ?_ | refine Fin.then_ret ?_ | refine Fin.block_normal ?_ | refine Fin.block_ret ?_ | refine Fin.block_exit ?_ | refine Fin.block_other rfl ?_
      | refine WL.pA ?_ | refine WD.pA ?_ | refine WL.sA ?_ | refine WD.sA ?_ | refine WL.g_yes rfl rfl ?_ | refine WL.g_no rfl rfl rfl rfl ?_ | refine WL.g_undef rfl rfl rfl ?_ | refine WL.g_split rfl rfl (fun hc => ?_) (fun hc => ?_) | refine WD.g_yes rfl rfl ?_ | refine WD.g_no rfl rfl rfl rfl ?_ | refine WD.g_undef rfl rfl rfl ?_ | refine WD.g_split rfl rfl (fun hc => ?_) (fun hc => ?_)
      | refine W.drawA ?_ | refine WL.aA (fun _ => ?_) | refine WD.aA (fun _ => ?_) | refine WL.e0A ?_ | refine WD.e0A ?_
      | refine W.cond rfl (fun hc => ?_) (fun hc => ?_))
    all_goals try contradiction
    rw [e2, i64_succ (by omega)]
    have e5 : lastZ (gapsU s) (j + 1) = (g.2 : Nat) := by
      dsimp only [lastZ]
      rw [List.getD_eq_getElem?_getD, hg]
      rfl
    refine Fin.round (j + 1) hj' (by rw [e5]; exact (sub_of (by repeat (first | exact subEnv.nil | refine subEnv.cons rfl ?_)))) (fun _ h => h) (by omega)
  refine W.loop (G := Nat) (fun g => [(0, .int .u32 first), (5, .pointer (some ⟨m1.R, 0, none⟩)), (6, .slice ca cn cc), (9, .pointer (some ⟨b9, 0, none⟩)), (12, .int .i64 g)]) (fun _ => HH) (fun g => g ≤ cn) (fun g => cn - g) 0 (Nat.zero_le _) (sub_of (by repeat (first | exact subEnv.nil | refine subEnv.cons rfl ?_))) (fun _ h => h) ?_
  clear hc hi hj
  intro i hi
  dsimp only at hi ⊢
  repeat' (first
    | refine W.seq ?_ | refine W.region ?_ | refine W.block ?_ | refine W.skip ?_ | refine W.exit ?_ | refine W.ret ?_ | refine W.cond_t rfl ?_ | refine W.cond_f rfl ?_ | refine WL.nil ?_ | refine WD.nil ?_ | refine Fin.next ?_ | refine Fin.then_exit ?_ | refine Fin.then_ret ?_ | refine Fin.block_normal ?_ | refine Fin.block_ret ?_ | refine Fin.block_exit ?_ | refine Fin.block_other rfl ?_
    | refine WL.pA ?_ | refine WD.pA ?_ | refine WL.sA ?_ | refine WD.sA ?_ | refine WL.g_yes rfl rfl ?_ | refine WL.g_no rfl rfl rfl rfl ?_ | refine WL.g_undef rfl rfl rfl ?_ | refine WL.g_split rfl rfl (fun hc => ?_) (fun hc => ?_) | refine WD.g_yes rfl rfl ?_ | refine WD.g_no rfl rfl rfl rfl ?_ | refine WD.g_undef rfl rfl rfl ?_ | refine WD.g_split rfl rfl (fun hc => ?_) (fun hc => ?_)
    | refine W.drawA ?_ | refine WL.aA (fun _ => ?_) | refine WD.aA (fun _ => ?_) | refine WL.e0A ?_ | refine WD.e0A ?_
    | refine W.cond rfl (fun hc => ?_) (fun hc => ?_))
  · have hi' : i < cn := by have := of_decide_eq_true hc; omega
    obtain ⟨y, hy⟩ : ∃ a, l[i]? = some a := ⟨l[i]'(by omega), by simp⟩
    have hym := List.mem_of_getElem? hy
    have hyt : (l.map (tsnOf b))[i]? = some (tsnOf b y) := by rw [List.getElem?_map, hy]; rfl
    obtain ⟨cb0, co0, rfl, hcan⟩ := lst_el hcame hyt
    have hia : 0 ≤ (i : Int) ∧ (i : Int) < cn := by omega
    repeat' (first
      | refine W.seq ?_ | refine W.region ?_ | refine W.block ?_ | refine W.skip ?_ | refine W.exit ?_ | refine W.ret ?_ | refine W.cond_t rfl ?_ | refine W.cond_f rfl ?_ | refine WL.nil ?_ | refine WD.nil ?_ | refine Fin.next ?_ | refine Fin.then_exit ?_ | refine Fin.then_ret ?_ | refine Fin.block_normal ?_ | refine Fin.block_ret ?_ | refine Fin.block_exit ?_ | refine Fin.block_other rfl ?_
      | refine WL.pA ?_ | refine WD.pA ?_ | refine WL.sA ?_ | refine WD.sA ?_ | refine WL.g_yes rfl rfl ?_ | refine WL.g_no rfl rfl rfl rfl ?_ | refine WL.g_undef rfl rfl rfl ?_ | refine WL.g_split rfl rfl (fun hc => ?_) (fun hc => ?_) | refine WD.g_yes rfl rfl ?_ | refine WD.g_no rfl rfl rfl rfl ?_ | refine WD.g_undef rfl rfl rfl ?_ | refine WD.g_split rfl rfl (fun hc => ?_) (fun hc => ?_)
      | refine W.drawA ?_ | refine WL.aA (fun _ => ?_) | refine WD.aA (fun _ => ?_) | refine WL.e0A ?_ | refine WD.e0A ?_
      | refine W.cond rfl (fun hc => ?_) (fun hc => ?_))
    refine WD.e rfl (Ef.callR (c := m1.H) (by exact rfl) hsub (look_tr _ m1 hq.ok (tsnOf b y) (u32_rng _))) ?_
    rintro _ _ ⟨rfl, rfl⟩
    refine ⟨.inr (fun _ h => h), ?_⟩
    have hlk : Spn.look m1.s.S (tsnOf b y) = 1 := by
      rw [hm1, ← hs, show tsnOf b y = u32 (b + (y % 4096 + 1)) from rfl, (came_step hbr l y).2, told_in hym]
      rfl
    rw [hlk]
    repeat' (first
      | refine W.seq ?_ | refine W.region ?_ | refine W.block ?_ | refine W.skip ?_ | refine W.exit ?_ | refine W.ret ?_ | refine W.cond_t rfl ?_ | refine W.cond_f rfl ?_ | refine WL.nil ?_ | refine WD.nil ?_ | refine Fin.next ?_ | refine Fin.then_exit ?_ | refine Fin.then_ret ?_ | refine Fin.block_normal ?_ | refine Fin.block_ret ?_ | refine Fin.block_exit ?_ | refine Fin.block_other rfl ?_
      | refine WL.pA ?_ | refine WD.pA ?_ | refine WL.sA ?_ | refine WD.sA ?_ | refine WL.g_yes rfl rfl ?_ | refine WL.g_no rfl rfl rfl rfl ?_ | refine WL.g_undef rfl rfl rfl ?_ | refine WL.g_split rfl rfl (fun hc => ?_) (fun hc => ?_) | refine WD.g_yes rfl rfl ?_ | refine WD.g_no rfl rfl rfl rfl ?_ | refine WD.g_undef rfl rfl rfl ?_ | refine WD.g_split rfl rfl (fun hc => ?_) (fun hc => ?_)
      | refine W.drawA ?_ | refine WL.aA (fun _ => ?_) | refine WD.aA (fun _ => ?_) | refine WL.e0A ?_ | refine WD.e0A ?_
      | refine W.cond rfl (fun hc => ?_) (fun hc => ?_))
    refine WD.s rfl (Rd.ldaC rfl (by exact rfl) hb4) ?_
    repeat' (first
      | refine W.seq ?_ | refine W.region ?_ | refine W.block ?_ | refine W.skip ?_ | refine W.exit ?_ | refine W.ret ?_ | refine W.cond_t rfl ?_ | refine W.cond_f rfl ?_ | refine WL.nil ?_ | refine WD.nil ?_ | refine Fin.next ?_ | refine Fin.then_exit ?_ | refine Fin.then_ret ?_ | refine Fin.block_normal ?_ | refine Fin.block_ret ?_ | refine Fin.block_exit ?_ | refine Fin.block_other rfl ?_
      | refine WL.pA ?_ | refine WD.pA ?_ | refine WL.sA ?_ | refine WD.sA ?_ | refine WL.g_yes rfl rfl ?_ | refine WL.g_no rfl rfl rfl rfl ?_ | refine WL.g_undef rfl rfl rfl ?_ | refine WL.g_split rfl rfl (fun hc => ?_) (fun hc => ?_) | refine WD.g_yes rfl rfl ?_ | refine WD.g_no rfl rfl rfl rfl ?_ | refine WD.g_undef rfl rfl rfl ?_ | refine WD.g_split rfl rfl (fun hc => ?_) (fun hc => ?_)
      | refine W.drawA ?_ | refine WL.aA (fun _ => ?_) | refine WD.aA (fun _ => ?_) | refine WL.e0A ?_ | refine WD.e0A ?_
      | refine W.cond rfl (fun hc => ?_) (fun hc => ?_))
    refine WD.e rfl (Ef.lookR (by exact rfl) (fun F' hF => inside_tr F' s.b 0 (gapsU s) (fun g hg => by have := gap_rng hsok hg; omega) (tsnOf b y) ga gn gc ra rn rc (hlist.mono (fun _ h => hF _ h)) (by omega))) ?_
    rintro _ _ ⟨rfl, rfl⟩
    refine ⟨.inr (fun _ h => h), ?_⟩
    have hin := runs_in hbr hym
    rw [hs] at hin
    have hsb : s.b = u32 (b + fol (fill b (dl l))) := by rw [← hs]; show u32 ((fill b (dl l)).b + _) = _; rw [fill_b]
    have hfl := fol_le (fill b (dl l))
    repeat' (first
      | refine W.seq ?_ | refine W.region ?_ | refine W.block ?_ | refine W.skip ?_ | refine W.exit ?_ | refine W.ret ?_ | refine W.cond_t rfl ?_ | refine W.cond_f rfl ?_ | refine WL.nil ?_ | refine WD.nil ?_ | refine Fin.next ?_ | refine Fin.then_exit ?_ | refine Fin.then_ret ?_ | refine Fin.block_normal ?_ | refine Fin.block_ret ?_ | refine Fin.block_exit ?_ | refine Fin.block_other rfl ?_
      | refine WL.pA ?_ | refine WD.pA ?_ | refine WL.sA ?_ | refine WD.sA ?_ | refine WL.g_yes rfl rfl ?_ | refine WL.g_no rfl rfl rfl rfl ?_ | refine WL.g_undef rfl rfl rfl ?_ | refine WL.g_split rfl rfl (fun hc => ?_) (fun hc => ?_) | refine WD.g_yes rfl rfl ?_ | refine WD.g_no rfl rfl rfl rfl ?_ | refine WD.g_undef rfl rfl rfl ?_ | refine WD.g_split rfl rfl (fun hc => ?_) (fun hc => ?_)
      | refine W.drawA ?_ | refine WL.aA (fun _ => ?_) | refine WD.aA (fun _ => ?_) | refine WL.e0A ?_ | refine WD.e0A ?_
      | refine W.cond rfl (fun hc => ?_) (fun hc => ?_))
    · exfalso
      have h1 : ¬ inRun (gapsU s) (far s.b (tsnOf b y)) := by have := (by assumption : (!decide (inRun (gapsU s) (far s.b (tsnOf b y)))) = true); simpa using this
      have h2 := hin.resolve_left h1
      have h3 := of_decide_eq_true hc
      rw [hfb] at h3
      have e1 : IntKind.u32.wrap (tsnOf b y - b) = ((y % 4096 + 1).toNat : Nat) := by
        show u32 (tsnOf b y - b) = _
        unfold tsnOf
        simp only [u32_eq]
        omega
      have e2 : IntKind.u32.wrap (s.b - b) = (fol (fill b (dl l)) : Nat) := by
        rw [hsb]
        show u32 (u32 (b + fol (fill b (dl l))) - b) = _
        simp only [u32_eq]
        omega
      rw [e1, e2] at h3
      omega
    all_goals rw [show IntKind.u32.wrap (tsnOf b y + 1) = u32 (tsnOf b y + 1) from rfl]
    ·
      refine WL.e rfl (Ef.lookR (by exact rfl) (fun F' hF => inL_tr F' (l.map (tsnOf b)) (u32 (tsnOf b y + 1)) (some ⟨cb0, co0, none⟩) cn cc (hcame.mono (fun _ h => hF _ h)) (by simp; omega))) ?_
      rintro _ _ ⟨rfl, rfl⟩
      repeat' (first
        | refine W.seq ?_ | refine W.region ?_ | refine W.block ?_ | refine W.skip ?_ | refine W.exit ?_ | refine W.ret ?_ | refine W.cond_t rfl ?_ | refine W.cond_f rfl ?_ | refine WL.nil ?_ | refine WD.nil ?_ | refine Fin.next ?_ | refine Fin.then_exit ?_ | refine Fin.then_ret ?_ | refine Fin.block_normal ?_ | refine Fin.block_ret ?_ | refine Fin.block_exit ?_ | refine Fin.block_other rfl ?_
        | refine WL.pA ?_ | refine WD.pA ?_ | refine WL.sA ?_ | refine WD.sA ?_ | refine WL.g_yes rfl rfl ?_ | refine WL.g_no rfl rfl rfl rfl ?_ | refine WL.g_undef rfl rfl rfl ?_ | refine WL.g_split rfl rfl (fun hc => ?_) (fun hc => ?_) | refine WD.g_yes rfl rfl ?_ | refine WD.g_no rfl rfl rfl rfl ?_ | refine WD.g_undef rfl rfl rfl ?_ | refine WD.g_split rfl rfl (fun hc => ?_) (fun hc => ?_)
        | refine W.drawA ?_ | refine WL.aA (fun _ => ?_) | refine WD.aA (fun _ => ?_) | refine WL.e0A ?_ | refine WD.e0A ?_
        | refine W.cond rfl (fun hc => ?_) (fun hc => ?_))
      · have hno : u32 (tsnOf b y + 1) ∉ l.map (tsnOf b) := by simpa using hc
        refine WL.e rfl (Ef.callR (c := m1.H) (by exact rfl) hsub (look_tr _ m1 hq.ok (u32 (tsnOf b y + 1)) (u32_rng _))) ?_
        rintro _ _ ⟨rfl, rfl⟩
        have hnx := runs_next hbr hno
        rw [hs, ← hm1] at hnx
        rw [show m1.s.S.b = s.b by rw [hm1]] at hnx
        obtain ⟨lk, hlk⟩ : ∃ lk, Spn.look m1.s.S (u32 (tsnOf b y + 1)) = lk := ⟨_, rfl⟩
        rw [hlk] at hnx ⊢
        repeat' (first
          | refine W.seq ?_ | refine W.region ?_ | refine W.block ?_ | refine W.skip ?_ | refine W.exit ?_ | refine W.ret ?_ | refine W.cond_t rfl ?_ | refine W.cond_f rfl ?_ | refine WL.nil ?_ | refine WD.nil ?_ | refine Fin.next ?_ | refine Fin.then_exit ?_ | refine Fin.then_ret ?_ | refine Fin.block_normal ?_ | refine Fin.block_ret ?_ | refine Fin.block_exit ?_ | refine Fin.block_other rfl ?_
          | refine WL.pA ?_ | refine WD.pA ?_ | refine WL.sA ?_ | refine WD.sA ?_ | refine WL.g_yes rfl rfl ?_ | refine WL.g_no rfl rfl rfl rfl ?_ | refine WL.g_undef rfl rfl rfl ?_ | refine WL.g_split rfl rfl (fun hc => ?_) (fun hc => ?_) | refine WD.g_yes rfl rfl ?_ | refine WD.g_no rfl rfl rfl rfl ?_ | refine WD.g_undef rfl rfl rfl ?_ | refine WD.g_split rfl rfl (fun hc => ?_) (fun hc => ?_)
          | refine W.drawA ?_ | refine WL.aA (fun _ => ?_) | refine WD.aA (fun _ => ?_) | refine WL.e0A ?_ | refine WD.e0A ?_
          | refine W.cond rfl (fun hc => ?_) (fun hc => ?_))
        all_goals first
          | (exfalso
             have h1 : lk ≠ 0 := by have := (by assumption : (lk != 0) = true); simpa using this
             have h2 : u32 (u32 (tsnOf b y + 1) - s.b) ≤ 4096 := of_decide_eq_true hc
             rcases hnx with h3 | h3
             · exact h1 h3
             · exact h3 h2)
          | (rw [i64_succ (i := i) (by omega)]
             exact Fin.round (i + 1) hi' (sub_of (by repeat (first | exact subEnv.nil | refine subEnv.cons rfl ?_))) (fun _ h => h) (by omega))
      · rw [i64_succ (i := i) (by omega)]
        exact Fin.round (i + 1) hi' (sub_of (by repeat (first | exact subEnv.nil | refine subEnv.cons rfl ?_))) (fun _ h => h) (by omega)
    ·
      refine WL.e rfl (Ef.lookR (by exact rfl) (fun F' hF => inL_tr F' (l.map (tsnOf b)) (u32 (tsnOf b y + 1)) (some ⟨cb0, co0, none⟩) cn cc (hcame.mono (fun _ h => hF _ h)) (by simp; omega))) ?_
      rintro _ _ ⟨rfl, rfl⟩
      repeat' (first
        | refine W.seq ?_ | refine W.region ?_ | refine W.block ?_ | refine W.skip ?_ | refine W.exit ?_ | refine W.ret ?_ | refine W.cond_t rfl ?_ | refine W.cond_f rfl ?_ | refine WL.nil ?_ | refine WD.nil ?_ | refine Fin.next ?_ | refine Fin.then_exit ?_ | refine Fin.then_ret ?_ | refine Fin.block_normal ?_ | refine Fin.block_ret ?_ | refine Fin.block_exit ?_ | refine Fin.block_other rfl ?_
        | refine WL.pA ?_ | refine WD.pA ?_ | refine WL.sA ?_ | refine WD.sA ?_ | refine WL.g_yes rfl rfl ?_ | refine WL.g_no rfl rfl rfl rfl ?_ | refine WL.g_undef rfl rfl rfl ?_ | refine WL.g_split rfl rfl (fun hc => ?_) (fun hc => ?_) | refine WD.g_yes rfl rfl ?_ | refine WD.g_no rfl rfl rfl rfl ?_ | refine WD.g_undef rfl rfl rfl ?_ | refine WD.g_split rfl rfl (fun hc => ?_) (fun hc => ?_)
        | refine W.drawA ?_ | refine WL.aA (fun _ => ?_) | refine WD.aA (fun _ => ?_) | refine WL.e0A ?_ | refine WD.e0A ?_
        | refine W.cond rfl (fun hc => ?_) (fun hc => ?_))
      · have hno : u32 (tsnOf b y + 1) ∉ l.map (tsnOf b) := by simpa using hc
        refine WL.e rfl (Ef.callR (c := m1.H) (by exact rfl) hsub (look_tr _ m1 hq.ok (u32 (tsnOf b y + 1)) (u32_rng _))) ?_
        rintro _ _ ⟨rfl, rfl⟩
        have hnx := runs_next hbr hno
        rw [hs, ← hm1] at hnx
        rw [show m1.s.S.b = s.b by rw [hm1]] at hnx
        obtain ⟨lk, hlk⟩ : ∃ lk, Spn.look m1.s.S (u32 (tsnOf b y + 1)) = lk := ⟨_, rfl⟩
        rw [hlk] at hnx ⊢
        repeat' (first
          | refine W.seq ?_ | refine W.region ?_ | refine W.block ?_ | refine W.skip ?_ | refine W.exit ?_ | refine W.ret ?_ | refine W.cond_t rfl ?_ | refine W.cond_f rfl ?_ | refine WL.nil ?_ | refine WD.nil ?_ | refine Fin.next ?_ | refine Fin.then_exit ?_ | refine Fin.then_ret ?_ | refine Fin.block_normal ?_ | refine Fin.block_ret ?_ | refine Fin.block_exit ?_ | refine Fin.block_other rfl ?_
          | refine WL.pA ?_ | refine WD.pA ?_ | refine WL.sA ?_ | refine WD.sA ?_ | refine WL.g_yes rfl rfl ?_ | refine WL.g_no rfl rfl rfl rfl ?_ | refine WL.g_undef rfl rfl rfl ?_ | refine WL.g_split rfl rfl (fun hc => ?_) (fun hc => ?_) | refine WD.g_yes rfl rfl ?_ | refine WD.g_no rfl rfl rfl rfl ?_ | refine WD.g_undef rfl rfl rfl ?_ | refine WD.g_split rfl rfl (fun hc => ?_) (fun hc => ?_)
          | refine W.drawA ?_ | refine WL.aA (fun _ => ?_) | refine WD.aA (fun _ => ?_) | refine WL.e0A ?_ | refine WD.e0A ?_
          | refine W.cond rfl (fun hc => ?_) (fun hc => ?_))
        all_goals first
          | (exfalso
             have h1 : lk ≠ 0 := by have := (by assumption : (lk != 0) = true); simpa using this
             have h2 : u32 (u32 (tsnOf b y + 1) - s.b) ≤ 4096 := of_decide_eq_true hc
             rcases hnx with h3 | h3
             · exact h1 h3
             · exact h3 h2)
          | (rw [i64_succ (i := i) (by omega)]
             exact Fin.round (i + 1) hi' (sub_of (by repeat (first | exact subEnv.nil | refine subEnv.cons rfl ?_))) (fun _ h => h) (by omega))
      · rw [i64_succ (i := i) (by omega)]
        exact Fin.round (i + 1) hi' (sub_of (by repeat (first | exact subEnv.nil | refine subEnv.cons rfl ?_))) (fun _ h => h) (by omega)
  refine WD.e rfl (Ef.callR (c := m1.H) (by exact rfl) hsub (holes_tr _ m1 hq.ok)) ?_
  rintro _ _ ⟨rfl, rfl⟩
  refine ⟨.inr (fun _ h => h), ?_⟩
  have hcg : decide (0 < count m1.s.S) = decide ((gn : Int) > 0) := by
    rw [decide_eq_decide, hm1, gaps_some, hgn]
    omega
  rw [hcg]
  repeat' (first
    | refine W.seq ?_ | refine W.region ?_ | refine W.block ?_ | refine W.skip ?_ | refine W.exit ?_ | refine W.ret ?_ | refine W.cond_t rfl ?_ | refine W.cond_f rfl ?_ | refine WL.nil ?_ | refine WD.nil ?_ | refine Fin.next ?_ | refine Fin.then_exit ?_ | refine Fin.then_ret ?_ | refine Fin.block_normal ?_ | refine Fin.block_ret ?_ | refine Fin.block_exit ?_ | refine Fin.block_other rfl ?_
    | refine WL.pA ?_ | refine WD.pA ?_ | refine WL.sA ?_ | refine WD.sA ?_ | refine WL.g_yes rfl rfl ?_ | refine WL.g_no rfl rfl rfl rfl ?_ | refine WL.g_undef rfl rfl rfl ?_ | refine WL.g_split rfl rfl (fun hc => ?_) (fun hc => ?_) | refine WD.g_yes rfl rfl ?_ | refine WD.g_no rfl rfl rfl rfl ?_ | refine WD.g_undef rfl rfl rfl ?_ | refine WD.g_split rfl rfl (fun hc => ?_) (fun hc => ?_)
    | refine W.drawA ?_ | refine WL.aA (fun _ => ?_) | refine WD.aA (fun _ => ?_) | refine WL.e0A ?_ | refine WD.e0A ?_
    | refine W.cond rfl (fun hc => ?_) (fun hc => ?_))
  · refine WD.e rfl (Ef.callR (by exact rfl) (.nil _) (works_tr _)) ?_
    rintro _ _ ⟨rfl, rfl⟩
    refine ⟨.inr (fun _ h => h), ?_⟩
    repeat' (first
      | refine W.seq ?_ | refine W.region ?_ | refine W.block ?_ | refine W.skip ?_ | refine W.exit ?_ | refine W.ret ?_ | refine W.cond_t rfl ?_ | refine W.cond_f rfl ?_ | refine WL.nil ?_ | refine WD.nil ?_ | refine Fin.next ?_ | refine Fin.then_exit ?_ | refine Fin.then_ret ?_ | refine Fin.block_normal ?_ | refine Fin.block_ret ?_ | refine Fin.block_exit ?_ | refine Fin.block_other rfl ?_
      | refine WL.pA ?_ | refine WD.pA ?_ | refine WL.sA ?_ | refine WD.sA ?_ | refine WL.g_yes rfl rfl ?_ | refine WL.g_no rfl rfl rfl rfl ?_ | refine WL.g_undef rfl rfl rfl ?_ | refine WL.g_split rfl rfl (fun hc => ?_) (fun hc => ?_) | refine WD.g_yes rfl rfl ?_ | refine WD.g_no rfl rfl rfl rfl ?_ | refine WD.g_undef rfl rfl rfl ?_ | refine WD.g_split rfl rfl (fun hc => ?_) (fun hc => ?_)
      | refine W.drawA ?_ | refine WL.aA (fun _ => ?_) | refine WD.aA (fun _ => ?_) | refine WL.e0A ?_ | refine WD.e0A ?_
      | refine W.cond rfl (fun hc => ?_) (fun hc => ?_))
    exact Fin.retW (by exact rfl) (by repeat' (first | exact Res.nil | exact rfl | exact CutAt.here rfl | exact CellAt.here rfl | apply CutAt.there | apply CellAt.there | apply CutAt.right | apply CellAt.right | apply Res.tmp | apply Res.agg' | apply Res.cell')) (fun _ h => h.sublist (List.nil_sublist _)) ⟨rfl, rfl⟩
  · exfalso; simp at hc
end Go.Proofs.Ytkbdfhfbhgaecaa
