/- The law SendqProbes, walked. No conditions. -/
import Derived.Test.YtjbinhihkfidoaaLnD
import Derived.Test.YtjbinhihkfidoaaLnG
import Derived.Test.YtjbinhihkfidoaaLnE
import Derived.Test.YtjbinhihkfidoaaSnW
namespace Go.Proofs.Ytjbinhihkfidoaa
open Go Go.Sl Go.Pth

theorem LnM.nowPut (x : LnM) (v : Int) : PutAt x.L (0 + 4) [.int .i64 v] x.H ({ x with now := v } : LnM).H := by
  unfold LnM.H LnM.hd LnM.cells
  exact .here rfl
theorem LnM.ok.now {x : LnM} (h : x.ok) (v : Int) : ({ x with now := v } : LnM).ok := ⟨h.row, h.len, h.first, h.cum⟩
attribute [local irreducible] LnM.H
structure GPr where
  i : Nat
  x : LnM
  s : SdM
  n : Nat
theorem plain0_ok : Pth.Ok ((plainC 0).pathNew 0) := Pth.new_ok (show Pth.may 3 1 60 128 1000 2 10 0 = true by decide)
set_option maxRecDepth 40000 in
set_option maxHeartbeats 8000000 in
theorem probes_tr (F : Nat → Option Obj) (first long many : Int) (hf : 0 ≤ first ∧ first < 4294967296) (hlo : 0 ≤ long ∧ long < 65536) (hma : 0 ≤ many ∧ many < 256) : Tr Try.prog 3 [.int .u32 first, .int .u16 long, .int .u8 many].toArray F [] (fun v H => v = .bool true ∧ H = []) := by
  refine Tr.enter Try.func3 rfl Try.ntmps3 rfl (fun w0 => ?_)
  have en1 : IntKind.i64.wrap long = long := i64_id (by omega) (by omega)
  have en2 : long.tmod 3000 = long % 3000 := Int.tmod_eq_emod_of_nonneg (by omega)
  obtain ⟨n0, hn0⟩ : ∃ n0 : Nat, (n0 : Int) = 200 + long % 3000 := ⟨(200 + long % 3000).toNat, by omega⟩
  have en3 : IntKind.i64.wrap (200 + long % 3000) = (n0 : Int) := by rw [i64_id (by omega) (by omega), hn0]
  have em1 : IntKind.i64.wrap many = many := i64_id (by omega) (by omega)
  obtain ⟨mt, hmt⟩ : ∃ mt : Nat, (mt : Int) = many % 20 := ⟨(many % 20).toNat, by omega⟩
  have em2 : many.tmod 20 = (mt : Int) := by rw [Int.tmod_eq_emod_of_nonneg (by omega), hmt]
  repeat' (first | refine S2b ?_ | refine SA (fun _ => ?_) | refine WL.g_split rfl rfl (fun hc => ?_) (fun hc => ?_) | refine WD.g_split rfl rfl (fun hc => ?_) (fun hc => ?_) | refine WL.s rfl (Rd.ldC rfl (Sl.Can.mono (by assumption) (fun _ h => h.sublist findA))) ?_ | refine WD.s rfl (Rd.ldC rfl (Sl.Can.mono (by assumption) (fun _ h => h.sublist findA))) ?_ | fail)
  rw [en1, en2, en3]
  refine WL.e rfl (Ef.callR (by exact rfl) (.nil _) (plain_tr _ 0 (by omega))) ?_
  rintro _ _ ⟨rfl, rfl⟩
  repeat' (first | refine S2b ?_ | refine SA (fun _ => ?_) | refine WL.g_split rfl rfl (fun hc => ?_) (fun hc => ?_) | refine WD.g_split rfl rfl (fun hc => ?_) (fun hc => ?_) | refine WL.s rfl (Rd.ldC rfl (Sl.Can.mono (by assumption) (fun _ h => h.sublist findA))) ?_ | refine WD.s rfl (Rd.ldC rfl (Sl.Can.mono (by assumption) (fun _ h => h.sublist findA))) ?_ | fail)
  refine WL.e rfl (Ef.call (by exact rfl) (.nil _) (snew_tr _ (plainC 0) first 4000 0 (by omega))) ?_
  rintro _ _ ⟨_, (⟨hno, _⟩ | ⟨_, s0, hs0, rfl, rfl, hS0⟩), rfl⟩
  · rw [plain_may] at hno; cases hno
  obtain ⟨hpe, hmid, hL0⟩ := Snd.Mid.start plain0_ok first (n := n0) (by omega) false
  have hS0' : s0.S = Snd.newS 1 2 65536 128 ((plainC 0).pathNew 0) first 4000 := hS0
  dsimp only [tup]
  rw [List.append_nil]
  repeat' (first | refine S2b ?_ | refine SA (fun _ => ?_) | refine WL.g_split rfl rfl (fun hc => ?_) (fun hc => ?_) | refine WD.g_split rfl rfl (fun hc => ?_) (fun hc => ?_) | refine WL.s rfl (Rd.ldC rfl (Sl.Can.mono (by assumption) (fun _ h => h.sublist findA))) ?_ | refine WD.s rfl (Rd.ldC rfl (Sl.Can.mono (by assumption) (fun _ h => h.sublist findA))) ?_ | fail)
  refine WL.e rfl (Ef.mkS (n := n0) (z := [.int .u8 0]) (by exact rfl) (by exact rfl) rfl rfl (by omega) (by omega)) ?_
  rintro _ _ ⟨z1, rfl, rfl⟩
  have hz1 := OwnS.made 5 (.int .u8 0) z1 n0 (by simp only [maxLen]; omega)
  rw [mk_wz] at hz1 ⊢
  repeat' (first | refine S2b ?_ | refine SA (fun _ => ?_) | refine WL.g_split rfl rfl (fun hc => ?_) (fun hc => ?_) | refine WD.g_split rfl rfl (fun hc => ?_) (fun hc => ?_) | refine WL.s rfl (Rd.ldC rfl (Sl.Can.mono (by assumption) (fun _ h => h.sublist findA))) ?_ | refine WD.s rfl (Rd.ldC rfl (Sl.Can.mono (by assumption) (fun _ h => h.sublist findA))) ?_ | fail)
  have hwl : (wz n0).length = n0 := by unfold wz; simp
  refine WL.e rfl (Ef.callW (c := s0.H) (by exact rfl) (.skip _ (.all _)) (fun F' hF => sput_tr F' s0 hs0 (by decide) 0 (by omega) false (wz n0) (some ⟨z1, 0, none⟩) n0 n0 ((Lst.own (F := F) hz1 (fun _ h => h)).mono (fun w h => hF w h)) 0 0)) ?_
  rintro _ _ ⟨_, ⟨rfl, s1, hs1, rfl, hR1, hS1⟩, rfl⟩
  rw [hwl, hS0', hpe]
  rw [hS0'] at hS1
  rw [show Snd.put (Snd.newS 1 2 65536 128 ((plainC 0).pathNew 0) first 4000) 0 false (wz n0) 0 0 = Snd.put (Snd.newS 1 2 65536 128 ((plainC 0).pathNew 0) first 4000) 0 false (List.replicate n0 0) 0 0 from rfl] at hS1
  rw [← hS1] at hmid hL0
  rw [← hR1]
  refine WL.weak (H' := s1.H) (fun _ h => h.left) ?_
  repeat' (first | refine S2b ?_ | refine SA (fun _ => ?_) | refine WL.g_split rfl rfl (fun hc => ?_) (fun hc => ?_) | refine WD.g_split rfl rfl (fun hc => ?_) (fun hc => ?_) | refine WL.s rfl (Rd.ldC rfl (Sl.Can.mono (by assumption) (fun _ h => h.sublist findA))) ?_ | refine WD.s rfl (Rd.ldC rfl (Sl.Can.mono (by assumption) (fun _ h => h.sublist findA))) ?_ | fail)
  rename_i b10
  obtain ⟨x0, hx0⟩ : ∃ x0 : LnM, x0 = ⟨b10, s1.R, [], none, 0, 0, [], first, 0, 0⟩ := ⟨_, rfl⟩
  have hx0H : x0.H = [(b10, .cells [ptr s1.R, .slice none 0 0, .int .u32 first, .int .i64 (0 : Nat), .int .i64 0].toArray 38 (0, 0))] := by rw [hx0]; unfold LnM.H LnM.hd LnM.cells; rfl
  have hx0ok : x0.ok := by rw [hx0]; exact ⟨⟨.inl ⟨rfl, rfl, rfl⟩, fun _ h => by cases h⟩, Nat.zero_le _, hf, Nat.le_refl _⟩
  have hx0L : x0.L = b10 := by rw [hx0]
  have hx0R : x0.R = s1.R := by rw [hx0]
  have hx0n : x0.now = 0 := by rw [hx0]
  have hx0m : Snd.Mid 1 s1.S x0.ln n0 := by rw [hx0]; exact hmid
  rw [← hx0L]
  refine W.loopX (G := GPr) (.exit 0) (fun g => [(2, .int .u8 many), (8, ptr s1.R), (10, ptr x0.L), (11, .int .i64 g.i)]) (fun g => g.x.H ++ g.s.H)
    (fun g => g.i ≤ mt ∧ g.x.ok ∧ g.s.ok 1 ∧ g.x.L = x0.L ∧ g.x.R = g.s.R ∧ g.s.R = s1.R ∧ (0 ≤ g.x.now ∧ g.x.now ≤ g.i) ∧ Snd.Mid 1 g.s.S g.x.ln g.n ∧ g.n ≤ 3199 ∧ g.s.S.f.L = [] ∧ (0 < g.i → g.s.S.room = 0)) (fun g => mt - g.i) ⟨0, x0, s1, n0⟩ ⟨Nat.zero_le _, hx0ok, hs1, rfl, hx0R, rfl, by dsimp only; rw [hx0n]; omega, hx0m, by dsimp only; omega, hL0, fun h => absurd h (Nat.lt_irrefl 0)⟩ envA (fun _ h => by dsimp only; rw [hx0H, ← hx0L]; exact h) (fun _ => True) ?_ ?_
  · rintro K' hK ⟨i, x, s, n⟩ ⟨hi, hx, hs, hxL, hxR, hsR, hnow, hM, hn, hL, hroom⟩
    dsimp only at hi hx hs hxL hxR hsR hnow hM hn hL hroom ⊢
    have hemp : Snd.empty s.S = decide (n = 0) := hM.lone.empty hL
    obtain ⟨c0, c1, c2, c3, c4⟩ := x.cans (F := F)
    rw [hxL] at c0 c1 c2 c3 c4
    rw [hxR, hsR] at c0
    repeat' (first | refine S2b ?_ | refine SA (fun _ => ?_) | refine WL.g_split rfl rfl (fun hc => ?_) (fun hc => ?_) | refine WD.g_split rfl rfl (fun hc => ?_) (fun hc => ?_) | refine WL.s rfl (Rd.ldC rfl (Sl.Can.mono (by assumption) (fun _ h => h.sublist findA))) ?_ | refine WD.s rfl (Rd.ldC rfl (Sl.Can.mono (by assumption) (fun _ h => h.sublist findA))) ?_ | fail)
    rotate_right
    · exact Fin.weak envA (fun _ h => h) (hK ⟨i, x, s, n⟩ ⟨hi, hx, hs, hxL, hxR, hsR, hnow, hM, hn, hL, hroom⟩ trivial)
    have hi' : i < mt := by
      have := of_decide_eq_true hc
      rw [em1, em2] at this
      omega
    have hT := fun F' => sempty_tr F' s hs
    rw [hsR] at hT
    refine WL.e rfl (Ef.callR (c := s.H) (by exact rfl) (.last (.right .all)) (hT _)) ?_
    clear hT
    rintro _ _ ⟨rfl, rfl⟩
    rw [hemp]
    repeat' (first | refine S2b ?_ | refine SA (fun _ => ?_) | refine WL.g_split rfl rfl (fun hc => ?_) (fun hc => ?_) | refine WD.g_split rfl rfl (fun hc => ?_) (fun hc => ?_) | refine WL.s rfl (Rd.ldC rfl (Sl.Can.mono (by assumption) (fun _ h => h.sublist findA))) ?_ | refine WD.s rfl (Rd.ldC rfl (Sl.Can.mono (by assumption) (fun _ h => h.sublist findA))) ?_ | fail)
    by_cases hz : n = 0
    · rw [decide_eq_true hz]
      repeat' (first | refine S2b ?_ | refine SA (fun _ => ?_) | refine WL.g_split rfl rfl (fun hc => ?_) (fun hc => ?_) | refine WD.g_split rfl rfl (fun hc => ?_) (fun hc => ?_) | refine W.cond rfl (fun hc => ?_) (fun hc => ?_) | refine WL.s rfl (Rd.ldC rfl (Sl.Can.mono (by assumption) (fun _ h => h.sublist findA))) ?_ | refine WD.s rfl (Rd.ldC rfl (Sl.Can.mono (by assumption) (fun _ h => h.sublist findA))) ?_ | fail)
      exact Fin.weak envA (fun _ h => h) (hK ⟨i, x, s, n⟩ ⟨hi, hx, hs, hxL, hxR, hsR, hnow, hM, hn, hL, hroom⟩ trivial)
    rw [decide_eq_false hz]
    have hz' : 0 < n := by omega
    have hnw : IntKind.i64.wrap (x.now + 1) = x.now + 1 := i64_id (by omega) (by omega)
    repeat' (first | refine S2b ?_ | refine SA (fun _ => ?_) | refine WL.g_split rfl rfl (fun hc => ?_) (fun hc => ?_) | refine WD.g_split rfl rfl (fun hc => ?_) (fun hc => ?_) | refine WL.s rfl (Rd.ldC rfl (Sl.Can.mono (by assumption) (fun _ h => h.sublist findA))) ?_ | refine WD.s rfl (Rd.ldC rfl (Sl.Can.mono (by assumption) (fun _ h => h.sublist findA))) ?_ | fail)
    rw [hnw]
    refine WL.e0 (Ef.st rfl rfl rfl (.left (by rw [← hxL]; exact LnM.nowPut x (x.now + 1)))) ?_
    rintro _ _ ⟨rfl, rfl⟩
    have hx1 := hx.now (x.now + 1)
    obtain ⟨y, hy⟩ : ∃ y : LnM, y = { x with now := x.now + 1 } := ⟨_, rfl⟩
    rw [← hy] at hx1 ⊢
    have hyL : y.L = x0.L := by rw [hy]; exact hxL
    have hyR : y.R = s.R := by rw [hy]; exact hxR
    have hyn : y.now = x.now + 1 := by rw [hy]
    have hyM : Snd.Mid 1 s.S y.ln n := by rw [hy]; exact hM
    clear c0 c1 c2 c3 c4
    obtain ⟨c0, c1, c2, c3, c4⟩ := y.cans (F := F)
    rw [hyL] at c0 c1 c2 c3 c4
    rw [hyR, hsR] at c0
    repeat' (first | refine S2b ?_ | refine SA (fun _ => ?_) | refine WL.g_split rfl rfl (fun hc => ?_) (fun hc => ?_) | refine WD.g_split rfl rfl (fun hc => ?_) (fun hc => ?_) | refine WL.s rfl (Rd.ldC rfl (Sl.Can.mono (by assumption) (fun _ h => h.sublist findA))) ?_ | refine WD.s rfl (Rd.ldC rfl (Sl.Can.mono (by assumption) (fun _ h => h.sublist findA))) ?_ | fail)
    by_cases hi0 : i = 0
    · rw [show (((i : Nat) : Int) == 0) = true from by rw [hi0]; rfl]
      obtain ⟨a', n2, ha, hM2, hn2', _, hsm⟩ := Snd.Mid.allN (now := y.now) 40 (a := ⟨s.S, y.ln, 0, 0, false⟩) hyM
      have hsome := (hsm hL hz' (by decide)).1
      have hT := fun F' => all_tr F' y hx1 s hs hyR 0 0 (by decide) (by decide) a' ha
      rw [hyL] at hT
      repeat' (first | refine S2b ?_ | refine SA (fun _ => ?_) | refine WL.g_split rfl rfl (fun hc => ?_) (fun hc => ?_) | refine WD.g_split rfl rfl (fun hc => ?_) (fun hc => ?_) | refine WL.s rfl (Rd.ldC rfl (Sl.Can.mono (by assumption) (fun _ h => h.sublist findA))) ?_ | refine WD.s rfl (Rd.ldC rfl (Sl.Can.mono (by assumption) (fun _ h => h.sublist findA))) ?_ | fail)
      refine WL.e rfl (Ef.call (c := y.H ++ s.H) (by exact rfl) (.all _) (hT _)) ?_
      clear hT
      rintro _ _ ⟨_, ⟨rfl, x2, s2, hx2, hs2, hx2L, hx2R, hs2R, hx2n, hs2S, hx2ln, rfl⟩, rfl⟩
      rw [← hs2S, ← hx2ln] at hM2
      have hx2s : s2.R = s1.R := hs2R.trans hsR
      have hn2 : n2 ≤ 3199 := by omega
      rw [hsome, List.append_nil]
      dsimp only [tup]
      clear c0 c1 c2 c3 c4
      repeat' (first | refine S2b ?_ | refine SA (fun _ => ?_) | refine WL.g_split rfl rfl (fun hc => ?_) (fun hc => ?_) | refine WD.g_split rfl rfl (fun hc => ?_) (fun hc => ?_) | refine WL.s rfl (Rd.ldC rfl (Sl.Can.mono (by assumption) (fun _ h => h.sublist findA))) ?_ | refine WD.s rfl (Rd.ldC rfl (Sl.Can.mono (by assumption) (fun _ h => h.sublist findA))) ?_ | fail)
      obtain ⟨S2, hans, hM3, hL3, hr3⟩ := hM2.answer 0 x2.now
      have hT := fun F' => answer_tr F' x2 hx2 s2 hs2 hx2R 0 (by decide)
      rw [hx2L] at hT
      refine WL.e rfl (Ef.call (c := x2.H ++ s2.H) (by exact rfl) (.all _) (hT _)) ?_
      clear hT
      rintro _ _ ⟨_, hq, rfl⟩
      rw [hans] at hq
      obtain ⟨rfl, s3, hs3, hs3R, hs3S, rfl⟩ := hq
      rw [List.append_nil]
      repeat' (first | refine S2b ?_ | refine SA (fun _ => ?_) | refine WL.g_split rfl rfl (fun hc => ?_) (fun hc => ?_) | refine WD.g_split rfl rfl (fun hc => ?_) (fun hc => ?_) | refine WL.s rfl (Rd.ldC rfl (Sl.Can.mono (by assumption) (fun _ h => h.sublist findA))) ?_ | refine WD.s rfl (Rd.ldC rfl (Sl.Can.mono (by assumption) (fun _ h => h.sublist findA))) ?_ | fail)
      have hT := fun F' => sroom_tr F' s3
      rw [hs3R, hx2s] at hT
      refine WL.e rfl (Ef.callR (c := s3.H) (by exact rfl) (.last (.right .all)) (hT _)) ?_
      clear hT
      rintro _ _ ⟨rfl, rfl⟩
      rw [hs3S, hr3 rfl]
      repeat' (first | refine S2b ?_ | refine SA (fun _ => ?_) | refine WL.g_split rfl rfl (fun hc => ?_) (fun hc => ?_) | refine WD.g_split rfl rfl (fun hc => ?_) (fun hc => ?_) | refine W.cond rfl (fun hc => ?_) (fun hc => ?_) | refine WL.s rfl (Rd.ldC rfl (Sl.Can.mono (by assumption) (fun _ h => h.sublist findA))) ?_ | refine WD.s rfl (Rd.ldC rfl (Sl.Can.mono (by assumption) (fun _ h => h.sublist findA))) ?_ | fail)
      rw [i64_succ (i := i) (by omega)]
      exact Fin.round ⟨i + 1, x2, s3, n2⟩ ⟨hi', hx2, hs3, hx2L, hx2R.trans hs3R.symm, hs3R.trans hx2s, by dsimp only; omega, by dsimp only; rw [hs3S]; exact hM3, hn2, by dsimp only; rw [hs3S]; exact hL3, fun _ => by dsimp only; rw [hs3S]; exact hr3 rfl⟩ envA (fun _ h => h) (by dsimp only; omega)
    · rw [show (((i : Nat) : Int) == 0) = false from by rw [beq_nat]; exact decide_eq_false hi0]
      have hr0 := hroom (by omega)
      obtain ⟨S1, k1, l1, hnx1⟩ := hyM.begins y.now hL hz'
      obtain ⟨d, xl, hl1, hk1, htk, hM1, _, hxf1, hr1, hxs1, htsn, hfl1⟩ := hyM.step y.now hnx1
      have hr1' : S1.room = 0 := by rw [hr1, hr0, mx_eq]; omega
      have hnx2 := hM1.quiet y.now (hM1.still hr1' hfl1)
      have hT := fun F' => snx_tr F' s hs y.now
      rw [hnx1, hsR] at hT
      repeat' (first | refine S2b ?_ | refine SA (fun _ => ?_) | refine WL.g_split rfl rfl (fun hc => ?_) (fun hc => ?_) | refine WD.g_split rfl rfl (fun hc => ?_) (fun hc => ?_) | refine WL.s rfl (Rd.ldC rfl (Sl.Can.mono (by assumption) (fun _ h => h.sublist findA))) ?_ | refine WD.s rfl (Rd.ldC rfl (Sl.Can.mono (by assumption) (fun _ h => h.sublist findA))) ?_ | fail)
      refine WL.e rfl (Ef.call (c := s.H) (by exact rfl) (.last (.right .all)) (hT _)) ?_
      clear hT
      rintro _ _ ⟨_, ⟨sa, o, rfl, hsa, hsaR, hsaS, ho, hoL, rfl⟩, rfl⟩
      dsimp only [tup]
      refine WL.weak (H' := y.H ++ (o.hb ++ (o.bb ++ sa.H))) (fun _ h => by rw [List.append_assoc, List.append_assoc, List.append_nil] at h; exact In.of_sub (.pickL (L := y.H) (.right (.right (.right .all))) (.pickL (L := o.hb) .here (.pickL (L := o.bb) .here (.last .here)))) h) ?_
      have hT := fun F' => snx_tr F' sa hsa y.now
      rw [hsaS, hnx2, hsaR, hsR] at hT
      repeat' (first | refine S2b ?_ | refine SA (fun _ => ?_) | refine WL.g_split rfl rfl (fun hc => ?_) (fun hc => ?_) | refine WD.g_split rfl rfl (fun hc => ?_) (fun hc => ?_) | refine WL.s rfl (Rd.ldC rfl (Sl.Can.mono (by assumption) (fun _ h => h.sublist findA))) ?_ | refine WD.s rfl (Rd.ldC rfl (Sl.Can.mono (by assumption) (fun _ h => h.sublist findA))) ?_ | fail)
      refine WL.e rfl (Ef.call (c := sa.H) (by exact rfl) (.last (.right (.right (.right .all)))) (hT _)) ?_
      clear hT
      rintro _ _ ⟨_, ⟨rfl, s2, hs2, hs2R, hs2S, rfl⟩, rfl⟩
      dsimp only [tup]
      have hon : o.sn = 1 := by
        have h1 := ho.len
        have h2 : o.L.length = 1 := by rw [hoL, hl1]; rfl
        unfold OuM.L at h2
        rw [List.length_map] at h2
        omega
      refine WL.weak (H' := y.H ++ (o.hb ++ (o.bb ++ s2.H))) (fun _ h => In.of_sub (.pickL (L := y.H) (.right .here) (.pickL (L := o.hb) (.right .here) (.pickL (L := o.bb) (.right .here) (.last .here)))) h) ?_
      rw [hon]
      have hT := fun F' => ltake_tr F' y hx1 o ho (by omega) (fun q hq => by rw [hoL, hl1, List.mem_singleton] at hq; rw [hq]; exact htsn) xl (by rw [hoL]; exact htk)
      rw [hyL, hon] at hT
      repeat' (first | refine S2b ?_ | refine SA (fun _ => ?_) | refine WL.g_split rfl rfl (fun hc => ?_) (fun hc => ?_) | refine WD.g_split rfl rfl (fun hc => ?_) (fun hc => ?_) | refine WL.s rfl (Rd.ldC rfl (Sl.Can.mono (by assumption) (fun _ h => h.sublist findA))) ?_ | refine WD.s rfl (Rd.ldC rfl (Sl.Can.mono (by assumption) (fun _ h => h.sublist findA))) ?_ | fail)
      refine WL.e rfl (Ef.call (c := y.H ++ (o.hb ++ o.bb)) (by exact rfl) (.pickL (L := y.H) .here (.pickL (L := o.hb) .here (.last (L := o.bb) .here))) (hT _)) ?_
      clear hT
      rintro _ _ ⟨_, ⟨rfl, x2, hx2, hx2L, hx2R', hx2n, hx2ln, rfl⟩, rfl⟩
      have hx2R : x2.R = s2.R := hx2R'.trans (hyR.trans (hsaR.symm.trans hs2R.symm))
      have hx2s : s2.R = s1.R := hs2R.trans (hsaR.trans hsR)
      have hM2 : Snd.Mid 1 s2.S x2.ln (n - min n 100) := by rw [hs2S, hx2ln]; exact hM1
      obtain ⟨n2, hn2e⟩ : ∃ n2, n2 = n - min n 100 := ⟨_, rfl⟩
      rw [← hn2e] at hM2
      have hn2 : n2 ≤ 3199 := by omega
      clear c0 c1 c2 c3 c4
      repeat' (first | refine S2b ?_ | refine SA (fun _ => ?_) | refine WL.g_split rfl rfl (fun hc => ?_) (fun hc => ?_) | refine WD.g_split rfl rfl (fun hc => ?_) (fun hc => ?_) | refine WL.s rfl (Rd.ldC rfl (Sl.Can.mono (by assumption) (fun _ h => h.sublist findA))) ?_ | refine WD.s rfl (Rd.ldC rfl (Sl.Can.mono (by assumption) (fun _ h => h.sublist findA))) ?_ | fail)
      obtain ⟨S2, hans, hM3, hL3, hr3⟩ := hM2.answer 0 x2.now
      have hT := fun F' => answer_tr F' x2 hx2 s2 hs2 hx2R 0 (by decide)
      rw [hx2L] at hT
      refine WL.e rfl (Ef.call (c := x2.H ++ s2.H) (by exact rfl) (.all _) (hT _)) ?_
      clear hT
      rintro _ _ ⟨_, hq, rfl⟩
      rw [hans] at hq
      obtain ⟨rfl, s3, hs3, hs3R, hs3S, rfl⟩ := hq
      rw [List.append_nil]
      repeat' (first | refine S2b ?_ | refine SA (fun _ => ?_) | refine WL.g_split rfl rfl (fun hc => ?_) (fun hc => ?_) | refine WD.g_split rfl rfl (fun hc => ?_) (fun hc => ?_) | refine WL.s rfl (Rd.ldC rfl (Sl.Can.mono (by assumption) (fun _ h => h.sublist findA))) ?_ | refine WD.s rfl (Rd.ldC rfl (Sl.Can.mono (by assumption) (fun _ h => h.sublist findA))) ?_ | fail)
      have hT := fun F' => sroom_tr F' s3
      rw [hs3R, hx2s] at hT
      refine WL.e rfl (Ef.callR (c := s3.H) (by exact rfl) (.last (.right .all)) (hT _)) ?_
      clear hT
      rintro _ _ ⟨rfl, rfl⟩
      rw [hs3S, hr3 rfl]
      repeat' (first | refine S2b ?_ | refine SA (fun _ => ?_) | refine WL.g_split rfl rfl (fun hc => ?_) (fun hc => ?_) | refine WD.g_split rfl rfl (fun hc => ?_) (fun hc => ?_) | refine W.cond rfl (fun hc => ?_) (fun hc => ?_) | refine WL.s rfl (Rd.ldC rfl (Sl.Can.mono (by assumption) (fun _ h => h.sublist findA))) ?_ | refine WD.s rfl (Rd.ldC rfl (Sl.Can.mono (by assumption) (fun _ h => h.sublist findA))) ?_ | fail)
      rw [i64_succ (i := i) (by omega)]
      exact Fin.round ⟨i + 1, x2, s3, n2⟩ ⟨hi', hx2, hs3, hx2L, hx2R.trans hs3R.symm, hs3R.trans hx2s, by dsimp only; omega, by dsimp only; rw [hs3S]; exact hM3, hn2, by dsimp only; rw [hs3S]; exact hL3, fun _ => by dsimp only; rw [hs3S]; exact hr3 rfl⟩ envA (fun _ h => h) (by dsimp only; omega)
  · rintro ⟨i, x, s, n⟩ ⟨hi0, hx, hs, hxL, hxR, hsR, hnow, hM, hn, hL, _⟩ _
    dsimp only at hi0 hx hs hxL hxR hsR hnow hM hn hL ⊢
    repeat' (first | refine S2b ?_ | refine SA (fun _ => ?_) | refine WL.g_split rfl rfl (fun hc => ?_) (fun hc => ?_) | refine WD.g_split rfl rfl (fun hc => ?_) (fun hc => ?_) | refine WL.s rfl (Rd.ldC rfl (Sl.Can.mono (by assumption) (fun _ h => h.sublist findA))) ?_ | refine WD.s rfl (Rd.ldC rfl (Sl.Can.mono (by assumption) (fun _ h => h.sublist findA))) ?_ | fail)
    refine W.loopX (G := GPr) (.exit 2) (fun g => [(8, ptr s1.R), (10, ptr x0.L), (22, .int .i64 g.i)]) (fun g => g.x.H ++ g.s.H)
      (fun g => g.i ≤ 200 ∧ g.x.ok ∧ g.s.ok 1 ∧ g.x.L = x0.L ∧ g.x.R = g.s.R ∧ g.s.R = s1.R ∧ (0 ≤ g.x.now ∧ g.x.now ≤ 20 + g.i) ∧ Snd.Mid 1 g.s.S g.x.ln g.n ∧ (g.n + 100 * g.i ≤ 3299 ∨ g.n = 0) ∧ g.s.S.f.L = []) (fun g => 200 - g.i) ⟨0, x, s, n⟩ ⟨Nat.zero_le _, hx, hs, hxL, hxR, hsR, by dsimp only; omega, hM, by dsimp only; omega, hL⟩ envA (fun _ h => h) (fun g => g.n = 0) ?_ ?_
    · clear hx hs hxL hxR hsR hnow hM hn hL
      rintro K' hK ⟨i, x, s, n⟩ ⟨hi, hx, hs, hxL, hxR, hsR, hnow, hM, hn, hL⟩
      dsimp only at hi hx hs hxL hxR hsR hnow hM hn hL ⊢
      have hemp : Snd.empty s.S = decide (n = 0) := hM.lone.empty hL
      obtain ⟨c0, c1, c2, c3, c4⟩ := x.cans (F := F)
      rw [hxL] at c0 c1 c2 c3 c4
      rw [hxR, hsR] at c0
      repeat' (first | refine S2b ?_ | refine SA (fun _ => ?_) | refine WL.g_split rfl rfl (fun hc => ?_) (fun hc => ?_) | refine WD.g_split rfl rfl (fun hc => ?_) (fun hc => ?_) | refine WL.s rfl (Rd.ldC rfl (Sl.Can.mono (by assumption) (fun _ h => h.sublist findA))) ?_ | refine WD.s rfl (Rd.ldC rfl (Sl.Can.mono (by assumption) (fun _ h => h.sublist findA))) ?_ | fail)
      rotate_right
      · exact Fin.weak envA (fun _ h => h) (hK ⟨i, x, s, n⟩ ⟨hi, hx, hs, hxL, hxR, hsR, hnow, hM, hn, hL⟩ (by have := of_decide_eq_false hc; dsimp only; omega))
      have hi' : i < 200 := by have := of_decide_eq_true hc; omega
      have hT := fun F' => sempty_tr F' s hs
      rw [hsR] at hT
      refine WL.e rfl (Ef.callR (c := s.H) (by exact rfl) (.last (.right .all)) (hT _)) ?_
      clear hT
      rintro _ _ ⟨rfl, rfl⟩
      rw [hemp]
      repeat' (first | refine S2b ?_ | refine SA (fun _ => ?_) | refine WL.g_split rfl rfl (fun hc => ?_) (fun hc => ?_) | refine WD.g_split rfl rfl (fun hc => ?_) (fun hc => ?_) | refine WL.s rfl (Rd.ldC rfl (Sl.Can.mono (by assumption) (fun _ h => h.sublist findA))) ?_ | refine WD.s rfl (Rd.ldC rfl (Sl.Can.mono (by assumption) (fun _ h => h.sublist findA))) ?_ | fail)
      by_cases hz : n = 0
      · rw [decide_eq_true hz]
        repeat' (first | refine S2b ?_ | refine SA (fun _ => ?_) | refine WL.g_split rfl rfl (fun hc => ?_) (fun hc => ?_) | refine WD.g_split rfl rfl (fun hc => ?_) (fun hc => ?_) | refine W.cond rfl (fun hc => ?_) (fun hc => ?_) | refine WL.s rfl (Rd.ldC rfl (Sl.Can.mono (by assumption) (fun _ h => h.sublist findA))) ?_ | refine WD.s rfl (Rd.ldC rfl (Sl.Can.mono (by assumption) (fun _ h => h.sublist findA))) ?_ | fail)
        exact Fin.weak envA (fun _ h => h) (hK ⟨i, x, s, n⟩ ⟨hi, hx, hs, hxL, hxR, hsR, hnow, hM, hn, hL⟩ hz)
      rw [decide_eq_false hz]
      have hz' : 0 < n := by omega
      have hnw : IntKind.i64.wrap (x.now + 1) = x.now + 1 := i64_id (by omega) (by omega)
      repeat' (first | refine S2b ?_ | refine SA (fun _ => ?_) | refine WL.g_split rfl rfl (fun hc => ?_) (fun hc => ?_) | refine WD.g_split rfl rfl (fun hc => ?_) (fun hc => ?_) | refine WL.s rfl (Rd.ldC rfl (Sl.Can.mono (by assumption) (fun _ h => h.sublist findA))) ?_ | refine WD.s rfl (Rd.ldC rfl (Sl.Can.mono (by assumption) (fun _ h => h.sublist findA))) ?_ | fail)
      rw [hnw]
      refine WL.e0 (Ef.st rfl rfl rfl (.left (by rw [← hxL]; exact LnM.nowPut x (x.now + 1)))) ?_
      rintro _ _ ⟨rfl, rfl⟩
      have hx1 := hx.now (x.now + 1)
      obtain ⟨y, hy⟩ : ∃ y : LnM, y = { x with now := x.now + 1 } := ⟨_, rfl⟩
      rw [← hy] at hx1 ⊢
      have hyL : y.L = x0.L := by rw [hy]; exact hxL
      have hyR : y.R = s.R := by rw [hy]; exact hxR
      have hyn : y.now = x.now + 1 := by rw [hy]
      have hyM : Snd.Mid 1 s.S y.ln n := by rw [hy]; exact hM
      clear c0 c1 c2 c3 c4
      obtain ⟨a', n2, ha, hM2, hn2', _, hsm⟩ := Snd.Mid.allN (now := y.now) 40 (a := ⟨s.S, y.ln, 0, 0, false⟩) hyM
      have hn2 := (hsm hL hz' (by decide)).2
      have hT := fun F' => all_tr F' y hx1 s hs hyR 0 0 (by decide) (by decide) a' ha
      rw [hyL] at hT
      repeat' (first | refine S2b ?_ | refine SA (fun _ => ?_) | refine WL.g_split rfl rfl (fun hc => ?_) (fun hc => ?_) | refine WD.g_split rfl rfl (fun hc => ?_) (fun hc => ?_) | refine WL.s rfl (Rd.ldC rfl (Sl.Can.mono (by assumption) (fun _ h => h.sublist findA))) ?_ | refine WD.s rfl (Rd.ldC rfl (Sl.Can.mono (by assumption) (fun _ h => h.sublist findA))) ?_ | fail)
      refine WL.e rfl (Ef.call (c := y.H ++ s.H) (by exact rfl) (.all _) (hT _)) ?_
      clear hT
      rintro _ _ ⟨_, ⟨rfl, x2, s2, hx2, hs2, hx2L, hx2R, hs2R, hx2n, hs2S, hx2ln, rfl⟩, rfl⟩
      rw [← hs2S, ← hx2ln] at hM2
      have hx2s : s2.R = s1.R := hs2R.trans hsR
      rw [List.append_nil]
      dsimp only [tup]
      repeat' (first | refine S2b ?_ | refine SA (fun _ => ?_) | refine WL.g_split rfl rfl (fun hc => ?_) (fun hc => ?_) | refine WD.g_split rfl rfl (fun hc => ?_) (fun hc => ?_) | refine WL.s rfl (Rd.ldC rfl (Sl.Can.mono (by assumption) (fun _ h => h.sublist findA))) ?_ | refine WD.s rfl (Rd.ldC rfl (Sl.Can.mono (by assumption) (fun _ h => h.sublist findA))) ?_ | fail)
      obtain ⟨S2, hans, hM3, hL3, hr3⟩ := hM2.answer 4000 x2.now
      have hT := fun F' => answer_tr F' x2 hx2 s2 hs2 hx2R 4000 (by decide)
      rw [hx2L] at hT
      refine WL.e rfl (Ef.call (c := x2.H ++ s2.H) (by exact rfl) (.all _) (hT _)) ?_
      clear hT
      rintro _ _ ⟨_, hq, rfl⟩
      rw [hans] at hq
      obtain ⟨rfl, s3, hs3, hs3R, hs3S, rfl⟩ := hq
      rw [List.append_nil]
      repeat' (first | refine S2b ?_ | refine SA (fun _ => ?_) | refine WL.g_split rfl rfl (fun hc => ?_) (fun hc => ?_) | refine WD.g_split rfl rfl (fun hc => ?_) (fun hc => ?_) | refine WL.s rfl (Rd.ldC rfl (Sl.Can.mono (by assumption) (fun _ h => h.sublist findA))) ?_ | refine WD.s rfl (Rd.ldC rfl (Sl.Can.mono (by assumption) (fun _ h => h.sublist findA))) ?_ | fail)
      repeat' (first | refine S2b ?_ | refine SA (fun _ => ?_) | refine WL.g_split rfl rfl (fun hc => ?_) (fun hc => ?_) | refine WD.g_split rfl rfl (fun hc => ?_) (fun hc => ?_) | refine W.cond rfl (fun hc => ?_) (fun hc => ?_) | refine WL.s rfl (Rd.ldC rfl (Sl.Can.mono (by assumption) (fun _ h => h.sublist findA))) ?_ | refine WD.s rfl (Rd.ldC rfl (Sl.Can.mono (by assumption) (fun _ h => h.sublist findA))) ?_ | fail)
      rw [i64_succ (i := i) (by omega)]
      exact Fin.round ⟨i + 1, x2, s3, n2⟩ ⟨hi', hx2, hs3, hx2L, hx2R.trans hs3R.symm, hs3R.trans hx2s, by dsimp only; omega, by dsimp only; rw [hs3S]; exact hM3, by dsimp only; omega, by dsimp only; rw [hs3S]; exact hL3⟩ envA (fun _ h => h) (by dsimp only; omega)
    · clear hx hs hxL hxR hsR hnow hM hn hL
      rintro ⟨i, x, s, n⟩ ⟨_, hx, hs, hxL, hxR, hsR, hnow, hM, _, hL⟩ hz
      dsimp only at hx hs hxL hxR hsR hnow hM hL hz ⊢
      have hemp : Snd.empty s.S = decide (n = 0) := hM.lone.empty hL
      have hT := fun F' => sempty_tr F' s hs
      rw [hsR] at hT
      repeat' (first | refine S2b ?_ | refine SA (fun _ => ?_) | refine WL.g_split rfl rfl (fun hc => ?_) (fun hc => ?_) | refine WD.g_split rfl rfl (fun hc => ?_) (fun hc => ?_) | refine WL.s rfl (Rd.ldC rfl (Sl.Can.mono (by assumption) (fun _ h => h.sublist findA))) ?_ | refine WD.s rfl (Rd.ldC rfl (Sl.Can.mono (by assumption) (fun _ h => h.sublist findA))) ?_ | fail)
      refine WL.e rfl (Ef.callR (c := s.H) (by exact rfl) (.last (.right .all)) (hT _)) ?_
      rintro _ _ ⟨rfl, rfl⟩
      rw [hemp, decide_eq_true hz]
      repeat' (first | refine S2b ?_ | refine SA (fun _ => ?_) | refine WL.g_split rfl rfl (fun hc => ?_) (fun hc => ?_) | refine WD.g_split rfl rfl (fun hc => ?_) (fun hc => ?_) | refine WL.s rfl (Rd.ldC rfl (Sl.Can.mono (by assumption) (fun _ h => h.sublist findA))) ?_ | refine WD.s rfl (Rd.ldC rfl (Sl.Can.mono (by assumption) (fun _ h => h.sublist findA))) ?_ | fail)
      refine WL.e rfl (Ef.callR (by exact rfl) (.nil _) (works_tr _)) ?_
      rintro _ _ ⟨rfl, rfl⟩
      repeat' (first | refine S2b ?_ | refine SA (fun _ => ?_) | refine WL.g_split rfl rfl (fun hc => ?_) (fun hc => ?_) | refine WD.g_split rfl rfl (fun hc => ?_) (fun hc => ?_) | refine W.cond rfl (fun hc => ?_) (fun hc => ?_) | refine WL.s rfl (Rd.ldC rfl (Sl.Can.mono (by assumption) (fun _ h => h.sublist findA))) ?_ | refine WD.s rfl (Rd.ldC rfl (Sl.Can.mono (by assumption) (fun _ h => h.sublist findA))) ?_ | fail)
      exact Fin.retW (by exact rfl) resA (H' := []) (fun _ h => h.sublist (List.nil_sublist _)) ⟨rfl, rfl⟩
end Go.Proofs.Ytjbinhihkfidoaa
