/- The law ReasmSkips, walked: it answers true. Conditions: the ranges of its arguments. -/
import Derived.Test.YtokbkocjddcklaaRmR
import Derived.Test.YtokbkocjddcklaaRmT
namespace Go.Proofs.Ytokbkocjddcklaa
open Go Go.Sl Go.Rm

def bitI (came : Int) (i : Nat) : Bool := decide (came / 2 ^ i % 2 = 1)
theorem and_one {a : Int} (h0 : 0 ≤ a) (h1 : a < 18446744073709551616) : IntKind.u64.wrap ((BitVec.ofInt IntKind.u64.bits a &&& BitVec.ofInt IntKind.u64.bits 1).toNat : Int) = a % 2 := by
  have e : (BitVec.ofInt IntKind.u64.bits a &&& BitVec.ofInt IntKind.u64.bits 1).toNat = a.toNat % 2 := by
    rw [BitVec.toNat_and, BitVec.toNat_ofInt, BitVec.toNat_ofInt]
    have e1 : (1 % ((2 ^ IntKind.u64.bits : Nat) : Int)).toNat = 1 := by decide
    have e2 : (a % ((2 ^ IntKind.u64.bits : Nat) : Int)).toNat = a.toNat := by
      have : ((2 ^ IntKind.u64.bits : Nat) : Int) = 18446744073709551616 := by decide
      rw [this]; omega
    rw [e1, e2, Nat.and_one_is_mod]
  rw [e]
  simp only [IntKind.wrap, IntKind.bits, IntKind.signed]
  simp
  omega
structure SkG where
  i : Nat
  x : Nat
  s : RM
  va : Option Addr
  vn : Nat
  vc : Nat
  vb : HL
def wantI (came : Int) (k : Nat) : List UInt8 := ((seg 0 k).filter (bitI came)).map (fun i => UInt8.ofNat i)
theorem wantI_yes {came : Int} {k : Nat} (h : bitI came k = true) : wantI came (k + 1) = wantI came k ++ [UInt8.ofNat k] := by
  unfold wantI
  rw [seg_snoc (Nat.zero_le k), List.filter_append, List.filter_cons_of_pos h, List.map_append]
  rfl
theorem wantI_no {came : Int} {k : Nat} (h : bitI came k = false) : wantI came (k + 1) = wantI came k := by
  unfold wantI
  rw [seg_snoc (Nat.zero_le k), List.filter_append, List.filter_cons_of_neg (by simp [h])]
  simp
theorem wantI_len {came : Int} {k : Nat} : (wantI came k).length ≤ k := by
  unfold wantI
  rw [List.length_map]
  refine Nat.le_trans (List.length_filter_le _ _) ?_
  unfold seg
  simp
theorem totM_one (l : List Nat) : totM (l.map mgI) = l.length := by
  induction l with
  | nil => rfl
  | cons a l ih => simp [totM, mgI] at ih ⊢; omega
theorem totD_one (first : Int) (l : List Nat) : totD (l.map (pcI first)) = l.length := by
  induction l with
  | nil => rfl
  | cons a l ih => simp [totD, pcI] at ih ⊢; omega
theorem stI_small (first : Int) (c : Nat → Bool) {k x : Nat} (hk : k ≤ 60) (hx : x ≤ 60) : totD (stI first c k x).L + totM (stI first c k x).row + 1 ≤ 1000000000 := by
  have h1 : totM (stI first c k x).row ≤ 60 := by
    dsimp only [stI]
    rw [totM_one]
    refine Nat.le_trans (List.length_filter_le _ _) ?_
    unfold seg; simp; omega
  have h2 : totD (stI first c k x).L ≤ 60 := by
    dsimp only [stI]
    rw [totD_one]
    refine Nat.le_trans (List.length_filter_le _ _) ?_
    unfold seg; simp; omega
  omega
theorem B_small {k : Nat} (h : k < 256) : B (UInt8.ofNat k) = .int .u8 (IntKind.u8.wrap k) := by
  unfold B
  congr 1

def lastP (t : Int) (x : Nat) : D := ⟨t, 0, x, false, true, true, [9]⟩
theorem whole_last {L : List D} (t : Int) (x : Nat) : whole L (lastP t x) = some (t, t) := by
  unfold whole
  rw [back]
  simp only [lastP, if_true]
  rw [forth]
  simp
theorem last_put (t : Int) {x : Nat} (hx : x ≤ 60) : putE ⟨[], [], [(x : Int)]⟩ (lastP t x) = 0 ∧ (put ⟨[], [], [(x : Int)]⟩ (lastP t x)).row.length = 1 := by
  have hE : putE ⟨[], [], [(x : Int)]⟩ (lastP t x) = 0 := by
    unfold putE
    have h3 : less16 (lastP t x).ssn (([(x : Int)] : List Int).getD (lastP t x).stream.toNat 0) = false := by
      show less16 (x : Int) (x : Int) = false
      rw [less16_small (by omega) (by omega)]; simp
    rw [if_neg (by simp [lastP]), if_neg (by simp [lastP]), h3]
    simp [at?]
  refine ⟨hE, ?_⟩
  unfold put
  rw [if_pos hE]
  unfold put1
  rw [if_neg (by simp [lastP])]
  unfold on
  show (onN 2 ⟨[lastP t x], [], [(x : Int)]⟩ 0).row.length = 1
  have hc : cand [lastP t x] 0 (([(x : Int)] : List Int).getD (0 : Int).toNat 0) = some (t, t) := by
    show cand [lastP t x] 0 (x : Int) = some (t, t)
    unfold cand
    rw [List.findSome?_cons]
    unfold isC
    rw [if_pos (by simp [lastP]), whole_last]
  rw [onN, hc]
  dsimp only
  have h0 : (u32 (t - t)).toNat = 0 := by simp [u32_eq]
  have hr : ready [lastP t x] [] t t = ([], [⟨0, true, [9]⟩]) := by
    unfold ready
    rw [h0, gath, if_pos (by simp)]
    simp [at?, lastP]
  rw [hr]
  dsimp only
  rw [onN]
  rfl

set_option maxHeartbeats 8000000 in
theorem skipsLaw_tr (F : Nat → Option Obj) (first many came : Int) (once : Bool) (hf : 0 ≤ first ∧ first < 4294967296) (hm : 0 ≤ many ∧ many < 256) (hca : 0 ≤ came ∧ came < 18446744073709551616) :
    Tr Try.prog 7 [.int .u32 first, .int .u8 many, .int .u64 came, .bool once].toArray F [] (fun v H => v = .bool true ∧ H = []) := by
  refine Tr.enter Try.func7 rfl Try.ntmps7 rfl (fun w0 => ?_)
  repeat' (first
    | refine W.seq ?_ | refine W.region ?_ | refine W.block ?_ | refine W.skip ?_ | refine W.exit ?_ | refine W.ret ?_ | refine W.cond_t rfl ?_ | refine W.cond_f rfl ?_ | refine WL.nil ?_ | refine WD.nil ?_ | refine Fin.next ?_ | refine Fin.then_exit ?_ | refine Fin.then_ret ?_ | refine Fin.block_normal ?_ | refine Fin.block_ret ?_ | refine Fin.block_exit ?_ | refine Fin.block_other rfl ?_
    | refine WL.pA ?_ | refine WD.pA ?_ | refine WL.sA ?_ | refine WD.sA ?_ | refine WL.g_yes rfl rfl ?_ | refine WL.g_no rfl rfl rfl rfl ?_ | refine WL.g_undef rfl rfl rfl ?_ | refine WL.g_split rfl rfl (fun hc => ?_) (fun hc => ?_) | refine WD.g_yes rfl rfl ?_ | refine WD.g_no rfl rfl rfl rfl ?_ | refine WD.g_undef rfl rfl rfl ?_ | refine WD.g_split rfl rfl (fun hc => ?_) (fun hc => ?_)
    | refine W.drawA ?_ | refine WL.aA (fun _ => ?_) | refine WD.aA (fun _ => ?_) | refine WL.e0A ?_ | refine WD.e0A ?_
    | refine W.cond rfl (fun hc => ?_) (fun hc => ?_))
  refine WL.p rfl (Pu.rem rfl rfl (by decide)) ?_
  obtain ⟨n, hn, hn60⟩ : ∃ n : Nat, (IntKind.i64.wrap many).tmod 61 = n ∧ n ≤ 60 := ⟨((IntKind.i64.wrap many).tmod 61).toNat, by
    rw [i64_id (by omega) (by omega)]
    have : many.tmod 61 = many % 61 := Int.tmod_eq_emod_of_nonneg hm.1
    rw [this]; omega⟩
  rw [hn]
  repeat' (first
    | refine W.seq ?_ | refine W.region ?_ | refine W.block ?_ | refine W.skip ?_ | refine W.exit ?_ | refine W.ret ?_ | refine W.cond_t rfl ?_ | refine W.cond_f rfl ?_ | refine WL.nil ?_ | refine WD.nil ?_ | refine Fin.next ?_ | refine Fin.then_exit ?_ | refine Fin.then_ret ?_ | refine Fin.block_normal ?_ | refine Fin.block_ret ?_ | refine Fin.block_exit ?_ | refine Fin.block_other rfl ?_
    | refine WL.pA ?_ | refine WD.pA ?_ | refine WL.sA ?_ | refine WD.sA ?_ | refine WL.g_yes rfl rfl ?_ | refine WL.g_no rfl rfl rfl rfl ?_ | refine WL.g_undef rfl rfl rfl ?_ | refine WL.g_split rfl rfl (fun hc => ?_) (fun hc => ?_) | refine WD.g_yes rfl rfl ?_ | refine WD.g_no rfl rfl rfl rfl ?_ | refine WD.g_undef rfl rfl rfl ?_ | refine WD.g_split rfl rfl (fun hc => ?_) (fun hc => ?_)
    | refine W.drawA ?_ | refine WL.aA (fun _ => ?_) | refine WD.aA (fun _ => ?_) | refine WL.e0A ?_ | refine WD.e0A ?_
    | refine W.cond rfl (fun hc => ?_) (fun hc => ?_))
  refine WL.e rfl (Ef.call (by exact rfl) (.nil _) (New_ok _ 1 (by decide))) ?_
  rintro _ _ ⟨_, ⟨s0, hs0, rfl, rfl, ht0, hS0⟩, rfl⟩
  dsimp only [tup]
  rw [List.append_nil]
  repeat' (first
    | refine W.seq ?_ | refine W.region ?_ | refine W.block ?_ | refine W.skip ?_ | refine W.exit ?_ | refine W.ret ?_ | refine W.cond_t rfl ?_ | refine W.cond_f rfl ?_ | refine WL.nil ?_ | refine WD.nil ?_ | refine Fin.next ?_ | refine Fin.then_exit ?_ | refine Fin.then_ret ?_ | refine Fin.block_normal ?_ | refine Fin.block_ret ?_ | refine Fin.block_exit ?_ | refine Fin.block_other rfl ?_
    | refine WL.pA ?_ | refine WD.pA ?_ | refine WL.sA ?_ | refine WD.sA ?_ | refine WL.g_yes rfl rfl ?_ | refine WL.g_no rfl rfl rfl rfl ?_ | refine WL.g_undef rfl rfl rfl ?_ | refine WL.g_split rfl rfl (fun hc => ?_) (fun hc => ?_) | refine WD.g_yes rfl rfl ?_ | refine WD.g_no rfl rfl rfl rfl ?_ | refine WD.g_undef rfl rfl rfl ?_ | refine WD.g_split rfl rfl (fun hc => ?_) (fun hc => ?_)
    | refine W.drawA ?_ | refine WL.aA (fun _ => ?_) | refine WD.aA (fun _ => ?_) | refine WL.e0A ?_ | refine WD.e0A ?_
    | refine W.cond rfl (fun hc => ?_) (fun hc => ?_))
  have hSt0 : s0.S = stI first (bitI came) 0 0 := hS0
  refine W.loop (G := SkG) (fun g => [(0, .int .u32 first), (2, .int .u64 came), (3, .bool once), (9, .int .i64 n), (10, .pointer (some ⟨g.s.R, 0, none⟩)), (12, .slice g.va g.vn g.vc), (13, .int .i64 g.i)]) (fun g => g.vb ++ g.s.H)
    (fun g => g.i ≤ n ∧ g.x ≤ g.i ∧ (g.x < g.i → bitI came g.x = false) ∧ g.s.ok ∧ g.s.turns ≤ g.i ∧ g.s.S = stI first (bitI came) g.i g.x ∧ OwnS 5 1 ((wantI came g.i).map B) (.slice g.va g.vn g.vc) g.vb) (fun g => n - g.i)
    ⟨0, 0, s0, none, 0, 0, []⟩ ⟨Nat.zero_le _, Nat.le_refl _, fun h => by dsimp only at h; omega, hs0, by dsimp only; omega, hSt0, .inl ⟨rfl, rfl, rfl⟩⟩ (sub_of (by repeat (first | exact subEnv.nil | refine subEnv.cons rfl ?_))) (fun _ h => h) ?_
  · rintro ⟨i, x, s, va, vn, vc, vb⟩ ⟨hi, hx, hno, hs, htu, hS, hown⟩
    dsimp only at hi hx hno hs htu hS hown ⊢
    repeat' (first
      | refine W.seq ?_ | refine W.region ?_ | refine W.block ?_ | refine W.skip ?_ | refine W.exit ?_ | refine W.ret ?_ | refine W.cond_t rfl ?_ | refine W.cond_f rfl ?_ | refine WL.nil ?_ | refine WD.nil ?_ | refine Fin.next ?_ | refine Fin.then_exit ?_ | refine Fin.then_ret ?_ | refine Fin.block_normal ?_ | refine Fin.block_ret ?_ | refine Fin.block_exit ?_ | refine Fin.block_other rfl ?_
      | refine WL.pA ?_ | refine WD.pA ?_ | refine WL.sA ?_ | refine WD.sA ?_ | refine WL.g_yes rfl rfl ?_ | refine WL.g_no rfl rfl rfl rfl ?_ | refine WL.g_undef rfl rfl rfl ?_ | refine WL.g_split rfl rfl (fun hc => ?_) (fun hc => ?_) | refine WD.g_yes rfl rfl ?_ | refine WD.g_no rfl rfl rfl rfl ?_ | refine WD.g_undef rfl rfl rfl ?_ | refine WD.g_split rfl rfl (fun hc => ?_) (fun hc => ?_)
      | refine W.drawA ?_ | refine WL.aA (fun _ => ?_) | refine WD.aA (fun _ => ?_) | refine WL.e0A ?_ | refine WD.e0A ?_
      | refine W.cond rfl (fun hc => ?_) (fun hc => ?_))
    · have hi' : i < n := by simp at hc; omega
      have h10 : s.nx.length < 1000000 := by have := (RM.said hS).2.2; rw [this]; simp [stI]
      refine WL.p rfl (Pu.shr rfl rfl (by omega)) ?_
      have e1 : came.fdiv (2 ^ (min (i : Int).toNat IntKind.u64.bits)) = came / 2 ^ i := by
        have : min (i : Int).toNat IntKind.u64.bits = i := by simp [IntKind.bits]; omega
        rw [this, Int.fdiv_eq_ediv_of_nonneg _ (Int.le_of_lt (Int.pow_pos (by decide)))]
      rw [e1]
      have e2 := and_one (a := came / 2 ^ i) (by exact Int.ediv_nonneg hca.1 (Int.le_of_lt (Int.pow_pos (by decide)))) (Int.lt_of_le_of_lt (Int.ediv_le_self _ hca.1) hca.2)
      have e3 : (IntKind.u64.wrap ((BitVec.ofInt IntKind.u64.bits (came / 2 ^ i) &&& BitVec.ofInt IntKind.u64.bits 1).toNat : Int) == 1) = bitI came i := by rw [e2]; rfl
      repeat' (first
        | refine W.seq ?_ | refine W.region ?_ | refine W.block ?_ | refine W.skip ?_ | refine W.exit ?_ | refine W.ret ?_ | refine W.cond_t rfl ?_ | refine W.cond_f rfl ?_ | refine WL.nil ?_ | refine WD.nil ?_ | refine Fin.next ?_ | refine Fin.then_exit ?_ | refine Fin.then_ret ?_ | refine Fin.block_normal ?_ | refine Fin.block_ret ?_ | refine Fin.block_exit ?_ | refine Fin.block_other rfl ?_
        | refine WL.pA ?_ | refine WD.pA ?_ | refine WL.sA ?_ | refine WD.sA ?_ | refine WL.g_yes rfl rfl ?_ | refine WL.g_no rfl rfl rfl rfl ?_ | refine WL.g_undef rfl rfl rfl ?_ | refine WL.g_split rfl rfl (fun hc => ?_) (fun hc => ?_) | refine WD.g_yes rfl rfl ?_ | refine WD.g_no rfl rfl rfl rfl ?_ | refine WD.g_undef rfl rfl rfl ?_ | refine WD.g_split rfl rfl (fun hc => ?_) (fun hc => ?_)
        | refine W.drawA ?_ | refine WL.aA (fun _ => ?_) | refine WD.aA (fun _ => ?_) | refine WL.e0A ?_ | refine WD.e0A ?_
        | refine W.cond rfl (fun hc => ?_) (fun hc => ?_))
      · have hbit : bitI came i = true := by rw [← e3]; exact hc
        rename_i b40
        refine WL.e rfl (Ef.app (m := 1) (news := [.int .u8 (IntKind.u8.wrap i)]) (by exact rfl) (by exact rfl) rfl rfl hown (.last (.there .here)) (Src.own (n := 1) (.here rfl)) rfl (fun u hu => by simp at hu; subst hu; rfl) (by have := wantI_len (came := came) (k := i); simp; omega) (by have := wantI_len (came := came) (k := i); simp [maxLen]; omega)) ?_
        rintro v' _ ⟨vb', hown', rfl⟩
        obtain ⟨va', vn', vc', rfl, _, _⟩ := OwnS.shape hown'
        rw [← B_small (by omega), show (wantI came i).map B ++ [B (UInt8.ofNat i)] = (wantI came (i + 1)).map B by rw [wantI_yes hbit]; simp] at hown'
        have e46 : IntKind.u32.wrap (first + IntKind.u32.wrap i) = u32 (first + i) := by show u32 (first + u32 i) = _; simp only [u32_eq]; omega
        have e48 : IntKind.u16.wrap (i : Int) = i := by show u16 i = _; simp only [u16_eq]; omega
        repeat' (first
          | refine W.seq ?_ | refine W.region ?_ | refine W.block ?_ | refine W.skip ?_ | refine W.exit ?_ | refine W.ret ?_ | refine W.cond_t rfl ?_ | refine W.cond_f rfl ?_ | refine WL.nil ?_ | refine WD.nil ?_ | refine Fin.next ?_ | refine Fin.then_exit ?_ | refine Fin.then_ret ?_ | refine Fin.block_normal ?_ | refine Fin.block_ret ?_ | refine Fin.block_exit ?_ | refine Fin.block_other rfl ?_
          | refine WL.pA ?_ | refine WD.pA ?_ | refine WL.sA ?_ | refine WD.sA ?_ | refine WL.g_yes rfl rfl ?_ | refine WL.g_no rfl rfl rfl rfl ?_ | refine WL.g_undef rfl rfl rfl ?_ | refine WL.g_split rfl rfl (fun hc => ?_) (fun hc => ?_) | refine WD.g_yes rfl rfl ?_ | refine WD.g_no rfl rfl rfl rfl ?_ | refine WD.g_undef rfl rfl rfl ?_ | refine WD.g_split rfl rfl (fun hc => ?_) (fun hc => ?_)
          | refine W.drawA ?_ | refine WL.aA (fun _ => ?_) | refine WD.aA (fun _ => ?_) | refine WL.e0A ?_ | refine WD.e0A ?_
          | refine W.cond rfl (fun hc => ?_) (fun hc => ?_))
        rename_i b51
        rw [e46, e48]
        obtain ⟨hE, y, hxy, hy, hyno, hput⟩ := stI_put first (bitI came) (by omega) hx hno hbit
        refine WL.e rfl (Ef.call (by exact rfl) (.pickL (L := s.H) (.there (.right (.there .all))) (.pick .here (.nil _))) (put_tr _ [(b51, .cells [.int .u8 (IntKind.u8.wrap i)].toArray 5 (0, 0))] s hs (pcI first i) (some ⟨b51, 0, none⟩) 1 1
          (Src.own (n := 1) (by rw [show (pcI first i).bytes.map B = [B (UInt8.ofNat i)] from rfl, B_small (by omega)]; exact .here rfl)) rfl (Int.le_refl 0) (by show (0 : Int) < 65536; decide) (by show 0 ≤ u32 _ ∧ u32 _ < _; simp only [u32_eq]; omega) (by omega)
          (by have h1 := (RM.said hS); rw [h1.1, h1.2.1]; exact stI_small first (bitI came) (by omega) (by omega)) h10)) ?_
        rintro _ _ ⟨_, ⟨rfl, s', hs', rfl, hr', ht', hS', hn'⟩, rfl⟩
        rw [hS, hput] at hS'
        rw [hS, hE]
        repeat' (first
          | refine W.seq ?_ | refine W.region ?_ | refine W.block ?_ | refine W.skip ?_ | refine W.exit ?_ | refine W.ret ?_ | refine W.cond_t rfl ?_ | refine W.cond_f rfl ?_ | refine WL.nil ?_ | refine WD.nil ?_ | refine Fin.next ?_ | refine Fin.then_exit ?_ | refine Fin.then_ret ?_ | refine Fin.block_normal ?_ | refine Fin.block_ret ?_ | refine Fin.block_exit ?_ | refine Fin.block_other rfl ?_
          | refine WL.pA ?_ | refine WD.pA ?_ | refine WL.sA ?_ | refine WD.sA ?_ | refine WL.g_yes rfl rfl ?_ | refine WL.g_no rfl rfl rfl rfl ?_ | refine WL.g_undef rfl rfl rfl ?_ | refine WL.g_split rfl rfl (fun hc => ?_) (fun hc => ?_) | refine WD.g_yes rfl rfl ?_ | refine WD.g_no rfl rfl rfl rfl ?_ | refine WD.g_undef rfl rfl rfl ?_ | refine WD.g_split rfl rfl (fun hc => ?_) (fun hc => ?_)
          | refine W.drawA ?_ | refine WL.aA (fun _ => ?_) | refine WD.aA (fun _ => ?_) | refine WL.e0A ?_ | refine WD.e0A ?_
          | refine W.cond rfl (fun hc => ?_) (fun hc => ?_))
        rw [i64_succ (by omega), ← hr']
        refine Fin.round ⟨i + 1, y, s', va', vn', vc', vb'⟩ ⟨hi', hy, hyno, hs', by dsimp only; omega, hS', hown'⟩ (sub_of (by repeat (first | exact subEnv.nil | refine subEnv.cons rfl ?_))) (fun _ h => ?_) (by dsimp only; omega)
        rw [List.append_assoc] at h
        exact In.of_sub (.pickL (L := vb') (.right (.right .here)) (.last .here)) h
      · have hbit : bitI came i = false := by rw [← e3]; exact hc
        rw [i64_succ (by omega)]
        exact Fin.round ⟨i + 1, x, s, va, vn, vc, vb⟩ ⟨hi', by dsimp only; omega, fun _ => (by rcases Nat.lt_or_ge x i with h | h; exact hno h; exact (show x = i by omega) ▸ hbit), hs, by dsimp only; omega, by dsimp only; rw [hS]; exact stI_none first (bitI came) hx hbit, by dsimp only; rw [wantI_no hbit]; exact hown⟩ (sub_of (by repeat (first | exact subEnv.nil | refine subEnv.cons rfl ?_))) (fun _ h => h) (by dsimp only; omega)
    -- the skips
    have hin : i = n := by simp at hc; omega
    subst hin
    refine W.loop (G := SkG) (fun g => [(0, .int .u32 first), (3, .bool once), (9, .int .i64 i), (10, .pointer (some ⟨g.s.R, 0, none⟩)), (12, .slice va vn vc), (14, .int .i64 g.i)]) (fun g => vb ++ g.s.H)
      (fun g => g.i ≤ i ∧ g.x ≤ i ∧ ((once = false ∨ g.i = i) → g.i ≤ g.x) ∧ g.s.ok ∧ g.s.turns ≤ i ∧ g.s.S = stI first (bitI came) i g.x) (fun g => i - g.i)
      ⟨0, x, s, none, 0, 0, []⟩ ⟨Nat.zero_le _, hx, fun _ => Nat.zero_le _, hs, htu, hS⟩ (sub_of (by repeat (first | exact subEnv.nil | refine subEnv.cons rfl ?_))) (fun _ h => h) ?_
    rintro ⟨k, x, s, _, _, _, _⟩ ⟨hk, hx, hdo, hs, htu, hS⟩
    dsimp only at hk hx hdo hs htu hS ⊢
    have e48 : IntKind.u16.wrap (k : Int) = k := by show u16 k = _; simp only [u16_eq]; omega
    have h10 : s.nx.length < 1000000 := by have := (RM.said hS).2.2; rw [this]; simp [stI]
    have h16 : nx16 s.nx := by have := (RM.said hS).2.2; rw [this]; intro q hq; simp [stI] at hq; omega
    repeat' (first
      | refine W.seq ?_ | refine W.region ?_ | refine W.block ?_ | refine W.skip ?_ | refine W.exit ?_ | refine W.ret ?_ | refine W.cond_t rfl ?_ | refine W.cond_f rfl ?_ | refine WL.nil ?_ | refine WD.nil ?_ | refine Fin.next ?_ | refine Fin.then_exit ?_ | refine Fin.then_ret ?_ | refine Fin.block_normal ?_ | refine Fin.block_ret ?_ | refine Fin.block_exit ?_ | refine Fin.block_other rfl ?_
      | refine WL.pA ?_ | refine WD.pA ?_ | refine WL.sA ?_ | refine WD.sA ?_ | refine WL.g_yes rfl rfl ?_ | refine WL.g_no rfl rfl rfl rfl ?_ | refine WL.g_undef rfl rfl rfl ?_ | refine WL.g_split rfl rfl (fun hc => ?_) (fun hc => ?_) | refine WD.g_yes rfl rfl ?_ | refine WD.g_no rfl rfl rfl rfl ?_ | refine WD.g_undef rfl rfl rfl ?_ | refine WD.g_split rfl rfl (fun hc => ?_) (fun hc => ?_)
      | refine W.drawA ?_ | refine WL.aA (fun _ => ?_) | refine WD.aA (fun _ => ?_) | refine WL.e0A ?_ | refine WD.e0A ?_
      | refine W.cond rfl (fun hc => ?_) (fun hc => ?_))
    ·
      have hk' : k < i := by simp at *; omega
      rename_i b76
      rw [e48]
      obtain ⟨hE, y, hy1, hy2, hsk⟩ := stI_skip first (bitI came) hn60 hx hk' (IntKind.u32.wrap (first + IntKind.u32.wrap (k : Int)))
      refine WL.e rfl (Ef.call (by exact rfl) (.pickL (L := s.H) (.there (.right .all)) (.pick .here (.nil _))) (Skip_tr _ [(b76, .cells [.int .u16 0, .int .u16 k].toArray 67 (0, 0))] s hs (IntKind.u32.wrap (first + IntKind.u32.wrap (k : Int))) [⟨0, k⟩] (some ⟨b76, 0, none⟩) 1 1
        ⟨rfl, Nat.le_refl _, fun _ => ⟨b76, 0, rfl, Can.cut (n := 2) (.here rfl)⟩, fun h => by cases h⟩ (fun q hq => by simp at hq; subst hq; dsimp only; omega) (by decide) h16 h10)) ?_
      rintro _ _ ⟨_, ⟨rfl, s', hs', rfl, hr', ht', hS', hn'⟩, rfl⟩
      rw [hS, hsk] at hS'
      rw [hS, hE]
      repeat' (first
        | refine W.seq ?_ | refine W.region ?_ | refine W.block ?_ | refine W.skip ?_ | refine W.exit ?_ | refine W.ret ?_ | refine W.cond_t rfl ?_ | refine W.cond_f rfl ?_ | refine WL.nil ?_ | refine WD.nil ?_ | refine Fin.next ?_ | refine Fin.then_exit ?_ | refine Fin.then_ret ?_ | refine Fin.block_normal ?_ | refine Fin.block_ret ?_ | refine Fin.block_exit ?_ | refine Fin.block_other rfl ?_
        | refine WL.pA ?_ | refine WD.pA ?_ | refine WL.sA ?_ | refine WD.sA ?_ | refine WL.g_yes rfl rfl ?_ | refine WL.g_no rfl rfl rfl rfl ?_ | refine WL.g_undef rfl rfl rfl ?_ | refine WL.g_split rfl rfl (fun hc => ?_) (fun hc => ?_) | refine WD.g_yes rfl rfl ?_ | refine WD.g_no rfl rfl rfl rfl ?_ | refine WD.g_undef rfl rfl rfl ?_ | refine WD.g_split rfl rfl (fun hc => ?_) (fun hc => ?_)
        | refine W.drawA ?_ | refine WL.aA (fun _ => ?_) | refine WD.aA (fun _ => ?_) | refine WL.e0A ?_ | refine WD.e0A ?_
        | refine W.cond rfl (fun hc => ?_) (fun hc => ?_))
      rw [i64_succ (by omega), ← hr']
      refine Fin.round ⟨k + 1, y, s', none, 0, 0, []⟩ ⟨hk', hy2, fun _ => hy1, hs', by dsimp only; omega, hS'⟩ (sub_of (by repeat (first | exact subEnv.nil | refine subEnv.cons rfl ?_))) (fun _ h => ?_) (by dsimp only; omega)
      rw [List.append_assoc, List.append_nil] at h
      exact In.of_sub (.pickL (L := vb) (.right (.right .all)) (.last .here)) h
    ·
      have hk' : k < i := by simp at *; omega
      rename_i b76
      rw [e48]
      obtain ⟨hE, y, hy1, hy2, hsk⟩ := stI_skip first (bitI came) hn60 hx hk' (IntKind.u32.wrap (first + IntKind.u32.wrap (k : Int)))
      refine WL.e rfl (Ef.call (by exact rfl) (.pickL (L := s.H) (.there (.right .all)) (.pick .here (.nil _))) (Skip_tr _ [(b76, .cells [.int .u16 0, .int .u16 k].toArray 67 (0, 0))] s hs (IntKind.u32.wrap (first + IntKind.u32.wrap (k : Int))) [⟨0, k⟩] (some ⟨b76, 0, none⟩) 1 1
        ⟨rfl, Nat.le_refl _, fun _ => ⟨b76, 0, rfl, Can.cut (n := 2) (.here rfl)⟩, fun h => by cases h⟩ (fun q hq => by simp at hq; subst hq; dsimp only; omega) (by decide) h16 h10)) ?_
      rintro _ _ ⟨_, ⟨rfl, s', hs', rfl, hr', ht', hS', hn'⟩, rfl⟩
      rw [hS, hsk] at hS'
      rw [hS, hE]
      repeat' (first
        | refine W.seq ?_ | refine W.region ?_ | refine W.block ?_ | refine W.skip ?_ | refine W.exit ?_ | refine W.ret ?_ | refine W.cond_t rfl ?_ | refine W.cond_f rfl ?_ | refine WL.nil ?_ | refine WD.nil ?_ | refine Fin.next ?_ | refine Fin.then_exit ?_ | refine Fin.then_ret ?_ | refine Fin.block_normal ?_ | refine Fin.block_ret ?_ | refine Fin.block_exit ?_ | refine Fin.block_other rfl ?_
        | refine WL.pA ?_ | refine WD.pA ?_ | refine WL.sA ?_ | refine WD.sA ?_ | refine WL.g_yes rfl rfl ?_ | refine WL.g_no rfl rfl rfl rfl ?_ | refine WL.g_undef rfl rfl rfl ?_ | refine WL.g_split rfl rfl (fun hc => ?_) (fun hc => ?_) | refine WD.g_yes rfl rfl ?_ | refine WD.g_no rfl rfl rfl rfl ?_ | refine WD.g_undef rfl rfl rfl ?_ | refine WD.g_split rfl rfl (fun hc => ?_) (fun hc => ?_)
        | refine W.drawA ?_ | refine WL.aA (fun _ => ?_) | refine WD.aA (fun _ => ?_) | refine WL.e0A ?_ | refine WD.e0A ?_
        | refine W.cond rfl (fun hc => ?_) (fun hc => ?_))
      rw [i64_succ (by omega), ← hr']
      refine Fin.round ⟨k + 1, y, s', none, 0, 0, []⟩ ⟨hk', hy2, fun _ => hy1, hs', by dsimp only; omega, hS'⟩ (sub_of (by repeat (first | exact subEnv.nil | refine subEnv.cons rfl ?_))) (fun _ h => ?_) (by dsimp only; omega)
      rw [List.append_assoc, List.append_nil] at h
      exact In.of_sub (.pickL (L := vb) (.right (.right .all)) (.last .here)) h
    · have hk' : k < i := by have := of_decide_eq_true (by assumption : decide ((k:Int) < i) = true); omega
      rename_i hc2
      rw [i64_succ (by omega)]
      refine Fin.round ⟨k + 1, x, s, none, 0, 0, []⟩ ⟨hk', hx, fun h => ?_, hs, htu, hS⟩ (sub_of (by repeat (first | exact subEnv.nil | refine subEnv.cons rfl ?_))) (fun _ h => h) (by dsimp only; omega)
      exfalso
      have e1 : once = true := by simpa using hc2
      have e2 : (k : Int) ≠ (i : Int) - 1 := by rw [i64_id (by omega) (by omega)] at hc; simpa using hc
      rcases h with h | h
      · rw [e1] at h; cases h
      · dsimp only at h; omega
    · have hkn : k = i := by simp at hc; omega
      subst hkn
      have hxn : x = k := by have := hdo (.inr rfl); omega
      subst hxn
      have hsd := RM.said hS
      have hlen : vn = ((seg 0 x).filter (bitI came)).length := by have := OwnS.len hown; simp [wantI] at this; omega
      have hL : s.L = [] := by rw [hsd.1]; dsimp only [stI]; rw [seg_nil (Nat.le_refl _)]; rfl
      have hrow : s.row = ((seg 0 x).filter (bitI came)).map mgI := hsd.2.1
      have hheld : s.held = vn := by have := hs.held; rw [hL, hrow, totM_one] at this; rw [this, hlen]; simp [totD]
      refine WL.e rfl (Ef.callR (c := s.H) (by exact rfl) (.last (.right .all)) (rdyA _ s hs)) ?_
      rintro _ _ ⟨rfl, rfl⟩
      rw [show (s.row.length : Int) = vn by rw [hrow, hlen, List.length_map]]
      repeat' (first
        | refine W.seq ?_ | refine W.region ?_ | refine W.block ?_ | refine W.skip ?_ | refine W.exit ?_ | refine W.ret ?_ | refine W.cond_t rfl ?_ | refine W.cond_f rfl ?_ | refine WL.nil ?_ | refine WD.nil ?_ | refine Fin.next ?_ | refine Fin.then_exit ?_ | refine Fin.then_ret ?_ | refine Fin.block_normal ?_ | refine Fin.block_ret ?_ | refine Fin.block_exit ?_ | refine Fin.block_other rfl ?_
        | refine WL.pA ?_ | refine WD.pA ?_ | refine WL.sA ?_ | refine WD.sA ?_ | refine WL.g_yes rfl rfl ?_ | refine WL.g_no rfl rfl rfl rfl ?_ | refine WL.g_undef rfl rfl rfl ?_ | refine WL.g_split rfl rfl (fun hc => ?_) (fun hc => ?_) | refine WD.g_yes rfl rfl ?_ | refine WD.g_no rfl rfl rfl rfl ?_ | refine WD.g_undef rfl rfl rfl ?_ | refine WD.g_split rfl rfl (fun hc => ?_) (fun hc => ?_)
        | refine W.drawA ?_ | refine WL.aA (fun _ => ?_) | refine WD.aA (fun _ => ?_) | refine WL.e0A ?_ | refine WD.e0A ?_
        | refine W.cond rfl (fun hc => ?_) (fun hc => ?_))
      · simp at hc
      refine WL.e rfl (Ef.callR (c := s.H) (by exact rfl) (.last (.right .all)) (heldA _ s)) ?_
      rintro _ _ ⟨rfl, rfl⟩
      rw [hheld]
      repeat' (first
        | refine W.seq ?_ | refine W.region ?_ | refine W.block ?_ | refine W.skip ?_ | refine W.exit ?_ | refine W.ret ?_ | refine W.cond_t rfl ?_ | refine W.cond_f rfl ?_ | refine WL.nil ?_ | refine WD.nil ?_ | refine Fin.next ?_ | refine Fin.then_exit ?_ | refine Fin.then_ret ?_ | refine Fin.block_normal ?_ | refine Fin.block_ret ?_ | refine Fin.block_exit ?_ | refine Fin.block_other rfl ?_
        | refine WL.pA ?_ | refine WD.pA ?_ | refine WL.sA ?_ | refine WD.sA ?_ | refine WL.g_yes rfl rfl ?_ | refine WL.g_no rfl rfl rfl rfl ?_ | refine WL.g_undef rfl rfl rfl ?_ | refine WL.g_split rfl rfl (fun hc => ?_) (fun hc => ?_) | refine WD.g_yes rfl rfl ?_ | refine WD.g_no rfl rfl rfl rfl ?_ | refine WD.g_undef rfl rfl rfl ?_ | refine WD.g_split rfl rfl (fun hc => ?_) (fun hc => ?_)
        | refine W.drawA ?_ | refine WL.aA (fun _ => ?_) | refine WD.aA (fun _ => ?_) | refine WL.e0A ?_ | refine WD.e0A ?_
        | refine W.cond rfl (fun hc => ?_) (fun hc => ?_))
      · rename_i hc2
        first | (simp at hc; done) | (simp at hc2; done) | (rename_i hc3; simp at hc3)
      have hSa : s.S = ⟨[], (((seg 0 x).filter (bitI came)).map mgI).drop 0, [(x : Int)]⟩ := by rw [hS]; dsimp only [stI]; rw [seg_nil (Nat.le_refl _)]; rfl
      refine W.loop (G := SkG) (fun g => [(0, .int .u32 first), (9, .int .i64 x), (10, .pointer (some ⟨g.s.R, 0, none⟩)), (12, .slice va vn vc), (15, .int .i64 g.i)]) (fun g => vb ++ g.s.H)
        (fun g => g.i ≤ vn ∧ g.s.ok ∧ g.s.turns ≤ x ∧ g.s.S = ⟨[], (((seg 0 x).filter (bitI came)).map mgI).drop g.i, [(x : Int)]⟩) (fun g => vn - g.i)
        ⟨0, x, s, none, 0, 0, []⟩ ⟨Nat.zero_le _, hs, htu, hSa⟩ (sub_of (by repeat (first | exact subEnv.nil | refine subEnv.cons rfl ?_))) (fun _ h => h) ?_
      clear hSa hs htu hS hsd hL hrow hheld h10 h16
      rintro ⟨k, _, s, _, _, _, _⟩ ⟨hk, hs, htu, hS⟩
      dsimp only at hk hs htu hS ⊢
      repeat' (first
        | refine W.seq ?_ | refine W.region ?_ | refine W.block ?_ | refine W.skip ?_ | refine W.exit ?_ | refine W.ret ?_ | refine W.cond_t rfl ?_ | refine W.cond_f rfl ?_ | refine WL.nil ?_ | refine WD.nil ?_ | refine Fin.next ?_ | refine Fin.then_exit ?_ | refine Fin.then_ret ?_ | refine Fin.block_normal ?_ | refine Fin.block_ret ?_ | refine Fin.block_exit ?_ | refine Fin.block_other rfl ?_
        | refine WL.pA ?_ | refine WD.pA ?_ | refine WL.sA ?_ | refine WD.sA ?_ | refine WL.g_yes rfl rfl ?_ | refine WL.g_no rfl rfl rfl rfl ?_ | refine WL.g_undef rfl rfl rfl ?_ | refine WL.g_split rfl rfl (fun hc => ?_) (fun hc => ?_) | refine WD.g_yes rfl rfl ?_ | refine WD.g_no rfl rfl rfl rfl ?_ | refine WD.g_undef rfl rfl rfl ?_ | refine WD.g_split rfl rfl (fun hc => ?_) (fun hc => ?_)
        | refine W.drawA ?_ | refine WL.aA (fun _ => ?_) | refine WD.aA (fun _ => ?_) | refine WL.e0A ?_ | refine WD.e0A ?_
        | refine W.cond rfl (fun hc => ?_) (fun hc => ?_))
      · have hk' : k < vn := by simp at hc; omega
        have hk2 : k < ((seg 0 x).filter (bitI came)).length := by omega
        have hrow : s.row = mgI (((seg 0 x).filter (bitI came))[k]) :: (((seg 0 x).filter (bitI came)).map mgI).drop (k + 1) := by
          rw [(RM.said hS).2.1]; dsimp only; rw [List.drop_eq_getElem_cons (by simpa using hk2), List.getElem_map]
        refine WL.e rfl (Ef.call (c := s.H) (by exact rfl) (.last (.right .all)) (takeA _ s hs)) ?_
        rintro _ _ ⟨_, (⟨hno, _⟩ | ⟨m, s', hm, hs', rfl, rfl, hr', ht', hrow', hL', hnx'⟩), rfl⟩
        · rw [hrow] at hno; cases hno
        dsimp only [tup]
        repeat' (first
          | refine W.seq ?_ | refine W.region ?_ | refine W.block ?_ | refine W.skip ?_ | refine W.exit ?_ | refine W.ret ?_ | refine W.cond_t rfl ?_ | refine W.cond_f rfl ?_ | refine WL.nil ?_ | refine WD.nil ?_ | refine Fin.next ?_ | refine Fin.then_exit ?_ | refine Fin.then_ret ?_ | refine Fin.block_normal ?_ | refine Fin.block_ret ?_ | refine Fin.block_exit ?_ | refine Fin.block_other rfl ?_
          | refine WL.pA ?_ | refine WD.pA ?_ | refine WL.sA ?_ | refine WD.sA ?_ | refine WL.g_yes rfl rfl ?_ | refine WL.g_no rfl rfl rfl rfl ?_ | refine WL.g_undef rfl rfl rfl ?_ | refine WL.g_split rfl rfl (fun hc => ?_) (fun hc => ?_) | refine WD.g_yes rfl rfl ?_ | refine WD.g_no rfl rfl rfl rfl ?_ | refine WD.g_undef rfl rfl rfl ?_ | refine WD.g_split rfl rfl (fun hc => ?_) (fun hc => ?_)
          | refine W.drawA ?_ | refine WL.aA (fun _ => ?_) | refine WD.aA (fun _ => ?_) | refine WL.e0A ?_ | refine WD.e0A ?_
          | refine W.cond rfl (fun hc => ?_) (fun hc => ?_))
        rename_i b16
        obtain ⟨hg, hrow2⟩ := List.cons.inj (hrow.symm.trans hrow')
        obtain ⟨_, _, _, he, _, hcap⟩ := OwnS.shape hown
        cases he
        obtain ⟨g, o, rfl⟩ := OwnS.addr hown (by omega)
        have hk60 : k < 60 := by have := wantI_len (came := came) (k := x); have h2 := OwnS.len hown; simp only [List.length_map] at h2; omega
        rw [i64_succ (by omega)]
        refine WD.p rfl (Pu.slLH rfl rfl rfl ⟨by omega, by omega⟩ ⟨by omega, by omega⟩) ?_
        rw [if_neg (by omega), show ((k + 1 : Nat) : Int).toNat - ((k : Nat) : Int).toNat = 1 by omega]
        rw [show Option.map (fun x => Addr.add x ((k : Int).toNat * 1)) (some ⟨g, o, none⟩) = some ⟨g, o + k, none⟩ by rw [Option.map_some, add_lit]; simp]
        repeat' (first
          | refine W.seq ?_ | refine W.region ?_ | refine W.block ?_ | refine W.skip ?_ | refine W.exit ?_ | refine W.ret ?_ | refine W.cond_t rfl ?_ | refine W.cond_f rfl ?_ | refine WL.nil ?_ | refine WD.nil ?_ | refine Fin.next ?_ | refine Fin.then_exit ?_ | refine Fin.then_ret ?_ | refine Fin.block_normal ?_ | refine Fin.block_ret ?_ | refine Fin.block_exit ?_ | refine Fin.block_other rfl ?_
          | refine WL.pA ?_ | refine WD.pA ?_ | refine WL.sA ?_ | refine WD.sA ?_ | refine WL.g_yes rfl rfl ?_ | refine WL.g_no rfl rfl rfl rfl ?_ | refine WL.g_undef rfl rfl rfl ?_ | refine WL.g_split rfl rfl (fun hc => ?_) (fun hc => ?_) | refine WD.g_yes rfl rfl ?_ | refine WD.g_no rfl rfl rfl rfl ?_ | refine WD.g_undef rfl rfl rfl ?_ | refine WD.g_split rfl rfl (fun hc => ?_) (fun hc => ?_)
          | refine W.drawA ?_ | refine WL.aA (fun _ => ?_) | refine WD.aA (fun _ => ?_) | refine WL.e0A ?_ | refine WD.e0A ?_
          | refine W.cond rfl (fun hc => ?_) (fun hc => ?_))
        have hk3 : k < (wantI came x).length := by simp [wantI]; omega
        have hkb : (wantI came x)[k] = UInt8.ofNat (((seg 0 x).filter (bitI came))[k]) := by simp [wantI]
        have hcut : CutAt g (o + k) 1 [B (UInt8.ofNat (((seg 0 x).filter (bitI came))[k]))] vb := OwnS.cut hown (by rw [List.drop_eq_getElem_cons (by simpa using hk3)]; simp [hkb]) (by simp; omega)
        refine WD.e rfl (Ef.callR (by exact rfl) (.all _) (same_tr _ _ m.g (mgI (((seg 0 x).filter (bitI came))[k])) m.bv (.slice (some ⟨g, o + k, none⟩) 1 (vc - (k : Int).toNat)) rfl rfl
          (by rw [← Ms.len hm]; exact OwnS.src hm (fun _ h => h.sublist (.cons _ ((List.sublist_append_right _ _).trans (List.sublist_append_left _ _)))))
          (Src.own (n := 1) (.there (.right (by rw [List.append_nil]; exact hcut)))))) ?_
        rintro _ _ ⟨rfl, rfl⟩
        refine ⟨Or.inr (fun _ h => h), ?_⟩
        rw [show sameMg m.g (mgI (((seg 0 x).filter (bitI came))[k])) = true by rw [← hg]; simp [sameMg]]
        repeat' (first
          | refine W.seq ?_ | refine W.region ?_ | refine W.block ?_ | refine W.skip ?_ | refine W.exit ?_ | refine W.ret ?_ | refine W.cond_t rfl ?_ | refine W.cond_f rfl ?_ | refine WL.nil ?_ | refine WD.nil ?_ | refine Fin.next ?_ | refine Fin.then_exit ?_ | refine Fin.then_ret ?_ | refine Fin.block_normal ?_ | refine Fin.block_ret ?_ | refine Fin.block_exit ?_ | refine Fin.block_other rfl ?_
          | refine WL.pA ?_ | refine WD.pA ?_ | refine WL.sA ?_ | refine WD.sA ?_ | refine WL.g_yes rfl rfl ?_ | refine WL.g_no rfl rfl rfl rfl ?_ | refine WL.g_undef rfl rfl rfl ?_ | refine WL.g_split rfl rfl (fun hc => ?_) (fun hc => ?_) | refine WD.g_yes rfl rfl ?_ | refine WD.g_no rfl rfl rfl rfl ?_ | refine WD.g_undef rfl rfl rfl ?_ | refine WD.g_split rfl rfl (fun hc => ?_) (fun hc => ?_)
          | refine W.drawA ?_ | refine WL.aA (fun _ => ?_) | refine WD.aA (fun _ => ?_) | refine WL.e0A ?_ | refine WD.e0A ?_
          | refine W.cond rfl (fun hc => ?_) (fun hc => ?_))
        rw [i64_succ (by omega), ← hr']
        refine Fin.round ⟨k + 1, x, s', none, 0, 0, []⟩ ⟨hk', hs', by dsimp only; omega, ?_⟩ (sub_of (by repeat (first | exact subEnv.nil | refine subEnv.cons rfl ?_))) (fun _ h => ?_) (by dsimp only; omega)
        · have := RM.said hS
          unfold RM.S; rw [hL', hnx', this.1, this.2.2, ← hrow2]
        · rw [List.append_assoc, List.append_nil] at h
          exact In.of_sub (.pickL (L := vb) (.there (.right (.right .all))) (.last (.there .here))) h
      have hkn : k = vn := by simp at hc; omega
      have hS1 : s.S = ⟨[], [], [(x : Int)]⟩ := by rw [hS, hkn, hlen, List.drop_of_length_le (by simp)]
      have hsd := RM.said hS1
      have e118 : IntKind.u32.wrap (first + 1000) = u32 (first + 1000) := rfl
      rename_i b121
      rw [e48, e118]
      obtain ⟨hE, hput⟩ := last_put (u32 (first + 1000)) hn60
      refine WL.e rfl (Ef.call (by exact rfl) (.pickL (L := s.H) (.there (.right .all)) (.pick .here (.nil _))) (put_tr _ [(b121, .cells [.int .u8 9].toArray 5 (0, 0))] s hs (lastP (u32 (first + 1000)) x) (some ⟨b121, 0, none⟩) 1 1
          (Src.own (n := 1) (.here rfl)) rfl (Int.le_refl 0) (by show (0 : Int) < 65536; decide) (by show 0 ≤ u32 _ ∧ u32 _ < _; simp only [u32_eq]; omega) (by omega)
          (by rw [hsd.1, hsd.2.1]; show 0 + 0 + 1 ≤ 1000000000; decide) (by rw [hsd.2.2]; show 1 < 1000000; decide))) ?_
      rintro _ _ ⟨_, ⟨rfl, s', hs', rfl, hr', ht', hS', hn'⟩, rfl⟩
      rw [hS1] at hS'
      rw [hS1, hE]
      rw [← hr']
      repeat' (first
        | refine W.seq ?_ | refine W.region ?_ | refine W.block ?_ | refine W.skip ?_ | refine W.exit ?_ | refine W.ret ?_ | refine W.cond_t rfl ?_ | refine W.cond_f rfl ?_ | refine WL.nil ?_ | refine WD.nil ?_ | refine Fin.next ?_ | refine Fin.then_exit ?_ | refine Fin.then_ret ?_ | refine Fin.block_normal ?_ | refine Fin.block_ret ?_ | refine Fin.block_exit ?_ | refine Fin.block_other rfl ?_
        | refine WL.pA ?_ | refine WD.pA ?_ | refine WL.sA ?_ | refine WD.sA ?_ | refine WL.g_yes rfl rfl ?_ | refine WL.g_no rfl rfl rfl rfl ?_ | refine WL.g_undef rfl rfl rfl ?_ | refine WL.g_split rfl rfl (fun hc => ?_) (fun hc => ?_) | refine WD.g_yes rfl rfl ?_ | refine WD.g_no rfl rfl rfl rfl ?_ | refine WD.g_undef rfl rfl rfl ?_ | refine WD.g_split rfl rfl (fun hc => ?_) (fun hc => ?_)
        | refine W.drawA ?_ | refine WL.aA (fun _ => ?_) | refine WD.aA (fun _ => ?_) | refine WL.e0A ?_ | refine WD.e0A ?_
        | refine W.cond rfl (fun hc => ?_) (fun hc => ?_))
      rw [List.append_assoc]
      refine WL.e rfl (Ef.callR (c := s'.H) (by exact rfl) (.one _ _) (rdyA _ s' hs')) ?_
      rintro _ _ ⟨rfl, rfl⟩
      rw [show s'.row.length = 1 by rw [(RM.said hS').2.1]; exact hput]
      repeat' (first
        | refine W.seq ?_ | refine W.region ?_ | refine W.block ?_ | refine W.skip ?_ | refine W.exit ?_ | refine W.ret ?_ | refine W.cond_t rfl ?_ | refine W.cond_f rfl ?_ | refine WL.nil ?_ | refine WD.nil ?_ | refine Fin.next ?_ | refine Fin.then_exit ?_ | refine Fin.then_ret ?_ | refine Fin.block_normal ?_ | refine Fin.block_ret ?_ | refine Fin.block_exit ?_ | refine Fin.block_other rfl ?_
        | refine WL.pA ?_ | refine WD.pA ?_ | refine WL.sA ?_ | refine WD.sA ?_ | refine WL.g_yes rfl rfl ?_ | refine WL.g_no rfl rfl rfl rfl ?_ | refine WL.g_undef rfl rfl rfl ?_ | refine WL.g_split rfl rfl (fun hc => ?_) (fun hc => ?_) | refine WD.g_yes rfl rfl ?_ | refine WD.g_no rfl rfl rfl rfl ?_ | refine WD.g_undef rfl rfl rfl ?_ | refine WD.g_split rfl rfl (fun hc => ?_) (fun hc => ?_)
        | refine W.drawA ?_ | refine WL.aA (fun _ => ?_) | refine WD.aA (fun _ => ?_) | refine WL.e0A ?_ | refine WD.e0A ?_
        | refine W.cond rfl (fun hc => ?_) (fun hc => ?_))
      refine WL.e rfl (Ef.callR (by exact rfl) (.nil _) (works_tr _)) ?_
      rintro _ _ ⟨rfl, rfl⟩
      repeat' (first
        | refine W.seq ?_ | refine W.region ?_ | refine W.block ?_ | refine W.skip ?_ | refine W.exit ?_ | refine W.ret ?_ | refine W.cond_t rfl ?_ | refine W.cond_f rfl ?_ | refine WL.nil ?_ | refine WD.nil ?_ | refine Fin.next ?_ | refine Fin.then_exit ?_ | refine Fin.then_ret ?_ | refine Fin.block_normal ?_ | refine Fin.block_ret ?_ | refine Fin.block_exit ?_ | refine Fin.block_other rfl ?_
        | refine WL.pA ?_ | refine WD.pA ?_ | refine WL.sA ?_ | refine WD.sA ?_ | refine WL.g_yes rfl rfl ?_ | refine WL.g_no rfl rfl rfl rfl ?_ | refine WL.g_undef rfl rfl rfl ?_ | refine WL.g_split rfl rfl (fun hc => ?_) (fun hc => ?_) | refine WD.g_yes rfl rfl ?_ | refine WD.g_no rfl rfl rfl rfl ?_ | refine WD.g_undef rfl rfl rfl ?_ | refine WD.g_split rfl rfl (fun hc => ?_) (fun hc => ?_)
        | refine W.drawA ?_ | refine WL.aA (fun _ => ?_) | refine WD.aA (fun _ => ?_) | refine WL.e0A ?_ | refine WD.e0A ?_
        | refine W.cond rfl (fun hc => ?_) (fun hc => ?_))
      exact Fin.retW (by exact rfl) (by repeat' (first | exact Res.nil | exact rfl | exact CutAt.here rfl | exact CellAt.here rfl | apply CutAt.there | apply CellAt.there | apply CutAt.right | apply CellAt.right | apply Res.tmp | apply Res.agg' | apply Res.cell')) (fun _ h => h.sublist (List.nil_sublist _)) ⟨rfl, rfl⟩
end Go.Proofs.Ytokbkocjddcklaa
