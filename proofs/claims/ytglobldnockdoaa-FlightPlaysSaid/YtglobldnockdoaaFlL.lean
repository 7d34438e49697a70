/- The law's 'works', walked: it answers true. No conditions. -/
import Derived.Test.YtglobldnockdoaaFlK
import Derived.Test.YtglobldnockdoaaFlW
import Derived.Test.YtglobldnockdoaaSlM
namespace Go.Proofs.Ytglobldnockdoaa
open Go Go.Sl Go.Flt

def wLen : List Nat := [100, 50, 30, 20, 20]
def wD (n : Nat) : Dt := ⟨0, 0, 0, false, false, false, List.replicate n 0⟩
def wA : Nat → Flt.S
  | 0 => ⟨[], 9, 2⟩
  | i + 1 => Flt.add (wA i) (wD (wLen.getD i 0)) (if i = 1 then 1 else 0) i i
def wr (i : Nat) (miss : Int) (acked lost again : Bool) (at_ : Int) : Rc := ⟨10 + i, 0, 0, false, false, false, List.replicate (wLen.getD i 0) 0, if i = 1 then 1 else 0, i, miss, at_, acked, lost, false, again⟩
def wB : Nat → Flt.S
  | 0 => ⟨[wr 0 0 false false false 0, wr 1 0 false false false 1, wr 2 0 false false false 2, wr 3 0 false false false 3, wr 4 0 false false false 4], 9, 2⟩
  | 1 => ⟨[wr 0 1 false false false 0, wr 1 0 false false false 1, wr 2 0 true false false 2, wr 3 0 false false false 3, wr 4 0 false false false 4], 9, 2⟩
  | 2 => ⟨[wr 0 2 false false false 0, wr 1 0 false false false 1, wr 2 0 true false false 2, wr 3 0 true false false 3, wr 4 0 false false false 4], 9, 2⟩
  | _ => ⟨[wr 0 3 false true false 0, wr 1 0 false false false 1, wr 2 0 true false false 2, wr 3 0 true false false 3, wr 4 0 true false false 4], 9, 2⟩
def wT (k : Nat) : Tld := match Flt.sack (wB k) 9 [(3, 3 + k)] with | some (_, t) => t | none => Tld.zero
def wC : Flt.S := ⟨[wr 0 3 false false true 9, wr 1 0 false false false 1, wr 2 0 true false false 2, wr 3 0 true false false 3, wr 4 0 true false false 4], 9, 2⟩
def wS : Flt.S := ⟨[], 14, 2⟩
def wU : Tld := match Flt.sack wC 14 [] with | some (_, t) => t | none => Tld.zero
theorem wA_good : ∀ i, Flt.Good (wA i)
  | 0 => new_good (by decide) (by decide)
  | i + 1 => (wA_good i).add _ _ _ _
theorem w5 : wA 5 = wB 0 := by kernel_rfl
theorem wA_ok : ∀ i, i < 5 → addE (wA i) (wD (wLen.getD i 0)) (if i = 1 then 1 else 0) = 0 ∧ newT (wA i) = 10 + i := fun i hi => by
  have : i = 0 ∨ i = 1 ∨ i = 2 ∨ i = 3 ∨ i = 4 := by omega
  rcases this with rfl | rfl | rfl | rfl | rfl <;> exact ⟨by kernel_rfl, by kernel_rfl⟩
theorem wB_ok : ∀ k, k < 3 → Flt.sack (wB k) 9 [(3, 3 + k)] = some (wB (k + 1), wT k) ∧ (wT k).p0.fast = decide (k = 2) ∧ (wT k).p1.fast = false ∧ sumB (fun _ => true) (wB k).L = 220 := fun k hk => by
  have : k = 0 ∨ k = 1 ∨ k = 2 := by omega
  rcases this with rfl | rfl | rfl <;> exact ⟨by kernel_rfl, by kernel_rfl, by kernel_rfl, by kernel_rfl⟩
theorem wB_good : ∀ k, k ≤ 3 → Flt.Good (wB k)
  | 0, _ => by rw [← w5]; exact wA_good 5
  | k + 1, h => (wB_good k (by omega)).sack (by decide) (wB_ok k (by omega)).1
theorem wC_eq : Flt.again (wB 3) 10 0 9 = (wC, 0) := by kernel_rfl
theorem wC_good : Flt.Good wC := by
  have := (wB_good 3 (by decide)).again 10 0 9
  rw [wC_eq] at this
  exact this
theorem wS_eq : Flt.sack wC 14 [] = some (wS, wU) := by kernel_rfl
theorem made_own (E : Nat) (b n : Nat) (h : n ≤ 1000000) : OwnS E 1 ((List.replicate n (0 : UInt8)).map B) (.slice (some ⟨b, 0, none⟩) n n) [(b, .cells (mkCells [.int .u8 0] n).toArray E (0, 0))] := by
  have e : mkCells [.int .u8 0] n = (List.replicate n (0 : UInt8)).map B := by
    rw [List.map_replicate]
    induction n with
    | zero => rfl
    | succ n ih => rw [List.replicate_succ, mkCells, ih (by omega)]; rfl
  have := OwnS.made E (.int .u8 0) b n (by unfold maxLen; omega)
  rwa [e] at this ⊢
structure WkG where
  i : Nat
  f : FM
set_option maxHeartbeats 8000000 in
theorem works_tr (F : Nat → Option Obj) : Tr Try.prog 16 [].toArray F [] (fun v H => v = .bool true ∧ H = []) := by
  refine Tr.enter Try.func16 rfl Try.ntmps16 rfl (fun w0 => ?_)
  repeat' (first | refine S1 ?_ | refine SD ?_ | refine SA (fun _ => ?_) | refine WL.g_split rfl rfl (fun hc => ?_) (fun hc => ?_) | refine WD.g_split rfl rfl (fun hc => ?_) (fun hc => ?_) | refine W.cond rfl (fun hc => ?_) (fun hc => ?_))
  refine WL.e rfl (Ef.call (by exact rfl) (.nil _) (new_tr _ 2 10)) ?_
  rintro _ _ ⟨_, hq, rfl⟩
  rcases hq with ⟨h, _⟩ | ⟨_, b, rfl, rfl⟩
  · exact absurd (by decide) h
  obtain ⟨f0, hf0⟩ : ∃ f0, FM.empty b 2 10 = f0 := ⟨_, rfl⟩
  have ok0 : f0.ok := by rw [← hf0]; exact FM.empty_ok _ _ _
  have S0 : f0.S = wA 0 := by rw [← hf0]; rfl
  have R0 : b = f0.R := by rw [← hf0]; rfl
  rw [List.append_nil, hf0, R0]
  clear hf0 R0
  repeat' (first | refine S1 ?_ | refine SD ?_ | refine SA (fun _ => ?_) | refine WL.g_split rfl rfl (fun hc => ?_) (fun hc => ?_) | refine WD.g_split rfl rfl (fun hc => ?_) (fun hc => ?_) | refine W.cond rfl (fun hc => ?_) (fun hc => ?_))
  refine WL.e rfl (Ef.bsN (n := 5) (by exact rfl) (by exact rfl) (by exact rfl) (by exact rfl) rfl (by exact rfl)) ?_
  rintro _ _ ⟨b3, rfl, rfl⟩
  repeat' (first | refine S1 ?_ | refine SD ?_ | refine SA (fun _ => ?_) | refine WL.g_split rfl rfl (fun hc => ?_) (fun hc => ?_) | refine WD.g_split rfl rfl (fun hc => ?_) (fun hc => ?_) | refine W.cond rfl (fun hc => ?_) (fun hc => ?_))
  refine W.loop (G := WkG) (fun g => [(1, .pointer (some ⟨f0.R, 0, none⟩)), (3, .slice (some ⟨b3, 0, none⟩) 5 5), (4, .int .i64 g.i)])
    (fun g => (b3, .cells (wLen.map (fun n : Nat => Value.int .i64 (n : Int))).toArray 3 (0, 0)) :: g.f.H) (fun g => g.i ≤ 5 ∧ g.f.ok ∧ g.f.R = f0.R ∧ g.f.S = wA g.i) (fun g => 5 - g.i) ⟨0, f0⟩ ⟨Nat.zero_le _, ok0, rfl, S0⟩ envA (fun _ h => h) ?_
  rintro ⟨i, f⟩ ⟨hi, hf, hR, hS⟩
  dsimp only at hi hf hR hS ⊢
  repeat' (first | refine S1 ?_ | refine SD ?_ | refine SA (fun _ => ?_) | refine WL.g_split rfl rfl (fun hc => ?_) (fun hc => ?_) | refine WD.g_split rfl rfl (fun hc => ?_) (fun hc => ?_) | refine W.cond rfl (fun hc => ?_) (fun hc => ?_))
  · have hi1 : i = 1 := by have := hc; simp at this; omega
    have hi' : i < 5 := by omega
    have hia : 0 ≤ (i : Int) ∧ (i : Int) < (5 : Nat) := by omega
    obtain ⟨n, hn⟩ : ∃ n, wLen[i]? = some n := ⟨wLen[i]'(show i < wLen.length from hi'), by simp⟩
    have hn1 : n ≤ 1000000 := by
      have := List.mem_of_getElem? hn
      simp [wLen] at this
      omega
    have hnd : wLen.getD i 0 = n := by simp [List.getD, hn]
    have hcan : Sl.Can F ((b3, .cells (wLen.map (fun n : Nat => Value.int .i64 (n : Int))).toArray 3 (0, 0)) :: f.H) b3 (0 + (i : Int).toNat * 1) [.int .i64 (n : Int)] := by
      have h0 : Sl.Can F ((b3, .cells (wLen.map (fun n : Nat => Value.int .i64 (n : Int))).toArray 3 (0, 0)) :: f.H) b3 0 (wLen.map (fun n : Nat => Value.int .i64 (n : Int))) := Can.cut (n := 5) (.here rfl)
      have := h0.one (i := i) (v := .int .i64 (n : Int)) (by rw [List.getElem?_map, hn]; rfl)
      simpa using this
    obtain ⟨hA1, hA2⟩ := wA_ok i hi'
    rw [hnd] at hA1
    rw [← hS] at hA1 hA2
    have hSn : wA (i + 1) = Flt.add f.S (wD n) (if i = 1 then 1 else 0) i i := by rw [hS, ← hnd]; rfl
    have hx : IntKind.u32.wrap (10 + IntKind.u32.wrap (i : Int)) = 10 + (i : Int) := by simp only [IntKind.wrap, IntKind.bits, IntKind.signed]; simp; omega
    rw [← hR]
    rw [if_pos hi1] at hA1 hSn
    repeat' (first | refine S1 ?_ | refine SD ?_ | refine SA (fun _ => ?_) | refine WL.g_split rfl rfl (fun hc => ?_) (fun hc => ?_) | refine WD.g_split rfl rfl (fun hc => ?_) (fun hc => ?_) | refine W.cond rfl (fun hc => ?_) (fun hc => ?_))
    refine WL.e rfl (Ef.mkS (n := n) (by exact rfl) (by exact rfl) rfl rfl (by omega) (by omega)) ?_
    rintro _ _ ⟨b41, rfl, rfl⟩
    repeat' (first | refine S1 ?_ | refine SD ?_ | refine SA (fun _ => ?_) | refine WL.g_split rfl rfl (fun hc => ?_) (fun hc => ?_) | refine WD.g_split rfl rfl (fun hc => ?_) (fun hc => ?_) | refine W.cond rfl (fun hc => ?_) (fun hc => ?_))
    refine WL.e rfl (Ef.callW (c := f.H) (by exact rfl) subA (fun F' hF => add_tr F' f hf (wD n) (some ⟨b41, 0, none⟩) n n ((Lst.own (F := F) (made_own _ b41 n hn1) (fun _ h => h)).mono (fun w h => (hF w h).sublist (.cons_cons _ (List.nil_sublist _)))) (by simp [wD]; omega) _ i i)) ?_
    rintro _ _ ⟨_, ⟨rfl, f', hf', rfl, hr', hS'⟩, rfl⟩
    rw [hA1, if_pos rfl, hA2]
    repeat' (first | refine S1 ?_ | refine SD ?_ | refine SA (fun _ => ?_) | refine WL.g_split rfl rfl (fun hc => ?_) (fun hc => ?_) | refine WD.g_split rfl rfl (fun hc => ?_) (fun hc => ?_) | refine W.cond rfl (fun hc => ?_) (fun hc => ?_))
    · exfalso
      rw [hx] at hc
      simp at hc
    · rw [i64_succ (by omega)]
      refine Fin.round ⟨i + 1, f'⟩ ⟨hi', hf', hr', ?_⟩ envA (fun _ h => In.of_sub (.pick (.right (.there .here)) (.last .here)) h) (by dsimp only; omega)
      rw [hSn]
      exact hS'
  · have hi1 : ¬ i = 1 := by have := hc; simp at this; omega
    rename_i hc0
    have hi0 := of_decide_eq_true hc0
    have hi' : i < 5 := by omega
    have hia : 0 ≤ (i : Int) ∧ (i : Int) < (5 : Nat) := by omega
    obtain ⟨n, hn⟩ : ∃ n, wLen[i]? = some n := ⟨wLen[i]'(show i < wLen.length from hi'), by simp⟩
    have hn1 : n ≤ 1000000 := by
      have := List.mem_of_getElem? hn
      simp [wLen] at this
      omega
    have hnd : wLen.getD i 0 = n := by simp [List.getD, hn]
    have hcan : Sl.Can F ((b3, .cells (wLen.map (fun n : Nat => Value.int .i64 (n : Int))).toArray 3 (0, 0)) :: f.H) b3 (0 + (i : Int).toNat * 1) [.int .i64 (n : Int)] := by
      have h0 : Sl.Can F ((b3, .cells (wLen.map (fun n : Nat => Value.int .i64 (n : Int))).toArray 3 (0, 0)) :: f.H) b3 0 (wLen.map (fun n : Nat => Value.int .i64 (n : Int))) := Can.cut (n := 5) (.here rfl)
      have := h0.one (i := i) (v := .int .i64 (n : Int)) (by rw [List.getElem?_map, hn]; rfl)
      simpa using this
    obtain ⟨hA1, hA2⟩ := wA_ok i hi'
    rw [hnd] at hA1
    rw [← hS] at hA1 hA2
    have hSn : wA (i + 1) = Flt.add f.S (wD n) (if i = 1 then 1 else 0) i i := by rw [hS, ← hnd]; rfl
    have hx : IntKind.u32.wrap (10 + IntKind.u32.wrap (i : Int)) = 10 + (i : Int) := by simp only [IntKind.wrap, IntKind.bits, IntKind.signed]; simp; omega
    rw [← hR]
    rw [if_neg hi1] at hA1 hSn
    repeat' (first | refine S1 ?_ | refine SD ?_ | refine SA (fun _ => ?_) | refine WL.g_split rfl rfl (fun hc => ?_) (fun hc => ?_) | refine WD.g_split rfl rfl (fun hc => ?_) (fun hc => ?_) | refine W.cond rfl (fun hc => ?_) (fun hc => ?_))
    refine WL.e rfl (Ef.mkS (n := n) (by exact rfl) (by exact rfl) rfl rfl (by omega) (by omega)) ?_
    rintro _ _ ⟨b41, rfl, rfl⟩
    repeat' (first | refine S1 ?_ | refine SD ?_ | refine SA (fun _ => ?_) | refine WL.g_split rfl rfl (fun hc => ?_) (fun hc => ?_) | refine WD.g_split rfl rfl (fun hc => ?_) (fun hc => ?_) | refine W.cond rfl (fun hc => ?_) (fun hc => ?_))
    refine WL.e rfl (Ef.callW (c := f.H) (by exact rfl) subA (fun F' hF => add_tr F' f hf (wD n) (some ⟨b41, 0, none⟩) n n ((Lst.own (F := F) (made_own _ b41 n hn1) (fun _ h => h)).mono (fun w h => (hF w h).sublist (.cons_cons _ (List.nil_sublist _)))) (by simp [wD]; omega) _ i i)) ?_
    rintro _ _ ⟨_, ⟨rfl, f', hf', rfl, hr', hS'⟩, rfl⟩
    rw [hA1, if_pos rfl, hA2]
    repeat' (first | refine S1 ?_ | refine SD ?_ | refine SA (fun _ => ?_) | refine WL.g_split rfl rfl (fun hc => ?_) (fun hc => ?_) | refine WD.g_split rfl rfl (fun hc => ?_) (fun hc => ?_) | refine W.cond rfl (fun hc => ?_) (fun hc => ?_))
    · exfalso
      rw [hx] at hc
      simp at hc
    · rw [i64_succ (by omega)]
      refine Fin.round ⟨i + 1, f'⟩ ⟨hi', hf', hr', ?_⟩ envA (fun _ h => In.of_sub (.pick (.right (.there .here)) (.last .here)) h) (by dsimp only; omega)
      rw [hSn]
      exact hS'
  · have hi5 : i = 5 := by have := of_decide_eq_false hc; omega
    subst hi5
    rw [← hR]
    clear hR ok0 S0
    refine W.loop (G := WkG) (fun g => [(1, .pointer (some ⟨f.R, 0, none⟩)), (8, .int .u16 ((3 + g.i : Nat) : Int))])
      (fun g => g.f.H) (fun g => g.i ≤ 3 ∧ g.f.ok ∧ g.f.R = f.R ∧ g.f.S = wB g.i) (fun g => 3 - g.i) ⟨0, f⟩ ⟨Nat.zero_le _, hf, rfl, hS.trans w5⟩ envA (fun _ h => h.sublist (.cons _ (.refl _))) ?_
    rintro ⟨k, g⟩ ⟨hk, hg, hgR, hgS⟩
    dsimp only at hk hg hgR hgS ⊢
    repeat' (first | refine S1 ?_ | refine SD ?_ | refine SA (fun _ => ?_) | refine WL.g_split rfl rfl (fun hc => ?_) (fun hc => ?_) | refine WD.g_split rfl rfl (fun hc => ?_) (fun hc => ?_) | refine W.cond rfl (fun hc => ?_) (fun hc => ?_))
    · have hk' : k < 3 := by have := of_decide_eq_true hc; omega
      obtain ⟨hB1, hB2, hB3, hB4⟩ := wB_ok k hk'
      rw [← hgR]
      rename_i bg
      have gsm : g.small := by
        show sumB _ g.S.L ≤ _
        rw [hgS, hB4]
        omega
      refine WL.e rfl (Ef.callW (c := g.H) (by exact rfl) subA (fun F' hF => sack_tr F' g hg gsm (by rw [hgS]; exact pathOk_of (wB_good k (by omega))) 9 0 (by omega) [(3, 3 + k)] (some ⟨bg, 0, none⟩) 1 1 ⟨rfl, by omega, fun _ => ⟨bg, 0, rfl, Can.mono (Can.cut (n := 2) (.here rfl)) (fun w h => (hF w h).sublist (.cons_cons _ (List.nil_sublist _)))⟩, fun h => by cases h⟩ (by simp; omega) (by simp) none 0 0)) ?_
      rintro _ _ ⟨_, hq, rfl⟩
      rw [hgS, hB1] at hq
      obtain ⟨rfl, f', hf', rfl, hr', hS'⟩ := hq
      obtain ⟨tt, htt⟩ : ∃ tt, wT k = tt := ⟨_, rfl⟩
      rw [htt] at hB2 hB3 ⊢
      unfold tup tldC
      rw [hB2, hB3]
      have hx5 : ((((3 + k : Nat) : Int) == 5) : Bool) = decide (k = 2) := by rw [Bool.eq_iff_iff]; simp; omega
      repeat' (first | refine S1 ?_ | refine SD ?_ | refine SA (fun _ => ?_) | refine WL.g_split rfl rfl (fun hc => ?_) (fun hc => ?_) | refine WD.g_split rfl rfl (fun hc => ?_) (fun hc => ?_) | refine W.cond rfl (fun hc => ?_) (fun hc => ?_))
      refine WL.p rfl (Pu.iaA rfl rfl (by decide)) ?_
      repeat' (first | refine S1 ?_ | refine SD ?_ | refine SA (fun _ => ?_) | refine WL.g_split rfl rfl (fun hc => ?_) (fun hc => ?_) | refine WD.g_split rfl rfl (fun hc => ?_) (fun hc => ?_) | refine W.cond rfl (fun hc => ?_) (fun hc => ?_))
      · exfalso
        rw [hx5] at hc
        simp at hc
      · refine WL.p rfl (Pu.iaA rfl rfl (by decide)) ?_
        repeat' (first | refine S1 ?_ | refine SD ?_ | refine SA (fun _ => ?_) | refine WL.g_split rfl rfl (fun hc => ?_) (fun hc => ?_) | refine WD.g_split rfl rfl (fun hc => ?_) (fun hc => ?_) | refine W.cond rfl (fun hc => ?_) (fun hc => ?_))
        rw [show IntKind.u16.wrap (((3 + k : Nat) : Int) + 1) = ((3 + (k + 1) : Nat) : Int) by simp only [IntKind.wrap, IntKind.bits, IntKind.signed]; simp; omega]
        exact Fin.round ⟨k + 1, f'⟩ ⟨hk', hf', hr', hS'⟩ envA (fun _ h => h.sublist (.cons _ (List.sublist_append_left _ _))) (by dsimp only; omega)
    · have hk3 : k = 3 := by have := of_decide_eq_false hc; omega
      subst hk3
      rw [← hgR]
      clear hgR hf hS
      refine WL.e rfl (Ef.call (c := g.H) (by exact rfl) (.all _) (lost_tr _ g hg)) ?_
      rintro _ _ ⟨_, ⟨la, ln, lc, lb, rfl, hlo, rfl⟩, rfl⟩
      rw [hgS, show Flt.lostL (wB 3) = [10] by kernel_rfl] at hlo
      have hln : ln = 1 := by have := hlo.len; simp at this; omega
      subst hln
      obtain ⟨lb0, lo0, rfl⟩ := hlo.addr (by omega)
      rw [List.append_nil]
      repeat' (first | refine S1 ?_ | refine SD ?_ | refine SA (fun _ => ?_) | refine WL.g_split rfl rfl (fun hc => ?_) (fun hc => ?_) | refine WD.g_split rfl rfl (fun hc => ?_) (fun hc => ?_) | refine W.cond rfl (fun hc => ?_) (fun hc => ?_))
      refine WL.e rfl (Ef.call (c := g.H) (by exact rfl) (.last (.right .all)) (again_tr _ g hg 10 0 9)) ?_
      rintro _ _ ⟨_, ⟨rfl, g2, hg2, rfl, hR2, hS2⟩, rfl⟩
      rw [hgS, wC_eq]
      dsimp only
      replace hS2 : g2.S = wC := by rw [hS2, hgS, wC_eq]
      rw [← hR2]
      repeat' (first | refine S1 ?_ | refine SD ?_ | refine SA (fun _ => ?_) | refine WL.g_split rfl rfl (fun hc => ?_) (fun hc => ?_) | refine WD.g_split rfl rfl (fun hc => ?_) (fun hc => ?_) | refine W.cond rfl (fun hc => ?_) (fun hc => ?_))
      have gsm2 : g2.small := by
        show sumB _ g2.S.L ≤ _
        rw [hS2, show sumB (fun _ => true) wC.L = 220 by kernel_rfl]
        omega
      refine WL.e rfl (Ef.callR (c := g2.H) (by exact rfl) (.last .here) (out_tr _ g2 hg2 gsm2 0)) ?_
      rintro _ _ ⟨rfl, rfl⟩
      rw [hS2, show Flt.out wC 0 = 100 by kernel_rfl]
      repeat' (first | refine S1 ?_ | refine SD ?_ | refine SA (fun _ => ?_) | refine WL.g_split rfl rfl (fun hc => ?_) (fun hc => ?_) | refine WD.g_split rfl rfl (fun hc => ?_) (fun hc => ?_) | refine W.cond rfl (fun hc => ?_) (fun hc => ?_))
      refine WL.e rfl (Ef.call (c := g2.H) (by exact rfl) (.last .here) (sack_tr _ g2 hg2 gsm2 (by rw [hS2]; exact pathOk_of wC_good) 14 0 (by omega) [] none 0 0 .nil (by simp) (by simp) none 0 0)) ?_
      rintro _ _ ⟨_, hq, rfl⟩
      rw [hS2, wS_eq] at hq
      obtain ⟨rfl, g3, hg3, rfl, hR3, hS3⟩ := hq
      obtain ⟨tt, htt⟩ : ∃ tt, wU = tt := ⟨_, rfl⟩
      have u1 : tt.freed = 220 := by rw [← htt]; kernel_rfl
      have u2 : tt.p0.acked = 100 := by rw [← htt]; kernel_rfl
      have u3 : tt.p0.pseudo = true := by rw [← htt]; kernel_rfl
      have u4 : tt.p0.some_ = false := by rw [← htt]; kernel_rfl
      have u5 : tt.p1.acked = 50 := by rw [← htt]; kernel_rfl
      have hlen3 : g3.sn = 0 := by
        have h1 := hg3.len
        have h2 : g3.S.L.length = g3.rs.length := by simp [FM.S]
        rw [hS3, show wS.L.length = 0 by kernel_rfl] at h2
        omega
      rw [htt, ← hR3]
      unfold tup tldC
      rw [u1, u2, u3, u4, u5]
      have hlcan : Sl.Can F lb lb0 (lo0 + (0 : Int).toNat * 1) [.int .u32 10] := by
        obtain ⟨b1, o1, he, hcc⟩ := (Lst.own (F := F) (H := lb) hlo (fun _ h => h)).can (by omega)
        cases he
        simpa using hcc
      dsimp only
      rw [List.append_nil]
      have hia0 : 0 ≤ (0 : Int) ∧ (0 : Int) < (1 : Nat) := by decide
      repeat' (first | refine S1 ?_ | refine SD ?_ | refine SA (fun _ => ?_) | refine WL.g_split rfl rfl (fun hc => ?_) (fun hc => ?_) | refine WD.g_split rfl rfl (fun hc => ?_) (fun hc => ?_) | refine W.cond rfl (fun hc => ?_) (fun hc => ?_))
      refine WL.s rfl (Rd.ldC rfl (hlcan.mono (fun _ h => h.sublist findA))) ?_
      repeat' (first | refine S1 ?_ | refine SD ?_ | refine SA (fun _ => ?_) | refine WL.g_split rfl rfl (fun hc => ?_) (fun hc => ?_) | refine WD.g_split rfl rfl (fun hc => ?_) (fun hc => ?_) | refine W.cond rfl (fun hc => ?_) (fun hc => ?_))
      refine WL.p rfl (Pu.iaA rfl rfl (by decide)) ?_
      repeat' (first | refine S1 ?_ | refine SD ?_ | refine SA (fun _ => ?_) | refine WL.g_split rfl rfl (fun hc => ?_) (fun hc => ?_) | refine WD.g_split rfl rfl (fun hc => ?_) (fun hc => ?_) | refine W.cond rfl (fun hc => ?_) (fun hc => ?_))
      refine WL.p rfl (Pu.iaA rfl rfl (by decide)) ?_
      repeat' (first | refine S1 ?_ | refine SD ?_ | refine SA (fun _ => ?_) | refine WL.g_split rfl rfl (fun hc => ?_) (fun hc => ?_) | refine WD.g_split rfl rfl (fun hc => ?_) (fun hc => ?_) | refine W.cond rfl (fun hc => ?_) (fun hc => ?_))
      refine WL.p rfl (Pu.iaA rfl rfl (by decide)) ?_
      repeat' (first | refine S1 ?_ | refine SD ?_ | refine SA (fun _ => ?_) | refine WL.g_split rfl rfl (fun hc => ?_) (fun hc => ?_) | refine WD.g_split rfl rfl (fun hc => ?_) (fun hc => ?_) | refine W.cond rfl (fun hc => ?_) (fun hc => ?_))
      refine WL.p rfl (Pu.iaA rfl rfl (by decide)) ?_
      repeat' (first | refine S1 ?_ | refine SD ?_ | refine SA (fun _ => ?_) | refine WL.g_split rfl rfl (fun hc => ?_) (fun hc => ?_) | refine WD.g_split rfl rfl (fun hc => ?_) (fun hc => ?_) | refine W.cond rfl (fun hc => ?_) (fun hc => ?_))
      refine WL.e rfl (Ef.callR (c := g3.H) (by exact rfl) (.last (.there .here)) (count_tr _ g3)) ?_
      rintro _ _ ⟨rfl, rfl⟩
      rw [hlen3]
      repeat' (first | refine S1 ?_ | refine SD ?_ | refine SA (fun _ => ?_) | refine WL.g_split rfl rfl (fun hc => ?_) (fun hc => ?_) | refine WD.g_split rfl rfl (fun hc => ?_) (fun hc => ?_) | refine W.cond rfl (fun hc => ?_) (fun hc => ?_))
      exact Fin.retW (by exact rfl) resA (H' := []) (fun _ h => h.sublist (List.nil_sublist _)) ⟨rfl, rfl⟩
end Go.Proofs.Ytglobldnockdoaa
