/- The document's guesses of numbers and bytes, its words of kinds, and two events compared, walked. Conditions: what is read lies in memory; lengths within bounds. -/
import Derived.Test.YtjcekmiengnglaaGreatDoorStR
import Derived.Test.YtjcekmiengnglaaGreatDoorStE
import Derived.Test.YtjcekmiengnglaaGreatDoorStI
import Derived.Test.YtjcekmiengnglaaGreatDoorBuJ
namespace Go.Proofs.YtjcekmiengnglaaGreatDoor
open Go Go.Sl Go.Scr

theorem u64w (n : Int) : IntKind.u64.wrap n = n % 18446744073709551616 := by unfold IntKind.wrap; simp [IntKind.bits, IntKind.signed]
theorem i64w (n : Int) : IntKind.i64.wrap n = wrap64 n := by unfold IntKind.wrap wrap64; simp [IntKind.bits, IntKind.signed]; omega
theorem u8w (n : Int) : IntKind.u8.wrap n = n % 256 := by unfold IntKind.wrap; simp [IntKind.bits, IntKind.signed]
theorem val_snoc (l : Str) (c : UInt8) : val 0 (l ++ [c]) = 10 * val 0 l + c.toNat % 16 := by rw [val_append]; rfl
theorem byte_eq (c d : UInt8) : ((c.toNat : Int) == (d.toNat : Int)) = decide (c = d) := by
  by_cases h : c = d
  · subst h; simp
  · rw [decide_eq_false h]
    have : c.toNat ≠ d.toNat := fun e => h (UInt8.toNat.inj e)
    simp; omega
def fromZ : Str → Nat
  | [] => 0
  | c :: _ => if c = 45 then 1 else 0
structure VaG where
  i : Nat
set_option maxHeartbeats 8000000 in
theorem value_tr (F : Nat → Option Obj) (H : HL) (s : Str) (hs : s.length ≤ 1000000000000) : Tr Tryz.prog 45 [S s].toArray F H (fun v H' => v = .int .i64 (valZ s) ∧ H' = H) := by
  refine Tr.enter Tryz.func45 rfl Tryz.ntmps45 rfl (fun w0 => ?_)
  unfold S
  obtain ⟨fr, hfr⟩ : ∃ fr : Nat, fr = fromZ s := ⟨_, rfl⟩
  have hfl : fr ≤ s.length ∧ fr ≤ 1 := by
    cases s with
    | nil => unfold fromZ at hfr; subst hfr; exact ⟨Nat.le_refl _, by decide⟩
    | cons c r =>
      unfold fromZ at hfr
      dsimp only at hfr
      split at hfr <;> subst hfr <;> simp
  have hval : valZ s = if fr = 1 then wrap64 (-(val 0 (s.drop fr) : Nat)) else wrap64 ((val 0 (s.drop fr) : Nat) : Int) := by
    cases s with
    | nil => unfold fromZ at hfr; subst hfr; simp [valZ, wrap64, val]
    | cons c r =>
      unfold fromZ at hfr
      dsimp only at hfr
      rw [valZ_cons]
      split at hfr
      · rename_i h; subst hfr; rw [if_pos h, if_pos rfl]; rfl
      · rename_i h; subst hfr; rw [if_neg h, if_neg (by decide)]; rfl
  iterate 15 refine S2b ?_
  refine W.seq ?_
  refine W.cut (G := Unit) (fun _ => [(0, .string (strB s)), (3, .int .u64 0), (4, .int .i64 fr)]) (fun _ => H) (fun _ => True) (fun K' hK _ => ?_) ?_
  · cases s with
    | nil =>
      unfold fromZ at hfr
      dsimp only at hfr
      subst hfr
      repeat' (first | refine S2b ?_ | refine S3 ?_ | refine SA (fun _ => ?_) | refine G1 (fun hc => ?_) (fun hc => ?_) | refine G2 (fun hc => ?_) (fun hc => ?_) | refine G3 (fun hc => ?_) (fun hc => ?_) | refine SL ?_ | fail)
      exact Fin.cut hK () trivial envA (fun _ h => h)
    | cons c r =>
      unfold fromZ at hfr
      dsimp only at hfr
      repeat' (first | refine S2b ?_ | refine S3 ?_ | refine SA (fun _ => ?_) | refine G1 (fun hc => ?_) (fun hc => ?_) | refine G2 (fun hc => ?_) (fun hc => ?_) | refine G3 (fun hc => ?_) (fun hc => ?_) | refine SL ?_ | fail)
      · refine WL.p rfl (Pu.ixStr (m := strB (c :: r)) (b := c) rfl rfl (by decide) (strB_get rfl)) ?_
        repeat' (first | refine S2b ?_ | refine S3 ?_ | refine SA (fun _ => ?_) | refine G1 (fun hc => ?_) (fun hc => ?_) | refine G2 (fun hc => ?_) (fun hc => ?_) | refine G3 (fun hc => ?_) (fun hc => ?_) | refine SL ?_ | fail)
        · rw [show (45 : Int) = ((45 : UInt8).toNat : Int) from rfl, byte_eq] at hc
          rw [if_pos (of_decide_eq_true hc)] at hfr
          subst hfr
          exact Fin.cut hK () trivial envA (fun _ h => h)
        · rw [show (45 : Int) = ((45 : UInt8).toNat : Int) from rfl, byte_eq] at hc
          rw [if_neg (of_decide_eq_false hc)] at hfr
          subst hfr
          exact Fin.cut hK () trivial envA (fun _ h => h)
      · rw [strB_size] at hc
        simp at hc
  rintro ⟨⟩ -
  repeat' (first | refine S2b ?_ | refine S3 ?_ | refine SA (fun _ => ?_) | refine G1 (fun hc => ?_) (fun hc => ?_) | refine G2 (fun hc => ?_) (fun hc => ?_) | refine G3 (fun hc => ?_) (fun hc => ?_) | refine SL ?_ | fail)
  refine W.loop (G := VaG) (fun g => [(0, .string (strB s)), (3, .int .u64 ((val 0 ((s.take g.i).drop fr) % 18446744073709551616 : Nat) : Int)), (4, .int .i64 fr), (5, .int .i64 g.i)]) (fun _ => H) (fun g => fr ≤ g.i ∧ g.i ≤ s.length) (fun g => s.length - g.i) ⟨fr⟩ ⟨Nat.le_refl _, hfl.1⟩ (by
    have e : (s.take fr).drop fr = [] := by simp
    rw [e]
    exact envA) (fun _ h => h) ?_
  rintro ⟨i⟩ ⟨hi1, hi2⟩
  dsimp only at hi1 hi2 ⊢
  repeat' (first | refine S2b ?_ | refine S3 ?_ | refine SA (fun _ => ?_) | refine G1 (fun hc => ?_) (fun hc => ?_) | refine G2 (fun hc => ?_) (fun hc => ?_) | refine G3 (fun hc => ?_) (fun hc => ?_) | refine SL ?_ | fail)
  · rw [strB_size] at hc
    have hi' : i < s.length := by simp at hc; omega
    clear hc
    obtain ⟨c, hc⟩ : ∃ y, s[i]? = some y := ⟨s[i], by simp [hi']⟩
    have hc256 := c.toNat_lt
    refine WL.p rfl (Pu.ixStr (m := strB s) (b := c) rfl rfl (by omega) (by rw [show (i : Int).toNat = i by omega]; exact strB_get hc)) ?_
    repeat' (first | refine S2b ?_ | refine S3 ?_ | refine SA (fun _ => ?_) | refine G1 (fun hc => ?_) (fun hc => ?_) | refine G2 (fun hc => ?_) (fun hc => ?_) | refine G3 (fun hc => ?_) (fun hc => ?_) | refine SL ?_ | fail)
    have e : IntKind.u64.wrap (IntKind.u64.wrap (10 * ((val 0 ((s.take i).drop fr) % 18446744073709551616 : Nat) : Int)) + IntKind.u64.wrap ((c.toNat : Int).tmod 16)) = ((val 0 ((s.take (i + 1)).drop fr) % 18446744073709551616 : Nat) : Int) := by
      rw [List.take_add_one, hc, List.drop_append_of_le_length (by rw [List.length_take]; omega)]
      simp only [Option.toList_some]
      rw [val_snoc, u64w, u64w, u64w, Int.tmod_eq_emod_of_nonneg (by omega)]
      omega
    rw [e, i64_succ (by omega)]
    exact Fin.round ⟨i + 1⟩ ⟨by dsimp only; omega, hi'⟩ envA (fun _ h => h) (by dsimp only; omega)
  · rename_i hc0
    rw [strB_size] at hc0
    have hi' : i = s.length := by simp at hc0; omega
    have hf1 : fr = 1 := by simp at hc; omega
    rw [hi', List.take_of_length_le (Nat.le_refl _)]
    refine Fin.retW (by exact rfl) resA (fun _ h => h) ⟨?_, rfl⟩
    rw [hval, if_pos hf1, u64w, i64w]
    exact congrArg (Value.int .i64) (by unfold wrap64; omega)
  · rename_i hc0
    rw [strB_size] at hc0
    have hi' : i = s.length := by simp at hc0; omega
    have hf1 : ¬ fr = 1 := fun h => by rw [h] at hc; simp at hc
    rw [hi', List.take_of_length_le (Nat.le_refl _)]
    refine Fin.retW (by exact rfl) resA (fun _ h => h) ⟨?_, rfl⟩
    rw [hval, if_neg hf1, i64w]
    exact congrArg (Value.int .i64) (by unfold wrap64; omega)
structure ByG where
  k : Nat
  sa : Option Addr
  sn : Nat
  sc : Nat
  hb : HL
set_option maxHeartbeats 8000000 in
theorem bytesOf_tr (F : Nat → Option Obj) (s : Str) (hs : s.length ≤ 1000000000000) : Tr Tryz.prog 46 [S s].toArray F [] (fun v H' => ∃ sa sn sc, v = .slice sa sn sc ∧ OwnS 5 1 ((unhexs s).map B) (.slice sa sn sc) H') := by
  refine Tr.enter Tryz.func46 rfl Tryz.ntmps46 rfl (fun w0 => ?_)
  unfold S
  repeat' (first | refine S2b ?_ | refine S3 ?_ | refine SA (fun _ => ?_) | refine G1 (fun hc => ?_) (fun hc => ?_) | refine G2 (fun hc => ?_) (fun hc => ?_) | refine G3 (fun hc => ?_) (fun hc => ?_) | refine SL ?_ | fail)
  refine W.loop (G := ByG) (fun g => [(0, .string (strB s)), (3, .slice g.sa g.sn g.sc), (4, .int .i64 ((2 * g.k : Nat) : Int))]) (fun g => g.hb)
    (fun g => 2 * g.k ≤ s.length ∧ OwnS 5 1 ((unhexs (s.take (2 * g.k))).map B) (.slice g.sa g.sn g.sc) g.hb) (fun g => s.length - 2 * g.k) ⟨0, none, 0, 0, []⟩ ⟨by simp, .inl ⟨rfl, rfl, rfl⟩⟩ envA (fun _ h => h) ?_
  rintro ⟨k, sa, sn, sc, hb⟩ ⟨hk, hown⟩
  dsimp only at hk hown ⊢
  have e1 : IntKind.i64.wrap (((2 * k : Nat) : Int) + 1) = ((2 * k + 1 : Nat) : Int) := by rw [i64_id (by omega) (by omega)]; omega
  have e2 : IntKind.i64.wrap (((2 * k : Nat) : Int) + 2) = ((2 * k + 2 : Nat) : Int) := by rw [i64_id (by omega) (by omega)]; omega
  have htl : (s.take (2 * k)).length = 2 * k := by rw [List.length_take]; omega
  have hul := unhexs_len k _ htl
  repeat' (first | refine S2b ?_ | refine S3 ?_ | refine SA (fun _ => ?_) | refine G1 (fun hc => ?_) (fun hc => ?_) | refine G2 (fun hc => ?_) (fun hc => ?_) | refine G3 (fun hc => ?_) (fun hc => ?_) | refine SL ?_ | fail)
  · rw [e1, strB_size] at hc
    have hi' : 2 * k + 1 < s.length := by simp at hc; omega
    clear hc
    refine W.loop (G := VaG) (fun g => [(0, .string (strB s)), (3, .slice sa sn sc), (4, .int .i64 ((2 * k : Nat) : Int)), (5, .int .u8 (pv ((s.take g.i).drop (2 * k)) : Nat)), (6, .int .i64 g.i)]) (fun _ => hb) (fun g => 2 * k ≤ g.i ∧ g.i ≤ 2 * k + 2) (fun g => 2 * k + 2 - g.i) ⟨2 * k⟩ ⟨Nat.le_refl _, by dsimp only; omega⟩ (by
      have e : (s.take (2 * k)).drop (2 * k) = [] := by simp
      rw [e]
      exact envA) (fun _ h => h) ?_
    rintro ⟨i⟩ ⟨hi1, hi2⟩
    dsimp only at hi1 hi2 ⊢
    have hpl := pv_lt ((s.take i).drop (2 * k))
    repeat' (first | refine S2b ?_ | refine S3 ?_ | refine SA (fun _ => ?_) | refine G1 (fun hc => ?_) (fun hc => ?_) | refine G2 (fun hc => ?_) (fun hc => ?_) | refine G3 (fun hc => ?_) (fun hc => ?_) | refine SL ?_ | fail)
    · rw [e2] at hc
      have hi3 : i < 2 * k + 2 := by simp at hc; omega
      clear hc
      obtain ⟨c, hcg⟩ : ∃ y, s[i]? = some y := ⟨s[i]'(by omega), by simp⟩
      have hc256 := c.toNat_lt
      refine WL.p rfl (Pu.ixStr (m := strB s) (b := c) rfl rfl (by omega) (by rw [show (i : Int).toNat = i by omega]; exact strB_get hcg)) ?_
      repeat' (first | refine S2b ?_ | refine S3 ?_ | refine SA (fun _ => ?_) | refine G1 (fun hc => ?_) (fun hc => ?_) | refine G2 (fun hc => ?_) (fun hc => ?_) | refine G3 (fun hc => ?_) (fun hc => ?_) | refine SL ?_ | fail)
      refine WL.p rfl (Pu.ixStr (m := strB s) (b := c) rfl rfl (by omega) (by rw [show (i : Int).toNat = i by omega]; exact strB_get hcg)) ?_
      have hsn : pv ((s.take (i + 1)).drop (2 * k)) = (16 * pv ((s.take i).drop (2 * k)) + unhx c) % 256 := by
        rw [List.take_add_one, hcg, List.drop_append_of_le_length (by rw [List.length_take]; omega)]
        exact pv_snoc _ _
      repeat' (first | refine S2b ?_ | refine S3 ?_ | refine SA (fun _ => ?_) | refine G1 (fun hc => ?_) (fun hc => ?_) | refine G2 (fun hc => ?_) (fun hc => ?_) | refine G3 (fun hc => ?_) (fun hc => ?_) | refine SL ?_ | fail)
      · refine WL.p rfl (Pu.ixStr (m := strB s) (b := c) rfl rfl (by omega) (by rw [show (i : Int).toNat = i by omega]; exact strB_get hcg)) ?_
        repeat' (first | refine S2b ?_ | refine S3 ?_ | refine SA (fun _ => ?_) | refine G1 (fun hc => ?_) (fun hc => ?_) | refine G2 (fun hc => ?_) (fun hc => ?_) | refine G3 (fun hc => ?_) (fun hc => ?_) | refine SL ?_ | fail)
        have h97 : 97 ≤ c.toNat := by simp at hc; omega
        have e : IntKind.u8.wrap (IntKind.u8.wrap (16 * ((pv ((s.take i).drop (2 * k)) : Nat) : Int)) + IntKind.u8.wrap (IntKind.u8.wrap ((c.toNat : Int) - 97) + 10)) = ((pv ((s.take (i + 1)).drop (2 * k)) : Nat) : Int) := by
          rw [hsn, u8w, u8w, u8w, u8w]
          unfold unhx
          rw [if_pos h97]
          omega
        rw [e, i64_succ (by omega)]
        exact Fin.round ⟨i + 1⟩ ⟨by dsimp only; omega, by dsimp only; omega⟩ envA (fun _ h => h) (by dsimp only; omega)
      · have h97 : ¬ 97 ≤ c.toNat := by simp at hc; omega
        have e : IntKind.u8.wrap (IntKind.u8.wrap (16 * ((pv ((s.take i).drop (2 * k)) : Nat) : Int)) + (c.toNat : Int).tmod 16) = ((pv ((s.take (i + 1)).drop (2 * k)) : Nat) : Int) := by
          rw [hsn, u8w, u8w, Int.tmod_eq_emod_of_nonneg (by omega)]
          unfold unhx
          rw [if_neg h97]
          omega
        rw [e, i64_succ (by omega)]
        exact Fin.round ⟨i + 1⟩ ⟨by dsimp only; omega, by dsimp only; omega⟩ envA (fun _ h => h) (by dsimp only; omega)
    · rw [e2] at hc
      have hi3 : i = 2 * k + 2 := by simp at hc; omega
      subst hi3
      obtain ⟨a, ha⟩ : ∃ y, s[2 * k]? = some y := ⟨s[2 * k]'(by omega), by simp⟩
      obtain ⟨b, hb1⟩ : ∃ y, s[2 * k + 1]? = some y := ⟨s[2 * k + 1]'(by omega), by simp⟩
      have ht2 : s.take (2 * k + 2) = s.take (2 * k) ++ [a, b] := by
        rw [show 2 * k + 2 = (2 * k + 1) + 1 by omega, List.take_add_one, List.take_add_one, ha, hb1]
        simp
      have hdr : (s.take (2 * k + 2)).drop (2 * k) = [a, b] := by
        rw [ht2, List.drop_append_of_le_length (by omega), List.drop_of_length_le (by omega)]
        rfl
      rw [hdr] at hpl ⊢
      have hby : ((pv [a, b] : Nat) : Int) = ((UInt8.ofNat (16 * unhx a + unhx b)).toNat : Nat) := by
        rw [pv_two, UInt8.toNat_ofNat']
        omega
      rw [hby]
      refine WL.e rfl (Ef.app (m := 1) (news := [.int .u8 (UInt8.ofNat (16 * unhx a + unhx b)).toNat]) (hb := hb) (by exact rfl) (by exact rfl) rfl rfl hown (.last (.there .all)) (Src.own (n := 1) (.here rfl)) rfl (by simp [Value.oneCell']) (by simp; omega) (by simp [maxLen]; omega)) ?_
      rintro _ _ ⟨hb', hown', rfl⟩
      obtain ⟨sa', sn', sc', rfl, _, _⟩ := hown'.shape
      repeat' (first | refine S2b ?_ | refine S3 ?_ | refine SA (fun _ => ?_) | refine G1 (fun hc => ?_) (fun hc => ?_) | refine G2 (fun hc => ?_) (fun hc => ?_) | refine G3 (fun hc => ?_) (fun hc => ?_) | refine SL ?_ | fail)
      rw [e2, show 2 * k + 2 = 2 * (k + 1) by omega]
      refine Fin.round ⟨k + 1, sa', sn', sc', hb'⟩ ⟨by dsimp only; omega, ?_⟩ envA (fun _ h => h.sublist (List.sublist_append_left _ _)) (by dsimp only; omega)
      dsimp only
      rw [show 2 * (k + 1) = 2 * k + 2 by omega, ht2, unhexs_snoc a b k _ htl, List.map_append]
      exact hown'
  · rw [e1, strB_size] at hc
    have hi' : s.length ≤ 2 * k + 1 := by simp at hc; omega
    refine Fin.retW (by exact rfl) resA (H' := hb) (fun _ h => h) ⟨sa, sn, sc, rfl, ?_⟩
    have e : unhexs s = unhexs (s.take (2 * k)) := by
      conv => lhs; rw [← List.take_append_drop (2 * k) s]
      exact unhexs_end k _ _ htl (by rw [List.length_drop]; omega)
    rw [e]
    exact hown
set_option maxHeartbeats 8000000 in
theorem rword_tr (F : Nat → Option Obj) (H : HL) (k : Int) (hk : 0 ≤ k ∧ k < 256) : Tr Tryz.prog 44 [.int .u8 k].toArray F H (fun v H' => v = S (kword k) ∧ H' = H) := by
  refine Tr.enter Tryz.func44 rfl Tryz.ntmps44 rfl (fun w0 => ?_)
  have e0 : IntKind.i64.wrap k = k := i64_id (by omega) (by omega)
  repeat' (first | refine S2b ?_ | refine S3 ?_ | refine SA (fun _ => ?_) | refine G1 (fun hc => ?_) (fun hc => ?_) | refine G2 (fun hc => ?_) (fun hc => ?_) | refine G3 (fun hc => ?_) (fun hc => ?_) | refine SL ?_ | fail)
  refine WL.e rfl (Ef.bsN (n := 12) (r := kwords.map S) (by exact rfl) (by exact rfl) (by exact rfl) (by exact rfl) rfl (by exact rfl)) ?_
  rintro _ _ ⟨g, rfl, rfl⟩
  by_cases h12 : k < 12
  · obtain ⟨w, hw⟩ : ∃ w, kwords[k.toNat]? = some w := ⟨kwords[k.toNat]'(by simp [kwords]; omega), by simp⟩
    have hkw : kword k = w := by unfold kword; rw [List.getD_eq_getElem?_getD, hw]; rfl
    have hia : 0 ≤ k ∧ k < (12 : Nat) := by omega
    have hC : Sl.Can F ((g, .cells (kwords.map S).toArray 9 (0, 0)) :: H) g (0 + k.toNat * 1) [.string (strB w)] := can_own (.head _) (by rw [Nat.zero_add, Nat.mul_one, List.getElem?_map, hw]; rfl)
    repeat' (first | refine S2b ?_ | refine S3 ?_ | refine SA (fun _ => ?_) | refine G1 (fun hc => ?_) (fun hc => ?_) | refine G2 (fun hc => ?_) (fun hc => ?_) | refine G3 (fun hc => ?_) (fun hc => ?_) | refine SL ?_ | fail)
    · rw [e0] at hc
      exfalso
      simp at hc
      omega
    · refine Fin.retW (by exact rfl) resA (fun _ h => h.sublist (List.sublist_cons_self _ _)) ⟨?_, rfl⟩
      rw [hkw]
      rfl
  · have hkw : kword k = [] := by
      unfold kword
      rw [List.getD_eq_getElem?_getD, List.getElem?_eq_none (by simp [kwords]; omega)]
      rfl
    repeat' (first | refine S2b ?_ | refine S3 ?_ | refine SA (fun _ => ?_) | refine G1 (fun hc => ?_) (fun hc => ?_) | refine G2 (fun hc => ?_) (fun hc => ?_) | refine G3 (fun hc => ?_) (fun hc => ?_) | refine SL ?_ | fail)
    · refine Fin.retW (by exact rfl) resA (fun _ h => h.sublist (List.sublist_cons_self _ _)) ⟨?_, rfl⟩
      rw [hkw]
      rfl
    · rw [e0] at hc
      exfalso
      simp at hc
      omega
theorem evt_bytes {a b : Evt} (h0 : (a.kind == b.kind) = true) (h1 : (a.fin == b.fin) = true) (h2 : (a.act == b.act) = true) (h3 : (a.ord == b.ord) = true) (h4 : (a.str == b.str) = true) (h5 : (a.path == b.path) = true) (h6 : (a.n == b.n) = true) (h7 : (a.life == b.life) = true) : a = b ↔ a.bytes = b.bytes := by
  simp only [beq_iff_eq] at *
  obtain ⟨kind, fin, act, ord, str, path, n, life, bytes⟩ := a
  obtain ⟨kind', fin', act', ord', str', path', n', life', bytes'⟩ := b
  dsimp only at *
  subst h0 h1 h2 h3 h4 h5 h6 h7
  simp
set_option maxHeartbeats 8000000 in
theorem rsame_tr (F : Nat → Option Obj) (x y : Evx) (hx : x.Is F) (hy : y.Is F) :
    Tr Tryz.prog 9 [.agg x.cells.toArray, .agg y.cells.toArray].toArray F [] (fun v H => v = .bool (decide (x.e = y.e)) ∧ H = []) := by
  refine Tr.enter Tryz.func9 rfl Tryz.ntmps9 rfl (fun w0 => ?_)
  unfold Evx.cells
  repeat' (first | refine S2b ?_ | refine S3 ?_ | refine SA (fun _ => ?_) | refine G1 (fun hc => ?_) (fun hc => ?_) | refine G2 (fun hc => ?_) (fun hc => ?_) | refine G3 (fun hc => ?_) (fun hc => ?_) | refine SL ?_ | fail)
  any_goals
    exact Fin.retW (by exact rfl) resA (H' := []) (fun _ h => h.sublist (List.nil_sublist _)) ⟨by
      have hne : ¬ x.e = y.e := fun h => by rw [h] at hc; simp at hc
      rw [decide_eq_false hne]
      rfl, rfl⟩
  refine WL.e rfl (Ef.lookR (by exact rfl) (fun F' hF => eqb_tr F' [] x.e.bytes y.e.bytes _ _ _ _ _ _ (hx.bytes.mono (fun w h => (hF w h).sublist (List.nil_sublist _))) (hy.bytes.mono (fun w h => (hF w h).sublist (List.nil_sublist _))) hx.len)) ?_
  rintro _ _ ⟨rfl, rfl⟩
  repeat' (first | refine S2b ?_ | refine S3 ?_ | refine SA (fun _ => ?_) | refine G1 (fun hc => ?_) (fun hc => ?_) | refine G2 (fun hc => ?_) (fun hc => ?_) | refine G3 (fun hc => ?_) (fun hc => ?_) | refine SL ?_ | fail)
  rename_i h0 h1 h2 h3 h4 h5 h6
  refine Fin.retW (by exact rfl) resA (H' := []) (fun _ h => h.sublist (List.nil_sublist _)) ⟨?_, rfl⟩
  show Value.bool _ = _
  congr 1
  exact decide_eq_decide.2 (evt_bytes h0 h1 h2 h3 h4 h5 h6 hc).symm
end Go.Proofs.YtjcekmiengnglaaGreatDoor
