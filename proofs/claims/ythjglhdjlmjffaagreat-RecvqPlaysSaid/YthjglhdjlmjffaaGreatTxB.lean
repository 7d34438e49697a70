/- The document's map of TSNs: Take, Forward, Holes and Report, walked: they answer as the plain functions do. Conditions: it is well formed; TSNs are 32 bits wide. -/
import Derived.Test.YthjglhdjlmjffaaGreatTxA
namespace Go.Proofs.YthjglhdjlmjffaaGreat
open Go Go.Sl Go.Spn

set_option maxRecDepth 20000 in
set_option maxHeartbeats 4000000 in
theorem xtake_tr (F : Nat → Option Obj) (x : XM) (hx : x.ok) (y : Int) (hy : 0 ≤ y ∧ y < 4294967296) : Tr Tryz.prog 62 [.pointer (some ⟨x.R, 0, none⟩), .int .u32 y].toArray F x.H (fun v H => v = .int .i64 (Spn.look x.S y) ∧ ∃ x' : XM, x'.ok ∧ H = x'.H ∧ x'.R = x.R ∧ x'.S = takeS x.S y ∧ x'.ds = takeD x.S x.ds y) := by
  refine Tr.enter Tryz.func62 rfl Tryz.ntmps62 rfl (fun w0 => ?_)
  have hlen := hx.len
  have hfew := hx.few
  have hf : IntKind.u32.wrap (y - x.b) = ((far x.b y : Nat) : Int) := (far_int _ _).symm
  repeat' (first | refine S1 ?_ | refine SD ?_ | refine SA (fun _ => ?_) | refine WL.g_split rfl rfl (fun hc => ?_) (fun hc => ?_) | refine WD.g_split rfl rfl (fun hc => ?_) (fun hc => ?_) | refine W.cond rfl (fun hc => ?_) (fun hc => ?_))
  refine WL.e rfl (Ef.callR (by exact rfl) (.all _) (xlook_tr _ x hx y hy)) ?_
  rintro _ _ ⟨rfl, rfl⟩
  unfold XM.H XB
  obtain ⟨k, hk⟩ : ∃ k, Spn.look x.S y = k := ⟨_, rfl⟩
  rw [hk]
  have hsl := sl_get hx.bits (.int .u32 x.b) (.slice x.da x.dn x.dc)
  repeat' (first | refine S1 ?_ | refine SD ?_ | refine SA (fun _ => ?_) | refine WL.g_split rfl rfl (fun hc => ?_) (fun hc => ?_) | refine WD.g_split rfl rfl (fun hc => ?_) (fun hc => ?_) | refine W.cond rfl (fun hc => ?_) (fun hc => ?_))
  · have h0 : k = 0 := by simpa using hc
    subst h0
    obtain ⟨hw, hp⟩ := look_new.1 hk
    have hadd : Spn.add x.S y = ⟨x.b, fun d => decide (d = far x.b y) || bitAt x.cs d⟩ := by
      unfold Spn.add
      rw [if_pos hw]
      rfl
    have hds : takeD x.S x.ds y = x.ds := by unfold takeD; rw [hk]; rfl
    have hts : takeS x.S y = Spn.settle (Spn.add x.S y) := by unfold takeS; rw [hk]; rfl
    have haok := add_ok hx.S y
    rw [show far x.S.b y = far x.b y from rfl] at hw hp
    generalize far x.b y = d at *
    have hd := inW_iff.1 hw
    rw [hf]
    refine WD.p rfl (Pu.iaA rfl rfl (by omega)) ?_
    have hput := bit_put hx.bits (.int .u32 x.b) (.slice x.da x.dn x.dc) true (k := d) (by omega)
    have hb1 := bits_set hx.bits true hd
    have hbs : ∀ e, bitAt (x.cs.set d (.bool true)) e = (decide (e = d) || bitAt x.cs e) := fun e => by
      rw [bit_set hx.bits true (by omega)]
      by_cases he : e = d <;> simp [he]
    generalize x.cs.set d (.bool true) = cs1 at hput hb1 hbs
    have hS1 : (⟨x.b, bitAt cs1⟩ : Spn.S) = Spn.add x.S y := by rw [hadd]; exact S.ext rfl hbs
    have hcell1 : (Value.int .u32 x.b :: (cs1 ++ [.slice x.da x.dn x.dc]))[0 + 1 + (1 : Int).toNat * 1]? = some (.bool (bitAt cs1 1)) := bit_get hb1 (.int .u32 x.b) (.slice x.da x.dn x.dc) (k := 1) (by omega)
    have hp1 : bitAt cs1 1 = (Spn.add x.S y).p 1 := by rw [← hS1]
    repeat' (first | refine S1 ?_ | refine SD ?_ | refine SA (fun _ => ?_) | refine WL.g_split rfl rfl (fun hc => ?_) (fun hc => ?_) | refine WD.g_split rfl rfl (fun hc => ?_) (fun hc => ?_) | refine W.cond rfl (fun hc => ?_) (fun hc => ?_))
    refine WL.p rfl (Pu.iaA rfl rfl (by decide)) ?_
    repeat' (first | refine S1 ?_ | refine SD ?_ | refine SA (fun _ => ?_) | refine WL.g_split rfl rfl (fun hc => ?_) (fun hc => ?_) | refine WD.g_split rfl rfl (fun hc => ?_) (fun hc => ?_) | refine W.cond rfl (fun hc => ?_) (fun hc => ?_))
    · rw [hp1] at hc
      refine WL.e rfl (Ef.call (c := XB x.R x.b cs1 (.slice x.da x.dn x.dc)) (by exact rfl) (.one _ _) (xon_tr _ x.R x.b hx.base cs1 hb1 (.slice x.da x.dn x.dc) 1 (by decide))) ?_
      rintro _ _ ⟨_, ⟨b2, cs2, hb2, rfl, hS2⟩, rfl⟩
      rw [hS1, goN_one haok hc] at hS2
      repeat' (first | refine S1 ?_ | refine SD ?_ | refine SA (fun _ => ?_) | refine WL.g_split rfl rfl (fun hc => ?_) (fun hc => ?_) | refine WD.g_split rfl rfl (fun hc => ?_) (fun hc => ?_) | refine W.cond rfl (fun hc => ?_) (fun hc => ?_))
      refine Fin.retW (by exact rfl) resA (fun _ h => h) ⟨rfl, ⟨x.R, b2, cs2, x.da, x.dn, x.dc, x.db, x.ds⟩, ⟨hb2, ?_, hx.own, hx.few⟩, rfl, rfl, ?_, ?_⟩
      · have := (settle_ok haok).1
        rw [← hS2] at this
        exact this
      · rw [hts, ← hS2]; rfl
      · exact hds.symm
    · rw [hp1] at hc
      exact Fin.retW (by exact rfl) resA (fun _ h => h) ⟨rfl, ⟨x.R, x.b, cs1, x.da, x.dn, x.dc, x.db, x.ds⟩, ⟨hb1, hx.base, hx.own, hx.few⟩, rfl, rfl, by rw [hts, settle_none haok hc, ← hS1]; rfl, hds.symm⟩
  · have h1 : k = 1 := by have := (by assumption : (k == 1) = true); simpa using this
    have h64 : x.ds.length < 64 := by have := of_decide_eq_true hc; omega
    rename_i b46
    refine WL.e rfl (Ef.app (m := 1) (news := [.int .u32 y]) (by exact rfl) (by exact rfl) rfl rfl hx.own (.last (.there (.there .all))) (Src.own (n := 1) (.here rfl)) rfl (by simp [Value.oneCell']) (by simp; omega) (by simp [maxLen]; omega)) ?_
    rintro v' _ ⟨vb', hown', rfl⟩
    obtain ⟨va', vn', vc', rfl, _, _⟩ := OwnS.shape hown'
    have hput := sl_put hx.bits (.int .u32 x.b) (.slice x.da x.dn x.dc) (.slice va' vn' vc')
    repeat' (first | refine S1 ?_ | refine SD ?_ | refine SA (fun _ => ?_) | refine WL.g_split rfl rfl (fun hc => ?_) (fun hc => ?_) | refine WD.g_split rfl rfl (fun hc => ?_) (fun hc => ?_) | refine W.cond rfl (fun hc => ?_) (fun hc => ?_))
    refine Fin.retW (by exact rfl) resA (fun _ h => In.of_sub (.pick (.right (.there .here)) (.last (L := vb') .here)) h) ⟨rfl, ⟨x.R, x.b, x.cs, va', vn', vc', vb', x.ds ++ [y]⟩, ⟨hx.bits, hx.base, by dsimp only; rw [List.map_append]; exact hown', by dsimp only; simp; omega⟩, rfl, rfl, ?_, ?_⟩
    · unfold takeS; rw [hk, if_neg (by omega)]; rfl
    · dsimp only; unfold takeD; rw [hk, if_pos ⟨h1, h64⟩]
  all_goals
    refine Fin.retW (by exact rfl) resA (fun _ h => h) ⟨rfl, x, hx, rfl, rfl, ?_, ?_⟩
    · unfold takeS; rw [hk, if_neg (by have := (by assumption : (k == 0) = false); simpa using this)]
    · unfold takeD; rw [hk, if_neg (fun h => ?_)]
      first
        | (have h3 := (by assumption : (k == 1) = false); simp at h3; exact h3 h.1)
        | (have h3 := of_decide_eq_false hc; omega)
set_option maxRecDepth 20000 in
theorem xforward_tr (F : Nat → Option Obj) (x : XM) (hx : x.ok) (y : Int) (hy : 0 ≤ y ∧ y < 4294967296) : Tr Tryz.prog 65 [.pointer (some ⟨x.R, 0, none⟩), .int .u32 y].toArray F x.H (fun v H => v = .bool (inW (far x.b y)) ∧ ∃ x' : XM, x'.ok ∧ H = x'.H ∧ x'.R = x.R ∧ x'.S = Spn.move x.S y ∧ x'.ds = x.ds) := by
  refine Tr.enter Tryz.func65 rfl Tryz.ntmps65 rfl (fun w0 => ?_)
  have hf : IntKind.u32.wrap (y - x.b) = ((far x.b y : Nat) : Int) := (far_int _ _).symm
  unfold XM.H XB
  repeat' (first | refine S1 ?_ | refine SD ?_ | refine SA (fun _ => ?_) | refine WL.g_split rfl rfl (fun hc => ?_) (fun hc => ?_) | refine WD.g_split rfl rfl (fun hc => ?_) (fun hc => ?_) | refine W.cond rfl (fun hc => ?_) (fun hc => ?_))
  rotate_left
  rotate_left
  · have h1 := of_decide_eq_false (by assumption : decide (IntKind.u32.wrap (y - x.b) < 1) = false)
    have h2 := of_decide_eq_false hc
    rw [hf] at h1 h2
    have hw : inW (far x.b y) = true := inW_iff.2 (by omega)
    rw [hf, i64_id (n := ((far x.b y : Nat) : Int)) (by omega) (by omega)]
    refine WL.e rfl (Ef.call (c := XB x.R x.b x.cs (.slice x.da x.dn x.dc)) (by exact rfl) (.one _ _) (xon_tr _ x.R x.b hx.base x.cs hx.bits (.slice x.da x.dn x.dc) (far x.b y) (by omega))) ?_
    rintro _ _ ⟨_, ⟨b2, cs2, hb2, rfl, hS2⟩, rfl⟩
    repeat' (first | refine S1 ?_ | refine SD ?_ | refine SA (fun _ => ?_) | refine WL.g_split rfl rfl (fun hc => ?_) (fun hc => ?_) | refine WD.g_split rfl rfl (fun hc => ?_) (fun hc => ?_) | refine W.cond rfl (fun hc => ?_) (fun hc => ?_))
    have hmv : Spn.move x.S y = Spn.shift x.S (goN x.S (far x.b y)) := by
      have hsb := hx.base
      have e : y = u32 (x.S.b + (far x.b y : Nat)) := by
        show y = u32 (x.b + (far x.b y : Nat))
        rw [far_int]
        simp only [u32_eq]
        omega
      have := move_goN hx.S (k := far x.b y) (by omega)
      rw [← e] at this
      exact this
    refine Fin.retW (by exact rfl) resA (fun _ h => h) ⟨by rw [hw]; rfl, ⟨x.R, b2, cs2, x.da, x.dn, x.dc, x.db, x.ds⟩, ⟨hb2, ?_, hx.own, hx.few⟩, rfl, rfl, ?_, rfl⟩
    · have := (shift_ok hx.S (goN x.S (far x.b y))).1
      rw [show Spn.shift x.S (goN x.S (far x.b y)) = ⟨b2, bitAt cs2⟩ from hS2.symm] at this
      exact this
    · rw [hmv]; exact hS2
  all_goals
    have hw : inW (far x.b y) = false := by
      cases hq : inW (far x.b y) with
      | false => rfl
      | true =>
        have h3 := inW_iff.1 hq
        have h4 := of_decide_eq_true hc
        rw [hf] at h4
        omega
    refine Fin.retW (by exact rfl) resA (fun _ h => h) ⟨by rw [hw]; rfl, x, hx, rfl, rfl, ?_, rfl⟩
    unfold Spn.move
    rw [show far x.S.b y = far x.b y from rfl, hw]
    rfl
set_option maxRecDepth 20000 in
theorem xholes_tr (F : Nat → Option Obj) (x : XM) (hx : x.ok) : Tr Tryz.prog 63 [.pointer (some ⟨x.R, 0, none⟩)].toArray F x.H (fun v H => v = .bool (decide (0 < Spn.count x.S)) ∧ H = x.H) := by
  refine Tr.enter Tryz.func63 rfl Tryz.ntmps63 rfl (fun w0 => ?_)
  obtain ⟨n, hn⟩ : ∃ n, Spn.count x.S = n := ⟨_, rfl⟩
  rw [hn]
  repeat' (first | refine S1 ?_ | refine SD ?_ | refine SA (fun _ => ?_) | refine WL.g_split rfl rfl (fun hc => ?_) (fun hc => ?_) | refine WD.g_split rfl rfl (fun hc => ?_) (fun hc => ?_) | refine W.cond rfl (fun hc => ?_) (fun hc => ?_))
  refine W.loop (G := Nat) (fun i => [(0, .pointer (some ⟨x.R, 0, none⟩)), (3, .int .i64 i)]) (fun _ => x.H) (fun i => (1 ≤ i ∧ i ≤ 4097) ∧ ∀ d, d < i → bitAt x.cs d = false) (fun i => 4097 - i) 1 ⟨by omega, fun d hd => by rw [show d = 0 by omega]; exact hx.bits.2.2.1⟩ envA (fun _ h => h) ?_
  rintro i ⟨hi, hno⟩
  try dsimp only at hi hno ⊢
  unfold XM.H XB
  repeat' (first | refine S1 ?_ | refine SD ?_ | refine SA (fun _ => ?_) | refine WL.g_split rfl rfl (fun hc => ?_) (fun hc => ?_) | refine WD.g_split rfl rfl (fun hc => ?_) (fun hc => ?_) | refine W.cond rfl (fun hc => ?_) (fun hc => ?_))
  · have hi' : i ≤ 4096 := by have := of_decide_eq_true hc; omega
    refine WL.p rfl (Pu.iaA rfl rfl (by omega)) ?_
    have hcell := bit_get hx.bits (.int .u32 x.b) (.slice x.da x.dn x.dc) (k := i) (by omega)
    repeat' (first | refine S1 ?_ | refine SD ?_ | refine SA (fun _ => ?_) | refine WL.g_split rfl rfl (fun hc => ?_) (fun hc => ?_) | refine WD.g_split rfl rfl (fun hc => ?_) (fun hc => ?_) | refine W.cond rfl (fun hc => ?_) (fun hc => ?_))
    · refine Fin.retW (by exact rfl) resA (fun _ h => h) ⟨?_, rfl⟩
      have h1 : i ∈ dist x.S.p := mem_dist.2 ⟨hi', hc⟩
      have h2 : 0 < n := by rw [← hn]; exact List.length_pos_of_mem h1
      rw [decide_eq_true h2]
      rfl
    · rw [i64_succ (by omega)]
      refine Fin.round (i + 1) ⟨by omega, fun d hd => ?_⟩ envA (fun _ h => h) (by omega)
      rcases Nat.lt_or_ge d i with h | h
      · exact hno d h
      · rw [show d = i by omega]; exact hc
  · have hi' : i = 4097 := by have := of_decide_eq_false hc; omega
    refine Fin.retW (by exact rfl) resA (fun _ h => h) ⟨?_, rfl⟩
    have h2 : n = 0 := by
      rw [← hn]
      unfold count
      have : dist x.S.p = [] := by
        unfold dist
        rw [List.filter_eq_nil_iff]
        intro d hd
        have := List.mem_range.1 hd
        show ¬ bitAt x.cs d = true
        rw [hno d (by omega)]
        simp
      rw [this]
      rfl
    rw [h2]
    rfl
end Go.Proofs.YthjglhdjlmjffaaGreat
