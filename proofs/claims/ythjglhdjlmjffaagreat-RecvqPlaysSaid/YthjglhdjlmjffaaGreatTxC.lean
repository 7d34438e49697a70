/- The document's map of TSNs: Report, walked. Conditions: it is well formed. -/
import Derived.Test.YthjglhdjlmjffaaGreatTxB
namespace Go.Proofs.YthjglhdjlmjffaaGreat
open Go Go.Sl Go.Spn

structure XgG where
  i : Nat
  va : Option Addr
  vn : Nat
  vc : Nat
  vb : HL
structure XRepQ (x x' : XM) (G : List (Nat × Nat)) (D : List Int) (ga : Option Addr) (gn gc : Nat) (gb : HL) (ra : Option Addr) (rn rc : Nat) (rb : HL) : Prop where
  ok : x'.ok
  R : x'.R = x.R
  S : x'.S = x.S
  ds : x'.ds = []
  g : OwnS 92 2 (G.flatMap gCells) (.slice ga gn gc) gb
  d : OwnS 24 1 (D.map (Value.int .u32)) (.slice ra rn rc) rb
set_option maxRecDepth 40000 in
set_option maxHeartbeats 16000000 in
theorem xreport_tr (F : Nat → Option Obj) (x : XM) (hx : x.ok) (gs dups : Int) : Tr Tryz.prog 69 [.pointer (some ⟨x.R, 0, none⟩), .int .i64 gs, .int .i64 dups].toArray F x.H
    (fun v H => ∃ x' ga gn gc gb ra rn rc rb, v = .agg (sackV x.b 0 ga gn gc ra rn rc).toArray ∧ XRepQ x x' (Spn.gaps x.S gs) (x.ds.take (dupN dups x.ds.length)) ga gn gc gb ra rn rc rb ∧ H = x'.H ++ (gb ++ rb)) := by
  refine Tr.enter Tryz.func69 rfl Tryz.ntmps69 rfl (fun w0 => ?_)
  have hlen := hx.len
  have hfew := hx.few
  have hsl := sl_get hx.bits (.int .u32 x.b) (.slice x.da x.dn x.dc)
  unfold XM.H XB
  repeat' (first | refine S1 ?_ | refine SD ?_ | refine SA (fun _ => ?_) | refine WL.g_split rfl rfl (fun hc => ?_) (fun hc => ?_) | refine WD.g_split rfl rfl (fun hc => ?_) (fun hc => ?_) | refine W.cond rfl (fun hc => ?_) (fun hc => ?_))
  rename_i b6 b7
  refine W.loop (G := XgG) (fun g => [(0, .pointer (some ⟨x.R, 0, none⟩)), (1, .int .i64 gs), (2, .int .i64 dups), (6, .pointer (some ⟨b6, 0, none⟩)), (7, .pointer (some ⟨b7, 0, none⟩)), (8, .int .i64 g.i)])
    (fun g => (b7, .cells [.int .u32 x.b, .int .u32 0, .slice g.va g.vn g.vc, .slice none 0 0].toArray 43 (0, 0)) :: (b6, .cells [.int .u32 0, .int .u32 0, .slice none 0 0, .slice none 0 0].toArray 43 (0, 0)) :: (x.R, .cells (.int .u32 x.b :: (x.cs ++ [.slice x.da x.dn x.dc])).toArray 114 (0, 0)) :: (x.db ++ g.vb))
    (fun g => (1 ≤ g.i ∧ g.i ≤ 4097) ∧ (before (gapsU x.S) g.i).length ≤ gs.toNat ∧ OwnS 92 2 ((before (gapsU x.S) g.i).flatMap gCells) (.slice g.va g.vn g.vc) g.vb) (fun g => 4097 - g.i)
    ⟨1, none, 0, 0, []⟩ ⟨⟨Nat.le_refl _, by dsimp only; omega⟩, by dsimp only; rw [before_one hx.S]; exact Nat.zero_le _, by dsimp only; rw [before_one hx.S]; exact .inl ⟨rfl, rfl, rfl⟩⟩ envA (fun _ h => by rw [List.append_nil]; exact h) ?_
  rintro ⟨i, va, vn, vc, vb⟩ ⟨hi, hl, hv⟩
  try dsimp only at hi hl hv ⊢
  have hvn : (before (gapsU x.S) i).length = vn := by have := hv.len; rw [flat_len' gCells 2 (fun _ => rfl)] at this; omega
  have hbl := before_len hx.S i
  repeat' (first | refine S1 ?_ | refine SD ?_ | refine SA (fun _ => ?_) | refine WL.g_split rfl rfl (fun hc => ?_) (fun hc => ?_) | refine WD.g_split rfl rfl (fun hc => ?_) (fun hc => ?_) | refine W.cond rfl (fun hc => ?_) (fun hc => ?_))
  · have hi' : i ≤ 4096 := by have := of_decide_eq_true (by assumption : decide ((i : Int) ≤ 4096) = true); omega
    have hvm : (vn : Int) < gs := of_decide_eq_true hc
    refine WL.p rfl (Pu.iaA rfl rfl (by omega)) ?_
    have hcell := bit_get hx.bits (.int .u32 x.b) (.slice x.da x.dn x.dc) (k := i) (by omega)
    repeat' (first | refine S1 ?_ | refine SD ?_ | refine SA (fun _ => ?_) | refine WL.g_split rfl rfl (fun hc => ?_) (fun hc => ?_) | refine WD.g_split rfl rfl (fun hc => ?_) (fun hc => ?_) | refine W.cond rfl (fun hc => ?_) (fun hc => ?_))
    · have hbit : x.S.p i = false := by simpa [XM.S] using hc
      have hno : ∀ g ∈ gapsU x.S, g.1 ≠ i := fun g hg he => by
        have := ((gap_start hx.S hi.1).1 ⟨g, hg, he⟩).1
        rw [hbit] at this; cases this
      rw [i64_succ (by omega)]
      refine Fin.round ⟨i + 1, va, vn, vc, vb⟩ ⟨by dsimp only; omega, ?_, ?_⟩ envA (fun _ h => h) (by dsimp only; omega)
      · dsimp only; rw [before_no hno]; exact hl
      · dsimp only; rw [before_no hno]; exact hv
    · have hS1 : x.S.p i = true := by have := (by assumption : (!bitAt x.cs i) = false); simpa [XM.S] using this
      rw [show IntKind.i64.wrap ((i : Int) - 1) = ((i - 1 : Nat) : Int) by rw [i64_id (by omega) (by omega)]; omega]
      refine WL.p rfl (Pu.iaA rfl rfl (by omega)) ?_
      have hcell1 := bit_get hx.bits (.int .u32 x.b) (.slice x.da x.dn x.dc) (k := i - 1) (by omega)
      repeat' (first | refine S1 ?_ | refine SD ?_ | refine SA (fun _ => ?_) | refine WL.g_split rfl rfl (fun hc => ?_) (fun hc => ?_) | refine WD.g_split rfl rfl (fun hc => ?_) (fun hc => ?_) | refine W.cond rfl (fun hc => ?_) (fun hc => ?_))
      · have hno : ∀ g ∈ gapsU x.S, g.1 ≠ i := fun g hg he => by
          have := ((gap_start hx.S hi.1).1 ⟨g, hg, he⟩).2
          rw [show x.S.p (i - 1) = true from hc] at this; cases this
        rw [i64_succ (by omega)]
        refine Fin.round ⟨i + 1, va, vn, vc, vb⟩ ⟨by dsimp only; omega, ?_, ?_⟩ envA (fun _ h => h) (by dsimp only; omega)
        · dsimp only; rw [before_no hno]; exact hl
        · dsimp only; rw [before_no hno]; exact hv
      · have hS2 : x.S.p (i - 1) = false := hc
        obtain ⟨g, hg, hgi⟩ := (gap_start hx.S hi.1).2 ⟨hS1, hS2⟩
        have hgr := gap_rng hx.S hg
        refine W.loop (G := Nat) (fun k => [(0, .pointer (some ⟨x.R, 0, none⟩)), (1, .int .i64 gs), (2, .int .i64 dups), (6, .pointer (some ⟨b6, 0, none⟩)), (7, .pointer (some ⟨b7, 0, none⟩)), (8, .int .i64 i), (9, .int .i64 k)]) (fun _ => (b7, .cells [.int .u32 x.b, .int .u32 0, .slice va vn vc, .slice none 0 0].toArray 43 (0, 0)) :: (b6, .cells [.int .u32 0, .int .u32 0, .slice none 0 0, .slice none 0 0].toArray 43 (0, 0)) :: (x.R, .cells (.int .u32 x.b :: (x.cs ++ [.slice x.da x.dn x.dc])).toArray 114 (0, 0)) :: (x.db ++ vb)) (fun k => i ≤ k ∧ k ≤ g.2) (fun k => g.2 - k) i ⟨Nat.le_refl _, by omega⟩ envA (fun _ h => h) ?_
        intro k hk
        try dsimp only at hk ⊢
        have hgo := run_go hx.S hg (k := k) (by omega) hk.2
        have e1 : IntKind.u16.wrap (i : Int) = i := u16_id (by omega)
        have e2 : IntKind.u16.wrap (k : Int) = k := u16_id (by omega)
        repeat' (first | refine S1 ?_ | refine SD ?_ | refine SA (fun _ => ?_) | refine WL.g_split rfl rfl (fun hc => ?_) (fun hc => ?_) | refine WD.g_split rfl rfl (fun hc => ?_) (fun hc => ?_) | refine W.cond rfl (fun hc => ?_) (fun hc => ?_))
        · have hk4 : k < 4096 := by have := of_decide_eq_true hc; omega
          rw [i64_succ (by omega)]
          refine WL.p rfl (Pu.iaA rfl rfl (by omega)) ?_
          have hcell2 := bit_get hx.bits (.int .u32 x.b) (.slice x.da x.dn x.dc) (k := k + 1) (by omega)
          repeat' (first | refine S1 ?_ | refine SD ?_ | refine SA (fun _ => ?_) | refine WL.g_split rfl rfl (fun hc => ?_) (fun hc => ?_) | refine WD.g_split rfl rfl (fun hc => ?_) (fun hc => ?_) | refine W.cond rfl (fun hc => ?_) (fun hc => ?_))
          · rw [i64_succ (by omega)]
            have := hgo.2 ⟨hk4, hc⟩
            exact Fin.round (k + 1) ⟨by omega, by omega⟩ envA (fun _ h => h) (by omega)
          · have hkn : k = g.2 := by
              rcases Nat.lt_or_ge k g.2 with h | h
              · have := (hgo.1 h).2
                rw [show x.S.p (k + 1) = false from hc] at this
                cases this
              · omega
            rw [e1, e2]
            rename_i b66
            refine WL.e rfl (Ef.app (m := 1) (news := gCells (i, k)) (by exact rfl) (by exact rfl) rfl rfl hv (.last (.there (.there (.there (.there (.right .all)))))) (Src.own (n := 2) (.here rfl)) rfl (by simp [gCells, Value.oneCell']) (by rw [flat_len' gCells 2 (fun _ => rfl)]; simp [gCells]; omega) (by rw [flat_len' gCells 2 (fun _ => rfl)]; simp [gCells, maxLen]; omega)) ?_
            rintro v' _ ⟨vb', hv', rfl⟩
            obtain ⟨va', vn', vc', rfl, _, _⟩ := OwnS.shape hv'
            repeat' (first | refine S1 ?_ | refine SD ?_ | refine SA (fun _ => ?_) | refine WL.g_split rfl rfl (fun hc => ?_) (fun hc => ?_) | refine WD.g_split rfl rfl (fun hc => ?_) (fun hc => ?_) | refine W.cond rfl (fun hc => ?_) (fun hc => ?_))
            rw [i64_succ (by omega)]
            have hyes := before_yes (gapsU x.S) g (gapsU_good x.S).1 (gapsU_good x.S).2.1 hg
            rw [hgi] at hyes
            refine Fin.round ⟨i + 1, va', vn', vc', vb'⟩ ⟨by dsimp only; omega, ?_, ?_⟩ envA (fun _ h => In.of_sub (.pick (.right (.there .here)) (.pick (.right (.there .here)) (.pick (.right (.there .here)) (.pickL (L := x.db) (.right (.there .here)) (.last (L := vb') .here))))) h) (by dsimp only; omega)
            · dsimp only; rw [hyes, List.length_append, List.length_singleton]; omega
            · dsimp only
              rw [hyes, List.flatMap_append, List.flatMap_singleton, show g = (i, k) by rw [← hgi, hkn]]
              exact hv'
        · have hkn : k = g.2 := by
            rcases Nat.lt_or_ge k g.2 with h | h
            · have := (hgo.1 h).1
              have := of_decide_eq_false hc
              omega
            · omega
          rw [e1, e2]
          rename_i b66
          refine WL.e rfl (Ef.app (m := 1) (news := gCells (i, k)) (by exact rfl) (by exact rfl) rfl rfl hv (.last (.there (.there (.there (.there (.right .all)))))) (Src.own (n := 2) (.here rfl)) rfl (by simp [gCells, Value.oneCell']) (by rw [flat_len' gCells 2 (fun _ => rfl)]; simp [gCells]; omega) (by rw [flat_len' gCells 2 (fun _ => rfl)]; simp [gCells, maxLen]; omega)) ?_
          rintro v' _ ⟨vb', hv', rfl⟩
          obtain ⟨va', vn', vc', rfl, _, _⟩ := OwnS.shape hv'
          repeat' (first | refine S1 ?_ | refine SD ?_ | refine SA (fun _ => ?_) | refine WL.g_split rfl rfl (fun hc => ?_) (fun hc => ?_) | refine WD.g_split rfl rfl (fun hc => ?_) (fun hc => ?_) | refine W.cond rfl (fun hc => ?_) (fun hc => ?_))
          rw [i64_succ (by omega)]
          have hyes := before_yes (gapsU x.S) g (gapsU_good x.S).1 (gapsU_good x.S).2.1 hg
          rw [hgi] at hyes
          refine Fin.round ⟨i + 1, va', vn', vc', vb'⟩ ⟨by dsimp only; omega, ?_, ?_⟩ envA (fun _ h => In.of_sub (.pick (.right (.there .here)) (.pick (.right (.there .here)) (.pick (.right (.there .here)) (.pickL (L := x.db) (.right (.there .here)) (.last (L := vb') .here))))) h) (by dsimp only; omega)
          · dsimp only; rw [hyes, List.length_append, List.length_singleton]; omega
          · dsimp only
            rw [hyes, List.flatMap_append, List.flatMap_singleton, show g = (i, k) by rw [← hgi, hkn]]
            exact hv'
  ·
    have hgg : before (gapsU x.S) i = Spn.gaps x.S gs := before_end hx.S (i := i) hl (by
      have := hi.2
      first
        | (have h1 := of_decide_eq_false (by assumption : decide ((i : Int) ≤ 4096) = false); exact .inl (by omega))
        | (have h1 := of_decide_eq_false (by assumption : decide ((vn : Int) < gs) = false); exact .inr (by omega)))
    rw [hgg] at hv
    refine WD.p rfl (Pu.max2 rfl rfl) ?_
    obtain ⟨k, hk⟩ : ∃ k, dupN dups x.ds.length = k := ⟨_, rfl⟩
    have hkl : k ≤ x.dn := by rw [← hk, ← hlen]; exact dupN_le _ _
    have hki : (if (if (x.dn : Int) < dups then (x.dn : Int) else dups) > 0 then (if (x.dn : Int) < dups then (x.dn : Int) else dups) else 0) = (k : Nat) := by
      rw [← hk, hlen]
      unfold dupN
      split <;> split <;> omega
    rw [hki]
    have hdl : Lst F x.db 1 (x.ds.map (Value.int .u32)) x.da x.dn x.dc := Lst.own (F := F) (H := x.db) hx.own (fun _ h => h)
    refine WD.p rfl (Pu.slHi rfl rfl (by have := hdl.cap; omega)) ?_
    rw [Int.toNat_natCast]
    have hdk : Lst F x.db 1 ((x.ds.take k).map (Value.int .u32)) x.da k x.dc := by
      have h2 := hdl
      rw [← int_flat] at h2
      have h3 := Lst.take (cells := fun a : Int => [Value.int .u32 a]) (fun _ => rfl) h2 (by decide) (k := k) (by omega)
      rw [int_flat] at h3
      exact h3
    refine WD.e rfl (Ef.app (m := k) (news := (x.ds.take k).map (Value.int .u32)) (hb := []) (xs := []) (by exact rfl) (by exact rfl) rfl rfl (.inl ⟨rfl, rfl, rfl⟩) (.nil _) ((hdk.mono (fun _ h => h.sublist findA)).src) (by simp; omega) (fun u hu => by obtain ⟨a, _, rfl⟩ := List.mem_map.1 hu; rfl) (by simp; omega) (by simp [maxLen]; omega)) ?_
    rintro v' _ ⟨rb, hr, rfl⟩
    refine ⟨.inl (by kernel_rfl), ?_⟩
    rw [List.nil_append] at hr
    obtain ⟨ra, rn, rc, rfl, _, _⟩ := OwnS.shape hr
    have hput := sl_put hx.bits (.int .u32 x.b) (.slice x.da x.dn x.dc) (.slice none 0 0)
    repeat' (first | refine S1 ?_ | refine SD ?_ | refine SA (fun _ => ?_) | refine WL.g_split rfl rfl (fun hc => ?_) (fun hc => ?_) | refine WD.g_split rfl rfl (fun hc => ?_) (fun hc => ?_) | refine W.cond rfl (fun hc => ?_) (fun hc => ?_))
    refine Fin.retW (by exact rfl) resA (H' := ((x.R, .cells (.int .u32 x.b :: (x.cs ++ [.slice none 0 0])).toArray 114 (0, 0)) :: []) ++ (vb ++ rb)) (fun _ h => In.of_sub (.pick (.right (.there (.there .here))) (.pickL (L := vb) (.right (.there (.there (.right .all)))) (.last (L := rb) .here))) h) ⟨⟨x.R, x.b, x.cs, none, 0, 0, [], []⟩, va, vn, vc, vb, ra, rn, rc, rb, rfl, ⟨⟨hx.bits, hx.base, .inl ⟨rfl, rfl, rfl⟩, Nat.zero_le _⟩, rfl, rfl, rfl, hv, by rw [hk]; exact hr⟩, rfl⟩
  ·
    have hgg : before (gapsU x.S) i = Spn.gaps x.S gs := before_end hx.S (i := i) hl (by
      have := hi.2
      first
        | (have h1 := of_decide_eq_false (by assumption : decide ((i : Int) ≤ 4096) = false); exact .inl (by omega))
        | (have h1 := of_decide_eq_false (by assumption : decide ((vn : Int) < gs) = false); exact .inr (by omega)))
    rw [hgg] at hv
    refine WD.p rfl (Pu.max2 rfl rfl) ?_
    obtain ⟨k, hk⟩ : ∃ k, dupN dups x.ds.length = k := ⟨_, rfl⟩
    have hkl : k ≤ x.dn := by rw [← hk, ← hlen]; exact dupN_le _ _
    have hki : (if (if (x.dn : Int) < dups then (x.dn : Int) else dups) > 0 then (if (x.dn : Int) < dups then (x.dn : Int) else dups) else 0) = (k : Nat) := by
      rw [← hk, hlen]
      unfold dupN
      split <;> split <;> omega
    rw [hki]
    have hdl : Lst F x.db 1 (x.ds.map (Value.int .u32)) x.da x.dn x.dc := Lst.own (F := F) (H := x.db) hx.own (fun _ h => h)
    refine WD.p rfl (Pu.slHi rfl rfl (by have := hdl.cap; omega)) ?_
    rw [Int.toNat_natCast]
    have hdk : Lst F x.db 1 ((x.ds.take k).map (Value.int .u32)) x.da k x.dc := by
      have h2 := hdl
      rw [← int_flat] at h2
      have h3 := Lst.take (cells := fun a : Int => [Value.int .u32 a]) (fun _ => rfl) h2 (by decide) (k := k) (by omega)
      rw [int_flat] at h3
      exact h3
    refine WD.e rfl (Ef.app (m := k) (news := (x.ds.take k).map (Value.int .u32)) (hb := []) (xs := []) (by exact rfl) (by exact rfl) rfl rfl (.inl ⟨rfl, rfl, rfl⟩) (.nil _) ((hdk.mono (fun _ h => h.sublist findA)).src) (by simp; omega) (fun u hu => by obtain ⟨a, _, rfl⟩ := List.mem_map.1 hu; rfl) (by simp; omega) (by simp [maxLen]; omega)) ?_
    rintro v' _ ⟨rb, hr, rfl⟩
    refine ⟨.inl (by kernel_rfl), ?_⟩
    rw [List.nil_append] at hr
    obtain ⟨ra, rn, rc, rfl, _, _⟩ := OwnS.shape hr
    have hput := sl_put hx.bits (.int .u32 x.b) (.slice x.da x.dn x.dc) (.slice none 0 0)
    repeat' (first | refine S1 ?_ | refine SD ?_ | refine SA (fun _ => ?_) | refine WL.g_split rfl rfl (fun hc => ?_) (fun hc => ?_) | refine WD.g_split rfl rfl (fun hc => ?_) (fun hc => ?_) | refine W.cond rfl (fun hc => ?_) (fun hc => ?_))
    refine Fin.retW (by exact rfl) resA (H' := ((x.R, .cells (.int .u32 x.b :: (x.cs ++ [.slice none 0 0])).toArray 114 (0, 0)) :: []) ++ (vb ++ rb)) (fun _ h => In.of_sub (.pick (.right (.there (.there .here))) (.pickL (L := vb) (.right (.there (.there (.right .all)))) (.last (L := rb) .here))) h) ⟨⟨x.R, x.b, x.cs, none, 0, 0, [], []⟩, va, vn, vc, vb, ra, rn, rc, rb, rfl, ⟨⟨hx.bits, hx.base, .inl ⟨rfl, rfl, rfl⟩, Nat.zero_le _⟩, rfl, rfl, rfl, hv, by rw [hk]; exact hr⟩, rfl⟩
end Go.Proofs.YthjglhdjlmjffaaGreat
