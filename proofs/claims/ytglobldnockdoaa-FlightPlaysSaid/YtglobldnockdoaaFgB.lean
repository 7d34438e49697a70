/- The document's flight of pieces: Open, Out, Lost, Mark, Abandon, walked: they answer as the plain functions do. Conditions: it is well formed; the bytes are few. -/
import Derived.Test.YtglobldnockdoaaFgA
import Derived.Test.YtglobldnockdoaaFlU
namespace Go.Proofs.Ytglobldnockdoaa
open Go Go.Sl Go.Flt

theorem fr_sum {f : FR} (hs : f.small) (q : Rc → Bool) (i : Nat) : sumB q (f.S.L.take i) ≤ 1000000000000 := by
  have h1 := sumB_take q f.S.L i
  have h2 : sumB q f.S.L ≤ sumB (fun _ => true) f.S.L := sumB_mono (fun _ _ => rfl)
  have h3 : sumB (fun _ => true) f.S.L ≤ 1000000000000 := hs
  omega
theorem fr_r {f : FR} {i : Nat} {m : RrM} (h : f.rs[i]? = some m) : f.S.L[i]? = some m.r := by
  show (f.rs.map (·.r))[i]? = _
  rw [List.getElem?_map, h]
  rfl
theorem fr_bn {f : FR} (hf : f.ok) {i : Nat} {m : RrM} (h : f.rs[i]? = some m) : m.r.bs.length = m.bn := by
  have := OwnS.len (hf.recs m (List.mem_of_getElem? h))
  simpa using this
theorem fr_len {f : FR} (hf : f.ok) : f.S.L.length = f.ln := by
  have := hf.len
  show (f.rs.map (·.r)).length = _
  rw [List.length_map, this]
set_option maxHeartbeats 2000000 in
theorem ropen_tr (F : Nat → Option Obj) (f : FR) (hf : f.ok) (hs : f.small) : Tr Try.prog 31 [.pointer (some ⟨f.R, 0, none⟩)].toArray F f.H (fun v H => v = .int .i64 (Flt.openB f.S) ∧ H = f.H) := by
  refine Tr.enter Try.func31 rfl Try.ntmps31 rfl (fun w0 => ?_)
  have hlen := hf.len
  have hsl := fr_len hf
  have hfew := hf.few
  unfold FR.H FR.hd
  repeat' (first | refine S1 ?_ | refine SD ?_ | refine SA (fun _ => ?_) | refine WL.g_split rfl rfl (fun hc => ?_) (fun hc => ?_) | refine WD.g_split rfl rfl (fun hc => ?_) (fun hc => ?_) | refine W.cond rfl (fun hc => ?_) (fun hc => ?_))
  refine W.loop (G := Nat) (fun i => [(0, .pointer (some ⟨f.R, 0, none⟩)), (3, .int .i64 (sumB unack (f.S.L.take i) : Nat)), (4, .int .i64 i)]) (fun _ => (f.R, .cells [.slice f.la f.ln f.lc, .int .u32 f.c, .int .i64 f.paths].toArray 107 (0, 0)) :: (f.lb ++ f.rs.flatMap (·.bb))) (fun i => i ≤ f.ln) (fun i => f.ln - i) 0 (Nat.zero_le _) envA (fun _ h => h) ?_
  intro i hi
  repeat' (first | refine S1 ?_ | refine SD ?_ | refine SA (fun _ => ?_) | refine WL.g_split rfl rfl (fun hc => ?_) (fun hc => ?_) | refine WD.g_split rfl rfl (fun hc => ?_) (fun hc => ?_) | refine W.cond rfl (fun hc => ?_) (fun hc => ?_))
  rotate_right
  · have hin : i = f.ln := by have := of_decide_eq_false (p := (i : Int) < (f.ln : Int)) (by assumption); omega
    rw [List.take_of_length_le (by omega)]
    exact Fin.retW (by exact rfl) resA (fun _ h => h) ⟨rfl, rfl⟩
  have hi' : i < f.ln := by have := of_decide_eq_true (p := (i : Int) < (f.ln : Int)) (by assumption); omega
  obtain ⟨m, hm⟩ : ∃ m, f.rs[i]? = some m := ⟨f.rs[i]'(by omega), by simp⟩
  obtain ⟨lb, lo, hla, hcan⟩ := fr_el (F := F) hf hm
  have hmr := fr_r hm
  have hbn := fr_bn hf hm
  have hia : 0 ≤ (i : Int) ∧ (i : Int) < f.ln := by omega
  unfold FR.H FR.hd at hcan
  have c6 : Sl.Can F ((f.R, .cells [.slice f.la f.ln f.lc, .int .u32 f.c, .int .i64 f.paths].toArray 107 (0, 0)) :: (f.lb ++ f.rs.flatMap (·.bb))) lb (lo + (i : Int).toNat * 15 + 0 + 6) [.slice m.ba m.bn m.bc] := hcan.one (i := 6) rfl
  have c0 : Sl.Can F ((f.R, .cells [.slice f.la f.ln f.lc, .int .u32 f.c, .int .i64 f.paths].toArray 107 (0, 0)) :: (f.lb ++ f.rs.flatMap (·.bb))) lb (lo + (i : Int).toNat * 15 + 0 + 0) [.int .u32 m.r.tsn] := hcan.one (i := 0) rfl
  have c7 : Sl.Can F ((f.R, .cells [.slice f.la f.ln f.lc, .int .u32 f.c, .int .i64 f.paths].toArray 107 (0, 0)) :: (f.lb ++ f.rs.flatMap (·.bb))) lb (lo + (i : Int).toNat * 15 + 7) [.int .i64 m.r.path] := hcan.one (i := 7) rfl
  have c9 : Sl.Can F ((f.R, .cells [.slice f.la f.ln f.lc, .int .u32 f.c, .int .i64 f.paths].toArray 107 (0, 0)) :: (f.lb ++ f.rs.flatMap (·.bb))) lb (lo + (i : Int).toNat * 15 + 9) [.int .i64 m.r.id] := hcan.one (i := 9) rfl
  have c11 : Sl.Can F ((f.R, .cells [.slice f.la f.ln f.lc, .int .u32 f.c, .int .i64 f.paths].toArray 107 (0, 0)) :: (f.lb ++ f.rs.flatMap (·.bb))) lb (lo + (i : Int).toNat * 15 + 11) [.bool m.r.acked] := hcan.one (i := 11) rfl
  have c12 : Sl.Can F ((f.R, .cells [.slice f.la f.ln f.lc, .int .u32 f.c, .int .i64 f.paths].toArray 107 (0, 0)) :: (f.lb ++ f.rs.flatMap (·.bb))) lb (lo + (i : Int).toNat * 15 + 12) [.bool m.r.lost] := hcan.one (i := 12) rfl
  have c13 : Sl.Can F ((f.R, .cells [.slice f.la f.ln f.lc, .int .u32 f.c, .int .i64 f.paths].toArray 107 (0, 0)) :: (f.lb ++ f.rs.flatMap (·.bb))) lb (lo + (i : Int).toNat * 15 + 13) [.bool m.r.gone] := hcan.one (i := 13) rfl
  rw [hla] at c0 c6 c7 c9 c11 c12 c13 hcan ⊢
  have hsn := sumB_snoc unack hmr
  have hsm := fr_sum hs unack (i + 1)
  unfold unack at hsn
  repeat' (first | refine S1 ?_ | refine SD ?_ | refine SA (fun _ => ?_) | refine WL.g_split rfl rfl (fun hc => ?_) (fun hc => ?_) | refine WD.g_split rfl rfl (fun hc => ?_) (fun hc => ?_) | refine W.cond rfl (fun hc => ?_) (fun hc => ?_))
  · rw [if_pos hc] at hsn
    rw [i64_succ (by omega), show IntKind.i64.wrap ((sumB unack (f.S.L.take i) : Nat) + (m.bn : Int)) = ((sumB unack (f.S.L.take (i + 1)) : Nat) : Int) by unfold unack at hsm ⊢; rw [i64_id (by omega) (by omega)]; omega]
    exact Fin.round (i + 1) hi' envA (fun _ h => h) (by omega)
  · rw [if_neg (by rw [hc]; decide), Nat.add_zero] at hsn
    rw [i64_succ (by omega)]
    exact Fin.round (i + 1) hi' (by unfold unack; rw [hsn]; exact envA) (fun _ h => h) (by omega)
set_option maxHeartbeats 2000000 in
theorem rout_tr (F : Nat → Option Obj) (f : FR) (hf : f.ok) (hs : f.small) (p : Int) : Tr Try.prog 34 [.pointer (some ⟨f.R, 0, none⟩), .int .i64 p].toArray F f.H (fun v H => v = .int .i64 (Flt.out f.S p) ∧ H = f.H) := by
  refine Tr.enter Try.func34 rfl Try.ntmps34 rfl (fun w0 => ?_)
  have hlen := hf.len
  have hsl := fr_len hf
  have hfew := hf.few
  unfold FR.H FR.hd
  repeat' (first | refine S1 ?_ | refine SD ?_ | refine SA (fun _ => ?_) | refine WL.g_split rfl rfl (fun hc => ?_) (fun hc => ?_) | refine WD.g_split rfl rfl (fun hc => ?_) (fun hc => ?_) | refine W.cond rfl (fun hc => ?_) (fun hc => ?_))
  refine W.loop (G := Nat) (fun i => [(0, .pointer (some ⟨f.R, 0, none⟩)), (1, .int .i64 p), (5, .int .i64 (sumB (byP p) (f.S.L.take i) : Nat)), (6, .int .i64 i)]) (fun _ => (f.R, .cells [.slice f.la f.ln f.lc, .int .u32 f.c, .int .i64 f.paths].toArray 107 (0, 0)) :: (f.lb ++ f.rs.flatMap (·.bb))) (fun i => i ≤ f.ln) (fun i => f.ln - i) 0 (Nat.zero_le _) envA (fun _ h => h) ?_
  intro i hi
  repeat' (first | refine S1 ?_ | refine SD ?_ | refine SA (fun _ => ?_) | refine WL.g_split rfl rfl (fun hc => ?_) (fun hc => ?_) | refine WD.g_split rfl rfl (fun hc => ?_) (fun hc => ?_) | refine W.cond rfl (fun hc => ?_) (fun hc => ?_))
  rotate_right
  · have hin : i = f.ln := by have := of_decide_eq_false (p := (i : Int) < (f.ln : Int)) (by assumption); omega
    rw [List.take_of_length_le (by omega)]
    exact Fin.retW (by exact rfl) resA (fun _ h => h) ⟨rfl, rfl⟩
  have hi' : i < f.ln := by have := of_decide_eq_true (p := (i : Int) < (f.ln : Int)) (by assumption); omega
  obtain ⟨m, hm⟩ : ∃ m, f.rs[i]? = some m := ⟨f.rs[i]'(by omega), by simp⟩
  obtain ⟨lb, lo, hla, hcan⟩ := fr_el (F := F) hf hm
  have hmr := fr_r hm
  have hbn := fr_bn hf hm
  have hia : 0 ≤ (i : Int) ∧ (i : Int) < f.ln := by omega
  unfold FR.H FR.hd at hcan
  have c6 : Sl.Can F ((f.R, .cells [.slice f.la f.ln f.lc, .int .u32 f.c, .int .i64 f.paths].toArray 107 (0, 0)) :: (f.lb ++ f.rs.flatMap (·.bb))) lb (lo + (i : Int).toNat * 15 + 0 + 6) [.slice m.ba m.bn m.bc] := hcan.one (i := 6) rfl
  have c0 : Sl.Can F ((f.R, .cells [.slice f.la f.ln f.lc, .int .u32 f.c, .int .i64 f.paths].toArray 107 (0, 0)) :: (f.lb ++ f.rs.flatMap (·.bb))) lb (lo + (i : Int).toNat * 15 + 0 + 0) [.int .u32 m.r.tsn] := hcan.one (i := 0) rfl
  have c7 : Sl.Can F ((f.R, .cells [.slice f.la f.ln f.lc, .int .u32 f.c, .int .i64 f.paths].toArray 107 (0, 0)) :: (f.lb ++ f.rs.flatMap (·.bb))) lb (lo + (i : Int).toNat * 15 + 7) [.int .i64 m.r.path] := hcan.one (i := 7) rfl
  have c9 : Sl.Can F ((f.R, .cells [.slice f.la f.ln f.lc, .int .u32 f.c, .int .i64 f.paths].toArray 107 (0, 0)) :: (f.lb ++ f.rs.flatMap (·.bb))) lb (lo + (i : Int).toNat * 15 + 9) [.int .i64 m.r.id] := hcan.one (i := 9) rfl
  have c11 : Sl.Can F ((f.R, .cells [.slice f.la f.ln f.lc, .int .u32 f.c, .int .i64 f.paths].toArray 107 (0, 0)) :: (f.lb ++ f.rs.flatMap (·.bb))) lb (lo + (i : Int).toNat * 15 + 11) [.bool m.r.acked] := hcan.one (i := 11) rfl
  have c12 : Sl.Can F ((f.R, .cells [.slice f.la f.ln f.lc, .int .u32 f.c, .int .i64 f.paths].toArray 107 (0, 0)) :: (f.lb ++ f.rs.flatMap (·.bb))) lb (lo + (i : Int).toNat * 15 + 12) [.bool m.r.lost] := hcan.one (i := 12) rfl
  have c13 : Sl.Can F ((f.R, .cells [.slice f.la f.ln f.lc, .int .u32 f.c, .int .i64 f.paths].toArray 107 (0, 0)) :: (f.lb ++ f.rs.flatMap (·.bb))) lb (lo + (i : Int).toNat * 15 + 13) [.bool m.r.gone] := hcan.one (i := 13) rfl
  rw [hla] at c0 c6 c7 c9 c11 c12 c13 hcan ⊢
  have hsn := sumB_snoc (byP p) hmr
  have hsm := fr_sum hs (byP p) (i + 1)
  repeat' (first | refine S1 ?_ | refine SD ?_ | refine SA (fun _ => ?_) | refine WL.g_split rfl rfl (fun hc => ?_) (fun hc => ?_) | refine WD.g_split rfl rfl (fun hc => ?_) (fun hc => ?_) | refine W.cond rfl (fun hc => ?_) (fun hc => ?_))
  refine WL.s rfl (Rd.ldaC rfl rfl hcan) ?_
  refine WL.e rfl (Ef.callR (by exact rfl) (.nil _) (raway_tr _ m)) ?_
  rintro _ _ ⟨rfl, rfl⟩
  repeat' (first | refine S1 ?_ | refine SD ?_ | refine SA (fun _ => ?_) | refine WL.g_split rfl rfl (fun hc => ?_) (fun hc => ?_) | refine WD.g_split rfl rfl (fun hc => ?_) (fun hc => ?_) | refine W.cond rfl (fun hc => ?_) (fun hc => ?_))
  · have hb : byP p m.r = true := by unfold byP; rw [decide_eq_true (eq_of_beq hc), show Flt.away m.r = true by assumption]; rfl
    rw [if_pos hb] at hsn
    rw [i64_succ (by omega), show IntKind.i64.wrap ((sumB (byP p) (f.S.L.take i) : Nat) + (m.bn : Int)) = ((sumB (byP p) (f.S.L.take (i + 1)) : Nat) : Int) by rw [i64_id (by omega) (by omega)]; omega]
    exact Fin.round (i + 1) hi' envA (fun _ h => h) (by omega)
  · have hb : ¬ byP p m.r = true := by unfold byP; rw [decide_eq_false (ne_of_beq_false hc)]; simp
    rw [if_neg hb, Nat.add_zero] at hsn
    rw [i64_succ (by omega)]
    exact Fin.round (i + 1) hi' (by rw [hsn]; exact envA) (fun _ h => h) (by omega)
  · have hb : ¬ byP p m.r = true := by unfold byP; rw [show Flt.away m.r = false from hc]; simp
    rw [if_neg hb, Nat.add_zero] at hsn
    rw [i64_succ (by omega)]
    exact Fin.round (i + 1) hi' (by rw [hsn]; exact envA) (fun _ h => h) (by omega)
structure RlG where
  i : Nat
  sa : Option Addr
  sn : Nat
  sc : Nat
  hb : HL
theorem lost_snoc {L : List Rc} {i : Nat} {r : Rc} (h : L[i]? = some r) : (((L.take (i + 1)).filter openR).map (·.tsn)) = (((L.take i).filter openR).map (·.tsn)) ++ if openR r then [r.tsn] else [] := by
  rw [List.take_add_one, h, Option.toList_some, List.filter_append, List.map_append]
  congr 1
  cases hq : openR r <;> simp [hq]
set_option maxHeartbeats 4000000 in
theorem rlost_tr (F : Nat → Option Obj) (f : FR) (hf : f.ok) : Tr Try.prog 33 [.pointer (some ⟨f.R, 0, none⟩)].toArray F f.H (fun v H => ∃ (sa : Option Addr) (sn sc : Nat) (hb : HL), v = .slice sa sn sc ∧ OwnS 22 1 ((Flt.lostL f.S).map (Value.int .u32)) (.slice sa sn sc) hb ∧ H = hb ++ f.H) := by
  refine Tr.enter Try.func33 rfl Try.ntmps33 rfl (fun w0 => ?_)
  have hlen := hf.len
  have hsl := fr_len hf
  have hfew := hf.few
  unfold FR.H FR.hd
  repeat' (first | refine S1 ?_ | refine SD ?_ | refine SA (fun _ => ?_) | refine WL.g_split rfl rfl (fun hc => ?_) (fun hc => ?_) | refine WD.g_split rfl rfl (fun hc => ?_) (fun hc => ?_) | refine W.cond rfl (fun hc => ?_) (fun hc => ?_))
  refine W.loop (G := RlG) (fun g => [(0, .pointer (some ⟨f.R, 0, none⟩)), (3, .slice g.sa g.sn g.sc), (4, .int .i64 g.i)]) (fun g => g.hb ++ ((f.R, .cells [.slice f.la f.ln f.lc, .int .u32 f.c, .int .i64 f.paths].toArray 107 (0, 0)) :: (f.lb ++ f.rs.flatMap (·.bb))))
    (fun g => g.i ≤ f.ln ∧ OwnS 22 1 ((((f.S.L.take g.i).filter openR).map (·.tsn)).map (Value.int .u32)) (.slice g.sa g.sn g.sc) g.hb ∧ (((f.S.L.take g.i).filter openR).map (·.tsn)).length ≤ g.i) (fun g => f.ln - g.i) ⟨0, none, 0, 0, []⟩ ⟨Nat.zero_le _, .inl ⟨rfl, rfl, rfl⟩, Nat.le_refl _⟩ envA (fun _ h => h) ?_
  rintro ⟨i, sa, sn, sc, hb⟩ ⟨hi, hown, hol⟩
  dsimp only at hi hown hol ⊢
  repeat' (first | refine S1 ?_ | refine SD ?_ | refine SA (fun _ => ?_) | refine WL.g_split rfl rfl (fun hc => ?_) (fun hc => ?_) | refine WD.g_split rfl rfl (fun hc => ?_) (fun hc => ?_) | refine W.cond rfl (fun hc => ?_) (fun hc => ?_))
  rotate_right
  · have hin : i = f.ln := by have := of_decide_eq_false (p := (i : Int) < (f.ln : Int)) (by assumption); omega
    rw [List.take_of_length_le (by omega)] at hown
    exact Fin.retW (by exact rfl) resA (fun _ h => h) ⟨sa, sn, sc, hb, rfl, hown, rfl⟩
  have hi' : i < f.ln := by have := of_decide_eq_true (p := (i : Int) < (f.ln : Int)) (by assumption); omega
  obtain ⟨m, hm⟩ : ∃ m, f.rs[i]? = some m := ⟨f.rs[i]'(by omega), by simp⟩
  obtain ⟨lb, lo, hla, hcan⟩ := fr_el (F := F) hf hm
  have hmr := fr_r hm
  have hbn := fr_bn hf hm
  have hia : 0 ≤ (i : Int) ∧ (i : Int) < f.ln := by omega
  unfold FR.H FR.hd at hcan
  have c6 : Sl.Can F ((f.R, .cells [.slice f.la f.ln f.lc, .int .u32 f.c, .int .i64 f.paths].toArray 107 (0, 0)) :: (f.lb ++ f.rs.flatMap (·.bb))) lb (lo + (i : Int).toNat * 15 + 0 + 6) [.slice m.ba m.bn m.bc] := hcan.one (i := 6) rfl
  have c0 : Sl.Can F ((f.R, .cells [.slice f.la f.ln f.lc, .int .u32 f.c, .int .i64 f.paths].toArray 107 (0, 0)) :: (f.lb ++ f.rs.flatMap (·.bb))) lb (lo + (i : Int).toNat * 15 + 0 + 0) [.int .u32 m.r.tsn] := hcan.one (i := 0) rfl
  have c7 : Sl.Can F ((f.R, .cells [.slice f.la f.ln f.lc, .int .u32 f.c, .int .i64 f.paths].toArray 107 (0, 0)) :: (f.lb ++ f.rs.flatMap (·.bb))) lb (lo + (i : Int).toNat * 15 + 7) [.int .i64 m.r.path] := hcan.one (i := 7) rfl
  have c9 : Sl.Can F ((f.R, .cells [.slice f.la f.ln f.lc, .int .u32 f.c, .int .i64 f.paths].toArray 107 (0, 0)) :: (f.lb ++ f.rs.flatMap (·.bb))) lb (lo + (i : Int).toNat * 15 + 9) [.int .i64 m.r.id] := hcan.one (i := 9) rfl
  have c11 : Sl.Can F ((f.R, .cells [.slice f.la f.ln f.lc, .int .u32 f.c, .int .i64 f.paths].toArray 107 (0, 0)) :: (f.lb ++ f.rs.flatMap (·.bb))) lb (lo + (i : Int).toNat * 15 + 11) [.bool m.r.acked] := hcan.one (i := 11) rfl
  have c12 : Sl.Can F ((f.R, .cells [.slice f.la f.ln f.lc, .int .u32 f.c, .int .i64 f.paths].toArray 107 (0, 0)) :: (f.lb ++ f.rs.flatMap (·.bb))) lb (lo + (i : Int).toNat * 15 + 12) [.bool m.r.lost] := hcan.one (i := 12) rfl
  have c13 : Sl.Can F ((f.R, .cells [.slice f.la f.ln f.lc, .int .u32 f.c, .int .i64 f.paths].toArray 107 (0, 0)) :: (f.lb ++ f.rs.flatMap (·.bb))) lb (lo + (i : Int).toNat * 15 + 13) [.bool m.r.gone] := hcan.one (i := 13) rfl
  rw [hla] at c0 c6 c7 c9 c11 c12 c13 hcan ⊢
  have hsn := lost_snoc hmr
  have hw : ∀ w, In F (hb ++ ((f.R, .cells [.slice (some ⟨lb, lo, none⟩) f.ln f.lc, .int .u32 f.c, .int .i64 f.paths].toArray 107 (0, 0)) :: (f.lb ++ f.rs.flatMap (·.bb)))) w → In F ((f.R, .cells [.slice (some ⟨lb, lo, none⟩) f.ln f.lc, .int .u32 f.c, .int .i64 f.paths].toArray 107 (0, 0)) :: (f.lb ++ f.rs.flatMap (·.bb))) w := fun _ h => h.right
  have d0 := c0.mono hw
  have d11 := c11.mono hw
  have d12 := c12.mono hw
  have d13 := c13.mono hw
  repeat' (first | refine S1 ?_ | refine SD ?_ | refine SA (fun _ => ?_) | refine WL.g_split rfl rfl (fun hc => ?_) (fun hc => ?_) | refine WD.g_split rfl rfl (fun hc => ?_) (fun hc => ?_) | refine W.cond rfl (fun hc => ?_) (fun hc => ?_))
  · have ho : openR m.r = true := by
      unfold openR
      rw [show m.r.lost = true by assumption, show (!m.r.acked) = true by assumption, show (!m.r.gone) = true by assumption]
      rfl
    refine WL.e rfl (Ef.app (m := 1) (news := [.int .u32 m.r.tsn]) (by exact rfl) (by exact rfl) rfl rfl hown (.last (.there .here)) (Src.own (n := 1) (.here rfl)) rfl (by intro u hu; rw [List.mem_singleton.1 hu]; rfl) (by rw [List.length_map]; simp only [List.length_singleton]; omega) (by rw [List.length_map]; simp only [List.length_singleton]; unfold maxLen; omega)) ?_
    rintro v' _ ⟨hb2, hown2, rfl⟩
    obtain ⟨sa2, sn2, sc2, rfl, _, _⟩ := OwnS.shape hown2
    rw [if_pos ho] at hsn
    repeat' (first | refine S1 ?_ | refine SD ?_ | refine SA (fun _ => ?_) | refine WL.g_split rfl rfl (fun hc => ?_) (fun hc => ?_) | refine WD.g_split rfl rfl (fun hc => ?_) (fun hc => ?_) | refine W.cond rfl (fun hc => ?_) (fun hc => ?_))
    rw [i64_succ (by omega)]
    refine Fin.round ⟨i + 1, sa2, sn2, sc2, hb2⟩ ⟨hi', by dsimp only; rw [hsn, List.map_append]; exact hown2, by dsimp only; rw [hsn, List.length_append]; simp only [List.length_singleton]; omega⟩ envA (fun _ h => ?_) (by dsimp only; omega)
    exact h.sublist (.append (.refl _) (.cons _ (.refl _)))
  · have ho : openR m.r = false := by unfold openR; rw [show (!m.r.gone) = false by assumption, Bool.and_false]
    rw [if_neg (by rw [ho]; decide), List.append_nil] at hsn
    rw [i64_succ (by omega)]
    exact Fin.round ⟨i + 1, sa, sn, sc, hb⟩ ⟨hi', by dsimp only; rw [hsn]; exact hown, by dsimp only; rw [hsn]; omega⟩ envA (fun _ h => h) (by dsimp only; omega)
  · have ho : openR m.r = false := by unfold openR; rw [show (!m.r.acked) = false by assumption, Bool.and_false, Bool.false_and]
    rw [if_neg (by rw [ho]; decide), List.append_nil] at hsn
    rw [i64_succ (by omega)]
    exact Fin.round ⟨i + 1, sa, sn, sc, hb⟩ ⟨hi', by dsimp only; rw [hsn]; exact hown, by dsimp only; rw [hsn]; omega⟩ envA (fun _ h => h) (by dsimp only; omega)
  · have ho : openR m.r = false := by unfold openR; rw [show m.r.lost = false by assumption, Bool.false_and, Bool.false_and]
    rw [if_neg (by rw [ho]; decide), List.append_nil] at hsn
    rw [i64_succ (by omega)]
    exact Fin.round ⟨i + 1, sa, sn, sc, hb⟩ ⟨hi', by dsimp only; rw [hsn]; exact hown, by dsimp only; rw [hsn]; omega⟩ envA (fun _ h => h) (by dsimp only; omega)
theorem set_self {L : List Rc} {i : Nat} {r : Rc} (h : L[i]? = some r) : L.set i r = L := by
  refine List.ext_getElem? (fun j => ?_)
  by_cases hj : i = j
  · subst hj
    rw [List.getElem?_set_self (List.getElem?_eq_some_iff.1 h).1, h]
  · rw [List.getElem?_set_ne hj]
structure RmG where
  i : Nat
  f : FR
set_option maxHeartbeats 4000000 in
theorem rmark_tr (F : Nat → Option Obj) (f : FR) (hf : f.ok) (p : Int) : Tr Try.prog 53 [.pointer (some ⟨f.R, 0, none⟩), .int .i64 p].toArray F f.H (fun v H => v = .int .i64 (Flt.markN f.S p) ∧ ∃ f' : FR, f'.ok ∧ H = f'.H ∧ f'.R = f.R ∧ f'.S = Flt.mark f.S p) := by
  refine Tr.enter Try.func53 rfl Try.ntmps53 rfl (fun w0 => ?_)
  have hsl := fr_len hf
  have hfew := hf.few
  have hlf := hf.len
  repeat' (first | refine S1 ?_ | refine SD ?_ | refine SA (fun _ => ?_) | refine WL.g_split rfl rfl (fun hc => ?_) (fun hc => ?_) | refine WD.g_split rfl rfl (fun hc => ?_) (fun hc => ?_) | refine W.cond rfl (fun hc => ?_) (fun hc => ?_))
  refine W.loop (G := RmG) (fun g => [(0, .pointer (some ⟨f.R, 0, none⟩)), (1, .int .i64 p), (5, .int .i64 (cntB (byP p) (f.S.L.take g.i) : Nat)), (6, .int .i64 g.i)]) (fun g => (g.f.R, .cells [.slice g.f.la g.f.ln g.f.lc, .int .u32 g.f.c, .int .i64 g.f.paths].toArray 107 (0, 0)) :: (g.f.lb ++ g.f.rs.flatMap (·.bb)))
    (fun g => g.i ≤ f.ln ∧ g.f.ok ∧ g.f.R = f.R ∧ g.f.c = f.c ∧ g.f.paths = f.paths ∧ g.f.S.L = half (byP p) setLost f.S.L g.i) (fun g => f.ln - g.i) ⟨0, f⟩ ⟨Nat.zero_le _, hf, rfl, rfl, rfl, by dsimp only; rw [half_zero]⟩ envA (fun _ h => h) ?_
  rintro ⟨i, g⟩ ⟨hi, hg, hgR, hgc, hgp, hgL⟩
  dsimp only at hi hg hgR hgc hgp hgL ⊢
  rw [← hgR]
  have hlen := hg.len
  have hgl := fr_len hg
  have hgn : g.ln = f.ln := by rw [← hgl, hgL, half_len, hsl]
  repeat' (first | refine S1 ?_ | refine SD ?_ | refine SA (fun _ => ?_) | refine WL.g_split rfl rfl (fun hc => ?_) (fun hc => ?_) | refine WD.g_split rfl rfl (fun hc => ?_) (fun hc => ?_) | refine W.cond rfl (fun hc => ?_) (fun hc => ?_))
  rotate_right
  · have hin : i = f.ln := by have := of_decide_eq_false (p := (i : Int) < (g.ln : Int)) (by assumption); omega
    rw [List.take_of_length_le (by omega)]
    refine Fin.retW (by exact rfl) resA (H' := g.H) (fun _ h => h) ⟨rfl, g, hg, rfl, rfl, ?_⟩
    rw [hin, ← hsl, half_all] at hgL
    unfold FR.S at hgL ⊢
    rw [show g.rs.map (·.r) = _ from hgL, hgc, hgp]
    rfl
  have hi' : i < g.ln := by have := of_decide_eq_true (p := (i : Int) < (g.ln : Int)) (by assumption); omega
  obtain ⟨m, hm⟩ : ∃ m, g.rs[i]? = some m := ⟨g.rs[i]'(by omega), by simp⟩
  obtain ⟨lb, lo, hla, hcan⟩ := fr_el (F := F) hg hm
  have hmr := fr_r hm
  have hbn := fr_bn hg hm
  have hia : 0 ≤ (i : Int) ∧ (i : Int) < g.ln := by omega
  unfold FR.H FR.hd at hcan
  have c6 : Sl.Can F ((g.R, .cells [.slice g.la g.ln g.lc, .int .u32 g.c, .int .i64 g.paths].toArray 107 (0, 0)) :: (g.lb ++ g.rs.flatMap (·.bb))) lb (lo + (i : Int).toNat * 15 + 0 + 6) [.slice m.ba m.bn m.bc] := hcan.one (i := 6) rfl
  have c0 : Sl.Can F ((g.R, .cells [.slice g.la g.ln g.lc, .int .u32 g.c, .int .i64 g.paths].toArray 107 (0, 0)) :: (g.lb ++ g.rs.flatMap (·.bb))) lb (lo + (i : Int).toNat * 15 + 0 + 0) [.int .u32 m.r.tsn] := hcan.one (i := 0) rfl
  have c7 : Sl.Can F ((g.R, .cells [.slice g.la g.ln g.lc, .int .u32 g.c, .int .i64 g.paths].toArray 107 (0, 0)) :: (g.lb ++ g.rs.flatMap (·.bb))) lb (lo + (i : Int).toNat * 15 + 7) [.int .i64 m.r.path] := hcan.one (i := 7) rfl
  have c9 : Sl.Can F ((g.R, .cells [.slice g.la g.ln g.lc, .int .u32 g.c, .int .i64 g.paths].toArray 107 (0, 0)) :: (g.lb ++ g.rs.flatMap (·.bb))) lb (lo + (i : Int).toNat * 15 + 9) [.int .i64 m.r.id] := hcan.one (i := 9) rfl
  have c11 : Sl.Can F ((g.R, .cells [.slice g.la g.ln g.lc, .int .u32 g.c, .int .i64 g.paths].toArray 107 (0, 0)) :: (g.lb ++ g.rs.flatMap (·.bb))) lb (lo + (i : Int).toNat * 15 + 11) [.bool m.r.acked] := hcan.one (i := 11) rfl
  have c12 : Sl.Can F ((g.R, .cells [.slice g.la g.ln g.lc, .int .u32 g.c, .int .i64 g.paths].toArray 107 (0, 0)) :: (g.lb ++ g.rs.flatMap (·.bb))) lb (lo + (i : Int).toNat * 15 + 12) [.bool m.r.lost] := hcan.one (i := 12) rfl
  have c13 : Sl.Can F ((g.R, .cells [.slice g.la g.ln g.lc, .int .u32 g.c, .int .i64 g.paths].toArray 107 (0, 0)) :: (g.lb ++ g.rs.flatMap (·.bb))) lb (lo + (i : Int).toNat * 15 + 13) [.bool m.r.gone] := hcan.one (i := 13) rfl
  rw [hla] at c0 c6 c7 c9 c11 c12 c13 hcan ⊢
  have hLi : f.S.L[i]? = some m.r := by
    obtain ⟨r0, hr0⟩ : ∃ r0, f.S.L[i]? = some r0 := ⟨f.S.L[i]'(by omega), by simp⟩
    have := half_get (byP p) setLost hr0
    rw [← hgL, hmr] at this
    rw [hr0, ← this]
  have hcs := cntB_snoc (byP p) hLi
  have hcl := cntB_le (byP p) (f.S.L.take i)
  rw [List.length_take] at hcl
  repeat' (first | refine S1 ?_ | refine SD ?_ | refine SA (fun _ => ?_) | refine WL.g_split rfl rfl (fun hc => ?_) (fun hc => ?_) | refine WD.g_split rfl rfl (fun hc => ?_) (fun hc => ?_) | refine W.cond rfl (fun hc => ?_) (fun hc => ?_))
  refine WL.s rfl (Rd.ldaC rfl rfl hcan) ?_
  refine WL.e rfl (Ef.callR (by exact rfl) (.nil _) (raway_tr _ m)) ?_
  rintro _ _ ⟨rfl, rfl⟩
  repeat' (first | refine S1 ?_ | refine SD ?_ | refine SA (fun _ => ?_) | refine WL.g_split rfl rfl (fun hc => ?_) (fun hc => ?_) | refine WD.g_split rfl rfl (fun hc => ?_) (fun hc => ?_) | refine W.cond rfl (fun hc => ?_) (fun hc => ?_))
  · have hb : byP p m.r = true := by unfold byP; rw [decide_eq_true (eq_of_beq hc), show Flt.away m.r = true by assumption]; rfl
    obtain ⟨g2, hg2, hput, h2R, h2a, h2n, h2c, h2cc, h2p, h2s⟩ := fr_put hg hm hla (k := 12) (v := .bool true) (r' := setLost m.r) rfl rfl
    refine WL.e0 (Ef.st rfl rfl rfl (by unfold FR.H FR.hd at hput; rw [hla] at hput; exact hput)) ?_
    rintro _ _ ⟨_, rfl⟩
    have hh := half_succ (byP p) setLost hLi
    rw [if_pos hb, ← hgL] at hh
    rw [if_pos hb] at hcs
    rw [← h2R]
    repeat' (first | refine S1 ?_ | refine SD ?_ | refine SA (fun _ => ?_) | refine WL.g_split rfl rfl (fun hc => ?_) (fun hc => ?_) | refine WD.g_split rfl rfl (fun hc => ?_) (fun hc => ?_) | refine W.cond rfl (fun hc => ?_) (fun hc => ?_))
    rw [i64_succ (by omega), i64_succ (by omega)]
    refine Fin.round ⟨i + 1, g2⟩ ⟨by dsimp only; omega, hg2, rfl, h2cc.trans hgc, h2p.trans hgp, ?_⟩ (by dsimp only; rw [hcs]; exact envA) (fun _ h => h) (by dsimp only; omega)
    dsimp only
    rw [hh]
    unfold FR.S
    dsimp only
    rw [h2s, List.map_set]
  · have hb : ¬ byP p m.r = true := by unfold byP; rw [decide_eq_false (ne_of_beq_false hc)]; simp
    have hh := half_succ (byP p) setLost hLi
    rw [if_neg hb, set_self (half_get _ _ hLi)] at hh
    rw [if_neg hb, Nat.add_zero] at hcs
    rw [i64_succ (by omega)]
    exact Fin.round ⟨i + 1, g⟩ ⟨by dsimp only; omega, hg, rfl, hgc, hgp, by dsimp only; rw [hh]; exact hgL⟩ (by dsimp only; rw [hcs]; exact envA) (fun _ h => by dsimp only; rw [hla]; exact h) (by dsimp only; omega)
  · have hb : ¬ byP p m.r = true := by unfold byP; rw [show Flt.away m.r = false from hc]; simp
    have hh := half_succ (byP p) setLost hLi
    rw [if_neg hb, set_self (half_get _ _ hLi)] at hh
    rw [if_neg hb, Nat.add_zero] at hcs
    rw [i64_succ (by omega)]
    exact Fin.round ⟨i + 1, g⟩ ⟨by dsimp only; omega, hg, rfl, hgc, hgp, by dsimp only; rw [hh]; exact hgL⟩ (by dsimp only; rw [hcs]; exact envA) (fun _ h => by dsimp only; rw [hla]; exact h) (by dsimp only; omega)
set_option maxHeartbeats 4000000 in
theorem rabandon_tr (F : Nat → Option Obj) (f : FR) (hf : f.ok) (p : Int) : Tr Try.prog 54 [.pointer (some ⟨f.R, 0, none⟩), .int .i64 p].toArray F f.H (fun v H => v = .int .i64 (Flt.abandonN f.S p) ∧ ∃ f' : FR, f'.ok ∧ H = f'.H ∧ f'.R = f.R ∧ f'.S = Flt.abandon f.S p) := by
  refine Tr.enter Try.func54 rfl Try.ntmps54 rfl (fun w0 => ?_)
  have hsl := fr_len hf
  have hfew := hf.few
  have hlf := hf.len
  repeat' (first | refine S1 ?_ | refine SD ?_ | refine SA (fun _ => ?_) | refine WL.g_split rfl rfl (fun hc => ?_) (fun hc => ?_) | refine WD.g_split rfl rfl (fun hc => ?_) (fun hc => ?_) | refine W.cond rfl (fun hc => ?_) (fun hc => ?_))
  refine W.loop (G := RmG) (fun g => [(0, .pointer (some ⟨f.R, 0, none⟩)), (1, .int .i64 p), (5, .int .i64 (cntB (ofId p) (f.S.L.take g.i) : Nat)), (6, .int .i64 g.i)]) (fun g => (g.f.R, .cells [.slice g.f.la g.f.ln g.f.lc, .int .u32 g.f.c, .int .i64 g.f.paths].toArray 107 (0, 0)) :: (g.f.lb ++ g.f.rs.flatMap (·.bb)))
    (fun g => g.i ≤ f.ln ∧ g.f.ok ∧ g.f.R = f.R ∧ g.f.c = f.c ∧ g.f.paths = f.paths ∧ g.f.S.L = half (ofId p) setGone f.S.L g.i) (fun g => f.ln - g.i) ⟨0, f⟩ ⟨Nat.zero_le _, hf, rfl, rfl, rfl, by dsimp only; rw [half_zero]⟩ envA (fun _ h => h) ?_
  rintro ⟨i, g⟩ ⟨hi, hg, hgR, hgc, hgp, hgL⟩
  dsimp only at hi hg hgR hgc hgp hgL ⊢
  rw [← hgR]
  have hlen := hg.len
  have hgl := fr_len hg
  have hgn : g.ln = f.ln := by rw [← hgl, hgL, half_len, hsl]
  repeat' (first | refine S1 ?_ | refine SD ?_ | refine SA (fun _ => ?_) | refine WL.g_split rfl rfl (fun hc => ?_) (fun hc => ?_) | refine WD.g_split rfl rfl (fun hc => ?_) (fun hc => ?_) | refine W.cond rfl (fun hc => ?_) (fun hc => ?_))
  rotate_right
  · have hin : i = f.ln := by have := of_decide_eq_false (p := (i : Int) < (g.ln : Int)) (by assumption); omega
    rw [List.take_of_length_le (by omega)]
    refine Fin.retW (by exact rfl) resA (H' := g.H) (fun _ h => h) ⟨rfl, g, hg, rfl, rfl, ?_⟩
    rw [hin, ← hsl, half_all] at hgL
    unfold FR.S at hgL ⊢
    rw [show g.rs.map (·.r) = _ from hgL, hgc, hgp]
    rfl
  have hi' : i < g.ln := by have := of_decide_eq_true (p := (i : Int) < (g.ln : Int)) (by assumption); omega
  obtain ⟨m, hm⟩ : ∃ m, g.rs[i]? = some m := ⟨g.rs[i]'(by omega), by simp⟩
  obtain ⟨lb, lo, hla, hcan⟩ := fr_el (F := F) hg hm
  have hmr := fr_r hm
  have hbn := fr_bn hg hm
  have hia : 0 ≤ (i : Int) ∧ (i : Int) < g.ln := by omega
  unfold FR.H FR.hd at hcan
  have c6 : Sl.Can F ((g.R, .cells [.slice g.la g.ln g.lc, .int .u32 g.c, .int .i64 g.paths].toArray 107 (0, 0)) :: (g.lb ++ g.rs.flatMap (·.bb))) lb (lo + (i : Int).toNat * 15 + 0 + 6) [.slice m.ba m.bn m.bc] := hcan.one (i := 6) rfl
  have c0 : Sl.Can F ((g.R, .cells [.slice g.la g.ln g.lc, .int .u32 g.c, .int .i64 g.paths].toArray 107 (0, 0)) :: (g.lb ++ g.rs.flatMap (·.bb))) lb (lo + (i : Int).toNat * 15 + 0 + 0) [.int .u32 m.r.tsn] := hcan.one (i := 0) rfl
  have c7 : Sl.Can F ((g.R, .cells [.slice g.la g.ln g.lc, .int .u32 g.c, .int .i64 g.paths].toArray 107 (0, 0)) :: (g.lb ++ g.rs.flatMap (·.bb))) lb (lo + (i : Int).toNat * 15 + 7) [.int .i64 m.r.path] := hcan.one (i := 7) rfl
  have c9 : Sl.Can F ((g.R, .cells [.slice g.la g.ln g.lc, .int .u32 g.c, .int .i64 g.paths].toArray 107 (0, 0)) :: (g.lb ++ g.rs.flatMap (·.bb))) lb (lo + (i : Int).toNat * 15 + 9) [.int .i64 m.r.id] := hcan.one (i := 9) rfl
  have c11 : Sl.Can F ((g.R, .cells [.slice g.la g.ln g.lc, .int .u32 g.c, .int .i64 g.paths].toArray 107 (0, 0)) :: (g.lb ++ g.rs.flatMap (·.bb))) lb (lo + (i : Int).toNat * 15 + 11) [.bool m.r.acked] := hcan.one (i := 11) rfl
  have c12 : Sl.Can F ((g.R, .cells [.slice g.la g.ln g.lc, .int .u32 g.c, .int .i64 g.paths].toArray 107 (0, 0)) :: (g.lb ++ g.rs.flatMap (·.bb))) lb (lo + (i : Int).toNat * 15 + 12) [.bool m.r.lost] := hcan.one (i := 12) rfl
  have c13 : Sl.Can F ((g.R, .cells [.slice g.la g.ln g.lc, .int .u32 g.c, .int .i64 g.paths].toArray 107 (0, 0)) :: (g.lb ++ g.rs.flatMap (·.bb))) lb (lo + (i : Int).toNat * 15 + 13) [.bool m.r.gone] := hcan.one (i := 13) rfl
  rw [hla] at c0 c6 c7 c9 c11 c12 c13 hcan ⊢
  have hLi : f.S.L[i]? = some m.r := by
    obtain ⟨r0, hr0⟩ : ∃ r0, f.S.L[i]? = some r0 := ⟨f.S.L[i]'(by omega), by simp⟩
    have := half_get (ofId p) setGone hr0
    rw [← hgL, hmr] at this
    rw [hr0, ← this]
  have hcs := cntB_snoc (ofId p) hLi
  have hcl := cntB_le (ofId p) (f.S.L.take i)
  rw [List.length_take] at hcl
  repeat' (first | refine S1 ?_ | refine SD ?_ | refine SA (fun _ => ?_) | refine WL.g_split rfl rfl (fun hc => ?_) (fun hc => ?_) | refine WD.g_split rfl rfl (fun hc => ?_) (fun hc => ?_) | refine W.cond rfl (fun hc => ?_) (fun hc => ?_))
  · have hb : ofId p m.r = true := by
      unfold ofId
      rw [decide_eq_true (eq_of_beq ‹(m.r.id == p) = true›), show (!m.r.acked) = true by assumption, show (!m.r.gone) = true by assumption]
      rfl
    obtain ⟨g2, hg2, hput, h2R, h2a, h2n, h2c, h2cc, h2p, h2s⟩ := fr_put hg hm hla (k := 13) (v := .bool true) (r' := setGone m.r) rfl rfl
    refine WL.e0 (Ef.st rfl rfl rfl (by unfold FR.H FR.hd at hput; rw [hla] at hput; exact hput)) ?_
    rintro _ _ ⟨_, rfl⟩
    have hh := half_succ (ofId p) setGone hLi
    rw [if_pos hb, ← hgL] at hh
    rw [if_pos hb] at hcs
    rw [← h2R]
    repeat' (first | refine S1 ?_ | refine SD ?_ | refine SA (fun _ => ?_) | refine WL.g_split rfl rfl (fun hc => ?_) (fun hc => ?_) | refine WD.g_split rfl rfl (fun hc => ?_) (fun hc => ?_) | refine W.cond rfl (fun hc => ?_) (fun hc => ?_))
    rw [i64_succ (by omega), i64_succ (by omega)]
    refine Fin.round ⟨i + 1, g2⟩ ⟨by dsimp only; omega, hg2, rfl, h2cc.trans hgc, h2p.trans hgp, ?_⟩ (by dsimp only; rw [hcs]; exact envA) (fun _ h => h) (by dsimp only; omega)
    dsimp only
    rw [hh]
    unfold FR.S
    dsimp only
    rw [h2s, List.map_set]
  · have hb : ¬ ofId p m.r = true := by unfold ofId; rw [show (!m.r.gone) = false by assumption, Bool.and_false]; decide
    have hh := half_succ (ofId p) setGone hLi
    rw [if_neg hb, set_self (half_get _ _ hLi)] at hh
    rw [if_neg hb, Nat.add_zero] at hcs
    rw [i64_succ (by omega)]
    exact Fin.round ⟨i + 1, g⟩ ⟨by dsimp only; omega, hg, rfl, hgc, hgp, by dsimp only; rw [hh]; exact hgL⟩ (by dsimp only; rw [hcs]; exact envA) (fun _ h => by dsimp only; rw [hla]; exact h) (by dsimp only; omega)
  · have hb : ¬ ofId p m.r = true := by unfold ofId; rw [show (!m.r.acked) = false by assumption, Bool.and_false, Bool.false_and]; decide
    have hh := half_succ (ofId p) setGone hLi
    rw [if_neg hb, set_self (half_get _ _ hLi)] at hh
    rw [if_neg hb, Nat.add_zero] at hcs
    rw [i64_succ (by omega)]
    exact Fin.round ⟨i + 1, g⟩ ⟨by dsimp only; omega, hg, rfl, hgc, hgp, by dsimp only; rw [hh]; exact hgL⟩ (by dsimp only; rw [hcs]; exact envA) (fun _ h => by dsimp only; rw [hla]; exact h) (by dsimp only; omega)
  · have hb : ¬ ofId p m.r = true := by unfold ofId; rw [decide_eq_false (ne_of_beq_false ‹(m.r.id == p) = false›), Bool.false_and, Bool.false_and]; decide
    have hh := half_succ (ofId p) setGone hLi
    rw [if_neg hb, set_self (half_get _ _ hLi)] at hh
    rw [if_neg hb, Nat.add_zero] at hcs
    rw [i64_succ (by omega)]
    exact Fin.round ⟨i + 1, g⟩ ⟨by dsimp only; omega, hg, rfl, hgc, hgp, by dsimp only; rw [hh]; exact hgL⟩ (by dsimp only; rw [hcs]; exact envA) (fun _ h => by dsimp only; rw [hla]; exact h) (by dsimp only; omega)
end Go.Proofs.Ytglobldnockdoaa
