/- What is between a sender and one who takes all, in memory: all up to a TSN counts as come, walked. Conditions: it is well formed; the TSN is not far. -/
import Derived.Test.YtjfpckadjnjmoaaGreatLnC
import Derived.Test.YtjfpckadjnjmoaaGreatLnG
import Derived.Test.YtjfpckadjnjmoaaGreatBf
namespace Go.Proofs.YtjfpckadjnjmoaaGreat
open Go Go.Sl Go.Flt

theorem dm_bn {m : DM} (h : m.ok) : m.bn = m.d.bs.length := by have := OwnS.len h; simp at this; omega
theorem came_dm {M : List DM} {k : Nat} {m : DM} (h : M[k]? = some m) (hm : m.ok) : Snd.came (M.map (·.d)) k = decide (0 < m.bn) := by
  rw [Snd.came_of (q := m.d) (by rw [List.getElem?_map, h]; rfl), isB_bn hm]
theorem RowOk.setB {M : List DM} {b off sn sc : Nat} {hb : HL} (h : RowOk M (some ⟨b, off, none⟩) sn sc hb) {k : Nat} {m : DM} (hk : M[k]? = some m) {m' : DM} (hm : m'.ok) (he : m'.cells = m.cells.take 6 ++ [.slice m'.ba m'.bn m'.bc]) :
    ∃ hb', RowOk (M.set k m') (some ⟨b, off, none⟩) sn sc hb' ∧ PutAt b (off + (k * 7 + 6)) [.slice m'.ba m'.bn m'.bc] hb hb' := by
  have hkl := (List.getElem?_eq_some_iff.1 hk).1
  have hfl : (M.flatMap DM.cells).length = M.length * 7 := flat_len' DM.cells 7 DM.len M
  obtain ⟨hb', hown', hput⟩ := h.1.put (k * 7 + 6) [.slice m'.ba m'.bn m'.bc] (by rw [hfl]; simp; omega)
  refine ⟨hb', ⟨?_, fun q hq => ?_⟩, hput⟩
  · have hM : M.flatMap DM.cells = (M.take k).flatMap DM.cells ++ (m.cells ++ (M.drop (k + 1)).flatMap DM.cells) := by
      have : M = M.take k ++ m :: M.drop (k + 1) := by rw [← (List.getElem?_eq_some_iff.1 hk).2, ← List.drop_eq_getElem_cons hkl, List.take_append_drop]
      have h2 : M.flatMap DM.cells = (M.take k ++ m :: M.drop (k + 1)).flatMap DM.cells := congrArg (fun l => List.flatMap DM.cells l) this
      rw [h2, List.flatMap_append, List.flatMap_cons]
    have hA : ((M.take k).flatMap DM.cells).length = k * 7 := by rw [flat_len' DM.cells 7 DM.len, List.length_take]; omega
    have e : (M.set k m').flatMap DM.cells = (M.flatMap DM.cells).take (k * 7 + 6) ++ [.slice m'.ba m'.bn m'.bc] ++ (M.flatMap DM.cells).drop (k * 7 + 6 + [Value.slice m'.ba m'.bn m'.bc].length) := by
      rw [List.set_eq_take_append_cons_drop, if_pos hkl, List.flatMap_append, List.flatMap_cons, hM, ← hA, List.take_length_add_append, he, List.length_singleton, Nat.add_assoc, List.drop_length_add_append]
      have e1 : (m.cells ++ (M.drop (k + 1)).flatMap DM.cells).take 6 = m.cells.take 6 := rfl
      have e2 : (m.cells ++ (M.drop (k + 1)).flatMap DM.cells).drop (6 + 1) = (M.drop (k + 1)).flatMap DM.cells := rfl
      rw [e1, e2]
      simp only [List.append_assoc]
    rw [e]
    exact hown'
  · rcases List.mem_or_eq_of_mem_set hq with hq | rfl
    · exact h.2 q hq
    · exact hm
structure GOv where
  i : Nat
  M : List DM
  sa : Option Addr
  sn : Nat
  sc : Nat
  hb : HL
def ovH (x : LnM) (g : GOv) : HL := (x.L, .cells [ptr x.R, .slice g.sa g.sn g.sc, .int .u32 x.first, .int .i64 x.cum, .int .i64 x.now].toArray 40 (0, 0)) :: (g.hb ++ g.M.flatMap (·.bb))
def LnM.of (x : LnM) (g : GOv) : LnM := ⟨x.L, x.R, g.M, g.sa, g.sn, g.sc, g.hb, x.first, x.cum, x.now⟩
theorem ovH_eq (x : LnM) (g : GOv) : ovH x g = (x.of g).H := rfl
set_option maxRecDepth 40000 in
set_option maxHeartbeats 8000000 in
theorem over_tr (F : Nat → Option Obj) (x : LnM) (hx : x.ok) (tsn : Int) (hto : Snd.toOf x.first tsn ≤ 4000) :
    Tr Tryz.prog 15 [ptr x.L, .int .u32 tsn].toArray F x.H (fun v H => v = .tuple #[] ∧ ∃ x' : LnM, x'.ok ∧ x'.L = x.L ∧ x'.R = x.R ∧ x'.now = x.now ∧ x'.ln = x.ln.over tsn ∧ H = x'.H) := by
  refine Tr.enter Tryz.func15 rfl Tryz.ntmps15 rfl (fun w0 => ?_)
  have hxl := hx.len
  have hxc := hx.cum
  obtain ⟨to, hto'⟩ : ∃ to, Snd.toOf x.first tsn = to := ⟨_, rfl⟩
  have et : IntKind.i64.wrap (IntKind.u32.wrap (IntKind.u32.wrap (tsn - x.first) + 1)) = (to : Int) := by
    have h := Flt.u32_mod (Spn.u32 (tsn - x.first) + 1)
    unfold Snd.toOf at hto'
    show IntKind.i64.wrap (Spn.u32 (Spn.u32 (tsn - x.first) + 1)) = _
    rw [i64_id (by omega) (by omega)]
    omega
  rw [hto'] at hto
  unfold LnM.H LnM.hd LnM.cells
  repeat' (first | refine S2b ?_ | refine SD ?_ | refine SA (fun _ => ?_) | refine G1 (fun hc => ?_) (fun hc => ?_) | refine G2 (fun hc => ?_) (fun hc => ?_) | refine G3 (fun hc => ?_) (fun hc => ?_) | refine SL ?_ | fail)
  rw [et]
  refine W.loop (G := GOv) (fun g => [(0, ptr x.L), (4, .int .i64 to), (5, .int .i64 g.i)]) (fun g => ovH x g)
    (fun g => g.i ≤ to ∧ RowOk g.M g.sa g.sn g.sc g.hb ∧ g.M.map (·.d) = Snd.ovN (x.seen.map (·.d)) g.i) (fun g => to - g.i) ⟨0, x.seen, x.sa, x.sn, x.sc, x.hb⟩ ⟨Nat.zero_le _, hx.row, rfl⟩ envA (fun _ h => by unfold ovH; exact h) ?_
  rintro ⟨i, M, sa, sn, sc, hb⟩ ⟨hi, hrow, hM⟩
  dsimp only at hi hrow hM ⊢
  have hsp := Snd.ovN_spec (x.seen.map (·.d)) i
  have hMl : M.length = max x.seen.length i := by have := congrArg List.length hM; simp only [List.length_map] at this; rw [this, hsp.1, List.length_map]
  have hsn := hrow.len
  unfold ovH
  dsimp only
  repeat' (first | refine S2b ?_ | refine SA (fun _ => ?_) | refine G1 (fun hc => ?_) (fun hc => ?_) | refine G2 (fun hc => ?_) (fun hc => ?_) | refine G3 (fun hc => ?_) (fun hc => ?_) | refine SL ?_ | fail)
  · rename_i hc1
    have hlt : i < to := by have := of_decide_eq_true hc1; omega
    refine W.loop (G := GOv) (fun g => [(0, ptr x.L), (4, .int .i64 to), (5, .int .i64 i)]) (fun g => ovH x g)
      (fun g => (∃ j, g.M = M ++ List.replicate j zDM ∧ j ≤ i + 1 - M.length) ∧ RowOk g.M g.sa g.sn g.sc g.hb) (fun g => i + 1 - g.M.length) ⟨0, M, sa, sn, sc, hb⟩ ⟨⟨0, by simp, Nat.zero_le _⟩, hrow⟩ envA (fun _ h => by unfold ovH; exact h) ?_
    rintro ⟨_, M2, sa2, sn2, sc2, hb2⟩ ⟨⟨j, hM2, hj⟩, hrow2⟩
    dsimp only at hM2 hrow2 ⊢
    have hsn2 := hrow2.len
    have hM2l : M2.length = M.length + j := by rw [hM2]; simp
    unfold ovH
    dsimp only
    repeat' (first | refine S2b ?_ | refine SA (fun _ => ?_) | refine G1 (fun hc => ?_) (fun hc => ?_) | refine G2 (fun hc => ?_) (fun hc => ?_) | refine G3 (fun hc => ?_) (fun hc => ?_) | refine SL ?_ | fail)
    · have hle : (sn2 : Int) ≤ i := of_decide_eq_true hc
      refine WL.e rfl (Ef.app (m := 1) (news := zDM.cells) (hb := hb2) (by exact rfl) (by exact rfl) rfl rfl hrow2.1 (.last (.there (.there .here))) (Src.own (n := 7) (.here rfl)) rfl (dm_one' zDM) (by rw [flat_len' DM.cells 7 DM.len]; simp [DM.cells]; omega) (by rw [flat_len' DM.cells 7 DM.len]; simp [DM.cells, maxLen]; omega)) ?_
      rintro v' _ ⟨hb', hown', rfl⟩
      obtain ⟨ja, jn, jc, rfl, _, _⟩ := OwnS.shape hown'
      repeat' (first | refine S2b ?_ | refine SA (fun _ => ?_) | refine G1 (fun hc => ?_) (fun hc => ?_) | refine G2 (fun hc => ?_) (fun hc => ?_) | refine G3 (fun hc => ?_) (fun hc => ?_) | refine SL ?_ | fail)
      refine Fin.round ⟨0, M2 ++ [zDM], ja, jn, jc, hb'⟩ ⟨⟨j + 1, by rw [hM2, List.append_assoc, List.replicate_succ'], by omega⟩, ⟨by rw [List.flatMap_append]; simpa using hown', fun q hq => ?_⟩⟩ envA (fun _ h => ?_) (by dsimp only; rw [List.length_append, List.length_singleton]; omega)
      · rcases List.mem_append.1 hq with hq | hq
        · exact hrow2.2 q hq
        · rw [List.mem_singleton.1 hq]; exact zDM_ok
      · dsimp only
        have e : (M2 ++ [zDM]).flatMap (·.bb) = M2.flatMap (·.bb) := by rw [List.flatMap_append]; simp [zDM]
        rw [e]
        exact In.of_sub (.pick (.right (.there .here)) (.pickL (L := hb') .here (.last (.there .all)))) h
    have hgt : ¬ (sn2 : Int) ≤ i := of_decide_eq_false hc
    have hj2 : j = i + 1 - M.length := by omega
    have hgrow : M2.map (·.d) = Snd.grow (M.map (·.d)) i := by
      rw [hM2, hj2]
      unfold Snd.grow
      rw [List.map_append, List.map_replicate, List.length_map]
      rfl
    obtain ⟨m2, hm2⟩ : ∃ m2, M2[i]? = some m2 := ⟨M2[i]'(by omega), List.getElem?_eq_getElem _⟩
    have hm2o := hrow2.2 m2 (List.mem_of_getElem? hm2)
    have hcm := came_dm hm2 hm2o
    have hm2g : (Snd.grow (M.map (·.d)) i).getD i Snd.dtZ = m2.d := by rw [← hgrow, List.getD_eq_getElem?_getD, List.getElem?_map, hm2]; rfl
    have hstep : Snd.ovN (x.seen.map (·.d)) (i + 1) = if decide (0 < m2.bn) then M2.map (·.d) else (M2.map (·.d)).set i (Snd.fill m2.d) := by
      rw [Snd.ovN_succ, ← hM]
      unfold Snd.ov1
      rw [hm2g, ← hgrow, hcm]
    obtain ⟨sb, so, hsa2, hsc⟩ := hrow2.can hm2
    have hsc := hsc F
    have hs6 : Sl.Can F hb2 sb (so + (i : Int).toNat * 7 + 6) [.slice m2.ba m2.bn m2.bc] := hsc.one (i := 6) rfl
    have hik : 0 ≤ (i : Int) ∧ (i : Int) < sn2 := by omega
    rw [hsa2] at hrow2 ⊢
    repeat' (first | refine S2c ?_ | refine SA (fun _ => ?_) | refine G1 (fun hc => ?_) (fun hc => ?_) | refine G2 (fun hc => ?_) (fun hc => ?_) | refine G3 (fun hc => ?_) (fun hc => ?_) | refine SL ?_ | fail)
    · have hb0 : m2.bn = 0 := by have : (m2.bn : Int) = 0 := by simpa using hc
                                 omega
      rw [if_neg (by rw [hb0]; decide)] at hstep
      rename_i nb
      obtain ⟨m3, hm3⟩ : ∃ m3 : DM, m3 = ⟨Snd.fill m2.d, some ⟨nb, 0, none⟩, 1, 1, [(nb, .cells [.int .u8 0].toArray 5 (0, 0))]⟩ := ⟨_, rfl⟩
      have hm3o : m3.ok := by
        rw [hm3]
        exact .inr ⟨nb, 1, 1, [], [], [], rfl, rfl, rfl, Nat.le_refl _, rfl, by simp only [maxLen]; omega⟩
      obtain ⟨hb3, hrow3, hput3⟩ := hrow2.setB hm2 (m' := m3) hm3o (by rw [hm3]; rfl)
      have hput4 : PutAt sb (so + (i : Int).toNat * 7 + 6) [.slice (some ⟨nb, 0, none⟩) 1 1] hb2 hb3 := by
        rw [hm3] at hput3
        simpa [Nat.add_assoc] using hput3
      refine WL.e0 (Ef.st rfl rfl rfl (.there (.there (.left hput4)))) ?_
      rintro _ _ ⟨rfl, rfl⟩
      repeat' (first | refine S2b ?_ | refine SA (fun _ => ?_) | refine G1 (fun hc => ?_) (fun hc => ?_) | refine G2 (fun hc => ?_) (fun hc => ?_) | refine G3 (fun hc => ?_) (fun hc => ?_) | refine SL ?_ | fail)
      rw [i64_succ (i := i) (by omega)]
      refine Fin.round ⟨i + 1, M2.set i m3, some ⟨sb, so, none⟩, sn2, sc2, hb3⟩ ⟨hlt, hrow3, by dsimp only; rw [hstep, List.map_set, hm3]⟩ envA (fun _ h => ?_) (by dsimp only; omega)
      dsimp only
      rw [bb_set hm2 m3, show m3.bb = [(nb, Obj.cells [Value.int .u8 0].toArray 5 (0, 0))] from by rw [hm3]]
      rw [bb_split hm2] at h
      exact In.of_sub (.pick (.there .here) (.pickL (L := hb3) (.there .here) (.pickL (L := (M2.take i).flatMap (·.bb)) (.there .here) (.pick .here (.last (.right .all)))))) h
    · have hb0 : ¬ m2.bn = 0 := by have : ¬ (m2.bn : Int) = 0 := by simpa using hc
                                   omega
      rw [if_pos (decide_eq_true (by omega))] at hstep
      rw [i64_succ (i := i) (by omega)]
      exact Fin.round ⟨i + 1, M2, some ⟨sb, so, none⟩, sn2, sc2, hb2⟩ ⟨hlt, hrow2, by dsimp only; rw [hstep]⟩ envA (fun _ h => h) (by dsimp only; omega)
  · exfalso
    have := of_decide_eq_false hc
    omega
  · have hit : i = to := by have := of_decide_eq_false hc; omega
    subst hit
    obtain ⟨x1, hx1⟩ : ∃ x1 : LnM, x1 = x.of ⟨i, M, sa, sn, sc, hb⟩ := ⟨_, rfl⟩
    have hx1ok : x1.ok := by rw [hx1]; exact ⟨hrow, by show M.length ≤ 5000; omega, hx.first, by show x.cum ≤ M.length; omega⟩
    have hx1L : x1.L = x.L := by rw [hx1]; rfl
    have hx1H : x1.H = ovH x ⟨i, M, sa, sn, sc, hb⟩ := by rw [hx1]; rfl
    have hln : x1.ln.take (OuM.L ⟨[], none, 0, 0, []⟩) = some (x.ln.over tsn) := by
      have e : Snd.overL x.ln.seen (Snd.toOf x.ln.first tsn) = M.map (·.d) := by
        unfold Snd.overL
        rw [show Snd.toOf x.ln.first tsn = i from hto', if_pos (by omega), hM]
        rfl
      unfold Snd.Ln.over
      rw [e, hx1]
      rfl
    have hT := fun F' => ltake_tr F' x1 hx1ok ⟨[], none, 0, 0, []⟩ ⟨.inl ⟨rfl, rfl, rfl⟩, fun _ h => by cases h⟩ (by dsimp only; omega) (fun _ h => by cases h) _ hln
    rw [hx1L] at hT
    refine WL.weak (H' := x1.H ++ ([] ++ [])) (fun _ h => by rw [hx1H]; simpa [ovH] using h) ?_
    refine WL.e rfl (Ef.call (c := x1.H ++ ([] ++ [])) (by exact rfl) (.all _) (hT _)) ?_
    rintro _ _ ⟨_, ⟨rfl, x', h1, h2, h3, h4, h5, rfl⟩, rfl⟩
    repeat' (first | refine S2b ?_ | refine SA (fun _ => ?_) | refine G1 (fun hc => ?_) (fun hc => ?_) | refine G2 (fun hc => ?_) (fun hc => ?_) | refine G3 (fun hc => ?_) (fun hc => ?_) | refine SL ?_ | fail)
    exact Fin.endW (by exact rfl) resA (H' := x'.H) (fun _ h => h.left) ⟨rfl, x', h1, h2, h3.trans (by rw [hx1]; rfl), h4.trans (by rw [hx1]; rfl), h5, rfl⟩
end Go.Proofs.YtjfpckadjnjmoaaGreat
