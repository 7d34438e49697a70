/- What is between a sender and one who takes all, in memory: pieces taken, walked. Conditions: it is well formed. -/
import Derived.Test.YtjfpckadjnjmoaaGreatSnG
import Derived.Test.YtjfpckadjnjmoaaGreatBe
namespace Go.Proofs.YtjfpckadjnjmoaaGreat
open Go Go.Sl Go.Flt

set_option maxHeartbeats 8000000 in
theorem same_tr (F : Nat → Option Obj) (d : Dt) (ba : Option Addr) (bn bc : Nat) (b2 : Option Addr) (n2 c2 : Nat) (ha : Lst F [] 1 (d.bs.map B) ba bn bc) (hb : Lst F [] 1 (d.bs.map B) b2 n2 c2) :
    Tr Tryz.prog 38 [.agg [.int .u32 d.tsn, .int .u16 d.stream, .int .u16 d.ssn, .bool d.un, .bool d.fi, .bool d.la, .slice ba bn bc].toArray, .agg [.int .u32 d.tsn, .int .u16 d.stream, .int .u16 d.ssn, .bool d.un, .bool d.fi, .bool d.la, .slice b2 n2 c2].toArray].toArray F [] (fun v H => v = .bool true ∧ H = []) := by
  refine Tr.enter Tryz.func38 rfl Tryz.ntmps38 rfl (fun w0 => ?_)
  have h1 : d.bs.length = bn := by have := ha.len; simpa using this
  have h2 : d.bs.length = n2 := by have := hb.len; simpa using this
  repeat' (first | refine S1 ?_ | refine SD ?_ | refine SA (fun _ => ?_) | refine G1 (fun hc => ?_) (fun hc => ?_) | refine G2 (fun hc => ?_) (fun hc => ?_) | refine G3 (fun hc => ?_) (fun hc => ?_))
  all_goals try (exfalso; simp at hc; done)
  refine WL.s rfl (Rd.cvBS (bs := d.bs) (m := bn) rfl (Src.mono ha.src (fun _ h => h.sublist (List.nil_sublist _))) h1) ?_
  repeat' (first | refine S1 ?_ | refine SD ?_ | refine SA (fun _ => ?_) | refine G1 (fun hc => ?_) (fun hc => ?_) | refine G2 (fun hc => ?_) (fun hc => ?_) | refine G3 (fun hc => ?_) (fun hc => ?_))
  refine WL.s rfl (Rd.cvBS (bs := d.bs) (m := n2) rfl (Src.mono hb.src (fun _ h => h.sublist (List.nil_sublist _))) h2) ?_
  repeat' (first | refine S1 ?_ | refine SD ?_ | refine SA (fun _ => ?_) | refine G1 (fun hc => ?_) (fun hc => ?_) | refine G2 (fun hc => ?_) (fun hc => ?_) | refine G3 (fun hc => ?_) (fun hc => ?_))
  refine WL.p rfl (by exact Pu.eqS rfl rfl) ?_
  repeat' (first | refine S1 ?_ | refine SD ?_ | refine SA (fun _ => ?_) | refine G1 (fun hc => ?_) (fun hc => ?_) | refine G2 (fun hc => ?_) (fun hc => ?_) | refine G3 (fun hc => ?_) (fun hc => ?_))
  refine Fin.retW (by exact rfl) resA (H' := []) (fun _ h => h.sublist (List.nil_sublist _)) ⟨?_, rfl⟩
  simp [tup]
structure LnM where
  L : Nat
  R : Nat
  seen : List DM
  sa : Option Addr
  sn : Nat
  sc : Nat
  hb : HL
  first : Int
  cum : Nat
  now : Int
def LnM.cells (x : LnM) : List Value := [ptr x.R, .slice x.sa x.sn x.sc, .int .u32 x.first, .int .i64 x.cum, .int .i64 x.now]
def LnM.hd (x : LnM) : Nat × Obj := (x.L, .cells x.cells.toArray 40 (0, 0))
def LnM.H (x : LnM) : HL := x.hd :: (x.hb ++ x.seen.flatMap (·.bb))
def LnM.ln (x : LnM) : Snd.Ln := ⟨x.seen.map (·.d), x.first, x.cum⟩
def RowOk (M : List DM) (sa : Option Addr) (sn sc : Nat) (hb : HL) : Prop := OwnS 50 7 (M.flatMap DM.cells) (.slice sa sn sc) hb ∧ ∀ m ∈ M, m.ok
theorem RowOk.len {M : List DM} {sa : Option Addr} {sn sc : Nat} {hb : HL} (h : RowOk M sa sn sc hb) : sn = M.length := by have := OwnS.len h.1; rw [flat_len' DM.cells 7 DM.len] at this; omega
theorem RowOk.can {M : List DM} {sa : Option Addr} {sn sc : Nat} {hb : HL} (h : RowOk M sa sn sc hb) {k : Nat} {m : DM} (hk : M[k]? = some m) : ∃ b off, sa = some ⟨b, off, none⟩ ∧ ∀ F : Nat → Option Obj, Sl.Can F hb b (off + (k : Int).toNat * 7) m.cells := by
  have hl := h.len
  have hlt := (List.getElem?_eq_some_iff.1 hk).1
  have hL := fun F : Nat → Option Obj => Lst.own (F := F) h.1 (fun _ hh => hh)
  obtain ⟨b, off, ha, _⟩ := (hL (fun _ => none)).el DM.len hk (by omega)
  refine ⟨b, off, ha, fun F => ?_⟩
  obtain ⟨b', off', ha', hcan⟩ := (hL F).el DM.len hk (by omega)
  rw [ha] at ha'
  cases ha'
  exact hcan
theorem RowOk.set {M : List DM} {b off sn sc : Nat} {hb : HL} (h : RowOk M (some ⟨b, off, none⟩) sn sc hb) {k : Nat} (hk : k < M.length) {m : DM} (hm : m.ok) : ∃ hb', RowOk (M.set k m) (some ⟨b, off, none⟩) sn sc hb' ∧ PutAt b (off + k * 7) m.cells hb hb' := by
  have hfl : (M.flatMap DM.cells).length = M.length * 7 := flat_len' DM.cells 7 DM.len M
  obtain ⟨hb', hown', hput⟩ := h.1.put (k * 7) m.cells (by rw [DM.len, hfl]; omega)
  refine ⟨hb', ⟨?_, fun q hq => ?_⟩, hput⟩
  · have e : (M.set k m).flatMap DM.cells = (M.flatMap DM.cells).take (k * 7) ++ m.cells ++ (M.flatMap DM.cells).drop (k * 7 + m.cells.length) := by
      rw [List.set_eq_take_append_cons_drop, if_pos hk, List.flatMap_append, List.flatMap_cons]
      have e1 : (M.flatMap DM.cells).take (k * 7) = (M.take k).flatMap DM.cells := by
        have h1 : M.flatMap DM.cells = (M.take k).flatMap DM.cells ++ (M.drop k).flatMap DM.cells := by rw [← List.flatMap_append, List.take_append_drop]
        rw [h1]
        exact List.take_left' (by rw [flat_len' DM.cells 7 DM.len, List.length_take]; omega)
      have e2 : (M.flatMap DM.cells).drop (k * 7 + m.cells.length) = (M.drop (k + 1)).flatMap DM.cells := by
        have h1 : M.flatMap DM.cells = (M.take (k + 1)).flatMap DM.cells ++ (M.drop (k + 1)).flatMap DM.cells := by rw [← List.flatMap_append, List.take_append_drop]
        rw [h1]
        exact List.drop_left' (by rw [flat_len' DM.cells 7 DM.len, List.length_take, DM.len]; omega)
      rw [e1, e2, List.append_assoc]
    rw [e]
    exact hown'
  · rcases List.mem_or_eq_of_mem_set hq with hq | rfl
    · exact h.2 q hq
    · exact hm
structure LnM.ok (x : LnM) : Prop where
  row : RowOk x.seen x.sa x.sn x.sc x.hb
  len : x.seen.length ≤ 5000
  first : 0 ≤ x.first ∧ x.first < 4294967296
  cum : x.cum ≤ x.seen.length
def zDM : DM := ⟨Snd.dtZ, none, 0, 0, []⟩
theorem zDM_ok : zDM.ok := .inl ⟨rfl, rfl, rfl⟩
theorem put1_some {first : Int} {seen l : List Dt} {d : Dt} (h : Snd.put1 first seen d = some l) : Snd.placeOf first d.tsn ≤ 4096 ∧ d.bs ≠ [] ∧ l = (Snd.grow seen (Snd.placeOf first d.tsn)).set (Snd.placeOf first d.tsn) d ∧ ∀ o, (Snd.grow seen (Snd.placeOf first d.tsn))[Snd.placeOf first d.tsn]? = some o → Snd.isB o = true → o = d := by
  unfold Snd.put1 at h
  dsimp only at h
  split at h
  · cases h
  · rename_i h1
    split at h
    · cases h
    · rename_i o ho
      split at h
      · cases h
      · rename_i h2
        cases h
        refine ⟨by omega, fun e => h1 (.inr e), rfl, fun o' ho' hb => ?_⟩
        rw [ho] at ho'
        cases ho'
        by_cases e : o = d
        · exact e
        · exact absurd ⟨hb, e⟩ h2
theorem bb_split {M : List DM} {k : Nat} {m : DM} (h : M[k]? = some m) : M.flatMap (·.bb) = (M.take k).flatMap (·.bb) ++ (m.bb ++ (M.drop (k + 1)).flatMap (·.bb)) := by
  have hi := (List.getElem?_eq_some_iff.1 h).1
  have he := (List.getElem?_eq_some_iff.1 h).2
  have : M = M.take k ++ m :: M.drop (k + 1) := by rw [← he, ← List.drop_eq_getElem_cons hi, List.take_append_drop]
  have h2 : M.flatMap (fun q : DM => q.bb) = (M.take k ++ m :: M.drop (k + 1)).flatMap (fun q : DM => q.bb) := congrArg (fun l => List.flatMap (fun q : DM => q.bb) l) this
  rw [h2, List.flatMap_append, List.flatMap_cons]
theorem bb_set {M : List DM} {k : Nat} {m : DM} (h : M[k]? = some m) (m' : DM) : (M.set k m').flatMap (·.bb) = (M.take k).flatMap (·.bb) ++ (m'.bb ++ (M.drop (k + 1)).flatMap (·.bb)) := by
  have hi := (List.getElem?_eq_some_iff.1 h).1
  rw [List.set_eq_take_append_cons_drop, if_pos hi, List.flatMap_append, List.flatMap_cons]
theorem adv_go {l : List Dt} {c : Nat} {d : Dt} (h : l[c]? = some d) (hb : Snd.isB d = true) : Snd.adv l c = Snd.adv l (c + 1) := by
  have hi := (List.getElem?_eq_some_iff.1 h).1
  unfold Snd.adv
  rw [List.drop_eq_getElem_cons hi, (List.getElem?_eq_some_iff.1 h).2, List.takeWhile_cons, if_pos hb, List.length_cons]
  omega
theorem adv_stop {l : List Dt} {c : Nat} {d : Dt} (h : l[c]? = some d) (hb : Snd.isB d = false) : Snd.adv l c = c := by
  have hi := (List.getElem?_eq_some_iff.1 h).1
  unfold Snd.adv
  rw [List.drop_eq_getElem_cons hi, (List.getElem?_eq_some_iff.1 h).2, List.takeWhile_cons, if_neg (by rw [hb]; decide)]
  rfl
theorem adv_end {l : List Dt} {c : Nat} (h : l.length ≤ c) : Snd.adv l c = c := by
  unfold Snd.adv
  rw [List.drop_of_length_le h]
  rfl
structure GTk where
  i : Nat
  M : List DM
  sa : Option Addr
  sn : Nat
  sc : Nat
  hb : HL
def tkH (x : LnM) (cum : Nat) (g : GTk) (rest : HL) : HL := (x.L, .cells [ptr x.R, .slice g.sa g.sn g.sc, .int .u32 x.first, .int .i64 cum, .int .i64 x.now].toArray 40 (0, 0)) :: (g.hb ++ (g.M.flatMap (·.bb) ++ rest))
set_option maxHeartbeats 8000000 in
theorem ltake_tr (F : Nat → Option Obj) (x : LnM) (hx : x.ok) (o : OuM) (ho : o.ok) (hfew : o.sn ≤ 1000000) (ht : ∀ d ∈ o.L, 0 ≤ d.tsn ∧ d.tsn < 4294967296) (ln' : Snd.Ln) (hln : x.ln.take o.L = some ln') :
    Tr Tryz.prog 13 [ptr x.L, .slice o.sa o.sn o.sc].toArray F (x.H ++ (o.hb ++ o.bb)) (fun v H => v = .bool true ∧ ∃ x' : LnM, x'.ok ∧ x'.L = x.L ∧ x'.R = x.R ∧ x'.now = x.now ∧ x'.ln = ln' ∧ H = x'.H) := by
  refine Tr.enter Tryz.func13 rfl Tryz.ntmps13 rfl (fun w0 => ?_)
  obtain ⟨fin, hfin⟩ : ∃ fin, Snd.putL x.first (x.seen.map (·.d)) o.L = some fin := by
    unfold Snd.Ln.take at hln
    cases h : Snd.putL x.ln.first x.ln.seen o.L with
    | none => rw [h] at hln; cases hln
    | some f => exact ⟨f, h⟩
  have hl' : ln' = ⟨fin, x.first, Snd.adv fin x.cum⟩ := by
    unfold Snd.Ln.take at hln
    rw [show Snd.putL x.ln.first x.ln.seen o.L = some fin from hfin] at hln
    exact (Option.some.inj hln).symm
  have horow : RowOk o.ds o.sa o.sn o.sc o.hb := ⟨ho.row, ho.own⟩
  have hon := horow.len
  unfold LnM.H LnM.hd LnM.cells
  repeat' (first | refine S2b ?_ | refine SD ?_ | refine SA (fun _ => ?_) | refine G1 (fun hc => ?_) (fun hc => ?_) | refine G2 (fun hc => ?_) (fun hc => ?_) | refine G3 (fun hc => ?_) (fun hc => ?_) | refine SL ?_ | fail)
  refine W.loop (G := GTk) (fun g => [(0, ptr x.L), (1, .slice o.sa o.sn o.sc), (5, .int .i64 g.i)]) (fun g => tkH x x.cum g (o.hb ++ (o.ds.drop g.i).flatMap (·.bb)))
    (fun g => g.i ≤ o.sn ∧ RowOk g.M g.sa g.sn g.sc g.hb ∧ g.M.length ≤ 5000 ∧ x.cum ≤ g.M.length ∧ Snd.putL x.first (g.M.map (·.d)) ((o.ds.drop g.i).map (·.d)) = some fin) (fun g => o.sn - g.i) ⟨0, x.seen, x.sa, x.sn, x.sc, x.hb⟩ ⟨Nat.zero_le _, hx.row, hx.len, hx.cum, hfin⟩ envA (fun _ h => by unfold tkH; simp only [List.cons_append, List.append_assoc] at h; exact h) ?_
  rintro ⟨i, M, sa, sn, sc, hb⟩ ⟨hi, hrow, hlen, hcm, hput⟩
  dsimp only at hi hrow hlen hcm hput ⊢
  unfold tkH
  dsimp only
  repeat' (first | refine S2b ?_ | refine SA (fun _ => ?_) | refine G1 (fun hc => ?_) (fun hc => ?_) | refine G2 (fun hc => ?_) (fun hc => ?_) | refine G3 (fun hc => ?_) (fun hc => ?_) | refine SL ?_ | fail)
  · have hi' : i < o.sn := by have := of_decide_eq_true hc; omega
    obtain ⟨m, hm⟩ : ∃ m, o.ds[i]? = some m := ⟨o.ds[i]'(by omega), List.getElem?_eq_getElem _⟩
    have hmo := ho.own m (List.mem_of_getElem? hm)
    have hd : o.ds.drop i = m :: o.ds.drop (i + 1) := by rw [List.drop_eq_getElem_cons (by omega), (List.getElem?_eq_some_iff.1 hm).2]
    rw [hd] at hput ⊢
    rw [List.map_cons, Snd.putL] at hput
    cases hp1 : Snd.put1 x.first (M.map (·.d)) m.d with
    | none => rw [hp1] at hput; cases hput
    | some M1 =>
    rw [hp1] at hput
    dsimp only at hput
    obtain ⟨hk4, hdne, hM1, hsame⟩ := put1_some hp1
    have htr := ht m.d (List.mem_map.2 ⟨m, List.mem_of_getElem? hm, rfl⟩)
    have hxf := hx.first
    obtain ⟨k, hk⟩ : ∃ k, Snd.placeOf x.first m.d.tsn = k := ⟨_, rfl⟩
    have hku : IntKind.u32.wrap (m.d.tsn - x.first) = (k : Int) := by
      rw [← hk]
      have h := Flt.u32_mod (m.d.tsn - x.first)
      unfold Snd.placeOf
      unfold Spn.u32 at h ⊢
      omega
    rw [hk] at hk4 hM1 hsame
    obtain ⟨pb, po, hoa, hpc⟩ := horow.can hm
    have hpc := hpc F
    have hia : 0 ≤ (i : Int) ∧ (i : Int) < o.sn := by omega
    have hbn : m.bn = m.d.bs.length := by have := OwnS.len hmo; simp at this; omega
    have hbpos : 0 < m.d.bs.length := List.length_pos_iff.2 hdne
    have hp0 : Sl.Can F o.hb pb (po + (i : Int).toNat * 7 + 0) [.int .u32 m.d.tsn] := hpc.one (i := 0) rfl
    have hp6 : Sl.Can F o.hb pb (po + (i : Int).toNat * 7 + 6) [.slice m.ba m.bn m.bc] := hpc.one (i := 6) rfl
    rw [List.flatMap_cons, hoa]
    refine W.drawA ?_
    repeat' (first | refine S2b ?_ | refine SD ?_ | refine SA (fun _ => ?_) | refine G1 (fun hc => ?_) (fun hc => ?_) | refine G2 (fun hc => ?_) (fun hc => ?_) | refine G3 (fun hc => ?_) (fun hc => ?_) | refine SL ?_ | fail)
    · exfalso
      rw [hku, i64_id (by omega) (by omega)] at hc
      have := of_decide_eq_true hc
      omega
    · exfalso
      have : (m.bn : Int) = 0 := by simpa using hc
      omega
    rw [hku, i64_id (n := (k : Int)) (by omega) (by omega)]
    refine W.loop (G := GTk) (fun g => [(0, ptr x.L), (1, .slice (some ⟨pb, po, none⟩) o.sn o.sc), (5, .int .i64 i), (6, .int .i64 k)]) (fun g => tkH x x.cum g (o.hb ++ (m.bb ++ (o.ds.drop (i + 1)).flatMap (·.bb))))
      (fun g => (∃ j, g.M = M ++ List.replicate j zDM ∧ j ≤ k + 1 - M.length) ∧ RowOk g.M g.sa g.sn g.sc g.hb) (fun g => k + 1 - g.M.length) ⟨0, M, sa, sn, sc, hb⟩ ⟨⟨0, by simp, Nat.zero_le _⟩, hrow⟩ envA (fun _ h => by unfold tkH; exact h) ?_
    rintro ⟨_, M2, sa2, sn2, sc2, hb2⟩ ⟨⟨j, hM2, hj⟩, hrow2⟩
    dsimp only at hM2 hrow2 ⊢
    have hsn2 := hrow2.len
    have hM2l : M2.length = M.length + j := by rw [hM2]; simp
    unfold tkH
    dsimp only
    repeat' (first | refine S2b ?_ | refine SA (fun _ => ?_) | refine G1 (fun hc => ?_) (fun hc => ?_) | refine G2 (fun hc => ?_) (fun hc => ?_) | refine G3 (fun hc => ?_) (fun hc => ?_) | refine SL ?_ | fail)
    · have hle : (sn2 : Int) ≤ k := of_decide_eq_true hc
      refine WL.e rfl (Ef.app (m := 1) (news := zDM.cells) (hb := hb2) (by exact rfl) (by exact rfl) rfl rfl hrow2.1 (.last (.there (.there .here))) (Src.own (n := 7) (.here rfl)) rfl (dm_one' zDM) (by rw [flat_len' DM.cells 7 DM.len]; simp [DM.cells]; omega) (by rw [flat_len' DM.cells 7 DM.len]; simp [DM.cells, maxLen]; omega)) ?_
      rintro v' _ ⟨hb', hown', rfl⟩
      obtain ⟨ja, jn, jc, rfl, _, _⟩ := OwnS.shape hown'
      repeat' (first | refine S2b ?_ | refine SA (fun _ => ?_) | refine G1 (fun hc => ?_) (fun hc => ?_) | refine G2 (fun hc => ?_) (fun hc => ?_) | refine G3 (fun hc => ?_) (fun hc => ?_) | refine SL ?_ | fail)
      refine Fin.round ⟨0, M2 ++ [zDM], ja, jn, jc, hb'⟩ ⟨⟨j + 1, by rw [hM2, List.append_assoc, List.replicate_succ'], by omega⟩, ⟨by rw [List.flatMap_append]; simpa using hown', fun q hq => ?_⟩⟩ envA (fun _ h => ?_) (by dsimp only; rw [List.length_append, List.length_singleton]; omega)
      · rcases List.mem_append.1 hq with hq | hq
        · exact hrow2.2 q hq
        · rw [List.mem_singleton.1 hq]; exact zDM_ok
      · dsimp only
        have e : (M2 ++ [zDM]).flatMap (·.bb) = M2.flatMap (·.bb) := by rw [List.flatMap_append]; simp [zDM]
        rw [e]
        exact In.of_sub (.pick (.right (.there .here)) (.pickL (L := hb') .here (.last (.there .all)))) h
    have hgt : ¬ (sn2 : Int) ≤ k := of_decide_eq_false hc
    have hj2 : j = k + 1 - M.length := by omega
    have hgrow : M2.map (·.d) = Snd.grow (M.map (·.d)) k := by
      rw [hM2, hj2]
      unfold Snd.grow
      rw [List.map_append, List.map_replicate, List.length_map]
      rfl
    obtain ⟨m2, hm2⟩ : ∃ m2, M2[k]? = some m2 := ⟨M2[k]'(by omega), List.getElem?_eq_getElem _⟩
    have hm2o := hrow2.2 m2 (List.mem_of_getElem? hm2)
    have hm2g : (Snd.grow (M.map (·.d)) k)[k]? = some m2.d := by rw [← hgrow, List.getElem?_map, hm2]; rfl
    have hsm2 := hsame m2.d hm2g
    have hbn2 : m2.bn = m2.d.bs.length := by have := OwnS.len hm2o; simp at this; omega
    obtain ⟨sb, so, hsa2, hsc⟩ := hrow2.can hm2
    have hsc := hsc F
    have hs6 : Sl.Can F hb2 sb (so + (k : Int).toNat * 7 + 6) [.slice m2.ba m2.bn m2.bc] := hsc.one (i := 6) rfl
    have hik : 0 ≤ (k : Int) ∧ (k : Int) < sn2 := by omega
    rw [hsa2] at hrow2 ⊢
    refine W.cut (G := Unit) (fun _ => [(0, ptr x.L), (1, .slice (some ⟨pb, po, none⟩) o.sn o.sc), (5, .int .i64 i), (6, .int .i64 k), (76, .bool false)]) (fun _ => tkH x x.cum ⟨0, M2, some ⟨sb, so, none⟩, sn2, sc2, hb2⟩ (o.hb ++ (m.bb ++ (o.ds.drop (i + 1)).flatMap (·.bb)))) (fun _ => True) (fun K' hK _ => ?_) ?_
    · refine W.drawA ?_
      repeat' (first | refine S2b ?_ | refine SA (fun _ => ?_) | refine G1 (fun hc => ?_) (fun hc => ?_) | refine G2 (fun hc => ?_) (fun hc => ?_) | refine G3 (fun hc => ?_) (fun hc => ?_) | refine SL ?_ | fail)
      · have hpos : (m2.bn : Int) > 0 := of_decide_eq_true hc
        have hdd : m2.d = m.d := hsm2 (decide_eq_true (fun e => by rw [e] at hbn2; simp at hbn2; omega))
        obtain ⟨d2, ba2, bn2, bc2, bb2⟩ := m2
        dsimp only at hdd hsc hm2o
        subst hdd
        refine WD.s rfl (Rd.ldaC rfl rfl (hsc.mono (fun _ h => h.sublist (.cons _ (List.sublist_append_left _ _))))) ?_
        repeat' (first | refine S2b ?_ | refine SA (fun _ => ?_) | refine G1 (fun hc => ?_) (fun hc => ?_) | refine G2 (fun hc => ?_) (fun hc => ?_) | refine G3 (fun hc => ?_) (fun hc => ?_) | refine SL ?_ | fail)
        refine WD.s rfl (Rd.ldaC rfl rfl (hpc.mono (fun _ h => h.sublist (.cons _ (List.Sublist.trans (List.Sublist.trans (List.sublist_append_left _ _) (List.sublist_append_right _ _)) (List.sublist_append_right _ _)))))) ?_
        repeat' (first | refine S2b ?_ | refine SA (fun _ => ?_) | refine G1 (fun hc => ?_) (fun hc => ?_) | refine G2 (fun hc => ?_) (fun hc => ?_) | refine G3 (fun hc => ?_) (fun hc => ?_) | refine SL ?_ | fail)
        refine WD.e rfl (Ef.lookR (by exact rfl) (fun F' hF => same_tr F' m.d ba2 bn2 bc2 m.ba m.bn m.bc
          ((Lst.own (F := F) (H := bb2) hm2o (fun _ h => h)).mono (fun w h => (hF w h).sublist (.cons _ (List.Sublist.trans (List.Sublist.trans (flat_sub (fun q : DM => q.bb) (List.mem_of_getElem? hm2)) (List.sublist_append_left _ _)) (List.sublist_append_right _ _)))))
          ((Lst.own (F := F) (H := m.bb) hmo (fun _ h => h)).mono (fun w h => (hF w h).sublist (.cons _ (List.Sublist.trans (List.Sublist.trans (List.Sublist.trans (List.sublist_append_left _ _) (List.sublist_append_right _ _)) (List.sublist_append_right _ _)) (List.sublist_append_right _ _))))))) ?_
        rintro _ _ ⟨rfl, rfl⟩
        refine ⟨.inl (by kernel_rfl), ?_⟩
        repeat' (first | refine S2b ?_ | refine SA (fun _ => ?_) | refine G1 (fun hc => ?_) (fun hc => ?_) | refine G2 (fun hc => ?_) (fun hc => ?_) | refine G3 (fun hc => ?_) (fun hc => ?_) | refine SL ?_ | fail)
        exact Fin.cut hK () trivial envA (fun _ h => by unfold tkH; exact h)
      · exact Fin.cut hK () trivial envA (fun _ h => by unfold tkH; exact h)
    rintro _ _
    unfold tkH
    dsimp only
    repeat' (first | refine S2b ?_ | refine SA (fun _ => ?_) | refine G1 (fun hc => ?_) (fun hc => ?_) | refine G2 (fun hc => ?_) (fun hc => ?_) | refine G3 (fun hc => ?_) (fun hc => ?_) | refine SL ?_ | fail)
    refine W.drawA ?_
    repeat' (first | refine S2b ?_ | refine SA (fun _ => ?_) | refine G1 (fun hc => ?_) (fun hc => ?_) | refine G2 (fun hc => ?_) (fun hc => ?_) | refine G3 (fun hc => ?_) (fun hc => ?_) | refine SL ?_ | fail)
    refine WD.s rfl (Rd.ldaC rfl rfl (hpc.mono (fun _ h => h.sublist (.cons _ (List.Sublist.trans (List.Sublist.trans (List.sublist_append_left _ _) (List.sublist_append_right _ _)) (List.sublist_append_right _ _)))))) ?_
    repeat' (first | refine S2b ?_ | refine SA (fun _ => ?_) | refine G1 (fun hc => ?_) (fun hc => ?_) | refine G2 (fun hc => ?_) (fun hc => ?_) | refine G3 (fun hc => ?_) (fun hc => ?_) | refine SL ?_ | fail)
    obtain ⟨hb3, hrow3, hput3⟩ := hrow2.set (k := k) (by omega) (m := m) hmo
    refine WD.e0 (Ef.sta rfl rfl rfl rfl (.there (.left hput3))) ?_
    rintro _ _ ⟨rfl, rfl⟩
    refine ⟨.inl (by kernel_rfl), ?_⟩
    repeat' (first | refine S2b ?_ | refine SA (fun _ => ?_) | refine G1 (fun hc => ?_) (fun hc => ?_) | refine G2 (fun hc => ?_) (fun hc => ?_) | refine G3 (fun hc => ?_) (fun hc => ?_) | refine SL ?_ | fail)
    rw [i64_succ (by omega), ← hoa]
    refine Fin.round ⟨i + 1, M2.set k m, some ⟨sb, so, none⟩, sn2, sc2, hb3⟩ ⟨hi', hrow3, by dsimp only; rw [List.length_set]; omega, by dsimp only; rw [List.length_set]; omega, by dsimp only; rw [List.map_set, hgrow, ← hM1]; exact hput⟩ envA (fun _ h => ?_) (by dsimp only; omega)
    dsimp only
    rw [bb_set hm2 m, List.append_assoc, List.append_assoc]
    rw [bb_split hm2, List.append_assoc, List.append_assoc] at h
    exact In.of_sub (.pick .here (.pickL (L := hb3) .here (.pickL (L := (M2.take k).flatMap (·.bb)) .here (.pickL (L := m.bb) (.right (.right (.right .here))) (.pickL (L := (M2.drop (k + 1)).flatMap (·.bb)) (.right .here) (.pickL (L := o.hb) (.right .here) (.last (.right .all)))))))) h
  · have hi' : i = o.ds.length := by have := of_decide_eq_false hc; omega
    subst hi'
    rw [List.drop_length] at hput
    have hMf : M.map (·.d) = fin := Option.some.inj hput
    have hsn := hrow.len
    refine W.loop (G := GK) (fun _ => [(0, ptr x.L)]) (fun g => tkH x g.i ⟨0, M, sa, sn, sc, hb⟩ (o.hb ++ (o.ds.drop o.ds.length).flatMap (·.bb))) (fun g => g.i ≤ M.length ∧ Snd.adv fin g.i = Snd.adv fin x.cum) (fun g => M.length - g.i) ⟨x.cum⟩ ⟨hcm, rfl⟩ envA (fun _ h => by unfold tkH; exact h) ?_
    rintro ⟨c⟩ ⟨hcl, hadv⟩
    dsimp only at hcl hadv ⊢
    have hret : Snd.adv fin c = c → (∃ x' : LnM, x'.ok ∧ x'.L = x.L ∧ x'.R = x.R ∧ x'.now = x.now ∧ x'.ln = ln' ∧ tkH x c ⟨0, M, sa, sn, sc, hb⟩ [] = x'.H) := fun hst => by
      refine ⟨⟨x.L, x.R, M, sa, sn, sc, hb, x.first, c, x.now⟩, ⟨hrow, hlen, hx.first, hcl⟩, rfl, rfl, rfl, ?_, ?_⟩
      · rw [hl', ← hadv, hst, ← hMf]
        rfl
      · unfold tkH LnM.H LnM.hd LnM.cells
        dsimp only
        rw [List.append_nil]
    by_cases hcM : c < M.length
    · obtain ⟨q, hq⟩ : ∃ q, M[c]? = some q := ⟨M[c]'hcM, List.getElem?_eq_getElem _⟩
      have hqf : fin[c]? = some q.d := by rw [← hMf, List.getElem?_map, hq]; rfl
      have hqb : q.bn = q.d.bs.length := by have := OwnS.len (hrow.2 q (List.mem_of_getElem? hq)); simp at this; omega
      obtain ⟨sb, so, hsa, hsc⟩ := hrow.can hq
      have hs6 : Sl.Can F hb sb (so + (c : Int).toNat * 7 + 6) [.slice q.ba q.bn q.bc] := (hsc F).one (i := 6) rfl
      have hic : 0 ≤ (c : Int) ∧ (c : Int) < sn := by omega
      unfold tkH at hret ⊢
      dsimp only at hret ⊢
      rw [hsa] at hret ⊢
      repeat' (first | refine S2b ?_ | refine SA (fun _ => ?_) | refine G1 (fun hc => ?_) (fun hc => ?_) | refine G2 (fun hc => ?_) (fun hc => ?_) | refine SL ?_ | fail)
      refine W.drawA ?_
      repeat' (first | refine S2b ?_ | refine SA (fun _ => ?_) | refine G1 (fun hc => ?_) (fun hc => ?_) | refine G2 (fun hc => ?_) (fun hc => ?_) | refine G3 (fun hc => ?_) (fun hc => ?_) | refine SL ?_ | fail)
      · have hpos : (q.bn : Int) > 0 := of_decide_eq_true hc
        rw [i64_succ (by omega)]
        refine Fin.round ⟨c + 1⟩ ⟨hcM, ?_⟩ envA (fun _ h => h) (by dsimp only; omega)
        dsimp only
        rw [← hadv]
        exact (adv_go hqf (decide_eq_true (fun e => by rw [e] at hqb; simp at hqb; omega))).symm
      · have hz : ¬ (q.bn : Int) > 0 := of_decide_eq_false hc
        obtain ⟨x', h1, h2, h3, h4, h5, h6⟩ := hret (adv_stop hqf (decide_eq_false (fun e => e (List.length_eq_zero_iff.1 (by omega)))))
        exact Fin.retW (by exact rfl) resA (H' := x'.H) (fun _ h => by rw [← h6, List.append_nil]; exact h.sublist (.cons_cons _ (List.Sublist.append_left (List.sublist_append_left _ _) _))) ⟨rfl, x', h1, h2, h3, h4, h5, rfl⟩
      · exfalso
        have := of_decide_eq_false hc
        omega
    · unfold tkH at hret ⊢
      dsimp only at hret ⊢
      repeat' (first | refine S2b ?_ | refine SA (fun _ => ?_) | refine G1 (fun hc => ?_) (fun hc => ?_) | refine G2 (fun hc => ?_) (fun hc => ?_) | refine SL ?_ | fail)
      refine W.drawA ?_
      repeat' (first | refine S2b ?_ | refine SA (fun _ => ?_) | refine G1 (fun hc => ?_) (fun hc => ?_) | refine G2 (fun hc => ?_) (fun hc => ?_) | refine G3 (fun hc => ?_) (fun hc => ?_) | refine SL ?_ | fail)
      · exfalso
        have := of_decide_eq_true ‹decide ((c : Int) < (sn : Int)) = true›
        omega
      · obtain ⟨x', h1, h2, h3, h4, h5, h6⟩ := hret (adv_end (by rw [← hMf, List.length_map]; omega))
        exact Fin.retW (by exact rfl) resA (H' := x'.H) (fun _ h => by rw [← h6, List.append_nil]; exact h.sublist (.cons_cons _ (List.Sublist.append_left (List.sublist_append_left _ _) _))) ⟨rfl, x', h1, h2, h3, h4, h5, rfl⟩
end Go.Proofs.YtjfpckadjnjmoaaGreat
