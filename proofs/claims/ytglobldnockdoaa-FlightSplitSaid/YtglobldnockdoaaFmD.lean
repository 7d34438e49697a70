/- The law FlightSplit, walked. Conditions: what the arguments' cells are. -/
import Derived.Test.YtglobldnockdoaaFlL
namespace Go.Proofs.Ytglobldnockdoaa
open Go Go.Sl Go.Flt

/-- the places of those on the first path -/
def zL (on : List Bool) (i : Nat) : List Nat := (List.range i).filter (fun j => on[j]? == some false)
theorem zL_true {on : List Bool} {i : Nat} (h : on[i]? = some true) : zL on (i + 1) = zL on i := by
  unfold zL
  rw [List.range_succ, List.filter_append, List.filter_cons_of_neg (by simp [h])]
  simp
theorem zL_false {on : List Bool} {i : Nat} (h : on[i]? = some false) : zL on (i + 1) = zL on i ++ [i] := by
  unfold zL
  rw [List.range_succ, List.filter_append, List.filter_cons_of_pos (by simp [h])]
  simp
theorem zL_mem {on : List Bool} {i z : Nat} (h : z ∈ zL on i) : on[z]? = some false := by
  unfold zL at h
  rw [List.mem_filter] at h
  simpa using h.2
theorem InvS.small {s : Flt.S} {on : List Bool} (h : InvS s on) : sumB (fun _ => true) s.L = s.L.length * 10 := by
  have hb : ∀ r ∈ s.L, r.bs.length = 10 := fun r hr => by
    obtain ⟨i, hi⟩ := List.getElem?_of_mem hr
    exact h.bs i r hi
  generalize s.L = L at hb
  induction L with
  | nil => rfl
  | cons r L ih =>
    have h1 := hb r (by simp)
    have h2 := ih (fun q hq => hb q (by simp [hq]))
    unfold sumB at h2 ⊢
    rw [List.filter_cons_of_pos (by rfl), List.map_cons, List.sum_cons, List.length_cons, h1, h2]
    omega
theorem cnt_take {on : List Bool} {i : Nat} {b : Bool} (h : on[i]? = some b) : ((on.take (i + 1)).filter id).length = ((on.take i).filter id).length + if b then 1 else 0 := by
  rw [List.take_add_one, h, List.filter_append]
  cases b <;> simp
theorem cnt_le (on : List Bool) (i : Nat) : ((on.take i).filter id).length ≤ on.length := Nat.le_trans (List.length_filter_le _ _) (by simp; omega)
structure SpaG where
  i : Nat
  f : FM
  za : Option Addr
  zn : Nat
  zc : Nat
  zb : HL
structure SpbG where
  i : Nat
  f : FM
def zI (n : Nat) : Value := .int .i64 (n : Int)
set_option maxHeartbeats 8000000 in
theorem splitLaw_tr (F : Nat → Option Obj) (first : Int) (on : List Bool) (sa : Option Addr) (sn sc : Nat) (hl : Lst F [] 1 (on.map Value.bool) sa sn sc) (acks : List UInt8) (ta : Option Addr) (tn tc : Nat) (ht : Lst F [] 1 (acks.map B) ta tn tc) :
    Tr Try.prog 4 [.int .u32 first, .slice sa sn sc, .slice ta tn tc].toArray F [] (fun v H => v = .bool true ∧ H = []) := by
  refine Tr.enter Try.func4 rfl Try.ntmps4 rfl (fun w0 => ?_)
  have hln : on.length = sn := by have := hl.len; simpa using this
  have htn : acks.length = tn := by have := ht.len; simpa using this
  repeat' (first | refine S1 ?_ | refine SD ?_ | refine SA (fun _ => ?_) | refine WL.g_split rfl rfl (fun hc => ?_) (fun hc => ?_) | refine WD.g_split rfl rfl (fun hc => ?_) (fun hc => ?_) | refine W.cond rfl (fun hc => ?_) (fun hc => ?_))
  ·
    refine WL.e rfl (Ef.call (c := []) (by exact rfl) (.nil _) (works_tr _)) ?_
    rintro _ _ ⟨_, ⟨rfl, rfl⟩, rfl⟩
    rw [List.nil_append]
    repeat' (first | refine S1 ?_ | refine SD ?_ | refine SA (fun _ => ?_) | refine WL.g_split rfl rfl (fun hc => ?_) (fun hc => ?_) | refine WD.g_split rfl rfl (fun hc => ?_) (fun hc => ?_) | refine W.cond rfl (fun hc => ?_) (fun hc => ?_))
    exact Fin.retW (by exact rfl) resA (H' := []) (fun _ h => h.sublist (List.nil_sublist _)) ⟨rfl, rfl⟩
  ·
    refine WL.e rfl (Ef.call (c := []) (by exact rfl) (.nil _) (works_tr _)) ?_
    rintro _ _ ⟨_, ⟨rfl, rfl⟩, rfl⟩
    rw [List.nil_append]
    repeat' (first | refine S1 ?_ | refine SD ?_ | refine SA (fun _ => ?_) | refine WL.g_split rfl rfl (fun hc => ?_) (fun hc => ?_) | refine WD.g_split rfl rfl (fun hc => ?_) (fun hc => ?_) | refine W.cond rfl (fun hc => ?_) (fun hc => ?_))
    exact Fin.retW (by exact rfl) resA (H' := []) (fun _ h => h.sublist (List.nil_sublist _)) ⟨rfl, rfl⟩
  have hs60 : sn ≤ 60 := by rename_i h1; have := of_decide_eq_false h1; omega
  have ht60 : tn ≤ 60 := by have := of_decide_eq_false hc; omega
  refine WL.e rfl (Ef.call (by exact rfl) (.nil _) (new_tr _ 2 first)) ?_
  rintro _ _ ⟨_, hq, rfl⟩
  rcases hq with ⟨h, _⟩ | ⟨_, b, rfl, rfl⟩
  · exact absurd (by decide) h
  obtain ⟨c, hc0⟩ : ∃ c, Spn.u32 (first - 1) = c := ⟨_, rfl⟩
  have hcr : 0 ≤ c ∧ c < 4294967296 := by rw [← hc0]; exact u32_mod _
  obtain ⟨f0, hf0⟩ : ∃ f0, FM.empty b 2 first = f0 := ⟨_, rfl⟩
  have ok0 : f0.ok := by rw [← hf0]; exact FM.empty_ok _ _ _
  have S0 : f0.S = ⟨[], c, 2⟩ := by rw [← hf0, ← hc0]; rfl
  have R0 : b = f0.R := by rw [← hf0]; rfl
  have I0 : InvS f0.S (on.take 0) := by
    rw [S0]
    exact ⟨new_good hcr (by decide), rfl, rfl, fun i r h => by simp at h, fun i r h => by simp at h⟩
  rw [List.append_nil, hf0, R0]
  clear hf0 R0
  repeat' (first | refine S1 ?_ | refine SD ?_ | refine SA (fun _ => ?_) | refine WL.g_split rfl rfl (fun hc => ?_) (fun hc => ?_) | refine WD.g_split rfl rfl (fun hc => ?_) (fun hc => ?_) | refine W.cond rfl (fun hc => ?_) (fun hc => ?_))
  refine W.loop (G := SpaG) (fun g => [(0, .int .u32 first), (1, .slice sa sn sc), (2, .slice ta tn tc), (7, .pointer (some ⟨f0.R, 0, none⟩)), (9, .int .i64 ((((on.take g.i).filter id).length * 10 : Nat) : Int)), (10, .slice g.za g.zn g.zc), (11, .int .i64 g.i)])
    (fun g => g.zb ++ g.f.H) (fun g => g.i ≤ sn ∧ g.f.ok ∧ g.f.R = f0.R ∧ InvS g.f.S (on.take g.i) ∧ g.f.S.c = c ∧ OwnS 3 1 ((zL on g.i).map zI) (.slice g.za g.zn g.zc) g.zb) (fun g => sn - g.i) ⟨0, f0, none, 0, 0, []⟩ ⟨Nat.zero_le _, ok0, rfl, I0, by rw [S0], .inl ⟨rfl, rfl, rfl⟩⟩ envA (fun _ h => h) ?_
  rintro ⟨i, f, za, zn, zc, zb⟩ ⟨hi, hf, hR, hI, hcS, hz⟩
  dsimp only at hi hf hR hI hcS hz ⊢
  rw [← hR]
  repeat' (first | refine S1 ?_ | refine SD ?_ | refine SA (fun _ => ?_) | refine WL.g_split rfl rfl (fun hc => ?_) (fun hc => ?_) | refine WD.g_split rfl rfl (fun hc => ?_) (fun hc => ?_) | refine W.cond rfl (fun hc => ?_) (fun hc => ?_))
  · have hi' : i < sn := by have := of_decide_eq_true hc; omega
    obtain ⟨bb, hbb⟩ : ∃ bb, on[i]? = some bb := ⟨on[i]'(by omega), by simp⟩
    obtain ⟨b1, o1, rfl, hcc⟩ := hl.can (by omega)
    have hcan : Sl.Can F [] b1 (o1 + (i : Int).toNat * 1) [.bool bb] := by
      have := hcc.one (i := i) (v := .bool bb) (by rw [List.getElem?_map, hbb]; rfl)
      rw [show o1 + (i : Int).toNat * 1 = o1 + i by omega]
      exact this
    have hia : 0 ≤ (i : Int) ∧ (i : Int) < sn := by omega
    have htk : on.take (i + 1) = on.take i ++ [bb] := by rw [List.take_add_one, hbb]; rfl
    have hcn := cnt_take hbb
    have hcl := cnt_le on i
    obtain ⟨hI1, hE1⟩ := hI.add (by simp; omega) bb (i : Int) (i : Int)
    rw [← htk] at hI1
    have hzl : (zL on i).length = zn := by have := hz.len; simpa using this
    have hzn : zn ≤ 60 := by
      have h1 : (zL on i).length ≤ (List.range i).length := List.length_filter_le _ _
      rw [List.length_range] at h1
      omega
    cases bb with
    | true =>
      simp only [if_true] at hI1 hE1 hcn
      repeat' (first | refine S1 ?_ | refine SD ?_ | refine SA (fun _ => ?_) | refine WL.g_split rfl rfl (fun hc => ?_) (fun hc => ?_) | refine WD.g_split rfl rfl (fun hc => ?_) (fun hc => ?_) | refine W.cond rfl (fun hc => ?_) (fun hc => ?_))
      refine WL.e rfl (Ef.mkS (n := 10) (by exact rfl) (by exact rfl) rfl rfl (by omega) (by omega)) ?_
      rintro _ _ ⟨b41, rfl, rfl⟩
      repeat' (first | refine S1 ?_ | refine SD ?_ | refine SA (fun _ => ?_) | refine WL.g_split rfl rfl (fun hc => ?_) (fun hc => ?_) | refine WD.g_split rfl rfl (fun hc => ?_) (fun hc => ?_) | refine W.cond rfl (fun hc => ?_) (fun hc => ?_))
      refine WL.e rfl (Ef.callW (c := f.H) (by exact rfl) (.last (.there (.right .all))) (fun F' hF => add_tr F' f hf z10 (some ⟨b41, 0, none⟩) 10 10 ((Lst.own (F := F) (made_own _ b41 10 (by omega)) (fun _ h => h)).mono (fun w h => (hF w h).sublist (.cons_cons _ (List.nil_sublist _)))) (by simp [z10]) 1 i i)) ?_
      rintro _ _ ⟨_, ⟨rfl, f1, hf1, rfl, hR1, hS1⟩, rfl⟩
      rw [hE1, ← hR1]
      repeat' (first | refine S1 ?_ | refine SD ?_ | refine SA (fun _ => ?_) | refine WL.g_split rfl rfl (fun hc => ?_) (fun hc => ?_) | refine WD.g_split rfl rfl (fun hc => ?_) (fun hc => ?_) | refine W.cond rfl (fun hc => ?_) (fun hc => ?_))
      rw [i64_succ (by omega), show IntKind.i64.wrap (((((on.take i).filter id).length * 10 : Nat) : Int) + 10) = ((((on.take (i + 1)).filter id).length * 10 : Nat) : Int) by rw [i64_id (by omega) (by omega)]; omega]
      exact Fin.round ⟨i + 1, f1, za, zn, zc, zb⟩ ⟨hi', hf1, rfl, by dsimp only; rw [hS1]; exact hI1, by dsimp only; rw [hS1]; exact (by unfold Flt.add; split <;> rfl : (Flt.add f.S z10 1 i i).c = f.S.c).trans hcS, by dsimp only; rw [zL_true hbb]; exact hz⟩ envA (fun _ h => In.of_sub (.pickL (L := zb) (.right (.there .here)) (.last (L := f1.H) .here)) h) (by dsimp only; omega)
    | false =>
      simp only [Bool.false_eq_true, if_false] at hI1 hE1 hcn
      repeat' (first | refine S1 ?_ | refine SD ?_ | refine SA (fun _ => ?_) | refine WL.g_split rfl rfl (fun hc => ?_) (fun hc => ?_) | refine WD.g_split rfl rfl (fun hc => ?_) (fun hc => ?_) | refine W.cond rfl (fun hc => ?_) (fun hc => ?_))
      refine WL.e rfl (Ef.app (m := 1) (news := [zI i]) (hb := zb) (by exact rfl) (by exact rfl) rfl rfl hz (.last (.there .here)) (Src.own (n := 1) (.here rfl)) rfl (by simp [zI, Value.oneCell']) (by simp; omega) (by simp [maxLen]; omega)) ?_
      rintro v' _ ⟨zb2, hz2, rfl⟩
      obtain ⟨za2, zn2, zc2, rfl, _, _⟩ := OwnS.shape hz2
      repeat' (first | refine S1 ?_ | refine SD ?_ | refine SA (fun _ => ?_) | refine WL.g_split rfl rfl (fun hc => ?_) (fun hc => ?_) | refine WD.g_split rfl rfl (fun hc => ?_) (fun hc => ?_) | refine W.cond rfl (fun hc => ?_) (fun hc => ?_))
      refine WL.e rfl (Ef.mkS (n := 10) (by exact rfl) (by exact rfl) rfl rfl (by omega) (by omega)) ?_
      rintro _ _ ⟨b41, rfl, rfl⟩
      repeat' (first | refine S1 ?_ | refine SD ?_ | refine SA (fun _ => ?_) | refine WL.g_split rfl rfl (fun hc => ?_) (fun hc => ?_) | refine WD.g_split rfl rfl (fun hc => ?_) (fun hc => ?_) | refine W.cond rfl (fun hc => ?_) (fun hc => ?_))
      refine WL.e rfl (Ef.callW (c := f.H) (by exact rfl) (.last (.there (.right (.there .all)))) (fun F' hF => add_tr F' f hf z10 (some ⟨b41, 0, none⟩) 10 10 ((Lst.own (F := F) (made_own _ b41 10 (by omega)) (fun _ h => h)).mono (fun w h => (hF w h).sublist (.cons_cons _ (List.nil_sublist _)))) (by simp [z10]) 0 i i)) ?_
      rintro _ _ ⟨_, ⟨rfl, f1, hf1, rfl, hR1, hS1⟩, rfl⟩
      rw [hE1, ← hR1]
      repeat' (first | refine S1 ?_ | refine SD ?_ | refine SA (fun _ => ?_) | refine WL.g_split rfl rfl (fun hc => ?_) (fun hc => ?_) | refine WD.g_split rfl rfl (fun hc => ?_) (fun hc => ?_) | refine W.cond rfl (fun hc => ?_) (fun hc => ?_))
      rw [i64_succ (by omega)]
      exact Fin.round ⟨i + 1, f1, za2, zn2, zc2, zb2⟩ ⟨hi', hf1, rfl, by dsimp only; rw [hS1]; exact hI1, by dsimp only; rw [hS1]; exact (by unfold Flt.add; split <;> rfl : (Flt.add f.S z10 0 i i).c = f.S.c).trans hcS, by dsimp only; rw [zL_false hbb, List.map_append]; exact hz2⟩ (by dsimp only; rw [hcn, Nat.add_zero]; exact envA) (fun _ h => In.of_sub (.pickL (L := zb2) (.right (.there .here)) (.last (L := f1.H) .here)) h) (by dsimp only; omega)
  · have hin : i = sn := by have := of_decide_eq_false hc; omega
    subst hin
    rw [List.take_of_length_le (by omega)] at hI ⊢
    clear ok0 S0 I0 hc
    have hzl : (zL on i).length = zn := by have := hz.len; simpa using this
    have hlen := hI.len
    have hsmS : ∀ g : FM, InvS g.S on → g.small := fun g hg => by
      have h1 := InvS.small hg
      have h2 := hg.len
      show sumB _ g.S.L ≤ _
      omega
    refine W.loop (G := SpbG) (fun g => [(0, .int .u32 first), (2, .slice ta tn tc), (7, .pointer (some ⟨f.R, 0, none⟩)), (9, .int .i64 (((on.filter id).length * 10 : Nat) : Int)), (10, .slice za zn zc), (15, .int .i64 g.i)])
      (fun g => zb ++ g.f.H) (fun g => g.i ≤ tn ∧ g.f.ok ∧ g.f.R = f.R ∧ InvS g.f.S on ∧ g.f.S.c = c) (fun g => tn - g.i) ⟨0, f⟩ ⟨Nat.zero_le _, hf, rfl, hI, hcS⟩ envA (fun _ h => h) ?_
    rintro ⟨q, g⟩ ⟨hq, hg, hgR, hgI, hgc⟩
    dsimp only at hq hg hgR hgI hgc ⊢
    rw [← hgR]
    repeat' (first | refine S1 ?_ | refine SD ?_ | refine SA (fun _ => ?_) | refine WL.g_split rfl rfl (fun hc => ?_) (fun hc => ?_) | refine WD.g_split rfl rfl (fun hc => ?_) (fun hc => ?_) | refine W.cond rfl (fun hc => ?_) (fun hc => ?_))
    · have hq' : q < tn := by rename_i h1; have := of_decide_eq_true h1; omega
      have hz0 : 0 < zn := by have := of_decide_eq_true hc; omega
      obtain ⟨d, hd⟩ : ∃ d, acks[q]? = some d := ⟨acks[q]'(by omega), by simp⟩
      obtain ⟨b1, o1, rfl, hcc⟩ := ht.can (by omega)
      have hcan : Sl.Can F [] b1 (o1 + (q : Int).toNat * 1) [.int .u8 ((d.toNat : Nat) : Int)] := by
        have := hcc.one (i := q) (v := B d) (by rw [List.getElem?_map, hd]; rfl)
        rw [show o1 + (q : Int).toNat * 1 = o1 + q by omega]
        exact this
      have hia : 0 ≤ (q : Int) ∧ (q : Int) < tn := by omega
      repeat' (first | refine S1 ?_ | refine SD ?_ | refine SA (fun _ => ?_) | refine WL.g_split rfl rfl (fun hc => ?_) (fun hc => ?_) | refine WD.g_split rfl rfl (fun hc => ?_) (fun hc => ?_) | refine W.cond rfl (fun hc => ?_) (fun hc => ?_))
      refine WL.p rfl (Pu.rem rfl rfl (by omega)) ?_
      obtain ⟨j, hjj⟩ : ∃ j, d.toNat % zn = j := ⟨_, rfl⟩
      have hmod : d.toNat % zn < zn := Nat.mod_lt _ hz0
      have hdlt := d.toNat_lt
      have hj : (IntKind.i64.wrap ((d.toNat : Nat) : Int)).tmod (zn : Int) = ((j : Nat) : Int) := by
        rw [i64_id (n := ((d.toNat : Nat) : Int)) (by omega) (by omega), ← Int.ofNat_tmod, hjj]
      rw [hj]
      obtain ⟨z, hzj⟩ : ∃ z, (zL on i)[j]? = some z := ⟨(zL on i)[j]'(by omega), by simp⟩
      have hzm := zL_mem (List.mem_of_getElem? hzj)
      have hz60 : z < on.length := (List.getElem?_eq_some_iff.1 hzm).1
      obtain ⟨b2, o2, rfl, hcc2⟩ := (Lst.own (F := F) (H := zb) hz (fun _ h => h)).can (by omega)
      have hcan2 : Sl.Can F zb b2 (o2 + (j : Int).toNat * 1) [.int .i64 (z : Int)] := by
        have := hcc2.one (i := j) (v := zI z) (by rw [List.getElem?_map, hzj]; rfl)
        rw [show o2 + (j : Int).toNat * 1 = o2 + j by omega]
        exact this
      have hij : 0 ≤ (j : Int) ∧ (j : Int) < (zn : Int) := by omega
      repeat' (first | refine S1 ?_ | refine SD ?_ | refine SA (fun _ => ?_) | refine WL.g_split rfl rfl (fun hc => ?_) (fun hc => ?_) | refine WD.g_split rfl rfl (fun hc => ?_) (fun hc => ?_) | refine W.cond rfl (fun hc => ?_) (fun hc => ?_))
      refine WL.s rfl (Rd.ldC rfl (hcan2.mono (fun _ h => h.sublist findA))) ?_
      repeat' (first | refine S1 ?_ | refine SD ?_ | refine SA (fun _ => ?_) | refine WL.g_split rfl rfl (fun hc => ?_) (fun hc => ?_) | refine WD.g_split rfl rfl (fun hc => ?_) (fun hc => ?_) | refine W.cond rfl (fun hc => ?_) (fun hc => ?_))
      · rw [i64_succ (by omega)]
        exact Fin.round ⟨q + 1, g⟩ ⟨hq', hg, rfl, hgI, hgc⟩ envA (fun _ h => h) (by dsimp only; omega)
      have hz1 : 1 ≤ z := by
        have := ne_of_beq_false hc
        omega
      have hk2 : IntKind.u16.wrap (IntKind.i64.wrap ((z : Int) + 1)) = ((z + 1 : Nat) : Int) := by rw [i64_id (by omega) (by omega), u16_id (by omega)]; omega
      rename_i bg
      rw [show IntKind.u32.wrap (first - 1) = c from hc0, hk2]
      obtain ⟨tt, s', hsk, hI', hc'⟩ := hgI.sack hz1 hzm
      rw [hgc] at hsk
      refine WL.e rfl (Ef.callW (c := g.H) (by exact rfl) (.last (.there (.right .all))) (fun F' hF => sack_tr F' g hg (hsmS g hgI) (pathOk_of hgI.good) c 0 hcr [(z + 1, z + 1)] (some ⟨bg, 0, none⟩) 1 1 ⟨rfl, by omega, fun _ => ⟨bg, 0, rfl, Can.mono (Can.cut (n := 2) (.here rfl)) (fun w h => (hF w h).sublist (.cons_cons _ (List.nil_sublist _)))⟩, fun h => by cases h⟩ (by simp; omega) (by simp) none 0 0)) ?_
      rintro _ _ ⟨_, hq, rfl⟩
      rw [hsk] at hq
      obtain ⟨rfl, g2, hg2, rfl, hR2, hS2⟩ := hq
      have hI2 : InvS g2.S on := by rw [hS2]; exact hI'
      dsimp only [tup]
      rw [← hR2]
      repeat' (first | refine S1 ?_ | refine SD ?_ | refine SA (fun _ => ?_) | refine WL.g_split rfl rfl (fun hc => ?_) (fun hc => ?_) | refine WD.g_split rfl rfl (fun hc => ?_) (fun hc => ?_) | refine W.cond rfl (fun hc => ?_) (fun hc => ?_))
      refine WL.e rfl (Ef.callR (c := g2.H) (by exact rfl) (.last (.there .here)) (out_tr _ g2 hg2 (hsmS g2 hI2) 1)) ?_
      rintro _ _ ⟨rfl, rfl⟩
      rw [InvS.out hI2]
      repeat' (first | refine S1 ?_ | refine SD ?_ | refine SA (fun _ => ?_) | refine WL.g_split rfl rfl (fun hc => ?_) (fun hc => ?_) | refine WD.g_split rfl rfl (fun hc => ?_) (fun hc => ?_) | refine W.cond rfl (fun hc => ?_) (fun hc => ?_))
      · exfalso
        simp at hc
      refine WL.e rfl (Ef.call (c := g2.H) (by exact rfl) (.last (.there .here)) (lost_tr _ g2 hg2)) ?_
      rintro _ _ ⟨_, ⟨la, ln, lc, lb, rfl, hlo, rfl⟩, rfl⟩
      rw [List.append_assoc]
      repeat' (first | refine S1 ?_ | refine SD ?_ | refine SA (fun _ => ?_) | refine WL.g_split rfl rfl (fun hc => ?_) (fun hc => ?_) | refine WD.g_split rfl rfl (fun hc => ?_) (fun hc => ?_) | refine W.cond rfl (fun hc => ?_) (fun hc => ?_))
      have hln2 : (Flt.lostL g2.S).length = ln := by have := hlo.len; simpa using this
      have hln60 : ln ≤ 60 := by
        have h1 := lostL_le g2.S
        have h2 := hI2.len
        omega
      refine W.loop (G := Nat) (fun k => [(0, .int .u32 first), (2, .slice (some ⟨b1, o1, none⟩) tn tc), (7, .pointer (some ⟨g2.R, 0, none⟩)), (9, .int .i64 (((on.filter id).length * 10 : Nat) : Int)), (10, .slice (some ⟨b2, o2, none⟩) zn zc), (15, .int .i64 q), (19, .slice la ln lc), (20, .int .i64 k)])
        (fun _ => lb ++ (g2.H ++ zb)) (fun k => k ≤ ln) (fun k => ln - k) 0 (Nat.zero_le _) envA (fun _ h => h.sublist (.append (.refl _) (.append (.refl _) (.cons _ (.cons _ (List.sublist_append_left _ _)))))) ?_
      intro k hk
      repeat' (first | refine S1 ?_ | refine SD ?_ | refine SA (fun _ => ?_) | refine WL.g_split rfl rfl (fun hc => ?_) (fun hc => ?_) | refine WD.g_split rfl rfl (fun hc => ?_) (fun hc => ?_) | refine W.cond rfl (fun hc => ?_) (fun hc => ?_))
      · have hk' : k < ln := by have := of_decide_eq_true hc; omega
        obtain ⟨t0, ht0⟩ : ∃ t0, (Flt.lostL g2.S)[k]? = some t0 := ⟨(Flt.lostL g2.S)[k]'(by omega), by simp⟩
        obtain ⟨d', hget⟩ := hI2.lost (List.mem_of_getElem? ht0)
        obtain ⟨b3, o3, rfl, hcc3⟩ := (Lst.own (F := F) (H := lb) hlo (fun _ h => h)).can (by omega)
        have hlc : Sl.Can F lb b3 (o3 + (k : Int).toNat * 1) [.int .u32 t0] := by
          have := hcc3.one (i := k) (v := .int .u32 t0) (by rw [List.getElem?_map, ht0]; rfl)
          rw [show o3 + (k : Int).toNat * 1 = o3 + k by omega]
          exact this
        have hik : 0 ≤ (k : Int) ∧ (k : Int) < (ln : Int) := by omega
        repeat' (first | refine S1 ?_ | refine SD ?_ | refine SA (fun _ => ?_) | refine WL.g_split rfl rfl (fun hc => ?_) (fun hc => ?_) | refine WD.g_split rfl rfl (fun hc => ?_) (fun hc => ?_) | refine W.cond rfl (fun hc => ?_) (fun hc => ?_))
        refine WL.s rfl (Rd.ldC rfl (hlc.mono (fun _ h => h.sublist findA))) ?_
        refine WL.e rfl (Ef.call (c := g2.H) (by exact rfl) (.last (.right .here)) (getD_tr _ g2 hg2 (hsmS g2 hI2) t0)) ?_
        rintro _ _ ⟨_, hq2, rfl⟩
        obtain ⟨m, p, h1, hm, rfl, rfl⟩ := hq2.resolve_left (fun h => by rw [hget] at h; cases h.1)
        rw [hget] at h1
        have hp2 : 0 = p := congrArg (fun x : Dt × Int => x.2) (Option.some.inj h1)
        subst hp2
        rw [List.append_assoc]
        unfold DM.cells
        dsimp only [tup]
        repeat' (first | refine S1 ?_ | refine SD ?_ | refine SA (fun _ => ?_) | refine WL.g_split rfl rfl (fun hc => ?_) (fun hc => ?_) | refine WD.g_split rfl rfl (fun hc => ?_) (fun hc => ?_) | refine W.cond rfl (fun hc => ?_) (fun hc => ?_))
        rw [i64_succ (by omega)]
        exact Fin.round (k + 1) hk' envA (fun _ h => In.of_sub (.pickL (L := lb) (.there (.right (.right .here))) (.pickL (L := g2.H) (.there (.right .here)) (.last (L := zb) (.there (.right .all))))) h) (by omega)
      · rw [i64_succ (by omega)]
        exact Fin.round ⟨q + 1, g2⟩ ⟨hq', hg2, rfl, hI2, by dsimp only; rw [hS2]; exact hc'.trans hgc⟩ envA (fun _ h => In.of_sub (.pickL (L := zb) (.right (.right .all)) (.last (L := g2.H) (.right .here))) h) (by dsimp only; omega)
    ·
      refine WL.e rfl (Ef.call (c := []) (by exact rfl) (.nil _) (works_tr _)) ?_
      rintro _ _ ⟨_, ⟨rfl, rfl⟩, rfl⟩
      rw [List.nil_append]
      repeat' (first | refine S1 ?_ | refine SD ?_ | refine SA (fun _ => ?_) | refine WL.g_split rfl rfl (fun hc => ?_) (fun hc => ?_) | refine WD.g_split rfl rfl (fun hc => ?_) (fun hc => ?_) | refine W.cond rfl (fun hc => ?_) (fun hc => ?_))
      exact Fin.retW (by exact rfl) resA (H' := []) (fun _ h => h.sublist (List.nil_sublist _)) ⟨rfl, rfl⟩
    ·
      refine WL.e rfl (Ef.call (c := []) (by exact rfl) (.nil _) (works_tr _)) ?_
      rintro _ _ ⟨_, ⟨rfl, rfl⟩, rfl⟩
      rw [List.nil_append]
      repeat' (first | refine S1 ?_ | refine SD ?_ | refine SA (fun _ => ?_) | refine WL.g_split rfl rfl (fun hc => ?_) (fun hc => ?_) | refine WD.g_split rfl rfl (fun hc => ?_) (fun hc => ?_) | refine W.cond rfl (fun hc => ?_) (fun hc => ?_))
      exact Fin.retW (by exact rfl) resA (H' := []) (fun _ h => h.sublist (List.nil_sublist _)) ⟨rfl, rfl⟩
end Go.Proofs.Ytglobldnockdoaa
