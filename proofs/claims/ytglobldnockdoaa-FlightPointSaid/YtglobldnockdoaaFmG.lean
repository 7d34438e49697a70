/- The law FlightPoint, walked. Conditions: what the arguments' cells are. -/
import Derived.Test.YtglobldnockdoaaFlL
namespace Go.Proofs.Ytglobldnockdoaa
open Go Go.Sl Go.Flt

/-- the bit that says whether a message is abandoned, as the code reckons it -/
def gE (gone : Int) (d : Nat) : Int := IntKind.u8.wrap ((BitVec.ofInt IntKind.u8.bits (gone.fdiv (2 ^ (min d IntKind.u8.bits))) &&& BitVec.ofInt IntKind.u8.bits 1).toNat : Nat)
def gB (gone : Int) (d : Nat) : Bool := gE gone d == 1
theorem gE_two (gone : Int) (d : Nat) : gE gone d = 0 ∨ gE gone d = 1 := by
  unfold gE
  generalize BitVec.ofInt IntKind.u8.bits (gone.fdiv (2 ^ (min d IntKind.u8.bits))) = x
  have : (x &&& BitVec.ofInt IntKind.u8.bits 1).toNat = x.toNat % 2 := by
    rw [BitVec.toNat_and]
    exact Nat.and_one_is_mod _
  rw [this]
  have h2 : x.toNat % 2 = 0 ∨ x.toNat % 2 = 1 := by omega
  rcases h2 with h | h <;> rw [h]
  · left; decide
  · right; decide
theorem gE_zero (gone : Int) (d : Nat) : (gE gone d == 0) = !gB gone d := by
  unfold gB
  rcases gE_two gone d with h | h <;> rw [h] <;> decide
theorem rem4 (b : UInt8) : (((b.toNat : Nat) : Int).tmod 4) = ((b.toNat % 4 : Nat) : Int) := by
  rw [show (4 : Int) = ((4 : Nat) : Int) from rfl, ← Int.ofNat_tmod]
def idsN (ids : List UInt8) : List Nat := ids.map UInt8.toNat
theorem InvP.cast {s : Flt.S} {ids : List Nat} {G G' : Nat → Bool} (h : InvP s ids G) (he : ∀ d, d < 4 → G d = G' d) : InvP s ids G' := by
  refine ⟨h.good, h.paths, h.len, fun i r hr => ?_⟩
  obtain ⟨a1, a2, a3, a4, d, a5, a6, a7⟩ := h.at_ i r hr
  exact ⟨a1, a2, a3, a4, d, a5, a6, by rw [a7]; exact he _ (Nat.mod_lt _ (by decide))⟩
theorem InvP.small {s : Flt.S} {ids : List Nat} {G : Nat → Bool} (h : InvP s ids G) : sumB (fun _ => true) s.L = s.L.length := by
  have hb : ∀ r ∈ s.L, r.bs.length = 1 := fun r hr => by
    obtain ⟨i, hi⟩ := List.getElem?_of_mem hr
    exact (h.at_ i r hi).2.1
  generalize s.L = L at hb
  induction L with
  | nil => rfl
  | cons r L ih =>
    have h1 := hb r (by simp)
    have h2 := ih (fun q hq => hb q (by simp [hq]))
    unfold sumB at h2 ⊢
    rw [List.filter_cons_of_pos (by rfl), List.map_cons, List.sum_cons, List.length_cons, h1, h2]
    omega
theorem fil_succ {q : Nat → Bool} {l : List Nat} {i d : Nat} (h : l[i]? = some d) : ((l.take (i + 1)).filter q).length = ((l.take i).filter q).length + if q d then 1 else 0 := by
  rw [List.take_add_one, h, List.filter_append]
  cases hq : q d <;> simp [hq]
theorem fil_le (q : Nat → Bool) (l : List Nat) (i : Nat) : ((l.take i).filter q).length ≤ l.length := Nat.le_trans (List.length_filter_le _ _) (by simp; omega)
/-- the leading ones -/
theorem tw_len {q : Nat → Bool} : ∀ {l : List Nat} {n : Nat}, (∀ j d, j < n → l[j]? = some d → q d = true) → (n = l.length ∨ ∃ d, l[n]? = some d ∧ q d = false) → (l.takeWhile q).length = n
  | [], n, _, h2 => by
    rcases h2 with h | ⟨d, h, _⟩
    · simp at h ⊢; exact h.symm
    · simp at h
  | a :: l, 0, _, h2 => by
    rcases h2 with h | ⟨d, h, hq⟩
    · simp at h
    · simp at h
      subst h
      rw [List.takeWhile_cons_of_neg (by simp [hq])]
      rfl
  | a :: l, n + 1, h1, h2 => by
    have ha := h1 0 a (by omega) rfl
    rw [List.takeWhile_cons_of_pos ha, List.length_cons, tw_len (l := l) (n := n) (fun j d hj hd => h1 (j + 1) d (by omega) (by simpa using hd)) (by
      rcases h2 with h | ⟨d, h, hq⟩
      · left; simp at h; exact h
      · right; exact ⟨d, by simpa using h, hq⟩)]
structure PaG where
  i : Nat
  f : FM
structure PcG where
  i : Nat
  n : Nat
set_option maxHeartbeats 16000000 in
theorem pointLaw_tr (F : Nat → Option Obj) (first : Int) (hfi : 0 ≤ first ∧ first < 4294967296) (ids : List UInt8) (sa : Option Addr) (sn sc : Nat) (hl : Lst F [] 1 (ids.map B) sa sn sc) (gone : Int) :
    Tr Try.prog 5 [.int .u32 first, .slice sa sn sc, .int .u8 gone].toArray F [] (fun v H => v = .bool true ∧ H = []) := by
  refine Tr.enter Try.func5 rfl Try.ntmps5 rfl (fun w0 => ?_)
  have hln : ids.length = sn := by have := hl.len; simpa using this
  have hel : ∀ i, i < sn → ∃ d b o, ids[i]? = some d ∧ sa = some ⟨b, o, none⟩ ∧ Sl.Can F [] b (o + (i : Int).toNat * 1) [.int .u8 ((d.toNat : Nat) : Int)] := fun i hi => by
    obtain ⟨b, o, hsa, hcan⟩ := hl.can (by omega)
    have hd : ids[i]? = some (ids[i]'(by omega)) := by simp
    refine ⟨_, b, o, hd, hsa, ?_⟩
    have := hcan.one (i := i) (v := B (ids[i]'(by omega))) (by rw [List.getElem?_map, hd]; rfl)
    have e2 : o + (i : Int).toNat * 1 = o + i := by omega
    rw [e2]
    exact this
  repeat' (first | refine S1 ?_ | refine SD ?_ | refine SA (fun _ => ?_) | refine WL.g_split rfl rfl (fun hc => ?_) (fun hc => ?_) | refine WD.g_split rfl rfl (fun hc => ?_) (fun hc => ?_) | refine W.cond rfl (fun hc => ?_) (fun hc => ?_))
  ·
    refine WL.e rfl (Ef.call (c := []) (by exact rfl) (.nil _) (works_tr _)) ?_
    rintro _ _ ⟨_, ⟨rfl, rfl⟩, rfl⟩
    rw [List.nil_append]
    repeat' (first | refine S1 ?_ | refine SD ?_ | refine SA (fun _ => ?_) | refine WL.g_split rfl rfl (fun hc => ?_) (fun hc => ?_) | refine WD.g_split rfl rfl (fun hc => ?_) (fun hc => ?_) | refine W.cond rfl (fun hc => ?_) (fun hc => ?_))
    exact Fin.retW (by exact rfl) resA (H' := []) (fun _ h => h.sublist (List.nil_sublist _)) ⟨rfl, rfl⟩
  have h60 : sn ≤ 60 := by have := of_decide_eq_false hc; omega
  refine WL.e rfl (Ef.call (by exact rfl) (.nil _) (new_tr _ 1 first)) ?_
  rintro _ _ ⟨_, hq, rfl⟩
  rcases hq with ⟨h, _⟩ | ⟨_, b, rfl, rfl⟩
  · exact absurd (by decide) h
  obtain ⟨c, hc0⟩ : ∃ c, Spn.u32 (first - 1) = c := ⟨_, rfl⟩
  have hcr : 0 ≤ c ∧ c < 4294967296 := by rw [← hc0]; exact u32_mod _
  obtain ⟨f0, hf0⟩ : ∃ f0, FM.empty b 1 first = f0 := ⟨_, rfl⟩
  have ok0 : f0.ok := by rw [← hf0]; exact FM.empty_ok _ _ _
  have S0 : f0.S = ⟨[], c, 1⟩ := by rw [← hf0, ← hc0]; rfl
  have R0 : b = f0.R := by rw [← hf0]; rfl
  have I0 : InvP f0.S (idsN (ids.take 0)) (fun _ => false) := by
    rw [S0]
    exact ⟨new_good hcr (by decide), rfl, rfl, fun i r h => by simp at h⟩
  rw [List.append_nil, hf0, R0]
  clear hf0 R0
  repeat' (first | refine S1 ?_ | refine SD ?_ | refine SA (fun _ => ?_) | refine WL.g_split rfl rfl (fun hc => ?_) (fun hc => ?_) | refine WD.g_split rfl rfl (fun hc => ?_) (fun hc => ?_) | refine W.cond rfl (fun hc => ?_) (fun hc => ?_))
  refine W.loop (G := PaG) (fun g => [(0, .int .u32 first), (1, .slice sa sn sc), (2, .int .u8 gone), (7, .pointer (some ⟨f0.R, 0, none⟩)), (9, .int .i64 g.i)])
    (fun g => g.f.H) (fun g => g.i ≤ sn ∧ g.f.ok ∧ g.f.R = f0.R ∧ InvP g.f.S (idsN (ids.take g.i)) (fun _ => false) ∧ g.f.S.c = c) (fun g => sn - g.i) ⟨0, f0⟩ ⟨Nat.zero_le _, ok0, rfl, I0, by rw [S0]⟩ envA (fun _ h => h) ?_
  rintro ⟨i, f⟩ ⟨hi, hf, hR, hI, hcS⟩
  dsimp only at hi hf hR hI hcS ⊢
  rw [← hR]
  repeat' (first | refine S1 ?_ | refine SD ?_ | refine SA (fun _ => ?_) | refine WL.g_split rfl rfl (fun hc => ?_) (fun hc => ?_) | refine WD.g_split rfl rfl (fun hc => ?_) (fun hc => ?_) | refine W.cond rfl (fun hc => ?_) (fun hc => ?_))
  · have hi' : i < sn := by have := of_decide_eq_true hc; omega
    obtain ⟨d, ib, io, hd, rfl, hcan⟩ := hel i hi'
    have hia : 0 ≤ (i : Int) ∧ (i : Int) < sn := by omega
    repeat' (first | refine S1 ?_ | refine SD ?_ | refine SA (fun _ => ?_) | refine WL.g_split rfl rfl (fun hc => ?_) (fun hc => ?_) | refine WD.g_split rfl rfl (fun hc => ?_) (fun hc => ?_) | refine W.cond rfl (fun hc => ?_) (fun hc => ?_))
    refine WL.p rfl (Pu.rem rfl rfl (by decide)) ?_
    rename_i bg
    have hdl := d.toNat_lt
    rw [i64_id (n := ((d.toNat : Nat) : Int)) (by omega) (by omega), rem4, u16_id (n := (i : Int)) (by omega), u8_id (n := (i : Int)) (by omega)]
    have hid : (idsN (ids.take i)).length = i := by simp [idsN]; omega
    have hub : ((UInt8.ofNat i).toNat : Int) = (i : Int) := by simp; omega
    obtain ⟨hI1, hc1⟩ := hI.add (by omega) (UInt8.ofNat i) d.toNat
    rw [hid] at hI1 hc1
    have htk : idsN (ids.take (i + 1)) = idsN (ids.take i) ++ [d.toNat] := by
      unfold idsN
      rw [List.take_add_one, hd, Option.toList_some, List.map_append]
      rfl
    rw [← htk] at hI1
    refine WL.e rfl (Ef.callW (c := f.H) (by exact rfl) (.last (.there .all)) (fun F' hF => add_tr F' f hf (pD i (UInt8.ofNat i)) (some ⟨bg, 0, none⟩) 1 1 ⟨rfl, by omega, fun _ => ⟨bg, 0, rfl, by rw [show (pD i (UInt8.ofNat i)).bs.map B = [Value.int .u8 (i : Int)] from by rw [← hub]; rfl]; exact Can.mono (Can.cut (n := 1) (.here rfl)) hF⟩, fun h => by cases h⟩ (by simp [pD]) 0 0 ((d.toNat % 4 : Nat) : Int))) ?_
    rintro _ _ ⟨_, ⟨rfl, f1, hf1, rfl, hR1, hS1⟩, rfl⟩
    rw [← hR1]
    repeat' (first | refine S1 ?_ | refine SD ?_ | refine SA (fun _ => ?_) | refine WL.g_split rfl rfl (fun hc => ?_) (fun hc => ?_) | refine WD.g_split rfl rfl (fun hc => ?_) (fun hc => ?_) | refine W.cond rfl (fun hc => ?_) (fun hc => ?_))
    rw [i64_succ (by omega)]
    exact Fin.round ⟨i + 1, f1⟩ ⟨hi', hf1, rfl, by dsimp only; rw [hS1]; exact hI1, by dsimp only; rw [hS1]; exact hc1.trans hcS⟩ envA (fun _ h => h.left) (by dsimp only; omega)
  have hin : i = sn := by have := of_decide_eq_false hc; omega
  subst hin
  rw [List.take_of_length_le (by omega)] at hI
  clear ok0 S0 I0 hc hi
  obtain ⟨L, hL⟩ : ∃ L, idsN ids = L := ⟨_, rfl⟩
  have hLn : L.length = i := by rw [← hL]; simp [idsN]; omega
  have hLd : ∀ (k : Nat) (d : UInt8), ids[k]? = some d → L[k]? = some d.toNat := fun k d h => by rw [← hL]; simp [idsN, h]
  rw [hL] at hI
  refine W.loop (G := PaG) (fun g => [(0, .int .u32 first), (1, .slice sa i sc), (2, .int .u8 gone), (7, .pointer (some ⟨f.R, 0, none⟩)), (10, .int .i64 g.i)])
    (fun g => g.f.H) (fun g => g.i ≤ 4 ∧ g.f.ok ∧ g.f.R = f.R ∧ InvP g.f.S L (fun d => decide (d < g.i) && gB gone d) ∧ g.f.S.c = c) (fun g => 4 - g.i) ⟨0, f⟩ ⟨Nat.zero_le _, hf, rfl, InvP.cast hI (fun d _ => by simp), hcS⟩ envA (fun _ h => h) ?_
  clear hI hcS
  rintro ⟨j, f2⟩ ⟨hj, hf2, hR2, hI2, hcS2⟩
  dsimp only at hj hf2 hR2 hI2 hcS2 ⊢
  rw [← hR2]
  repeat' (first | refine S1 ?_ | refine SD ?_ | refine SA (fun _ => ?_) | refine WL.g_split rfl rfl (fun hc => ?_) (fun hc => ?_) | refine WD.g_split rfl rfl (fun hc => ?_) (fun hc => ?_) | refine W.cond rfl (fun hc => ?_) (fun hc => ?_))
  · have hj' : j < 4 := by have := of_decide_eq_true (p := (j : Int) < 4) (by assumption); omega
    have hj0 : 0 ≤ (j : Int) := by omega
    refine WL.p rfl (Pu.shr rfl rfl hj0) ?_
    repeat' (first | refine S1 ?_ | refine SD ?_ | refine SA (fun _ => ?_) | refine WL.g_split rfl rfl (fun hc => ?_) (fun hc => ?_) | refine WD.g_split rfl rfl (fun hc => ?_) (fun hc => ?_) | refine W.cond rfl (fun hc => ?_) (fun hc => ?_))
    · have hg0 : gB gone j = false := by
        have := gE_zero gone j
        rw [show (gE gone j == 0) = true from hc] at this
        simpa using this.symm
      rw [i64_succ (by omega)]
      refine Fin.round ⟨j + 1, f2⟩ ⟨hj', hf2, rfl, ?_, hcS2⟩ envA (fun _ h => h) (by dsimp only; omega)
      refine InvP.cast hI2 (fun d _ => ?_)
      by_cases hdj : d = j
      · subst hdj; simp [hg0]
      · rw [show decide (d < j + 1) = decide (d < j) from decide_eq_decide.2 (by omega)]
    have hg1 : gB gone j = true := by
      have := gE_zero gone j
      rw [show (gE gone j == 0) = false from hc] at this
      simpa using this.symm
    refine W.loop (G := Nat) (fun k => [(0, .int .u32 first), (1, .slice sa i sc), (2, .int .u8 gone), (7, .pointer (some ⟨f2.R, 0, none⟩)), (10, .int .i64 j), (11, .int .i64 (((L.take k).filter (fun d => decide (d % 4 = j))).length : Nat)), (12, .int .i64 k)])
      (fun _ => f2.H) (fun k => k ≤ i) (fun k => i - k) 0 (Nat.zero_le _) envA (fun _ h => h) ?_
    intro k hk
    repeat' (first | refine S1 ?_ | refine SD ?_ | refine SA (fun _ => ?_) | refine WL.g_split rfl rfl (fun hc => ?_) (fun hc => ?_) | refine WD.g_split rfl rfl (fun hc => ?_) (fun hc => ?_) | refine W.cond rfl (fun hc => ?_) (fun hc => ?_))
    · have hk' : k < i := by have := of_decide_eq_true (p := (k : Int) < (i : Int)) (by assumption); omega
      obtain ⟨d, ib, io, hd, rfl, hcan⟩ := hel k hk'
      have hia : 0 ≤ (k : Int) ∧ (k : Int) < i := by omega
      repeat' (first | refine S1 ?_ | refine SD ?_ | refine SA (fun _ => ?_) | refine WL.g_split rfl rfl (fun hc => ?_) (fun hc => ?_) | refine WD.g_split rfl rfl (fun hc => ?_) (fun hc => ?_) | refine W.cond rfl (fun hc => ?_) (fun hc => ?_))
      refine WL.p rfl (Pu.rem rfl rfl (by decide)) ?_
      have hdl := d.toNat_lt
      rw [i64_id (n := ((d.toNat : Nat) : Int)) (by omega) (by omega), rem4]
      have hfs := fil_succ (q := fun d => decide (d % 4 = j)) (hLd k d hd)
      have hfl := fil_le (fun d => decide (d % 4 = j)) L k
      repeat' (first | refine S1 ?_ | refine SD ?_ | refine SA (fun _ => ?_) | refine WL.g_split rfl rfl (fun hc => ?_) (fun hc => ?_) | refine WD.g_split rfl rfl (fun hc => ?_) (fun hc => ?_) | refine W.cond rfl (fun hc => ?_) (fun hc => ?_))
      · have hdj : d.toNat % 4 = j := by have := eq_of_beq hc; omega
        rw [if_pos (by simpa using hdj)] at hfs
        rw [i64_succ (by omega), i64_succ (by omega)]
        exact Fin.round (k + 1) hk' (by rw [hfs]; exact envA) (fun _ h => h) (by omega)
      · have hdj : ¬ d.toNat % 4 = j := by have := ne_of_beq_false hc; omega
        rw [if_neg (by simpa using hdj), Nat.add_zero] at hfs
        rw [i64_succ (by omega)]
        exact Fin.round (k + 1) hk' (by rw [hfs]; exact envA) (fun _ h => h) (by omega)
    have hki : k = i := by have := of_decide_eq_false (p := (k : Int) < (i : Int)) (by assumption); omega
    subst hki
    rw [List.take_of_length_le (by omega)]
    obtain ⟨hIa, hca, hna⟩ := hI2.abandon (k := j)
    refine WL.e rfl (Ef.call (c := f2.H) (by exact rfl) (.all _) (abandon_tr _ f2 hf2 j)) ?_
    rintro _ _ ⟨_, ⟨rfl, f3, hf3, rfl, hR3, hS3⟩, rfl⟩
    rw [hna, ← hR3]
    rw [← hS3] at hIa hca
    simp only [Nat.lt_irrefl, decide_false, Bool.false_and, Bool.false_eq_true, if_false]
    repeat' (first | refine S1 ?_ | refine SD ?_ | refine SA (fun _ => ?_) | refine WL.g_split rfl rfl (fun hc => ?_) (fun hc => ?_) | refine WD.g_split rfl rfl (fun hc => ?_) (fun hc => ?_) | refine W.cond rfl (fun hc => ?_) (fun hc => ?_))
    · exfalso
      simp at hc
    obtain ⟨hIb, hcb, hnb⟩ := hIa.abandon (k := j)
    refine WL.e rfl (Ef.call (c := f3.H) (by exact rfl) (.last .here) (abandon_tr _ f3 hf3 j)) ?_
    rintro _ _ ⟨_, ⟨rfl, f4, hf4, rfl, hR4, hS4⟩, rfl⟩
    rw [hnb, ← hR4]
    rw [← hS4] at hIb hcb
    simp only [decide_true, Bool.true_or, if_true]
    repeat' (first | refine S1 ?_ | refine SD ?_ | refine SA (fun _ => ?_) | refine WL.g_split rfl rfl (fun hc => ?_) (fun hc => ?_) | refine WD.g_split rfl rfl (fun hc => ?_) (fun hc => ?_) | refine W.cond rfl (fun hc => ?_) (fun hc => ?_))
    rw [i64_succ (by omega)]
    refine Fin.round ⟨j + 1, f4⟩ ⟨hj', hf4, rfl, ?_, (hcb.trans hca).trans hcS2⟩ envA (fun _ h => h.left) (by dsimp only; omega)
    refine InvP.cast hIb (fun d _ => ?_)
    by_cases hdj : d = j
    · subst hdj; simp [hg1]
    · rw [show decide (d < j + 1) = decide (d < j) from decide_eq_decide.2 (by omega)]
      simp [hdj]
  have hj4 : j = 4 := by have := of_decide_eq_false (p := (j : Int) < 4) (by assumption); omega
  subst hj4
  have hI3 : InvP f2.S L (fun d => gB gone d) := InvP.cast hI2 (fun d hd => by simp [hd])
  clear hI2 hj
  refine W.loop (G := Nat) (fun n => [(0, .int .u32 first), (1, .slice sa i sc), (2, .int .u8 gone), (7, .pointer (some ⟨f2.R, 0, none⟩)), (13, .int .i64 n)])
    (fun _ => f2.H) (fun n => n ≤ i ∧ ∀ k d, k < n → L[k]? = some d → gB gone (d % 4) = true) (fun n => i - n) 0 ⟨Nat.zero_le _, fun k d h => by omega⟩ envA (fun _ h => h) ?_
  rintro n ⟨hn, hlead⟩
  repeat' (first | refine S1 ?_ | refine SD ?_ | refine SA (fun _ => ?_) | refine WL.g_split rfl rfl (fun hc => ?_) (fun hc => ?_) | refine WD.g_split rfl rfl (fun hc => ?_) (fun hc => ?_) | refine W.cond rfl (fun hc => ?_) (fun hc => ?_))
  · have hn' : n < i := by have := of_decide_eq_true (p := (n : Int) < (i : Int)) (by assumption); omega
    obtain ⟨d, ib, io, hd, rfl, hcan⟩ := hel n hn'
    have hia : 0 ≤ (n : Int) ∧ (n : Int) < i := by omega
    repeat' (first | refine S1 ?_ | refine SD ?_ | refine SA (fun _ => ?_) | refine WL.g_split rfl rfl (fun hc => ?_) (fun hc => ?_) | refine WD.g_split rfl rfl (fun hc => ?_) (fun hc => ?_) | refine W.cond rfl (fun hc => ?_) (fun hc => ?_))
    refine WL.p rfl (Pu.rem rfl rfl (by decide)) ?_
    rw [rem4]
    repeat' (first | refine S1 ?_ | refine SD ?_ | refine SA (fun _ => ?_) | refine WL.g_split rfl rfl (fun hc => ?_) (fun hc => ?_) | refine WD.g_split rfl rfl (fun hc => ?_) (fun hc => ?_) | refine W.cond rfl (fun hc => ?_) (fun hc => ?_))
    have hd0 : 0 ≤ ((d.toNat % 4 : Nat) : Int) := by omega
    refine WL.p rfl (Pu.shr rfl rfl hd0) ?_
    repeat' (first | refine S1 ?_ | refine SD ?_ | refine SA (fun _ => ?_) | refine WL.g_split rfl rfl (fun hc => ?_) (fun hc => ?_) | refine WD.g_split rfl rfl (fun hc => ?_) (fun hc => ?_) | refine W.cond rfl (fun hc => ?_) (fun hc => ?_))
    · have hgt : gB gone (d.toNat % 4) = true := hc
      rw [i64_succ (by omega)]
      refine Fin.round (n + 1) ⟨hn', fun k e hk he => ?_⟩ envA (fun _ h => h) (by omega)
      by_cases hkn : k = n
      · subst hkn
        rw [hLd k d hd] at he
        cases he
        exact hgt
      · exact hlead k e (by omega) he
    · have hend : n = L.length ∨ ∃ d, L[n]? = some d ∧ gB gone (d % 4) = false := .inr ⟨d.toNat, hLd n d hd, hc⟩
      have htw := tw_len (q := fun d => gB gone (d % 4)) hlead hend
      refine W.loop (G := PcG) (fun g => [(0, .int .u32 first), (1, .slice (some ⟨ib, io, none⟩) i sc), (2, .int .u8 gone), (7, .pointer (some ⟨f2.R, 0, none⟩)), (13, .int .i64 n), (14, .int .i64 g.n), (15, .int .i64 g.i)])
        (fun _ => f2.H) (fun g => g.i ≤ i ∧ g.n = ((L.take g.i).filter (fun d => !gB gone (d % 4))).length) (fun g => i - g.i) ⟨0, 0⟩ ⟨Nat.zero_le _, rfl⟩ envA (fun _ h => h) ?_
      rintro ⟨k, lf⟩ ⟨hk, hlf⟩
      dsimp only at hk hlf ⊢
      repeat' (first | refine S1 ?_ | refine SD ?_ | refine SA (fun _ => ?_) | refine WL.g_split rfl rfl (fun hc => ?_) (fun hc => ?_) | refine WD.g_split rfl rfl (fun hc => ?_) (fun hc => ?_) | refine W.cond rfl (fun hc => ?_) (fun hc => ?_))
      · have hk' : k < i := by have := of_decide_eq_true (p := (k : Int) < (i : Int)) (by assumption); omega
        obtain ⟨d, ib, io, hd, hsa, hcan⟩ := hel k hk'
        cases hsa
        have hia : 0 ≤ (k : Int) ∧ (k : Int) < i := by omega
        have hfs := fil_succ (q := fun d => !gB gone (d % 4)) (hLd k d hd)
        have hfl := fil_le (fun d => !gB gone (d % 4)) L k
        repeat' (first | refine S1 ?_ | refine SD ?_ | refine SA (fun _ => ?_) | refine WL.g_split rfl rfl (fun hc => ?_) (fun hc => ?_) | refine WD.g_split rfl rfl (fun hc => ?_) (fun hc => ?_) | refine W.cond rfl (fun hc => ?_) (fun hc => ?_))
        refine WL.p rfl (Pu.rem rfl rfl (by decide)) ?_
        rw [rem4]
        repeat' (first | refine S1 ?_ | refine SD ?_ | refine SA (fun _ => ?_) | refine WL.g_split rfl rfl (fun hc => ?_) (fun hc => ?_) | refine WD.g_split rfl rfl (fun hc => ?_) (fun hc => ?_) | refine W.cond rfl (fun hc => ?_) (fun hc => ?_))
        have hd0 : 0 ≤ ((d.toNat % 4 : Nat) : Int) := by omega
        refine WL.p rfl (Pu.shr rfl rfl hd0) ?_
        repeat' (first | refine S1 ?_ | refine SD ?_ | refine SA (fun _ => ?_) | refine WL.g_split rfl rfl (fun hc => ?_) (fun hc => ?_) | refine WD.g_split rfl rfl (fun hc => ?_) (fun hc => ?_) | refine W.cond rfl (fun hc => ?_) (fun hc => ?_))
        · have hg := gE_zero gone (d.toNat % 4)
          rw [show (gE gone (d.toNat % 4) == 0) = true from hc] at hg
          rw [if_pos (by simpa using hg.symm)] at hfs
          rw [i64_succ (by omega), i64_succ (by omega)]
          exact Fin.round ⟨k + 1, lf + 1⟩ ⟨hk', by dsimp only; omega⟩ envA (fun _ h => h) (by dsimp only; omega)
        · have hg := gE_zero gone (d.toNat % 4)
          rw [show (gE gone (d.toNat % 4) == 0) = false from hc] at hg
          rw [if_neg (by simpa using hg.symm), Nat.add_zero] at hfs
          rw [i64_succ (by omega)]
          exact Fin.round ⟨k + 1, lf⟩ ⟨hk', by dsimp only; omega⟩ envA (fun _ h => h) (by dsimp only; omega)
      have hki : k = i := by have := of_decide_eq_false (p := (k : Int) < (i : Int)) (by assumption); omega
      subst hki
      rw [List.take_of_length_le (by omega)] at hlf
      have hlfk : lf ≤ 60 := by
        have h1 := fil_le (fun d => !gB gone (d % 4)) L L.length
        rw [List.take_length] at h1
        omega
      obtain ⟨hp1, hp2, hp3, hp4⟩ := hI3.end_
      rw [htw] at hp1
      rw [← hlf] at hp2
      have hsm : f2.small := by
        have h1 := InvP.small hI3
        have h2 := hI3.len
        show sumB _ f2.S.L ≤ _
        omega
      refine WL.e rfl (Ef.call (c := f2.H) (by exact rfl) (.all _) (point_tr _ f2 hf2 hsm)) ?_
      rintro _ _ ⟨_, ⟨pa, pn, pc, pb, ds, rfl, hpo, hdok, hdm, rfl⟩, rfl⟩
      rw [hp1, List.append_nil]
      have hcf : f2.c = c := hcS2
      have hdl : ds.length = n := by
        have := congrArg List.length hdm
        rw [List.length_map, hp1] at this
        exact this
      have hpn : pn = n := by
        have := OwnS.len hpo
        rw [flat_len' DM.cells 7 (fun _ => rfl)] at this
        omega
      rw [hcf]
      dsimp only [tup]
      repeat' (first | refine S1 ?_ | refine SD ?_ | refine SA (fun _ => ?_) | refine WL.g_split rfl rfl (fun hc => ?_) (fun hc => ?_) | refine WD.g_split rfl rfl (fun hc => ?_) (fun hc => ?_) | refine W.cond rfl (fun hc => ?_) (fun hc => ?_))
      · exfalso
        rw [show IntKind.u32.wrap (first - 1) = c from hc0] at hc
        simp at hc
      · exfalso
        simp at hc
        omega
      refine WL.e rfl (Ef.callR (c := f2.H) (by exact rfl) (.last (.right (.right .all))) (out_tr _ f2 hf2 hsm 0)) ?_
      rintro _ _ ⟨rfl, rfl⟩
      rw [hp2]
      repeat' (first | refine S1 ?_ | refine SD ?_ | refine SA (fun _ => ?_) | refine WL.g_split rfl rfl (fun hc => ?_) (fun hc => ?_) | refine WD.g_split rfl rfl (fun hc => ?_) (fun hc => ?_) | refine W.cond rfl (fun hc => ?_) (fun hc => ?_))
      · exfalso
        simp at hc
      refine WL.e rfl (Ef.call (c := f2.H) (by exact rfl) (.last (.right (.right .all))) (lost_tr _ f2 hf2)) ?_
      rintro _ _ ⟨_, ⟨xa, xn, xc, xb, rfl, hxo, rfl⟩, rfl⟩
      have hx0 : xn = 0 := by
        have h1 := hxo.len
        rw [hp3] at h1
        simpa using h1.symm
      subst hx0
      repeat' (first | refine S1 ?_ | refine SD ?_ | refine SA (fun _ => ?_) | refine WL.g_split rfl rfl (fun hc => ?_) (fun hc => ?_) | refine WD.g_split rfl rfl (fun hc => ?_) (fun hc => ?_) | refine W.cond rfl (fun hc => ?_) (fun hc => ?_))
      refine W.loop (G := Nat) (fun q => [(0, .int .u32 first), (13, .int .i64 n), (17, .slice pa pn pc), (18, .int .i64 q)])
        (fun _ => pb ++ ds.flatMap DM.bb) (fun q => q ≤ n) (fun q => n - q) 0 (Nat.zero_le _) envA (fun _ h => In.of_sub (.pickL (L := pb) (.right .here) (.last (L := ds.flatMap DM.bb) (.right .here))) h) ?_
      intro q hq
      repeat' (first | refine S1 ?_ | refine SD ?_ | refine SA (fun _ => ?_) | refine WL.g_split rfl rfl (fun hc => ?_) (fun hc => ?_) | refine WD.g_split rfl rfl (fun hc => ?_) (fun hc => ?_) | refine W.cond rfl (fun hc => ?_) (fun hc => ?_))
      · have hq' : q < n := by have := of_decide_eq_true (p := (q : Int) < (n : Int)) (by assumption); omega
        obtain ⟨m, hm⟩ : ∃ m, ds[q]? = some m := ⟨ds[q]'(by omega), by simp⟩
        have hmd : (Flt.ptL f2.S.L)[q]? = some m.d := by rw [← hdm, List.getElem?_map, hm]; rfl
        obtain ⟨k1, k2, k3⟩ := hp4 q m.d hmd
        have hmb : m.bn = 1 := by
          have := OwnS.len (hdok m (List.mem_of_getElem? hm))
          rw [List.length_map, k3] at this
          omega
        obtain ⟨mb, mo, rfl, mcan⟩ := (Lst.own (F := F) (H := pb) hpo (fun _ h => h)).el (cells := DM.cells) (fun _ => rfl) hm (by omega)
        have hqa : 0 ≤ (q : Int) ∧ (q : Int) < (pn : Int) := by omega
        have m0 : Sl.Can F (pb ++ ds.flatMap DM.bb) mb (mo + (q : Int).toNat * 7 + 0) [.int .u32 m.d.tsn] := (mcan.one (i := 0) rfl).mono (fun _ h => h.left)
        have m1 : Sl.Can F (pb ++ ds.flatMap DM.bb) mb (mo + (q : Int).toNat * 7 + 1) [.int .u16 m.d.stream] := (mcan.one (i := 1) rfl).mono (fun _ h => h.left)
        have m6 : Sl.Can F (pb ++ ds.flatMap DM.bb) mb (mo + (q : Int).toNat * 7 + 6) [.slice m.ba m.bn m.bc] := (mcan.one (i := 6) rfl).mono (fun _ h => h.left)
        repeat' (first | refine S1 ?_ | refine SD ?_ | refine SA (fun _ => ?_) | refine WL.g_split rfl rfl (fun hc => ?_) (fun hc => ?_) | refine WD.g_split rfl rfl (fun hc => ?_) (fun hc => ?_) | refine W.cond rfl (fun hc => ?_) (fun hc => ?_))
        · exfalso
          rw [k1] at hc
          have hcS : f2.S.c = c := hcS2
          rw [hcS, ← hc0] at hc
          have e : Spn.u32 (Spn.u32 (first - 1) + 1 + q) = IntKind.u32.wrap (first + IntKind.u32.wrap (q : Int)) := by
            simp only [Spn.u32_eq]
            omega
          rw [e] at hc
          simp at hc
        · exfalso
          rw [k2, i64_id (by omega) (by omega)] at hc
          simp at hc
        · exfalso
          rw [hmb] at hc
          simp at hc
        · rw [i64_succ (by omega)]
          exact Fin.round (q + 1) hq' envA (fun _ h => h) (by omega)
      refine WL.e rfl (Ef.call (c := []) (by exact rfl) (.nil _) (works_tr _)) ?_
      rintro _ _ ⟨_, ⟨rfl, rfl⟩, rfl⟩
      rw [List.nil_append]
      repeat' (first | refine S1 ?_ | refine SD ?_ | refine SA (fun _ => ?_) | refine WL.g_split rfl rfl (fun hc => ?_) (fun hc => ?_) | refine WD.g_split rfl rfl (fun hc => ?_) (fun hc => ?_) | refine W.cond rfl (fun hc => ?_) (fun hc => ?_))
      exact Fin.retW (by exact rfl) resA (H' := []) (fun _ h => h.sublist (List.nil_sublist _)) ⟨rfl, rfl⟩
  · have hend : n = L.length ∨ ∃ d, L[n]? = some d ∧ gB gone (d % 4) = false := .inl (by have := of_decide_eq_false (p := (n : Int) < (i : Int)) (by assumption); omega)
    have htw := tw_len (q := fun d => gB gone (d % 4)) hlead hend
    refine W.loop (G := PcG) (fun g => [(0, .int .u32 first), (1, .slice sa i sc), (2, .int .u8 gone), (7, .pointer (some ⟨f2.R, 0, none⟩)), (13, .int .i64 n), (14, .int .i64 g.n), (15, .int .i64 g.i)])
      (fun _ => f2.H) (fun g => g.i ≤ i ∧ g.n = ((L.take g.i).filter (fun d => !gB gone (d % 4))).length) (fun g => i - g.i) ⟨0, 0⟩ ⟨Nat.zero_le _, rfl⟩ envA (fun _ h => h) ?_
    rintro ⟨k, lf⟩ ⟨hk, hlf⟩
    dsimp only at hk hlf ⊢
    repeat' (first | refine S1 ?_ | refine SD ?_ | refine SA (fun _ => ?_) | refine WL.g_split rfl rfl (fun hc => ?_) (fun hc => ?_) | refine WD.g_split rfl rfl (fun hc => ?_) (fun hc => ?_) | refine W.cond rfl (fun hc => ?_) (fun hc => ?_))
    · have hk' : k < i := by have := of_decide_eq_true (p := (k : Int) < (i : Int)) (by assumption); omega
      obtain ⟨d, ib, io, hd, hsa, hcan⟩ := hel k hk'
      cases hsa
      have hia : 0 ≤ (k : Int) ∧ (k : Int) < i := by omega
      have hfs := fil_succ (q := fun d => !gB gone (d % 4)) (hLd k d hd)
      have hfl := fil_le (fun d => !gB gone (d % 4)) L k
      repeat' (first | refine S1 ?_ | refine SD ?_ | refine SA (fun _ => ?_) | refine WL.g_split rfl rfl (fun hc => ?_) (fun hc => ?_) | refine WD.g_split rfl rfl (fun hc => ?_) (fun hc => ?_) | refine W.cond rfl (fun hc => ?_) (fun hc => ?_))
      refine WL.p rfl (Pu.rem rfl rfl (by decide)) ?_
      rw [rem4]
      repeat' (first | refine S1 ?_ | refine SD ?_ | refine SA (fun _ => ?_) | refine WL.g_split rfl rfl (fun hc => ?_) (fun hc => ?_) | refine WD.g_split rfl rfl (fun hc => ?_) (fun hc => ?_) | refine W.cond rfl (fun hc => ?_) (fun hc => ?_))
      have hd0 : 0 ≤ ((d.toNat % 4 : Nat) : Int) := by omega
      refine WL.p rfl (Pu.shr rfl rfl hd0) ?_
      repeat' (first | refine S1 ?_ | refine SD ?_ | refine SA (fun _ => ?_) | refine WL.g_split rfl rfl (fun hc => ?_) (fun hc => ?_) | refine WD.g_split rfl rfl (fun hc => ?_) (fun hc => ?_) | refine W.cond rfl (fun hc => ?_) (fun hc => ?_))
      · have hg := gE_zero gone (d.toNat % 4)
        rw [show (gE gone (d.toNat % 4) == 0) = true from hc] at hg
        rw [if_pos (by simpa using hg.symm)] at hfs
        rw [i64_succ (by omega), i64_succ (by omega)]
        exact Fin.round ⟨k + 1, lf + 1⟩ ⟨hk', by dsimp only; omega⟩ envA (fun _ h => h) (by dsimp only; omega)
      · have hg := gE_zero gone (d.toNat % 4)
        rw [show (gE gone (d.toNat % 4) == 0) = false from hc] at hg
        rw [if_neg (by simpa using hg.symm), Nat.add_zero] at hfs
        rw [i64_succ (by omega)]
        exact Fin.round ⟨k + 1, lf⟩ ⟨hk', by dsimp only; omega⟩ envA (fun _ h => h) (by dsimp only; omega)
    have hki : k = i := by have := of_decide_eq_false (p := (k : Int) < (i : Int)) (by assumption); omega
    subst hki
    rw [List.take_of_length_le (by omega)] at hlf
    have hlfk : lf ≤ 60 := by
      have h1 := fil_le (fun d => !gB gone (d % 4)) L L.length
      rw [List.take_length] at h1
      omega
    obtain ⟨hp1, hp2, hp3, hp4⟩ := hI3.end_
    rw [htw] at hp1
    rw [← hlf] at hp2
    have hsm : f2.small := by
      have h1 := InvP.small hI3
      have h2 := hI3.len
      show sumB _ f2.S.L ≤ _
      omega
    refine WL.e rfl (Ef.call (c := f2.H) (by exact rfl) (.all _) (point_tr _ f2 hf2 hsm)) ?_
    rintro _ _ ⟨_, ⟨pa, pn, pc, pb, ds, rfl, hpo, hdok, hdm, rfl⟩, rfl⟩
    rw [hp1, List.append_nil]
    have hcf : f2.c = c := hcS2
    have hdl : ds.length = n := by
      have := congrArg List.length hdm
      rw [List.length_map, hp1] at this
      exact this
    have hpn : pn = n := by
      have := OwnS.len hpo
      rw [flat_len' DM.cells 7 (fun _ => rfl)] at this
      omega
    rw [hcf]
    dsimp only [tup]
    repeat' (first | refine S1 ?_ | refine SD ?_ | refine SA (fun _ => ?_) | refine WL.g_split rfl rfl (fun hc => ?_) (fun hc => ?_) | refine WD.g_split rfl rfl (fun hc => ?_) (fun hc => ?_) | refine W.cond rfl (fun hc => ?_) (fun hc => ?_))
    · exfalso
      rw [show IntKind.u32.wrap (first - 1) = c from hc0] at hc
      simp at hc
    · exfalso
      simp at hc
      omega
    refine WL.e rfl (Ef.callR (c := f2.H) (by exact rfl) (.last (.right (.right .all))) (out_tr _ f2 hf2 hsm 0)) ?_
    rintro _ _ ⟨rfl, rfl⟩
    rw [hp2]
    repeat' (first | refine S1 ?_ | refine SD ?_ | refine SA (fun _ => ?_) | refine WL.g_split rfl rfl (fun hc => ?_) (fun hc => ?_) | refine WD.g_split rfl rfl (fun hc => ?_) (fun hc => ?_) | refine W.cond rfl (fun hc => ?_) (fun hc => ?_))
    · exfalso
      simp at hc
    refine WL.e rfl (Ef.call (c := f2.H) (by exact rfl) (.last (.right (.right .all))) (lost_tr _ f2 hf2)) ?_
    rintro _ _ ⟨_, ⟨xa, xn, xc, xb, rfl, hxo, rfl⟩, rfl⟩
    have hx0 : xn = 0 := by
      have h1 := hxo.len
      rw [hp3] at h1
      simpa using h1.symm
    subst hx0
    repeat' (first | refine S1 ?_ | refine SD ?_ | refine SA (fun _ => ?_) | refine WL.g_split rfl rfl (fun hc => ?_) (fun hc => ?_) | refine WD.g_split rfl rfl (fun hc => ?_) (fun hc => ?_) | refine W.cond rfl (fun hc => ?_) (fun hc => ?_))
    refine W.loop (G := Nat) (fun q => [(0, .int .u32 first), (13, .int .i64 n), (17, .slice pa pn pc), (18, .int .i64 q)])
      (fun _ => pb ++ ds.flatMap DM.bb) (fun q => q ≤ n) (fun q => n - q) 0 (Nat.zero_le _) envA (fun _ h => In.of_sub (.pickL (L := pb) (.right .here) (.last (L := ds.flatMap DM.bb) (.right .here))) h) ?_
    intro q hq
    repeat' (first | refine S1 ?_ | refine SD ?_ | refine SA (fun _ => ?_) | refine WL.g_split rfl rfl (fun hc => ?_) (fun hc => ?_) | refine WD.g_split rfl rfl (fun hc => ?_) (fun hc => ?_) | refine W.cond rfl (fun hc => ?_) (fun hc => ?_))
    · have hq' : q < n := by have := of_decide_eq_true (p := (q : Int) < (n : Int)) (by assumption); omega
      obtain ⟨m, hm⟩ : ∃ m, ds[q]? = some m := ⟨ds[q]'(by omega), by simp⟩
      have hmd : (Flt.ptL f2.S.L)[q]? = some m.d := by rw [← hdm, List.getElem?_map, hm]; rfl
      obtain ⟨k1, k2, k3⟩ := hp4 q m.d hmd
      have hmb : m.bn = 1 := by
        have := OwnS.len (hdok m (List.mem_of_getElem? hm))
        rw [List.length_map, k3] at this
        omega
      obtain ⟨mb, mo, rfl, mcan⟩ := (Lst.own (F := F) (H := pb) hpo (fun _ h => h)).el (cells := DM.cells) (fun _ => rfl) hm (by omega)
      have hqa : 0 ≤ (q : Int) ∧ (q : Int) < (pn : Int) := by omega
      have m0 : Sl.Can F (pb ++ ds.flatMap DM.bb) mb (mo + (q : Int).toNat * 7 + 0) [.int .u32 m.d.tsn] := (mcan.one (i := 0) rfl).mono (fun _ h => h.left)
      have m1 : Sl.Can F (pb ++ ds.flatMap DM.bb) mb (mo + (q : Int).toNat * 7 + 1) [.int .u16 m.d.stream] := (mcan.one (i := 1) rfl).mono (fun _ h => h.left)
      have m6 : Sl.Can F (pb ++ ds.flatMap DM.bb) mb (mo + (q : Int).toNat * 7 + 6) [.slice m.ba m.bn m.bc] := (mcan.one (i := 6) rfl).mono (fun _ h => h.left)
      repeat' (first | refine S1 ?_ | refine SD ?_ | refine SA (fun _ => ?_) | refine WL.g_split rfl rfl (fun hc => ?_) (fun hc => ?_) | refine WD.g_split rfl rfl (fun hc => ?_) (fun hc => ?_) | refine W.cond rfl (fun hc => ?_) (fun hc => ?_))
      · exfalso
        rw [k1] at hc
        have hcS : f2.S.c = c := hcS2
        rw [hcS, ← hc0] at hc
        have e : Spn.u32 (Spn.u32 (first - 1) + 1 + q) = IntKind.u32.wrap (first + IntKind.u32.wrap (q : Int)) := by
          simp only [Spn.u32_eq]
          omega
        rw [e] at hc
        simp at hc
      · exfalso
        rw [k2, i64_id (by omega) (by omega)] at hc
        simp at hc
      · exfalso
        rw [hmb] at hc
        simp at hc
      · rw [i64_succ (by omega)]
        exact Fin.round (q + 1) hq' envA (fun _ h => h) (by omega)
    refine WL.e rfl (Ef.call (c := []) (by exact rfl) (.nil _) (works_tr _)) ?_
    rintro _ _ ⟨_, ⟨rfl, rfl⟩, rfl⟩
    rw [List.nil_append]
    repeat' (first | refine S1 ?_ | refine SD ?_ | refine SA (fun _ => ?_) | refine WL.g_split rfl rfl (fun hc => ?_) (fun hc => ?_) | refine WD.g_split rfl rfl (fun hc => ?_) (fun hc => ?_) | refine W.cond rfl (fun hc => ?_) (fun hc => ?_))
    exact Fin.retW (by exact rfl) resA (H' := []) (fun _ h => h.sublist (List.nil_sublist _)) ⟨rfl, rfl⟩
end Go.Proofs.Ytglobldnockdoaa
