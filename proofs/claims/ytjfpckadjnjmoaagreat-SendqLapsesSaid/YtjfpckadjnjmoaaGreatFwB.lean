/- What is forwarded over: Make and Cut, walked. Conditions: what they are handed can be read. -/
import Derived.Test.YtjfpckadjnjmoaaGreatFlE
import Derived.Test.YtjfpckadjnjmoaaGreatBe
namespace Go.Proofs.YtjfpckadjnjmoaaGreat
open Go Go.Sl Go.Flt

theorem fahead16_tr (F : Nat → Option Obj) (a b : Int) : Tr Tryz.prog 113 [.int .u16 a, .int .u16 b].toArray F [] (fun v H => v = .int .u16 (Rm.u16 (b - a)) ∧ H = []) := by
  refine Tr.enter Tryz.func113 rfl Tryz.ntmps113 rfl (fun w0 => ?_)
  repeat' (first | refine S1 ?_ | refine SD ?_ | refine SA (fun _ => ?_) | refine G1 (fun hc => ?_) (fun hc => ?_) | refine G2 (fun hc => ?_) (fun hc => ?_) | refine G3 (fun hc => ?_) (fun hc => ?_))
  exact Fin.retW (by exact rfl) resA (fun _ h => h) ⟨rfl, rfl⟩
theorem fless16_tr (F : Nat → Option Obj) (a b : Int) : Tr Tryz.prog 110 [.int .u16 a, .int .u16 b].toArray F [] (fun v H => v = .bool (Rm.less16 a b) ∧ H = []) := by
  refine Tr.enter Tryz.func110 rfl Tryz.ntmps110 rfl (fun w0 => ?_)
  repeat' (first | refine S1 ?_ | refine SD ?_ | refine SA (fun _ => ?_) | refine G1 (fun hc => ?_) (fun hc => ?_) | refine G2 (fun hc => ?_) (fun hc => ?_) | refine G3 (fun hc => ?_) (fun hc => ?_))
  refine WL.e rfl (Ef.callR (by exact rfl) (.nil _) (fahead16_tr _ a b)) ?_
  rintro _ _ ⟨rfl, rfl⟩
  repeat' (first | refine S1 ?_ | refine SD ?_ | refine SA (fun _ => ?_) | refine G1 (fun hc => ?_) (fun hc => ?_) | refine G2 (fun hc => ?_) (fun hc => ?_) | refine G3 (fun hc => ?_) (fun hc => ?_))
  · refine Fin.retW (by exact rfl) resA (fun _ h => h) ⟨?_, rfl⟩
    have e : (Int.fdiv (IntKind.u16.wrap (BitVec.ofInt IntKind.u16.bits (if IntKind.u16.signed = true then -1 else IntKind.u16.max) ^^^ BitVec.ofInt IntKind.u16.bits (IntKind.u16.wrap 0)).toNat) (2 ^ min (1 : Int).toNat IntKind.u16.bits)) = 32767 := by decide
    simp only [Rm.less16, hc, Bool.true_and, tup]
    rw [e]
  · refine Fin.retW (by exact rfl) resA (fun _ h => h) ⟨?_, rfl⟩
    simp only [Rm.less16, hc, Bool.false_and, tup]
theorem fmax16_tr (F : Nat → Option Obj) (a b : Int) : Tr Tryz.prog 102 [.int .u16 a, .int .u16 b].toArray F [] (fun v H => v = .int .u16 (if Rm.less16 a b then b else a) ∧ H = []) := by
  refine Tr.enter Tryz.func102 rfl Tryz.ntmps102 rfl (fun w0 => ?_)
  repeat' (first | refine S1 ?_ | refine SD ?_ | refine SA (fun _ => ?_) | refine G1 (fun hc => ?_) (fun hc => ?_) | refine G2 (fun hc => ?_) (fun hc => ?_) | refine G3 (fun hc => ?_) (fun hc => ?_))
  refine WL.e rfl (Ef.callR (by exact rfl) (.nil _) (fless16_tr _ a b)) ?_
  rintro _ _ ⟨rfl, rfl⟩
  repeat' (first | refine S1 ?_ | refine SD ?_ | refine SA (fun _ => ?_) | refine G1 (fun hc => ?_) (fun hc => ?_) | refine G2 (fun hc => ?_) (fun hc => ?_) | refine G3 (fun hc => ?_) (fun hc => ?_))
  · exact Fin.retW (by exact rfl) resA (fun _ h => h) ⟨by rw [hc, if_pos rfl]; rfl, rfl⟩
  · exact Fin.retW (by exact rfl) resA (fun _ h => h) ⟨by rw [hc, if_neg (by decide)]; rfl, rfl⟩
def skC (k : Rm.Sk) : List Value := [.int .u16 k.st, .int .u16 k.n]
theorem skC_len (k : Rm.Sk) : (skC k).length = 2 := rfl
theorem skC_one (k : Rm.Sk) : ∀ u ∈ skC k, u.oneCell' = true := by
  intro u hu
  simp only [skC, List.mem_cons, List.not_mem_nil, or_false] at hu
  rcases hu with rfl | rfl <;> rfl
/-- the map of places beside the skips -/
structure Ents (es : List MapEntry) (K : List Rm.Sk) : Prop where
  len : es.length = K.length
  at_ : ∀ (j : Nat) k, K[j]? = some k → ∃ e, es[j]? = some e ∧ e.key = .int .u16 k.st ∧ e.val = .int .i64 j
theorem Ents.keys {es : List MapEntry} {K : List Rm.Sk} (h : Ents es K) : keysOk .u16 es := fun e he => by
  obtain ⟨j, hj⟩ := List.getElem?_of_mem he
  have hlt : j < K.length := by rw [← h.len]; exact (List.getElem?_eq_some_iff.1 hj).1
  obtain ⟨e', h1, h2, _⟩ := h.at_ j K[j] (List.getElem?_eq_getElem hlt)
  rw [hj] at h1
  cases h1
  exact ⟨_, h2⟩
theorem Ents.miss {es : List MapEntry} {K : List Rm.Sk} (h : Ents es K) {st : Int} (hno : ∀ k ∈ K, k.st ≠ st) : mfind es st = Option.none := by
  unfold mfind
  have : es.find? (isKey st) = .none := List.find?_eq_none.2 (fun e he hk => by
    obtain ⟨j, hj⟩ := List.getElem?_of_mem he
    have hlt : j < K.length := by rw [← h.len]; exact (List.getElem?_eq_some_iff.1 hj).1
    obtain ⟨e', h1, h2, _⟩ := h.at_ j K[j] (List.getElem?_eq_getElem hlt)
    rw [hj] at h1
    cases h1
    unfold isKey at hk
    rw [h2] at hk
    exact hno _ (List.getElem_mem hlt) (beq_iff_eq.1 hk).symm)
  rw [this]
  rfl
theorem Ents.hit {es : List MapEntry} {K : List Rm.Sk} (h : Ents es K) {st : Int} {j : Nat} {k : Rm.Sk} (hj : K[j]? = some k) (hk : k.st = st) (hb : ∀ (i : Nat) q, i < j → K[i]? = some q → q.st ≠ st) : mfind es st = some (.int .i64 j) := by
  obtain ⟨e, h1, h2, h3⟩ := h.at_ j k hj
  have hlt := (List.getElem?_eq_some_iff.1 h1).1
  have hf : es.findIdx? (isKey st) = .some j := by
    rw [List.findIdx?_eq_some_iff_getElem]
    refine ⟨hlt, ?_, fun i hi => ?_⟩
    · rw [(List.getElem?_eq_some_iff.1 h1).2]
      unfold isKey
      rw [h2]
      exact beq_iff_eq.2 hk.symm
    · have hlt2 : i < K.length := by rw [← h.len]; omega
      obtain ⟨e', h1', h2', _⟩ := h.at_ i K[i] (List.getElem?_eq_getElem hlt2)
      rw [(List.getElem?_eq_some_iff.1 h1').2]
      unfold isKey
      rw [h2']
      intro hh
      exact hb i K[i] hi (List.getElem?_eq_getElem hlt2) (beq_iff_eq.1 hh).symm
  unfold mfind
  rw [← findIdx_find, hf]
  show (es[j]?).map (·.val) = _
  rw [h1, Option.map_some, h3]
theorem Ents.add {es : List MapEntry} {K : List Rm.Sk} (h : Ents es K) (st n : Int) (clk : Nat) : Ents (es ++ [MapEntry.mk (.int .u16 st) (.int .i64 K.length) clk]) (K ++ [⟨st, n⟩]) := by
  refine ⟨by simp [h.len], fun j k hj => ?_⟩
  by_cases hlt : j < K.length
  · rw [List.getElem?_append_left hlt] at hj
    obtain ⟨e, h1, h2⟩ := h.at_ j k hj
    exact ⟨e, by rw [List.getElem?_append_left (by rw [h.len]; exact hlt)]; exact h1, h2⟩
  · rw [List.getElem?_append_right (by omega)] at hj
    cases hd : j - K.length with
    | succ i => rw [hd] at hj; cases hj
    | zero =>
      rw [hd] at hj
      cases hj
      have hjk : j = K.length := by omega
      subst hjk
      exact ⟨_, by rw [List.getElem?_append_right (by rw [h.len]; exact Nat.le_refl _), h.len, Nat.sub_self]; rfl, rfl, rfl⟩
theorem Ents.set {es : List MapEntry} {K : List Rm.Sk} (h : Ents es K) {j : Nat} {k k' : Rm.Sk} (hj : K[j]? = some k) (hk : k'.st = k.st) : Ents es (K.set j k') := by
  refine ⟨by rw [List.length_set]; exact h.len, fun i q hq => ?_⟩
  by_cases hi : j = i
  · subst hi
    rw [List.getElem?_set_self (List.getElem?_eq_some_iff.1 hj).1] at hq
    cases hq
    rw [hk]
    exact h.at_ j k hj
  · rw [List.getElem?_set_ne hi] at hq
    exact h.at_ i q hq
theorem skC_set {k : Rm.Sk} {v : Int} : ∀ {K : List Rm.Sk} {j : Nat}, K[j]? = some k → (K.flatMap skC).take (j * 2 + 1) ++ [.int .u16 v] ++ (K.flatMap skC).drop (j * 2 + 1 + 1) = (K.set j ⟨k.st, v⟩).flatMap skC
  | [], _, h => by cases h
  | q :: K, 0, h => by
    cases h
    rfl
  | q :: K, j + 1, h => by
    have ih := skC_set (v := v) (K := K) (j := j) (by simpa using h)
    rw [List.set_cons_succ, List.flatMap_cons, List.flatMap_cons, ← ih, show (j + 1) * 2 + 1 = (j * 2 + 1) + 1 + 1 by omega]
    rfl
structure GF1 where
  i : Nat
structure GMk where
  i : Nat
  K : List Rm.Sk
  es : List MapEntry
  clk : Nat
  ka : Option Addr
  kn : Nat
  kc : Nat
  kb : HL
def MakeQ (o : Option (Int × List Rm.Sk)) (v : Value) (H : HL) : Prop := match o with
  | .none => v = tup [.agg [.int .u32 0, .slice none 0 0].toArray, .bool false] ∧ H = []
  | .some (y, sk) => ∃ (ka : Option Addr) (kn kc : Nat), v = tup [.agg [.int .u32 y, .slice ka kn kc].toArray, .bool true] ∧ OwnS 168 2 (sk.flatMap skC) (.slice ka kn kc) H
def fwH (b4 b8 b9 : Nat) (y : Int) (g : GMk) : HL := (b9, .map g.es.toArray g.clk) :: (b8, .cells [.int .u32 y, .slice g.ka g.kn g.kc].toArray 54 (0, 0)) :: (b4, .cells [.int .u32 0, .slice none 0 0].toArray 54 (0, 0)) :: g.kb
set_option maxHeartbeats 8000000 in
theorem make_tr (F : Nat → Option Obj) (c : Int) (ds : List DM) (sa : Option Addr) (sn sc : Nat) (hl : Lst F [] 7 (ds.flatMap DM.cells) sa sn sc) (hfew : sn ≤ 3000) :
    Tr Tryz.prog 74 [.int .u32 c, .slice sa sn sc].toArray F [] (MakeQ (Snd.make c (ds.map (·.d)))) := by
  refine Tr.enter Tryz.func74 rfl Tryz.ntmps74 rfl (fun w0 => ?_)
  have hsn : ds.length = sn := by have := hl.len; rw [ds_len] at this; omega
  repeat' (first | refine S2b ?_ | refine SD ?_ | refine SA (fun _ => ?_) | refine G1 (fun hc => ?_) (fun hc => ?_) | refine G2 (fun hc => ?_) (fun hc => ?_) | refine G3 (fun hc => ?_) (fun hc => ?_) | refine SL ?_ | fail)
  rename_i b4
  refine W.loop (G := GF1) (fun g => [(0, .int .u32 c), (1, .slice sa sn sc), (4, .pointer (some ⟨b4, 0, none⟩)), (14, .slice sa sn sc), (15, .int .i64 sn), (16, .int .i64 g.i)]) (fun _ => [(b4, .cells [.int .u32 0, .slice none 0 0].toArray 54 (0, 0))])
    (fun g => g.i ≤ sn ∧ Snd.okRow c 0 (ds.map (·.d)) = Snd.okRow c g.i ((ds.drop g.i).map (·.d))) (fun g => sn - g.i) ⟨0⟩ ⟨Nat.zero_le _, rfl⟩ envA (fun _ h => h) ?_
  rintro ⟨i⟩ ⟨hi, hrow⟩
  dsimp only at hi hrow ⊢
  repeat' (first | refine S2b ?_ | refine SA (fun _ => ?_) | refine G1 (fun hc => ?_) (fun hc => ?_) | refine G2 (fun hc => ?_) (fun hc => ?_) | refine SL ?_ | fail)
  cases hc : decide ((i : Int) < sn) with
  | true =>
    have hi' : i < sn := by have := of_decide_eq_true hc; omega
    obtain ⟨m, hm⟩ : ∃ m, ds[i]? = some m := ⟨ds[i]'(by omega), List.getElem?_eq_getElem _⟩
    obtain ⟨b, off, hsa, hcan⟩ := hl.el DM.len hm (by omega)
    have hia : 0 ≤ (i : Int) ∧ (i : Int) < sn := by omega
    have hdr : ds.drop i = m :: ds.drop (i + 1) := by rw [List.drop_eq_getElem_cons (by omega), (List.getElem?_eq_some_iff.1 hm).2]
    rw [hdr, List.map_cons, Snd.okRow] at hrow
    rw [hsa]
    repeat' (first | refine S2b ?_ | refine SA (fun _ => ?_) | refine G1 (fun hc => ?_) (fun hc => ?_) | refine G2 (fun hc => ?_) (fun hc => ?_) | refine SL ?_ | fail)
    rename_i b7
    refine WL.e rfl (Ef.callR (by exact rfl) (.nil _) (ahead_tr _ c m.d.tsn)) ?_
    rintro _ _ ⟨rfl, rfl⟩
    have e1 : IntKind.u32.wrap (IntKind.u32.wrap (i : Int) + 1) = Spn.u32 ((i : Int) + 1) := by
      show Spn.u32 (Spn.u32 (i : Int) + 1) = _
      simp only [Spn.u32_eq]
      omega
    repeat' (first | refine S2b ?_ | refine SA (fun _ => ?_) | refine G1 (fun hc => ?_) (fun hc => ?_) | refine G2 (fun hc => ?_) (fun hc => ?_) | refine G3 (fun hc => ?_) (fun hc => ?_) | refine SL ?_ | fail)
    · have hne : ¬ Spn.u32 (m.d.tsn - c) = Spn.u32 ((i : Int) + 1) := by rw [← e1]; simpa using hc
      have hnone : Snd.make c (ds.map (·.d)) = none := by
        unfold Snd.make
        rw [hrow, decide_eq_false hne, Bool.false_and, if_neg (by decide)]
      rw [hnone]
      exact Fin.retW (by exact rfl) resA (H' := []) (fun _ h => h.sublist (List.nil_sublist _)) ⟨rfl, rfl⟩
    · have he : Spn.u32 (m.d.tsn - c) = Spn.u32 ((i : Int) + 1) := by rw [← e1]; simpa using hc
      rw [i64_succ (by omega), ← hsa]
      refine Fin.round ⟨i + 1⟩ ⟨hi', ?_⟩ envA (fun _ h => h.sublist (.cons _ (List.Sublist.refl _))) (by dsimp only; omega)
      rw [hrow, decide_eq_true he, Bool.true_and]
  | false =>
    have hi' : i = ds.length := by have := of_decide_eq_false hc; omega
    subst hi'
    rw [List.drop_length, List.map_nil, Snd.okRow] at hrow
    have hzb : ((sn : Int) == 0) = decide (sn = 0) := by
      rw [Bool.eq_iff_iff]
      simp
    repeat' (first | refine S2b ?_ | refine SA (fun _ => ?_) | refine G1 (fun hc => ?_) (fun hc => ?_) | refine G2 (fun hc => ?_) (fun hc => ?_) | refine SL ?_ | fail)
    rw [hzb]
    by_cases hz : sn = 0
    · have hnone : Snd.make c (ds.map (·.d)) = none := by
        unfold Snd.make
        rw [List.length_eq_zero_iff.1 (by omega : ds.length = 0)]
        rfl
      rw [decide_eq_true hz, hnone]
      repeat' (first | refine S2b ?_ | refine SA (fun _ => ?_) | refine G1 (fun hc => ?_) (fun hc => ?_) | refine G2 (fun hc => ?_) (fun hc => ?_) | refine G3 (fun hc => ?_) (fun hc => ?_) | refine SL ?_ | fail)
      exact Fin.retW (by exact rfl) resA (H' := []) (fun _ h => h.sublist (List.nil_sublist _)) ⟨rfl, rfl⟩
    rw [decide_eq_false hz]
    have eml : IntKind.i64.wrap ((sn : Int) - 1) = ((sn - 1 : Nat) : Int) := by rw [i64_id (by omega) (by omega)]; omega
    obtain ⟨ml, hml⟩ : ∃ m, ds[sn - 1]? = some m := ⟨ds[sn - 1]'(by omega), List.getElem?_eq_getElem _⟩
    obtain ⟨b, off, hsa, hcan⟩ := hl.el DM.len hml (by omega)
    have hil : 0 ≤ IntKind.i64.wrap ((sn : Int) - 1) ∧ IntKind.i64.wrap ((sn : Int) - 1) < sn := by omega
    have hc0 := hcan.one (i := 0) rfl
    rw [← eml] at hc0
    have hmake : Snd.make c (ds.map (·.d)) = some (ml.d.tsn, Snd.skips (ds.map (·.d))) := by
      unfold Snd.make
      rw [hrow, if_pos rfl, List.getLast?_eq_getElem?, List.getElem?_map, List.length_map, hsn, hml]
      rfl
    rw [hmake, hsa]
    repeat' (first | refine S2b ?_ | refine SA (fun _ => ?_) | refine G1 (fun hc => ?_) (fun hc => ?_) | refine G2 (fun hc => ?_) (fun hc => ?_) | refine SL ?_ | fail)
    rename_i b8 b9
    rw [← hsa]
    refine W.loop (G := GMk) (fun g => [(4, .pointer (some ⟨b4, 0, none⟩)), (8, .pointer (some ⟨b8, 0, none⟩)), (9, .map (some b9)), (44, .slice sa sn sc), (45, .int .i64 sn), (46, .int .i64 g.i)]) (fun g => fwH b4 b8 b9 ml.d.tsn g)
      (fun g => g.i ≤ sn ∧ g.K = Snd.skips ((ds.take g.i).map (·.d)) ∧ g.K.length ≤ g.i ∧ Ents g.es g.K ∧ OwnS 168 2 (g.K.flatMap skC) (.slice g.ka g.kn g.kc) g.kb) (fun g => sn - g.i) ⟨0, [], [], 0, none, 0, 0, []⟩ ⟨Nat.zero_le _, rfl, Nat.le_refl _, ⟨rfl, fun _ _ h => by cases h⟩, .inl ⟨rfl, rfl, rfl⟩⟩ envA (fun _ h => h) ?_
    clear hi hc hrow hc0 hil hml hcan hsa
    rintro ⟨i, K, es, clk, ka, kn, kc, kb⟩ ⟨hi, hK, hKl, hent, hown⟩
    dsimp only at hi hK hKl hent hown ⊢
    unfold fwH
    dsimp only
    have hkn := OwnS.len hown
    rw [flat_len' skC 2 skC_len] at hkn
    repeat' (first | refine S2b ?_ | refine SA (fun _ => ?_) | refine G1 (fun hc => ?_) (fun hc => ?_) | refine G2 (fun hc => ?_) (fun hc => ?_) | refine SL ?_ | fail)
    cases hc : decide ((i : Int) < sn) with
    | false =>
      have hi' : i = ds.length := by have := of_decide_eq_false hc; omega
      subst hi'
      rw [List.take_length] at hK
      rw [← hK]
      repeat' (first | refine S2b ?_ | refine SA (fun _ => ?_) | refine G1 (fun hc => ?_) (fun hc => ?_) | refine G2 (fun hc => ?_) (fun hc => ?_) | refine G3 (fun hc => ?_) (fun hc => ?_) | refine SL ?_ | fail)
      exact Fin.retW (by exact rfl) resA (H' := kb) (fun _ h => In.of_sub (.last (.there (.there (.there .all)))) h) ⟨ka, kn, kc, rfl, hown⟩
    | true =>
    have hi' : i < sn := by have := of_decide_eq_true hc; omega
    obtain ⟨m, hm⟩ : ∃ m, ds[i]? = some m := ⟨ds[i]'(by omega), List.getElem?_eq_getElem _⟩
    obtain ⟨b, off, hsa, hcan⟩ := hl.el DM.len hm (by omega)
    have hia : 0 ≤ (i : Int) ∧ (i : Int) < sn := by omega
    have htk : (ds.take (i + 1)).map (·.d) = (ds.take i).map (·.d) ++ [m.d] := by rw [List.take_add_one, hm, List.map_append]; rfl
    have hsk : Snd.skips ((ds.take (i + 1)).map (·.d)) = if m.d.un then K else Snd.skipIn K m.d.stream m.d.ssn := by rw [htk, Snd.skips_snoc, ← hK]
    rw [hsa]
    repeat' (first | refine S2b ?_ | refine SA (fun _ => ?_) | refine G1 (fun hc => ?_) (fun hc => ?_) | refine G2 (fun hc => ?_) (fun hc => ?_) | refine SL ?_ | fail)
    rename_i b11
    cases hun : m.d.un with
    | true =>
      rw [hun, if_pos rfl] at hsk
      repeat' (first | refine S2b ?_ | refine SA (fun _ => ?_) | refine G1 (fun hc => ?_) (fun hc => ?_) | refine G2 (fun hc => ?_) (fun hc => ?_) | refine G3 (fun hc => ?_) (fun hc => ?_) | refine SL ?_ | fail)
      rw [i64_succ (by omega), ← hsa]
      exact Fin.round ⟨i + 1, K, es, clk, ka, kn, kc, kb⟩ ⟨hi', hsk.symm, by dsimp only; omega, hent, hown⟩ envA (fun _ h => h.sublist (.cons _ (List.Sublist.refl _))) (by dsimp only; omega)
    | false =>
    rw [hun, if_neg (by decide)] at hsk
    repeat' (first | refine S2b ?_ | refine SA (fun _ => ?_) | refine G1 (fun hc => ?_) (fun hc => ?_) | refine G2 (fun hc => ?_) (fun hc => ?_) | refine SL ?_ | fail)
    cases hf : K.findIdx? (fun k => decide (k.st = m.d.stream)) with
    | none =>
      have hno : ∀ k ∈ K, k.st ≠ m.d.stream := fun k hk e => by
        have := List.findIdx?_eq_none_iff.1 hf k hk
        simp [e] at this
      rw [Snd.skipIn_new hno] at hsk
      refine WL.s rfl (Rd.lk2_none rfl rfl (by repeat (first | exact MapAt.here | apply MapAt.there | apply MapAt.right)) hent.keys (hent.miss hno)) ?_
      repeat' (first | refine S2b ?_ | refine SA (fun _ => ?_) | refine G1 (fun hc => ?_) (fun hc => ?_) | refine G2 (fun hc => ?_) (fun hc => ?_) | refine SL ?_ | fail)
      refine WL.e0 (Ef.mu_new rfl rfl rfl (by repeat (first | exact MapAt.here | apply MapAt.there | apply MapAt.right)) hent.keys (hent.miss hno)) ?_
      rintro _ _ ⟨rfl, rfl⟩
      repeat' (first | refine S2b ?_ | refine SA (fun _ => ?_) | refine G1 (fun hc => ?_) (fun hc => ?_) | refine G2 (fun hc => ?_) (fun hc => ?_) | refine SL ?_ | fail)
      refine WL.e rfl (Ef.app (m := 1) (news := skC ⟨m.d.stream, m.d.ssn⟩) (hb := kb) (by exact rfl) (by exact rfl) rfl rfl hown (.last (.there (.there (.there (.there (.there .all)))))) (Src.own (n := 2) (.here rfl)) rfl (skC_one _) (by rw [flat_len' skC 2 skC_len, skC_len]; omega) (by rw [flat_len' skC 2 skC_len, skC_len]; simp only [maxLen]; omega)) ?_
      rintro v' _ ⟨hb', hown', rfl⟩
      obtain ⟨ja, jn, jc, rfl, _, _⟩ := OwnS.shape hown'
      repeat' (first | refine S2b ?_ | refine SA (fun _ => ?_) | refine G1 (fun hc => ?_) (fun hc => ?_) | refine G2 (fun hc => ?_) (fun hc => ?_) | refine G3 (fun hc => ?_) (fun hc => ?_) | refine SL ?_ | fail)
      rw [i64_succ (by omega), ← hsa, show kn = K.length by omega]
      refine Fin.round ⟨i + 1, K ++ [⟨m.d.stream, m.d.ssn⟩], es ++ [MapEntry.mk (.int .u16 m.d.stream) (.int .i64 K.length) clk], clk + 1, ja, jn, jc, hb'⟩ ⟨hi', hsk.symm, by dsimp only; rw [List.length_append, List.length_singleton]; omega, hent.add _ _ _, by dsimp only; rw [List.flatMap_append]; simpa using hown'⟩ envA (fun _ h => ?_) (by dsimp only; omega)
      dsimp only
      exact In.of_sub (.pick (.right (.there (.there .here))) (.pick (.right (.there (.there .here))) (.pick (.right (.there (.there .here))) (.last .here)))) h
    | some j =>
      obtain ⟨hjl, hjp, hjb⟩ := List.findIdx?_eq_some_iff_getElem.1 hf
      obtain ⟨k, hk⟩ : ∃ k, K[j]? = some k := ⟨K[j]'hjl, List.getElem?_eq_getElem _⟩
      have hkst : k.st = m.d.stream := by
        rw [(List.getElem?_eq_some_iff.1 hk).2] at hjp
        exact of_decide_eq_true hjp
      have hkb : ∀ (i' : Nat) q, i' < j → K[i']? = some q → q.st ≠ m.d.stream := fun i' q hi2 hq e => by
        have h1 := hjb i' hi2
        rw [(List.getElem?_eq_some_iff.1 hq).2] at h1
        exact h1 (decide_eq_true e)
      rw [Snd.skipIn_at hk hkst hkb, ← hkst] at hsk
      obtain ⟨sb, so, hka, hkc⟩ := (Lst.own (F := F) hown (fun _ h => h)).el skC_len hk (by omega)
      have hkn1 := hkc.one (i := 1) rfl
      have hij : 0 ≤ (j : Int) ∧ (j : Int) < kn := by omega
      rw [hka] at hown ⊢
      refine WL.s rfl (Rd.lk2_some rfl rfl (by repeat (first | exact MapAt.here | apply MapAt.there | apply MapAt.right)) hent.keys (hent.hit hk hkst hkb)) ?_
      repeat' (first | refine S2b ?_ | refine SA (fun _ => ?_) | refine G1 (fun hc => ?_) (fun hc => ?_) | refine G2 (fun hc => ?_) (fun hc => ?_) | refine SL ?_ | fail)
      refine W.drawA ?_
      repeat' (first | refine S2b ?_ | refine SA (fun _ => ?_) | refine G1 (fun hc => ?_) (fun hc => ?_) | refine G2 (fun hc => ?_) (fun hc => ?_) | refine G3 (fun hc => ?_) (fun hc => ?_) | refine SL ?_ | fail)
      refine WD.e rfl (Ef.callR (by exact rfl) (.nil _) (fmax16_tr _ k.n m.d.ssn)) ?_
      rintro _ _ ⟨rfl, rfl⟩
      refine ⟨.inr (fun _ h => h), ?_⟩
      repeat' (first | refine S2b ?_ | refine SA (fun _ => ?_) | refine G1 (fun hc => ?_) (fun hc => ?_) | refine G2 (fun hc => ?_) (fun hc => ?_) | refine G3 (fun hc => ?_) (fun hc => ?_) | refine SL ?_ | fail)
      obtain ⟨hb3, hown3, hput3⟩ := hown.put (j * 2 + 1) [.int .u16 (if Rm.less16 k.n m.d.ssn then m.d.ssn else k.n)] (by rw [flat_len' skC 2 skC_len]; simp; omega)
      have hput4 : PutAt sb (so + (j : Int).toNat * 2 + 1) [.int .u16 (if Rm.less16 k.n m.d.ssn then m.d.ssn else k.n)] kb hb3 := hput3
      refine WD.e0 (Ef.st rfl rfl rfl (.there (.there (.there (.there hput4))))) ?_
      rintro _ _ ⟨rfl, rfl⟩
      refine ⟨.inl (by kernel_rfl), ?_⟩
      repeat' (first | refine S2b ?_ | refine SA (fun _ => ?_) | refine G1 (fun hc => ?_) (fun hc => ?_) | refine G2 (fun hc => ?_) (fun hc => ?_) | refine G3 (fun hc => ?_) (fun hc => ?_) | refine SL ?_ | fail)
      rw [i64_succ (by omega), ← hsa]
      refine Fin.round ⟨i + 1, K.set j ⟨k.st, if Rm.less16 k.n m.d.ssn then m.d.ssn else k.n⟩, es, clk, some ⟨sb, so, none⟩, kn, kc, hb3⟩ ⟨hi', hsk.symm, by dsimp only; rw [List.length_set]; omega, hent.set hk rfl, ?_⟩ envA (fun _ h => h.sublist (.cons _ (List.Sublist.refl _))) (by dsimp only; omega)
      dsimp only
      rw [← skC_set hk]
      exact hown3
theorem skC_ones (l : List Rm.Sk) : ∀ u ∈ l.flatMap skC, u.oneCell' = true := by
  intro u hu
  obtain ⟨k, _, hk⟩ := List.mem_flatMap.1 hu
  exact skC_one k u hk
theorem kclone_tr (F : Nat → Option Obj) (sk : List Rm.Sk) (sa : Option Addr) (sn sc : Nat) (hl : Lst F [] 2 (sk.flatMap skC) sa sn sc) (hn : sk.length ≤ 1000000) : Tr Tryz.prog 76 [.slice sa sn sc].toArray F [] (fun v H => ∃ (sa' : Option Addr) (sn' sc' : Nat), v = .slice sa' sn' sc' ∧ OwnS 168 2 (sk.flatMap skC) (.slice sa' sn' sc') H) := by
  refine Tr.enter Tryz.func76 rfl Tryz.ntmps76 rfl (fun w0 => ?_)
  have hlen : sk.length = sn := by have := hl.len; rw [flat_len' skC 2 skC_len] at this; omega
  repeat' (first | refine S1 ?_ | refine SD ?_ | refine SA (fun _ => ?_) | refine G1 (fun hc => ?_) (fun hc => ?_) | refine G2 (fun hc => ?_) (fun hc => ?_) | refine G3 (fun hc => ?_) (fun hc => ?_))
  · have hs0 : sa = none := by simpa using hc
    subst hs0
    have h0 := hl.ok rfl
    rw [h0] at hlen
    have hbs : sk = [] := List.eq_nil_of_length_eq_zero hlen
    subst hbs
    exact Fin.retW (by exact rfl) resA (fun _ h => h) ⟨none, 0, 0, rfl, .inl ⟨rfl, rfl, rfl⟩⟩
  · refine WL.e rfl (Ef.app (m := sn) (news := sk.flatMap skC) (xs := []) (by exact rfl) (by exact rfl) rfl rfl (OwnS.empty _ _ _) (.all _) hl.any.src (by rw [flat_len' skC 2 skC_len]; omega) (skC_ones sk) (by rw [flat_len' skC 2 skC_len]; simp; omega) (by rw [flat_len' skC 2 skC_len]; simp [maxLen]; omega)) ?_
    rintro v' _ ⟨hb', hown', rfl⟩
    obtain ⟨sa', sn', sc', rfl, _, _⟩ := OwnS.shape hown'
    repeat' (first | refine S1 ?_ | refine SD ?_ | refine SA (fun _ => ?_) | refine G1 (fun hc => ?_) (fun hc => ?_) | refine G2 (fun hc => ?_) (fun hc => ?_) | refine G3 (fun hc => ?_) (fun hc => ?_))
    exact Fin.retW (by exact rfl) resA (H' := hb') (fun _ h => h.left) ⟨sa', sn', sc', rfl, hown'⟩
theorem cut_tr (F : Nat → Option Obj) (y : Int) (sk : List Rm.Sk) (ka : Option Addr) (kn kc : Nat) (hl : Lst F [] 2 (sk.flatMap skC) ka kn kc) (hn : sk.length ≤ 1000000) (most : Int) (hm : 0 ≤ most ∧ most ≤ 2000) : Tr Tryz.prog 41 [.agg [.int .u32 y, .slice ka kn kc].toArray, .int .i64 most].toArray F [] (fun v H => ∃ (sa' : Option Addr) (sn' sc' : Nat), v = .slice sa' sn' sc' ∧ OwnS 168 2 ((Snd.cutSk sk most).flatMap skC) (.slice sa' sn' sc') H) := by
  refine Tr.enter Tryz.func41 rfl Tryz.ntmps41 rfl (fun w0 => ?_)
  have hlen : sk.length = kn := by have := hl.len; rw [flat_len' skC 2 skC_len] at this; omega
  have hcap := hl.cap
  repeat' (first | refine S2b ?_ | refine SD ?_ | refine SA (fun _ => ?_) | refine G1 (fun hc => ?_) (fun hc => ?_) | refine G2 (fun hc => ?_) (fun hc => ?_) | refine G3 (fun hc => ?_) (fun hc => ?_))
  rename_i b2
  simp (disch := omega) only [i64_id, Int.tdiv_eq_ediv_of_nonneg, Go.Pth.go_mx, Go.Pth.go_mn]
  obtain ⟨q, hq⟩ : ∃ q : Nat, (Snd.cutSk sk most = sk.take q ∧ max 0 (min (kn : Int) (most / 4 - 1)) = (q : Int)) ∧ q ≤ sk.length := by
    refine ⟨(max 0 (min (kn : Int) (most / 4 - 1))).toNat, ⟨?_, by omega⟩, by omega⟩
    unfold Snd.cutSk
    rw [hlen]
  rw [hq.1.2]
  refine WL.p rfl (by exact Pu.slHi rfl rfl (by omega)) ?_
  rw [show ((q : Int)).toNat = q from rfl]
  refine WL.e rfl (Ef.look (by exact rfl) (fun F' hF => kclone_tr F' (sk.take q) ka q kc ((Lst.take skC_len hl (by decide) hq.2).mono (fun w h => (hF w h).sublist (List.nil_sublist _))) (by rw [List.length_take]; omega))) ?_
  rintro _ _ ⟨H1, ⟨sa', sn', sc', rfl, hown'⟩, rfl⟩
  repeat' (first | refine S2b ?_ | refine SD ?_ | refine SA (fun _ => ?_) | refine G1 (fun hc => ?_) (fun hc => ?_) | refine G2 (fun hc => ?_) (fun hc => ?_) | refine G3 (fun hc => ?_) (fun hc => ?_))
  exact Fin.retW (by exact rfl) resA (H' := H1) (fun _ h => h.left) ⟨sa', sn', sc', rfl, by rw [hq.1.1]; exact hown'⟩
end Go.Proofs.YtjfpckadjnjmoaaGreat
