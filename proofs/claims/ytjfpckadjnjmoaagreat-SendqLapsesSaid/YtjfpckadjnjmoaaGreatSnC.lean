/- A sender in memory: what it looks at, walked. Conditions: it is well formed. -/
import Derived.Test.YtjfpckadjnjmoaaGreatSnB
namespace Go.Proofs.YtjfpckadjnjmoaaGreat
open Go Go.Sl Go.Pth

theorem clock_tr (F : Nat → Option Obj) (now : Int) : Tr Tryz.prog 22 [.int .i64 now].toArray F [] (fun v H => v = .int .i64 (Snd.clock now) ∧ H = []) := by
  refine Tr.enter Tryz.func22 rfl Tryz.ntmps22 rfl (fun w0 => ?_)
  repeat' (first | refine S2b ?_ | refine SD ?_ | refine SA (fun _ => ?_) | refine G1 (fun hc => ?_) (fun hc => ?_) | refine G2 (fun hc => ?_) (fun hc => ?_) | refine G3 (fun hc => ?_) (fun hc => ?_))
  simp only [Go.Pth.go_mx, Go.Pth.go_mn]
  exact Fin.retW (by exact rfl) resA (fun _ h => h) ⟨rfl, rfl⟩
theorem round_tr (F : Nat → Option Obj) (n : Int) (hn : 0 ≤ n ∧ n ≤ 1000000) : Tr Tryz.prog 97 [.int .i64 n].toArray F [] (fun v H => v = .int .i64 ((n + 3) / 4 * 4) ∧ H = []) := by
  refine Tr.enter Tryz.func97 rfl Tryz.ntmps97 rfl (fun w0 => ?_)
  repeat' (first | refine S2b ?_ | refine SD ?_ | refine SA (fun _ => ?_) | refine G1 (fun hc => ?_) (fun hc => ?_) | refine G2 (fun hc => ?_) (fun hc => ?_) | refine G3 (fun hc => ?_) (fun hc => ?_))
  · exfalso; have := of_decide_eq_true hc; omega
  · exfalso; have := of_decide_eq_true hc; omega
  · refine WL.p rfl (Pu.andNot rfl rfl) ?_
    rw [i64_id (n := n + 3) (by omega) (by omega), strike3 (by omega)]
    repeat' (first | refine S2b ?_ | refine SD ?_ | refine SA (fun _ => ?_) | refine G1 (fun hc => ?_) (fun hc => ?_) | refine G2 (fun hc => ?_) (fun hc => ?_) | refine G3 (fun hc => ?_) (fun hc => ?_))
    exact Fin.retW (by exact rfl) resA (fun _ h => h) ⟨rfl, rfl⟩
theorem need_tr (F : Nat → Option Obj) (n : Nat) (hn : n ≤ 1000000) : Tr Tryz.prog 66 [.int .i64 n].toArray F [] (fun v H => v = .int .i64 (Snd.need n) ∧ H = []) := by
  refine Tr.enter Tryz.func66 rfl Tryz.ntmps66 rfl (fun w0 => ?_)
  repeat' (first | refine S2b ?_ | refine SD ?_ | refine SA (fun _ => ?_) | refine G1 (fun hc => ?_) (fun hc => ?_) | refine G2 (fun hc => ?_) (fun hc => ?_) | refine G3 (fun hc => ?_) (fun hc => ?_))
  refine WL.e rfl (Ef.callR (by exact rfl) (.nil _) (round_tr _ n (by omega))) ?_
  rintro _ _ ⟨rfl, rfl⟩
  repeat' (first | refine S2b ?_ | refine SD ?_ | refine SA (fun _ => ?_) | refine G1 (fun hc => ?_) (fun hc => ?_) | refine G2 (fun hc => ?_) (fun hc => ?_) | refine G3 (fun hc => ?_) (fun hc => ?_))
  rw [i64_id (n := 16 + ((n : Int) + 3) / 4 * 4) (by omega) (by omega)]
  exact Fin.retW (by exact rfl) resA (fun _ h => h) ⟨rfl, rfl⟩
theorem SdM.ok.wrow {n : Nat} {s : SdM} (h : s.ok n) : ∃ b off, s.wa = some ⟨b, off, none⟩ ∧ ∀ (F : Nat → Option Obj) (k : Nat) m, s.ws[k]? = some m → Sl.Can F s.H b (off + (k : Int).toNat * 1) [ptr m.b] := by
  have h1 := h.nws
  obtain ⟨m0, hm0⟩ : ∃ m, s.ws[0]? = some m := ⟨s.ws[0], List.getElem?_eq_getElem (by omega)⟩
  obtain ⟨b, off, ha, _, _⟩ := SdM.wayPtr h hm0
  refine ⟨b, off, ha, fun F k m hk => ?_⟩
  obtain ⟨b', off', ha', _, hc⟩ := SdM.wayPtr h hk
  rw [ha] at ha'
  cases ha'
  exact hc F
theorem SdM.wayAt {n : Nat} {s : SdM} (h : s.ok n) {k : Nat} (hk : k < s.ws.length) : ∃ m, s.ws[k]? = some m ∧ s.S.ws[k]? = some m.W ∧ (0 ≤ (k : Int) ∧ (k : Int) < s.wn) := by
  have h1 := h.wn
  exact ⟨s.ws[k], List.getElem?_eq_getElem hk, by unfold SdM.S; dsimp only; rw [List.getElem?_map, List.getElem?_eq_getElem hk]; rfl, by omega⟩
theorem SdM.ok.out {n : Nat} {s : SdM} (h : s.ok n) (k : Int) : Flt.out s.f.S k ≤ 3072000 := h.pl.f.small _
theorem piece_tr (F : Nat → Option Obj) {n : Nat} (s : SdM) (hs : s.ok n) : Tr Tryz.prog 70 [ptr s.R].toArray F s.H (fun v H => v = .int .i64 (Snd.piece s.S) ∧ H = s.H) := by
  refine Tr.enter Tryz.func70 rfl Tryz.ntmps70 rfl (fun w0 => ?_)
  obtain ⟨c0, c1, c2, c3, c4, c5, c6, c7, c8, c9, c10, c11⟩ := s.cans (F := F)
  have hm := hs.pl.mtu
  have em : s.S.mtu = s.mtu := rfl
  rw [em] at hm
  repeat' (first | refine S2b ?_ | refine SD ?_ | refine SA (fun _ => ?_) | refine G1 (fun hc => ?_) (fun hc => ?_) | refine G2 (fun hc => ?_) (fun hc => ?_) | refine G3 (fun hc => ?_) (fun hc => ?_) | refine SL ?_ | fail)
  refine WD.e rfl (Ef.callR (by exact rfl) s.oqP.sub (osize_tr _ s.o hs.o)) ?_
  rintro _ _ ⟨rfl, rfl⟩
  refine ⟨.inr (fun _ h => h), ?_⟩
  repeat' (first | refine S2b ?_ | refine SD ?_ | refine SA (fun _ => ?_) | refine G1 (fun hc => ?_) (fun hc => ?_) | refine G2 (fun hc => ?_) (fun hc => ?_) | refine G3 (fun hc => ?_) (fun hc => ?_) | refine SL ?_ | fail)
  simp (disch := omega) only [i64_id, Int.tdiv_eq_ediv_of_nonneg, Go.Pth.go_mx, Go.Pth.go_mn]
  exact Fin.retW (by exact rfl) resA (fun _ h => h) ⟨rfl, rfl⟩
theorem may_tr (F : Nat → Option Obj) {n : Nat} (s : SdM) (hs : s.ok n) (k : Nat) (hk : k < s.ws.length) : Tr Tryz.prog 42 [ptr s.R, .int .i64 k].toArray F s.H (fun v H => v = .bool (Snd.mayW s.S k) ∧ H = s.H) := by
  refine Tr.enter Tryz.func42 rfl Tryz.ntmps42 rfl (fun w0 => ?_)
  obtain ⟨c0, c1, c2, c3, c4, c5, c6, c7, c8, c9, c10, c11⟩ := s.cans (F := F)
  obtain ⟨b, off, hwa, hel⟩ := hs.wrow
  obtain ⟨m, hm, hmS, hkn⟩ := SdM.wayAt hs hk
  have hcan := hel F k m hm
  obtain ⟨d0, d1, d2, d3⟩ := SdM.wayCans (F := F) hm
  rw [hwa] at c2
  repeat' (first | refine S2b ?_ | refine SD ?_ | refine SA (fun _ => ?_) | refine G1 (fun hc => ?_) (fun hc => ?_) | refine G2 (fun hc => ?_) (fun hc => ?_) | refine G3 (fun hc => ?_) (fun hc => ?_) | refine SL ?_ | fail)
  refine WD.e rfl (Ef.callR (by exact rfl) s.flP.sub (out_tr _ s.f hs.f hs.small k)) ?_
  rintro _ _ ⟨rfl, rfl⟩
  refine ⟨.inr (fun _ h => h), ?_⟩
  repeat' (first | refine S2b ?_ | refine SD ?_ | refine SA (fun _ => ?_) | refine G1 (fun hc => ?_) (fun hc => ?_) | refine G2 (fun hc => ?_) (fun hc => ?_) | refine G3 (fun hc => ?_) (fun hc => ?_) | refine SL ?_ | fail)
  refine WD.e rfl (Ef.callR (by exact rfl) (SdM.paP hm).sub (size_tr _ m.pm)) ?_
  rintro _ _ ⟨rfl, rfl⟩
  refine ⟨.inr (fun _ h => h), ?_⟩
  repeat' (first | refine S2b ?_ | refine SD ?_ | refine SA (fun _ => ?_) | refine G1 (fun hc => ?_) (fun hc => ?_) | refine G2 (fun hc => ?_) (fun hc => ?_) | refine G3 (fun hc => ?_) (fun hc => ?_) | refine SL ?_ | fail)
  refine Fin.retW (by exact rfl) resA (fun _ h => h) ⟨?_, rfl⟩
  unfold Snd.mayW Snd.sizeW
  rw [hmS]
  rfl
structure GK where
  i : Nat
theorem saway_tr (F : Nat → Option Obj) {n : Nat} (s : SdM) (hs : s.ok n) : Tr Tryz.prog 71 [ptr s.R].toArray F s.H (fun v H => v = .int .i64 (Snd.away s.S) ∧ H = s.H) := by
  refine Tr.enter Tryz.func71 rfl Tryz.ntmps71 rfl (fun w0 => ?_)
  obtain ⟨c0, c1, c2, c3, c4, c5, c6, c7, c8, c9, c10, c11⟩ := s.cans (F := F)
  have hwn := hs.wn
  have hnws := hs.nws
  repeat' (first | refine S2b ?_ | refine SD ?_ | refine SA (fun _ => ?_) | refine G1 (fun hc => ?_) (fun hc => ?_) | refine G2 (fun hc => ?_) (fun hc => ?_) | refine G3 (fun hc => ?_) (fun hc => ?_) | refine SL ?_ | fail)
  refine W.loop (G := GK) (fun g => [(0, ptr s.R), (9, .int .i64 s.wn), (10, .int .i64 g.i), (3, .int .i64 (((List.range g.i).map (fun k : Nat => Flt.out s.f.S k)).sum : Nat))]) (fun _ => s.H) (fun g => g.i ≤ s.wn) (fun g => s.wn - g.i) ⟨0⟩ (Nat.zero_le _) envA (fun _ h => h) ?_
  rintro ⟨i⟩ hi
  dsimp only at hi ⊢
  repeat' (first | refine S2b ?_ | refine SD ?_ | refine SA (fun _ => ?_) | refine G1 (fun hc => ?_) (fun hc => ?_) | refine G2 (fun hc => ?_) (fun hc => ?_) | refine G3 (fun hc => ?_) (fun hc => ?_) | refine SL ?_ | fail)
  · have hi' : i < s.wn := by have := of_decide_eq_true hc; omega
    refine WL.e rfl (Ef.callR (by exact rfl) s.flP.sub (out_tr _ s.f hs.f hs.small i)) ?_
    rintro _ _ ⟨rfl, rfl⟩
    have h1 := hs.out i
    have h2 := Snd.sum_le (g := fun k : Nat => Flt.out s.f.S k) (b := 3072000) (l := List.range i) (fun k _ => hs.out k)
    rw [List.length_range] at h2
    have e1 : ((List.range (i + 1)).map (fun k : Nat => Flt.out s.f.S k)).sum = ((List.range i).map (fun k : Nat => Flt.out s.f.S k)).sum + Flt.out s.f.S i := by rw [List.range_succ, List.map_append, List.sum_append]; simp
    repeat' (first | refine S2b ?_ | refine SD ?_ | refine SA (fun _ => ?_) | refine G1 (fun hc => ?_) (fun hc => ?_) | refine G2 (fun hc => ?_) (fun hc => ?_) | refine G3 (fun hc => ?_) (fun hc => ?_) | refine SL ?_ | fail)
    rw [i64_succ (by omega), i64_id (n := ((((List.range i).map (fun k : Nat => Flt.out s.f.S k)).sum : Nat) : Int) + (Flt.out s.f.S i : Int)) (by omega) (by omega)]
    exact Fin.round ⟨i + 1⟩ hi' (by dsimp only; rw [e1]; push_cast; exact envA) (fun _ h => h) (by dsimp only; omega)
  · have hi' : i = s.ws.length := by have := of_decide_eq_false hc; omega
    subst hi'
    refine Fin.retW (by exact rfl) resA (fun _ h => h) ⟨?_, rfl⟩
    unfold Snd.away
    rw [show s.S.ws.length = s.ws.length by simp [SdM.S]]
    rfl
theorem find_first {p : Nat → Bool} {n i : Nat} (hi : i < n) (hp : p i = true) (hno : ∀ j, j < i → p j = false) : (List.range n).find? p = some i := by
  rw [List.find?_range_eq_some]
  exact ⟨hp, by simpa using hi, fun j hj => by rw [hno j hj]; rfl⟩
theorem find_none {p : Nat → Bool} {n : Nat} (hno : ∀ j, j < n → p j = false) : (List.range n).find? p = none := by
  rw [List.find?_eq_none]
  intro j hj
  rw [hno j (by simpa using hj)]
  simp
theorem snext_tr (F : Nat → Option Obj) {n : Nat} (s : SdM) (hs : s.ok n) (k : Nat) (hk : k ≤ 1000) : Tr Tryz.prog 40 [ptr s.R, .int .i64 k].toArray F s.H (fun v H => v = .int .i64 (Snd.nextW s.S k) ∧ H = s.H) := by
  refine Tr.enter Tryz.func40 rfl Tryz.ntmps40 rfl (fun w0 => ?_)
  obtain ⟨c0, c1, c2, c3, c4, c5, c6, c7, c8, c9, c10, c11⟩ := s.cans (F := F)
  obtain ⟨b, off, hwa, hel⟩ := hs.wrow
  have hwn := hs.wn
  have hnws := hs.nws
  have hlen : s.S.ws.length = s.ws.length := by simp [SdM.S]
  rw [hwa] at c2
  repeat' (first | refine S2b ?_ | refine SD ?_ | refine SA (fun _ => ?_) | refine G1 (fun hc => ?_) (fun hc => ?_) | refine G2 (fun hc => ?_) (fun hc => ?_) | refine G3 (fun hc => ?_) (fun hc => ?_) | refine SL ?_ | fail)
  refine W.loop (G := GK) (fun g => [(0, ptr s.R), (1, .int .i64 k), (5, .int .i64 s.wn), (13, .int .i64 s.wn), (14, .int .i64 g.i)]) (fun _ => s.H) (fun g => g.i ≤ s.wn ∧ ∀ j, j < g.i → Snd.activeW s.S (Snd.turn s.ws.length k j) = false) (fun g => s.wn - g.i) ⟨0⟩ ⟨Nat.zero_le _, fun j hj => absurd hj (Nat.not_lt_zero _)⟩ envA (fun _ h => h) ?_
  rintro ⟨i⟩ ⟨hi, hno⟩
  dsimp only at hi hno ⊢
  have hn0 : (s.wn : Int) ≠ 0 := by omega
  repeat' (first | refine S2b ?_ | refine SD ?_ | refine SA (fun _ => ?_) | refine G1 (fun hc => ?_) (fun hc => ?_) | refine G2 (fun hc => ?_) (fun hc => ?_) | refine G3 (fun hc => ?_) (fun hc => ?_) | refine SL ?_ | fail)
  · have hi' : i < s.wn := by have := of_decide_eq_true hc; omega
    refine WL.p rfl (Pu.rem rfl rfl hn0) ?_
    rw [i64_succ (by omega), i64_id (n := ((k + 1 : Nat) : Int) + (i : Int)) (by omega) (by omega)]
    have e1 : (((k + 1 : Nat) : Int) + (i : Int)).tmod s.wn = ((Snd.turn s.ws.length k i : Nat) : Int) := by
      rw [Int.tmod_eq_emod_of_nonneg (by omega), hwn]
      unfold Snd.turn
      push_cast
      rfl
    rw [e1]
    have hq : Snd.turn s.ws.length k i < s.ws.length := Nat.mod_lt _ (by omega)
    obtain ⟨q, hqe⟩ : ∃ q, Snd.turn s.ws.length k i = q := ⟨_, rfl⟩
    rw [hqe] at hq ⊢
    obtain ⟨m, hm, hmS, hkn⟩ := SdM.wayAt hs hq
    have hcan := hel F q m hm
    obtain ⟨d0, d1, d2, d3⟩ := SdM.wayCans (F := F) hm
    have hact : Snd.activeW s.S q = Pth.active m.pm.s := by unfold Snd.activeW; rw [hmS]; rfl
    repeat' (first | refine S2b ?_ | refine SD ?_ | refine SA (fun _ => ?_) | refine G1 (fun hc => ?_) (fun hc => ?_) | refine G2 (fun hc => ?_) (fun hc => ?_) | refine G3 (fun hc => ?_) (fun hc => ?_) | refine SL ?_ | fail)
    refine WL.e rfl (Ef.callR (by exact rfl) (SdM.paP hm).sub (active_tr _ m.pm)) ?_
    rintro _ _ ⟨rfl, rfl⟩
    repeat' (first | refine S2b ?_ | refine SD ?_ | refine SA (fun _ => ?_) | refine G1 (fun hc => ?_) (fun hc => ?_) | refine G2 (fun hc => ?_) (fun hc => ?_) | refine G3 (fun hc => ?_) (fun hc => ?_) | refine SL ?_ | fail)
    · refine Fin.retW (by exact rfl) resA (fun _ h => h) ⟨?_, rfl⟩
      unfold Snd.nextW
      rw [hlen, find_first (i := i) (by omega) (by rw [hqe, hact]; exact hc) hno]
      dsimp only
      rw [hqe]
      rfl
    · rw [i64_succ (by omega)]
      refine Fin.round ⟨i + 1⟩ ⟨hi', fun j hj => ?_⟩ envA (fun _ h => h) (by dsimp only; omega)
      dsimp only at hj
      by_cases hji : j < i
      · exact hno j hji
      · rw [show j = i by omega, hqe, hact]
        exact hc
  · have hi' : i = s.ws.length := by have := of_decide_eq_false hc; omega
    subst hi'
    refine WL.p rfl (Pu.rem rfl rfl hn0) ?_
    rw [i64_succ (by omega)]
    have e1 : ((k + 1 : Nat) : Int).tmod s.wn = (((k + 1) % s.ws.length : Nat) : Int) := by
      rw [Int.tmod_eq_emod_of_nonneg (by omega), hwn]
      push_cast
      rfl
    rw [e1]
    repeat' (first | refine S2b ?_ | refine SD ?_ | refine SA (fun _ => ?_) | refine G1 (fun hc => ?_) (fun hc => ?_) | refine G2 (fun hc => ?_) (fun hc => ?_) | refine G3 (fun hc => ?_) (fun hc => ?_) | refine SL ?_ | fail)
    refine Fin.retW (by exact rfl) resA (fun _ h => h) ⟨?_, rfl⟩
    unfold Snd.nextW
    rw [hlen, find_none hno]
    rfl
theorem beq_nat (n : Nat) : ((n : Int) == 0) = decide (n = 0) := by
  by_cases h : n = 0
  · simp [h]
  · simp [h]
theorem sempty_tr (F : Nat → Option Obj) {n : Nat} (s : SdM) (hs : s.ok n) : Tr Tryz.prog 9 [ptr s.R].toArray F s.H (fun v H => v = .bool (Snd.empty s.S) ∧ H = s.H) := by
  refine Tr.enter Tryz.func9 rfl Tryz.ntmps9 rfl (fun w0 => ?_)
  obtain ⟨c0, c1, c2, c3, c4, c5, c6, c7, c8, c9, c10, c11⟩ := s.cans (F := F)
  have hon : s.owed.length = s.on_ := by have := OwnS.len hs.owed; rw [flat_len' OwM.cells 8 OwM.clen] at this; omega
  have hfl := hs.f.len
  have e : Snd.empty s.S = (decide (Oq.waiting s.o.S = 0) && (decide (s.on_ = 0) && decide (s.f.sn = 0))) := by
    unfold Snd.empty SdM.S FM.S
    dsimp only
    rw [← hon, ← hfl]
    congr 1
    congr 1
    · simp
    · simp
  rw [e]
  repeat' (first | refine S2b ?_ | refine SD ?_ | refine SA (fun _ => ?_) | refine G1 (fun hc => ?_) (fun hc => ?_) | refine G2 (fun hc => ?_) (fun hc => ?_) | refine G3 (fun hc => ?_) (fun hc => ?_) | refine SL ?_ | fail)
  refine WL.e rfl (Ef.callR (by exact rfl) s.oqP.sub (owait_tr _ s.o hs.o)) ?_
  rintro _ _ ⟨rfl, rfl⟩
  repeat' (first | refine S2b ?_ | refine SD ?_ | refine SA (fun _ => ?_) | refine G1 (fun hc => ?_) (fun hc => ?_) | refine G2 (fun hc => ?_) (fun hc => ?_) | refine G3 (fun hc => ?_) (fun hc => ?_) | refine SL ?_ | fail)
  · refine WL.e rfl (Ef.callR (by exact rfl) s.flP.sub (count_tr _ s.f)) ?_
    rintro _ _ ⟨rfl, rfl⟩
    repeat' (first | refine S2b ?_ | refine SD ?_ | refine SA (fun _ => ?_) | refine G1 (fun hc => ?_) (fun hc => ?_) | refine G2 (fun hc => ?_) (fun hc => ?_) | refine G3 (fun hc => ?_) (fun hc => ?_) | refine SL ?_ | fail)
    refine Fin.retW (by exact rfl) resA (fun _ h => h) ⟨?_, rfl⟩
    have h1 := beq_iff_eq.1 ‹((Oq.waiting s.o.S : Int) == 0) = true›
    have h2 := beq_iff_eq.1 ‹((s.on_ : Int) == 0) = true›
    rw [decide_eq_true (show Oq.waiting s.o.S = 0 by omega), decide_eq_true (show s.on_ = 0 by omega), beq_nat]
    rfl
  · refine Fin.retW (by exact rfl) resA (fun _ h => h) ⟨?_, rfl⟩
    have h2 := beq_eq_false_iff_ne.1 hc
    rw [decide_eq_false (show ¬ s.on_ = 0 by omega), Bool.false_and, Bool.and_false]
    rfl
  · refine Fin.retW (by exact rfl) resA (fun _ h => h) ⟨?_, rfl⟩
    have h2 := beq_eq_false_iff_ne.1 hc
    rw [decide_eq_false (show ¬ Oq.waiting s.o.S = 0 by omega), Bool.false_and]
    rfl
theorem sempty_nil (F : Nat → Option Obj) : Tr Tryz.prog 9 [.pointer none].toArray F [] (fun v H => v = .bool false ∧ H = []) := by
  refine Tr.enter Tryz.func9 rfl Tryz.ntmps9 rfl (fun w0 => ?_)
  repeat' (first | refine S2b ?_ | refine SD ?_ | refine SA (fun _ => ?_) | refine G1 (fun hc => ?_) (fun hc => ?_) | refine G2 (fun hc => ?_) (fun hc => ?_) | refine G3 (fun hc => ?_) (fun hc => ?_) | refine SL ?_ | fail)
  exact Fin.retW (by exact rfl) resA (fun _ h => h) ⟨rfl, rfl⟩
theorem sroom_tr (F : Nat → Option Obj) (s : SdM) : Tr Tryz.prog 17 [ptr s.R].toArray F s.H (fun v H => v = .int .i64 s.S.room ∧ H = s.H) := by
  refine Tr.enter Tryz.func17 rfl Tryz.ntmps17 rfl (fun w0 => ?_)
  obtain ⟨c0, c1, c2, c3, c4, c5, c6, c7, c8, c9, c10, c11⟩ := s.cans (F := F)
  repeat' (first | refine S2b ?_ | refine SD ?_ | refine SA (fun _ => ?_) | refine G1 (fun hc => ?_) (fun hc => ?_) | refine G2 (fun hc => ?_) (fun hc => ?_) | refine G3 (fun hc => ?_) (fun hc => ?_) | refine SL ?_ | fail)
  exact Fin.retW (by exact rfl) resA (fun _ h => h) ⟨rfl, rfl⟩
theorem sroom_nil (F : Nat → Option Obj) : Tr Tryz.prog 17 [.pointer none].toArray F [] (fun v H => v = .int .i64 0 ∧ H = []) := by
  refine Tr.enter Tryz.func17 rfl Tryz.ntmps17 rfl (fun w0 => ?_)
  repeat' (first | refine S2b ?_ | refine SD ?_ | refine SA (fun _ => ?_) | refine G1 (fun hc => ?_) (fun hc => ?_) | refine G2 (fun hc => ?_) (fun hc => ?_) | refine G3 (fun hc => ?_) (fun hc => ?_) | refine SL ?_ | fail)
  exact Fin.retW (by exact rfl) resA (fun _ h => h) ⟨rfl, rfl⟩
theorem srun_tr (F : Nat → Option Obj) {n : Nat} (s : SdM) (hs : s.ok n) (k : Nat) (hk : k < s.ws.length) (now : Int) : Tr Tryz.prog 35 [ptr s.R, .int .i64 k, .int .i64 now].toArray F s.H (fun v H => v = .tuple #[] ∧ ∃ s' : SdM, s'.ok n ∧ H = s'.H ∧ s'.R = s.R ∧ s'.S = Snd.run s.S k now) := by
  refine Tr.enter Tryz.func35 rfl Tryz.ntmps35 rfl (fun w0 => ?_)
  obtain ⟨c0, c1, c2, c3, c4, c5, c6, c7, c8, c9, c10, c11⟩ := s.cans (F := F)
  obtain ⟨b, off, hwa, hel⟩ := hs.wrow
  obtain ⟨m, hm, hmS, hkn⟩ := SdM.wayAt hs hk
  have hcan := hel F k m hm
  obtain ⟨d0, d1, d2, d3⟩ := SdM.wayCans (F := F) hm
  have hv := (hs.way hm).value
  have hcl := Snd.clock_rng now
  dsimp only [WaM.W] at hv
  rw [hwa] at c2
  repeat' (first | refine S2b ?_ | refine SD ?_ | refine SA (fun _ => ?_) | refine G1 (fun hc => ?_) (fun hc => ?_) | refine G2 (fun hc => ?_) (fun hc => ?_) | refine G3 (fun hc => ?_) (fun hc => ?_) | refine SL ?_ | fail)
  · refine WD.e rfl (Ef.callR (by exact rfl) (.nil _) (clock_tr _ now)) ?_
    rintro _ _ ⟨rfl, rfl⟩
    refine ⟨.inr (fun _ h => h), ?_⟩
    repeat' (first | refine S2b ?_ | refine SD ?_ | refine SA (fun _ => ?_) | refine G1 (fun hc => ?_) (fun hc => ?_) | refine G2 (fun hc => ?_) (fun hc => ?_) | refine G3 (fun hc => ?_) (fun hc => ?_) | refine SL ?_ | fail)
    refine WD.e rfl (Ef.callR (by exact rfl) (SdM.paP hm).sub (rto_tr _ m.pm)) ?_
    rintro _ _ ⟨rfl, rfl⟩
    refine ⟨.inr (fun _ h => h), ?_⟩
    repeat' (first | refine S2b ?_ | refine SD ?_ | refine SA (fun _ => ?_) | refine G1 (fun hc => ?_) (fun hc => ?_) | refine G2 (fun hc => ?_) (fun hc => ?_) | refine G3 (fun hc => ?_) (fun hc => ?_) | refine SL ?_ | fail)
    rw [i64_id (n := Snd.clock now + m.pm.s.r.value) (by omega) (by omega)]
    refine WD.e0 (Ef.st rfl rfl rfl (SdM.wayPut (m' := { m with timer := Snd.clock now + m.pm.s.r.value }) hm rfl rfl (off := 0 + 1) rfl)) ?_
    rintro _ _ ⟨rfl, rfl⟩
    refine ⟨.inl (by kernel_rfl), ?_⟩
    repeat' (first | refine S2b ?_ | refine SD ?_ | refine SA (fun _ => ?_) | refine G1 (fun hc => ?_) (fun hc => ?_) | refine G2 (fun hc => ?_) (fun hc => ?_) | refine G3 (fun hc => ?_) (fun hc => ?_) | refine SL ?_ | fail)
    have ht : m.timer = -1 := by simpa using hc
    have ew : WaM.W { m with timer := Snd.clock now + m.pm.s.r.value } = Snd.runW (Snd.clock now) m.W := by unfold Snd.runW WaM.W; dsimp only; rw [if_pos ht]
    refine Fin.endW (by exact rfl) resA (fun _ h => h) ⟨rfl, s.setW k { m with timer := Snd.clock now + m.pm.s.r.value }, hs.setW hm rfl (by rw [ew]; exact Snd.runW_ok (hs.way hm) (Snd.clock_at now)), rfl, rfl, ?_⟩
    rw [SdM.setW_S, ew]
    unfold Snd.run
    rw [hmS]
  · have ht : ¬ m.timer = -1 := by simpa using hc
    refine Fin.endW (by exact rfl) resA (fun _ h => h) ⟨rfl, s, hs, rfl, rfl, ?_⟩
    unfold Snd.run
    rw [hmS]
    dsimp only
    have ew : Snd.runW (Snd.clock now) m.W = m.W := by unfold Snd.runW; exact if_neg ht
    rw [ew]
    have el : s.S.ws.set k m.W = s.S.ws := by
      have h0 := (List.getElem?_eq_some_iff.1 hmS)
      obtain ⟨hlt, he⟩ := h0
      rw [← he]
      exact List.set_getElem_self hlt
    rw [el]
end Go.Proofs.YtjfpckadjnjmoaaGreat
