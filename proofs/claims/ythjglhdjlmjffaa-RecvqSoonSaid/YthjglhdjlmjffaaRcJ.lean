/- The law RecvqSoon, walked: an acknowledgement is due at once behind a hole, behind every second packet, or some ticks behind the first. Conditions: the argument's bytes are in memory. -/
import Derived.Test.YthjglhdjlmjffaaRcF
import Derived.Test.YthjglhdjlmjffaaRcQ
import Derived.Test.YthjglhdjlmjffaaBc
namespace Go.Proofs.Ythjglhdjlmjffaa
open Go Go.Sl Go.Rm

structure SoG where
  i : Nat
  c : Nat
  h : Int
  f : Int
  A : List Bool
  ds : List Int
  r : RcM
structure SoQ where
  q : Nat
  v : Bool
theorem mk_bool (n : Nat) : mkCells [.bool false] n = (List.replicate n false).map Value.bool := by
  induction n with
  | zero => rfl
  | succ n ih => rw [mkCells, ih]; rfl
theorem mk_ten : mkCells [.int .u8 0] 10 = Rcv.ten.map B := rfl
theorem bool_at {A : List Bool} {k : Nat} (hk : k < A.length) : (A.map Value.bool)[0 + ((k : Nat) : Int).toNat * 1]? = some (.bool (A.getD k false)) := by
  have e : 0 + ((k : Nat) : Int).toNat * 1 = k := by omega
  rw [e, List.getElem?_map, List.getD_eq_getElem?_getD, List.getElem?_eq_getElem hk]
  rfl
theorem bool_set {A : List Bool} {k : Nat} (hk : k < A.length) : spliceK (A.map Value.bool) (0 + ((k : Nat) : Int).toNat * 1) [.bool true] some = some ((A.set k true).map Value.bool) := by
  have e : 0 + ((k : Nat) : Int).toNat * 1 = k := by omega
  rw [e, spliceK_eq, if_pos (by rw [List.length_map]; exact hk), List.map_set, List.set_eq_take_append_cons_drop, if_pos (by rw [List.length_map]; exact hk)]
  simp
set_option maxRecDepth 20000 in
set_option maxHeartbeats 8000000 in
theorem soonLaw_tr (F : Nat → Option Obj) (first : Int) (l : List Int) (hlb : ∀ y ∈ l, 0 ≤ y ∧ y < 256) (ka : Option Addr) (kn kc : Nat) (hl : Lst F [] 1 (l.map (Value.int .u8)) ka kn kc) :
    Tr Try.prog 4 [.int .u32 first, .slice ka kn kc].toArray F [] (fun v H => v = .bool true ∧ H = []) := by
  refine Tr.enter Try.func4 rfl Try.ntmps4 rfl (fun w0 => ?_)
  have hkn : kn = l.length := lst_int hl
  repeat' (first | refine S1 ?_ | refine SD ?_ | refine SA (fun _ => ?_) | refine WL.g_split rfl rfl (fun hc => ?_) (fun hc => ?_) | refine WD.g_split rfl rfl (fun hc => ?_) (fun hc => ?_) | refine W.cond rfl (fun hc => ?_) (fun hc => ?_))
  · refine WL.e rfl (Ef.callR (by exact rfl) (.nil _) (works_tr _)) ?_
    rintro _ _ ⟨rfl, rfl⟩
    repeat' (first | refine S1 ?_ | refine SD ?_ | refine SA (fun _ => ?_) | refine WL.g_split rfl rfl (fun hc => ?_) (fun hc => ?_) | refine WD.g_split rfl rfl (fun hc => ?_) (fun hc => ?_) | refine W.cond rfl (fun hc => ?_) (fun hc => ?_))
    exact Fin.retW (by exact rfl) resA (fun _ h => h.sublist (List.nil_sublist _)) ⟨rfl, rfl⟩
  have h80 : kn ≤ 80 := by have := of_decide_eq_false hc; omega
  clear hc
  refine WL.e rfl (Ef.callR (by exact rfl) (.nil _) (plain_tr _ 4000 (by omega))) ?_
  rintro _ _ ⟨rfl, rfl⟩
  repeat' (first | refine S1 ?_ | refine SD ?_ | refine SA (fun _ => ?_) | refine WL.g_split rfl rfl (fun hc => ?_) (fun hc => ?_) | refine WD.g_split rfl rfl (fun hc => ?_) (fun hc => ?_) | refine W.cond rfl (fun hc => ?_) (fun hc => ?_))
  refine WL.e rfl (Ef.call (by exact rfl) (.nil _) (rnew_tr _ (plainC 4000) first)) ?_
  rintro _ _ ⟨_, (⟨hno, _⟩ | ⟨_, r0, hr0, rfl, rfl, hS0, ht0⟩), rfl⟩
  · exact absurd (by unfold Cfg.rcvOk plainC; dsimp only; omega) hno
  have hS0 : r0.S = Rcv.soonS first (List.replicate 300 false) 0 [] 0 0 := by rw [hS0, ← Rcv.soon_begin]; rfl
  dsimp only [tup]
  repeat' (first | refine S1 ?_ | refine SD ?_ | refine SA (fun _ => ?_) | refine WL.g_split rfl rfl (fun hc => ?_) (fun hc => ?_) | refine WD.g_split rfl rfl (fun hc => ?_) (fun hc => ?_) | refine W.cond rfl (fun hc => ?_) (fun hc => ?_))
  refine WL.e rfl (Ef.mkS (n := 300) (z := [.bool false]) (by exact rfl) (by exact rfl) rfl rfl (by decide) (by decide)) ?_
  rintro _ _ ⟨bA, rfl, rfl⟩
  rw [mk_bool]
  repeat' (first | refine S1 ?_ | refine SD ?_ | refine SA (fun _ => ?_) | refine WL.g_split rfl rfl (fun hc => ?_) (fun hc => ?_) | refine WD.g_split rfl rfl (fun hc => ?_) (fun hc => ?_) | refine W.cond rfl (fun hc => ?_) (fun hc => ?_))
  refine W.loop (G := SoG) (fun g => [(0, .int .u32 first), (1, .slice ka kn kc), (5, .pointer (some ⟨r0.R, 0, none⟩)), (7, .slice (some ⟨bA, 0, none⟩) 300 300), (8, .int .i64 g.h), (9, .int .i64 g.f), (10, .int .i64 g.c), (11, .int .i64 g.i)])
    (fun g => (bA, .cells (g.A.map Value.bool).toArray 4 (0, 0)) :: g.r.H)
    (fun g => g.i ≤ kn ∧ g.c ≤ 250 ∧ (g.h = 0 ∨ g.h = 1) ∧ (0 ≤ g.f ∧ g.f ≤ 1000) ∧ g.A.length = 300 ∧ g.A.getD g.c false = false ∧ (∀ q, 250 ≤ q → g.A.getD q false = false) ∧ g.r.ok ∧ g.r.R = r0.R ∧ g.r.w.turns ≤ g.i ∧ ∃ f', (g.h = 0 ∨ f' = g.f) ∧ g.r.S = Rcv.soonS first g.A g.c g.ds g.h f') (fun g => kn - g.i)
    ⟨0, 0, 0, 0, List.replicate 300 false, [], r0⟩ ⟨Nat.zero_le _, Nat.zero_le _, .inl rfl, by dsimp only; omega, List.length_replicate, rfl, fun q _ => ?_, hr0, rfl, by rw [ht0]; exact Int.le_refl _, 0, .inl rfl, hS0⟩ envA (fun _ h => by rw [List.append_nil] at h; exact h) ?_
  · cases h : (List.replicate 300 false).getD q false with
    | false => rfl
    | true =>
      have hlt := Rcv.getD_lt h
      rw [List.length_replicate] at hlt
      rw [List.getD_eq_getElem?_getD, List.getElem?_replicate, if_pos hlt] at h
      cases h
  rintro ⟨i, c, h, f, A, ds, r⟩ ⟨hi, hc250, hh, hf, hA, hAc, hA2, hr, hR, hturn, f', hff, hS⟩
  dsimp only at hi hc250 hh hf hA hAc hA2 hr hR hturn hff hS ⊢
  repeat' (first | refine S1 ?_ | refine SA (fun _ => ?_) | refine WL.g_split rfl rfl (fun hc => ?_) (fun hc => ?_) | refine WD.g_split rfl rfl (fun hc => ?_) (fun hc => ?_) | refine W.cond rfl (fun hc => ?_) (fun hc => ?_))
  rotate_left
  · refine WL.e rfl (Ef.callR (by exact rfl) (.nil _) (works_tr _)) ?_
    rintro _ _ ⟨rfl, rfl⟩
    repeat' (first | refine S1 ?_ | refine SD ?_ | refine SA (fun _ => ?_) | refine WL.g_split rfl rfl (fun hc => ?_) (fun hc => ?_) | refine WD.g_split rfl rfl (fun hc => ?_) (fun hc => ?_) | refine W.cond rfl (fun hc => ?_) (fun hc => ?_))
    exact Fin.retW (by exact rfl) resA (fun _ h => h.sublist (List.nil_sublist _)) ⟨rfl, rfl⟩
  have hi' : i < kn := by have := of_decide_eq_true hc; omega
  clear hc
  obtain ⟨y, hy⟩ : ∃ y, l[i]? = some y := ⟨l[i]'(by omega), by simp⟩
  have hyr := hlb y (List.mem_of_getElem? hy)
  obtain ⟨b, off, rfl, hcb⟩ := lst_el hl hy
  have hia : 0 ≤ (i : Int) ∧ (i : Int) < kn := by omega
  rw [← hR]
  repeat' (first | refine S1 ?_ | refine SA (fun _ => ?_) | refine WL.g_split rfl rfl (fun hc => ?_) (fun hc => ?_) | refine WD.g_split rfl rfl (fun hc => ?_) (fun hc => ?_) | refine W.cond rfl (fun hc => ?_) (fun hc => ?_))
  refine WL.p rfl (Pu.rem rfl rfl (by decide)) ?_
  have e1 : IntKind.i64.wrap y = y := i64_id (by omega) (by omega)
  obtain ⟨j, hj, hj3⟩ : ∃ j : Nat, y.tmod 4 = (j : Int) ∧ j ≤ 3 := ⟨(y % 4).toNat, by rw [Int.tmod_eq_emod_of_nonneg (by omega)]; omega, by omega⟩
  have e3 : IntKind.i64.wrap ((c : Int) + (j : Int)) = ((c + j : Nat) : Int) := by rw [i64_id (by omega) (by omega)]; omega
  have e4 : IntKind.i64.wrap (2 * (i : Int)) = 2 * (i : Int) := i64_id (by omega) (by omega)
  rw [e1, hj, e4]
  repeat' (first | refine S1 ?_ | refine SA (fun _ => ?_) | refine WL.g_split rfl rfl (fun hc => ?_) (fun hc => ?_) | refine WD.g_split rfl rfl (fun hc => ?_) (fun hc => ?_) | refine W.cond rfl (fun hc => ?_) (fun hc => ?_))
  rw [e3]
  repeat' (first | refine S1 ?_ | refine SA (fun _ => ?_) | refine WL.g_split rfl rfl (fun hc => ?_) (fun hc => ?_) | refine WD.g_split rfl rfl (fun hc => ?_) (fun hc => ?_) | refine W.cond rfl (fun hc => ?_) (fun hc => ?_))
  refine W.loopX (G := SoQ) (.exit 2) (fun g => [(0, .int .u32 first), (1, .slice (some ⟨b, off, none⟩) kn kc), (5, .pointer (some ⟨r.R, 0, none⟩)), (7, .slice (some ⟨bA, 0, none⟩) 300 300), (8, .int .i64 h), (9, .int .i64 f), (10, .int .i64 c), (11, .int .i64 i), (12, .int .i64 (2 * (i : Int))), (13, .int .i64 ((c + j : Nat) : Int)), (14, .bool g.v), (15, .int .i64 g.q)]) (fun _ => (bA, .cells (A.map Value.bool).toArray 4 (0, 0)) :: r.H) (fun g => c ≤ g.q ∧ g.q ≤ 300 ∧ (g.v || Rcv.anyF A g.q) = Rcv.anyF A c) (fun g => 300 - g.q)
    ⟨c, false⟩ ⟨Nat.le_refl _, by dsimp only; omega, by rw [Bool.false_or]⟩ envA (fun _ h => h) (fun g => g.q = 300) ?_ ?_
  · rintro K' hK ⟨q, v⟩ ⟨h1, h2, h3⟩
    dsimp only at h1 h2 h3 ⊢
    rcases Nat.lt_or_ge q 300 with hq | hq
    · have hiq : 0 ≤ (q : Int) ∧ (q : Int) < ((300 : Nat) : Int) := by omega
      have hbq := bool_at (A := A) (k := q) (by omega)
      have hst := Rcv.anyF_step (A := A) (c := q) (by omega)
      obtain ⟨a, ha⟩ : ∃ a, A.getD q false = a := ⟨_, rfl⟩
      rw [ha] at hbq hst
      repeat' (first | refine S1 ?_ | refine SA (fun _ => ?_) | refine WL.g_split rfl rfl (fun hc => ?_) (fun hc => ?_) | refine WD.g_split rfl rfl (fun hc => ?_) (fun hc => ?_) | refine W.cond rfl (fun hc => ?_) (fun hc => ?_))
      · rw [i64_succ (by omega)]
        exact Fin.round ⟨q + 1, true⟩ ⟨by dsimp only; omega, by dsimp only; omega, by dsimp only; rw [Bool.true_or]; rw [hc, Bool.true_or] at h3; exact h3⟩ envA (fun _ h => h) (by dsimp only; omega)
      · rw [i64_succ (by omega)]
        exact Fin.round ⟨q + 1, a⟩ ⟨by dsimp only; omega, by dsimp only; omega, by dsimp only; rw [hc, Bool.false_or, hst] at h3; exact h3⟩ envA (fun _ h => h) (by dsimp only; omega)
      · exfalso
        have := of_decide_eq_false hc
        omega
    · repeat' (first | refine S1 ?_ | refine SA (fun _ => ?_) | refine WL.g_split rfl rfl (fun hc => ?_) (fun hc => ?_) | refine WD.g_split rfl rfl (fun hc => ?_) (fun hc => ?_) | refine W.cond rfl (fun hc => ?_) (fun hc => ?_))
      · exfalso
        have := of_decide_eq_true ‹decide ((q : Int) < ((300 : Nat) : Int)) = true›
        omega
      · exfalso
        have := of_decide_eq_true ‹decide ((q : Int) < ((300 : Nat) : Int)) = true›
        omega
      · exact Fin.weak envA (fun _ h => h) (hK ⟨q, v⟩ ⟨h1, h2, h3⟩ (by dsimp only; omega))
  rintro ⟨q, v⟩ ⟨_, _, h3⟩ hq
  dsimp only at h3 hq ⊢
  rw [hq, Rcv.anyF_end (by omega), Bool.or_false] at h3
  have hik : 0 ≤ ((c + j : Nat) : Int) ∧ ((c + j : Nat) : Int) < ((300 : Nat) : Int) := by omega
  have hbk := bool_at (A := A) (k := c + j) (by omega)
  obtain ⟨ag, hag⟩ : ∃ ag, A.getD (c + j) false = ag := ⟨_, rfl⟩
  rw [hag] at hbk
  repeat' (first | refine S1 ?_ | refine SA (fun _ => ?_) | refine WL.g_split rfl rfl (fun hc => ?_) (fun hc => ?_) | refine WD.g_split rfl rfl (fun hc => ?_) (fun hc => ?_) | refine W.cond rfl (fun hc => ?_) (fun hc => ?_))
  · refine WL.e rfl (Ef.callR (by exact rfl) (.nil _) (works_tr _)) ?_
    rintro _ _ ⟨rfl, rfl⟩
    repeat' (first | refine S1 ?_ | refine SD ?_ | refine SA (fun _ => ?_) | refine WL.g_split rfl rfl (fun hc => ?_) (fun hc => ?_) | refine WD.g_split rfl rfl (fun hc => ?_) (fun hc => ?_) | refine W.cond rfl (fun hc => ?_) (fun hc => ?_))
    exact Fin.retW (by exact rfl) resA (fun _ h => h.sublist (List.nil_sublist _)) ⟨rfl, rfl⟩
  rotate_left
  · exfalso
    have := of_decide_eq_false ‹decide (((c + j : Nat) : Int) < ((300 : Nat) : Int)) = false›
    omega
  · exfalso
    have := of_decide_eq_false ‹decide (((c + j : Nat) : Int) < ((300 : Nat) : Int)) = false›
    omega
  have hk250 : c + j < 250 := by have := of_decide_eq_false hc; omega
  clear hc
  refine WL.e rfl (Ef.mkS (n := 10) (z := [.int .u8 0]) (by exact rfl) (by exact rfl) rfl rfl (by decide) (by decide)) ?_
  rintro _ _ ⟨z1, rfl, rfl⟩
  rw [mk_ten]
  repeat' (first | refine S1 ?_ | refine SA (fun _ => ?_) | refine WL.g_split rfl rfl (fun hc => ?_) (fun hc => ?_) | refine WD.g_split rfl rfl (fun hc => ?_) (fun hc => ?_) | refine W.cond rfl (fun hc => ?_) (fun hc => ?_))
  have hst := Rcv.soon_step first hA hj3 (by omega) hAc ds h f' (2 * (i : Int)) hh (by omega)
  obtain ⟨T, hT⟩ : ∃ T, Spn.u32 (first + Spn.u32 ((c + j : Nat) : Int)) = T := ⟨_, rfl⟩
  rw [hT] at hst
  have hTr : 0 ≤ T ∧ T < 4294967296 := by rw [← hT, Spn.u32_eq]; omega
  rw [show IntKind.u32.wrap (first + IntKind.u32.wrap ((c + j : Nat) : Int)) = T from hT]
  refine WL.e rfl (Ef.call (by exact rfl) (.pickL (L := r.H) (.there (.there .all)) (.pick .here (.nil _))) (rdata_tr _ [_] r hr (Rcv.small T) (some ⟨z1, 0, none⟩) 10 10 (Src.own (n := 10) (.here (by kernel_rfl))) rfl (show (0 : Int) ≤ 0 by decide) (show (0 : Int) < 65536 by decide) hTr (by omega) (by decide))) ?_
  rintro _ _ ⟨_, ⟨rfl, r1, hr1, rfl, hR1, ht1, hS1⟩, rfl⟩
  rw [hS] at hS1
  rw [← hR1]
  refine WL.weak (H' := (bA, _) :: r1.H) (fun _ h => by rw [List.append_assoc] at h; exact In.of_sub (.pick (.right (.there .here)) (.last (L := r1.H) .here)) h) ?_
  repeat' (first | refine S1 ?_ | refine SA (fun _ => ?_) | refine WL.g_split rfl rfl (fun hc => ?_) (fun hc => ?_) | refine WD.g_split rfl rfl (fun hc => ?_) (fun hc => ?_) | refine W.cond rfl (fun hc => ?_) (fun hc => ?_))
  refine WL.e rfl (Ef.call (by exact rfl) (.last (L := r1.H) (.there .all)) (rfin_tr _ r1 hr1 (2 * (i : Int)))) ?_
  rintro _ _ ⟨_, ⟨rfl, r2, hr2, rfl, hR2, hS2, hw2⟩, rfl⟩
  rw [hS1] at hS2
  rw [← hS2] at hst
  rw [← hR2]
  refine WL.weak (H' := (bA, _) :: r2.H) (fun _ h => h.perm List.perm_append_comm) ?_
  have hset := bool_set (A := A) (k := c + j) (by omega)
  repeat' (first | refine S1 ?_ | refine SA (fun _ => ?_) | refine WL.g_split rfl rfl (fun hc => ?_) (fun hc => ?_) | refine WD.g_split rfl rfl (fun hc => ?_) (fun hc => ?_) | refine W.cond rfl (fun hc => ?_) (fun hc => ?_))
  obtain ⟨A', hA'⟩ : ∃ A', A.set (c + j) true = A' := ⟨_, rfl⟩
  rw [hA']
  have hA'l : A'.length = 300 := by rw [← hA', List.length_set]; exact hA
  have hA'2 : ∀ q, 250 ≤ q → A'.getD q false = false := fun q hq => by rw [← hA', Rcv.set_getD (by omega)]; exact hA2 q hq
  obtain ⟨c', hc'⟩ : ∃ c', Rcv.nextF A' c = c' := ⟨_, rfl⟩
  have hc'l : c' ≤ 250 := by rw [← hc']; exact Rcv.nextF_le_of (hA'2 250 (by omega)) hc250
  have hc'g : c ≤ c' := by rw [← hc']; exact Rcv.nextF_le A' c
  have hc's : A'.getD c' false = false := by rw [← hc']; exact Rcv.nextF_stop A' c
  have hc'i : ∀ q, c ≤ q → q < c' → A'.getD q false = true := fun q h1 h2 => Rcv.nextF_in (c := c) h1 (by rw [hc']; exact h2)
  have hro : r2.R = r0.R := by rw [hR2, hR1, hR]
  refine W.loopX (G := Nat) (.exit 4) (fun g => [(0, .int .u32 first), (1, .slice (some ⟨b, off, none⟩) kn kc), (5, .pointer (some ⟨r2.R, 0, none⟩)), (7, .slice (some ⟨bA, 0, none⟩) 300 300), (8, .int .i64 h), (9, .int .i64 f), (10, .int .i64 g), (11, .int .i64 i), (12, .int .i64 (2 * (i : Int))), (13, .int .i64 ((c + j : Nat) : Int)), (14, .bool v), (16, .bool ag)]) (fun _ => (bA, .cells (A'.map Value.bool).toArray 4 (0, 0)) :: r2.H) (fun g => c ≤ g ∧ g ≤ c') (fun g => c' - g)
    c ⟨Nat.le_refl _, hc'g⟩ envA (fun _ h => h) (fun g => g = c') ?_ ?_
  · rintro K' hK g ⟨h1, h2⟩
    try dsimp only at h1 h2 ⊢
    have hig : 0 ≤ (g : Int) ∧ (g : Int) < ((300 : Nat) : Int) := by omega
    have hbg := bool_at (A := A') (k := g) (by omega)
    obtain ⟨a, ha⟩ : ∃ a, A'.getD g false = a := ⟨_, rfl⟩
    rw [ha] at hbg
    repeat' (first | refine S1 ?_ | refine SA (fun _ => ?_) | refine WL.g_split rfl rfl (fun hc => ?_) (fun hc => ?_) | refine WD.g_split rfl rfl (fun hc => ?_) (fun hc => ?_) | refine W.cond rfl (fun hc => ?_) (fun hc => ?_))
    · rw [i64_succ (by omega)]
      have hlt : g < c' := by
        rcases Nat.lt_or_ge g c' with h3 | h3
        · exact h3
        · have : g = c' := by omega
          rw [this, hc's] at ha
          rw [← ha] at hc
          cases hc
      exact Fin.round (g + 1) ⟨by omega, hlt⟩ envA (fun _ h => h) (by omega)
    · refine Fin.weak envA (fun _ h => h) (hK g ⟨h1, h2⟩ ?_)
      rcases Nat.lt_or_ge g c' with h3 | h3
      · rw [hc'i g h1 h3] at ha; rw [← ha] at hc; cases hc
      · omega
  rintro g ⟨_, _⟩ rfl
  try dsimp only
  repeat' (first | refine S1 ?_ | refine SA (fun _ => ?_) | refine WL.g_split rfl rfl (fun hc => ?_) (fun hc => ?_) | refine WD.g_split rfl rfl (fun hc => ?_) (fun hc => ?_) | refine W.cond rfl (fun hc => ?_) (fun hc => ?_))
  refine W.loopX (G := SoQ) (.exit 6) (fun s => [(0, .int .u32 first), (1, .slice (some ⟨b, off, none⟩) kn kc), (5, .pointer (some ⟨r2.R, 0, none⟩)), (7, .slice (some ⟨bA, 0, none⟩) 300 300), (8, .int .i64 h), (9, .int .i64 f), (10, .int .i64 g), (11, .int .i64 i), (12, .int .i64 (2 * (i : Int))), (13, .int .i64 ((c + j : Nat) : Int)), (14, .bool s.v), (16, .bool ag), (17, .int .i64 s.q)]) (fun _ => (bA, .cells (A'.map Value.bool).toArray 4 (0, 0)) :: r2.H) (fun s => g ≤ s.q ∧ s.q ≤ 300 ∧ (s.v || Rcv.anyF A' s.q) = (v || Rcv.anyF A' g)) (fun s => 300 - s.q)
    ⟨g, v⟩ ⟨Nat.le_refl _, by dsimp only; omega, rfl⟩ envA (fun _ h => h) (fun s => s.q = 300) ?_ ?_
  · rintro K' hK ⟨q, u⟩ ⟨h1, h2, h5⟩
    dsimp only at h1 h2 h5 ⊢
    rcases Nat.lt_or_ge q 300 with hq' | hq'
    · have hiq : 0 ≤ (q : Int) ∧ (q : Int) < ((300 : Nat) : Int) := by omega
      have hbq := bool_at (A := A') (k := q) (by omega)
      have hst' := Rcv.anyF_step (A := A') (c := q) (by omega)
      obtain ⟨a, ha⟩ : ∃ a, A'.getD q false = a := ⟨_, rfl⟩
      rw [ha] at hbq hst'
      repeat' (first | refine S1 ?_ | refine SA (fun _ => ?_) | refine WL.g_split rfl rfl (fun hc => ?_) (fun hc => ?_) | refine WD.g_split rfl rfl (fun hc => ?_) (fun hc => ?_) | refine W.cond rfl (fun hc => ?_) (fun hc => ?_))
      · rw [i64_succ (by omega)]
        exact Fin.round ⟨q + 1, true⟩ ⟨by dsimp only; omega, by dsimp only; omega, by dsimp only; rw [Bool.true_or]; rw [hc, Bool.true_or] at h5; exact h5⟩ envA (fun _ h => h) (by dsimp only; omega)
      · rw [i64_succ (by omega)]
        exact Fin.round ⟨q + 1, a⟩ ⟨by dsimp only; omega, by dsimp only; omega, by dsimp only; rw [hc, Bool.false_or, hst'] at h5; exact h5⟩ envA (fun _ h => h) (by dsimp only; omega)
      · exfalso
        have := of_decide_eq_false hc
        omega
    · repeat' (first | refine S1 ?_ | refine SA (fun _ => ?_) | refine WL.g_split rfl rfl (fun hc => ?_) (fun hc => ?_) | refine WD.g_split rfl rfl (fun hc => ?_) (fun hc => ?_) | refine W.cond rfl (fun hc => ?_) (fun hc => ?_))
      · exfalso
        have := of_decide_eq_true ‹decide ((q : Int) < ((300 : Nat) : Int)) = true›
        omega
      · exfalso
        have := of_decide_eq_true ‹decide ((q : Int) < ((300 : Nat) : Int)) = true›
        omega
      · exact Fin.weak envA (fun _ h => h) (hK ⟨q, u⟩ ⟨h1, h2, h5⟩ (by dsimp only; omega))
  rintro ⟨q', u⟩ ⟨_, _, h5⟩ hq'
  dsimp only at h5 hq' ⊢
  rw [hq', Rcv.anyF_end (by omega), Bool.or_false, h3] at h5
  have hbb : r2.S.m.b = IntKind.u32.wrap (IntKind.u32.wrap (first + IntKind.u32.wrap (g : Int)) - 1) := by
    rw [hst.m, hA', hc']
    show Spn.u32 (first + (g : Int) - 1) = Spn.u32 (Spn.u32 (first + Spn.u32 (g : Int)) - 1)
    simp only [Spn.u32_eq]
    omega
  have hD0 : Rcv.soonD A c j h f' (2 * (i : Int)) = (u || ag || decide (h + 1 ≥ 2) || decide (2 * (i : Int) ≥ (if h = 0 then 2 * (i : Int) else f') + 5)) := by
    unfold Rcv.soonD
    rw [hA', hc', hag, ← h5]
  have h0 : h = 0 ∨ h = 1 := hh
  rcases h0 with h0 | h0
  · subst h0
    repeat' (first | refine S1 ?_ | refine SA (fun _ => ?_) | refine WL.g_split rfl rfl (fun hc => ?_) (fun hc => ?_) | refine WD.g_split rfl rfl (fun hc => ?_) (fun hc => ?_) | refine W.cond rfl (fun hc => ?_) (fun hc => ?_))
    · have hh' := hh
      have hDt : Rcv.soonD A c j 0 f' (2 * (i : Int)) = true := by rw [hD0]; rw [hc, Bool.true_or, Bool.true_or, Bool.true_or]
      refine WL.e rfl (Ef.callR (c := r2.H) (by exact rfl) (.last (L := r2.H) (.there .all)) (rdue_tr _ r2 hr2 (2 * (i : Int)))) ?_
      rintro _ _ ⟨rfl, rfl⟩
      rw [Rcv.soon_due hst hh', hDt]
      repeat' (first | refine S1 ?_ | refine SA (fun _ => ?_) | refine WL.g_split rfl rfl (fun hc => ?_) (fun hc => ?_) | refine WD.g_split rfl rfl (fun hc => ?_) (fun hc => ?_) | refine W.cond rfl (fun hc => ?_) (fun hc => ?_))
      refine WL.e rfl (Ef.call (c := r2.H) (by exact rfl) (.last (L := r2.H) (.there .all)) (rsack_tr _ r2 hr2)) ?_
      rintro _ _ ⟨_, ⟨r3, ga, gn, gc, gb, ra, rn, rc, rb, rfl, hr3, rfl, hR3, hw3, hS3, _, _⟩, rfl⟩
      rw [hbb]
      have hR3' : r3.R = r0.R := by rw [hR3, hro]
      rw [← hR3]
      refine WL.weak (H' := (bA, _) :: r3.H) (fun _ h => by rw [List.append_assoc] at h; exact In.of_sub (.pick (.right (.right .here)) (.last (L := r3.H) .here)) h) ?_
      have hdn : ∀ x, Del.due r3.S.d x = false := fun x => by rw [hS3]; simp [Rcv.sack, Del.due, Del.sent]
      repeat' (first | refine S1 ?_ | refine SA (fun _ => ?_) | refine WL.g_split rfl rfl (fun hc => ?_) (fun hc => ?_) | refine WD.g_split rfl rfl (fun hc => ?_) (fun hc => ?_) | refine W.cond rfl (fun hc => ?_) (fun hc => ?_))
      · exfalso
        simp at hc
      refine WL.e rfl (Ef.callR (c := r3.H) (by exact rfl) (.last (L := r3.H) (.there (.there .all))) (rdue_tr _ r3 hr3 _)) ?_
      rintro _ _ ⟨rfl, rfl⟩
      rw [hdn]
      repeat' (first | refine S1 ?_ | refine SA (fun _ => ?_) | refine WL.g_split rfl rfl (fun hc => ?_) (fun hc => ?_) | refine WD.g_split rfl rfl (fun hc => ?_) (fun hc => ?_) | refine W.cond rfl (fun hc => ?_) (fun hc => ?_))
      refine WL.e rfl (Ef.call (c := r3.H) (by exact rfl) (.last (L := r3.H) (.there (.there .all))) (ctake_tr _ r3 hr3)) ?_
      rintro _ _ ⟨_, (⟨hno, rfl, rfl⟩ | ⟨m4, r4, hm4, hr4, rfl, rfl, hR4, ht4, hrow4, hS4⟩), rfl⟩
      · have hS4 : r3.S = Rcv.take r3.S := by unfold Rcv.take Rm.take; rw [hno]
        have hS5 := Rcv.soon_yes hst
        rw [← hS3, ← hS4, hA', hc'] at hS5
        refine WL.weak (H' := (bA, _) :: r3.H) (fun _ h => In.of_sub (.pick (.right (.there .here)) (.last (L := r3.H) .here)) h) ?_
        repeat' (first | refine S1 ?_ | refine SA (fun _ => ?_) | refine WL.g_split rfl rfl (fun hc => ?_) (fun hc => ?_) | refine WD.g_split rfl rfl (fun hc => ?_) (fun hc => ?_) | refine W.cond rfl (fun hc => ?_) (fun hc => ?_))
        rw [i64_succ (by omega)]
        exact Fin.round ⟨i + 1, g, 0, 2 * (i : Int), A', [], r3⟩ ⟨hi', hc'l, .inl rfl, by dsimp only; omega, hA'l, hc's, hA'2, hr3, rfl, by dsimp only; rw [hw3, hw2]; omega, _, .inl rfl, hS5⟩ envA (fun _ h => h) (by dsimp only; omega)
      · rw [← hR4]
        have hS5 := Rcv.soon_yes hst
        rw [← hS3, ← hS4, hA', hc'] at hS5
        refine WL.weak (H' := (bA, _) :: r4.H) (fun _ h => by rw [List.append_assoc] at h; exact In.of_sub (.pick (.right (.right (.there .here))) (.last (L := r4.H) .here)) h) ?_
        repeat' (first | refine S1 ?_ | refine SA (fun _ => ?_) | refine WL.g_split rfl rfl (fun hc => ?_) (fun hc => ?_) | refine WD.g_split rfl rfl (fun hc => ?_) (fun hc => ?_) | refine W.cond rfl (fun hc => ?_) (fun hc => ?_))
        rw [i64_succ (by omega)]
        exact Fin.round ⟨i + 1, g, 0, 2 * (i : Int), A', [], r4⟩ ⟨hi', hc'l, .inl rfl, by dsimp only; omega, hA'l, hc's, hA'2, hr4, rfl, by dsimp only; rw [ht4, hw3, hw2]; omega, _, .inl rfl, hS5⟩ envA (fun _ h => h) (by dsimp only; omega)
    · have hh' := hh
      have hDt : Rcv.soonD A c j 0 f' (2 * (i : Int)) = true := by rw [hD0]; rw [hc, Bool.or_true, Bool.true_or, Bool.true_or]
      refine WL.e rfl (Ef.callR (c := r2.H) (by exact rfl) (.last (L := r2.H) (.there .all)) (rdue_tr _ r2 hr2 (2 * (i : Int)))) ?_
      rintro _ _ ⟨rfl, rfl⟩
      rw [Rcv.soon_due hst hh', hDt]
      repeat' (first | refine S1 ?_ | refine SA (fun _ => ?_) | refine WL.g_split rfl rfl (fun hc => ?_) (fun hc => ?_) | refine WD.g_split rfl rfl (fun hc => ?_) (fun hc => ?_) | refine W.cond rfl (fun hc => ?_) (fun hc => ?_))
      refine WL.e rfl (Ef.call (c := r2.H) (by exact rfl) (.last (L := r2.H) (.there .all)) (rsack_tr _ r2 hr2)) ?_
      rintro _ _ ⟨_, ⟨r3, ga, gn, gc, gb, ra, rn, rc, rb, rfl, hr3, rfl, hR3, hw3, hS3, _, _⟩, rfl⟩
      rw [hbb]
      have hR3' : r3.R = r0.R := by rw [hR3, hro]
      rw [← hR3]
      refine WL.weak (H' := (bA, _) :: r3.H) (fun _ h => by rw [List.append_assoc] at h; exact In.of_sub (.pick (.right (.right .here)) (.last (L := r3.H) .here)) h) ?_
      have hdn : ∀ x, Del.due r3.S.d x = false := fun x => by rw [hS3]; simp [Rcv.sack, Del.due, Del.sent]
      repeat' (first | refine S1 ?_ | refine SA (fun _ => ?_) | refine WL.g_split rfl rfl (fun hc => ?_) (fun hc => ?_) | refine WD.g_split rfl rfl (fun hc => ?_) (fun hc => ?_) | refine W.cond rfl (fun hc => ?_) (fun hc => ?_))
      · exfalso
        simp at hc
      refine WL.e rfl (Ef.callR (c := r3.H) (by exact rfl) (.last (L := r3.H) (.there (.there .all))) (rdue_tr _ r3 hr3 _)) ?_
      rintro _ _ ⟨rfl, rfl⟩
      rw [hdn]
      repeat' (first | refine S1 ?_ | refine SA (fun _ => ?_) | refine WL.g_split rfl rfl (fun hc => ?_) (fun hc => ?_) | refine WD.g_split rfl rfl (fun hc => ?_) (fun hc => ?_) | refine W.cond rfl (fun hc => ?_) (fun hc => ?_))
      refine WL.e rfl (Ef.call (c := r3.H) (by exact rfl) (.last (L := r3.H) (.there (.there .all))) (ctake_tr _ r3 hr3)) ?_
      rintro _ _ ⟨_, (⟨hno, rfl, rfl⟩ | ⟨m4, r4, hm4, hr4, rfl, rfl, hR4, ht4, hrow4, hS4⟩), rfl⟩
      · have hS4 : r3.S = Rcv.take r3.S := by unfold Rcv.take Rm.take; rw [hno]
        have hS5 := Rcv.soon_yes hst
        rw [← hS3, ← hS4, hA', hc'] at hS5
        refine WL.weak (H' := (bA, _) :: r3.H) (fun _ h => In.of_sub (.pick (.right (.there .here)) (.last (L := r3.H) .here)) h) ?_
        repeat' (first | refine S1 ?_ | refine SA (fun _ => ?_) | refine WL.g_split rfl rfl (fun hc => ?_) (fun hc => ?_) | refine WD.g_split rfl rfl (fun hc => ?_) (fun hc => ?_) | refine W.cond rfl (fun hc => ?_) (fun hc => ?_))
        rw [i64_succ (by omega)]
        exact Fin.round ⟨i + 1, g, 0, 2 * (i : Int), A', [], r3⟩ ⟨hi', hc'l, .inl rfl, by dsimp only; omega, hA'l, hc's, hA'2, hr3, rfl, by dsimp only; rw [hw3, hw2]; omega, _, .inl rfl, hS5⟩ envA (fun _ h => h) (by dsimp only; omega)
      · rw [← hR4]
        have hS5 := Rcv.soon_yes hst
        rw [← hS3, ← hS4, hA', hc'] at hS5
        refine WL.weak (H' := (bA, _) :: r4.H) (fun _ h => by rw [List.append_assoc] at h; exact In.of_sub (.pick (.right (.right (.there .here))) (.last (L := r4.H) .here)) h) ?_
        repeat' (first | refine S1 ?_ | refine SA (fun _ => ?_) | refine WL.g_split rfl rfl (fun hc => ?_) (fun hc => ?_) | refine WD.g_split rfl rfl (fun hc => ?_) (fun hc => ?_) | refine W.cond rfl (fun hc => ?_) (fun hc => ?_))
        rw [i64_succ (by omega)]
        exact Fin.round ⟨i + 1, g, 0, 2 * (i : Int), A', [], r4⟩ ⟨hi', hc'l, .inl rfl, by dsimp only; omega, hA'l, hc's, hA'2, hr4, rfl, by dsimp only; rw [ht4, hw3, hw2]; omega, _, .inl rfl, hS5⟩ envA (fun _ h => h) (by dsimp only; omega)
    · have hDf : Rcv.soonD A c j 0 f' (2 * (i : Int)) = false := by
        rw [hD0, if_pos rfl, decide_eq_false (p := 2 * (i : Int) ≥ 2 * (i : Int) + 5) (by omega), hc, show u = false by assumption]
        rfl
      rw [show decide (2 * (i : Int) ≥ IntKind.i64.wrap (2 * (i : Int) + 5)) = false by rw [i64_id (by omega) (by omega)]; exact decide_eq_false (by omega)]
      refine WL.e rfl (Ef.callR (c := r2.H) (by exact rfl) (.last (L := r2.H) (.there .all)) (rdue_tr _ r2 hr2 (2 * (i : Int)))) ?_
      rintro _ _ ⟨rfl, rfl⟩
      rw [Rcv.soon_due hst hh, hDf]
      repeat' (first | refine S1 ?_ | refine SA (fun _ => ?_) | refine WL.g_split rfl rfl (fun hc => ?_) (fun hc => ?_) | refine WD.g_split rfl rfl (fun hc => ?_) (fun hc => ?_) | refine W.cond rfl (fun hc => ?_) (fun hc => ?_))
      refine WL.e rfl (Ef.call (c := r2.H) (by exact rfl) (.last (L := r2.H) (.there .all)) (ctake_tr _ r2 hr2)) ?_
      have hS5 := Rcv.soon_not hst hDf
      rw [hA', hc', if_pos rfl] at hS5
      rintro _ _ ⟨_, (⟨hno, rfl, rfl⟩ | ⟨m4, r4, hm4, hr4, rfl, rfl, hR4, ht4, hrow4, hS4⟩), rfl⟩
      · have hS4 : r2.S = Rcv.take r2.S := by unfold Rcv.take Rm.take; rw [hno]
        rw [← hS4] at hS5
        refine WL.weak (H' := (bA, _) :: r2.H) (fun _ h => h.perm List.perm_append_comm) ?_
        repeat' (first | refine S1 ?_ | refine SA (fun _ => ?_) | refine WL.g_split rfl rfl (fun hc => ?_) (fun hc => ?_) | refine WD.g_split rfl rfl (fun hc => ?_) (fun hc => ?_) | refine W.cond rfl (fun hc => ?_) (fun hc => ?_))
        rw [i64_succ (by omega)]
        exact Fin.round ⟨i + 1, g, 1, 2 * (i : Int), A', _, r2⟩ ⟨hi', hc'l, .inr rfl, by dsimp only; omega, hA'l, hc's, hA'2, hr2, rfl, by dsimp only; rw [hw2]; omega, _, .inr rfl, hS5⟩ envA (fun _ h => h) (by dsimp only; omega)
      · rw [← hS4] at hS5
        rw [← hR4]
        refine WL.weak (H' := (bA, _) :: r4.H) (fun _ h => by rw [List.append_assoc] at h; exact In.of_sub (.pick (.right (.right .here)) (.last (L := r4.H) .here)) h) ?_
        repeat' (first | refine S1 ?_ | refine SA (fun _ => ?_) | refine WL.g_split rfl rfl (fun hc => ?_) (fun hc => ?_) | refine WD.g_split rfl rfl (fun hc => ?_) (fun hc => ?_) | refine W.cond rfl (fun hc => ?_) (fun hc => ?_))
        rw [i64_succ (by omega)]
        exact Fin.round ⟨i + 1, g, 1, 2 * (i : Int), A', _, r4⟩ ⟨hi', hc'l, .inr rfl, by dsimp only; omega, hA'l, hc's, hA'2, hr4, rfl, by dsimp only; rw [ht4, hw2]; omega, _, .inr rfl, hS5⟩ envA (fun _ h => h) (by dsimp only; omega)
  · subst h0
    have hff : f' = f := by rcases hff with h | h; cases h; exact h
    subst hff
    repeat' (first | refine S1 ?_ | refine SA (fun _ => ?_) | refine WL.g_split rfl rfl (fun hc => ?_) (fun hc => ?_) | refine WD.g_split rfl rfl (fun hc => ?_) (fun hc => ?_) | refine W.cond rfl (fun hc => ?_) (fun hc => ?_))
    · have hh' := hh
      have hDt : Rcv.soonD A c j 1 f' (2 * (i : Int)) = true := by rw [hD0]; rw [hc, Bool.true_or, Bool.true_or, Bool.true_or]
      refine WL.e rfl (Ef.callR (c := r2.H) (by exact rfl) (.last (L := r2.H) (.there .all)) (rdue_tr _ r2 hr2 (2 * (i : Int)))) ?_
      rintro _ _ ⟨rfl, rfl⟩
      rw [Rcv.soon_due hst hh', hDt]
      repeat' (first | refine S1 ?_ | refine SA (fun _ => ?_) | refine WL.g_split rfl rfl (fun hc => ?_) (fun hc => ?_) | refine WD.g_split rfl rfl (fun hc => ?_) (fun hc => ?_) | refine W.cond rfl (fun hc => ?_) (fun hc => ?_))
      refine WL.e rfl (Ef.call (c := r2.H) (by exact rfl) (.last (L := r2.H) (.there .all)) (rsack_tr _ r2 hr2)) ?_
      rintro _ _ ⟨_, ⟨r3, ga, gn, gc, gb, ra, rn, rc, rb, rfl, hr3, rfl, hR3, hw3, hS3, _, _⟩, rfl⟩
      rw [hbb]
      have hR3' : r3.R = r0.R := by rw [hR3, hro]
      rw [← hR3]
      refine WL.weak (H' := (bA, _) :: r3.H) (fun _ h => by rw [List.append_assoc] at h; exact In.of_sub (.pick (.right (.right .here)) (.last (L := r3.H) .here)) h) ?_
      have hdn : ∀ x, Del.due r3.S.d x = false := fun x => by rw [hS3]; simp [Rcv.sack, Del.due, Del.sent]
      repeat' (first | refine S1 ?_ | refine SA (fun _ => ?_) | refine WL.g_split rfl rfl (fun hc => ?_) (fun hc => ?_) | refine WD.g_split rfl rfl (fun hc => ?_) (fun hc => ?_) | refine W.cond rfl (fun hc => ?_) (fun hc => ?_))
      · exfalso
        simp at hc
      refine WL.e rfl (Ef.callR (c := r3.H) (by exact rfl) (.last (L := r3.H) (.there (.there .all))) (rdue_tr _ r3 hr3 _)) ?_
      rintro _ _ ⟨rfl, rfl⟩
      rw [hdn]
      repeat' (first | refine S1 ?_ | refine SA (fun _ => ?_) | refine WL.g_split rfl rfl (fun hc => ?_) (fun hc => ?_) | refine WD.g_split rfl rfl (fun hc => ?_) (fun hc => ?_) | refine W.cond rfl (fun hc => ?_) (fun hc => ?_))
      refine WL.e rfl (Ef.call (c := r3.H) (by exact rfl) (.last (L := r3.H) (.there (.there .all))) (ctake_tr _ r3 hr3)) ?_
      rintro _ _ ⟨_, (⟨hno, rfl, rfl⟩ | ⟨m4, r4, hm4, hr4, rfl, rfl, hR4, ht4, hrow4, hS4⟩), rfl⟩
      · have hS4 : r3.S = Rcv.take r3.S := by unfold Rcv.take Rm.take; rw [hno]
        have hS5 := Rcv.soon_yes hst
        rw [← hS3, ← hS4, hA', hc'] at hS5
        refine WL.weak (H' := (bA, _) :: r3.H) (fun _ h => In.of_sub (.pick (.right (.there .here)) (.last (L := r3.H) .here)) h) ?_
        repeat' (first | refine S1 ?_ | refine SA (fun _ => ?_) | refine WL.g_split rfl rfl (fun hc => ?_) (fun hc => ?_) | refine WD.g_split rfl rfl (fun hc => ?_) (fun hc => ?_) | refine W.cond rfl (fun hc => ?_) (fun hc => ?_))
        rw [i64_succ (by omega)]
        exact Fin.round ⟨i + 1, g, 0, f', A', [], r3⟩ ⟨hi', hc'l, .inl rfl, by dsimp only; omega, hA'l, hc's, hA'2, hr3, rfl, by dsimp only; rw [hw3, hw2]; omega, _, .inl rfl, hS5⟩ envA (fun _ h => h) (by dsimp only; omega)
      · rw [← hR4]
        have hS5 := Rcv.soon_yes hst
        rw [← hS3, ← hS4, hA', hc'] at hS5
        refine WL.weak (H' := (bA, _) :: r4.H) (fun _ h => by rw [List.append_assoc] at h; exact In.of_sub (.pick (.right (.right (.there .here))) (.last (L := r4.H) .here)) h) ?_
        repeat' (first | refine S1 ?_ | refine SA (fun _ => ?_) | refine WL.g_split rfl rfl (fun hc => ?_) (fun hc => ?_) | refine WD.g_split rfl rfl (fun hc => ?_) (fun hc => ?_) | refine W.cond rfl (fun hc => ?_) (fun hc => ?_))
        rw [i64_succ (by omega)]
        exact Fin.round ⟨i + 1, g, 0, f', A', [], r4⟩ ⟨hi', hc'l, .inl rfl, by dsimp only; omega, hA'l, hc's, hA'2, hr4, rfl, by dsimp only; rw [ht4, hw3, hw2]; omega, _, .inl rfl, hS5⟩ envA (fun _ h => h) (by dsimp only; omega)
    · have hh' := hh
      have hDt : Rcv.soonD A c j 1 f' (2 * (i : Int)) = true := by rw [hD0]; rw [hc, Bool.or_true, Bool.true_or, Bool.true_or]
      refine WL.e rfl (Ef.callR (c := r2.H) (by exact rfl) (.last (L := r2.H) (.there .all)) (rdue_tr _ r2 hr2 (2 * (i : Int)))) ?_
      rintro _ _ ⟨rfl, rfl⟩
      rw [Rcv.soon_due hst hh', hDt]
      repeat' (first | refine S1 ?_ | refine SA (fun _ => ?_) | refine WL.g_split rfl rfl (fun hc => ?_) (fun hc => ?_) | refine WD.g_split rfl rfl (fun hc => ?_) (fun hc => ?_) | refine W.cond rfl (fun hc => ?_) (fun hc => ?_))
      refine WL.e rfl (Ef.call (c := r2.H) (by exact rfl) (.last (L := r2.H) (.there .all)) (rsack_tr _ r2 hr2)) ?_
      rintro _ _ ⟨_, ⟨r3, ga, gn, gc, gb, ra, rn, rc, rb, rfl, hr3, rfl, hR3, hw3, hS3, _, _⟩, rfl⟩
      rw [hbb]
      have hR3' : r3.R = r0.R := by rw [hR3, hro]
      rw [← hR3]
      refine WL.weak (H' := (bA, _) :: r3.H) (fun _ h => by rw [List.append_assoc] at h; exact In.of_sub (.pick (.right (.right .here)) (.last (L := r3.H) .here)) h) ?_
      have hdn : ∀ x, Del.due r3.S.d x = false := fun x => by rw [hS3]; simp [Rcv.sack, Del.due, Del.sent]
      repeat' (first | refine S1 ?_ | refine SA (fun _ => ?_) | refine WL.g_split rfl rfl (fun hc => ?_) (fun hc => ?_) | refine WD.g_split rfl rfl (fun hc => ?_) (fun hc => ?_) | refine W.cond rfl (fun hc => ?_) (fun hc => ?_))
      · exfalso
        simp at hc
      refine WL.e rfl (Ef.callR (c := r3.H) (by exact rfl) (.last (L := r3.H) (.there (.there .all))) (rdue_tr _ r3 hr3 _)) ?_
      rintro _ _ ⟨rfl, rfl⟩
      rw [hdn]
      repeat' (first | refine S1 ?_ | refine SA (fun _ => ?_) | refine WL.g_split rfl rfl (fun hc => ?_) (fun hc => ?_) | refine WD.g_split rfl rfl (fun hc => ?_) (fun hc => ?_) | refine W.cond rfl (fun hc => ?_) (fun hc => ?_))
      refine WL.e rfl (Ef.call (c := r3.H) (by exact rfl) (.last (L := r3.H) (.there (.there .all))) (ctake_tr _ r3 hr3)) ?_
      rintro _ _ ⟨_, (⟨hno, rfl, rfl⟩ | ⟨m4, r4, hm4, hr4, rfl, rfl, hR4, ht4, hrow4, hS4⟩), rfl⟩
      · have hS4 : r3.S = Rcv.take r3.S := by unfold Rcv.take Rm.take; rw [hno]
        have hS5 := Rcv.soon_yes hst
        rw [← hS3, ← hS4, hA', hc'] at hS5
        refine WL.weak (H' := (bA, _) :: r3.H) (fun _ h => In.of_sub (.pick (.right (.there .here)) (.last (L := r3.H) .here)) h) ?_
        repeat' (first | refine S1 ?_ | refine SA (fun _ => ?_) | refine WL.g_split rfl rfl (fun hc => ?_) (fun hc => ?_) | refine WD.g_split rfl rfl (fun hc => ?_) (fun hc => ?_) | refine W.cond rfl (fun hc => ?_) (fun hc => ?_))
        rw [i64_succ (by omega)]
        exact Fin.round ⟨i + 1, g, 0, f', A', [], r3⟩ ⟨hi', hc'l, .inl rfl, by dsimp only; omega, hA'l, hc's, hA'2, hr3, rfl, by dsimp only; rw [hw3, hw2]; omega, _, .inl rfl, hS5⟩ envA (fun _ h => h) (by dsimp only; omega)
      · rw [← hR4]
        have hS5 := Rcv.soon_yes hst
        rw [← hS3, ← hS4, hA', hc'] at hS5
        refine WL.weak (H' := (bA, _) :: r4.H) (fun _ h => by rw [List.append_assoc] at h; exact In.of_sub (.pick (.right (.right (.there .here))) (.last (L := r4.H) .here)) h) ?_
        repeat' (first | refine S1 ?_ | refine SA (fun _ => ?_) | refine WL.g_split rfl rfl (fun hc => ?_) (fun hc => ?_) | refine WD.g_split rfl rfl (fun hc => ?_) (fun hc => ?_) | refine W.cond rfl (fun hc => ?_) (fun hc => ?_))
        rw [i64_succ (by omega)]
        exact Fin.round ⟨i + 1, g, 0, f', A', [], r4⟩ ⟨hi', hc'l, .inl rfl, by dsimp only; omega, hA'l, hc's, hA'2, hr4, rfl, by dsimp only; rw [ht4, hw3, hw2]; omega, _, .inl rfl, hS5⟩ envA (fun _ h => h) (by dsimp only; omega)
    · have hh' := hh
      have hDt : Rcv.soonD A c j 1 f' (2 * (i : Int)) = true := by rw [hD0]; rw [decide_eq_true (p := (1 : Int) + 1 ≥ 2) (by decide), Bool.or_true, Bool.true_or]
      refine WL.e rfl (Ef.callR (c := r2.H) (by exact rfl) (.last (L := r2.H) (.there .all)) (rdue_tr _ r2 hr2 (2 * (i : Int)))) ?_
      rintro _ _ ⟨rfl, rfl⟩
      rw [Rcv.soon_due hst hh', hDt]
      repeat' (first | refine S1 ?_ | refine SA (fun _ => ?_) | refine WL.g_split rfl rfl (fun hc => ?_) (fun hc => ?_) | refine WD.g_split rfl rfl (fun hc => ?_) (fun hc => ?_) | refine W.cond rfl (fun hc => ?_) (fun hc => ?_))
      refine WL.e rfl (Ef.call (c := r2.H) (by exact rfl) (.last (L := r2.H) (.there .all)) (rsack_tr _ r2 hr2)) ?_
      rintro _ _ ⟨_, ⟨r3, ga, gn, gc, gb, ra, rn, rc, rb, rfl, hr3, rfl, hR3, hw3, hS3, _, _⟩, rfl⟩
      rw [hbb]
      have hR3' : r3.R = r0.R := by rw [hR3, hro]
      rw [← hR3]
      refine WL.weak (H' := (bA, _) :: r3.H) (fun _ h => by rw [List.append_assoc] at h; exact In.of_sub (.pick (.right (.right .here)) (.last (L := r3.H) .here)) h) ?_
      have hdn : ∀ x, Del.due r3.S.d x = false := fun x => by rw [hS3]; simp [Rcv.sack, Del.due, Del.sent]
      repeat' (first | refine S1 ?_ | refine SA (fun _ => ?_) | refine WL.g_split rfl rfl (fun hc => ?_) (fun hc => ?_) | refine WD.g_split rfl rfl (fun hc => ?_) (fun hc => ?_) | refine W.cond rfl (fun hc => ?_) (fun hc => ?_))
      · exfalso
        simp at hc
      refine WL.e rfl (Ef.callR (c := r3.H) (by exact rfl) (.last (L := r3.H) (.there (.there .all))) (rdue_tr _ r3 hr3 _)) ?_
      rintro _ _ ⟨rfl, rfl⟩
      rw [hdn]
      repeat' (first | refine S1 ?_ | refine SA (fun _ => ?_) | refine WL.g_split rfl rfl (fun hc => ?_) (fun hc => ?_) | refine WD.g_split rfl rfl (fun hc => ?_) (fun hc => ?_) | refine W.cond rfl (fun hc => ?_) (fun hc => ?_))
      refine WL.e rfl (Ef.call (c := r3.H) (by exact rfl) (.last (L := r3.H) (.there (.there .all))) (ctake_tr _ r3 hr3)) ?_
      rintro _ _ ⟨_, (⟨hno, rfl, rfl⟩ | ⟨m4, r4, hm4, hr4, rfl, rfl, hR4, ht4, hrow4, hS4⟩), rfl⟩
      · have hS4 : r3.S = Rcv.take r3.S := by unfold Rcv.take Rm.take; rw [hno]
        have hS5 := Rcv.soon_yes hst
        rw [← hS3, ← hS4, hA', hc'] at hS5
        refine WL.weak (H' := (bA, _) :: r3.H) (fun _ h => In.of_sub (.pick (.right (.there .here)) (.last (L := r3.H) .here)) h) ?_
        repeat' (first | refine S1 ?_ | refine SA (fun _ => ?_) | refine WL.g_split rfl rfl (fun hc => ?_) (fun hc => ?_) | refine WD.g_split rfl rfl (fun hc => ?_) (fun hc => ?_) | refine W.cond rfl (fun hc => ?_) (fun hc => ?_))
        rw [i64_succ (by omega)]
        exact Fin.round ⟨i + 1, g, 0, f', A', [], r3⟩ ⟨hi', hc'l, .inl rfl, by dsimp only; omega, hA'l, hc's, hA'2, hr3, rfl, by dsimp only; rw [hw3, hw2]; omega, _, .inl rfl, hS5⟩ envA (fun _ h => h) (by dsimp only; omega)
      · rw [← hR4]
        have hS5 := Rcv.soon_yes hst
        rw [← hS3, ← hS4, hA', hc'] at hS5
        refine WL.weak (H' := (bA, _) :: r4.H) (fun _ h => by rw [List.append_assoc] at h; exact In.of_sub (.pick (.right (.right (.there .here))) (.last (L := r4.H) .here)) h) ?_
        repeat' (first | refine S1 ?_ | refine SA (fun _ => ?_) | refine WL.g_split rfl rfl (fun hc => ?_) (fun hc => ?_) | refine WD.g_split rfl rfl (fun hc => ?_) (fun hc => ?_) | refine W.cond rfl (fun hc => ?_) (fun hc => ?_))
        rw [i64_succ (by omega)]
        exact Fin.round ⟨i + 1, g, 0, f', A', [], r4⟩ ⟨hi', hc'l, .inl rfl, by dsimp only; omega, hA'l, hc's, hA'2, hr4, rfl, by dsimp only; rw [ht4, hw3, hw2]; omega, _, .inl rfl, hS5⟩ envA (fun _ h => h) (by dsimp only; omega)
end Go.Proofs.Ythjglhdjlmjffaa
