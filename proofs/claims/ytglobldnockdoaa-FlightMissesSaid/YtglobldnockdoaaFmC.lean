/- The law FlightMisses, walked. Conditions: what the arguments' cells are. -/
import Derived.Test.YtglobldnockdoaaFlL
namespace Go.Proofs.Ytglobldnockdoaa
open Go Go.Sl Go.Flt

def InvA (c : Int) (again : Bool) (i : Nat) (s : Flt.S) : Prop := sumB (fun _ => true) s.L ≤ i ∧ ((i = 0 ∧ s = ⟨[], c, 1⟩) ∨ ∃ j, i = j + 1 ∧ InvM s j (fun _ => false) 0 again ∧ s.c = c)
theorem sack_sum {s s' : Flt.S} {y : Int} {gs : List (Nat × Nat)} {t : Tld} (h : Flt.sack s y gs = some (s', t)) : sumB (fun _ => true) s'.L ≤ sumB (fun _ => true) s.L := by
  obtain ⟨M, hM, rfl, _⟩ := sack_L h
  have := sumB_drop (fun _ => true) M (Spn.far s.c y)
  rw [← sumB_k hM]
  dsimp only
  omega
theorem add1_sum (s : Flt.S) (now id : Int) : sumB (fun _ => true) (Flt.add s one1 0 now id).L ≤ sumB (fun _ => true) s.L + 1 := by
  rw [add_sum]
  split
  · exact Nat.le_refl _
  · omega
def seenF (l : List Bool) (k : Nat) : Bool := l[k]?.getD false
theorem seenF_set {l : List Bool} {k : Nat} (h : k < l.length) : seenF (l.set k true) = fun i => decide (i = k) || seenF l i := funext fun i => by
  unfold seenF
  by_cases hi : k = i
  · subst hi
    rw [List.getElem?_set_self h]
    simp
  · rw [List.getElem?_set_ne hi]
    have : ¬ i = k := fun e => hi e.symm
    simp [this]
theorem seenF_new (n : Nat) : seenF (List.replicate n false) = fun _ => false := funext fun i => by
  unfold seenF
  rw [List.getElem?_replicate]
  split <;> rfl
theorem made_bools (E : TypeId) (b n : Nat) (h : n ≤ 1000000) : OwnS E 1 ((List.replicate n false).map Value.bool) (.slice (some ⟨b, 0, none⟩) n n) [(b, .cells (mkCells [.bool false] n).toArray E (0, 0))] := by
  have e : mkCells [.bool false] n = (List.replicate n false).map Value.bool := by
    rw [List.map_replicate]
    induction n with
    | zero => rfl
    | succ n ih => rw [List.replicate_succ, mkCells, ih (by omega)]; rfl
  have := OwnS.made E (.bool false) b n (by unfold maxLen; omega)
  rwa [e] at this ⊢
structure MaG where
  i : Nat
  f : FM
structure MbG where
  i : Nat
  f : FM
  l : List Bool
  hb : HL
  fresh : Nat
set_option maxHeartbeats 8000000 in
theorem missLaw_tr (F : Nat → Option Obj) (first : Int) (hfi : 0 ≤ first ∧ first < 4294967296) (order : List UInt8) (sa : Option Addr) (sn sc : Nat) (hl : Lst F [] 1 (order.map B) sa sn sc) (again : Bool) :
    Tr Try.prog 3 [.int .u32 first, .slice sa sn sc, .bool again].toArray F [] (fun v H => v = .bool true ∧ H = []) := by
  refine Tr.enter Try.func3 rfl Try.ntmps3 rfl (fun w0 => ?_)
  have hln : order.length = sn := by have := hl.len; simpa using this
  repeat' (first | refine S1 ?_ | refine SD ?_ | refine SA (fun _ => ?_) | refine WL.g_split rfl rfl (fun hc => ?_) (fun hc => ?_) | refine WD.g_split rfl rfl (fun hc => ?_) (fun hc => ?_) | refine W.cond rfl (fun hc => ?_) (fun hc => ?_))
  obtain ⟨n, hn⟩ : ∃ n : Nat, min sn 40 = n := ⟨_, rfl⟩
  have hmin : (if (40 : Int) < (sn : Int) then (40 : Int) else (sn : Int)) = (n : Int) := by split <;> omega
  have hn40 : n ≤ 40 := by omega
  rw [hmin]
  refine WL.e rfl (Ef.call (by exact rfl) (.nil _) (new_tr _ 1 first)) ?_
  rintro _ _ ⟨_, hq, rfl⟩
  rcases hq with ⟨h, _⟩ | ⟨_, b, rfl, rfl⟩
  · exact absurd (by decide) h
  obtain ⟨c, hc0⟩ : ∃ c, Spn.u32 (first - 1) = c := ⟨_, rfl⟩
  have hcr : 0 ≤ c ∧ c < 4294967296 := by rw [← hc0]; exact u32_mod _
  have hcf : Spn.u32 (c + 1) = first := by rw [← hc0]; simp only [Spn.u32_eq]; omega
  obtain ⟨f0, hf0⟩ : ∃ f0, FM.empty b 1 first = f0 := ⟨_, rfl⟩
  have ok0 : f0.ok := by rw [← hf0]; exact FM.empty_ok _ _ _
  have S0 : f0.S = ⟨[], c, 1⟩ := by rw [← hf0, ← hc0]; rfl
  have R0 : b = f0.R := by rw [← hf0]; rfl
  rw [List.append_nil, hf0, R0]
  clear hf0 R0
  repeat' (first | refine S1 ?_ | refine SD ?_ | refine SA (fun _ => ?_) | refine WL.g_split rfl rfl (fun hc => ?_) (fun hc => ?_) | refine WD.g_split rfl rfl (fun hc => ?_) (fun hc => ?_) | refine W.cond rfl (fun hc => ?_) (fun hc => ?_))
  refine W.loop (G := MaG) (fun g => [(0, .int .u32 first), (1, .slice sa sn sc), (2, .bool again), (7, .int .i64 n), (8, .pointer (some ⟨f0.R, 0, none⟩)), (10, .int .i64 g.i)])
    (fun g => g.f.H) (fun g => g.i ≤ n + 1 ∧ g.f.ok ∧ g.f.R = f0.R ∧ InvA c again g.i g.f.S) (fun g => n + 1 - g.i) ⟨0, f0⟩ ⟨Nat.zero_le _, ok0, rfl, by rw [S0]; exact Nat.le_refl _, .inl ⟨rfl, S0⟩⟩ envA (fun _ h => h) ?_
  rintro ⟨i, f⟩ ⟨hi, hf, hR, hI⟩
  dsimp only at hi hf hR hI ⊢
  rw [← hR]
  repeat' (first | refine S1 ?_ | refine SD ?_ | refine SA (fun _ => ?_) | refine WL.g_split rfl rfl (fun hc => ?_) (fun hc => ?_) | refine WD.g_split rfl rfl (fun hc => ?_) (fun hc => ?_) | refine W.cond rfl (fun hc => ?_) (fun hc => ?_))
  · have hi' : i ≤ n := by have := of_decide_eq_true hc; omega
    rename_i b35
    refine WL.e rfl (Ef.callW (c := f.H) (by exact rfl) (.last (.there .all)) (fun F' hF => add_tr F' f hf one1 (some ⟨b35, 0, none⟩) 1 1 ⟨rfl, by omega, fun _ => ⟨b35, 0, rfl, Can.mono (Can.cut (n := 1) (.here rfl)) hF⟩, fun h => by cases h⟩ (by simp [one1]) 0 i i)) ?_
    rintro _ _ ⟨_, ⟨rfl, f1, hf1, rfl, hR1, hS1⟩, rfl⟩
    rw [← hR1]
    rw [← hR1] at hR
    obtain ⟨hIs, hI⟩ := hI
    have hIs1 : sumB (fun _ => true) f1.S.L ≤ i + 1 := by rw [hS1]; exact Nat.le_trans (add1_sum _ _ _) (by omega)
    rcases hI with ⟨rfl, hS⟩ | ⟨j, rfl, hM, hcM⟩
    · rw [hS] at hS1
      obtain ⟨g1, g2⟩ := InvM.first hcr ((0 : Nat) : Int) ((0 : Nat) : Int)
      rw [← hS1] at g1 g2
      cases again with
      | false =>
        repeat' (first | refine S1 ?_ | refine SD ?_ | refine SA (fun _ => ?_) | refine WL.g_split rfl rfl (fun hc => ?_) (fun hc => ?_) | refine WD.g_split rfl rfl (fun hc => ?_) (fun hc => ?_) | refine W.cond rfl (fun hc => ?_) (fun hc => ?_))
        exact Fin.round ⟨1, f1⟩ ⟨by dsimp only; omega, hf1, rfl, hIs1, .inr ⟨0, rfl, g1, g2⟩⟩ envA (fun _ h => h.left) (by dsimp only; omega)
      | true =>
        obtain ⟨k1, k2, k3, k4⟩ := InvM.again g1
        rw [g2, hcf] at k2 k3 k4
        repeat' (first | refine S1 ?_ | refine SD ?_ | refine SA (fun _ => ?_) | refine WL.g_split rfl rfl (fun hc => ?_) (fun hc => ?_) | refine WD.g_split rfl rfl (fun hc => ?_) (fun hc => ?_) | refine W.cond rfl (fun hc => ?_) (fun hc => ?_))
        refine WL.e rfl (Ef.call (c := f1.H) (by exact rfl) (.last .here) (mark_tr _ f1 hf1 0)) ?_
        rintro _ _ ⟨_, ⟨rfl, f2, hf2, rfl, hR2, hS2⟩, rfl⟩
        rw [k1, ← hR2]
        rw [← hS2] at k2 k3 k4
        repeat' (first | refine S1 ?_ | refine SD ?_ | refine SA (fun _ => ?_) | refine WL.g_split rfl rfl (fun hc => ?_) (fun hc => ?_) | refine WD.g_split rfl rfl (fun hc => ?_) (fun hc => ?_) | refine W.cond rfl (fun hc => ?_) (fun hc => ?_))
        refine WL.e rfl (Ef.call (c := f2.H) (by exact rfl) (.last .here) (again_tr _ f2 hf2 first 0 0)) ?_
        rintro _ _ ⟨_, ⟨rfl, f3, hf3, rfl, hR3, hS3⟩, rfl⟩
        rw [k2, ← hR3]
        rw [← hS3] at k3 k4
        repeat' (first | refine S1 ?_ | refine SD ?_ | refine SA (fun _ => ?_) | refine WL.g_split rfl rfl (fun hc => ?_) (fun hc => ?_) | refine WD.g_split rfl rfl (fun hc => ?_) (fun hc => ?_) | refine W.cond rfl (fun hc => ?_) (fun hc => ?_))
        refine Fin.round ⟨1, f3⟩ ⟨by dsimp only; omega, hf3, rfl, ?_, .inr ⟨0, rfl, k3, k4⟩⟩ envA (fun _ h => h.left) (by dsimp only; omega)
        dsimp only
        rw [hS3, sumB_bs (again_k _ _ _ _), hS2, show (Flt.mark f1.S 0).L = sel (byP 0) setLost f1.S.L from rfl, sumB_k (sel_k _ setLost (fun _ => rfl) _)]
        exact hIs1
    · obtain ⟨g1, g2⟩ := hM.add (by omega) ((j + 1 : Nat) : Int) ((j + 1 : Nat) : Int)
      rw [← hS1] at g1 g2
      have hne : ((((j + 1 : Nat) : Int) == 0) : Bool) = false := by simp; omega
      clear hne
      repeat' (first | refine S1 ?_ | refine SD ?_ | refine SA (fun _ => ?_) | refine WL.g_split rfl rfl (fun hc => ?_) (fun hc => ?_) | refine WD.g_split rfl rfl (fun hc => ?_) (fun hc => ?_) | refine W.cond rfl (fun hc => ?_) (fun hc => ?_))
      rw [i64_succ (by omega)]
      exact Fin.round ⟨j + 1 + 1, f1⟩ ⟨by dsimp only; omega, hf1, rfl, hIs1, .inr ⟨j + 1, rfl, g1, g2.trans hcM⟩⟩ envA (fun _ h => h.left) (by dsimp only; omega)
  · have hin : i = n + 1 := by have := of_decide_eq_false hc; omega
    subst hin
    obtain ⟨hIs, hI⟩ := hI
    obtain ⟨j, hj, hM, hcM⟩ := hI.resolve_left (fun h => by omega)
    obtain rfl : n = j := by omega
    clear hj hi hc ok0 S0
    rw [i64_succ (by omega)]
    refine WL.e rfl (Ef.mkS (n := n + 1) (by exact rfl) (by exact rfl) rfl rfl (by omega) (by omega)) ?_
    rintro _ _ ⟨b11, rfl, rfl⟩
    repeat' (first | refine S1 ?_ | refine SD ?_ | refine SA (fun _ => ?_) | refine WL.g_split rfl rfl (fun hc => ?_) (fun hc => ?_) | refine WD.g_split rfl rfl (fun hc => ?_) (fun hc => ?_) | refine W.cond rfl (fun hc => ?_) (fun hc => ?_))
    refine W.loop (G := MbG) (fun g => [(0, .int .u32 first), (1, .slice sa sn sc), (2, .bool again), (7, .int .i64 n), (8, .pointer (some ⟨f.R, 0, none⟩)), (11, .slice (some ⟨b11, 0, none⟩) (n + 1) (n + 1)), (12, .int .i64 g.fresh), (13, .int .i64 g.i)])
      (fun g => g.hb ++ g.f.H) (fun g => g.i ≤ n ∧ g.f.ok ∧ g.f.R = f.R ∧ InvM g.f.S n (seenF g.l) g.fresh again ∧ g.f.S.c = c ∧ g.l.length = n + 1 ∧ g.fresh ≤ g.i ∧ sumB (fun _ => true) g.f.S.L ≤ 1000 ∧ OwnS 4 1 (g.l.map Value.bool) (.slice (some ⟨b11, 0, none⟩) (n + 1) (n + 1)) g.hb) (fun g => n - g.i)
      ⟨0, f, List.replicate (n + 1) false, _, 0⟩ ⟨Nat.zero_le _, hf, rfl, by rw [seenF_new]; exact hM, hcM, by simp, Nat.le_refl _, by dsimp only; omega, made_bools _ b11 (n + 1) (by omega)⟩ envA (fun _ h => h) ?_
    rintro ⟨i, g, l, hb, fresh⟩ ⟨hi, hg, hgR, hgM, hgc, hll, hfr, hgs, hown⟩
    dsimp only at hi hg hgR hgM hgc hll hfr hgs hown ⊢
    rw [← hgR]
    repeat' (first | refine S1 ?_ | refine SD ?_ | refine SA (fun _ => ?_) | refine WL.g_split rfl rfl (fun hc => ?_) (fun hc => ?_) | refine WD.g_split rfl rfl (fun hc => ?_) (fun hc => ?_) | refine W.cond rfl (fun hc => ?_) (fun hc => ?_))
    · have hi' : i < n := by have := of_decide_eq_true hc; omega
      have hd : order[i]? = some (order[i]'(by omega)) := by simp
      obtain ⟨d, hdd⟩ : ∃ d, order[i]'(by omega) = d := ⟨_, rfl⟩
      rw [hdd] at hd
      obtain ⟨ib, io, rfl, hcan0⟩ := hl.can (by omega)
      have hcan : Sl.Can F [] ib (io + (i : Int).toNat * 1) [.int .u8 ((d.toNat : Nat) : Int)] := by
        have := hcan0.one (i := i) (v := B d) (by rw [List.getElem?_map, hd]; rfl)
        rw [show io + (i : Int).toNat * 1 = io + i by omega]
        exact this
      have hia : 0 ≤ (i : Int) ∧ (i : Int) < sn := by omega
      repeat' (first | refine S1 ?_ | refine SD ?_ | refine SA (fun _ => ?_) | refine WL.g_split rfl rfl (fun hc => ?_) (fun hc => ?_) | refine WD.g_split rfl rfl (fun hc => ?_) (fun hc => ?_) | refine W.cond rfl (fun hc => ?_) (fun hc => ?_))
      refine WL.p rfl (Pu.rem rfl rfl (by omega)) ?_
      repeat' (first | refine S1 ?_ | refine SD ?_ | refine SA (fun _ => ?_) | refine WL.g_split rfl rfl (fun hc => ?_) (fun hc => ?_) | refine WD.g_split rfl rfl (fun hc => ?_) (fun hc => ?_) | refine W.cond rfl (fun hc => ?_) (fun hc => ?_))
      obtain ⟨k, hkk⟩ : ∃ k, 1 + d.toNat % n = k := ⟨_, rfl⟩
      have hmod : d.toNat % n < n := Nat.mod_lt _ (by omega)
      have hdlt := d.toNat_lt
      have hk : IntKind.i64.wrap (1 + (IntKind.i64.wrap ((d.toNat : Nat) : Int)).tmod (n : Int)) = ((k : Nat) : Int) := by
        rw [i64_id (n := ((d.toNat : Nat) : Int)) (by omega) (by omega), ← Int.ofNat_tmod, i64_id (by omega) (by omega)]
        omega
      rw [hk]
      have hik : 0 ≤ (k : Int) ∧ (k : Int) < ((n + 1 : Nat) : Int) := by omega
      repeat' (first | refine S1 ?_ | refine SD ?_ | refine SA (fun _ => ?_) | refine WL.g_split rfl rfl (fun hc => ?_) (fun hc => ?_) | refine WD.g_split rfl rfl (fun hc => ?_) (fun hc => ?_) | refine W.cond rfl (fun hc => ?_) (fun hc => ?_))
      have hlk : l[k]? = some (l[k]'(by omega)) := by simp
      have hbc : Sl.Can F hb b11 (0 + (k : Int).toNat * 1) [.bool (seenF l k)] := by
        obtain ⟨b1, o1, he, hcc⟩ := (Lst.own (F := F) (H := hb) hown (fun _ h => h)).can (by omega)
        cases he
        have := hcc.one (i := k) (v := .bool (seenF l k)) (by rw [List.getElem?_map]; unfold seenF; rw [hlk]; rfl)
        rw [show 0 + (k : Int).toNat * 1 = 0 + k by omega]
        exact this
      refine WL.s rfl (Rd.ldC rfl (hbc.mono (fun _ h => h.sublist findA))) ?_
      obtain ⟨hb', hx', hput⟩ := hown.put k [.bool true] (by simp [hll]; omega)
      have he : (l.map Value.bool).take k ++ [.bool true] ++ (l.map Value.bool).drop (k + [Value.bool true].length) = (l.set k true).map Value.bool := by
        rw [List.set_eq_take_append_cons_drop, if_pos (by omega)]
        simp
      rw [he] at hx'
      have hk2 : IntKind.u16.wrap (IntKind.i64.wrap ((k : Int) + 1)) = ((k + 1 : Nat) : Int) := by rw [i64_id (by omega) (by omega), u16_id (by omega)]; omega
      have gsm : g.small := by
        show sumB _ g.S.L ≤ _
        omega
      obtain ⟨tt, s', hsk, hM', hc', hone⟩ := hgM.sack (by omega) (k := k) (by omega) (by omega)
      have hss := sack_sum hsk
      rw [hgc] at hsk
      rw [← seenF_set (by omega)] at hM'
      cases hs : seenF l k with
      | true =>
        rw [hs] at hM' hone
        simp only [if_true] at hM' hone
        repeat' (first | refine S1 ?_ | refine SD ?_ | refine SA (fun _ => ?_) | refine WL.g_split rfl rfl (fun hc => ?_) (fun hc => ?_) | refine WD.g_split rfl rfl (fun hc => ?_) (fun hc => ?_) | refine W.cond rfl (fun hc => ?_) (fun hc => ?_))
        obtain ⟨fr, hfe⟩ : ∃ fr, fresh = fr := ⟨_, rfl⟩
        rw [hfe] at hM' hone ⊢
        have hfr3 : fr ≤ i + 1 := by omega
        refine WL.e0 (Ef.st rfl rfl rfl (PutAt.left (H1' := hb') (by simpa using hput))) ?_
        rintro _ _ ⟨rfl, rfl⟩
        repeat' (first | refine S1 ?_ | refine SD ?_ | refine SA (fun _ => ?_) | refine WL.g_split rfl rfl (fun hc => ?_) (fun hc => ?_) | refine WD.g_split rfl rfl (fun hc => ?_) (fun hc => ?_) | refine W.cond rfl (fun hc => ?_) (fun hc => ?_))
        rename_i bg
        rw [show IntKind.u32.wrap (first - 1) = c from hc0, hk2]
        refine WL.e rfl (Ef.callW (c := g.H) (by exact rfl) (.last (.there (.right .all))) (fun F' hF => sack_tr F' g hg gsm (pathOk_of hgM.good) c 0 hcr [(k + 1, k + 1)] (some ⟨bg, 0, none⟩) 1 1 ⟨rfl, by omega, fun _ => ⟨bg, 0, rfl, Can.mono (Can.cut (n := 2) (.here rfl)) (fun w h => (hF w h).sublist (.cons_cons _ (List.nil_sublist _)))⟩, fun h => by cases h⟩ (by simp; omega) (by simp) none 0 0)) ?_
        rintro _ _ ⟨_, hq, rfl⟩
        rw [hsk] at hq
        obtain ⟨rfl, g2, hg2, rfl, hR2, hS2⟩ := hq
        dsimp only [tup]
        rw [← hR2]
        repeat' (first | refine S1 ?_ | refine SD ?_ | refine SA (fun _ => ?_) | refine WL.g_split rfl rfl (fun hc => ?_) (fun hc => ?_) | refine WD.g_split rfl rfl (fun hc => ?_) (fun hc => ?_) | refine W.cond rfl (fun hc => ?_) (fun hc => ?_))
        refine WL.e rfl (Ef.call (c := g2.H) (by exact rfl) (.last (.there .here)) (lost_tr _ g2 hg2)) ?_
        rintro _ _ ⟨_, ⟨la, ln, lc, lb, rfl, hlo, rfl⟩, rfl⟩
        have hop := hM'.open_ (by omega)
        rw [hc', hgc, hcf, ← hS2] at hop
        have hln2 : (Flt.lostL g2.S).length = ln := by have := hlo.len; simpa using this
        rw [List.append_assoc]
        cases hL : Flt.lostL g2.S with
        | nil =>
          rw [hL] at hop hln2 hlo
          dsimp only at hop
          obtain rfl : ln = 0 := by simpa using hln2.symm
          repeat' (first | refine S1 ?_ | refine SD ?_ | refine SA (fun _ => ?_) | refine WL.g_split rfl rfl (fun hc => ?_) (fun hc => ?_) | refine WD.g_split rfl rfl (fun hc => ?_) (fun hc => ?_) | refine W.cond rfl (fun hc => ?_) (fun hc => ?_))
          · exfalso
            rename_i h3
            rw [decide_eq_true (show 3 ≤ fr by have := of_decide_eq_true h3; omega)] at hop
            rw [Bool.true_and] at hop
            rw [← hop] at hc
            cases hc
          · exfalso
            simp at hc
            omega
          ·
            rw [i64_succ (by omega)]
            refine Fin.round ⟨i + 1, g2, l.set k true, hb', fr⟩ ⟨hi', hg2, rfl, by dsimp only; rw [hS2]; exact hM', by dsimp only; rw [hS2, hc']; exact hgc, by dsimp only; rw [List.length_set]; exact hll, hfr3, by dsimp only; rw [hS2]; omega, hx'⟩ envA (fun _ h => In.of_sub (.pickL (L := hb') (.right (.right (.there (.there .here)))) (.last (L := g2.H) (.right .here))) h) (by dsimp only; omega)
          · exfalso
            simp at hc
            omega
          ·
            rw [i64_succ (by omega)]
            refine Fin.round ⟨i + 1, g2, l.set k true, hb', fr⟩ ⟨hi', hg2, rfl, by dsimp only; rw [hS2]; exact hM', by dsimp only; rw [hS2, hc']; exact hgc, by dsimp only; rw [List.length_set]; exact hll, hfr3, by dsimp only; rw [hS2]; omega, hx'⟩ envA (fun _ h => In.of_sub (.pickL (L := hb') (.right (.right (.there (.there .here)))) (.last (L := g2.H) (.right .here))) h) (by dsimp only; omega)
        | cons t0 rest0 =>
          rw [hL] at hop hln2 hlo
          dsimp only at hop
          obtain ⟨lm, rfl⟩ : ∃ lm, ln = lm + 1 := ⟨rest0.length, by simpa using hln2.symm⟩
          obtain ⟨b1, o1, rfl, hcc⟩ := (Lst.own (F := F) (H := lb) hlo (fun _ h => h)).can (by omega)
          have hlc : Sl.Can F lb b1 (o1 + (0 : Int).toNat * 1) [.int .u32 t0] := hcc.one (i := 0) (v := .int .u32 t0) rfl
          have hia0 : 0 ≤ (0 : Int) ∧ (0 : Int) < ((lm + 1 : Nat) : Int) := by omega
          repeat' (first | refine S1 ?_ | refine SD ?_ | refine SA (fun _ => ?_) | refine WL.g_split rfl rfl (fun hc => ?_) (fun hc => ?_) | refine WD.g_split rfl rfl (fun hc => ?_) (fun hc => ?_) | refine W.cond rfl (fun hc => ?_) (fun hc => ?_))
          rotate_left
          all_goals try
            exfalso
            have h0 := of_decide_eq_false ‹decide (((lm + 1 : Nat) : Int) > 0) = false›
            omega
          refine WL.s rfl (Rd.ldC rfl (hlc.mono (fun _ h => h.sublist findA))) ?_
          repeat' (first | refine S1 ?_ | refine SD ?_ | refine SA (fun _ => ?_) | refine WL.g_split rfl rfl (fun hc => ?_) (fun hc => ?_) | refine WD.g_split rfl rfl (fun hc => ?_) (fun hc => ?_) | refine W.cond rfl (fun hc => ?_) (fun hc => ?_))
          · exfalso
            rename_i h3
            rw [hop, decide_eq_true (show 3 ≤ fr by have := of_decide_eq_true h3; omega)] at hc
            simp at hc
          · exfalso
            simp at hc
            omega
          ·
            rw [i64_succ (by omega)]
            refine Fin.round ⟨i + 1, g2, l.set k true, hb', fr⟩ ⟨hi', hg2, rfl, by dsimp only; rw [hS2]; exact hM', by dsimp only; rw [hS2, hc']; exact hgc, by dsimp only; rw [List.length_set]; exact hll, hfr3, by dsimp only; rw [hS2]; omega, hx'⟩ envA (fun _ h => In.of_sub (.pickL (L := hb') (.right (.right (.there (.there .here)))) (.last (L := g2.H) (.right .here))) h) (by dsimp only; omega)
          · exfalso
            rename_i h3
            rw [hop, decide_eq_false (show ¬ 3 ≤ fr by have := of_decide_eq_false h3; omega)] at hc
            simp at hc
          · exfalso
            simp at hc
            omega
          ·
            rw [i64_succ (by omega)]
            refine Fin.round ⟨i + 1, g2, l.set k true, hb', fr⟩ ⟨hi', hg2, rfl, by dsimp only; rw [hS2]; exact hM', by dsimp only; rw [hS2, hc']; exact hgc, by dsimp only; rw [List.length_set]; exact hll, hfr3, by dsimp only; rw [hS2]; omega, hx'⟩ envA (fun _ h => In.of_sub (.pickL (L := hb') (.right (.right (.there (.there .here)))) (.last (L := g2.H) (.right .here))) h) (by dsimp only; omega)
      | false =>
        rw [hs] at hM' hone
        simp only [Bool.false_eq_true, if_false] at hM' hone
        repeat' (first | refine S1 ?_ | refine SD ?_ | refine SA (fun _ => ?_) | refine WL.g_split rfl rfl (fun hc => ?_) (fun hc => ?_) | refine WD.g_split rfl rfl (fun hc => ?_) (fun hc => ?_) | refine W.cond rfl (fun hc => ?_) (fun hc => ?_))
        rw [i64_succ (by omega)]
        obtain ⟨fr, hfe⟩ : ∃ fr, fresh + 1 = fr := ⟨_, rfl⟩
        rw [hfe] at hM' hone ⊢
        have hfr3 : fr ≤ i + 1 := by omega
        refine WL.e0 (Ef.st rfl rfl rfl (PutAt.left (H1' := hb') (by simpa using hput))) ?_
        rintro _ _ ⟨rfl, rfl⟩
        repeat' (first | refine S1 ?_ | refine SD ?_ | refine SA (fun _ => ?_) | refine WL.g_split rfl rfl (fun hc => ?_) (fun hc => ?_) | refine WD.g_split rfl rfl (fun hc => ?_) (fun hc => ?_) | refine W.cond rfl (fun hc => ?_) (fun hc => ?_))
        rename_i bg
        rw [show IntKind.u32.wrap (first - 1) = c from hc0, hk2]
        refine WL.e rfl (Ef.callW (c := g.H) (by exact rfl) (.last (.there (.right .all))) (fun F' hF => sack_tr F' g hg gsm (pathOk_of hgM.good) c 0 hcr [(k + 1, k + 1)] (some ⟨bg, 0, none⟩) 1 1 ⟨rfl, by omega, fun _ => ⟨bg, 0, rfl, Can.mono (Can.cut (n := 2) (.here rfl)) (fun w h => (hF w h).sublist (.cons_cons _ (List.nil_sublist _)))⟩, fun h => by cases h⟩ (by simp; omega) (by simp) none 0 0)) ?_
        rintro _ _ ⟨_, hq, rfl⟩
        rw [hsk] at hq
        obtain ⟨rfl, g2, hg2, rfl, hR2, hS2⟩ := hq
        dsimp only [tup]
        rw [← hR2]
        repeat' (first | refine S1 ?_ | refine SD ?_ | refine SA (fun _ => ?_) | refine WL.g_split rfl rfl (fun hc => ?_) (fun hc => ?_) | refine WD.g_split rfl rfl (fun hc => ?_) (fun hc => ?_) | refine W.cond rfl (fun hc => ?_) (fun hc => ?_))
        refine WL.e rfl (Ef.call (c := g2.H) (by exact rfl) (.last (.there .here)) (lost_tr _ g2 hg2)) ?_
        rintro _ _ ⟨_, ⟨la, ln, lc, lb, rfl, hlo, rfl⟩, rfl⟩
        have hop := hM'.open_ (by omega)
        rw [hc', hgc, hcf, ← hS2] at hop
        have hln2 : (Flt.lostL g2.S).length = ln := by have := hlo.len; simpa using this
        rw [List.append_assoc]
        cases hL : Flt.lostL g2.S with
        | nil =>
          rw [hL] at hop hln2 hlo
          dsimp only at hop
          obtain rfl : ln = 0 := by simpa using hln2.symm
          repeat' (first | refine S1 ?_ | refine SD ?_ | refine SA (fun _ => ?_) | refine WL.g_split rfl rfl (fun hc => ?_) (fun hc => ?_) | refine WD.g_split rfl rfl (fun hc => ?_) (fun hc => ?_) | refine W.cond rfl (fun hc => ?_) (fun hc => ?_))
          · exfalso
            rename_i h3
            rw [decide_eq_true (show 3 ≤ fr by have := of_decide_eq_true h3; omega)] at hop
            rw [Bool.true_and] at hop
            rw [← hop] at hc
            cases hc
          · exfalso
            simp at hc
            omega
          ·
            rw [i64_succ (by omega)]
            refine Fin.round ⟨i + 1, g2, l.set k true, hb', fr⟩ ⟨hi', hg2, rfl, by dsimp only; rw [hS2]; exact hM', by dsimp only; rw [hS2, hc']; exact hgc, by dsimp only; rw [List.length_set]; exact hll, hfr3, by dsimp only; rw [hS2]; omega, hx'⟩ envA (fun _ h => In.of_sub (.pickL (L := hb') (.right (.right (.there (.there .here)))) (.last (L := g2.H) (.right .here))) h) (by dsimp only; omega)
          · exfalso
            simp at hc
            omega
          ·
            rw [i64_succ (by omega)]
            refine Fin.round ⟨i + 1, g2, l.set k true, hb', fr⟩ ⟨hi', hg2, rfl, by dsimp only; rw [hS2]; exact hM', by dsimp only; rw [hS2, hc']; exact hgc, by dsimp only; rw [List.length_set]; exact hll, hfr3, by dsimp only; rw [hS2]; omega, hx'⟩ envA (fun _ h => In.of_sub (.pickL (L := hb') (.right (.right (.there (.there .here)))) (.last (L := g2.H) (.right .here))) h) (by dsimp only; omega)
        | cons t0 rest0 =>
          rw [hL] at hop hln2 hlo
          dsimp only at hop
          obtain ⟨lm, rfl⟩ : ∃ lm, ln = lm + 1 := ⟨rest0.length, by simpa using hln2.symm⟩
          obtain ⟨b1, o1, rfl, hcc⟩ := (Lst.own (F := F) (H := lb) hlo (fun _ h => h)).can (by omega)
          have hlc : Sl.Can F lb b1 (o1 + (0 : Int).toNat * 1) [.int .u32 t0] := hcc.one (i := 0) (v := .int .u32 t0) rfl
          have hia0 : 0 ≤ (0 : Int) ∧ (0 : Int) < ((lm + 1 : Nat) : Int) := by omega
          repeat' (first | refine S1 ?_ | refine SD ?_ | refine SA (fun _ => ?_) | refine WL.g_split rfl rfl (fun hc => ?_) (fun hc => ?_) | refine WD.g_split rfl rfl (fun hc => ?_) (fun hc => ?_) | refine W.cond rfl (fun hc => ?_) (fun hc => ?_))
          rotate_left
          all_goals try
            exfalso
            have h0 := of_decide_eq_false ‹decide (((lm + 1 : Nat) : Int) > 0) = false›
            omega
          refine WL.s rfl (Rd.ldC rfl (hlc.mono (fun _ h => h.sublist findA))) ?_
          repeat' (first | refine S1 ?_ | refine SD ?_ | refine SA (fun _ => ?_) | refine WL.g_split rfl rfl (fun hc => ?_) (fun hc => ?_) | refine WD.g_split rfl rfl (fun hc => ?_) (fun hc => ?_) | refine W.cond rfl (fun hc => ?_) (fun hc => ?_))
          · exfalso
            rename_i h3
            rw [hop, decide_eq_true (show 3 ≤ fr by have := of_decide_eq_true h3; omega)] at hc
            simp at hc
          · exfalso
            simp at hc
            omega
          ·
            rw [i64_succ (by omega)]
            refine Fin.round ⟨i + 1, g2, l.set k true, hb', fr⟩ ⟨hi', hg2, rfl, by dsimp only; rw [hS2]; exact hM', by dsimp only; rw [hS2, hc']; exact hgc, by dsimp only; rw [List.length_set]; exact hll, hfr3, by dsimp only; rw [hS2]; omega, hx'⟩ envA (fun _ h => In.of_sub (.pickL (L := hb') (.right (.right (.there (.there .here)))) (.last (L := g2.H) (.right .here))) h) (by dsimp only; omega)
          · exfalso
            rename_i h3
            rw [hop, decide_eq_false (show ¬ 3 ≤ fr by have := of_decide_eq_false h3; omega)] at hc
            simp at hc
          · exfalso
            simp at hc
            omega
          ·
            rw [i64_succ (by omega)]
            refine Fin.round ⟨i + 1, g2, l.set k true, hb', fr⟩ ⟨hi', hg2, rfl, by dsimp only; rw [hS2]; exact hM', by dsimp only; rw [hS2, hc']; exact hgc, by dsimp only; rw [List.length_set]; exact hll, hfr3, by dsimp only; rw [hS2]; omega, hx'⟩ envA (fun _ h => In.of_sub (.pickL (L := hb') (.right (.right (.there (.there .here)))) (.last (L := g2.H) (.right .here))) h) (by dsimp only; omega)
    · refine WL.e rfl (Ef.call (c := []) (by exact rfl) (.nil _) (works_tr _)) ?_
      rintro _ _ ⟨_, ⟨rfl, rfl⟩, rfl⟩
      rw [List.nil_append]
      repeat' (first | refine S1 ?_ | refine SD ?_ | refine SA (fun _ => ?_) | refine WL.g_split rfl rfl (fun hc => ?_) (fun hc => ?_) | refine WD.g_split rfl rfl (fun hc => ?_) (fun hc => ?_) | refine W.cond rfl (fun hc => ?_) (fun hc => ?_))
      exact Fin.retW (by exact rfl) resA (H' := []) (fun _ h => h.sublist (List.nil_sublist _)) ⟨rfl, rfl⟩
end Go.Proofs.Ytglobldnockdoaa
