/- A flight of pieces: span, walked: it answers as the plain function does. Conditions: it is well formed; the gaps can be read. -/
import Derived.Test.YtjfpckadjnjmoaaGreatFlE
import Derived.Test.YtjfpckadjnjmoaaGreatBa
import Derived.Test.YtjfpckadjnjmoaaGreatBc
namespace Go.Proofs.YtjfpckadjnjmoaaGreat
open Go Go.Sl Go.Flt

def gC (g : Nat × Nat) : List Value := [.int .u16 g.1, .int .u16 g.2]
def sC (g : Nat × Nat) : List Value := [.int .i64 g.1, .int .i64 g.2]
theorem gC_len (g : Nat × Nat) : (gC g).length = 2 := rfl
theorem sC_len (g : Nat × Nat) : (sC g).length = 2 := rfl
theorem sC_one (g : Nat × Nat) : ∀ u ∈ sC g, u.oneCell' = true := by
  intro u hu
  simp only [sC, List.mem_cons, List.not_mem_nil, or_false] at hu
  rcases hu with rfl | rfl <;> rfl
structure SpG where
  k : Nat
  la : Nat
  sa : Option Addr
  sn : Nat
  sc : Nat
  hb : HL
def SpanR (f : FM) (o : Option (List (Nat × Nat))) (v : Value) (H : HL) : Prop := match o with
  | none => v = tup [.slice none 0 0, .bool false] ∧ H = f.H
  | some sp => ∃ (sa : Option Addr) (sn sc : Nat) (hb : HL), v = tup [.slice sa sn sc, .bool true] ∧ OwnS 175 2 (sp.flatMap sC) (.slice sa sn sc) hb ∧ H = hb ++ f.H
theorem spL_snoc (base : Nat) {gs : List (Nat × Nat)} {k : Nat} {g : Nat × Nat} (h : gs[k]? = some g) : spL base (gs.take (k + 1)) = spL base (gs.take k) ++ [(base + g.1 - 1, base + g.2)] := by
  unfold spL
  rw [List.take_add_one, h]
  simp
theorem spL_len (base : Nat) (gs : List (Nat × Nat)) : (spL base gs).length = gs.length + 1 := by simp [spL]
theorem sC_lens (l : List (Nat × Nat)) : (l.flatMap sC).length = l.length * 2 := flat_len' sC 2 sC_len l
set_option maxHeartbeats 8000000 in
theorem span_tr (F : Nat → Option Obj) (f : FM) (hf : f.ok) (y room : Int) (gs : List (Nat × Nat)) (ga : Option Addr) (gn gc : Nat) (hl : Lst F [] 2 (gs.flatMap gC) ga gn gc) (hg : ∀ g ∈ gs, g.1 < 65536 ∧ g.2 < 65536) (hgl : gs.length ≤ 1000) (ra : Option Addr) (rn rc : Nat) :
    Tr Tryz.prog 78 [.pointer (some ⟨f.R, 0, none⟩), .agg [.int .u32 y, .int .u32 room, .slice ga gn gc, .slice ra rn rc].toArray].toArray F f.H (fun v H => SpanR f (Flt.span f.S y gs) v H) := by
  refine Tr.enter Tryz.func78 rfl Tryz.ntmps78 rfl (fun w0 => ?_)
  have hlen := hf.len
  have hfew := hf.few
  have hL : f.S.L.length = f.sn := by rw [← hlen]; simp [FM.S]
  have hgn : gs.length = gn := lst_len gC_len (by decide) hl
  have hsp0 : Flt.span f.S y gs = (if y ≠ f.c ∧ atI f.c f.sn y = none then none else if okG f.sn (Spn.far f.c y) 0 gs then some (spL (Spn.far f.c y) gs) else none) := by
    unfold Flt.span
    rw [hL]
    rfl
  unfold FM.H FM.B
  repeat' (first | refine S1 ?_ | refine SD ?_ | refine SA (fun _ => ?_) | refine G1 (fun hc => ?_) (fun hc => ?_) | refine G2 (fun hc => ?_) (fun hc => ?_) | refine G3 (fun hc => ?_) (fun hc => ?_))
  · refine WD.e rfl (Ef.callR (by exact rfl) (.nil _) (in_tr _ y f.c f.sn (by omega))) ?_
    rintro _ _ ⟨rfl, rfl⟩
    refine ⟨.inr (fun _ h => h), ?_⟩
    cases ha : atI f.c f.sn y with
    | none =>
      have hsp : Flt.span f.S y gs = none := by rw [hsp0, if_pos ⟨by simpa using hc, ha⟩]
      rw [hsp]
      repeat' (first | refine S1 ?_ | refine SD ?_ | refine SA (fun _ => ?_) | refine G1 (fun hc => ?_) (fun hc => ?_) | refine G2 (fun hc => ?_) (fun hc => ?_) | refine G3 (fun hc => ?_) (fun hc => ?_))
      exact Fin.retW (by exact rfl) resA (H' := f.H) (fun _ h => h.sublist findA) ⟨rfl, rfl⟩
    | some i =>
      have hbn : Spn.far f.c y ≤ f.sn := by
        unfold atI at ha
        split at ha
        · omega
        · cases ha
      have hspan : Flt.span f.S y gs = (if okG f.sn (Spn.far f.c y) 0 gs then some (spL (Spn.far f.c y) gs) else none) := by rw [hsp0, if_neg (by rw [ha]; simp)]
      repeat' (first | refine S1 ?_ | refine SD ?_ | refine SA (fun _ => ?_) | refine G1 (fun hc => ?_) (fun hc => ?_) | refine G2 (fun hc => ?_) (fun hc => ?_) | refine G3 (fun hc => ?_) (fun hc => ?_))
      have hfi := Spn.far_int f.c y
      refine WD.e rfl (Ef.callR (by exact rfl) (.nil _) (ahead_tr _ f.c y)) ?_
      rintro _ _ ⟨rfl, rfl⟩
      refine ⟨.inr (fun _ h => h), ?_⟩
      rw [← hfi]
      obtain ⟨base, hbase⟩ : ∃ base, Spn.far f.c y = base := ⟨_, rfl⟩
      rw [hbase] at hbn hspan ⊢
      repeat' (first | refine S1 ?_ | refine SD ?_ | refine SA (fun _ => ?_) | refine G1 (fun hc => ?_) (fun hc => ?_) | refine G2 (fun hc => ?_) (fun hc => ?_) | refine G3 (fun hc => ?_) (fun hc => ?_))
      rw [i64_id (n := (base : Int)) (by omega) (by omega)]
      refine WL.p rfl (Pu.bldA (vals := [(0, .int .i64 0), (1, .int .i64 (base : Int))]) (by exact rfl) (by exact rfl)) ?_
      repeat' (first | refine S1 ?_ | refine SD ?_ | refine SA (fun _ => ?_) | refine G1 (fun hc => ?_) (fun hc => ?_) | refine G2 (fun hc => ?_) (fun hc => ?_) | refine G3 (fun hc => ?_) (fun hc => ?_))
      rename_i x3 bq
      refine W.loop (G := SpG) (fun g => [(0, .pointer (some ⟨f.R, 0, none⟩)), (6, .int .i64 base), (7, .slice g.sa g.sn g.sc), (8, .int .i64 g.la), (47, .slice ga gn gc), (48, .int .i64 gn), (49, .int .i64 g.k)]) (fun g => g.hb ++ f.H)
        (fun g => g.k ≤ gn ∧ OwnS 175 2 ((spL base (gs.take g.k)).flatMap sC) (.slice g.sa g.sn g.sc) g.hb ∧ g.la < 65536 ∧ okG f.sn base 0 gs = okG f.sn base g.la (gs.drop g.k)) (fun g => gn - g.k) ⟨0, 0, some ⟨bq, 0, none⟩, 1, 1, [(bq, .cells (sC (0, base)).toArray 175 (0, 0))]⟩ ⟨Nat.zero_le _, ?_, Nat.zero_lt_succ _, rfl⟩ envA (fun _ h => In.of_sub (.pick .here (.last (.there .all))) h) ?_
      · exact .inr ⟨bq, 1, 1, [], [], [], rfl, rfl, rfl, Nat.le_refl _, rfl, by decide⟩
      rintro ⟨k, la, sa, sn, sc, hb⟩ ⟨hk, hown, hla, hok⟩
      dsimp only at hk hown hla hok ⊢
      have hrow : Sl.Can F (hb ++ f.H) f.R (0 + 0) [.slice f.sa f.sn f.sc] := ((fl_can f).one (i := 0) rfl).mono (fun _ h => h.sublist findA)
      repeat' (first | refine S1 ?_ | refine SD ?_ | refine SA (fun _ => ?_) | refine G1 (fun hc => ?_) (fun hc => ?_) | refine G2 (fun hc => ?_) (fun hc => ?_) | refine G3 (fun hc => ?_) (fun hc => ?_))
      · have hk' : k < gn := by have := of_decide_eq_true hc; omega
        obtain ⟨g, hgk⟩ : ∃ g, gs[k]? = some g := ⟨gs[k]'(by omega), by simp⟩
        have hgr := hg g (List.mem_of_getElem? hgk)
        obtain ⟨gb, go, rfl, hcan⟩ := hl.el gC_len hgk (by omega)
        have hia : 0 ≤ (k : Int) ∧ (k : Int) < gn := by omega
        have hdrop : gs.drop k = g :: gs.drop (k + 1) := by rw [List.drop_eq_getElem_cons (by omega)]; congr 1; exact (List.getElem?_eq_some_iff.1 hgk).2
        have hw1 : IntKind.i64.wrap ((g.1 : Nat) : Int) = (g.1 : Int) := i64_id (by omega) (by omega)
        have hw2 : IntKind.i64.wrap ((g.2 : Nat) : Int) = (g.2 : Int) := i64_id (by omega) (by omega)
        have hw3 : IntKind.i64.wrap ((la : Int) + 2) = (la : Int) + 2 := i64_id (by omega) (by omega)
        have hw4 : IntKind.i64.wrap ((base : Int) + g.2) = (base : Int) + g.2 := i64_id (by omega) (by omega)
        repeat' (first | refine S1 ?_ | refine SD ?_ | refine SA (fun _ => ?_) | refine G1 (fun hc => ?_) (fun hc => ?_) | refine G2 (fun hc => ?_) (fun hc => ?_) | refine G3 (fun hc => ?_) (fun hc => ?_))
        · have hq := of_decide_eq_true hc
          rw [hw1, hw3] at hq
          have hf2 : okG f.sn base 0 gs = false := by rw [hok, hdrop, okG, decide_eq_true (show g.1 < la + 2 by omega)]; rfl
          have hsp : Flt.span f.S y gs = none := by rw [hspan, hf2]; rfl
          rw [hsp]
          exact Fin.retW (by exact rfl) resA (H' := f.H) (fun _ h => h.sublist findA) ⟨rfl, rfl⟩
        · have hq := of_decide_eq_true hc
          rw [hw1, hw2] at hq
          have hf2 : okG f.sn base 0 gs = false := by rw [hok, hdrop, okG, decide_eq_true (show g.2 < g.1 by omega)]; simp
          have hsp : Flt.span f.S y gs = none := by rw [hspan, hf2]; rfl
          rw [hsp]
          exact Fin.retW (by exact rfl) resA (H' := f.H) (fun _ h => h.sublist findA) ⟨rfl, rfl⟩
        · have hq := of_decide_eq_true hc
          rw [hw2, hw4] at hq
          have hf2 : okG f.sn base 0 gs = false := by rw [hok, hdrop, okG, decide_eq_true (show f.sn < base + g.2 by omega)]; simp
          have hsp : Flt.span f.S y gs = none := by rw [hspan, hf2]; rfl
          rw [hsp]
          exact Fin.retW (by exact rfl) resA (H' := f.H) (fun _ h => h.sublist findA) ⟨rfl, rfl⟩
        · rename_i c1 c2
          have q1 := of_decide_eq_false c1
          have q2 := of_decide_eq_false c2
          have q3 := of_decide_eq_false hc
          rw [hw1, hw3] at q1
          rw [hw1, hw2] at q2
          rw [hw2, hw4] at q3
          have hf2 : okG f.sn base 0 gs = okG f.sn base g.2 (gs.drop (k + 1)) := by
            rw [hok, hdrop, okG, decide_eq_false (show ¬ g.1 < la + 2 by omega), decide_eq_false (show ¬ g.2 < g.1 by omega), decide_eq_false (show ¬ f.sn < base + g.2 by omega)]
            rfl
          have e1 : IntKind.i64.wrap (IntKind.i64.wrap ((base : Int) + IntKind.i64.wrap ((g.1 : Nat) : Int)) - 1) = ((base + g.1 - 1 : Nat) : Int) := by rw [hw1, i64_id (n := (base : Int) + g.1) (by omega) (by omega), i64_id (by omega) (by omega)]; omega
          have e2 : IntKind.i64.wrap ((base : Int) + IntKind.i64.wrap ((g.2 : Nat) : Int)) = ((base + g.2 : Nat) : Int) := by rw [hw2, hw4]; omega
          rw [e1, e2, hw2]
          refine WL.p rfl (Pu.bldA (vals := [(0, .int .i64 ((base + g.1 - 1 : Nat) : Int)), (1, .int .i64 ((base + g.2 : Nat) : Int))]) (by exact rfl) (by exact rfl)) ?_
          repeat' (first | refine S1 ?_ | refine SD ?_ | refine SA (fun _ => ?_) | refine G1 (fun hc => ?_) (fun hc => ?_) | refine G2 (fun hc => ?_) (fun hc => ?_) | refine G3 (fun hc => ?_) (fun hc => ?_))
          refine WL.e rfl (Ef.app (m := 1) (news := sC (base + g.1 - 1, base + g.2)) (hb := hb) (by exact rfl) (by exact rfl) rfl rfl hown (.last (.there (.there .here))) (Src.own (n := 2) (.here rfl)) rfl (sC_one _) (by rw [sC_lens, spL_len, List.length_take, sC_len]; omega) (by rw [sC_lens, spL_len, List.length_take, sC_len]; simp [maxLen]; omega)) ?_
          rintro v' _ ⟨hb', hown', rfl⟩
          obtain ⟨sa2, sn2, sc2, rfl, _, _⟩ := OwnS.shape hown'
          repeat' (first | refine S1 ?_ | refine SD ?_ | refine SA (fun _ => ?_) | refine G1 (fun hc => ?_) (fun hc => ?_) | refine G2 (fun hc => ?_) (fun hc => ?_) | refine G3 (fun hc => ?_) (fun hc => ?_))
          rw [i64_succ (by omega)]
          refine Fin.round ⟨k + 1, g.2, sa2, sn2, sc2, hb'⟩ ⟨hk', ?_, hgr.2, hf2⟩ envA (fun _ h => In.of_sub (.pickL (L := hb') .here (.last (L := f.H) (.there (.there .all)))) h) (by dsimp only; omega)
          dsimp only
          rw [spL_snoc base hgk, List.flatMap_append]
          simpa using hown'
      · have hkn : k = gn := by have := of_decide_eq_false hc; omega
        have hf2 : okG f.sn base 0 gs = true := by rw [hok, List.drop_of_length_le (by omega)]; rfl
        have hsp : Flt.span f.S y gs = some (spL base gs) := by rw [hspan, hf2]; rfl
        rw [hsp]
        rw [List.take_of_length_le (by omega)] at hown
        exact Fin.retW (by exact rfl) resA (H' := hb ++ f.H) (fun _ h => h) ⟨sa, sn, sc, hb, rfl, hown, rfl⟩
  · have hyc : y = f.c := by simpa using hc
    have hbn : Spn.far f.c y ≤ f.sn := by
      rw [hyc]
      have := Spn.far_int f.c f.c
      rw [Spn.u32_eq] at this
      simp at this
      omega
    have hspan : Flt.span f.S y gs = (if okG f.sn (Spn.far f.c y) 0 gs then some (spL (Spn.far f.c y) gs) else none) := by rw [hsp0, if_neg (by simp [hyc])]
    have hfi := Spn.far_int f.c y
    refine WD.e rfl (Ef.callR (by exact rfl) (.nil _) (ahead_tr _ f.c y)) ?_
    rintro _ _ ⟨rfl, rfl⟩
    refine ⟨.inr (fun _ h => h), ?_⟩
    rw [← hfi]
    obtain ⟨base, hbase⟩ : ∃ base, Spn.far f.c y = base := ⟨_, rfl⟩
    rw [hbase] at hbn hspan ⊢
    repeat' (first | refine S1 ?_ | refine SD ?_ | refine SA (fun _ => ?_) | refine G1 (fun hc => ?_) (fun hc => ?_) | refine G2 (fun hc => ?_) (fun hc => ?_) | refine G3 (fun hc => ?_) (fun hc => ?_))
    rw [i64_id (n := (base : Int)) (by omega) (by omega)]
    refine WL.p rfl (Pu.bldA (vals := [(0, .int .i64 0), (1, .int .i64 (base : Int))]) (by exact rfl) (by exact rfl)) ?_
    repeat' (first | refine S1 ?_ | refine SD ?_ | refine SA (fun _ => ?_) | refine G1 (fun hc => ?_) (fun hc => ?_) | refine G2 (fun hc => ?_) (fun hc => ?_) | refine G3 (fun hc => ?_) (fun hc => ?_))
    rename_i x3 bq
    refine W.loop (G := SpG) (fun g => [(0, .pointer (some ⟨f.R, 0, none⟩)), (6, .int .i64 base), (7, .slice g.sa g.sn g.sc), (8, .int .i64 g.la), (47, .slice ga gn gc), (48, .int .i64 gn), (49, .int .i64 g.k)]) (fun g => g.hb ++ f.H)
      (fun g => g.k ≤ gn ∧ OwnS 175 2 ((spL base (gs.take g.k)).flatMap sC) (.slice g.sa g.sn g.sc) g.hb ∧ g.la < 65536 ∧ okG f.sn base 0 gs = okG f.sn base g.la (gs.drop g.k)) (fun g => gn - g.k) ⟨0, 0, some ⟨bq, 0, none⟩, 1, 1, [(bq, .cells (sC (0, base)).toArray 175 (0, 0))]⟩ ⟨Nat.zero_le _, ?_, Nat.zero_lt_succ _, rfl⟩ envA (fun _ h => In.of_sub (.pick .here (.last (.there .all))) h) ?_
    · exact .inr ⟨bq, 1, 1, [], [], [], rfl, rfl, rfl, Nat.le_refl _, rfl, by decide⟩
    rintro ⟨k, la, sa, sn, sc, hb⟩ ⟨hk, hown, hla, hok⟩
    dsimp only at hk hown hla hok ⊢
    have hrow : Sl.Can F (hb ++ f.H) f.R (0 + 0) [.slice f.sa f.sn f.sc] := ((fl_can f).one (i := 0) rfl).mono (fun _ h => h.sublist findA)
    repeat' (first | refine S1 ?_ | refine SD ?_ | refine SA (fun _ => ?_) | refine G1 (fun hc => ?_) (fun hc => ?_) | refine G2 (fun hc => ?_) (fun hc => ?_) | refine G3 (fun hc => ?_) (fun hc => ?_))
    · have hk' : k < gn := by have := of_decide_eq_true hc; omega
      obtain ⟨g, hgk⟩ : ∃ g, gs[k]? = some g := ⟨gs[k]'(by omega), by simp⟩
      have hgr := hg g (List.mem_of_getElem? hgk)
      obtain ⟨gb, go, rfl, hcan⟩ := hl.el gC_len hgk (by omega)
      have hia : 0 ≤ (k : Int) ∧ (k : Int) < gn := by omega
      have hdrop : gs.drop k = g :: gs.drop (k + 1) := by rw [List.drop_eq_getElem_cons (by omega)]; congr 1; exact (List.getElem?_eq_some_iff.1 hgk).2
      have hw1 : IntKind.i64.wrap ((g.1 : Nat) : Int) = (g.1 : Int) := i64_id (by omega) (by omega)
      have hw2 : IntKind.i64.wrap ((g.2 : Nat) : Int) = (g.2 : Int) := i64_id (by omega) (by omega)
      have hw3 : IntKind.i64.wrap ((la : Int) + 2) = (la : Int) + 2 := i64_id (by omega) (by omega)
      have hw4 : IntKind.i64.wrap ((base : Int) + g.2) = (base : Int) + g.2 := i64_id (by omega) (by omega)
      repeat' (first | refine S1 ?_ | refine SD ?_ | refine SA (fun _ => ?_) | refine G1 (fun hc => ?_) (fun hc => ?_) | refine G2 (fun hc => ?_) (fun hc => ?_) | refine G3 (fun hc => ?_) (fun hc => ?_))
      · have hq := of_decide_eq_true hc
        rw [hw1, hw3] at hq
        have hf2 : okG f.sn base 0 gs = false := by rw [hok, hdrop, okG, decide_eq_true (show g.1 < la + 2 by omega)]; rfl
        have hsp : Flt.span f.S y gs = none := by rw [hspan, hf2]; rfl
        rw [hsp]
        exact Fin.retW (by exact rfl) resA (H' := f.H) (fun _ h => h.sublist findA) ⟨rfl, rfl⟩
      · have hq := of_decide_eq_true hc
        rw [hw1, hw2] at hq
        have hf2 : okG f.sn base 0 gs = false := by rw [hok, hdrop, okG, decide_eq_true (show g.2 < g.1 by omega)]; simp
        have hsp : Flt.span f.S y gs = none := by rw [hspan, hf2]; rfl
        rw [hsp]
        exact Fin.retW (by exact rfl) resA (H' := f.H) (fun _ h => h.sublist findA) ⟨rfl, rfl⟩
      · have hq := of_decide_eq_true hc
        rw [hw2, hw4] at hq
        have hf2 : okG f.sn base 0 gs = false := by rw [hok, hdrop, okG, decide_eq_true (show f.sn < base + g.2 by omega)]; simp
        have hsp : Flt.span f.S y gs = none := by rw [hspan, hf2]; rfl
        rw [hsp]
        exact Fin.retW (by exact rfl) resA (H' := f.H) (fun _ h => h.sublist findA) ⟨rfl, rfl⟩
      · rename_i c1 c2
        have q1 := of_decide_eq_false c1
        have q2 := of_decide_eq_false c2
        have q3 := of_decide_eq_false hc
        rw [hw1, hw3] at q1
        rw [hw1, hw2] at q2
        rw [hw2, hw4] at q3
        have hf2 : okG f.sn base 0 gs = okG f.sn base g.2 (gs.drop (k + 1)) := by
          rw [hok, hdrop, okG, decide_eq_false (show ¬ g.1 < la + 2 by omega), decide_eq_false (show ¬ g.2 < g.1 by omega), decide_eq_false (show ¬ f.sn < base + g.2 by omega)]
          rfl
        have e1 : IntKind.i64.wrap (IntKind.i64.wrap ((base : Int) + IntKind.i64.wrap ((g.1 : Nat) : Int)) - 1) = ((base + g.1 - 1 : Nat) : Int) := by rw [hw1, i64_id (n := (base : Int) + g.1) (by omega) (by omega), i64_id (by omega) (by omega)]; omega
        have e2 : IntKind.i64.wrap ((base : Int) + IntKind.i64.wrap ((g.2 : Nat) : Int)) = ((base + g.2 : Nat) : Int) := by rw [hw2, hw4]; omega
        rw [e1, e2, hw2]
        refine WL.p rfl (Pu.bldA (vals := [(0, .int .i64 ((base + g.1 - 1 : Nat) : Int)), (1, .int .i64 ((base + g.2 : Nat) : Int))]) (by exact rfl) (by exact rfl)) ?_
        repeat' (first | refine S1 ?_ | refine SD ?_ | refine SA (fun _ => ?_) | refine G1 (fun hc => ?_) (fun hc => ?_) | refine G2 (fun hc => ?_) (fun hc => ?_) | refine G3 (fun hc => ?_) (fun hc => ?_))
        refine WL.e rfl (Ef.app (m := 1) (news := sC (base + g.1 - 1, base + g.2)) (hb := hb) (by exact rfl) (by exact rfl) rfl rfl hown (.last (.there (.there .here))) (Src.own (n := 2) (.here rfl)) rfl (sC_one _) (by rw [sC_lens, spL_len, List.length_take, sC_len]; omega) (by rw [sC_lens, spL_len, List.length_take, sC_len]; simp [maxLen]; omega)) ?_
        rintro v' _ ⟨hb', hown', rfl⟩
        obtain ⟨sa2, sn2, sc2, rfl, _, _⟩ := OwnS.shape hown'
        repeat' (first | refine S1 ?_ | refine SD ?_ | refine SA (fun _ => ?_) | refine G1 (fun hc => ?_) (fun hc => ?_) | refine G2 (fun hc => ?_) (fun hc => ?_) | refine G3 (fun hc => ?_) (fun hc => ?_))
        rw [i64_succ (by omega)]
        refine Fin.round ⟨k + 1, g.2, sa2, sn2, sc2, hb'⟩ ⟨hk', ?_, hgr.2, hf2⟩ envA (fun _ h => In.of_sub (.pickL (L := hb') .here (.last (L := f.H) (.there (.there .all)))) h) (by dsimp only; omega)
        dsimp only
        rw [spL_snoc base hgk, List.flatMap_append]
        simpa using hown'
    · have hkn : k = gn := by have := of_decide_eq_false hc; omega
      have hf2 : okG f.sn base 0 gs = true := by rw [hok, List.drop_of_length_le (by omega)]; rfl
      have hsp : Flt.span f.S y gs = some (spL base gs) := by rw [hspan, hf2]; rfl
      rw [hsp]
      rw [List.take_of_length_le (by omega)] at hown
      exact Fin.retW (by exact rfl) resA (H' := hb ++ f.H) (fun _ h => h) ⟨sa, sn, sc, hb, rfl, hown, rfl⟩
end Go.Proofs.YtjfpckadjnjmoaaGreat
