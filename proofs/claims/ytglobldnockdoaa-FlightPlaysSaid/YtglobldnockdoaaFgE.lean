/- The document's flight of pieces: may, told, walked: they answer as the plain functions do. Conditions: it is well formed; the gaps can be read. -/
import Derived.Test.YtglobldnockdoaaFgD
import Derived.Test.YtglobldnockdoaaFlG
namespace Go.Proofs.Ytglobldnockdoaa
open Go Go.Sl Go.Flt

structure MaG where
  k : Nat
  la : Nat
def skRow (y room : Int) (ga : Option Addr) (gn gc : Nat) (ra : Option Addr) (rn rc : Nat) : List Value := [.int .u32 y, .int .u32 room, .slice ga gn gc, .slice ra rn rc]
set_option maxHeartbeats 4000000 in
theorem rmay_tr (F : Nat → Option Obj) (f : FR) (hf : f.ok) (y room : Int) (gs : List (Nat × Nat)) (ga : Option Addr) (gn gc : Nat) (hl : Lst F [] 2 (gs.flatMap gC) ga gn gc) (hg : ∀ g ∈ gs, g.1 < 65536 ∧ g.2 < 65536) (hgl : gs.length ≤ 1000) (ra : Option Addr) (rn rc : Nat) :
    Tr Try.prog 63 [.pointer (some ⟨f.R, 0, none⟩), .agg [.int .u32 y, .int .u32 room, .slice ga gn gc, .slice ra rn rc].toArray].toArray F f.H (fun v H => v = .bool (!decide (f.ln < Spn.far f.c y) && okG f.ln (Spn.far f.c y) 0 gs) ∧ H = f.H) := by
  refine Tr.enter Try.func63 rfl Try.ntmps63 rfl (fun w0 => ?_)
  have hlen := hf.len
  have hfew := hf.few
  have hgn : gs.length = gn := lst_len gC_len (by decide) hl
  have hfi := Spn.far_int f.c y
  have hfl := Spn.far_lt f.c y
  obtain ⟨base, hbase⟩ : ∃ base, Spn.far f.c y = base := ⟨_, rfl⟩
  rw [hbase] at hfi hfl ⊢
  rw [show Spn.u32 (y - f.c) = IntKind.u32.wrap (y - f.c) from rfl] at hfi
  unfold FR.H FR.hd
  repeat' (first | refine S1 ?_ | refine SA (fun _ => ?_) | refine WL.g_split rfl rfl (fun hc => ?_) (fun hc => ?_) | refine WD.g_split rfl rfl (fun hc => ?_) (fun hc => ?_) | refine W.cond rfl (fun hc => ?_) (fun hc => ?_))
  rename_i b3
  refine W.draw ((b3, .cells [.int .u32 y, .int .u32 room, .slice ga gn gc, .slice ra rn rc].toArray 48 (0, 0)) :: f.H) (by kernel_rfl) (by kernel_rfl) (fun _ h => h) ?_
  unfold FR.H FR.hd
  repeat' (first | refine S1 ?_ | refine SA (fun _ => ?_) | refine WL.g_split rfl rfl (fun hc => ?_) (fun hc => ?_) | refine WD.g_split rfl rfl (fun hc => ?_) (fun hc => ?_) | refine W.cond rfl (fun hc => ?_) (fun hc => ?_))
  · have hq := of_decide_eq_true hc
    rw [← hfi, u32_id (n := (f.ln : Int)) (by omega)] at hq
    have hm : (!decide (f.ln < base) && okG f.ln base 0 gs) = false := by rw [decide_eq_true (show f.ln < base by omega)]; rfl
    exact Fin.retW (by exact rfl) resA (H' := f.H) (fun _ h => h.sublist (.cons _ (.refl _))) ⟨by rw [hm]; rfl, rfl⟩
  have hq := of_decide_eq_false hc
  rw [← hfi, u32_id (n := (f.ln : Int)) (by omega)] at hq
  have hbn : base ≤ f.ln := by omega
  rw [← hfi]
  refine W.loop (G := MaG) (fun g => [(0, .pointer (some ⟨f.R, 0, none⟩)), (3, .pointer (some ⟨b3, 0, none⟩)), (5, .int .u32 base), (6, .int .i64 g.la), (7, .int .i64 g.k)]) (fun g => (b3, .cells [.int .u32 y, .int .u32 room, .slice ga gn gc, .slice ra rn rc].toArray 48 (0, 0)) :: f.H)
    (fun g => g.k ≤ gn ∧ g.la < 65536 ∧ (g.k = 0 → g.la = 0) ∧ okG f.ln base 0 gs = okG f.ln base g.la (gs.drop g.k)) (fun g => gn - g.k) ⟨0, 0⟩ ⟨Nat.zero_le _, by decide, fun _ => rfl, rfl⟩ envA (fun _ h => h) ?_
  rintro ⟨k, la⟩ ⟨hk, hla, hl0, hok⟩
  dsimp only at hk hla hl0 hok ⊢
  have r0 : Sl.Can F ((b3, .cells [.int .u32 y, .int .u32 room, .slice ga gn gc, .slice ra rn rc].toArray 48 (0, 0)) :: f.H) f.R (0 + 0) [.slice f.la f.ln f.lc] := ((fr_can f).one (i := 0) rfl).mono (fun _ h => h.sublist (.cons _ (.refl _)))
  repeat' (first | refine S1 ?_ | refine SA (fun _ => ?_) | refine WL.g_split rfl rfl (fun hc => ?_) (fun hc => ?_) | refine WD.g_split rfl rfl (fun hc => ?_) (fun hc => ?_) | refine W.cond rfl (fun hc => ?_) (fun hc => ?_))
  rotate_right
  · have hkn : k = gn := by have := of_decide_eq_false (p := (k : Int) < (gn : Int)) (by assumption); omega
    have hf2 : okG f.ln base 0 gs = true := by rw [hok, List.drop_of_length_le (by omega)]; rfl
    have hm : (!decide (f.ln < base) && okG f.ln base 0 gs) = true := by rw [hf2, decide_eq_false (by omega)]; rfl
    exact Fin.retW (by exact rfl) resA (H' := f.H) (fun _ h => h.sublist (.cons _ (.refl _))) ⟨by rw [hm]; rfl, rfl⟩
  have hk' : k < gn := by have := of_decide_eq_true (p := (k : Int) < (gn : Int)) (by assumption); omega
  obtain ⟨g, hgk⟩ : ∃ g, gs[k]? = some g := ⟨gs[k]'(by omega), by simp⟩
  have hgr := hg g (List.mem_of_getElem? hgk)
  obtain ⟨gb, go, rfl, hcan⟩ := hl.el gC_len hgk (by omega)
  have hia : 0 ≤ (k : Int) ∧ (k : Int) < gn := by omega
  have hdrop : gs.drop k = g :: gs.drop (k + 1) := by rw [List.drop_eq_getElem_cons (by omega)]; congr 1; exact (List.getElem?_eq_some_iff.1 hgk).2
  have hw1 : IntKind.i64.wrap ((g.1 : Nat) : Int) = (g.1 : Int) := i64_id (by omega) (by omega)
  have hw2 : IntKind.i64.wrap ((g.2 : Nat) : Int) = (g.2 : Int) := i64_id (by omega) (by omega)
  have hw3 : IntKind.i64.wrap ((la : Int) + 2) = (la : Int) + 2 := i64_id (by omega) (by omega)
  have hw4 : IntKind.i64.wrap ((base : Int) + g.2) = (base : Int) + g.2 := i64_id (by omega) (by omega)
  have hw5 : IntKind.i64.wrap (base : Int) = (base : Int) := i64_id (by omega) (by omega)
  have hc0 : Sl.Can F ((b3, .cells [.int .u32 y, .int .u32 room, .slice (some ⟨gb, go, none⟩) gn gc, .slice ra rn rc].toArray 48 (0, 0)) :: f.H) gb (go + (k : Int).toNat * 2 + 0) [.int .u16 g.1] := (hcan.one (i := 0) rfl).mono (fun _ h => h.sublist (List.nil_sublist _))
  have hc1 : Sl.Can F ((b3, .cells [.int .u32 y, .int .u32 room, .slice (some ⟨gb, go, none⟩) gn gc, .slice ra rn rc].toArray 48 (0, 0)) :: f.H) gb (go + (k : Int).toNat * 2 + 1) [.int .u16 g.2] := (hcan.one (i := 1) rfl).mono (fun _ h => h.sublist (List.nil_sublist _))
  repeat' (first | refine S1 ?_ | refine SA (fun _ => ?_) | refine WL.g_split rfl rfl (fun hc => ?_) (fun hc => ?_) | refine WD.g_split rfl rfl (fun hc => ?_) (fun hc => ?_) | refine W.cond rfl (fun hc => ?_) (fun hc => ?_))
  · have q := of_decide_eq_true hc
    rw [hw1] at q
    have hf2 : okG f.ln base 0 gs = false := by rw [hok, hdrop, okG, decide_eq_true (show g.1 < la + 2 by omega)]; rfl
    have hm : (!decide (f.ln < base) && okG f.ln base 0 gs) = false := by rw [hf2, Bool.and_false]
    exact Fin.retW (by exact rfl) resA (H' := f.H) (fun _ h => h.sublist (.cons _ (.refl _))) ⟨by rw [hm]; rfl, rfl⟩
  · rename_i c1 c2
    have q := of_decide_eq_true c2
    rw [hw1, hw3] at q
    have hf2 : okG f.ln base 0 gs = false := by rw [hok, hdrop, okG, decide_eq_true (show g.1 < la + 2 by omega)]; rfl
    have hm : (!decide (f.ln < base) && okG f.ln base 0 gs) = false := by rw [hf2, Bool.and_false]
    exact Fin.retW (by exact rfl) resA (H' := f.H) (fun _ h => h.sublist (.cons _ (.refl _))) ⟨by rw [hm]; rfl, rfl⟩
  · have q := of_decide_eq_true hc
    rw [hw1, hw2] at q
    have hf2 : okG f.ln base 0 gs = false := by rw [hok, hdrop, okG, decide_eq_true (show g.2 < g.1 by omega)]; simp
    have hm : (!decide (f.ln < base) && okG f.ln base 0 gs) = false := by rw [hf2, Bool.and_false]
    exact Fin.retW (by exact rfl) resA (H' := f.H) (fun _ h => h.sublist (.cons _ (.refl _))) ⟨by rw [hm]; rfl, rfl⟩
  · have q := of_decide_eq_true hc
    rw [hw2, hw5, hw4] at q
    have hf2 : okG f.ln base 0 gs = false := by rw [hok, hdrop, okG, decide_eq_true (show f.ln < base + g.2 by omega)]; simp
    have hm : (!decide (f.ln < base) && okG f.ln base 0 gs) = false := by rw [hf2, Bool.and_false]
    exact Fin.retW (by exact rfl) resA (H' := f.H) (fun _ h => h.sublist (.cons _ (.refl _))) ⟨by rw [hm]; rfl, rfl⟩
  · rename_i c1 c2 c3 c4
    have q1 := of_decide_eq_false c1
    have q2 := of_decide_eq_true c2
    have q3 := of_decide_eq_false c3
    rw [hw1] at q1
    rw [hw1, hw3] at q2
    have := hl0 (by omega)
    omega
  · have q := of_decide_eq_true hc
    rw [hw1, hw2] at q
    have hf2 : okG f.ln base 0 gs = false := by rw [hok, hdrop, okG, decide_eq_true (show g.2 < g.1 by omega)]; simp
    have hm : (!decide (f.ln < base) && okG f.ln base 0 gs) = false := by rw [hf2, Bool.and_false]
    exact Fin.retW (by exact rfl) resA (H' := f.H) (fun _ h => h.sublist (.cons _ (.refl _))) ⟨by rw [hm]; rfl, rfl⟩
  · have q := of_decide_eq_true hc
    rw [hw2, hw5, hw4] at q
    have hf2 : okG f.ln base 0 gs = false := by rw [hok, hdrop, okG, decide_eq_true (show f.ln < base + g.2 by omega)]; simp
    have hm : (!decide (f.ln < base) && okG f.ln base 0 gs) = false := by rw [hf2, Bool.and_false]
    exact Fin.retW (by exact rfl) resA (H' := f.H) (fun _ h => h.sublist (.cons _ (.refl _))) ⟨by rw [hm]; rfl, rfl⟩
  · rename_i c1 c2 c3
    have q1 := of_decide_eq_false c2
    have q2 := of_decide_eq_false c3
    have q3 := of_decide_eq_false hc
    rw [hw1, hw3] at q1
    rw [hw1, hw2] at q2
    rw [hw2, hw5, hw4] at q3
    have hf2 : okG f.ln base 0 gs = okG f.ln base g.2 (gs.drop (k + 1)) := by
      rw [hok, hdrop, okG, decide_eq_false (show ¬ g.1 < la + 2 by omega), decide_eq_false (show ¬ g.2 < g.1 by omega), decide_eq_false (show ¬ f.ln < base + g.2 by omega)]
      rfl
    rw [hw2, i64_succ (by omega)]
    exact Fin.round ⟨k + 1, g.2⟩ ⟨hk', hgr.2, fun h => by dsimp only at h; omega, hf2⟩ envA (fun _ h => h) (by dsimp only; omega)
set_option maxHeartbeats 4000000 in
theorem rtold_tr (F : Nat → Option Obj) (f : FR) (hf : f.ok) (y room : Int) (gs : List (Nat × Nat)) (ga : Option Addr) (gn gc : Nat) (hl : Lst F [] 2 (gs.flatMap gC) ga gn gc) (hg : ∀ g ∈ gs, g.1 < 65536 ∧ g.2 < 65536) (hgl : gs.length ≤ 1000) (ra : Option Addr) (rn rc : Nat) (i : Nat) (hi : i < f.ln) :
    Tr Try.prog 64 [.pointer (some ⟨f.R, 0, none⟩), .agg [.int .u32 y, .int .u32 room, .slice ga gn gc, .slice ra rn rc].toArray, .int .i64 i].toArray F f.H (fun v H => v = .bool (toldB (Spn.far f.c y) gs i) ∧ H = f.H) := by
  refine Tr.enter Try.func64 rfl Try.ntmps64 rfl (fun w0 => ?_)
  have hlen := hf.len
  have hfew := hf.few
  have hgn : gs.length = gn := lst_len gC_len (by decide) hl
  have hfi := Spn.far_int f.c y
  have hfl := Spn.far_lt f.c y
  obtain ⟨base, hbase⟩ : ∃ base, Spn.far f.c y = base := ⟨_, rfl⟩
  rw [hbase] at hfi hfl ⊢
  rw [show Spn.u32 (y - f.c) = IntKind.u32.wrap (y - f.c) from rfl] at hfi
  have hw5 : IntKind.i64.wrap (base : Int) = (base : Int) := i64_id (by omega) (by omega)
  have hwi : IntKind.i64.wrap ((i : Int) + 1) = (i : Int) + 1 := i64_id (by omega) (by omega)
  unfold FR.H FR.hd
  repeat' (first | refine S1 ?_ | refine SA (fun _ => ?_) | refine WL.g_split rfl rfl (fun hc => ?_) (fun hc => ?_) | refine WD.g_split rfl rfl (fun hc => ?_) (fun hc => ?_) | refine W.cond rfl (fun hc => ?_) (fun hc => ?_))
  rename_i b4
  refine W.draw ((b4, .cells [.int .u32 y, .int .u32 room, .slice ga gn gc, .slice ra rn rc].toArray 48 (0, 0)) :: f.H) (by kernel_rfl) (by kernel_rfl) (fun _ h => h) ?_
  unfold FR.H FR.hd
  repeat' (first | refine S1 ?_ | refine SA (fun _ => ?_) | refine WL.g_split rfl rfl (fun hc => ?_) (fun hc => ?_) | refine WD.g_split rfl rfl (fun hc => ?_) (fun hc => ?_) | refine W.cond rfl (fun hc => ?_) (fun hc => ?_))
  · have hq := of_decide_eq_true hc
    rw [← hfi, hw5] at hq
    have hy : toldB base gs i = true := by unfold toldB; rw [decide_eq_true (show i < base by omega)]; rfl
    exact Fin.retW (by exact rfl) resA (H' := f.H) (fun _ h => h.sublist (.cons _ (.refl _))) ⟨by rw [hy]; rfl, rfl⟩
  have hq := of_decide_eq_false hc
  rw [← hfi, hw5] at hq
  rw [← hfi, hw5]
  refine W.loop (G := Nat) (fun k => [(0, .pointer (some ⟨f.R, 0, none⟩)), (2, .int .i64 i), (4, .pointer (some ⟨b4, 0, none⟩)), (7, .int .i64 base), (8, .int .i64 k)]) (fun _ => (b4, .cells [.int .u32 y, .int .u32 room, .slice ga gn gc, .slice ra rn rc].toArray 48 (0, 0)) :: f.H)
    (fun k => k ≤ gn ∧ inG base gs i = inG base (gs.drop k) i) (fun k => gn - k) 0 ⟨Nat.zero_le _, rfl⟩ envA (fun _ h => h) ?_
  rintro k ⟨hk, hin⟩
  have hb0 : toldB base gs i = inG base gs i := by unfold toldB; rw [decide_eq_false (by omega), Bool.false_or]
  repeat' (first | refine S1 ?_ | refine SA (fun _ => ?_) | refine WL.g_split rfl rfl (fun hc => ?_) (fun hc => ?_) | refine WD.g_split rfl rfl (fun hc => ?_) (fun hc => ?_) | refine W.cond rfl (fun hc => ?_) (fun hc => ?_))
  rotate_right
  · have hkn : k = gn := by have := of_decide_eq_false (p := (k : Int) < (gn : Int)) (by assumption); omega
    have hy : toldB base gs i = false := by rw [hb0, hin, List.drop_of_length_le (by omega)]; rfl
    exact Fin.retW (by exact rfl) resA (H' := f.H) (fun _ h => h.sublist (.cons _ (.refl _))) ⟨by rw [hy]; rfl, rfl⟩
  have hk' : k < gn := by have := of_decide_eq_true (p := (k : Int) < (gn : Int)) (by assumption); omega
  obtain ⟨g, hgk⟩ : ∃ g, gs[k]? = some g := ⟨gs[k]'(by omega), by simp⟩
  have hgr := hg g (List.mem_of_getElem? hgk)
  obtain ⟨gb, go, rfl, hcan⟩ := hl.el gC_len hgk (by omega)
  have hia : 0 ≤ (k : Int) ∧ (k : Int) < gn := by omega
  have hdrop : gs.drop k = g :: gs.drop (k + 1) := by rw [List.drop_eq_getElem_cons (by omega)]; congr 1; exact (List.getElem?_eq_some_iff.1 hgk).2
  have hw1 : IntKind.i64.wrap ((g.1 : Nat) : Int) = (g.1 : Int) := i64_id (by omega) (by omega)
  have hw2 : IntKind.i64.wrap ((g.2 : Nat) : Int) = (g.2 : Int) := i64_id (by omega) (by omega)
  have hw3 : IntKind.i64.wrap ((base : Int) + g.1) = (base : Int) + g.1 := i64_id (by omega) (by omega)
  have hw4 : IntKind.i64.wrap ((base : Int) + g.2) = (base : Int) + g.2 := i64_id (by omega) (by omega)
  have hc0 : Sl.Can F ((b4, .cells [.int .u32 y, .int .u32 room, .slice (some ⟨gb, go, none⟩) gn gc, .slice ra rn rc].toArray 48 (0, 0)) :: f.H) gb (go + (k : Int).toNat * 2 + 0) [.int .u16 g.1] := (hcan.one (i := 0) rfl).mono (fun _ h => h.sublist (List.nil_sublist _))
  have hc1 : Sl.Can F ((b4, .cells [.int .u32 y, .int .u32 room, .slice (some ⟨gb, go, none⟩) gn gc, .slice ra rn rc].toArray 48 (0, 0)) :: f.H) gb (go + (k : Int).toNat * 2 + 1) [.int .u16 g.2] := (hcan.one (i := 1) rfl).mono (fun _ h => h.sublist (List.nil_sublist _))
  have hstep : inG base (gs.drop k) i = ((decide (base + g.1 ≤ i + 1) && decide (i + 1 ≤ base + g.2)) || inG base (gs.drop (k + 1)) i) := by rw [hdrop]; unfold inG; rw [List.any_cons]
  repeat' (first | refine S1 ?_ | refine SA (fun _ => ?_) | refine WL.g_split rfl rfl (fun hc => ?_) (fun hc => ?_) | refine WD.g_split rfl rfl (fun hc => ?_) (fun hc => ?_) | refine W.cond rfl (fun hc => ?_) (fun hc => ?_))
  · rename_i c1
    have q1 := of_decide_eq_true c1
    have q2 := of_decide_eq_true hc
    rw [hwi, hw1, hw3] at q1
    rw [hwi, hw2, hw4] at q2
    have hy : toldB base gs i = true := by rw [hb0, hin, hstep, decide_eq_true (show base + g.1 ≤ i + 1 by omega), decide_eq_true (show i + 1 ≤ base + g.2 by omega)]; rfl
    exact Fin.retW (by exact rfl) resA (H' := f.H) (fun _ h => h.sublist (.cons _ (.refl _))) ⟨by rw [hy]; rfl, rfl⟩
  · have q2 := of_decide_eq_false hc
    rw [hwi, hw2, hw4] at q2
    rw [i64_succ (by omega)]
    exact Fin.round (k + 1) ⟨hk', by rw [hin, hstep, decide_eq_false (show ¬ i + 1 ≤ base + g.2 by omega), Bool.and_false, Bool.false_or]⟩ envA (fun _ h => h) (by omega)
  · have q1 := of_decide_eq_false hc
    rw [hwi, hw1, hw3] at q1
    rw [i64_succ (by omega)]
    exact Fin.round (k + 1) ⟨hk', by rw [hin, hstep, decide_eq_false (show ¬ base + g.1 ≤ i + 1 by omega), Bool.false_and, Bool.false_or]⟩ envA (fun _ h => h) (by omega)
end Go.Proofs.Ytglobldnockdoaa
