/- The laws' 'SameSack', walked. Conditions: what the arguments' cells are. -/
import Derived.Test.YthjglhdjlmjffaaGreatTsB
namespace Go.Proofs.YthjglhdjlmjffaaGreat
open Go Go.Sl Go.Spn

theorem part_u16 (w : World) (l : List Value) (i : Nat) (v : Value) (h : l[i]? = some v) : (part 36 l.toArray i).run Tryz.prog w = .ok v w := by
  simp [part, Tryz.isAgg36, h]
theorem eq_u16 (w : World) (n : Nat) (a c : Int) : (Op.equalIn (n + 1) 36 (.int .u16 a) (.int .u16 c)).run Tryz.prog w = .ok (a == c) w := by
  rw [Op.equalIn, Sem.run_bind, run_underlying Tryz.underlying36]
  simp
theorem gap_equal (w : World) (a b c d : Int) : (Op.equal 92 (.agg [.int .u16 a, .int .u16 b].toArray) (.agg [.int .u16 c, .int .u16 d].toArray)).run Tryz.prog w = .ok (a == c && b == d) w := by
  show (Op.equalIn (9998 + 1 + 1) _ _ _).run _ w = _
  rw [Op.equalIn, Sem.run_bind, run_underlying Tryz.underlying92]
  have h1 := part_u16 w [.int .u16 a, .int .u16 b] 0 _ rfl
  have h2 := part_u16 w [.int .u16 c, .int .u16 d] 0 _ rfl
  have h3 := part_u16 w [.int .u16 a, .int .u16 b] 1 _ rfl
  have h4 := part_u16 w [.int .u16 c, .int .u16 d] 1 _ rfl
  have e : ∀ a c : Int, (Op.equalIn 9999 36 (.int .u16 a) (.int .u16 c)).run Tryz.prog w = .ok (a == c) w := fun a c => eq_u16 w 9998 a c
  simp [h1, h2, h3, h4, e]
  by_cases ha : a = c
  · by_cases hb : b = d
    · simp [ha, hb]
    · simp [ha, hb]
  · simp [ha]
section
variable {x : Cx} {env : Env} {dst : Option Tmp} {ty : TypeId} {pos : String} {aft : Array Edge} {gd : Option (Nat × Bool)}
theorem Pu.neGap (hP : x.P = Tryz.prog) {p q : Operand} {a b c d : Int} (hp : ev env p = some (.agg [.int .u16 a, .int .u16 b].toArray)) (hq : ev env q = some (.agg [.int .u16 c, .int .u16 d].toArray)) :
    Pu x env ⟨dst, .binOp .neq 92 p q 92, ty, pos, aft, gd⟩ (.bool (!(a == c && b == d))) := ⟨fun a' he w => by
  rw [hP]
  have h := gap_equal w a b c d
  simp [execOp, he.eval hp, he.eval hq, eqGuard, binOp, h]⟩
end
theorem gap_beq (g h : Nat × Nat) : (((g.1 : Nat) : Int) == ((h.1 : Nat) : Int) && ((g.2 : Nat) : Int) == ((h.2 : Nat) : Int)) = decide (g = h) := by
  obtain ⟨a, b⟩ := g
  obtain ⟨c, d⟩ := h
  rw [Bool.eq_iff_iff]
  simp [Prod.ext_iff]
  omega
def sackV (c r : Int) (xa : Option Addr) (xn xc : Nat) (ua : Option Addr) (un uc : Nat) : List Value := [.int .u32 c, .int .u32 r, .slice xa xn xc, .slice ua un uc]
set_option maxRecDepth 20000 in
set_option maxHeartbeats 4000000 in
theorem sackSame_tr (F : Nat → Option Obj) (c r d s : Int) (xs ys : List (Nat × Nat)) (us vs : List Int) (xa : Option Addr) (xn xc : Nat) (ya : Option Addr) (yn yc : Nat) (ua : Option Addr) (un uc : Nat) (va : Option Addr) (vn vc : Nat)
    (hx : Lst F [] 2 (xs.flatMap gCells) xa xn xc) (hy : Lst F [] 2 (ys.flatMap gCells) ya yn yc) (hu : Lst F [] 1 (us.map (Value.int .u32)) ua un uc) (hv : Lst F [] 1 (vs.map (Value.int .u32)) va vn vc) (hxl : xs.length ≤ 1000000) (hul : us.length ≤ 1000000) :
    Tr Tryz.prog 12 [.agg (sackV c r xa xn xc ua un uc).toArray, .agg (sackV d s ya yn yc va vn vc).toArray].toArray F [] (fun v H => v = .bool (decide (c = d ∧ r = s ∧ xs = ys ∧ us = vs)) ∧ H = []) := by
  refine Tr.enter Tryz.func12 rfl Tryz.ntmps12 rfl (fun w0 => ?_)
  have hn1 : xs.length = xn := lst_len (cells := gCells) (fun _ => rfl) (by decide) hx
  have hn2 : ys.length = yn := lst_len (cells := gCells) (fun _ => rfl) (by decide) hy
  have hn3 : un = us.length := lst_int hu
  have hn4 : vn = vs.length := lst_int hv
  unfold sackV
  repeat' (first | refine S1 ?_ | refine SD ?_ | refine SA (fun _ => ?_) | refine WL.g_split rfl rfl (fun hc => ?_) (fun hc => ?_) | refine WD.g_split rfl rfl (fun hc => ?_) (fun hc => ?_) | refine W.cond rfl (fun hc => ?_) (fun hc => ?_))
  · exact Fin.retW (by exact rfl) resA (fun _ h => h.sublist (List.nil_sublist _)) ⟨by rw [decide_eq_false (fun h => by simp [h.1] at hc)]; rfl, rfl⟩
  · exact Fin.retW (by exact rfl) resA (fun _ h => h.sublist (List.nil_sublist _)) ⟨by rw [decide_eq_false (fun h => by simp [h.2.1] at hc)]; rfl, rfl⟩
  · exact Fin.retW (by exact rfl) resA (fun _ h => h.sublist (List.nil_sublist _)) ⟨by rw [decide_eq_false (fun h => by rw [← hn1, ← hn2, h.2.2.1] at hc; simp at hc)]; rfl, rfl⟩
  · exact Fin.retW (by exact rfl) resA (fun _ h => h.sublist (List.nil_sublist _)) ⟨by rw [decide_eq_false (fun h => by rw [hn3, hn4, h.2.2.2] at hc; simp at hc)]; rfl, rfl⟩
  have hcd : c = d := by have := (by assumption : (c != d) = false); simpa using this
  have hrs : r = s := by have := (by assumption : (r != s) = false); simpa using this
  have hxy : xs.length = ys.length := by have := (by assumption : ((xn : Int) != (yn : Int)) = false); simp at this; omega
  have huv : us.length = vs.length := by simp at hc; omega
  rename_i b3 b2 _ _ _
  refine W.loop (G := Nat) (fun g => [(2, .pointer (some ⟨b3, 0, none⟩)), (3, .pointer (some ⟨b2, 0, none⟩)), (5, .int .i64 g)]) (fun _ => [(b2, .cells [.int .u32 d, .int .u32 s, .slice ya yn yc, .slice va vn vc].toArray 43 (0, 0)), (b3, .cells [.int .u32 c, .int .u32 r, .slice xa xn xc, .slice ua un uc].toArray 43 (0, 0))]) (fun g => g ≤ xn ∧ xs.take g = ys.take g) (fun g => xn - g) 0 ⟨Nat.zero_le _, rfl⟩ envA (fun _ h => h) ?_
  rintro i ⟨hi, heq⟩
  try dsimp only at hi heq ⊢
  repeat' (first | refine S1 ?_ | refine SD ?_ | refine SA (fun _ => ?_) | refine WL.g_split rfl rfl (fun hc => ?_) (fun hc => ?_) | refine WD.g_split rfl rfl (fun hc => ?_) (fun hc => ?_) | refine W.cond rfl (fun hc => ?_) (fun hc => ?_))
  · have hi' : i < xn := by have := of_decide_eq_true hc; omega
    obtain ⟨g, hg⟩ : ∃ g, xs[i]? = some g := ⟨xs[i]'(by omega), by simp⟩
    obtain ⟨k, hk⟩ : ∃ g, ys[i]? = some g := ⟨ys[i]'(by omega), by simp⟩
    obtain ⟨b1, o1, rfl, hc1⟩ := hx.el (fun _ => rfl) hg (by omega)
    obtain ⟨b4, o2, rfl, hc2⟩ := hy.el (fun _ => rfl) hk (by omega)
    have hia : 0 ≤ (i : Int) ∧ (i : Int) < xn := by omega
    have hia2 : 0 ≤ (i : Int) ∧ (i : Int) < yn := by omega
    repeat' (first | refine S1 ?_ | refine SD ?_ | refine SA (fun _ => ?_) | refine WL.g_split rfl rfl (fun hc => ?_) (fun hc => ?_) | refine WD.g_split rfl rfl (fun hc => ?_) (fun hc => ?_) | refine W.cond rfl (fun hc => ?_) (fun hc => ?_))
    refine WD.p rfl (Pu.neGap rfl (a := g.1) (b := g.2) (c := k.1) (d := k.2) rfl rfl) ?_
    rw [gap_beq]
    repeat' (first | refine S1 ?_ | refine SD ?_ | refine SA (fun _ => ?_) | refine WL.g_split rfl rfl (fun hc => ?_) (fun hc => ?_) | refine WD.g_split rfl rfl (fun hc => ?_) (fun hc => ?_) | refine W.cond rfl (fun hc => ?_) (fun hc => ?_))
    · refine Fin.retW (by exact rfl) resA (fun _ h => h.sublist (List.nil_sublist _)) ⟨?_, rfl⟩
      have hne : g ≠ k := by simpa using hc
      have : xs ≠ ys := fun h => by subst h; rw [hg] at hk; cases hk; exact hne rfl
      rw [decide_eq_false (fun h => this h.2.2.1)]
      rfl
    · have he : g = k := by simpa using hc
      rw [i64_succ (by omega)]
      refine Fin.round (i + 1) ⟨hi', ?_⟩ envA (fun _ h => h) (by omega)
      rw [List.take_add_one, List.take_add_one, hg, hk, heq, he]
  · have hin : i = xn := by have := of_decide_eq_false hc; omega
    rw [hin, ← hn1, List.take_length, hxy, List.take_length] at heq
    refine W.loop (G := Nat) (fun g => [(2, .pointer (some ⟨b3, 0, none⟩)), (3, .pointer (some ⟨b2, 0, none⟩)), (6, .int .i64 g)]) (fun _ => [(b2, .cells [.int .u32 d, .int .u32 s, .slice ya yn yc, .slice va vn vc].toArray 43 (0, 0)), (b3, .cells [.int .u32 c, .int .u32 r, .slice xa xn xc, .slice ua un uc].toArray 43 (0, 0))]) (fun g => g ≤ un ∧ us.take g = vs.take g) (fun g => un - g) 0 ⟨Nat.zero_le _, rfl⟩ envA (fun _ h => h) ?_
    clear hi hin hc
    rintro i ⟨hi, heq2⟩
    try dsimp only at hi heq2 ⊢
    repeat' (first | refine S1 ?_ | refine SD ?_ | refine SA (fun _ => ?_) | refine WL.g_split rfl rfl (fun hc => ?_) (fun hc => ?_) | refine WD.g_split rfl rfl (fun hc => ?_) (fun hc => ?_) | refine W.cond rfl (fun hc => ?_) (fun hc => ?_))
    · have hi' : i < un := by have := of_decide_eq_true hc; omega
      obtain ⟨g, hg⟩ : ∃ g, us[i]? = some g := ⟨us[i]'(by omega), by simp⟩
      obtain ⟨k, hk⟩ : ∃ g, vs[i]? = some g := ⟨vs[i]'(by omega), by simp⟩
      obtain ⟨b1, o1, rfl, hc1⟩ := lst_el hu hg
      obtain ⟨b4, o2, rfl, hc2⟩ := lst_el hv hk
      have hia : 0 ≤ (i : Int) ∧ (i : Int) < un := by omega
      have hia2 : 0 ≤ (i : Int) ∧ (i : Int) < vn := by omega
      repeat' (first | refine S1 ?_ | refine SD ?_ | refine SA (fun _ => ?_) | refine WL.g_split rfl rfl (fun hc => ?_) (fun hc => ?_) | refine WD.g_split rfl rfl (fun hc => ?_) (fun hc => ?_) | refine W.cond rfl (fun hc => ?_) (fun hc => ?_))
      · refine Fin.retW (by exact rfl) resA (fun _ h => h.sublist (List.nil_sublist _)) ⟨?_, rfl⟩
        have hne : g ≠ k := by simpa using hc
        have : us ≠ vs := fun h => by subst h; rw [hg] at hk; cases hk; exact hne rfl
        rw [decide_eq_false (fun h => this h.2.2.2)]
        rfl
      · have he : g = k := by simpa using hc
        rw [i64_succ (by omega)]
        refine Fin.round (i + 1) ⟨hi', ?_⟩ envA (fun _ h => h) (by omega)
        rw [List.take_add_one, List.take_add_one, hg, hk, heq2, he]
    · have hin : i = un := by have := of_decide_eq_false hc; omega
      rw [hin, hn3, List.take_length, huv, List.take_length] at heq2
      refine Fin.retW (by exact rfl) resA (fun _ h => h.sublist (List.nil_sublist _)) ⟨?_, rfl⟩
      rw [decide_eq_true ⟨hcd, hrs, heq, heq2⟩]
      rfl
end Go.Proofs.YthjglhdjlmjffaaGreat
