/- A set of numbers beyond a base, in memory, and its methods but 'Gaps', walked: they answer as the plain functions do. Conditions: it is well formed; numbers are 32 bits wide. -/
import Derived.Test.YthjglhdjlmjffaaGreatBc
import Derived.Test.YthjglhdjlmjffaaGreatTy
import Derived.Test.YthjglhdjlmjffaaGreatBa
namespace Go.Proofs.YthjglhdjlmjffaaGreat
open Go Go.Sl Go.Spn

/-- an entry of the map: a number that is in -/
structure Se where
  key : Int
  born : Nat
def Se.ent (e : Se) : MapEntry := ⟨.int .u32 e.key, .agg ([] : List Value).toArray, e.born⟩
structure SM where
  R : Nat
  M : Nat
  base : Int
  es : List Se
  clk : Nat
def SM.H (s : SM) : HL := [(s.R, .cells [.int .u32 s.base, .map (some s.M)].toArray 125 (0, 0)), (s.M, .map (s.es.map Se.ent).toArray s.clk)]
def SM.isIn (s : SM) (x : Int) : Bool := s.es.any (fun e => decide (e.key = x))
def SM.S (s : SM) : Spn.S := ⟨s.base, fun d => inW d && s.isIn (u32 (s.base + d))⟩
structure SM.ok (s : SM) : Prop where
  born : (s.es.map (·.born)).Nodup
  old : ∀ e ∈ s.es, e.born < s.clk
  keys : (s.es.map (·.key)).Nodup
  rng : ∀ e ∈ s.es, 0 ≤ e.key ∧ e.key < 4294967296
  win : ∀ e ∈ s.es, inW (far s.base e.key) = true
  base : 0 ≤ s.base ∧ s.base < 4294967296
theorem SM.ok.S {s : SM} (h : s.ok) : s.S.ok := ⟨h.base, fun d hd => by
  dsimp only [SM.S] at hd
  rw [Bool.and_eq_true] at hd
  exact inW_iff.1 hd.1⟩
theorem far_back {b x : Int} (_hb : 0 ≤ b ∧ b < 4294967296) (hx : 0 ≤ x ∧ x < 4294967296) : u32 (b + (far b x : Nat)) = x := by
  rw [far_int]; simp only [u32_eq]; omega
theorem SM.S_p {s : SM} (hb : 0 ≤ s.base ∧ s.base < 4294967296) {x : Int} (hx : 0 ≤ x ∧ x < 4294967296) : s.S.p (far s.base x) = (inW (far s.base x) && s.isIn x) := by
  dsimp only [SM.S]
  rw [far_back hb hx]
theorem keysOk_se (es : List Se) : keysOk .u32 (es.map Se.ent) := fun e he => by
  obtain ⟨q, _, rfl⟩ := List.mem_map.1 he
  exact ⟨q.key, rfl⟩
theorem mfind_se (es : List Se) (x : Int) : mfind (es.map Se.ent) x = if es.any (fun e => decide (e.key = x)) then some (.agg ([] : List Value).toArray) else none := by
  unfold mfind
  induction es with
  | nil => rfl
  | cons e es ih =>
    rw [List.map_cons, List.any_cons]
    by_cases h : e.key = x
    · rw [List.find?_cons_of_pos (by simp [isKey, Se.ent, h])]
      simp [h, Se.ent]
    · rw [List.find?_cons_of_neg (by simp [isKey, Se.ent, Ne.symm h]), ih]
      simp [h]

theorem ahead_tr (F : Nat → Option Obj) (a b : Int) : Tr Tryz.prog 102 [.int .u32 a, .int .u32 b].toArray F [] (fun v H => v = .int .u32 (u32 (b - a)) ∧ H = []) := by
  refine Tr.enter Tryz.func102 rfl Tryz.ntmps102 rfl (fun w0 => ?_)
  repeat' (first | refine S1 ?_ | refine SD ?_ | refine SA (fun _ => ?_) | refine WL.g_split rfl rfl (fun hc => ?_) (fun hc => ?_) | refine WD.g_split rfl rfl (fun hc => ?_) (fun hc => ?_) | refine W.cond rfl (fun hc => ?_) (fun hc => ?_))
  exact Fin.retW (by exact rfl) resA (fun _ h => h) ⟨rfl, rfl⟩
theorem less_tr (F : Nat → Option Obj) (a b : Int) : Tr Tryz.prog 81 [.int .u32 a, .int .u32 b].toArray F [] (fun v H => v = .bool (decide (0 < far a b) && decide (far a b ≤ 2147483647)) ∧ H = []) := by
  refine Tr.enter Tryz.func81 rfl Tryz.ntmps81 rfl (fun w0 => ?_)
  have hf := far_int a b
  repeat' (first | refine S1 ?_ | refine SD ?_ | refine SA (fun _ => ?_) | refine WL.g_split rfl rfl (fun hc => ?_) (fun hc => ?_) | refine WD.g_split rfl rfl (fun hc => ?_) (fun hc => ?_) | refine W.cond rfl (fun hc => ?_) (fun hc => ?_))
  refine WL.e rfl (Ef.callR (by exact rfl) (.nil _) (ahead_tr _ a b)) ?_
  rintro _ _ ⟨rfl, rfl⟩
  rw [← hf]
  repeat' (first | refine S1 ?_ | refine SD ?_ | refine SA (fun _ => ?_) | refine WL.g_split rfl rfl (fun hc => ?_) (fun hc => ?_) | refine WD.g_split rfl rfl (fun hc => ?_) (fun hc => ?_) | refine W.cond rfl (fun hc => ?_) (fun hc => ?_))
  · exact Fin.retW (by exact rfl) resA (fun _ h => h) ⟨by
      simp at hc
      have e : (IntKind.u32.wrap ↑(BitVec.ofInt IntKind.u32.bits (if IntKind.u32.signed = true then -1 else IntKind.u32.max) ^^^ BitVec.ofInt IntKind.u32.bits (IntKind.u32.wrap 0)).toNat).fdiv (2 ^ min (Int.toNat 1) IntKind.u32.bits) = 2147483647 := by decide
      rw [e]
      simp [tup, hc]
      omega, rfl⟩
  · exact Fin.retW (by exact rfl) resA (fun _ h => h) ⟨by
      simp at hc
      simp [tup, hc], rfl⟩
theorem in_tr (F : Nat → Option Obj) (y b : Int) : Tr Tryz.prog 79 [.int .u32 y, .int .u32 b, .int .i64 4096].toArray F [] (fun v H => v = .bool (inW (far b y)) ∧ H = []) := by
  refine Tr.enter Tryz.func79 rfl Tryz.ntmps79 rfl (fun w0 => ?_)
  have hf := far_int b y
  have hl := far_lt b y
  repeat' (first | refine S1 ?_ | refine SD ?_ | refine SA (fun _ => ?_) | refine WL.g_split rfl rfl (fun hc => ?_) (fun hc => ?_) | refine WD.g_split rfl rfl (fun hc => ?_) (fun hc => ?_) | refine W.cond rfl (fun hc => ?_) (fun hc => ?_))
  refine WL.e rfl (Ef.callR (by exact rfl) (.nil _) (ahead_tr _ b y)) ?_
  rintro _ _ ⟨rfl, rfl⟩
  rw [← hf]
  have e1 : IntKind.u64.wrap ((far b y : Nat) : Int) = far b y := by simp [IntKind.wrap, IntKind.bits, IntKind.signed]; omega
  have e2 : IntKind.u64.wrap (4096 : Int) = 4096 := by decide
  repeat' (first | refine S1 ?_ | refine SD ?_ | refine SA (fun _ => ?_) | refine WL.g_split rfl rfl (fun hc => ?_) (fun hc => ?_) | refine WD.g_split rfl rfl (fun hc => ?_) (fun hc => ?_) | refine W.cond rfl (fun hc => ?_) (fun hc => ?_))
  · exact Fin.retW (by exact rfl) resA (fun _ h => h) ⟨by
      rw [e1, e2]
      simp at hc
      simp [tup, inW, hc]
      omega, rfl⟩
  · exact Fin.retW (by exact rfl) resA (fun _ h => h) ⟨by
      simp at hc
      simp [tup, inW, hc], rfl⟩
theorem may_tr (F : Nat → Option Obj) (s : SM) (y : Int) : Tr Tryz.prog 103 [.pointer (some ⟨s.R, 0, none⟩), .int .u32 y].toArray F s.H (fun v H => v = .bool (inW (far s.base y)) ∧ H = s.H) := by
  refine Tr.enter Tryz.func103 rfl Tryz.ntmps103 rfl (fun w0 => ?_)
  unfold SM.H
  repeat' (first | refine S1 ?_ | refine SD ?_ | refine SA (fun _ => ?_) | refine WL.g_split rfl rfl (fun hc => ?_) (fun hc => ?_) | refine WD.g_split rfl rfl (fun hc => ?_) (fun hc => ?_) | refine W.cond rfl (fun hc => ?_) (fun hc => ?_))
  refine WL.e rfl (Ef.callR (by exact rfl) (.nil _) (in_tr _ y s.base)) ?_
  rintro _ _ ⟨rfl, rfl⟩
  repeat' (first | refine S1 ?_ | refine SD ?_ | refine SA (fun _ => ?_) | refine WL.g_split rfl rfl (fun hc => ?_) (fun hc => ?_) | refine WD.g_split rfl rfl (fun hc => ?_) (fun hc => ?_) | refine W.cond rfl (fun hc => ?_) (fun hc => ?_))
  exact Fin.retW (by exact rfl) resA (fun _ h => h) ⟨rfl, rfl⟩
theorem base_tr (F : Nat → Option Obj) (s : SM) : Tr Tryz.prog 72 [.pointer (some ⟨s.R, 0, none⟩)].toArray F s.H (fun v H => v = .int .u32 s.base ∧ H = s.H) := by
  refine Tr.enter Tryz.func72 rfl Tryz.ntmps72 rfl (fun w0 => ?_)
  unfold SM.H
  repeat' (first | refine S1 ?_ | refine SD ?_ | refine SA (fun _ => ?_) | refine WL.g_split rfl rfl (fun hc => ?_) (fun hc => ?_) | refine WD.g_split rfl rfl (fun hc => ?_) (fun hc => ?_) | refine W.cond rfl (fun hc => ?_) (fun hc => ?_))
  exact Fin.retW (by exact rfl) resA (fun _ h => h) ⟨rfl, rfl⟩
theorem has_tr (F : Nat → Option Obj) (s : SM) (hs : s.ok) (y : Int) (hy : 0 ≤ y ∧ y < 4294967296) : Tr Tryz.prog 80 [.pointer (some ⟨s.R, 0, none⟩), .int .u32 y].toArray F s.H (fun v H => v = .bool (Spn.has s.S y) ∧ H = s.H) := by
  refine Tr.enter Tryz.func80 rfl Tryz.ntmps80 rfl (fun w0 => ?_)
  have hp := SM.S_p hs.base hy
  repeat' (first | refine S1 ?_ | refine SD ?_ | refine SA (fun _ => ?_) | refine WL.g_split rfl rfl (fun hc => ?_) (fun hc => ?_) | refine WD.g_split rfl rfl (fun hc => ?_) (fun hc => ?_) | refine W.cond rfl (fun hc => ?_) (fun hc => ?_))
  refine WL.e rfl (Ef.callR (by exact rfl) (.all _) (may_tr _ s y)) ?_
  rintro _ _ ⟨rfl, rfl⟩
  repeat' (first | refine S1 ?_ | refine SD ?_ | refine SA (fun _ => ?_) | refine WL.g_split rfl rfl (fun hc => ?_) (fun hc => ?_) | refine WD.g_split rfl rfl (fun hc => ?_) (fun hc => ?_) | refine W.cond rfl (fun hc => ?_) (fun hc => ?_))
  · exact Fin.retW (by exact rfl) resA (fun _ h => h) ⟨by
      have h1 : inW (far s.S.b y) = false := by simpa [SM.S] using hc
      simp [tup, Spn.has, h1], rfl⟩
  · have h1 : inW (far s.base y) = true := by simpa using hc
    have e : Spn.has s.S y = s.isIn y := by
      unfold Spn.has
      rw [show s.S.b = s.base from rfl, hp, h1]
      simp
    rw [e]
    unfold SM.H
    repeat' (first | refine S1 ?_ | refine SD ?_ | refine SA (fun _ => ?_) | refine WL.g_split rfl rfl (fun hc => ?_) (fun hc => ?_) | refine WD.g_split rfl rfl (fun hc => ?_) (fun hc => ?_) | refine W.cond rfl (fun hc => ?_) (fun hc => ?_))
    cases hin : s.isIn y with
    | true =>
      refine WL.s rfl (Rd.lk2_some (v := .agg ([] : List Value).toArray) rfl rfl (by repeat (first | exact MapAt.here | apply MapAt.there | apply MapAt.right)) (keysOk_se _) (by rw [mfind_se]; unfold SM.isIn at hin; rw [hin]; rfl)) ?_
      repeat' (first | refine S1 ?_ | refine SD ?_ | refine SA (fun _ => ?_) | refine WL.g_split rfl rfl (fun hc => ?_) (fun hc => ?_) | refine WD.g_split rfl rfl (fun hc => ?_) (fun hc => ?_) | refine W.cond rfl (fun hc => ?_) (fun hc => ?_))
      exact Fin.retW (by exact rfl) resA (fun _ h => h.sublist (.cons _ (.refl _))) ⟨rfl, rfl⟩
    | false =>
      refine WL.s rfl (Rd.lk2_none rfl rfl (by repeat (first | exact MapAt.here | apply MapAt.there | apply MapAt.right)) (keysOk_se _) (by rw [mfind_se]; unfold SM.isIn at hin; rw [hin]; rfl)) ?_
      repeat' (first | refine S1 ?_ | refine SD ?_ | refine SA (fun _ => ?_) | refine WL.g_split rfl rfl (fun hc => ?_) (fun hc => ?_) | refine WD.g_split rfl rfl (fun hc => ?_) (fun hc => ?_) | refine W.cond rfl (fun hc => ?_) (fun hc => ?_))
      exact Fin.retW (by exact rfl) resA (fun _ h => h.sublist (.cons _ (.refl _))) ⟨rfl, rfl⟩
end Go.Proofs.YthjglhdjlmjffaaGreat
