/- The document's map of TSNs, in memory, and its methods but 'Report', walked: they answer as the plain functions do. Conditions: it is well formed; TSNs are 32 bits wide. -/
import Derived.Test.YthjglhdjlmjffaaGreatTsS
import Derived.Test.YthjglhdjlmjffaaGreatBa
namespace Go.Proofs.YthjglhdjlmjffaaGreat
open Go Go.Sl Go.Spn

structure XM where
  R : Nat
  b : Int
  cs : List Value
  da : Option Addr
  dn : Nat
  dc : Nat
  db : HL
  ds : List Int
def XB (R : Nat) (b : Int) (cs : List Value) (sl : Value) : HL := [(R, .cells (.int .u32 b :: (cs ++ [sl])).toArray 114 (0, 0))]
def XM.H (x : XM) : HL := XB x.R x.b x.cs (.slice x.da x.dn x.dc) ++ x.db
def bitAt (cs : List Value) (d : Nat) : Bool := match cs[d]? with | some (.bool x) => x | _ => false
def XM.S (x : XM) : Spn.S := ⟨x.b, bitAt x.cs⟩
def bitsOk (cs : List Value) : Prop := cs.length = 4098 ∧ (∀ v ∈ cs, ∃ x, v = .bool x) ∧ bitAt cs 0 = false ∧ bitAt cs 4097 = false
structure XM.ok (x : XM) : Prop where
  bits : bitsOk x.cs
  base : 0 ≤ x.b ∧ x.b < 4294967296
  own : OwnS 24 1 (x.ds.map (Value.int .u32)) (.slice x.da x.dn x.dc) x.db
  few : x.ds.length ≤ 64
theorem XM.ok.len {x : XM} (h : x.ok) : x.ds.length = x.dn := by have := h.own.len; simp at this; exact this
theorem bit_out {cs : List Value} (h : bitsOk cs) {d : Nat} (hd : 4096 < d) : bitAt cs d = false := by
  rcases Nat.lt_or_ge d 4098 with h1 | h1
  · rw [show d = 4097 by omega]; exact h.2.2.2
  · unfold bitAt; rw [List.getElem?_eq_none (by rw [h.1]; omega)]
theorem bits_S {b : Int} (hb : 0 ≤ b ∧ b < 4294967296) {cs : List Value} (h : bitsOk cs) : Spn.S.ok ⟨b, bitAt cs⟩ := ⟨hb, fun d hd => by
  dsimp only at hd
  rcases Nat.eq_zero_or_pos d with rfl | h0
  · rw [h.2.2.1] at hd; cases hd
  · refine ⟨h0, ?_⟩
    rcases Nat.lt_or_ge 4096 d with h1 | h1
    · rw [bit_out h h1] at hd; cases hd
    · exact h1⟩
theorem XM.ok.S {x : XM} (h : x.ok) : x.S.ok := bits_S h.base h.bits
theorem bit_get {cs : List Value} (h : bitsOk cs) (b sl : Value) {k : Nat} (hk : k ≤ 4097) : (b :: (cs ++ [sl]))[0 + 1 + ((k : Nat) : Int).toNat * 1]? = some (.bool (bitAt cs k)) := by
  have hlt : k < cs.length := by rw [h.1]; omega
  rw [show 0 + 1 + ((k : Nat) : Int).toNat * 1 = k + 1 by omega, List.getElem?_cons_succ, List.getElem?_append_left hlt]
  obtain ⟨x, hx⟩ := h.2.1 _ (List.getElem_mem hlt)
  unfold bitAt
  rw [List.getElem?_eq_getElem hlt, hx]
theorem bit_put {cs : List Value} (h : bitsOk cs) (b sl : Value) (v : Bool) {k : Nat} (hk : k ≤ 4097) : spliceK (b :: (cs ++ [sl])) (0 + 1 + ((k : Nat) : Int).toNat * 1) [.bool v] some = some (b :: (cs.set k (.bool v) ++ [sl])) := by
  have hlt : k < cs.length := by rw [h.1]; omega
  rw [spliceK_eq, show 0 + 1 + ((k : Nat) : Int).toNat * 1 = k + 1 by omega, if_pos (by simp; omega), List.set_eq_take_append_cons_drop, if_pos hlt]
  have e1 : (cs ++ [sl]).take k = cs.take k := List.take_append_of_le_length (by omega)
  have e2 : (cs ++ [sl]).drop (k + 1) = cs.drop (k + 1) ++ [sl] := List.drop_append_of_le_length (by omega)
  simp [e1, e2]
theorem sl_get {cs : List Value} (h : bitsOk cs) (b sl : Value) : (b :: (cs ++ [sl]))[0 + 4099]? = some sl := by
  rw [show 0 + 4099 = 4098 + 1 by omega, List.getElem?_cons_succ, List.getElem?_append_right (by rw [h.1]; exact Nat.le_refl _), h.1]
  rfl
theorem sl_put {cs : List Value} (h : bitsOk cs) (b sl v : Value) : spliceK (b :: (cs ++ [sl])) (0 + 4099) [v] some = some (b :: (cs ++ [v])) := by
  have hl := h.1
  rw [spliceK_eq, if_pos (by simp; omega)]
  have e1 : (b :: (cs ++ [sl])).take (0 + 4099) = b :: cs := by
    rw [show 0 + 4099 = 4098 + 1 by omega, List.take_succ_cons, ← hl, List.take_left']
    rfl
  have e2 : (b :: (cs ++ [sl])).drop (0 + 4099 + [v].length) = [] := List.drop_eq_nil_of_le (by simp; omega)
  rw [e1, e2]
  simp
theorem b_put (b v : Value) (cs : List Value) (sl : Value) : spliceK (b :: (cs ++ [sl])) (0 + 0) [v] some = some (v :: (cs ++ [sl])) := by rw [spliceK_eq, if_pos (by simp)]; simp
theorem bit_set {cs : List Value} (h : bitsOk cs) (v : Bool) {k : Nat} (hk : k ≤ 4097) (d : Nat) : bitAt (cs.set k (.bool v)) d = if d = k then v else bitAt cs d := by
  have hlt : k < cs.length := by rw [h.1]; omega
  unfold bitAt
  by_cases hd : d = k
  · subst hd; rw [if_pos rfl, List.getElem?_set_self hlt]
  · rw [if_neg hd, List.getElem?_set_ne (Ne.symm hd)]
theorem bits_set {cs : List Value} (h : bitsOk cs) (v : Bool) {k : Nat} (hk : 1 ≤ k ∧ k ≤ 4096) : bitsOk (cs.set k (.bool v)) := by
  refine ⟨by simpa using h.1, fun u hu => ?_, ?_, ?_⟩
  · rcases List.mem_or_eq_of_mem_set hu with hu | rfl
    · exact h.2.1 u hu
    · exact ⟨v, rfl⟩
  · rw [bit_set h v (by omega), if_neg (by omega)]; exact h.2.2.1
  · rw [bit_set h v (by omega), if_neg (by omega)]; exact h.2.2.2
theorem bits_none : bitsOk (List.replicate 4098 (Value.bool false)) ∧ bitAt (List.replicate 4098 (Value.bool false)) = fun _ => false := by
  have h2 : bitAt (List.replicate 4098 (Value.bool false)) = fun _ => false := funext (fun d => by
    unfold bitAt
    rw [List.getElem?_replicate]
    by_cases hd : d < 4098
    · rw [if_pos hd]
    · rw [if_neg hd])
  exact ⟨⟨List.length_replicate, fun v hv => ⟨false, (List.mem_replicate.1 hv).2⟩, by rw [h2], by rw [h2]⟩, h2⟩

set_option maxRecDepth 40000 in
theorem xbegin_tr (F : Nat → Option Obj) (first : Int) : Tr Tryz.prog 32 [.int .u32 first].toArray F [] (fun v H => ∃ x : XM, x.ok ∧ H = x.H ∧ v = .pointer (some ⟨x.R, 0, none⟩) ∧ x.S = ⟨u32 (first - 1), fun _ => false⟩ ∧ x.ds = []) := by
  refine Tr.enter Tryz.func32 rfl Tryz.ntmps32 rfl (fun w0 => ?_)
  repeat' (first | refine S1 ?_ | refine SD ?_ | refine SA (fun _ => ?_) | refine WL.g_split rfl rfl (fun hc => ?_) (fun hc => ?_) | refine WD.g_split rfl rfl (fun hc => ?_) (fun hc => ?_) | refine W.cond rfl (fun hc => ?_) (fun hc => ?_))
  rename_i b
  exact Fin.retW (by exact rfl) resA (fun _ h => h) ⟨⟨b, u32 (first - 1), List.replicate 4098 (.bool false), none, 0, 0, [], []⟩, ⟨bits_none.1, u32_rng _, .inl ⟨rfl, rfl, rfl⟩, Nat.zero_le _⟩, rfl, rfl, by unfold XM.S; dsimp only; rw [bits_none.2], rfl⟩
set_option maxRecDepth 40000 in
theorem xcum_tr (F : Nat → Option Obj) (x : XM) : Tr Tryz.prog 33 [.pointer (some ⟨x.R, 0, none⟩)].toArray F x.H (fun v H => v = .int .u32 x.b ∧ H = x.H) := by
  refine Tr.enter Tryz.func33 rfl Tryz.ntmps33 rfl (fun w0 => ?_)
  unfold XM.H XB
  repeat' (first | refine S1 ?_ | refine SD ?_ | refine SA (fun _ => ?_) | refine WL.g_split rfl rfl (fun hc => ?_) (fun hc => ?_) | refine WD.g_split rfl rfl (fun hc => ?_) (fun hc => ?_) | refine W.cond rfl (fun hc => ?_) (fun hc => ?_))
  exact Fin.retW (by exact rfl) resA (fun _ h => h) ⟨rfl, rfl⟩
set_option maxRecDepth 40000 in
theorem xlook_tr (F : Nat → Option Obj) (x : XM) (hx : x.ok) (y : Int) (hy : 0 ≤ y ∧ y < 4294967296) : Tr Tryz.prog 61 [.pointer (some ⟨x.R, 0, none⟩), .int .u32 y].toArray F x.H (fun v H => v = .int .i64 (Spn.look x.S y) ∧ H = x.H) := by
  refine Tr.enter Tryz.func61 rfl Tryz.ntmps61 rfl (fun w0 => ?_)
  have hf : IntKind.u32.wrap (y - x.b) = ((far x.b y : Nat) : Int) := (far_int _ _).symm
  have hfl := far_lt x.b y
  have l0 : (1 ≤ far x.b y ∧ far x.b y ≤ 4096) → bitAt x.cs (far x.b y) = false → Spn.look x.S y = 0 := fun h1 h2 => look0 (s := x.S) h1 h2
  have l1 : (1 ≤ far x.b y ∧ far x.b y ≤ 4096) → bitAt x.cs (far x.b y) = true → Spn.look x.S y = 1 := fun h1 h2 => look1 (s := x.S) h1 h2
  have l2 : (4096 < far x.b y ∧ far x.b y ≤ 2147483647) → Spn.look x.S y = 2 := fun h1 => look2 (s := x.S) h1
  have l3 : (far x.b y = 0 ∨ 2147483647 < far x.b y) → Spn.look x.S y = 1 := fun h1 => look3 (s := x.S) h1
  generalize far x.b y = d at hf hfl l0 l1 l2 l3
  unfold XM.H XB
  repeat' (first | refine S1 ?_ | refine SD ?_ | refine SA (fun _ => ?_) | refine WL.g_split rfl rfl (fun hc => ?_) (fun hc => ?_) | refine WD.g_split rfl rfl (fun hc => ?_) (fun hc => ?_) | refine W.cond rfl (fun hc => ?_) (fun hc => ?_))
  · have h1 := of_decide_eq_true (by assumption : decide (IntKind.u32.wrap (y - x.b) ≥ 1) = true)
    have h2 := of_decide_eq_true hc
    rw [hf] at h1 h2
    refine WL.p rfl (Pu.iaA rfl rfl (by rw [hf]; omega)) ?_
    have hcell : (Value.int .u32 x.b :: (x.cs ++ [.slice x.da x.dn x.dc]))[0 + 1 + (IntKind.u32.wrap (y - x.b)).toNat * 1]? = some (.bool (bitAt x.cs d)) := by rw [hf]; exact bit_get hx.bits (.int .u32 x.b) (.slice x.da x.dn x.dc) (k := d) (by omega)
    have d1 : ¬ (decide (IntKind.u32.wrap (y - x.b) > 4096) = true) := by rw [hf]; simp; omega
    repeat' (first | refine S1 ?_ | refine SD ?_ | refine SA (fun _ => ?_) | refine WL.g_split rfl rfl (fun hc => ?_) (fun hc => ?_) | refine WD.g_split rfl rfl (fun hc => ?_) (fun hc => ?_) | refine W.cond rfl (fun hc => ?_) (fun hc => ?_))
    all_goals try contradiction
    · exact Fin.retW (by exact rfl) resA (fun _ h => h) ⟨by rw [l0 (by omega) (by simpa using hc)]; rfl, rfl⟩
    · exact Fin.retW (by exact rfl) resA (fun _ h => h) ⟨by
        rw [l1 (by omega) (by have := (by assumption : (!bitAt x.cs d) = false); simpa using this)]; rfl, rfl⟩
  all_goals
    refine Fin.retW (by exact rfl) resA (fun _ h => h) ⟨?_, rfl⟩
    simp only [hf] at *
    simp only [decide_eq_true_eq, decide_eq_false_iff_not] at *
    first
      | (exfalso; omega)
      | (rw [l2 (by omega)]; rfl)
      | (rw [l3 (by omega)]; rfl)
structure On1 where
  i : Nat
  cs : List Value
structure On3 where
  j : Nat
  b : Int
  cs : List Value
set_option maxRecDepth 40000 in
set_option maxHeartbeats 4000000 in
theorem xon_tr (F : Nat → Option Obj) (R : Nat) (b : Int) (hb : 0 ≤ b ∧ b < 4294967296) (cs : List Value) (hcs : bitsOk cs) (sl : Value) (k : Nat) (hk : 1 ≤ k ∧ k ≤ 4096) :
    Tr Tryz.prog 86 [.pointer (some ⟨R, 0, none⟩), .int .i64 k].toArray F (XB R b cs sl) (fun _ H => ∃ b' cs', bitsOk cs' ∧ H = XB R b' cs' sl ∧ (⟨b', bitAt cs'⟩ : Spn.S) = Spn.shift ⟨b, bitAt cs⟩ (goN ⟨b, bitAt cs⟩ k)) := by
  refine Tr.enter Tryz.func86 rfl Tryz.ntmps86 rfl (fun w0 => ?_)
  obtain ⟨s, hs⟩ : ∃ s : Spn.S, (⟨b, bitAt cs⟩ : Spn.S) = s := ⟨_, rfl⟩
  have hsok : s.ok := by rw [← hs]; exact bits_S hb hcs
  obtain ⟨T, hT⟩ : ∃ T, goN s k = T := ⟨_, rfl⟩
  have hTk : k ≤ T := by rw [← hT]; exact goN_ge s k
  have hT4 : T ≤ 4096 := by rw [← hT]; exact goN_le hsok hk.2
  rw [hs, hT]
  refine W.block ?_
  refine W.loop (G := On3) (fun g => [(0, .pointer (some ⟨R, 0, none⟩)), (1, .int .i64 (kv k T g.j))]) (fun g => XB R g.b g.cs sl) (fun g => g.j ≤ T ∧ bitsOk g.cs ∧ (⟨g.b, bitAt g.cs⟩ : Spn.S) = Spn.shift s g.j) (fun g => T - g.j)
    ⟨0, b, cs⟩ ⟨Nat.zero_le _, hcs, by dsimp only; rw [hs, shift_zero hsok]⟩ (by dsimp only; unfold kv; rw [if_pos (by omega), Nat.sub_zero]; exact envA) (fun _ h => h) ?_
  rintro ⟨j, b1, cs1⟩ ⟨hj, hc1, hS1⟩
  dsimp only at hj hc1 hS1 ⊢
  have hkp := kv_pos (j := j) hTk
  have hkl : kv k T j ≤ 4096 := by unfold kv; split <;> (try split) <;> omega
  obtain ⟨q, hq⟩ : ∃ q, kv k T j = q := ⟨_, rfl⟩
  rw [hq] at hkp hkl ⊢
  unfold XB
  repeat' (first | refine S1 ?_ | refine SD ?_ | refine SA (fun _ => ?_) | refine WL.g_split rfl rfl (fun hc => ?_) (fun hc => ?_) | refine WD.g_split rfl rfl (fun hc => ?_) (fun hc => ?_) | refine W.cond rfl (fun hc => ?_) (fun hc => ?_))
  · have hjT : j < T := hkp.1 (by have := of_decide_eq_true hc; omega)
    refine WL.e0A ?_ (Ef.st rfl rfl rfl (.here (b_put _ _ _ _)))
    repeat' (first | refine S1 ?_ | refine SD ?_ | refine SA (fun _ => ?_) | refine WL.g_split rfl rfl (fun hc => ?_) (fun hc => ?_) | refine WD.g_split rfl rfl (fun hc => ?_) (fun hc => ?_) | refine W.cond rfl (fun hc => ?_) (fun hc => ?_))
    refine W.loop (G := On1) (fun g => [(0, .pointer (some ⟨R, 0, none⟩)), (1, .int .i64 q), (4, .int .i64 g.i)]) (fun g => XB R (IntKind.u32.wrap (b1 + 1)) g.cs sl) (fun g => (1 ≤ g.i ∧ g.i ≤ 4096) ∧ bitsOk g.cs ∧ ∀ d, bitAt g.cs d = if 1 ≤ d ∧ d < g.i then bitAt cs1 (d + 1) else bitAt cs1 d) (fun g => 4096 - g.i)
      ⟨1, cs1⟩ ⟨⟨Nat.le_refl _, by dsimp only; omega⟩, hc1, fun d => by dsimp only; rw [if_neg (by omega)]⟩ envA (fun _ h => h) ?_
    rintro ⟨i, cs2⟩ ⟨hi, hc2, hbit⟩
    dsimp only at hi hc2 hbit ⊢
    unfold XB
    repeat' (first | refine S1 ?_ | refine SD ?_ | refine SA (fun _ => ?_) | refine WL.g_split rfl rfl (fun hc => ?_) (fun hc => ?_) | refine WD.g_split rfl rfl (fun hc => ?_) (fun hc => ?_) | refine W.cond rfl (fun hc => ?_) (fun hc => ?_))
    · have hi' : i < 4096 := by have := of_decide_eq_true (by assumption : decide ((i : Int) < 4096) = true); omega
      rw [i64_succ (by omega)]
      refine WD.p rfl (Pu.iaA rfl rfl (by omega)) ?_
      have hcell := bit_get hc2 (.int .u32 (IntKind.u32.wrap (b1 + 1))) sl (k := i + 1) (by omega)
      rw [hbit, if_neg (by omega)] at hcell
      repeat' (first | refine S1 ?_ | refine SD ?_ | refine SA (fun _ => ?_) | refine WL.g_split rfl rfl (fun hc => ?_) (fun hc => ?_) | refine WD.g_split rfl rfl (fun hc => ?_) (fun hc => ?_) | refine W.cond rfl (fun hc => ?_) (fun hc => ?_))
      refine WD.p rfl (Pu.iaA rfl rfl (by omega)) ?_
      have hput := bit_put hc2 (.int .u32 (IntKind.u32.wrap (b1 + 1))) sl (bitAt cs1 (i + 1)) (k := i) (by omega)
      repeat' (first | refine S1 ?_ | refine SD ?_ | refine SA (fun _ => ?_) | refine WL.g_split rfl rfl (fun hc => ?_) (fun hc => ?_) | refine WD.g_split rfl rfl (fun hc => ?_) (fun hc => ?_) | refine W.cond rfl (fun hc => ?_) (fun hc => ?_))
      refine Fin.round ⟨i + 1, cs2.set i (.bool (bitAt cs1 (i + 1)))⟩ ⟨by dsimp only; omega, bits_set hc2 _ (by omega), fun d => ?_⟩ (by dsimp only; rw [← i64_succ (i := i) (by omega)]; exact envA) (fun _ h => h) (by dsimp only; omega)
      dsimp only
      rw [bit_set hc2 _ (by omega), hbit]
      by_cases hd : d = i
      · subst hd; rw [if_pos rfl, if_pos (by omega)]
      · rw [if_neg hd]
        by_cases hd2 : 1 ≤ d ∧ d < i
        · rw [if_pos hd2, if_pos (by omega)]
        · rw [if_neg hd2, if_neg (by omega)]
    have hi' : i = 4096 := by have := of_decide_eq_false hc; omega
    subst hi'
    refine WL.p rfl (Pu.iaA rfl rfl (by decide)) ?_
    have hput : spliceK (.int .u32 (IntKind.u32.wrap (b1 + 1)) :: (cs2 ++ [sl])) (0 + 1 + (4096 : Int).toNat * 1) [.bool false] some = some (.int .u32 (IntKind.u32.wrap (b1 + 1)) :: (cs2.set 4096 (.bool false) ++ [sl])) := bit_put hc2 (.int .u32 (IntKind.u32.wrap (b1 + 1))) sl false (k := 4096) (by omega)
    obtain ⟨cs3, hcs3⟩ : ∃ cs3, cs2.set 4096 (Value.bool false) = cs3 := ⟨_, rfl⟩
    have hc3 : bitsOk cs3 := by rw [← hcs3]; exact bits_set hc2 _ (by omega)
    have hbit3 : ∀ d, bitAt cs3 d = (inW d && bitAt cs1 (d + 1)) := fun d => by
      rw [← hcs3, bit_set hc2 _ (by omega), hbit]
      by_cases hd : d = 4096
      · subst hd; rw [if_pos rfl, bit_out hc1 (by omega), Bool.and_false]
      · rw [if_neg hd]
        by_cases hd2 : 1 ≤ d ∧ d < 4096
        · rw [if_pos hd2, inW_iff.2 (by omega)]; rfl
        · rw [if_neg hd2]
          have h0 : inW d = false := by
            cases h : inW d with
            | false => rfl
            | true => have := inW_iff.1 h; omega
          rw [h0]
          rcases Nat.eq_zero_or_pos d with rfl | h1
          · rw [hc1.2.2.1]; rfl
          · rw [bit_out hc1 (by omega)]; rfl
    rw [hcs3] at hput
    have hS3 : (⟨IntKind.u32.wrap (b1 + 1), bitAt cs3⟩ : Spn.S) = Spn.shift s (j + 1) := by
      rw [← shift_shift hsok, ← hS1]
      exact S.ext rfl hbit3
    have hq0 : 1 ≤ q := by omega
    have hcell1 : (Value.int .u32 (IntKind.u32.wrap (b1 + 1)) :: (cs3 ++ [sl]))[0 + 1 + (1 : Int).toNat * 1]? = some (.bool (bitAt cs3 1)) := bit_get hc3 (.int .u32 (IntKind.u32.wrap (b1 + 1))) sl (k := 1) (by omega)
    have hp1 : bitAt cs3 1 = s.p (j + 2) := by
      have := congrArg (fun t : Spn.S => t.p 1) hS3
      dsimp only at this
      rw [this, shift_p1 hsok (by omega)]
    repeat' (first | refine S1 ?_ | refine SD ?_ | refine SA (fun _ => ?_) | refine WL.g_split rfl rfl (fun hc => ?_) (fun hc => ?_) | refine WD.g_split rfl rfl (fun hc => ?_) (fun hc => ?_) | refine W.cond rfl (fun hc => ?_) (fun hc => ?_))
    · have h0 : q - 1 = 0 := by have h := (by simpa using hc : IntKind.i64.wrap ((q : Int) - 1) = 0); rw [i64_id (by omega) (by omega)] at h; omega
      have hlast := kv_last (j := j) hTk hjT (by rw [hq]; exact h0)
      have hiff := goN_iff hsok (k := k) (j := j + 1) hk.2 hlast.1 (by omega)
      rw [hT] at hiff
      refine WL.p rfl (Pu.iaA rfl rfl (by decide)) ?_
      repeat' (first | refine S1 ?_ | refine SD ?_ | refine SA (fun _ => ?_) | refine WL.g_split rfl rfl (fun hc => ?_) (fun hc => ?_) | refine WD.g_split rfl rfl (fun hc => ?_) (fun hc => ?_) | refine W.cond rfl (fun hc => ?_) (fun hc => ?_))
      · rw [hp1] at hc
        have : j + 1 < T := hiff.1 hc
        refine Fin.round ⟨j + 1, IntKind.u32.wrap (b1 + 1), cs3⟩ ⟨by dsimp only; omega, hc3, hS3⟩ (by dsimp only; rw [hlast.2, if_pos this]; exact envA) (fun _ h => h) (by dsimp only; omega)
      · rw [hp1] at hc
        have : ¬ j + 1 < T := fun h => by have := hiff.2 h; rw [hc] at this; cases this
        refine Fin.round ⟨j + 1, IntKind.u32.wrap (b1 + 1), cs3⟩ ⟨by dsimp only; omega, hc3, hS3⟩ (by
          dsimp only
          rw [hlast.2, if_neg this, show IntKind.i64.wrap ((q : Int) - 1) = ((0 : Nat) : Int) by rw [i64_id (by omega) (by omega)]; omega]
          exact envA) (fun _ h => h) (by dsimp only; omega)
    · have h0 : q - 1 ≠ 0 := by
        intro h
        have h1 : ¬ IntKind.i64.wrap ((q : Int) - 1) = 0 := by simpa using hc
        rw [i64_id (by omega) (by omega)] at h1
        omega
      have hmore := kv_more (j := j) hTk hjT (by rw [hq]; exact h0)
      refine Fin.round ⟨j + 1, IntKind.u32.wrap (b1 + 1), cs3⟩ ⟨by dsimp only; omega, hc3, hS3⟩ (by
          dsimp only
          rw [hmore, hq, show IntKind.i64.wrap ((q : Int) - 1) = ((q - 1 : Nat) : Int) by rw [i64_id (by omega) (by omega)]; omega]
          exact envA) (fun _ h => h) (by dsimp only; omega)
  · have hjT : j = T := by
      have h1 := of_decide_eq_false hc
      rcases Nat.lt_or_ge j T with h | h
      · have := hkp.2 h; omega
      · omega
    exact Fin.endW (by exact rfl) resA (fun _ h => h) ⟨b1, cs1, hc1, rfl, by rw [hS1, hjT]⟩
end Go.Proofs.YthjglhdjlmjffaaGreat
