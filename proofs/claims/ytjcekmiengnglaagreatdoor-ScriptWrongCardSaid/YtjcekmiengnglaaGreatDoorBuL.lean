/- Some texts as one. What the logic's rules ask of this translation lies in Ty. No conditions. The document's line of a config, idle lines, how much a statement plays, and texts laid out of events, walked. Conditions: the events lie in memory; lengths within bounds. A text laid out of a config and events, walked. Conditions: the events lie in memory; lengths within bounds. The arguments of chapter 28's laws: events and configs, as they lie in memory. No conditions. -/
import Derived.Test.YtjcekmiengnglaaGreatDoorTy
import Derived.Test.YtjcekmiengnglaaGreatDoorStX
import Derived.Test.YtjcekmiengnglaaGreatDoorStQ
import Derived.Test.YtjcekmiengnglaaGreatDoorBuJ
import Derived.Test.YtjcekmiengnglaaGreatDoorSuC
import Derived.Test.YtjcekmiengnglaaGreatDoorBuI

namespace Go.Proofs.YtjcekmiengnglaaGreatDoor
open Go Go.Sl Go.Scr

structure HdG where
  i : Nat
theorem heads_take {c : List Int} {i : Nat} {x : Int} (h : c[i]? = some x) : join 32 (endsW :: (c.take (i + 1)).map num) = join 32 (endsW :: (c.take i).map num) ++ [32] ++ num x := by
  rw [List.take_add_one, h]
  simp only [Option.toList_some, List.map_append, List.map_cons, List.map_nil]
  rw [← List.cons_append, join_snoc 32 (endsW :: (c.take i).map num) (num x) (by simp)]
set_option maxHeartbeats 8000000 in
theorem rhead_tr (F : Nat → Option Obj) (c : List Int) (hc : c.length = 14) (hi : ∀ x ∈ c, I64 x) : Tr Tryz.prog 13 [.agg (ccells c).toArray].toArray F [] (fun v H' => v = S (head c) ∧ H' = []) := by
  refine Tr.enter Tryz.func13 rfl Tryz.ntmps13 rfl (fun w0 => ?_)
  have hlen : ∀ i, (join 32 (endsW :: (c.take i).map num)).length ≤ 345 := fun i => by
    have h1 : ∀ w ∈ endsW :: (c.take i).map num, w.length ≤ 22 := by
      intro w hw
      rcases List.mem_cons.1 hw with rfl | hw
      · decide
      · obtain ⟨x, hx, rfl⟩ := List.mem_map.1 hw
        have := num_len (hi x (List.mem_of_mem_take hx))
        omega
    have h2 := jlen 32 _ _ h1
    simp only [List.length_cons, List.length_map, List.length_take, hc] at h2
    omega
  obtain ⟨a0, a1, a2, a3, a4, a5, a6, a7, a8, a9, a10, a11, a12, a13, hcl⟩ := list14 hc
  obtain ⟨cs, hcs⟩ : ∃ cs, cs = ccells c := ⟨_, rfl⟩
  have hcs2 : cs = [.int .i64 a0, .int .i64 a1, .int .i64 a2, .int .i64 a3, .int .i64 a4, .int .i64 a5, .int .i64 a6, .int .i64 a7, .int .i64 a8, .int .i64 a9, .int .i64 a10, .int .i64 a11, .int .i64 a12, .int .i64 a13] := by rw [hcs, hcl]; rfl
  rw [← hcs, hcs2]
  repeat' (first | refine S2b ?_ | refine S3 ?_ | refine SA (fun _ => ?_) | refine G1 (fun hc => ?_) (fun hc => ?_) | refine G2 (fun hc => ?_) (fun hc => ?_) | refine G3 (fun hc => ?_) (fun hc => ?_) | refine SL ?_ | fail)
  rename_i b1
  refine WL.e rfl (Ef.bsN (n := 14) (r := [.int .i64 a0, .int .i64 a1, .int .i64 a2, .int .i64 a3, .int .i64 a4, .int .i64 a5, .int .i64 a6, .int .i64 a7, .int .i64 a8, .int .i64 a9, .int .i64 a10, .int .i64 a11, .int .i64 a12, .int .i64 a13]) (by exact rfl) (by exact rfl) (by exact rfl) (by exact rfl) rfl (by exact rfl)) ?_
  rintro _ _ ⟨g, rfl, rfl⟩
  rw [← hcs2]
  repeat' (first | refine S2b ?_ | refine S3 ?_ | refine SA (fun _ => ?_) | refine G1 (fun hc => ?_) (fun hc => ?_) | refine G2 (fun hc => ?_) (fun hc => ?_) | refine G3 (fun hc => ?_) (fun hc => ?_) | refine SL ?_ | fail)
  refine W.loop (G := HdG) (fun g' => [(3, .slice (some ⟨g, 0, none⟩) 14 14), (4, S (join 32 (endsW :: (c.take g'.i).map num))), (5, .int .i64 g'.i)]) (fun _ => (g, .cells cs.toArray 2 (0, 0)) :: [(b1, .cells cs.toArray 33 (0, 0))])
    (fun g' => g'.i ≤ 14) (fun g' => 14 - g'.i) ⟨0⟩ (Nat.zero_le _) (by
      have e : join 32 (endsW :: (c.take 0).map num) = endsW := by simp [join]
      rw [e]
      exact envA) (fun _ h => h) ?_
  rintro ⟨i⟩ hi'
  dsimp only at hi' ⊢
  have hj := hlen i
  obtain ⟨js, hjs⟩ : ∃ js, js = join 32 (endsW :: (c.take i).map num) := ⟨_, rfl⟩
  rw [← hjs] at hj ⊢
  repeat' (first | refine S2b ?_ | refine S3 ?_ | refine SA (fun _ => ?_) | refine G1 (fun hc => ?_) (fun hc => ?_) | refine G2 (fun hc => ?_) (fun hc => ?_) | refine G3 (fun hc => ?_) (fun hc => ?_) | refine SL ?_ | fail)
  · have hi2 : i < 14 := by simp at hc; omega
    clear hc
    obtain ⟨x, hx⟩ : ∃ x, c[i]? = some x := ⟨c[i]'(by omega), by simp⟩
    have hxi := hi x (List.mem_of_getElem? hx)
    have hnl := num_len hxi
    refine WL.p rfl (Pu.addS (m := strB js) (n := strB [32]) rfl rfl (by rw [strB_size, strB_size]; simp; omega)) ?_
    have e1 : strB js ++ strB [32] = strB (js ++ [32]) := strB_app _ _
    rw [e1]
    have hia : 0 ≤ (i : Int) ∧ (i : Int) < 14 := by omega
    have hC : Sl.Can F ((g, .cells cs.toArray 2 (0, 0)) :: [(b1, .cells cs.toArray 33 (0, 0))]) g (0 + (i : Int).toNat * 1) [.int .i64 x] := can_own (.head _) (by rw [Nat.zero_add, hcs, ccells, List.getElem?_map, show (i : Int).toNat * 1 = i by omega, hx]; rfl)
    repeat' (first | refine S2b ?_ | refine S3 ?_ | refine SA (fun _ => ?_) | refine G1 (fun hc => ?_) (fun hc => ?_) | refine G2 (fun hc => ?_) (fun hc => ?_) | refine G3 (fun hc => ?_) (fun hc => ?_) | refine SL ?_ | fail)
    refine WL.e rfl (Ef.lookR (by exact rfl) (fun F' hF => number_tr F' [] x hxi)) ?_
    rintro _ _ ⟨rfl, rfl⟩
    refine WL.p rfl (Pu.addS (m := strB (js ++ [32])) (n := strB (num x)) rfl rfl (by rw [strB_size, strB_size]; simp; omega)) ?_
    have e2 : Value.string (strB (js ++ [32]) ++ strB (num x)) = S (join 32 (endsW :: (c.take (i + 1)).map num)) := by
      rw [strB_app, heads_take hx, ← hjs]
      rfl
    rw [e2]
    repeat' (first | refine S2b ?_ | refine S3 ?_ | refine SA (fun _ => ?_) | refine G1 (fun hc => ?_) (fun hc => ?_) | refine G2 (fun hc => ?_) (fun hc => ?_) | refine G3 (fun hc => ?_) (fun hc => ?_) | refine SL ?_ | fail)
    rw [i64_succ (by omega)]
    exact Fin.round ⟨i + 1⟩ hi2 envA (fun _ h => h) (by dsimp only; omega)
  · have hi2 : i = 14 := by simp at hc; omega
    refine Fin.retW (by exact rfl) resA (H' := []) (fun _ h => h.sublist (List.nil_sublist _)) ⟨?_, rfl⟩
    rw [hjs, hi2, List.take_of_length_le (by omega)]
    rfl
theorem ridle_tr (F : Nat → Option Obj) (s : Str) : Tr Tryz.prog 11 [S s].toArray F [] (fun v H' => v = .bool (Scr.idle s) ∧ H' = []) := by
  refine Tr.enter Tryz.func11 rfl Tryz.ntmps11 rfl (fun w0 => ?_)
  unfold S
  cases s with
  | nil =>
    repeat' (first | refine S2b ?_ | refine S3 ?_ | refine SA (fun _ => ?_) | refine G1 (fun hc => ?_) (fun hc => ?_) | refine G2 (fun hc => ?_) (fun hc => ?_) | refine G3 (fun hc => ?_) (fun hc => ?_) | refine SL ?_ | fail)
    · exact Fin.retW (by exact rfl) resA (H' := []) (fun _ h => h.sublist (List.nil_sublist _)) ⟨rfl, rfl⟩
    · rw [show (ByteArray.mk #[]) = strB [] from rfl, eqS_bool] at hc
      cases hc
  | cons x r =>
    have hxi : ((x.toNat : Int) == 35) = Scr.idle (x :: r) := by
      show _ = decide (x = 35)
      by_cases h : x = 35
      · subst h; rfl
      · rw [decide_eq_false h]
        have : x.toNat ≠ 35 := fun e => h (UInt8.toNat.inj e)
        simp; omega
    have hne : ((strB (x :: r)).toList == (ByteArray.mk #[]).toList) = false := by
      rw [show (ByteArray.mk #[]) = strB [] from rfl, eqS_bool]
      exact decide_eq_false (by simp)
    repeat' (first | refine S2b ?_ | refine S3 ?_ | refine SA (fun _ => ?_) | refine G1 (fun hc => ?_) (fun hc => ?_) | refine G2 (fun hc => ?_) (fun hc => ?_) | refine G3 (fun hc => ?_) (fun hc => ?_) | refine SL ?_ | fail)
    · rw [hne] at hc
      cases hc
    refine WL.p rfl (Pu.ixStr (m := strB (x :: r)) (b := x) rfl rfl (by decide) (strB_get rfl)) ?_
    rw [hne]
    repeat' (first | refine S2b ?_ | refine S3 ?_ | refine SA (fun _ => ?_) | refine G1 (fun hc => ?_) (fun hc => ?_) | refine G2 (fun hc => ?_) (fun hc => ?_) | refine G3 (fun hc => ?_) (fun hc => ?_) | refine SL ?_ | fail)
    refine Fin.retW (by exact rfl) resA (H' := []) (fun _ h => h.sublist (List.nil_sublist _)) ⟨?_, rfl⟩
    rw [← hxi]
    rfl
/-- events in memory, one behind the other -/
structure EvL (F : Nat → Option Obj) (l : List Evx) (a : Option Addr) (n k : Nat) : Prop where
  lst : Lst F [] 9 (l.flatMap Evx.cells) a n k
  is : ∀ x ∈ l, x.e.Ok ∧ Lst F [] 1 (x.e.bytes.map B) x.ba x.bn x.bc
theorem EvL.n {F : Nat → Option Obj} {l : List Evx} {a : Option Addr} {n k : Nat} (h : EvL F l a n k) : n = l.length := by
  have := h.lst.len
  rw [flat_len' Evx.cells 9 (fun _ => rfl)] at this
  omega
theorem EvL.mono {F F' : Nat → Option Obj} {l : List Evx} {a : Option Addr} {n k : Nat} (h : EvL F l a n k) (hw : ∀ w, In F' [] w → In F [] w) : EvL F' l a n k := ⟨h.lst.mono hw, fun x hx => ⟨(h.is x hx).1, (h.is x hx).2.mono hw⟩⟩
/-- one of events in memory, field by field -/
theorem EvL.at {F : Nat → Option Obj} {H : HL} {l : List Evx} {a : Option Addr} {n k i : Nat} {x : Evx} (h : EvL F l a n k) (hx : l[i]? = some x) : ∃ b o, a = some ⟨b, o, none⟩ ∧ Sl.Can F H b (o + (i : Int).toNat * 9) x.cells := by
  have hlt := (List.getElem?_eq_some_iff.1 hx).1
  have hn := h.n
  obtain ⟨b, o, rfl, hcan⟩ := h.lst.can (by omega)
  have hat := flat_at Evx.cells 9 (fun _ => rfl) l i x hx
  have hsub := hcan.sub (i * 9) 9
  rw [hat] at hsub
  exact ⟨b, o, rfl, by simpa using hsub.mono (fun w h => h.sublist (List.nil_sublist _))⟩
structure V7G where
  i : Nat
  t : Int
  n : Int
def sizes (l : List Evx) : Nat := (l.map (fun x => x.e.bytes.length)).sum
theorem sizes_mem {l : List Evx} {x : Evx} (h : x ∈ l) : x.e.bytes.length ≤ sizes l := by
  unfold sizes
  induction l with
  | nil => cases h
  | cons y l ih =>
    simp only [List.map_cons, List.sum_cons]
    rcases List.mem_cons.1 h with rfl | h
    · omega
    · have := ih h; omega
theorem EvL.ev {F : Nat → Option Obj} {l : List Evx} {a : Option Addr} {n k : Nat} (h : EvL F l a n k) (hs : sizes l ≤ 32768) : ∀ x ∈ l, x.Is F := fun x hx => ⟨(h.is x hx).1, (h.is x hx).2, by have := sizes_mem hx; omega⟩
theorem sizes_take {l : List Evx} {i : Nat} {x : Evx} (h : l[i]? = some x) : sizes (l.take (i + 1)) = sizes (l.take i) + x.e.bytes.length := by
  unfold sizes
  rw [List.take_add_one, h]
  simp
set_option maxHeartbeats 8000000 in
theorem vast27_tr (F : Nat → Option Obj) (l : List Evx) (a : Option Addr) (n k : Nat) (hl : EvL F l a n k) : Tr Tryz.prog 10 [.slice a n k].toArray F [] (fun v H => (∃ b, v = .bool b ∧ (b = false → l.length ≤ 60 ∧ sizes l ≤ 32768)) ∧ H = []) := by
  refine Tr.enter Tryz.func10 rfl Tryz.ntmps10 rfl (fun w0 => ?_)
  have hn := hl.n
  repeat' (first | refine S2b ?_ | refine S3 ?_ | refine SA (fun _ => ?_) | refine G1 (fun hc => ?_) (fun hc => ?_) | refine G2 (fun hc => ?_) (fun hc => ?_) | refine G3 (fun hc => ?_) (fun hc => ?_) | refine SL ?_ | fail)
  · exact Fin.retW (by exact rfl) resA (fun _ h => h) ⟨⟨true, rfl, fun h => by cases h⟩, rfl⟩
  have h60 : n ≤ 60 := by simp at hc; omega
  refine W.loop (G := V7G) (fun g => [(0, .slice a n k), (3, .int .i64 g.t), (4, .int .i64 g.n), (5, .int .i64 g.i)]) (fun _ => [])
    (fun g => g.i ≤ n ∧ 0 ≤ g.t ∧ g.t ≤ 400 ∧ 0 ≤ g.n ∧ g.n ≤ 32768 ∧ (sizes (l.take g.i) : Int) = g.n) (fun g => n - g.i) ⟨0, 0, 0⟩ ⟨Nat.zero_le _, by decide, by decide, by decide, by decide, rfl⟩ envA (fun _ h => h) ?_
  rintro ⟨i, t, m⟩ ⟨hi, ht0, ht1, hm0, hm1, hs⟩
  dsimp only at hi ht0 ht1 hm0 hm1 hs ⊢
  clear hc
  repeat' (first | refine S2b ?_ | refine S3 ?_ | refine SA (fun _ => ?_) | refine G1 (fun hc => ?_) (fun hc => ?_) | refine G2 (fun hc => ?_) (fun hc => ?_) | refine G3 (fun hc => ?_) (fun hc => ?_) | refine SL ?_ | fail)
  · have hi' : i < n := by simp at hc; omega
    clear hc
    obtain ⟨x, hx⟩ : ∃ x, l[i]? = some x := ⟨l[i]'(by omega), by simp⟩
    obtain ⟨b, o, rfl, hcan⟩ := hl.at (H := []) hx
    have hxs := hl.is x (List.mem_of_getElem? hx)
    have hbn : x.bn = x.e.bytes.length := by have := hxs.2.len; simp at this; omega
    have hst := sizes_take hx
    have hia : 0 ≤ (i : Int) ∧ (i : Int) < n := by omega
    have one : ∀ (j : Nat) (v : Value), x.cells[j]? = some v → Sl.Can F [] b (o + (i : Int).toNat * 9 + j) [v] := fun j v hv => by have := hcan.one hv; simpa using this
    have hC0 := one 0 _ rfl
    have hC6 := one 6 _ rfl
    have hC8 := one 8 _ rfl
    clear one hcan
    have em : IntKind.i64.wrap (m + if 131072 < (x.bn : Int) then 131072 else (x.bn : Int)) = m + min (x.bn : Int) 131072 := by
      rw [i64_id (by split <;> omega) (by split <;> omega)]
      split <;> omega
    refine WL.p rfl (Pu.ia rfl rfl hia) ?_
    repeat' (first | refine S2b ?_ | refine S3 ?_ | refine SA (fun _ => ?_) | refine G1 (fun hc => ?_) (fun hc => ?_) | refine G2 (fun hc => ?_) (fun hc => ?_) | refine G3 (fun hc => ?_) (fun hc => ?_) | refine SL ?_ | fail)
    any_goals exact Fin.retW (by exact rfl) resA (H' := []) (fun _ h => h) ⟨⟨true, rfl, fun h => by cases h⟩, rfl⟩
    · rename_i c1 c2 c3 c4
      have d2 := of_decide_eq_true c2
      have d3 := of_decide_eq_true c3
      have d4 := of_decide_eq_false c4
      have d5 := of_decide_eq_false hc
      rw [em] at d5
      rw [em, i64_succ (by omega)]
      rw [i64_id (by omega) (by omega)] at d4 ⊢
      exact Fin.round ⟨i + 1, t + x.e.n, m + min (x.bn : Int) 131072⟩ ⟨hi', by dsimp only; omega, by dsimp only; omega, by dsimp only; omega, by dsimp only; omega, by dsimp only; omega⟩ envA (fun _ h => h) (by dsimp only; omega)
    all_goals
      rename_i c4
      have d5 := of_decide_eq_false hc
      rw [em] at d5
      rw [em, i64_succ (by omega)]
      exact Fin.round ⟨i + 1, t, m + min (x.bn : Int) 131072⟩ ⟨hi', by dsimp only; omega, by dsimp only; omega, by dsimp only; omega, by dsimp only; omega, by dsimp only; omega⟩ envA (fun _ h => h) (by dsimp only; omega)
  · refine Fin.retW (by exact rfl) resA (H' := []) (fun _ h => h) ⟨⟨false, rfl, fun _ => ⟨by omega, ?_⟩⟩, rfl⟩
    have hi' : i = n := by simp at hc; omega
    rw [hi', List.take_of_length_le (by omega)] at hs
    omega
end Go.Proofs.YtjcekmiengnglaaGreatDoor
namespace Go.Proofs.YtjcekmiengnglaaGreatDoor
open Go Go.Sl Go.Scr

/-- the events that have a line -/
def formed (l : List Evx) : List Evt := (l.map (·.e)).filter (fun e => decide e.Form)
theorem formed_yes {l : List Evx} {i : Nat} {x : Evx} (h : l[i]? = some x) (hf : x.e.Form) : formed (l.take (i + 1)) = formed (l.take i) ++ [x.e] := by
  unfold formed
  rw [List.take_add_one, h]
  simp [hf]
theorem formed_no {l : List Evx} {i : Nat} {x : Evx} (h : l[i]? = some x) (hf : ¬ x.e.Form) : formed (l.take (i + 1)) = formed (l.take i) := by
  unfold formed
  rw [List.take_add_one, h]
  simp [hf]
theorem formed_len (l : List Evx) : (formed l).length ≤ l.length := by
  unfold formed
  refine Nat.le_trans (List.length_filter_le _ _) ?_
  simp
theorem formed_mem {l : List Evx} {F : Nat → Option Obj} (h : ∀ x ∈ l, x.Is F) : ∀ e ∈ formed l, e.Ok ∧ e.Form := by
  intro e he
  unfold formed at he
  rw [List.mem_filter] at he
  obtain ⟨x, hx, rfl⟩ := List.mem_map.1 he.1
  exact ⟨(h x hx).ok, of_decide_eq_true he.2⟩
theorem formed_sizes (l : List Evx) : ((formed l).map (fun e => e.bytes.length)).sum ≤ sizes l := by
  unfold formed sizes
  induction l with
  | nil => simp
  | cons x l ih =>
    simp only [List.map_cons, List.filter_cons, List.sum_cons]
    split
    · simp only [List.map_cons, List.sum_cons]; omega
    · omega
def ldB (i : Nat) : Nat := 400 + i * 1000000
theorem ldB_eq (i : Nat) : ldB i = 400 + i * 1000000 := rfl
structure LdG where
  i : Nat
  at_ : Nat
  tx : Str
  la : Option Addr
  ln : Nat
  lc : Nat
  hL : HL
  pl : List Int
  pa : Option Addr
  pn : Nat
  pc : Nat
  hP : HL
  xs : List Evx
  ea : Option Addr
  en : Nat
  ec : Nat
  hE : HL
structure LdG.Ok (l : List Evx) (g : LdG) : Prop where
  i : g.i ≤ l.length
  at_ : g.at_ ≤ 1 + 3 * g.i
  tx : g.tx.length ≤ ldB g.i
  oL : OwnS 9 1 (((formed (l.take g.i)).map Evt.line).map S) (.slice g.la g.ln g.lc) g.hL
  pn : g.pl.length ≤ g.i
  oP : OwnS 3 1 (g.pl.map (Value.int .i64)) (.slice g.pa g.pn g.pc) g.hP
  xn : g.xs.length ≤ g.i
  oE : OwnS 26 9 (g.xs.flatMap Evx.cells) (.slice g.ea g.en g.ec) g.hE
def LaidQ (l : List Evx) (v : Value) (H' : HL) : Prop := ∃ (tx : Str) (la : Option Addr) (ln lc : Nat) (p e : Value), v = tup [S tx, .slice la ln lc, p, e] ∧ OwnS 9 1 (((formed l).map Evt.line).map S) (.slice la ln lc) H'
set_option maxHeartbeats 16000000 in
theorem laid_tr (F : Nat → Option Obj) (c : List Int) (hc : c.length = 14) (hi : ∀ x ∈ c, I64 x) (l : List Evx) (a : Option Addr) (n k : Nat) (hl : EvL F l a n k) (h60 : l.length ≤ 60) (hsz : sizes l ≤ 32768) (m : Int) (hm : 0 ≤ m ∧ m < 4294967296) :
    Tr Tryz.prog 14 [.agg (ccells c).toArray, .slice a n k, .int .u32 m].toArray F [] (LaidQ l) := by
  refine Tr.enter Tryz.func14 rfl Tryz.ntmps14 rfl (fun w0 => ?_)
  have hn := hl.n
  have hhl := head_len hc hi
  obtain ⟨a0, a1, a2, a3, a4, a5, a6, a7, a8, a9, a10, a11, a12, a13, hcl⟩ := list14 hc
  obtain ⟨cs, hcs⟩ : ∃ cs, cs = ccells c := ⟨_, rfl⟩
  have hcs2 : cs = [.int .i64 a0, .int .i64 a1, .int .i64 a2, .int .i64 a3, .int .i64 a4, .int .i64 a5, .int .i64 a6, .int .i64 a7, .int .i64 a8, .int .i64 a9, .int .i64 a10, .int .i64 a11, .int .i64 a12, .int .i64 a13] := by rw [hcs, hcl]; rfl
  have hhd := fun F' => rhead_tr F' c hc hi
  rw [← hcs, hcs2] at hhd
  rw [← hcs, hcs2]
  obtain ⟨hd, hhd0⟩ : ∃ hd, hd = head c := ⟨_, rfl⟩
  rw [← hhd0] at hhd hhl
  repeat' (first | refine S2b ?_ | refine S3 ?_ | refine SA (fun _ => ?_) | refine G1 (fun hc => ?_) (fun hc => ?_) | refine G2 (fun hc => ?_) (fun hc => ?_) | refine G3 (fun hc => ?_) (fun hc => ?_) | refine SL ?_ | fail)
  rename_i b1
  refine WL.e rfl (Ef.lookR (by exact rfl) (fun F' hF => hhd F')) ?_
  rintro _ _ ⟨rfl, rfl⟩
  refine WL.p rfl (Pu.addS (m := strB hd) (n := strB [10]) rfl rfl (by rw [strB_size, strB_size]; simp; omega)) ?_
  have e1 : strB hd ++ strB [10] = strB (hd ++ [10]) := strB_app _ _
  rw [e1]
  rw [← hcs2]
  repeat' (first | refine S2b ?_ | refine S3 ?_ | refine SA (fun _ => ?_) | refine G1 (fun hc => ?_) (fun hc => ?_) | refine G2 (fun hc => ?_) (fun hc => ?_) | refine G3 (fun hc => ?_) (fun hc => ?_) | refine SL ?_ | fail)
  refine W.loop (G := LdG) (fun g => [(1, .slice a n k), (2, .int .u32 m), (10, .string (strB g.tx)), (11, .int .i64 g.at_), (12, .slice g.la g.ln g.lc), (13, .slice g.pa g.pn g.pc), (14, .slice g.ea g.en g.ec), (15, .int .i64 g.i)])
    (fun g => g.hL ++ (g.hP ++ g.hE)) (fun g => g.Ok l) (fun g => l.length - g.i) ⟨0, 1, hd ++ [10], none, 0, 0, [], [], none, 0, 0, [], [], none, 0, 0, []⟩
    ⟨Nat.zero_le _, Nat.le_refl _, by simp [ldB]; omega, .inl ⟨rfl, rfl, rfl⟩, Nat.le_refl _, .inl ⟨rfl, rfl, rfl⟩, Nat.le_refl _, .inl ⟨rfl, rfl, rfl⟩⟩ envA (fun _ h => h.sublist (List.nil_sublist _)) ?_
  rintro ⟨i, at_, tx, la, ln, lc, hL, pl, pa, pn, pc, hP, xs, ea, en, ec, hE⟩ ⟨hi1, hat, htx, hoL, hpl, hoP, hxl, hoE⟩
  dsimp only at hi1 hat htx hoL hpl hoP hxl hoE ⊢
  rw [ldB_eq] at htx
  clear hhd
  repeat' (first | refine S2b ?_ | refine S3 ?_ | refine SA (fun _ => ?_) | refine G1 (fun hc => ?_) (fun hc => ?_) | refine G2 (fun hc => ?_) (fun hc => ?_) | refine G3 (fun hc => ?_) (fun hc => ?_) | refine SL ?_ | fail)
  · have hi' : i < l.length := by simp at hc; omega
    clear hc
    obtain ⟨x, hx⟩ : ∃ x, l[i]? = some x := ⟨l[i]'(by omega), by simp⟩
    obtain ⟨b, o, rfl, hcan⟩ := hl.at (H := hL ++ (hP ++ hE)) hx
    have hcf : ∀ H, Sl.Can F H b (o + (i : Int).toNat * 9) x.cells := fun H => by
      obtain ⟨b', o', e, h⟩ := hl.at (H := H) hx
      cases e
      exact h
    have hxs := hl.ev hsz x (List.mem_of_getElem? hx)
    have hia : 0 ≤ (i : Int) ∧ (i : Int) < n := by omega
    have hxb : x.e.bytes.length ≤ 32768 := by
      have h1 : x.e.bytes.length ≤ sizes l := sizes_mem (List.mem_of_getElem? hx)
      omega
    have hxl2 := line_len hxs.ok
    have hf1 := formed_yes hx
    have hf0 := formed_no hx
    have hfl := formed_len (l.take i)
    rw [List.length_take] at hfl
    refine WL.p rfl (Pu.ia rfl rfl hia) ?_
    refine WL.s rfl (Rd.ldaC rfl rfl hcan) ?_
    refine WL.e rfl (Ef.callW (c := []) (by exact rfl) (Sub.nil _) (fun F' hF => rform_tr F' x (hxs.mono (fun w h => (hF w h).sublist (List.nil_sublist _))) (by omega))) ?_
    rintro v _ ⟨_, ⟨h1, h2, rfl⟩, rfl⟩
    by_cases hf : x.e.Form
    · obtain rfl := h1 hf
      clear h1 h2 hf0
      have hf1 := hf1 hf
      unfold S
      repeat' (first | refine S2b ?_ | refine S3 ?_ | refine SA (fun _ => ?_) | refine G1 (fun hc => ?_) (fun hc => ?_) | refine G2 (fun hc => ?_) (fun hc => ?_) | refine G3 (fun hc => ?_) (fun hc => ?_) | refine SL ?_ | fail)
      have e3 : (i : Int).tmod 32 = ((i % 32 : Nat) : Int) := by rw [Int.tmod_eq_emod_of_nonneg (by omega)]; omega
      rw [e3, show IntKind.u64.wrap ((i % 32 : Nat) : Int) = ((i % 32 : Nat) : Int) from u64_id ⟨by omega, by omega⟩]
      refine WL.p rfl (Pu.shr rfl rfl (by omega)) ?_
      repeat' (first | refine S2b ?_ | refine S3 ?_ | refine SA (fun _ => ?_) | refine G1 (fun hc => ?_) (fun hc => ?_) | refine G2 (fun hc => ?_) (fun hc => ?_) | refine G3 (fun hc => ?_) (fun hc => ?_) | refine SL ?_ | fail)
      · refine WL.p rfl (Pu.addS (m := strB tx) (n := strB [10, 35, 32]) rfl rfl (by rw [strB_size, strB_size]; simp; omega)) ?_
        have e7 : strB tx ++ strB [10, 35, 32] = strB (tx ++ [10, 35, 32]) := strB_app _ _
        rw [e7]
        repeat' (first | refine S2b ?_ | refine S3 ?_ | refine SA (fun _ => ?_) | refine G1 (fun hc => ?_) (fun hc => ?_) | refine G2 (fun hc => ?_) (fun hc => ?_) | refine G3 (fun hc => ?_) (fun hc => ?_) | refine SL ?_ | fail)
        refine WL.p rfl (Pu.addS (m := strB (tx ++ [10, 35, 32])) (n := strB x.e.line) rfl rfl (by rw [strB_size, strB_size]; simp; omega)) ?_
        have e8 : strB (tx ++ [10, 35, 32]) ++ strB x.e.line = strB (tx ++ [10, 35, 32] ++ x.e.line) := strB_app _ _
        rw [e8]
        refine WL.p rfl (Pu.addS (m := strB (tx ++ [10, 35, 32] ++ x.e.line)) (n := strB [10]) rfl rfl (by rw [strB_size, strB_size]; simp; omega)) ?_
        have e9 : strB (tx ++ [10, 35, 32] ++ x.e.line) ++ strB [10] = strB (tx ++ [10, 35, 32] ++ x.e.line ++ [10]) := strB_app _ _
        rw [e9]
        obtain ⟨tx1, htx1⟩ : ∃ t, t = tx ++ [10, 35, 32] ++ x.e.line ++ [10] := ⟨_, rfl⟩
        have ht1 : tx1.length ≤ 400 + i * 1000000 + 500000 := by rw [htx1]; simp; omega
        rw [← htx1]
        clear e7 e8 e9
        repeat' (first | refine S2b ?_ | refine S3 ?_ | refine SA (fun _ => ?_) | refine G1 (fun hc => ?_) (fun hc => ?_) | refine G2 (fun hc => ?_) (fun hc => ?_) | refine G3 (fun hc => ?_) (fun hc => ?_) | refine SL ?_ | fail)
        rw [show IntKind.i64.wrap ((at_ : Int) + 2) = ((at_ + 2 : Nat) : Int) by rw [i64_id (by omega) (by omega)]; omega]
        obtain ⟨at1, hat1⟩ : ∃ t, t = at_ + 2 := ⟨_, rfl⟩
        rw [← hat1]
        repeat' (first | refine S2b ?_ | refine S3 ?_ | refine SA (fun _ => ?_) | refine G1 (fun hc => ?_) (fun hc => ?_) | refine G2 (fun hc => ?_) (fun hc => ?_) | refine G3 (fun hc => ?_) (fun hc => ?_) | refine SL ?_ | fail)
        refine WL.p rfl (Pu.addS (m := strB tx1) (n := strB x.e.line) rfl rfl (by rw [strB_size, strB_size]; omega)) ?_
        have e5 : strB tx1 ++ strB x.e.line = strB (tx1 ++ x.e.line) := strB_app _ _
        rw [e5]
        refine WL.p rfl (Pu.addS (m := strB (tx1 ++ x.e.line)) (n := strB [10]) rfl rfl (by rw [strB_size, strB_size]; simp; omega)) ?_
        have e6 : strB (tx1 ++ x.e.line) ++ strB [10] = strB (tx1 ++ x.e.line ++ [10]) := strB_app _ _
        rw [e6]
        repeat' (first | refine S2b ?_ | refine S3 ?_ | refine SA (fun _ => ?_) | refine G1 (fun hc => ?_) (fun hc => ?_) | refine G2 (fun hc => ?_) (fun hc => ?_) | refine G3 (fun hc => ?_) (fun hc => ?_) | refine SL ?_ | fail)
        refine WL.e rfl (Ef.app (m := 1) (news := [S x.e.line]) (hb := hL) (by exact rfl) (by exact rfl) rfl rfl hoL (.last (.there .here)) (Src.own (n := 1) (.here rfl)) rfl (by simp [Value.oneCell', S]) (by simp; omega) (by simp [maxLen]; omega)) ?_
        rintro _ _ ⟨hL', hoL', rfl⟩
        obtain ⟨la', ln', lc', rfl, _, _⟩ := hoL'.shape
        repeat' (first | refine S2b ?_ | refine S3 ?_ | refine SA (fun _ => ?_) | refine G1 (fun hc => ?_) (fun hc => ?_) | refine G2 (fun hc => ?_) (fun hc => ?_) | refine G3 (fun hc => ?_) (fun hc => ?_) | refine SL ?_ | fail)
        refine WL.e rfl (Ef.app (m := 1) (news := [.int .i64 at1]) (hb := hP) (by exact rfl) (by exact rfl) rfl rfl hoP subA (Src.own (n := 1) (.here rfl)) rfl (by simp [Value.oneCell']) (by simp; omega) (by simp [maxLen]; omega)) ?_
        rintro _ _ ⟨hP', hoP', rfl⟩
        obtain ⟨pa', pn', pc', rfl, _, _⟩ := hoP'.shape
        repeat' (first | refine S2b ?_ | refine S3 ?_ | refine SA (fun _ => ?_) | refine G1 (fun hc => ?_) (fun hc => ?_) | refine G2 (fun hc => ?_) (fun hc => ?_) | refine G3 (fun hc => ?_) (fun hc => ?_) | refine SL ?_ | fail)
        refine WL.s rfl (Rd.ldaC rfl rfl (hcf _)) ?_
        repeat' (first | refine S2b ?_ | refine S3 ?_ | refine SA (fun _ => ?_) | refine G1 (fun hc => ?_) (fun hc => ?_) | refine G2 (fun hc => ?_) (fun hc => ?_) | refine G3 (fun hc => ?_) (fun hc => ?_) | refine SL ?_ | fail)
        have hxf : (xs.flatMap Evx.cells).length = xs.length * 9 := flat_len' Evx.cells 9 (fun _ => rfl) xs
        refine WL.e rfl (Ef.app (m := 1) (news := x.cells) (hb := hE) (by exact rfl) (by exact rfl) rfl rfl hoE (.last (.there (.right (.there (.right (.there .all)))))) (Src.own (n := 9) (.here rfl)) rfl (evx_one x) (by rw [hxf, evx_len]; omega) (by rw [hxf, evx_len]; simp [maxLen]; omega)) ?_
        rintro _ _ ⟨hE', hoE', rfl⟩
        obtain ⟨ea', en', ec', rfl, _, _⟩ := hoE'.shape
        repeat' (first | refine S2b ?_ | refine S3 ?_ | refine SA (fun _ => ?_) | refine G1 (fun hc => ?_) (fun hc => ?_) | refine G2 (fun hc => ?_) (fun hc => ?_) | refine G3 (fun hc => ?_) (fun hc => ?_) | refine SL ?_ | fail)
        rw [show IntKind.i64.wrap ((at1 : Int) + 1) = ((at1 + 1 : Nat) : Int) by rw [i64_id (by omega) (by omega)]; omega, i64_succ (by omega)]
        have g1 : at1 + 1 ≤ 1 + 3 * (i + 1) := by omega
        have g2 : (tx1 ++ x.e.line ++ [10]).length ≤ ldB (i + 1) := by
          have := ldB_eq (i + 1)
          rw [List.length_append, List.length_append, List.length_singleton]
          omega
        have g3 : (pl ++ [(at1 : Int)]).length ≤ i + 1 := by rw [List.length_append, List.length_singleton]; omega
        have g4 : (xs ++ [x]).length ≤ i + 1 := by rw [List.length_append, List.length_singleton]; omega
        have g5 : OwnS 9 1 (((formed (l.take (i + 1))).map Evt.line).map S) (.slice la' ln' lc') hL' := by
          rw [hf1, List.map_append, List.map_append]
          exact hoL'
        have g6 : OwnS 3 1 ((pl ++ [(at1 : Int)]).map (Value.int .i64)) (.slice pa' pn' pc') hP' := by
          rw [List.map_append]
          exact hoP'
        have g7 : OwnS 26 9 ((xs ++ [x]).flatMap Evx.cells) (.slice ea' en' ec') hE' := by
          rw [List.flatMap_append, List.flatMap_cons, List.flatMap_nil, List.append_nil]
          exact hoE'
        refine Fin.round ⟨i + 1, at1 + 1, tx1 ++ x.e.line ++ [10], la', ln', lc', hL', pl ++ [(at1 : Int)], pa', pn', pc', hP', xs ++ [x], ea', en', ec', hE'⟩ ⟨hi', g1, g2, g5, g3, g6, g4, g7⟩ envA (fun _ h => In.of_sub (.pickL (L := hL') (.right (.there (.right (.there .here)))) (.pickL (L := hP') (.right (.there .here)) (.last (L := hE') .here))) h) (by dsimp only; omega)
      · obtain ⟨tx1, htx1⟩ : ∃ t, t = tx := ⟨_, rfl⟩
        have ht1 : tx1.length ≤ 400 + i * 1000000 + 500000 := by rw [htx1]; omega
        obtain ⟨at1, hat1⟩ : ∃ t, t = at_ := ⟨_, rfl⟩
        rw [← htx1, ← hat1]
        refine WL.p rfl (Pu.addS (m := strB tx1) (n := strB x.e.line) rfl rfl (by rw [strB_size, strB_size]; omega)) ?_
        have e5 : strB tx1 ++ strB x.e.line = strB (tx1 ++ x.e.line) := strB_app _ _
        rw [e5]
        refine WL.p rfl (Pu.addS (m := strB (tx1 ++ x.e.line)) (n := strB [10]) rfl rfl (by rw [strB_size, strB_size]; simp; omega)) ?_
        have e6 : strB (tx1 ++ x.e.line) ++ strB [10] = strB (tx1 ++ x.e.line ++ [10]) := strB_app _ _
        rw [e6]
        repeat' (first | refine S2b ?_ | refine S3 ?_ | refine SA (fun _ => ?_) | refine G1 (fun hc => ?_) (fun hc => ?_) | refine G2 (fun hc => ?_) (fun hc => ?_) | refine G3 (fun hc => ?_) (fun hc => ?_) | refine SL ?_ | fail)
        refine WL.e rfl (Ef.app (m := 1) (news := [S x.e.line]) (hb := hL) (by exact rfl) (by exact rfl) rfl rfl hoL (.last (.there .here)) (Src.own (n := 1) (.here rfl)) rfl (by simp [Value.oneCell', S]) (by simp; omega) (by simp [maxLen]; omega)) ?_
        rintro _ _ ⟨hL', hoL', rfl⟩
        obtain ⟨la', ln', lc', rfl, _, _⟩ := hoL'.shape
        repeat' (first | refine S2b ?_ | refine S3 ?_ | refine SA (fun _ => ?_) | refine G1 (fun hc => ?_) (fun hc => ?_) | refine G2 (fun hc => ?_) (fun hc => ?_) | refine G3 (fun hc => ?_) (fun hc => ?_) | refine SL ?_ | fail)
        refine WL.e rfl (Ef.app (m := 1) (news := [.int .i64 at1]) (hb := hP) (by exact rfl) (by exact rfl) rfl rfl hoP subA (Src.own (n := 1) (.here rfl)) rfl (by simp [Value.oneCell']) (by simp; omega) (by simp [maxLen]; omega)) ?_
        rintro _ _ ⟨hP', hoP', rfl⟩
        obtain ⟨pa', pn', pc', rfl, _, _⟩ := hoP'.shape
        repeat' (first | refine S2b ?_ | refine S3 ?_ | refine SA (fun _ => ?_) | refine G1 (fun hc => ?_) (fun hc => ?_) | refine G2 (fun hc => ?_) (fun hc => ?_) | refine G3 (fun hc => ?_) (fun hc => ?_) | refine SL ?_ | fail)
        refine WL.s rfl (Rd.ldaC rfl rfl (hcf _)) ?_
        repeat' (first | refine S2b ?_ | refine S3 ?_ | refine SA (fun _ => ?_) | refine G1 (fun hc => ?_) (fun hc => ?_) | refine G2 (fun hc => ?_) (fun hc => ?_) | refine G3 (fun hc => ?_) (fun hc => ?_) | refine SL ?_ | fail)
        have hxf : (xs.flatMap Evx.cells).length = xs.length * 9 := flat_len' Evx.cells 9 (fun _ => rfl) xs
        refine WL.e rfl (Ef.app (m := 1) (news := x.cells) (hb := hE) (by exact rfl) (by exact rfl) rfl rfl hoE (.last (.there (.right (.there (.right (.there .all)))))) (Src.own (n := 9) (.here rfl)) rfl (evx_one x) (by rw [hxf, evx_len]; omega) (by rw [hxf, evx_len]; simp [maxLen]; omega)) ?_
        rintro _ _ ⟨hE', hoE', rfl⟩
        obtain ⟨ea', en', ec', rfl, _, _⟩ := hoE'.shape
        repeat' (first | refine S2b ?_ | refine S3 ?_ | refine SA (fun _ => ?_) | refine G1 (fun hc => ?_) (fun hc => ?_) | refine G2 (fun hc => ?_) (fun hc => ?_) | refine G3 (fun hc => ?_) (fun hc => ?_) | refine SL ?_ | fail)
        rw [show IntKind.i64.wrap ((at1 : Int) + 1) = ((at1 + 1 : Nat) : Int) by rw [i64_id (by omega) (by omega)]; omega, i64_succ (by omega)]
        have g1 : at1 + 1 ≤ 1 + 3 * (i + 1) := by omega
        have g2 : (tx1 ++ x.e.line ++ [10]).length ≤ ldB (i + 1) := by
          have := ldB_eq (i + 1)
          rw [List.length_append, List.length_append, List.length_singleton]
          omega
        have g3 : (pl ++ [(at1 : Int)]).length ≤ i + 1 := by rw [List.length_append, List.length_singleton]; omega
        have g4 : (xs ++ [x]).length ≤ i + 1 := by rw [List.length_append, List.length_singleton]; omega
        have g5 : OwnS 9 1 (((formed (l.take (i + 1))).map Evt.line).map S) (.slice la' ln' lc') hL' := by
          rw [hf1, List.map_append, List.map_append]
          exact hoL'
        have g6 : OwnS 3 1 ((pl ++ [(at1 : Int)]).map (Value.int .i64)) (.slice pa' pn' pc') hP' := by
          rw [List.map_append]
          exact hoP'
        have g7 : OwnS 26 9 ((xs ++ [x]).flatMap Evx.cells) (.slice ea' en' ec') hE' := by
          rw [List.flatMap_append, List.flatMap_cons, List.flatMap_nil, List.append_nil]
          exact hoE'
        refine Fin.round ⟨i + 1, at1 + 1, tx1 ++ x.e.line ++ [10], la', ln', lc', hL', pl ++ [(at1 : Int)], pa', pn', pc', hP', xs ++ [x], ea', en', ec', hE'⟩ ⟨hi', g1, g2, g5, g3, g6, g4, g7⟩ envA (fun _ h => In.of_sub (.pickL (L := hL') (.right (.there (.right (.there .here)))) (.pickL (L := hP') (.right (.there .here)) (.last (L := hE') .here))) h) (by dsimp only; omega)
    · obtain rfl := h2 hf
      clear h1 h2 hf1
      have hf0 := hf0 hf
      have g1 : at_ ≤ 1 + 3 * (i + 1) := by omega
      have g2 : tx.length ≤ ldB (i + 1) := by have := ldB_eq (i + 1); omega
      have g3 : pl.length ≤ i + 1 := by omega
      have g4 : xs.length ≤ i + 1 := by omega
      unfold S
      repeat' (first | refine S2b ?_ | refine S3 ?_ | refine SA (fun _ => ?_) | refine G1 (fun hc => ?_) (fun hc => ?_) | refine G2 (fun hc => ?_) (fun hc => ?_) | refine G3 (fun hc => ?_) (fun hc => ?_) | refine SL ?_ | fail)
      rw [i64_succ (by omega)]
      refine Fin.round ⟨i + 1, at_, tx, la, ln, lc, hL, pl, pa, pn, pc, hP, xs, ea, en, ec, hE⟩ ?_ envA weakA (by dsimp only; omega)
      exact ⟨hi', g1, g2, by dsimp only; rw [hf0]; exact hoL, g3, hoP, g4, hoE⟩
  · have hi' : i = l.length := by simp at hc; omega
    rw [hi', List.take_of_length_le (Nat.le_refl _)] at hoL
    exact Fin.retW (by exact rfl) resA (H' := hL) (fun _ h => h.sublist (List.sublist_append_left _ _)) ⟨tx, _, _, _, _, _, rfl, hoL⟩
end Go.Proofs.YtjcekmiengnglaaGreatDoor
namespace Go.Proofs.YtjcekmiengnglaaGreatDoor
open Go Go.Sl Go.Scr

def evSh : Sh := .struct [.int .u8, .int .u8, .bool, .bool, .int .u16, .int .i64, .int .i64, .int .i64, .slice (.int .u8)]
theorem ev_dec {w : World} (x : List Value) (h : evSh.rep w x) : ∃ p : Evx, x = p.cells ∧ p.e.Ok ∧ Lst (heapF w) [] 1 (p.e.bytes.map B) p.ba p.bn p.bc := by
  simp only [evSh, Sh.rep, Sh.repAll] at h
  obtain ⟨_, _, rfl, _, ⟨kind, rfl, k1, k2⟩, _, _, rfl, _, ⟨fin, rfl, f1, f2⟩, _, _, rfl, _, ⟨act, rfl⟩, _, _, rfl, _, ⟨ord, rfl⟩, _, _, rfl, _, ⟨str, rfl, s1, s2⟩, _, _, rfl, _, ⟨path, rfl, p1, p2⟩, _, _, rfl, _, ⟨n, rfl, n1, n2⟩, _, _, rfl, _, ⟨life, rfl, l1, l2⟩, _, _, rfl, _, ⟨ba, bn, bc, rfl, hba⟩, rfl⟩ := h
  obtain ⟨bs, hbl, hbs, _⟩ := Sh.bytes (w := w) (sa := ba) (n := bn) (c := bc) (by simp only [Sh.rep]; exact ⟨_, _, _, rfl, hba⟩)
  have e1 := rgU8 k1 k2
  have e2 := rgU8 f1 f2
  have e3 := rgU16 s1 s2
  have e4 := rgI64 p1 p2
  have e5 := rgI64 n1 n2
  have e6 := rgI64 l1 l2
  exact ⟨⟨⟨kind, fin, act, ord, str, path, n, life, bs⟩, ba, bn, bc⟩, rfl, ⟨e1, e2, e3, ⟨e4.1, by dsimp only; omega⟩, ⟨e5.1, by dsimp only; omega⟩, ⟨e6.1, by dsimp only; omega⟩⟩, hbs⟩
theorem evs_of {w : World} {v : Value} {cs : List Value} (hv : (Sh.slice evSh).val v cs) (h : (Sh.slice evSh).rep w cs) : ∃ a n k, ∃ l : List Evx, v = .slice a n k ∧ EvL (heapF w) l a n k := by
  obtain ⟨a, n, k, l, h1, h2, h3⟩ := shL Evx.cells (fun p => p.e.Ok ∧ Lst (heapF w) [] 1 (p.e.bytes.map B) p.ba p.bn p.bc) (fun x _ h => ev_dec x h) hv h
  exact ⟨a, n, k, l, h1, h2, h3⟩
def cfgSh : Sh := .struct [.int .i64, .int .i64, .int .i64, .int .i64, .int .i64, .int .i64, .int .i64, .int .i64, .int .i64, .int .i64, .int .i64, .int .i64, .int .i64, .int .i64]
theorem cfg_of {w : World} {v : Value} {cs : List Value} (hv : cfgSh.val v cs) (h : cfgSh.rep w cs) : ∃ c : List Int, v = .agg (ccells c).toArray ∧ c.length = 14 ∧ ∀ x ∈ c, I64 x := by
  simp only [cfgSh, Sh.rep, Sh.repAll] at h
  obtain ⟨_, _, rfl, _, ⟨a0, rfl, b0, d0⟩, _, _, rfl, _, ⟨a1, rfl, b1, d1⟩, _, _, rfl, _, ⟨a2, rfl, b2, d2⟩, _, _, rfl, _, ⟨a3, rfl, b3, d3⟩, _, _, rfl, _, ⟨a4, rfl, b4, d4⟩, _, _, rfl, _, ⟨a5, rfl, b5, d5⟩, _, _, rfl, _, ⟨a6, rfl, b6, d6⟩, _, _, rfl, _, ⟨a7, rfl, b7, d7⟩,
    _, _, rfl, _, ⟨a8, rfl, b8, d8⟩, _, _, rfl, _, ⟨a9, rfl, b9, d9⟩, _, _, rfl, _, ⟨a10, rfl, b10, d10⟩, _, _, rfl, _, ⟨a11, rfl, b11, d11⟩, _, _, rfl, _, ⟨a12, rfl, b12, d12⟩, _, _, rfl, _, ⟨a13, rfl, b13, d13⟩, rfl⟩ := h
  have key : ∀ {n : Int}, IntKind.i64.min ≤ n → n ≤ IntKind.i64.max → I64 n := fun h1 h2 => by have := rgI64 h1 h2; exact ⟨this.1, by omega⟩
  refine ⟨[a0, a1, a2, a3, a4, a5, a6, a7, a8, a9, a10, a11, a12, a13], hv, rfl, fun x hx => ?_⟩
  simp only [List.mem_cons, List.not_mem_nil, or_false] at hx
  rcases hx with rfl | rfl | rfl | rfl | rfl | rfl | rfl | rfl | rfl | rfl | rfl | rfl | rfl | rfl
  · exact key b0 d0
  · exact key b1 d1
  · exact key b2 d2
  · exact key b3 d3
  · exact key b4 d4
  · exact key b5 d5
  · exact key b6 d6
  · exact key b7 d7
  · exact key b8 d8
  · exact key b9 d9
  · exact key b10 d10
  · exact key b11 d11
  · exact key b12 d12
  · exact key b13 d13
theorem str_of {w : World} {v : Value} {cs : List Value} (hv : Sh.str.val v cs) (h : Sh.str.rep w cs) : ∃ a : Str, v = S a := by
  simp only [Sh.rep] at h
  obtain ⟨s, rfl, _⟩ := h
  have hv' : v = .string s := by simpa [Sh.val] using hv.symm
  rw [hv']
  exact ⟨s.data.toList, congrArg Value.string (strB_eq s)⟩
end Go.Proofs.YtjcekmiengnglaaGreatDoor
