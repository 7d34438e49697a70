/- The document's words of numbers, answers and bytes, and lines put together, walked. Conditions: what is read lies in memory; lengths within bounds. -/
import Derived.Test.YtjcekmiengnglaaGreatDoorStV
namespace Go.Proofs.YtjcekmiengnglaaGreatDoor
open Go Go.Sl Go.Scr

def decs : Str := [48, 49, 50, 51, 52, 53, 54, 55, 56, 57]
theorem decs_cut {n : Nat} (h : n < 10) : (strB decs).extract n (n + 1) = strB [dg n] := by
  rw [strB_cut]
  have : ∀ k : Fin 10, (decs.take (k.val + 1)).drop k.val = [dg k.val] := by decide
  rw [this ⟨n, h⟩]
set_option maxHeartbeats 4000000 in
theorem digits_tr (n : Nat) : ∀ (F : Nat → Option Obj) (H : HL) (_ : n < 18446744073709551616), Tr Tryz.prog 47 [.int .u64 n].toArray F H (fun v H' => v = S (digs n) ∧ H' = H) := by
  induction n using Nat.strongRecOn with
  | _ n ih =>
  intro F H hn
  refine Tr.enter Tryz.func47 rfl Tryz.ntmps47 rfl (fun w0 => ?_)
  have e1 : IntKind.u64.wrap ((n : Int) + 1) = if n = 18446744073709551615 then 0 else ((n + 1 : Nat) : Int) := by
    split
    · rename_i h; subst h; decide
    · rw [u64_id ⟨by omega, by omega⟩]; omega
  repeat' (first | refine S2b ?_ | refine S3 ?_ | refine SA (fun _ => ?_) | refine G1 (fun hc => ?_) (fun hc => ?_) | refine G2 (fun hc => ?_) (fun hc => ?_) | refine G3 (fun hc => ?_) (fun hc => ?_) | refine SL ?_ | fail)
  · have hlt : n < 10 := by simp at hc; omega
    rw [e1, if_neg (by omega)]
    refine WL.p rfl (Pu.cutStr (m := strB decs) rfl rfl rfl (by omega) (by omega) (by rw [strB_size]; simp [decs]; omega)) ?_
    repeat' (first | refine S2b ?_ | refine S3 ?_ | refine SA (fun _ => ?_) | refine G1 (fun hc => ?_) (fun hc => ?_) | refine G2 (fun hc => ?_) (fun hc => ?_) | refine G3 (fun hc => ?_) (fun hc => ?_) | refine SL ?_ | fail)
    refine Fin.retW (by exact rfl) resA (fun _ h => h) ⟨?_, rfl⟩
    rw [digs_lt hlt]
    show Value.string ((strB decs).extract (n : Int).toNat ((n + 1 : Nat) : Int).toNat) = _
    rw [show (n : Int).toNat = n by omega, show ((n + 1 : Nat) : Int).toNat = n + 1 by omega, decs_cut hlt]
    rfl
  · have hge : 10 ≤ n := by simp at hc; omega
    have e2 : IntKind.u64.wrap ((n : Int).tdiv 10) = ((n / 10 : Nat) : Int) := by
      rw [Int.tdiv_eq_ediv_of_nonneg (by omega), u64_id ⟨by omega, by omega⟩]; omega
    have e3 : (n : Int).tmod 10 = ((n % 10 : Nat) : Int) := by
      rw [Int.tmod_eq_emod_of_nonneg (by omega)]; omega
    have e4 : IntKind.u64.wrap (((n % 10 : Nat) : Int) + 1) = ((n % 10 + 1 : Nat) : Int) := by
      rw [u64_id ⟨by omega, by omega⟩]; omega
    refine W.drawA ?_
    repeat' (first | refine S2b ?_ | refine S3 ?_ | refine SA (fun _ => ?_) | refine G1 (fun hc => ?_) (fun hc => ?_) | refine G2 (fun hc => ?_) (fun hc => ?_) | refine G3 (fun hc => ?_) (fun hc => ?_) | refine SL ?_ | fail)
    rw [e2]
    refine WD.e rfl (Ef.lookR (by exact rfl) (fun F' hF => ih (n / 10) (by omega) F' [] (by omega))) ?_
    rintro _ _ ⟨rfl, rfl⟩
    refine ⟨.inl (by kernel_rfl), ?_⟩
    repeat' (first | refine S2b ?_ | refine S3 ?_ | refine SA (fun _ => ?_) | refine G1 (fun hc => ?_) (fun hc => ?_) | refine G2 (fun hc => ?_) (fun hc => ?_) | refine G3 (fun hc => ?_) (fun hc => ?_) | refine SL ?_ | fail)
    rw [e3, e4]
    refine WD.p rfl (Pu.cutStr (m := strB decs) rfl rfl rfl (by omega) (by omega) (by rw [strB_size]; simp [decs]; omega)) ?_
    have e5 : (strB decs).extract ((n % 10 : Nat) : Int).toNat ((n % 10 + 1 : Nat) : Int).toNat = strB [dg (n % 10)] := by
      rw [show ((n % 10 : Nat) : Int).toNat = n % 10 by omega, show ((n % 10 + 1 : Nat) : Int).toNat = n % 10 + 1 by omega, decs_cut (by omega)]
    rw [e5]
    have hl := digs_len (n := n / 10) (k := 20) (by decide) (by omega)
    refine WD.p rfl (Pu.addS (m := strB (digs (n / 10))) (n := strB [dg (n % 10)]) rfl rfl (by rw [strB_size, strB_size]; simp; omega)) ?_
    repeat' (first | refine S2b ?_ | refine S3 ?_ | refine SA (fun _ => ?_) | refine G1 (fun hc => ?_) (fun hc => ?_) | refine G2 (fun hc => ?_) (fun hc => ?_) | refine G3 (fun hc => ?_) (fun hc => ?_) | refine SL ?_ | fail)
    refine Fin.retW (by exact rfl) resA (fun _ h => h) ⟨?_, rfl⟩
    rw [digs_ge hge]
    show Value.string (strB _ ++ strB _) = _
    rw [strB_app]
    rfl
set_option maxHeartbeats 4000000 in
theorem number_tr (F : Nat → Option Obj) (H : HL) (n : Int) (hn : I64 n) : Tr Tryz.prog 30 [.int .i64 n].toArray F H (fun v H' => v = S (num n) ∧ H' = H) := by
  obtain ⟨h1, h2⟩ := hn
  refine Tr.enter Tryz.func30 rfl Tryz.ntmps30 rfl (fun w0 => ?_)
  repeat' (first | refine S2b ?_ | refine S3 ?_ | refine SA (fun _ => ?_) | refine G1 (fun hc => ?_) (fun hc => ?_) | refine G2 (fun hc => ?_) (fun hc => ?_) | refine G3 (fun hc => ?_) (fun hc => ?_) | refine SL ?_ | fail)
  · have hneg : n < 0 := by simpa using hc
    have e1 : IntKind.u64.wrap (0 - IntKind.u64.wrap n) = ((n.natAbs : Nat) : Int) := by
      have e0 : IntKind.u64.wrap n = n + 18446744073709551616 := by unfold IntKind.wrap; simp [IntKind.bits, IntKind.signed]; omega
      rw [e0]
      unfold IntKind.wrap
      simp [IntKind.bits, IntKind.signed]
      omega
    rw [e1]
    refine WL.e rfl (Ef.lookR (by exact rfl) (fun F' hF => digits_tr _ F' [] (by omega))) ?_
    rintro _ _ ⟨rfl, rfl⟩
    have hl := digs_len (n := n.natAbs) (k := 20) (by decide) (by omega)
    refine WL.p rfl (Pu.addS (m := strB [45]) (n := strB (digs n.natAbs)) rfl rfl (by rw [strB_size, strB_size]; simp; omega)) ?_
    repeat' (first | refine S2b ?_ | refine S3 ?_ | refine SA (fun _ => ?_) | refine G1 (fun hc => ?_) (fun hc => ?_) | refine G2 (fun hc => ?_) (fun hc => ?_) | refine G3 (fun hc => ?_) (fun hc => ?_) | refine SL ?_ | fail)
    refine Fin.retW (by exact rfl) resA (fun _ h => h) ⟨?_, rfl⟩
    unfold num
    rw [if_pos hneg]
    show Value.string (strB _ ++ strB _) = _
    rw [strB_app]
    rfl
  · have hpos : ¬ n < 0 := by simpa using hc
    have e1 : IntKind.u64.wrap n = ((n.natAbs : Nat) : Int) := by rw [u64_id ⟨by omega, by omega⟩]; omega
    rw [e1]
    refine WL.e rfl (Ef.lookR (by exact rfl) (fun F' hF => digits_tr _ F' [] (by omega))) ?_
    rintro _ _ ⟨rfl, rfl⟩
    repeat' (first | refine S2b ?_ | refine S3 ?_ | refine SA (fun _ => ?_) | refine G1 (fun hc => ?_) (fun hc => ?_) | refine G2 (fun hc => ?_) (fun hc => ?_) | refine G3 (fun hc => ?_) (fun hc => ?_) | refine SL ?_ | fail)
    refine Fin.retW (by exact rfl) resA (fun _ h => h) ⟨?_, rfl⟩
    unfold num
    rw [if_neg hpos]
    rfl
theorem yes_tr (F : Nat → Option Obj) (H : HL) (b : Bool) : Tr Tryz.prog 56 [.bool b].toArray F H (fun v H' => v = S (yn b) ∧ H' = H) := by
  refine Tr.enter Tryz.func56 rfl Tryz.ntmps56 rfl (fun w0 => ?_)
  cases b
  · repeat' (first | refine S2b ?_ | refine S3 ?_ | refine SA (fun _ => ?_) | refine G1 (fun hc => ?_) (fun hc => ?_) | refine G2 (fun hc => ?_) (fun hc => ?_) | refine G3 (fun hc => ?_) (fun hc => ?_) | refine SL ?_ | fail)
    exact Fin.retW (by exact rfl) resA (fun _ h => h) ⟨rfl, rfl⟩
  · repeat' (first | refine S2b ?_ | refine S3 ?_ | refine SA (fun _ => ?_) | refine G1 (fun hc => ?_) (fun hc => ?_) | refine G2 (fun hc => ?_) (fun hc => ?_) | refine G3 (fun hc => ?_) (fun hc => ?_) | refine SL ?_ | fail)
    exact Fin.retW (by exact rfl) resA (fun _ h => h) ⟨rfl, rfl⟩
structure TgG where
  i : Nat
set_option maxHeartbeats 4000000 in
theorem tog_tr (F : Nat → Option Obj) (H : HL) (ws : List Str) (sa : Option Addr) (n k : Nat) (hl : Lst F H 1 (ws.map S) sa n k) (h0 : ws ≠ []) (hm : ∀ w ∈ ws, w.length ≤ 1000000000000) (hn : ws.length ≤ 1000) :
    Tr Tryz.prog 21 [.slice sa n k].toArray F H (fun v H' => v = S (join 32 ws) ∧ H' = H) := by
  refine Tr.enter Tryz.func21 rfl Tryz.ntmps21 rfl (fun w0 => ?_)
  have hlen : n = ws.length := by have := hl.len; simp at this; omega
  have hp : 0 < ws.length := List.length_pos_iff.2 h0
  obtain ⟨b, o, rfl, hcan⟩ := hl.can (by omega)
  have get : ∀ (i : Nat) (w : Str), ws[i]? = some w → Sl.Can F H b (o + (i : Int).toNat * 1) [S w] := fun i w hw => by
    have := hcan.one (i := i) (v := S w) (by rw [List.getElem?_map, hw]; rfl)
    simpa using this
  obtain ⟨w1, hw1⟩ : ∃ w, ws[0]? = some w := ⟨ws[0], by simp [hp]⟩
  have hia0 : 0 ≤ (0 : Int) ∧ (0 : Int) < n := by omega
  have hC0 := get 0 w1 hw1
  have jl : ∀ i, i ≤ 1000 → (join 32 (ws.take i)).length ≤ 1000 * 1000000000001 := fun i hi => by
    have h1 := join_len 32 (ws.take i) 1000000000000 (fun w hw => hm w (List.mem_of_mem_take hw))
    have h2 : (ws.take i).length ≤ 1000 := by simp; omega
    exact Nat.le_trans h1 (Nat.mul_le_mul_right _ h2)
  repeat' (first | refine S2b ?_ | refine S3 ?_ | refine SA (fun _ => ?_) | refine G1 (fun hc => ?_) (fun hc => ?_) | refine G2 (fun hc => ?_) (fun hc => ?_) | refine G3 (fun hc => ?_) (fun hc => ?_) | refine SL ?_ | fail)
  refine W.loop (G := TgG) (fun g => [(0, .slice (some ⟨b, o, none⟩) n k), (3, S (join 32 (ws.take g.i))), (4, .int .i64 g.i)]) (fun _ => H)
    (fun g => 1 ≤ g.i ∧ g.i ≤ n) (fun g => n - g.i) ⟨1⟩ ⟨Nat.le_refl _, by dsimp only; omega⟩ (by
      have e : ws.take 1 = [w1] := by rw [List.take_add_one, hw1]; simp
      rw [e]
      exact envA) (fun _ h => h) ?_
  rintro ⟨i⟩ ⟨hi1, hi⟩
  dsimp only at hi1 hi ⊢
  clear hC0
  repeat' (first | refine S2b ?_ | refine S3 ?_ | refine SA (fun _ => ?_) | refine G1 (fun hc => ?_) (fun hc => ?_) | refine G2 (fun hc => ?_) (fun hc => ?_) | refine G3 (fun hc => ?_) (fun hc => ?_) | refine SL ?_ | fail)
  · have hi' : i < n := by simp at hc; omega
    obtain ⟨w, hw⟩ : ∃ y, ws[i]? = some y := ⟨ws[i]'(by omega), by simp⟩
    have hia : 0 ≤ (i : Int) ∧ (i : Int) < n := by omega
    have hC := get i w hw
    have hj := jl i (by omega)
    have esz : (strB (join 32 (ws.take i)) ++ strB [32]).size = (join 32 (ws.take i)).length + 1 := by rw [strB_app, strB_size]; simp
    have hwl := hm w (List.mem_of_getElem? hw)
    refine WL.p rfl (Pu.addS (m := strB (join 32 (ws.take i))) (n := strB [32]) rfl rfl (by rw [strB_size, strB_size]; simp; omega)) ?_
    repeat' (first | refine S2b ?_ | refine S3 ?_ | refine SA (fun _ => ?_) | refine G1 (fun hc => ?_) (fun hc => ?_) | refine G2 (fun hc => ?_) (fun hc => ?_) | refine G3 (fun hc => ?_) (fun hc => ?_) | refine SL ?_ | fail)
    refine WL.p rfl (Pu.addS (m := strB (join 32 (ws.take i)) ++ strB [32]) (n := strB w) rfl rfl (by rw [esz, strB_size]; omega)) ?_
    repeat' (first | refine S2b ?_ | refine S3 ?_ | refine SA (fun _ => ?_) | refine G1 (fun hc => ?_) (fun hc => ?_) | refine G2 (fun hc => ?_) (fun hc => ?_) | refine G3 (fun hc => ?_) (fun hc => ?_) | refine SL ?_ | fail)
    rw [i64_succ (by omega)]
    have e : Value.string (strB (join 32 (ws.take i)) ++ strB [32] ++ strB w) = S (join 32 (ws.take (i + 1))) := by
      rw [strB_app, strB_app, List.take_add_one, hw]
      unfold S
      congr 2
      simp only [Option.toList_some]
      exact (join_snoc 32 (ws.take i) w (fun h => by have := congrArg List.length h; rw [List.length_take, List.length_nil] at this; omega)).symm
    rw [e]
    exact Fin.round ⟨i + 1⟩ ⟨by dsimp only; omega, hi'⟩ envA (fun _ h => h) (by dsimp only; omega)
  · have hi' : i = n := by simp at hc; omega
    refine Fin.retW (by exact rfl) resA (fun _ h => h) ⟨?_, rfl⟩
    rw [hi', List.take_of_length_le (by omega)]
    rfl
end Go.Proofs.YtjcekmiengnglaaGreatDoor
