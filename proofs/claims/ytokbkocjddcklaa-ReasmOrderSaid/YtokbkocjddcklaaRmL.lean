/- The law's 'vast', walked. No conditions. -/
import Derived.Test.YtokbkocjddcklaaRmK
namespace Go.Proofs.Ytokbkocjddcklaa
open Go Go.Sl Go.Rm

/-- a thing done, as it lies in memory -/
structure Ov where
  kind : Int
  tsn : Int
  stream : Int
  ssn : Int
  un : Bool
  fi : Bool
  la : Bool
  ba : Option Addr
  bn : Nat
  bc : Nat
  cum : Int
  ka : Option Addr
  kn : Nat
  kc : Nat
def Ov.cells (o : Ov) : List Value := [.int .i64 o.kind, .int .u32 o.tsn, .int .u16 o.stream, .int .u16 o.ssn, .bool o.un, .bool o.fi, .bool o.la, .slice o.ba o.bn o.bc, .int .u32 o.cum, .slice o.ka o.kn o.kc]
def vastG : List Ov → Int → Int → Bool
  | [], _, _ => false
  | o :: r, n, k => if n + min (o.bn : Int) 131072 > 32768 ∨ k + min (o.kn : Int) 100 > 12 then true else vastG r (n + min (o.bn : Int) 131072) (k + min (o.kn : Int) 100)
def vast (l : List Ov) : Bool := decide (l.length > 80) || vastG l 0 0
structure VsG where
  i : Nat
  n : Int
  k : Int
set_option maxHeartbeats 4000000 in
theorem vast_tr (F : Nat → Option Obj) (X : HL) (l : List Ov) (ka : Option Addr) (kn kc : Nat) (hl : Lst F X 10 (l.flatMap Ov.cells) ka kn kc) :
    Tr Try.prog 9 [.slice ka kn kc].toArray F X (fun v H => v = .bool (vast l) ∧ H = X) := by
  refine Tr.enter Try.func9 rfl Try.ntmps9 rfl (fun w0 => ?_)
  have hkn : kn = l.length := by have := hl.len; rw [flat_len' Ov.cells 10 (fun _ => rfl)] at this; omega
  repeat' (first | refine S1 ?_ | refine SD ?_ | refine SA (fun _ => ?_) | refine WL.g_split rfl rfl (fun hc => ?_) (fun hc => ?_) | refine WD.g_split rfl rfl (fun hc => ?_) (fun hc => ?_) | refine W.cond rfl (fun hc => ?_) (fun hc => ?_))
  · refine Fin.retW (by exact rfl) resA (fun _ h => h) ⟨?_, rfl⟩
    simp at hc
    simp [tup, vast]
    omega
  have h80 : kn ≤ 80 := by simp at hc; omega
  refine W.loop (G := VsG) (fun g => [(0, .slice ka kn kc), (3, .int .i64 g.n), (4, .int .i64 g.k), (5, .int .i64 g.i)]) (fun _ => X)
    (fun g => g.i ≤ kn ∧ 0 ≤ g.n ∧ g.n ≤ 32768 ∧ 0 ≤ g.k ∧ g.k ≤ 12 ∧ vastG (l.drop g.i) g.n g.k = vastG l 0 0) (fun g => kn - g.i) ⟨0, 0, 0⟩ ⟨Nat.zero_le _, by decide, by decide, by decide, by decide, rfl⟩ envA (fun _ h => h) ?_
  rintro ⟨i, n, k⟩ ⟨hi, hn0, hn1, hk0, hk1, hv⟩
  dsimp only at hi hn0 hn1 hk0 hk1 hv ⊢
  repeat' (first | refine S1 ?_ | refine SD ?_ | refine SA (fun _ => ?_) | refine WL.g_split rfl rfl (fun hc => ?_) (fun hc => ?_) | refine WD.g_split rfl rfl (fun hc => ?_) (fun hc => ?_) | refine W.cond rfl (fun hc => ?_) (fun hc => ?_))
  · have hi' : i < kn := by simp at hc; omega
    obtain ⟨o, ho⟩ : ∃ o, l[i]? = some o := ⟨l[i]'(by omega), by simp⟩
    obtain ⟨b, off, rfl, hcan⟩ := hl.can (by omega)
    have hat := flat_at Ov.cells 10 (fun _ => rfl) l i o ho
    have hsub := hcan.sub (i * 10) 10
    rw [hat] at hsub
    have hia : 0 ≤ (i : Int) ∧ (i : Int) < kn := by omega
    have hC1 : Sl.Can F X b (off + (i : Int).toNat * 10 + 1 + 6) [.slice o.ba o.bn o.bc] := by have := hsub.one (i := 7) (v := .slice o.ba o.bn o.bc) rfl; simpa using this
    have hC2 : Sl.Can F X b (off + (i : Int).toNat * 10 + 8 + 1) [.slice o.ka o.kn o.kc] := by have := hsub.one (i := 9) (v := .slice o.ka o.kn o.kc) rfl; simpa using this
    have hd : l.drop i = o :: l.drop (i + 1) := by rw [List.drop_eq_getElem_cons (by omega), (List.getElem?_eq_some_iff.1 ho).2]
    have e1 : IntKind.i64.wrap (n + if 131072 < (o.bn : Int) then 131072 else (o.bn : Int)) = n + min (o.bn : Int) 131072 := by
      rw [show (if 131072 < (o.bn : Int) then 131072 else (o.bn : Int)) = min (o.bn : Int) 131072 by split <;> omega, i64_id (by omega) (by omega)]
    have e2 : IntKind.i64.wrap (k + if 100 < (o.kn : Int) then 100 else (o.kn : Int)) = k + min (o.kn : Int) 100 := by
      rw [show (if 100 < (o.kn : Int) then 100 else (o.kn : Int)) = min (o.kn : Int) 100 by split <;> omega, i64_id (by omega) (by omega)]
    rw [hd, vastG] at hv
    have hno : vast l = vastG l 0 0 := by unfold vast; rw [show decide (l.length > 80) = false by simp; omega]; rfl
    repeat' (first | refine S1 ?_ | refine SD ?_ | refine SA (fun _ => ?_) | refine WL.g_split rfl rfl (fun hc => ?_) (fun hc => ?_) | refine WD.g_split rfl rfl (fun hc => ?_) (fun hc => ?_) | refine W.cond rfl (fun hc => ?_) (fun hc => ?_))
    · refine Fin.retW (by exact rfl) resA (fun _ h => h) ⟨?_, rfl⟩
      rw [e1] at hc
      rw [hno, ← hv, if_pos (.inl (of_decide_eq_true hc))]
      rfl
    · refine Fin.retW (by exact rfl) resA (fun _ h => h) ⟨?_, rfl⟩
      rw [e2] at hc
      rw [hno, ← hv, if_pos (.inr (of_decide_eq_true hc))]
      rfl
    · rename_i hc1
      rw [e1] at hc1
      rw [e2] at hc
      have g1 := of_decide_eq_false hc1
      have g2 := of_decide_eq_false hc
      rw [if_neg (by omega)] at hv
      rw [e1, e2, i64_succ (by omega)]
      exact Fin.round ⟨i + 1, n + min (o.bn : Int) 131072, k + min (o.kn : Int) 100⟩ ⟨hi', by dsimp only; omega, by dsimp only; omega, by dsimp only; omega, by dsimp only; omega, hv⟩ envA (fun _ h => h) (by dsimp only; omega)
  · have hi' : i = l.length := by simp at hc; omega
    subst hi'
    refine Fin.retW (by exact rfl) resA (fun _ h => h) ⟨?_, rfl⟩
    rw [List.drop_length, vastG] at hv
    unfold vast
    rw [← hv, show decide (l.length > 80) = false by simp; omega]
    rfl
end Go.Proofs.Ytokbkocjddcklaa
