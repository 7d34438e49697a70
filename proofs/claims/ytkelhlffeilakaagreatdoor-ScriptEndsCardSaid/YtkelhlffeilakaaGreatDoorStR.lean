/- The document's words of numbers, answers and bytes, and lines put together, walked. Conditions: what is read lies in memory; lengths within bounds. -/
import Derived.Test.YtkelhlffeilakaaGreatDoorBuD
import Derived.Test.YtkelhlffeilakaaGreatDoorStV
namespace Go.Proofs.YtkelhlffeilakaaGreatDoor
open Go Go.Sl Go.Scr

def decs : Str := [48, 49, 50, 51, 52, 53, 54, 55, 56, 57]
theorem decs_cut {n : Nat} (h : n < 10) : (strB decs).extract n (n + 1) = strB [dg n] := by
  rw [strB_cut]
  have : ∀ k : Fin 10, (decs.take (k.val + 1)).drop k.val = [dg k.val] := by decide
  rw [this ⟨n, h⟩]
set_option maxHeartbeats 4000000 in
theorem digits_tr (n : Nat) : ∀ (F : Nat → Option Obj) (H : HL) (_ : n < 18446744073709551616), Tr Tryz.prog 23 [.int .u64 n].toArray F H (fun v H' => v = S (digs n) ∧ H' = H) := by
  induction n using Nat.strongRecOn with
  | _ n ih =>
  intro F H hn
  refine Tr.enter Tryz.func23 rfl Tryz.ntmps23 rfl (fun w0 => ?_)
  have e1 : IntKind.u64.wrap ((n : Int) + 1) = if n = 18446744073709551615 then 0 else ((n + 1 : Nat) : Int) := by
    split
    · rename_i h; subst h; decide
    · rw [u64_id ⟨by omega, by omega⟩]; omega
  refine SP ?_; repeat' (first|refine ⟨fun hc=>?_,fun hc=>?_⟩|intro)
  · have hlt : n < 10 := by simp at hc; omega
    rw [e1, if_neg (by omega)]
    refine WL.p rfl (Pu.cutStr (m := strB decs) rfl rfl rfl (by omega) (by omega) (by rw [strB_size]; simp [decs]; omega)) ?_
    refine SP ?_; repeat' (first|refine ⟨fun hc=>?_,fun hc=>?_⟩|intro)
    refine Fin.retW (by exact rfl) resA (fun _ h => h) ⟨?_, rfl⟩
    rw [digs_lt hlt]
    show Value.string ((strB decs).extract (n : Int).toNat ((n + 1 : Nat) : Int).toNat) = _
    rw [show (n : Int).toNat = n by omega, show ((n + 1 : Nat) : Int).toNat = n + 1 by omega, decs_cut hlt]
    rfl
  · have hge : 10 ≤ n := by simp at hc; omega
    have e2 : IntKind.u64.wrap ((n : Int).tdiv 10) = ((n / 10 : Nat) : Int) := by
      rw [Int.tdiv_eq_ediv_of_nonneg (by omega), u64_id ⟨by omega, by omega⟩]; omega
    have e3 : (n : Int).tmod 10 = ((n % 10 : Nat) : Int) := by
      rw [Int.tmod_eq_emod_of_nonneg (by omega)]; omega
    have e4 : IntKind.u64.wrap (((n % 10 : Nat) : Int) + 1) = ((n % 10 + 1 : Nat) : Int) := by
      rw [u64_id ⟨by omega, by omega⟩]; omega
    refine W.drawA ?_
    refine SP ?_; repeat' (first|refine ⟨fun hc=>?_,fun hc=>?_⟩|intro)
    rw [e2]
    refine WD.e rfl (Ef.lookR (by exact rfl) (fun F' hF => ih (n / 10) (by omega) F' [] (by omega))) ?_
    rintro _ _ ⟨rfl, rfl⟩
    refine ⟨.inl (by kernel_rfl), ?_⟩
    refine SP ?_; repeat' (first|refine ⟨fun hc=>?_,fun hc=>?_⟩|intro)
    rw [e3, e4]
    refine WD.p rfl (Pu.cutStr (m := strB decs) rfl rfl rfl (by omega) (by omega) (by rw [strB_size]; simp [decs]; omega)) ?_
    have e5 : (strB decs).extract ((n % 10 : Nat) : Int).toNat ((n % 10 + 1 : Nat) : Int).toNat = strB [dg (n % 10)] := by
      rw [show ((n % 10 : Nat) : Int).toNat = n % 10 by omega, show ((n % 10 + 1 : Nat) : Int).toNat = n % 10 + 1 by omega, decs_cut (by omega)]
    rw [e5]
    have hl := digs_len (n := n / 10) (k := 20) (by decide) (by omega)
    refine WD.p rfl (Pu.addS (m := strB (digs (n / 10))) (n := strB [dg (n % 10)]) rfl rfl (by rw [strB_size, strB_size]; simp; omega)) ?_
    refine SP ?_; repeat' (first|refine ⟨fun hc=>?_,fun hc=>?_⟩|intro)
    refine Fin.retW (by exact rfl) resA (fun _ h => h) ⟨?_, rfl⟩
    rw [digs_ge hge]
    show Value.string (strB _ ++ strB _) = _
    rw [strB_app]
    rfl
set_option maxHeartbeats 4000000 in
theorem number_tr (F : Nat → Option Obj) (H : HL) (n : Int) (hn : I64 n) : Tr Tryz.prog 11 [.int .i64 n].toArray F H (fun v H' => v = S (num n) ∧ H' = H) := by
  obtain ⟨h1, h2⟩ := hn
  refine Tr.enter Tryz.func11 rfl Tryz.ntmps11 rfl (fun w0 => ?_)
  refine SP ?_; repeat' (first|refine ⟨fun hc=>?_,fun hc=>?_⟩|intro)
  · have hneg : n < 0 := by simpa using hc
    have e1 : IntKind.u64.wrap (0 - IntKind.u64.wrap n) = ((n.natAbs : Nat) : Int) := by
      have e0 : IntKind.u64.wrap n = n + 18446744073709551616 := by unfold IntKind.wrap; simp [IntKind.bits, IntKind.signed]; omega
      rw [e0]
      unfold IntKind.wrap
      simp [IntKind.bits, IntKind.signed]
      omega
    rw [e1]
    refine WL.e rfl (Ef.lookR (by exact rfl) (fun F' hF => digits_tr _ F' [] (by omega))) ?_
    rintro _ _ ⟨rfl, rfl⟩
    have hl := digs_len (n := n.natAbs) (k := 20) (by decide) (by omega)
    refine WL.p rfl (Pu.addS (m := strB [45]) (n := strB (digs n.natAbs)) rfl rfl (by rw [strB_size, strB_size]; simp; omega)) ?_
    refine SP ?_; repeat' (first|refine ⟨fun hc=>?_,fun hc=>?_⟩|intro)
    refine Fin.retW (by exact rfl) resA (fun _ h => h) ⟨?_, rfl⟩
    unfold num
    rw [if_pos hneg]
    show Value.string (strB _ ++ strB _) = _
    rw [strB_app]
    rfl
  · have hpos : ¬ n < 0 := by simpa using hc
    have e1 : IntKind.u64.wrap n = ((n.natAbs : Nat) : Int) := by rw [u64_id ⟨by omega, by omega⟩]; omega
    rw [e1]
    refine WL.e rfl (Ef.lookR (by exact rfl) (fun F' hF => digits_tr _ F' [] (by omega))) ?_
    rintro _ _ ⟨rfl, rfl⟩
    refine SP ?_; repeat' (first|refine ⟨fun hc=>?_,fun hc=>?_⟩|intro)
    refine Fin.retW (by exact rfl) resA (fun _ h => h) ⟨?_, rfl⟩
    unfold num
    rw [if_neg hpos]
    rfl
end Go.Proofs.YtkelhlffeilakaaGreatDoor
