/- The document's guesses of numbers and bytes, its words of kinds, and two events compared, walked. Conditions: what is read lies in memory; lengths within bounds. -/
import Derived.Test.YtjcekmiengnglaaGreatDoorStR
import Derived.Test.YtjcekmiengnglaaGreatDoorStE
import Derived.Test.YtjcekmiengnglaaGreatDoorStI
import Derived.Test.YtjcekmiengnglaaGreatDoorBuJ
namespace Go.Proofs.YtjcekmiengnglaaGreatDoor
open Go Go.Sl Go.Scr

set_option maxHeartbeats 8000000 in
theorem rword_tr (F : Nat → Option Obj) (H : HL) (k : Int) (hk : 0 ≤ k ∧ k < 256) : Tr Tryz.prog 44 [.int .u8 k].toArray F H (fun v H' => v = S (kword k) ∧ H' = H) := by
  refine Tr.enter Tryz.func44 rfl Tryz.ntmps44 rfl (fun w0 => ?_)
  have e0 : IntKind.i64.wrap k = k := i64_id (by omega) (by omega)
  repeat' (first | refine S2b ?_ | refine S3 ?_ | refine SA (fun _ => ?_) | refine G1 (fun hc => ?_) (fun hc => ?_) | refine G2 (fun hc => ?_) (fun hc => ?_) | refine G3 (fun hc => ?_) (fun hc => ?_) | refine SL ?_ | fail)
  refine WL.e rfl (Ef.bsN (n := 12) (r := kwords.map S) (by exact rfl) (by exact rfl) (by exact rfl) (by exact rfl) rfl (by exact rfl)) ?_
  rintro _ _ ⟨g, rfl, rfl⟩
  by_cases h12 : k < 12
  · obtain ⟨w, hw⟩ : ∃ w, kwords[k.toNat]? = some w := ⟨kwords[k.toNat]'(by simp [kwords]; omega), by simp⟩
    have hkw : kword k = w := by unfold kword; rw [List.getD_eq_getElem?_getD, hw]; rfl
    have hia : 0 ≤ k ∧ k < (12 : Nat) := by omega
    have hC : Sl.Can F ((g, .cells (kwords.map S).toArray 9 (0, 0)) :: H) g (0 + k.toNat * 1) [.string (strB w)] := can_own (.head _) (by rw [Nat.zero_add, Nat.mul_one, List.getElem?_map, hw]; rfl)
    repeat' (first | refine S2b ?_ | refine S3 ?_ | refine SA (fun _ => ?_) | refine G1 (fun hc => ?_) (fun hc => ?_) | refine G2 (fun hc => ?_) (fun hc => ?_) | refine G3 (fun hc => ?_) (fun hc => ?_) | refine SL ?_ | fail)
    · rw [e0] at hc
      exfalso
      simp at hc
      omega
    · refine Fin.retW (by exact rfl) resA (fun _ h => h.sublist (List.sublist_cons_self _ _)) ⟨?_, rfl⟩
      rw [hkw]
      rfl
  · have hkw : kword k = [] := by
      unfold kword
      rw [List.getD_eq_getElem?_getD, List.getElem?_eq_none (by simp [kwords]; omega)]
      rfl
    repeat' (first | refine S2b ?_ | refine S3 ?_ | refine SA (fun _ => ?_) | refine G1 (fun hc => ?_) (fun hc => ?_) | refine G2 (fun hc => ?_) (fun hc => ?_) | refine G3 (fun hc => ?_) (fun hc => ?_) | refine SL ?_ | fail)
    · refine Fin.retW (by exact rfl) resA (fun _ h => h.sublist (List.sublist_cons_self _ _)) ⟨?_, rfl⟩
      rw [hkw]
      rfl
    · rw [e0] at hc
      exfalso
      simp at hc
      omega
theorem evt_bytes {a b : Evt} (h0 : (a.kind == b.kind) = true) (h1 : (a.fin == b.fin) = true) (h2 : (a.act == b.act) = true) (h3 : (a.ord == b.ord) = true) (h4 : (a.str == b.str) = true) (h5 : (a.path == b.path) = true) (h6 : (a.n == b.n) = true) (h7 : (a.life == b.life) = true) : a = b ↔ a.bytes = b.bytes := by
  simp only [beq_iff_eq] at *
  obtain ⟨kind, fin, act, ord, str, path, n, life, bytes⟩ := a
  obtain ⟨kind', fin', act', ord', str', path', n', life', bytes'⟩ := b
  dsimp only at *
  subst h0 h1 h2 h3 h4 h5 h6 h7
  simp
set_option maxHeartbeats 8000000 in
theorem rsame_tr (F : Nat → Option Obj) (x y : Evx) (hx : x.Is F) (hy : y.Is F) :
    Tr Tryz.prog 9 [.agg x.cells.toArray, .agg y.cells.toArray].toArray F [] (fun v H => v = .bool (decide (x.e = y.e)) ∧ H = []) := by
  refine Tr.enter Tryz.func9 rfl Tryz.ntmps9 rfl (fun w0 => ?_)
  unfold Evx.cells
  repeat' (first | refine S2b ?_ | refine S3 ?_ | refine SA (fun _ => ?_) | refine G1 (fun hc => ?_) (fun hc => ?_) | refine G2 (fun hc => ?_) (fun hc => ?_) | refine G3 (fun hc => ?_) (fun hc => ?_) | refine SL ?_ | fail)
  any_goals
    exact Fin.retW (by exact rfl) resA (H' := []) (fun _ h => h.sublist (List.nil_sublist _)) ⟨by
      have hne : ¬ x.e = y.e := fun h => by rw [h] at hc; simp at hc
      rw [decide_eq_false hne]
      rfl, rfl⟩
  refine WL.e rfl (Ef.lookR (by exact rfl) (fun F' hF => eqb_tr F' [] x.e.bytes y.e.bytes _ _ _ _ _ _ (hx.bytes.mono (fun w h => (hF w h).sublist (List.nil_sublist _))) (hy.bytes.mono (fun w h => (hF w h).sublist (List.nil_sublist _))) hx.len)) ?_
  rintro _ _ ⟨rfl, rfl⟩
  repeat' (first | refine S2b ?_ | refine S3 ?_ | refine SA (fun _ => ?_) | refine G1 (fun hc => ?_) (fun hc => ?_) | refine G2 (fun hc => ?_) (fun hc => ?_) | refine G3 (fun hc => ?_) (fun hc => ?_) | refine SL ?_ | fail)
  rename_i h0 h1 h2 h3 h4 h5 h6
  refine Fin.retW (by exact rfl) resA (H' := []) (fun _ h => h.sublist (List.nil_sublist _)) ⟨?_, rfl⟩
  show Value.bool _ = _
  congr 1
  exact decide_eq_decide.2 (evt_bytes h0 h1 h2 h3 h4 h5 h6 hc).symm
end Go.Proofs.YtjcekmiengnglaaGreatDoor
