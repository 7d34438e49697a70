/- The document's guess of an event from a line's words, and its Read, walked. Conditions: the words lie in memory; lengths within bounds. -/
import Derived.Test.YtjcekmiengnglaaGreatDoorSuC
namespace Go.Proofs.YtjcekmiengnglaaGreatDoor
open Go Go.Sl Go.Scr

theorem u16w (n : Int) : IntKind.u16.wrap n = n % 65536 := by unfold IntKind.wrap; simp [IntKind.bits, IntKind.signed]
theorem kindZ_spec {w : Str} (h : kindZ w ≠ 0) : kword (kindZ w) = w := by
  unfold kindZ at h ⊢
  split
  · rename_i e; exact e.symm
  split
  · rename_i e; exact e.symm
  split
  · rename_i e; exact e.symm
  split
  · rename_i e; exact e.symm
  split
  · rename_i e; exact e.symm
  split
  · rename_i e; exact e.symm
  split
  · rename_i e; exact e.symm
  split
  · rename_i e; exact e.symm
  split
  · rename_i e; exact e.symm
  split
  · rename_i e; exact e.symm
  split
  · rename_i e; exact e.symm
  · simp_all
theorem kindZ_le (w : Str) : 0 ≤ kindZ w ∧ kindZ w ≤ 11 := by
  unfold kindZ
  (repeat' split) <;> decide
def gk (w : Str) (k : Nat) : Int := if 1 ≤ kindZ w ∧ kindZ w < k then kindZ w else 0
theorem gk_one (w : Str) : gk w 1 = 0 := by unfold gk; rw [if_neg (by omega)]
theorem gk_all (w : Str) : gk w 12 = kindZ w := by
  have := kindZ_le w
  unfold gk
  split <;> omega
theorem gk_hit {w : Str} {k : Nat} (h1 : 1 ≤ k) (h2 : k ≤ 11) (h : kword k = w) : gk w (k + 1) = k := by
  have := kindZ_word (k := k) (by omega) (by omega)
  rw [h] at this
  unfold gk
  rw [this, if_pos (by omega)]
theorem gk_miss {w : Str} {k : Nat} (h1 : 1 ≤ k) (h : kword k ≠ w) : gk w (k + 1) = gk w k := by
  have hn : kindZ w ≠ k := fun e => h (by rw [← e]; exact kindZ_spec (by omega))
  unfold gk
  by_cases h3 : 1 ≤ kindZ w ∧ kindZ w < k
  · rw [if_pos h3, if_pos (by omega)]
  · rw [if_neg h3, if_neg (by omega)]
def kev (k : Int) : Evx := ⟨⟨k, 0, false, false, 0, 0, 0, 0, []⟩, none, 0, 0⟩
theorem kev_is {F : Nat → Option Obj} {k : Int} (h : 0 ≤ k ∧ k ≤ 11) : (kev k).Is F := ⟨⟨⟨h.1, by show k < 256; omega⟩, ⟨by show (0 : Int) ≤ 0; decide, by show (0 : Int) < 256; decide⟩, ⟨by show (0 : Int) ≤ 0; decide, by show (0 : Int) < 65536; decide⟩, ⟨by show _ ≤ (0 : Int); decide, by show (0 : Int) < _; decide⟩, ⟨by show _ ≤ (0 : Int); decide, by show (0 : Int) < _; decide⟩, ⟨by show _ ≤ (0 : Int); decide, by show (0 : Int) < _; decide⟩⟩, .nil, Nat.zero_le _⟩
def GuQ (ws : List Str) (v : Value) (H' : HL) : Prop := ∃ (x : Evx) (hb : HL), v = .agg x.cells.toArray ∧ x.e = gz ws ∧ OwnS 5 1 (x.e.bytes.map B) (.slice x.ba x.bn x.bc) hb ∧ H' = hb
structure GuG where
  k : Nat
set_option maxHeartbeats 16000000 in
theorem guess_tr (F : Nat → Option Obj) (w1 : Str) (wr : List Str) (sa : Option Addr) (n c : Nat) (hl : Lst F [] 1 ((w1 :: wr).map S) sa n c) (hb : ∀ w ∈ w1 :: wr, w.length ≤ 1000000000000) : Tr Tryz.prog 28 [.slice sa n c].toArray F [] (GuQ (w1 :: wr)) := by
  refine Tr.enter Tryz.func28 rfl Tryz.ntmps28 rfl (fun w0 => ?_)
  have hn : n = wr.length + 1 := by have := hl.len; simp at this; omega
  obtain ⟨b, o, rfl, hcan⟩ := hl.can (by omega)
  have get : ∀ (i : Nat) (w : Str), (w1 :: wr)[i]? = some w → Sl.Can F [] b (o + (i : Int).toNat * 1) [S w] := fun i w hw => by
    have := hcan.one (i := i) (v := S w) (by rw [List.getElem?_map, hw]; rfl)
    simpa using this
  have hC0 : Sl.Can F [] b (o + (0 : Int).toNat * 1) [.string (strB w1)] := get 0 w1 rfl
  have hia0 : 0 ≤ (0 : Int) ∧ (0 : Int) < n := by omega
  have hg1 := gk_one w1
  repeat' (first | refine S2b ?_ | refine S3 ?_ | refine SA (fun _ => ?_) | refine G1 (fun hc => ?_) (fun hc => ?_) | refine G2 (fun hc => ?_) (fun hc => ?_) | refine G3 (fun hc => ?_) (fun hc => ?_) | refine SL ?_ | fail)
  rename_i b2 b3
  refine W.loop (G := GuG) (fun g => [(0, .slice (some ⟨b, o, none⟩) n c), (2, .pointer (some ⟨b2, 0, none⟩)), (3, .pointer (some ⟨b3, 0, none⟩)), (4, .int .u8 g.k)]) (fun g => [(b3, .cells (kev (gk w1 g.k)).cells.toArray 26 (0, 0)), (b2, .cells (kev 0).cells.toArray 26 (0, 0))])
    (fun g => 1 ≤ g.k ∧ g.k ≤ 12) (fun g => 12 - g.k) ⟨1⟩ ⟨Nat.le_refl _, by decide⟩ envA (fun _ h => by dsimp only; rw [hg1]; exact h) ?_
  rintro ⟨k⟩ ⟨hk1, hk2⟩
  dsimp only at hk1 hk2 ⊢
  unfold kev Evx.cells
  dsimp only
  repeat' (first | refine S2b ?_ | refine S3 ?_ | refine SA (fun _ => ?_) | refine G1 (fun hc => ?_) (fun hc => ?_) | refine G2 (fun hc => ?_) (fun hc => ?_) | refine G3 (fun hc => ?_) (fun hc => ?_) | refine SL ?_ | fail)
  · have hk3 : k ≤ 11 := by simp at hc; omega
    clear hc
    have e : IntKind.u8.wrap ((k : Int) + 1) = ((k + 1 : Nat) : Int) := by rw [u8w]; omega
    refine W.drawA ?_
    repeat' (first | refine S2b ?_ | refine S3 ?_ | refine SA (fun _ => ?_) | refine G1 (fun hc => ?_) (fun hc => ?_) | refine G2 (fun hc => ?_) (fun hc => ?_) | refine G3 (fun hc => ?_) (fun hc => ?_) | refine SL ?_ | fail)
    refine WD.e rfl (Ef.lookR (by exact rfl) (fun F' hF => rword_tr F' [] k (by omega))) ?_
    rintro _ _ ⟨rfl, rfl⟩
    refine ⟨.inr (fun _ h => h), ?_⟩
    unfold S
    repeat' (first | refine S2b ?_ | refine S3 ?_ | refine SA (fun _ => ?_) | refine G1 (fun hc => ?_) (fun hc => ?_) | refine G2 (fun hc => ?_) (fun hc => ?_) | refine G3 (fun hc => ?_) (fun hc => ?_) | refine SL ?_ | fail)
    · rw [eqS_bool] at hc
      have hh := gk_hit hk1 hk3 (of_decide_eq_true hc)
      rw [e]
      exact Fin.round ⟨k + 1⟩ ⟨by dsimp only; omega, by dsimp only; omega⟩ envA (fun _ h => by dsimp only; rw [hh]; exact h) (by dsimp only; omega)
    · rw [eqS_bool] at hc
      have hh := gk_miss hk1 (of_decide_eq_false hc)
      rw [e]
      exact Fin.round ⟨k + 1⟩ ⟨by dsimp only; omega, by dsimp only; omega⟩ envA (fun _ h => by dsimp only; rw [hh]; exact h) (by dsimp only; omega)
  have hk3 : k = 12 := by simp at hc; omega
  clear hc
  subst hk3
  rw [gk_all]
  obtain ⟨kz, hkz⟩ : ∃ kz, kz = kindZ w1 := ⟨_, rfl⟩
  rw [← hkz]
  have hkl : 0 ≤ kz ∧ kz ≤ 11 := by rw [hkz]; exact kindZ_le w1
  repeat' (first | refine S2b ?_ | refine S3 ?_ | refine SA (fun _ => ?_) | refine G1 (fun hc => ?_) (fun hc => ?_) | refine G2 (fun hc => ?_) (fun hc => ?_) | refine G3 (fun hc => ?_) (fun hc => ?_) | refine SL ?_ | fail)
  refine WL.e rfl (Ef.callW (c := []) (by exact rfl) (Sub.nil _) (fun F' hF => only_tr F' (kev kz) (kev_is hkl) (Nat.zero_le _))) ?_
  rintro _ _ ⟨hg, ⟨y, ya, yn, yc, rfl, hy, hby, hown⟩, rfl⟩
  have hyn : yn = (fds kz).length + 1 := by
    have := (Lst.own (F := F) (H := hg) hown (fun _ h => h)).len
    simp [Evt.words, kev] at this
    omega
  clear hown
  by_cases hfl : (fds kz).length = wr.length
  case neg =>
    have hne : ¬ ((yn : Int) != (n : Int)) = false := fun h => by simp at h; omega
    repeat' (first | refine S2b ?_ | refine S3 ?_ | refine SA (fun _ => ?_) | refine G1 (fun hc => ?_) (fun hc => ?_) | refine G2 (fun hc => ?_) (fun hc => ?_) | refine G3 (fun hc => ?_) (fun hc => ?_) | refine SL ?_ | fail)
    all_goals first
    | contradiction
    | skip
    exact Fin.retW (by exact rfl) resA (H' := []) (fun _ h => h.sublist (List.nil_sublist _)) ⟨kev 0, [], rfl, by rw [gz_cons, ← hkz, if_neg hfl]; rfl, .inl ⟨rfl, rfl, rfl⟩, rfl⟩
  have hgz : gz (w1 :: wr) = ((fds kz).zip wr).foldl (fun o p => o.set p.1 (gv p.1 p.2)) { evt0 with kind := kz } := by rw [gz_cons, ← hkz, if_pos hfl]
  have hkc : kz = 0 ∨ kz = 1 ∨ kz = 2 ∨ kz = 3 ∨ kz = 4 ∨ kz = 5 ∨ kz = 6 ∨ kz = 7 ∨ kz = 8 ∨ kz = 9 ∨ kz = 10 ∨ kz = 11 := by omega
  clear hkz hkl hy
  rw [hfl] at hyn
  rcases hkc with rfl | rfl | rfl | rfl | rfl | rfl | rfl | rfl | rfl | rfl | rfl | rfl
  · have hwl : wr.length = 0 := hfl.symm
    obtain rfl := List.eq_nil_of_length_eq_zero hwl
    obtain rfl : yn = 1 := hyn
    obtain rfl : n = 1 := hn
    repeat' (first | refine S2b ?_ | refine S3 ?_ | refine SA (fun _ => ?_) | refine G1 (fun hc => ?_) (fun hc => ?_) | refine G2 (fun hc => ?_) (fun hc => ?_) | refine G3 (fun hc => ?_) (fun hc => ?_) | refine SL ?_ | fail)
    exact Fin.retW (by exact rfl) resA (H' := []) (fun _ h => h.sublist (List.nil_sublist _)) ⟨⟨⟨0, 0, false, false, 0, 0, 0, 0, []⟩, none, 0, 0⟩, [], rfl, by rw [hgz]; rfl, .inl ⟨rfl, rfl, rfl⟩, rfl⟩
  · have hwl : wr.length = 3 := hfl.symm
    obtain ⟨v1, v2, v3, rfl⟩ : ∃ v1 v2 v3, wr = [v1, v2, v3] := by
      match wr, hwl with
      | [v1, v2, v3], _ => exact ⟨_, _, _, rfl⟩
    have hC1 : Sl.Can F [] b (o + (1 : Int).toNat * 1) [.string (strB v1)] := get 1 v1 rfl
    have hia1 : 0 ≤ (1 : Int) ∧ (1 : Int) < ((4 : Nat) : Int) := by decide
    have hz1 : v1.length ≤ 1000000000000 := hb v1 (by simp)
    have hC2 : Sl.Can F [] b (o + (2 : Int).toNat * 1) [.string (strB v2)] := get 2 v2 rfl
    have hia2 : 0 ≤ (2 : Int) ∧ (2 : Int) < ((4 : Nat) : Int) := by decide
    have hz2 : v2.length ≤ 1000000000000 := hb v2 (by simp)
    have hC3 : Sl.Can F [] b (o + (3 : Int).toNat * 1) [.string (strB v3)] := get 3 v3 rfl
    have hia3 : 0 ≤ (3 : Int) ∧ (3 : Int) < ((4 : Nat) : Int) := by decide
    have hz3 : v3.length ≤ 1000000000000 := hb v3 (by simp)
    obtain rfl : yn = 4 := hyn
    obtain rfl : n = 4 := hn
    repeat' (first | refine S2b ?_ | refine S3 ?_ | refine SA (fun _ => ?_) | refine G1 (fun hc => ?_) (fun hc => ?_) | refine G2 (fun hc => ?_) (fun hc => ?_) | refine G3 (fun hc => ?_) (fun hc => ?_) | refine SL ?_ | fail)
    refine WL.e rfl (Ef.lookR (by exact rfl) (fun F' hF => value_tr F' [] _ (by assumption))) ?_
    rintro _ _ ⟨rfl, rfl⟩
    repeat' (first | refine S2b ?_ | refine S3 ?_ | refine SA (fun _ => ?_) | refine G1 (fun hc => ?_) (fun hc => ?_) | refine G2 (fun hc => ?_) (fun hc => ?_) | refine G3 (fun hc => ?_) (fun hc => ?_) | refine SL ?_ | fail)
    refine WL.e rfl (Ef.lookR (by exact rfl) (fun F' hF => value_tr F' [] _ (by assumption))) ?_
    rintro _ _ ⟨rfl, rfl⟩
    repeat' (first | refine S2b ?_ | refine S3 ?_ | refine SA (fun _ => ?_) | refine G1 (fun hc => ?_) (fun hc => ?_) | refine G2 (fun hc => ?_) (fun hc => ?_) | refine G3 (fun hc => ?_) (fun hc => ?_) | refine SL ?_ | fail)
    exact Fin.retW (by exact rfl) resA (H' := []) (fun _ h => h.sublist (List.nil_sublist _)) ⟨⟨⟨1, IntKind.u8.wrap (valZ v1), (strB v2).toList == (strB [121, 101, 115]).toList, false, 0, 0, valZ v3, 0, []⟩, none, 0, 0⟩, [], rfl, by rw [hgz]; show Evt.mk (1) (IntKind.u8.wrap (valZ v1)) ((strB v2).toList == (strB [121, 101, 115]).toList) (false) (0) (0) (valZ v3) (0) ([]) = _; rw [u8w, eqS_bool]; rfl, .inl ⟨rfl, rfl, rfl⟩, rfl⟩
  · have hwl : wr.length = 5 := hfl.symm
    obtain ⟨v1, v2, v3, v4, v5, rfl⟩ : ∃ v1 v2 v3 v4 v5, wr = [v1, v2, v3, v4, v5] := by
      match wr, hwl with
      | [v1, v2, v3, v4, v5], _ => exact ⟨_, _, _, _, _, rfl⟩
    have hC1 : Sl.Can F [] b (o + (1 : Int).toNat * 1) [.string (strB v1)] := get 1 v1 rfl
    have hia1 : 0 ≤ (1 : Int) ∧ (1 : Int) < ((6 : Nat) : Int) := by decide
    have hz1 : v1.length ≤ 1000000000000 := hb v1 (by simp)
    have hC2 : Sl.Can F [] b (o + (2 : Int).toNat * 1) [.string (strB v2)] := get 2 v2 rfl
    have hia2 : 0 ≤ (2 : Int) ∧ (2 : Int) < ((6 : Nat) : Int) := by decide
    have hz2 : v2.length ≤ 1000000000000 := hb v2 (by simp)
    have hC3 : Sl.Can F [] b (o + (3 : Int).toNat * 1) [.string (strB v3)] := get 3 v3 rfl
    have hia3 : 0 ≤ (3 : Int) ∧ (3 : Int) < ((6 : Nat) : Int) := by decide
    have hz3 : v3.length ≤ 1000000000000 := hb v3 (by simp)
    have hC4 : Sl.Can F [] b (o + (4 : Int).toNat * 1) [.string (strB v4)] := get 4 v4 rfl
    have hia4 : 0 ≤ (4 : Int) ∧ (4 : Int) < ((6 : Nat) : Int) := by decide
    have hz4 : v4.length ≤ 1000000000000 := hb v4 (by simp)
    have hC5 : Sl.Can F [] b (o + (5 : Int).toNat * 1) [.string (strB v5)] := get 5 v5 rfl
    have hia5 : 0 ≤ (5 : Int) ∧ (5 : Int) < ((6 : Nat) : Int) := by decide
    have hz5 : v5.length ≤ 1000000000000 := hb v5 (by simp)
    obtain rfl : yn = 6 := hyn
    obtain rfl : n = 6 := hn
    repeat' (first | refine S2b ?_ | refine S3 ?_ | refine SA (fun _ => ?_) | refine G1 (fun hc => ?_) (fun hc => ?_) | refine G2 (fun hc => ?_) (fun hc => ?_) | refine G3 (fun hc => ?_) (fun hc => ?_) | refine SL ?_ | fail)
    refine WL.e rfl (Ef.lookR (by exact rfl) (fun F' hF => value_tr F' [] _ (by assumption))) ?_
    rintro _ _ ⟨rfl, rfl⟩
    repeat' (first | refine S2b ?_ | refine S3 ?_ | refine SA (fun _ => ?_) | refine G1 (fun hc => ?_) (fun hc => ?_) | refine G2 (fun hc => ?_) (fun hc => ?_) | refine G3 (fun hc => ?_) (fun hc => ?_) | refine SL ?_ | fail)
    refine WL.e rfl (Ef.lookR (by exact rfl) (fun F' hF => value_tr F' [] _ (by assumption))) ?_
    rintro _ _ ⟨rfl, rfl⟩
    repeat' (first | refine S2b ?_ | refine S3 ?_ | refine SA (fun _ => ?_) | refine G1 (fun hc => ?_) (fun hc => ?_) | refine G2 (fun hc => ?_) (fun hc => ?_) | refine G3 (fun hc => ?_) (fun hc => ?_) | refine SL ?_ | fail)
    refine WL.e rfl (Ef.lookR (by exact rfl) (fun F' hF => value_tr F' [] _ (by assumption))) ?_
    rintro _ _ ⟨rfl, rfl⟩
    repeat' (first | refine S2b ?_ | refine S3 ?_ | refine SA (fun _ => ?_) | refine G1 (fun hc => ?_) (fun hc => ?_) | refine G2 (fun hc => ?_) (fun hc => ?_) | refine G3 (fun hc => ?_) (fun hc => ?_) | refine SL ?_ | fail)
    refine WL.e rfl (Ef.callW (c := []) (by exact rfl) (Sub.nil _) (fun F' hF => bytesOf_tr F' v5 hz5)) ?_
    rintro _ _ ⟨hbb, ⟨za, zn, zc, rfl, hown⟩, rfl⟩
    repeat' (first | refine S2b ?_ | refine S3 ?_ | refine SA (fun _ => ?_) | refine G1 (fun hc => ?_) (fun hc => ?_) | refine G2 (fun hc => ?_) (fun hc => ?_) | refine G3 (fun hc => ?_) (fun hc => ?_) | refine SL ?_ | fail)
    exact Fin.retW (by exact rfl) resA (H' := hbb) (fun _ h => h.sublist (List.sublist_append_left _ _)) ⟨⟨⟨2, IntKind.u8.wrap (valZ v1), false, (strB v3).toList == (strB [121, 101, 115]).toList, IntKind.u16.wrap (valZ v2), 0, 0, valZ v4, unhexs v5⟩, za, zn, zc⟩, hbb, rfl, by rw [hgz]; show Evt.mk (2) (IntKind.u8.wrap (valZ v1)) (false) ((strB v3).toList == (strB [121, 101, 115]).toList) (IntKind.u16.wrap (valZ v2)) (0) (0) (valZ v4) (unhexs v5) = _; rw [u8w, u16w, eqS_bool]; rfl, hown, rfl⟩
  · have hwl : wr.length = 1 := hfl.symm
    obtain ⟨v1, rfl⟩ : ∃ v1, wr = [v1] := by
      match wr, hwl with
      | [v1], _ => exact ⟨_, rfl⟩
    have hC1 : Sl.Can F [] b (o + (1 : Int).toNat * 1) [.string (strB v1)] := get 1 v1 rfl
    have hia1 : 0 ≤ (1 : Int) ∧ (1 : Int) < ((2 : Nat) : Int) := by decide
    have hz1 : v1.length ≤ 1000000000000 := hb v1 (by simp)
    obtain rfl : yn = 2 := hyn
    obtain rfl : n = 2 := hn
    repeat' (first | refine S2b ?_ | refine S3 ?_ | refine SA (fun _ => ?_) | refine G1 (fun hc => ?_) (fun hc => ?_) | refine G2 (fun hc => ?_) (fun hc => ?_) | refine G3 (fun hc => ?_) (fun hc => ?_) | refine SL ?_ | fail)
    refine WL.e rfl (Ef.lookR (by exact rfl) (fun F' hF => value_tr F' [] _ (by assumption))) ?_
    rintro _ _ ⟨rfl, rfl⟩
    repeat' (first | refine S2b ?_ | refine S3 ?_ | refine SA (fun _ => ?_) | refine G1 (fun hc => ?_) (fun hc => ?_) | refine G2 (fun hc => ?_) (fun hc => ?_) | refine G3 (fun hc => ?_) (fun hc => ?_) | refine SL ?_ | fail)
    exact Fin.retW (by exact rfl) resA (H' := []) (fun _ h => h.sublist (List.nil_sublist _)) ⟨⟨⟨3, IntKind.u8.wrap (valZ v1), false, false, 0, 0, 0, 0, []⟩, none, 0, 0⟩, [], rfl, by rw [hgz]; show Evt.mk (3) (IntKind.u8.wrap (valZ v1)) (false) (false) (0) (0) (0) (0) ([]) = _; rw [u8w]; rfl, .inl ⟨rfl, rfl, rfl⟩, rfl⟩
  · have hwl : wr.length = 1 := hfl.symm
    obtain ⟨v1, rfl⟩ : ∃ v1, wr = [v1] := by
      match wr, hwl with
      | [v1], _ => exact ⟨_, rfl⟩
    have hC1 : Sl.Can F [] b (o + (1 : Int).toNat * 1) [.string (strB v1)] := get 1 v1 rfl
    have hia1 : 0 ≤ (1 : Int) ∧ (1 : Int) < ((2 : Nat) : Int) := by decide
    have hz1 : v1.length ≤ 1000000000000 := hb v1 (by simp)
    obtain rfl : yn = 2 := hyn
    obtain rfl : n = 2 := hn
    repeat' (first | refine S2b ?_ | refine S3 ?_ | refine SA (fun _ => ?_) | refine G1 (fun hc => ?_) (fun hc => ?_) | refine G2 (fun hc => ?_) (fun hc => ?_) | refine G3 (fun hc => ?_) (fun hc => ?_) | refine SL ?_ | fail)
    refine WL.e rfl (Ef.lookR (by exact rfl) (fun F' hF => value_tr F' [] _ (by assumption))) ?_
    rintro _ _ ⟨rfl, rfl⟩
    repeat' (first | refine S2b ?_ | refine S3 ?_ | refine SA (fun _ => ?_) | refine G1 (fun hc => ?_) (fun hc => ?_) | refine G2 (fun hc => ?_) (fun hc => ?_) | refine G3 (fun hc => ?_) (fun hc => ?_) | refine SL ?_ | fail)
    exact Fin.retW (by exact rfl) resA (H' := []) (fun _ h => h.sublist (List.nil_sublist _)) ⟨⟨⟨4, IntKind.u8.wrap (valZ v1), false, false, 0, 0, 0, 0, []⟩, none, 0, 0⟩, [], rfl, by rw [hgz]; show Evt.mk (4) (IntKind.u8.wrap (valZ v1)) (false) (false) (0) (0) (0) (0) ([]) = _; rw [u8w]; rfl, .inl ⟨rfl, rfl, rfl⟩, rfl⟩
  · have hwl : wr.length = 1 := hfl.symm
    obtain ⟨v1, rfl⟩ : ∃ v1, wr = [v1] := by
      match wr, hwl with
      | [v1], _ => exact ⟨_, rfl⟩
    have hC1 : Sl.Can F [] b (o + (1 : Int).toNat * 1) [.string (strB v1)] := get 1 v1 rfl
    have hia1 : 0 ≤ (1 : Int) ∧ (1 : Int) < ((2 : Nat) : Int) := by decide
    have hz1 : v1.length ≤ 1000000000000 := hb v1 (by simp)
    obtain rfl : yn = 2 := hyn
    obtain rfl : n = 2 := hn
    repeat' (first | refine S2b ?_ | refine S3 ?_ | refine SA (fun _ => ?_) | refine G1 (fun hc => ?_) (fun hc => ?_) | refine G2 (fun hc => ?_) (fun hc => ?_) | refine G3 (fun hc => ?_) (fun hc => ?_) | refine SL ?_ | fail)
    refine WL.e rfl (Ef.lookR (by exact rfl) (fun F' hF => value_tr F' [] _ (by assumption))) ?_
    rintro _ _ ⟨rfl, rfl⟩
    repeat' (first | refine S2b ?_ | refine S3 ?_ | refine SA (fun _ => ?_) | refine G1 (fun hc => ?_) (fun hc => ?_) | refine G2 (fun hc => ?_) (fun hc => ?_) | refine G3 (fun hc => ?_) (fun hc => ?_) | refine SL ?_ | fail)
    exact Fin.retW (by exact rfl) resA (H' := []) (fun _ h => h.sublist (List.nil_sublist _)) ⟨⟨⟨5, IntKind.u8.wrap (valZ v1), false, false, 0, 0, 0, 0, []⟩, none, 0, 0⟩, [], rfl, by rw [hgz]; show Evt.mk (5) (IntKind.u8.wrap (valZ v1)) (false) (false) (0) (0) (0) (0) ([]) = _; rw [u8w]; rfl, .inl ⟨rfl, rfl, rfl⟩, rfl⟩
  · have hwl : wr.length = 1 := hfl.symm
    obtain ⟨v1, rfl⟩ : ∃ v1, wr = [v1] := by
      match wr, hwl with
      | [v1], _ => exact ⟨_, rfl⟩
    have hC1 : Sl.Can F [] b (o + (1 : Int).toNat * 1) [.string (strB v1)] := get 1 v1 rfl
    have hia1 : 0 ≤ (1 : Int) ∧ (1 : Int) < ((2 : Nat) : Int) := by decide
    have hz1 : v1.length ≤ 1000000000000 := hb v1 (by simp)
    obtain rfl : yn = 2 := hyn
    obtain rfl : n = 2 := hn
    repeat' (first | refine S2b ?_ | refine S3 ?_ | refine SA (fun _ => ?_) | refine G1 (fun hc => ?_) (fun hc => ?_) | refine G2 (fun hc => ?_) (fun hc => ?_) | refine G3 (fun hc => ?_) (fun hc => ?_) | refine SL ?_ | fail)
    refine WL.e rfl (Ef.lookR (by exact rfl) (fun F' hF => value_tr F' [] _ (by assumption))) ?_
    rintro _ _ ⟨rfl, rfl⟩
    repeat' (first | refine S2b ?_ | refine S3 ?_ | refine SA (fun _ => ?_) | refine G1 (fun hc => ?_) (fun hc => ?_) | refine G2 (fun hc => ?_) (fun hc => ?_) | refine G3 (fun hc => ?_) (fun hc => ?_) | refine SL ?_ | fail)
    exact Fin.retW (by exact rfl) resA (H' := []) (fun _ h => h.sublist (List.nil_sublist _)) ⟨⟨⟨6, 0, false, false, 0, 0, valZ v1, 0, []⟩, none, 0, 0⟩, [], rfl, by rw [hgz]; rfl, .inl ⟨rfl, rfl, rfl⟩, rfl⟩
  · have hwl : wr.length = 1 := hfl.symm
    obtain ⟨v1, rfl⟩ : ∃ v1, wr = [v1] := by
      match wr, hwl with
      | [v1], _ => exact ⟨_, rfl⟩
    have hC1 : Sl.Can F [] b (o + (1 : Int).toNat * 1) [.string (strB v1)] := get 1 v1 rfl
    have hia1 : 0 ≤ (1 : Int) ∧ (1 : Int) < ((2 : Nat) : Int) := by decide
    have hz1 : v1.length ≤ 1000000000000 := hb v1 (by simp)
    obtain rfl : yn = 2 := hyn
    obtain rfl : n = 2 := hn
    repeat' (first | refine S2b ?_ | refine S3 ?_ | refine SA (fun _ => ?_) | refine G1 (fun hc => ?_) (fun hc => ?_) | refine G2 (fun hc => ?_) (fun hc => ?_) | refine G3 (fun hc => ?_) (fun hc => ?_) | refine SL ?_ | fail)
    refine WL.e rfl (Ef.lookR (by exact rfl) (fun F' hF => value_tr F' [] _ (by assumption))) ?_
    rintro _ _ ⟨rfl, rfl⟩
    repeat' (first | refine S2b ?_ | refine S3 ?_ | refine SA (fun _ => ?_) | refine G1 (fun hc => ?_) (fun hc => ?_) | refine G2 (fun hc => ?_) (fun hc => ?_) | refine G3 (fun hc => ?_) (fun hc => ?_) | refine SL ?_ | fail)
    exact Fin.retW (by exact rfl) resA (H' := []) (fun _ h => h.sublist (List.nil_sublist _)) ⟨⟨⟨7, 0, false, false, 0, 0, valZ v1, 0, []⟩, none, 0, 0⟩, [], rfl, by rw [hgz]; rfl, .inl ⟨rfl, rfl, rfl⟩, rfl⟩
  · have hwl : wr.length = 1 := hfl.symm
    obtain ⟨v1, rfl⟩ : ∃ v1, wr = [v1] := by
      match wr, hwl with
      | [v1], _ => exact ⟨_, rfl⟩
    have hC1 : Sl.Can F [] b (o + (1 : Int).toNat * 1) [.string (strB v1)] := get 1 v1 rfl
    have hia1 : 0 ≤ (1 : Int) ∧ (1 : Int) < ((2 : Nat) : Int) := by decide
    have hz1 : v1.length ≤ 1000000000000 := hb v1 (by simp)
    obtain rfl : yn = 2 := hyn
    obtain rfl : n = 2 := hn
    repeat' (first | refine S2b ?_ | refine S3 ?_ | refine SA (fun _ => ?_) | refine G1 (fun hc => ?_) (fun hc => ?_) | refine G2 (fun hc => ?_) (fun hc => ?_) | refine G3 (fun hc => ?_) (fun hc => ?_) | refine SL ?_ | fail)
    refine WL.e rfl (Ef.lookR (by exact rfl) (fun F' hF => value_tr F' [] _ (by assumption))) ?_
    rintro _ _ ⟨rfl, rfl⟩
    repeat' (first | refine S2b ?_ | refine S3 ?_ | refine SA (fun _ => ?_) | refine G1 (fun hc => ?_) (fun hc => ?_) | refine G2 (fun hc => ?_) (fun hc => ?_) | refine G3 (fun hc => ?_) (fun hc => ?_) | refine SL ?_ | fail)
    exact Fin.retW (by exact rfl) resA (H' := []) (fun _ h => h.sublist (List.nil_sublist _)) ⟨⟨⟨8, 0, false, false, 0, 0, valZ v1, 0, []⟩, none, 0, 0⟩, [], rfl, by rw [hgz]; rfl, .inl ⟨rfl, rfl, rfl⟩, rfl⟩
  · have hwl : wr.length = 2 := hfl.symm
    obtain ⟨v1, v2, rfl⟩ : ∃ v1 v2, wr = [v1, v2] := by
      match wr, hwl with
      | [v1, v2], _ => exact ⟨_, _, rfl⟩
    have hC1 : Sl.Can F [] b (o + (1 : Int).toNat * 1) [.string (strB v1)] := get 1 v1 rfl
    have hia1 : 0 ≤ (1 : Int) ∧ (1 : Int) < ((3 : Nat) : Int) := by decide
    have hz1 : v1.length ≤ 1000000000000 := hb v1 (by simp)
    have hC2 : Sl.Can F [] b (o + (2 : Int).toNat * 1) [.string (strB v2)] := get 2 v2 rfl
    have hia2 : 0 ≤ (2 : Int) ∧ (2 : Int) < ((3 : Nat) : Int) := by decide
    have hz2 : v2.length ≤ 1000000000000 := hb v2 (by simp)
    obtain rfl : yn = 3 := hyn
    obtain rfl : n = 3 := hn
    repeat' (first | refine S2b ?_ | refine S3 ?_ | refine SA (fun _ => ?_) | refine G1 (fun hc => ?_) (fun hc => ?_) | refine G2 (fun hc => ?_) (fun hc => ?_) | refine G3 (fun hc => ?_) (fun hc => ?_) | refine SL ?_ | fail)
    refine WL.e rfl (Ef.lookR (by exact rfl) (fun F' hF => value_tr F' [] _ (by assumption))) ?_
    rintro _ _ ⟨rfl, rfl⟩
    repeat' (first | refine S2b ?_ | refine S3 ?_ | refine SA (fun _ => ?_) | refine G1 (fun hc => ?_) (fun hc => ?_) | refine G2 (fun hc => ?_) (fun hc => ?_) | refine G3 (fun hc => ?_) (fun hc => ?_) | refine SL ?_ | fail)
    refine WL.e rfl (Ef.lookR (by exact rfl) (fun F' hF => value_tr F' [] _ (by assumption))) ?_
    rintro _ _ ⟨rfl, rfl⟩
    repeat' (first | refine S2b ?_ | refine S3 ?_ | refine SA (fun _ => ?_) | refine G1 (fun hc => ?_) (fun hc => ?_) | refine G2 (fun hc => ?_) (fun hc => ?_) | refine G3 (fun hc => ?_) (fun hc => ?_) | refine SL ?_ | fail)
    exact Fin.retW (by exact rfl) resA (H' := []) (fun _ h => h.sublist (List.nil_sublist _)) ⟨⟨⟨9, 0, false, false, 0, 0, valZ v1, valZ v2, []⟩, none, 0, 0⟩, [], rfl, by rw [hgz]; rfl, .inl ⟨rfl, rfl, rfl⟩, rfl⟩
  · have hwl : wr.length = 2 := hfl.symm
    obtain ⟨v1, v2, rfl⟩ : ∃ v1 v2, wr = [v1, v2] := by
      match wr, hwl with
      | [v1, v2], _ => exact ⟨_, _, rfl⟩
    have hC1 : Sl.Can F [] b (o + (1 : Int).toNat * 1) [.string (strB v1)] := get 1 v1 rfl
    have hia1 : 0 ≤ (1 : Int) ∧ (1 : Int) < ((3 : Nat) : Int) := by decide
    have hz1 : v1.length ≤ 1000000000000 := hb v1 (by simp)
    have hC2 : Sl.Can F [] b (o + (2 : Int).toNat * 1) [.string (strB v2)] := get 2 v2 rfl
    have hia2 : 0 ≤ (2 : Int) ∧ (2 : Int) < ((3 : Nat) : Int) := by decide
    have hz2 : v2.length ≤ 1000000000000 := hb v2 (by simp)
    obtain rfl : yn = 3 := hyn
    obtain rfl : n = 3 := hn
    repeat' (first | refine S2b ?_ | refine S3 ?_ | refine SA (fun _ => ?_) | refine G1 (fun hc => ?_) (fun hc => ?_) | refine G2 (fun hc => ?_) (fun hc => ?_) | refine G3 (fun hc => ?_) (fun hc => ?_) | refine SL ?_ | fail)
    refine WL.e rfl (Ef.lookR (by exact rfl) (fun F' hF => value_tr F' [] _ (by assumption))) ?_
    rintro _ _ ⟨rfl, rfl⟩
    repeat' (first | refine S2b ?_ | refine S3 ?_ | refine SA (fun _ => ?_) | refine G1 (fun hc => ?_) (fun hc => ?_) | refine G2 (fun hc => ?_) (fun hc => ?_) | refine G3 (fun hc => ?_) (fun hc => ?_) | refine SL ?_ | fail)
    exact Fin.retW (by exact rfl) resA (H' := []) (fun _ h => h.sublist (List.nil_sublist _)) ⟨⟨⟨10, 0, (strB v2).toList == (strB [121, 101, 115]).toList, false, 0, valZ v1, 0, 0, []⟩, none, 0, 0⟩, [], rfl, by rw [hgz]; show Evt.mk (10) (0) ((strB v2).toList == (strB [121, 101, 115]).toList) (false) (0) (valZ v1) (0) (0) ([]) = _; rw [eqS_bool]; rfl, .inl ⟨rfl, rfl, rfl⟩, rfl⟩
  · have hwl : wr.length = 3 := hfl.symm
    obtain ⟨v1, v2, v3, rfl⟩ : ∃ v1 v2 v3, wr = [v1, v2, v3] := by
      match wr, hwl with
      | [v1, v2, v3], _ => exact ⟨_, _, _, rfl⟩
    have hC1 : Sl.Can F [] b (o + (1 : Int).toNat * 1) [.string (strB v1)] := get 1 v1 rfl
    have hia1 : 0 ≤ (1 : Int) ∧ (1 : Int) < ((4 : Nat) : Int) := by decide
    have hz1 : v1.length ≤ 1000000000000 := hb v1 (by simp)
    have hC2 : Sl.Can F [] b (o + (2 : Int).toNat * 1) [.string (strB v2)] := get 2 v2 rfl
    have hia2 : 0 ≤ (2 : Int) ∧ (2 : Int) < ((4 : Nat) : Int) := by decide
    have hz2 : v2.length ≤ 1000000000000 := hb v2 (by simp)
    have hC3 : Sl.Can F [] b (o + (3 : Int).toNat * 1) [.string (strB v3)] := get 3 v3 rfl
    have hia3 : 0 ≤ (3 : Int) ∧ (3 : Int) < ((4 : Nat) : Int) := by decide
    have hz3 : v3.length ≤ 1000000000000 := hb v3 (by simp)
    obtain rfl : yn = 4 := hyn
    obtain rfl : n = 4 := hn
    repeat' (first | refine S2b ?_ | refine S3 ?_ | refine SA (fun _ => ?_) | refine G1 (fun hc => ?_) (fun hc => ?_) | refine G2 (fun hc => ?_) (fun hc => ?_) | refine G3 (fun hc => ?_) (fun hc => ?_) | refine SL ?_ | fail)
    refine WL.e rfl (Ef.lookR (by exact rfl) (fun F' hF => value_tr F' [] _ (by assumption))) ?_
    rintro _ _ ⟨rfl, rfl⟩
    repeat' (first | refine S2b ?_ | refine S3 ?_ | refine SA (fun _ => ?_) | refine G1 (fun hc => ?_) (fun hc => ?_) | refine G2 (fun hc => ?_) (fun hc => ?_) | refine G3 (fun hc => ?_) (fun hc => ?_) | refine SL ?_ | fail)
    refine WL.e rfl (Ef.lookR (by exact rfl) (fun F' hF => value_tr F' [] _ (by assumption))) ?_
    rintro _ _ ⟨rfl, rfl⟩
    repeat' (first | refine S2b ?_ | refine S3 ?_ | refine SA (fun _ => ?_) | refine G1 (fun hc => ?_) (fun hc => ?_) | refine G2 (fun hc => ?_) (fun hc => ?_) | refine G3 (fun hc => ?_) (fun hc => ?_) | refine SL ?_ | fail)
    refine WL.e rfl (Ef.callW (c := []) (by exact rfl) (Sub.nil _) (fun F' hF => bytesOf_tr F' v3 hz3)) ?_
    rintro _ _ ⟨hbb, ⟨za, zn, zc, rfl, hown⟩, rfl⟩
    repeat' (first | refine S2b ?_ | refine S3 ?_ | refine SA (fun _ => ?_) | refine G1 (fun hc => ?_) (fun hc => ?_) | refine G2 (fun hc => ?_) (fun hc => ?_) | refine G3 (fun hc => ?_) (fun hc => ?_) | refine SL ?_ | fail)
    exact Fin.retW (by exact rfl) resA (H' := hbb) (fun _ h => h.sublist (List.sublist_append_left _ _)) ⟨⟨⟨11, IntKind.u8.wrap (valZ v1), false, false, 0, valZ v2, 0, 0, unhexs v3⟩, za, zn, zc⟩, hbb, rfl, by rw [hgz]; show Evt.mk (11) (IntKind.u8.wrap (valZ v1)) (false) (false) (0) (valZ v2) (0) (0) (unhexs v3) = _; rw [u8w]; rfl, hown, rfl⟩
end Go.Proofs.YtjcekmiengnglaaGreatDoor
