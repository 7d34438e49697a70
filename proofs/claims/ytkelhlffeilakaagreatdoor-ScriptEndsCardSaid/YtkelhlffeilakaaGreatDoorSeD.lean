/- The law ScriptEnds, walked. Conditions: what the law's run of works answers. -/
import Derived.Test.YtkelhlffeilakaaGreatDoorBuD
import Derived.Test.YtkelhlffeilakaaGreatDoorSeC
import Derived.Test.YtkelhlffeilakaaGreatDoorStK
import Derived.Test.YtkelhlffeilakaaGreatDoorBuL
import Derived.Test.YtkelhlffeilakaaGreatDoorBuK
namespace Go.Proofs.YtkelhlffeilakaaGreatDoor
open Go Go.Sl Go.Scr

/-- the law's run, whatever else is in memory -/
def WorksE (F : Nat → Option Obj) : Prop := ∀ Hr : HL, (∀ p ∈ Hr, F p.1 = none) → Tr Tryz.prog 8 ([] : List Value).toArray (addF F Hr) [] (fun v _ => v = .bool true)
/-- idle lines, so many -/
def idleT (h : Str) : Nat → List Str
  | 0 => []
  | k + 1 => idleT h k ++ [if k % 2 = 0 then 35 :: h else []]
theorem idleT_len (h : Str) : ∀ k, (idleT h k).length = k
  | 0 => rfl
  | k + 1 => by simp [idleT, idleT_len h k]
theorem idleT_mem {h : Str} (hn : (10 : UInt8) ∉ h) : ∀ {k : Nat}, ∀ l ∈ idleT h k, (10 : UInt8) ∉ l ∧ Scr.idle l = true ∧ l.length ≤ h.length + 1
  | 0, l, hl => by cases hl
  | k + 1, l, hl => by
    rcases List.mem_append.1 hl with hl | hl
    · exact idleT_mem hn l hl
    · rw [List.mem_singleton] at hl
      split at hl <;> subst hl
      · exact ⟨by simp [hn], rfl, by simp⟩
      · exact ⟨by simp, rfl, by simp⟩
theorem split_tail {c : UInt8} {s : Str} (hs : c ∉ s) : ∀ {ls : List Str}, (∀ l ∈ ls, c ∉ l) → c = 10 → split c (glue ls ++ s) = ls ++ [s]
  | [], _, _ => split_one hs
  | l :: ls, h, hc => by
    subst hc
    rw [glue, List.append_assoc, List.cons_append, split_app (h l List.mem_cons_self), split_tail hs (fun m hm => h m (List.mem_cons_of_mem _ hm)) rfl]
    rfl
theorem pgo_idle : ∀ (l : List Str), (∀ s ∈ l, Scr.idle s = true) → Pgo l ⟨none, []⟩ := by
  intro l
  have key : ∀ (n : Nat) (l : List Str), l.length = n → (∀ s ∈ l, Scr.idle s = true) → Pgo l ⟨none, []⟩ := by
    intro n
    induction n with
    | zero =>
      intro l hl _
      have := List.eq_nil_of_length_eq_zero hl
      subst this
      exact .nil
    | succ n ih =>
      intro l hl h
      rcases List.eq_nil_or_concat l with e | ⟨m, s, e⟩
      · subst e; cases hl
      · subst e
        rw [List.concat_eq_append] at hl h ⊢
        exact .snoc (ih m (by simp at hl; omega) (fun s hs => h s (List.mem_append_left _ hs))) (.idle (h s (by simp)))
  exact key _ l rfl
/-- some idle lines, and a config's -/
theorem text_ends {c : List Int} (hl : c.length = 14) (hi : ∀ x ∈ c, I64 x) (k : Nat) : Text (glue (idleT (head c) k) ++ head c) (.inr (k, c, [])) := by
  have hm := fun l h => idleT_mem (head_no c) (k := k) l h
  have hne : head c ≠ [] := fun h => by have := idle_head c; rw [h] at this; cases this
  have hlines : lines (glue (idleT (head c) k) ++ head c) = idleT (head c) k ++ [head c] := by
    unfold lines
    rw [split_tail (head_no c) (fun l h => (hm l h).1) rfl, if_neg (by simp [hne])]
  have h1 := pgo_idle (idleT (head c) k) (fun s hs => (hm s hs).2.1)
  have h2 : Pgo (idleT (head c) k ++ [head c]) ⟨some (k, c), []⟩ := .snoc h1 (by rw [idleT_len]; exact .head (idle_head c) rfl ⟨hl, hi, rfl⟩)
  rw [← hlines] at h2
  exact Text.some h2 rfl
structure EdG where
  i : Nat
set_option maxHeartbeats 16000000 in
theorem ends_tr (F : Nat → Option Obj) (hG : Gl F) (hW : WorksE F) (c d : List Int) (hc : c.length = 14) (hi : ∀ x ∈ c, I64 x) (hd : d.length = 14) (hj : ∀ x ∈ d, I64 x) (q : Int) (hq : 0 ≤ q ∧ q < 256) :
    Tr Tryz.prog 3 [.agg (ccells c).toArray, .agg (ccells d).toArray, .int .u8 q].toArray F [] (fun v H => v = .bool true ∧ H = []) := by
  refine Tr.enter Tryz.func3 rfl Tryz.ntmps3 rfl (fun w0 => ?_)
  have hhl := head_len hc hi
  have h1 := fun F' (g : Gl F') => head_tr F' g c hc hi
  have h2 := fun F' (g : Gl F') => head_tr F' g d hd hj
  have h3 := fun F' => rhead_tr F' c hc hi
  have h4 := fun F' => netNew_tr F' c hc
  have hT := fun k => text_ends hc hi k
  have hid := fun k l h => idleT_mem (head_no c) (k := k) l h
  have hcd : decide (head c = head d) = decide (c = d) := decide_eq_decide.2 ⟨head_inj, fun h => by rw [h]⟩
  obtain ⟨okc, hokc⟩ : ∃ p, p = endOkC c := ⟨_, rfl⟩
  have hR : ∀ F', Gl F' → ∀ t : Str, t.length ≤ 1000000 → ∀ k, Text t (.inr (k, c, [])) → Tr Tryz.prog 6 [S t].toArray F' [] (fun v H' => ((okc ∧ v = tup [S [], .int .i64 0, .int .i64 0]) ∨ (¬ okc ∧ v = tup [S [], .int .i64 k, .int .i64 1])) ∧ H' = []) := fun F' g t ht k hk => by
    rw [hokc]
    refine (run_tr F' g (endM F') t ht (fun k1 c1 ev1 h => by cases h.inj hk; rfl)).mono ?_
    rintro v H' ⟨h, rfl⟩
    refine ⟨?_, rfl⟩
    rcases h with ⟨j, h1, _⟩ | ⟨k1, c1, ev1, h1, h2⟩
    · cases h1.inj hk
    · cases h1.inj hk
      rcases h2 with ⟨e, _, ⟨rfl, hno⟩, rfl⟩ | ⟨s, ts, s', h0, hr, hl, rfl⟩
      · exact .inr ⟨hno, rfl⟩
      · refine .inl ⟨h0, ?_⟩
        have : ts = [] := List.eq_nil_of_length_eq_zero (by simpa using hl)
        subst this
        rfl
  rw [← hokc] at h4
  obtain ⟨s, hs⟩ : ∃ s, s = head c := ⟨_, rfl⟩
  obtain ⟨t, ht⟩ : ∃ t, t = head d := ⟨_, rfl⟩
  rw [← hs] at h1 h3 hT hid hhl
  rw [← ht] at h2
  rw [← hs, ← ht] at hcd
  have hc0 := hc
  have hd0 := hd
  obtain ⟨a0, a1, a2, a3, a4, a5, a6, a7, a8, a9, a10, a11, a12, a13, rfl⟩ := list14 hc
  obtain ⟨b0, b1, b2, b3, b4, b5, b6, b7, b8, b9, b10, b11, b12, b13, rfl⟩ := list14 hd
  clear hc hd
  unfold ccells at h1 h2 h3 h4 ⊢
  simp only [List.map_cons, List.map_nil] at h1 h2 h3 h4 ⊢
  have htl : t.length ≤ 345 := by rw [ht]; exact head_len hd0 hj
  refine SP ?_; repeat' (first|refine ⟨fun hc=>?_,fun hc=>?_⟩|intro)
  rename_i p1 p2
  refine WL.e rfl (Ef.lookR (by exact rfl) (fun F' hF => h1 F' (hG.at hF))) ?_
  rintro _ _ ⟨rfl, rfl⟩
  unfold S at *
  refine SP ?_; repeat' (first|refine ⟨fun hc=>?_,fun hc=>?_⟩|intro)
  refine W.drawA ?_
  refine SP ?_; repeat' (first|refine ⟨fun hc=>?_,fun hc=>?_⟩|intro)
  refine WD.e rfl (Ef.lookR (by exact rfl) (fun F' hF => h3 F')) ?_
  rintro _ _ ⟨rfl, rfl⟩
  refine ⟨.inr (fun _ h => h), ?_⟩
  refine SP ?_; repeat' (first|refine ⟨fun hc=>?_,fun hc=>?_⟩|intro)
  · exfalso
    rw [eqS_bool] at hc
    simp at hc
  clear hc
  refine WD.e rfl (Ef.lookR (by exact rfl) (fun F' hF => h2 F' (hG.at hF))) ?_
  rintro _ _ ⟨rfl, rfl⟩
  refine ⟨.inr (fun _ h => h), ?_⟩
  refine SP ?_; repeat' (first|refine ⟨fun hc=>?_,fun hc=>?_⟩|intro)
  refine WD.p rfl (Pu.eqCfg (c := [a0, a1, a2, a3, a4, a5, a6, a7, a8, a9, a10, a11, a12, a13]) (d := [b0, b1, b2, b3, b4, b5, b6, b7, b8, b9, b10, b11, b12, b13]) rfl rfl rfl hc0 hd0) ?_
  refine SP ?_; repeat' (first|refine ⟨fun hc=>?_,fun hc=>?_⟩|intro)
  · exfalso
    rw [eqS_bool, hcd] at hc
    simp at hc
  clear hc
  have e8 : q.tmod 9 = ((q.toNat % 9 : Nat) : Int) := by rw [Int.tmod_eq_emod_of_nonneg hq.1]; omega
  obtain ⟨k, hk⟩ : ∃ k, k = q.toNat % 9 := ⟨_, rfl⟩
  have hk9 : k < 9 := by omega
  rw [show IntKind.i64.wrap q = q from i64_id (by omega) (by omega), e8, ← hk]
  have hgl : ∀ i, i ≤ 9 → (glue (idleT s i)).length ≤ 9 * 347 := fun i hi => by
    have h1 := glue_len 346 (idleT s i) (fun l h => by have := (hid i l h).2.2; omega)
    rw [idleT_len] at h1
    exact Nat.le_trans h1 (Nat.mul_le_mul_right _ hi)
  refine W.loop (G := EdG) (fun g => [(3, .pointer (some ⟨p1, 0, none⟩)), (7, .string (strB s)), (8, .int .i64 k), (9, .string (strB (glue (idleT s g.i)))), (10, .int .i64 g.i)]) (fun _ => [(p1, .cells ([.int .i64 a0, .int .i64 a1, .int .i64 a2, .int .i64 a3, .int .i64 a4, .int .i64 a5, .int .i64 a6, .int .i64 a7, .int .i64 a8, .int .i64 a9, .int .i64 a10, .int .i64 a11, .int .i64 a12, .int .i64 a13] : List Value).toArray 23 (0, 0))]) (fun g => g.i ≤ k) (fun g => k - g.i) ⟨0⟩ (Nat.zero_le _) envA (fun _ h => h.sublist findA) ?_
  rintro ⟨i⟩ hik
  dsimp only at hik ⊢
  have hgi := hgl i (by omega)
  have hsucc : glue (idleT s (i + 1)) = glue (idleT s i) ++ (if i % 2 = 0 then 35 :: s else []) ++ [10] := by rw [idleT, glue_snoc]
  obtain ⟨tx, htx⟩ : ∃ tx, tx = glue (idleT s i) := ⟨_, rfl⟩
  rw [← htx] at hgi hsucc ⊢
  have e9 : (i : Int).tmod 2 = ((i % 2 : Nat) : Int) := by rw [Int.tmod_eq_emod_of_nonneg (by omega)]; omega
  refine SP ?_; repeat' (first|refine ⟨fun hc=>?_,fun hc=>?_⟩|intro)
  · rw [e9] at hc
    have hev : i % 2 = 0 := by simp at hc; omega
    rw [if_pos hev] at hsucc
    clear hc
    have hik' : i < k := by simp at hc; omega
    clear hc
    refine WL.p rfl (Pu.addS (m := strB tx) (n := strB [35]) rfl rfl (by rw [strB_size, strB_size]; simp; omega)) ?_
    rw [show strB tx ++ strB [35] = strB (tx ++ [35]) from strB_app _ _]
    refine SP ?_; repeat' (first|refine ⟨fun hc=>?_,fun hc=>?_⟩|intro)
    refine WL.p rfl (Pu.addS (m := strB (tx ++ [35])) (n := strB s) rfl rfl (by rw [strB_size, strB_size]; simp; omega)) ?_
    rw [show strB (tx ++ [35]) ++ strB s = strB (tx ++ 35 :: s) by rw [strB_app]; simp]
    refine SP ?_; repeat' (first|refine ⟨fun hc=>?_,fun hc=>?_⟩|intro)
    refine WL.p rfl (Pu.addS (m := strB (tx ++ 35 :: s)) (n := strB [10]) rfl rfl (by rw [strB_size, strB_size]; simp; omega)) ?_
    rw [show strB (tx ++ 35 :: s) ++ strB [10] = strB (glue (idleT s (i + 1))) by rw [strB_app, hsucc]]
    refine SP ?_; repeat' (first|refine ⟨fun hc=>?_,fun hc=>?_⟩|intro)
    rw [i64_succ (by omega)]
    exact Fin.round ⟨i + 1⟩ hik' envA (fun _ h => h) (by dsimp only; omega)
  · rw [e9] at hc
    have hev : ¬ i % 2 = 0 := by simp at hc; omega
    rw [if_neg hev] at hsucc
    clear hc
    have hik' : i < k := by simp at hc; omega
    clear hc
    refine WL.p rfl (Pu.addS (m := strB tx) (n := strB [10]) rfl rfl (by rw [strB_size, strB_size]; simp; omega)) ?_
    rw [show strB tx ++ strB [10] = strB (glue (idleT s (i + 1))) by rw [strB_app, hsucc]; simp]
    refine SP ?_; repeat' (first|refine ⟨fun hc=>?_,fun hc=>?_⟩|intro)
    rw [i64_succ (by omega)]
    exact Fin.round ⟨i + 1⟩ hik' envA (fun _ h => h) (by dsimp only; omega)
  · have hik' : i = k := by simp at hc; omega
    clear hc hsucc e9
    refine WL.p rfl (Pu.addS (m := strB tx) (n := strB s) rfl rfl (by rw [strB_size, strB_size]; simp; omega)) ?_
    rw [show strB tx ++ strB s = strB (tx ++ s) from strB_app _ _]
    have hTk := hT k
    rw [← hik', ← htx] at hTk
    obtain ⟨tt, htt⟩ : ∃ tt, tt = tx ++ s := ⟨_, rfl⟩
    have httl : tt.length ≤ 1000000 := by rw [htt]; simp; omega
    rw [← htt] at hTk ⊢
    refine WL.e rfl (Ef.callW (c := []) (vals := [S tt]) (by exact rfl) (Sub.nil _) (fun F' hF => hR F' (hG.at hF) tt httl i hTk)) ?_
    rintro _ _ ⟨_, ⟨hv, rfl⟩, rfl⟩
    rcases hv with ⟨hy, rfl⟩ | ⟨hn, rfl⟩
    · refine SP ?_; repeat' (first|refine ⟨fun hc=>?_,fun hc=>?_⟩|intro)
      refine WL.e rfl (Ef.callW (c := []) (by exact rfl) (Sub.nil _) (fun F' hF => h4 F')) ?_
      rintro _ _ ⟨_, ⟨(⟨_, a, rfl⟩ | ⟨hx, rfl⟩), rfl⟩, rfl⟩
      · refine SP ?_; repeat' (first|refine ⟨fun hc=>?_,fun hc=>?_⟩|intro)
        · skip
          refine WL.e rfl (Ef.callF (by exact rfl) (.nil _) (fun hd => hW _ hd)) ?_
          rintro _ _ ⟨_, rfl, rfl⟩
          refine SP ?_; repeat' (first|refine ⟨fun hc=>?_,fun hc=>?_⟩|intro)
          exact Fin.retW (by exact rfl) resA (H' := []) (fun _ h => h.sublist (List.nil_sublist _)) ⟨rfl, rfl⟩
        · exfalso
          rw [show (ByteArray.mk #[]) = strB [] from rfl, eqS_bool] at hc
          simp at hc
      · exact absurd hy hx
    · refine SP ?_; repeat' (first|refine ⟨fun hc=>?_,fun hc=>?_⟩|intro)
      refine WL.e rfl (Ef.callW (c := []) (by exact rfl) (Sub.nil _) (fun F' hF => h4 F')) ?_
      rintro _ _ ⟨_, ⟨(⟨hx, a, rfl⟩ | ⟨_, rfl⟩), rfl⟩, rfl⟩
      · exact absurd hx hn
      · refine SP ?_; repeat' (first|refine ⟨fun hc=>?_,fun hc=>?_⟩|intro)
        · skip
          refine WL.e rfl (Ef.callF (by exact rfl) (.nil _) (fun hd => hW _ hd)) ?_
          rintro _ _ ⟨_, rfl, rfl⟩
          refine SP ?_; repeat' (first|refine ⟨fun hc=>?_,fun hc=>?_⟩|intro)
          exact Fin.retW (by exact rfl) resA (H' := []) (fun _ h => h.sublist (List.nil_sublist _)) ⟨rfl, rfl⟩
        · exfalso
          rw [hik'] at hc
          simp at hc
        · exfalso
          rw [show (ByteArray.mk #[]) = strB [] from rfl, eqS_bool] at hc
          simp at hc
end Go.Proofs.YtkelhlffeilakaaGreatDoor
