/- A map of TSNs, in memory, and its methods, walked: they answer as the plain functions do. Conditions: it is well formed; TSNs are 32 bits wide. -/
import Derived.Test.YthjglhdjlmjffaaGreatSpG
import Derived.Test.YthjglhdjlmjffaaGreatBa
import Derived.Test.YthjglhdjlmjffaaGreatBc
namespace Go.Proofs.YthjglhdjlmjffaaGreat
open Go Go.Sl Go.Spn

structure MM where
  R : Nat
  s : SM
  da : Option Addr
  dn : Nat
  dc : Nat
  db : HL
  ds : List Int
def MM.B (m : MM) : Nat × Obj := (m.R, .cells [.pointer (some ⟨m.s.R, 0, none⟩), .slice m.da m.dn m.dc].toArray 106 (0, 0))
def MM.H (m : MM) : HL := m.B :: (m.s.H ++ m.db)
structure MM.ok (m : MM) : Prop where
  s : m.s.ok
  own : OwnS 24 1 (m.ds.map (Value.int .u32)) (.slice m.da m.dn m.dc) m.db
  few : m.ds.length ≤ 64
theorem MM.ok.len {m : MM} (h : m.ok) : m.ds.length = m.dn := by have := h.own.len; simp at this; exact this
theorem begin_tr (F : Nat → Option Obj) (first : Int) : Tr Tryz.prog 29 [.int .u32 first].toArray F [] (fun v H => ∃ m : MM, m.ok ∧ H = m.H ∧ v = .pointer (some ⟨m.R, 0, none⟩) ∧ m.s.S = ⟨u32 (first - 1), fun _ => false⟩ ∧ m.ds = []) := by
  refine Tr.enter Tryz.func29 rfl Tryz.ntmps29 rfl (fun w0 => ?_)
  repeat' (first | refine S1 ?_ | refine SD ?_ | refine SA (fun _ => ?_) | refine WL.g_split rfl rfl (fun hc => ?_) (fun hc => ?_) | refine WD.g_split rfl rfl (fun hc => ?_) (fun hc => ?_) | refine W.cond rfl (fun hc => ?_) (fun hc => ?_))
  refine WL.e rfl (Ef.call (by exact rfl) (.nil _) (new_tr _ (IntKind.u32.wrap (first - 1)) (u32_rng _))) ?_
  rintro _ _ ⟨_, ⟨s, hs, rfl, rfl, hS⟩, rfl⟩
  rw [List.append_nil]
  repeat' (first | refine S1 ?_ | refine SD ?_ | refine SA (fun _ => ?_) | refine WL.g_split rfl rfl (fun hc => ?_) (fun hc => ?_) | refine WD.g_split rfl rfl (fun hc => ?_) (fun hc => ?_) | refine W.cond rfl (fun hc => ?_) (fun hc => ?_))
  rename_i b
  exact Fin.retW (by exact rfl) resA (fun _ h => by show In F ((_ : Nat × Obj) :: (s.H ++ [])) _; rw [List.append_nil]; exact h) ⟨⟨b, s, none, 0, 0, [], []⟩, ⟨hs, .inl ⟨rfl, rfl, rfl⟩, Nat.zero_le _⟩, rfl, rfl, hS, rfl⟩
theorem look_tr (F : Nat → Option Obj) (m : MM) (hm : m.ok) (y : Int) (hy : 0 ≤ y ∧ y < 4294967296) : Tr Tryz.prog 51 [.pointer (some ⟨m.R, 0, none⟩), .int .u32 y].toArray F m.H (fun v H => v = .int .i64 (Spn.look m.s.S y) ∧ H = m.H) := by
  refine Tr.enter Tryz.func51 rfl Tryz.ntmps51 rfl (fun w0 => ?_)
  have hSb : m.s.S.b = m.s.base := rfl
  unfold MM.H MM.B
  repeat' (first | refine S1 ?_ | refine SD ?_ | refine SA (fun _ => ?_) | refine WL.g_split rfl rfl (fun hc => ?_) (fun hc => ?_) | refine WD.g_split rfl rfl (fun hc => ?_) (fun hc => ?_) | refine W.cond rfl (fun hc => ?_) (fun hc => ?_))
  refine WL.e rfl (Ef.callR (c := m.s.H) (by exact rfl) (.last (.there .here)) (base_tr _ m.s)) ?_
  rintro _ _ ⟨rfl, rfl⟩
  repeat' (first | refine S1 ?_ | refine SD ?_ | refine SA (fun _ => ?_) | refine WL.g_split rfl rfl (fun hc => ?_) (fun hc => ?_) | refine WD.g_split rfl rfl (fun hc => ?_) (fun hc => ?_) | refine W.cond rfl (fun hc => ?_) (fun hc => ?_))
  refine WL.e rfl (Ef.callR (by exact rfl) (.nil _) (in_tr _ y m.s.base)) ?_
  rintro _ _ ⟨rfl, rfl⟩
  repeat' (first | refine S1 ?_ | refine SD ?_ | refine SA (fun _ => ?_) | refine WL.g_split rfl rfl (fun hc => ?_) (fun hc => ?_) | refine WD.g_split rfl rfl (fun hc => ?_) (fun hc => ?_) | refine W.cond rfl (fun hc => ?_) (fun hc => ?_))
  · refine WL.e rfl (Ef.callR (c := m.s.H) (by exact rfl) (.last (.there .here)) (has_tr _ m.s hm.s y hy)) ?_
    rintro _ _ ⟨rfl, rfl⟩
    have hw : inW (far m.s.base y) = true := hc
    have hh : Spn.has m.s.S y = m.s.S.p (far m.s.base y) := by unfold Spn.has; rw [hSb, hw, Bool.true_and]
    have hlk : Spn.look m.s.S y = if m.s.S.p (far m.s.base y) then 1 else 0 := by unfold Spn.look; rw [hSb, if_pos hw]
    rw [hh]
    repeat' (first | refine S1 ?_ | refine SD ?_ | refine SA (fun _ => ?_) | refine WL.g_split rfl rfl (fun hc => ?_) (fun hc => ?_) | refine WD.g_split rfl rfl (fun hc => ?_) (fun hc => ?_) | refine W.cond rfl (fun hc => ?_) (fun hc => ?_))
    · exact Fin.retW (by exact rfl) resA (fun _ h => h) ⟨by rw [hlk, hc]; rfl, rfl⟩
    · exact Fin.retW (by exact rfl) resA (fun _ h => h) ⟨by rw [hlk, hc]; rfl, rfl⟩
  · refine WL.e rfl (Ef.callR (c := m.s.H) (by exact rfl) (.last (.there .here)) (base_tr _ m.s)) ?_
    rintro _ _ ⟨rfl, rfl⟩
    repeat' (first | refine S1 ?_ | refine SD ?_ | refine SA (fun _ => ?_) | refine WL.g_split rfl rfl (fun hc => ?_) (fun hc => ?_) | refine WD.g_split rfl rfl (fun hc => ?_) (fun hc => ?_) | refine W.cond rfl (fun hc => ?_) (fun hc => ?_))
    refine WL.e rfl (Ef.callR (by exact rfl) (.nil _) (less_tr _ m.s.base y)) ?_
    rintro _ _ ⟨rfl, rfl⟩
    have hw : inW (far m.s.base y) = false := hc
    have hlk : Spn.look m.s.S y = if 0 < far m.s.base y ∧ far m.s.base y ≤ 2147483647 then 2 else 1 := by unfold Spn.look; rw [hSb, hw]; rfl
    repeat' (first | refine S1 ?_ | refine SD ?_ | refine SA (fun _ => ?_) | refine WL.g_split rfl rfl (fun hc => ?_) (fun hc => ?_) | refine WD.g_split rfl rfl (fun hc => ?_) (fun hc => ?_) | refine W.cond rfl (fun hc => ?_) (fun hc => ?_))
    · exact Fin.retW (by exact rfl) resA (fun _ h => h) ⟨by rw [hlk, if_pos (by simpa using hc)]; rfl, rfl⟩
    · exact Fin.retW (by exact rfl) resA (fun _ h => h) ⟨by rw [hlk, if_neg (by intro h; simp [h] at hc)]; rfl, rfl⟩
theorem take_tr (F : Nat → Option Obj) (m : MM) (hm : m.ok) (y : Int) (hy : 0 ≤ y ∧ y < 4294967296) : Tr Tryz.prog 77 [.pointer (some ⟨m.R, 0, none⟩), .int .u32 y].toArray F m.H (fun v H => v = .int .i64 (Spn.look m.s.S y) ∧ ∃ m' : MM, m'.ok ∧ H = m'.H ∧ m'.R = m.R ∧ m'.s.S = takeS m.s.S y ∧ m'.ds = takeD m.s.S m.ds y) := by
  refine Tr.enter Tryz.func77 rfl Tryz.ntmps77 rfl (fun w0 => ?_)
  have hlen := hm.len
  have hfew := hm.few
  repeat' (first | refine S1 ?_ | refine SD ?_ | refine SA (fun _ => ?_) | refine WL.g_split rfl rfl (fun hc => ?_) (fun hc => ?_) | refine WD.g_split rfl rfl (fun hc => ?_) (fun hc => ?_) | refine W.cond rfl (fun hc => ?_) (fun hc => ?_))
  refine WL.e rfl (Ef.callR (by exact rfl) (.all _) (look_tr _ m hm y hy)) ?_
  rintro _ _ ⟨rfl, rfl⟩
  unfold MM.H MM.B
  obtain ⟨k, hk⟩ : ∃ k, Spn.look m.s.S y = k := ⟨_, rfl⟩
  rw [hk]
  repeat' (first | refine S1 ?_ | refine SD ?_ | refine SA (fun _ => ?_) | refine WL.g_split rfl rfl (fun hc => ?_) (fun hc => ?_) | refine WD.g_split rfl rfl (fun hc => ?_) (fun hc => ?_) | refine W.cond rfl (fun hc => ?_) (fun hc => ?_))
  · have h0 : k = 0 := by simpa using hc
    refine WL.e rfl (Ef.call (c := m.s.H) (by exact rfl) (.last (.there .here)) (add_tr _ m.s hm.s y hy)) ?_
    rintro _ _ ⟨_, ⟨rfl, s1, hs1, rfl, hR1, hS1⟩, rfl⟩
    rw [← hR1]
    repeat' (first | refine S1 ?_ | refine SD ?_ | refine SA (fun _ => ?_) | refine WL.g_split rfl rfl (fun hc => ?_) (fun hc => ?_) | refine WD.g_split rfl rfl (fun hc => ?_) (fun hc => ?_) | refine W.cond rfl (fun hc => ?_) (fun hc => ?_))
    refine WL.e rfl (Ef.call (c := s1.H) (by exact rfl) (.one _ _) (settle_tr _ s1 hs1)) ?_
    rintro _ _ ⟨_, ⟨rfl, s2, hs2, rfl, hR2, hS2⟩, rfl⟩
    rw [← hR2]
    repeat' (first | refine S1 ?_ | refine SD ?_ | refine SA (fun _ => ?_) | refine WL.g_split rfl rfl (fun hc => ?_) (fun hc => ?_) | refine WD.g_split rfl rfl (fun hc => ?_) (fun hc => ?_) | refine W.cond rfl (fun hc => ?_) (fun hc => ?_))
    refine Fin.retW (by exact rfl) resA (fun _ h => In.of_sub (.pick (.right .here) (.pickL (L := s2.H) .here (.last (L := m.db) .all))) h) ⟨rfl, ⟨m.R, s2, m.da, m.dn, m.dc, m.db, m.ds⟩, ⟨hs2, hm.own, hm.few⟩, rfl, rfl, ?_, ?_⟩
    · dsimp only; unfold takeS; rw [hk, if_pos h0, hS2, hS1]
    · dsimp only; unfold takeD; rw [hk, if_neg (by omega)]
  · have h1 : k = 1 := by have := (by assumption : (k == 1) = true); simpa using this
    have h64 : m.ds.length < 64 := by have := of_decide_eq_true hc; omega
    rename_i b40
    refine WL.e rfl (Ef.app (m := 1) (news := [.int .u32 y]) (by exact rfl) (by exact rfl) rfl rfl hm.own (.last (.there (.there (.right .all)))) (Src.own (n := 1) (.here rfl)) rfl (by simp [Value.oneCell']) (by simp; omega) (by simp [maxLen]; omega)) ?_
    rintro v' _ ⟨vb', hown', rfl⟩
    obtain ⟨va', vn', vc', rfl, _, _⟩ := OwnS.shape hown'
    repeat' (first | refine S1 ?_ | refine SD ?_ | refine SA (fun _ => ?_) | refine WL.g_split rfl rfl (fun hc => ?_) (fun hc => ?_) | refine WD.g_split rfl rfl (fun hc => ?_) (fun hc => ?_) | refine W.cond rfl (fun hc => ?_) (fun hc => ?_))
    refine Fin.retW (by exact rfl) resA (fun _ h => In.of_sub (.pick (.right (.there .here)) (.pickL (L := m.s.H) (.right (.there .here)) (.last (L := vb') .here))) h) ⟨rfl, ⟨m.R, m.s, va', vn', vc', vb', m.ds ++ [y]⟩, ⟨hm.s, by dsimp only; rw [List.map_append]; exact hown', by dsimp only; simp; omega⟩, rfl, rfl, ?_, ?_⟩
    · dsimp only; unfold takeS; rw [hk, if_neg (by omega)]
    · dsimp only; unfold takeD; rw [hk, if_pos ⟨h1, h64⟩]
  all_goals
    refine Fin.retW (by exact rfl) resA (fun _ h => h) ⟨rfl, m, hm, rfl, rfl, ?_, ?_⟩
    · unfold takeS; rw [hk, if_neg (by have := (by assumption : (k == 0) = false); simpa using this)]
    · unfold takeD; rw [hk, if_neg (fun h => ?_)]
      first
        | (have h3 := (by assumption : (k == 1) = false); simp at h3; exact h3 h.1)
        | (have h3 := of_decide_eq_false hc; omega)
theorem forward_tr (F : Nat → Option Obj) (m : MM) (hm : m.ok) (y : Int) (hy : 0 ≤ y ∧ y < 4294967296) : Tr Tryz.prog 59 [.pointer (some ⟨m.R, 0, none⟩), .int .u32 y].toArray F m.H (fun v H => v = .bool (inW (far m.s.base y)) ∧ ∃ m' : MM, m'.ok ∧ H = m'.H ∧ m'.R = m.R ∧ m'.s.S = Spn.move m.s.S y ∧ m'.ds = m.ds) := by
  refine Tr.enter Tryz.func59 rfl Tryz.ntmps59 rfl (fun w0 => ?_)
  have hSb : m.s.S.b = m.s.base := rfl
  unfold MM.H MM.B
  repeat' (first | refine S1 ?_ | refine SD ?_ | refine SA (fun _ => ?_) | refine WL.g_split rfl rfl (fun hc => ?_) (fun hc => ?_) | refine WD.g_split rfl rfl (fun hc => ?_) (fun hc => ?_) | refine W.cond rfl (fun hc => ?_) (fun hc => ?_))
  refine WL.e rfl (Ef.callR (c := m.s.H) (by exact rfl) (.last (.there .here)) (base_tr _ m.s)) ?_
  rintro _ _ ⟨rfl, rfl⟩
  repeat' (first | refine S1 ?_ | refine SD ?_ | refine SA (fun _ => ?_) | refine WL.g_split rfl rfl (fun hc => ?_) (fun hc => ?_) | refine WD.g_split rfl rfl (fun hc => ?_) (fun hc => ?_) | refine W.cond rfl (fun hc => ?_) (fun hc => ?_))
  refine WL.e rfl (Ef.callR (by exact rfl) (.nil _) (in_tr _ y m.s.base)) ?_
  rintro _ _ ⟨rfl, rfl⟩
  repeat' (first | refine S1 ?_ | refine SD ?_ | refine SA (fun _ => ?_) | refine WL.g_split rfl rfl (fun hc => ?_) (fun hc => ?_) | refine WD.g_split rfl rfl (fun hc => ?_) (fun hc => ?_) | refine W.cond rfl (fun hc => ?_) (fun hc => ?_))
  · have hw : inW (far m.s.base y) = false := by simpa using hc
    exact Fin.retW (by exact rfl) resA (fun _ h => h) ⟨by rw [hw]; rfl, m, hm, rfl, rfl, by unfold Spn.move; rw [hSb, hw]; rfl, rfl⟩
  · have hw : inW (far m.s.base y) = true := by simpa using hc
    refine WL.e rfl (Ef.call (c := m.s.H) (by exact rfl) (.last (.there .here)) (move_tr _ m.s hm.s y hy)) ?_
    rintro _ _ ⟨_, ⟨rfl, s1, hs1, rfl, hR1, hS1⟩, rfl⟩
    rw [← hR1]
    repeat' (first | refine S1 ?_ | refine SD ?_ | refine SA (fun _ => ?_) | refine WL.g_split rfl rfl (fun hc => ?_) (fun hc => ?_) | refine WD.g_split rfl rfl (fun hc => ?_) (fun hc => ?_) | refine W.cond rfl (fun hc => ?_) (fun hc => ?_))
    exact Fin.retW (by exact rfl) resA (fun _ h => In.of_sub (.pick (.right .here) (.pickL (L := s1.H) .here (.last (L := m.db) .all))) h) ⟨by rw [hw]; rfl, ⟨m.R, s1, m.da, m.dn, m.dc, m.db, m.ds⟩, ⟨hs1, hm.own, hm.few⟩, rfl, rfl, hS1, rfl⟩
theorem cum_tr (F : Nat → Option Obj) (m : MM) : Tr Tryz.prog 43 [.pointer (some ⟨m.R, 0, none⟩)].toArray F m.H (fun v H => v = .int .u32 m.s.base ∧ H = m.H) := by
  refine Tr.enter Tryz.func43 rfl Tryz.ntmps43 rfl (fun w0 => ?_)
  unfold MM.H MM.B
  repeat' (first | refine S1 ?_ | refine SD ?_ | refine SA (fun _ => ?_) | refine WL.g_split rfl rfl (fun hc => ?_) (fun hc => ?_) | refine WD.g_split rfl rfl (fun hc => ?_) (fun hc => ?_) | refine W.cond rfl (fun hc => ?_) (fun hc => ?_))
  refine WL.e rfl (Ef.callR (c := m.s.H) (by exact rfl) (.last (.there .here)) (base_tr _ m.s)) ?_
  rintro _ _ ⟨rfl, rfl⟩
  repeat' (first | refine S1 ?_ | refine SD ?_ | refine SA (fun _ => ?_) | refine WL.g_split rfl rfl (fun hc => ?_) (fun hc => ?_) | refine WD.g_split rfl rfl (fun hc => ?_) (fun hc => ?_) | refine W.cond rfl (fun hc => ?_) (fun hc => ?_))
  exact Fin.retW (by exact rfl) resA (fun _ h => h) ⟨rfl, rfl⟩
theorem holes_tr (F : Nat → Option Obj) (m : MM) (hm : m.ok) : Tr Tryz.prog 76 [.pointer (some ⟨m.R, 0, none⟩)].toArray F m.H (fun v H => v = .bool (decide (0 < Spn.count m.s.S)) ∧ H = m.H) := by
  refine Tr.enter Tryz.func76 rfl Tryz.ntmps76 rfl (fun w0 => ?_)
  unfold MM.H MM.B
  repeat' (first | refine S1 ?_ | refine SD ?_ | refine SA (fun _ => ?_) | refine WL.g_split rfl rfl (fun hc => ?_) (fun hc => ?_) | refine WD.g_split rfl rfl (fun hc => ?_) (fun hc => ?_) | refine W.cond rfl (fun hc => ?_) (fun hc => ?_))
  refine WL.e rfl (Ef.callR (c := m.s.H) (by exact rfl) (.last (.there .here)) (count_tr _ m.s hm.s)) ?_
  rintro _ _ ⟨rfl, rfl⟩
  obtain ⟨n, hn⟩ : ∃ n, Spn.count m.s.S = n := ⟨_, rfl⟩
  rw [hn]
  repeat' (first | refine S1 ?_ | refine SD ?_ | refine SA (fun _ => ?_) | refine WL.g_split rfl rfl (fun hc => ?_) (fun hc => ?_) | refine WD.g_split rfl rfl (fun hc => ?_) (fun hc => ?_) | refine W.cond rfl (fun hc => ?_) (fun hc => ?_))
  exact Fin.retW (by exact rfl) resA (fun _ h => h) ⟨by exact congrArg Value.bool (decide_eq_decide.2 (by omega)), rfl⟩
/-- so many of those that came again are told -/
def dupN (dups : Int) (n : Nat) : Nat := (if (if (n : Int) < dups then (n : Int) else dups) > 0 then (if (n : Int) < dups then (n : Int) else dups) else 0).toNat
theorem dupN_le (dups : Int) (n : Nat) : dupN dups n ≤ n := by unfold dupN; split <;> split <;> omega
theorem dupN_eq (dups : Int) (n : Nat) : dupN dups n = min dups.toNat n := by unfold dupN; split <;> split <;> omega
structure RepQ (m m' : MM) (cum : Int) (G : List (Nat × Nat)) (D : List Int) (ga : Option Addr) (gn gc : Nat) (gb : HL) (ra : Option Addr) (rn rc : Nat) (rb : HL) : Prop where
  ok : m'.ok
  R : m'.R = m.R
  S : m'.s.S = m.s.S
  ds : m'.ds = []
  g : OwnS 92 2 (G.flatMap gCells) (.slice ga gn gc) gb
  d : OwnS 24 1 (D.map (Value.int .u32)) (.slice ra rn rc) rb
set_option maxHeartbeats 2000000 in
theorem report_tr (F : Nat → Option Obj) (m : MM) (hm : m.ok) (gs dups : Int) (hg : -9223372036854775808 ≤ gs ∧ gs ≤ 9223372036854775807) : Tr Tryz.prog 55 [.pointer (some ⟨m.R, 0, none⟩), .int .i64 gs, .int .i64 dups].toArray F m.H
    (fun v H => ∃ m' ga gn gc gb ra rn rc rb, v = .agg [.int .u32 m.s.base, .int .u32 0, .slice ga gn gc, .slice ra rn rc].toArray ∧ RepQ m m' m.s.base (Spn.gaps m.s.S (if gs < 0 then 0 else gs)) (m.ds.take (dupN dups m.ds.length)) ga gn gc gb ra rn rc rb ∧ H = m'.H ++ (gb ++ rb)) := by
  refine Tr.enter Tryz.func55 rfl Tryz.ntmps55 rfl (fun w0 => ?_)
  have hlen := hm.len
  have hfew := hm.few
  obtain ⟨g, hgg⟩ : ∃ g, (if gs < 0 then 0 else gs) = g := ⟨_, rfl⟩
  have hgr : -9223372036854775808 ≤ g ∧ g ≤ 9223372036854775807 := by rw [← hgg]; split <;> omega
  have hmx : (if (0 : Int) > gs then 0 else gs) = g := hgg
  rw [hgg]
  unfold MM.H MM.B
  repeat' (first | refine S1 ?_ | refine SA (fun _ => ?_) | refine WL.g_split rfl rfl (fun hc => ?_) (fun hc => ?_) | refine WD.g_split rfl rfl (fun hc => ?_) (fun hc => ?_) | refine W.cond rfl (fun hc => ?_) (fun hc => ?_))
  rename_i b6
  refine W.drawF 13 ?_
  repeat' (first
    | refine WF.pA ?_ | refine WF.sA ?_)
  refine WF.e rfl (Ef.callR (c := m.s.H) (by exact rfl) (.last (.there (.there .here))) (base_tr _ m.s)) ?_ ?_
  · rintro _ _ ⟨rfl, rfl⟩
    refine ⟨.inr (fun _ h => h), ?_⟩
    repeat' (first
      | refine WF.pA ?_ | refine WF.sA ?_)
    refine WF.p rfl (Pu.max2 rfl rfl) ?_
    rw [hmx]
    refine WF.e rfl (Ef.call (c := m.s.H) (by exact rfl) (.last (.there (.there .here))) (gaps_tr _ m.s hm.s g hgr)) ?_ ?_
    · rintro _ _ ⟨_, ⟨ga, gn, gc, gb, rfl, hgo, rfl⟩, rfl⟩
      rw [List.append_assoc]
      refine ⟨.inr (fun _ h => In.of_sub (.pick (.right (.right .here)) (.pick (.right (.right .here)) (.pickL (L := m.s.H) .here (.last (L := m.db) (.right .all))))) h), ?_⟩
      repeat' (first
        | refine WF.pA ?_ | refine WF.sA ?_)
      refine WF.nil ?_
      refine WD.aA (fun b7 => ?_) (hk := fun _ => .inr (fun _ h => In.of_sub (.pick (.there (.right (.right .here))) (.pick (.there (.right (.right .here))) (.pickL (L := m.s.H) (.there .here) (.last (L := m.db) (.there (.right .all)))))) h))
      refine WD.e0A ?_
      refine WD.nil ?_
      refine Fin.weakH (H' := (b7, _) :: (m.s.H ++ (gb ++ (b6, _) :: (m.R, _) :: m.db))) (fun _ h => h) ?_
      repeat' (first | refine S1 ?_ | refine SD ?_ | refine SA (fun _ => ?_) | refine WL.g_split rfl rfl (fun hc => ?_) (fun hc => ?_) | refine WD.g_split rfl rfl (fun hc => ?_) (fun hc => ?_) | refine W.cond rfl (fun hc => ?_) (fun hc => ?_))
      refine WL.p rfl (Pu.max2 rfl rfl) ?_
      obtain ⟨k, hk⟩ : ∃ k, dupN dups m.ds.length = k := ⟨_, rfl⟩
      have hkl : k ≤ m.dn := by rw [← hk, ← hlen]; exact dupN_le _ _
      have hki : (if (if (m.dn : Int) < dups then (m.dn : Int) else dups) > 0 then (if (m.dn : Int) < dups then (m.dn : Int) else dups) else 0) = (k : Nat) := by
        rw [← hk, hlen]
        unfold dupN
        split <;> split <;> omega
      rw [hki]
      refine WL.e rfl (Ef.mkS (n := k) (by exact rfl) (by exact rfl) rfl rfl (by omega) (by omega)) ?_
      rintro _ _ ⟨bk, rfl, rfl⟩
      repeat' (first | refine S1 ?_ | refine SD ?_ | refine SA (fun _ => ?_) | refine WL.g_split rfl rfl (fun hc => ?_) (fun hc => ?_) | refine WD.g_split rfl rfl (fun hc => ?_) (fun hc => ?_) | refine W.cond rfl (fun hc => ?_) (fun hc => ?_))
      refine WD.e rfl (Ef.cpy (cs := m.ds.map (Value.int .u32)) rfl rfl (OwnS.made _ (.int .u32 0) bk k (by unfold maxLen; omega)) (.pick .here (.nil _)) hm.own (fun _ h => In.of_sub (.last (L := m.db) (.there (.there (.right (.right (.there (.there .all))))))) h) hkl (fun u hu => by obtain ⟨a, _, rfl⟩ := List.mem_map.1 hu; rfl)) ?_
      rintro _ _ ⟨rfl, rb, hro, rfl⟩
      refine ⟨.inl (by kernel_rfl), ?_⟩
      repeat' (first | refine S1 ?_ | refine SD ?_ | refine SA (fun _ => ?_) | refine WL.g_split rfl rfl (fun hc => ?_) (fun hc => ?_) | refine WD.g_split rfl rfl (fun hc => ?_) (fun hc => ?_) | refine W.cond rfl (fun hc => ?_) (fun hc => ?_))
      refine Fin.retW (by exact rfl) resA (H' := ((m.R, _) :: (m.s.H ++ [])) ++ (gb ++ rb)) (fun _ h => ?_) ⟨⟨m.R, m.s, none, 0, 0, [], []⟩, ga, gn, gc, gb, _, _, _, rb, rfl, ⟨⟨hm.s, .inl ⟨rfl, rfl, rfl⟩, Nat.zero_le _⟩, rfl, rfl, rfl, hgo, by rw [hk, List.map_take]; exact hro⟩, rfl⟩
      rw [List.append_nil]
      refine In.of_sub (.pick (.right (.there (.right (.right (.there .here))))) (.pickL (L := m.s.H) (.right (.there .here)) (.pickL (L := gb) (.right (.there .here)) (.last (L := rb) .here)))) h
    · refine WD.aA (fun b7 => ?_) (hk := fun _ => .inr (fun _ h => h.sublist (.cons _ (.refl _))))
      refine WD.e rfl (Ef.call (c := m.s.H) (by exact rfl) (.last (.there (.there (.there .here)))) (gaps_tr _ m.s hm.s g hgr)) ?_
      rintro _ _ ⟨_, ⟨ga, gn, gc, gb, rfl, hgo, rfl⟩, rfl⟩
      rw [List.append_assoc]
      refine ⟨.inr (fun _ h => In.of_sub (.pick (.right (.right (.there .here))) (.pick (.right (.right (.there .here))) (.pickL (L := m.s.H) .here (.last (L := m.db) (.right (.there .all)))))) h), ?_⟩
      refine WD.pA ?_
      refine WD.e0A ?_
      refine WD.nil ?_
      refine Fin.weakH (H' := (b7, _) :: (m.s.H ++ (gb ++ (b6, _) :: (m.R, _) :: m.db))) (fun _ h => In.of_sub (.pick (.right (.right .here)) (.pickL (L := m.s.H) .here (.pickL (L := gb) .here (.last .all)))) h) ?_
      repeat' (first | refine S1 ?_ | refine SD ?_ | refine SA (fun _ => ?_) | refine WL.g_split rfl rfl (fun hc => ?_) (fun hc => ?_) | refine WD.g_split rfl rfl (fun hc => ?_) (fun hc => ?_) | refine W.cond rfl (fun hc => ?_) (fun hc => ?_))
      refine WL.p rfl (Pu.max2 rfl rfl) ?_
      obtain ⟨k, hk⟩ : ∃ k, dupN dups m.ds.length = k := ⟨_, rfl⟩
      have hkl : k ≤ m.dn := by rw [← hk, ← hlen]; exact dupN_le _ _
      have hki : (if (if (m.dn : Int) < dups then (m.dn : Int) else dups) > 0 then (if (m.dn : Int) < dups then (m.dn : Int) else dups) else 0) = (k : Nat) := by
        rw [← hk, hlen]
        unfold dupN
        split <;> split <;> omega
      rw [hki]
      refine WL.e rfl (Ef.mkS (n := k) (by exact rfl) (by exact rfl) rfl rfl (by omega) (by omega)) ?_
      rintro _ _ ⟨bk, rfl, rfl⟩
      repeat' (first | refine S1 ?_ | refine SD ?_ | refine SA (fun _ => ?_) | refine WL.g_split rfl rfl (fun hc => ?_) (fun hc => ?_) | refine WD.g_split rfl rfl (fun hc => ?_) (fun hc => ?_) | refine W.cond rfl (fun hc => ?_) (fun hc => ?_))
      refine WD.e rfl (Ef.cpy (cs := m.ds.map (Value.int .u32)) rfl rfl (OwnS.made _ (.int .u32 0) bk k (by unfold maxLen; omega)) (.pick .here (.nil _)) hm.own (fun _ h => In.of_sub (.last (L := m.db) (.there (.there (.right (.right (.there (.there .all))))))) h) hkl (fun u hu => by obtain ⟨a, _, rfl⟩ := List.mem_map.1 hu; rfl)) ?_
      rintro _ _ ⟨rfl, rb, hro, rfl⟩
      refine ⟨.inl (by kernel_rfl), ?_⟩
      repeat' (first | refine S1 ?_ | refine SD ?_ | refine SA (fun _ => ?_) | refine WL.g_split rfl rfl (fun hc => ?_) (fun hc => ?_) | refine WD.g_split rfl rfl (fun hc => ?_) (fun hc => ?_) | refine W.cond rfl (fun hc => ?_) (fun hc => ?_))
      refine Fin.retW (by exact rfl) resA (H' := ((m.R, _) :: (m.s.H ++ [])) ++ (gb ++ rb)) (fun _ h => ?_) ⟨⟨m.R, m.s, none, 0, 0, [], []⟩, ga, gn, gc, gb, _, _, _, rb, rfl, ⟨⟨hm.s, .inl ⟨rfl, rfl, rfl⟩, Nat.zero_le _⟩, rfl, rfl, rfl, hgo, by rw [hk, List.map_take]; exact hro⟩, rfl⟩
      rw [List.append_nil]
      refine In.of_sub (.pick (.right (.there (.right (.right (.there .here))))) (.pickL (L := m.s.H) (.right (.there .here)) (.pickL (L := gb) (.right (.there .here)) (.last (L := rb) .here)))) h
  · refine WD.aA (fun b7 => ?_) (hk := fun _ => .inr (fun _ h => h.sublist (.cons _ (.refl _))))
    refine WD.e rfl (Ef.callR (c := m.s.H) (by exact rfl) (.last (.there (.there (.there .here)))) (base_tr _ m.s)) ?_
    rintro _ _ ⟨rfl, rfl⟩
    refine ⟨.inr (fun _ h => h.sublist (.cons _ (.refl _))), ?_⟩
    repeat' (first | refine S1 ?_ | refine SD ?_ | refine SA (fun _ => ?_) | refine WL.g_split rfl rfl (fun hc => ?_) (fun hc => ?_) | refine WD.g_split rfl rfl (fun hc => ?_) (fun hc => ?_) | refine W.cond rfl (fun hc => ?_) (fun hc => ?_))
    refine WD.p rfl (Pu.max2 rfl rfl) ?_
    rw [hmx]
    refine WD.e rfl (Ef.call (c := m.s.H) (by exact rfl) (.last (.there (.there (.there .here)))) (gaps_tr _ m.s hm.s g hgr)) ?_
    rintro _ _ ⟨_, ⟨ga, gn, gc, gb, rfl, hgo, rfl⟩, rfl⟩
    rw [List.append_assoc]
    refine ⟨.inr (fun _ h => In.of_sub (.pick (.right (.right (.there .here))) (.pick (.right (.right (.there .here))) (.pickL (L := m.s.H) .here (.last (L := m.db) (.right (.there .all)))))) h), ?_⟩
    refine WD.pA ?_
    refine WD.e0A ?_
    refine WD.nil ?_
    refine Fin.weakH (H' := (b7, _) :: (m.s.H ++ (gb ++ (b6, _) :: (m.R, _) :: m.db))) (fun _ h => In.of_sub (.pick (.right (.right .here)) (.pickL (L := m.s.H) .here (.pickL (L := gb) .here (.last .all)))) h) ?_
    repeat' (first | refine S1 ?_ | refine SD ?_ | refine SA (fun _ => ?_) | refine WL.g_split rfl rfl (fun hc => ?_) (fun hc => ?_) | refine WD.g_split rfl rfl (fun hc => ?_) (fun hc => ?_) | refine W.cond rfl (fun hc => ?_) (fun hc => ?_))
    refine WL.p rfl (Pu.max2 rfl rfl) ?_
    obtain ⟨k, hk⟩ : ∃ k, dupN dups m.ds.length = k := ⟨_, rfl⟩
    have hkl : k ≤ m.dn := by rw [← hk, ← hlen]; exact dupN_le _ _
    have hki : (if (if (m.dn : Int) < dups then (m.dn : Int) else dups) > 0 then (if (m.dn : Int) < dups then (m.dn : Int) else dups) else 0) = (k : Nat) := by
      rw [← hk, hlen]
      unfold dupN
      split <;> split <;> omega
    rw [hki]
    refine WL.e rfl (Ef.mkS (n := k) (by exact rfl) (by exact rfl) rfl rfl (by omega) (by omega)) ?_
    rintro _ _ ⟨bk, rfl, rfl⟩
    repeat' (first | refine S1 ?_ | refine SD ?_ | refine SA (fun _ => ?_) | refine WL.g_split rfl rfl (fun hc => ?_) (fun hc => ?_) | refine WD.g_split rfl rfl (fun hc => ?_) (fun hc => ?_) | refine W.cond rfl (fun hc => ?_) (fun hc => ?_))
    refine WD.e rfl (Ef.cpy (cs := m.ds.map (Value.int .u32)) rfl rfl (OwnS.made _ (.int .u32 0) bk k (by unfold maxLen; omega)) (.pick .here (.nil _)) hm.own (fun _ h => In.of_sub (.last (L := m.db) (.there (.there (.right (.right (.there (.there .all))))))) h) hkl (fun u hu => by obtain ⟨a, _, rfl⟩ := List.mem_map.1 hu; rfl)) ?_
    rintro _ _ ⟨rfl, rb, hro, rfl⟩
    refine ⟨.inl (by kernel_rfl), ?_⟩
    repeat' (first | refine S1 ?_ | refine SD ?_ | refine SA (fun _ => ?_) | refine WL.g_split rfl rfl (fun hc => ?_) (fun hc => ?_) | refine WD.g_split rfl rfl (fun hc => ?_) (fun hc => ?_) | refine W.cond rfl (fun hc => ?_) (fun hc => ?_))
    refine Fin.retW (by exact rfl) resA (H' := ((m.R, _) :: (m.s.H ++ [])) ++ (gb ++ rb)) (fun _ h => ?_) ⟨⟨m.R, m.s, none, 0, 0, [], []⟩, ga, gn, gc, gb, _, _, _, rb, rfl, ⟨⟨hm.s, .inl ⟨rfl, rfl, rfl⟩, Nat.zero_le _⟩, rfl, rfl, rfl, hgo, by rw [hk, List.map_take]; exact hro⟩, rfl⟩
    rw [List.append_nil]
    refine In.of_sub (.pick (.right (.there (.right (.right (.there .here))))) (.pickL (L := m.s.H) (.right (.there .here)) (.pickL (L := gb) (.right (.there .here)) (.last (L := rb) .here)))) h
end Go.Proofs.YthjglhdjlmjffaaGreat
