/- The reassembler's methods once more, each over all that it owns; and the law's 'works', walked. No conditions but that it stands as it should. -/
import Derived.Test.YtokbkocjddcklaaSlQ
import Derived.Test.YtokbkocjddcklaaRmJ
namespace Go.Proofs.Ytokbkocjddcklaa
open Go Go.Sl Go.Rm

theorem heldA (F : Nat → Option Obj) (s : RM) : Tr Try.prog 13 [.pointer (some ⟨s.R, 0, none⟩)].toArray F s.H (fun v H => v = .int .i64 s.held ∧ H = s.H) :=
  (Tr.more (held_tr _ s)).mono fun _ _ ⟨_, ⟨h1, h2⟩, h3⟩ => ⟨h1, by rw [h3, h2]; rfl⟩
theorem rdyA (F : Nat → Option Obj) (s : RM) (hs : s.ok) : Tr Try.prog 17 [.pointer (some ⟨s.R, 0, none⟩)].toArray F s.H (fun v H => v = .int .i64 s.row.length ∧ H = s.H) :=
  (Tr.more (rdy_tr _ s)).mono fun _ _ ⟨_, ⟨h1, h2⟩, h3⟩ => ⟨by rw [h1, hs.rlen]; simp [RM.row], by rw [h3, h2]; rfl⟩
/-- what 'Take' answers and leaves -/
def TakeQ (s : RM) (v : Value) (H : HL) : Prop :=
  (s.row = [] ∧ v = tup [.agg [.int .u16 0, .bool false, .slice none 0 0].toArray, .bool false] ∧ H = s.H) ∨
  ∃ (m : Ms) (s' : RM), m.ok ∧ s'.ok ∧ v = tup [.agg m.cells.toArray, .bool true] ∧ H = s'.H ++ m.hb ∧ s'.R = s.R ∧ s'.turns = s.turns ∧ s.row = m.g :: s'.row ∧ s'.L = s.L ∧ s'.nx = s.nx
theorem takeA (F : Nat → Option Obj) (s : RM) (hs : s.ok) : Tr Try.prog 20 [.pointer (some ⟨s.R, 0, none⟩)].toArray F s.H (TakeQ s) := by
  cases hms : s.ms with
  | nil => exact (Tr.more (take_none _ s hs hms)).mono fun _ _ ⟨_, ⟨h1, h2⟩, h3⟩ => .inl ⟨by simp [RM.row, hms], h1, by rw [h3, h2]; rfl⟩
  | cons m ms' =>
    have e : s.H = (s.core ++ s.rhb) ++ (s.mhb ++ s.phb) := by simp [RM.H]
    rw [e]
    refine Tr.weak (Tr.more (take_some _ s hs m ms' hms)) ?_
    rintro _ _ ⟨_, ⟨ra', rc', rfl, hown, rfl⟩, rfl⟩
    have hmok : m.ok := hs.mok m (by simp [hms])
    have hlen := Ms.len hmok
    have hh := hs.held
    have hf := hs.fine
    have hrow : s.row = m.g :: ms'.map (·.g) := by simp [RM.row, hms]
    have htm : totM s.row = m.g.bytes.length + totM (ms'.map (·.g)) := by rw [hrow]; simp [totM]
    have hw : IntKind.i64.wrap (s.held - m.sn) = s.held - m.sn := i64_id (by omega) (by omega)
    refine ⟨({ s with ms := ms', ra := ra', rn := ms'.length, rc := rc', held := IntKind.i64.wrap (s.held - m.sn) } : RM).H ++ m.hb, .inr ⟨m, _, hmok, ?_, rfl, rfl, rfl, rfl, hrow, rfl, rfl⟩, fun w h => ?_⟩
    · refine ⟨hs.pok, fun x hx => hs.mok x (by rw [hms]; exact List.mem_cons_of_mem _ hx), hown, hs.born, hs.old, hs.turn, hs.turns, hs.keys, hs.wf, ?_, ?_, hs.bound, ?_⟩
      · show IntKind.i64.wrap (s.held - m.sn) = totD s.L + totM (ms'.map (·.g))
        rw [hw, hh, htm, hlen]; simp; omega
      · have := hs.few
        rw [hms] at this
        dsimp only
        simp at this ⊢
        omega
      · show totD s.L + totM (ms'.map (·.g)) ≤ 1000000000
        omega
    · have e2 : s.mhb = m.hb ++ ms'.flatMap (·.hb) := by simp [RM.mhb, hms]
      rw [e2] at h
      unfold RM.H
      refine h.perm ?_
      unfold RM.mhb RM.phb
      dsimp only
      simp only [List.append_assoc]
      refine List.Perm.append_left _ (List.Perm.append_left _ ?_)
      exact (List.perm_append_comm (l₁ := m.hb)).trans (by rw [List.append_assoc])

theorem RM.said {s : RM} {x : Rm.S} (h : s.S = x) : s.L = x.L ∧ s.row = x.row ∧ s.nx = x.nx := by subst h; exact ⟨rfl, rfl, rfl⟩
def wd1 : D := ⟨5, 0, 0, false, false, true, [98]⟩
def wd2 : D := ⟨4, 0, 0, false, true, false, [97]⟩
def wd3 : D := ⟨7, 0, 2, false, true, true, [99]⟩
set_option maxHeartbeats 4000000 in
theorem works_tr (F : Nat → Option Obj) : Tr Try.prog 10 [].toArray F [] (fun v H => v = .bool true ∧ H = []) := by
  refine Tr.enter Try.func10 rfl Try.ntmps10 rfl (fun w0 => ?_)
  repeat' (first | refine S1 ?_ | refine SD ?_ | refine SA (fun _ => ?_) | refine WL.g_split rfl rfl (fun hc => ?_) (fun hc => ?_) | refine WD.g_split rfl rfl (fun hc => ?_) (fun hc => ?_) | refine W.cond rfl (fun hc => ?_) (fun hc => ?_))
  refine WL.e rfl (Ef.call (by exact rfl) (.nil _) (New_ok _ 2 (by omega))) ?_
  rintro _ _ ⟨_, ⟨s0, hs0, rfl, rfl, ht0, hS0⟩, rfl⟩
  dsimp only [tup]
  obtain ⟨hL0, hR0, hn0⟩ := RM.said hS0
  have hr0 : s0.R = s0.R := rfl
  repeat' (first | refine S1 ?_ | refine SD ?_ | refine SA (fun _ => ?_) | refine WL.g_split rfl rfl (fun hc => ?_) (fun hc => ?_) | refine WD.g_split rfl rfl (fun hc => ?_) (fun hc => ?_) | refine W.cond rfl (fun hc => ?_) (fun hc => ?_))
  refine WL.e rfl (Ef.cvS rfl (.here _)) ?_
  rintro _ _ ⟨rfl, rfl⟩
  repeat' (first | refine S1 ?_ | refine SD ?_ | refine SA (fun _ => ?_) | refine WL.g_split rfl rfl (fun hc => ?_) (fun hc => ?_) | refine WD.g_split rfl rfl (fun hc => ?_) (fun hc => ?_) | refine W.cond rfl (fun hc => ?_) (fun hc => ?_))
  rw [← hr0]
  refine WL.e rfl (Ef.call (by exact rfl) (.pickL (.there .here) (.pick .here (.nil _))) (put_tr _ [_] s0 hs0 wd1 (some ⟨_, 0, none⟩) 1 1 (Src.own (n := 1) (.here rfl)) rfl (by decide) (by decide) (by decide) (by omega) (by rw [hL0, hR0]; decide) (by rw [hn0]; decide))) ?_
  rintro _ _ ⟨_, ⟨rfl, s1, hs1, rfl, hr1, ht1, hS1, _⟩, rfl⟩
  have hE1 : putE s0.S wd1 = 0 := by rw [hS0]; kernel_rfl
  rw [hE1]
  rw [hS0] at hS1
  replace hS1 := hS1.trans (show _ = (⟨[wd1], [], [0, 0]⟩ : Rm.S) by kernel_rfl)
  obtain ⟨hL1, hR1, hn1⟩ := RM.said hS1
  refine WL.weak (fun _ h => h.sublist ((List.sublist_append_left _ _).append (.refl _))) ?_
  repeat' (first | refine S1 ?_ | refine SD ?_ | refine SA (fun _ => ?_) | refine WL.g_split rfl rfl (fun hc => ?_) (fun hc => ?_) | refine WD.g_split rfl rfl (fun hc => ?_) (fun hc => ?_) | refine W.cond rfl (fun hc => ?_) (fun hc => ?_))
  refine WL.e rfl (Ef.cvS rfl (.here _)) ?_
  rintro _ _ ⟨rfl, rfl⟩
  repeat' (first | refine S1 ?_ | refine SD ?_ | refine SA (fun _ => ?_) | refine WL.g_split rfl rfl (fun hc => ?_) (fun hc => ?_) | refine WD.g_split rfl rfl (fun hc => ?_) (fun hc => ?_) | refine W.cond rfl (fun hc => ?_) (fun hc => ?_))
  rw [← hr1]
  refine WL.e rfl (Ef.call (by exact rfl) (.pickL (.there .here) (.pick .here (.nil _))) (put_tr _ [_] s1 hs1 wd2 (some ⟨_, 0, none⟩) 1 1 (Src.own (n := 1) (.here rfl)) rfl (by decide) (by decide) (by decide) (by omega) (by rw [hL1, hR1]; decide) (by rw [hn1]; decide))) ?_
  rintro _ _ ⟨_, ⟨rfl, s2, hs2, rfl, hr2, ht2, hS2, _⟩, rfl⟩
  have hE2 : putE s1.S wd2 = 0 := by rw [hS1]; kernel_rfl
  rw [hE2]
  rw [hS1] at hS2
  replace hS2 := hS2.trans (show _ = (⟨[], [⟨0, true, [97, 98]⟩], [1, 0]⟩ : Rm.S) by kernel_rfl)
  obtain ⟨hL2, hR2, hn2⟩ := RM.said hS2
  refine WL.weak (fun _ h => h.sublist ((List.sublist_append_left _ _).append (.refl _))) ?_
  repeat' (first | refine S1 ?_ | refine SD ?_ | refine SA (fun _ => ?_) | refine WL.g_split rfl rfl (fun hc => ?_) (fun hc => ?_) | refine WD.g_split rfl rfl (fun hc => ?_) (fun hc => ?_) | refine W.cond rfl (fun hc => ?_) (fun hc => ?_))
  rw [← hr2]
  refine WL.e rfl (Ef.call (c := s2.H) (by exact rfl) (.one _ _) (takeA _ s2 hs2)) ?_
  rintro _ _ ⟨_, (⟨hno, _⟩ | ⟨m1, s3, hm1, hs3, rfl, rfl, hr3, ht3, hrow3, hL3, hnx3⟩), rfl⟩
  · rw [hR2] at hno; cases hno
  obtain ⟨hg1, hR3⟩ : m1.g = ⟨0, true, [97, 98]⟩ ∧ s3.row = [] := by rw [hR2] at hrow3; exact ⟨(List.cons.inj hrow3).1.symm, (List.cons.inj hrow3).2.symm⟩
  dsimp only [tup]
  repeat' (first | refine S1 ?_ | refine SD ?_ | refine SA (fun _ => ?_) | refine WL.g_split rfl rfl (fun hc => ?_) (fun hc => ?_) | refine WD.g_split rfl rfl (fun hc => ?_) (fun hc => ?_) | refine W.cond rfl (fun hc => ?_) (fun hc => ?_))
  rename_i b5 b39
  have hS3 : s3.S = ⟨[], [], [1, 0]⟩ := by unfold RM.S; rw [hL3, hR3, hnx3, hL2, hn2]
  replace hL3 := (RM.said hS3).1
  have hn3 := (RM.said hS3).2.2
  refine WL.weak (H' := (b39, .cells [.int .u8 99].toArray 5 (0, 0)) :: (s3.H ++ ((b5, .cells [.int .u16 m1.g.stream, .bool m1.g.ordered, m1.bv].toArray 40 (0, 0)) :: m1.hb))) (fun _ h => by rw [List.append_nil] at h; exact In.of_sub subA h) ?_
  refine WL.e rfl (Ef.cvS rfl (.here _)) ?_
  rintro _ _ ⟨rfl, rfl⟩
  repeat' (first | refine S1 ?_ | refine SD ?_ | refine SA (fun _ => ?_) | refine WL.g_split rfl rfl (fun hc => ?_) (fun hc => ?_) | refine WD.g_split rfl rfl (fun hc => ?_) (fun hc => ?_) | refine W.cond rfl (fun hc => ?_) (fun hc => ?_))
  rw [← hr3]
  refine WL.e rfl (Ef.call (by exact rfl) (.pickL (.there .here) (.pick .here (.nil _))) (put_tr _ [_] s3 hs3 wd3 (some ⟨_, 0, none⟩) 1 1 (Src.own (n := 1) (.here rfl)) rfl (by decide) (by decide) (by decide) (by omega) (by rw [hL3, hR3]; decide) (by rw [hn3]; decide))) ?_
  rintro _ _ ⟨_, ⟨rfl, s4, hs4, rfl, hr4, ht4, hS4, _⟩, rfl⟩
  have hE4 : putE s3.S wd3 = 0 := by rw [hS3]; kernel_rfl
  rw [hE4]
  rw [hS3] at hS4
  replace hS4 := hS4.trans (show _ = (⟨[wd3], [], [1, 0]⟩ : Rm.S) by kernel_rfl)
  obtain ⟨hL4, hR4, hn4⟩ := RM.said hS4
  refine WL.weak (fun _ h => h.sublist ((List.sublist_append_left _ _).append (.refl _))) ?_
  repeat' (first | refine S1 ?_ | refine SD ?_ | refine SA (fun _ => ?_) | refine WL.g_split rfl rfl (fun hc => ?_) (fun hc => ?_) | refine WD.g_split rfl rfl (fun hc => ?_) (fun hc => ?_) | refine W.cond rfl (fun hc => ?_) (fun hc => ?_))
  rw [← hr4]
  refine WL.e rfl (Ef.call (c := s4.H) (by exact rfl) (.one _ _) (takeA _ s4 hs4)) ?_
  rintro _ _ ⟨_, (⟨_, rfl, rfl⟩ | ⟨m9, s9, _, _, _, _, _, _, hrow9, _⟩), rfl⟩
  rotate_left
  · rw [hR4] at hrow9; cases hrow9
  dsimp only [tup]
  repeat' (first | refine S1 ?_ | refine SD ?_ | refine SA (fun _ => ?_) | refine WL.g_split rfl rfl (fun hc => ?_) (fun hc => ?_) | refine WD.g_split rfl rfl (fun hc => ?_) (fun hc => ?_) | refine W.cond rfl (fun hc => ?_) (fun hc => ?_))
  rename_i b8 b50
  refine WL.e rfl (Ef.call (by exact rfl) (.pickL (.there (.there .here)) (.pick .here (.nil _))) (Skip_tr _ [(b50, _)] s4 hs4 6 [⟨0, 1⟩] (some ⟨b50, 0, none⟩) 1 1 ⟨rfl, Nat.le_refl _, fun _ => ⟨b50, 0, rfl, Can.cut (n := 2) (.here rfl)⟩, fun h => by cases h⟩ (by decide) (by decide) (by rw [hn4]; intro n hn; simp at hn; omega) (by rw [hn4]; decide))) ?_
  rintro _ _ ⟨_, ⟨rfl, s5, hs5, rfl, hr5, ht5, hS5, _⟩, rfl⟩
  have hE5 : skipE s4.S [⟨0, 1⟩] = 0 := by rw [hS4]; kernel_rfl
  rw [hE5]
  rw [hS4] at hS5
  replace hS5 := hS5.trans (show _ = (⟨[], [⟨0, true, [99]⟩], [3, 0]⟩ : Rm.S) by kernel_rfl)
  obtain ⟨hL5, hR5, hn5⟩ := RM.said hS5
  repeat' (first | refine S1 ?_ | refine SD ?_ | refine SA (fun _ => ?_) | refine WL.g_split rfl rfl (fun hc => ?_) (fun hc => ?_) | refine WD.g_split rfl rfl (fun hc => ?_) (fun hc => ?_) | refine W.cond rfl (fun hc => ?_) (fun hc => ?_))
  rw [← hr5]
  refine WL.weak (H' := s5.H ++ ((b5, .cells [.int .u16 m1.g.stream, .bool m1.g.ordered, m1.bv].toArray 40 (0, 0)) :: m1.hb)) (fun _ h => h.sublist ((List.sublist_append_left _ _).append (.cons _ (.refl _)))) ?_
  refine WL.e rfl (Ef.call (c := s5.H) (by exact rfl) (.one _ _) (takeA _ s5 hs5)) ?_
  rintro _ _ ⟨_, (⟨hno, _⟩ | ⟨m2, s6, hm2, hs6, rfl, rfl, hr6, ht6, hrow6, hL6, hnx6⟩), rfl⟩
  · rw [hR5] at hno; cases hno
  obtain ⟨hg2, hR6⟩ : m2.g = ⟨0, true, [99]⟩ ∧ s6.row = [] := by rw [hR5] at hrow6; exact ⟨(List.cons.inj hrow6).1.symm, (List.cons.inj hrow6).2.symm⟩
  have hheld : s6.held = 0 := by have := hs6.held; rw [hL6, hR6, hL5] at this; exact this
  dsimp only [tup]
  repeat' (first | refine S1 ?_ | refine SD ?_ | refine SA (fun _ => ?_) | refine WL.g_split rfl rfl (fun hc => ?_) (fun hc => ?_) | refine WD.g_split rfl rfl (fun hc => ?_) (fun hc => ?_) | refine W.cond rfl (fun hc => ?_) (fun hc => ?_))
  have hn1 : m1.sn = 2 := by have := Ms.len hm1; rw [hg1] at this; exact this
  have hn2 : m2.sn = 1 := by have := Ms.len hm2; rw [hg2] at this; exact this
  have ho1 : OwnS 5 1 (([97, 98] : List UInt8).map B) (.slice m1.sa m1.sn m1.sc) m1.hb := by have := hm1; unfold Ms.ok at this; rw [hg1] at this; exact this
  have ho2 : OwnS 5 1 (([99] : List UInt8).map B) (.slice m2.sa m2.sn m2.sc) m2.hb := by have := hm2; unfold Ms.ok at this; rw [hg2] at this; exact this
  refine WL.s rfl (Rd.cvBS (bs := [97, 98]) (m := m1.sn) rfl (OwnS.src ho1 (fun _ h => h.sublist (.cons _ ((List.sublist_cons_self _ _).trans (List.sublist_append_right _ _))))) hn1.symm) ?_
  repeat' (first | refine S1 ?_ | refine SD ?_ | refine SA (fun _ => ?_) | refine WL.g_split rfl rfl (fun hc => ?_) (fun hc => ?_) | refine WD.g_split rfl rfl (fun hc => ?_) (fun hc => ?_) | refine W.cond rfl (fun hc => ?_) (fun hc => ?_))
  refine WL.p rfl (by exact Pu.eqS rfl rfl) ?_
  rw [show ((strB [97, 98]).toList == (⟨#[97, 98]⟩ : ByteArray).toList) = true by rw [toList_strB]; kernel_rfl]
  rw [hg1]
  repeat' (first | refine S1 ?_ | refine SD ?_ | refine SA (fun _ => ?_) | refine WL.g_split rfl rfl (fun hc => ?_) (fun hc => ?_) | refine WD.g_split rfl rfl (fun hc => ?_) (fun hc => ?_) | refine W.cond rfl (fun hc => ?_) (fun hc => ?_))
  refine WL.s rfl (Rd.cvBS (bs := [99]) (m := m2.sn) rfl (OwnS.src ho2 (fun _ h => h.sublist (.cons _ ((List.sublist_append_right _ _).trans (List.sublist_append_left _ _))))) hn2.symm) ?_
  repeat' (first | refine S1 ?_ | refine SD ?_ | refine SA (fun _ => ?_) | refine WL.g_split rfl rfl (fun hc => ?_) (fun hc => ?_) | refine WD.g_split rfl rfl (fun hc => ?_) (fun hc => ?_) | refine W.cond rfl (fun hc => ?_) (fun hc => ?_))
  refine WL.p rfl (by exact Pu.eqS rfl rfl) ?_
  rw [show ((strB [99]).toList == (⟨#[99]⟩ : ByteArray).toList) = true by rw [toList_strB]; kernel_rfl]
  repeat' (first | refine S1 ?_ | refine SD ?_ | refine SA (fun _ => ?_) | refine WL.g_split rfl rfl (fun hc => ?_) (fun hc => ?_) | refine WD.g_split rfl rfl (fun hc => ?_) (fun hc => ?_) | refine W.cond rfl (fun hc => ?_) (fun hc => ?_))
  rw [← hr6]
  refine WL.weak (H' := s6.H) (fun _ h => h.sublist (.cons _ ((List.sublist_append_left _ _).trans (List.sublist_append_left _ _)))) ?_
  refine WL.e rfl (Ef.callR (c := s6.H) (by exact rfl) (.all _) (heldA _ s6)) ?_
  rintro _ _ ⟨rfl, rfl⟩
  rw [hheld]
  repeat' (first | refine S1 ?_ | refine SD ?_ | refine SA (fun _ => ?_) | refine WL.g_split rfl rfl (fun hc => ?_) (fun hc => ?_) | refine WD.g_split rfl rfl (fun hc => ?_) (fun hc => ?_) | refine W.cond rfl (fun hc => ?_) (fun hc => ?_))
  exact Fin.retW (by exact rfl) resA (fun _ h => h.sublist (List.nil_sublist _)) ⟨rfl, rfl⟩
end Go.Proofs.Ytokbkocjddcklaa
