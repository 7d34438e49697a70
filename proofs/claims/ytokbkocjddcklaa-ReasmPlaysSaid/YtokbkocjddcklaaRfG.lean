/- The law's 'meant', walked: a thing is done to the document's reassembler as the plain functions say. Conditions: bounds on what is held. -/
import Derived.Test.YtokbkocjddcklaaRfF
import Derived.Test.YtokbkocjddcklaaRfQ
namespace Go.Proofs.Ytokbkocjddcklaa
open Go Go.Sl Go.Rm

def MeantQ (s : RF) (o : Ov) (bs : List UInt8) (ks : List Sk) (v : Value) (H : HL) : Prop :=
  ∃ (sa : Option Addr) (sn sc : Nat) (hb : HL) (s' : RF), v = tup [.agg (mCells (doM s.S o) (.slice sa sn sc)).toArray, .bool (doB s.S o), .int .i64 (doE s.S o bs ks)] ∧ OwnS 5 1 ((doM s.S o).bytes.map B) (.slice sa sn sc) hb ∧
    s'.ok ∧ H = s'.H ++ hb ∧ s'.R = s.R ∧ s'.S = doS s.S o bs ks ∧ s'.nx.length = s.nx.length
set_option maxHeartbeats 4000000 in
theorem meant_tr (F : Nat → Option Obj) (o : Ov) (bs : List UInt8) (ks : List Sk) (ho : o.Is F bs ks) (s : RF) (hs : s.ok) (hfew : s.ps.length + s.ms.length < 1000) (htot : totD s.L + totM s.row + bs.length ≤ 1000000000) (hnx : s.nx.length < 1000000) (hmany : ks.length ≤ 1000) (h16 : nx16 s.nx) :
    Tr Try.prog 15 [.pointer (some ⟨s.R, 0, none⟩), .agg o.cells.toArray].toArray F s.H (MeantQ s o bs ks) := by
  refine Tr.enter Try.func15 rfl Try.ntmps15 rfl (fun w0 => ?_)
  unfold Ov.cells
  have hbn : o.bn = bs.length := by have := ho.bytes.len; simp at this; omega
  have hkn : o.kn = ks.length := by have := ho.skips.len; rw [flat_len' skCells 2 (fun _ => rfl)] at this; omega
  repeat' (first
    | refine W.seq ?_ | refine W.region ?_ | refine W.block ?_ | refine W.skip ?_ | refine W.exit ?_ | refine W.ret ?_ | refine W.cond_t rfl ?_ | refine W.cond_f rfl ?_ | refine WL.nil ?_ | refine WD.nil ?_ | refine Fin.next ?_ | refine Fin.then_exit ?_ | refine Fin.then_ret ?_ | refine Fin.block_normal ?_ | refine Fin.block_ret ?_ | refine Fin.block_exit ?_ | refine Fin.block_other rfl ?_
    | refine WL.pA ?_ | refine WD.pA ?_ | refine WL.sA ?_ | refine WD.sA ?_ | refine WL.g_yes rfl rfl ?_ | refine WL.g_no rfl rfl rfl rfl ?_ | refine WL.g_undef rfl rfl rfl ?_ | refine WL.g_split rfl rfl (fun hc => ?_) (fun hc => ?_) | refine WD.g_yes rfl rfl ?_ | refine WD.g_no rfl rfl rfl rfl ?_ | refine WD.g_undef rfl rfl rfl ?_ | refine WD.g_split rfl rfl (fun hc => ?_) (fun hc => ?_)
    | refine W.drawA ?_ | refine WL.aA (fun _ => ?_) | refine WD.aA (fun _ => ?_) | refine WL.e0A ?_ | refine WD.e0A ?_
    | refine W.cond rfl (fun hc => ?_) (fun hc => ?_))
  · have hk : o.kind = 0 := by simpa using hc
    refine WL.e rfl (Ef.callF (c := s.H) (by exact rfl) (.skip _ (.skip _ (.all _))) (fun hd => rput_tr _ s hs (o.D bs) o.ba o.bn o.bc ((ho.bytes.mono (fun _ h => addF_in hd h)).src) hbn.symm ho.stream ho.tsn hfew htot hnx)) ?_
    rintro _ _ ⟨_, ⟨rfl, s', hs', rfl, hr', hS', hn'⟩, rfl⟩
    repeat' (first
      | refine W.seq ?_ | refine W.region ?_ | refine W.block ?_ | refine W.skip ?_ | refine W.exit ?_ | refine W.ret ?_ | refine W.cond_t rfl ?_ | refine W.cond_f rfl ?_ | refine WL.nil ?_ | refine WD.nil ?_ | refine Fin.next ?_ | refine Fin.then_exit ?_ | refine Fin.then_ret ?_ | refine Fin.block_normal ?_ | refine Fin.block_ret ?_ | refine Fin.block_exit ?_ | refine Fin.block_other rfl ?_
      | refine WL.pA ?_ | refine WD.pA ?_ | refine WL.sA ?_ | refine WD.sA ?_ | refine WL.g_yes rfl rfl ?_ | refine WL.g_no rfl rfl rfl rfl ?_ | refine WL.g_undef rfl rfl rfl ?_ | refine WL.g_split rfl rfl (fun hc => ?_) (fun hc => ?_) | refine WD.g_yes rfl rfl ?_ | refine WD.g_no rfl rfl rfl rfl ?_ | refine WD.g_undef rfl rfl rfl ?_ | refine WD.g_split rfl rfl (fun hc => ?_) (fun hc => ?_)
      | refine W.drawA ?_ | refine WL.aA (fun _ => ?_) | refine WD.aA (fun _ => ?_) | refine WL.e0A ?_ | refine WD.e0A ?_
      | refine W.cond rfl (fun hc => ?_) (fun hc => ?_))
    refine Fin.retW (by exact rfl) (by repeat' (first | exact Res.nil | exact rfl | exact CutAt.here rfl | exact CellAt.here rfl | apply CutAt.there | apply CellAt.there | apply CutAt.right | apply CellAt.right | apply Res.tmp | apply Res.agg' | apply Res.cell')) (H' := s'.H) (fun _ h => h.left) ⟨none, 0, 0, [], s', ?_, .inl ⟨rfl, ?_, rfl⟩, hs', by simp, hr', ?_, hn'⟩
    · simp [tup, doM, doB, doE, hk, mCells]
    · simp [doM, hk]
    · rw [hS']; simp [doS, hk]
  · have hk : o.kind = 1 := by simpa using hc
    refine WL.e rfl (Ef.callF (c := s.H) (by exact rfl) (.skip _ (.skip _ (.all _))) (fun hd => rskip_tr _ s hs o.cum ks o.ka o.kn o.kc (ho.skips.mono (fun _ h => addF_in hd h)) ho.sks (by omega) h16 hnx)) ?_
    rintro _ _ ⟨_, ⟨rfl, s', hs', rfl, hr', hS', hn'⟩, rfl⟩
    repeat' (first
      | refine W.seq ?_ | refine W.region ?_ | refine W.block ?_ | refine W.skip ?_ | refine W.exit ?_ | refine W.ret ?_ | refine W.cond_t rfl ?_ | refine W.cond_f rfl ?_ | refine WL.nil ?_ | refine WD.nil ?_ | refine Fin.next ?_ | refine Fin.then_exit ?_ | refine Fin.then_ret ?_ | refine Fin.block_normal ?_ | refine Fin.block_ret ?_ | refine Fin.block_exit ?_ | refine Fin.block_other rfl ?_
      | refine WL.pA ?_ | refine WD.pA ?_ | refine WL.sA ?_ | refine WD.sA ?_ | refine WL.g_yes rfl rfl ?_ | refine WL.g_no rfl rfl rfl rfl ?_ | refine WL.g_undef rfl rfl rfl ?_ | refine WL.g_split rfl rfl (fun hc => ?_) (fun hc => ?_) | refine WD.g_yes rfl rfl ?_ | refine WD.g_no rfl rfl rfl rfl ?_ | refine WD.g_undef rfl rfl rfl ?_ | refine WD.g_split rfl rfl (fun hc => ?_) (fun hc => ?_)
      | refine W.drawA ?_ | refine WL.aA (fun _ => ?_) | refine WD.aA (fun _ => ?_) | refine WL.e0A ?_ | refine WD.e0A ?_
      | refine W.cond rfl (fun hc => ?_) (fun hc => ?_))
    refine Fin.retW (by exact rfl) (by repeat' (first | exact Res.nil | exact rfl | exact CutAt.here rfl | exact CellAt.here rfl | apply CutAt.there | apply CellAt.there | apply CutAt.right | apply CellAt.right | apply Res.tmp | apply Res.agg' | apply Res.cell')) (H' := s'.H) (fun _ h => h.left) ⟨none, 0, 0, [], s', ?_, .inl ⟨rfl, ?_, rfl⟩, hs', by simp, hr', ?_, hn'⟩
    · simp [tup, doM, doB, doE, hk, mCells]
    · simp [doM, hk]
    · rw [hS']; simp [doS, hk]
  · have hk : o.kind = 2 := by simpa using hc
    refine WL.e rfl (Ef.call (c := s.H) (by exact rfl) (.skip _ (.skip _ (.all _))) (rtake_tr _ s hs)) ?_
    rintro v _ ⟨H1, hq, rfl⟩
    obtain ⟨g, ga, gn, gc, ghb, is, s', rfl, hgo, hs', rfl, hr', hg, his, hS', hn'⟩ : ∃ (g : Mg) (ga : Option Addr) (gn gc : Nat) (ghb : HL) (is : Bool) (s' : RF), v = tup [.agg [.int .u16 g.stream, .bool g.ordered, .slice ga gn gc].toArray, .bool is] ∧ OwnS 5 1 (g.bytes.map B) (.slice ga gn gc) ghb ∧ s'.ok ∧ H1 = s'.H ++ ghb ∧ s'.R = s.R ∧ doM s.S o = g ∧ doB s.S o = is ∧ s'.S = (Rm.take s.S).2 ∧ s'.nx.length = s.nx.length := by
      rcases hq with ⟨h1, h2, h3⟩ | ⟨m, s', hm, hs', h2, h3, h4, h6, h7, h8⟩
      · have e : (Rm.take s.S) = (none, s.S) := by unfold Rm.take; rw [show s.S.row = [] from h1]
        exact ⟨⟨0, false, []⟩, none, 0, 0, [], false, s, h2, .inl ⟨rfl, rfl, rfl⟩, hs, by rw [h3, List.append_nil], rfl, by simp [doM, hk, e], by simp [doB, hk, e], by rw [e], rfl⟩
      · have e : (Rm.take s.S) = (some m.g, ⟨s.L, s'.row, s.nx⟩) := by unfold Rm.take; rw [show s.S.row = _ from h6]; rfl
        exact ⟨m.g, m.sa, m.sn, m.sc, m.hb, true, s', h2, hm, hs', h3, h4, by simp [doM, hk, e], by simp [doB, hk, e], by rw [e]; simp only [RF.S, h7, h8], by rw [h8]⟩
    dsimp only [tup]
    rw [List.append_assoc]
    repeat' (first
      | refine W.seq ?_ | refine W.region ?_ | refine W.block ?_ | refine W.skip ?_ | refine W.exit ?_ | refine W.ret ?_ | refine W.cond_t rfl ?_ | refine W.cond_f rfl ?_ | refine WL.nil ?_ | refine WD.nil ?_ | refine Fin.next ?_ | refine Fin.then_exit ?_ | refine Fin.then_ret ?_ | refine Fin.block_normal ?_ | refine Fin.block_ret ?_ | refine Fin.block_exit ?_ | refine Fin.block_other rfl ?_
      | refine WL.pA ?_ | refine WD.pA ?_ | refine WL.sA ?_ | refine WD.sA ?_ | refine WL.g_yes rfl rfl ?_ | refine WL.g_no rfl rfl rfl rfl ?_ | refine WL.g_undef rfl rfl rfl ?_ | refine WL.g_split rfl rfl (fun hc => ?_) (fun hc => ?_) | refine WD.g_yes rfl rfl ?_ | refine WD.g_no rfl rfl rfl rfl ?_ | refine WD.g_undef rfl rfl rfl ?_ | refine WD.g_split rfl rfl (fun hc => ?_) (fun hc => ?_)
      | refine W.drawA ?_ | refine WL.aA (fun _ => ?_) | refine WD.aA (fun _ => ?_) | refine WL.e0A ?_ | refine WD.e0A ?_
      | refine W.cond rfl (fun hc => ?_) (fun hc => ?_))
    refine Fin.retW (by exact rfl) (by repeat' (first | exact Res.nil | exact rfl | exact CutAt.here rfl | exact CellAt.here rfl | apply CutAt.there | apply CellAt.there | apply CutAt.right | apply CellAt.right | apply Res.tmp | apply Res.agg' | apply Res.cell')) (H' := s'.H ++ ghb) (fun _ h => ?_) ⟨ga, gn, gc, ghb, s', ?_, by rw [hg]; exact hgo, hs', rfl, hr', ?_, hn'⟩
    · rw [← List.append_assoc] at h
      exact (h.sublist (List.sublist_cons_self _ _)).left
    · rw [hg, his]; simp [tup, doE, hk, mCells]
    · rw [hS']; simp [doS, hk]
  · rename_i h0 h1
    have hk0 : o.kind ≠ 0 := by simpa using h0
    have hk1 : o.kind ≠ 1 := by simpa using h1
    have hk2 : o.kind ≠ 2 := by simpa using hc
    refine Fin.retW (by exact rfl) (by repeat' (first | exact Res.nil | exact rfl | exact CutAt.here rfl | exact CellAt.here rfl | apply CutAt.there | apply CellAt.there | apply CutAt.right | apply CellAt.right | apply Res.tmp | apply Res.agg' | apply Res.cell')) (H' := s.H) (fun _ h => h.sublist (.cons _ (.cons _ (.refl _)))) ⟨none, 0, 0, [], s, ?_, .inl ⟨rfl, ?_, rfl⟩, hs, by simp, rfl, ?_, rfl⟩
    · simp [tup, doM, doB, doE, hk0, hk1, hk2, mCells]
    · simp [doM, hk2]
    · simp [doS, hk0, hk1, hk2]
end Go.Proofs.Ytokbkocjddcklaa
