/- The law ReasmHeld, walked: it answers true. Conditions: what its argument's cells are. -/
import Derived.Test.YtokbkocjddcklaaRmO
import Derived.Test.YtokbkocjddcklaaRmQ
namespace Go.Proofs.Ytokbkocjddcklaa
open Go Go.Sl Go.Rm

/-- a thing done, with its bytes and its skips -/
structure Opm where
  o : Ov
  bs : List UInt8
  ks : List Sk
def Opm.cells (p : Opm) : List Value := p.o.cells
def Opm.Is (F : Nat → Option Obj) (p : Opm) : Prop := p.o.Is F p.bs p.ks

theorem vastG_no : ∀ (l : List Ov) (n k : Int), 0 ≤ n → 0 ≤ k → vastG l n k = false → ∀ o ∈ l, o.bn ≤ 32768 ∧ o.kn ≤ 12
  | [], _, _, _, _, _, _, ho => by cases ho
  | q :: r, n, k, hn, hk, h, o, ho => by
    rw [vastG] at h
    split at h
    · cases h
    · rename_i hc
      rcases List.mem_cons.1 ho with rfl | ho
      · omega
      · exact vastG_no r _ _ (by omega) (by omega) h o ho
theorem vast_no {l : List Ov} (h : vast l = false) : l.length ≤ 80 ∧ ∀ o ∈ l, o.bn ≤ 32768 ∧ o.kn ≤ 12 := by
  unfold vast at h
  rw [Bool.or_eq_false_iff] at h
  exact ⟨by have := h.1; simp at this; omega, vastG_no l 0 0 (by decide) (by decide) h.2⟩

theorem RM.ok.good {s : RM} (h : s.ok) : Rm.good s.L := by
  refine ⟨?_, fun d hd => ?_, ?_⟩
  · have := h.keys; simpa [RM.L, List.map_map, Function.comp_def] using this
  · obtain ⟨p, hp, rfl⟩ := List.mem_map.1 hd; exact h.wf p hp
  · have h1 := h.few; have h2 := h.bound; simp only [RM.L, List.length_map]; omega
theorem RM.ok.len {s : RM} (h : s.ok) : (s.L.length : Int) ≤ s.turns := by have := h.few; simp only [RM.L, List.length_map]; omega

theorem doS_nx {s : Rm.S} {o : Ov} {bs : List UInt8} {ks : List Sk} (h : nx16 s.nx) : nx16 (doS s o bs ks).nx := by
  unfold doS
  split
  · exact put_nx h
  split
  · unfold Rm.skip
    split
    · have key : ∀ (l : List Sk) (s : Rm.S), nx16 s.nx → nx16 (l.foldl (fun s k => skip1 s k.st k.n) s).nx := fun l => by
        induction l with
        | nil => intro s h; exact h
        | cons k l ih => intro s h; exact ih _ (skip1_nx h)
      exact key ks _ (by unfold parts; exact h)
    · exact h
  split
  · unfold Rm.take; split <;> exact h
  · exact h

theorem Ov.Is.mono {F F' : Nat → Option Obj} {o : Ov} {bs : List UInt8} {ks : List Sk} (h : o.Is F bs ks) (hw : ∀ w, In F' [] w → In F [] w) : o.Is F' bs ks :=
  ⟨h.bytes.mono hw, h.skips.mono hw, h.tsn, h.stream, h.sks⟩
theorem Opm.Is.mono {F F' : Nat → Option Obj} {p : Opm} (h : p.Is F) (hw : ∀ w, In F' [] w → In F [] w) : p.o.Is F' p.bs p.ks := Ov.Is.mono h hw

/-- what is held behind a thing done that is no skip -/
theorem doS_tot {s : Rm.S} {o : Ov} {bs : List UInt8} {ks : List Sk} (hg : Rm.good s.L) (ht : 0 ≤ o.tsn ∧ o.tsn < 4294967296) (hf : s.L.length + 1 < 2147483000) (h1 : o.kind ≠ 1) :
    totD (doS s o bs ks).L + totM (doS s o bs ks).row + (doM s o).bytes.length = totD s.L + totM s.row + if o.kind = 0 ∧ doE s o bs ks = 0 then bs.length else 0 := by
  unfold doS doM doE
  by_cases h0 : o.kind = 0
  · rw [if_pos h0, if_neg (by omega), if_pos h0, put_tot (d := o.D bs) hg ht hf]
    simp only [h0, true_and, List.length_nil, Nat.add_zero]
    rfl
  · rw [if_neg h0, if_neg h1, if_neg (c := o.kind = 0 ∧ _) (fun h => h0 h.1)]
    by_cases h2 : o.kind = 2
    · rw [if_pos h2, if_pos h2]
      unfold Rm.take
      cases hr : s.row with
      | nil => simp [hr]
      | cons m r => simp [totM]; omega
    · rw [if_neg h2, if_neg h2]; simp

structure HdG where
  i : Nat
  s : RM
set_option maxHeartbeats 8000000 in
theorem heldLaw_tr (F : Nat → Option Obj) (m : Int) (hm : -9223372036854775808 ≤ m ∧ m ≤ 9223372036854775807) (l : List Opm) (ka : Option Addr) (kn kc : Nat) (hl : Lst F [] 10 (l.flatMap Opm.cells) ka kn kc) (hop : ∀ p ∈ l, p.Is F) :
    Tr Try.prog 3 [.int .i64 m, .slice ka kn kc].toArray F [] (fun v H => v = .bool true ∧ H = []) := by
  refine Tr.enter Try.func3 rfl Try.ntmps3 rfl (fun w0 => ?_)
  have hkn : kn = l.length := by have := hl.len; rw [flat_len' Opm.cells 10 (fun _ => rfl)] at this; omega
  repeat' (first
    | refine W.seq ?_ | refine W.region ?_ | refine W.block ?_ | refine W.skip ?_ | refine W.exit ?_ | refine W.ret ?_ | refine W.cond_t rfl ?_ | refine W.cond_f rfl ?_ | refine WL.nil ?_ | refine WD.nil ?_ | refine Fin.next ?_ | refine Fin.then_exit ?_ | refine Fin.then_ret ?_ | refine Fin.block_normal ?_ | refine Fin.block_ret ?_ | refine Fin.block_exit ?_ | refine Fin.block_other rfl ?_
    | refine WL.pA ?_ | refine WD.pA ?_ | refine WL.sA ?_ | refine WD.sA ?_ | refine WL.g_yes rfl rfl ?_ | refine WL.g_no rfl rfl rfl rfl ?_ | refine WL.g_undef rfl rfl rfl ?_ | refine WL.g_split rfl rfl (fun hc => ?_) (fun hc => ?_) | refine WD.g_yes rfl rfl ?_ | refine WD.g_no rfl rfl rfl rfl ?_ | refine WD.g_undef rfl rfl rfl ?_ | refine WD.g_split rfl rfl (fun hc => ?_) (fun hc => ?_)
    | refine W.drawA ?_ | refine WL.aA (fun _ => ?_) | refine WD.aA (fun _ => ?_) | refine WL.e0A ?_ | refine WD.e0A ?_
    | refine W.cond rfl (fun hc => ?_) (fun hc => ?_))
  refine WL.e rfl (Ef.callFR (by exact rfl) (.nil _) (fun hd => vast_tr _ [] (l.map (·.o)) ka kn kc (by rw [List.flatMap_map]; exact (hl.mono (fun _ h => addF_in hd h))))) ?_
  rintro _ _ ⟨rfl, rfl⟩
  repeat' (first
    | refine W.seq ?_ | refine W.region ?_ | refine W.block ?_ | refine W.skip ?_ | refine W.exit ?_ | refine W.ret ?_ | refine W.cond_t rfl ?_ | refine W.cond_f rfl ?_ | refine WL.nil ?_ | refine WD.nil ?_ | refine Fin.next ?_ | refine Fin.then_exit ?_ | refine Fin.then_ret ?_ | refine Fin.block_normal ?_ | refine Fin.block_ret ?_ | refine Fin.block_exit ?_ | refine Fin.block_other rfl ?_
    | refine WL.pA ?_ | refine WD.pA ?_ | refine WL.sA ?_ | refine WD.sA ?_ | refine WL.g_yes rfl rfl ?_ | refine WL.g_no rfl rfl rfl rfl ?_ | refine WL.g_undef rfl rfl rfl ?_ | refine WL.g_split rfl rfl (fun hc => ?_) (fun hc => ?_) | refine WD.g_yes rfl rfl ?_ | refine WD.g_no rfl rfl rfl rfl ?_ | refine WD.g_undef rfl rfl rfl ?_ | refine WD.g_split rfl rfl (fun hc => ?_) (fun hc => ?_)
    | refine W.drawA ?_ | refine WL.aA (fun _ => ?_) | refine WD.aA (fun _ => ?_) | refine WL.e0A ?_ | refine WD.e0A ?_
    | refine W.cond rfl (fun hc => ?_) (fun hc => ?_))
  · refine WL.e rfl (Ef.callR (by exact rfl) (.nil _) (works_tr _)) ?_
    rintro _ _ ⟨rfl, rfl⟩
    repeat' (first
      | refine W.seq ?_ | refine W.region ?_ | refine W.block ?_ | refine W.skip ?_ | refine W.exit ?_ | refine W.ret ?_ | refine W.cond_t rfl ?_ | refine W.cond_f rfl ?_ | refine WL.nil ?_ | refine WD.nil ?_ | refine Fin.next ?_ | refine Fin.then_exit ?_ | refine Fin.then_ret ?_ | refine Fin.block_normal ?_ | refine Fin.block_ret ?_ | refine Fin.block_exit ?_ | refine Fin.block_other rfl ?_
      | refine WL.pA ?_ | refine WD.pA ?_ | refine WL.sA ?_ | refine WD.sA ?_ | refine WL.g_yes rfl rfl ?_ | refine WL.g_no rfl rfl rfl rfl ?_ | refine WL.g_undef rfl rfl rfl ?_ | refine WL.g_split rfl rfl (fun hc => ?_) (fun hc => ?_) | refine WD.g_yes rfl rfl ?_ | refine WD.g_no rfl rfl rfl rfl ?_ | refine WD.g_undef rfl rfl rfl ?_ | refine WD.g_split rfl rfl (fun hc => ?_) (fun hc => ?_)
      | refine W.drawA ?_ | refine WL.aA (fun _ => ?_) | refine WD.aA (fun _ => ?_) | refine WL.e0A ?_ | refine WD.e0A ?_
      | refine W.cond rfl (fun hc => ?_) (fun hc => ?_))
    exact Fin.retW (by exact rfl) (by repeat' (first | exact Res.nil | exact rfl | exact CutAt.here rfl | exact CellAt.here rfl | apply CutAt.there | apply CellAt.there | apply CutAt.right | apply CellAt.right | apply Res.tmp | apply Res.agg' | apply Res.cell')) (fun _ h => h.sublist (List.nil_sublist _)) ⟨rfl, rfl⟩
  obtain ⟨h80, hsm⟩ := vast_no hc
  rw [List.length_map] at h80
  by_cases hbad : m < 1 ∨ 16 < m
  · refine WL.e rfl (Ef.callR (by exact rfl) (.nil _) (New_bad _ m hbad)) ?_
    rintro _ _ ⟨rfl, rfl⟩
    dsimp only [tup]
    repeat' (first
      | refine W.seq ?_ | refine W.region ?_ | refine W.block ?_ | refine W.skip ?_ | refine W.exit ?_ | refine W.ret ?_ | refine W.cond_t rfl ?_ | refine W.cond_f rfl ?_ | refine WL.nil ?_ | refine WD.nil ?_ | refine Fin.next ?_ | refine Fin.then_exit ?_ | refine Fin.then_ret ?_ | refine Fin.block_normal ?_ | refine Fin.block_ret ?_ | refine Fin.block_exit ?_ | refine Fin.block_other rfl ?_
      | refine WL.pA ?_ | refine WD.pA ?_ | refine WL.sA ?_ | refine WD.sA ?_ | refine WL.g_yes rfl rfl ?_ | refine WL.g_no rfl rfl rfl rfl ?_ | refine WL.g_undef rfl rfl rfl ?_ | refine WL.g_split rfl rfl (fun hc => ?_) (fun hc => ?_) | refine WD.g_yes rfl rfl ?_ | refine WD.g_no rfl rfl rfl rfl ?_ | refine WD.g_undef rfl rfl rfl ?_ | refine WD.g_split rfl rfl (fun hc => ?_) (fun hc => ?_)
      | refine W.drawA ?_ | refine WL.aA (fun _ => ?_) | refine WD.aA (fun _ => ?_) | refine WL.e0A ?_ | refine WD.e0A ?_
      | refine W.cond rfl (fun hc => ?_) (fun hc => ?_))
    refine WL.e rfl (Ef.callR (by exact rfl) (.nil _) (works_tr _)) ?_
    rintro _ _ ⟨rfl, rfl⟩
    repeat' (first
      | refine W.seq ?_ | refine W.region ?_ | refine W.block ?_ | refine W.skip ?_ | refine W.exit ?_ | refine W.ret ?_ | refine W.cond_t rfl ?_ | refine W.cond_f rfl ?_ | refine WL.nil ?_ | refine WD.nil ?_ | refine Fin.next ?_ | refine Fin.then_exit ?_ | refine Fin.then_ret ?_ | refine Fin.block_normal ?_ | refine Fin.block_ret ?_ | refine Fin.block_exit ?_ | refine Fin.block_other rfl ?_
      | refine WL.pA ?_ | refine WD.pA ?_ | refine WL.sA ?_ | refine WD.sA ?_ | refine WL.g_yes rfl rfl ?_ | refine WL.g_no rfl rfl rfl rfl ?_ | refine WL.g_undef rfl rfl rfl ?_ | refine WL.g_split rfl rfl (fun hc => ?_) (fun hc => ?_) | refine WD.g_yes rfl rfl ?_ | refine WD.g_no rfl rfl rfl rfl ?_ | refine WD.g_undef rfl rfl rfl ?_ | refine WD.g_split rfl rfl (fun hc => ?_) (fun hc => ?_)
      | refine W.drawA ?_ | refine WL.aA (fun _ => ?_) | refine WD.aA (fun _ => ?_) | refine WL.e0A ?_ | refine WD.e0A ?_
      | refine W.cond rfl (fun hc => ?_) (fun hc => ?_))
    exact Fin.retW (by exact rfl) (by repeat' (first | exact Res.nil | exact rfl | exact CutAt.here rfl | exact CellAt.here rfl | apply CutAt.there | apply CellAt.there | apply CutAt.right | apply CellAt.right | apply Res.tmp | apply Res.agg' | apply Res.cell')) (fun _ h => h.sublist (List.nil_sublist _)) ⟨rfl, rfl⟩
  obtain ⟨k, rfl⟩ : ∃ k : Nat, m = k := ⟨m.toNat, by omega⟩
  refine WL.e rfl (Ef.call (by exact rfl) (.nil _) (New_ok _ k (by omega))) ?_
  rintro _ _ ⟨_, ⟨s0, hs0, rfl, rfl, ht0, hS0⟩, rfl⟩
  dsimp only [tup]
  rw [List.append_nil]
  repeat' (first
    | refine W.seq ?_ | refine W.region ?_ | refine W.block ?_ | refine W.skip ?_ | refine W.exit ?_ | refine W.ret ?_ | refine W.cond_t rfl ?_ | refine W.cond_f rfl ?_ | refine WL.nil ?_ | refine WD.nil ?_ | refine Fin.next ?_ | refine Fin.then_exit ?_ | refine Fin.then_ret ?_ | refine Fin.block_normal ?_ | refine Fin.block_ret ?_ | refine Fin.block_exit ?_ | refine Fin.block_other rfl ?_
    | refine WL.pA ?_ | refine WD.pA ?_ | refine WL.sA ?_ | refine WD.sA ?_ | refine WL.g_yes rfl rfl ?_ | refine WL.g_no rfl rfl rfl rfl ?_ | refine WL.g_undef rfl rfl rfl ?_ | refine WL.g_split rfl rfl (fun hc => ?_) (fun hc => ?_) | refine WD.g_yes rfl rfl ?_ | refine WD.g_no rfl rfl rfl rfl ?_ | refine WD.g_undef rfl rfl rfl ?_ | refine WD.g_split rfl rfl (fun hc => ?_) (fun hc => ?_)
    | refine W.drawA ?_ | refine WL.aA (fun _ => ?_) | refine WD.aA (fun _ => ?_) | refine WL.e0A ?_ | refine WD.e0A ?_
    | refine W.cond rfl (fun hc => ?_) (fun hc => ?_))
  obtain ⟨hL0, hr0, hn0⟩ := RM.said hS0
  refine W.loop (G := HdG) (fun g => [(0, .int .i64 k), (1, .slice ka kn kc), (5, .pointer (some ⟨g.s.R, 0, none⟩)), (7, .int .i64 g.s.held), (8, .int .i64 g.i)]) (fun g => g.s.H)
    (fun g => g.i ≤ kn ∧ g.s.ok ∧ g.s.R = s0.R ∧ g.s.turns ≤ g.i ∧ g.s.nx.length = k ∧ nx16 g.s.nx ∧ totD g.s.L + totM g.s.row ≤ 32768 * g.i) (fun g => kn - g.i) ⟨0, s0⟩ ⟨Nat.zero_le _, hs0, rfl, by dsimp only; omega, by dsimp only; rw [hn0]; simp, by dsimp only; rw [hn0]; intro x hx; simp at hx; omega, by dsimp only; rw [hL0, hr0]; simp [totD, totM]⟩ ?_ (fun _ h => h) ?_
  · have : s0.held = 0 := by rw [hs0.held, hL0, hr0]; rfl
    dsimp only
    rw [this]
    exact (sub_of (by repeat (first | exact subEnv.nil | refine subEnv.cons rfl ?_)))
  rintro ⟨i, s⟩ ⟨hi, hs, hR, htu, hnl, h16, htot⟩
  dsimp only at hi hs hR htu hnl h16 htot ⊢
  repeat' (first
    | refine W.seq ?_ | refine W.region ?_ | refine W.block ?_ | refine W.skip ?_ | refine W.exit ?_ | refine W.ret ?_ | refine W.cond_t rfl ?_ | refine W.cond_f rfl ?_ | refine WL.nil ?_ | refine WD.nil ?_ | refine Fin.next ?_ | refine Fin.then_exit ?_ | refine Fin.then_ret ?_ | refine Fin.block_normal ?_ | refine Fin.block_ret ?_ | refine Fin.block_exit ?_ | refine Fin.block_other rfl ?_
    | refine WL.pA ?_ | refine WD.pA ?_ | refine WL.sA ?_ | refine WD.sA ?_ | refine WL.g_yes rfl rfl ?_ | refine WL.g_no rfl rfl rfl rfl ?_ | refine WL.g_undef rfl rfl rfl ?_ | refine WL.g_split rfl rfl (fun hc => ?_) (fun hc => ?_) | refine WD.g_yes rfl rfl ?_ | refine WD.g_no rfl rfl rfl rfl ?_ | refine WD.g_undef rfl rfl rfl ?_ | refine WD.g_split rfl rfl (fun hc => ?_) (fun hc => ?_)
    | refine W.drawA ?_ | refine WL.aA (fun _ => ?_) | refine WD.aA (fun _ => ?_) | refine WL.e0A ?_ | refine WD.e0A ?_
    | refine W.cond rfl (fun hc => ?_) (fun hc => ?_))
  · have hi' : i < kn := by simp at hc; omega
    obtain ⟨p, hp⟩ : ∃ p, l[i]? = some p := ⟨l[i]'(by omega), by simp⟩
    have hpm : p ∈ l := List.mem_of_getElem? hp
    obtain ⟨b, off, rfl, hA⟩ := hl.el (cells := Opm.cells) (fun _ => rfl) hp (by omega)
    have hia : 0 ≤ (i : Int) ∧ (i : Int) < kn := by omega
    have hK : Sl.Can F [] b (off + (i : Int).toNat * 10 + 0) [.int .i64 p.o.kind] := hA.one (i := 0) rfl
    have hB : Sl.Can F [] b (off + (i : Int).toNat * 10 + 1 + 6) [.slice p.o.ba p.o.bn p.o.bc] := hA.one (i := 7) rfl
    have hSt : Sl.Can F [] b (off + (i : Int).toNat * 10 + 1 + 1) [.int .u16 p.o.stream] := hA.one (i := 2) rfl
    have hA2 := hA
    have hpi := hop p hpm
    have hsmp := hsm p.o (List.mem_map.2 ⟨p, hpm, rfl⟩)
    have hbn : p.o.bn = p.bs.length := by have := hpi.bytes.len; simp at this; omega
    have hkn' : p.o.kn = p.ks.length := by have := hpi.skips.len; rw [flat_len' skCells 2 (fun _ => rfl)] at this; omega
    repeat' (first
      | refine W.seq ?_ | refine W.region ?_ | refine W.block ?_ | refine W.skip ?_ | refine W.exit ?_ | refine W.ret ?_ | refine W.cond_t rfl ?_ | refine W.cond_f rfl ?_ | refine WL.nil ?_ | refine WD.nil ?_ | refine Fin.next ?_ | refine Fin.then_exit ?_ | refine Fin.then_ret ?_ | refine Fin.block_normal ?_ | refine Fin.block_ret ?_ | refine Fin.block_exit ?_ | refine Fin.block_other rfl ?_
      | refine WL.pA ?_ | refine WD.pA ?_ | refine WL.sA ?_ | refine WD.sA ?_ | refine WL.g_yes rfl rfl ?_ | refine WL.g_no rfl rfl rfl rfl ?_ | refine WL.g_undef rfl rfl rfl ?_ | refine WL.g_split rfl rfl (fun hc => ?_) (fun hc => ?_) | refine WD.g_yes rfl rfl ?_ | refine WD.g_no rfl rfl rfl rfl ?_ | refine WD.g_undef rfl rfl rfl ?_ | refine WD.g_split rfl rfl (fun hc => ?_) (fun hc => ?_)
      | refine W.drawA ?_ | refine WL.aA (fun _ => ?_) | refine WD.aA (fun _ => ?_) | refine WL.e0A ?_ | refine WD.e0A ?_
      | refine W.cond rfl (fun hc => ?_) (fun hc => ?_))
    · rw [i64_succ (by omega)]
      exact Fin.round ⟨i + 1, s⟩ ⟨hi', hs, hR, by dsimp only; omega, hnl, h16, by dsimp only; omega⟩ (sub_of (by repeat (first | exact subEnv.nil | refine subEnv.cons rfl ?_))) (fun _ h => h) (by dsimp only; omega)
    have h1 : p.o.kind ≠ 1 := by simpa using hc
    refine WL.e rfl (Ef.callF (by exact rfl) (.all _) (fun hd => does_tr _ p.o p.bs p.ks (hpi.mono (fun _ h => addF_in hd h)) s hs (by omega) (by omega) (by omega) (by omega) h16)) ?_
    rintro _ _ ⟨_, ⟨sa, sn, sc, hb, s', rfl, hown, hs', rfl, hR', htu', hS', hnl'⟩, rfl⟩
    have hsn : (doM s.S p.o).bytes.length = sn := by have := hown.len; simpa using this
    obtain ⟨hL', hr', hn'⟩ := RM.said hS'
    have hcons := doS_tot (s := s.S) (o := p.o) (bs := p.bs) (ks := p.ks) hs.good hpi.tsn (by have := hs.len; show s.L.length + 1 < _; omega) h1
    rw [← hL', ← hr', hsn] at hcons
    have hhd : s.held = totD s.L + totM s.row := hs.held
    have hhd' : s'.held = totD s'.L + totM s'.row := hs'.held
    have hLr : totD s.S.L + totM s.S.row = totD s.L + totM s.row := rfl
    have h16' : nx16 s'.nx := by rw [hn']; exact doS_nx h16
    dsimp only [tup]
    rw [List.append_nil]
    rw [← hR']
    have hgood : (p.o.kind == 0) = true → (doE s.S p.o p.bs p.ks == 0) = true → decide (IntKind.i64.wrap p.o.stream ≥ (k : Int)) = false ∧ ((p.o.bn : Int) == 0) = false := fun h1 h2 => by
      have h3 : doE s.S p.o p.bs p.ks = 0 := by simpa using h2
      unfold doE at h3
      rw [if_pos (by simpa using h1)] at h3
      unfold putE at h3
      have hstr := hpi.stream
      rw [i64_id (by omega) (by omega)]
      split at h3
      · omega
      · rename_i h4
        split at h3
        · omega
        · rename_i h5
          refine ⟨?_, ?_⟩
          · have h6 : (p.o.D p.bs).stream = p.o.stream := rfl
            have h7 : s.S.nx.length = k := hnl
            rw [h6, h7] at h4
            simpa using h4
          · have : p.bs ≠ [] := h5
            have := List.length_pos_iff.2 this
            simp; omega
    repeat' (first
      | refine W.seq ?_ | refine W.region ?_ | refine W.block ?_ | refine W.skip ?_ | refine W.exit ?_ | refine W.ret ?_ | refine W.cond_t rfl ?_ | refine W.cond_f rfl ?_ | refine WL.nil ?_ | refine WD.nil ?_ | refine Fin.next ?_ | refine Fin.then_exit ?_ | refine Fin.then_ret ?_ | refine Fin.block_normal ?_ | refine Fin.block_ret ?_ | refine Fin.block_exit ?_ | refine Fin.block_other rfl ?_
      | refine WL.pA ?_ | refine WD.pA ?_ | refine WL.sA ?_ | refine WD.sA ?_ | refine WL.g_yes rfl rfl ?_ | refine WL.g_no rfl rfl rfl rfl ?_ | refine WL.g_undef rfl rfl rfl ?_ | refine WL.g_split rfl rfl (fun hc => ?_) (fun hc => ?_) | refine WD.g_yes rfl rfl ?_ | refine WD.g_no rfl rfl rfl rfl ?_ | refine WD.g_undef rfl rfl rfl ?_ | refine WD.g_split rfl rfl (fun hc => ?_) (fun hc => ?_)
      | refine W.drawA ?_ | refine WL.aA (fun _ => ?_) | refine WD.aA (fun _ => ?_) | refine WL.e0A ?_ | refine WD.e0A ?_
      | refine W.cond rfl (fun hc => ?_) (fun hc => ?_))
    · rename_i b9 hk0
      have hk0' : p.o.kind = 0 := by simpa using hk0
      have he0' : doE s.S p.o p.bs p.ks = 0 := by simpa using hc
      rw [if_pos ⟨hk0', he0'⟩] at hcons
      have e1 : IntKind.i64.wrap (s.held + (p.o.bn : Int)) = s.held + p.o.bn := i64_id (by omega) (by omega)
      have e2 : IntKind.i64.wrap (s.held + (p.o.bn : Int) - sn) = s'.held := by rw [i64_id (by omega) (by omega)]; omega
      rw [e1, e2]
      refine WL.e rfl (Ef.callR (c := s'.H) (by exact rfl) (.last (.there .here)) (heldA _ s')) ?_
      rintro _ _ ⟨rfl, rfl⟩
      repeat' (first
        | refine W.seq ?_ | refine W.region ?_ | refine W.block ?_ | refine W.skip ?_ | refine W.exit ?_ | refine W.ret ?_ | refine W.cond_t rfl ?_ | refine W.cond_f rfl ?_ | refine WL.nil ?_ | refine WD.nil ?_ | refine Fin.next ?_ | refine Fin.then_exit ?_ | refine Fin.then_ret ?_ | refine Fin.block_normal ?_ | refine Fin.block_ret ?_ | refine Fin.block_exit ?_ | refine Fin.block_other rfl ?_
        | refine WL.pA ?_ | refine WD.pA ?_ | refine WL.sA ?_ | refine WD.sA ?_ | refine WL.g_yes rfl rfl ?_ | refine WL.g_no rfl rfl rfl rfl ?_ | refine WL.g_undef rfl rfl rfl ?_ | refine WL.g_split rfl rfl (fun hc => ?_) (fun hc => ?_) | refine WD.g_yes rfl rfl ?_ | refine WD.g_no rfl rfl rfl rfl ?_ | refine WD.g_undef rfl rfl rfl ?_ | refine WD.g_split rfl rfl (fun hc => ?_) (fun hc => ?_)
        | refine W.drawA ?_ | refine WL.aA (fun _ => ?_) | refine WD.aA (fun _ => ?_) | refine WL.e0A ?_ | refine WD.e0A ?_
        | refine W.cond rfl (fun hc => ?_) (fun hc => ?_))
      all_goals first
        | (rw [i64_succ (by omega)]; exact Fin.round ⟨i + 1, s'⟩ ⟨hi', hs', hR'.trans hR, by dsimp only; omega, hnl'.trans hnl, h16', by dsimp only; omega⟩ (sub_of (by repeat (first | exact subEnv.nil | refine subEnv.cons rfl ?_))) (fun _ h => h.sublist (.cons _ (List.sublist_append_left _ _))) (by dsimp only; omega))
        | (exfalso; rw [(hgood (by assumption) (by assumption)).1] at hc; cases hc)
        | (exfalso; rw [(hgood (by assumption) (by assumption)).2] at hc; cases hc)
        | (exfalso; simp at hc; done)
    · have hno : ¬ (p.o.kind = 0 ∧ doE s.S p.o p.bs p.ks = 0) := fun h => by simp [h.2] at hc
      rw [if_neg hno] at hcons
      have e2 : IntKind.i64.wrap (s.held - sn) = s'.held := by rw [i64_id (by omega) (by omega)]; omega
      rw [e2]
      refine WL.e rfl (Ef.callR (c := s'.H) (by exact rfl) (.last (.there .here)) (heldA _ s')) ?_
      rintro _ _ ⟨rfl, rfl⟩
      repeat' (first
        | refine W.seq ?_ | refine W.region ?_ | refine W.block ?_ | refine W.skip ?_ | refine W.exit ?_ | refine W.ret ?_ | refine W.cond_t rfl ?_ | refine W.cond_f rfl ?_ | refine WL.nil ?_ | refine WD.nil ?_ | refine Fin.next ?_ | refine Fin.then_exit ?_ | refine Fin.then_ret ?_ | refine Fin.block_normal ?_ | refine Fin.block_ret ?_ | refine Fin.block_exit ?_ | refine Fin.block_other rfl ?_
        | refine WL.pA ?_ | refine WD.pA ?_ | refine WL.sA ?_ | refine WD.sA ?_ | refine WL.g_yes rfl rfl ?_ | refine WL.g_no rfl rfl rfl rfl ?_ | refine WL.g_undef rfl rfl rfl ?_ | refine WL.g_split rfl rfl (fun hc => ?_) (fun hc => ?_) | refine WD.g_yes rfl rfl ?_ | refine WD.g_no rfl rfl rfl rfl ?_ | refine WD.g_undef rfl rfl rfl ?_ | refine WD.g_split rfl rfl (fun hc => ?_) (fun hc => ?_)
        | refine W.drawA ?_ | refine WL.aA (fun _ => ?_) | refine WD.aA (fun _ => ?_) | refine WL.e0A ?_ | refine WD.e0A ?_
        | refine W.cond rfl (fun hc => ?_) (fun hc => ?_))
      all_goals first
        | (rw [i64_succ (by omega)]; exact Fin.round ⟨i + 1, s'⟩ ⟨hi', hs', hR'.trans hR, by dsimp only; omega, hnl'.trans hnl, h16', by dsimp only; omega⟩ (sub_of (by repeat (first | exact subEnv.nil | refine subEnv.cons rfl ?_))) (fun _ h => h.sublist (.cons _ (List.sublist_append_left _ _))) (by dsimp only; omega))
        | (exfalso; rw [(hgood (by assumption) (by assumption)).1] at hc; cases hc)
        | (exfalso; rw [(hgood (by assumption) (by assumption)).2] at hc; cases hc)
        | (exfalso; simp at hc; done)
    · have hno : ¬ (p.o.kind = 0 ∧ doE s.S p.o p.bs p.ks = 0) := fun h => by simp [h.1] at hc
      rw [if_neg hno] at hcons
      have e2 : IntKind.i64.wrap (s.held - sn) = s'.held := by rw [i64_id (by omega) (by omega)]; omega
      rw [e2]
      refine WL.e rfl (Ef.callR (c := s'.H) (by exact rfl) (.last (.there .here)) (heldA _ s')) ?_
      rintro _ _ ⟨rfl, rfl⟩
      repeat' (first
        | refine W.seq ?_ | refine W.region ?_ | refine W.block ?_ | refine W.skip ?_ | refine W.exit ?_ | refine W.ret ?_ | refine W.cond_t rfl ?_ | refine W.cond_f rfl ?_ | refine WL.nil ?_ | refine WD.nil ?_ | refine Fin.next ?_ | refine Fin.then_exit ?_ | refine Fin.then_ret ?_ | refine Fin.block_normal ?_ | refine Fin.block_ret ?_ | refine Fin.block_exit ?_ | refine Fin.block_other rfl ?_
        | refine WL.pA ?_ | refine WD.pA ?_ | refine WL.sA ?_ | refine WD.sA ?_ | refine WL.g_yes rfl rfl ?_ | refine WL.g_no rfl rfl rfl rfl ?_ | refine WL.g_undef rfl rfl rfl ?_ | refine WL.g_split rfl rfl (fun hc => ?_) (fun hc => ?_) | refine WD.g_yes rfl rfl ?_ | refine WD.g_no rfl rfl rfl rfl ?_ | refine WD.g_undef rfl rfl rfl ?_ | refine WD.g_split rfl rfl (fun hc => ?_) (fun hc => ?_)
        | refine W.drawA ?_ | refine WL.aA (fun _ => ?_) | refine WD.aA (fun _ => ?_) | refine WL.e0A ?_ | refine WD.e0A ?_
        | refine W.cond rfl (fun hc => ?_) (fun hc => ?_))
      all_goals first
        | (rw [i64_succ (by omega)]; exact Fin.round ⟨i + 1, s'⟩ ⟨hi', hs', hR'.trans hR, by dsimp only; omega, hnl'.trans hnl, h16', by dsimp only; omega⟩ (sub_of (by repeat (first | exact subEnv.nil | refine subEnv.cons rfl ?_))) (fun _ h => h.sublist (.cons _ (List.sublist_append_left _ _))) (by dsimp only; omega))
        | (exfalso; rw [(hgood (by assumption) (by assumption)).1] at hc; cases hc)
        | (exfalso; rw [(hgood (by assumption) (by assumption)).2] at hc; cases hc)
        | (exfalso; simp at hc; done)
  · refine WL.e rfl (Ef.callR (by exact rfl) (.nil _) (works_tr _)) ?_
    rintro _ _ ⟨rfl, rfl⟩
    repeat' (first
      | refine W.seq ?_ | refine W.region ?_ | refine W.block ?_ | refine W.skip ?_ | refine W.exit ?_ | refine W.ret ?_ | refine W.cond_t rfl ?_ | refine W.cond_f rfl ?_ | refine WL.nil ?_ | refine WD.nil ?_ | refine Fin.next ?_ | refine Fin.then_exit ?_ | refine Fin.then_ret ?_ | refine Fin.block_normal ?_ | refine Fin.block_ret ?_ | refine Fin.block_exit ?_ | refine Fin.block_other rfl ?_
      | refine WL.pA ?_ | refine WD.pA ?_ | refine WL.sA ?_ | refine WD.sA ?_ | refine WL.g_yes rfl rfl ?_ | refine WL.g_no rfl rfl rfl rfl ?_ | refine WL.g_undef rfl rfl rfl ?_ | refine WL.g_split rfl rfl (fun hc => ?_) (fun hc => ?_) | refine WD.g_yes rfl rfl ?_ | refine WD.g_no rfl rfl rfl rfl ?_ | refine WD.g_undef rfl rfl rfl ?_ | refine WD.g_split rfl rfl (fun hc => ?_) (fun hc => ?_)
      | refine W.drawA ?_ | refine WL.aA (fun _ => ?_) | refine WD.aA (fun _ => ?_) | refine WL.e0A ?_ | refine WD.e0A ?_
      | refine W.cond rfl (fun hc => ?_) (fun hc => ?_))
    exact Fin.retW (by exact rfl) (by repeat' (first | exact Res.nil | exact rfl | exact CutAt.here rfl | exact CellAt.here rfl | apply CutAt.there | apply CellAt.there | apply CutAt.right | apply CellAt.right | apply Res.tmp | apply Res.agg' | apply Res.cell')) (fun _ h => h.sublist (List.nil_sublist _)) ⟨rfl, rfl⟩
end Go.Proofs.Ytokbkocjddcklaa
