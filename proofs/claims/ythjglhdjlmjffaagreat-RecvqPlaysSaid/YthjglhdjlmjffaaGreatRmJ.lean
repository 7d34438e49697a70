/- The reassembler's methods 'Skip' and 'New', walked. Conditions: at most 1000 skips, and the next numbers are 16 bits. -/
import Derived.Test.YthjglhdjlmjffaaGreatRmI
import Derived.Test.YthjglhdjlmjffaaGreatBb
namespace Go.Proofs.YthjglhdjlmjffaaGreat
open Go Go.Sl Go.Rm

def skCells (k : Sk) : List Value := [.int .u16 k.st, .int .u16 k.n]
theorem skip_nil (F : Nat → Option Obj) (cum : Int) (kv : Value) : Tr Tryz.prog 60 [.pointer none, .agg [.int .u32 cum, kv].toArray].toArray F [] (fun v H => v = .int .i64 2 ∧ H = []) := by
  refine Tr.enter Tryz.func60 rfl Tryz.ntmps60 rfl (fun w0 => ?_)
  repeat' (first | refine S1 ?_ | refine SD ?_ | refine SA (fun _ => ?_) | refine WL.g_split rfl rfl (fun hc => ?_) (fun hc => ?_) | refine WD.g_split rfl rfl (fun hc => ?_) (fun hc => ?_) | refine W.cond rfl (fun hc => ?_) (fun hc => ?_))
  exact Fin.retW (by exact rfl) resA weakA ⟨rfl, rfl⟩

theorem onN_nx : ∀ (n : Nat) (s : Rm.S) (st : Int), nx16 s.nx → nx16 (onN n s st).nx
  | 0, s, st, h => h
  | n + 1, s, st, h => by
    rw [onN]
    split
    · exact h
    · exact onN_nx n _ st (h.set _ _)
theorem on_nx {s : Rm.S} {st : Int} (h : nx16 s.nx) : nx16 (Rm.on s st).nx := onN_nx _ _ _ h
theorem wait_nx {s : Rm.S} {st : Int} : (wait s st).nx = s.nx := by unfold wait; split <;> rfl
theorem upto_nx : ∀ (n : Nat) (s : Rm.S) (st e : Int), nx16 s.nx → nx16 (upto n s st e).nx
  | 0, s, st, e, h => h
  | n + 1, s, st, e, h => by
    rw [upto]
    split
    · exact h
    · exact upto_nx n _ st e (by dsimp only; rw [wait_nx]; exact h.set _ _)
theorem skip1_nx {s : Rm.S} {st to : Int} (h : nx16 s.nx) : nx16 (skip1 s st to).nx := by
  unfold skip1
  split
  · exact h
  · exact on_nx (upto_nx _ _ _ _ h)
theorem put_nx {s : Rm.S} {d : D} (h : nx16 s.nx) : nx16 (Rm.put s d).nx := by
  unfold Rm.put
  split
  · unfold put1
    split
    · split
      · exact h
      · exact h
    · exact on_nx h
  · exact h

/-- what 'Skip' answers and leaves -/
def SkipQ (s : RM) (X : HL) (cum : Int) (l : List Sk) (v : Value) (H : HL) : Prop := v = .int .i64 (skipE s.S l) ∧ ∃ s' : RM, s'.ok ∧ H = s'.H ++ X ∧ s'.R = s.R ∧ s'.turns = s.turns ∧ s'.S = Rm.skip s.S cum l ∧ s'.nx.length = s.nx.length
theorem any_take {l : List Sk} {f : Sk → Bool} {i : Nat} {k : Sk} (hk : l[i]? = some k) : (l.take (i + 1)).any f = ((l.take i).any f || f k) := by
  rw [List.take_add_one, hk]; simp

set_option maxHeartbeats 4000000 in
theorem Skip_tr (F : Nat → Option Obj) (X : HL) (s : RM) (hs : s.ok) (cum : Int) (l : List Sk) (ka : Option Addr) (kn kc : Nat) (hl : Lst F X 2 (l.flatMap skCells) ka kn kc) (hk : ∀ k ∈ l, (0 ≤ k.st ∧ k.st < 65536) ∧ 0 ≤ k.n ∧ k.n < 65536)
    (hmany : kn ≤ 1000) (h16 : nx16 s.nx) (hnx : s.nx.length < 1000000) :
    Tr Tryz.prog 60 [.pointer (some ⟨s.R, 0, none⟩), .agg [.int .u32 cum, .slice ka kn kc].toArray].toArray F (s.H ++ X) (SkipQ s X cum l) := by
  refine Tr.enter Tryz.func60 rfl Tryz.ntmps60 rfl (fun w0 => ?_)
  rw [RM.HX]
  have hkn : kn = l.length := by have := hl.len; rw [flat_len' skCells 2 (fun _ => rfl)] at this; omega
  repeat' (first | refine S1 ?_ | refine SD ?_ | refine SA (fun _ => ?_) | refine WL.g_split rfl rfl (fun hc => ?_) (fun hc => ?_) | refine WD.g_split rfl rfl (fun hc => ?_) (fun hc => ?_) | refine W.cond rfl (fun hc => ?_) (fun hc => ?_))
  rename Nat => b3
  refine W.loop (G := Nat) (fun i => [(0, .pointer (some ⟨s.R, 0, none⟩)), (3, .pointer (some ⟨b3, 0, none⟩)), (4, .int .i64 0), (12, .slice ka kn kc), (13, .int .i64 kn), (14, .int .i64 i)])
    (fun i => (b3, .cells [.int .u32 cum, .slice ka kn kc].toArray 51 (0, 0)) :: (s.H ++ X))
    (fun i => i ≤ kn ∧ (l.take i).any (fun k => decide (k.st ≥ s.nx.length)) = false) (fun i => kn - i) 0 ⟨Nat.zero_le _, by simp⟩ envA (fun _ h => by rw [RM.HX]; exact h) ?_
  rintro i ⟨hi, hno⟩
  rw [RM.HX]
  repeat' (first | refine S1 ?_ | refine SD ?_ | refine SA (fun _ => ?_) | refine WL.g_split rfl rfl (fun hc => ?_) (fun hc => ?_) | refine WD.g_split rfl rfl (fun hc => ?_) (fun hc => ?_) | refine W.cond rfl (fun hc => ?_) (fun hc => ?_))
  · have hi' : i < kn := by simp at hc; omega
    obtain ⟨k, hki⟩ : ∃ k, l[i]? = some k := ⟨l[i]'(by omega), by simp⟩
    have hkk := hk k (List.mem_of_getElem? hki)
    obtain ⟨b, off, rfl, hcan⟩ := hl.can (by omega)
    have hat := flat_at skCells 2 (fun _ => rfl) l i k hki
    refine WL.p rfl (Pu.ia rfl rfl (by omega)) ?_
    refine WL.s rfl (Rd.ldaC (r := skCells k) rfl rfl (by
      rw [Int.toNat_natCast, ← hat]
      exact (hcan.mono (fun _ h => h.sublist (.cons _ (.cons _ (.cons _ (.cons _ ((List.sublist_append_right _ _).trans ((List.sublist_append_right _ _).trans (List.sublist_append_right _ _))))))))).sub _ _)) ?_
    have hwk : IntKind.i64.wrap k.st = k.st := i64_id (by omega) (by omega)
    repeat' (first | refine S1 ?_ | refine SD ?_ | refine SA (fun _ => ?_) | refine WL.g_split rfl rfl (fun hc => ?_) (fun hc => ?_) | refine WD.g_split rfl rfl (fun hc => ?_) (fun hc => ?_) | refine W.cond rfl (fun hc => ?_) (fun hc => ?_))
    · refine Fin.retW (by exact rfl) resA (H' := s.H ++ X) (fun _ h => by rw [RM.HX]; exact h.sublist (.cons _ (.cons _ (.refl _)))) ?_
      have hE : skipE s.S l = 4 := by
        unfold skipE
        rw [if_pos]
        rw [hwk] at hc
        exact List.any_eq_true.2 ⟨k, List.mem_of_getElem? hki, hc⟩
      refine ⟨by rw [hE]; rfl, s, hs, rfl, rfl, rfl, ?_, rfl⟩
      unfold Rm.skip
      rw [if_neg (by rw [hE]; decide)]
    · rw [i64_succ (by omega)]
      refine Fin.round (i + 1) ⟨hi', ?_⟩ envA (fun _ h => h.sublist (.cons _ (.refl _))) (by omega)
      rw [any_take hki, hno]
      rw [hwk] at hc
      exact hc
  · have hi' : i = l.length := by simp at hc; omega
    rw [hi', List.take_length] at hno
    have hE : skipE s.S l = 0 := by unfold skipE; rw [if_neg]; intro h; exact Bool.false_ne_true (hno.symm.trans h)
    have hst : ∀ k ∈ l, k.st < s.nx.length := fun k hk => by
      have := List.any_eq_false.1 hno k hk
      simpa using this
    refine WL.e rfl (Ef.call (c := s.H) (by exact rfl) (by have := RM.HX s []; simp only [List.append_nil] at this; rw [this]; exact subA) (parts_tr _ s hs cum)) ?_
    rintro _ _ ⟨_, ⟨rfl, s1, hs1, rfl, hR1, ht1, hS1⟩, rfl⟩
    have hnx1 : s1.nx = s.nx := congrArg Rm.S.nx hS1
    repeat' (first | refine S1 ?_ | refine SD ?_ | refine SA (fun _ => ?_) | refine WL.g_split rfl rfl (fun hc => ?_) (fun hc => ?_) | refine WD.g_split rfl rfl (fun hc => ?_) (fun hc => ?_) | refine W.cond rfl (fun hc => ?_) (fun hc => ?_))
    refine W.loop (G := Nat × RM) (fun g => [(0, .pointer (some ⟨s.R, 0, none⟩)), (33, .slice ka kn kc), (34, .int .i64 kn), (35, .int .i64 g.1)])
      (fun g => g.2.H ++ X)
      (fun g => g.1 ≤ kn ∧ g.2.ok ∧ g.2.R = s.R ∧ g.2.turns = s.turns ∧ g.2.nx.length = s.nx.length ∧ nx16 g.2.nx ∧ g.2.S = (l.take g.1).foldl (fun s k => skip1 s k.st k.n) (parts s.S cum)) (fun g => kn - g.1) (0, s1)
      ⟨Nat.zero_le _, hs1, hR1, ht1, by rw [hnx1], by rw [hnx1]; exact h16, hS1⟩ envA (fun _ h => h.sublist ((List.Sublist.refl _).append (by (repeat (first | exact List.Sublist.refl _ | refine List.Sublist.cons_cons _ ?_ | refine List.Sublist.cons _ ?_))))) ?_
    rintro ⟨i, g⟩ ⟨hi, hg, hgR, hgt, hgl, hg16, hgS⟩
    dsimp only at hi hg hgR hgt hgl hg16 hgS ⊢
    repeat' (first | refine S1 ?_ | refine SD ?_ | refine SA (fun _ => ?_) | refine WL.g_split rfl rfl (fun hc => ?_) (fun hc => ?_) | refine WD.g_split rfl rfl (fun hc => ?_) (fun hc => ?_) | refine W.cond rfl (fun hc => ?_) (fun hc => ?_))
    · have hi2 : i < kn := by simp at hc; omega
      obtain ⟨k, hki⟩ : ∃ k, l[i]? = some k := ⟨l[i]'(by omega), by simp⟩
      have hkm := List.mem_of_getElem? hki
      have hkk := hk k hkm
      have hks := hst k hkm
      obtain ⟨b, off, rfl, hcan⟩ := hl.can (by omega)
      have hat := flat_at skCells 2 (fun _ => rfl) l i k hki
      refine WL.p rfl (Pu.ia rfl rfl (by omega)) ?_
      refine WL.s rfl (Rd.ldaC (r := skCells k) rfl rfl (by
        rw [Int.toNat_natCast, ← hat]
        exact (hcan.mono (fun _ h => h.right)).sub _ _)) ?_
      repeat' (first | refine S1 ?_ | refine SD ?_ | refine SA (fun _ => ?_) | refine WL.g_split rfl rfl (fun hc => ?_) (fun hc => ?_) | refine WD.g_split rfl rfl (fun hc => ?_) (fun hc => ?_) | refine W.cond rfl (fun hc => ?_) (fun hc => ?_))
      rw [← hgR]
      refine WL.e rfl (Ef.call (c := g.H) (by exact rfl) (.skip _ (.one _ _)) (skip_tr _ g hg k.st k.n ⟨hkk.1.1, by rw [hgl]; exact hks⟩ hkk.2 hg16)) ?_
      rintro _ _ ⟨_, ⟨rfl, s', hs', rfl, hR', ht', hS', hnl'⟩, rfl⟩
      repeat' (first | refine S1 ?_ | refine SD ?_ | refine SA (fun _ => ?_) | refine WL.g_split rfl rfl (fun hc => ?_) (fun hc => ?_) | refine WD.g_split rfl rfl (fun hc => ?_) (fun hc => ?_) | refine W.cond rfl (fun hc => ?_) (fun hc => ?_))
      rw [i64_succ (by omega)]
      refine Fin.round (i + 1, s') ⟨hi2, hs', hR', ht'.trans hgt, hnl'.trans hgl, ?_, ?_⟩ envA (fun _ h => h.sublist ((List.Sublist.refl _).append (by (repeat (first | exact List.Sublist.refl _ | refine List.Sublist.cons_cons _ ?_ | refine List.Sublist.cons _ ?_))))) (by dsimp only; omega)
      · have e : s'.nx = (skip1 g.S k.st k.n).nx := by rw [← hS']; rfl
        dsimp only
        rw [e]
        exact skip1_nx hg16
      · dsimp only
        rw [List.take_add_one, hki, hS', hgS]
        simp
    · have hi2 : i = l.length := by simp at hc; omega
      refine Fin.retW (by exact rfl) resA (H' := g.H ++ X) (fun _ h => h) ⟨by rw [hE]; rfl, g, hg, rfl, hgR, hgt, ?_, hgl⟩
      rw [hgS, hi2, List.take_length]
      unfold Rm.skip
      rw [if_pos hE]

theorem New_bad (F : Nat → Option Obj) (n : Int) (h : n < 1 ∨ 16 < n) : Tr Tryz.prog 27 [.int .i64 n].toArray F [] (fun v H => v = tup [.pointer none, .int .i64 1] ∧ H = []) := by
  refine Tr.enter Tryz.func27 rfl Tryz.ntmps27 rfl (fun w0 => ?_)
  repeat' (first | refine S1 ?_ | refine SD ?_ | refine SA (fun _ => ?_) | refine WL.g_split rfl rfl (fun hc => ?_) (fun hc => ?_) | refine WD.g_split rfl rfl (fun hc => ?_) (fun hc => ?_) | refine W.cond rfl (fun hc => ?_) (fun hc => ?_))
  · exact Fin.retW (by exact rfl) resA weakA ⟨rfl, rfl⟩
  · exact Fin.retW (by exact rfl) resA weakA ⟨rfl, rfl⟩
  · exfalso
    simp at *
    omega
theorem mk16 (m : Nat) : mkCells [.int .u16 0] m = (List.replicate m (0 : Int)).map (Value.int .u16) := by
  induction m with
  | zero => rfl
  | succ m ih => rw [mkCells, ih, List.replicate_succ]; rfl
set_option maxHeartbeats 4000000 in
theorem New_ok (F : Nat → Option Obj) (m : Nat) (h : 1 ≤ m ∧ m ≤ 16) : Tr Tryz.prog 27 [.int .i64 m].toArray F []
    (fun v H => ∃ s : RM, s.ok ∧ H = s.H ∧ v = tup [.pointer (some ⟨s.R, 0, none⟩), .int .i64 0] ∧ s.turns = 0 ∧ s.S = ⟨[], [], List.replicate m 0⟩) := by
  refine Tr.enter Tryz.func27 rfl Tryz.ntmps27 rfl (fun w0 => ?_)
  repeat' (first | refine S1 ?_ | refine SD ?_ | refine SA (fun _ => ?_) | refine WL.g_split rfl rfl (fun hc => ?_) (fun hc => ?_) | refine WD.g_split rfl rfl (fun hc => ?_) (fun hc => ?_) | refine W.cond rfl (fun hc => ?_) (fun hc => ?_))
  · exfalso
    simp at *
    omega
  · exfalso
    simp at *
    omega
  rename_i bm
  refine WL.e rfl (Ef.mkS (n := m) (z := [.int .u16 0]) (by exact rfl) (by exact rfl) rfl rfl (by omega) (by omega)) ?_
  rintro _ _ ⟨bn, rfl, rfl⟩
  rw [mk16]
  repeat' (first | refine S1 ?_ | refine SD ?_ | refine SA (fun _ => ?_) | refine WL.g_split rfl rfl (fun hc => ?_) (fun hc => ?_) | refine WD.g_split rfl rfl (fun hc => ?_) (fun hc => ?_) | refine W.cond rfl (fun hc => ?_) (fun hc => ?_))
  rename_i br
  refine Fin.retW (by exact rfl) resA (H' := (⟨br, bm, bn, [], 0, 0, List.replicate m 0, none, 0, 0, [], [], 0⟩ : RM).H) (fun _ h => ?_) ⟨_, ?_, rfl, rfl, rfl, rfl⟩
  · have e := RM.HX (⟨br, bm, bn, [], 0, 0, List.replicate m 0, none, 0, 0, [], [], 0⟩ : RM) []
    rw [List.append_nil] at e
    rw [e]
    simp only [List.length_replicate]
    exact In.of_sub subA h
  · refine ⟨by simp, by simp, .inl ⟨rfl, rfl, rfl⟩, by simp, by simp, by simp, by simp, by simp, by simp, rfl, by simp, by simp, by simp [totD, totM, RM.L, RM.row]⟩
end Go.Proofs.YthjglhdjlmjffaaGreat
