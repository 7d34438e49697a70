/- The reassembler's method 'on', walked: the ordered messages of a stream that come next become ready, one behind the other. Condition: the stream is one of its own. -/
import Derived.Test.YthjglhdjlmjffaaGreatRmE
namespace Go.Proofs.YthjglhdjlmjffaaGreat
open Go Go.Sl Go.Rm

def RM.S (s : RM) : Rm.S := ⟨s.L, s.row, s.nx⟩
/-- the same but for the streams' next numbers -/
theorem RM.ok.nx {s : RM} (h : s.ok) (nx' : List Int) : ({ s with nx := nx' } : RM).ok := ⟨h.pok, h.mok, h.row, h.born, h.old, h.turn, h.turns, h.keys, h.wf, h.held, h.few, h.bound, h.fine⟩
theorem splice_one {l : List Value} {i : Nat} {v : Value} (h : i < l.length) : spliceK l i [v] some = some (l.set i v) := by
  rw [spliceK_eq, if_pos (by simp; omega)]
  congr 1
  rw [List.set_eq_take_append_cons_drop, if_pos h]
  simp
theorem map_set16 (nx : List Int) (i : Nat) (v : Int) : (nx.map (Value.int .u16)).set i (.int .u16 v) = (nx.set i v).map (Value.int .u16) := by rw [List.map_set]

set_option maxHeartbeats 4000000 in
theorem on_tr (F : Nat → Option Obj) (s : RM) (hs : s.ok) (st : Int) (hst : 0 ≤ st ∧ st < s.nx.length) :
    Tr Tryz.prog 99 [.pointer (some ⟨s.R, 0, none⟩), .int .u16 st].toArray F s.H
      (fun v H => v = .tuple #[] ∧ ∃ s' : RM, s'.ok ∧ H = s'.H ∧ s'.R = s.R ∧ s'.turns = s.turns ∧ s'.S = Rm.on s.S st ∧ s'.nx.length = s.nx.length ∧ s'.ps.Sublist s.ps) := by
  refine Tr.enter Tryz.func99 rfl Tryz.ntmps99 rfl (fun w0 => ?_)
  repeat' (first | refine S1 ?_ | refine SD ?_ | refine SA (fun _ => ?_) | refine WL.g_split rfl rfl (fun hc => ?_) (fun hc => ?_) | refine WD.g_split rfl rfl (fun hc => ?_) (fun hc => ?_) | refine W.cond rfl (fun hc => ?_) (fun hc => ?_))
  refine W.loop (G := RM) (fun g => [(0, .pointer (some ⟨s.R, 0, none⟩)), (1, .int .u16 st)]) (fun g => g.H)
    (fun g => g.ok ∧ g.R = s.R ∧ g.turns = s.turns ∧ g.nx.length = s.nx.length ∧ g.ps.Sublist s.ps ∧ ∃ n, g.L.length < n ∧ onN n g.S st = Rm.on s.S st) (fun g => g.L.length) s
    ⟨hs, rfl, rfl, rfl, .refl _, _, Nat.lt_succ_self _, rfl⟩ envA (fun _ h => h) ?_
  rintro g ⟨hg, hR, htu, hnl, hsb, n, hn, hon⟩
  have hst' : 0 ≤ st ∧ st < g.nx.length := by rw [hnl]; exact hst
  rw [← hR]
  obtain ⟨n, rfl⟩ : ∃ m, n = m + 1 := ⟨n - 1, by omega⟩
  repeat' (first | refine S1 ?_ | refine SD ?_ | refine SA (fun _ => ?_) | refine WL.g_split rfl rfl (fun hc => ?_) (fun hc => ?_) | refine WD.g_split rfl rfl (fun hc => ?_) (fun hc => ?_) | refine W.cond rfl (fun hc => ?_) (fun hc => ?_))
  refine WL.e rfl (Ef.call (by exact rfl) (.all _) (waiting_tr _ g hg st hst')) ?_
  rintro _ _ ⟨_, (⟨hcand, rfl, rfl⟩ | ⟨f, l, hcand, rfl, s', hs', rfl, hR', hnx', htu', hLr, hsb', hlt⟩), rfl⟩
  · repeat' (first | refine S1 ?_ | refine SD ?_ | refine SA (fun _ => ?_) | refine WL.g_split rfl rfl (fun hc => ?_) (fun hc => ?_) | refine WD.g_split rfl rfl (fun hc => ?_) (fun hc => ?_) | refine W.cond rfl (fun hc => ?_) (fun hc => ?_))
    refine Fin.endW (by exact rfl) resA (fun _ h => h.left) ⟨rfl, g, hg, rfl, rfl, htu, ?_, hnl, hsb⟩
    rw [← hon, onN]
    dsimp only [RM.S]
    rw [hcand]
  · obtain ⟨R', M', N', ps', clk', turns', nx', ra', rn', rc', rhb', ms', held'⟩ := s'
    dsimp only at hR' hnx' htu'
    subst hR' hnx' htu'
    dsimp only [RM.H, RM.core, RM.cells, RM.mhb, RM.phb, List.cons_append, List.nil_append]
    generalize hnxt : g.nx.getD st.toNat 0 = nxt
    have hN : (g.nx.map (Value.int .u16))[0 + st.toNat * 1]? = some (.int .u16 nxt) := by
      have hlt : st.toNat < g.nx.length := by omega
      rw [Nat.zero_add, Nat.mul_one, List.getElem?_map, ← hnxt]
      simp [hlt]
    have hP : spliceK (g.nx.map (Value.int .u16)) (0 + st.toNat * 1) [.int .u16 (IntKind.u16.wrap (nxt + 1))] some = some ((g.nx.set st.toNat (u16 (nxt + 1))).map (Value.int .u16)) := by
      rw [splice_one (by simp; omega), Nat.zero_add, Nat.mul_one, map_set16]
    have hL1 := congrArg Prod.fst hLr
    have hr1 := congrArg Prod.snd hLr
    dsimp only [RM.L, RM.row] at hL1 hr1
    repeat' (first | refine S1 ?_ | refine SD ?_ | refine SA (fun _ => ?_) | refine WL.g_split rfl rfl (fun hc => ?_) (fun hc => ?_) | refine WD.g_split rfl rfl (fun hc => ?_) (fun hc => ?_) | refine W.cond rfl (fun hc => ?_) (fun hc => ?_))
    refine Fin.round ⟨g.R, M', N', ps', clk', g.turns, g.nx.set st.toNat (u16 (nxt + 1)), ra', rn', rc', rhb', ms', held'⟩ ⟨hs'.nx _, rfl, htu, (by simp [hnl]), hsb'.trans hsb, n, (by dsimp only [RM.L] at hlt hn ⊢; omega), ?_⟩ envA (fun _ h => ?_) hlt
    · rw [← hon, onN]
      dsimp only [RM.S]
      rw [hcand, hnxt]
      dsimp only [RM.L, RM.row]
      rw [← hL1, ← hr1]

    · dsimp only [RM.H, RM.core, RM.cells, RM.mhb, RM.phb, List.cons_append, List.nil_append]
      rw [List.length_set]
      exact h.left
end Go.Proofs.YthjglhdjlmjffaaGreat
