/- The document's receiver: its 'Forward', walked. Conditions: as the reassembler's; TSNs are 32 bits wide. -/
import Derived.Test.YthjglhdjlmjffaaGreatRxA
import Derived.Test.YthjglhdjlmjffaaGreatRcC
namespace Go.Proofs.YthjglhdjlmjffaaGreat
open Go Go.Sl Go.Rm

def XFwdQ (r : RxM) (cum : Int) (l : List Sk) (v : Value) (H : HL) : Prop :=
  v = .bool (Rcv.inWin r.S cum) ∧ ∃ r' : RxM, r'.ok ∧ H = r'.H ∧ r'.R = r.R ∧ r'.S = Rcv.forward r.S cum l
set_option maxHeartbeats 4000000 in
theorem xrfwd_tr (F : Nat → Option Obj) (r : RxM) (hr : r.ok) (cum : Int) (h32 : 0 ≤ cum ∧ cum < 4294967296) (l : List Sk) (ka : Option Addr) (kn kc : Nat) (hl : Lst F [] 2 (l.flatMap skCells) ka kn kc) (hk : ∀ k ∈ l, (0 ≤ k.st ∧ k.st < 65536) ∧ 0 ≤ k.n ∧ k.n < 65536) (hmany : kn ≤ 1000)
    (h16 : nx16 r.w.nx) (hnl : r.w.nx.length ≤ 16) :
    Tr Tryz.prog 37 [.pointer (some ⟨r.R, 0, none⟩), .agg [.int .u32 cum, .slice ka kn kc].toArray].toArray F r.H (XFwdQ r cum l) := by
  refine Tr.enter Tryz.func37 rfl Tryz.ntmps37 rfl (fun w0 => ?_)
  unfold RxM.H RxM.B
  repeat' (first | refine S1 ?_ | refine SD ?_ | refine SA (fun _ => ?_) | refine WL.g_split rfl rfl (fun hc => ?_) (fun hc => ?_) | refine WD.g_split rfl rfl (fun hc => ?_) (fun hc => ?_) | refine W.cond rfl (fun hc => ?_) (fun hc => ?_))
  refine WD.e rfl (Ef.call (c := r.m.H) (by exact rfl) (.last (.there (.there .here))) (xforward_tr _ r.m hr.m cum h32)) ?_
  rintro _ _ ⟨_, ⟨rfl, m', hm', rfl, hR, hS, hds⟩, rfl⟩
  refine ⟨.inl (by kernel_rfl), ?_⟩
  obtain ⟨u, hu⟩ : ∃ u, True ∧ Spn.inW (Spn.far r.m.b cum) = u := ⟨_, trivial, rfl⟩
  have hin : Rcv.inWin r.S cum = u := hu.2
  rw [hu.2]
  repeat' (first | refine S1 ?_ | refine SD ?_ | refine SA (fun _ => ?_) | refine WL.g_split rfl rfl (fun hc => ?_) (fun hc => ?_) | refine WD.g_split rfl rfl (fun hc => ?_) (fun hc => ?_) | refine W.cond rfl (fun hc => ?_) (fun hc => ?_))
  · have hu1 : u = false := by simpa using hc
    have hmS : m'.S = r.m.S := by rw [hS]; unfold Spn.move; rw [show Spn.inW (Spn.far r.m.S.b cum) = false from hu.2.trans hu1]; rfl
    refine Fin.retW (by exact rfl) resA (H' := (⟨r.R, m', r.d, r.w, r.room, r.most, true, true⟩ : RxM).H) (fun _ h => ?_) ⟨by rw [hin, hu1]; rfl, ⟨r.R, m', r.d, r.w, r.room, r.most, true, true⟩, ⟨hm', hr.d, hr.w⟩, rfl, rfl, ?_⟩
    · unfold RxM.H RxM.B
      dsimp only
      rw [hR]
      exact In.of_sub (.pick (.right (.there .here)) (.pickL (L := m'.H) .here (.last (.there .all)))) h
    · unfold Rcv.forward
      rw [hin, hu1, if_neg (by simp)]
      unfold RxM.S
      dsimp only
      rw [hmS, hds]
  · have hu1 : u = true := by simpa using hc
    refine WD.e rfl (Ef.callF (by exact rfl) (.last (L := r.w.H) (.right (.there (.there (.right .all))))) (fun hd => rskip_tr _ r.w hr.w cum l ka kn kc (Lst.mono hl (fun _ h => addF_in hd h)) hk hmany h16 (by omega))) ?_
    rintro _ _ ⟨_, ⟨rfl, w', hw', rfl, hwR, hwS, hwn⟩, rfl⟩
    refine ⟨.inl (by kernel_rfl), ?_⟩
    repeat' (first | refine S1 ?_ | refine SD ?_ | refine SA (fun _ => ?_) | refine WL.g_split rfl rfl (fun hc => ?_) (fun hc => ?_) | refine WD.g_split rfl rfl (fun hc => ?_) (fun hc => ?_) | refine W.cond rfl (fun hc => ?_) (fun hc => ?_))
    refine Fin.retW (by exact rfl) resA (H' := (⟨r.R, m', r.d, w', r.room, r.most, true, true⟩ : RxM).H) (fun _ h => ?_) ⟨by rw [hin, hu1]; rfl, ⟨r.R, m', r.d, w', r.room, r.most, true, true⟩, ⟨hm', hr.d, hw'⟩, rfl, rfl, ?_⟩
    · unfold RxM.H RxM.B
      dsimp only
      rw [hR, hwR]
      exact In.of_sub (.pick (.right (.right (.there .here))) (.pickL (L := m'.H) (.right .here) (.pickL (L := r.d.H) (.right (.there .here)) (.last (L := w'.H) .here)))) h
    · unfold Rcv.forward
      rw [hin, hu1, if_pos rfl]
      unfold RxM.S
      dsimp only
      rw [hS, hds, hwS]
end Go.Proofs.YthjglhdjlmjffaaGreat
