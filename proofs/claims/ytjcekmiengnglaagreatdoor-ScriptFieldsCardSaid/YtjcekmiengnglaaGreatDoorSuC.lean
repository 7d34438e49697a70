/- The document's line of an event, walked. Conditions: the event lies in memory; lengths within bounds. -/
import Derived.Test.YtjcekmiengnglaaGreatDoorSuB
namespace Go.Proofs.YtjcekmiengnglaaGreatDoor
open Go Go.Sl Go.Scr

theorem kword_none {k : Int} (h : ¬ (1 ≤ k ∧ k ≤ 11)) (h0 : 0 ≤ k) : kword k = [] := by
  unfold kword
  rcases Int.lt_or_le k 12 with h1 | h1
  · have : k = 0 := by omega
    subst this
    rfl
  · rw [List.getD_eq_getElem?_getD, List.getElem?_eq_none (by simp [kwords]; omega)]
    rfl
theorem kword_len (k : Int) : (kword k).length ≤ 1000 := by
  unfold kword
  rw [List.getD_eq_getElem?_getD]
  rcases h : kwords[k.toNat]? with _ | w
  · simp
  · have hm := List.mem_of_getElem? h
    have : ∀ w ∈ kwords, w.length ≤ 1000 := by decide
    exact this w hm
theorem wd_leB {t : FT} {v : FV} (h : Scr.fits t v) (m : Nat) (hb : ∀ x, v = .o x → x.length ≤ m) : (wd v).length ≤ 2 * m + 30 := by
  cases v with
  | n x =>
    show (num x).length ≤ _
    unfold num
    have hd : (digs x.natAbs).length ≤ 20 := digs_len (by decide) (by cases t <;> simp only [Scr.fits] at h <;> omega)
    split
    · simp only [List.length_cons]; omega
    · omega
  | b x => cases x <;> simp only [wd, yn, Bool.false_eq_true, if_true, if_false, List.length_cons, List.length_nil] <;> omega
  | o x =>
    have := hb x rfl
    have h2 := hexs_len x
    show (oct x).length ≤ _
    unfold oct
    split
    · simp only [List.length_cons, List.length_nil]; omega
    · omega
theorem words_leB {e : Evt} (h : e.Ok) (hb : e.bytes.length ≤ 100000000000) : ∀ w ∈ kword e.kind :: e.words, w.length ≤ 1000000000000 := by
  intro w hw
  rcases List.mem_cons.1 hw with rfl | hw
  · exact Nat.le_trans (kword_len _) (by decide)
  · obtain ⟨f, _, rfl⟩ := List.mem_map.1 hw
    refine Nat.le_trans (wd_leB (h.fits f) 100000000000 (fun x hx => ?_)) (by decide)
    cases f <;> simp only [Evt.get] at hx <;> cases hx
    exact hb
set_option maxHeartbeats 8000000 in
theorem rform_tr (F : Nat → Option Obj) (x : Evx) (hx : x.Is F) (hlb : x.e.bytes.length ≤ 100000000000) : Tr Tryz.prog 18 [.agg x.cells.toArray].toArray F [] (fun v H' => (x.e.Form → v = tup [S x.e.line, .int .i64 0]) ∧ (¬ x.e.Form → v = tup [S [], .int .i64 1]) ∧ H' = []) := by
  refine Tr.enter Tryz.func18 rfl Tryz.ntmps18 rfl (fun w0 => ?_)
  have hk := hx.ok.kind
  have hwl := words_leB hx.ok hlb
  have hwn : (kword x.e.kind :: x.e.words).length ≤ 1000 := by
    have := fds_len x.e.kind
    simp only [List.length_cons, Evt.words, List.length_map]
    omega
  repeat' (first | refine S2b ?_ | refine S3 ?_ | refine SA (fun _ => ?_) | refine G1 (fun hc => ?_) (fun hc => ?_) | refine G2 (fun hc => ?_) (fun hc => ?_) | refine G3 (fun hc => ?_) (fun hc => ?_) | refine SL ?_ | fail)
  rename_i b1
  refine WL.e rfl (Ef.callW (c := []) (by exact rfl) (Sub.nil _) (fun F' hF => only_tr F' x (hx.mono (fun w h => (hF w h).sublist (List.nil_sublist _))) hlb)) ?_
  rintro _ _ ⟨hg, ⟨y, sa, sn, sc, rfl, hy, hby, hown⟩, rfl⟩
  have hyi : y.Is F := hby.is hx (by rw [hy]; exact only_ok hx.ok)
  have hp := Lst.own (F := F) (H := hg) hown (fun _ h => h)
  have hsn : sn = x.e.words.length + 1 := by have := hp.len; simp at this; omega
  repeat' (first | refine S2b ?_ | refine S3 ?_ | refine SA (fun _ => ?_) | refine G1 (fun hc => ?_) (fun hc => ?_) | refine G2 (fun hc => ?_) (fun hc => ?_) | refine G3 (fun hc => ?_) (fun hc => ?_) | refine SL ?_ | fail)
  rename_i b4
  obtain ⟨b3, o3, rfl, hcan⟩ := hp.can (by omega)
  have hia : 0 ≤ (0 : Int) ∧ (0 : Int) < sn := by omega
  have hC0 : Sl.Can F hg b3 (o3 + (0 : Int).toNat * 1) [S (kword x.e.kind)] := by
    simpa using hcan.one (i := 0) (v := S (kword x.e.kind)) rfl
  have hC : ∀ p, Sl.Can F (p :: (hg ++ [(b1, .cells x.cells.toArray 26 (0, 0))])) b3 (o3 + (0 : Int).toNat * 1) [S (kword x.e.kind)] := fun p => hC0.mono (fun w h => h.sublist (by simp))
  have hC1 := hC (b4, .cells y.cells.toArray 26 (0, 0))
  have hC2 := hC1
  unfold S at hC1
  by_cases hkk : 1 ≤ x.e.kind ∧ x.e.kind ≤ 11
  · have hne := kword_ne hkk.1 hkk.2
    repeat' (first | refine S2b ?_ | refine S3 ?_ | refine SA (fun _ => ?_) | refine G1 (fun hc => ?_) (fun hc => ?_) | refine G2 (fun hc => ?_) (fun hc => ?_) | refine G3 (fun hc => ?_) (fun hc => ?_) | refine SL ?_ | fail)
    · have hc' : ((strB (kword x.e.kind)).toList == (strB []).toList) = true := hc
      rw [eqS_bool] at hc'
      exact absurd (of_decide_eq_true hc') hne
    refine WL.e rfl (Ef.lookR (by exact rfl) (fun F' hF => rsame_tr F' y x (hyi.mono (fun w h => (hF w h).sublist (List.nil_sublist _))) (hx.mono (fun w h => (hF w h).sublist (List.nil_sublist _))))) ?_
    rintro _ _ ⟨rfl, rfl⟩
    rw [hy]
    clear hc
    repeat' (first | refine S2b ?_ | refine S3 ?_ | refine SA (fun _ => ?_) | refine G1 (fun hc => ?_) (fun hc => ?_) | refine G2 (fun hc => ?_) (fun hc => ?_) | refine G3 (fun hc => ?_) (fun hc => ?_) | refine SL ?_ | fail)
    · have hf : ¬ x.e.Form := fun h => by rw [decide_eq_true h.2.2] at hc; cases hc
      exact Fin.retW (by exact rfl) resA (H' := []) (fun _ h => h.sublist (List.nil_sublist _)) ⟨fun h => absurd h hf, fun _ => rfl, rfl⟩
    have hf : x.e.Form := ⟨hkk.1, hkk.2, by simpa using hc⟩
    refine WL.e rfl (Ef.lookR (by exact rfl) (fun F' hF => tog_tr F' [] (kword x.e.kind :: x.e.words) _ _ _ (hp.mono (fun w h => (hF w h).sublist (by simp))) (by simp) hwl hwn)) ?_
    rintro _ _ ⟨rfl, rfl⟩
    repeat' (first | refine S2b ?_ | refine S3 ?_ | refine SA (fun _ => ?_) | refine G1 (fun hc => ?_) (fun hc => ?_) | refine G2 (fun hc => ?_) (fun hc => ?_) | refine G3 (fun hc => ?_) (fun hc => ?_) | refine SL ?_ | fail)
    exact Fin.retW (by exact rfl) resA (H' := []) (fun _ h => h.sublist (List.nil_sublist _)) ⟨fun _ => rfl, fun h => absurd hf h, rfl⟩
  · have hke := kword_none hkk hk.1
    have hf : ¬ x.e.Form := fun h => hkk ⟨h.1, h.2.1⟩
    repeat' (first | refine S2b ?_ | refine S3 ?_ | refine SA (fun _ => ?_) | refine G1 (fun hc => ?_) (fun hc => ?_) | refine G2 (fun hc => ?_) (fun hc => ?_) | refine G3 (fun hc => ?_) (fun hc => ?_) | refine SL ?_ | fail)
    · exact Fin.retW (by exact rfl) resA (H' := []) (fun _ h => h.sublist (List.nil_sublist _)) ⟨fun h => absurd h hf, fun _ => rfl, rfl⟩
    · have hc' : ((strB (kword x.e.kind)).toList == (strB []).toList) = false := hc
      rw [eqS_bool] at hc'
      exact absurd hke (of_decide_eq_false hc')
end Go.Proofs.YtjcekmiengnglaaGreatDoor
