/- What is between a sender and one who takes all, in memory: the acknowledgement of all that came, walked. Conditions: it is well formed. -/
import Derived.Test.YtjfpckadjnjmoaaGreatLnC
import Derived.Test.YtjfpckadjnjmoaaGreatSnF
namespace Go.Proofs.YtjfpckadjnjmoaaGreat
open Go Go.Sl Go.Pth
theorem gC_one' (g : Nat × Nat) : ∀ u ∈ gC g, u.oneCell' = true := by
  intro u hu
  simp only [gC, List.mem_cons, List.not_mem_nil, or_false] at hu
  rcases hu with rfl | rfl <;> rfl
structure GG where
  k : Nat
  gs : List (Nat × Nat)
  ga : Option Addr
  gn : Nat
  gc : Nat
  hg : HL
def ansH (b : Nat) (y rwnd : Int) (g : GG) (T : HL) : HL := (b, .cells [.int .u32 y, .int .u32 rwnd, .slice g.ga g.gn g.gc, .slice none 0 0].toArray 65 (0, 0)) :: (g.hg ++ T)
theorem isB_bn {m : DM} (hm : m.ok) : Snd.isB m.d = decide (0 < m.bn) := by
  have := OwnS.len hm
  simp at this
  unfold Snd.isB
  by_cases h : m.d.bs = []
  · rw [h] at this
    rw [decide_eq_false (by simp [h]), decide_eq_false (by simp at this; omega)]
  · have h2 := List.length_pos_iff.2 h
    rw [decide_eq_true h, decide_eq_true (by omega)]
theorem seen_get {x : LnM} {k : Nat} {q : DM} (hq : x.seen[k]? = some q) : x.ln.seen.getD k Snd.dtZ = q.d := by
  unfold LnM.ln
  dsimp only
  rw [List.getD_eq_getElem?_getD, List.getElem?_map, hq]
  rfl
theorem LnM.bcan {x : LnM} (hx : x.ok) {k : Nat} {q : DM} (hq : x.seen[k]? = some q) : ∃ sb so, x.sa = some ⟨sb, so, none⟩ ∧ ∀ F : Nat → Option Obj, Sl.Can F x.H sb (so + (k : Int).toNat * 7 + 6) [.slice q.ba q.bn q.bc] := by
  obtain ⟨sb, so, h1, h2⟩ := hx.row.can hq
  exact ⟨sb, so, h1, fun F => ((h2 F).one (i := 6) rfl).mono (fun _ h => h.sublist (.cons _ (List.sublist_append_left _ _)))⟩
theorem LnM.cans {F : Nat → Option Obj} (x : LnM) : Sl.Can F x.H x.L (0 + 0) [ptr x.R] ∧ Sl.Can F x.H x.L (0 + 1) [.slice x.sa x.sn x.sc] ∧ Sl.Can F x.H x.L (0 + 2) [.int .u32 x.first] ∧ Sl.Can F x.H x.L (0 + 3) [.int .i64 x.cum] ∧ Sl.Can F x.H x.L (0 + 4) [.int .i64 x.now] := by
  have h : Sl.Can F x.H x.L 0 x.cells := Can.cut (n := 5) (.here rfl)
  exact ⟨h.one (i := 0) rfl, h.one (i := 1) rfl, h.one (i := 2) rfl, h.one (i := 3) rfl, h.one (i := 4) rfl⟩
theorem gap_same {x : LnM} : x.ln.gaps = Snd.gaps x.ln.seen x.cum x.seen.length (x.cum + 1) [] := by
  unfold Snd.Ln.gaps LnM.ln
  dsimp only
  rw [List.length_map]
theorem tw_go {l : List Flt.Dt} {k : Nat} {d : Flt.Dt} (h : l[k]? = some d) (hb : Snd.isB d = true) : ((l.drop k).takeWhile Snd.isB).length = ((l.drop (k + 1)).takeWhile Snd.isB).length + 1 := by
  have hi := (List.getElem?_eq_some_iff.1 h).1
  rw [List.drop_eq_getElem_cons hi, (List.getElem?_eq_some_iff.1 h).2, List.takeWhile_cons, if_pos hb, List.length_cons]
theorem tw_stop {l : List Flt.Dt} {k : Nat} {d : Flt.Dt} (h : l[k]? = some d) (hb : Snd.isB d = false) : ((l.drop k).takeWhile Snd.isB).length = 0 := by
  have hi := (List.getElem?_eq_some_iff.1 h).1
  rw [List.drop_eq_getElem_cons hi, (List.getElem?_eq_some_iff.1 h).2, List.takeWhile_cons, if_neg (by rw [hb]; decide)]
  rfl
theorem tw_end {l : List Flt.Dt} {k : Nat} (h : l.length ≤ k) : ((l.drop k).takeWhile Snd.isB).length = 0 := by
  rw [List.drop_of_length_le h]
  rfl
attribute [local irreducible] LnM.H
def AnsQ (m : Nat) (x : LnM) (s : SdM) (o : Option Snd.S) (v : Value) (H : HL) : Prop := match o with
  | none => v = .int .i64 1 ∧ H = x.H ++ s.H
  | some S' => v = .int .i64 0 ∧ ∃ s' : SdM, s'.ok m ∧ s'.R = s.R ∧ s'.S = S' ∧ H = x.H ++ s'.H
set_option maxHeartbeats 8000000 in
theorem answer_tr (F : Nat → Option Obj) {m : Nat} (x : LnM) (hx : x.ok) (s : SdM) (hs : s.ok m) (hR : x.R = s.R) (rwnd : Int) (hr : 0 ≤ rwnd) :
    Tr Tryz.prog 16 [ptr x.L, .int .u32 rwnd].toArray F (x.H ++ s.H) (AnsQ m x s (Snd.answer s.S x.ln rwnd x.now)) := by
  refine Tr.enter Tryz.func16 rfl Tryz.ntmps16 rfl (fun w0 => ?_)
  have hsn := hx.row.len
  have hlen := hx.len
  have hcum := hx.cum
  have hgap := gap_same (x := x)
  have hy : 0 ≤ x.ln.y ∧ x.ln.y < 4294967296 := Flt.u32_mod _
  obtain ⟨gf, hgf⟩ : ∃ gf, x.ln.gaps = gf := ⟨_, rfl⟩
  rw [hgf] at hgap
  obtain ⟨c0, c1, c2, c3, c4⟩ := x.cans (F := F)
  rw [hR] at c0
  repeat' (first | refine S2b ?_ | refine SD ?_ | refine SA (fun _ => ?_) | refine G1 (fun hc => ?_) (fun hc => ?_) | refine G2 (fun hc => ?_) (fun hc => ?_) | refine G3 (fun hc => ?_) (fun hc => ?_) | refine SL ?_ | fail)
  rename_i b5
  have ey : IntKind.u32.wrap (IntKind.u32.wrap (x.first + IntKind.u32.wrap (x.cum : Int)) - 1) = x.ln.y := rfl
  rw [ey, i64_succ (i := x.cum) (by omega)]
  refine W.loop (G := GG) (fun g => [(0, ptr x.L), (1, .int .u32 rwnd), (5, ptr b5), (6, .int .i64 g.k)]) (fun g => ansH b5 x.ln.y rwnd g (x.H ++ s.H))
    (fun g => x.cum + 1 ≤ g.k ∧ g.k ≤ x.seen.length + x.cum + 1 ∧ g.gs.length ≤ 20 ∧ (∀ q ∈ g.gs, q.1 < 65536 ∧ q.2 < 65536) ∧ OwnS 104 2 (g.gs.flatMap gC) (.slice g.ga g.gn g.gc) g.hg ∧ Snd.gaps x.ln.seen x.cum (x.seen.length + x.cum + 1 - g.k) g.k g.gs = gf) (fun g => x.seen.length + x.cum + 1 - g.k) ⟨x.cum + 1, [], none, 0, 0, []⟩ ⟨Nat.le_refl _, by dsimp only; omega, by simp, (fun _ h => by cases h), .inl ⟨rfl, rfl, rfl⟩, by rw [hgap]; congr 1; dsimp only; omega⟩ envA (fun _ h => by unfold ansH; exact h) ?_
  rintro ⟨k, gs, ga, gn, gc, hg⟩ ⟨hk1, hk2, hgl, hgr, hown, hgg⟩
  dsimp only at hk1 hk2 hgl hgr hown hgg ⊢
  have hgn := OwnS.len hown
  rw [flat_len' gC 2 gC_len] at hgn
  have hgn' : gn = gs.length := by omega
  have hxl : x.ln.seen.length = x.seen.length := by unfold LnM.ln; rw [List.length_map]
  unfold ansH
  dsimp only
  repeat' (first | refine S2b ?_ | refine SA (fun _ => ?_) | refine G1 (fun hc => ?_) (fun hc => ?_) | refine G2 (fun hc => ?_) (fun hc => ?_) | refine SL ?_ | fail)
  rotate_right
  · have hkn : ¬ k < x.seen.length := by have := of_decide_eq_false hc; omega
    have hfin : gs = gf := by
      rw [← hgg]
      cases hn : x.seen.length + x.cum + 1 - k with
      | zero => rfl
      | succ n => rw [Snd.gaps, if_neg (by rw [hxl]; omega)]
    repeat' (first | refine S2b ?_ | refine SA (fun _ => ?_) | refine G1 (fun hc => ?_) (fun hc => ?_) | refine G2 (fun hc => ?_) (fun hc => ?_) | refine SL ?_ | fail)
    refine W.drawA ?_
    repeat' (first | refine S2b ?_ | refine SA (fun _ => ?_) | refine G1 (fun hc => ?_) (fun hc => ?_) | refine G2 (fun hc => ?_) (fun hc => ?_) | refine G3 (fun hc => ?_) (fun hc => ?_) | refine SL ?_ | fail)
    refine WD.e rfl (Ef.callW (c := s.H) (by exact rfl) (.skip _ (.skipL hg (.last (.right .all)))) (fun F' hF => ssack_tr F' s hs x.ln.y rwnd hy hr gs ga gn gc ((Lst.own (F := F) (H := hg) hown (fun _ h => h)).mono (fun w h => (hF w h).sublist (.cons _ (List.sublist_append_left _ _)))) hgr (by omega) none 0 0 x.now)) ?_
    rintro _ _ ⟨H1, hq, rfl⟩
    refine ⟨.inl (by kernel_rfl), ?_⟩
    unfold Snd.answer
    rw [hgf, ← hfin]
    rw [show s.S = s.S from rfl] at hq
    cases hsk : Snd.sack s.S x.ln.y rwnd gs x.now with
    | none =>
      rw [hsk] at hq
      obtain ⟨rfl, rfl⟩ := hq
      repeat' (first | refine S2b ?_ | refine SA (fun _ => ?_) | refine G1 (fun hc => ?_) (fun hc => ?_) | refine G2 (fun hc => ?_) (fun hc => ?_) | refine G3 (fun hc => ?_) (fun hc => ?_) | refine SL ?_ | fail)
      refine Fin.retW (by exact rfl) resA (H' := x.H ++ s.H) (fun _ h => ?_) ⟨rfl, rfl⟩
      rw [List.append_nil] at h
      exact In.of_sub (.pickL (L := x.H) (.right (.there (.right .all))) (.last .here)) h
    | some S' =>
      rw [hsk] at hq
      obtain ⟨rfl, s', hs', rfl, hR', hS'⟩ := hq
      repeat' (first | refine S2b ?_ | refine SA (fun _ => ?_) | refine G1 (fun hc => ?_) (fun hc => ?_) | refine G2 (fun hc => ?_) (fun hc => ?_) | refine G3 (fun hc => ?_) (fun hc => ?_) | refine SL ?_ | fail)
      refine Fin.retW (by exact rfl) resA (H' := x.H ++ s'.H) (fun _ h => ?_) ⟨rfl, s', hs', hR', hS', rfl⟩
      rw [List.append_nil] at h
      exact In.of_sub (.pickL (L := x.H) (.right (.there (.right .all))) (.last .here)) h
  have hkn : k < x.seen.length := by have := of_decide_eq_true hc; omega
  cases hc2 : decide ((gn : Int) < 20) with
  | false =>
    have hg20 : ¬ gs.length < 20 := by have := of_decide_eq_false hc2; omega
    have hfin : gs = gf := by
      rw [← hgg]
      cases hn : x.seen.length + x.cum + 1 - k with
      | zero => rfl
      | succ n => rw [Snd.gaps, if_neg (by rw [hxl]; omega)]
    repeat' (first | refine S2b ?_ | refine SA (fun _ => ?_) | refine G1 (fun hc => ?_) (fun hc => ?_) | refine G2 (fun hc => ?_) (fun hc => ?_) | refine SL ?_ | fail)
    refine W.drawA ?_
    repeat' (first | refine S2b ?_ | refine SA (fun _ => ?_) | refine G1 (fun hc => ?_) (fun hc => ?_) | refine G2 (fun hc => ?_) (fun hc => ?_) | refine G3 (fun hc => ?_) (fun hc => ?_) | refine SL ?_ | fail)
    refine WD.e rfl (Ef.callW (c := s.H) (by exact rfl) (.skip _ (.skipL hg (.last (.right .all)))) (fun F' hF => ssack_tr F' s hs x.ln.y rwnd hy hr gs ga gn gc ((Lst.own (F := F) (H := hg) hown (fun _ h => h)).mono (fun w h => (hF w h).sublist (.cons _ (List.sublist_append_left _ _)))) hgr (by omega) none 0 0 x.now)) ?_
    rintro _ _ ⟨H1, hq, rfl⟩
    refine ⟨.inl (by kernel_rfl), ?_⟩
    unfold Snd.answer
    rw [hgf, ← hfin]
    rw [show s.S = s.S from rfl] at hq
    cases hsk : Snd.sack s.S x.ln.y rwnd gs x.now with
    | none =>
      rw [hsk] at hq
      obtain ⟨rfl, rfl⟩ := hq
      repeat' (first | refine S2b ?_ | refine SA (fun _ => ?_) | refine G1 (fun hc => ?_) (fun hc => ?_) | refine G2 (fun hc => ?_) (fun hc => ?_) | refine G3 (fun hc => ?_) (fun hc => ?_) | refine SL ?_ | fail)
      refine Fin.retW (by exact rfl) resA (H' := x.H ++ s.H) (fun _ h => ?_) ⟨rfl, rfl⟩
      rw [List.append_nil] at h
      exact In.of_sub (.pickL (L := x.H) (.right (.there (.right .all))) (.last .here)) h
    | some S' =>
      rw [hsk] at hq
      obtain ⟨rfl, s', hs', rfl, hR', hS'⟩ := hq
      repeat' (first | refine S2b ?_ | refine SA (fun _ => ?_) | refine G1 (fun hc => ?_) (fun hc => ?_) | refine G2 (fun hc => ?_) (fun hc => ?_) | refine G3 (fun hc => ?_) (fun hc => ?_) | refine SL ?_ | fail)
      refine Fin.retW (by exact rfl) resA (H' := x.H ++ s'.H) (fun _ h => ?_) ⟨rfl, s', hs', hR', hS', rfl⟩
      rw [List.append_nil] at h
      exact In.of_sub (.pickL (L := x.H) (.right (.there (.right .all))) (.last .here)) h
  | true =>
  have hg20 : gs.length < 20 := by have := of_decide_eq_true hc2; omega
  obtain ⟨q, hq⟩ : ∃ q, x.seen[k]? = some q := ⟨x.seen[k]'hkn, List.getElem?_eq_getElem _⟩
  obtain ⟨p, hp⟩ : ∃ p, x.seen[k - 1]? = some p := ⟨x.seen[k - 1]'(by omega), List.getElem?_eq_getElem _⟩
  obtain ⟨sb, so, hsa, hcq⟩ := LnM.bcan hx hq
  obtain ⟨sb', so', hsa', hcp⟩ := LnM.bcan hx hp
  rw [hsa] at hsa'
  cases hsa'
  have hqb := isB_bn (hx.row.2 q (List.mem_of_getElem? hq))
  have hpb := isB_bn (hx.row.2 p (List.mem_of_getElem? hp))
  have hqs := seen_get hq
  have hps := seen_get hp
  have hk64 : IntKind.i64.wrap ((k : Int) - 1) = ((k - 1 : Nat) : Int) := by rw [i64_id (by omega) (by omega)]; omega
  have hik : 0 ≤ (k : Int) ∧ (k : Int) < x.sn := by omega
  have hik1 : 0 ≤ IntKind.i64.wrap ((k : Int) - 1) ∧ IntKind.i64.wrap ((k : Int) - 1) < x.sn := by omega
  have h6 := hcq F
  have h61 := hcp F
  rw [← hk64] at h61
  have hn : x.seen.length + x.cum + 1 - k = (x.seen.length + x.cum + 1 - (k + 1)) + 1 := by omega
  rw [hn, Snd.gaps, if_pos ⟨by rw [hxl]; exact hkn, hg20⟩, hqs, hps] at hgg
  have hstep : x.seen.length + x.cum + 1 - (k + 1) = x.seen.length + x.cum + 1 - (k + 1) := rfl
  rw [hsa] at c1
  repeat' (first | refine S2b ?_ | refine SA (fun _ => ?_) | refine G1 (fun hc => ?_) (fun hc => ?_) | refine G2 (fun hc => ?_) (fun hc => ?_) | refine SL ?_ | fail)
  · have hz : ¬ 0 < q.bn := by have : (q.bn : Int) = 0 := by simpa using hc
                               omega
    rw [if_pos (.inl (by rw [hqb]; exact decide_eq_false hz))] at hgg
    rw [i64_succ (i := k) (by omega)]
    refine Fin.round ⟨k + 1, gs, ga, gn, gc, hg⟩ ⟨by dsimp only; omega, by dsimp only; omega, hgl, hgr, hown, ?_⟩ envA (fun _ h => h) (by dsimp only; omega)
    rw [hstep]
    exact hgg
  have hpos : 0 < q.bn := by
    have : ¬ (q.bn : Int) = 0 := by simpa using hc
    omega
  cases hc3 : decide ((p.bn : Int) > 0) with
  | true =>
    have hp0 : 0 < p.bn := by have := of_decide_eq_true hc3; omega
    rw [if_pos (.inr (by rw [hpb]; exact decide_eq_true hp0))] at hgg
    repeat' (first | refine S2b ?_ | refine SA (fun _ => ?_) | refine G1 (fun hc => ?_) (fun hc => ?_) | refine G2 (fun hc => ?_) (fun hc => ?_) | refine G3 (fun hc => ?_) (fun hc => ?_) | refine SL ?_ | fail)
    rw [i64_succ (i := k) (by omega)]
    refine Fin.round ⟨k + 1, gs, ga, gn, gc, hg⟩ ⟨by dsimp only; omega, by dsimp only; omega, hgl, hgr, hown, ?_⟩ envA (fun _ h => h) (by dsimp only; omega)
    rw [hstep]
    exact hgg
  | false =>
  have hp0 : ¬ 0 < p.bn := by have := of_decide_eq_false hc3; omega
  rw [if_neg (by rw [hqb, hpb, decide_eq_true hpos, decide_eq_false hp0]; decide)] at hgg
  clear h6 h61 hcq hcp
  repeat' (first | refine S2b ?_ | refine SA (fun _ => ?_) | refine G1 (fun hc => ?_) (fun hc => ?_) | refine G2 (fun hc => ?_) (fun hc => ?_) | refine SL ?_ | fail)
  refine W.loopX (G := GK) (.exit 2) (fun g => [(0, ptr x.L), (1, .int .u32 rwnd), (5, ptr b5), (6, .int .i64 k), (7, .int .i64 g.i)]) (fun _ => ansH b5 x.ln.y rwnd ⟨k, gs, ga, gn, gc, hg⟩ (x.H ++ s.H))
    (fun g => k ≤ g.i ∧ g.i < x.seen.length ∧ g.i + ((x.ln.seen.drop (g.i + 1)).takeWhile Snd.isB).length = k + ((x.ln.seen.drop (k + 1)).takeWhile Snd.isB).length) (fun g => x.seen.length - g.i) ⟨k⟩ ⟨Nat.le_refl _, hkn, rfl⟩ envA (fun _ h => by unfold ansH; exact h) (fun g => g.i = k + ((x.ln.seen.drop (k + 1)).takeWhile Snd.isB).length) ?_ ?_
  · rintro K' hK ⟨to⟩ ⟨hto1, hto2, htw⟩
    dsimp only at hto1 hto2 htw ⊢
    unfold ansH
    dsimp only
    have e1 : IntKind.i64.wrap ((to : Int) + 1) = ((to + 1 : Nat) : Int) := i64_succ (by omega)
    by_cases hle : to + 1 < x.seen.length
    · obtain ⟨r, hr'⟩ : ∃ r, x.seen[to + 1]? = some r := ⟨x.seen[to + 1]'hle, List.getElem?_eq_getElem _⟩
      obtain ⟨sb', so', hsa', hcr⟩ := LnM.bcan hx hr'
      rw [hsa] at hsa'
      cases hsa'
      have h6 := hcr F
      have hit : 0 ≤ IntKind.i64.wrap ((to : Int) + 1) ∧ IntKind.i64.wrap ((to : Int) + 1) < x.sn := by omega
      rw [← e1] at h6
      have hrb := isB_bn (hx.row.2 r (List.mem_of_getElem? hr'))
      have hrs : x.ln.seen[to + 1]? = some r.d := by unfold LnM.ln; dsimp only; rw [List.getElem?_map, hr']; rfl
      repeat' (first | refine S2b ?_ | refine SA (fun _ => ?_) | refine G1 (fun hc => ?_) (fun hc => ?_) | refine G2 (fun hc => ?_) (fun hc => ?_) | refine SL ?_ | fail)
      rotate_right
      · exfalso
        have := of_decide_eq_false hc
        rw [e1] at this
        omega
      cases hc4 : decide ((r.bn : Int) > 0) with
      | true =>
        have hr0 : 0 < r.bn := by have := of_decide_eq_true hc4; omega
        repeat' (first | refine S2b ?_ | refine SA (fun _ => ?_) | refine G1 (fun hc => ?_) (fun hc => ?_) | refine G2 (fun hc => ?_) (fun hc => ?_) | refine G3 (fun hc => ?_) (fun hc => ?_) | refine SL ?_ | fail)
        rw [e1]
        exact Fin.round ⟨to + 1⟩ ⟨by dsimp only; omega, hle, by dsimp only; rw [← htw, tw_go hrs (hrb.trans (decide_eq_true hr0))]; omega⟩ envA (fun _ h => h) (by dsimp only; omega)
      | false =>
        have hr0 : ¬ 0 < r.bn := by have := of_decide_eq_false hc4; omega
        repeat' (first | refine S2b ?_ | refine SA (fun _ => ?_) | refine G1 (fun hc => ?_) (fun hc => ?_) | refine G2 (fun hc => ?_) (fun hc => ?_) | refine G3 (fun hc => ?_) (fun hc => ?_) | refine SL ?_ | fail)
        exact Fin.weak envA (fun _ h => h) (hK ⟨to⟩ ⟨hto1, hto2, htw⟩ (by dsimp only; rw [tw_stop hrs (hrb.trans (decide_eq_false hr0))] at htw; exact htw))
    · repeat' (first | refine S2b ?_ | refine SA (fun _ => ?_) | refine G1 (fun hc => ?_) (fun hc => ?_) | refine G2 (fun hc => ?_) (fun hc => ?_) | refine SL ?_ | fail)
      · exfalso
        have := of_decide_eq_true hc
        rw [e1] at this
        omega
      · exact Fin.weak envA (fun _ h => h) (hK ⟨to⟩ ⟨hto1, hto2, htw⟩ (by dsimp only; rw [tw_end (by rw [hxl]; omega)] at htw; exact htw))
  · rintro ⟨to⟩ ⟨hto1, hto2, htw⟩ hto
    dsimp only at hto1 hto2 htw hto ⊢
    unfold ansH
    dsimp only
    rw [← hto] at hgg
    have e2 : IntKind.u16.wrap (IntKind.i64.wrap (IntKind.i64.wrap ((k : Int) - x.cum) + 1)) = ((k - x.cum + 1 : Nat) : Int) := by rw [i64_id (n := (k : Int) - x.cum) (by omega) (by omega), i64_id (by omega) (by omega), u16_id (by omega)]; omega
    have e3 : IntKind.u16.wrap (IntKind.i64.wrap (IntKind.i64.wrap ((to : Int) - x.cum) + 1)) = ((to - x.cum + 1 : Nat) : Int) := by rw [i64_id (n := (to : Int) - x.cum) (by omega) (by omega), i64_id (by omega) (by omega), u16_id (by omega)]; omega
    repeat' (first | refine S2b ?_ | refine SA (fun _ => ?_) | refine G1 (fun hc => ?_) (fun hc => ?_) | refine G2 (fun hc => ?_) (fun hc => ?_) | refine SL ?_ | fail)
    refine W.drawA ?_
    repeat' (first | refine S2b ?_ | refine SA (fun _ => ?_) | refine G1 (fun hc => ?_) (fun hc => ?_) | refine G2 (fun hc => ?_) (fun hc => ?_) | refine G3 (fun hc => ?_) (fun hc => ?_) | refine SL ?_ | fail)
    rw [e2, e3]
    refine WD.e rfl (Ef.app (m := 1) (news := gC (k - x.cum + 1, to - x.cum + 1)) (hb := hg) (by exact rfl) (by exact rfl) rfl rfl hown (.last (.there (.there .here))) (Src.own (n := 2) (.here rfl)) rfl (gC_one' _) (by rw [flat_len' gC 2 gC_len, gC_len]; omega) (by rw [flat_len' gC 2 gC_len, gC_len]; simp only [maxLen]; omega)) ?_
    rintro v' _ ⟨hb', hown', rfl⟩
    refine ⟨.inl (by kernel_rfl), ?_⟩
    obtain ⟨ja, jn, jc, rfl, _, _⟩ := OwnS.shape hown'
    repeat' (first | refine S2b ?_ | refine SA (fun _ => ?_) | refine G1 (fun hc => ?_) (fun hc => ?_) | refine G2 (fun hc => ?_) (fun hc => ?_) | refine G3 (fun hc => ?_) (fun hc => ?_) | refine SL ?_ | fail)
    rw [i64_succ (i := k) (by omega)]
    refine Fin.round ⟨k + 1, gs ++ [(k - x.cum + 1, to - x.cum + 1)], ja, jn, jc, hb'⟩ ⟨by dsimp only; omega, by dsimp only; omega, by dsimp only; rw [List.length_append, List.length_singleton]; omega, fun g hg' => ?_, ?_, hgg⟩ envA (fun _ h => ?_) (by dsimp only; omega)
    · rcases List.mem_append.1 hg' with hg' | hg'
      · exact hgr g hg'
      · rw [List.mem_singleton.1 hg']
        dsimp only
        omega
    · dsimp only
      rw [List.flatMap_append]
      simpa using hown'
    · dsimp only
      exact In.of_sub (.pick (.right (.there .here)) (.pickL (L := hb') .here (.last (.there .all)))) h
end Go.Proofs.YtjfpckadjnjmoaaGreat
