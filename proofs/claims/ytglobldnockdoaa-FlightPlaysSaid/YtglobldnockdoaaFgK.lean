/- The law's 'meant', whole; the law FlightPlays, walked. Conditions: what the arguments' cells are. -/
import Derived.Test.YtglobldnockdoaaFgI
import Derived.Test.YtglobldnockdoaaFgG
import Derived.Test.YtglobldnockdoaaFgH
import Derived.Test.YtglobldnockdoaaFmE
import Derived.Test.YtglobldnockdoaaFmZ
namespace Go.Proofs.Ytglobldnockdoaa
open Go Go.Sl Go.Flt

theorem rsack_uni {f : FR} (hf : f.ok) {o : FOp} {cum : Int} (hk : o.kind = 5) {v : Value} {H : HL} (h : RsR f (Flt.sack f.S (Spn.u32 (cum + o.by_)) o.gaps) v H) :
    ∃ (t : Tld) (e : Int) (f' : FR), v = tup [.agg (tldC t).toArray, .int .i64 e] ∧ f'.ok ∧ H = f'.H ∧ f'.R = f.R ∧ f'.S = doS f.S o cum ∧ doA f.S o cum = { FAns.zero with t := t, e := e } := by
  unfold doS doA
  rw [hk]
  simp only [show ¬ ((5 : Int) = 0) by decide, show ¬ ((5 : Int) = 1) by decide, show ¬ ((5 : Int) = 2) by decide, show ¬ ((5 : Int) = 3) by decide, show ¬ ((5 : Int) = 4) by decide, if_false, if_true]
  unfold RsR at h
  split at h
  · rename_i hs
    rw [hs]
    exact ⟨Tld.zero, 1, f, h.1, hf, h.2, rfl, rfl, rfl⟩
  · rename_i s' t hs
    obtain ⟨h1, f', h2, h3, h4, h5⟩ := h
    rw [hs]
    exact ⟨t, 0, f', h1, h2, h3, h4, h5, rfl⟩
attribute [local irreducible] FR.H in
set_option maxHeartbeats 4000000 in
theorem meant_sack (F : Nat → Option Obj) (o : OpM) (bs : List UInt8) (gs : List (Nat × Nat)) (ho : o.Is F bs gs) (hgs : gs.length ≤ 1000) (hk : o.kind = 5) (f : FR) (hf : f.ok) (hs : f.small) (hg : Flt.Good f.S) (cum : Int) :
    Tr Try.prog 28 [.pointer (some ⟨f.R, 0, none⟩), .agg o.cells.toArray, .int .u32 cum].toArray F f.H (MeantQ f (o.op bs gs) cum) := by
  refine Tr.enter Try.func28 rfl Try.ntmps28 rfl (fun w0 => ?_)
  unfold OpM.cells
  rw [hk]
  repeat' (first | refine S1 ?_ | refine SD ?_ | refine SA (fun _ => ?_) | refine WL.g_split rfl rfl (fun hc => ?_) (fun hc => ?_) | refine WD.g_split rfl rfl (fun hc => ?_) (fun hc => ?_) | refine W.cond rfl (fun hc => ?_) (fun hc => ?_))
  refine WL.e rfl (Ef.callF (c := f.H) (by exact rfl) (.last (.there (.there (.there .all)))) (fun hd => rsack_tr _ f hf hs (pathOk_of hg) (Spn.u32 (cum + o.by_)) 0 (u32_mod _) gs o.ga o.gn o.gc (ho.gaps.mono (fun _ h => addF_in hd h)) ho.g16 hgs none 0 0)) ?_
  rintro _ _ ⟨_, hq, rfl⟩
  rw [rsack_eq hg.c (u32_mod _)] at hq
  obtain ⟨t, e, f', rfl, hf', rfl, hr', hS', hA⟩ := rsack_uni hf (o := o.op bs gs) hk hq
  repeat' (first | refine S1 ?_ | refine SD ?_ | refine SA (fun _ => ?_) | refine WL.g_split rfl rfl (fun hc => ?_) (fun hc => ?_) | refine WD.g_split rfl rfl (fun hc => ?_) (fun hc => ?_) | refine W.cond rfl (fun hc => ?_) (fun hc => ?_))
  refine Fin.retW (by exact rfl) resA (H' := f'.H) (fun _ h => h.sublist findA) ⟨none, 0, 0, [], f', ?_, .inl ⟨rfl, ?_, rfl⟩, hf', rfl, hr', hS'⟩
  · rw [hA]
    rfl
  · rw [hA]
    rfl
theorem meant_tr (F : Nat → Option Obj) (o : OpM) (bs : List UInt8) (gs : List (Nat × Nat)) (ho : o.Is F bs gs) (hbs : bs.length ≤ 1000000) (hgs : gs.length ≤ 1000) (f : FR) (hf : f.ok) (hs : f.small) (hg : Flt.Good f.S) (cum : Int) :
    Tr Try.prog 28 [.pointer (some ⟨f.R, 0, none⟩), .agg o.cells.toArray, .int .u32 cum].toArray F f.H (MeantQ f (o.op bs gs) cum) := by
  by_cases h0 : o.kind = 0
  · exact meant_add F o bs gs ho hbs h0 f hf cum
  by_cases h1 : o.kind = 1
  · exact meant_again F o bs gs h1 f hf cum
  by_cases h2 : o.kind = 2
  · exact meant_get F o bs gs h2 f hf hs cum
  by_cases h3 : o.kind = 3
  · exact meant_mark F o bs gs h3 f hf cum
  by_cases h4 : o.kind = 4
  · exact meant_abandon F o bs gs h4 f hf cum
  by_cases h5 : o.kind = 5
  · exact meant_sack F o bs gs ho hgs h5 f hf hs hg cum
  · exact meant_none F o bs gs h0 h1 h2 h3 h4 h5 f hf cum
theorem tldEq_self (t : Tld) : tldEq t t = true := (tldEq_iff t t).2 rfl
theorem dm_lst {F : Nat → Option Obj} {ds : List DM} (h : ∀ m ∈ ds, m.ok) {X : HL} (hX : ∀ w, In F X w → In F (ds.flatMap DM.bb) w) : ∀ m ∈ ds, Lst F X 1 (m.d.bs.map B) m.ba m.bn m.bc := fun m hm => (Lst.own (F := F) (H := m.bb) (h m hm) (fun _ h => h)).mono (fun w hw => by
  have := hX w hw
  obtain ⟨a, b, rfl⟩ := List.append_of_mem hm
  rw [List.flatMap_append, List.flatMap_cons] at this
  exact this.sublist (.trans (List.sublist_append_left _ _) (List.sublist_append_right _ _)))
theorem ptL_len (L : List Rc) : (Flt.ptL L).length ≤ L.length := by
  unfold Flt.ptL
  rw [List.length_map]
  exact (List.takeWhile_sublist _).length_le
structure PlG where
  i : Nat
  f : FM
  r : FR
attribute [local irreducible] FR.H FM.H
set_option maxHeartbeats 16000000 in
theorem playsLaw_tr (F : Nat → Option Obj) (paths first : Int) (l : List Opx) (ka : Option Addr) (kn kc : Nat) (hl : Lst F [] 13 (l.flatMap Opx.cells) ka kn kc) (hop : ∀ p ∈ l, p.Is F) :
    Tr Try.prog 8 [.int .i64 paths, .int .u32 first, .slice ka kn kc].toArray F [] (fun v H => v = .bool true ∧ H = []) := by
  refine Tr.enter Try.func8 rfl Try.ntmps8 rfl (fun w0 => ?_)
  have hkn : l.length = kn := lst_len (cells := Opx.cells) (fun _ => rfl) (by decide) hl
  have hlm : Lst F [] 13 ((l.map (·.m)).flatMap OpM.cells) ka kn kc := by rw [opx_flat]; exact hl
  repeat' (first | refine S1 ?_ | refine SD ?_ | refine SA (fun _ => ?_) | refine WL.g_split rfl rfl (fun hc => ?_) (fun hc => ?_) | refine WD.g_split rfl rfl (fun hc => ?_) (fun hc => ?_) | refine W.cond rfl (fun hc => ?_) (fun hc => ?_))
  refine WL.e rfl (Ef.lookR (by exact rfl) (fun F' hF => vast_tr F' [] (l.map (·.m)) ka kn kc (hlm.mono hF))) ?_
  rintro _ _ ⟨rfl, rfl⟩
  cases hv : vast (l.map (·.m)) with
  | true =>
    repeat' (first | refine S1 ?_ | refine SD ?_ | refine SA (fun _ => ?_) | refine WL.g_split rfl rfl (fun hc => ?_) (fun hc => ?_) | refine WD.g_split rfl rfl (fun hc => ?_) (fun hc => ?_) | refine W.cond rfl (fun hc => ?_) (fun hc => ?_))
    refine WL.e rfl (Ef.call (c := []) (by exact rfl) (.nil _) (works_tr _)) ?_
    rintro _ _ ⟨_, ⟨rfl, rfl⟩, rfl⟩
    rw [List.nil_append]
    repeat' (first | refine S1 ?_ | refine SD ?_ | refine SA (fun _ => ?_) | refine WL.g_split rfl rfl (fun hc => ?_) (fun hc => ?_) | refine WD.g_split rfl rfl (fun hc => ?_) (fun hc => ?_) | refine W.cond rfl (fun hc => ?_) (fun hc => ?_))
    exact Fin.retW (by exact rfl) resA (H' := []) (fun _ h => h.sublist (List.nil_sublist _)) ⟨rfl, rfl⟩
  | false =>
  obtain ⟨hl100, hb64, hg50⟩ := vast_no hv
  rw [List.length_map, hkn] at hl100
  repeat' (first | refine S1 ?_ | refine SD ?_ | refine SA (fun _ => ?_) | refine WL.g_split rfl rfl (fun hc => ?_) (fun hc => ?_) | refine WD.g_split rfl rfl (fun hc => ?_) (fun hc => ?_) | refine W.cond rfl (fun hc => ?_) (fun hc => ?_))
  refine WL.e rfl (Ef.call (by exact rfl) (.nil _) (new_tr _ paths first)) ?_
  rintro _ _ ⟨_, hq, rfl⟩
  rcases hq with ⟨hbad, rfl, rfl⟩ | ⟨hpp, b, rfl, rfl⟩
  · repeat' (first | refine S1 ?_ | refine SD ?_ | refine SA (fun _ => ?_) | refine WL.g_split rfl rfl (fun hc => ?_) (fun hc => ?_) | refine WD.g_split rfl rfl (fun hc => ?_) (fun hc => ?_) | refine W.cond rfl (fun hc => ?_) (fun hc => ?_))
    refine WL.e rfl (Ef.call (by exact rfl) (.nil _) (rnew_tr _ paths first)) ?_
    rintro _ _ ⟨_, hq, rfl⟩
    rcases hq with ⟨_, rfl, rfl⟩ | ⟨hpp, b, rfl, rfl⟩
    · repeat' (first | refine S1 ?_ | refine SD ?_ | refine SA (fun _ => ?_) | refine WL.g_split rfl rfl (fun hc => ?_) (fun hc => ?_) | refine WD.g_split rfl rfl (fun hc => ?_) (fun hc => ?_) | refine W.cond rfl (fun hc => ?_) (fun hc => ?_))
      refine WL.e rfl (Ef.call (c := []) (by exact rfl) (.nil _) (works_tr _)) ?_
      rintro _ _ ⟨_, ⟨rfl, rfl⟩, rfl⟩
      rw [List.nil_append]
      repeat' (first | refine S1 ?_ | refine SD ?_ | refine SA (fun _ => ?_) | refine WL.g_split rfl rfl (fun hc => ?_) (fun hc => ?_) | refine WD.g_split rfl rfl (fun hc => ?_) (fun hc => ?_) | refine W.cond rfl (fun hc => ?_) (fun hc => ?_))
      exact Fin.retW (by exact rfl) resA (H' := []) (fun _ h => h.sublist (List.nil_sublist _)) ⟨rfl, rfl⟩
    · exact absurd hpp hbad
  repeat' (first | refine S1 ?_ | refine SD ?_ | refine SA (fun _ => ?_) | refine WL.g_split rfl rfl (fun hc => ?_) (fun hc => ?_) | refine WD.g_split rfl rfl (fun hc => ?_) (fun hc => ?_) | refine W.cond rfl (fun hc => ?_) (fun hc => ?_))
  refine WL.e rfl (Ef.call (by exact rfl) (.nil _) (rnew_tr _ paths first)) ?_
  rintro _ _ ⟨_, hq, rfl⟩
  rcases hq with ⟨hbad, rfl, rfl⟩ | ⟨_, rb, rfl, rfl⟩
  · exact absurd hpp hbad
  obtain ⟨f0, hf0⟩ : ∃ f0, FM.empty b paths first = f0 := ⟨_, rfl⟩
  have ok0 : f0.ok := by rw [← hf0]; exact FM.empty_ok _ _ _
  have S0 : f0.S = ⟨[], Spn.u32 (first - 1), paths⟩ := by rw [← hf0]; rfl
  have R0 : b = f0.R := by rw [← hf0]; rfl
  have G0 : Flt.Good f0.S := by rw [S0]; exact new_good (u32_mod _) hpp
  obtain ⟨r0, hr0⟩ : ∃ r0, FR.empty rb paths first = r0 := ⟨_, rfl⟩
  have rok0 : r0.ok := by rw [← hr0]; exact FR.empty_ok _ _ _
  have rS0 : r0.S = f0.S := by rw [S0, ← hr0]; rfl
  have rR0 : rb = r0.R := by rw [← hr0]; rfl
  rw [List.append_nil, hf0, R0, hr0, rR0]
  clear hf0 R0 hr0 rR0
  repeat' (first | refine S1 ?_ | refine SD ?_ | refine SA (fun _ => ?_) | refine WL.g_split rfl rfl (fun hc => ?_) (fun hc => ?_) | refine WD.g_split rfl rfl (fun hc => ?_) (fun hc => ?_) | refine W.cond rfl (fun hc => ?_) (fun hc => ?_))
  refine W.loop (G := PlG) (fun g => [(2, .slice ka kn kc), (7, .pointer (some ⟨f0.R, 0, none⟩)), (9, .pointer (some ⟨r0.R, 0, none⟩)), (11, .int .i64 g.i)])
    (fun g => g.r.H ++ g.f.H) (fun g => g.i ≤ kn ∧ g.f.ok ∧ g.f.R = f0.R ∧ g.r.ok ∧ g.r.R = r0.R ∧ g.r.S = g.f.S ∧ Flt.Good g.f.S ∧ sumB (fun _ => true) g.f.S.L ≤ bnS l g.i) (fun g => kn - g.i) ⟨0, f0, r0⟩ ⟨Nat.zero_le _, ok0, rfl, rok0, rfl, rS0, G0, by rw [S0]; exact Nat.zero_le _⟩ envA (fun _ h => h) ?_
  clear G0 rS0 rok0 S0 ok0
  rintro ⟨i, f, r⟩ ⟨hi, hf, hR, hr, hrR, hS, hG, hB⟩
  dsimp only at hi hf hR hr hrR hS hG hB ⊢
  rw [← hR, ← hrR]
  have hbl := bnS_le l i
  have hsm : f.small := by
    show sumB _ f.S.L ≤ _
    omega
  have hrsm : r.small := by
    show sumB _ r.S.L ≤ _
    rw [hS]
    exact hsm
  repeat' (first | refine S1 ?_ | refine SA (fun _ => ?_) | refine WL.g_split rfl rfl (fun hc => ?_) (fun hc => ?_) | refine WD.g_split rfl rfl (fun hc => ?_) (fun hc => ?_) | refine W.cond rfl (fun hc => ?_) (fun hc => ?_))
  · have hi' : i < kn := by have := of_decide_eq_true hc; omega
    obtain ⟨p, hp⟩ : ∃ p, l[i]? = some p := ⟨l[i]'(by omega), by simp⟩
    have hpI := hop p (List.mem_of_getElem? hp)
    obtain ⟨ob, oo, rfl, hcan⟩ := hl.el (cells := Opx.cells) (fun _ => rfl) hp (by omega)
    have hia : 0 ≤ (i : Int) ∧ (i : Int) < kn := by omega
    have hbn := OpM.Is.bn hpI
    have hb1 := bnS_one hp
    have hg1 : p.gs.length ≤ 50 := by
      have h1 : p.gs.length = p.m.gn := lst_len gC_len (by decide) hpI.gaps
      have h2 := hg50 p.m (List.mem_map.2 ⟨p, List.mem_of_getElem? hp, rfl⟩)
      omega
    refine WL.e rfl (Ef.callR (c := r.H) (by exact rfl) (.last .here) (rcum_tr _ r)) ?_
    rintro _ _ ⟨rfl, rfl⟩
    repeat' (first | refine S1 ?_ | refine SA (fun _ => ?_) | refine WL.g_split rfl rfl (fun hc => ?_) (fun hc => ?_) | refine WD.g_split rfl rfl (fun hc => ?_) (fun hc => ?_) | refine W.cond rfl (fun hc => ?_) (fun hc => ?_))
    obtain ⟨A, hA⟩ : ∃ A, doA f.S (p.m.op p.bs p.gs) r.c = A := ⟨_, rfl⟩
    refine WL.e rfl (Ef.callF (c := f.H) (by exact rfl) (.last (.right .all)) (fun hd => does_tr _ p.m p.bs p.gs ⟨hpI.bytes.mono (fun _ h => addF_in hd h), hpI.gaps.mono (fun _ h => addF_in hd h), hpI.g16⟩ (by omega) (by omega) f hf hsm hG r.c)) ?_
    rintro _ _ ⟨_, ⟨ua, un, uc, ub, f', rfl, hub, hf', rfl, hR', hS'⟩, rfl⟩
    rw [hA] at hub ⊢
    rw [List.append_assoc, List.append_nil]
    repeat' (first | refine S1 ?_ | refine SA (fun _ => ?_) | refine WL.g_split rfl rfl (fun hc => ?_) (fun hc => ?_) | refine WD.g_split rfl rfl (fun hc => ?_) (fun hc => ?_) | refine W.cond rfl (fun hc => ?_) (fun hc => ?_))
    refine WL.e rfl (Ef.callF (c := r.H) (by exact rfl) (.last (.there (.right (.right .all)))) (fun hd => meant_tr _ p.m p.bs p.gs ⟨hpI.bytes.mono (fun _ h => addF_in hd h), hpI.gaps.mono (fun _ h => addF_in hd h), hpI.g16⟩ (by omega) (by omega) r hr hrsm (by rw [hS]; exact hG) r.c)) ?_
    rintro _ _ ⟨_, ⟨va, vn, vc, vb, r', rfl, hvb, hr', rfl, hrR', hrS'⟩, rfl⟩
    rw [hS, hA] at hvb ⊢
    rw [hS, ← hS'] at hrS'
    rw [List.append_assoc]
    have hG' : Flt.Good f'.S := by rw [hS']; exact hG.doS _ _
    have hB' : sumB (fun _ => true) f'.S.L ≤ bnS l (i + 1) := by
      rw [hS', bnS_succ hp, ← hbn]
      exact Nat.le_trans (doS_le f.S (p.m.op p.bs p.gs) r.c) (Nat.add_le_add_right hB _)
    have hbl' := bnS_le l (i + 1)
    have hsm' : f'.small := by
      show sumB _ f'.S.L ≤ _
      omega
    have hrsm' : r'.small := by
      show sumB _ r'.S.L ≤ _
      rw [hrS']
      exact hsm'
    rw [← hR', ← hrR']
    rw [← hR'] at hR
    rw [← hrR'] at hrR
    clear hsm hrsm hG hB hbl hS hf hr hA hS' hR' hrR'
    unfold ansC
    have hcc : r'.c = f'.c := congrArg Flt.S.c hrS'
    have hnn : r'.ln = f'.sn := by
      have h1 := fr_len hr'
      rw [hrS'] at h1
      rw [← h1, ← hf'.len]
      show (f'.rs.map (·.r)).length = _
      rw [List.length_map]
    repeat' (first | refine S1 ?_ | refine SA (fun _ => ?_) | refine WL.g_split rfl rfl (fun hc => ?_) (fun hc => ?_) | refine WD.g_split rfl rfl (fun hc => ?_) (fun hc => ?_) | refine W.cond rfl (fun hc => ?_) (fun hc => ?_))
    all_goals try (exfalso; simp at hc; done)
    refine WL.p rfl (Pu.neTld rfl (a := A.t) (b := A.t) rfl rfl) ?_
    rw [tldEq_self]
    repeat' (first | refine S1 ?_ | refine SA (fun _ => ?_) | refine WL.g_split rfl rfl (fun hc => ?_) (fun hc => ?_) | refine WD.g_split rfl rfl (fun hc => ?_) (fun hc => ?_) | refine W.cond rfl (fun hc => ?_) (fun hc => ?_))
    refine WL.e rfl (Ef.callR (by exact rfl) (.all _) (same_tr _ _ A.d ua un uc va vn vc ((Lst.own (F := F) (H := ub) hub (fun _ h => h)).mono (fun _ h => h.sublist findA)) ((Lst.own (F := F) (H := vb) hvb (fun _ h => h)).mono (fun _ h => h.sublist findA)))) ?_
    rintro _ _ ⟨rfl, rfl⟩
    repeat' (first | refine S1 ?_ | refine SA (fun _ => ?_) | refine WL.g_split rfl rfl (fun hc => ?_) (fun hc => ?_) | refine WD.g_split rfl rfl (fun hc => ?_) (fun hc => ?_) | refine W.cond rfl (fun hc => ?_) (fun hc => ?_))
    refine WL.e rfl (Ef.callR (c := f'.H) (by exact rfl) (.last (.there (.right (.right (.there (.right .here)))))) (cum_tr _ f')) ?_
    rintro _ _ ⟨rfl, rfl⟩
    repeat' (first | refine S1 ?_ | refine SA (fun _ => ?_) | refine WL.g_split rfl rfl (fun hc => ?_) (fun hc => ?_) | refine WD.g_split rfl rfl (fun hc => ?_) (fun hc => ?_) | refine W.cond rfl (fun hc => ?_) (fun hc => ?_))
    refine WL.e rfl (Ef.callR (c := r'.H) (by exact rfl) (.last (.there (.right .here))) (rcum_tr _ r')) ?_
    rintro _ _ ⟨rfl, rfl⟩
    rw [hcc]
    repeat' (first | refine S1 ?_ | refine SA (fun _ => ?_) | refine WL.g_split rfl rfl (fun hc => ?_) (fun hc => ?_) | refine WD.g_split rfl rfl (fun hc => ?_) (fun hc => ?_) | refine W.cond rfl (fun hc => ?_) (fun hc => ?_))
    · exfalso; simp at hc
    refine WL.e rfl (Ef.callR (c := f'.H) (by exact rfl) (.last (.there (.right (.right (.there (.right .here)))))) (count_tr _ f')) ?_
    rintro _ _ ⟨rfl, rfl⟩
    repeat' (first | refine S1 ?_ | refine SA (fun _ => ?_) | refine WL.g_split rfl rfl (fun hc => ?_) (fun hc => ?_) | refine WD.g_split rfl rfl (fun hc => ?_) (fun hc => ?_) | refine W.cond rfl (fun hc => ?_) (fun hc => ?_))
    refine WL.e rfl (Ef.callR (c := r'.H) (by exact rfl) (.last (.there (.right .here))) (rcount_tr _ r')) ?_
    rintro _ _ ⟨rfl, rfl⟩
    rw [hnn]
    repeat' (first | refine S1 ?_ | refine SA (fun _ => ?_) | refine WL.g_split rfl rfl (fun hc => ?_) (fun hc => ?_) | refine WD.g_split rfl rfl (fun hc => ?_) (fun hc => ?_) | refine W.cond rfl (fun hc => ?_) (fun hc => ?_))
    · exfalso; simp at hc
    refine WL.e rfl (Ef.callR (c := f'.H) (by exact rfl) (.last (.there (.right (.right (.there (.right .here)))))) (openB_tr _ f' hf' hsm')) ?_
    rintro _ _ ⟨rfl, rfl⟩
    repeat' (first | refine S1 ?_ | refine SA (fun _ => ?_) | refine WL.g_split rfl rfl (fun hc => ?_) (fun hc => ?_) | refine WD.g_split rfl rfl (fun hc => ?_) (fun hc => ?_) | refine W.cond rfl (fun hc => ?_) (fun hc => ?_))
    refine WL.e rfl (Ef.callR (c := r'.H) (by exact rfl) (.last (.there (.right .here))) (ropen_tr _ r' hr' hrsm')) ?_
    rintro _ _ ⟨rfl, rfl⟩
    rw [hrS']
    repeat' (first | refine S1 ?_ | refine SA (fun _ => ?_) | refine WL.g_split rfl rfl (fun hc => ?_) (fun hc => ?_) | refine WD.g_split rfl rfl (fun hc => ?_) (fun hc => ?_) | refine W.cond rfl (fun hc => ?_) (fun hc => ?_))
    · exfalso; simp at hc
    refine WL.e rfl (Ef.call (c := f'.H) (by exact rfl) (.last (.there (.right (.right (.there (.right .here)))))) (lost_tr _ f' hf')) ?_
    rintro _ _ ⟨_, ⟨xa, xn, xc, xb, rfl, hxo, rfl⟩, rfl⟩
    rw [List.append_assoc]
    repeat' (first | refine S1 ?_ | refine SA (fun _ => ?_) | refine WL.g_split rfl rfl (fun hc => ?_) (fun hc => ?_) | refine WD.g_split rfl rfl (fun hc => ?_) (fun hc => ?_) | refine W.cond rfl (fun hc => ?_) (fun hc => ?_))
    refine WL.e rfl (Ef.call (c := r'.H) (by exact rfl) (.last (.right (.right (.there (.right .here))))) (rlost_tr _ r' hr')) ?_
    rintro _ _ ⟨_, ⟨ya, yn, yc, yb, rfl, hyo, rfl⟩, rfl⟩
    rw [hrS'] at hyo
    rw [List.append_assoc]
    have hll : (Flt.lostL f'.S).length ≤ 1000000 := by
      unfold Flt.lostL
      rw [List.length_map]
      have h1 := List.length_filter_le openR f'.S.L
      have h2 := hG'.few
      omega
    repeat' (first | refine S1 ?_ | refine SA (fun _ => ?_) | refine WL.g_split rfl rfl (fun hc => ?_) (fun hc => ?_) | refine WD.g_split rfl rfl (fun hc => ?_) (fun hc => ?_) | refine W.cond rfl (fun hc => ?_) (fun hc => ?_))
    refine WL.e rfl (Ef.callR (by exact rfl) (.all _) (sameL_tr _ _ (Flt.lostL f'.S) xa xn xc ya yn yc ((Lst.own (F := F) (H := xb) hxo (fun _ h => h)).mono (fun _ h => h.sublist findA)) ((Lst.own (F := F) (H := yb) hyo (fun _ h => h)).mono (fun _ h => h.sublist findA)) hll)) ?_
    rintro _ _ ⟨rfl, rfl⟩
    repeat' (first | refine S1 ?_ | refine SA (fun _ => ?_) | refine WL.g_split rfl rfl (fun hc => ?_) (fun hc => ?_) | refine WD.g_split rfl rfl (fun hc => ?_) (fun hc => ?_) | refine W.cond rfl (fun hc => ?_) (fun hc => ?_))
    refine W.loop (G := Nat) (fun n => [(2, .slice (some ⟨ob, oo, none⟩) kn kc), (7, .pointer (some ⟨f'.R, 0, none⟩)), (9, .pointer (some ⟨r'.R, 0, none⟩)), (11, .int .i64 i), (15, .int .i64 n)])
      (fun _ => r'.H ++ f'.H) (fun n => n ≤ 5) (fun n => 5 - n) 0 (by decide) envA (fun _ h => In.of_sub (.pickL (L := r'.H) (.right .here) (.last (L := f'.H) (.right (.right .here)))) h) ?_
    intro n hn
    repeat' (first | refine S1 ?_ | refine SA (fun _ => ?_) | refine WL.g_split rfl rfl (fun hc => ?_) (fun hc => ?_) | refine WD.g_split rfl rfl (fun hc => ?_) (fun hc => ?_) | refine W.cond rfl (fun hc => ?_) (fun hc => ?_))
    · have hn' : n < 5 := by have := of_decide_eq_true hc; omega
      refine WL.e rfl (Ef.callR (c := f'.H) (by exact rfl) (.last (.right .all)) (out_tr _ f' hf' hsm' n)) ?_
      rintro _ _ ⟨rfl, rfl⟩
      repeat' (first | refine S1 ?_ | refine SA (fun _ => ?_) | refine WL.g_split rfl rfl (fun hc => ?_) (fun hc => ?_) | refine WD.g_split rfl rfl (fun hc => ?_) (fun hc => ?_) | refine W.cond rfl (fun hc => ?_) (fun hc => ?_))
      refine WL.e rfl (Ef.callR (c := r'.H) (by exact rfl) (.last .here) (rout_tr _ r' hr' hrsm' n)) ?_
      rintro _ _ ⟨rfl, rfl⟩
      rw [hrS']
      repeat' (first | refine S1 ?_ | refine SA (fun _ => ?_) | refine WL.g_split rfl rfl (fun hc => ?_) (fun hc => ?_) | refine WD.g_split rfl rfl (fun hc => ?_) (fun hc => ?_) | refine W.cond rfl (fun hc => ?_) (fun hc => ?_))
      · exfalso; simp at hc
      rw [i64_succ (by omega)]
      exact Fin.round (n + 1) hn' envA (fun _ h => h) (by omega)
    refine WL.e rfl (Ef.call (c := f'.H) (by exact rfl) (.last (.right .all)) (point_tr _ f' hf' hsm')) ?_
    rintro _ _ ⟨_, ⟨sa, sn, sc, sb, ds, rfl, hso, hds, hdd, rfl⟩, rfl⟩
    rw [List.append_nil]
    repeat' (first | refine S1 ?_ | refine SA (fun _ => ?_) | refine WL.g_split rfl rfl (fun hc => ?_) (fun hc => ?_) | refine WD.g_split rfl rfl (fun hc => ?_) (fun hc => ?_) | refine W.cond rfl (fun hc => ?_) (fun hc => ?_))
    refine WL.e rfl (Ef.call (c := r'.H) (by exact rfl) (.last (.right .all)) (rpoint_tr _ r' hr' hrsm' (by rw [hcc]; exact hG'.c))) ?_
    rintro _ _ ⟨_, ⟨ta, tn, tc, tb, es, rfl, hto, hes, hee, rfl⟩, rfl⟩
    rw [hrS'] at hee ⊢
    rw [hcc]
    simp only [List.append_assoc]
    repeat' (first | refine S1 ?_ | refine SA (fun _ => ?_) | refine WL.g_split rfl rfl (fun hc => ?_) (fun hc => ?_) | refine WD.g_split rfl rfl (fun hc => ?_) (fun hc => ?_) | refine W.cond rfl (fun hc => ?_) (fun hc => ?_))
    all_goals try (exfalso; simp at hc; done)
    have hdl : ds.length ≤ 1000000 := by
      have h1 := congrArg List.length hdd
      rw [List.length_map] at h1
      have h2 := ptL_len f'.S.L
      have h3 := hG'.few
      omega
    refine WL.e rfl (Ef.callR (by exact rfl) (.all _) (sameD_tr _ _ ds es sa sn sc ta tn tc ((Lst.own (F := F) (H := sb) hso (fun _ h => h)).mono (fun _ h => h.sublist findA)) ((Lst.own (F := F) (H := tb) hto (fun _ h => h)).mono (fun _ h => h.sublist findA)) hdl (hdd.trans hee.symm) (dm_lst (F := F) hds (fun _ h => h.sublist findA)) (dm_lst (F := F) hes (fun _ h => h.sublist findA)))) ?_
    rintro _ _ ⟨rfl, rfl⟩
    repeat' (first | refine S1 ?_ | refine SA (fun _ => ?_) | refine WL.g_split rfl rfl (fun hc => ?_) (fun hc => ?_) | refine WD.g_split rfl rfl (fun hc => ?_) (fun hc => ?_) | refine W.cond rfl (fun hc => ?_) (fun hc => ?_))
    rw [i64_succ (by omega)]
    exact Fin.round ⟨i + 1, f', r'⟩ ⟨hi', hf', rfl, hr', rfl, hrS', hG', hB'⟩ envA (fun _ h => In.of_sub (.pickL (L := r'.H) (.right (.right .here)) (.last (L := f'.H) (.right (.right (.right (.right .here)))))) h) (by dsimp only; omega)
  ·
    refine WL.e rfl (Ef.call (c := []) (by exact rfl) (.nil _) (works_tr _)) ?_
    rintro _ _ ⟨_, ⟨rfl, rfl⟩, rfl⟩
    rw [List.nil_append]
    repeat' (first | refine S1 ?_ | refine SD ?_ | refine SA (fun _ => ?_) | refine WL.g_split rfl rfl (fun hc => ?_) (fun hc => ?_) | refine WD.g_split rfl rfl (fun hc => ?_) (fun hc => ?_) | refine W.cond rfl (fun hc => ?_) (fun hc => ?_))
    exact Fin.retW (by exact rfl) resA (H' := []) (fun _ h => h.sublist (List.nil_sublist _)) ⟨rfl, rfl⟩
end Go.Proofs.Ytglobldnockdoaa
