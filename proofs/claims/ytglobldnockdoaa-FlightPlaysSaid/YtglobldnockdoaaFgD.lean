/- The document's flight of pieces: Get, Add, Point, walked: they answer as the plain functions do. Conditions: it is well formed; the bytes are few. -/
import Derived.Test.YtglobldnockdoaaFgC
import Derived.Test.YtglobldnockdoaaSlS
namespace Go.Proofs.Ytglobldnockdoaa
open Go Go.Sl Go.Flt

theorem fr_can {F : Nat → Option Obj} (f : FR) : Sl.Can F f.H f.R 0 [.slice f.la f.ln f.lc, .int .u32 f.c, .int .i64 f.paths] := Can.cut (n := 3) (.here rfl)
theorem fr_src {F : Nat → Option Obj} {f : FR} (hf : f.ok) {i : Nat} {m : RrM} (h : f.rs[i]? = some m) : Lst F f.H 1 (m.r.bs.map B) m.ba m.bn m.bc := by
  refine (Lst.own (F := F) (H := m.bb) (hf.recs m (List.mem_of_getElem? h)) (fun _ h => h)).mono (fun w hw => ?_)
  have e1 : f.rs = f.rs.take i ++ m :: f.rs.drop (i + 1) := by
    have hi := (List.getElem?_eq_some_iff.1 h).1
    rw [← (List.getElem?_eq_some_iff.1 h).2, ← List.drop_eq_getElem_cons hi, List.take_append_drop]
  unfold FR.H at hw
  rw [e1, List.flatMap_append, List.flatMap_cons] at hw
  exact hw.sublist (.cons _ (.trans (.trans (List.sublist_append_left _ _) (List.sublist_append_right _ _)) (List.sublist_append_right _ _)))
theorem fr_few {f : FR} (hs : f.small) {i : Nat} {m : RrM} (h : f.rs[i]? = some m) : m.r.bs.length ≤ 1000000000000 := by
  have h1 := sumB_snoc (fun _ => true) (L := f.S.L) (i := i) (r := m.r) (fr_r h)
  have h2 := fr_sum hs (fun _ => true) (i + 1)
  rw [if_pos rfl] at h1
  omega
theorem b_one (bs : List UInt8) : ∀ u ∈ bs.map B, u.oneCell' = true := by
  intro u hu
  obtain ⟨b, _, rfl⟩ := List.mem_map.1 hu
  rfl
set_option maxHeartbeats 4000000 in
theorem rgetD_tr (F : Nat → Option Obj) (f : FR) (hf : f.ok) (hs : f.small) (t : Int) : Tr Try.prog 52 [.pointer (some ⟨f.R, 0, none⟩), .int .u32 t].toArray F f.H (fun v H =>
    (Flt.getD f.S t = none ∧ v = tup [.agg [.int .u32 0, .int .u16 0, .int .u16 0, .bool false, .bool false, .bool false, .slice none 0 0].toArray, .int .i64 0, .bool false] ∧ H = f.H) ∨
    (∃ m : DM, ∃ p, Flt.getD f.S t = some (m.d, p) ∧ m.ok ∧ v = tup [.agg m.cells.toArray, .int .i64 p, .bool true] ∧ H = m.bb ++ f.H)) := by
  refine Tr.enter Try.func52 rfl Try.ntmps52 rfl (fun w0 => ?_)
  have hlen := hf.len
  have hsl := fr_len hf
  have r0 : Sl.Can F f.H f.R (0 + 0) [.slice f.la f.ln f.lc] := (fr_can f).one (i := 0) rfl
  repeat' (first | refine S1 ?_ | refine SD ?_ | refine SA (fun _ => ?_) | refine WL.g_split rfl rfl (fun hc => ?_) (fun hc => ?_) | refine WD.g_split rfl rfl (fun hc => ?_) (fun hc => ?_) | refine W.cond rfl (fun hc => ?_) (fun hc => ?_))
  refine WL.e rfl (Ef.callR (c := f.H) (by exact rfl) (.last (.there .all)) (rat_tr _ f hf t)) ?_
  rintro _ _ ⟨rfl, rfl⟩
  cases hi : atI f.c f.ln t with
  | none =>
    rw [show atR f.c f.ln t = -1 by unfold atR; rw [hi]]
    repeat' (first | refine S1 ?_ | refine SD ?_ | refine SA (fun _ => ?_) | refine WL.g_split rfl rfl (fun hc => ?_) (fun hc => ?_) | refine WD.g_split rfl rfl (fun hc => ?_) (fun hc => ?_) | refine W.cond rfl (fun hc => ?_) (fun hc => ?_))
    exact Fin.retW (by exact rfl) resA (H' := f.H) (fun _ h => h.sublist findA) (.inl ⟨by unfold Flt.getD; rw [hsl, show f.S.c = f.c from rfl, hi], rfl, rfl⟩)
  | some i =>
    have hil : i < f.ln := by
      unfold atI at hi
      split at hi
      · cases hi; omega
      · cases hi
    obtain ⟨m, hm⟩ : ∃ m, f.rs[i]? = some m := ⟨f.rs[i]'(by omega), by simp⟩
    have hrl := fr_few hs hm
    have hbn := fr_bn hf hm
    obtain ⟨lb, lo, hla, hcan⟩ := fr_el (F := F) hf hm
    have hia : 0 ≤ (i : Int) ∧ (i : Int) < f.ln := by omega
    rw [show atR f.c f.ln t = (i : Int) by unfold atR; rw [hi]]
    have r0' : ∀ b o, Sl.Can F ((b, o) :: f.H) f.R (0 + 0) [.slice f.la f.ln f.lc] := fun _ _ => r0.mono (fun _ h => h.sublist (.cons _ (.refl _)))
    repeat' (first | refine S1 ?_ | refine SA (fun _ => ?_) | refine WL.g_split rfl rfl (fun hc => ?_) (fun hc => ?_) | refine WD.g_split rfl rfl (fun hc => ?_) (fun hc => ?_) | refine W.cond rfl (fun hc => ?_) (fun hc => ?_))
    rename_i b4
    refine W.cut (G := Nat) (fun b7 => [(4, .pointer (some ⟨b4, 0, none⟩)), (7, .pointer (some ⟨b7, 0, none⟩))]) (fun b7 => (b7, .cells m.cells.toArray 111 (0, 0)) :: (b4, .cells [.int .u32 0, .int .u16 0, .int .u16 0, .bool false, .bool false, .bool false, .slice none 0 0].toArray 32 (0, 0)) :: f.H) (fun _ => True) (fun K' hK _ => ?_) ?_
    · refine W.drawG 9 f.H (fun _ h => h.sublist (.cons _ (.refl _))) ?_
      repeat' (first
        | refine WF.pA ?_ | refine WF.sA ?_)
      refine WF.e rfl (Ef.callR (c := f.H) (by exact rfl) (.last (.there .all)) (rat_tr _ f hf t)) ?_ ?_
      · rintro _ _ ⟨rfl, rfl⟩
        rw [show atR f.c f.ln t = (i : Int) by unfold atR; rw [hi]]
        refine ⟨.inr (fun _ h => h.sublist (.cons _ (.refl _))), ?_⟩
        rw [hla]
        repeat' (first
          | refine WF.pA ?_ | refine WF.sA ?_)
        refine WF.s rfl (Rd.ldaC rfl (by exact rfl) hcan) ?_
        refine WF.nil ?_
        refine WD.aA (fun b7 => ?_) (hk := fun _ => .inr (fun _ h => h.sublist (.cons _ (.cons _ (.refl _)))))
        repeat' (first | refine S1 ?_ | refine SA (fun _ => ?_) | refine WL.g_split rfl rfl (fun hc => ?_) (fun hc => ?_) | refine WD.g_split rfl rfl (fun hc => ?_) (fun hc => ?_) | refine W.cond rfl (fun hc => ?_) (fun hc => ?_))
        exact Fin.cut hK b7 trivial envA (fun _ h => h)
      · refine WD.aA (fun b7 => ?_) (hk := fun _ => .inr (fun _ h => h.sublist (.cons _ (.cons _ (.refl _)))))
        refine WD.e rfl (Ef.callR (c := f.H) (by exact rfl) (.last (.there (.there .all))) (rat_tr _ f hf t)) ?_
        rintro _ _ ⟨rfl, rfl⟩
        refine ⟨.inr (fun _ h => h.sublist (.cons _ (.cons _ (.refl _)))), ?_⟩
        rw [show atR f.c f.ln t = (i : Int) by unfold atR; rw [hi], hla]
        repeat' (first | refine S1 ?_ | refine SA (fun _ => ?_) | refine WL.g_split rfl rfl (fun hc => ?_) (fun hc => ?_) | refine WD.g_split rfl rfl (fun hc => ?_) (fun hc => ?_) | refine W.cond rfl (fun hc => ?_) (fun hc => ?_))
        refine WD.s rfl (Rd.ldaC rfl (by exact rfl) hcan) ?_
        repeat' (first | refine S1 ?_ | refine SA (fun _ => ?_) | refine WL.g_split rfl rfl (fun hc => ?_) (fun hc => ?_) | refine WD.g_split rfl rfl (fun hc => ?_) (fun hc => ?_) | refine W.cond rfl (fun hc => ?_) (fun hc => ?_))
        exact Fin.cut hK b7 trivial envA (fun _ h => h)
    · rintro b7 _
      repeat' (first | refine S1 ?_ | refine SA (fun _ => ?_) | refine WL.g_split rfl rfl (fun hc => ?_) (fun hc => ?_) | refine WD.g_split rfl rfl (fun hc => ?_) (fun hc => ?_) | refine W.cond rfl (fun hc => ?_) (fun hc => ?_))
      rename_i b8 b5
      refine WL.e rfl (Ef.app (m := m.bn) (news := m.r.bs.map B) (by exact rfl) (by exact rfl) rfl rfl (OwnS.empty _ _ b5) (.last .here) (((fr_src hf hm).mono (fun _ h => h.sublist (.cons _ (.cons _ (.cons _ (.cons _ (.refl _))))))).src) (by rw [List.length_map]; omega) (b_one _) (by rw [List.length_map]; simp; omega) (by rw [List.length_map]; simp [maxLen]; omega)) ?_
      rintro v' _ ⟨bh, hown, rfl⟩
      obtain ⟨sa, sn, sc, rfl, _, _⟩ := OwnS.shape hown
      repeat' (first | refine S1 ?_ | refine SA (fun _ => ?_) | refine WL.g_split rfl rfl (fun hc => ?_) (fun hc => ?_) | refine WD.g_split rfl rfl (fun hc => ?_) (fun hc => ?_) | refine W.cond rfl (fun hc => ?_) (fun hc => ?_))
      refine W.draw (bh ++ ((b8, .cells [.int .u32 m.r.tsn, .int .u16 m.r.stream, .int .u16 m.r.ssn, .bool m.r.un, .bool m.r.fi, .bool m.r.la, .slice sa sn sc].toArray 32 (0, 0)) :: (b7, .cells m.cells.toArray 111 (0, 0)) :: f.H)) (by kernel_rfl) (by kernel_rfl) (fun _ h => h.sublist ((List.Sublist.refl _).append (.cons_cons _ (.cons_cons _ (.cons _ (.refl _)))))) ?_
      refine WD.sA ?_
      refine WD.pA ?_
      refine WD.sA ?_
      refine WD.e0 (Ef.sta rfl rfl (by exact rfl) (by exact rfl) (.right (.there (.there (.here rfl))))) ?_
      rintro _ _ ⟨rfl, rfl⟩
      refine ⟨.inr (fun _ h => h.sublist ((List.Sublist.refl _).append (.cons_cons _ (.cons_cons _ (.cons _ (.refl _)))))), ?_⟩
      repeat' (first | refine S1 ?_ | refine SD ?_ | refine SA (fun _ => ?_) | refine WL.g_split rfl rfl (fun hc => ?_) (fun hc => ?_) | refine WD.g_split rfl rfl (fun hc => ?_) (fun hc => ?_) | refine W.cond rfl (fun hc => ?_) (fun hc => ?_))
      refine Fin.retW (by exact rfl) resA (H' := bh ++ f.H) (fun _ h => h.sublist ((List.Sublist.refl _).append (.cons _ (.cons _ (.cons _ (.refl _)))))) (.inr ⟨⟨m.r.d, sa, sn, sc, bh⟩, m.r.path, ?_, hown, rfl, rfl⟩)
      unfold Flt.getD
      rw [hsl, show f.S.c = f.c from rfl, hi]
      dsimp only
      rw [fr_r hm]
      rfl
structure RpG where
  i : Nat
  sa : Option Addr
  sn : Nat
  sc : Nat
  hb : HL
  ds : List DM
set_option maxHeartbeats 4000000 in
theorem rpoint_tr (F : Nat → Option Obj) (f : FR) (hf : f.ok) (hs : f.small) (hcr : 0 ≤ f.c ∧ f.c < 4294967296) : Tr Try.prog 35 [.pointer (some ⟨f.R, 0, none⟩)].toArray F f.H (fun v H => ∃ (sa : Option Addr) (sn sc : Nat) (hb : HL) (ds : List DM), v = tup [.int .u32 (Spn.u32 (f.c + Spn.u32 (Flt.ptL f.S.L).length)), .slice sa sn sc] ∧
    OwnS 32 7 (ds.flatMap DM.cells) (.slice sa sn sc) hb ∧ (∀ m ∈ ds, m.ok) ∧ ds.map (·.d) = Flt.ptL f.S.L ∧ H = hb ++ (ds.flatMap DM.bb ++ f.H)) := by
  refine Tr.enter Try.func35 rfl Try.ntmps35 rfl (fun w0 => ?_)
  have hlen := hf.len
  have hsl := fr_len hf
  have hfew := hf.few
  have r0 : Sl.Can F f.H f.R (0 + 0) [.slice f.la f.ln f.lc] := (fr_can f).one (i := 0) rfl
  have r1 : Sl.Can F f.H f.R (0 + 1) [.int .u32 f.c] := (fr_can f).one (i := 1) rfl
  have hc0 : f.c = Spn.u32 (f.c + Spn.u32 (0 : Nat)) := by rw [show Spn.u32 ((0 : Nat) : Int) = 0 from rfl, Int.add_zero, Spn.u32_eq]; omega
  repeat' (first | refine S1 ?_ | refine SD ?_ | refine SA (fun _ => ?_) | refine WL.g_split rfl rfl (fun hc => ?_) (fun hc => ?_) | refine WD.g_split rfl rfl (fun hc => ?_) (fun hc => ?_) | refine W.cond rfl (fun hc => ?_) (fun hc => ?_))
  rw [hc0]
  refine W.loop (G := RpG) (fun g => [(0, .pointer (some ⟨f.R, 0, none⟩)), (4, .int .u32 (Spn.u32 (f.c + Spn.u32 g.i))), (5, .slice g.sa g.sn g.sc), (6, .int .i64 g.i)]) (fun g => g.hb ++ (g.ds.flatMap DM.bb ++ f.H))
    (fun g => g.i ≤ f.ln ∧ OwnS 32 7 (g.ds.flatMap DM.cells) (.slice g.sa g.sn g.sc) g.hb ∧ (∀ m ∈ g.ds, m.ok) ∧ g.ds.map (·.d) = (f.S.L.take g.i).map Rc.d ∧ ∀ r ∈ f.S.L.take g.i, r.gone = true) (fun g => f.ln - g.i) ⟨0, none, 0, 0, [], []⟩ ⟨Nat.zero_le _, .inl ⟨rfl, rfl, rfl⟩, (fun _ h => by cases h), rfl, (fun _ h => by simp at h)⟩ envA (fun _ h => h) ?_
  rw [← hc0]
  rintro ⟨i, sa, sn, sc, hb, ds⟩ ⟨hi, hown, hds, hdd, hgone⟩
  dsimp only at hi hown hds hdd hgone ⊢
  have hdl : ds.length = i := by
    have := congrArg List.length hdd
    simp only [List.length_map, List.length_take] at this
    omega
  have hHH : ∀ w, In F (hb ++ (ds.flatMap DM.bb ++ f.H)) w → In F f.H w := fun _ h => h.right.right
  have s0 := r0.mono hHH
  repeat' (first | refine S1 ?_ | refine SA (fun _ => ?_) | refine WL.g_split rfl rfl (fun hc => ?_) (fun hc => ?_) | refine WD.g_split rfl rfl (fun hc => ?_) (fun hc => ?_) | refine W.cond rfl (fun hc => ?_) (fun hc => ?_))
  rotate_right
  · have hin : i = f.ln := by have := of_decide_eq_false (p := (i : Int) < (f.ln : Int)) (by assumption); omega
    have hpt : Flt.ptL f.S.L = (f.S.L.take i).map Rc.d := ptL_at hgone (fun r hr => by have := (List.getElem?_eq_some_iff.1 hr).1; omega)
    refine Fin.retW (by exact rfl) resA (H' := hb ++ (ds.flatMap DM.bb ++ f.H)) (fun _ h => h) ⟨sa, sn, sc, hb, ds, ?_, hown, hds, by rw [hpt, hdd], rfl⟩
    rw [hpt, ← hdd, List.length_map]
    rw [hdl]
  have hi' : i < f.ln := by have := of_decide_eq_true (p := (i : Int) < (f.ln : Int)) (by assumption); omega
  obtain ⟨m, hm⟩ : ∃ m, f.rs[i]? = some m := ⟨f.rs[i]'(by omega), by simp⟩
  have hrl := fr_few hs hm
  have hmr := fr_r hm
  have hbn := fr_bn hf hm
  obtain ⟨lb, lo, hla, hcan⟩ := fr_el (F := F) hf hm
  have hia : 0 ≤ (i : Int) ∧ (i : Int) < f.ln := by omega
  have c13 : Sl.Can F (hb ++ (ds.flatMap DM.bb ++ f.H)) lb (lo + (i : Int).toNat * 15 + 13) [.bool m.r.gone] := (hcan.one (i := 13) rfl).mono hHH
  have c7 : Sl.Can F (hb ++ (ds.flatMap DM.bb ++ f.H)) lb (lo + (i : Int).toNat * 15 + 0) [.int .u32 m.r.tsn, .int .u16 m.r.stream, .int .u16 m.r.ssn, .bool m.r.un, .bool m.r.fi, .bool m.r.la, .slice m.ba m.bn m.bc] := (hcan.sub 0 7).mono hHH
  rw [hla] at s0 ⊢
  cases hgo : m.r.gone with
  | false =>
    rw [hgo] at c13
    have hpt : Flt.ptL f.S.L = (f.S.L.take i).map Rc.d := ptL_at hgone (fun r hr => by rw [hmr] at hr; cases hr; exact hgo)
    repeat' (first | refine S1 ?_ | refine SA (fun _ => ?_) | refine WL.g_split rfl rfl (fun hc => ?_) (fun hc => ?_) | refine WD.g_split rfl rfl (fun hc => ?_) (fun hc => ?_) | refine W.cond rfl (fun hc => ?_) (fun hc => ?_))
    refine Fin.retW (by exact rfl) resA (H' := hb ++ (ds.flatMap DM.bb ++ f.H)) (fun _ h => h) ⟨sa, sn, sc, hb, ds, ?_, hown, hds, by rw [hpt, hdd], rfl⟩
    rw [hpt, ← hdd, List.length_map]
    rw [hdl]
  | true =>
    rw [hgo] at c13
    repeat' (first | refine S1 ?_ | refine SA (fun _ => ?_) | refine WL.g_split rfl rfl (fun hc => ?_) (fun hc => ?_) | refine WD.g_split rfl rfl (fun hc => ?_) (fun hc => ?_) | refine W.cond rfl (fun hc => ?_) (fun hc => ?_))
    rw [hla]
    repeat' (first | refine S1 ?_ | refine SA (fun _ => ?_) | refine WL.g_split rfl rfl (fun hc => ?_) (fun hc => ?_) | refine WD.g_split rfl rfl (fun hc => ?_) (fun hc => ?_) | refine W.cond rfl (fun hc => ?_) (fun hc => ?_))
    refine WL.s rfl (Rd.ldaC rfl (by exact rfl) c7) ?_
    repeat' (first | refine S1 ?_ | refine SA (fun _ => ?_) | refine WL.g_split rfl rfl (fun hc => ?_) (fun hc => ?_) | refine WD.g_split rfl rfl (fun hc => ?_) (fun hc => ?_) | refine W.cond rfl (fun hc => ?_) (fun hc => ?_))
    rename_i b7 b5
    have hfs : ∀ w, In F ((b5, .cells ([] : List Value).toArray 5 (0, 0)) :: (b7, .cells [.int .u32 m.r.tsn, .int .u16 m.r.stream, .int .u16 m.r.ssn, .bool m.r.un, .bool m.r.fi, .bool m.r.la, .slice m.ba m.bn m.bc].toArray 32 (0, 0)) :: (hb ++ (ds.flatMap DM.bb ++ f.H))) w → In F f.H w := fun _ h => (h.sublist (.cons _ (.cons _ (.refl _)))).right.right
    refine WL.e rfl (Ef.app (m := m.bn) (news := m.r.bs.map B) (by exact rfl) (by exact rfl) rfl rfl (OwnS.empty _ _ b5) (.last .here) (((fr_src hf hm).mono hfs).src) (by rw [List.length_map]; omega) (b_one _) (by rw [List.length_map]; simp; omega) (by rw [List.length_map]; simp [maxLen]; omega)) ?_
    rintro v' _ ⟨bh, hown1, rfl⟩
    obtain ⟨sa1, sn1, sc1, rfl, _, _⟩ := OwnS.shape hown1
    repeat' (first | refine S1 ?_ | refine SA (fun _ => ?_) | refine WL.g_split rfl rfl (fun hc => ?_) (fun hc => ?_) | refine WD.g_split rfl rfl (fun hc => ?_) (fun hc => ?_) | refine W.cond rfl (fun hc => ?_) (fun hc => ?_))
    refine WL.e rfl (Ef.app (m := 1) (news := DM.cells ⟨m.r.d, sa1, sn1, sc1, bh⟩) (hb := hb) (by exact rfl) (by exact rfl) rfl rfl hown (.last (.there (.right (.there .here)))) (Src.own (n := 7) (.here rfl)) rfl (dm_one _) (by rw [ds_len, DM.len]; omega) (by rw [ds_len, DM.len]; simp [maxLen]; omega)) ?_
    rintro v' _ ⟨hb', hown', rfl⟩
    obtain ⟨sa2, sn2, sc2, rfl, _, _⟩ := OwnS.shape hown'
    repeat' (first | refine S1 ?_ | refine SA (fun _ => ?_) | refine WL.g_split rfl rfl (fun hc => ?_) (fun hc => ?_) | refine WD.g_split rfl rfl (fun hc => ?_) (fun hc => ?_) | refine W.cond rfl (fun hc => ?_) (fun hc => ?_))
    rw [i64_succ (by omega)]
    refine Fin.round ⟨i + 1, sa2, sn2, sc2, hb', ds ++ [⟨m.r.d, sa1, sn1, sc1, bh⟩]⟩ ⟨hi', ?_, ?_, ?_, ?_⟩ (by rw [show IntKind.u32.wrap (Spn.u32 (f.c + Spn.u32 i) + 1) = Spn.u32 (f.c + Spn.u32 ((i + 1 : Nat) : Int)) by show Spn.u32 _ = _; simp only [Spn.u32_eq]; omega]; exact envA) (fun _ h => ?_) (by dsimp only; omega)
    · dsimp only
      rw [List.flatMap_append]
      simpa using hown'
    · intro q hq
      rcases List.mem_append.1 hq with hq | hq
      · exact hds q hq
      · rw [List.mem_singleton.1 hq]
        exact hown1
    · dsimp only
      rw [List.map_append, hdd, List.take_add_one, hmr, List.map_append]
      rfl
    · intro r hr
      dsimp only at hr
      rw [List.take_add_one, hmr] at hr
      rcases List.mem_append.1 hr with hr | hr
      · exact hgone r hr
      · rw [List.mem_singleton.1 hr]
        exact hgo
    · have := In.of_sub (.pickL (L := hb') .here (.pickL (L := ds.flatMap DM.bb) (.there (.right (.there .here))) (.pickL (L := bh) (.there .here) (.last (L := f.H) (.there (.there .all)))))) h
      rw [List.flatMap_append]
      simpa using this
set_option maxHeartbeats 4000000 in
theorem radd_tr (F : Nat → Option Obj) (f : FR) (hf : f.ok) (d : Dt) (ba : Option Addr) (bn bc : Nat) (hl : Lst F [] 1 (d.bs.map B) ba bn bc) (hdl : d.bs.length ≤ 1000000000000) (p now id : Int) :
    Tr Try.prog 50 [.pointer (some ⟨f.R, 0, none⟩), .agg [.int .u32 d.tsn, .int .u16 d.stream, .int .u16 d.ssn, .bool d.un, .bool d.fi, .bool d.la, .slice ba bn bc].toArray, .int .i64 p, .int .i64 now, .int .i64 id].toArray F f.H (fun v H =>
      v = tup [.int .u32 (if Flt.addE f.S d p = 0 then newT f.S else 0), .int .i64 (Flt.addE f.S d p)] ∧ ∃ f' : FR, f'.ok ∧ H = f'.H ∧ f'.R = f.R ∧ f'.S = Flt.add f.S d p now id) := by
  refine Tr.enter Try.func50 rfl Try.ntmps50 rfl (fun w0 => ?_)
  have hlen := hf.len
  have hfew := hf.few
  have hL := fr_len hf
  have hbl : d.bs.length = bn := by have := hl.len; simp at this; exact this
  unfold FR.H FR.hd
  repeat' (first | refine S1 ?_ | refine SD ?_ | refine SA (fun _ => ?_) | refine WL.g_split rfl rfl (fun hc => ?_) (fun hc => ?_) | refine WD.g_split rfl rfl (fun hc => ?_) (fun hc => ?_) | refine W.cond rfl (fun hc => ?_) (fun hc => ?_))
  · have he : Flt.addE f.S d p = 1 := by unfold Flt.addE; rw [if_pos (.inl (of_decide_eq_true hc))]
    refine Fin.retW (by exact rfl) resA (H' := f.H) (fun _ h => h.sublist (.cons _ (.refl _))) ⟨by rw [he]; rfl, f, hf, rfl, rfl, by unfold Flt.add; rw [he]; rfl⟩
  · have he : Flt.addE f.S d p = 1 := by unfold Flt.addE; rw [if_pos (.inr (.inl (of_decide_eq_true hc)))]
    refine Fin.retW (by exact rfl) resA (H' := f.H) (fun _ h => h.sublist (.cons _ (.refl _))) ⟨by rw [he]; rfl, f, hf, rfl, rfl, by unfold Flt.add; rw [he]; rfl⟩
  · have h0 : d.bs = [] := List.eq_nil_of_length_eq_zero (by simp at hc; omega)
    have he : Flt.addE f.S d p = 1 := by unfold Flt.addE; rw [if_pos (.inr (.inr h0))]
    refine Fin.retW (by exact rfl) resA (H' := f.H) (fun _ h => h.sublist (.cons _ (.refl _))) ⟨by rw [he]; rfl, f, hf, rfl, rfl, by unfold Flt.add; rw [he]; rfl⟩
  · have h0 : ¬ (p < 0 ∨ f.S.paths ≤ p ∨ d.bs = []) := by
      rw [show f.S.paths = f.paths from rfl]
      rintro (h | h | h)
      · simp_all
      · simp_all
      · rw [h] at hbl
        simp at hbl
        subst hbl
        simp_all
    have he : Flt.addE f.S d p = 6 := by unfold Flt.addE; rw [if_neg h0, if_pos (by rw [hL]; have := of_decide_eq_true hc; omega)]
    refine Fin.retW (by exact rfl) resA (H' := f.H) (fun _ h => h.sublist (.cons _ (.refl _))) ⟨by rw [he]; rfl, f, hf, rfl, rfl, by unfold Flt.add; rw [he]; rfl⟩
  have h0 : ¬ (p < 0 ∨ f.S.paths ≤ p ∨ d.bs = []) := by
    rw [show f.S.paths = f.paths from rfl]
    rintro (h | h | h)
    · simp_all
    · simp_all
    · rw [h] at hbl
      simp at hbl
      subst hbl
      simp_all
  have hlt : f.ln < 2048 := by have := of_decide_eq_false hc; omega
  have he : Flt.addE f.S d p = 0 := by unfold Flt.addE; rw [if_neg h0, if_neg (by rw [hL]; omega)]
  rename_i b6 _ _ _ b5
  refine WL.e rfl (Ef.app (m := bn) (news := d.bs.map B) (by exact rfl) (by exact rfl) rfl rfl (OwnS.empty _ _ b5) (.last .here) ((hl.mono (fun _ h => h.sublist (List.nil_sublist _))).src) (by rw [List.length_map]; omega) (b_one _) (by rw [List.length_map]; simp; omega) (by rw [List.length_map]; simp [maxLen]; omega)) ?_
  rintro v' _ ⟨bh, hown1, rfl⟩
  obtain ⟨sa1, sn1, sc1, rfl, _, _⟩ := OwnS.shape hown1
  repeat' (first | refine S1 ?_ | refine SD ?_ | refine SA (fun _ => ?_) | refine WL.g_split rfl rfl (fun hc => ?_) (fun hc => ?_) | refine WD.g_split rfl rfl (fun hc => ?_) (fun hc => ?_) | refine W.cond rfl (fun hc => ?_) (fun hc => ?_))
  obtain ⟨m, hm⟩ : ∃ m : RrM, m = ⟨newR f.S d p now id, sa1, sn1, sc1, bh⟩ := ⟨_, rfl⟩
  have hmc : m.cells = [.int .u32 (IntKind.u32.wrap (IntKind.u32.wrap (f.c + 1) + IntKind.u32.wrap (f.ln : Int))), .int .u16 d.stream, .int .u16 d.ssn, .bool d.un, .bool d.fi, .bool d.la, .slice sa1 sn1 sc1, .int .i64 p, .int .i64 now, .int .i64 id, .int .i64 0, .bool false, .bool false, .bool false, .bool false] := by
    rw [hm]
    unfold RrM.cells newR newT
    rw [hL]
    rfl
  rw [← hmc]
  refine WD.e rfl (Ef.app (m := 1) (news := m.cells) (hb := f.lb) (by exact rfl) (by exact rfl) rfl rfl hf.own (.last (.there (.right (.there (.there .here))))) (Src.own (n := 15) (.here (by rw [hmc]; rfl))) rfl (by rw [hmc]; intro u hu; simp only [List.mem_cons, List.not_mem_nil, or_false] at hu; rcases hu with rfl | rfl | rfl | rfl | rfl | rfl | rfl | rfl | rfl | rfl | rfl | rfl | rfl | rfl | rfl <;> rfl) (by rw [flat_len' RrM.cells 15 (fun _ => rfl), hmc]; simp; omega) (by rw [flat_len' RrM.cells 15 (fun _ => rfl), hmc]; simp [maxLen]; omega)) ?_
  rintro v' _ ⟨lb', hown', rfl⟩
  refine ⟨.inl (by kernel_rfl), ?_⟩
  obtain ⟨sa2, sn2, sc2, rfl, _, _⟩ := OwnS.shape hown'
  repeat' (first | refine S1 ?_ | refine SD ?_ | refine SA (fun _ => ?_) | refine WL.g_split rfl rfl (fun hc => ?_) (fun hc => ?_) | refine WD.g_split rfl rfl (fun hc => ?_) (fun hc => ?_) | refine W.cond rfl (fun hc => ?_) (fun hc => ?_))
  refine Fin.retW (by exact rfl) resA (H' := ({ f with la := sa2, ln := sn2, lc := sc2, lb := lb', rs := f.rs ++ [m] } : FR).H) (fun _ h => ?_) ⟨?_, { f with la := sa2, ln := sn2, lc := sc2, lb := lb', rs := f.rs ++ [m] }, ⟨?_, ?_, ?_⟩, rfl, rfl, ?_⟩
  · have := In.of_sub (.pick (.right (.there (.right (.there .here)))) (.pickL (L := lb') .here (.pickL (L := f.rs.flatMap (·.bb)) (.there (.right (.there .all))) (.last (L := bh) (.there .here))))) h
    unfold FR.H FR.hd
    dsimp only
    rw [List.flatMap_append, List.flatMap_cons, List.flatMap_nil, List.append_nil, show m.bb = bh by rw [hm]]
    exact this
  · rw [he]
    unfold newT
    rw [hL]
    rfl
  · dsimp only
    rw [List.flatMap_append, List.flatMap_cons, List.flatMap_nil, List.append_nil]
    exact hown'
  · intro q hq
    rcases List.mem_append.1 hq with hq | hq
    · exact hf.recs q hq
    · rw [List.mem_singleton.1 hq, hm]
      exact hown1
  · dsimp only
    rw [List.length_append]
    show f.rs.length + 1 ≤ 2048
    omega
  · unfold Flt.add
    rw [he, if_pos rfl]
    unfold FR.S
    dsimp only
    rw [List.map_append, hm]
    rfl
end Go.Proofs.Ytglobldnockdoaa
