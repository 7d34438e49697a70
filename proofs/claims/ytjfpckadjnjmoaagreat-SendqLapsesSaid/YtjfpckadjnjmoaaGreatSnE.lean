/- A sender in memory: what is owed laid, acknowledgements: walked. Conditions: it is well formed. -/
import Derived.Test.YtjfpckadjnjmoaaGreatSnD
namespace Go.Proofs.YtjfpckadjnjmoaaGreat
open Go Go.Sl Go.Pth

theorem sless_tr (F : Nat → Option Obj) (a b : Int) : Tr Tryz.prog 87 [.int .u32 a, .int .u32 b].toArray F [] (fun v H => v = .bool (Rm.less32 a b) ∧ H = []) := by
  refine Tr.enter Tryz.func87 rfl Tryz.ntmps87 rfl (fun w0 => ?_)
  repeat' (first | refine S1 ?_ | refine SD ?_ | refine SA (fun _ => ?_) | refine G1 (fun hc => ?_) (fun hc => ?_) | refine G2 (fun hc => ?_) (fun hc => ?_) | refine G3 (fun hc => ?_) (fun hc => ?_))
  refine WL.e rfl (Ef.callR (by exact rfl) subA (ahead_tr _ a b)) ?_
  rintro _ _ ⟨rfl, rfl⟩
  repeat' (first | refine S1 ?_ | refine SD ?_ | refine SA (fun _ => ?_) | refine G1 (fun hc => ?_) (fun hc => ?_) | refine G2 (fun hc => ?_) (fun hc => ?_) | refine G3 (fun hc => ?_) (fun hc => ?_))
  · refine Fin.retW (by exact rfl) resA weakA ⟨?_, rfl⟩
    have e : (Int.fdiv (IntKind.u32.wrap (BitVec.ofInt IntKind.u32.bits (if IntKind.u32.signed = true then -1 else IntKind.u32.max) ^^^ BitVec.ofInt IntKind.u32.bits (IntKind.u32.wrap 0)).toNat) (2 ^ min (1 : Int).toNat IntKind.u32.bits)) = 2147483647 := by decide
    simp only [Rm.less32, hc, Bool.true_and, tup]
    rw [e]
  · refine Fin.retW (by exact rfl) resA weakA ⟨?_, rfl⟩
    simp only [Rm.less32, hc, Bool.false_and, tup]
theorem SdM.putX {s : SdM} {off : Nat} {vs cs : List Value} (hs : spliceK s.cells off vs some = some cs) : PutAt s.R off vs s.H ((s.R, .cells cs.toArray 76 (0, 0)) :: s.T) := by
  unfold SdM.H SdM.hd
  exact .here hs
theorem SdM.ok.onl {n : Nat} {s : SdM} (h : s.ok n) : s.owed.length = s.on_ := by have := OwnS.len h.owed; rw [flat_len' OwM.cells 8 OwM.clen] at this; omega
theorem SdM.owP {n : Nat} {s : SdM} (h : s.ok n) {x : OwM} {r : List OwM} (hx : s.owed = x :: r) : ∃ b off, s.oa = some ⟨b, off, none⟩ ∧ ∀ F : Nat → Option Obj, Sl.Can F s.H b (off + (0 : Int).toNat * 8) x.cells := by
  have h1 := h.owed
  have hl := h.onl
  rw [hx] at h1 hl
  have hL := fun F : Nat → Option Obj => Lst.own (F := F) h1 (fun _ hh => hh)
  obtain ⟨b, off, ha, _⟩ := (hL (fun _ => none)).can (by simp at hl; omega)
  refine ⟨b, off, ha, fun F => ?_⟩
  obtain ⟨b', off', ha', hcan⟩ := (hL F).can (by simp at hl; omega)
  rw [ha] at ha'
  cases ha'
  have := (hcan.sub 0 8).mono (F' := F) (H' := s.H) (fun _ hh => hh.sublist (by
    unfold SdM.H SdM.T SdM.X
    exact .cons _ ((List.sublist_append_left _ _).trans ((List.sublist_append_right _ _).trans ((List.sublist_append_right _ _).trans ((List.sublist_append_right _ _).trans ((List.sublist_append_right _ _).trans (List.sublist_append_right _ _))))))))
  exact this
structure GT where
  s : SdM
set_option maxHeartbeats 4000000 in
theorem slay_tr (F : Nat → Option Obj) {n : Nat} (s : SdM) (hs : s.ok n) (now : Int) : Tr Tryz.prog 30 [ptr s.R, .int .i64 now].toArray F s.H (fun v H => v = .tuple #[] ∧ ∃ s' : SdM, s'.ok n ∧ H = s'.H ∧ s'.R = s.R ∧ s'.S = Snd.lay s.S now) := by
  refine Tr.enter Tryz.func30 rfl Tryz.ntmps30 rfl (fun w0 => ?_)
  repeat' (first | refine S2b ?_ | refine SD ?_ | refine SA (fun _ => ?_) | refine G1 (fun hc => ?_) (fun hc => ?_) | refine G2 (fun hc => ?_) (fun hc => ?_) | refine G3 (fun hc => ?_) (fun hc => ?_) | refine SL ?_ | fail)
  obtain ⟨rr, hrr⟩ : ∃ rr, s.R = rr := ⟨_, rfl⟩
  rw [hrr]
  refine W.loop (G := GT) (fun g => [(0, ptr rr), (1, .int .i64 now)]) (fun g => g.s.H) (fun g => g.s.ok n ∧ g.s.R = rr ∧ Snd.lay s.S now = Snd.layN now g.s.owed.length g.s.S) (fun g => g.s.owed.length) ⟨s⟩ ⟨hs, hrr, by unfold Snd.lay; simp [SdM.S]⟩ envA (fun _ h => h) ?_
  rintro ⟨t⟩ ⟨ht, hR, hlay⟩
  dsimp only at ht hR hlay ⊢
  subst hR
  obtain ⟨c0, c1, c2, c3, c4, c5, c6, c7, c8, c9, c10, c11⟩ := t.cans (F := F)
  have hol := ht.onl
  cases hx : t.owed with
  | nil =>
    rw [hx] at hol
    rw [show t.on_ = 0 by simpa using hol.symm] at c7
    repeat' (first | refine S2b ?_ | refine SD ?_ | refine SA (fun _ => ?_) | refine G1 (fun hc => ?_) (fun hc => ?_) | refine G2 (fun hc => ?_) (fun hc => ?_) | refine G3 (fun hc => ?_) (fun hc => ?_) | refine SL ?_ | fail)
    refine Fin.endW (by exact rfl) resA (fun _ h => h) ⟨rfl, t, ht, rfl, rfl, ?_⟩
    rw [hlay, hx]
    rfl
  | cons x r =>
    obtain ⟨b, off, hoa, hcan⟩ := SdM.owP ht hx
    have hcan := hcan F
    have hgt : decide ((t.on_ : Int) > 0) = true := decide_eq_true (by rw [hx] at hol; simp at hol; omega)
    have h0 : 0 ≤ (0 : Int) ∧ (0 : Int) < t.on_ := by rw [hx] at hol; simp at hol; omega
    rw [hoa] at c7
    unfold OwM.cells at hcan
    repeat' (first | refine S2b ?_ | refine SD ?_ | refine SA (fun _ => ?_) | refine G1 (fun hc => ?_) (fun hc => ?_) | refine G2 (fun hc => ?_) (fun hc => ?_) | refine G3 (fun hc => ?_) (fun hc => ?_) | refine SL ?_ | fail)
    rotate_left
    · exact absurd (hgt.symm.trans hc) (by decide)
    refine WL.s rfl (Rd.ldaC rfl rfl hcan) ?_
    repeat' (first | refine S2b ?_ | refine SD ?_ | refine SA (fun _ => ?_) | refine G1 (fun hc => ?_) (fun hc => ?_) | refine G2 (fun hc => ?_) (fun hc => ?_) | refine G3 (fun hc => ?_) (fun hc => ?_) | refine SL ?_ | fail)
    rename_i b4
    have hxm : x ∈ t.owed := by rw [hx]; exact List.mem_cons_self
    have hown := ht.own x hxm
    have hlen := ht.pl.owed x.O (List.mem_map.2 ⟨x, hxm, rfl⟩)
    refine WD.e rfl (Ef.callR (by exact rfl) (.nil _) (clock_tr _ now)) ?_
    rintro _ _ ⟨rfl, rfl⟩
    refine ⟨.inr (fun _ h => h), ?_⟩
    repeat' (first | refine S2b ?_ | refine SD ?_ | refine SA (fun _ => ?_) | refine G1 (fun hc => ?_) (fun hc => ?_) | refine G2 (fun hc => ?_) (fun hc => ?_) | refine G3 (fun hc => ?_) (fun hc => ?_) | refine SL ?_ | fail)
    refine WD.e rfl (Ef.callW (c := t.f.H) (by exact rfl) (.skip _ t.flP.sub) (fun F' hF => add_tr F' t.f ht.f x.d x.ba x.bn x.bc ((Lst.own (F := F) (H := x.bb) hown (fun _ h => h)).mono (fun w h => (hF w h).sublist ?_)) (by have := hlen; simp only [OwM.O] at this; omega) 0 (Snd.clock now) x.id)) ?_
    · refine .cons _ (.cons _ (List.Sublist.trans ?_ (List.sublist_append_right _ _)))
      refine List.Sublist.trans ?_ (List.sublist_append_right _ _)
      refine List.Sublist.trans ?_ (List.sublist_append_right _ _)
      unfold SdM.X
      refine List.Sublist.trans ?_ (List.sublist_append_right _ _)
      refine List.Sublist.trans ?_ (List.sublist_append_right _ _)
      rw [hx]
      exact List.sublist_append_left _ _
    rintro _ _ ⟨_, ⟨rfl, f1, hf1, rfl, hR1, hS1⟩, rfl⟩
    refine ⟨.inl (by kernel_rfl), ?_⟩
    refine WD.weak (fun _ h => In.front1 (t.flE hR1) h) ?_
    dsimp only [tup]
    obtain ⟨E, hE⟩ : ∃ E, Flt.addE t.f.S x.d 0 = E := ⟨_, rfl⟩
    rw [hE]
    clear c0 c1 c2 c3 c4 c5 c6 c7 c8 c9 c10 c11 hcan
    obtain ⟨c0, c1, c2, c3, c4, c5, c6, c7, c8, c9, c10, c11⟩ := SdM.cans (F := F) { t with f := f1 }
    dsimp only at c0 c1 c2 c3 c4 c5 c6 c7 c8 c9 c10 c11
    have hown1 : t.S.owed = x.O :: r.map OwM.O := by unfold SdM.S; dsimp only; rw [hx]; rfl
    rw [hx, List.length_cons] at hlay
    rw [Snd.layN, hown1] at hlay
    dsimp only at hlay
    repeat' (first | refine S2b ?_ | refine SD ?_ | refine SA (fun _ => ?_) | refine G1 (fun hc => ?_) (fun hc => ?_) | refine G2 (fun hc => ?_) (fun hc => ?_) | refine G3 (fun hc => ?_) (fun hc => ?_) | refine SL ?_ | fail)
    · have hne : ¬ E = 0 := by simpa using hc
      rw [if_neg (by show ¬ Flt.addE t.f.S x.d 0 = 0; rw [hE]; exact hne)] at hlay
      have hf0 : f1.S = t.f.S := by rw [hS1]; unfold Flt.add; rw [if_neg (by rw [hE]; exact hne)]
      have hS0 : ({ t with f := f1 } : SdM).S = t.S := by show ({ t.S with f := f1.S } : Snd.S) = t.S; rw [hf0]; rfl
      exact Fin.retW (by exact rfl) resA (H' := ({ t with f := f1 } : SdM).H) (fun _ h => h.sublist findA) ⟨rfl, { t with f := f1 }, ht.setF (n' := n) hf1 (by rw [hf0]; exact ht.pl), rfl, rfl, by rw [hlay]; exact hS0⟩
    · have he0 : E = 0 := by simpa using hc
      rw [if_pos (by show Flt.addE t.f.S x.d 0 = 0; rw [hE]; exact he0)] at hlay
      refine WD.e rfl (Ef.call (c := f1.H) (by exact rfl) (.skip _ (SdM.flP { t with f := f1 }).sub) (abandon_tr _ f1 hf1 x.id)) ?_
      rintro _ _ ⟨_, ⟨rfl, f2, hf2, rfl, hR2, hS2⟩, rfl⟩
      refine ⟨.inl (by kernel_rfl), ?_⟩
      refine WD.weak (fun _ h => In.front1 (SdM.flE (s := { t with f := f1 }) hR2) h) ?_
      dsimp only
      clear c0 c1 c2 c3 c4 c5 c6 c7 c8 c9 c10 c11
      obtain ⟨c0, c1, c2, c3, c4, c5, c6, c7, c8, c9, c10, c11⟩ := SdM.cans (F := F) { t with f := f2 }
      dsimp only at c0 c1 c2 c3 c4 c5 c6 c7 c8 c9 c10 c11
      have c7 : Sl.Can F ({ t with f := f2 } : SdM).H t.R (0 + 7) [.slice (some ⟨b, off, none⟩) t.on_ t.oc] := by rw [← hoa]; exact c7
      repeat' (first | refine S2b ?_ | refine SD ?_ | refine SA (fun _ => ?_) | refine G1 (fun hc => ?_) (fun hc => ?_) | refine G2 (fun hc => ?_) (fun hc => ?_) | refine G3 (fun hc => ?_) (fun hc => ?_) | refine SL ?_ | fail)
      refine WL.p rfl (Pu.slLo rfl rfl (by omega)) ?_
      repeat' (first | refine S2b ?_ | refine SD ?_ | refine SA (fun _ => ?_) | refine G1 (fun hc => ?_) (fun hc => ?_) | refine G2 (fun hc => ?_) (fun hc => ?_) | refine G3 (fun hc => ?_) (fun hc => ?_) | refine SL ?_ | fail)
      obtain ⟨oa', hoa'⟩ : ∃ a, (if t.oc = (1 : Int).toNat then some ⟨b, off, none⟩ else (some (⟨b, off, none⟩ : Addr)).map (·.add ((1 : Int).toNat * 8))) = a := ⟨_, rfl⟩
      rw [hoa']
      have hputx := SdM.putX (s := { t with f := f2 }) (off := 0 + 7) (vs := [.slice oa' (t.on_ - (1 : Int).toNat) (t.oc - (1 : Int).toNat)]) rfl
      refine WL.e0 (Ef.st rfl rfl rfl (.there hputx)) ?_
      rintro _ _ ⟨rfl, rfl⟩
      repeat' (first | refine S2b ?_ | refine SD ?_ | refine SA (fun _ => ?_) | refine G1 (fun hc => ?_) (fun hc => ?_) | refine G2 (fun hc => ?_) (fun hc => ?_) | refine G3 (fun hc => ?_) (fun hc => ?_) | refine SL ?_ | fail)
      have hrow := ht.owed
      rw [hx, List.flatMap_cons, hoa] at hrow
      have htl := OwnS.tail (x := x.cells) (sz := 8) rfl (by decide) hrow
      rw [hoa'] at htl
      have hS : ({ t with f := f2, owed := r, oa := oa', on_ := t.on_ - (1 : Int).toNat, oc := t.oc - (1 : Int).toNat } : SdM).S = { t.S with f := Flt.abandon (Flt.add t.S.f x.O.d 0 (Snd.clock now) x.O.id) x.O.id, owed := r.map OwM.O } := by
        unfold SdM.S
        dsimp only
        rw [hS2, hS1]
        rfl
      refine Fin.round ⟨{ t with f := f2, owed := r, oa := oa', on_ := t.on_ - (1 : Int).toNat, oc := t.oc - (1 : Int).toNat }⟩ ⟨⟨ht.o, hf2, ht.ways, ht.lives, htl, fun m hm => ht.own m (by rw [hx]; exact List.mem_cons_of_mem _ hm), ?_⟩, rfl, ?_⟩ envA (fun _ h => ?_) (by simp)
      · have h1 := Snd.layN_ok (now := now) 1 ht.pl
        rw [Snd.layN, hown1] at h1
        dsimp only at h1
        rw [if_pos (by show Flt.addE t.f.S x.d 0 = 0; rw [hE]; exact he0)] at h1
        rw [hS]
        exact h1
      · rw [hlay, hS]
      · dsimp only
        unfold SdM.H SdM.T SdM.X SdM.hd
        unfold SdM.T SdM.X at h
        dsimp only at h
        rw [hx, List.flatMap_cons] at h
        exact In.of_sub (.pick (.there .here) (.pickL (L := t.o.H) (.there .here) (.pickL (L := f2.H) (.there .here) (.pickL (L := t.wb) (.there .here) (.pickL (L := t.ws.flatMap WaM.H) (.there .here) (.pickL (L := t.lb) (.there .here) (.pickL (L := t.ob) (.there .here) (.last (.there (.right .all)))))))))) h
/-! ### what an acknowledgement says of a path -/
theorem SdM.wayPut3 {s : SdM} {k b0 : Nat} {m m1 m' : WaM} (hk : s.ws[k]? = some m) {off : Nat} {vs : List Value} (h0 : m1.b = b0) (hb : m'.b = m1.b) (hp : m'.pm = m1.pm) (hs : spliceK m1.cells off vs some = some m'.cells) : PutAt b0 off vs (s.setW k m1).H (s.setW k m').H := by
  subst h0
  have := SdM.wayPut (SdM.setW_get hk m1) (m' := m') hb hp hs
  rw [SdM.setW_setW] at this
  exact this
set_option maxHeartbeats 4000000 in
theorem heard_tr (F : Nat → Option Obj) {n : Nat} (s : SdM) (hs : s.ok n) (k : Nat) (m : WaM) (hm : s.ws[k]? = some m) (x : Flt.PT) (hx : Snd.atR x.at_) (full : Bool) (now : Int) (hn : Snd.atR now) :
    Tr Tryz.prog 44 [ptr s.R, .int .i64 k, .agg (PTcells x).toArray, .bool full, .int .i64 now].toArray F s.H (fun v H => v = .tuple #[] ∧ ∃ m' : WaM, m'.b = m.b ∧ m'.W = Snd.hear x full now s.S.f.c s.S.f.L.length m.W ∧ H = (s.setW k m').H) := by
  refine Tr.enter Tryz.func44 rfl Tryz.ntmps44 rfl (fun w0 => ?_)
  obtain ⟨c0, c1, c2, c3, c4, c5, c6, c7, c8, c9, c10, c11⟩ := s.cans (F := F)
  obtain ⟨b, off, hwa, hel⟩ := hs.wrow
  have hk := (List.getElem?_eq_some_iff.1 hm).1
  have hwn := hs.wn
  have hkn : 0 ≤ (k : Int) ∧ (k : Int) < s.wn := by omega
  have hcan := hel F k m hm
  have hw := hs.way hm
  obtain ⟨hx1, hx2⟩ := hx
  obtain ⟨hn1, hn2⟩ := hn
  rw [hwa] at c2
  unfold PTcells
  repeat' (first | refine S2b ?_ | refine SA (fun _ => ?_) | refine G1 (fun hc => ?_) (fun hc => ?_) | refine G2 (fun hc => ?_) (fun hc => ?_) | refine SL ?_ | fail)
  rename_i b7
  clear c0 c1 c2 c3 c4 c5 c6 c7 c8 c9 c10 c11 hcan
  refine W.cut (G := WaM) (fun _ => [(0, ptr s.R), (4, .int .i64 now), (7, ptr b7), (10, ptr m.b)]) (fun m' => (b7, .cells (PTcells x).toArray 108 (0, 0)) :: (s.setW k m').H) (fun m' => m'.b = m.b ∧ m'.W = Snd.hear1 x full now m.W) (fun K' hK _ => ?_) ?_
  · have hself : s.setW k m = s := by
      unfold SdM.setW
      have : s.ws.set k m = s.ws := by
        obtain ⟨hlt, he⟩ := List.getElem?_eq_some_iff.1 hm
        rw [← he]
        exact List.set_getElem_self hlt
      rw [this]
    refine W.cond rfl (fun hc => ?_) (fun hc => ?_)
    rotate_left
    · have h0 := of_decide_eq_false hc
      repeat' (first | refine S2b ?_ | refine SA (fun _ => ?_) | refine G1 (fun hc => ?_) (fun hc => ?_) | refine G2 (fun hc => ?_) (fun hc => ?_) | refine G3 (fun hc => ?_) (fun hc => ?_) | refine SL ?_ | fail)
      exact Fin.cut hK m ⟨rfl, by unfold Snd.hear1; rw [if_neg h0]⟩ envA (fun _ h => by rw [hself]; exact h)
    have h0 := of_decide_eq_true hc
    obtain ⟨d0, d1, d2, d3⟩ := SdM.wayCans (F := F) hm
    repeat' (first | refine S2b ?_ | refine SA (fun _ => ?_) | refine G1 (fun hc => ?_) (fun hc => ?_) | refine G2 (fun hc => ?_) (fun hc => ?_) | refine G3 (fun hc => ?_) (fun hc => ?_) | refine SL ?_ | fail)
    refine WL.e rfl (Ef.call (c := m.pm.H) (by exact rfl) (.skip _ (SdM.paP hm).sub) (answered_tr _ m.pm)) ?_
    rintro _ _ ⟨_, ⟨rfl, rfl⟩, rfl⟩
    refine WL.weak (fun _ h => In.front1 (SdM.paE (p := m.pm.with (answered m.pm.s)) hm rfl) h) ?_
    obtain ⟨m1, hm1⟩ : ∃ m1, ({ m with pm := m.pm.with (answered m.pm.s) } : WaM) = m1 := ⟨_, rfl⟩
    have hb1 : m1.b = m.b := by rw [← hm1]
    have hW1 : m1.W = { m.W with p := answered m.W.p } := by rw [← hm1]; rfl
    have hok1 : Pth.Ok m1.pm.s := by rw [← hm1]; exact answered_ok hw.p
    rw [hm1]
    clear d0 d1 d2 d3
    obtain ⟨d0, d1, d2, d3⟩ := SdM.wayCans (F := F) (SdM.setW_get hm m1)
    rw [hb1] at d0 d1 d2 d3
    repeat' (first | refine S2b ?_ | refine SA (fun _ => ?_) | refine G1 (fun hc => ?_) (fun hc => ?_) | refine G2 (fun hc => ?_) (fun hc => ?_) | refine SL ?_ | fail)
    refine W.cut (G := WaM) (fun _ => [(0, ptr s.R), (3, .bool full), (4, .int .i64 now), (7, ptr b7), (10, ptr m.b)]) (fun m' => (b7, .cells (PTcells x).toArray 108 (0, 0)) :: (s.setW k m').H) (fun m' => m'.b = m.b ∧ m'.W = { m.W with p := if x.some_ then sampled (answered m.W.p) (mx 0 (now - x.at_)) else answered m.W.p } ∧ Pth.Ok m'.pm.s) (fun K'' hK2 _ => ?_) ?_
    · refine W.cond rfl (fun hc => ?_) (fun hc => ?_)
      · have hso : x.some_ = true := hc
        refine W.drawA ?_
        repeat' (first | refine S2b ?_ | refine SA (fun _ => ?_) | refine G1 (fun hc => ?_) (fun hc => ?_) | refine G2 (fun hc => ?_) (fun hc => ?_) | refine G3 (fun hc => ?_) (fun hc => ?_) | refine SL ?_ | fail)
        rw [i64_id (n := now - x.at_) (by omega) (by omega)]
        simp only [Go.Pth.go_mx]
        refine WD.e rfl (Ef.call (c := m1.pm.H) (by exact rfl) (.skip _ (SdM.paP (SdM.setW_get hm m1)).sub) (sample_tr _ m1.pm hok1 (max 0 (now - x.at_)) (by omega))) ?_
        rintro _ _ ⟨_, ⟨rfl, rfl⟩, rfl⟩
        refine ⟨.inl (by kernel_rfl), ?_⟩
        refine WD.weak (fun _ h => In.front1 (SdM.paE (p := m1.pm.with (sampled m1.pm.s (max 0 (now - x.at_)))) (SdM.setW_get hm m1) rfl) h) ?_
        rw [SdM.setW_setW]
        repeat' (first | refine S2b ?_ | refine SA (fun _ => ?_) | refine G1 (fun hc => ?_) (fun hc => ?_) | refine G2 (fun hc => ?_) (fun hc => ?_) | refine G3 (fun hc => ?_) (fun hc => ?_) | refine SL ?_ | fail)
        refine Fin.cut hK2 { m1 with pm := m1.pm.with (sampled m1.pm.s (max 0 (now - x.at_))) } ⟨hb1, ?_, sampled_ok hok1 (by omega)⟩ envA (fun _ h => h)
        rw [hso, if_pos rfl]
        have e : WaM.W { m1 with pm := m1.pm.with (sampled m1.pm.s (max 0 (now - x.at_))) } = { m1.W with p := sampled m1.W.p (mx 0 (now - x.at_)) } := rfl
        rw [e, hW1]
      · have hso : x.some_ = false := hc
        repeat' (first | refine S2b ?_ | refine SA (fun _ => ?_) | refine G1 (fun hc => ?_) (fun hc => ?_) | refine G2 (fun hc => ?_) (fun hc => ?_) | refine G3 (fun hc => ?_) (fun hc => ?_) | refine SL ?_ | fail)
        refine Fin.cut hK2 m1 ⟨hb1, ?_, hok1⟩ envA (fun _ h => h)
        rw [hW1, hso]
        rfl
    rintro m2 ⟨hb2, hW2, hok2⟩
    have hh1 : Snd.hear1 x full now m.W = if x.pseudo then { m2.W with p := acked m2.W.p x.acked full, timer := now + (acked m2.W.p x.acked full).r.value } else m2.W := by
      unfold Snd.hear1
      rw [if_pos h0, hW2]
    clear d0 d1 d2 d3
    obtain ⟨d0, d1, d2, d3⟩ := SdM.wayCans (F := F) (SdM.setW_get hm m2)
    rw [hb2] at d0 d1 d2 d3
    refine Fin.next ?_
    repeat' (first | refine S2b ?_ | refine SA (fun _ => ?_) | refine G1 (fun hc => ?_) (fun hc => ?_) | refine G2 (fun hc => ?_) (fun hc => ?_) | refine G3 (fun hc => ?_) (fun hc => ?_) | refine SL ?_ | fail)
    · have hps : x.pseudo = true := hc
      refine W.drawA ?_
      repeat' (first | refine S2b ?_ | refine SA (fun _ => ?_) | refine G1 (fun hc => ?_) (fun hc => ?_) | refine G2 (fun hc => ?_) (fun hc => ?_) | refine G3 (fun hc => ?_) (fun hc => ?_) | refine SL ?_ | fail)
      refine WD.e rfl (Ef.call (c := m2.pm.H) (by exact rfl) (.skip _ (SdM.paP (SdM.setW_get hm m2)).sub) (acked_tr _ m2.pm hok2 x.acked full)) ?_
      rintro _ _ ⟨_, ⟨rfl, rfl⟩, rfl⟩
      refine ⟨.inl (by kernel_rfl), ?_⟩
      refine WD.weak (fun _ h => In.front1 (SdM.paE (p := m2.pm.with (acked m2.pm.s x.acked full)) (SdM.setW_get hm m2) rfl) h) ?_
      rw [SdM.setW_setW]
      obtain ⟨m3, hm3⟩ : ∃ m3, ({ m2 with pm := m2.pm.with (acked m2.pm.s x.acked full) } : WaM) = m3 := ⟨_, rfl⟩
      have hb3 : m3.b = m.b := by rw [← hm3]; exact hb2
      have hW3 : m3.W = { m2.W with p := acked m2.W.p x.acked full } := by rw [← hm3]; rfl
      have hp3 : m3.pm.s = acked m2.W.p x.acked full := by rw [← hm3]; rfl
      have hok3 : Pth.Ok m3.pm.s := by rw [hp3]; exact acked_ok hok2 _ _
      have hv3 : 1 ≤ m3.pm.s.r.value ∧ m3.pm.s.r.value ≤ 1048576 := by have := hok3.r.least; have := hok3.r.lv; have := hok3.r.vm; have := hok3.r.most; omega
      rw [hm3]
      clear d0 d1 d2 d3
      obtain ⟨d0, d1, d2, d3⟩ := SdM.wayCans (F := F) (SdM.setW_get hm m3)
      rw [hb3] at d0 d1 d2 d3
      repeat' (first | refine S2b ?_ | refine SA (fun _ => ?_) | refine G1 (fun hc => ?_) (fun hc => ?_) | refine G2 (fun hc => ?_) (fun hc => ?_) | refine G3 (fun hc => ?_) (fun hc => ?_) | refine SL ?_ | fail)
      refine WL.e rfl (Ef.callR (c := m3.pm.H) (by exact rfl) (.skip _ (SdM.paP (SdM.setW_get hm m3)).sub) (rto_tr _ m3.pm)) ?_
      rintro _ _ ⟨rfl, rfl⟩
      repeat' (first | refine S2b ?_ | refine SA (fun _ => ?_) | refine G1 (fun hc => ?_) (fun hc => ?_) | refine G2 (fun hc => ?_) (fun hc => ?_) | refine G3 (fun hc => ?_) (fun hc => ?_) | refine SL ?_ | fail)
      rw [i64_id (n := now + m3.pm.s.r.value) (by omega) (by omega)]
      have hput := SdM.wayPut3 hm hb3 (m' := { m3 with timer := now + m3.pm.s.r.value }) rfl rfl (off := 0 + 1) (vs := [.int .i64 (now + m3.pm.s.r.value)]) rfl
      refine WL.e0 (Ef.st rfl rfl rfl (.there hput)) ?_
      rintro _ _ ⟨rfl, rfl⟩
      repeat' (first | refine S2b ?_ | refine SA (fun _ => ?_) | refine G1 (fun hc => ?_) (fun hc => ?_) | refine G2 (fun hc => ?_) (fun hc => ?_) | refine G3 (fun hc => ?_) (fun hc => ?_) | refine SL ?_ | fail)
      refine Fin.cut hK { m3 with timer := now + m3.pm.s.r.value } ⟨hb3, ?_⟩ envA (fun _ h => h)
      rw [hh1, hps, if_pos rfl]
      have e : WaM.W { m3 with timer := now + m3.pm.s.r.value } = { m3.W with timer := now + m3.pm.s.r.value } := rfl
      rw [e, hW3, hp3]
    · have hps : x.pseudo = false := hc
      exact Fin.cut hK m2 ⟨hb2, by rw [hh1, hps]; rfl⟩ envA (fun _ h => h)
  rintro m1 ⟨hb1, hW1⟩
  have hwk1 : m1.W.Ok := by rw [hW1]; exact Snd.hear1_ok hw ⟨hx1, hx2⟩ full ⟨hn1, hn2⟩
  obtain ⟨d0, d1, d2, d3⟩ := SdM.wayCans (F := F) (SdM.setW_get hm m1)
  rw [hb1] at d0 d1 d2 d3
  refine Fin.next ?_
  refine W.seq ?_
  refine W.cut (G := WaM) (fun _ => [(0, ptr s.R), (10, ptr m.b)]) (fun m' => (b7, .cells (PTcells x).toArray 108 (0, 0)) :: (s.setW k m').H) (fun m' => m'.b = m.b ∧ m'.W = Snd.hear2 x s.S.f.c s.S.f.L.length m1.W) (fun K' hK _ => ?_) ?_
  · unfold PTcells
    have hL : s.S.f.L.length = s.f.sn := by rw [← hs.f.len]; simp [SdM.S, FM.S]
    repeat' (first | refine S2b ?_ | refine SA (fun _ => ?_) | refine G1 (fun hc => ?_) (fun hc => ?_) | refine G2 (fun hc => ?_) (fun hc => ?_) | refine G3 (fun hc => ?_) (fun hc => ?_) | refine SL ?_ | fail)
    · have hst : m1.set = false := by simpa using hc
      have hfa : x.fast = true := by assumption
      refine WL.e rfl (Ef.call (c := m1.pm.H) (by exact rfl) (.skip _ (SdM.paP (SdM.setW_get hm m1)).sub) (fast_tr _ m1.pm hwk1.p)) ?_
      rintro _ _ ⟨_, ⟨rfl, rfl⟩, rfl⟩
      refine WL.weak (fun _ h => In.front1 (SdM.paE (p := m1.pm.with (fast m1.pm.s)) (SdM.setW_get hm m1) rfl) h) ?_
      rw [SdM.setW_setW]
      obtain ⟨m2, hm2⟩ : ∃ m2, ({ m1 with pm := m1.pm.with (fast m1.pm.s) } : WaM) = m2 := ⟨_, rfl⟩
      have hb2 : m2.b = m.b := by rw [← hm2]; exact hb1
      have hW2 : m2.W = { m1.W with p := fast m1.W.p } := by rw [← hm2]; rfl
      rw [hm2]
      clear d0 d1 d2 d3
      repeat' (first | refine S2b ?_ | refine SA (fun _ => ?_) | refine G1 (fun hc => ?_) (fun hc => ?_) | refine G2 (fun hc => ?_) (fun hc => ?_) | refine G3 (fun hc => ?_) (fun hc => ?_) | refine SL ?_ | fail)
      refine W.draw [s.hd] (by kernel_rfl) (by kernel_rfl) (fun _ h => h.sublist (.cons _ (s.setW k m2).hdSub)) ?_
      have c1 : Sl.Can F [s.hd] s.R (0 + 1) [ptr s.f.R] := s.hdCan.one (i := 1) rfl
      repeat' (first | refine S2c ?_ | refine SA (fun _ => ?_) | refine G1 (fun hc => ?_) (fun hc => ?_) | refine G2 (fun hc => ?_) (fun hc => ?_) | refine G3 (fun hc => ?_) (fun hc => ?_) | refine SL ?_ | fail)
      refine WD.e rfl (Ef.callR (c := s.f.H) (by exact rfl) (.skip _ (s.setW k m2).flP.sub) (cum_tr _ s.f)) ?_
      rintro _ _ ⟨rfl, rfl⟩
      refine ⟨.inr (fun _ h => h.sublist (.cons _ (s.setW k m2).hdSub)), ?_⟩
      repeat' (first | refine S2c ?_ | refine SA (fun _ => ?_) | refine G1 (fun hc => ?_) (fun hc => ?_) | refine G2 (fun hc => ?_) (fun hc => ?_) | refine G3 (fun hc => ?_) (fun hc => ?_) | refine SL ?_ | fail)
      refine WD.e rfl (Ef.callR (c := s.f.H) (by exact rfl) (.skip _ (s.setW k m2).flP.sub) (count_tr _ s.f)) ?_
      rintro _ _ ⟨rfl, rfl⟩
      refine ⟨.inr (fun _ h => h.sublist (.cons _ (s.setW k m2).hdSub)), ?_⟩
      repeat' (first | refine S2c ?_ | refine SA (fun _ => ?_) | refine G1 (fun hc => ?_) (fun hc => ?_) | refine G2 (fun hc => ?_) (fun hc => ?_) | refine G3 (fun hc => ?_) (fun hc => ?_) | refine SL ?_ | fail)
      have hput := SdM.wayPut3 hm hb2 (m' := { m2 with set := true }) rfl rfl (off := 0 + 2) (vs := [.bool true]) rfl
      refine WD.e0 (Ef.st rfl rfl rfl (.there hput)) ?_
      rintro _ _ ⟨rfl, rfl⟩
      refine ⟨.inr (fun _ h => h.sublist (.cons _ (s.setW k { m2 with set := true }).hdSub)), ?_⟩
      repeat' (first | refine S2c ?_ | refine SA (fun _ => ?_) | refine G1 (fun hc => ?_) (fun hc => ?_) | refine G2 (fun hc => ?_) (fun hc => ?_) | refine G3 (fun hc => ?_) (fun hc => ?_) | refine SL ?_ | fail)
      obtain ⟨mk, hmk⟩ : ∃ mk, IntKind.u32.wrap (s.f.c + IntKind.u32.wrap (s.f.sn : Int)) = mk := ⟨_, rfl⟩
      rw [hmk]
      have hput := SdM.wayPut3 hm (m1 := { m2 with set := true }) hb2 (m' := { m2 with set := true, mark := mk }) rfl rfl (off := 0 + 3) (vs := [.int .u32 mk]) rfl
      refine WD.e0 (Ef.st rfl rfl rfl (.there hput)) ?_
      rintro _ _ ⟨rfl, rfl⟩
      refine ⟨.inl (by kernel_rfl), ?_⟩
      repeat' (first | refine S2c ?_ | refine SA (fun _ => ?_) | refine G1 (fun hc => ?_) (fun hc => ?_) | refine G2 (fun hc => ?_) (fun hc => ?_) | refine G3 (fun hc => ?_) (fun hc => ?_) | refine SL ?_ | fail)
      refine Fin.cut hK { m2 with set := true, mark := mk } ⟨hb2, ?_⟩ envA (fun _ h => h)
      unfold Snd.hear2
      rw [if_pos (by rw [hfa, show m1.W.set = false from hst]; rfl), hL]
      have e : WaM.W { m2 with set := true, mark := mk } = { m2.W with set := true, mark := mk } := rfl
      rw [e, hW2, ← hmk]
      rfl
    · have hst : m1.set = true := by simpa using hc
      refine Fin.cut hK m1 ⟨hb1, ?_⟩ envA (fun _ h => h)
      unfold Snd.hear2
      rw [if_neg (by rw [show m1.W.set = true from hst]; simp)]
    · have hfa : x.fast = false := hc
      refine Fin.cut hK m1 ⟨hb1, ?_⟩ envA (fun _ h => h)
      unfold Snd.hear2
      rw [if_neg (by rw [hfa]; simp)]
  rintro m2 ⟨hb2, hW2⟩
  clear d0 d1 d2 d3
  obtain ⟨d0, d1, d2, d3⟩ := SdM.wayCans (F := F) (SdM.setW_get hm m2)
  rw [hb2] at d0 d1 d2 d3
  have c1 : Sl.Can F (s.setW k m2).H s.R (0 + 1) [ptr s.f.R] := (s.setW k m2).cans.2.1
  have hh : Snd.hear x full now s.S.f.c s.S.f.L.length m.W = Snd.hear3 s.f.c m2.W := by unfold Snd.hear; rw [hW2, hW1]; rfl
  refine Fin.next ?_
  repeat' (first | refine S2b ?_ | refine SD ?_ | refine SA (fun _ => ?_) | refine G1 (fun hc => ?_) (fun hc => ?_) | refine G2 (fun hc => ?_) (fun hc => ?_) | refine G3 (fun hc => ?_) (fun hc => ?_) | refine SL ?_ | fail)
  · have hst : m2.set = true := hc
    refine WD.e rfl (Ef.callR (c := s.f.H) (by exact rfl) (.skip _ (s.setW k m2).flP.sub) (cum_tr _ s.f)) ?_
    rintro _ _ ⟨rfl, rfl⟩
    refine ⟨.inr (fun _ h => h), ?_⟩
    repeat' (first | refine S2b ?_ | refine SD ?_ | refine SA (fun _ => ?_) | refine G1 (fun hc => ?_) (fun hc => ?_) | refine G2 (fun hc => ?_) (fun hc => ?_) | refine G3 (fun hc => ?_) (fun hc => ?_) | refine SL ?_ | fail)
    refine WD.e rfl (Ef.callR (by exact rfl) (.nil _) (sless_tr _ s.f.c m2.mark)) ?_
    rintro _ _ ⟨rfl, rfl⟩
    refine ⟨.inl (by kernel_rfl), ?_⟩
    repeat' (first | refine S2b ?_ | refine SA (fun _ => ?_) | refine G1 (fun hc => ?_) (fun hc => ?_) | refine G2 (fun hc => ?_) (fun hc => ?_) | refine G3 (fun hc => ?_) (fun hc => ?_) | refine SL ?_ | fail)
    · have hput := SdM.wayPut3 hm hb2 (m' := { m2 with set := false }) rfl rfl (off := 0 + 2) (vs := [.bool false]) rfl
      refine WL.e0 (Ef.st rfl rfl rfl (.there hput)) ?_
      rintro _ _ ⟨rfl, rfl⟩
      repeat' (first | refine S2b ?_ | refine SA (fun _ => ?_) | refine G1 (fun hc => ?_) (fun hc => ?_) | refine G2 (fun hc => ?_) (fun hc => ?_) | refine G3 (fun hc => ?_) (fun hc => ?_) | refine SL ?_ | fail)
      refine Fin.endW (by exact rfl) resA (fun _ h => h.sublist (.cons _ (.refl _))) ⟨rfl, { m2 with set := false }, hb2, ?_, rfl⟩
      rw [hh]
      unfold Snd.hear3
      rw [if_pos (by rw [show m2.W.set = true from hst, Bool.true_and]; exact hc)]
      rfl
    · refine Fin.endW (by exact rfl) resA (fun _ h => h.sublist (.cons _ (.refl _))) ⟨rfl, m2, hb2, ?_, rfl⟩
      rw [hh]
      unfold Snd.hear3
      rw [if_neg (by rw [show m2.W.set = true from hst, Bool.true_and, show (!Rm.less32 s.f.c m2.W.mark) = false from hc]; simp)]
  · have hst : m2.set = false := hc
    refine Fin.endW (by exact rfl) resA (fun _ h => h.sublist (.cons _ (.refl _))) ⟨rfl, m2, hb2, ?_, rfl⟩
    rw [hh]
    unfold Snd.hear3
    rw [if_neg (by rw [show m2.W.set = false from hst]; simp)]
end Go.Proofs.YtjfpckadjnjmoaaGreat
