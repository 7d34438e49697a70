/- A sender's paths: what they are like, heartbeats, timeouts, walked. Conditions: it is well formed. -/
import Derived.Test.YtjfpckadjnjmoaaGreatSnF
namespace Go.Proofs.YtjfpckadjnjmoaaGreat
open Go Go.Sl Go.Pth

def pathV (p : Int × Int × Int × Bool) : Value := tup [.int .i64 p.1, .int .i64 p.2.1, .int .i64 p.2.2.1, .bool p.2.2.2]
/-! ### heartbeats -/
structure GBt where
  i : Nat
  s : SdM
  ka : Option Addr
  kn : Nat
  kc : Nat
  kb : HL
def intC (k : Nat) : Value := .int .i64 k
theorem filter_snoc (p : Nat → Bool) (i : Nat) : (List.range (i + 1)).filter p = (List.range i).filter p ++ if p i then [i] else [] := by
  rw [List.range_succ, List.filter_append]
  congr 1
  rw [List.filter_cons, List.filter_nil]
theorem pmap_map (g : Snd.Way → Snd.Way) (l : List Snd.Way) : Snd.pmap (fun _ => g) l l.length = l.map g := by
  rw [Snd.pmap_all]
  exact List.mapIdx_eq_iff.2 (fun i => by simp)
/-! ### timeouts -/
structure GLt where
  i : Nat
  s : SdM
  la : Int
  go : Int
theorem late_snoc (now : Int) (i : Nat) (g : Snd.Late) : (List.range (i + 1)).foldl (Snd.late1 now) g = Snd.late1 now ((List.range i).foldl (Snd.late1 now) g) i := by
  rw [List.range_succ, List.foldl_append]
  rfl
set_option maxHeartbeats 4000000 in
theorem slate_tr (F : Nat → Option Obj) {n : Nat} (s : SdM) (hs : s.ok n) (now : Int) : Tr Tryz.prog 11 [ptr s.R, .int .i64 now].toArray F s.H (fun v H => v = tup [.int .i64 (Snd.timeout s.S now).late, .int .i64 (Snd.timeout s.S now).gone] ∧ ∃ s' : SdM, s'.ok n ∧ s'.R = s.R ∧ s'.S = (Snd.timeout s.S now).s ∧ H = s'.H) := by
  refine Tr.enter Tryz.func11 rfl Tryz.ntmps11 rfl (fun w0 => ?_)
  obtain ⟨c0, c1, c2, c3, c4, c5, c6, c7, c8, c9, c10, c11⟩ := s.cans (F := F)
  obtain ⟨b, off, hwa, hel⟩ := hs.wrow
  have hwn := hs.wn
  have hnws := hs.nws
  have hSl : s.S.ws.length = s.ws.length := by simp [SdM.S]
  have hcl := Snd.clock_rng now
  rw [hwa] at c2
  repeat' (first | refine S2b ?_ | refine SD ?_ | refine SA (fun _ => ?_) | refine G1 (fun hc => ?_) (fun hc => ?_) | refine G2 (fun hc => ?_) (fun hc => ?_) | refine G3 (fun hc => ?_) (fun hc => ?_) | refine SL ?_ | fail)
  clear c0 c1 c2 c3 c4 c5 c6 c7 c8 c9 c10 c11 hel
  refine W.loop (G := GLt) (fun g => [(0, ptr s.R), (1, .int .i64 now), (4, .int .i64 g.la), (5, .int .i64 g.go), (13, .slice (some ⟨b, off, none⟩) s.wn s.wc), (14, .int .i64 s.wn), (15, .int .i64 g.i)]) (fun g => g.s.H)
    (fun g => g.i ≤ s.wn ∧ g.s.ok n ∧ g.s.R = s.R ∧ (g.s.wa = s.wa ∧ g.s.wn = s.wn) ∧ (⟨g.s.S, g.la, g.go⟩ : Snd.Late) = (List.range g.i).foldl (Snd.late1 (Snd.clock now)) ⟨s.S, 0, 0⟩ ∧ g.s.ws.length = s.ws.length ∧ 0 ≤ g.go ∧ g.go ≤ g.la ∧ g.la ≤ g.i) (fun g => s.wn - g.i) ⟨0, s, 0, 0⟩ ⟨Nat.zero_le _, hs, rfl, ⟨rfl, rfl⟩, rfl, rfl, Int.le_refl _, Int.le_refl _, Int.le_refl _⟩ envA (fun _ h => h) ?_
  rintro ⟨i, t, la, go⟩ ⟨hi, ht, hR, ⟨hta, htn⟩, htS, hlen, hg0, hg1, hg2⟩
  dsimp only at hi ht hR hta htn htS hlen hg0 hg1 hg2 ⊢
  obtain ⟨c0, c1, c2, c3, c4, c5, c6, c7, c8, c9, c10, c11⟩ := t.cans (F := F)
  rw [hR] at c0 c1 c2 c3 c4 c5 c6 c7 c8 c9 c10 c11
  repeat' (first | refine S2b ?_ | refine SA (fun _ => ?_) | refine G1 (fun hc => ?_) (fun hc => ?_) | refine G2 (fun hc => ?_) (fun hc => ?_) | refine SL ?_ | fail)
  cases hc : decide ((i : Int) < s.wn) with
  | false =>
    have hi' : i = s.S.ws.length := by have := of_decide_eq_false hc; omega
    subst hi'
    repeat' (first | refine S2b ?_ | refine SA (fun _ => ?_) | refine G1 (fun hc => ?_) (fun hc => ?_) | refine G2 (fun hc => ?_) (fun hc => ?_) | refine G3 (fun hc => ?_) (fun hc => ?_) | refine SL ?_ | fail)
    have e := htS
    unfold Snd.timeout
    rw [← e]
    exact Fin.retW (by exact rfl) resA (fun _ h => h) ⟨rfl, t, ht, hR, rfl, rfl⟩
  | true =>
  have hi' : i < s.wn := by have := of_decide_eq_true hc; omega
  obtain ⟨b', off', hta', hel⟩ := ht.wrow
  rw [hta, hwa] at hta'
  cases hta'
  obtain ⟨m, hm, hmS, hkn2⟩ := SdM.wayAt ht (k := i) (by omega)
  rw [htn] at hkn2
  have hcan := hel F i m hm
  obtain ⟨d0, d1, d2, d3⟩ := SdM.wayCans (F := F) hm
  have hmt : m.W.timer = m.timer := rfl
  have hsnoc := late_snoc (Snd.clock now) i ⟨s.S, 0, 0⟩
  rw [← htS] at hsnoc
  have hok1 := Snd.late1_ok (now := Snd.clock now) (g := ⟨t.S, la, go⟩) ht.pl i
  have hquiet : Snd.ran m.W (Snd.clock now) = false → (⟨t.S, la, go⟩ : Snd.Late) = (List.range (i + 1)).foldl (Snd.late1 (Snd.clock now)) ⟨s.S, 0, 0⟩ := fun h => by
    rw [hsnoc]
    unfold Snd.late1
    dsimp only
    rw [hmS]
    dsimp only
    rw [if_neg (by rw [h]; decide)]
  clear hel
  repeat' (first | refine S2b ?_ | refine SA (fun _ => ?_) | refine G1 (fun hc => ?_) (fun hc => ?_) | refine G2 (fun hc => ?_) (fun hc => ?_) | refine G3 (fun hc => ?_) (fun hc => ?_) | refine SL ?_ | fail)
  refine W.drawA ?_
  repeat' (first | refine S2b ?_ | refine SA (fun _ => ?_) | refine G1 (fun hc => ?_) (fun hc => ?_) | refine G2 (fun hc => ?_) (fun hc => ?_) | refine G3 (fun hc => ?_) (fun hc => ?_) | refine SL ?_ | fail)
  · have hq : Snd.ran m.W (Snd.clock now) = false := by
      have : m.timer = -1 := by simpa using hc
      unfold Snd.ran
      rw [hmt, this]
      rfl
    rw [i64_succ (by omega)]
    exact Fin.round ⟨i + 1, t, la, go⟩ ⟨hi', ht, hR, ⟨hta, htn⟩, hquiet hq, hlen, hg0, hg1, by dsimp only; omega⟩ envA (fun _ h => h) (by dsimp only; omega)
  have htm : ¬ m.timer = -1 := by simpa using hc
  refine WD.e rfl (Ef.callR (by exact rfl) (.nil _) (clock_tr _ now)) ?_
  rintro _ _ ⟨rfl, rfl⟩
  refine ⟨.inr (fun _ h => h), ?_⟩
  repeat' (first | refine S2b ?_ | refine SA (fun _ => ?_) | refine G1 (fun hc => ?_) (fun hc => ?_) | refine G2 (fun hc => ?_) (fun hc => ?_) | refine G3 (fun hc => ?_) (fun hc => ?_) | refine SL ?_ | fail)
  · have hq : Snd.ran m.W (Snd.clock now) = false := by
      unfold Snd.ran
      rw [hmt, hc]
      simp
    rw [i64_succ (by omega)]
    exact Fin.round ⟨i + 1, t, la, go⟩ ⟨hi', ht, hR, ⟨hta, htn⟩, hquiet hq, hlen, hg0, hg1, by dsimp only; omega⟩ envA (fun _ h => h) (by dsimp only; omega)
  have hq : Snd.ran m.W (Snd.clock now) = true := by
    unfold Snd.ran
    rw [hmt, hc, decide_eq_false htm]
    rfl
  refine WL.e0 (Ef.st rfl rfl rfl (SdM.wayPut (m' := { m with timer := -1 }) hm rfl rfl (off := 0 + 1) rfl)) ?_
  rintro _ _ ⟨rfl, rfl⟩
  repeat' (first | refine S2b ?_ | refine SA (fun _ => ?_) | refine G1 (fun hc => ?_) (fun hc => ?_) | refine G2 (fun hc => ?_) (fun hc => ?_) | refine G3 (fun hc => ?_) (fun hc => ?_) | refine SL ?_ | fail)
  refine WL.e0 (Ef.st rfl rfl rfl (SdM.wayPut (m' := { m with timer := -1, set := false }) (SdM.setW_get hm { m with timer := -1 }) rfl rfl (off := 0 + 2) rfl)) ?_
  rintro _ _ ⟨rfl, rfl⟩
  rw [SdM.setW_setW]
  obtain ⟨m1, hm1⟩ : ∃ m1 : WaM, m1 = { m with timer := -1, set := false } := ⟨_, rfl⟩
  rw [← hm1]
  have hb1 : m1.b = m.b := by rw [hm1]
  have hp1 : m1.pm = m.pm := by rw [hm1]
  have hwo := ht.way hm
  have hok2 : (t.setW i m1).ok n := ht.setW hm hb1 (by rw [hm1]; exact ⟨hwo.p, by show -1 ≤ (-1 : Int) ∧ (-1 : Int) ≤ _; omega, hwo.mark⟩)
  clear c0 c1 c2 c3 c4 c5 c6 c7 c8 c9 c10 c11 d0 d1 d2 d3 hcan
  have c1 : Sl.Can F (t.setW i m1).H s.R (0 + 1) [ptr t.f.R] := by rw [← hR]; exact ((t.setW i m1).cans (F := F)).2.1
  repeat' (first | refine S2b ?_ | refine SA (fun _ => ?_) | refine G1 (fun hc => ?_) (fun hc => ?_) | refine G2 (fun hc => ?_) (fun hc => ?_) | refine G3 (fun hc => ?_) (fun hc => ?_) | refine SL ?_ | fail)
  refine WL.e rfl (Ef.call (c := t.f.H) (by exact rfl) (t.setW i m1).flP.sub (mark_tr _ t.f ht.f i)) ?_
  rintro _ _ ⟨_, ⟨rfl, f', hf', rfl, hfR, hfS⟩, rfl⟩
  refine WL.weak (H' := ({ t.setW i m1 with f := f' } : SdM).H) (fun _ h => SdM.flB (s := t.setW i m1) hfR h) ?_
  have hpl2 := hok2.pl
  have hok3 : ({ t.setW i m1 with f := f' } : SdM).ok n := hok2.setF hf' ({ hpl2 with f := by rw [hfS]; exact hpl2.f.mark i, paths := by rw [hfS]; exact hpl2.paths } : Snd.Ok n { (t.setW i m1).S with f := f'.S })
  obtain ⟨u, hu⟩ : ∃ u : SdM, u = { t.setW i m1 with f := f' } := ⟨_, rfl⟩
  rw [← hu] at hok3 ⊢
  have hum : u.ws[i]? = some m1 := by rw [hu]; exact SdM.setW_get hm m1
  have huS : u.S = { t.S with ws := t.S.ws.set i m1.W, f := Flt.mark t.f.S i } := by
    rw [hu, ← hfS]
    show ({ (t.setW i m1).S with f := f'.S } : Snd.S) = _
    rw [SdM.setW_S]
  clear c1
  obtain ⟨d0, _, _, _⟩ := SdM.wayCans (F := F) hum
  rw [hb1, hp1] at d0
  repeat' (first | refine S2b ?_ | refine SA (fun _ => ?_) | refine G1 (fun hc => ?_) (fun hc => ?_) | refine G2 (fun hc => ?_) (fun hc => ?_) | refine G3 (fun hc => ?_) (fun hc => ?_) | refine SL ?_ | fail)
  refine WL.e rfl (Ef.call (c := m.pm.H) (by exact rfl) (by have := (SdM.paP hum).sub; rw [hp1] at this; exact this) (late_tr _ m.pm hwo.p)) ?_
  rintro _ _ ⟨_, ⟨rfl, rfl⟩, rfl⟩
  clear d0
  refine WL.weak (H' := (u.setW i { m1 with pm := m.pm.with (Pth.late m.pm.s) }).H) (fun _ h => SdM.paB hum (by rw [hp1]; rfl) h) ?_
  have ew : WaM.W { m1 with pm := m.pm.with (Pth.late m.pm.s) } = Snd.lateW m.W := by rw [hm1]; rfl
  have hend : (⟨(u.setW i { m1 with pm := m.pm.with (Pth.late m.pm.s) }).S, la + 1, go + if Pth.lateA m.pm.s then 1 else 0⟩ : Snd.Late) = (List.range (i + 1)).foldl (Snd.late1 (Snd.clock now)) ⟨s.S, 0, 0⟩ := by
    rw [hsnoc]
    unfold Snd.late1
    dsimp only
    rw [hmS]
    dsimp only
    rw [if_pos hq, SdM.setW_S, ew, huS]
    dsimp only
    rw [List.set_set]
    rfl
  have hok4 : (u.setW i { m1 with pm := m.pm.with (Pth.late m.pm.s) }).ok n := hok3.setW hum rfl (by
    rw [ew]
    exact ⟨Pth.late_ok hwo.p, by dsimp only [Snd.lateW]; omega, hwo.mark⟩)
  have huR : u.R = s.R := by rw [hu]; exact hR
  have huw : u.wa = s.wa ∧ u.wn = s.wn := by rw [hu]; exact ⟨hta, htn⟩
  have hul : (u.setW i { m1 with pm := m.pm.with (Pth.late m.pm.s) }).ws.length = s.ws.length := by
    show (u.ws.set i _).length = _
    rw [List.length_set, hu]
    show (t.ws.set i m1).length = _
    rw [List.length_set]
    exact hlen
  rw [i64_id (n := la + 1) (by omega) (by omega)]
  repeat' (first | refine S2b ?_ | refine SA (fun _ => ?_) | refine G1 (fun hc => ?_) (fun hc => ?_) | refine G2 (fun hc => ?_) (fun hc => ?_) | refine G3 (fun hc => ?_) (fun hc => ?_) | refine SL ?_ | fail)
  · rw [i64_succ (by omega), i64_id (n := go + 1) (by omega) (by omega)]
    rw [hc, if_pos rfl] at hend
    exact Fin.round ⟨i + 1, _, la + 1, go + 1⟩ ⟨hi', hok4, huR, huw, hend, hul, by dsimp only; omega, by dsimp only; omega, by dsimp only; omega⟩ envA (fun _ h => h) (by dsimp only; omega)
  · rw [i64_succ (by omega)]
    rw [hc, if_neg (by decide), Int.add_zero] at hend
    exact Fin.round ⟨i + 1, _, la + 1, go⟩ ⟨hi', hok4, huR, huw, hend, hul, by dsimp only; omega, by dsimp only; omega, by dsimp only; omega⟩ envA (fun _ h => h) (by dsimp only; omega)
end Go.Proofs.YtjfpckadjnjmoaaGreat
