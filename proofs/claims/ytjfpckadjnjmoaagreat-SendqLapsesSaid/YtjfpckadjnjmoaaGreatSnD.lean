/- A sender in memory: begun, a message put, timers at rest, what is owed: walked. Conditions: it is well formed. -/
import Derived.Test.YtjfpckadjnjmoaaGreatSnC
import Derived.Test.YtjfpckadjnjmoaaGreatBe
namespace Go.Proofs.YtjfpckadjnjmoaaGreat
open Go Go.Sl Go.Pth

def Cfg.sndMay (c : Cfg) (now : Int) : Bool := decide (1 ≤ c.paths ∧ c.paths ≤ 4) && (Oq.may c.streams c.sroom && c.pathMay now)
def Cfg.sndNew (c : Cfg) (first rwnd now : Int) : Snd.S := Snd.newS c.paths c.streams c.sroom c.mtu (c.pathNew now) first rwnd
structure GN where
  i : Nat
  ws : List WaM
  wa : Option Addr
  wn : Nat
  wc : Nat
  wb : HL
set_option maxHeartbeats 4000000 in
theorem snew_tr (F : Nat → Option Obj) (c : Cfg) (first rwnd now : Int) (hr : 0 ≤ rwnd) : Tr Tryz.prog 5 [.agg c.cells.toArray, .int .u32 first, .int .u32 rwnd, .int .i64 now].toArray F [] (fun v H =>
    (c.sndMay now = false ∧ v = tup [.pointer none, .int .i64 1] ∧ H = []) ∨ (c.sndMay now = true ∧ ∃ s : SdM, s.ok 0 ∧ v = tup [ptr s.R, .int .i64 0] ∧ H = s.H ∧ s.S = c.sndNew first rwnd now)) := by
  refine Tr.enter Tryz.func5 rfl Tryz.ntmps5 rfl (fun w0 => ?_)
  unfold Cfg.cells
  repeat' (first | refine S2b ?_ | refine SD ?_ | refine SA (fun _ => ?_) | refine G1 (fun hc => ?_) (fun hc => ?_) | refine G2 (fun hc => ?_) (fun hc => ?_) | refine G3 (fun hc => ?_) (fun hc => ?_))
  rename_i b4
  refine WL.e rfl (Ef.call (by exact rfl) (.nil _) (new_tr _ c.paths first)) ?_
  rintro _ _ ⟨_, (⟨hno, rfl, rfl⟩ | ⟨h1, bf, rfl, rfl⟩), rfl⟩
  · dsimp only [tup]
    repeat' (first | refine S2b ?_ | refine SD ?_ | refine SA (fun _ => ?_) | refine G1 (fun hc => ?_) (fun hc => ?_) | refine G2 (fun hc => ?_) (fun hc => ?_) | refine G3 (fun hc => ?_) (fun hc => ?_))
    exact Fin.retW (by exact rfl) resA (H' := []) (fun _ h => h.sublist (List.nil_sublist _)) (.inl ⟨by unfold Cfg.sndMay; rw [decide_eq_false hno]; rfl, rfl, rfl⟩)
  dsimp only [tup]
  repeat' (first | refine S2b ?_ | refine SD ?_ | refine SA (fun _ => ?_) | refine G1 (fun hc => ?_) (fun hc => ?_) | refine G2 (fun hc => ?_) (fun hc => ?_) | refine G3 (fun hc => ?_) (fun hc => ?_))
  refine WL.e rfl (Ef.call (by exact rfl) (.nil _) (onew_tr _ c.streams c.sroom)) ?_
  rintro _ _ ⟨_, (⟨hno, rfl, rfl⟩ | ⟨h2, o, ho, rfl, rfl, hoS⟩), rfl⟩
  · dsimp only [tup]
    repeat' (first | refine S2b ?_ | refine SD ?_ | refine SA (fun _ => ?_) | refine G1 (fun hc => ?_) (fun hc => ?_) | refine G2 (fun hc => ?_) (fun hc => ?_) | refine G3 (fun hc => ?_) (fun hc => ?_))
    exact Fin.retW (by exact rfl) resA (H' := []) (fun _ h => h.sublist (List.nil_sublist _)) (.inl ⟨by unfold Cfg.sndMay; rw [hno, Bool.false_and, Bool.and_false], rfl, rfl⟩)
  dsimp only [tup]
  repeat' (first | refine S2b ?_ | refine SD ?_ | refine SA (fun _ => ?_) | refine G1 (fun hc => ?_) (fun hc => ?_) | refine G2 (fun hc => ?_) (fun hc => ?_) | refine G3 (fun hc => ?_) (fun hc => ?_))
  rename_i bs
  have hrm : (if 1048576 < rwnd then (1048576 : Int) else rwnd) = Snd.roomR rwnd := by rw [Go.Pth.go_mn]; rfl
  rw [hrm]
  have hrr : 0 ≤ Snd.roomR rwnd ∧ Snd.roomR rwnd ≤ 1048576 := by unfold Snd.roomR; rw [mn_eq]; omega
  rw [i64_id (n := Snd.roomR rwnd) (by omega) (by omega), i64_id (n := c.paths - 1) (by omega) (by omega)]
  refine W.loop (G := GN) (fun g => [(3, .int .i64 now), (4, ptr b4), (13, ptr bs), (57, .int .i64 c.paths), (58, .int .i64 g.i)])
    (fun g => (b4, .cells c.cells.toArray 31 (0, 0)) :: ((bs, .cells [ptr o.R, ptr bf, .slice g.wa g.wn g.wc, .int .i64 (Snd.roomR rwnd), .int .i64 (Snd.roomR rwnd), .int .i64 c.mtu, .slice none 0 0, .slice none 0 0, .bool false, .int .u32 0, .int .i64 0, .int .i64 (c.paths - 1)].toArray 76 (0, 0)) :: (o.H ++ ((FM.empty bf c.paths first).H ++ (g.wb ++ g.ws.flatMap WaM.H)))))
    (fun g => (g.i : Int) ≤ c.paths ∧ g.ws.length = g.i ∧ OwnS 80 1 (g.ws.map (fun m => ptr m.b)) (.slice g.wa g.wn g.wc) g.wb ∧ ∀ m ∈ g.ws, c.pathMay now = true ∧ m.W = Snd.way0 (c.pathNew now)) (fun g => c.paths.toNat - g.i) ⟨0, [], none, 0, 0, []⟩ ⟨by dsimp only; omega, rfl, .inl ⟨rfl, rfl, rfl⟩, fun m hm => by cases hm⟩ envA (fun _ h => ?_) ?_
  · unfold Cfg.cells
    exact In.of_sub (.pick (.there (.right (.right .here))) (.pick .here (.pickL (L := o.H) .here (.last (L := (FM.empty bf c.paths first).H) .here)))) h
  rintro ⟨i, ws, wa, wn, wc, wb⟩ ⟨hi, hwl, hown, hws⟩
  dsimp only at hi hwl hown hws ⊢
  unfold Cfg.cells
  repeat' (first | refine S2b ?_ | refine SD ?_ | refine SA (fun _ => ?_) | refine G1 (fun hc => ?_) (fun hc => ?_) | refine G2 (fun hc => ?_) (fun hc => ?_) | refine G3 (fun hc => ?_) (fun hc => ?_))
  · have hi' : (i : Int) < c.paths := of_decide_eq_true hc
    refine WL.e rfl (Ef.call (by exact rfl) (.nil _) (pnew_tr _ c now)) ?_
    rintro _ _ ⟨_, (⟨hno, rfl, rfl⟩ | ⟨h3, m, rfl, rfl, hmS⟩), rfl⟩
    · dsimp only [tup]
      repeat' (first | refine S2b ?_ | refine SD ?_ | refine SA (fun _ => ?_) | refine G1 (fun hc => ?_) (fun hc => ?_) | refine G2 (fun hc => ?_) (fun hc => ?_) | refine G3 (fun hc => ?_) (fun hc => ?_))
      exact Fin.retW (by exact rfl) resA (H' := []) (fun _ h => h.sublist (List.nil_sublist _)) (.inl ⟨by unfold Cfg.sndMay; rw [hno, Bool.and_false, Bool.and_false], rfl, rfl⟩)
    dsimp only [tup]
    repeat' (first | refine S2b ?_ | refine SD ?_ | refine SA (fun _ => ?_) | refine G1 (fun hc => ?_) (fun hc => ?_) | refine G2 (fun hc => ?_) (fun hc => ?_) | refine G3 (fun hc => ?_) (fun hc => ?_))
    rename_i bw bl
    refine WL.e rfl (Ef.app (m := 1) (news := [ptr bw]) (hb := wb) (by exact rfl) (by exact rfl) rfl rfl hown (.last (.there (.there (.right (.there (.there (.right (.right .here)))))))) (Src.own (n := 1) (.here rfl)) rfl (by simp [Value.oneCell']) (by simp; omega) (by simp [maxLen]; omega)) ?_
    rintro v' _ ⟨hb', hown', rfl⟩
    obtain ⟨ja, jn, jc, rfl, _, _⟩ := OwnS.shape hown'
    repeat' (first | refine S2b ?_ | refine SD ?_ | refine SA (fun _ => ?_) | refine G1 (fun hc => ?_) (fun hc => ?_) | refine G2 (fun hc => ?_) (fun hc => ?_) | refine G3 (fun hc => ?_) (fun hc => ?_))
    rw [i64_succ (by omega)]
    refine Fin.round ⟨i + 1, ws ++ [⟨bw, m, -1, false, 0⟩], ja, jn, jc, hb'⟩ ⟨by dsimp only; omega, by simp [hwl], by dsimp only; rw [List.map_append]; exact hown', fun q hq => ?_⟩ envA (fun _ h => ?_) (by dsimp only; omega)
    · rcases List.mem_append.1 hq with hq | hq
      · exact hws q hq
      · rw [List.mem_singleton.1 hq]
        refine ⟨h3, ?_⟩
        unfold WaM.W Snd.way0
        dsimp only
        rw [hmS]
    · dsimp only
      rw [List.flatMap_append, List.flatMap_cons, List.flatMap_nil, List.append_nil]
      exact In.of_sub (.pick (.right (.there (.there (.right .here)))) (.pick (.right (.there (.there (.right .here)))) (.pickL (L := o.H) (.right (.there (.there (.right .here)))) (.pickL (L := (FM.empty bf c.paths first).H) (.right (.there (.there (.right .here)))) (.pickL (L := hb') .here (.pickL (L := ws.flatMap WaM.H) (.there (.there (.right .all))) (.pick (.there .here) (.last (L := m.H) (.there .here))))))))) h
  · have hi' : (i : Int) = c.paths := by have := of_decide_eq_false hc; omega
    have h3 : c.pathMay now = true := by
      obtain ⟨m, hm⟩ : ∃ m, m ∈ ws := List.exists_mem_of_length_pos (by omega)
      exact (hws m hm).1
    have hwW : ws.map WaM.W = List.replicate c.paths.toNat (Snd.way0 (c.pathNew now)) := by
      rw [List.eq_replicate_iff]
      refine ⟨by simp; omega, fun w hw => ?_⟩
      obtain ⟨m, hm, rfl⟩ := List.mem_map.1 hw
      exact (hws m hm).2
    have hS : SdM.S ⟨bs, o, FM.empty bf c.paths first, ws, wa, wn, wc, wb, Snd.roomR rwnd, Snd.roomR rwnd, c.mtu, [], none, 0, 0, [], [], none, 0, 0, [], false, 0, 0, c.paths - 1⟩ = c.sndNew first rwnd now := by
      unfold SdM.S Cfg.sndNew Snd.newS
      dsimp only
      rw [hoS, hwW]
      rfl
    have h3' := h3
    unfold Cfg.pathMay may at h3'
    rw [Bool.and_eq_true, Bool.and_eq_true] at h3'
    have hmtu := of_decide_eq_true h3'.2.1
    refine Fin.retW (by exact rfl) resA (H' := SdM.H ⟨bs, o, FM.empty bf c.paths first, ws, wa, wn, wc, wb, Snd.roomR rwnd, Snd.roomR rwnd, c.mtu, [], none, 0, 0, [], [], none, 0, 0, [], false, 0, 0, c.paths - 1⟩) (fun _ h => ?_) (.inr ⟨by unfold Cfg.sndMay; rw [decide_eq_true h1, h2, h3]; rfl, _, ⟨ho, FM.empty_ok bf c.paths first, hown, .inl ⟨rfl, rfl, rfl⟩, .inl ⟨rfl, rfl, rfl⟩, fun m hm => by (cases hm), ?_⟩, rfl, rfl, hS⟩)
    · unfold SdM.H SdM.T SdM.X
      exact In.of_sub (.pick (.there .here) (.pickL (L := o.H) (.there .here) (.pickL (L := (FM.empty bf c.paths first).H) (.there .here) (.pickL (L := wb) (.there .here) (.pickL (L := ws.flatMap WaM.H) (.there .all) (.nil _)))))) h
    · rw [hS]
      exact Snd.newS_ok h1 h2 ⟨hmtu.1, hmtu.2.1⟩ (Pth.new_ok h3) hr
/-! ### Put -/
theorem sput_nil (F : Nat → Option Obj) (stream : Int) (ord : Bool) (ba : Option Addr) (bn bc : Nat) (lasts now : Int) : Tr Tryz.prog 7 [.pointer none, .agg [.int .u16 stream, .bool ord, .slice ba bn bc].toArray, .int .i64 lasts, .int .i64 now].toArray F [] (fun v H => v = .int .i64 2 ∧ H = []) := by
  refine Tr.enter Tryz.func7 rfl Tryz.ntmps7 rfl (fun w0 => ?_)
  repeat' (first | refine S2b ?_ | refine SD ?_ | refine SA (fun _ => ?_) | refine G1 (fun hc => ?_) (fun hc => ?_) | refine G2 (fun hc => ?_) (fun hc => ?_) | refine G3 (fun hc => ?_) (fun hc => ?_))
  exact Fin.retW (by exact rfl) resA (H' := []) (fun _ h => h.sublist (List.nil_sublist _)) ⟨rfl, rfl⟩
theorem untilOf_pos {lasts now : Int} (h : lasts > 0) : Snd.clock now + min lasts 2305843009213693952 = Snd.untilOf lasts now ∧ Snd.untilOf lasts now > 0 := by
  have := Snd.clock_rng now
  unfold Snd.untilOf
  rw [if_pos h, mn_eq]
  omega
theorem untilOf_zero {lasts now : Int} (h : ¬ lasts > 0) : Snd.untilOf lasts now = 0 := by
  unfold Snd.untilOf
  rw [if_neg h]
set_option maxHeartbeats 4000000 in
theorem sput_tr (F : Nat → Option Obj) {n : Nat} (s : SdM) (hs : s.ok n) (hn : n < 1000000) (stream : Int) (hst : 0 ≤ stream ∧ stream < 65536) (ord : Bool) (bs : List UInt8) (ba : Option Addr) (bn bc : Nat) (hsrc : Lst F [] 1 (bs.map B) ba bn bc) (lasts now : Int) :
    Tr Tryz.prog 7 [ptr s.R, .agg [.int .u16 stream, .bool ord, .slice ba bn bc].toArray, .int .i64 lasts, .int .i64 now].toArray F s.H (fun v H => v = .int .i64 (Snd.putE s.S stream bs.length lasts now) ∧ ∃ s' : SdM, s'.ok (n + 1) ∧ H = s'.H ∧ s'.R = s.R ∧ s'.S = Snd.put s.S stream ord bs lasts now) := by
  refine Tr.enter Tryz.func7 rfl Tryz.ntmps7 rfl (fun w0 => ?_)
  obtain ⟨c0, c1, c2, c3, c4, c5, c6, c7, c8, c9, c10, c11⟩ := s.cans (F := F)
  have hbn : bn = bs.length := by have := hsrc.len; simp at this; omega
  have hup := Snd.put_ok hs.pl hst.1 ord bs lasts now
  have hmany : 0 ≤ s.o.many ∧ s.o.many < 1000000000 := by have := hs.pl.many; dsimp only [SdM.S, OqM.S] at this; omega
  have hqf : s.o.is.length ≤ n := by have := hs.pl.qfew; simpa [SdM.S, OqM.S] using this
  have hfirst := hs.pl.first
  have hcl := Snd.clock_rng now
  repeat' (first | refine S2b ?_ | refine SD ?_ | refine SA (fun _ => ?_) | refine G1 (fun hc => ?_) (fun hc => ?_) | refine G2 (fun hc => ?_) (fun hc => ?_) | refine G3 (fun hc => ?_) (fun hc => ?_) | refine SL ?_ | fail)
  · have h1 := of_decide_eq_true hc
    exact Fin.retW (by exact rfl) resA (H' := s.H) (fun _ h => h.sublist findA) ⟨by unfold Snd.putE; rw [if_pos h1]; rfl, s, ⟨hs.o, hs.f, hs.ways, hs.lives, hs.owed, hs.own, hs.pl.up (Nat.le_succ n)⟩, rfl, rfl, by unfold Snd.put Snd.putE; rw [if_pos h1]; rfl⟩
  · have hl0 := of_decide_eq_false ‹decide (lasts < 0) = false›
    have h1 := of_decide_eq_true hc
    have h2 : s.S.first < (bs.length : Int) := by show s.first < _; omega
    exact Fin.retW (by exact rfl) resA (H' := s.H) (fun _ h => h.sublist findA) ⟨by unfold Snd.putE; rw [if_neg hl0, if_pos h2]; rfl, s, ⟨hs.o, hs.f, hs.ways, hs.lives, hs.owed, hs.own, hs.pl.up (Nat.le_succ n)⟩, rfl, rfl, by unfold Snd.put Snd.putE; rw [if_neg hl0, if_pos h2]; rfl⟩
  all_goals
    rename_i b5 _ _
    have hl0 := of_decide_eq_false ‹decide (lasts < 0) = false›
    have hf0 := of_decide_eq_false ‹decide ((bn : Int) > s.first) = false›
  · have hl1 := of_decide_eq_true hc
    refine WL.e rfl (Ef.callR (by exact rfl) (.nil _) (clock_tr _ now)) ?_
    rintro _ _ ⟨rfl, rfl⟩
    repeat' (first | refine S2b ?_ | refine SA (fun _ => ?_) | refine G1 (fun hc => ?_) (fun hc => ?_) | refine G2 (fun hc => ?_) (fun hc => ?_) | refine G3 (fun hc => ?_) (fun hc => ?_) | refine SL ?_ | fail)
    obtain ⟨hue, hup0⟩ := untilOf_pos (now := now) hl1
    have hur := Snd.untilOf_rng lasts now
    simp only [Go.Pth.go_mn]
    rw [hue, i64_id (n := Snd.untilOf lasts now) (by omega) (by omega)]
    refine W.drawA ?_
    repeat' (first | refine S2b ?_ | refine SD ?_ | refine SA (fun _ => ?_) | refine G1 (fun hc => ?_) (fun hc => ?_) | refine G2 (fun hc => ?_) (fun hc => ?_) | refine G3 (fun hc => ?_) (fun hc => ?_) | refine SL ?_ | fail)
    have hu0 : Snd.untilOf lasts now = Snd.untilOf lasts now := rfl
    refine WD.e rfl (Ef.callF (c := s.o.H) (by exact rfl) (.skip _ s.oqP.sub) (fun hd => oput_tr _ s.o hs.o hmany (by omega) stream hst ord bs ba bn bc (hsrc.mono (fun _ h => addF_in hd h)) _)) ?_
    rintro _ _ ⟨_, ⟨rfl, o', ho', rfl, hR', hS'⟩, rfl⟩
    refine ⟨.inl (by kernel_rfl), ?_⟩
    refine WD.weak (H' := (b5, .cells [.int .u16 stream, .bool ord, .slice ba bn bc].toArray 36 (0, 0)) :: ({ s with o := o' } : SdM).H) (fun _ h => In.front1 (s.oqE hR') h) ?_
    dsimp only [tup]
    obtain ⟨E, hE⟩ : ∃ E, Oq.putE s.o.S stream bs.length (Snd.untilOf lasts now) = E := ⟨_, rfl⟩
    have hputE : Snd.putE s.S stream bs.length lasts now = E := by
      unfold Snd.putE
      rw [if_neg hl0, if_neg (by show ¬ s.first < (bs.length : Int); omega)]
      exact hE
    have hput0 : E ≠ 0 → Snd.put s.S stream ord bs lasts now = s.S := fun h0 => by unfold Snd.put; rw [if_neg (by rw [hputE]; exact h0)]
    have hput1 : E = 0 → Snd.put s.S stream ord bs lasts now = { s.S with q := Oq.put s.S.q stream ord bs (Snd.untilOf lasts now), lives := if Snd.untilOf lasts now > 0 then s.lives ++ [⟨s.o.many, Snd.untilOf lasts now⟩] else s.lives } := fun h0 => by unfold Snd.put; rw [if_pos (by rw [hputE]; exact h0)]; rfl
    have hq0 : E ≠ 0 → o'.S = s.o.S := fun h0 => by rw [hS']; unfold Oq.put; rw [if_neg]; rw [hu0] at hE; rw [hE]; exact h0
    have hq1 : o'.S = Oq.put s.S.q stream ord bs (Snd.untilOf lasts now) := by rw [hu0]; exact hS'
    rw [hu0] at hE
    rw [hE, hputE]
    clear c0 c1 c2 c3 c4 c5 c6 c7 c8 c9 c10 c11
    obtain ⟨c0, c1, c2, c3, c4, c5, c6, c7, c8, c9, c10, c11⟩ := SdM.cans (F := F) { s with o := o' }
    dsimp only at c0 c1 c2 c3 c4 c5 c6 c7 c8 c9 c10 c11
    repeat' (first | refine S2b ?_ | refine SD ?_ | refine SA (fun _ => ?_) | refine G1 (fun hc => ?_) (fun hc => ?_) | refine G2 (fun hc => ?_) (fun hc => ?_) | refine G3 (fun hc => ?_) (fun hc => ?_) | refine SL ?_ | fail)
    · have e0 : E = 0 := by simpa using ‹(E == 0) = true›
      rw [if_pos e0]
      have hlf := hs.pl.lfew
      refine WL.e rfl (Ef.app (m := 1) (news := [.int .i64 s.o.many, .int .i64 (Snd.untilOf lasts now)]) (hb := s.lb) (by exact rfl) (by exact rfl) rfl rfl hs.lives (.skip _ (.skip _ (SdM.lvP { s with o := o' }).sub)) (Src.own (n := 2) (.here rfl)) rfl (by simp [Value.oneCell']) (by rw [flat_len' lifeC 2 lifeC_len]; dsimp only [SdM.S] at hlf; simp; omega) (by rw [flat_len' lifeC 2 lifeC_len]; dsimp only [SdM.S] at hlf; simp [maxLen]; omega)) ?_
      rintro v' _ ⟨hb', hown', rfl⟩
      obtain ⟨ja, jn, jc, rfl, _, _⟩ := OwnS.shape hown'
      repeat' (first | refine S2b ?_ | refine SD ?_ | refine SA (fun _ => ?_) | refine G1 (fun hc => ?_) (fun hc => ?_) | refine G2 (fun hc => ?_) (fun hc => ?_) | refine G3 (fun hc => ?_) (fun hc => ?_) | refine SL ?_ | fail)
      refine Fin.retW (by exact rfl) resA (H' := ({ s with o := o', lives := s.lives ++ [⟨s.o.many, Snd.untilOf lasts now⟩], la := ja, ln := jn, lc := jc, lb := hb' } : SdM).H) (fun _ h => ?_) ⟨rfl, { s with o := o', lives := s.lives ++ [⟨s.o.many, Snd.untilOf lasts now⟩], la := ja, ln := jn, lc := jc, lb := hb' }, ⟨ho', hs.f, hs.ways, by dsimp only; rw [List.flatMap_append]; exact hown', hs.owed, hs.own, ?_⟩, rfl, rfl, ?_⟩
      · unfold SdM.H SdM.T SdM.X
        exact In.of_sub (.pick (.right (.there (.there .here))) (.pickL (L := o'.H) (.right (.there (.there .here))) (.pickL (L := s.f.H) (.right (.there (.there .here))) (.pickL (L := s.wb) (.right (.there (.there .here))) (.pickL (L := s.ws.flatMap WaM.H) (.right (.there (.there .here))) (.pickL (L := hb') .here (.last (.there (.there .all))))))))) h
      · have hup := hup
        rw [hput1 e0, if_pos hup0, ← hq1] at hup
        exact hup
      · rw [hput1 e0, if_pos hup0, ← hq1]
        rfl
    · have hul := of_decide_eq_false hc
      exact absurd hup0 hul
    · have e0 : E ≠ 0 := by simpa using hc
      refine Fin.retW (by exact rfl) resA (H' := ({ s with o := o' } : SdM).H) (fun _ h => h.sublist findA) ⟨rfl, { s with o := o' }, ?_, rfl, rfl, ?_⟩
      · refine hs.setO ho' ?_
        rw [hq0 e0]
        exact hs.pl.up (Nat.le_succ n)
      · rw [hput0 e0]
        show ({ s.S with q := o'.S } : Snd.S) = _
        rw [hq0 e0]
        rfl
  · have hl1 := of_decide_eq_false hc
    have hu0 := untilOf_zero (now := now) hl1
    have hul : ¬ Snd.untilOf lasts now > 0 := by rw [hu0]; omega
    refine WD.e rfl (Ef.callF (c := s.o.H) (by exact rfl) (.skip _ s.oqP.sub) (fun hd => oput_tr _ s.o hs.o hmany (by omega) stream hst ord bs ba bn bc (hsrc.mono (fun _ h => addF_in hd h)) _)) ?_
    rintro _ _ ⟨_, ⟨rfl, o', ho', rfl, hR', hS'⟩, rfl⟩
    refine ⟨.inl (by kernel_rfl), ?_⟩
    refine WD.weak (H' := (b5, .cells [.int .u16 stream, .bool ord, .slice ba bn bc].toArray 36 (0, 0)) :: ({ s with o := o' } : SdM).H) (fun _ h => In.front1 (s.oqE hR') h) ?_
    dsimp only [tup]
    obtain ⟨E, hE⟩ : ∃ E, Oq.putE s.o.S stream bs.length (Snd.untilOf lasts now) = E := ⟨_, rfl⟩
    have hputE : Snd.putE s.S stream bs.length lasts now = E := by
      unfold Snd.putE
      rw [if_neg hl0, if_neg (by show ¬ s.first < (bs.length : Int); omega)]
      exact hE
    have hput0 : E ≠ 0 → Snd.put s.S stream ord bs lasts now = s.S := fun h0 => by unfold Snd.put; rw [if_neg (by rw [hputE]; exact h0)]
    have hput1 : E = 0 → Snd.put s.S stream ord bs lasts now = { s.S with q := Oq.put s.S.q stream ord bs (Snd.untilOf lasts now), lives := if Snd.untilOf lasts now > 0 then s.lives ++ [⟨s.o.many, Snd.untilOf lasts now⟩] else s.lives } := fun h0 => by unfold Snd.put; rw [if_pos (by rw [hputE]; exact h0)]; rfl
    have hq0 : E ≠ 0 → o'.S = s.o.S := fun h0 => by rw [hS']; unfold Oq.put; rw [if_neg]; rw [hu0] at hE; rw [hE]; exact h0
    have hq1 : o'.S = Oq.put s.S.q stream ord bs (Snd.untilOf lasts now) := by rw [hu0]; exact hS'
    rw [hu0] at hE
    rw [hE, hputE]
    clear c0 c1 c2 c3 c4 c5 c6 c7 c8 c9 c10 c11
    obtain ⟨c0, c1, c2, c3, c4, c5, c6, c7, c8, c9, c10, c11⟩ := SdM.cans (F := F) { s with o := o' }
    dsimp only at c0 c1 c2 c3 c4 c5 c6 c7 c8 c9 c10 c11
    repeat' (first | refine S2b ?_ | refine SD ?_ | refine SA (fun _ => ?_) | refine G1 (fun hc => ?_) (fun hc => ?_) | refine G2 (fun hc => ?_) (fun hc => ?_) | refine G3 (fun hc => ?_) (fun hc => ?_) | refine SL ?_ | fail)
    · refine Fin.retW (by exact rfl) resA (H' := ({ s with o := o' } : SdM).H) (fun _ h => h.sublist findA) ⟨rfl, { s with o := o' }, ?_, rfl, rfl, ?_⟩
      · refine hs.setO ho' ?_
        have e0 : E = 0 := by simpa using ‹(E == 0) = true›
        have hup := hup
        rw [hput1 e0, if_neg hul, ← hq1] at hup
        exact hup
      · have e0 : E = 0 := by simpa using ‹(E == 0) = true›
        rw [hput1 e0, if_neg hul, ← hq1]
        rfl
    · have e0 : E ≠ 0 := by simpa using hc
      refine Fin.retW (by exact rfl) resA (H' := ({ s with o := o' } : SdM).H) (fun _ h => h.sublist findA) ⟨rfl, { s with o := o' }, ?_, rfl, rfl, ?_⟩
      · refine hs.setO ho' ?_
        rw [hq0 e0]
        exact hs.pl.up (Nat.le_succ n)
      · rw [hput0 e0]
        show ({ s.S with q := o'.S } : Snd.S) = _
        rw [hq0 e0]
        rfl
/-! ### timers at rest -/
structure GS where
  i : Nat
  s : SdM
set_option maxHeartbeats 2000000 in
theorem srest_tr (F : Nat → Option Obj) {n : Nat} (s : SdM) (hs : s.ok n) : Tr Tryz.prog 31 [ptr s.R].toArray F s.H (fun v H => v = .tuple #[] ∧ ∃ s' : SdM, s'.ok n ∧ H = s'.H ∧ s'.R = s.R ∧ s'.S = Snd.restAll s.S) := by
  refine Tr.enter Tryz.func31 rfl Tryz.ntmps31 rfl (fun w0 => ?_)
  obtain ⟨c0, c1, c2, c3, c4, c5, c6, c7, c8, c9, c10, c11⟩ := s.cans (F := F)
  obtain ⟨b, off, hwa, hel⟩ := hs.wrow
  have hwn := hs.wn
  have hnws := hs.nws
  rw [hwa] at c2
  repeat' (first | refine S2b ?_ | refine SD ?_ | refine SA (fun _ => ?_) | refine G1 (fun hc => ?_) (fun hc => ?_) | refine G2 (fun hc => ?_) (fun hc => ?_) | refine G3 (fun hc => ?_) (fun hc => ?_) | refine SL ?_ | fail)
  clear c0 c1 c2 c3 c4 c5 c6 c7 c8 c9 c10 c11 hel
  refine W.loop (G := GS) (fun g => [(0, ptr s.R), (7, .slice (some ⟨b, off, none⟩) s.wn s.wc), (8, .int .i64 s.wn), (9, .int .i64 g.i)]) (fun g => g.s.H) (fun g => g.i ≤ s.wn ∧ g.s.ok n ∧ g.s.R = s.R ∧ g.s.wa = s.wa ∧ g.s.wn = s.wn ∧ g.s.S = { s.S with ws := Snd.pmap (Snd.restW s.f.S) s.S.ws g.i }) (fun g => s.wn - g.i) ⟨0, s⟩ ⟨Nat.zero_le _, hs, rfl, rfl, rfl, by dsimp only; rw [Snd.pmap_zero]⟩ envA (fun _ h => h) ?_
  rintro ⟨i, t⟩ ⟨hi, ht, hR, hta, htn, htS⟩
  dsimp only at hi ht hR hta htn htS ⊢
  obtain ⟨c0, c1, c2, c3, c4, c5, c6, c7, c8, c9, c10, c11⟩ := t.cans (F := F)
  rw [hR] at c0 c1 c2 c3 c4 c5 c6 c7 c8 c9 c10 c11
  have hlen : t.ws.length = s.ws.length := by have := congrArg (fun x : Snd.S => x.ws.length) htS; simpa [SdM.S, Snd.pmap] using this
  repeat' (first | refine S2b ?_ | refine SD ?_ | refine SA (fun _ => ?_) | refine G1 (fun hc => ?_) (fun hc => ?_) | refine G2 (fun hc => ?_) (fun hc => ?_) | refine G3 (fun hc => ?_) (fun hc => ?_) | refine SL ?_ | fail)
  · have hi' : i < s.wn := by have := of_decide_eq_true hc; omega
    obtain ⟨b', off', hta', hel⟩ := ht.wrow
    rw [hta, hwa] at hta'
    cases hta'
    obtain ⟨m, hm, hmS, hkn⟩ := SdM.wayAt ht (k := i) (by omega)
    rw [htn] at hkn
    have hcan := hel F i m hm
    repeat' (first | refine S2b ?_ | refine SD ?_ | refine SA (fun _ => ?_) | refine G1 (fun hc => ?_) (fun hc => ?_) | refine G2 (fun hc => ?_) (fun hc => ?_) | refine G3 (fun hc => ?_) (fun hc => ?_) | refine SL ?_ | fail)
    have htf : t.f.S = s.f.S := congrArg Snd.S.f htS
    have hms : s.S.ws[i]? = some m.W := by
      have h1 : t.S.ws[i]? = some m.W := hmS
      rw [htS] at h1
      obtain ⟨w, hw⟩ : ∃ w, s.S.ws[i]? = some w := ⟨s.S.ws[i]'(by simp [SdM.S]; omega), List.getElem?_eq_getElem _⟩
      have h2 := Snd.pmap_get (Snd.restW s.f.S) hw
      dsimp only at h1
      rw [h2] at h1
      rw [hw, ← h1]
    refine WL.e rfl (Ef.callR (by exact rfl) t.flP.sub (out_tr _ t.f ht.f ht.small i)) ?_
    rintro _ _ ⟨rfl, rfl⟩
    repeat' (first | refine S2b ?_ | refine SD ?_ | refine SA (fun _ => ?_) | refine G1 (fun hc => ?_) (fun hc => ?_) | refine G2 (fun hc => ?_) (fun hc => ?_) | refine G3 (fun hc => ?_) (fun hc => ?_) | refine SL ?_ | fail)
    · have h0 : Flt.out s.f.S i = 0 := by rw [← htf]; simpa using hc
      refine WL.e0 (Ef.st rfl rfl rfl (SdM.wayPut (m' := { m with timer := -1 }) hm rfl rfl (off := 0 + 1) rfl)) ?_
      rintro _ _ ⟨rfl, rfl⟩
      repeat' (first | refine S2b ?_ | refine SD ?_ | refine SA (fun _ => ?_) | refine G1 (fun hc => ?_) (fun hc => ?_) | refine G2 (fun hc => ?_) (fun hc => ?_) | refine G3 (fun hc => ?_) (fun hc => ?_) | refine SL ?_ | fail)
      have ew : WaM.W { m with timer := -1 } = Snd.restW s.f.S i m.W := by unfold Snd.restW WaM.W; rw [if_pos h0]
      rw [i64_succ (by omega)]
      refine Fin.round ⟨i + 1, t.setW i { m with timer := -1 }⟩ ⟨hi', ht.setW hm rfl (by rw [ew]; exact Snd.restW_ok (ht.way hm)), hR, hta, htn, ?_⟩ envA (fun _ h => h) (by dsimp only; omega)
      rw [SdM.setW_S, htS, ew, Snd.pmap_succ _ hms]
    · have h0 : ¬ Flt.out s.f.S i = 0 := by rw [← htf]; simpa using hc
      have ew : m.W = Snd.restW s.f.S i m.W := by unfold Snd.restW; rw [if_neg h0]
      rw [i64_succ (by omega)]
      refine Fin.round ⟨i + 1, t⟩ ⟨hi', ht, hR, hta, htn, ?_⟩ envA (fun _ h => h) (by dsimp only; omega)
      rw [htS, Snd.pmap_succ _ hms, ← ew]
      congr 1
      have h3 := Snd.pmap_get (Snd.restW s.f.S) hms
      obtain ⟨hlt, he⟩ := List.getElem?_eq_some_iff.1 h3
      rw [← he]
      exact (List.set_getElem_self hlt).symm
  · have hi' : i = s.S.ws.length := by have := of_decide_eq_false hc; simp [SdM.S]; omega
    subst hi'
    refine Fin.endW (by exact rfl) resA (fun _ h => h) ⟨rfl, t, ht, rfl, hR, ?_⟩
    rw [htS, Snd.pmap_all]
    rfl
end Go.Proofs.YtjfpckadjnjmoaaGreat
