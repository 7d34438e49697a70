/- The receiver in memory, and its methods, walked: they answer as the plain functions do. Conditions: it is well formed; bounds on what is held. -/
import Derived.Test.YthjglhdjlmjffaaGreatRcA
import Derived.Test.YthjglhdjlmjffaaGreatRcP
import Derived.Test.YthjglhdjlmjffaaGreatTsB
import Derived.Test.YthjglhdjlmjffaaGreatRmK2
namespace Go.Proofs.YthjglhdjlmjffaaGreat
open Go Go.Sl

structure RcM where
  R : Nat
  m : MM
  d : DeM
  w : RM
  room : Int
  most : Int
  came : Bool
  urg : Bool
def RcM.B (r : RcM) : Nat × Obj := (r.R, .cells [.pointer (some ⟨r.m.R, 0, none⟩), .pointer (some ⟨r.d.R, 0, none⟩), .pointer (some ⟨r.w.R, 0, none⟩), .int .i64 r.room, .int .i64 r.most, .bool r.came, .bool r.urg].toArray 78 (0, 0))
def RcM.H (r : RcM) : HL := r.B :: (r.m.H ++ (r.d.H ++ r.w.H))
def RcM.S (r : RcM) : Rcv.S := ⟨r.m.s.S, r.m.ds, r.d.s, r.w.S, r.room, r.most, r.came, r.urg⟩
structure RcM.ok (r : RcM) : Prop where
  m : r.m.ok
  d : Del.Ok r.d.s
  w : r.w.ok
  room : 128 ≤ r.room ∧ r.room ≤ 1048576
  most : 25 ≤ r.most ∧ r.most ≤ 368
  n16 : nx16 r.w.nx
  nl : r.w.nx.length ≤ 16
  fit : Rcv.held r.S ≤ r.room.toNat
theorem RM.said {s : RM} {x : Rm.S} (h : s.S = x) : s.L = x.L ∧ s.row = x.row ∧ s.nx = x.nx := by subst h; exact ⟨rfl, rfl, rfl⟩
/-- a config in memory -/
structure Cfg where
  paths : Int
  mtu : Int
  streams : Int
  sroom : Int
  rroom : Int
  cap : Int
  ri : Int
  rmin : Int
  rmax : Int
  delay : Int
  life : Int
  beat : Int
  retrans : Int
  tries : Int
def Cfg.cells (c : Cfg) : List Value := [.int .i64 c.paths, .int .i64 c.mtu, .int .i64 c.streams, .int .i64 c.sroom, .int .i64 c.rroom, .int .i64 c.cap, .int .i64 c.ri, .int .i64 c.rmin, .int .i64 c.rmax, .int .i64 c.delay, .int .i64 c.life, .int .i64 c.beat, .int .i64 c.retrans, .int .i64 c.tries]
def Cfg.rcvOk (c : Cfg) : Prop := (128 ≤ c.mtu ∧ c.mtu ≤ 1500 ∧ c.mtu ≤ c.rroom ∧ c.rroom ≤ 1048576) ∧ (1 ≤ c.streams ∧ c.streams ≤ 16) ∧ 0 ≤ c.delay ∧ c.delay ≤ 1048576
def newR (c : Cfg) (first : Int) : Rcv.S := ⟨⟨Spn.u32 (first - 1), fun _ => false⟩, [], ⟨c.delay, 0, 0, false⟩, ⟨[], [], List.replicate c.streams.toNat 0⟩, c.rroom, (c.mtu - 28) / 4, false, false⟩
def plainC (room : Int) : Cfg := ⟨0, 128, 2, 0, 128 + room % 4096, 0, 0, 0, 0, 5, 0, 0, 0, 0⟩
theorem plain_tr (F : Nat → Option Obj) (room : Int) (hr : 0 ≤ room ∧ room < 65536) : Tr Tryz.prog 22 [.int .u16 room].toArray F [] (fun v H => v = .agg (plainC room).cells.toArray ∧ H = []) := by
  refine Tr.enter Tryz.func22 rfl Tryz.ntmps22 rfl (fun w0 => ?_)
  repeat' (first | refine S1 ?_ | refine SD ?_ | refine SA (fun _ => ?_) | refine WL.g_split rfl rfl (fun hc => ?_) (fun hc => ?_) | refine WD.g_split rfl rfl (fun hc => ?_) (fun hc => ?_) | refine W.cond rfl (fun hc => ?_) (fun hc => ?_))
  refine WL.p rfl (Pu.rem rfl rfl (by decide)) ?_
  repeat' (first | refine S1 ?_ | refine SD ?_ | refine SA (fun _ => ?_) | refine WL.g_split rfl rfl (fun hc => ?_) (fun hc => ?_) | refine WD.g_split rfl rfl (fun hc => ?_) (fun hc => ?_) | refine W.cond rfl (fun hc => ?_) (fun hc => ?_))
  refine Fin.retW (by exact rfl) resA (H' := []) (fun _ h => h.sublist (List.nil_sublist _)) ⟨?_, rfl⟩
  have e1 : IntKind.i64.wrap room = room := i64_id (by omega) (by omega)
  have e2 : room.tmod 4096 = room % 4096 := Int.tmod_eq_emod_of_nonneg (by omega)
  have e3 : IntKind.i64.wrap (128 + room % 4096) = 128 + room % 4096 := i64_id (by omega) (by omega)
  simp only [e1, e2, e3, plainC, Cfg.cells, tup]
set_option maxHeartbeats 4000000 in
theorem rnew_tr (F : Nat → Option Obj) (c : Cfg) (first : Int) : Tr Tryz.prog 6 [.agg c.cells.toArray, .int .u32 first].toArray F [] (fun v H =>
    (¬ c.rcvOk ∧ v = tup [.pointer none, .int .i64 1] ∧ H = []) ∨ (c.rcvOk ∧ ∃ r : RcM, r.ok ∧ v = tup [.pointer (some ⟨r.R, 0, none⟩), .int .i64 0] ∧ H = r.H ∧ r.S = newR c first ∧ r.w.turns = 0)) := by
  refine Tr.enter Tryz.func6 rfl Tryz.ntmps6 rfl (fun w0 => ?_)
  unfold Cfg.cells
  repeat' (first | refine S1 ?_ | refine SD ?_ | refine SA (fun _ => ?_) | refine WL.g_split rfl rfl (fun hc => ?_) (fun hc => ?_) | refine WD.g_split rfl rfl (fun hc => ?_) (fun hc => ?_) | refine W.cond rfl (fun hc => ?_) (fun hc => ?_))
  ·
    refine Fin.retW (by exact rfl) resA (H' := []) (fun _ h => h.sublist (List.nil_sublist _)) (.inl ⟨fun hk => ?_, rfl, rfl⟩)
    obtain ⟨⟨h1, h2, h3, h4⟩, h5, h6⟩ := hk
    have := of_decide_eq_true hc
    omega
  ·
    refine Fin.retW (by exact rfl) resA (H' := []) (fun _ h => h.sublist (List.nil_sublist _)) (.inl ⟨fun hk => ?_, rfl, rfl⟩)
    obtain ⟨⟨h1, h2, h3, h4⟩, h5, h6⟩ := hk
    have := of_decide_eq_true hc
    omega
  ·
    refine Fin.retW (by exact rfl) resA (H' := []) (fun _ h => h.sublist (List.nil_sublist _)) (.inl ⟨fun hk => ?_, rfl, rfl⟩)
    obtain ⟨⟨h1, h2, h3, h4⟩, h5, h6⟩ := hk
    have := of_decide_eq_true hc
    omega
  ·
    refine Fin.retW (by exact rfl) resA (H' := []) (fun _ h => h.sublist (List.nil_sublist _)) (.inl ⟨fun hk => ?_, rfl, rfl⟩)
    obtain ⟨⟨h1, h2, h3, h4⟩, h5, h6⟩ := hk
    have := of_decide_eq_true hc
    omega
  rename_i g1 g2 g3
  have g1 := of_decide_eq_false g1
  have g2 := of_decide_eq_false g2
  have g3 := of_decide_eq_false g3
  have g4 := of_decide_eq_false hc
  clear hc
  by_cases hst : 1 ≤ c.streams ∧ c.streams ≤ 16
  rotate_left
  · refine WL.e rfl (Ef.call (by exact rfl) (.nil _) (New_bad _ c.streams (by omega))) ?_
    rintro _ _ ⟨_, ⟨rfl, rfl⟩, rfl⟩
    dsimp only [tup]
    repeat' (first | refine S1 ?_ | refine SD ?_ | refine SA (fun _ => ?_) | refine WL.g_split rfl rfl (fun hc => ?_) (fun hc => ?_) | refine WD.g_split rfl rfl (fun hc => ?_) (fun hc => ?_) | refine W.cond rfl (fun hc => ?_) (fun hc => ?_))
    refine Fin.retW (by exact rfl) resA (H' := []) (fun _ h => h.sublist (List.nil_sublist _)) (.inl ⟨fun hk => ?_, rfl, rfl⟩)
    obtain ⟨⟨h1, h2, h3, h4⟩, h5, h6⟩ := hk
    omega
  obtain ⟨m, hm⟩ : ∃ m : Nat, c.streams = m := ⟨c.streams.toNat, by omega⟩
  rw [hm]
  refine WL.e rfl (Ef.call (by exact rfl) (.nil _) (New_ok _ m (by omega))) ?_
  rintro _ _ ⟨_, ⟨s, hs, rfl, rfl, hst0, hsS⟩, rfl⟩
  dsimp only [tup]
  repeat' (first | refine S1 ?_ | refine SD ?_ | refine SA (fun _ => ?_) | refine WL.g_split rfl rfl (fun hc => ?_) (fun hc => ?_) | refine WD.g_split rfl rfl (fun hc => ?_) (fun hc => ?_) | refine W.cond rfl (fun hc => ?_) (fun hc => ?_))
  refine WL.e rfl (Ef.call (by exact rfl) (.nil _) (dnew_tr _ c.delay)) ?_
  rintro _ _ ⟨_, (⟨hd, rfl, rfl⟩ | ⟨hd, b, rfl, rfl⟩), rfl⟩
  · dsimp only [tup]
    repeat' (first | refine S1 ?_ | refine SD ?_ | refine SA (fun _ => ?_) | refine WL.g_split rfl rfl (fun hc => ?_) (fun hc => ?_) | refine WD.g_split rfl rfl (fun hc => ?_) (fun hc => ?_) | refine W.cond rfl (fun hc => ?_) (fun hc => ?_))
    refine Fin.retW (by exact rfl) resA (H' := []) (fun _ h => h.sublist (List.nil_sublist _)) (.inl ⟨fun hk => ?_, rfl, rfl⟩)
    obtain ⟨⟨h1, h2, h3, h4⟩, h5, h6⟩ := hk
    omega
  dsimp only [tup]
  repeat' (first | refine S1 ?_ | refine SD ?_ | refine SA (fun _ => ?_) | refine WL.g_split rfl rfl (fun hc => ?_) (fun hc => ?_) | refine WD.g_split rfl rfl (fun hc => ?_) (fun hc => ?_) | refine W.cond rfl (fun hc => ?_) (fun hc => ?_))
  refine WD.e rfl (Ef.call (by exact rfl) (.nil _) (begin_tr _ first)) ?_
  rintro _ _ ⟨_, ⟨mm, hmm, rfl, rfl, hmS, hmd⟩, rfl⟩
  refine ⟨.inr (fun _ h => h.right), ?_⟩
  repeat' (first | refine S1 ?_ | refine SD ?_ | refine SA (fun _ => ?_) | refine WL.g_split rfl rfl (fun hc => ?_) (fun hc => ?_) | refine WD.g_split rfl rfl (fun hc => ?_) (fun hc => ?_) | refine W.cond rfl (fun hc => ?_) (fun hc => ?_))
  refine WD.p rfl (Pu.quo rfl rfl (by decide)) ?_
  have e1 : IntKind.i64.wrap (c.mtu - 28) = c.mtu - 28 := i64_id (by omega) (by omega)
  have e2 : (c.mtu - 28).tdiv 4 = (c.mtu - 28) / 4 := Int.tdiv_eq_ediv_of_nonneg (by omega)
  have e3 : IntKind.i64.wrap ((c.mtu - 28) / 4) = (c.mtu - 28) / 4 := i64_id (by omega) (by omega)
  rw [e1, e2, e3]
  repeat' (first | refine S1 ?_ | refine SD ?_ | refine SA (fun _ => ?_) | refine WL.g_split rfl rfl (fun hc => ?_) (fun hc => ?_) | refine WD.g_split rfl rfl (fun hc => ?_) (fun hc => ?_) | refine W.cond rfl (fun hc => ?_) (fun hc => ?_))
  rename_i b8
  refine Fin.retW (by exact rfl) resA (H' := (⟨b8, mm, ⟨b, ⟨c.delay, 0, 0, false⟩⟩, s, c.rroom, (c.mtu - 28) / 4, false, false⟩ : RcM).H) (fun _ h => ?_) (.inr ⟨⟨⟨by omega, by omega, by omega, by omega⟩, hst, hd⟩, _, ?_, rfl, rfl, ?_, hst0⟩)
  · unfold RcM.H
    exact In.of_sub (.pick .here (.pickL (L := mm.H) .here (.pickL (L := DeM.H ⟨b, ⟨c.delay, 0, 0, false⟩⟩) .here (.last (L := s.H) .here)))) h
  · have hnx : s.nx = List.replicate m 0 := (RM.said hsS).2.2
    refine ⟨hmm, ⟨hd, by dsimp only; omega, by dsimp only; omega⟩, hs, by dsimp only; omega, by dsimp only; omega, ?_, ?_, ?_⟩
    · dsimp only
      rw [hnx]
      intro n hn
      rw [List.mem_replicate] at hn
      omega
    · dsimp only
      rw [hnx, List.length_replicate]
      omega
    · unfold Rcv.held RcM.S
      dsimp only
      rw [hsS]
      exact Nat.zero_le _
  · unfold RcM.S newR
    rw [hmS, hmd, hsS, hm]
    rfl
/-! ### what is looked at -/
theorem rcum_tr (F : Nat → Option Obj) (r : RcM) : Tr Tryz.prog 15 [.pointer (some ⟨r.R, 0, none⟩)].toArray F r.H (fun v H => v = .int .u32 r.S.m.b ∧ H = r.H) := by
  refine Tr.enter Tryz.func15 rfl Tryz.ntmps15 rfl (fun w0 => ?_)
  unfold RcM.H RcM.B
  repeat' (first | refine S1 ?_ | refine SD ?_ | refine SA (fun _ => ?_) | refine WL.g_split rfl rfl (fun hc => ?_) (fun hc => ?_) | refine WD.g_split rfl rfl (fun hc => ?_) (fun hc => ?_) | refine W.cond rfl (fun hc => ?_) (fun hc => ?_))
  refine WL.e rfl (Ef.callR (c := r.m.H) (by exact rfl) (.last (.there .here)) (cum_tr _ r.m)) ?_
  rintro _ _ ⟨rfl, rfl⟩
  repeat' (first | refine S1 ?_ | refine SD ?_ | refine SA (fun _ => ?_) | refine WL.g_split rfl rfl (fun hc => ?_) (fun hc => ?_) | refine WD.g_split rfl rfl (fun hc => ?_) (fun hc => ?_) | refine W.cond rfl (fun hc => ?_) (fun hc => ?_))
  exact Fin.retW (by exact rfl) resA (fun _ h => h) ⟨rfl, rfl⟩
theorem RcM.ok.held {r : RcM} (h : r.ok) : r.w.held = Rcv.held r.S := by have := h.w.held; rw [this]; unfold Rcv.held; simp [RcM.S, RM.S]
theorem cheld_tr (F : Nat → Option Obj) (r : RcM) (hr : r.ok) : Tr Tryz.prog 16 [.pointer (some ⟨r.R, 0, none⟩)].toArray F r.H (fun v H => v = .int .i64 (Rcv.held r.S) ∧ H = r.H) := by
  refine Tr.enter Tryz.func16 rfl Tryz.ntmps16 rfl (fun w0 => ?_)
  unfold RcM.H RcM.B
  repeat' (first | refine S1 ?_ | refine SD ?_ | refine SA (fun _ => ?_) | refine WL.g_split rfl rfl (fun hc => ?_) (fun hc => ?_) | refine WD.g_split rfl rfl (fun hc => ?_) (fun hc => ?_) | refine W.cond rfl (fun hc => ?_) (fun hc => ?_))
  refine WL.e rfl (Ef.callR (c := r.w.H) (by exact rfl) (.last (.there (.right (.right .all)))) (heldA _ r.w)) ?_
  rintro _ _ ⟨rfl, rfl⟩
  rw [hr.held]
  repeat' (first | refine S1 ?_ | refine SD ?_ | refine SA (fun _ => ?_) | refine WL.g_split rfl rfl (fun hc => ?_) (fun hc => ?_) | refine WD.g_split rfl rfl (fun hc => ?_) (fun hc => ?_) | refine W.cond rfl (fun hc => ?_) (fun hc => ?_))
  exact Fin.retW (by exact rfl) resA (fun _ h => h) ⟨rfl, rfl⟩
theorem cready_tr (F : Nat → Option Obj) (r : RcM) (hr : r.ok) : Tr Tryz.prog 18 [.pointer (some ⟨r.R, 0, none⟩)].toArray F r.H (fun v H => v = .int .i64 r.S.w.row.length ∧ H = r.H) := by
  refine Tr.enter Tryz.func18 rfl Tryz.ntmps18 rfl (fun w0 => ?_)
  unfold RcM.H RcM.B
  repeat' (first | refine S1 ?_ | refine SD ?_ | refine SA (fun _ => ?_) | refine WL.g_split rfl rfl (fun hc => ?_) (fun hc => ?_) | refine WD.g_split rfl rfl (fun hc => ?_) (fun hc => ?_) | refine W.cond rfl (fun hc => ?_) (fun hc => ?_))
  refine WL.e rfl (Ef.callR (c := r.w.H) (by exact rfl) (.last (.there (.right (.right .all)))) (rdyA _ r.w hr.w)) ?_
  rintro _ _ ⟨rfl, rfl⟩
  repeat' (first | refine S1 ?_ | refine SD ?_ | refine SA (fun _ => ?_) | refine WL.g_split rfl rfl (fun hc => ?_) (fun hc => ?_) | refine WD.g_split rfl rfl (fun hc => ?_) (fun hc => ?_) | refine W.cond rfl (fun hc => ?_) (fun hc => ?_))
  exact Fin.retW (by exact rfl) resA (fun _ h => h) ⟨rfl, rfl⟩
theorem rwhen_tr (F : Nat → Option Obj) (r : RcM) (hr : r.ok) : Tr Tryz.prog 13 [.pointer (some ⟨r.R, 0, none⟩)].toArray F r.H (fun v H => v = tup [.int .i64 (Del.dueAt r.S.d).1, .bool (Del.dueAt r.S.d).2] ∧ H = r.H) := by
  refine Tr.enter Tryz.func13 rfl Tryz.ntmps13 rfl (fun w0 => ?_)
  unfold RcM.H RcM.B
  repeat' (first | refine S1 ?_ | refine SD ?_ | refine SA (fun _ => ?_) | refine WL.g_split rfl rfl (fun hc => ?_) (fun hc => ?_) | refine WD.g_split rfl rfl (fun hc => ?_) (fun hc => ?_) | refine W.cond rfl (fun hc => ?_) (fun hc => ?_))
  refine WL.e rfl (Ef.callR (c := r.d.H) (by exact rfl) (.last (.there (.right .here))) (when_tr _ r.d hr.d)) ?_
  rintro _ _ ⟨rfl, rfl⟩
  dsimp only [tup]
  repeat' (first | refine S1 ?_ | refine SD ?_ | refine SA (fun _ => ?_) | refine WL.g_split rfl rfl (fun hc => ?_) (fun hc => ?_) | refine WD.g_split rfl rfl (fun hc => ?_) (fun hc => ?_) | refine W.cond rfl (fun hc => ?_) (fun hc => ?_))
  exact Fin.retW (by exact rfl) resA (fun _ h => h) ⟨rfl, rfl⟩
theorem rdue_tr (F : Nat → Option Obj) (r : RcM) (hr : r.ok) (now : Int) : Tr Tryz.prog 20 [.pointer (some ⟨r.R, 0, none⟩), .int .i64 now].toArray F r.H (fun v H => v = .bool (Del.due r.S.d now) ∧ H = r.H) := by
  refine Tr.enter Tryz.func20 rfl Tryz.ntmps20 rfl (fun w0 => ?_)
  unfold RcM.H RcM.B
  repeat' (first | refine S1 ?_ | refine SD ?_ | refine SA (fun _ => ?_) | refine WL.g_split rfl rfl (fun hc => ?_) (fun hc => ?_) | refine WD.g_split rfl rfl (fun hc => ?_) (fun hc => ?_) | refine W.cond rfl (fun hc => ?_) (fun hc => ?_))
  refine WL.e rfl (Ef.callR (c := r.d.H) (by exact rfl) (.last (.there (.right .here))) (due_tr _ r.d hr.d now)) ?_
  rintro _ _ ⟨rfl, rfl⟩
  repeat' (first | refine S1 ?_ | refine SD ?_ | refine SA (fun _ => ?_) | refine WL.g_split rfl rfl (fun hc => ?_) (fun hc => ?_) | refine WD.g_split rfl rfl (fun hc => ?_) (fun hc => ?_) | refine W.cond rfl (fun hc => ?_) (fun hc => ?_))
  exact Fin.retW (by exact rfl) resA (fun _ h => h) ⟨rfl, rfl⟩
/-! ### what acts -/
theorem rfin_tr (F : Nat → Option Obj) (r : RcM) (hr : r.ok) (now : Int) : Tr Tryz.prog 24 [.pointer (some ⟨r.R, 0, none⟩), .int .i64 now].toArray F r.H (fun v H => v = .tuple #[] ∧ ∃ r' : RcM, r'.ok ∧ H = r'.H ∧ r'.R = r.R ∧ r'.S = Rcv.fin r.S now ∧ r'.w = r.w) := by
  refine Tr.enter Tryz.func24 rfl Tryz.ntmps24 rfl (fun w0 => ?_)
  unfold RcM.H RcM.B
  repeat' (first | refine S1 ?_ | refine SD ?_ | refine SA (fun _ => ?_) | refine WL.g_split rfl rfl (fun hc => ?_) (fun hc => ?_) | refine WD.g_split rfl rfl (fun hc => ?_) (fun hc => ?_) | refine W.cond rfl (fun hc => ?_) (fun hc => ?_))
  · refine WD.e rfl (Ef.call (c := r.d.H) (by exact rfl) (.last (.there (.right .here))) (packet_tr _ r.d hr.d now r.urg)) ?_
    rintro _ _ ⟨_, ⟨rfl, rfl⟩, rfl⟩
    refine ⟨.inl (by kernel_rfl), ?_⟩
    repeat' (first | refine S1 ?_ | refine SD ?_ | refine SA (fun _ => ?_) | refine WL.g_split rfl rfl (fun hc => ?_) (fun hc => ?_) | refine WD.g_split rfl rfl (fun hc => ?_) (fun hc => ?_) | refine W.cond rfl (fun hc => ?_) (fun hc => ?_))
    refine Fin.endW (by exact rfl) resA (H' := ((⟨r.R, r.m, ⟨r.d.R, Del.packet r.d.s now r.urg⟩, r.w, r.room, r.most, false, false⟩ : RcM)).H) (fun _ h => ?_) ⟨rfl, (⟨r.R, r.m, ⟨r.d.R, Del.packet r.d.s now r.urg⟩, r.w, r.room, r.most, false, false⟩ : RcM), ⟨hr.m, hr.d.packet now r.urg, hr.w, hr.room, hr.most, hr.n16, hr.nl, hr.fit⟩, rfl, rfl, ?_, rfl⟩
    · exact In.of_sub (.pick (.right .here) (.pickL (L := r.m.H) (.right .here) (.pickL (L := DeM.H ⟨r.d.R, Del.packet r.d.s now r.urg⟩) .here (.last (L := r.w.H) .all)))) h
    · show _ = Rcv.fin _ now
      unfold Rcv.fin
      rw [show r.S.came = true from hc, if_pos rfl]
      rfl
  · refine Fin.endW (by exact rfl) resA (H' := ((⟨r.R, r.m, r.d, r.w, r.room, r.most, false, false⟩ : RcM)).H) (fun _ h => h) ⟨rfl, (⟨r.R, r.m, r.d, r.w, r.room, r.most, false, false⟩ : RcM), ⟨hr.m, hr.d, hr.w, hr.room, hr.most, hr.n16, hr.nl, hr.fit⟩, rfl, rfl, ?_, rfl⟩
    show _ = Rcv.fin _ now
    unfold Rcv.fin
    rw [show r.S.came = false from hc, if_neg (by simp)]
    rfl
/-- what 'Take' answers and leaves -/
def CTakeQ (r : RcM) (v : Value) (H : HL) : Prop :=
  (r.S.w.row = [] ∧ v = tup [.agg [.int .u16 0, .bool false, .slice none 0 0].toArray, .bool false] ∧ H = r.H) ∨
  ∃ (m : Ms) (r' : RcM), m.ok ∧ r'.ok ∧ v = tup [.agg m.cells.toArray, .bool true] ∧ H = r'.H ++ m.hb ∧ r'.R = r.R ∧ r'.w.turns = r.w.turns ∧ r.S.w.row = m.g :: r'.S.w.row ∧ r'.S = Rcv.take r.S
theorem ctake_tr (F : Nat → Option Obj) (r : RcM) (hr : r.ok) : Tr Tryz.prog 26 [.pointer (some ⟨r.R, 0, none⟩)].toArray F r.H (CTakeQ r) := by
  refine Tr.enter Tryz.func26 rfl Tryz.ntmps26 rfl (fun w0 => ?_)
  unfold RcM.H RcM.B
  repeat' (first | refine S1 ?_ | refine SD ?_ | refine SA (fun _ => ?_) | refine WL.g_split rfl rfl (fun hc => ?_) (fun hc => ?_) | refine WD.g_split rfl rfl (fun hc => ?_) (fun hc => ?_) | refine W.cond rfl (fun hc => ?_) (fun hc => ?_))
  refine WL.e rfl (Ef.call (c := r.w.H) (by exact rfl) (.last (.there (.there (.right (.right .all))))) (takeA _ r.w hr.w)) ?_
  rintro _ _ ⟨_, (⟨hno, rfl, rfl⟩ | ⟨m, w', hm, hw', rfl, rfl, hR, ht, hrow, hL, hnx⟩), rfl⟩
  · dsimp only [tup]
    repeat' (first | refine S1 ?_ | refine SD ?_ | refine SA (fun _ => ?_) | refine WL.g_split rfl rfl (fun hc => ?_) (fun hc => ?_) | refine WD.g_split rfl rfl (fun hc => ?_) (fun hc => ?_) | refine W.cond rfl (fun hc => ?_) (fun hc => ?_))
    exact Fin.retW (by exact rfl) resA (H' := r.H) (fun _ h => In.of_sub (.pick (.right (.there .here)) (.pickL (L := r.m.H) (.right (.there .here)) (.pickL (L := r.d.H) (.right (.there .here)) (.last (L := r.w.H) .here)))) h) (.inl ⟨hno, rfl, rfl⟩)
  · dsimp only [tup]
    rw [List.append_assoc]
    repeat' (first | refine S1 ?_ | refine SD ?_ | refine SA (fun _ => ?_) | refine WL.g_split rfl rfl (fun hc => ?_) (fun hc => ?_) | refine WD.g_split rfl rfl (fun hc => ?_) (fun hc => ?_) | refine W.cond rfl (fun hc => ?_) (fun hc => ?_))
    have hS : w'.S = (Rm.take r.w.S).2 := by
      have e : Rm.take r.w.S = (some m.g, ⟨r.w.L, w'.row, r.w.nx⟩) := by unfold Rm.take; rw [show r.w.S.row = _ from hrow]; rfl
      rw [e]
      unfold RM.S
      rw [hL, hnx]
    refine Fin.retW (by exact rfl) resA (H' := ((⟨r.R, r.m, r.d, w', r.room, r.most, r.came, r.urg⟩ : RcM)).H ++ m.hb) (fun _ h => ?_) (.inr ⟨m, (⟨r.R, r.m, r.d, w', r.room, r.most, r.came, r.urg⟩ : RcM), hm, ⟨hr.m, hr.d, hw', hr.room, hr.most, by dsimp only; rw [hnx]; exact hr.n16, by dsimp only; rw [hnx]; exact hr.nl, ?_⟩, rfl, rfl, rfl, ht, hrow, ?_⟩)
    · unfold RcM.H RcM.B
      dsimp only
      rw [hR, List.cons_append, List.append_assoc, List.append_assoc]
      exact In.of_sub (.pick (.right (.right (.there .here))) (.pickL (L := r.m.H) (.right (.right (.there .here))) (.pickL (L := r.d.H) (.right (.right (.there .here))) (.pickL (L := w'.H) .here (.last (L := m.hb) .here))))) h
    · have h1 := Rcv.take_held r.S
      have h2 := hr.fit
      have h3 : Rcv.held (⟨r.R, r.m, r.d, w', r.room, r.most, r.came, r.urg⟩ : RcM).S = Rcv.held (Rcv.take r.S) := by unfold RcM.S Rcv.held Rcv.take; dsimp only; rw [hS]
      rw [h3]
      dsimp only
      omega
    · unfold RcM.S Rcv.take
      dsimp only
      rw [hS]
end Go.Proofs.YthjglhdjlmjffaaGreat
