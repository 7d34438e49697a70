/- The reassembler in memory, and its small methods, walked. Conditions: stated with each (bounds on what is held). -/
import Derived.Test.YthjglhdjlmjffaaGreatRmB
namespace Go.Proofs.YthjglhdjlmjffaaGreat
open Go Go.Sl Go.Rm

theorem ahead16_tr (F : Nat → Option Obj) (a b : Int) : Tr Tryz.prog 112 [.int .u16 a, .int .u16 b].toArray F [] (fun v H => v = .int .u16 (u16 (b - a)) ∧ H = []) := by
  refine Tr.enter Tryz.func112 rfl Tryz.ntmps112 rfl (fun w0 => ?_)
  repeat' (first | refine S1 ?_ | refine SD ?_ | refine SA (fun _ => ?_) | refine WL.g_split rfl rfl (fun hc => ?_) (fun hc => ?_) | refine WD.g_split rfl rfl (fun hc => ?_) (fun hc => ?_) | refine W.cond rfl (fun hc => ?_) (fun hc => ?_))
  exact Fin.retW (by exact rfl) resA weakA ⟨rfl, rfl⟩
theorem ahead32_tr (F : Nat → Option Obj) (a b : Int) : Tr Tryz.prog 102 [.int .u32 a, .int .u32 b].toArray F [] (fun v H => v = .int .u32 (u32 (b - a)) ∧ H = []) := by
  refine Tr.enter Tryz.func102 rfl Tryz.ntmps102 rfl (fun w0 => ?_)
  repeat' (first | refine S1 ?_ | refine SD ?_ | refine SA (fun _ => ?_) | refine WL.g_split rfl rfl (fun hc => ?_) (fun hc => ?_) | refine WD.g_split rfl rfl (fun hc => ?_) (fun hc => ?_) | refine W.cond rfl (fun hc => ?_) (fun hc => ?_))
  exact Fin.retW (by exact rfl) resA weakA ⟨rfl, rfl⟩
theorem less16_tr (F : Nat → Option Obj) (a b : Int) : Tr Tryz.prog 97 [.int .u16 a, .int .u16 b].toArray F [] (fun v H => v = .bool (Rm.less16 a b) ∧ H = []) := by
  refine Tr.enter Tryz.func97 rfl Tryz.ntmps97 rfl (fun w0 => ?_)
  repeat' (first | refine S1 ?_ | refine SD ?_ | refine SA (fun _ => ?_) | refine WL.g_split rfl rfl (fun hc => ?_) (fun hc => ?_) | refine WD.g_split rfl rfl (fun hc => ?_) (fun hc => ?_) | refine W.cond rfl (fun hc => ?_) (fun hc => ?_))
  refine WL.e rfl (Ef.callR (by exact rfl) subA (ahead16_tr _ a b)) ?_
  rintro _ _ ⟨rfl, rfl⟩
  repeat' (first | refine S1 ?_ | refine SD ?_ | refine SA (fun _ => ?_) | refine WL.g_split rfl rfl (fun hc => ?_) (fun hc => ?_) | refine WD.g_split rfl rfl (fun hc => ?_) (fun hc => ?_) | refine W.cond rfl (fun hc => ?_) (fun hc => ?_))
  · refine Fin.retW (by exact rfl) resA weakA ⟨?_, rfl⟩
    have e : (Int.fdiv (IntKind.u16.wrap (BitVec.ofInt IntKind.u16.bits (if IntKind.u16.signed = true then -1 else IntKind.u16.max) ^^^ BitVec.ofInt IntKind.u16.bits (IntKind.u16.wrap 0)).toNat) (2 ^ min (1 : Int).toNat IntKind.u16.bits)) = 32767 := by decide
    simp only [Rm.less16, hc, Bool.true_and, tup]
    rw [e]
  · refine Fin.retW (by exact rfl) resA weakA ⟨?_, rfl⟩
    simp only [Rm.less16, hc, Bool.false_and, tup]
theorem less32_tr (F : Nat → Option Obj) (a b : Int) : Tr Tryz.prog 81 [.int .u32 a, .int .u32 b].toArray F [] (fun v H => v = .bool (Rm.less32 a b) ∧ H = []) := by
  refine Tr.enter Tryz.func81 rfl Tryz.ntmps81 rfl (fun w0 => ?_)
  repeat' (first | refine S1 ?_ | refine SD ?_ | refine SA (fun _ => ?_) | refine WL.g_split rfl rfl (fun hc => ?_) (fun hc => ?_) | refine WD.g_split rfl rfl (fun hc => ?_) (fun hc => ?_) | refine W.cond rfl (fun hc => ?_) (fun hc => ?_))
  refine WL.e rfl (Ef.callR (by exact rfl) subA (ahead32_tr _ a b)) ?_
  rintro _ _ ⟨rfl, rfl⟩
  repeat' (first | refine S1 ?_ | refine SD ?_ | refine SA (fun _ => ?_) | refine WL.g_split rfl rfl (fun hc => ?_) (fun hc => ?_) | refine WD.g_split rfl rfl (fun hc => ?_) (fun hc => ?_) | refine W.cond rfl (fun hc => ?_) (fun hc => ?_))
  · refine Fin.retW (by exact rfl) resA weakA ⟨?_, rfl⟩
    have e : (Int.fdiv (IntKind.u32.wrap (BitVec.ofInt IntKind.u32.bits (if IntKind.u32.signed = true then -1 else IntKind.u32.max) ^^^ BitVec.ofInt IntKind.u32.bits (IntKind.u32.wrap 0)).toNat) (2 ^ min (1 : Int).toNat IntKind.u32.bits)) = 2147483647 := by decide
    simp only [Rm.less32, hc, Bool.true_and, tup]
    rw [e]
  · refine Fin.retW (by exact rfl) resA weakA ⟨?_, rfl⟩
    simp only [Rm.less32, hc, Bool.false_and, tup]

/-- a copy of bytes -/
theorem clone_tr (F : Nat → Option Obj) (H : HL) (a : Addr) (c m : Nat) (bs : List UInt8) (hs : Src F H (.slice (some a) m c) m (bs.map B)) (hm : bs.length = m) (hb : m ≤ 1000000000) :
    Tr Tryz.prog 98 [.slice (some a) m c].toArray F H (fun v H' => ∃ sa sn sc hb, v = .slice sa sn sc ∧ OwnS 5 1 (bs.map B) v hb ∧ H' = hb ++ H) := by
  refine Tr.enter Tryz.func98 rfl Tryz.ntmps98 rfl (fun w0 => ?_)
  repeat' (first | refine S1 ?_ | refine SD ?_ | refine SA (fun _ => ?_) | refine WL.g_split rfl rfl (fun hc => ?_) (fun hc => ?_) | refine WD.g_split rfl rfl (fun hc => ?_) (fun hc => ?_) | refine W.cond rfl (fun hc => ?_) (fun hc => ?_))
  rename_i b0
  refine WL.e rfl (Ef.app (m := m) (news := bs.map B) (by exact rfl) (by exact rfl) rfl rfl (OwnS.empty _ _ b0) subA (Src.mono hs weakA) (by simp [hm]) (B_one bs) (by simp [hm]; omega) (by simp [hm, maxLen]; omega)) ?_
  rintro v' _ ⟨hb', hown, rfl⟩
  repeat' (first | refine S1 ?_ | refine SD ?_ | refine SA (fun _ => ?_) | refine WL.g_split rfl rfl (fun hc => ?_) (fun hc => ?_) | refine WD.g_split rfl rfl (fun hc => ?_) (fun hc => ?_) | refine W.cond rfl (fun hc => ?_) (fun hc => ?_))
  obtain ⟨sa, sn, sc, rfl, _, _⟩ := OwnS.shape hown
  refine Fin.retW (by exact rfl) resA (fun _ h => h) ?_
  exact ⟨sa, sn, sc, hb', rfl, by simpa [tup] using hown, rfl⟩

/-- a message in memory -/
structure Ms where
  g : Mg
  sa : Option Addr
  sn : Nat
  sc : Nat
  hb : HL
def Ms.bv (m : Ms) : Value := .slice m.sa m.sn m.sc
def Ms.cells (m : Ms) : List Value := [.int .u16 m.g.stream, .bool m.g.ordered, m.bv]
def Ms.ok (m : Ms) : Prop := OwnS 5 1 (m.g.bytes.map B) m.bv m.hb

/-- the reassembler in memory -/
structure RM where
  R : Nat
  M : Nat
  N : Nat
  ps : List Pc
  clk : Nat
  turns : Int
  nx : List Int
  ra : Option Addr
  rn : Nat
  rc : Nat
  rhb : HL
  ms : List Ms
  held : Int
def RM.cells (s : RM) : List Value := [.map (some s.M), .int .i64 s.turns, .slice (some ⟨s.N, 0, none⟩) s.nx.length s.nx.length, .slice s.ra s.rn s.rc, .int .i64 s.held]
/-- its three blocks; what the row and the pieces bear -/
def RM.core (s : RM) : HL := [(s.R, .cells s.cells.toArray 100 (0, 0)), (s.M, .map (s.ps.map Pc.ent).toArray s.clk), (s.N, .cells (s.nx.map (Value.int .u16)).toArray 36 (0, 0))]
def RM.phb (s : RM) : HL := s.ps.flatMap (·.hb)
def RM.mhb (s : RM) : HL := s.ms.flatMap (·.hb)
def RM.H (s : RM) : HL := s.core ++ (s.rhb ++ (s.mhb ++ s.phb))
def RM.L (s : RM) : List D := s.ps.map (·.d)
def RM.row (s : RM) : List Mg := s.ms.map (·.g)
structure RM.ok (s : RM) : Prop where
  pok : ∀ p ∈ s.ps, p.ok
  mok : ∀ m ∈ s.ms, m.ok
  row : OwnS 39 3 (s.ms.flatMap Ms.cells) (.slice s.ra s.rn s.rc) s.rhb
  born : (s.ps.map (·.born)).Nodup
  old : ∀ p ∈ s.ps, p.born < s.clk
  turn : s.ps.Pairwise (fun p q => p.turn < q.turn)
  turns : ∀ p ∈ s.ps, 0 ≤ p.turn ∧ p.turn < s.turns
  keys : (s.ps.map (·.d.tsn)).Nodup
  wf : ∀ p ∈ s.ps, 0 ≤ p.d.tsn ∧ p.d.tsn < 4294967296
  held : s.held = totD s.L + totM s.row
  few : (s.ps.length + s.ms.length : Int) ≤ s.turns
  bound : s.turns ≤ 1000000
  fine : totD s.L + totM s.row ≤ 1000000000

theorem Ms.len {m : Ms} (h : m.ok) : m.sn = m.g.bytes.length := by
  obtain ⟨_, _, _, he, hl, _⟩ := OwnS.shape h
  cases he; simpa using hl.symm
theorem Pc.len {p : Pc} (h : p.ok) : p.sn = p.d.bytes.length := by
  obtain ⟨_, _, _, he, hl, _⟩ := OwnS.shape h
  cases he; simpa using hl.symm
theorem flat_len (ms : List Ms) : (ms.flatMap Ms.cells).length = ms.length * 3 := by
  induction ms with
  | nil => rfl
  | cons m ms ih => simp [Ms.cells, ih]; omega
theorem RM.ok.rlen {s : RM} (h : s.ok) : s.rn = s.ms.length := by
  obtain ⟨_, _, _, he, hl, _⟩ := OwnS.shape h.row
  cases he
  rw [flat_len] at hl
  omega

theorem held_tr (F : Nat → Option Obj) (s : RM) : Tr Tryz.prog 44 [.pointer (some ⟨s.R, 0, none⟩)].toArray F s.core (fun v H => v = .int .i64 s.held ∧ H = s.core) := by
  refine Tr.enter Tryz.func44 rfl Tryz.ntmps44 rfl (fun w0 => ?_)
  unfold RM.core
  repeat' (first | refine S1 ?_ | refine SD ?_ | refine SA (fun _ => ?_) | refine WL.g_split rfl rfl (fun hc => ?_) (fun hc => ?_) | refine WD.g_split rfl rfl (fun hc => ?_) (fun hc => ?_) | refine W.cond rfl (fun hc => ?_) (fun hc => ?_))
  exact Fin.retW (by exact rfl) resA (fun _ h => h) ⟨rfl, rfl⟩
theorem rdy_tr (F : Nat → Option Obj) (s : RM) : Tr Tryz.prog 46 [.pointer (some ⟨s.R, 0, none⟩)].toArray F s.core (fun v H => v = .int .i64 s.rn ∧ H = s.core) := by
  refine Tr.enter Tryz.func46 rfl Tryz.ntmps46 rfl (fun w0 => ?_)
  unfold RM.core
  repeat' (first | refine S1 ?_ | refine SD ?_ | refine SA (fun _ => ?_) | refine WL.g_split rfl rfl (fun hc => ?_) (fun hc => ?_) | refine WD.g_split rfl rfl (fun hc => ?_) (fun hc => ?_) | refine W.cond rfl (fun hc => ?_) (fun hc => ?_))
  exact Fin.retW (by exact rfl) resA (fun _ h => h) ⟨rfl, rfl⟩
theorem held_nil (F : Nat → Option Obj) : Tr Tryz.prog 44 [.pointer none].toArray F [] (fun v H => v = .int .i64 0 ∧ H = []) := by
  refine Tr.enter Tryz.func44 rfl Tryz.ntmps44 rfl (fun w0 => ?_)
  repeat' (first | refine S1 ?_ | refine SD ?_ | refine SA (fun _ => ?_) | refine WL.g_split rfl rfl (fun hc => ?_) (fun hc => ?_) | refine WD.g_split rfl rfl (fun hc => ?_) (fun hc => ?_) | refine W.cond rfl (fun hc => ?_) (fun hc => ?_))
  exact Fin.retW (by exact rfl) resA (fun _ h => h) ⟨rfl, rfl⟩
theorem rdy_nil (F : Nat → Option Obj) : Tr Tryz.prog 46 [.pointer none].toArray F [] (fun v H => v = .int .i64 0 ∧ H = []) := by
  refine Tr.enter Tryz.func46 rfl Tryz.ntmps46 rfl (fun w0 => ?_)
  repeat' (first | refine S1 ?_ | refine SD ?_ | refine SA (fun _ => ?_) | refine WL.g_split rfl rfl (fun hc => ?_) (fun hc => ?_) | refine WD.g_split rfl rfl (fun hc => ?_) (fun hc => ?_) | refine W.cond rfl (fun hc => ?_) (fun hc => ?_))
  exact Fin.retW (by exact rfl) resA (fun _ h => h) ⟨rfl, rfl⟩

theorem erase_ent (ps : List Pc) (n : Int) : (ps.map Pc.ent).eraseP (isKey n) = (ps.eraseP (fun q => n == q.d.tsn)).map Pc.ent := by
  rw [List.eraseP_map]
  rfl
/-- a piece goes -/
theorem drop_tr (F : Nat → Option Obj) (s : RM) (p : Pc) :
    Tr Tryz.prog 109 [.pointer (some ⟨s.R, 0, none⟩), .agg p.cells.toArray].toArray F s.core
      (fun v H => v = .tuple #[] ∧ H = ({ s with ps := s.ps.eraseP (fun q => p.d.tsn == q.d.tsn), held := IntKind.i64.wrap (s.held - p.sn) } : RM).core) := by
  refine Tr.enter Tryz.func109 rfl Tryz.ntmps109 rfl (fun w0 => ?_)
  unfold RM.core
  repeat' (first | refine S1 ?_ | refine SD ?_ | refine SA (fun _ => ?_) | refine WL.g_split rfl rfl (fun hc => ?_) (fun hc => ?_) | refine WD.g_split rfl rfl (fun hc => ?_) (fun hc => ?_) | refine W.cond rfl (fun hc => ?_) (fun hc => ?_))
  refine WD.e0 (Ef.del (n := p.d.tsn) rfl rfl (by repeat (first | exact MapAt.here | apply MapAt.there | apply MapAt.right)) (keysOk_ent s.ps)) ?_
  rintro _ _ ⟨rfl, rfl⟩
  refine ⟨by first | (refine Or.inr (fun _ h => h.sublist ?_); (repeat (first | exact List.Sublist.refl _ | refine List.Sublist.cons_cons _ ?_ | refine List.Sublist.cons _ ?_)); first | done | fail) | exact Or.inl (by kernel_rfl), ?_⟩
  repeat' (first | refine S1 ?_ | refine SD ?_ | refine SA (fun _ => ?_) | refine WL.g_split rfl rfl (fun hc => ?_) (fun hc => ?_) | refine WD.g_split rfl rfl (fun hc => ?_) (fun hc => ?_) | refine W.cond rfl (fun hc => ?_) (fun hc => ?_))
  refine Fin.endW (by exact rfl) resA ?_ ⟨rfl, rfl⟩
  intro w h
  have e : (s.ps.map Pc.ent).eraseP (isKey p.d.tsn) = (s.ps.eraseP (fun q => p.d.tsn == q.d.tsn)).map Pc.ent := erase_ent _ _
  rw [e] at h
  exact h.sublist (by (repeat (first | exact List.Sublist.refl _ | refine List.Sublist.cons_cons _ ?_ | refine List.Sublist.cons _ ?_)))

theorem CutAt.mid {b : Nat} {pre x rest : List Value} {T : TypeId} {fr : Nat × Nat} {H : HL} {off n : Nat} (ho : off = pre.length) (hn : n = x.length) : CutAt b off n x ((b, .cells (pre ++ x ++ rest).toArray T fr) :: H) :=
  .here (by subst ho hn; unfold cut; rw [dropK_eq, if_pos (by simp), takeK_eq, if_pos (by simp)]; simp)

theorem CutAt.mid' {b : Nat} {l pre x rest : List Value} {T : TypeId} {fr : Nat × Nat} {H : HL} {off n : Nat} (hl : l = pre ++ x ++ rest) (ho : off = pre.length) (hn : n = x.length) : CutAt b off n x ((b, .cells l.toArray T fr) :: H) := by
  subst hl; exact CutAt.mid ho hn

set_option maxHeartbeats 4000000 in
theorem take_some (F : Nat → Option Obj) (s : RM) (hs : s.ok) (m : Ms) (ms' : List Ms) (hms : s.ms = m :: ms') :
    Tr Tryz.prog 57 [.pointer (some ⟨s.R, 0, none⟩)].toArray F (s.core ++ s.rhb)
      (fun v H => ∃ ra' rc', v = tup [.agg m.cells.toArray, .bool true] ∧ OwnS 39 3 (ms'.flatMap Ms.cells) (.slice ra' ms'.length rc') s.rhb ∧
        H = ({ s with ms := ms', ra := ra', rn := ms'.length, rc := rc', held := IntKind.i64.wrap (s.held - m.sn) } : RM).core ++ s.rhb) := by
  obtain ⟨R, M, N, ps, clk, turns, nx, ra, rn, rc, rhb, ms, held⟩ := s
  have hrow := hs.row
  have hlen := hs.rlen
  dsimp only at hms hrow hlen ⊢
  subst hms
  simp only [List.flatMap_cons, List.length_cons] at hrow hlen
  have htail := OwnS.tail (by rfl) (by omega) hrow
  rcases hrow with ⟨_, hn, _⟩ | ⟨g, n, cap, pre, spare, post, he, hrhb, hl, hc, hsp, hm⟩
  · simp [Ms.cells] at hn
  · cases he
    subst hlen
    refine Tr.enter Tryz.func57 rfl Tryz.ntmps57 rfl (fun w0 => ?_)
    subst hrhb
    dsimp only [RM.core, RM.cells, List.cons_append, List.nil_append]
    repeat' (first | refine S1 ?_ | refine SD ?_ | refine SA (fun _ => ?_) | refine WL.g_split rfl rfl (fun hc => ?_) (fun hc => ?_) | refine WD.g_split rfl rfl (fun hc => ?_) (fun hc => ?_) | refine W.cond rfl (fun hc => ?_) (fun hc => ?_))
    refine WL.p rfl (Pu.ia rfl rfl (by omega)) ?_
    refine WL.s rfl (Rd.lda (r := m.cells) rfl (.there (.there (.there (.there (CutAt.mid' (pre := pre) (rest := ms'.flatMap Ms.cells ++ spare ++ post) (by simp) (by simp) rfl)))))) ?_
    repeat' (first | refine S1 ?_ | refine SD ?_ | refine SA (fun _ => ?_) | refine WL.g_split rfl rfl (fun hc => ?_) (fun hc => ?_) | refine WD.g_split rfl rfl (fun hc => ?_) (fun hc => ?_) | refine W.cond rfl (fun hc => ?_) (fun hc => ?_))
    refine WL.p rfl (Pu.slLo rfl rfl (by omega)) ?_
    repeat' (first | refine S1 ?_ | refine SD ?_ | refine SA (fun _ => ?_) | refine WL.g_split rfl rfl (fun hc => ?_) (fun hc => ?_) | refine WD.g_split rfl rfl (fun hc => ?_) (fun hc => ?_) | refine W.cond rfl (fun hc => ?_) (fun hc => ?_))
    refine Fin.retW (by exact rfl) resA (fun _ h => h.sublist (.cons _ (.cons _ (.refl _)))) ?_
    exact ⟨_, _, rfl, htail, rfl⟩

theorem take_none (F : Nat → Option Obj) (s : RM) (hs : s.ok) (hms : s.ms = []) :
    Tr Tryz.prog 57 [.pointer (some ⟨s.R, 0, none⟩)].toArray F s.core (fun v H => v = tup [.agg [.int .u16 0, .bool false, .slice none 0 0].toArray, .bool false] ∧ H = s.core) := by
  refine Tr.enter Tryz.func57 rfl Tryz.ntmps57 rfl (fun w0 => ?_)
  have e0 : s.rn = 0 := by rw [hs.rlen, hms]; rfl
  unfold RM.core
  repeat' (first | refine S1 ?_ | refine SD ?_ | refine SA (fun _ => ?_) | refine WL.g_split rfl rfl (fun hc => ?_) (fun hc => ?_) | refine WD.g_split rfl rfl (fun hc => ?_) (fun hc => ?_) | refine W.cond rfl (fun hc => ?_) (fun hc => ?_))
  · refine Fin.retW (by exact rfl) resA weakA ⟨rfl, rfl⟩
  · simp [e0] at hc
theorem take_nil (F : Nat → Option Obj) :
    Tr Tryz.prog 57 [.pointer none].toArray F [] (fun v H => v = tup [.agg [.int .u16 0, .bool false, .slice none 0 0].toArray, .bool false] ∧ H = []) := by
  refine Tr.enter Tryz.func57 rfl Tryz.ntmps57 rfl (fun w0 => ?_)
  repeat' (first | refine S1 ?_ | refine SD ?_ | refine SA (fun _ => ?_) | refine WL.g_split rfl rfl (fun hc => ?_) (fun hc => ?_) | refine WD.g_split rfl rfl (fun hc => ?_) (fun hc => ?_) | refine W.cond rfl (fun hc => ?_) (fun hc => ?_))
  refine Fin.retW (by exact rfl) resA weakA ⟨rfl, rfl⟩
end Go.Proofs.YthjglhdjlmjffaaGreat
