/- The document's reassembler in memory, and its methods 'at', 'same', 'whole', walked: they answer as the plain functions do, and leave what they were handed. Condition: fewer than 2^32 - 8 pieces. -/
import Derived.Test.YthjglhdjlmjffaaGreatRmK2
import Derived.Test.YthjglhdjlmjffaaGreatBb
import Derived.Test.YthjglhdjlmjffaaGreatBa
namespace Go.Proofs.YthjglhdjlmjffaaGreat
open Go Go.Sl Go.Rm


/-- a piece in memory -/
structure Pd where
  d : D
  sa : Option Addr
  sn : Nat
  sc : Nat
  hb : HL
def Pd.bv (p : Pd) : Value := .slice p.sa p.sn p.sc
def Pd.cells (p : Pd) : List Value := [.int .u32 p.d.tsn, .int .u16 p.d.stream, .int .u16 p.d.ssn, .bool p.d.un, .bool p.d.fi, .bool p.d.la, p.bv]
def Pd.ok (p : Pd) : Prop := OwnS 5 1 (p.d.bytes.map B) p.bv p.hb
theorem Pd.len {p : Pd} (h : p.ok) : p.sn = p.d.bytes.length := by
  obtain ⟨_, _, _, he, hl, _⟩ := OwnS.shape h
  cases he; simpa using hl.symm
/-- the document's reassembler in memory -/
structure RF where
  R : Nat
  N : Nat
  ps : List Pd
  nx : List Int
  la : Option Addr
  ln : Nat
  lc : Nat
  lhb : HL
  ms : List Ms
  ra : Option Addr
  rn : Nat
  rc : Nat
  rhb : HL
def RF.cells (s : RF) : List Value := [.slice s.la s.ln s.lc, .slice (some ⟨s.N, 0, none⟩) s.nx.length s.nx.length, .slice s.ra s.rn s.rc]
def RF.core (s : RF) : HL := [(s.R, .cells s.cells.toArray 109 (0, 0)), (s.N, .cells (s.nx.map (Value.int .u16)).toArray 36 (0, 0))]
def RF.phb (s : RF) : HL := s.ps.flatMap (·.hb)
def RF.mhb (s : RF) : HL := s.ms.flatMap (·.hb)
def RF.H (s : RF) : HL := s.core ++ (s.rhb ++ (s.lhb ++ (s.mhb ++ s.phb)))
def RF.L (s : RF) : List D := s.ps.map (·.d)
def RF.row (s : RF) : List Mg := s.ms.map (·.g)
def RF.S (s : RF) : Rm.S := ⟨s.L, s.row, s.nx⟩
structure RF.ok (s : RF) : Prop where
  pok : ∀ p ∈ s.ps, p.ok
  mok : ∀ m ∈ s.ms, m.ok
  lst : OwnS 48 7 (s.ps.flatMap Pd.cells) (.slice s.la s.ln s.lc) s.lhb
  row : OwnS 39 3 (s.ms.flatMap Ms.cells) (.slice s.ra s.rn s.rc) s.rhb
  keys : (s.L.map (·.tsn)).Nodup
  wf : ∀ p ∈ s.ps, 0 ≤ p.d.tsn ∧ p.d.tsn < 4294967296
  few : s.ps.length + s.ms.length ≤ 1000
  fine : totD s.L + totM s.row ≤ 1000000000
/-- it can be looked at -/
structure Sees (F : Nat → Option Obj) (H : HL) (s : RF) : Prop where
  l : Sl.Can F H s.R 0 [.slice s.la s.ln s.lc]
  n : Sl.Can F H s.R 1 [.slice (some ⟨s.N, 0, none⟩) s.nx.length s.nx.length]
  r : Sl.Can F H s.R 2 [.slice s.ra s.rn s.rc]
  lst : Lst F H 7 (s.ps.flatMap Pd.cells) s.la s.ln s.lc
  nx : Sl.Can F H s.N 0 (s.nx.map (Value.int .u16))
  row : Lst F H 3 (s.ms.flatMap Ms.cells) s.ra s.rn s.rc
theorem Sees.mono {F F' : Nat → Option Obj} {H H' : HL} {s : RF} (h : Sees F H s) (hw : ∀ w, In F' H' w → In F H w) : Sees F' H' s :=
  ⟨h.l.mono hw, h.n.mono hw, h.r.mono hw, h.lst.mono hw, h.nx.mono hw, h.row.mono hw⟩
theorem Sees.any {F : Nat → Option Obj} {H : HL} {s : RF} (h : Sees F [] s) : Sees F H s := h.mono (fun _ h => h.sublist (List.nil_sublist _))
theorem cut_all (l : List Value) : Sl.cut l 0 l.length = some l := by
  unfold Sl.cut
  rw [dropK_eq, if_pos (Nat.zero_le _), takeK_eq]
  simp
theorem RF.sees {F : Nat → Option Obj} {s : RF} (hs : s.ok) : Sees F s.H s := by
  have hc : Sl.Can F s.H s.R 0 s.cells := Can.cut (n := 3) (.here rfl)
  refine ⟨hc.one (i := 0) rfl, hc.one (i := 1) rfl, hc.one (i := 2) rfl, Lst.own hs.lst (fun _ h => h.sublist (.cons _ (.cons _ ((List.sublist_append_left _ _).trans (List.sublist_append_right _ _))))), Can.cut (n := (s.nx.map (Value.int .u16)).length) (.there (.here (cut_all _))),
    Lst.own hs.row (fun _ h => h.sublist (.cons _ (.cons _ (List.sublist_append_left _ _))))⟩
theorem Sees.ln {F : Nat → Option Obj} {H : HL} {s : RF} (h : Sees F H s) : s.ln = s.ps.length := by
  have := h.lst.len; rw [flat_len' Pd.cells 7 (fun _ => rfl)] at this; omega
theorem Sees.rn {F : Nat → Option Obj} {H : HL} {s : RF} (h : Sees F H s) : s.rn = s.ms.length := by
  have := h.row.len; rw [flat_len' Ms.cells 3 (fun _ => rfl)] at this; omega
theorem Sees.piece {F : Nat → Option Obj} {H : HL} {s : RF} (h : Sees F H s) {i : Nat} {p : Pd} (hp : s.ps[i]? = some p) : ∃ b off, s.la = some ⟨b, off, none⟩ ∧ Sl.Can F H b (off + (i : Int).toNat * 7) p.cells :=
  h.lst.el (fun _ => rfl) hp (by rw [h.ln]; have := (List.getElem?_eq_some_iff.1 hp).1; omega)
theorem L_get {s : RF} {i : Nat} {d : D} (h : s.L[i]? = some d) : ∃ p, s.ps[i]? = some p ∧ p.d = d := by
  unfold RF.L at h
  rw [List.getElem?_map] at h
  cases hp : s.ps[i]? with
  | none => simp [hp] at h
  | some p => exact ⟨p, rfl, by simpa [hp] using h⟩

theorem rless16_tr (F : Nat → Option Obj) (a b : Int) : Tr Tryz.prog 88 [.int .u16 a, .int .u16 b].toArray F [] (fun v H => v = .bool (Rm.less16 a b) ∧ H = []) := by
  refine Tr.enter Tryz.func88 rfl Tryz.ntmps88 rfl (fun w0 => ?_)
  repeat' (first | refine S1 ?_ | refine SD ?_ | refine SA (fun _ => ?_) | refine WL.g_split rfl rfl (fun hc => ?_) (fun hc => ?_) | refine WD.g_split rfl rfl (fun hc => ?_) (fun hc => ?_) | refine W.cond rfl (fun hc => ?_) (fun hc => ?_))
  all_goals refine Fin.weakH (fun _ h => h.sublist (List.nil_sublist _)) (Fin.ret_tmp (by exact rfl) (by exact rfl) ⟨?_, rfl⟩)
  · have h1 : u16 (b - a) ≥ 1 := of_decide_eq_true hc
    congr 1
    unfold Rm.less16
    change decide (u16 (b - a) < 32768) = _
    generalize u16 (b - a) = y at *
    rw [Bool.eq_iff_iff]
    simp
    omega
  · have h1 : ¬ u16 (b - a) ≥ 1 := of_decide_eq_false hc
    congr 1
    unfold Rm.less16
    generalize u16 (b - a) = y at *
    rw [Bool.eq_iff_iff]
    simp
    omega
theorem rless32_tr (F : Nat → Option Obj) (a b : Int) : Tr Tryz.prog 92 [.int .u32 a, .int .u32 b].toArray F [] (fun v H => v = .bool (Rm.less32 a b) ∧ H = []) := by
  refine Tr.enter Tryz.func92 rfl Tryz.ntmps92 rfl (fun w0 => ?_)
  repeat' (first | refine S1 ?_ | refine SD ?_ | refine SA (fun _ => ?_) | refine WL.g_split rfl rfl (fun hc => ?_) (fun hc => ?_) | refine WD.g_split rfl rfl (fun hc => ?_) (fun hc => ?_) | refine W.cond rfl (fun hc => ?_) (fun hc => ?_))
  all_goals refine Fin.weakH (fun _ h => h.sublist (List.nil_sublist _)) (Fin.ret_tmp (by exact rfl) (by exact rfl) ⟨?_, rfl⟩)
  · have h1 : u32 (b - a) ≥ 1 := of_decide_eq_true hc
    congr 1
    unfold Rm.less32
    change decide (u32 (b - a) < 2147483648) = _
    generalize u32 (b - a) = y at *
    rw [Bool.eq_iff_iff]
    simp
    omega
  · have h1 : ¬ u32 (b - a) ≥ 1 := of_decide_eq_false hc
    congr 1
    unfold Rm.less32
    generalize u32 (b - a) = y at *
    rw [Bool.eq_iff_iff]
    simp
    omega
theorem rsame_tr (F : Nat → Option Obj) (p q : Pd) : Tr Tryz.prog 111 [.agg p.cells.toArray, .agg q.cells.toArray].toArray F [] (fun v H => v = .bool (Rm.mates p.d q.d) ∧ H = []) := by
  refine Tr.enter Tryz.func111 rfl Tryz.ntmps111 rfl (fun w0 => ?_)
  repeat' (first | refine S1 ?_ | refine SD ?_ | refine SA (fun _ => ?_) | refine WL.g_split rfl rfl (fun hc => ?_) (fun hc => ?_) | refine WD.g_split rfl rfl (fun hc => ?_) (fun hc => ?_) | refine W.cond rfl (fun hc => ?_) (fun hc => ?_))
  all_goals refine Fin.weakH (fun _ h => h.sublist (List.nil_sublist _)) (Fin.ret_tmp (by exact rfl) (by exact rfl) ⟨?_, rfl⟩)
  all_goals simp_all [Rm.mates]

set_option maxHeartbeats 4000000 in
theorem rat_tr (F : Nat → Option Obj) (s : RF) (hs : Sees F [] s) (hfew : s.ps.length ≤ 1000000) (t : Int) :
    Tr Tryz.prog 87 [.pointer (some ⟨s.R, 0, none⟩), .int .u32 t].toArray F [] (fun v H => v = .int .i64 (ixAt s.L t) ∧ H = []) := by
  refine Tr.enter Tryz.func87 rfl Tryz.ntmps87 rfl (fun w0 => ?_)
  have hln := hs.ln
  have hl := hs.l
  repeat' (first | refine S1 ?_ | refine SD ?_ | refine SA (fun _ => ?_) | refine WL.g_split rfl rfl (fun hc => ?_) (fun hc => ?_) | refine WD.g_split rfl rfl (fun hc => ?_) (fun hc => ?_) | refine W.cond rfl (fun hc => ?_) (fun hc => ?_))
  refine W.loop (G := Nat) (fun g => [(0, .pointer (some ⟨s.R, 0, none⟩)), (1, .int .u32 t), (5, .int .i64 g)]) (fun _ => []) (fun g => g ≤ s.ps.length ∧ ∀ j : Nat, j < g → ∀ e, s.L[j]? = some e → e.tsn ≠ t) (fun g => s.ps.length - g) 0
    ⟨Nat.zero_le _, fun j h => by omega⟩ envA (fun _ h => h) ?_
  rintro i ⟨hi, hno⟩
  try dsimp only at hi hno ⊢
  repeat' (first | refine S1 ?_ | refine SD ?_ | refine SA (fun _ => ?_) | refine WL.g_split rfl rfl (fun hc => ?_) (fun hc => ?_) | refine WD.g_split rfl rfl (fun hc => ?_) (fun hc => ?_) | refine W.cond rfl (fun hc => ?_) (fun hc => ?_))
  · have hi' : i < s.ps.length := by simp at hc; omega
    obtain ⟨p, hp⟩ : ∃ p, s.ps[i]? = some p := ⟨s.ps[i]'hi', by simp⟩
    have hd : s.L[i]? = some p.d := by unfold RF.L; rw [List.getElem?_map, hp]; rfl
    obtain ⟨b, off, hla, hcan⟩ := hs.piece hp
    rw [hla] at hl ⊢
    have hia : 0 ≤ (i : Int) ∧ (i : Int) < s.ln := by omega
    have hT : Sl.Can F [] b (off + (i : Int).toNat * 7 + 0) [.int .u32 p.d.tsn] := hcan.one (i := 0) rfl
    repeat' (first | refine S1 ?_ | refine SD ?_ | refine SA (fun _ => ?_) | refine WL.g_split rfl rfl (fun hc => ?_) (fun hc => ?_) | refine WD.g_split rfl rfl (fun hc => ?_) (fun hc => ?_) | refine W.cond rfl (fun hc => ?_) (fun hc => ?_))
    · refine Fin.retW (by exact rfl) resA (fun _ h => h) ⟨?_, rfl⟩
      rw [(ix_first hd (by simpa using hc) hno).2]
      rfl
    · have hne : p.d.tsn ≠ t := by simpa using hc
      rw [i64_succ (by omega)]
      refine Fin.round (i + 1) ⟨hi', fun j hj e he => ?_⟩ envA (fun _ h => h) (by omega)
      rcases Nat.lt_or_ge j i with h | h
      · exact hno j h e he
      · obtain rfl : j = i := by omega
        rw [hd] at he
        cases he
        exact hne
  · refine Fin.retW (by exact rfl) resA (fun _ h => h) ⟨?_, rfl⟩
    rw [ix_none (at_none_of (fun j hj => hno j (by simp [RF.L] at hj; simp at hc; omega)))]
    rfl

structure WR where
  k : Nat
  f : Int
  q : Pd
  i : Nat
structure WR2 where
  k : Nat
  f : Int
  q : Pd
  i : Nat
  ia : Option Addr
  inn : Nat
  ic : Nat
  ihb : HL
def ixV (l : List Int) : List Value := l.map (Value.int .i64)
theorem ix_len {L : List D} (h : L.length ≤ 1000000) (t : Int) : ixAt L t < 1000000 := by
  cases hat : at? L t with
  | none => rw [ix_none hat]; omega
  | some d =>
    obtain ⟨i, h1, h2⟩ := ix_some hat
    have := (List.getElem?_eq_some_iff.1 h2).1
    omega
theorem own_none {L : List D} {p : D} (h : whole L p = none) : OwnS 3 1 (ixV (wholeIx L p)) (.slice none 0 0) [] := .inl ⟨rfl, by rw [wholeIx_nil.2 h]; rfl, rfl⟩
set_option maxHeartbeats 8000000 in
theorem rwhole_tr (F : Nat → Option Obj) (s : RF) (hs : Sees F [] s) (hfew : s.ps.length ≤ 1000000) (hwf : ∀ d ∈ s.L, 0 ≤ d.tsn ∧ d.tsn < 4294967296) (t : Int) (pd : D) (hpd : at? s.L t = some pd) :
    Tr Tryz.prog 90 [.pointer (some ⟨s.R, 0, none⟩), .int .u32 t].toArray F [] (fun v H => OwnS 3 1 (ixV (wholeIx s.L pd)) v H) := by
  have hLl : s.L.length = s.ps.length := by simp [RF.L]
  have hln := hs.ln
  have hl := hs.l
  obtain ⟨i0, hi0, hg0⟩ := ix_some hpd
  obtain ⟨p, hp, rfl⟩ := L_get hg0
  have htp := (at_mem hpd).2
  have h32 := hwf _ (at_mem hpd).1
  subst htp
  obtain ⟨b, off, hla, hcan⟩ := hs.piece hp
  have hpl : i0 < s.ps.length := (List.getElem?_eq_some_iff.1 hp).1
  rw [hla] at hl
  have halt := whole_alt hpd h32 (by omega)
  refine Tr.enter Tryz.func90 rfl Tryz.ntmps90 rfl (fun w0 => ?_)
  repeat' (first | refine S1 ?_ | refine SD ?_ | refine SA (fun _ => ?_) | refine WL.g_split rfl rfl (fun hc => ?_) (fun hc => ?_) | refine WD.g_split rfl rfl (fun hc => ?_) (fun hc => ?_) | refine W.cond rfl (fun hc => ?_) (fun hc => ?_))
  refine WL.e rfl (Ef.lookR (by exact rfl) (fun F' hw => rat_tr F' s (hs.any.mono hw) hfew p.d.tsn)) ?_
  rintro _ _ ⟨rfl, rfl⟩
  rw [hi0]
  have hia : 0 ≤ (i0 : Int) ∧ (i0 : Int) < s.ln := by omega
  repeat' (first | refine S1 ?_ | refine SD ?_ | refine SA (fun _ => ?_) | refine WL.g_split rfl rfl (fun hc => ?_) (fun hc => ?_) | refine WD.g_split rfl rfl (fun hc => ?_) (fun hc => ?_) | refine W.cond rfl (fun hc => ?_) (fun hc => ?_))
  rename_i bd
  generalize hbk : back s.L p.d (s.L.length + 1) p.d.tsn p.d = bk
  rw [hbk] at halt
  clear hia hcan
  refine W.loop (G := WR) (fun g => [(0, .pointer (some ⟨s.R, 0, none⟩)), (5, .int .i64 g.i), (6, .pointer (some ⟨bd, 0, none⟩)), (7, .int .u32 g.f)]) (fun _ => [(bd, .cells p.cells.toArray 48 (0, 0))])
    (fun g => g.k ≤ s.L.length ∧ u32 g.f = u32 (p.d.tsn - g.k) ∧ (0 ≤ g.f ∧ g.f < 4294967296) ∧ (∀ i : Nat, 1 ≤ i → i ≤ g.k → ∃ d ∈ s.L, d.tsn = u32 (p.d.tsn + -1 * i)) ∧ bk = back s.L p.d (s.L.length + 1 - g.k) g.f g.q.d ∧ s.ps[g.i]? = some g.q ∧ at? s.L g.f = some g.q.d ∧ ixAt s.L g.f = g.i)
    (fun g => s.L.length - g.k) ⟨0, p.d.tsn, p, i0⟩ ⟨Nat.zero_le _, by simp, h32, fun i h1 h2 => by simp at h2; omega, hbk.symm, hp, hpd, hi0⟩ envA (fun _ h => h) ?_
  rintro ⟨k, f, q, i⟩ ⟨hk, hf, hf32, hvis, hback, hq, hat, hix⟩
  dsimp only at hk hf hf32 hvis hback hq hat hix ⊢
  have hfuel : s.L.length + 1 - k = (s.L.length - k) + 1 := by omega
  rw [hfuel, back] at hback
  obtain ⟨b', off', hla', hcan⟩ := hs.piece hq
  rw [hla] at hla'
  cases hla'
  have hia : 0 ≤ (i : Int) ∧ (i : Int) < s.ln := by have := (List.getElem?_eq_some_iff.1 hq).1; omega
  have hT : Sl.Can F [] b (off + (i : Int).toNat * 7 + 4) [.bool q.d.fi] := hcan.one (i := 4) rfl
  repeat' (first | refine S1 ?_ | refine SD ?_ | refine SA (fun _ => ?_) | refine WL.g_split rfl rfl (fun hc => ?_) (fun hc => ?_) | refine WD.g_split rfl rfl (fun hc => ?_) (fun hc => ?_) | refine W.cond rfl (fun hc => ?_) (fun hc => ?_))
  · have hfi : q.d.fi = false := by simpa using hc
    rw [if_neg (by simp [hfi])] at hback
    refine WL.e rfl (Ef.lookR (by exact rfl) (fun F' hw => rat_tr F' s (hs.any.mono hw) hfew (u32 (f - 1)))) ?_
    rintro _ _ ⟨rfl, rfl⟩
    obtain ⟨s1, _, s3, _⟩ := u32_step f (p.d.tsn - k) hf
    clear hT hia hcan
    cases hat' : at? s.L (u32 (f - 1)) with
    | none =>
      rw [hat'] at hback
      rw [ix_none hat']
      repeat' (first | refine S1 ?_ | refine SD ?_ | refine SA (fun _ => ?_) | refine WL.g_split rfl rfl (fun hc => ?_) (fun hc => ?_) | refine WD.g_split rfl rfl (fun hc => ?_) (fun hc => ?_) | refine W.cond rfl (fun hc => ?_) (fun hc => ?_))
      refine Fin.retW (by exact rfl) resA (fun _ h => h.sublist (List.nil_sublist _)) (own_none ?_)
      rw [halt, hback]
    | some xd =>
      rw [hat'] at hback
      dsimp only at hback
      obtain ⟨j, hj, hjg⟩ := ix_some hat'
      obtain ⟨xx, hxx, rfl⟩ := L_get hjg
      rw [hj]
      obtain ⟨b', off', hla', hcan⟩ := hs.piece hxx
      rw [hla] at hla'
      cases hla'
      have hia : 0 ≤ (j : Int) ∧ (j : Int) < s.ln := by have := (List.getElem?_eq_some_iff.1 hxx).1; omega
      have hT : Sl.Can F [] b (off + (j : Int).toNat * 7 + 5) [.bool xx.d.la] := hcan.one (i := 5) rfl
      have hA := hcan
      repeat' (first | refine S1 ?_ | refine SD ?_ | refine SA (fun _ => ?_) | refine WL.g_split rfl rfl (fun hc => ?_) (fun hc => ?_) | refine WD.g_split rfl rfl (fun hc => ?_) (fun hc => ?_) | refine W.cond rfl (fun hc => ?_) (fun hc => ?_))
      refine WD.e rfl (Ef.callR (by exact rfl) (.nil _) (rsame_tr _ xx p)) ?_
      rintro _ _ ⟨rfl, rfl⟩
      refine ⟨Or.inr (fun _ h => h), ?_⟩
      repeat' (first | refine S1 ?_ | refine SD ?_ | refine SA (fun _ => ?_) | refine WL.g_split rfl rfl (fun hc => ?_) (fun hc => ?_) | refine WD.g_split rfl rfl (fun hc => ?_) (fun hc => ?_) | refine W.cond rfl (fun hc => ?_) (fun hc => ?_))
      · refine Fin.retW (by exact rfl) resA (fun _ h => h.sublist (List.nil_sublist _)) (own_none ?_)
        rw [if_pos (by simp_all)] at hback
        rw [halt, hback]
      · refine Fin.retW (by exact rfl) resA (fun _ h => h.sublist (List.nil_sublist _)) (own_none ?_)
        rw [if_pos (by simp_all)] at hback
        rw [halt, hback]
      · rw [if_neg (by simp_all)] at hback
        have hvis' : ∀ i : Nat, 1 ≤ i → i ≤ k + 1 → ∃ d ∈ s.L, d.tsn = u32 (p.d.tsn + -1 * i) := fun i h1 h2 => by
          rcases Nat.lt_or_ge i (k + 1) with h | h
          · exact hvis i h1 (by omega)
          · obtain rfl : i = k + 1 := by omega
            obtain ⟨h3, h4⟩ := at_mem hat'
            refine ⟨xx.d, h3, h4.trans (s1.trans ?_)⟩
            congr 1; omega
        have hle := run_le (L := s.L) (t := p.d.tsn) (k := k + 1) (-1) (.inr rfl) (by omega) hvis'
        refine Fin.round ⟨k + 1, u32 (f - 1), xx, j⟩ ⟨hle, s3.trans (by congr 1; simp; omega), (by dsimp only; simp only [u32_eq]; omega), hvis', ?_, hxx, hat', hj⟩ envA weakA (by dsimp only; omega)
        rw [hback]
        congr 1
        dsimp only; omega
  · have hfi : q.d.fi = true := by simpa using hc
    rw [if_pos hfi] at hback
    rename_i bl
    rw [hback] at halt
    dsimp only at halt
    rw [hat] at halt
    dsimp only at halt
    clear hvis hT hia hcan
    generalize hfk : forth s.L p.d (s.L.length + 1) f q.d = fk
    rw [hfk] at halt
    have er : run f 0 = [f] := by unfold run; simp [u32_eq]; omega
    refine W.loop (G := WR2) (fun g => [(0, .pointer (some ⟨s.R, 0, none⟩)), (5, .int .i64 g.i), (6, .pointer (some ⟨bd, 0, none⟩)), (7, .int .u32 g.f), (8, .slice g.ia g.inn g.ic)]) (fun g => g.ihb ++ [(bd, .cells p.cells.toArray 48 (0, 0))])
      (fun g => g.k ≤ s.L.length ∧ g.f = u32 (f + g.k) ∧ (∀ i : Nat, 1 ≤ i → i ≤ g.k → ∃ d ∈ s.L, d.tsn = u32 (f + 1 * i)) ∧ fk = forth s.L p.d (s.L.length + 1 - g.k) g.f g.q.d ∧ s.ps[g.i]? = some g.q ∧ OwnS 3 1 (ixV ((run f g.k).map (ixAt s.L))) (.slice g.ia g.inn g.ic) g.ihb)
      (fun g => s.L.length - g.k) ⟨0, f, q, i, some ⟨bl, 0, none⟩, 1, 1, [(bl, .cells #[.int .i64 i] 3 (0, 0))]⟩
      ⟨Nat.zero_le _, by dsimp only; simp only [u32_eq]; omega, fun i h1 h2 => by dsimp only at h2; omega, hfk.symm, hq, .inr ⟨bl, 1, 1, [], [], [], rfl, by rw [er, List.map_cons, hix]; rfl, by rw [er]; rfl, Nat.le_refl _, rfl, by simp [maxLen]⟩⟩ envA (fun _ h => h) ?_
    rintro ⟨k2, f2, q2, i2, ia, inn, ic, ihb⟩ ⟨hk2, hf2, hvis2, hforth, hq2, hown⟩
    dsimp only at hk2 hf2 hvis2 hforth hq2 hown ⊢
    have hfuel2 : s.L.length + 1 - k2 = (s.L.length - k2) + 1 := by omega
    rw [hfuel2, forth] at hforth
    obtain ⟨b', off', hla', hcan⟩ := hs.piece hq2
    rw [hla] at hla'
    cases hla'
    have hia : 0 ≤ (i2 : Int) ∧ (i2 : Int) < s.ln := by have := (List.getElem?_eq_some_iff.1 hq2).1; omega
    have hT : Sl.Can F [] b (off + (i2 : Int).toNat * 7 + 5) [.bool q2.d.la] := hcan.one (i := 5) rfl
    repeat' (first | refine S1 ?_ | refine SD ?_ | refine SA (fun _ => ?_) | refine WL.g_split rfl rfl (fun hc => ?_) (fun hc => ?_) | refine WD.g_split rfl rfl (fun hc => ?_) (fun hc => ?_) | refine W.cond rfl (fun hc => ?_) (fun hc => ?_))
    · have hfi : q2.d.la = false := by simpa using hc
      rw [if_neg (by simp [hfi])] at hforth
      refine WL.e rfl (Ef.lookR (by exact rfl) (fun F' hw => rat_tr F' s (hs.any.mono hw) hfew (u32 (f2 + 1)))) ?_
      rintro _ _ ⟨rfl, rfl⟩
      have hf2' : u32 (f2 + 1) = u32 (f + (k2 + 1 : Nat)) := by rw [hf2]; simp only [u32_eq]; omega
      clear hT hia hcan
      cases hat' : at? s.L (u32 (f2 + 1)) with
      | none =>
        rw [hat'] at hforth
        rw [ix_none hat']
        repeat' (first | refine S1 ?_ | refine SD ?_ | refine SA (fun _ => ?_) | refine WL.g_split rfl rfl (fun hc => ?_) (fun hc => ?_) | refine WD.g_split rfl rfl (fun hc => ?_) (fun hc => ?_) | refine W.cond rfl (fun hc => ?_) (fun hc => ?_))
        refine Fin.retW (by exact rfl) resA (fun _ h => h.sublist (List.nil_sublist _)) (own_none ?_)
        rw [halt, hforth]
      | some xd =>
        rw [hat'] at hforth
        dsimp only at hforth
        obtain ⟨j, hj, hjg⟩ := ix_some hat'
        obtain ⟨xx, hxx, rfl⟩ := L_get hjg
        rw [hj]
        obtain ⟨b', off', hla', hcan⟩ := hs.piece hxx
        rw [hla] at hla'
        cases hla'
        have hia : 0 ≤ (j : Int) ∧ (j : Int) < s.ln := by have := (List.getElem?_eq_some_iff.1 hxx).1; omega
        have hT : Sl.Can F [] b (off + (j : Int).toNat * 7 + 4) [.bool xx.d.fi] := hcan.one (i := 4) rfl
        have hA := hcan
        repeat' (first | refine S1 ?_ | refine SD ?_ | refine SA (fun _ => ?_) | refine WL.g_split rfl rfl (fun hc => ?_) (fun hc => ?_) | refine WD.g_split rfl rfl (fun hc => ?_) (fun hc => ?_) | refine W.cond rfl (fun hc => ?_) (fun hc => ?_))
        refine WD.e rfl (Ef.callR (by exact rfl) (.nil _) (rsame_tr _ xx p)) ?_
        rintro _ _ ⟨rfl, rfl⟩
        refine ⟨Or.inr (fun _ h => h), ?_⟩
        repeat' (first | refine S1 ?_ | refine SD ?_ | refine SA (fun _ => ?_) | refine WL.g_split rfl rfl (fun hc => ?_) (fun hc => ?_) | refine WD.g_split rfl rfl (fun hc => ?_) (fun hc => ?_) | refine W.cond rfl (fun hc => ?_) (fun hc => ?_))
        · refine Fin.retW (by exact rfl) resA (fun _ h => h.sublist (List.nil_sublist _)) (own_none ?_)
          rw [if_pos (by simp_all)] at hforth
          rw [halt, hforth]
        · refine Fin.retW (by exact rfl) resA (fun _ h => h.sublist (List.nil_sublist _)) (own_none ?_)
          rw [if_pos (by simp_all)] at hforth
          rw [halt, hforth]
        · rw [if_neg (by simp_all)] at hforth
          have hvis' : ∀ i : Nat, 1 ≤ i → i ≤ k2 + 1 → ∃ d ∈ s.L, d.tsn = u32 (f + 1 * i) := fun i h1 h2 => by
            rcases Nat.lt_or_ge i (k2 + 1) with h | h
            · exact hvis2 i h1 (by omega)
            · obtain rfl : i = k2 + 1 := by omega
              obtain ⟨h3, h4⟩ := at_mem hat'
              refine ⟨xx.d, h3, h4.trans (hf2'.trans ?_)⟩
              congr 1; omega
          have hle := run_le (L := s.L) (t := f) (k := k2 + 1) 1 (.inl rfl) (by omega) hvis'
          refine WL.e rfl (Ef.app (m := 1) (news := [.int .i64 j]) (by exact rfl) (by exact rfl) rfl rfl hown (.last (.there .here)) (Src.own (n := 1) (.here rfl)) rfl (fun u hu => by simp at hu; subst hu; rfl) (by simp [ixV, run]; omega) (by simp [ixV, run, maxLen]; omega)) ?_
          rintro v' _ ⟨vb', hown', rfl⟩
          obtain ⟨va', vn', vc', rfl, _, _⟩ := OwnS.shape hown'
          rw [show ixV ((run f k2).map (ixAt s.L)) ++ [.int .i64 j] = ixV ((run f (k2 + 1)).map (ixAt s.L)) by rw [run_snoc, ← hf2', List.map_append, List.map_cons, hj]; simp [ixV]] at hown'
          repeat' (first | refine S1 ?_ | refine SD ?_ | refine SA (fun _ => ?_) | refine WL.g_split rfl rfl (fun hc => ?_) (fun hc => ?_) | refine WD.g_split rfl rfl (fun hc => ?_) (fun hc => ?_) | refine W.cond rfl (fun hc => ?_) (fun hc => ?_))
          refine Fin.round ⟨k2 + 1, u32 (f2 + 1), xx, j, va', vn', vc', vb'⟩ ⟨hle, hf2', hvis', ?_, hxx, hown'⟩ envA (fun _ h => ?_) (by dsimp only; omega)
          · rw [hforth]
            congr 1
            dsimp only; omega
          · exact In.of_sub (.pickL .here (.pick (.there .here) (.nil _))) h
    · have hla2 : q2.d.la = true := by simpa using hc
      rw [if_pos hla2] at hforth
      refine Fin.retW (by exact rfl) resA (fun _ h => h.sublist (List.sublist_append_left _ _)) ?_
      have e1 : (u32 (f2 - f)).toNat = k2 := by rw [hf2]; simp only [u32_eq]; omega
      rw [show wholeIx s.L p.d = (run f k2).map (ixAt s.L) by unfold wholeIx; rw [halt, hforth]; dsimp only; rw [e1]]
      exact hown
end Go.Proofs.YthjglhdjlmjffaaGreat
