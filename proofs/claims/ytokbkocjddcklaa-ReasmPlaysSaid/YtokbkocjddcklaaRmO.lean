/- The law's 'does', walked: a thing is done to the reassembler as the plain functions say; what was handed in is written over behind it. Conditions: bounds on what is held. -/
import Derived.Test.YtokbkocjddcklaaRmN
import Derived.Test.YtokbkocjddcklaaSlH
namespace Go.Proofs.Ytokbkocjddcklaa
open Go Go.Sl Go.Rm

/-- what an Op in memory means: its bytes and its skips -/
structure Ov.Is (F : Nat → Option Obj) (o : Ov) (bs : List UInt8) (ks : List Sk) : Prop where
  bytes : Lst F [] 1 (bs.map B) o.ba o.bn o.bc
  skips : Lst F [] 2 (ks.flatMap skCells) o.ka o.kn o.kc
  tsn : 0 ≤ o.tsn ∧ o.tsn < 4294967296
  stream : 0 ≤ o.stream ∧ o.stream < 65536
  sks : ∀ k ∈ ks, (0 ≤ k.st ∧ k.st < 65536) ∧ 0 ≤ k.n ∧ k.n < 65536
def Ov.D (o : Ov) (bs : List UInt8) : Rm.D := ⟨o.tsn, o.stream, o.ssn, o.un, o.fi, o.la, bs⟩
/-- what a thing done answers, and what it leaves -/
def doM (s : Rm.S) (o : Ov) : Mg := if o.kind = 2 then ((Rm.take s).1).getD ⟨0, false, []⟩ else ⟨0, false, []⟩
def doB (s : Rm.S) (o : Ov) : Bool := if o.kind = 2 then ((Rm.take s).1).isSome else true
def doE (s : Rm.S) (o : Ov) (bs : List UInt8) (ks : List Sk) : Int := if o.kind = 0 then putE s (o.D bs) else if o.kind = 1 then skipE s ks else 0
def doS (s : Rm.S) (o : Ov) (bs : List UInt8) (ks : List Sk) : Rm.S := if o.kind = 0 then Rm.put s (o.D bs) else if o.kind = 1 then Rm.skip s o.cum ks else if o.kind = 2 then (Rm.take s).2 else s
def DoesQ (s : RM) (o : Ov) (bs : List UInt8) (ks : List Sk) (v : Value) (H : HL) : Prop :=
  ∃ (sa : Option Addr) (sn sc : Nat) (hb : HL) (s' : RM), v = tup [.agg (mCells (doM s.S o) (.slice sa sn sc)).toArray, .bool (doB s.S o), .int .i64 (doE s.S o bs ks)] ∧ OwnS 5 1 ((doM s.S o).bytes.map B) (.slice sa sn sc) hb ∧
    s'.ok ∧ H = s'.H ++ hb ∧ s'.R = s.R ∧ s'.turns ≤ s.turns + 1 ∧ s'.S = doS s.S o bs ks ∧ s'.nx.length = s.nx.length

structure DoG where
  i : Nat
  xs : List Value
  hb : HL
set_option maxHeartbeats 4000000 in
theorem does_put (F : Nat → Option Obj) (o : Ov) (bs : List UInt8) (ks : List Sk) (ho : o.Is F bs ks) (hk : o.kind = 0) (s : RM) (hs : s.ok) (hfew : s.turns < 1000000) (htot : totD s.L + totM s.row + bs.length ≤ 1000000000) (hnx : s.nx.length < 1000000) :
    Tr Try.prog 12 [.pointer (some ⟨s.R, 0, none⟩), .agg o.cells.toArray].toArray F s.H (DoesQ s o bs ks) := by
  refine Tr.enter Try.func12 rfl Try.ntmps12 rfl (fun w0 => ?_)
  unfold Ov.cells
  rw [hk]
  repeat' (first
    | refine W.seq ?_ | refine W.region ?_ | refine W.block ?_ | refine W.skip ?_ | refine W.exit ?_ | refine W.ret ?_ | refine W.cond_t rfl ?_ | refine W.cond_f rfl ?_ | refine WL.nil ?_ | refine WD.nil ?_ | refine Fin.next ?_ | refine Fin.then_exit ?_ | refine Fin.then_ret ?_ | refine Fin.block_normal ?_ | refine Fin.block_ret ?_ | refine Fin.block_exit ?_ | refine Fin.block_other rfl ?_
    | refine WL.pA ?_ | refine WD.pA ?_ | refine WL.sA ?_ | refine WD.sA ?_ | refine WL.g_yes rfl rfl ?_ | refine WL.g_no rfl rfl rfl rfl ?_ | refine WL.g_undef rfl rfl rfl ?_ | refine WL.g_split rfl rfl (fun hc => ?_) (fun hc => ?_) | refine WD.g_yes rfl rfl ?_ | refine WD.g_no rfl rfl rfl rfl ?_ | refine WD.g_undef rfl rfl rfl ?_ | refine WD.g_split rfl rfl (fun hc => ?_) (fun hc => ?_)
    | refine W.drawA ?_ | refine WL.aA (fun _ => ?_) | refine WD.aA (fun _ => ?_) | refine WL.e0A ?_ | refine WD.e0A ?_
    | refine W.cond rfl (fun hc => ?_) (fun hc => ?_))
  rename_i b3 b4 b7
  have hbn : o.bn = bs.length := by have := ho.bytes.len; simp at this; omega
  refine WL.e rfl (Ef.callF (by exact rfl) (.nil _) (fun hd => twin_tr _ [] _ bs (by have := (ho.bytes.mono (fun _ h => addF_in hd h)).src; rw [hbn] at this ⊢; exact this) (by omega))) ?_
  rintro _ _ ⟨_, ⟨ta, tn, tc, thb, rfl, hown, rfl⟩, rfl⟩
  rw [List.append_nil]
  have htn : tn = bs.length := by have := hown.len; simp at this; omega
  repeat' (first
    | refine W.seq ?_ | refine W.region ?_ | refine W.block ?_ | refine W.skip ?_ | refine W.exit ?_ | refine W.ret ?_ | refine W.cond_t rfl ?_ | refine W.cond_f rfl ?_ | refine WL.nil ?_ | refine WD.nil ?_ | refine Fin.next ?_ | refine Fin.then_exit ?_ | refine Fin.then_ret ?_ | refine Fin.block_normal ?_ | refine Fin.block_ret ?_ | refine Fin.block_exit ?_ | refine Fin.block_other rfl ?_
    | refine WL.pA ?_ | refine WD.pA ?_ | refine WL.sA ?_ | refine WD.sA ?_ | refine WL.g_yes rfl rfl ?_ | refine WL.g_no rfl rfl rfl rfl ?_ | refine WL.g_undef rfl rfl rfl ?_ | refine WL.g_split rfl rfl (fun hc => ?_) (fun hc => ?_) | refine WD.g_yes rfl rfl ?_ | refine WD.g_no rfl rfl rfl rfl ?_ | refine WD.g_undef rfl rfl rfl ?_ | refine WD.g_split rfl rfl (fun hc => ?_) (fun hc => ?_)
    | refine W.drawA ?_ | refine WL.aA (fun _ => ?_) | refine WD.aA (fun _ => ?_) | refine WL.e0A ?_ | refine WD.e0A ?_
    | refine W.cond rfl (fun hc => ?_) (fun hc => ?_))
  refine WL.e rfl (Ef.call (by exact rfl) (.pickL (L := s.H) (.right (.there (.there (.there .all)))) (.last .here)) (put_tr _ thb s hs (o.D bs) ta tn tc (OwnS.src hown (fun _ h => h)) htn.symm ho.stream.1 ho.stream.2 ho.tsn hfew (by omega) hnx)) ?_
  rintro _ _ ⟨_, ⟨rfl, s', hs', rfl, hr', ht', hS', hn'⟩, rfl⟩
  repeat' (first
    | refine W.seq ?_ | refine W.region ?_ | refine W.block ?_ | refine W.skip ?_ | refine W.exit ?_ | refine W.ret ?_ | refine W.cond_t rfl ?_ | refine W.cond_f rfl ?_ | refine WL.nil ?_ | refine WD.nil ?_ | refine Fin.next ?_ | refine Fin.then_exit ?_ | refine Fin.then_ret ?_ | refine Fin.block_normal ?_ | refine Fin.block_ret ?_ | refine Fin.block_exit ?_ | refine Fin.block_other rfl ?_
    | refine WL.pA ?_ | refine WD.pA ?_ | refine WL.sA ?_ | refine WD.sA ?_ | refine WL.g_yes rfl rfl ?_ | refine WL.g_no rfl rfl rfl rfl ?_ | refine WL.g_undef rfl rfl rfl ?_ | refine WL.g_split rfl rfl (fun hc => ?_) (fun hc => ?_) | refine WD.g_yes rfl rfl ?_ | refine WD.g_no rfl rfl rfl rfl ?_ | refine WD.g_undef rfl rfl rfl ?_ | refine WD.g_split rfl rfl (fun hc => ?_) (fun hc => ?_)
    | refine W.drawA ?_ | refine WL.aA (fun _ => ?_) | refine WD.aA (fun _ => ?_) | refine WL.e0A ?_ | refine WD.e0A ?_
    | refine W.cond rfl (fun hc => ?_) (fun hc => ?_))
  refine WL.s rfl (Rd.cvBS (bs := bs) (m := tn) rfl (OwnS.src hown (fun _ h => h.left.right)) htn.symm) ?_
  repeat' (first
    | refine W.seq ?_ | refine W.region ?_ | refine W.block ?_ | refine W.skip ?_ | refine W.exit ?_ | refine W.ret ?_ | refine W.cond_t rfl ?_ | refine W.cond_f rfl ?_ | refine WL.nil ?_ | refine WD.nil ?_ | refine Fin.next ?_ | refine Fin.then_exit ?_ | refine Fin.then_ret ?_ | refine Fin.block_normal ?_ | refine Fin.block_ret ?_ | refine Fin.block_exit ?_ | refine Fin.block_other rfl ?_
    | refine WL.pA ?_ | refine WD.pA ?_ | refine WL.sA ?_ | refine WD.sA ?_ | refine WL.g_yes rfl rfl ?_ | refine WL.g_no rfl rfl rfl rfl ?_ | refine WL.g_undef rfl rfl rfl ?_ | refine WL.g_split rfl rfl (fun hc => ?_) (fun hc => ?_) | refine WD.g_yes rfl rfl ?_ | refine WD.g_no rfl rfl rfl rfl ?_ | refine WD.g_undef rfl rfl rfl ?_ | refine WD.g_split rfl rfl (fun hc => ?_) (fun hc => ?_)
    | refine W.drawA ?_ | refine WL.aA (fun _ => ?_) | refine WD.aA (fun _ => ?_) | refine WL.e0A ?_ | refine WD.e0A ?_
    | refine W.cond rfl (fun hc => ?_) (fun hc => ?_))
  refine WL.s rfl (Rd.cvBS (bs := bs) (m := o.bn) rfl ((ho.bytes.mono (fun _ h => h.sublist (List.nil_sublist _))).src) hbn.symm) ?_
  repeat' (first
    | refine W.seq ?_ | refine W.region ?_ | refine W.block ?_ | refine W.skip ?_ | refine W.exit ?_ | refine W.ret ?_ | refine W.cond_t rfl ?_ | refine W.cond_f rfl ?_ | refine WL.nil ?_ | refine WD.nil ?_ | refine Fin.next ?_ | refine Fin.then_exit ?_ | refine Fin.then_ret ?_ | refine Fin.block_normal ?_ | refine Fin.block_ret ?_ | refine Fin.block_exit ?_ | refine Fin.block_other rfl ?_
    | refine WL.pA ?_ | refine WD.pA ?_ | refine WL.sA ?_ | refine WD.sA ?_ | refine WL.g_yes rfl rfl ?_ | refine WL.g_no rfl rfl rfl rfl ?_ | refine WL.g_undef rfl rfl rfl ?_ | refine WL.g_split rfl rfl (fun hc => ?_) (fun hc => ?_) | refine WD.g_yes rfl rfl ?_ | refine WD.g_no rfl rfl rfl rfl ?_ | refine WD.g_undef rfl rfl rfl ?_ | refine WD.g_split rfl rfl (fun hc => ?_) (fun hc => ?_)
    | refine W.drawA ?_ | refine WL.aA (fun _ => ?_) | refine WD.aA (fun _ => ?_) | refine WL.e0A ?_ | refine WD.e0A ?_
    | refine W.cond rfl (fun hc => ?_) (fun hc => ?_))
  refine WL.p rfl (by exact Pu.eqS rfl rfl) ?_
  rw [beq_self_eq_true]
  repeat' (first
    | refine W.seq ?_ | refine W.region ?_ | refine W.block ?_ | refine W.skip ?_ | refine W.exit ?_ | refine W.ret ?_ | refine W.cond_t rfl ?_ | refine W.cond_f rfl ?_ | refine WL.nil ?_ | refine WD.nil ?_ | refine Fin.next ?_ | refine Fin.then_exit ?_ | refine Fin.then_ret ?_ | refine Fin.block_normal ?_ | refine Fin.block_ret ?_ | refine Fin.block_exit ?_ | refine Fin.block_other rfl ?_
    | refine WL.pA ?_ | refine WD.pA ?_ | refine WL.sA ?_ | refine WD.sA ?_ | refine WL.g_yes rfl rfl ?_ | refine WL.g_no rfl rfl rfl rfl ?_ | refine WL.g_undef rfl rfl rfl ?_ | refine WL.g_split rfl rfl (fun hc => ?_) (fun hc => ?_) | refine WD.g_yes rfl rfl ?_ | refine WD.g_no rfl rfl rfl rfl ?_ | refine WD.g_undef rfl rfl rfl ?_ | refine WD.g_split rfl rfl (fun hc => ?_) (fun hc => ?_)
    | refine W.drawA ?_ | refine WL.aA (fun _ => ?_) | refine WD.aA (fun _ => ?_) | refine WL.e0A ?_ | refine WD.e0A ?_
    | refine W.cond rfl (fun hc => ?_) (fun hc => ?_))
  refine W.loop (G := DoG) (fun g => [(4, .pointer (some ⟨b4, 0, none⟩)), (7, .pointer (some ⟨b7, 0, none⟩)), (8, .int .i64 (putE s.S (o.D bs))), (9, .bool true), (10, .int .i64 g.i)])
    (fun g => s'.H ++ (g.hb ++ [(b7, .cells [.int .u32 o.tsn, .int .u16 o.stream, .int .u16 o.ssn, .bool o.un, .bool o.fi, .bool o.la, .slice ta tn tc].toArray 33 (0, 0)), (b4, .cells [.int .u16 0, .bool false, .slice none 0 0].toArray 40 (0, 0))]))
    (fun g => g.i ≤ tn ∧ OwnS 5 1 g.xs (.slice ta tn tc) g.hb) (fun g => tn - g.i) ⟨0, _, thb⟩ ⟨Nat.zero_le _, hown⟩ (sub_of (by repeat (first | exact subEnv.nil | refine subEnv.cons rfl ?_))) (fun _ h => ?_) ?_
  · rw [List.append_assoc] at h
    exact h.sublist (.append (.refl _) (.append (.refl _) (.cons_cons _ (.cons_cons _ (List.nil_sublist _)))))
  rintro ⟨i, xs, hb⟩ ⟨hi, hx⟩
  dsimp only at hi hx ⊢
  repeat' (first
    | refine W.seq ?_ | refine W.region ?_ | refine W.block ?_ | refine W.skip ?_ | refine W.exit ?_ | refine W.ret ?_ | refine W.cond_t rfl ?_ | refine W.cond_f rfl ?_ | refine WL.nil ?_ | refine WD.nil ?_ | refine Fin.next ?_ | refine Fin.then_exit ?_ | refine Fin.then_ret ?_ | refine Fin.block_normal ?_ | refine Fin.block_ret ?_ | refine Fin.block_exit ?_ | refine Fin.block_other rfl ?_
    | refine WL.pA ?_ | refine WD.pA ?_ | refine WL.sA ?_ | refine WD.sA ?_ | refine WL.g_yes rfl rfl ?_ | refine WL.g_no rfl rfl rfl rfl ?_ | refine WL.g_undef rfl rfl rfl ?_ | refine WL.g_split rfl rfl (fun hc => ?_) (fun hc => ?_) | refine WD.g_yes rfl rfl ?_ | refine WD.g_no rfl rfl rfl rfl ?_ | refine WD.g_undef rfl rfl rfl ?_ | refine WD.g_split rfl rfl (fun hc => ?_) (fun hc => ?_)
    | refine W.drawA ?_ | refine WL.aA (fun _ => ?_) | refine WD.aA (fun _ => ?_) | refine WL.e0A ?_ | refine WD.e0A ?_
    | refine W.cond rfl (fun hc => ?_) (fun hc => ?_))
  · have hi' : i < tn := by simp at hc; omega
    obtain ⟨g, oo, rfl⟩ := hx.addr (by omega)
    have hia : 0 ≤ (i : Int) ∧ (i : Int) < tn := by omega
    obtain ⟨hb', hx', hput⟩ := hx.put i [.int .u8 85] (by have := hx.len; simp at this ⊢; omega)
    repeat' (first
      | refine W.seq ?_ | refine W.region ?_ | refine W.block ?_ | refine W.skip ?_ | refine W.exit ?_ | refine W.ret ?_ | refine W.cond_t rfl ?_ | refine W.cond_f rfl ?_ | refine WL.nil ?_ | refine WD.nil ?_ | refine Fin.next ?_ | refine Fin.then_exit ?_ | refine Fin.then_ret ?_ | refine Fin.block_normal ?_ | refine Fin.block_ret ?_ | refine Fin.block_exit ?_ | refine Fin.block_other rfl ?_
      | refine WL.pA ?_ | refine WD.pA ?_ | refine WL.sA ?_ | refine WD.sA ?_ | refine WL.g_yes rfl rfl ?_ | refine WL.g_no rfl rfl rfl rfl ?_ | refine WL.g_undef rfl rfl rfl ?_ | refine WL.g_split rfl rfl (fun hc => ?_) (fun hc => ?_) | refine WD.g_yes rfl rfl ?_ | refine WD.g_no rfl rfl rfl rfl ?_ | refine WD.g_undef rfl rfl rfl ?_ | refine WD.g_split rfl rfl (fun hc => ?_) (fun hc => ?_)
      | refine W.drawA ?_ | refine WL.aA (fun _ => ?_) | refine WD.aA (fun _ => ?_) | refine WL.e0A ?_ | refine WD.e0A ?_
      | refine W.cond rfl (fun hc => ?_) (fun hc => ?_))
    refine WL.e0 (Ef.st rfl rfl rfl (PutAt.right (PutAt.left (H1' := hb') (by simpa using hput)))) ?_
    rintro _ _ ⟨rfl, rfl⟩
    repeat' (first
      | refine W.seq ?_ | refine W.region ?_ | refine W.block ?_ | refine W.skip ?_ | refine W.exit ?_ | refine W.ret ?_ | refine W.cond_t rfl ?_ | refine W.cond_f rfl ?_ | refine WL.nil ?_ | refine WD.nil ?_ | refine Fin.next ?_ | refine Fin.then_exit ?_ | refine Fin.then_ret ?_ | refine Fin.block_normal ?_ | refine Fin.block_ret ?_ | refine Fin.block_exit ?_ | refine Fin.block_other rfl ?_
      | refine WL.pA ?_ | refine WD.pA ?_ | refine WL.sA ?_ | refine WD.sA ?_ | refine WL.g_yes rfl rfl ?_ | refine WL.g_no rfl rfl rfl rfl ?_ | refine WL.g_undef rfl rfl rfl ?_ | refine WL.g_split rfl rfl (fun hc => ?_) (fun hc => ?_) | refine WD.g_yes rfl rfl ?_ | refine WD.g_no rfl rfl rfl rfl ?_ | refine WD.g_undef rfl rfl rfl ?_ | refine WD.g_split rfl rfl (fun hc => ?_) (fun hc => ?_)
      | refine W.drawA ?_ | refine WL.aA (fun _ => ?_) | refine WD.aA (fun _ => ?_) | refine WL.e0A ?_ | refine WD.e0A ?_
      | refine W.cond rfl (fun hc => ?_) (fun hc => ?_))
    rw [i64_succ (by omega)]
    exact Fin.round ⟨i + 1, _, hb'⟩ ⟨hi', hx'⟩ (sub_of (by repeat (first | exact subEnv.nil | refine subEnv.cons rfl ?_))) (fun _ h => h) (by dsimp only; omega)
  · refine Fin.retW (by exact rfl) (by repeat' (first | exact Res.nil | exact rfl | exact CutAt.here rfl | exact CellAt.here rfl | apply CutAt.there | apply CellAt.there | apply CutAt.right | apply CellAt.right | apply Res.tmp | apply Res.agg' | apply Res.cell')) (H' := s'.H) (fun _ h => h.sublist (List.sublist_append_left _ _)) ⟨none, 0, 0, [], s', ?_, .inl ⟨rfl, ?_, rfl⟩, hs', by simp, hr', ht', ?_, hn'⟩
    · simp [tup, doM, doB, doE, hk, mCells]
    · simp [doM, hk]
    · rw [hS']; simp [doS, hk]

set_option maxHeartbeats 4000000 in
theorem does_skip (F : Nat → Option Obj) (o : Ov) (bs : List UInt8) (ks : List Sk) (ho : o.Is F bs ks) (hk : o.kind = 1) (s : RM) (hs : s.ok) (hmany : ks.length ≤ 1000) (h16 : nx16 s.nx) (hnx : s.nx.length < 1000000) :
    Tr Try.prog 12 [.pointer (some ⟨s.R, 0, none⟩), .agg o.cells.toArray].toArray F s.H (DoesQ s o bs ks) := by
  refine Tr.enter Try.func12 rfl Try.ntmps12 rfl (fun w0 => ?_)
  unfold Ov.cells
  rw [hk]
  repeat' (first
    | refine W.seq ?_ | refine W.region ?_ | refine W.block ?_ | refine W.skip ?_ | refine W.exit ?_ | refine W.ret ?_ | refine W.cond_t rfl ?_ | refine W.cond_f rfl ?_ | refine WL.nil ?_ | refine WD.nil ?_ | refine Fin.next ?_ | refine Fin.then_exit ?_ | refine Fin.then_ret ?_ | refine Fin.block_normal ?_ | refine Fin.block_ret ?_ | refine Fin.block_exit ?_ | refine Fin.block_other rfl ?_
    | refine WL.pA ?_ | refine WD.pA ?_ | refine WL.sA ?_ | refine WD.sA ?_ | refine WL.g_yes rfl rfl ?_ | refine WL.g_no rfl rfl rfl rfl ?_ | refine WL.g_undef rfl rfl rfl ?_ | refine WL.g_split rfl rfl (fun hc => ?_) (fun hc => ?_) | refine WD.g_yes rfl rfl ?_ | refine WD.g_no rfl rfl rfl rfl ?_ | refine WD.g_undef rfl rfl rfl ?_ | refine WD.g_split rfl rfl (fun hc => ?_) (fun hc => ?_)
    | refine W.drawA ?_ | refine WL.aA (fun _ => ?_) | refine WD.aA (fun _ => ?_) | refine WL.e0A ?_ | refine WD.e0A ?_
    | refine W.cond rfl (fun hc => ?_) (fun hc => ?_))
  rename_i b3 b4 b11 b56
  have hlen := ho.skips.len
  rw [flat_len' skCells 2 (fun _ => rfl)] at hlen
  have hkn : o.kn = ks.length := by omega
  refine WL.e rfl (Ef.app (m := o.kn) (news := ks.flatMap skCells) (by exact rfl) (by exact rfl) rfl rfl (OwnS.empty _ _ b56) (by repeat' (first | exact Sub.nil _ | exact Ext1.here | exact ExtL.here | apply Sub.pick | apply Sub.pickL | apply Sub.last | apply Ext1.there | apply ExtL.there | apply Ext1.right | apply ExtL.right | exact ExtL.all)) ((ho.skips.mono (fun _ h => h.sublist (List.nil_sublist _))).src) (by rw [flat_len' skCells 2 (fun _ => rfl)]; omega)
    (fun u hu => by obtain ⟨k, _, h⟩ := List.mem_flatMap.1 hu; simp only [skCells, List.mem_cons, List.not_mem_nil, or_false] at h; rcases h with rfl | rfl <;> rfl) (by rw [flat_len' skCells 2 (fun _ => rfl)]; simp; omega) (by rw [flat_len' skCells 2 (fun _ => rfl)]; simp [maxLen]; omega)) ?_
  rintro v' _ ⟨hb', hown, rfl⟩
  obtain ⟨sa, sn, sc, rfl, hl2, _⟩ := OwnS.shape hown
  rw [List.nil_append] at hown
  have hsn : sn = ks.length := by have := hown.len; rw [flat_len' skCells 2 (fun _ => rfl)] at this; omega
  repeat' (first
    | refine W.seq ?_ | refine W.region ?_ | refine W.block ?_ | refine W.skip ?_ | refine W.exit ?_ | refine W.ret ?_ | refine W.cond_t rfl ?_ | refine W.cond_f rfl ?_ | refine WL.nil ?_ | refine WD.nil ?_ | refine Fin.next ?_ | refine Fin.then_exit ?_ | refine Fin.then_ret ?_ | refine Fin.block_normal ?_ | refine Fin.block_ret ?_ | refine Fin.block_exit ?_ | refine Fin.block_other rfl ?_
    | refine WL.pA ?_ | refine WD.pA ?_ | refine WL.sA ?_ | refine WD.sA ?_ | refine WL.g_yes rfl rfl ?_ | refine WL.g_no rfl rfl rfl rfl ?_ | refine WL.g_undef rfl rfl rfl ?_ | refine WL.g_split rfl rfl (fun hc => ?_) (fun hc => ?_) | refine WD.g_yes rfl rfl ?_ | refine WD.g_no rfl rfl rfl rfl ?_ | refine WD.g_undef rfl rfl rfl ?_ | refine WD.g_split rfl rfl (fun hc => ?_) (fun hc => ?_)
    | refine W.drawA ?_ | refine WL.aA (fun _ => ?_) | refine WD.aA (fun _ => ?_) | refine WL.e0A ?_ | refine WD.e0A ?_
    | refine W.cond rfl (fun hc => ?_) (fun hc => ?_))
  refine WL.e rfl (Ef.call (by exact rfl) (.pickL (L := s.H) (.right (.there (.there (.there .all)))) (.last .here)) (Skip_tr _ hb' s hs o.cum ks sa sn sc (Lst.own hown (fun _ h => h)) ho.sks (by omega) h16 hnx)) ?_
  rintro _ _ ⟨_, ⟨rfl, s', hs', rfl, hr', ht', hS', hn'⟩, rfl⟩
  repeat' (first
    | refine W.seq ?_ | refine W.region ?_ | refine W.block ?_ | refine W.skip ?_ | refine W.exit ?_ | refine W.ret ?_ | refine W.cond_t rfl ?_ | refine W.cond_f rfl ?_ | refine WL.nil ?_ | refine WD.nil ?_ | refine Fin.next ?_ | refine Fin.then_exit ?_ | refine Fin.then_ret ?_ | refine Fin.block_normal ?_ | refine Fin.block_ret ?_ | refine Fin.block_exit ?_ | refine Fin.block_other rfl ?_
    | refine WL.pA ?_ | refine WD.pA ?_ | refine WL.sA ?_ | refine WD.sA ?_ | refine WL.g_yes rfl rfl ?_ | refine WL.g_no rfl rfl rfl rfl ?_ | refine WL.g_undef rfl rfl rfl ?_ | refine WL.g_split rfl rfl (fun hc => ?_) (fun hc => ?_) | refine WD.g_yes rfl rfl ?_ | refine WD.g_no rfl rfl rfl rfl ?_ | refine WD.g_undef rfl rfl rfl ?_ | refine WD.g_split rfl rfl (fun hc => ?_) (fun hc => ?_)
    | refine W.drawA ?_ | refine WL.aA (fun _ => ?_) | refine WD.aA (fun _ => ?_) | refine WL.e0A ?_ | refine WD.e0A ?_
    | refine W.cond rfl (fun hc => ?_) (fun hc => ?_))
  refine Fin.retW (by exact rfl) (by repeat' (first | exact Res.nil | exact rfl | exact CutAt.here rfl | exact CellAt.here rfl | apply CutAt.there | apply CellAt.there | apply CutAt.right | apply CellAt.right | apply Res.tmp | apply Res.agg' | apply Res.cell')) (H' := s'.H) (fun _ h => (h.left).left) ⟨none, 0, 0, [], s', ?_, .inl ⟨rfl, ?_, rfl⟩, hs', by simp, hr', by omega, ?_, hn'⟩
  · simp [tup, doM, doB, doE, hk, mCells]
  · simp [doM, hk]
  · rw [hS']; simp [doS, hk]

set_option maxHeartbeats 4000000 in
theorem does_take (F : Nat → Option Obj) (o : Ov) (bs : List UInt8) (ks : List Sk) (hk : o.kind = 2) (s : RM) (hs : s.ok) :
    Tr Try.prog 12 [.pointer (some ⟨s.R, 0, none⟩), .agg o.cells.toArray].toArray F s.H (DoesQ s o bs ks) := by
  refine Tr.enter Try.func12 rfl Try.ntmps12 rfl (fun w0 => ?_)
  unfold Ov.cells
  rw [hk]
  repeat' (first
    | refine W.seq ?_ | refine W.region ?_ | refine W.block ?_ | refine W.skip ?_ | refine W.exit ?_ | refine W.ret ?_ | refine W.cond_t rfl ?_ | refine W.cond_f rfl ?_ | refine WL.nil ?_ | refine WD.nil ?_ | refine Fin.next ?_ | refine Fin.then_exit ?_ | refine Fin.then_ret ?_ | refine Fin.block_normal ?_ | refine Fin.block_ret ?_ | refine Fin.block_exit ?_ | refine Fin.block_other rfl ?_
    | refine WL.pA ?_ | refine WD.pA ?_ | refine WL.sA ?_ | refine WD.sA ?_ | refine WL.g_yes rfl rfl ?_ | refine WL.g_no rfl rfl rfl rfl ?_ | refine WL.g_undef rfl rfl rfl ?_ | refine WL.g_split rfl rfl (fun hc => ?_) (fun hc => ?_) | refine WD.g_yes rfl rfl ?_ | refine WD.g_no rfl rfl rfl rfl ?_ | refine WD.g_undef rfl rfl rfl ?_ | refine WD.g_split rfl rfl (fun hc => ?_) (fun hc => ?_)
    | refine W.drawA ?_ | refine WL.aA (fun _ => ?_) | refine WD.aA (fun _ => ?_) | refine WL.e0A ?_ | refine WD.e0A ?_
    | refine W.cond rfl (fun hc => ?_) (fun hc => ?_))
  rename_i b3 b4
  refine WL.e rfl (Ef.call (by exact rfl) (by repeat' (first | exact Sub.nil _ | exact Ext1.here | exact ExtL.here | apply Sub.pick | apply Sub.pickL | apply Sub.last | apply Ext1.there | apply ExtL.there | apply Ext1.right | apply ExtL.right | exact ExtL.all)) (takeA _ s hs)) ?_
  rintro v _ ⟨H1, hq, rfl⟩
  -- the message, or none
  obtain ⟨g, ga, gn, gc, ghb, is, s', rfl, hgo, hs', rfl, hr', ht', hg, his, hS', hn'⟩ : ∃ (g : Mg) (ga : Option Addr) (gn gc : Nat) (ghb : HL) (is : Bool) (s' : RM), v = tup [.agg [.int .u16 g.stream, .bool g.ordered, .slice ga gn gc].toArray, .bool is] ∧ OwnS 5 1 (g.bytes.map B) (.slice ga gn gc) ghb ∧ s'.ok ∧ H1 = s'.H ++ ghb ∧ s'.R = s.R ∧ s'.turns = s.turns ∧ doM s.S o = g ∧ doB s.S o = is ∧ s'.S = (Rm.take s.S).2 ∧ s'.nx.length = s.nx.length := by
    rcases hq with ⟨h1, h2, h3⟩ | ⟨m, s', hm, hs', h2, h3, h4, h5, h6, h7, h8⟩
    · have e : (Rm.take s.S) = (none, s.S) := by unfold Rm.take; rw [show s.S.row = [] from h1]
      exact ⟨⟨0, false, []⟩, none, 0, 0, [], false, s, h2, .inl ⟨rfl, rfl, rfl⟩, hs, by rw [h3, List.append_nil], rfl, rfl, by simp [doM, hk, e], by simp [doB, hk, e], by rw [e], rfl⟩
    · have e : (Rm.take s.S) = (some m.g, ⟨s.L, s'.row, s.nx⟩) := by unfold Rm.take; rw [show s.S.row = _ from h6]; rfl
      exact ⟨m.g, m.sa, m.sn, m.sc, m.hb, true, s', h2, hm, hs', h3, h4, h5, by simp [doM, hk, e], by simp [doB, hk, e], by rw [e]; simp only [RM.S, h7, h8], by rw [h8]⟩
  dsimp only [tup]
  rw [List.append_assoc]
  repeat' (first
    | refine W.seq ?_ | refine W.region ?_ | refine W.block ?_ | refine W.skip ?_ | refine W.exit ?_ | refine W.ret ?_ | refine W.cond_t rfl ?_ | refine W.cond_f rfl ?_ | refine WL.nil ?_ | refine WD.nil ?_ | refine Fin.next ?_ | refine Fin.then_exit ?_ | refine Fin.then_ret ?_ | refine Fin.block_normal ?_ | refine Fin.block_ret ?_ | refine Fin.block_exit ?_ | refine Fin.block_other rfl ?_
    | refine WL.pA ?_ | refine WD.pA ?_ | refine WL.sA ?_ | refine WD.sA ?_ | refine WL.g_yes rfl rfl ?_ | refine WL.g_no rfl rfl rfl rfl ?_ | refine WL.g_undef rfl rfl rfl ?_ | refine WL.g_split rfl rfl (fun hc => ?_) (fun hc => ?_) | refine WD.g_yes rfl rfl ?_ | refine WD.g_no rfl rfl rfl rfl ?_ | refine WD.g_undef rfl rfl rfl ?_ | refine WD.g_split rfl rfl (fun hc => ?_) (fun hc => ?_)
    | refine W.drawA ?_ | refine WL.aA (fun _ => ?_) | refine WD.aA (fun _ => ?_) | refine WL.e0A ?_ | refine WD.e0A ?_
    | refine W.cond rfl (fun hc => ?_) (fun hc => ?_))
  rename_i b12 b14
  have hgl := hgo.len
  simp at hgl
  have hfine : g.bytes.length ≤ 1000000000 := by
    have h1 := hs.fine
    rcases Nat.eq_zero_or_pos g.bytes.length with h0 | h0
    · omega
    · have h2 : g.bytes.length ≤ totM s.row := by
        rw [← hg] at h0 ⊢
        have hrow : s.S.row = s.row := rfl
        unfold doM Rm.take at h0 ⊢
        rw [if_pos hk, hrow] at h0 ⊢
        cases hr : s.row with
        | nil => rw [hr] at h0; simp at h0
        | cons m r => simp [totM]
      omega
  refine WL.e rfl (Ef.call (by exact rfl) (.pickL (L := ghb) (.there (.there (.right .here))) (.nil _)) (twin_tr _ (ghb ++ []) _ g.bytes (by rw [hgl]; exact OwnS.src hgo (fun _ h => h.left)) (by omega))) ?_
  rintro _ _ ⟨_, ⟨ta, tn, tc, thb, rfl, hown, rfl⟩, rfl⟩
  rw [List.append_nil, List.append_assoc]
  repeat' (first
    | refine W.seq ?_ | refine W.region ?_ | refine W.block ?_ | refine W.skip ?_ | refine W.exit ?_ | refine W.ret ?_ | refine W.cond_t rfl ?_ | refine W.cond_f rfl ?_ | refine WL.nil ?_ | refine WD.nil ?_ | refine Fin.next ?_ | refine Fin.then_exit ?_ | refine Fin.then_ret ?_ | refine Fin.block_normal ?_ | refine Fin.block_ret ?_ | refine Fin.block_exit ?_ | refine Fin.block_other rfl ?_
    | refine WL.pA ?_ | refine WD.pA ?_ | refine WL.sA ?_ | refine WD.sA ?_ | refine WL.g_yes rfl rfl ?_ | refine WL.g_no rfl rfl rfl rfl ?_ | refine WL.g_undef rfl rfl rfl ?_ | refine WL.g_split rfl rfl (fun hc => ?_) (fun hc => ?_) | refine WD.g_yes rfl rfl ?_ | refine WD.g_no rfl rfl rfl rfl ?_ | refine WD.g_undef rfl rfl rfl ?_ | refine WD.g_split rfl rfl (fun hc => ?_) (fun hc => ?_)
    | refine W.drawA ?_ | refine WL.aA (fun _ => ?_) | refine WD.aA (fun _ => ?_) | refine WL.e0A ?_ | refine WD.e0A ?_
    | refine W.cond rfl (fun hc => ?_) (fun hc => ?_))
  refine W.loop (G := DoG) (fun g => [(4, .pointer (some ⟨b4, 0, none⟩)), (12, .pointer (some ⟨b12, 0, none⟩)), (13, .bool is), (14, .pointer (some ⟨b14, 0, none⟩)), (15, .int .i64 g.i)])
    (fun q => thb ++ (q.hb ++ ((b14, .cells [.int .u16 g.stream, .bool g.ordered, .slice ta tn tc].toArray 40 (0, 0)) :: (b12, .cells [.int .u16 g.stream, .bool g.ordered, .slice ga gn gc].toArray 40 (0, 0)) :: (s'.H ++ [(b4, .cells [.int .u16 0, .bool false, .slice none 0 0].toArray 40 (0, 0))]))))
    (fun g => g.i ≤ gn ∧ OwnS 5 1 g.xs (.slice ga gn gc) g.hb) (fun g => gn - g.i) ⟨0, _, ghb⟩ ⟨Nat.zero_le _, hgo⟩ (sub_of (by repeat (first | exact subEnv.nil | refine subEnv.cons rfl ?_))) (fun _ h => ?_) ?_
  · exact h.sublist (.append (.refl _) (.append (.refl _) (.cons_cons _ (.cons_cons _ (.append (.refl _) (.cons_cons _ (List.nil_sublist _)))))))
  rintro ⟨i, xs, hb⟩ ⟨hi, hx⟩
  dsimp only at hi hx ⊢
  repeat' (first
    | refine W.seq ?_ | refine W.region ?_ | refine W.block ?_ | refine W.skip ?_ | refine W.exit ?_ | refine W.ret ?_ | refine W.cond_t rfl ?_ | refine W.cond_f rfl ?_ | refine WL.nil ?_ | refine WD.nil ?_ | refine Fin.next ?_ | refine Fin.then_exit ?_ | refine Fin.then_ret ?_ | refine Fin.block_normal ?_ | refine Fin.block_ret ?_ | refine Fin.block_exit ?_ | refine Fin.block_other rfl ?_
    | refine WL.pA ?_ | refine WD.pA ?_ | refine WL.sA ?_ | refine WD.sA ?_ | refine WL.g_yes rfl rfl ?_ | refine WL.g_no rfl rfl rfl rfl ?_ | refine WL.g_undef rfl rfl rfl ?_ | refine WL.g_split rfl rfl (fun hc => ?_) (fun hc => ?_) | refine WD.g_yes rfl rfl ?_ | refine WD.g_no rfl rfl rfl rfl ?_ | refine WD.g_undef rfl rfl rfl ?_ | refine WD.g_split rfl rfl (fun hc => ?_) (fun hc => ?_)
    | refine W.drawA ?_ | refine WL.aA (fun _ => ?_) | refine WD.aA (fun _ => ?_) | refine WL.e0A ?_ | refine WD.e0A ?_
    | refine W.cond rfl (fun hc => ?_) (fun hc => ?_))
  · have hi' : i < gn := by simp at hc; omega
    obtain ⟨q, oo, rfl⟩ := hx.addr (by omega)
    have hia : 0 ≤ (i : Int) ∧ (i : Int) < gn := by omega
    obtain ⟨hb', hx', hput⟩ := hx.put i [.int .u8 85] (by have := hx.len; simp at this ⊢; omega)
    repeat' (first
      | refine W.seq ?_ | refine W.region ?_ | refine W.block ?_ | refine W.skip ?_ | refine W.exit ?_ | refine W.ret ?_ | refine W.cond_t rfl ?_ | refine W.cond_f rfl ?_ | refine WL.nil ?_ | refine WD.nil ?_ | refine Fin.next ?_ | refine Fin.then_exit ?_ | refine Fin.then_ret ?_ | refine Fin.block_normal ?_ | refine Fin.block_ret ?_ | refine Fin.block_exit ?_ | refine Fin.block_other rfl ?_
      | refine WL.pA ?_ | refine WD.pA ?_ | refine WL.sA ?_ | refine WD.sA ?_ | refine WL.g_yes rfl rfl ?_ | refine WL.g_no rfl rfl rfl rfl ?_ | refine WL.g_undef rfl rfl rfl ?_ | refine WL.g_split rfl rfl (fun hc => ?_) (fun hc => ?_) | refine WD.g_yes rfl rfl ?_ | refine WD.g_no rfl rfl rfl rfl ?_ | refine WD.g_undef rfl rfl rfl ?_ | refine WD.g_split rfl rfl (fun hc => ?_) (fun hc => ?_)
      | refine W.drawA ?_ | refine WL.aA (fun _ => ?_) | refine WD.aA (fun _ => ?_) | refine WL.e0A ?_ | refine WD.e0A ?_
      | refine W.cond rfl (fun hc => ?_) (fun hc => ?_))
    refine WL.e0 (Ef.st rfl rfl rfl (PutAt.right (PutAt.left (H1' := hb') (by simpa using hput)))) ?_
    rintro _ _ ⟨rfl, rfl⟩
    repeat' (first
      | refine W.seq ?_ | refine W.region ?_ | refine W.block ?_ | refine W.skip ?_ | refine W.exit ?_ | refine W.ret ?_ | refine W.cond_t rfl ?_ | refine W.cond_f rfl ?_ | refine WL.nil ?_ | refine WD.nil ?_ | refine Fin.next ?_ | refine Fin.then_exit ?_ | refine Fin.then_ret ?_ | refine Fin.block_normal ?_ | refine Fin.block_ret ?_ | refine Fin.block_exit ?_ | refine Fin.block_other rfl ?_
      | refine WL.pA ?_ | refine WD.pA ?_ | refine WL.sA ?_ | refine WD.sA ?_ | refine WL.g_yes rfl rfl ?_ | refine WL.g_no rfl rfl rfl rfl ?_ | refine WL.g_undef rfl rfl rfl ?_ | refine WL.g_split rfl rfl (fun hc => ?_) (fun hc => ?_) | refine WD.g_yes rfl rfl ?_ | refine WD.g_no rfl rfl rfl rfl ?_ | refine WD.g_undef rfl rfl rfl ?_ | refine WD.g_split rfl rfl (fun hc => ?_) (fun hc => ?_)
      | refine W.drawA ?_ | refine WL.aA (fun _ => ?_) | refine WD.aA (fun _ => ?_) | refine WL.e0A ?_ | refine WD.e0A ?_
      | refine W.cond rfl (fun hc => ?_) (fun hc => ?_))
    rw [i64_succ (by omega)]
    exact Fin.round ⟨i + 1, _, hb'⟩ ⟨hi', hx'⟩ (sub_of (by repeat (first | exact subEnv.nil | refine subEnv.cons rfl ?_))) (fun _ h => h) (by dsimp only; omega)
  · refine Fin.retW (by exact rfl) (by repeat' (first | exact Res.nil | exact rfl | exact CutAt.here rfl | exact CellAt.here rfl | apply CutAt.there | apply CellAt.there | apply CutAt.right | apply CellAt.right | apply Res.tmp | apply Res.agg' | apply Res.cell')) (H' := s'.H ++ thb) (fun _ h => ?_) ⟨ta, tn, tc, thb, s', ?_, by rw [hg]; exact hown, hs', rfl, hr', by omega, ?_, hn'⟩
    · exact (h.perm (List.perm_append_comm (l₁ := thb))).sublist (.append ((List.sublist_append_left _ _).trans ((List.sublist_cons_self _ _).trans ((List.sublist_cons_self _ _).trans (List.sublist_append_right _ _)))) (.refl _))
    · rw [hg, his]; simp [tup, doE, hk, mCells]
    · rw [hS']; simp [doS, hk]

set_option maxHeartbeats 4000000 in
theorem does_none (F : Nat → Option Obj) (o : Ov) (bs : List UInt8) (ks : List Sk) (h0 : o.kind ≠ 0) (h1 : o.kind ≠ 1) (h2 : o.kind ≠ 2) (s : RM) (hs : s.ok) :
    Tr Try.prog 12 [.pointer (some ⟨s.R, 0, none⟩), .agg o.cells.toArray].toArray F s.H (DoesQ s o bs ks) := by
  refine Tr.enter Try.func12 rfl Try.ntmps12 rfl (fun w0 => ?_)
  unfold Ov.cells
  repeat' (first
    | refine W.seq ?_ | refine W.region ?_ | refine W.block ?_ | refine W.skip ?_ | refine W.exit ?_ | refine W.ret ?_ | refine W.cond_t rfl ?_ | refine W.cond_f rfl ?_ | refine WL.nil ?_ | refine WD.nil ?_ | refine Fin.next ?_ | refine Fin.then_exit ?_ | refine Fin.then_ret ?_ | refine Fin.block_normal ?_ | refine Fin.block_ret ?_ | refine Fin.block_exit ?_ | refine Fin.block_other rfl ?_
    | refine WL.pA ?_ | refine WD.pA ?_ | refine WL.sA ?_ | refine WD.sA ?_ | refine WL.g_yes rfl rfl ?_ | refine WL.g_no rfl rfl rfl rfl ?_ | refine WL.g_undef rfl rfl rfl ?_ | refine WL.g_split rfl rfl (fun hc => ?_) (fun hc => ?_) | refine WD.g_yes rfl rfl ?_ | refine WD.g_no rfl rfl rfl rfl ?_ | refine WD.g_undef rfl rfl rfl ?_ | refine WD.g_split rfl rfl (fun hc => ?_) (fun hc => ?_)
    | refine W.drawA ?_ | refine WL.aA (fun _ => ?_) | refine WD.aA (fun _ => ?_) | refine WL.e0A ?_ | refine WD.e0A ?_
    | refine W.cond rfl (fun hc => ?_) (fun hc => ?_))
  · exact absurd (by simpa using hc) h0
  · exact absurd (by simpa using hc) h1
  · exact absurd (by simpa using hc) h2
  · refine Fin.retW (by exact rfl) (by repeat' (first | exact Res.nil | exact rfl | exact CutAt.here rfl | exact CellAt.here rfl | apply CutAt.there | apply CellAt.there | apply CutAt.right | apply CellAt.right | apply Res.tmp | apply Res.agg' | apply Res.cell')) (H' := s.H) (fun _ h => h.sublist (.cons _ (.cons _ (.refl _)))) ⟨none, 0, 0, [], s, ?_, .inl ⟨rfl, ?_, rfl⟩, hs, by simp, rfl, by omega, ?_, rfl⟩
    · simp [tup, doM, doB, doE, h0, h1, h2, mCells]
    · simp [doM, h2]
    · simp [doS, h0, h1, h2]

theorem does_tr (F : Nat → Option Obj) (o : Ov) (bs : List UInt8) (ks : List Sk) (ho : o.Is F bs ks) (s : RM) (hs : s.ok) (hfew : s.turns < 1000000) (htot : totD s.L + totM s.row + bs.length ≤ 1000000000) (hnx : s.nx.length < 1000000) (hmany : ks.length ≤ 1000) (h16 : nx16 s.nx) :
    Tr Try.prog 12 [.pointer (some ⟨s.R, 0, none⟩), .agg o.cells.toArray].toArray F s.H (DoesQ s o bs ks) := by
  by_cases h0 : o.kind = 0
  · exact does_put F o bs ks ho h0 s hs hfew htot hnx
  by_cases h1 : o.kind = 1
  · exact does_skip F o bs ks ho h1 s hs hmany h16 hnx
  by_cases h2 : o.kind = 2
  · exact does_take F o bs ks h2 s hs
  · exact does_none F o bs ks h0 h1 h2 s hs

end Go.Proofs.Ytokbkocjddcklaa
