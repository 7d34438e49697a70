/- The document's set of numbers, in memory, and its methods, walked: they answer as the plain functions do. Conditions: it is well formed; numbers are 32 bits wide. -/
import Derived.Test.YtkncbiepmgdgeaaSpK
import Derived.Test.YtkncbiepmgdgeaaSpS
namespace Go.Proofs.Ytkncbiepmgdgeaa
open Go Go.Sl Go.Spn

structure RS where
  R : Nat
  b : Int
  cs : List Value
def RS.H (r : RS) : HL := [(r.R, .cells (.int .u32 r.b :: r.cs).toArray 45 (0, 0))]
def bitAt (cs : List Value) (d : Nat) : Bool := match cs[d]? with | some (.bool x) => x | _ => false
def RS.S (r : RS) : Spn.S := ⟨r.b, bitAt r.cs⟩
def bitsOk (cs : List Value) : Prop := cs.length = 4097 ∧ (∀ v ∈ cs, ∃ x, v = .bool x) ∧ bitAt cs 0 = false
structure RS.ok (r : RS) : Prop where
  bits : bitsOk r.cs
  base : 0 ≤ r.b ∧ r.b < 4294967296
theorem bit_out {cs : List Value} (h : bitsOk cs) {d : Nat} (hd : 4096 < d) : bitAt cs d = false := by
  unfold bitAt
  rw [List.getElem?_eq_none (by rw [h.1]; omega)]
theorem RS.ok.S {r : RS} (h : r.ok) : r.S.ok := ⟨h.base, fun d hd => by
  dsimp only [RS.S] at hd
  rcases Nat.eq_zero_or_pos d with rfl | h0
  · rw [h.bits.2.2] at hd; cases hd
  · refine ⟨h0, ?_⟩
    rcases Nat.lt_or_ge 4096 d with h1 | h1
    · rw [bit_out h.bits h1] at hd; cases hd
    · exact h1⟩
theorem bit_get {cs : List Value} (h : bitsOk cs) (b : Value) {k : Nat} (hk : k ≤ 4096) : (b :: cs)[0 + 1 + ((k : Nat) : Int).toNat * 1]? = some (.bool (bitAt cs k)) := by
  rw [show 0 + 1 + ((k : Nat) : Int).toNat * 1 = k + 1 by omega, List.getElem?_cons_succ]
  have hlt : k < cs.length := by rw [h.1]; omega
  obtain ⟨x, hx⟩ := h.2.1 _ (List.getElem_mem hlt)
  unfold bitAt
  rw [List.getElem?_eq_getElem hlt, hx]
theorem bit_put {cs : List Value} (h : bitsOk cs) (b : Value) (v : Bool) {k : Nat} (hk : k ≤ 4096) : spliceK (b :: cs) (0 + 1 + ((k : Nat) : Int).toNat * 1) [.bool v] some = some (b :: cs.set k (.bool v)) := by
  have hlt : k < cs.length := by rw [h.1]; omega
  rw [spliceK_eq, show 0 + 1 + ((k : Nat) : Int).toNat * 1 = k + 1 by omega, if_pos (by simp; omega), List.set_eq_take_append_cons_drop, if_pos hlt]
  simp
theorem bit_set {cs : List Value} (h : bitsOk cs) (v : Bool) {k : Nat} (hk : k ≤ 4096) (d : Nat) : bitAt (cs.set k (.bool v)) d = if d = k then v else bitAt cs d := by
  have hlt : k < cs.length := by rw [h.1]; omega
  unfold bitAt
  by_cases hd : d = k
  · subst hd; rw [if_pos rfl, List.getElem?_set_self hlt]
  · rw [if_neg hd, List.getElem?_set_ne (Ne.symm hd)]
theorem bits_set {cs : List Value} (h : bitsOk cs) (v : Bool) {k : Nat} (hk : k ≤ 4096) (h0 : k = 0 → v = false) : bitsOk (cs.set k (.bool v)) := by
  refine ⟨by simpa using h.1, fun u hu => ?_, ?_⟩
  · rcases List.mem_or_eq_of_mem_set hu with hu | rfl
    · exact h.2.1 u hu
    · exact ⟨v, rfl⟩
  · rw [bit_set h v hk]
    split
    · rename_i he; exact h0 he.symm
    · exact h.2.2

theorem in32_tr (F : Nat → Option Obj) (y b : Int) (hy : 0 ≤ y ∧ y < 4294967296) (hb : 0 ≤ b ∧ b < 4294967296) : Tr Try.prog 38 [.int .u32 y, .int .u32 b, .int .i64 4096].toArray F [] (fun v H => v = .bool (inW (far b y)) ∧ H = []) := by
  refine Tr.enter Try.func38 rfl Try.ntmps38 rfl (fun w0 => ?_)
  have hf : IntKind.u32.wrap (y - b) = ((far b y : Nat) : Int) := (far_int b y).symm
  have hl := far_lt b y
  have e1 : IntKind.u64.wrap ((far b y : Nat) : Int) = far b y := by simp [IntKind.wrap, IntKind.bits, IntKind.signed]; omega
  have e2 : IntKind.u64.wrap (4096 : Int) = 4096 := by decide
  have hz : far b y = 0 ↔ y = b := by unfold far; rw [u32_eq]; omega
  repeat' (first
    | refine W.seq ?_ | refine W.region ?_ | refine W.block ?_ | refine W.skip ?_ | refine W.exit ?_ | refine W.ret ?_ | refine W.cond_t rfl ?_ | refine W.cond_f rfl ?_ | refine WL.nil ?_ | refine WD.nil ?_ | refine Fin.next ?_ | refine Fin.then_exit ?_ | refine Fin.then_ret ?_ | refine Fin.block_normal ?_ | refine Fin.block_ret ?_ | refine Fin.block_exit ?_ | refine Fin.block_other rfl ?_
    | refine WL.pA ?_ | refine WD.pA ?_ | refine WL.sA ?_ | refine WD.sA ?_ | refine WL.g_yes rfl rfl ?_ | refine WL.g_no rfl rfl rfl rfl ?_ | refine WL.g_undef rfl rfl rfl ?_ | refine WL.g_split rfl rfl (fun hc => ?_) (fun hc => ?_) | refine WD.g_yes rfl rfl ?_ | refine WD.g_no rfl rfl rfl rfl ?_ | refine WD.g_undef rfl rfl rfl ?_ | refine WD.g_split rfl rfl (fun hc => ?_) (fun hc => ?_)
    | refine W.drawA ?_ | refine WL.aA (fun _ => ?_) | refine WD.aA (fun _ => ?_) | refine WL.e0A ?_ | refine WD.e0A ?_
    | refine W.cond rfl (fun hc => ?_) (fun hc => ?_))
  all_goals try (exfalso; simp at *; done)
  · refine Fin.retW (by exact rfl) (by repeat' (first | exact Res.nil | exact rfl | exact CutAt.here rfl | exact CellAt.here rfl | apply CutAt.there | apply CellAt.there | apply CutAt.right | apply CellAt.right | apply Res.tmp | apply Res.agg' | apply Res.cell')) (fun _ h => h) ⟨?_, rfl⟩
    rw [hf, e1, e2]
    have h1 : ¬ y = b := by simp at *; assumption
    have h2 : 0 < far b y := by
      rcases Nat.eq_zero_or_pos (far b y) with h | h
      · exact absurd (hz.1 h) h1
      · exact h
    unfold inW
    rw [decide_eq_true h2, Bool.true_and]
    dsimp only [tup]
    congr 1
    rw [decide_eq_decide]
    omega
  all_goals
    refine Fin.retW (by exact rfl) (by repeat' (first | exact Res.nil | exact rfl | exact CutAt.here rfl | exact CellAt.here rfl | apply CutAt.there | apply CellAt.there | apply CutAt.right | apply CellAt.right | apply Res.tmp | apply Res.agg' | apply Res.cell')) (fun _ h => h) ⟨?_, rfl⟩
    have h1 : y = b := by simp at *; assumption
    simp [tup, inW, hz.2 h1]
theorem rhas_tr (F : Nat → Option Obj) (r : RS) (hr : r.ok) (y : Int) (hy : 0 ≤ y ∧ y < 4294967296) : Tr Try.prog 23 [.pointer (some ⟨r.R, 0, none⟩), .int .u32 y].toArray F r.H (fun v H => v = .bool (Spn.has r.S y) ∧ H = r.H) := by
  refine Tr.enter Try.func23 rfl Try.ntmps23 rfl (fun w0 => ?_)
  have hf : IntKind.u32.wrap (y - r.b) = ((far r.b y : Nat) : Int) := (far_int _ _).symm
  unfold RS.H
  repeat' (first
    | refine W.seq ?_ | refine W.region ?_ | refine W.block ?_ | refine W.skip ?_ | refine W.exit ?_ | refine W.ret ?_ | refine W.cond_t rfl ?_ | refine W.cond_f rfl ?_ | refine WL.nil ?_ | refine WD.nil ?_ | refine Fin.next ?_ | refine Fin.then_exit ?_ | refine Fin.then_ret ?_ | refine Fin.block_normal ?_ | refine Fin.block_ret ?_ | refine Fin.block_exit ?_ | refine Fin.block_other rfl ?_
    | refine WL.pA ?_ | refine WD.pA ?_ | refine WL.sA ?_ | refine WD.sA ?_ | refine WL.g_yes rfl rfl ?_ | refine WL.g_no rfl rfl rfl rfl ?_ | refine WL.g_undef rfl rfl rfl ?_ | refine WL.g_split rfl rfl (fun hc => ?_) (fun hc => ?_) | refine WD.g_yes rfl rfl ?_ | refine WD.g_no rfl rfl rfl rfl ?_ | refine WD.g_undef rfl rfl rfl ?_ | refine WD.g_split rfl rfl (fun hc => ?_) (fun hc => ?_)
    | refine W.drawA ?_ | refine WL.aA (fun _ => ?_) | refine WD.aA (fun _ => ?_) | refine WL.e0A ?_ | refine WD.e0A ?_
    | refine W.cond rfl (fun hc => ?_) (fun hc => ?_))
  refine WD.e rfl (Ef.callR (by exact rfl) (.nil _) (in32_tr _ y r.b hy hr.base)) ?_
  rintro _ _ ⟨rfl, rfl⟩
  refine ⟨by first | (refine Or.inr (fun _ h => h.sublist ?_); (repeat (first | exact List.Sublist.refl _ | refine List.Sublist.cons_cons _ ?_ | refine List.Sublist.cons _ ?_)); first | done | fail) | exact Or.inl (by kernel_rfl), ?_⟩
  repeat' (first
    | refine W.seq ?_ | refine W.region ?_ | refine W.block ?_ | refine W.skip ?_ | refine W.exit ?_ | refine W.ret ?_ | refine W.cond_t rfl ?_ | refine W.cond_f rfl ?_ | refine WL.nil ?_ | refine WD.nil ?_ | refine Fin.next ?_ | refine Fin.then_exit ?_ | refine Fin.then_ret ?_ | refine Fin.block_normal ?_ | refine Fin.block_ret ?_ | refine Fin.block_exit ?_ | refine Fin.block_other rfl ?_
    | refine WL.pA ?_ | refine WD.pA ?_ | refine WL.sA ?_ | refine WD.sA ?_ | refine WL.g_yes rfl rfl ?_ | refine WL.g_no rfl rfl rfl rfl ?_ | refine WL.g_undef rfl rfl rfl ?_ | refine WL.g_split rfl rfl (fun hc => ?_) (fun hc => ?_) | refine WD.g_yes rfl rfl ?_ | refine WD.g_no rfl rfl rfl rfl ?_ | refine WD.g_undef rfl rfl rfl ?_ | refine WD.g_split rfl rfl (fun hc => ?_) (fun hc => ?_)
    | refine W.drawA ?_ | refine WL.aA (fun _ => ?_) | refine WD.aA (fun _ => ?_) | refine WL.e0A ?_ | refine WD.e0A ?_
    | refine W.cond rfl (fun hc => ?_) (fun hc => ?_))
  · have hk := inW_iff.1 hc
    rw [hf]
    refine WD.p rfl (Pu.iaA rfl rfl (by omega)) ?_
    have hcell := bit_get hr.bits (.int .u32 r.b) hk.2
    repeat' (first
      | refine W.seq ?_ | refine W.region ?_ | refine W.block ?_ | refine W.skip ?_ | refine W.exit ?_ | refine W.ret ?_ | refine W.cond_t rfl ?_ | refine W.cond_f rfl ?_ | refine WL.nil ?_ | refine WD.nil ?_ | refine Fin.next ?_ | refine Fin.then_exit ?_ | refine Fin.then_ret ?_ | refine Fin.block_normal ?_ | refine Fin.block_ret ?_ | refine Fin.block_exit ?_ | refine Fin.block_other rfl ?_
      | refine WL.pA ?_ | refine WD.pA ?_ | refine WL.sA ?_ | refine WD.sA ?_ | refine WL.g_yes rfl rfl ?_ | refine WL.g_no rfl rfl rfl rfl ?_ | refine WL.g_undef rfl rfl rfl ?_ | refine WL.g_split rfl rfl (fun hc => ?_) (fun hc => ?_) | refine WD.g_yes rfl rfl ?_ | refine WD.g_no rfl rfl rfl rfl ?_ | refine WD.g_undef rfl rfl rfl ?_ | refine WD.g_split rfl rfl (fun hc => ?_) (fun hc => ?_)
      | refine W.drawA ?_ | refine WL.aA (fun _ => ?_) | refine WD.aA (fun _ => ?_) | refine WL.e0A ?_ | refine WD.e0A ?_
      | refine W.cond rfl (fun hc => ?_) (fun hc => ?_))
    exact Fin.retW (by exact rfl) (by repeat' (first | exact Res.nil | exact rfl | exact CutAt.here rfl | exact CellAt.here rfl | apply CutAt.there | apply CellAt.there | apply CutAt.right | apply CellAt.right | apply Res.tmp | apply Res.agg' | apply Res.cell')) (fun _ h => h) ⟨by simp [tup, Spn.has, RS.S, hc], rfl⟩
  · exact Fin.retW (by exact rfl) (by repeat' (first | exact Res.nil | exact rfl | exact CutAt.here rfl | exact CellAt.here rfl | apply CutAt.there | apply CellAt.there | apply CutAt.right | apply CellAt.right | apply Res.tmp | apply Res.agg' | apply Res.cell')) (fun _ h => h) ⟨by simp [tup, Spn.has, RS.S, hc], rfl⟩
theorem add_in {s : Spn.S} {y : Int} (h : s.p (far s.b y) = true) : Spn.add s y = s := by
  unfold Spn.add
  split
  · refine S.ext rfl (fun d => ?_)
    dsimp only
    by_cases hd : d = far s.b y
    · rw [hd, h]; simp
    · simp [hd]
  · rfl
theorem radd_tr (F : Nat → Option Obj) (r : RS) (hr : r.ok) (y : Int) (hy : 0 ≤ y ∧ y < 4294967296) : Tr Try.prog 22 [.pointer (some ⟨r.R, 0, none⟩), .int .u32 y].toArray F r.H (fun v H => v = .bool (Spn.addB r.S y) ∧ ∃ r' : RS, r'.ok ∧ H = r'.H ∧ r'.R = r.R ∧ r'.S = Spn.add r.S y) := by
  refine Tr.enter Try.func22 rfl Try.ntmps22 rfl (fun w0 => ?_)
  have hf : IntKind.u32.wrap (y - r.b) = ((far r.b y : Nat) : Int) := (far_int _ _).symm
  have hSb : r.S.b = r.b := rfl
  unfold RS.H
  repeat' (first
    | refine W.seq ?_ | refine W.region ?_ | refine W.block ?_ | refine W.skip ?_ | refine W.exit ?_ | refine W.ret ?_ | refine W.cond_t rfl ?_ | refine W.cond_f rfl ?_ | refine WL.nil ?_ | refine WD.nil ?_ | refine Fin.next ?_ | refine Fin.then_exit ?_ | refine Fin.then_ret ?_ | refine Fin.block_normal ?_ | refine Fin.block_ret ?_ | refine Fin.block_exit ?_ | refine Fin.block_other rfl ?_
    | refine WL.pA ?_ | refine WD.pA ?_ | refine WL.sA ?_ | refine WD.sA ?_ | refine WL.g_yes rfl rfl ?_ | refine WL.g_no rfl rfl rfl rfl ?_ | refine WL.g_undef rfl rfl rfl ?_ | refine WL.g_split rfl rfl (fun hc => ?_) (fun hc => ?_) | refine WD.g_yes rfl rfl ?_ | refine WD.g_no rfl rfl rfl rfl ?_ | refine WD.g_undef rfl rfl rfl ?_ | refine WD.g_split rfl rfl (fun hc => ?_) (fun hc => ?_)
    | refine W.drawA ?_ | refine WL.aA (fun _ => ?_) | refine WD.aA (fun _ => ?_) | refine WL.e0A ?_ | refine WD.e0A ?_
    | refine W.cond rfl (fun hc => ?_) (fun hc => ?_))
  refine WD.e rfl (Ef.callR (by exact rfl) (.nil _) (in32_tr _ y r.b hy hr.base)) ?_
  rintro _ _ ⟨rfl, rfl⟩
  refine ⟨by first | (refine Or.inr (fun _ h => h.sublist ?_); (repeat (first | exact List.Sublist.refl _ | refine List.Sublist.cons_cons _ ?_ | refine List.Sublist.cons _ ?_)); first | done | fail) | exact Or.inl (by kernel_rfl), ?_⟩
  repeat' (first
    | refine W.seq ?_ | refine W.region ?_ | refine W.block ?_ | refine W.skip ?_ | refine W.exit ?_ | refine W.ret ?_ | refine W.cond_t rfl ?_ | refine W.cond_f rfl ?_ | refine WL.nil ?_ | refine WD.nil ?_ | refine Fin.next ?_ | refine Fin.then_exit ?_ | refine Fin.then_ret ?_ | refine Fin.block_normal ?_ | refine Fin.block_ret ?_ | refine Fin.block_exit ?_ | refine Fin.block_other rfl ?_
    | refine WL.pA ?_ | refine WD.pA ?_ | refine WL.sA ?_ | refine WD.sA ?_ | refine WL.g_yes rfl rfl ?_ | refine WL.g_no rfl rfl rfl rfl ?_ | refine WL.g_undef rfl rfl rfl ?_ | refine WL.g_split rfl rfl (fun hc => ?_) (fun hc => ?_) | refine WD.g_yes rfl rfl ?_ | refine WD.g_no rfl rfl rfl rfl ?_ | refine WD.g_undef rfl rfl rfl ?_ | refine WD.g_split rfl rfl (fun hc => ?_) (fun hc => ?_)
    | refine W.drawA ?_ | refine WL.aA (fun _ => ?_) | refine WD.aA (fun _ => ?_) | refine WL.e0A ?_ | refine WD.e0A ?_
    | refine W.cond rfl (fun hc => ?_) (fun hc => ?_))
  · have h1 : inW (far r.b y) = false := by simpa using hc
    refine Fin.retW (by exact rfl) (by repeat' (first | exact Res.nil | exact rfl | exact CutAt.here rfl | exact CellAt.here rfl | apply CutAt.there | apply CellAt.there | apply CutAt.right | apply CellAt.right | apply Res.tmp | apply Res.agg' | apply Res.cell')) (fun _ h => h) ⟨by simp [tup, Spn.addB, hSb, h1], r, hr, rfl, rfl, ?_⟩
    unfold Spn.add
    rw [hSb, h1]
    rfl
  · have h1 : inW (far r.b y) = true := by simpa using hc
    have hk := inW_iff.1 h1
    rw [hf]
    refine WD.p rfl (Pu.iaA rfl rfl (by omega)) ?_
    have hcell := bit_get hr.bits (.int .u32 r.b) hk.2
    repeat' (first
      | refine W.seq ?_ | refine W.region ?_ | refine W.block ?_ | refine W.skip ?_ | refine W.exit ?_ | refine W.ret ?_ | refine W.cond_t rfl ?_ | refine W.cond_f rfl ?_ | refine WL.nil ?_ | refine WD.nil ?_ | refine Fin.next ?_ | refine Fin.then_exit ?_ | refine Fin.then_ret ?_ | refine Fin.block_normal ?_ | refine Fin.block_ret ?_ | refine Fin.block_exit ?_ | refine Fin.block_other rfl ?_
      | refine WL.pA ?_ | refine WD.pA ?_ | refine WL.sA ?_ | refine WD.sA ?_ | refine WL.g_yes rfl rfl ?_ | refine WL.g_no rfl rfl rfl rfl ?_ | refine WL.g_undef rfl rfl rfl ?_ | refine WL.g_split rfl rfl (fun hc => ?_) (fun hc => ?_) | refine WD.g_yes rfl rfl ?_ | refine WD.g_no rfl rfl rfl rfl ?_ | refine WD.g_undef rfl rfl rfl ?_ | refine WD.g_split rfl rfl (fun hc => ?_) (fun hc => ?_)
      | refine W.drawA ?_ | refine WL.aA (fun _ => ?_) | refine WD.aA (fun _ => ?_) | refine WL.e0A ?_ | refine WD.e0A ?_
      | refine W.cond rfl (fun hc => ?_) (fun hc => ?_))
    · have hb : bitAt r.cs (far r.b y) = true := hc
      exact Fin.retW (by exact rfl) (by repeat' (first | exact Res.nil | exact rfl | exact CutAt.here rfl | exact CellAt.here rfl | apply CutAt.there | apply CellAt.there | apply CutAt.right | apply CellAt.right | apply Res.tmp | apply Res.agg' | apply Res.cell')) (fun _ h => h) ⟨by simp [tup, Spn.addB, RS.S, hb], r, hr, rfl, rfl, (add_in hb).symm⟩
    · have hb : bitAt r.cs (far r.b y) = false := hc
      rw [hf]
      refine WD.p rfl (Pu.iaA rfl rfl (by omega)) ?_
      have hput := bit_put hr.bits (.int .u32 r.b) true hk.2
      repeat' (first
        | refine W.seq ?_ | refine W.region ?_ | refine W.block ?_ | refine W.skip ?_ | refine W.exit ?_ | refine W.ret ?_ | refine W.cond_t rfl ?_ | refine W.cond_f rfl ?_ | refine WL.nil ?_ | refine WD.nil ?_ | refine Fin.next ?_ | refine Fin.then_exit ?_ | refine Fin.then_ret ?_ | refine Fin.block_normal ?_ | refine Fin.block_ret ?_ | refine Fin.block_exit ?_ | refine Fin.block_other rfl ?_
        | refine WL.pA ?_ | refine WD.pA ?_ | refine WL.sA ?_ | refine WD.sA ?_ | refine WL.g_yes rfl rfl ?_ | refine WL.g_no rfl rfl rfl rfl ?_ | refine WL.g_undef rfl rfl rfl ?_ | refine WL.g_split rfl rfl (fun hc => ?_) (fun hc => ?_) | refine WD.g_yes rfl rfl ?_ | refine WD.g_no rfl rfl rfl rfl ?_ | refine WD.g_undef rfl rfl rfl ?_ | refine WD.g_split rfl rfl (fun hc => ?_) (fun hc => ?_)
        | refine W.drawA ?_ | refine WL.aA (fun _ => ?_) | refine WD.aA (fun _ => ?_) | refine WL.e0A ?_ | refine WD.e0A ?_
        | refine W.cond rfl (fun hc => ?_) (fun hc => ?_))
      refine Fin.retW (by exact rfl) (by repeat' (first | exact Res.nil | exact rfl | exact CutAt.here rfl | exact CellAt.here rfl | apply CutAt.there | apply CellAt.there | apply CutAt.right | apply CellAt.right | apply Res.tmp | apply Res.agg' | apply Res.cell')) (fun _ h => h) ⟨by simp [tup, Spn.addB, RS.S, hb, h1], ⟨r.R, r.b, r.cs.set (far r.b y) (.bool true)⟩, ⟨bits_set hr.bits true hk.2 (by omega), hr.base⟩, rfl, rfl, ?_⟩
      unfold Spn.add
      rw [hSb, if_pos h1]
      refine S.ext rfl (fun d => ?_)
      dsimp only [RS.S]
      rw [bit_set hr.bits true hk.2]
      by_cases hd : d = far r.b y <;> simp [hd]
theorem rcount_tr (F : Nat → Option Obj) (r : RS) (hr : r.ok) : Tr Try.prog 28 [.pointer (some ⟨r.R, 0, none⟩)].toArray F r.H (fun v H => v = .int .i64 (Spn.count r.S) ∧ H = r.H) := by
  refine Tr.enter Try.func28 rfl Try.ntmps28 rfl (fun w0 => ?_)
  have hc1 : cnt r.S.p 1 = 0 := cnt_one hr.bits.2.2
  repeat' (first
    | refine W.seq ?_ | refine W.region ?_ | refine W.block ?_ | refine W.skip ?_ | refine W.exit ?_ | refine W.ret ?_ | refine W.cond_t rfl ?_ | refine W.cond_f rfl ?_ | refine WL.nil ?_ | refine WD.nil ?_ | refine Fin.next ?_ | refine Fin.then_exit ?_ | refine Fin.then_ret ?_ | refine Fin.block_normal ?_ | refine Fin.block_ret ?_ | refine Fin.block_exit ?_ | refine Fin.block_other rfl ?_
    | refine WL.pA ?_ | refine WD.pA ?_ | refine WL.sA ?_ | refine WD.sA ?_ | refine WL.g_yes rfl rfl ?_ | refine WL.g_no rfl rfl rfl rfl ?_ | refine WL.g_undef rfl rfl rfl ?_ | refine WL.g_split rfl rfl (fun hc => ?_) (fun hc => ?_) | refine WD.g_yes rfl rfl ?_ | refine WD.g_no rfl rfl rfl rfl ?_ | refine WD.g_undef rfl rfl rfl ?_ | refine WD.g_split rfl rfl (fun hc => ?_) (fun hc => ?_)
    | refine W.drawA ?_ | refine WL.aA (fun _ => ?_) | refine WD.aA (fun _ => ?_) | refine WL.e0A ?_ | refine WD.e0A ?_
    | refine W.cond rfl (fun hc => ?_) (fun hc => ?_))
  refine W.loop (G := Nat) (fun i => [(0, .pointer (some ⟨r.R, 0, none⟩)), (3, .int .i64 (cnt r.S.p i)), (4, .int .i64 i)]) (fun _ => r.H) (fun i => 1 ≤ i ∧ i ≤ 4097) (fun i => 4097 - i) 1 (by omega) (by rw [hc1]; exact (sub_of (by repeat (first | exact subEnv.nil | refine subEnv.cons rfl ?_)))) (fun _ h => h) ?_
  intro i hi
  dsimp only at hi ⊢
  have hcl := cnt_le r.S.p i
  have hcs := cnt_succ r.S.p i
  unfold RS.H
  repeat' (first
    | refine W.seq ?_ | refine W.region ?_ | refine W.block ?_ | refine W.skip ?_ | refine W.exit ?_ | refine W.ret ?_ | refine W.cond_t rfl ?_ | refine W.cond_f rfl ?_ | refine WL.nil ?_ | refine WD.nil ?_ | refine Fin.next ?_ | refine Fin.then_exit ?_ | refine Fin.then_ret ?_ | refine Fin.block_normal ?_ | refine Fin.block_ret ?_ | refine Fin.block_exit ?_ | refine Fin.block_other rfl ?_
    | refine WL.pA ?_ | refine WD.pA ?_ | refine WL.sA ?_ | refine WD.sA ?_ | refine WL.g_yes rfl rfl ?_ | refine WL.g_no rfl rfl rfl rfl ?_ | refine WL.g_undef rfl rfl rfl ?_ | refine WL.g_split rfl rfl (fun hc => ?_) (fun hc => ?_) | refine WD.g_yes rfl rfl ?_ | refine WD.g_no rfl rfl rfl rfl ?_ | refine WD.g_undef rfl rfl rfl ?_ | refine WD.g_split rfl rfl (fun hc => ?_) (fun hc => ?_)
    | refine W.drawA ?_ | refine WL.aA (fun _ => ?_) | refine WD.aA (fun _ => ?_) | refine WL.e0A ?_ | refine WD.e0A ?_
    | refine W.cond rfl (fun hc => ?_) (fun hc => ?_))
  · have hi' : i ≤ 4096 := by have := of_decide_eq_true hc; omega
    refine WL.p rfl (Pu.iaA rfl rfl (by omega)) ?_
    have hcell := bit_get hr.bits (.int .u32 r.b) hi'
    repeat' (first
      | refine W.seq ?_ | refine W.region ?_ | refine W.block ?_ | refine W.skip ?_ | refine W.exit ?_ | refine W.ret ?_ | refine W.cond_t rfl ?_ | refine W.cond_f rfl ?_ | refine WL.nil ?_ | refine WD.nil ?_ | refine Fin.next ?_ | refine Fin.then_exit ?_ | refine Fin.then_ret ?_ | refine Fin.block_normal ?_ | refine Fin.block_ret ?_ | refine Fin.block_exit ?_ | refine Fin.block_other rfl ?_
      | refine WL.pA ?_ | refine WD.pA ?_ | refine WL.sA ?_ | refine WD.sA ?_ | refine WL.g_yes rfl rfl ?_ | refine WL.g_no rfl rfl rfl rfl ?_ | refine WL.g_undef rfl rfl rfl ?_ | refine WL.g_split rfl rfl (fun hc => ?_) (fun hc => ?_) | refine WD.g_yes rfl rfl ?_ | refine WD.g_no rfl rfl rfl rfl ?_ | refine WD.g_undef rfl rfl rfl ?_ | refine WD.g_split rfl rfl (fun hc => ?_) (fun hc => ?_)
      | refine W.drawA ?_ | refine WL.aA (fun _ => ?_) | refine WD.aA (fun _ => ?_) | refine WL.e0A ?_ | refine WD.e0A ?_
      | refine W.cond rfl (fun hc => ?_) (fun hc => ?_))
    · rw [i64_succ (i := cnt r.S.p i) (by omega), i64_succ (i := i) (by omega)]
      rw [if_pos (show r.S.p i = true from hc)] at hcs
      exact Fin.round (i + 1) (by omega) (by rw [hcs]; exact (sub_of (by repeat (first | exact subEnv.nil | refine subEnv.cons rfl ?_)))) (fun _ h => h) (by omega)
    · rw [i64_succ (i := i) (by omega)]
      rw [if_neg (by show ¬ bitAt r.cs i = true; rw [hc]; simp)] at hcs
      exact Fin.round (i + 1) (by omega) (by rw [hcs]; exact (sub_of (by repeat (first | exact subEnv.nil | refine subEnv.cons rfl ?_)))) (fun _ h => h) (by omega)
  · have hi' : i = 4097 := by have := of_decide_eq_false hc; omega
    subst hi'
    exact Fin.retW (by exact rfl) (by repeat' (first | exact Res.nil | exact rfl | exact CutAt.here rfl | exact CellAt.here rfl | apply CutAt.there | apply CellAt.there | apply CutAt.right | apply CellAt.right | apply Res.tmp | apply Res.agg' | apply Res.cell')) (fun _ h => h) ⟨rfl, rfl⟩
theorem rlast_tr (F : Nat → Option Obj) (r : RS) (hr : r.ok) : Tr Try.prog 29 [.pointer (some ⟨r.R, 0, none⟩)].toArray F r.H (fun v H => v = .int .u32 (Spn.last r.S) ∧ H = r.H) := by
  refine Tr.enter Try.func29 rfl Try.ntmps29 rfl (fun w0 => ?_)
  repeat' (first
    | refine W.seq ?_ | refine W.region ?_ | refine W.block ?_ | refine W.skip ?_ | refine W.exit ?_ | refine W.ret ?_ | refine W.cond_t rfl ?_ | refine W.cond_f rfl ?_ | refine WL.nil ?_ | refine WD.nil ?_ | refine Fin.next ?_ | refine Fin.then_exit ?_ | refine Fin.then_ret ?_ | refine Fin.block_normal ?_ | refine Fin.block_ret ?_ | refine Fin.block_exit ?_ | refine Fin.block_other rfl ?_
    | refine WL.pA ?_ | refine WD.pA ?_ | refine WL.sA ?_ | refine WD.sA ?_ | refine WL.g_yes rfl rfl ?_ | refine WL.g_no rfl rfl rfl rfl ?_ | refine WL.g_undef rfl rfl rfl ?_ | refine WL.g_split rfl rfl (fun hc => ?_) (fun hc => ?_) | refine WD.g_yes rfl rfl ?_ | refine WD.g_no rfl rfl rfl rfl ?_ | refine WD.g_undef rfl rfl rfl ?_ | refine WD.g_split rfl rfl (fun hc => ?_) (fun hc => ?_)
    | refine W.drawA ?_ | refine WL.aA (fun _ => ?_) | refine WD.aA (fun _ => ?_) | refine WL.e0A ?_ | refine WD.e0A ?_
    | refine W.cond rfl (fun hc => ?_) (fun hc => ?_))
  refine W.loop (G := Nat) (fun i => [(0, .pointer (some ⟨r.R, 0, none⟩)), (3, .int .i64 i)]) (fun _ => r.H) (fun i => i ≤ 4096 ∧ ∀ d, i < d → r.S.p d = false) (fun i => i) 4096 ⟨by omega, fun d hd => bit_out hr.bits hd⟩ (sub_of (by repeat (first | exact subEnv.nil | refine subEnv.cons rfl ?_))) (fun _ h => h) ?_
  rintro i ⟨hi, hno⟩
  dsimp only at hi hno ⊢
  unfold RS.H
  repeat' (first
    | refine W.seq ?_ | refine W.region ?_ | refine W.block ?_ | refine W.skip ?_ | refine W.exit ?_ | refine W.ret ?_ | refine W.cond_t rfl ?_ | refine W.cond_f rfl ?_ | refine WL.nil ?_ | refine WD.nil ?_ | refine Fin.next ?_ | refine Fin.then_exit ?_ | refine Fin.then_ret ?_ | refine Fin.block_normal ?_ | refine Fin.block_ret ?_ | refine Fin.block_exit ?_ | refine Fin.block_other rfl ?_
    | refine WL.pA ?_ | refine WD.pA ?_ | refine WL.sA ?_ | refine WD.sA ?_ | refine WL.g_yes rfl rfl ?_ | refine WL.g_no rfl rfl rfl rfl ?_ | refine WL.g_undef rfl rfl rfl ?_ | refine WL.g_split rfl rfl (fun hc => ?_) (fun hc => ?_) | refine WD.g_yes rfl rfl ?_ | refine WD.g_no rfl rfl rfl rfl ?_ | refine WD.g_undef rfl rfl rfl ?_ | refine WD.g_split rfl rfl (fun hc => ?_) (fun hc => ?_)
    | refine W.drawA ?_ | refine WL.aA (fun _ => ?_) | refine WD.aA (fun _ => ?_) | refine WL.e0A ?_ | refine WD.e0A ?_
    | refine W.cond rfl (fun hc => ?_) (fun hc => ?_))
  · have hi' : 1 ≤ i := by have := of_decide_eq_true hc; omega
    refine WL.p rfl (Pu.iaA rfl rfl (by omega)) ?_
    have hcell := bit_get hr.bits (.int .u32 r.b) hi
    repeat' (first
      | refine W.seq ?_ | refine W.region ?_ | refine W.block ?_ | refine W.skip ?_ | refine W.exit ?_ | refine W.ret ?_ | refine W.cond_t rfl ?_ | refine W.cond_f rfl ?_ | refine WL.nil ?_ | refine WD.nil ?_ | refine Fin.next ?_ | refine Fin.then_exit ?_ | refine Fin.then_ret ?_ | refine Fin.block_normal ?_ | refine Fin.block_ret ?_ | refine Fin.block_exit ?_ | refine Fin.block_other rfl ?_
      | refine WL.pA ?_ | refine WD.pA ?_ | refine WL.sA ?_ | refine WD.sA ?_ | refine WL.g_yes rfl rfl ?_ | refine WL.g_no rfl rfl rfl rfl ?_ | refine WL.g_undef rfl rfl rfl ?_ | refine WL.g_split rfl rfl (fun hc => ?_) (fun hc => ?_) | refine WD.g_yes rfl rfl ?_ | refine WD.g_no rfl rfl rfl rfl ?_ | refine WD.g_undef rfl rfl rfl ?_ | refine WD.g_split rfl rfl (fun hc => ?_) (fun hc => ?_)
      | refine W.drawA ?_ | refine WL.aA (fun _ => ?_) | refine WD.aA (fun _ => ?_) | refine WL.e0A ?_ | refine WD.e0A ?_
      | refine W.cond rfl (fun hc => ?_) (fun hc => ?_))
    · refine Fin.retW (by exact rfl) (by repeat' (first | exact Res.nil | exact rfl | exact CutAt.here rfl | exact CellAt.here rfl | apply CutAt.there | apply CellAt.there | apply CutAt.right | apply CellAt.right | apply Res.tmp | apply Res.agg' | apply Res.cell')) (fun _ h => h) ⟨?_, rfl⟩
      have hlast : (dist r.S.p).getLast? = some i := getLast_max (dist_sorted _) (mem_dist.2 ⟨hi, hc⟩) (fun e he => by
        rcases Nat.lt_or_ge i e with h | h
        · have := (mem_dist.1 he).2; rw [hno e h] at this; cases this
        · exact h)
      unfold Spn.last
      rw [hlast]
      exact congrArg (Value.int .u32) (u32_add r.b (i : Int))
    · have hbit : r.S.p i = false := hc
      rw [show IntKind.i64.wrap ((i : Int) - 1) = ((i - 1 : Nat) : Int) by rw [i64_id (by omega) (by omega)]; omega]
      refine Fin.round (i - 1) ⟨by omega, fun d hd => ?_⟩ (sub_of (by repeat (first | exact subEnv.nil | refine subEnv.cons rfl ?_))) (fun _ h => h) (by omega)
      rcases Nat.lt_or_ge i d with h | h
      · exact hno d h
      · rw [show d = i by omega]; exact hbit
  · have hi' : i = 0 := by have := of_decide_eq_false hc; omega
    subst hi'
    refine Fin.retW (by exact rfl) (by repeat' (first | exact Res.nil | exact rfl | exact CutAt.here rfl | exact CellAt.here rfl | apply CutAt.there | apply CellAt.there | apply CutAt.right | apply CellAt.right | apply Res.tmp | apply Res.agg' | apply Res.cell')) (fun _ h => h) ⟨?_, rfl⟩
    have hd : dist r.S.p = [] := by
      unfold dist
      rw [List.filter_eq_nil_iff]
      intro d _
      rcases Nat.eq_zero_or_pos d with rfl | h
      · show ¬ bitAt r.cs 0 = true; rw [hr.bits.2.2]; simp
      · rw [hno d h]; simp
    exact congrArg (Value.int .u32) (last_none hr.S hd).symm
structure ShG where
  i : Nat
  cs : List Value
theorem rshift_tr (F : Nat → Option Obj) (r : RS) (hr : r.ok) (n : Nat) (hn : n ≤ 4096) : Tr Try.prog 39 [.pointer (some ⟨r.R, 0, none⟩), .int .i64 n].toArray F r.H (fun _ H => ∃ r' : RS, r'.ok ∧ H = r'.H ∧ r'.R = r.R ∧ r'.S = Spn.shift r.S n) := by
  refine Tr.enter Try.func39 rfl Try.ntmps39 rfl (fun w0 => ?_)
  repeat' (first
    | refine W.seq ?_ | refine W.region ?_ | refine W.block ?_ | refine W.skip ?_ | refine W.exit ?_ | refine W.ret ?_ | refine W.cond_t rfl ?_ | refine W.cond_f rfl ?_ | refine WL.nil ?_ | refine WD.nil ?_ | refine Fin.next ?_ | refine Fin.then_exit ?_ | refine Fin.then_ret ?_ | refine Fin.block_normal ?_ | refine Fin.block_ret ?_ | refine Fin.block_exit ?_ | refine Fin.block_other rfl ?_
    | refine WL.pA ?_ | refine WD.pA ?_ | refine WL.sA ?_ | refine WD.sA ?_ | refine WL.g_yes rfl rfl ?_ | refine WL.g_no rfl rfl rfl rfl ?_ | refine WL.g_undef rfl rfl rfl ?_ | refine WL.g_split rfl rfl (fun hc => ?_) (fun hc => ?_) | refine WD.g_yes rfl rfl ?_ | refine WD.g_no rfl rfl rfl rfl ?_ | refine WD.g_undef rfl rfl rfl ?_ | refine WD.g_split rfl rfl (fun hc => ?_) (fun hc => ?_)
    | refine W.drawA ?_ | refine WL.aA (fun _ => ?_) | refine WD.aA (fun _ => ?_) | refine WL.e0A ?_ | refine WD.e0A ?_
    | refine W.cond rfl (fun hc => ?_) (fun hc => ?_))
  refine W.loop (G := ShG) (fun g => [(0, .pointer (some ⟨r.R, 0, none⟩)), (1, .int .i64 n), (4, .int .i64 g.i)]) (fun g => [(r.R, .cells (.int .u32 r.b :: g.cs).toArray 45 (0, 0))]) (fun g => (1 ≤ g.i ∧ g.i ≤ 4097) ∧ bitsOk g.cs ∧ ∀ d, bitAt g.cs d = if d < g.i then inW d && bitAt r.cs (d + n) else bitAt r.cs d) (fun g => 4097 - g.i)
    ⟨1, r.cs⟩ ⟨⟨Nat.le_refl _, by dsimp only; omega⟩, hr.bits, fun d => by
      dsimp only
      split
      · rw [show d = 0 by omega, hr.bits.2.2]; rfl
      · rfl⟩ (sub_of (by repeat (first | exact subEnv.nil | refine subEnv.cons rfl ?_))) (fun _ h => h) ?_
  rintro ⟨i, cs⟩ ⟨hi, hcs, hbit⟩
  dsimp only at hi hcs hbit ⊢
  repeat' (first
    | refine W.seq ?_ | refine W.region ?_ | refine W.block ?_ | refine W.skip ?_ | refine W.exit ?_ | refine W.ret ?_ | refine W.cond_t rfl ?_ | refine W.cond_f rfl ?_ | refine WL.nil ?_ | refine WD.nil ?_ | refine Fin.next ?_ | refine Fin.then_exit ?_ | refine Fin.then_ret ?_ | refine Fin.block_normal ?_ | refine Fin.block_ret ?_ | refine Fin.block_exit ?_ | refine Fin.block_other rfl ?_
    | refine WL.pA ?_ | refine WD.pA ?_ | refine WL.sA ?_ | refine WD.sA ?_ | refine WL.g_yes rfl rfl ?_ | refine WL.g_no rfl rfl rfl rfl ?_ | refine WL.g_undef rfl rfl rfl ?_ | refine WL.g_split rfl rfl (fun hc => ?_) (fun hc => ?_) | refine WD.g_yes rfl rfl ?_ | refine WD.g_no rfl rfl rfl rfl ?_ | refine WD.g_undef rfl rfl rfl ?_ | refine WD.g_split rfl rfl (fun hc => ?_) (fun hc => ?_)
    | refine W.drawA ?_ | refine WL.aA (fun _ => ?_) | refine WD.aA (fun _ => ?_) | refine WL.e0A ?_ | refine WD.e0A ?_
    | refine W.cond rfl (fun hc => ?_) (fun hc => ?_))
  · have hi' : i ≤ 4096 := by have := of_decide_eq_true (by assumption : decide ((i : Int) ≤ 4096) = true); omega
    rw [show IntKind.i64.wrap ((i : Int) + (n : Int)) = ((i + n : Nat) : Int) by rw [i64_id (by omega) (by omega)]; omega] at *
    have hin : i + n ≤ 4096 := by have := of_decide_eq_true hc; omega
    refine WD.p rfl (Pu.iaA rfl rfl (by omega)) ?_
    have hcell := bit_get hcs (.int .u32 r.b) hin
    rw [hbit, if_neg (by omega)] at hcell
    repeat' (first
      | refine W.seq ?_ | refine W.region ?_ | refine W.block ?_ | refine W.skip ?_ | refine W.exit ?_ | refine W.ret ?_ | refine W.cond_t rfl ?_ | refine W.cond_f rfl ?_ | refine WL.nil ?_ | refine WD.nil ?_ | refine Fin.next ?_ | refine Fin.then_exit ?_ | refine Fin.then_ret ?_ | refine Fin.block_normal ?_ | refine Fin.block_ret ?_ | refine Fin.block_exit ?_ | refine Fin.block_other rfl ?_
      | refine WL.pA ?_ | refine WD.pA ?_ | refine WL.sA ?_ | refine WD.sA ?_ | refine WL.g_yes rfl rfl ?_ | refine WL.g_no rfl rfl rfl rfl ?_ | refine WL.g_undef rfl rfl rfl ?_ | refine WL.g_split rfl rfl (fun hc => ?_) (fun hc => ?_) | refine WD.g_yes rfl rfl ?_ | refine WD.g_no rfl rfl rfl rfl ?_ | refine WD.g_undef rfl rfl rfl ?_ | refine WD.g_split rfl rfl (fun hc => ?_) (fun hc => ?_)
      | refine W.drawA ?_ | refine WL.aA (fun _ => ?_) | refine WD.aA (fun _ => ?_) | refine WL.e0A ?_ | refine WD.e0A ?_
      | refine W.cond rfl (fun hc => ?_) (fun hc => ?_))
    refine WD.p rfl (Pu.iaA rfl rfl (by omega)) ?_
    have hput := bit_put hcs (.int .u32 r.b) (bitAt r.cs (i + n)) hi'
    repeat' (first
      | refine W.seq ?_ | refine W.region ?_ | refine W.block ?_ | refine W.skip ?_ | refine W.exit ?_ | refine W.ret ?_ | refine W.cond_t rfl ?_ | refine W.cond_f rfl ?_ | refine WL.nil ?_ | refine WD.nil ?_ | refine Fin.next ?_ | refine Fin.then_exit ?_ | refine Fin.then_ret ?_ | refine Fin.block_normal ?_ | refine Fin.block_ret ?_ | refine Fin.block_exit ?_ | refine Fin.block_other rfl ?_
      | refine WL.pA ?_ | refine WD.pA ?_ | refine WL.sA ?_ | refine WD.sA ?_ | refine WL.g_yes rfl rfl ?_ | refine WL.g_no rfl rfl rfl rfl ?_ | refine WL.g_undef rfl rfl rfl ?_ | refine WL.g_split rfl rfl (fun hc => ?_) (fun hc => ?_) | refine WD.g_yes rfl rfl ?_ | refine WD.g_no rfl rfl rfl rfl ?_ | refine WD.g_undef rfl rfl rfl ?_ | refine WD.g_split rfl rfl (fun hc => ?_) (fun hc => ?_)
      | refine W.drawA ?_ | refine WL.aA (fun _ => ?_) | refine WD.aA (fun _ => ?_) | refine WL.e0A ?_ | refine WD.e0A ?_
      | refine W.cond rfl (fun hc => ?_) (fun hc => ?_))
    rw [i64_succ (by omega)]
    refine Fin.round ⟨i + 1, cs.set i (.bool (bitAt r.cs (i + n)))⟩ ⟨by dsimp only; omega, bits_set hcs _ hi' (by omega), fun d => ?_⟩ (sub_of (by repeat (first | exact subEnv.nil | refine subEnv.cons rfl ?_))) (fun _ h => h) (by dsimp only; omega)
    dsimp only
    rw [bit_set hcs _ hi', hbit]
    by_cases hd : d = i
    · subst hd; rw [if_pos rfl, if_pos (by omega), inW_iff.2 ⟨hi.1, hi'⟩]; rfl
    · rw [if_neg hd]
      by_cases hd2 : d < i
      · rw [if_pos hd2, if_pos (by omega)]
      · rw [if_neg hd2, if_neg (by omega)]
  · have hi' : i ≤ 4096 := by have := of_decide_eq_true (by assumption : decide ((i : Int) ≤ 4096) = true); omega
    rw [show IntKind.i64.wrap ((i : Int) + (n : Int)) = ((i + n : Nat) : Int) by rw [i64_id (by omega) (by omega)]; omega] at *
    have hin : 4096 < i + n := by have := of_decide_eq_false hc; omega
    refine WD.p rfl (Pu.iaA rfl rfl (by omega)) ?_
    have hput := bit_put hcs (.int .u32 r.b) false hi'
    repeat' (first
      | refine W.seq ?_ | refine W.region ?_ | refine W.block ?_ | refine W.skip ?_ | refine W.exit ?_ | refine W.ret ?_ | refine W.cond_t rfl ?_ | refine W.cond_f rfl ?_ | refine WL.nil ?_ | refine WD.nil ?_ | refine Fin.next ?_ | refine Fin.then_exit ?_ | refine Fin.then_ret ?_ | refine Fin.block_normal ?_ | refine Fin.block_ret ?_ | refine Fin.block_exit ?_ | refine Fin.block_other rfl ?_
      | refine WL.pA ?_ | refine WD.pA ?_ | refine WL.sA ?_ | refine WD.sA ?_ | refine WL.g_yes rfl rfl ?_ | refine WL.g_no rfl rfl rfl rfl ?_ | refine WL.g_undef rfl rfl rfl ?_ | refine WL.g_split rfl rfl (fun hc => ?_) (fun hc => ?_) | refine WD.g_yes rfl rfl ?_ | refine WD.g_no rfl rfl rfl rfl ?_ | refine WD.g_undef rfl rfl rfl ?_ | refine WD.g_split rfl rfl (fun hc => ?_) (fun hc => ?_)
      | refine W.drawA ?_ | refine WL.aA (fun _ => ?_) | refine WD.aA (fun _ => ?_) | refine WL.e0A ?_ | refine WD.e0A ?_
      | refine W.cond rfl (fun hc => ?_) (fun hc => ?_))
    rw [i64_succ (by omega)]
    refine Fin.round ⟨i + 1, cs.set i (.bool false)⟩ ⟨by dsimp only; omega, bits_set hcs _ hi' (by omega), fun d => ?_⟩ (sub_of (by repeat (first | exact subEnv.nil | refine subEnv.cons rfl ?_))) (fun _ h => h) (by dsimp only; omega)
    dsimp only
    rw [bit_set hcs _ hi', hbit]
    by_cases hd : d = i
    · subst hd; rw [if_pos rfl, if_pos (by omega), bit_out hr.bits hin, Bool.and_false]
    · rw [if_neg hd]
      by_cases hd2 : d < i
      · rw [if_pos hd2, if_pos (by omega)]
      · rw [if_neg hd2, if_neg (by omega)]
  · have hi' : i = 4097 := by have := of_decide_eq_false hc; omega
    subst hi'
    have hput : spliceK (.int .u32 r.b :: cs) (0 + 0) [Value.int .u32 (IntKind.u32.wrap (r.b + IntKind.u32.wrap (n : Int)))] some = some (Value.int .u32 (IntKind.u32.wrap (r.b + IntKind.u32.wrap (n : Int))) :: cs) := by rw [spliceK_eq, if_pos (by simp)]; simp
    refine WL.e0A ?_ (Ef.st rfl rfl rfl (.here hput))
    repeat' (first
      | refine W.seq ?_ | refine W.region ?_ | refine W.block ?_ | refine W.skip ?_ | refine W.exit ?_ | refine W.ret ?_ | refine W.cond_t rfl ?_ | refine W.cond_f rfl ?_ | refine WL.nil ?_ | refine WD.nil ?_ | refine Fin.next ?_ | refine Fin.then_exit ?_ | refine Fin.then_ret ?_ | refine Fin.block_normal ?_ | refine Fin.block_ret ?_ | refine Fin.block_exit ?_ | refine Fin.block_other rfl ?_
      | refine WL.pA ?_ | refine WD.pA ?_ | refine WL.sA ?_ | refine WD.sA ?_ | refine WL.g_yes rfl rfl ?_ | refine WL.g_no rfl rfl rfl rfl ?_ | refine WL.g_undef rfl rfl rfl ?_ | refine WL.g_split rfl rfl (fun hc => ?_) (fun hc => ?_) | refine WD.g_yes rfl rfl ?_ | refine WD.g_no rfl rfl rfl rfl ?_ | refine WD.g_undef rfl rfl rfl ?_ | refine WD.g_split rfl rfl (fun hc => ?_) (fun hc => ?_)
      | refine W.drawA ?_ | refine WL.aA (fun _ => ?_) | refine WD.aA (fun _ => ?_) | refine WL.e0A ?_ | refine WD.e0A ?_
      | refine W.cond rfl (fun hc => ?_) (fun hc => ?_))
    refine Fin.endW (by exact rfl) (by repeat' (first | exact Res.nil | exact rfl | exact CutAt.here rfl | exact CellAt.here rfl | apply CutAt.there | apply CellAt.there | apply CutAt.right | apply CellAt.right | apply Res.tmp | apply Res.agg' | apply Res.cell')) (fun _ h => h) ⟨⟨r.R, IntKind.u32.wrap (r.b + IntKind.u32.wrap (n : Int)), cs⟩, ⟨hcs, ?_⟩, rfl, rfl, S.ext ?_ (fun d => ?_)⟩
    · exact u32_rng _
    · exact u32_add r.b (n : Int)
    · show bitAt cs d = (inW d && bitAt r.cs (d + n))
      rw [hbit]
      split
      · rfl
      · rename_i hd
        have : inW d = false := by
          cases hq : inW d with
          | false => rfl
          | true => have := inW_iff.1 hq; omega
        rw [this, bit_out hr.bits (by omega)]
        rfl
set_option maxRecDepth 40000 in
theorem rsettle_tr (F : Nat → Option Obj) (r : RS) (hr : r.ok) : Tr Try.prog 24 [.pointer (some ⟨r.R, 0, none⟩)].toArray F r.H (fun v H => v = .int .i64 (Spn.fol r.S) ∧ ∃ r' : RS, r'.ok ∧ H = r'.H ∧ r'.R = r.R ∧ r'.S = Spn.settle r.S) := by
  refine Tr.enter Try.func24 rfl Try.ntmps24 rfl (fun w0 => ?_)
  have hle := fol_le r.S
  repeat' (first
    | refine W.seq ?_ | refine W.region ?_ | refine W.block ?_ | refine W.skip ?_ | refine W.exit ?_ | refine W.ret ?_ | refine W.cond_t rfl ?_ | refine W.cond_f rfl ?_ | refine WL.nil ?_ | refine WD.nil ?_ | refine Fin.next ?_ | refine Fin.then_exit ?_ | refine Fin.then_ret ?_ | refine Fin.block_normal ?_ | refine Fin.block_ret ?_ | refine Fin.block_exit ?_ | refine Fin.block_other rfl ?_
    | refine WL.pA ?_ | refine WD.pA ?_ | refine WL.sA ?_ | refine WD.sA ?_ | refine WL.g_yes rfl rfl ?_ | refine WL.g_no rfl rfl rfl rfl ?_ | refine WL.g_undef rfl rfl rfl ?_ | refine WL.g_split rfl rfl (fun hc => ?_) (fun hc => ?_) | refine WD.g_yes rfl rfl ?_ | refine WD.g_no rfl rfl rfl rfl ?_ | refine WD.g_undef rfl rfl rfl ?_ | refine WD.g_split rfl rfl (fun hc => ?_) (fun hc => ?_)
    | refine W.drawA ?_ | refine WL.aA (fun _ => ?_) | refine WD.aA (fun _ => ?_) | refine WL.e0A ?_ | refine WD.e0A ?_
    | refine W.cond rfl (fun hc => ?_) (fun hc => ?_))
  refine W.loop (G := Nat) (fun n => [(0, .pointer (some ⟨r.R, 0, none⟩)), (3, .int .i64 n)]) (fun _ => r.H) (fun n => n ≤ fol r.S) (fun n => fol r.S - n) 0 (Nat.zero_le _) (sub_of (by repeat (first | exact subEnv.nil | refine subEnv.cons rfl ?_))) (fun _ h => h) ?_
  intro n hn
  dsimp only at hn ⊢
  have hgo := fol_go hr.S hn
  unfold RS.H
  repeat' (first
    | refine W.seq ?_ | refine W.region ?_ | refine W.block ?_ | refine W.skip ?_ | refine W.exit ?_ | refine W.ret ?_ | refine W.cond_t rfl ?_ | refine W.cond_f rfl ?_ | refine WL.nil ?_ | refine WD.nil ?_ | refine Fin.next ?_ | refine Fin.then_exit ?_ | refine Fin.then_ret ?_ | refine Fin.block_normal ?_ | refine Fin.block_ret ?_ | refine Fin.block_exit ?_ | refine Fin.block_other rfl ?_
    | refine WL.pA ?_ | refine WD.pA ?_ | refine WL.sA ?_ | refine WD.sA ?_ | refine WL.g_yes rfl rfl ?_ | refine WL.g_no rfl rfl rfl rfl ?_ | refine WL.g_undef rfl rfl rfl ?_ | refine WL.g_split rfl rfl (fun hc => ?_) (fun hc => ?_) | refine WD.g_yes rfl rfl ?_ | refine WD.g_no rfl rfl rfl rfl ?_ | refine WD.g_undef rfl rfl rfl ?_ | refine WD.g_split rfl rfl (fun hc => ?_) (fun hc => ?_)
    | refine W.drawA ?_ | refine WL.aA (fun _ => ?_) | refine WD.aA (fun _ => ?_) | refine WL.e0A ?_ | refine WD.e0A ?_
    | refine W.cond rfl (fun hc => ?_) (fun hc => ?_))
  · have hn4 : n < 4096 := by have := of_decide_eq_true hc; omega
    rw [i64_succ (by omega)]
    refine WL.p rfl (Pu.iaA rfl rfl (by omega)) ?_
    have hcell := bit_get hr.bits (.int .u32 r.b) (k := n + 1) (by omega)
    repeat' (first
      | refine W.seq ?_ | refine W.region ?_ | refine W.block ?_ | refine W.skip ?_ | refine W.exit ?_ | refine W.ret ?_ | refine W.cond_t rfl ?_ | refine W.cond_f rfl ?_ | refine WL.nil ?_ | refine WD.nil ?_ | refine Fin.next ?_ | refine Fin.then_exit ?_ | refine Fin.then_ret ?_ | refine Fin.block_normal ?_ | refine Fin.block_ret ?_ | refine Fin.block_exit ?_ | refine Fin.block_other rfl ?_
      | refine WL.pA ?_ | refine WD.pA ?_ | refine WL.sA ?_ | refine WD.sA ?_ | refine WL.g_yes rfl rfl ?_ | refine WL.g_no rfl rfl rfl rfl ?_ | refine WL.g_undef rfl rfl rfl ?_ | refine WL.g_split rfl rfl (fun hc => ?_) (fun hc => ?_) | refine WD.g_yes rfl rfl ?_ | refine WD.g_no rfl rfl rfl rfl ?_ | refine WD.g_undef rfl rfl rfl ?_ | refine WD.g_split rfl rfl (fun hc => ?_) (fun hc => ?_)
      | refine W.drawA ?_ | refine WL.aA (fun _ => ?_) | refine WD.aA (fun _ => ?_) | refine WL.e0A ?_ | refine WD.e0A ?_
      | refine W.cond rfl (fun hc => ?_) (fun hc => ?_))
    · rw [i64_succ (by omega)]
      have := hgo.2 ⟨hn4, hc⟩
      exact Fin.round (n + 1) this (sub_of (by repeat (first | exact subEnv.nil | refine subEnv.cons rfl ?_))) (fun _ h => h) (by omega)
    · have hn' : n = fol r.S := by
        rcases Nat.lt_or_ge n (fol r.S) with h | h
        · have := (hgo.1 h).2
          rw [show r.S.p (n + 1) = false from hc] at this
          cases this
        · omega
      refine WL.e rfl (Ef.call (by exact rfl) (.all _) (rshift_tr _ r hr n (by omega))) ?_
      rintro _ _ ⟨_, ⟨r', hr', rfl, hR', hS'⟩, rfl⟩
      rw [List.append_nil]
      repeat' (first
        | refine W.seq ?_ | refine W.region ?_ | refine W.block ?_ | refine W.skip ?_ | refine W.exit ?_ | refine W.ret ?_ | refine W.cond_t rfl ?_ | refine W.cond_f rfl ?_ | refine WL.nil ?_ | refine WD.nil ?_ | refine Fin.next ?_ | refine Fin.then_exit ?_ | refine Fin.then_ret ?_ | refine Fin.block_normal ?_ | refine Fin.block_ret ?_ | refine Fin.block_exit ?_ | refine Fin.block_other rfl ?_
        | refine WL.pA ?_ | refine WD.pA ?_ | refine WL.sA ?_ | refine WD.sA ?_ | refine WL.g_yes rfl rfl ?_ | refine WL.g_no rfl rfl rfl rfl ?_ | refine WL.g_undef rfl rfl rfl ?_ | refine WL.g_split rfl rfl (fun hc => ?_) (fun hc => ?_) | refine WD.g_yes rfl rfl ?_ | refine WD.g_no rfl rfl rfl rfl ?_ | refine WD.g_undef rfl rfl rfl ?_ | refine WD.g_split rfl rfl (fun hc => ?_) (fun hc => ?_)
        | refine W.drawA ?_ | refine WL.aA (fun _ => ?_) | refine WD.aA (fun _ => ?_) | refine WL.e0A ?_ | refine WD.e0A ?_
        | refine W.cond rfl (fun hc => ?_) (fun hc => ?_))
      exact Fin.retW (by exact rfl) (by repeat' (first | exact Res.nil | exact rfl | exact CutAt.here rfl | exact CellAt.here rfl | apply CutAt.there | apply CellAt.there | apply CutAt.right | apply CellAt.right | apply Res.tmp | apply Res.agg' | apply Res.cell')) (fun _ h => h) ⟨by exact congrArg (fun k : Nat => Value.int .i64 k) hn', r', hr', rfl, hR', by rw [hS', hn']; exact (settle_eq _).symm⟩
  · have hn' : n = fol r.S := by
      rcases Nat.lt_or_ge n (fol r.S) with h | h
      · have := (hgo.1 h).1
        have := of_decide_eq_false hc
        omega
      · omega
    refine WL.e rfl (Ef.call (by exact rfl) (.all _) (rshift_tr _ r hr n (by omega))) ?_
    rintro _ _ ⟨_, ⟨r', hr', rfl, hR', hS'⟩, rfl⟩
    rw [List.append_nil]
    repeat' (first
      | refine W.seq ?_ | refine W.region ?_ | refine W.block ?_ | refine W.skip ?_ | refine W.exit ?_ | refine W.ret ?_ | refine W.cond_t rfl ?_ | refine W.cond_f rfl ?_ | refine WL.nil ?_ | refine WD.nil ?_ | refine Fin.next ?_ | refine Fin.then_exit ?_ | refine Fin.then_ret ?_ | refine Fin.block_normal ?_ | refine Fin.block_ret ?_ | refine Fin.block_exit ?_ | refine Fin.block_other rfl ?_
      | refine WL.pA ?_ | refine WD.pA ?_ | refine WL.sA ?_ | refine WD.sA ?_ | refine WL.g_yes rfl rfl ?_ | refine WL.g_no rfl rfl rfl rfl ?_ | refine WL.g_undef rfl rfl rfl ?_ | refine WL.g_split rfl rfl (fun hc => ?_) (fun hc => ?_) | refine WD.g_yes rfl rfl ?_ | refine WD.g_no rfl rfl rfl rfl ?_ | refine WD.g_undef rfl rfl rfl ?_ | refine WD.g_split rfl rfl (fun hc => ?_) (fun hc => ?_)
      | refine W.drawA ?_ | refine WL.aA (fun _ => ?_) | refine WD.aA (fun _ => ?_) | refine WL.e0A ?_ | refine WD.e0A ?_
      | refine W.cond rfl (fun hc => ?_) (fun hc => ?_))
    exact Fin.retW (by exact rfl) (by repeat' (first | exact Res.nil | exact rfl | exact CutAt.here rfl | exact CellAt.here rfl | apply CutAt.there | apply CellAt.there | apply CutAt.right | apply CellAt.right | apply Res.tmp | apply Res.agg' | apply Res.cell')) (fun _ h => h) ⟨by exact congrArg (fun k : Nat => Value.int .i64 k) hn', r', hr', rfl, hR', by rw [hS', hn']; exact (settle_eq _).symm⟩
theorem rmove_tr (F : Nat → Option Obj) (r : RS) (hr : r.ok) (y : Int) (hy : 0 ≤ y ∧ y < 4294967296) : Tr Try.prog 26 [.pointer (some ⟨r.R, 0, none⟩), .int .u32 y].toArray F r.H (fun v H => v = .int .i64 (Spn.moveN r.S y) ∧ ∃ r' : RS, r'.ok ∧ H = r'.H ∧ r'.R = r.R ∧ r'.S = Spn.move r.S y) := by
  refine Tr.enter Try.func26 rfl Try.ntmps26 rfl (fun w0 => ?_)
  have hf : IntKind.u32.wrap (y - r.b) = ((far r.b y : Nat) : Int) := (far_int _ _).symm
  have hSb : r.S.b = r.b := rfl
  unfold RS.H
  repeat' (first
    | refine W.seq ?_ | refine W.region ?_ | refine W.block ?_ | refine W.skip ?_ | refine W.exit ?_ | refine W.ret ?_ | refine W.cond_t rfl ?_ | refine W.cond_f rfl ?_ | refine WL.nil ?_ | refine WD.nil ?_ | refine Fin.next ?_ | refine Fin.then_exit ?_ | refine Fin.then_ret ?_ | refine Fin.block_normal ?_ | refine Fin.block_ret ?_ | refine Fin.block_exit ?_ | refine Fin.block_other rfl ?_
    | refine WL.pA ?_ | refine WD.pA ?_ | refine WL.sA ?_ | refine WD.sA ?_ | refine WL.g_yes rfl rfl ?_ | refine WL.g_no rfl rfl rfl rfl ?_ | refine WL.g_undef rfl rfl rfl ?_ | refine WL.g_split rfl rfl (fun hc => ?_) (fun hc => ?_) | refine WD.g_yes rfl rfl ?_ | refine WD.g_no rfl rfl rfl rfl ?_ | refine WD.g_undef rfl rfl rfl ?_ | refine WD.g_split rfl rfl (fun hc => ?_) (fun hc => ?_)
    | refine W.drawA ?_ | refine WL.aA (fun _ => ?_) | refine WD.aA (fun _ => ?_) | refine WL.e0A ?_ | refine WD.e0A ?_
    | refine W.cond rfl (fun hc => ?_) (fun hc => ?_))
  refine WL.e rfl (Ef.callR (by exact rfl) (.nil _) (in32_tr _ y r.b hy hr.base)) ?_
  rintro _ _ ⟨rfl, rfl⟩
  repeat' (first
    | refine W.seq ?_ | refine W.region ?_ | refine W.block ?_ | refine W.skip ?_ | refine W.exit ?_ | refine W.ret ?_ | refine W.cond_t rfl ?_ | refine W.cond_f rfl ?_ | refine WL.nil ?_ | refine WD.nil ?_ | refine Fin.next ?_ | refine Fin.then_exit ?_ | refine Fin.then_ret ?_ | refine Fin.block_normal ?_ | refine Fin.block_ret ?_ | refine Fin.block_exit ?_ | refine Fin.block_other rfl ?_
    | refine WL.pA ?_ | refine WD.pA ?_ | refine WL.sA ?_ | refine WD.sA ?_ | refine WL.g_yes rfl rfl ?_ | refine WL.g_no rfl rfl rfl rfl ?_ | refine WL.g_undef rfl rfl rfl ?_ | refine WL.g_split rfl rfl (fun hc => ?_) (fun hc => ?_) | refine WD.g_yes rfl rfl ?_ | refine WD.g_no rfl rfl rfl rfl ?_ | refine WD.g_undef rfl rfl rfl ?_ | refine WD.g_split rfl rfl (fun hc => ?_) (fun hc => ?_)
    | refine W.drawA ?_ | refine WL.aA (fun _ => ?_) | refine WD.aA (fun _ => ?_) | refine WL.e0A ?_ | refine WD.e0A ?_
    | refine W.cond rfl (fun hc => ?_) (fun hc => ?_))
  · have h1 : inW (far r.b y) = false := by simpa using hc
    refine Fin.retW (by exact rfl) (by repeat' (first | exact Res.nil | exact rfl | exact CutAt.here rfl | exact CellAt.here rfl | apply CutAt.there | apply CellAt.there | apply CutAt.right | apply CellAt.right | apply Res.tmp | apply Res.agg' | apply Res.cell')) (fun _ h => h) ⟨by simp [tup, Spn.moveN, hSb, h1], r, hr, rfl, rfl, ?_⟩
    unfold Spn.move
    rw [hSb, h1]
    rfl
  · have h1 : inW (far r.b y) = true := by simpa using hc
    have hk := inW_iff.1 h1
    rw [hf, i64_id (n := ((far r.b y : Nat) : Int)) (by omega) (by omega)]
    refine WL.e rfl (Ef.call (c := r.H) (by exact rfl) (.all _) (rshift_tr _ r hr (far r.b y) hk.2)) ?_
    rintro _ _ ⟨_, ⟨r1, hr1, rfl, hR1, hS1⟩, rfl⟩
    rw [List.append_nil, ← hR1]
    repeat' (first
      | refine W.seq ?_ | refine W.region ?_ | refine W.block ?_ | refine W.skip ?_ | refine W.exit ?_ | refine W.ret ?_ | refine W.cond_t rfl ?_ | refine W.cond_f rfl ?_ | refine WL.nil ?_ | refine WD.nil ?_ | refine Fin.next ?_ | refine Fin.then_exit ?_ | refine Fin.then_ret ?_ | refine Fin.block_normal ?_ | refine Fin.block_ret ?_ | refine Fin.block_exit ?_ | refine Fin.block_other rfl ?_
      | refine WL.pA ?_ | refine WD.pA ?_ | refine WL.sA ?_ | refine WD.sA ?_ | refine WL.g_yes rfl rfl ?_ | refine WL.g_no rfl rfl rfl rfl ?_ | refine WL.g_undef rfl rfl rfl ?_ | refine WL.g_split rfl rfl (fun hc => ?_) (fun hc => ?_) | refine WD.g_yes rfl rfl ?_ | refine WD.g_no rfl rfl rfl rfl ?_ | refine WD.g_undef rfl rfl rfl ?_ | refine WD.g_split rfl rfl (fun hc => ?_) (fun hc => ?_)
      | refine W.drawA ?_ | refine WL.aA (fun _ => ?_) | refine WD.aA (fun _ => ?_) | refine WL.e0A ?_ | refine WD.e0A ?_
      | refine W.cond rfl (fun hc => ?_) (fun hc => ?_))
    refine WL.e rfl (Ef.call (by exact rfl) (.all _) (rsettle_tr _ r1 hr1)) ?_
    rintro _ _ ⟨_, ⟨rfl, r2, hr2, rfl, hR2, hS2⟩, rfl⟩
    rw [List.append_nil]
    have hle := fol_le r1.S
    repeat' (first
      | refine W.seq ?_ | refine W.region ?_ | refine W.block ?_ | refine W.skip ?_ | refine W.exit ?_ | refine W.ret ?_ | refine W.cond_t rfl ?_ | refine W.cond_f rfl ?_ | refine WL.nil ?_ | refine WD.nil ?_ | refine Fin.next ?_ | refine Fin.then_exit ?_ | refine Fin.then_ret ?_ | refine Fin.block_normal ?_ | refine Fin.block_ret ?_ | refine Fin.block_exit ?_ | refine Fin.block_other rfl ?_
      | refine WL.pA ?_ | refine WD.pA ?_ | refine WL.sA ?_ | refine WD.sA ?_ | refine WL.g_yes rfl rfl ?_ | refine WL.g_no rfl rfl rfl rfl ?_ | refine WL.g_undef rfl rfl rfl ?_ | refine WL.g_split rfl rfl (fun hc => ?_) (fun hc => ?_) | refine WD.g_yes rfl rfl ?_ | refine WD.g_no rfl rfl rfl rfl ?_ | refine WD.g_undef rfl rfl rfl ?_ | refine WD.g_split rfl rfl (fun hc => ?_) (fun hc => ?_)
      | refine W.drawA ?_ | refine WL.aA (fun _ => ?_) | refine WD.aA (fun _ => ?_) | refine WL.e0A ?_ | refine WD.e0A ?_
      | refine W.cond rfl (fun hc => ?_) (fun hc => ?_))
    refine Fin.retW (by exact rfl) (by repeat' (first | exact Res.nil | exact rfl | exact CutAt.here rfl | exact CellAt.here rfl | apply CutAt.there | apply CellAt.there | apply CutAt.right | apply CellAt.right | apply Res.tmp | apply Res.agg' | apply Res.cell')) (fun _ h => h) ⟨?_, r2, hr2, rfl, hR2, ?_⟩
    · rw [i64_id (by omega) (by omega)]
      unfold Spn.moveN
      rw [hSb, if_pos h1, ← hS1]
      dsimp only [tup]
      congr 1
    · unfold Spn.move
      rw [hSb, if_pos h1, ← hS1, hS2]
end Go.Proofs.Ytkncbiepmgdgeaa
