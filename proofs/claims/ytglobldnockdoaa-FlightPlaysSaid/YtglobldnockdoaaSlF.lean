/- The logic's further rules: slices against nil, bytes and strings, make, parts of slices, results that lie in memory. No conditions: laws only. -/
import Derived.Test.YtglobldnockdoaaSlE
import Derived.Laws.BytesString
import Derived.Laws.MakeOwn
import Derived.Lib.SlBytesConst
namespace Go.Sl
open Go

section
variable {x : Cx} {env : Env} {H : HL} {dst : Option Tmp} {ty : TypeId} {pos : String} {aft : Array Edge} {gd : Option (Nat × Bool)}

theorem run_equal_snil {P : Program} {T e : TypeId} (h : P.underlying T = some (.slice e)) (m : Option Addr) (n c n' c' : Nat) (w : World) : (Op.equal T (.slice m n c) (.slice none n' c')).run P w = .ok m.isNone w := by
  show (Op.equalIn (9999 + 1) T (.slice m n c) (.slice none n' c')).run P w = _
  rw [Op.equalIn, Sem.run_bind, run_underlying h]
  cases m <;> rfl
theorem Pu.eqSN {T T' : TypeId} {e sz by_ : Nat} {p q : Operand} {m : Option Addr} {n c n' c' : Nat} [st : SliceT x.P T e sz by_] (hp : ev env p = some (.slice m n c)) (hq : ev env q = some (.slice none n' c')) :
    Pu x env ⟨dst, .binOp .eql T p q T', ty, pos, aft, gd⟩ (.bool m.isNone) := ⟨fun a he w => by
  simp [execOp, he.eval hp, he.eval hq, eqGuard, binOp, run_equal_snil st.h]⟩
theorem Pu.neSN {T T' : TypeId} {e sz by_ : Nat} {p q : Operand} {m : Option Addr} {n c n' c' : Nat} [st : SliceT x.P T e sz by_] (hp : ev env p = some (.slice m n c)) (hq : ev env q = some (.slice none n' c')) :
    Pu x env ⟨dst, .binOp .neq T p q T', ty, pos, aft, gd⟩ (.bool (!m.isNone)) := ⟨fun a he w => by
  simp [execOp, he.eval hp, he.eval hq, eqGuard, binOp, run_equal_snil st.h]⟩

/-! parts of slices -/
theorem info_sl {P : Program} {T e sz by_ : Nat} (st : SliceT P T e sz by_) : ∃ i, P.info? e = some i ∧ i.size = sz ∧ i.bytes = by_ := by
  have hi := st.i
  cases hq : P.info? e with
  | none => simp [hq] at hi
  | some i => simp [hq] at hi; exact ⟨i, rfl, hi.1, hi.2⟩
/-- s[lo:] -/
theorem Pu.slLo {T e sz by_ : Nat} {p q : Operand} {ad : Option Addr} {n c : Nat} {k : IntKind} {lo : Int} [st : SliceT x.P T e sz by_] (hp : ev env p = some (.slice ad n c)) (hq : ev env q = some (.int k lo)) (h : 0 ≤ lo ∧ lo ≤ n) :
    Pu x env ⟨dst, .slice T p (some q) none none, ty, pos, aft, gd⟩ (.slice (if c = lo.toNat then ad else ad.map (·.add (lo.toNat * sz))) (n - lo.toNat) (c - lo.toNat)) := ⟨fun a he w => by
  obtain ⟨i, hi, hs, _⟩ := info_sl st
  simp [execOp, he.eval hp, he.eval hq, Instr.sliceAt, run_underlying st.h, Instr.slice, Instr.sliceBounds, Instr.sliceBound, asIntOf, h, sizeOf, typeInfo, hi, hs]⟩
/-- s[:hi] -/
theorem Pu.slHi {T e sz by_ : Nat} {p q : Operand} {ad : Option Addr} {n c : Nat} {k : IntKind} {up : Int} [st : SliceT x.P T e sz by_] (hp : ev env p = some (.slice ad n c)) (hq : ev env q = some (.int k up)) (h : 0 ≤ up ∧ up ≤ c) :
    Pu x env ⟨dst, .slice T p none (some q) none, ty, pos, aft, gd⟩ (.slice ad up.toNat c) := ⟨fun a he w => by
  obtain ⟨i, hi, hs, _⟩ := info_sl st
  have e1 : ∀ b : Addr, b.add 0 = b := fun b => rfl
  cases ad <;> simp [execOp, he.eval hp, he.eval hq, Instr.sliceAt, run_underlying st.h, Instr.slice, Instr.sliceBounds, Instr.sliceBound, asIntOf, h, sizeOf, typeInfo, hi, e1]⟩
/-- s[lo:hi] -/
theorem Pu.slLH {T e sz by_ : Nat} {p q r : Operand} {ad : Option Addr} {n c : Nat} {k k' : IntKind} {lo up : Int} [st : SliceT x.P T e sz by_] (hp : ev env p = some (.slice ad n c)) (hq : ev env q = some (.int k lo)) (hr : ev env r = some (.int k' up)) (h : 0 ≤ up ∧ up ≤ c) (h0 : 0 ≤ lo ∧ lo ≤ up) :
    Pu x env ⟨dst, .slice T p (some q) (some r) none, ty, pos, aft, gd⟩ (.slice (if c = lo.toNat then ad else ad.map (·.add (lo.toNat * sz))) (up.toNat - lo.toNat) (c - lo.toNat)) := ⟨fun a he w => by
  obtain ⟨i, hi, hs, _⟩ := info_sl st
  obtain ⟨u, rfl⟩ : ∃ u : Nat, up = u := ⟨up.toNat, by omega⟩
  have h1 : u ≤ c := by omega
  simp [execOp, he.eval hp, he.eval hq, he.eval hr, Instr.sliceAt, run_underlying st.h, Instr.slice, Instr.sliceBounds, Instr.sliceBound, asIntOf, h1, h0, sizeOf, typeInfo, hi, hs]⟩

/-! bytes and strings -/
def strB (bs : List UInt8) : ByteArray := ⟨bs.toArray⟩
def B (b : UInt8) : Value := .int .u8 b.toNat
theorem toList_strB (bs : List UInt8) : (strB bs).toList = bs := by
  have key : ∀ (n i : Nat) (r : List UInt8), i + n = bs.length → ByteArray.toList.loop (strB bs) i r = r.reverse ++ bs.drop i := by
    intro n
    induction n with
    | zero =>
      intro i r h
      rw [ByteArray.toList.loop]
      have : ¬ i < (strB bs).size := by simp [strB, ByteArray.size]; omega
      rw [if_neg this, List.drop_of_length_le (by omega), List.append_nil]
    | succ n ih =>
      intro i r h
      have hlt : i < bs.length := by omega
      rw [ByteArray.toList.loop]
      have : i < (strB bs).size := by simpa [strB, ByteArray.size] using hlt
      rw [if_pos this, ih (i + 1) _ (by omega)]
      have hget : (strB bs).get! i = bs[i]'hlt := by
        show bs.toArray[i]! = _
        simp [hlt]
      rw [hget, List.reverse_cons, List.append_assoc, List.singleton_append, List.drop_eq_getElem_cons hlt]
  have := key bs.length 0 [] (by omega)
  unfold ByteArray.toList
  simpa using this

theorem foldl_B (bs : List UInt8) : ∀ s : ByteArray, (bs.map (fun b => (b.toNat : Int))).foldl (fun r n => r.push (UInt8.ofNat n.toNat)) s = ⟨s.data ++ bs.toArray⟩ := by
  induction bs with
  | nil => intro s; simp
  | cons b bs ih =>
    intro s
    rw [List.map_cons, List.foldl_cons, ih]
    have : UInt8.ofNat (b.toNat : Int).toNat = b := by simp
    rw [this]
    have hp : s.push b = ⟨s.data.push b⟩ := by cases s; rfl
    rw [hp]
    congr 1
    simp

/-- string(b) -/
theorem Rd.cvBS {S T e sz by_ : Nat} {p : Operand} {v : Value} {m : Nat} {bs : List UInt8} [st : SliceT x.P S e sz by_] [bt : IntT x.P e .u8] [sr : StrT x.P T] (hp : ev env p = some v) (hs : Src x.F H v m (bs.map B)) (hm : bs.length = m) :
    Rd x env H ⟨dst, .convert S T p, ty, pos, aft, gd⟩ (.string (strB bs)) := ⟨fun a w he hi => by
  rcases hs with ⟨c, rfl, rfl, hn⟩ | ⟨ad, c, rfl, hr⟩
  · have : bs = [] := List.eq_nil_of_length_eq_zero hm
    subst this
    have hc := run_convert_bytes_string (P := x.P) w S T e none 0 c st.h bt.h sr.h
    simp only [execOp, he.eval hp, Sem.run_bind, hc]
    simp [Conv.bytesToString, strB]
    rfl
  · have hl := run_loadCells_list (P := x.P) w ad (bs.map B) (hr w hi)
    have hmap : bs.map B = (bs.map (fun b => (b.toNat : Int))).map (Value.int .u8) := by simp [B]
    rw [hmap] at hl
    simp only [List.length_map] at hl
    rw [hm] at hl
    have hb := run_bytesToString (P := x.P) w ad m c (bs.map (fun b => (b.toNat : Int))) hl
    have hc := run_convert_bytes_string (P := x.P) w S T e (some ad) m c st.h bt.h sr.h
    rw [foldl_B] at hb
    simp only [execOp, he.eval hp, Sem.run_bind, hc, hb, Result.andThen_ok, Sem.run_pure]
    simp [strB]⟩

/-- the mark that a constant's bytes get -/
theorem Ef.cvS {S e sz by_ : Nat} {p : Operand} {b n c : Nat} {l : List Value} {E : TypeId} {k : Obj → HL} [st : SliceT x.P S e sz by_] [bt : IntT x.P e .u8] (hp : ev env p = some (.slice (some ⟨b, 0, none⟩) n c)) (hf : Foc b (.cells l.toArray E (0, 0)) H k) :
    Ef x env H ⟨dst, .convert S S p, ty, pos, aft, gd⟩ (fun v H' => v = .slice (some ⟨b, 0, none⟩) n c ∧ H' = k (.cells l.toArray E (l.length, l.length + 1))) := ⟨fun a w he hi => by
  have hg := hf.heap hi
  have hsh : w.shape? b = some (E, l.length) := by simp [World.shape?, hg]
  have hlt := (Array.getElem?_eq_some_iff.1 hg).1
  have hupd : Upd w (w.freeze ⟨b, l.length, none⟩ 1) b (.cells l.toArray E (l.length, l.length + 1)) := by
    unfold World.freeze
    rw [if_neg (by decide)]
    refine ⟨⟨rfl, rfl, rfl, by simp, Nat.le_refl _⟩, ?_, fun j hj => ?_⟩
    · simp only [Array.getElem?_modify, if_true, hg]
      simp
    · simp only [Array.getElem?_modify]
      rw [if_neg (Ne.symm hj)]
  refine yields_of_run (v := .slice (some ⟨b, 0, none⟩) n c) (w' := w.freeze ⟨b, l.length, none⟩ 1) ?_ ⟨_, ⟨rfl, rfl⟩, hi.upd hf hupd, hupd.same⟩
  simp [execOp, he.eval hp, convert, run_underlying st.h, run_underlying bt.h, markStringish, hsh]⟩

/-! make -/
def mkCells (z : List Value) : Nat → List Value
  | 0 => []
  | n + 1 => z ++ mkCells z n
theorem length_mkCells (z : List Value) (n : Nat) : (mkCells z n).length = n * z.length := by
  induction n with
  | zero => simp [mkCells]
  | succ n ih => simp [mkCells, ih, Nat.add_mul]; omega
theorem getElem_mkCells (z : List Value) (hz : 0 < z.length) : ∀ (n j : Nat), j < n * z.length → (mkCells z n)[j]? = z[j % z.length]?
  | 0, j, h => by omega
  | n + 1, j, h => by
    rw [mkCells]
    by_cases hj : j < z.length
    · rw [List.getElem?_append_left hj, Nat.mod_eq_of_lt hj]
    · rw [List.getElem?_append_right (by omega), getElem_mkCells z hz n (j - z.length) (by rw [Nat.add_mul] at h; omega)]
      congr 1
      exact (Nat.mod_eq_sub_mod (by omega)).symm
theorem madeCells_eq (z : List Value) (hz : 0 < z.length) (n : Nat) : madeCells z.toArray (n * z.length) = (mkCells z n).toArray := by
  apply Array.ext'
  apply List.ext_getElem?
  intro j
  unfold madeCells
  by_cases hj : j < n * z.length
  · have hm : j % z.length < z.length := Nat.mod_lt _ hz
    simp only [Array.toList_map, Array.toList_range, List.getElem?_map]
    rw [getElem_mkCells z hz n j hj]
    simp [hj, hm]
  · rw [List.getElem?_eq_none (by simp; omega), List.getElem?_eq_none (by simp [length_mkCells]; omega)]
/-- make([]T, n) -/
theorem Ef.mkS {T e sz by_ : Nat} {z : List Value} {p q : Operand} {k k' : IntKind} {n : Nat} [st : SliceT x.P T e sz by_] [zt : ZeroT x.P e z] (hz : z.length = sz) (hsz : Nat.blt 0 sz = true) (hp : ev env p = some (.int k n)) (hq : ev env q = some (.int k' n)) (hb : by_ * n ≤ 281474976710656) (h63 : n ≤ 9223372036854775807) :
    Ef x env H ⟨dst, .makeSlice T p q, ty, pos, aft, gd⟩ (fun v H' => ∃ b, v = .slice (some ⟨b, 0, none⟩) n n ∧ H' = (b, .cells (mkCells z n).toArray e (0, 0)) :: H) := ⟨fun a w he hi => by
  obtain ⟨i, hinf, hs, hbb⟩ := info_sl st
  have hzt := zt.h
  cases hzz : i.zero with
  | none => simp [hinf, hzz] at hzt
  | some zv =>
  have hzc : zv.cells = z.toArray := by simpa [hinf, hzz] using hzt
  have hb' : ((by_ * n : Nat) : Int) ≤ 281474976710656 := by omega
  rw [Int.natCast_mul, ← hbb] at hb'
  have hrun := run_make (P := x.P) w T e i zv st.h hinf hzz k k' n n (by omega) (by omega) hb' (by omega)
  rw [hzc, hs, ← hz] at hrun
  simp only [Int.toNat_natCast] at hrun
  rw [madeCells_eq z (by rw [hz]; exact Nat.le_of_ble_eq_true hsz)] at hrun
  refine yields_of_run (v := .slice (some ⟨w.heap.size, 0, none⟩) n n) (w' := w.alloc (.cells (mkCells z n).toArray e)) ?_ ⟨_, ⟨_, rfl, rfl⟩, hi.alloc _, Same.alloc w _⟩
  simp only [execOp, he.eval hp, he.eval hq, Sem.run_bind, hrun, Result.andThen_ok, Sem.run_pure]⟩
end

/-! results, also those that lie in memory -/
def tup : List Value → Value
  | [v] => v
  | vs => .tuple vs.toArray
inductive Res (x : Cx) (env : Env) (H : HL) : List ResultVar → List Value → Prop
  | nil : Res x env H [] []
  | tmp {t : Nat} {v : Value} {rs : List ResultVar} {vs : List Value} : look env t = some v → Res x env H rs vs → Res x env H (.tmp t :: rs) (v :: vs)
  | cell {t T b off : Nat} {v : Value} {rs : List ResultVar} {vs : List Value} : scalB x.P T = true → look env t = some (.pointer (some ⟨b, off, none⟩)) → CellAt b off v H → Res x env H rs vs → Res x env H (.cell t T :: rs) (v :: vs)
  | agg {t T n b off : Nat} {r : List Value} {rs : List ResultVar} {vs : List Value} : aggS x.P T = some n → look env t = some (.pointer (some ⟨b, off, none⟩)) → CutAt b off n r H → Res x env H rs vs → Res x env H (.cell t T :: rs) (.agg r.toArray :: vs)
theorem Res.cell' {x : Cx} {env : Env} {H : HL} {t T b off : Nat} {v : Value} {rs : List ResultVar} {vs : List Value} [sc : ScalT x.P T] (h1 : look env t = some (.pointer (some ⟨b, off, none⟩))) (h2 : CellAt b off v H) (h : Res x env H rs vs) : Res x env H (.cell t T :: rs) (v :: vs) := .cell sc.h h1 h2 h
theorem Res.agg' {x : Cx} {env : Env} {H : HL} {t T n b off : Nat} {r : List Value} {rs : List ResultVar} {vs : List Value} [ag : AggT x.P T n] (h1 : look env t = some (.pointer (some ⟨b, off, none⟩))) (h2 : CutAt b off n r H) (h : Res x env H rs vs) : Res x env H (.cell t T :: rs) (.agg r.toArray :: vs) := .agg ag.h h1 h2 h

theorem run_asAddr {P : Program} (ad : Addr) (w : World) : (asAddr (.pointer (some ad))).run P w = .ok ad w := rfl
theorem Res.run {x : Cx} {env : Env} {H : HL} {a : Act} {w : World} (s : St x env H a w) {rs : List ResultVar} {vs : List Value} (h : Res x env H rs vs) :
    (rs.mapM (fun r => match r with | .tmp t => pure (a.tmps.getD t undef) | .cell p t => (do loadVar t (← asAddr (a.tmps.getD p undef)) : Sem Value)) : Sem (List Value)).run x.P w = .ok vs w := by
  induction h with
  | nil => rfl
  | @tmp t v rs vs h1 _ ih =>
    have hg : a.tmps.getD t undef = v := by simp [s.ev.env t v h1]
    simp only [List.mapM_cons, Sem.run_bind, Sem.run_pure, Result.andThen_ok, hg, ih]
  | @cell t T b off v rs vs hs h1 h2 _ ih =>
    have hg : a.tmps.getD t undef = .pointer (some ⟨b, off, none⟩) := by simp [s.ev.env t _ h1]
    obtain ⟨l, T', fr, k, hf, hv⟩ := h2.foc
    simp only [List.mapM_cons, Sem.run_bind, Sem.run_pure, Result.andThen_ok, hg, ih, run_asAddr, run_loadVar_scal hs (cell_foc (hf.heap s.hin) hv)]
  | @agg t T n b off r rs vs hs h1 h2 _ ih =>
    have hg : a.tmps.getD t undef = .pointer (some ⟨b, off, none⟩) := by simp [s.ev.env t _ h1]
    obtain ⟨l, T', fr, k, hf, hv⟩ := h2.foc
    simp only [List.mapM_cons, Sem.run_bind, Sem.run_pure, Result.andThen_ok, hg, ih, run_asAddr, run_loadVar_agg hs (hf.heap s.hin) hv]

theorem results_run {x : Cx} {env : Env} {H : HL} {a : Act} {w : World} (s : St x env H a w) {fn : Func} {rs : List ResultVar} {vs : List Value} (hr : fn.results = rs.toArray) (h : Res x env H rs vs) : (results fn a.tmps).run x.P w = .ok (tup vs) w := by
  have hrun := h.run s
  unfold results
  rw [hr, List.mapM_toArray, Sem.run_bind, Sem.run_map]
  generalize hg : Sem.run x.P (List.mapM (m := Sem) _ rs) w = r
  obtain rfl : r = .ok vs w := hg.symm.trans hrun
  simp only [Result.andThen_ok, Sem.run_pure]
  match vs with
  | [] => rfl
  | [v] => rfl
  | v :: u :: vs => simp [tup]
theorem Fin.retG {x : Cx} {fn : Func} {R : Value → HL → Prop} {env : Env} {H : HL} {rs : List ResultVar} {vs : List Value} (hr : fn.results = rs.toArray) (h : Res x env H rs vs) (hR : R (tup vs) H) (hd : x.df = [] := by rfl) : Fin x (bodyPost x.P fn (RR x.F x.w0 R)) .ret env H :=
  ⟨fun _a _w s => ⟨s.ev.defers.trans hd, tup vs, results_run s hr h, tup vs, H, rfl, hR, s.hin, s.same⟩⟩
theorem Fin.retW {x : Cx} {fn : Func} {R : Value → HL → Prop} {env : Env} {H H' : HL} {rs : List ResultVar} {vs : List Value} (hr : fn.results = rs.toArray) (h : Res x env H rs vs) (hH : ∀ w, In x.F H w → In x.F H' w) (hR : R (tup vs) H') (hd : x.df = [] := by rfl) : Fin x (bodyPost x.P fn (RR x.F x.w0 R)) .ret env H :=
  ⟨fun _a w s => ⟨s.ev.defers.trans hd, tup vs, results_run s hr h, tup vs, H', rfl, hR, hH w s.hin, s.same⟩⟩
theorem Fin.endW {x : Cx} {fn : Func} {R : Value → HL → Prop} {env : Env} {H H' : HL} {rs : List ResultVar} {vs : List Value} (hr : fn.results = rs.toArray) (h : Res x env H rs vs) (hH : ∀ w, In x.F H w → In x.F H' w) (hR : R (tup vs) H') (hd : x.df = [] := by rfl) : Fin x (bodyPost x.P fn (RR x.F x.w0 R)) .normal env H :=
  ⟨fun _a w s => ⟨s.ev.defers.trans hd, tup vs, results_run s hr h, tup vs, H', rfl, hR, hH w s.hin, s.same⟩⟩
theorem Fin.weakH {x : Cx} {K : Post} {e : Exit} {env : Env} {H H' : HL} (hH : ∀ w, In x.F H w → In x.F H' w) (h : Fin x K e env H') : Fin x K e env H := ⟨fun a w s => h.run a w ⟨s.ev, hH w s.hin, s.same⟩⟩
end Go.Sl
