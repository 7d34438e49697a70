/- The logic's rules for maps whose keys are integers: look-up, store, delete, and the walk over all entries in whatever order. No conditions: laws only. -/
import Derived.Test.YtglobldnockdoaaSlC
namespace Go.Sl
open Go

def isKey (n : Int) (e : MapEntry) : Bool := match e.key with | .int _ m => n == m | _ => false
def keysOk (k : IntKind) (es : List MapEntry) : Prop := ∀ e ∈ es, ∃ n, e.key = .int k n
def mfind (es : List MapEntry) (n : Int) : Option Value := (es.find? (isKey n)).map (·.val)

/-- A map's block, found in the list. -/
inductive MapAt (b : Nat) (es : List MapEntry) (clk : Nat) : HL → (Obj → HL) → Prop
  | here {H : HL} : MapAt b es clk ((b, .map es.toArray clk) :: H) (fun o => (b, o) :: H)
  | there {p : Nat × Obj} {H : HL} {k : Obj → HL} : MapAt b es clk H k → MapAt b es clk (p :: H) (fun o => p :: k o)
  | left {H1 H2 : HL} {k : Obj → HL} : MapAt b es clk H1 k → MapAt b es clk (H1 ++ H2) (fun o => k o ++ H2)
  | right {H1 H2 : HL} {k : Obj → HL} : MapAt b es clk H2 k → MapAt b es clk (H1 ++ H2) (fun o => H1 ++ k o)
theorem MapAt.foc {b : Nat} {es : List MapEntry} {clk : Nat} {H : HL} {k : Obj → HL} (h : MapAt b es clk H k) : Foc b (.map es.toArray clk) H k := by
  induction h with
  | here => exact Foc.here _
  | there _ ih => exact Foc.there _ ih
  | left _ ih => exact Foc.left ih
  | right _ ih => exact Foc.right ih

class ZeroV (P : Program) (T : TypeId) (v : outParam Value) : Prop where h : (P.info? T).bind (·.zero) = some v

theorem findNow_int {k : IntKind} {n : Int} : ∀ (es : List MapEntry) (i : Nat), keysOk k es → Instr.findNow (.int k) (.int k n) es i = some ((es.findIdx? (isKey n)).map (fun j => (i + j, ((es[j]?).map (·.val)).getD undef)))
  | [], _, _ => rfl
  | e :: es, i, h => by
    obtain ⟨m, hm⟩ := h e (by simp)
    have ih := findNow_int (n := n) es (i + 1) (fun e' he' => h e' (by simp [he']))
    unfold Instr.findNow
    rw [hm]
    by_cases hnm : n = m
    · subst hnm
      simp [Instr.sameNow, List.findIdx?_cons, isKey, hm]
    · have hb : (n == m) = false := by simpa using hnm
      simp only [Instr.sameNow, if_true, hb, ih, List.findIdx?_cons, isKey, hm]
      cases hf : es.findIdx? (isKey n) with
      | none => simp
      | some j => simp; omega

theorem findIdx_find {α : Type} (p : α → Bool) : ∀ (l : List α), (l.findIdx? p).bind (fun j => l[j]?) = l.find? p
  | [] => rfl
  | a :: l => by
    rw [List.findIdx?_cons, List.find?_cons]
    cases h : p a with
    | true => simp
    | false => simp only; rw [← findIdx_find p l]; cases l.findIdx? p <;> simp

theorem run_findKey_int {P : Program} {K : TypeId} {k : IntKind} (hu : P.underlying K = some (.int k)) {n : Int} {es : List MapEntry} (h : keysOk k es) (w : World) :
    (Instr.findKey K (.int k n) es).run P w = .ok ((es.findIdx? (isKey n)).map (fun j => (j, ((es[j]?).map (·.val)).getD undef))) w := by
  unfold Instr.findKey
  rw [Sem.run_bind, run_underlying hu]
  simp only [Result.andThen_ok]
  rw [findNow_int es 0 h]
  simp

theorem run_checkKey_int {P : Program} {K : TypeId} {k : IntKind} (hu : P.underlying K = some (.int k)) (e : Bool) (n : Int) (w : World) : (Instr.checkKey e 10000 K (.int k n)).run P w = .ok () w := by
  show (Instr.checkKey e (9999 + 1) K (.int k n)).run P w = _
  rw [Instr.checkKey, Sem.run_bind, run_underlying hu]
  rfl

section
variable {x : Cx} {env : Env} {H : HL} {dst : Option Tmp} {ty : TypeId} {pos : String} {aft : Array Edge} {gd : Option (Nat × Bool)}

theorem run_lookup_int {P : Program} {T K E : TypeId} {k : IntKind} (ht : P.underlying T = some (.map K E)) (hu : P.underlying K = some (.int k)) {z : Value} (hz : (P.info? E).bind (·.zero) = some z) {w : World} {b clk : Nat} {es : List MapEntry} (hb : w.heap[b]? = some (.map es.toArray clk)) (h : keysOk k es) (n : Int) (ok : Bool) :
    (Instr.lookup T (.map (some b)) (.int k n) ok).run P w = .ok (if ok then .tuple #[(mfind es n).getD z, .bool (mfind es n).isSome] else (mfind es n).getD z) w := by
  unfold Instr.lookup
  have hg : (getObj b).run P w = .ok (.map es.toArray clk) w := by simp [getObj, Sem.run, hb]
  have hzv : (zeroValue E).run P w = .ok z w := by
    cases hi : P.info? E with
    | none => simp [hi] at hz
    | some i => simp [hi] at hz; simp [zeroValue, typeInfo, hi, hz]
  have hmf : mfind es n = ((es.findIdx? (isKey n)).bind (fun j => es[j]?)).map (·.val) := by rw [findIdx_find]; rfl
  simp only [Sem.run_bind, run_underlying ht, Result.andThen_ok, hg, run_checkKey_int hu, run_findKey_int hu h, Sem.run_pure]
  cases hf : es.findIdx? (isKey n) with
  | none => simp [hmf, hf, hzv]
  | some j =>
    have hj : j < es.length := by
      rw [List.findIdx?_eq_some_iff_getElem] at hf; exact hf.1
    simp [hmf, hf, List.getElem?_eq_getElem hj]

theorem Rd.lk2 {T K E : TypeId} {k : IntKind} {z : Value} {p q : Operand} {b clk : Nat} {es : List MapEntry} {n : Int} {kk : Obj → HL} [mt : MapT x.P T K E] [it : IntT x.P K k] [zv : ZeroV x.P E z] (hp : ev env p = some (.map (some b))) (hq : ev env q = some (.int k n)) (hm : MapAt b es clk H kk) (h : keysOk k es) :
    Rd x env H ⟨dst, .lookup T p q true, ty, pos, aft, gd⟩ (.tuple #[(mfind es n).getD z, .bool (mfind es n).isSome]) := ⟨fun a w he hi => by
  simp [execOp, he.eval hp, he.eval hq, run_lookup_int mt.h it.h zv.h (hm.foc.heap hi) h]⟩
theorem Rd.lk1 {T K E : TypeId} {k : IntKind} {z : Value} {p q : Operand} {b clk : Nat} {es : List MapEntry} {n : Int} {kk : Obj → HL} [mt : MapT x.P T K E] [it : IntT x.P K k] [zv : ZeroV x.P E z] (hp : ev env p = some (.map (some b))) (hq : ev env q = some (.int k n)) (hm : MapAt b es clk H kk) (h : keysOk k es) :
    Rd x env H ⟨dst, .lookup T p q false, ty, pos, aft, gd⟩ ((mfind es n).getD z) := ⟨fun a w he hi => by
  simp [execOp, he.eval hp, he.eval hq, run_lookup_int mt.h it.h zv.h (hm.foc.heap hi) h]⟩
/-- what a look-up finds, and that it finds nothing -/
theorem Rd.lk2_some {T K E : TypeId} {k : IntKind} {z : Value} {p q : Operand} {b clk : Nat} {es : List MapEntry} {n : Int} {kk : Obj → HL} {v : Value} [mt : MapT x.P T K E] [it : IntT x.P K k] [zv : ZeroV x.P E z] (hp : ev env p = some (.map (some b))) (hq : ev env q = some (.int k n)) (hm : MapAt b es clk H kk) (h : keysOk k es) (hv : mfind es n = some v) :
    Rd x env H ⟨dst, .lookup T p q true, ty, pos, aft, gd⟩ (.tuple [v, .bool true].toArray) := by
  have := Rd.lk2 (x := x) (env := env) (dst := dst) (ty := ty) (pos := pos) (aft := aft) (gd := gd) (T := T) (p := p) (q := q) hp hq hm h
  simpa [hv] using this
theorem Rd.lk2_none {T K E : TypeId} {k : IntKind} {z : Value} {p q : Operand} {b clk : Nat} {es : List MapEntry} {n : Int} {kk : Obj → HL} [mt : MapT x.P T K E] [it : IntT x.P K k] [zv : ZeroV x.P E z] (hp : ev env p = some (.map (some b))) (hq : ev env q = some (.int k n)) (hm : MapAt b es clk H kk) (h : keysOk k es) (hv : mfind es n = none) :
    Rd x env H ⟨dst, .lookup T p q true, ty, pos, aft, gd⟩ (.tuple [z, .bool false].toArray) := by
  have := Rd.lk2 (x := x) (env := env) (dst := dst) (ty := ty) (pos := pos) (aft := aft) (gd := gd) (T := T) (p := p) (q := q) hp hq hm h
  simpa [hv] using this
theorem Rd.lk1_some {T K E : TypeId} {k : IntKind} {z : Value} {p q : Operand} {b clk : Nat} {es : List MapEntry} {n : Int} {kk : Obj → HL} {v : Value} [mt : MapT x.P T K E] [it : IntT x.P K k] [zv : ZeroV x.P E z] (hp : ev env p = some (.map (some b))) (hq : ev env q = some (.int k n)) (hm : MapAt b es clk H kk) (h : keysOk k es) (hv : mfind es n = some v) :
    Rd x env H ⟨dst, .lookup T p q false, ty, pos, aft, gd⟩ v := by
  have := Rd.lk1 (x := x) (env := env) (dst := dst) (ty := ty) (pos := pos) (aft := aft) (gd := gd) (T := T) (p := p) (q := q) hp hq hm h
  simpa [hv] using this

theorem Upd.setObj {w : World} {b : Nat} {o o' : Obj} (h : w.heap[b]? = some o) : Upd w { w with heap := w.heap.setIfInBounds b o' } b o' := by
  have hlt := (Array.getElem?_eq_some_iff.1 h).1
  refine ⟨⟨rfl, rfl, rfl, by simp, Nat.le_refl _⟩, by simp [hlt], fun k hk => ?_⟩
  simp [Array.getElem?_setIfInBounds_ne (Ne.symm hk)]
theorem run_setObj_map {P : Program} {w : World} {b clk : Nat} {es : Array MapEntry} (h : w.heap[b]? = some (.map es clk)) (o : Obj) : (setObj b o).run P w = .ok () { w with heap := w.heap.setIfInBounds b o } := by
  simp [setObj, Sem.run, h]

/-- a new key -/
theorem Ef.mu_new {T K E : TypeId} {k : IntKind} {p q r : Operand} {b clk : Nat} {es : List MapEntry} {n : Int} {v : Value} {kk : Obj → HL} [mt : MapT x.P T K E] [it : IntT x.P K k] (hp : ev env p = some (.map (some b))) (hq : ev env q = some (.int k n)) (hr : ev env r = some v) (hm : MapAt b es clk H kk) (h : keysOk k es) (hn : mfind es n = none) :
    Ef x env H ⟨dst, .mapUpdate T p q r, ty, pos, aft, gd⟩ (fun u H' => u = undef ∧ H' = kk (.map (es ++ [MapEntry.mk (.int k n) v clk]).toArray (clk + 1))) := ⟨fun a w he hi => by
  have hb := hm.foc.heap hi
  have hf : es.findIdx? (isKey n) = none := by
    unfold mfind at hn
    rw [← findIdx_find] at hn
    cases hf : es.findIdx? (isKey n) with
    | none => rfl
    | some j =>
      have hj : j < es.length := by rw [List.findIdx?_eq_some_iff_getElem] at hf; exact hf.1
      simp [hf, List.getElem?_eq_getElem hj] at hn
  have hg : (getObj b).run x.P w = .ok (.map es.toArray clk) w := by simp [getObj, Sem.run, hb]
  refine yields_of_skip (w' := { w with heap := w.heap.setIfInBounds b (.map (es ++ [MapEntry.mk (.int k n) v clk]).toArray (clk + 1)) }) ?_ ⟨_, ⟨rfl, rfl⟩, hi.upd hm.foc (Upd.setObj hb), (Upd.setObj hb).same⟩
  simp only [execOp, he.eval hp, he.eval hq, he.eval hr, Instr.mapUpdate, Sem.run_bind, run_underlying mt.h, Result.andThen_ok, hg, run_checkKey_int it.h, run_findKey_int it.h h, hf, Option.map_none, run_setObj_map hb, Sem.run_pure, List.push_toArray]⟩

theorem Ef.del {T KT K E : TypeId} {k : IntKind} {p q : Operand} {b clk : Nat} {es : List MapEntry} {n : Int} {kk : Obj → HL} [mt : MapT x.P T K E] [it : IntT x.P K k] (hp : ev env p = some (.map (some b))) (hq : ev env q = some (.int k n)) (hm : MapAt b es clk H kk) (h : keysOk k es) :
    Ef x env H ⟨dst, .call ⟨.builtin .delete, #[p, q], #[T, KT]⟩, ty, pos, aft, gd⟩ (fun v H' => v = .tuple #[] ∧ H' = kk (.map (es.eraseP (isKey n)).toArray clk)) := ⟨fun a w he hi => by
  have hb := hm.foc.heap hi
  have hg : (getObj b).run x.P w = .ok (.map es.toArray clk) w := by simp [getObj, Sem.run, hb]
  refine yields_of_run (v := .tuple #[]) (w' := { w with heap := w.heap.setIfInBounds b (.map (es.eraseP (isKey n)).toArray clk) }) ?_ ⟨_, ⟨rfl, rfl⟩, hi.upd hm.foc (Upd.setObj hb), (Upd.setObj hb).same⟩
  have hrun : (Builtin.delete_ #[T, KT] ty #[.map (some b), .int k n]).run x.P w = .ok (.tuple #[]) { w with heap := w.heap.setIfInBounds b (.map (es.eraseP (isKey n)).toArray clk) } := by
    unfold Builtin.delete_
    simp only [Sem.run_bind, List.getElem?_toArray, List.getElem?_cons_zero, List.getElem?_cons_succ, run_underlying mt.h, Result.andThen_ok, hg, run_checkKey_int it.h, run_findKey_int it.h h]
    cases hf : es.findIdx? (isKey n) with
    | none =>
      have : es.eraseP (isKey n) = es := by
        rw [List.eraseP_eq_self_iff]
        intro e he
        have := List.findIdx?_eq_none_iff.1 hf e he
        simpa using this
      simp [run_setObj_map hb, this]
    | some j =>
      have : es.eraseP (isKey n) = es.eraseIdx j := by
        rw [List.eraseP_eq_eraseIdx, hf]
      have hj : j < es.length := by rw [List.findIdx?_eq_some_iff_getElem] at hf; exact hf.1
      simp [run_setObj_map hb, this, Array.eraseIdxIfInBounds, hj]
  simp only [execOp, resolve, invoke, builtin, List.map_toArray, List.map_cons, List.map_nil, he.eval hp, he.eval hq, Sem.run_bind, Sem.run_pure, Result.andThen_ok, hrun]⟩

theorem Ef.mkMap {T : TypeId} : Ef x env H ⟨dst, .makeMap T none, ty, pos, aft, gd⟩ (fun v H' => ∃ b, v = .map (some b) ∧ H' = (b, .map ([] : List MapEntry).toArray 0) :: H) := ⟨fun a w he hi => by
  refine yields_of_run (v := .map (some w.heap.size)) (w' := w.alloc (.map #[] 0)) (by simp [execOp, Instr.makeMap]) ⟨_, ⟨_, rfl, rfl⟩, hi.alloc _, Same.alloc w _⟩⟩

/-! ### all entries, in whatever order -/
/-- An iterator over map 'm', before whose first step the clock stood at 'since'; 'seen': the births of the entries that it gave. -/
theorem Ef.rng {T K E : TypeId} {p : Operand} {b clk : Nat} {es : List MapEntry} {kk : Obj → HL} [mt : MapT x.P T K E] (hp : ev env p = some (.map (some b))) (hm : MapAt b es clk H kk) :
    Ef x env H ⟨dst, .range T p, ty, pos, aft, gd⟩ (fun v H' => ∃ it, v = .pointer (some ⟨it, 0, none⟩) ∧ H' = (it, .mapIter (some b) clk ([] : List Nat).toArray clk) :: H) := ⟨fun a w he hi => by
  have hb := hm.foc.heap hi
  have hg : (getObj b).run x.P w = .ok (.map es.toArray clk) w := by simp [getObj, Sem.run, hb]
  refine yields_of_run (v := .pointer (some ⟨w.heap.size, 0, none⟩)) (w' := w.alloc (.mapIter (some b) clk #[] clk)) (by simp [execOp, he.eval hp, Instr.range, run_underlying mt.h, hg]) ⟨_, ⟨_, rfl, rfl⟩, hi.alloc _, Same.alloc w _⟩⟩

/-- A step: an entry that was not given yet, or (where none is left) the end. No entry was put in since the walk began. -/
theorem Ef.nxt {p : Operand} {it b clk : Nat} {es : List MapEntry} {seen : List Nat} {last : Nat} {k1 k2 : Obj → HL} (hp : ev env p = some (.pointer (some ⟨it, 0, none⟩))) (hf : Foc it (.mapIter (some b) clk seen.toArray last) H k1) (hm : MapAt b es clk H k2)
    (hold : ∀ e ∈ es, e.born < clk) (hlast : seen = [] ∨ last = clk) :
    Ef x env H ⟨dst, .next p false, ty, pos, aft, gd⟩ (fun v H' =>
      ((∀ e ∈ es, e.born ∈ seen) ∧ v = .tuple [.bool false].toArray ∧ H' = H) ∨
      ∃ e ∈ es, e.born ∉ seen ∧ v = .tuple [.bool true, e.key, e.val].toArray ∧ H' = k1 (.mapIter (some b) clk (seen ++ [e.born]).toArray clk)) := ⟨fun a w he hi => by
  have hb := hm.foc.heap hi
  have hit := hf.heap hi
  have hg : ∀ w' : World, w'.heap = w.heap → (getObj b).run x.P w' = .ok (.map es.toArray clk) w' := fun w' h => by simp [getObj, Sem.run, h, hb]
  have hgi : (getObj it).run x.P w = .ok (.mapIter (some b) clk seen.toArray last) w := by simp [getObj, Sem.run, hit]
  have hnew : (es.toArray.filter fun e => !seen.toArray.contains e.born).filter (fun e => decide (e.born ≥ clk)) = #[] := by
    rw [Array.filter_filter]
    apply Array.eq_empty_of_size_eq_zero
    rw [Array.size_eq_zero_iff, Array.filter_eq_empty_iff]
    intro e hem
    have := hold e (by simpa using hem)
    simp; omega
  have holdf : (es.toArray.filter fun e => !seen.toArray.contains e.born).filter (fun e => decide (e.born < clk)) = es.toArray.filter fun e => !seen.toArray.contains e.born := by
    rw [Array.filter_eq_self]
    intro e hem
    have := hold e (by simpa using (Array.mem_filter.1 hem).1)
    simp [this]
  have hg1 : (!seen.toArray.isEmpty && !es.toArray.isEmpty && es.toArray.all fun e => decide (e.born ≥ last)) = false := by
    rcases hlast with rfl | rfl
    · simp
    · cases es with
      | nil => simp
      | cons e es =>
        have := hold e (by simp)
        have hne : decide (e.born ≥ last) = false := by simp; omega
        simp [hne]
  generalize hcand : (if (es.toArray.filter fun e => !seen.toArray.contains e.born).isEmpty then #[none] else #[]) ++ (es.toArray.filter fun e => !seen.toArray.contains e.born).map some = cand
  have hne : cand.size ≠ 0 := by
    rw [← hcand]
    by_cases hem : (es.toArray.filter fun e => !seen.toArray.contains e.born).isEmpty = true
    · simp
    · have : (es.toArray.filter fun e => !seen.toArray.contains e.born).size ≠ 0 := by simpa [Array.isEmpty] using hem
      simp
  -- which one is drawn
  obtain ⟨i, w1, hch, hi1, hw1, hos, htp, hout, hdr⟩ : ∃ i w1, (choose (.mapNext cand.size)).run x.P w = .ok i w1 ∧ i < cand.size ∧ w1.heap = w.heap ∧ w1.os = w.os ∧ w1.tape = w.tape ∧ w1.output = w.output ∧ w.drawn ≤ w1.drawn := by
    rw [run_choose]
    by_cases hfo : (Question.mapNext cand.size).forced = true
    · exact ⟨0, w, by rw [if_pos hfo], by omega, rfl, rfl, rfl, rfl, Nat.le_refl _⟩
    · exact ⟨(Question.mapNext cand.size).cut (w.tape w.drawn (Question.mapNext cand.size)), { w with drawn := w.drawn + 1 }, by rw [if_neg hfo], Nat.mod_lt _ (by omega), rfl, rfl, rfl, rfl, Nat.le_succ _⟩
  have hc : cand[i]? = some cand[i] := Array.getElem?_eq_getElem hi1
  have hrun0 : ∀ (r : Result Value), (match cand[i]? with
      | some (some e) => (do setObj it (.mapIter (some b) clk (seen.toArray.push e.born) clk); pure (.tuple #[.bool true, e.key, e.val]) : Sem Value)
      | some none => pure (.tuple #[.bool false])
      | none => stuck "Next: no such candidate").run x.P w1 = r → (Instr.next (.pointer (some ⟨it, 0, none⟩)) false ty).run x.P w = r := by
    intro r hr
    unfold Instr.next
    simp only [Sem.run_bind, hgi, Result.andThen_ok, hg w rfl, hg1, if_false, Bool.false_eq_true, hnew, holdf, Array.append_empty, hcand, hch]
    exact hr
  cases hce : cand[i] with
  | none =>
    rw [hc, hce] at hrun0
    have hlt := hi.nd
    refine yields_of_run (v := .tuple #[.bool false]) (w' := w1) (by simp only [execOp, he.eval hp, Sem.run_bind, hrun0 _ rfl, Sem.run_pure, Result.andThen_ok]) ⟨H, .inl ⟨?_, rfl, rfl⟩, ⟨hi.nd, fun p hp => by rw [hw1]; exact hi.own p hp, fun c o h => by rw [hw1]; exact hi.fr c o h, hi.dj⟩, ⟨hos, htp, hout, by rw [hw1]; exact Nat.le_refl _, hdr⟩⟩
    intro e hem
    by_cases hemp : (es.toArray.filter fun e => !seen.toArray.contains e.born).isEmpty = true
    · have hsz : es.toArray.filter (fun e => !seen.toArray.contains e.born) = #[] := by simpa [Array.isEmpty_iff] using hemp
      rw [Array.filter_eq_empty_iff] at hsz
      have := hsz e (by simpa using hem)
      simpa using this
    · exfalso
      have h1 : cand = (es.toArray.filter fun e => !seen.toArray.contains e.born).map some := by rw [← hcand, if_neg hemp, Array.empty_append]
      have h2 : none ∈ cand := by rw [← hce]; exact Array.getElem_mem hi1
      rw [h1] at h2
      simp at h2
  | some e =>
    rw [hc, hce] at hrun0
    have h2 : some e ∈ cand := by rw [← hce]; exact Array.getElem_mem hi1
    have h3 : e ∈ es ∧ e.born ∉ seen := by
      rw [← hcand] at h2
      rcases Array.mem_append.1 h2 with h2 | h2
      · split at h2 <;> simp at h2
      · simpa using h2
    have hit1 : w1.heap[it]? = some (.mapIter (some b) clk seen.toArray last) := by rw [hw1]; exact hit
    have hset : (setObj it (.mapIter (some b) clk (seen.toArray.push e.born) clk)).run x.P w1 = .ok () { w1 with heap := w1.heap.setIfInBounds it (.mapIter (some b) clk (seen.toArray.push e.born) clk) } := by simp [setObj, Sem.run, hit1]
    have hpu : seen.toArray.push e.born = (seen ++ [e.born]).toArray := by simp
    rw [hpu] at hset
    simp only [hpu] at hrun0
    have hin1 : In x.F H w1 := ⟨hi.nd, fun p hp => by rw [hw1]; exact hi.own p hp, fun c o h => by rw [hw1]; exact hi.fr c o h, hi.dj⟩
    have hupd : Upd w1 { w1 with heap := w1.heap.setIfInBounds it (.mapIter (some b) clk (seen ++ [e.born]).toArray clk) } it (.mapIter (some b) clk (seen ++ [e.born]).toArray clk) := Upd.setObj hit1
    refine yields_of_run (v := .tuple #[.bool true, e.key, e.val]) (w' := { w1 with heap := w1.heap.setIfInBounds it (.mapIter (some b) clk (seen ++ [e.born]).toArray clk) }) ?_ ⟨_, .inr ⟨e, h3.1, h3.2, rfl, rfl⟩, hin1.upd hf hupd, (Same.trans ⟨hos, htp, hout, by rw [hw1]; exact Nat.le_refl _, hdr⟩ hupd.same)⟩
    simp only [execOp, he.eval hp, Sem.run_bind]
    rw [hrun0 (.ok (.tuple #[.bool true, e.key, e.val]) { w1 with heap := w1.heap.setIfInBounds it (.mapIter (some b) clk (seen ++ [e.born]).toArray clk) }) (by simp only [Sem.run_bind, hset, Result.andThen_ok, Sem.run_pure])]
    rfl⟩

/-- The entry of the step just made. -/
theorem Rd.ent {p : Operand} {it b clk since : Nat} {es : List MapEntry} {seen : List Nat} {e : MapEntry} {k1 k2 : Obj → HL} (hp : ev env p = some (.pointer (some ⟨it, 0, none⟩))) (hf : Foc it (.mapIter (some b) since (seen ++ [e.born]).toArray clk) H k1) (hm : MapAt b es clk H k2) (he' : e ∈ es) (hnd : (es.map (·.born)).Nodup) :
    Rd x env H ⟨dst, .entry p, ty, pos, aft, gd⟩ (.tuple [e.key, e.val].toArray) := ⟨fun a w he hi => by
  have hb := hm.foc.heap hi
  have hit := hf.heap hi
  have hg : (getObj b).run x.P w = .ok (.map es.toArray clk) w := by simp [getObj, Sem.run, hb]
  have hgi : (getObj it).run x.P w = .ok (.mapIter (some b) since (seen ++ [e.born]).toArray clk) w := by simp [getObj, Sem.run, hit]
  have hfind : es.find? (fun e' => e'.born == e.born) = some e := by
    clear hb hg hm hi hgi hit hf
    induction es with
    | nil => cases he'
    | cons q es ih =>
      simp only [List.map_cons, List.nodup_cons] at hnd
      cases he' with
      | head => simp
      | tail _ h =>
        have hne : q.born ≠ e.born := fun h' => hnd.1 (List.mem_map.2 ⟨e, h, h'.symm⟩)
        rw [List.find?_cons_of_neg (by simpa using hne)]
        exact ih h hnd.2
  simp [execOp, he.eval hp, Instr.entry, hgi, hg, hfind]⟩
end
end Go.Sl
