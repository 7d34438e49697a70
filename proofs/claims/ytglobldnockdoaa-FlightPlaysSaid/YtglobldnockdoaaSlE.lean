/- The logic's rules for slices: append to a slice that is owned, literals of slices and structs, make, parts of slices. No conditions: laws only. -/
import Derived.Test.YtglobldnockdoaaSlD
import Derived.Laws.AppendOwn
namespace Go.Sl
open Go

/-- The blocks 'hb' bear the slice 'v', whose cells are 'xs' (elements of sz cells). -/
def OwnS (E sz : Nat) (xs : List Value) (v : Value) (hb : HL) : Prop :=
  (v = .slice none 0 0 ∧ xs = [] ∧ hb = []) ∨
  ∃ g n cap pre spare post, v = .slice (some ⟨g, List.length pre, none⟩) n cap ∧ hb = [(g, .cells (pre ++ xs ++ spare ++ post).toArray E (0, 0))] ∧ xs.length = n * sz ∧ n ≤ cap ∧ spare.length = (cap - n) * sz ∧ cap ≤ maxLen

/-- What is appended can be read. -/
def Src (F : Nat → Option Obj) (H : HL) (v : Value) (m : Nat) (news : List Value) : Prop :=
  (∃ c, v = .slice none 0 c ∧ m = 0 ∧ news = []) ∨ ∃ a c, v = .slice (some a) m c ∧ ∀ w, In F H w → ∀ j u, news[j]? = some u → w.cell? (a.add j) = some u

theorem add_lit (g o j : Nat) : (⟨g, o, none⟩ : Addr).add j = ⟨g, o + j, none⟩ := by unfold Addr.add; split <;> simp_all

theorem run_append_ownS {P : Program} {T ty E sz by_ : Nat} {i : TypeInfo} {zv : Value} (ht : P.underlying T = some (.slice E)) (hi : P.info? E = some i) (hs : i.size = sz) (hby : i.bytes = by_) (hz : i.zero = some zv) (hzs : zv.cells.size = sz) (hsz : 0 < sz)
    {xs : List Value} {v : Value} {hb : HL} (hown : OwnS E sz xs v hb) {w : World} (hblk : ∀ p ∈ hb, w.heap[p.1]? = some p.2) {src : Value} {m : Nat} {news : List Value}
    (hsrc : (∃ c, src = .slice none 0 c ∧ m = 0 ∧ news = []) ∨ ∃ a c, src = .slice (some a) m c ∧ ∀ j u, news[j]? = some u → w.cell? (a.add j) = some u) (hl : news.length = m * sz) (h1 : ∀ u ∈ news, u.oneCell' = true)
    (hb1 : (xs.length + news.length) * by_ ≤ 140737488355328) (hb2 : xs.length + news.length ≤ maxLen) :
    ∃ v' w' hb', (Builtin.append_ #[T, T] ty #[v, src]).run P w = .ok v' w' ∧ OwnS E sz (xs ++ news) v' hb' ∧
      ((hb' = hb ∧ w' = w) ∨ (∃ g o o', hb = [(g, o)] ∧ hb' = [(g, o')] ∧ Upd w w' g o') ∨ ∃ o', hb' = [(w.heap.size, o')] ∧ w' = w.drew.alloc o') := by
  subst hs
  have hnm : ∀ n : Nat, xs.length = n * i.size → n + m ≤ xs.length + news.length := fun n hn => by
    have h1 : n ≤ n * i.size := Nat.le_mul_of_pos_right n hsz
    have h2 : m ≤ m * i.size := Nat.le_mul_of_pos_right m hsz
    omega
  have hfit : ∀ n : Nat, xs.length = n * i.size → (n + m) * i.bytes ≤ 140737488355328 := fun n hn => by
    rw [hby]
    exact Nat.le_trans (Nat.mul_le_mul_right _ (hnm n hn)) hb1
  have hmax : maxLen = 9223372036854775807 := by unfold maxLen; rfl
  -- the new row
  have grown : ∀ (n old : Nat), xs.length = n * i.size → OwnS E i.size (xs ++ news) (.slice (some ⟨w.heap.size, 0, none⟩) (n + m) (grownCap w (n + m) old E))
      [(w.heap.size, .cells (xs.toArray ++ news.toArray ++ Builtin.zeroCells zv.cells (grownCap w (n + m) old E - (n + m))) E (0, 0))] := fun n old hn => by
    refine .inr ⟨w.heap.size, n + m, grownCap w (n + m) old E, [], (Builtin.zeroCells zv.cells (grownCap w (n + m) old E - (n + m))).toList, [], rfl, by simp, by simp [hn, hl, Nat.add_mul], grownCap_ge _ _ _ _, ?_, ?_⟩
    · simp [size_zeroCells, hzs]
    · exact grownCap_le_maxLen _ _ _ _ (Nat.le_trans (hnm n hn) hb2)
  rcases hown with ⟨rfl, rfl, rfl⟩ | ⟨g, n, cap, pre, spare, post, rfl, rfl, hlen, hnc, hsp, hcap⟩
  · have hn0 : ([] : List Value).length = 0 * i.size := by simp
    by_cases hm : m = 0
    · have hnew : news = [] := List.eq_nil_of_length_eq_zero (by rw [hl, hm]; simp)
      refine ⟨.slice none 0 0, w, [], ?_, .inl ⟨rfl, by simp [hnew], rfl⟩, .inl ⟨rfl, rfl⟩⟩
      rcases hsrc with ⟨c, rfl, _, _⟩ | ⟨a, c, rfl, _⟩
      · simp [Builtin.append_, run_underlying ht, sizeOf, typeInfo, hi, Builtin.lenOf, Builtin.firstCells]
      · subst hm
        simp [Builtin.append_, run_underlying ht, sizeOf, typeInfo, hi, Builtin.lenOf, Builtin.firstCells, loadCells, loadCellsFrom]
    · rcases hsrc with ⟨c, rfl, h0, _⟩ | ⟨a, c, rfl, hr⟩
      · exact absurd h0 hm
      · have hf := hfit 0 hn0
        have hle := hnm 0 hn0
        simp only [Nat.zero_add] at hf hle
        have hrun := run_append_nil (P := P) w T ty E i zv ht hi hz a m c news hl hr (by omega) (by omega) (by omega)
        have hg := grown 0 0 hn0
        simp only [Nat.zero_add, List.nil_append, Array.empty_append] at hg
        exact ⟨_, _, _, hrun, hg, .inr (.inr ⟨_, rfl, rfl⟩)⟩
  · have hgh : w.heap[g]? = some (.cells (pre ++ xs ++ spare ++ post).toArray E (0, 0)) := hblk (g, _) List.mem_cons_self
    have hle := hnm n hlen
    by_cases hroom : n + m ≤ cap
    · -- in place
      have hfc : (Builtin.firstCells i.size m src).run P w = .ok news.toArray w ∧ (Builtin.lenOf src).run P w = .ok m w := by
        rcases hsrc with ⟨c, rfl, rfl, rfl⟩ | ⟨a, c, rfl, hr⟩
        · exact ⟨by simp [Builtin.firstCells], rfl⟩
        · exact ⟨run_firstCells_some (P := P) w i.size m a m c news hl hr, rfl⟩
      have hml : m * i.size ≤ (cap - n) * i.size := Nat.mul_le_mul_right _ (by omega)
      have hst := run_storeCells_at P g (pre.length + n * i.size) E news 0 (pre ++ xs ++ spare ++ post).toArray w hgh (by simp [hlen, hsp, hl]; omega) h1
      simp only [Nat.add_zero] at hst
      have hcells : ((pre ++ xs ++ spare ++ post).take (pre.length + n * i.size) ++ news ++ (pre ++ xs ++ spare ++ post).drop (pre.length + n * i.size + news.length)) = pre ++ (xs ++ news) ++ spare.drop (m * i.size) ++ post := by
        have e1 : (pre ++ xs ++ spare ++ post).take (pre.length + n * i.size) = pre ++ xs := by
          rw [List.append_assoc (pre ++ xs), List.take_append_of_le_length (by simp [hlen]), List.take_of_length_le (by simp [hlen])]
        have e2 : (pre ++ xs ++ spare ++ post).drop (pre.length + n * i.size + news.length) = spare.drop (m * i.size) ++ post := by
          have : pre.length + n * i.size + news.length = (pre ++ xs).length + m * i.size := by simp [hlen, hl]
          rw [this, List.append_assoc (pre ++ xs), ← List.drop_drop, List.drop_left, List.drop_append_of_le_length (by omega)]
        rw [e1, e2]; simp
      have hrun : (Builtin.append_ #[T, T] ty #[.slice (some ⟨g, pre.length, none⟩) n cap, src]).run P w = .ok (.slice (some ⟨g, pre.length, none⟩) (n + m) cap) (w.setRow g (pre ++ (xs ++ news) ++ spare.drop (m * i.size) ++ post).toArray) := by
        rw [← hcells]
        simp [Builtin.append_, run_underlying ht, sizeOf, typeInfo, hi, hfc.1, hfc.2, hroom, add_lit, hst]
      refine ⟨_, _, [(g, .cells (pre ++ (xs ++ news) ++ spare.drop (m * i.size) ++ post).toArray E (0, 0))], hrun, .inr ⟨g, n + m, cap, pre, spare.drop (m * i.size), post, rfl, rfl, by simp [hlen, hl, Nat.add_mul], hroom, ?_, hcap⟩, .inr (.inl ⟨g, _, _, rfl, rfl, Upd.setRow hgh⟩)⟩
      rw [List.length_drop, hsp, ← Nat.sub_mul]
      congr 1
      omega
    · rcases hsrc with ⟨c, rfl, h0, _⟩ | ⟨a, c, rfl, hr⟩
      · omega
      · have holds : ∀ j u, xs[j]? = some u → w.cell? ((⟨g, pre.length, none⟩ : Addr).add j) = some u := fun j u hu => by
          have hj : j < xs.length := (List.getElem?_eq_some_iff.1 hu).1
          rw [add_lit, cell_of_row w g _ _ E _ hgh]
          simp only [List.getElem?_toArray, List.append_assoc]
          rw [List.getElem?_append_right (by omega), Nat.add_sub_cancel_left, List.getElem?_append_left hj]
          exact hu
        have hrun := run_append_grow (P := P) w T ty E i zv ht hi hz ⟨g, pre.length, none⟩ n cap xs hlen holds a m c news hl hr (by omega) (by omega) (growslice_fits (by omega) (hfit n hlen))
        exact ⟨_, _, _, hrun, grown n cap hlen, .inr (.inr ⟨_, rfl, rfl⟩)⟩

section
variable {x : Cx} {env : Env} {H : HL} {dst : Option Tmp} {ty : TypeId} {pos : String} {aft : Array Edge} {gd : Option (Nat × Bool)}

theorem In.drew {F : Nat → Option Obj} {H : HL} {w : World} (h : In F H w) : In F H w.drew := ⟨h.nd, h.own, h.fr, h.dj⟩
theorem Same.drew (w : World) : Same w w.drew := ⟨rfl, rfl, rfl, Nat.le_refl _, Nat.le_succ _⟩

theorem In.upd1 {F : Nat → Option Obj} {H : HL} {w w' : World} {g : Nat} {o o' : Obj} (hi : In F ((g, o) :: H) w) (hu : Upd w w' g o') : In F ((g, o') :: H) w' := hi.upd (Foc.here H) hu

theorem Ef.app {T E sz by_ : Nat} {z : List Value} {p q : Operand} {xs : List Value} {v src : Value} {hb Hr : HL} {m : Nat} {news : List Value} [st : SliceT x.P T E sz by_] [zt : ZeroT x.P E z] (hzl : z.length = sz) (hsz : Nat.blt 0 sz = true)
    (hp : ev env p = some v) (hq : ev env q = some src) (hown : OwnS E sz xs v hb) (hsub : Sub hb H Hr) (hsrc : Src x.F H src m news) (hl : news.length = m * sz) (h1 : ∀ u ∈ news, u.oneCell' = true)
    (hb1 : (xs.length + news.length) * by_ ≤ 140737488355328) (hb2 : xs.length + news.length ≤ maxLen) :
    Ef x env H ⟨dst, .call ⟨.builtin .append, #[p, q], #[T, T]⟩, ty, pos, aft, gd⟩ (fun v' H' => ∃ hb', OwnS E sz (xs ++ news) v' hb' ∧ H' = hb' ++ Hr) := ⟨fun a w he hi => by
  have hperm := hi.perm hsub.perm'
  have hst := st.i
  have hzt := zt.h
  cases hinf : x.P.info? E with
  | none => simp [hinf] at hst
  | some i =>
  simp only [hinf, Option.map_some, Option.some.injEq, Prod.mk.injEq] at hst
  cases hzz : i.zero with
  | none => simp [hinf, hzz] at hzt
  | some zv =>
  have hzc : zv.cells = z.toArray := by simpa [hinf, hzz] using hzt
  obtain ⟨v', w', hb', hrun, hown', hcase⟩ := run_append_ownS (ty := ty) st.h hinf hst.1 hst.2 hzz (by rw [hzc]; simpa using hzl) (Nat.le_of_ble_eq_true hsz) hown (w := w) (fun p hp => hperm.own p (List.mem_append_left _ hp))
    (hsrc.imp id fun ⟨a, c, h1, h2⟩ => ⟨a, c, h1, h2 w hi⟩) hl h1 hb1 hb2
  refine yields_of_run (v := v') (w' := w') (by simp only [execOp, resolve, invoke, builtin, List.map_toArray, List.map_cons, List.map_nil, he.eval hp, he.eval hq, Sem.run_bind, Sem.run_pure, Result.andThen_ok, hrun]) ⟨hb' ++ Hr, ⟨hb', hown', rfl⟩, ?_⟩
  rcases hcase with ⟨rfl, rfl⟩ | ⟨g, o, o', rfl, rfl, hu⟩ | ⟨o', rfl, rfl⟩
  · exact ⟨hperm, Same.refl _⟩
  · exact ⟨hperm.upd1 hu, hu.same⟩
  · have h2 := (hperm.right).drew.alloc o'
    exact ⟨h2, (Same.drew w).trans (Same.alloc _ _)⟩⟩

/-- a part that is read: an owned block's first cells; a block of the frame -/
theorem Src.own {F : Nat → Option Obj} {b off m c : Nat} {news : List Value} {n : Nat} (h : CutAt b off n news H) : Src F H (.slice (some ⟨b, off, none⟩) m c) m news := .inr ⟨_, c, rfl, fun w hi j u hu => by
  obtain ⟨l, T', fr, k, hf, hv⟩ := h.foc
  obtain ⟨hr, hle⟩ := cut_eq hv
  rw [add_lit, cell_of_row w b _ _ T' fr (hf.heap hi)]
  rw [hr, List.getElem?_take] at hu
  split at hu
  · simpa using hu
  · cases hu⟩
theorem Src.foc {F : Nat → Option Obj} {b off m c : Nat} {news l : List Value} {T' : TypeId} {fr : Nat × Nat} {k : Obj → HL} (hf : Foc b (.cells l.toArray T' fr) H k) (h : ∀ j u, news[j]? = some u → l[off + j]? = some u) : Src F H (.slice (some ⟨b, off, none⟩) m c) m news := .inr ⟨_, c, rfl, fun w hi j u hu => by
  rw [add_lit, cell_of_row w b _ _ T' fr (hf.heap hi)]
  simpa using h j u hu⟩
theorem Src.fr {F : Nat → Option Obj} {b off m c : Nat} {news : List Value} {cs : Array Value} {T' : TypeId} {fr : Nat × Nat} (hf : F b = some (.cells cs T' fr)) (h : ∀ j u, news[j]? = some u → cs[off + j]? = some u) : Src F H (.slice (some ⟨b, off, none⟩) m c) m news := .inr ⟨_, c, rfl, fun w hi j u hu => by
  rw [add_lit, cell_of_row w b _ _ T' fr (hi.fr b _ hf)]
  exact h j u hu⟩
theorem Src.nil {F : Nat → Option Obj} {c : Nat} : Src F H (.slice none 0 c) 0 [] := .inl ⟨c, rfl, rfl, rfl⟩

/-- a slice's literal of no or one element -/
theorem Ef.bs0 {T E sz by_ : Nat} [st : SliceT x.P T E sz by_] : Ef x env H ⟨dst, .buildSlice T 0 #[], ty, pos, aft, gd⟩ (fun v H' => ∃ b, v = .slice (some ⟨b, 0, none⟩) 0 0 ∧ H' = (b, .cells ([] : List Value).toArray E (0, 0)) :: H) := ⟨fun a w he hi => by
  have hst := st.i
  cases hinf : x.P.info? E with
  | none => simp [hinf] at hst
  | some i =>
  refine yields_of_run (v := .slice (some ⟨w.heap.size, 0, none⟩) 0 0) (w' := w.alloc (.cells #[] E)) ?_ ⟨_, ⟨_, rfl, rfl⟩, hi.alloc _, Same.alloc w _⟩
  simp [execOp, Instr.buildSlice, run_underlying st.h, sizeOf, typeInfo, hinf, Instr.fill, newRow, show Array.range 0 = #[] from rfl]⟩

theorem foldl_set (vs : List Value) : ∀ (k : Nat) (cells : Array Value), k + vs.length ≤ cells.size → (vs.zipIdx.foldl (fun cs (p : Value × Nat) => cs.setIfInBounds (k + p.2) p.1) cells).toList = cells.toList.take k ++ vs ++ cells.toList.drop (k + vs.length) := by
  intro k cells h
  have key : ∀ (vs : List Value) (j : Nat) (cells : Array Value), k + j + vs.length ≤ cells.size → ((vs.zipIdx j).foldl (fun cs (p : Value × Nat) => cs.setIfInBounds (k + p.2) p.1) cells).toList = cells.toList.take (k + j) ++ vs ++ cells.toList.drop (k + j + vs.length) := by
    intro vs
    induction vs with
    | nil => intro j cells _; simp
    | cons v vs ih =>
      intro j cells h
      simp only [List.zipIdx_cons, List.foldl_cons]
      rw [ih (j + 1) _ (by simp at h ⊢; omega)]
      have hlt : k + j < cells.toList.length := by simp at h ⊢; omega
      have e := list_seg_step cells.toList (k + j) v vs (by simp at h ⊢; omega)
      simpa [Array.toList_setIfInBounds, Nat.add_assoc] using e
  simpa using key vs 0 cells (by simpa using h)

theorem fill_one {place : Nat → Option (Nat × Nat)} {cells : List Value} {v : Value} {i off size : Nat} {r : List Value} (hp : place i = some (off, size)) (hs : v.cells.size = size) (hr : spliceK cells off v.cells.toList some = some r) (rest : List (Nat × Value)) :
    Instr.fill place cells.toArray ((i, v) :: rest) = Instr.fill place r.toArray rest := by
  obtain ⟨h1, h2⟩ := splice_eq hr
  have hf := foldl_set v.cells.toList off cells.toArray (by simpa using h2)
  have hcell : v.cells.zipIdx.foldl (fun cs (p : Value × Nat) => cs.setIfInBounds (off + p.2) p.1) cells.toArray = r.toArray := by
    apply Array.ext'
    rw [h1, ← Array.foldl_toList, Array.toList_zipIdx]
    simpa using hf
  rw [Instr.fill, hp]
  simp only []
  rw [if_neg (by simp at h2 ⊢; omega)]
  exact congrArg (fun c => Instr.fill place c rest) hcell

def fillK (pl : List (Nat × Nat)) : List (Nat × Value) → List Value → Option (List Value)
  | [], cells => some cells
  | (i, v) :: rest, cells => match pl[i]? with
    | some (off, size) => match Nat.beq v.cells.size size with
      | true => match spliceK cells off v.cells.toList some with
        | some r => fillK pl rest r
        | none => none
      | false => none
    | none => none
theorem fill_K {place : Nat → Option (Nat × Nat)} {pl : List (Nat × Nat)} (hpl : ∀ i, place i = pl[i]?) : ∀ (parts : List (Nat × Value)) (cells r : List Value), fillK pl parts cells = some r → Instr.fill place cells.toArray parts = some r.toArray
  | [], cells, r, h => by simp [fillK] at h; subst h; rfl
  | (i, v) :: rest, cells, r, h => by
    rw [fillK] at h
    cases hp : pl[i]? with
    | none => simp [hp] at h
    | some q =>
      obtain ⟨off, size⟩ := q
      simp only [hp] at h
      cases hb : Nat.beq v.cells.size size with
      | false => simp [hb] at h
      | true =>
        simp only [hb] at h
        cases hs : spliceK cells off v.cells.toList some with
        | none => simp [hs] at h
        | some r' =>
          simp only [hs] at h
          rw [fill_one (by rw [hpl, hp]) (Nat.eq_of_beq_eq_true hb) hs]
          exact fill_K hpl rest r' r h

class StructP (P : Program) (T : TypeId) (pl : outParam (List (Nat × Nat))) : Prop where
  h : ((P.underlying T).bind (fun d => match d with | .struct fs => (fs.mapM (fun f => (P.info? f.type).map (fun i => (f.offset, i.size)))) | _ => none)) = some pl.toArray

theorem run_places {P : Program} {fs : Array Field} {w : World} : ∀ (l : List Field) (pl : List (Nat × Nat)), l.mapM (fun f => (P.info? f.type).map (fun i => (f.offset, i.size))) = some pl → (l.mapM (fun f => do pure (f.offset, ← sizeOf f.type) : Field → Sem (Nat × Nat))).run P w = .ok pl w
  | [], pl, h => by simp at h; subst h; rfl
  | f :: l, pl, h => by
    rw [List.mapM_cons] at h
    cases hf : P.info? f.type with
    | none => simp [hf] at h
    | some i =>
      simp only [hf, Option.map_some, Option.bind_eq_bind, Option.bind_some] at h
      cases hl : l.mapM (fun f => (P.info? f.type).map (fun i => (f.offset, i.size))) with
      | none => simp [hl] at h
      | some pl' =>
        simp only [hl, Option.bind_some, Option.pure_def, Option.some.injEq] at h
        subst h
        rw [List.mapM_cons]
        have ih := run_places (fs := fs) (w := w) l pl' hl
        simp only [Sem.run_bind, sizeOf, typeInfo, run_program, Result.andThen_ok, hf, Sem.run_pure] at ih ⊢
        rw [ih]
        rfl

def evalP (env : Env) : List (Nat × Operand) → Option (List (Nat × Value))
  | [] => some []
  | (i, q) :: r => match ev env q with
    | none => none
    | some v => match evalP env r with
      | none => none
      | some l => some ((i, v) :: l)
theorem parts_eval {a : Act} (he : Ev x env a) : ∀ (parts : List (Nat × Operand)) (vals : List (Nat × Value)), evalP env parts = some vals → parts.map (fun p => (p.1, a.eval p.2)) = vals
  | [], vals, h => by simp [evalP] at h; subst h; rfl
  | (i, q) :: parts, vals, h => by
    rw [evalP] at h
    cases hq : ev env q with
    | none => simp [hq] at h
    | some v =>
      simp only [hq] at h
      cases hr : evalP env parts with
      | none => simp [hr] at h
      | some l =>
        simp only [hr, Option.some.injEq] at h
        subst h
        simp [he.eval hq, parts_eval he parts l hr]

theorem Pu.bld {T : TypeId} {z : List Value} {pl : List (Nat × Nat)} {parts : List (Nat × Operand)} {vals : List (Nat × Value)} {r : List Value} [zt : ZeroT x.P T z] [sp : StructP x.P T pl] (hv : evalP env parts = some vals) (hr : fillK pl vals z = some r) :
    Pu x env ⟨dst, .build T parts.toArray, ty, pos, aft, gd⟩ (.agg r.toArray) := ⟨fun a he w => by
  have hz := zt.h
  have hs := sp.h
  cases hinf : x.P.info? T with
  | none => simp [hinf] at hz
  | some i =>
  cases hzz : i.zero with
  | none => simp [hinf, hzz] at hz
  | some zv =>
  have hzc : zv.cells = z.toArray := by simpa [hinf, hzz] using hz
  cases hu : x.P.underlying T with
  | none => simp [hu] at hs
  | some d =>
  rw [hu] at hs
  simp only [Option.bind_some] at hs
  cases d with
  | struct fs =>
    simp only at hs
    have hpl : fs.toList.mapM (fun f => (x.P.info? f.type).map (fun i => (f.offset, i.size))) = some pl := by
      rw [← Array.toArray_toList (xs := fs), List.mapM_toArray] at hs
      cases hm : fs.toList.mapM (fun f => (x.P.info? f.type).map (fun i => (f.offset, i.size))) with
      | none => simp [hm] at hs
      | some q => simp [hm] at hs; rw [hs]
    have hrun := run_places (P := x.P) (fs := fs) (w := w) fs.toList pl hpl
    have hfs : (fs.mapM (fun f => do pure (f.offset, ← sizeOf f.type) : Field → Sem (Nat × Nat))).run x.P w = .ok pl.toArray w := by
      rw [← Array.toArray_toList (xs := fs), List.mapM_toArray]
      rw [Sem.run_map, hrun]; rfl
    have hpe := parts_eval he parts vals hv
    have hfill := fill_K (place := fun i => pl.toArray[i]?) (pl := pl) (fun i => by simp) vals z r hr
    have hparts : (parts.toArray.map fun (p : Nat × Operand) => (p.1, a.eval p.2)).toList = vals := by simpa using hpe
    simp only [execOp, Instr.build, zeroValue, typeInfo, Sem.run_bind, run_program, Result.andThen_ok, hinf, hzz, Sem.run_pure, run_underlying hu, hfs, hzc, hparts, hfill]
  | _ => simp at hs⟩

/-- one element -/
theorem Ef.bs1 {T E sz by_ : Nat} {z : List Value} {q : Operand} {v : Value} {cs : List Value} [st : SliceT x.P T E sz by_] [zt : ZeroT x.P E z] (hq : ev env q = some v) (hc : v.cells = cs.toArray) (hl : cs.length = sz) (hz : z.length = sz) (hsz : Nat.blt 0 sz = true) (hsm : Nat.ble sz 16777216 = true) :
    Ef x env H ⟨dst, .buildSlice T 1 #[(0, q)], ty, pos, aft, gd⟩ (fun v H' => ∃ b, v = .slice (some ⟨b, 0, none⟩) 1 1 ∧ H' = (b, .cells cs.toArray E (0, 0)) :: H) := ⟨fun a w he hi => by
  have hst := st.i
  have hzt := zt.h
  cases hinf : x.P.info? E with
  | none => simp [hinf] at hst
  | some i =>
  simp only [hinf, Option.map_some, Option.some.injEq, Prod.mk.injEq] at hst
  cases hzz : i.zero with
  | none => simp [hinf, hzz] at hzt
  | some zv =>
  have hpos : sz ≠ 0 := by have := Nat.le_of_ble_eq_true hsz; omega
  have hbig : ¬ 16777216 < sz := by have := Nat.le_of_ble_eq_true hsm; omega
  refine yields_of_run (v := .slice (some ⟨w.heap.size, 0, none⟩) 1 1) (w' := w.alloc (.cells cs.toArray E)) ?_ ⟨_, ⟨_, rfl, rfl⟩, hi.alloc _, Same.alloc w _⟩
  have hfill : ∀ c0 : List Value, c0.length = sz → Instr.fill (fun i => some (i * sz, sz)) c0.toArray [(0, v)] = some cs.toArray := fun c0 h0 => by
    rw [fill_one (off := 0) (size := sz) (r := cs) (by simp) (by rw [hc]; simpa using hl)]
    · rfl
    · rw [hc, spliceK_eq]
      simp [h0, hl]
  have hc0 : (Array.range sz).map (zv.cells[· % zv.cells.size]!) = ((List.range sz).map (zv.cells[· % zv.cells.size]!)).toArray := by
    apply Array.ext'; simp
  simp only [execOp, Instr.buildSlice, Sem.run_bind, run_underlying st.h, Result.andThen_ok, sizeOf, typeInfo, run_program, hinf, Sem.run_pure, hst.1, Nat.one_mul]
  rw [if_neg (by simpa using hbig)]
  simp only [Sem.run_pure, Result.andThen_ok, if_neg hpos, zeroValue, typeInfo, Sem.run_bind, run_program, hinf, hzz, List.map_toArray, List.map_cons, List.map_nil, he.eval hq, hc0]
  rw [hfill _ (by simp)]
  simp [newRow]⟩
end
end Go.Sl
