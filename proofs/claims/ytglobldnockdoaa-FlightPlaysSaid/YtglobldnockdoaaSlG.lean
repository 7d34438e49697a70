/- The logic's last rules: what can be read, owned or not: some cells from a place on; a slice of which all can be read; a call that may read all that its caller may. No conditions: laws only. -/
import Derived.Test.YtglobldnockdoaaSlF
namespace Go.Sl
open Go

/-- these cells can be read -/
def Can (F : Nat → Option Obj) (H : HL) (b off : Nat) (vs : List Value) : Prop := ∀ w, In F H w → ∀ j u, vs[j]? = some u → w.cell? ⟨b, off + j, none⟩ = some u
theorem Can.mono {F F' : Nat → Option Obj} {H H' : HL} {b off : Nat} {vs : List Value} (h : Can F H b off vs) (hw : ∀ w, In F' H' w → In F H w) : Can F' H' b off vs := fun w hi => h w (hw w hi)
theorem Can.fr {F : Nat → Option Obj} {H : HL} {b off : Nat} {vs : List Value} {c : Array Value} {T : TypeId} {fr : Nat × Nat} (hf : F b = some (.cells c T fr)) (h : ∀ j u, vs[j]? = some u → c[off + j]? = some u) : Can F H b off vs := fun w hi j u hu => by
  rw [cell_of_row w b _ c T fr (hi.fr b _ hf)]
  exact h j u hu
theorem Can.cut {F : Nat → Option Obj} {H : HL} {b off n : Nat} {vs : List Value} (h : CutAt b off n vs H) : Can F H b off vs := fun w hi j u hu => by
  obtain ⟨l, T', fr, k, hf, hv⟩ := h.foc
  obtain ⟨hr, hle⟩ := cut_eq hv
  rw [cell_of_row w b _ _ T' fr (hf.heap hi)]
  rw [hr, List.getElem?_take] at hu
  split at hu
  · simpa using hu
  · cases hu
theorem Can.sub {F : Nat → Option Obj} {H : HL} {b off : Nat} {vs : List Value} (h : Can F H b off vs) (i n : Nat) : Can F H b (off + i) ((vs.drop i).take n) := fun w hi j u hu => by
  rw [List.getElem?_take] at hu
  split at hu
  · rw [List.getElem?_drop] at hu
    rw [Nat.add_assoc]
    exact h w hi _ u hu
  · cases hu
theorem Can.one {F : Nat → Option Obj} {H : HL} {b off : Nat} {vs : List Value} (h : Can F H b off vs) {i : Nat} {v : Value} (hv : vs[i]? = some v) : Can F H b (off + i) [v] := fun w hi j u hu => by
  cases j with
  | zero => simp at hu; subst hu; exact h w hi i v hv
  | succ j => simp at hu
/-- a slice of which all can be read -/
structure Lst (F : Nat → Option Obj) (H : HL) (sz : Nat) (xs : List Value) (sa : Option Addr) (n c : Nat) : Prop where
  len : xs.length = n * sz
  cap : n ≤ c
  can : 0 < n → ∃ b off, sa = some ⟨b, off, none⟩ ∧ Can F H b off xs
  ok : sa = none → n = 0
theorem Lst.mono {F F' : Nat → Option Obj} {H H' : HL} {sz : Nat} {xs : List Value} {sa : Option Addr} {n c : Nat} (h : Lst F H sz xs sa n c) (hw : ∀ w, In F' H' w → In F H w) : Lst F' H' sz xs sa n c :=
  ⟨h.len, h.cap, fun h0 => let ⟨b, off, h1, h2⟩ := h.can h0; ⟨b, off, h1, h2.mono hw⟩, h.ok⟩
theorem Lst.nil {F : Nat → Option Obj} {H : HL} {sz : Nat} {sa : Option Addr} {c : Nat} : Lst F H sz [] sa 0 c := ⟨by simp, Nat.zero_le _, fun h => by omega, fun _ => rfl⟩
theorem Lst.src {F : Nat → Option Obj} {H : HL} {sz : Nat} {xs : List Value} {sa : Option Addr} {n c : Nat} (h : Lst F H sz xs sa n c) : Src F H (.slice sa n c) n xs := by
  rcases Nat.eq_zero_or_pos n with h0 | h0
  · subst h0
    have hx : xs = [] := List.eq_nil_of_length_eq_zero (by rw [h.len]; simp)
    subst hx
    cases sa with
    | none => exact .inl ⟨c, rfl, rfl, rfl⟩
    | some a => exact .inr ⟨a, c, rfl, fun w hi j u hu => by simp at hu⟩
  · obtain ⟨b, off, rfl, hc⟩ := h.can h0
    exact .inr ⟨_, c, rfl, fun w hi j u hu => by rw [add_lit]; exact hc w hi j u hu⟩
theorem Lst.own {F : Nat → Option Obj} {H : HL} {E sz : Nat} {xs : List Value} {sa : Option Addr} {n c : Nat} {hb : HL} (h : OwnS E sz xs (.slice sa n c) hb) (hw : ∀ w, In F H w → In F hb w) : Lst F H sz xs sa n c := by
  rcases h with ⟨he, rfl, _⟩ | ⟨g, n', cap, pre, spare, post, he, rfl, hl, hc, hsp, hm⟩
  · cases he; exact .nil
  · cases he
    refine ⟨hl, hc, fun _ => ⟨g, pre.length, rfl, fun w hi j u hu => ?_⟩, fun h => by cases h⟩
    have hj : j < xs.length := (List.getElem?_eq_some_iff.1 hu).1
    have hg := (hw w hi).own _ (List.mem_cons_self ..)
    rw [cell_of_row w g _ _ E _ hg]
    simp only [List.getElem?_toArray, List.append_assoc]
    rw [List.getElem?_append_right (by omega), Nat.add_sub_cancel_left, List.getElem?_append_left hj]
    exact hu

section
variable {x : Cx} {env : Env} {H : HL} {dst : Option Tmp} {ty : TypeId} {pos : String} {aft : Array Edge} {gd : Option (Nat × Bool)}

theorem Rd.ldC {T : TypeId} {p : Operand} {b off : Nat} {v : Value} [sc : ScalT x.P T] (hp : ev env p = some (.pointer (some ⟨b, off, none⟩))) (hc : Can x.F H b off [v]) : Rd x env H ⟨dst, .load T p, ty, pos, aft, gd⟩ v := ⟨fun a w he hi => by
  have hcell : w.cell? ⟨b, off, none⟩ = some v := by have := hc w hi 0 v rfl; simpa using this
  simp [execOp, he.eval hp, Instr.loadAt, Instr.sureAddr, run_loadVar_scal sc.h hcell]⟩
theorem Rd.ldaC {T n : TypeId} {p : Operand} {b off : Nat} {r : List Value} [ag : AggT x.P T n] (hp : ev env p = some (.pointer (some ⟨b, off, none⟩))) (hl : r.length = n) (hc : Can x.F H b off r) : Rd x env H ⟨dst, .load T p, ty, pos, aft, gd⟩ (.agg r.toArray) := ⟨fun a w he hi => by
  have hload : (loadVar T ⟨b, off, none⟩).run x.P w = .ok (.agg r.toArray) w := by
    obtain ⟨i, hi2, hs⟩ := aggS_info ag.h
    have hl2 := run_loadCells_list (P := x.P) w ⟨b, off, none⟩ r (fun j v hv => by rw [add_lit]; exact hc w hi j v hv)
    rw [hl] at hl2
    unfold loadVar
    simp [run_isAgg_agg ag.h w, sizeOf, typeInfo, hi2, hs, hl2]
  simp [execOp, he.eval hp, Instr.loadAt, Instr.sureAddr, hload]⟩

/-- what a callee may read: all that its caller may -/
theorem addF_in {F : Nat → Option Obj} {Hr : HL} (hd : ∀ p ∈ Hr, F p.1 = none) {w : World} (h : In (addF F Hr) [] w) : In F [] w :=
  ⟨by simp, (fun _ h => by cases h), fun b o hb => h.fr b o (addF_ro hd hb), (fun _ h => by cases h)⟩
theorem Ef.callF {f : FuncId} {args : List Operand} {tys : Array TypeId} {vals : List Value} {c Hr : HL} {R : Value → HL → Prop} [bd : Body x.P f] (hargs : args.map (ev env) = vals.map some) (hs : Sub c H Hr)
    (tr : (∀ p ∈ Hr, x.F p.1 = none) → Tr x.P f vals.toArray (addF x.F Hr) c R) : Ef x env H ⟨dst, .call ⟨.value (.func f), args.toArray, tys⟩, ty, pos, aft, gd⟩ (fun v H' => ∃ H1, R v H1 ∧ H' = H1 ++ Hr) := ⟨fun a w he hi =>
  (Ef.call (dst := dst) (tys := tys) (ty := ty) (pos := pos) (aft := aft) (gd := gd) hargs hs (tr (fun p hp => hi.dj p (hs.perm'.mem_iff.2 (List.mem_append_right _ hp))))).run a w he hi⟩
theorem Ef.callFR {f : FuncId} {args : List Operand} {tys : Array TypeId} {vals : List Value} {c Hr : HL} {R : Value → Prop} [bd : Body x.P f] (hargs : args.map (ev env) = vals.map some) (hs : Sub c H Hr)
    (tr : (∀ p ∈ Hr, x.F p.1 = none) → Tr x.P f vals.toArray (addF x.F Hr) c (fun v H' => R v ∧ H' = c)) : Ef x env H ⟨dst, .call ⟨.value (.func f), args.toArray, tys⟩, ty, pos, aft, gd⟩ (fun v H' => R v ∧ H' = H) := ⟨fun a w he hi =>
  (Ef.callR (dst := dst) (tys := tys) (ty := ty) (pos := pos) (aft := aft) (gd := gd) hargs hs (tr (fun p hp => hi.dj p (hs.perm'.mem_iff.2 (List.mem_append_right _ hp))))).run a w he hi⟩
end
end Go.Sl
