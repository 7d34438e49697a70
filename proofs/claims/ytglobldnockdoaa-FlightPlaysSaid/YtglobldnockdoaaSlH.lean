/- The logic's rules for writing into a slice that is owned. No conditions: laws only. -/
import Derived.Test.YtglobldnockdoaaSlG
namespace Go.Sl
open Go

theorem OwnS.addr {E sz : Nat} {xs : List Value} {sa : Option Addr} {n c : Nat} {hb : HL} (h : OwnS E sz xs (.slice sa n c) hb) (h0 : 0 < n) : ∃ g o, sa = some ⟨g, o, none⟩ := by
  rcases h with ⟨he, _⟩ | ⟨g', n', cap, pre, spare, post, he, rfl, hl, hc, hsp, hm⟩
  · cases he; omega
  · cases he; exact ⟨_, _, rfl⟩
/-- some cells of an owned slice are written -/
theorem OwnS.put {E sz : Nat} {xs : List Value} {g o n c : Nat} {hb : HL} (h : OwnS E sz xs (.slice (some ⟨g, o, none⟩) n c) hb) (k : Nat) (vs : List Value) (hk : k + vs.length ≤ xs.length) :
    ∃ hb', OwnS E sz (xs.take k ++ vs ++ xs.drop (k + vs.length)) (.slice (some ⟨g, o, none⟩) n c) hb' ∧ PutAt g (o + k) vs hb hb' := by
  rcases h with ⟨he, _⟩ | ⟨g', n', cap, pre, spare, post, he, rfl, hl, hc, hsp, hm⟩
  · cases he
  · cases he
    refine ⟨[(g, .cells (pre ++ (xs.take k ++ vs ++ xs.drop (k + vs.length)) ++ spare ++ post).toArray E (0, 0))], .inr ⟨g, n, c, pre, spare, post, rfl, rfl, ?_, hc, hsp, hm⟩, .here ?_⟩
    · simp only [List.length_append, List.length_take, List.length_drop]; omega
    · rw [spliceK_eq, if_pos (by simp only [List.length_append]; omega)]
      have e1 : (pre ++ xs ++ spare ++ post).take (pre.length + k) = pre ++ xs.take k := by
        rw [List.append_assoc, List.append_assoc, List.take_length_add_append, List.take_append_of_le_length (by omega)]
      have e2 : (pre ++ xs ++ spare ++ post).drop (pre.length + k + vs.length) = xs.drop (k + vs.length) ++ spare ++ post := by
        rw [List.append_assoc, List.append_assoc, Nat.add_assoc, List.drop_length_add_append, List.drop_append_of_le_length (by omega), List.append_assoc]
      rw [e1, e2]
      simp
theorem OwnS.len {E sz : Nat} {xs : List Value} {sa : Option Addr} {n c : Nat} {hb : HL} (h : OwnS E sz xs (.slice sa n c) hb) : xs.length = n * sz := by
  rcases h with ⟨he, rfl, _⟩ | ⟨g', n', cap, pre, spare, post, he, rfl, hl, hc, hsp, hm⟩
  · cases he; simp
  · cases he; exact hl
/-- a cell of an owned slice -/
theorem OwnS.cell {E sz : Nat} {xs : List Value} {g o n c : Nat} {hb : HL} (h : OwnS E sz xs (.slice (some ⟨g, o, none⟩) n c) hb) {k : Nat} {v : Value} (hv : xs[k]? = some v) : CellAt g (o + k) v hb := by
  rcases h with ⟨he, _⟩ | ⟨g', n', cap, pre, spare, post, he, rfl, hl, hc, hsp, hm⟩
  · cases he
  · cases he
    refine .here ?_
    have hk : k < xs.length := (List.getElem?_eq_some_iff.1 hv).1
    rw [List.append_assoc, List.append_assoc, List.getElem?_append_right (by omega), Nat.add_sub_cancel_left, List.getElem?_append_left hk]
    exact hv
/-- some cells of an owned slice -/
theorem OwnS.cut {E sz : Nat} {xs : List Value} {g o n c : Nat} {hb : HL} (h : OwnS E sz xs (.slice (some ⟨g, o, none⟩) n c) hb) {k m : Nat} {vs : List Value} (hv : (xs.drop k).take m = vs) (hk : k + m ≤ xs.length) : CutAt g (o + k) m vs hb := by
  rcases h with ⟨he, _⟩ | ⟨g', n', cap, pre, spare, post, he, rfl, hl, hc, hsp, hm⟩
  · cases he
  · cases he
    refine .here ?_
    unfold Sl.cut
    rw [dropK_eq, if_pos (by simp only [List.length_append]; omega), takeK_eq, if_pos (by simp only [List.length_append, List.length_drop]; omega)]
    rw [List.append_assoc, List.append_assoc, List.drop_length_add_append, List.drop_append_of_le_length (by omega), List.take_append_of_le_length (by simp; omega), hv]
section
variable {x : Cx} {env : Env} {H : HL} {dst : Option Tmp} {ty : TypeId} {pos : String} {aft : Array Edge} {gd : Option (Nat × Bool)}
/-- what the frame bears can be read, whatever is owned -/
theorem Can.any {F : Nat → Option Obj} {H : HL} {b off : Nat} {vs : List Value} (h : Can F [] b off vs) : Can F H b off vs := h.mono (fun _ h => h.sublist (List.nil_sublist _))
theorem Lst.any {F : Nat → Option Obj} {H : HL} {sz : Nat} {xs : List Value} {sa : Option Addr} {n c : Nat} (h : Lst F [] sz xs sa n c) : Lst F H sz xs sa n c := h.mono (fun _ h => h.sublist (List.nil_sublist _))
theorem Rd.ldC0 {T : TypeId} {p : Operand} {b off : Nat} {v : Value} [sc : ScalT x.P T] (hp : ev env p = some (.pointer (some ⟨b, off, none⟩))) (hc : Can x.F [] b off [v]) : Rd x env H ⟨dst, .load T p, ty, pos, aft, gd⟩ v := Rd.ldC hp hc.any
theorem Rd.ldaC0 {T n : TypeId} {p : Operand} {b off : Nat} {r : List Value} [ag : AggT x.P T n] (hp : ev env p = some (.pointer (some ⟨b, off, none⟩))) (hc : Can x.F [] b off r) (hl : r.length = n) : Rd x env H ⟨dst, .load T p, ty, pos, aft, gd⟩ (.agg r.toArray) := Rd.ldaC hp hl hc.any
end
/-- the cells of one element of a slice of which all can be read -/
theorem Lst.el {F : Nat → Option Obj} {H : HL} {sz : Nat} {α : Type} {cells : α → List Value} {l : List α} {sa : Option Addr} {n c : Nat} (h : Lst F H sz (l.flatMap cells) sa n c) (hc : ∀ a, (cells a).length = sz) {i : Nat} {a : α} (ha : l[i]? = some a) (h0 : 0 < n) :
    ∃ b off, sa = some ⟨b, off, none⟩ ∧ Can F H b (off + (i : Int).toNat * sz) (cells a) := by
  obtain ⟨b, off, rfl, hcan⟩ := h.can h0
  refine ⟨b, off, rfl, ?_⟩
  have hs := hcan.sub (i * sz) sz
  have : ((l.flatMap cells).drop (i * sz)).take sz = cells a := by
    clear hs hcan h h0
    induction l generalizing i with
    | nil => simp at ha
    | cons x l ih =>
      cases i with
      | zero => simp at ha; subst ha; simp [hc]
      | succ i =>
        simp at ha
        rw [List.flatMap_cons, Nat.succ_mul, Nat.add_comm, ← hc x, List.drop_length_add_append, hc x]
        exact ih ha
  rw [this] at hs
  simpa using hs

end Go.Sl
