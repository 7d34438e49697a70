/- The logic's rule for copy into a slice that is owned (elements of one cell), and a made slice as an owned one. No conditions: laws only. -/
import Derived.Test.YtglobldnockdoaaSlK
namespace Go.Sl
open Go
theorem OwnS.made (E : Nat) (z : Value) (b n : Nat) (h : n ≤ maxLen) : OwnS E 1 (mkCells [z] n) (.slice (some ⟨b, 0, none⟩) n n) [(b, .cells (mkCells [z] n).toArray E (0, 0))] :=
  .inr ⟨b, n, n, [], [], [], rfl, by simp, by rw [length_mkCells]; simp, Nat.le_refl _, by simp, h⟩
theorem OwnS.can {E : Nat} {F : Nat → Option Obj} {H : HL} {xs : List Value} {sa : Option Addr} {sn sc : Nat} {hb : HL} (h : OwnS E 1 xs (.slice sa sn sc) hb) (hw : ∀ w, In F H w → In F hb w) :
    (sa = none ∧ sn = 0 ∧ sc = 0) ∨ ∃ a, sa = some a ∧ ∀ w, In F H w → ∀ j u, xs[j]? = some u → w.cell? (a.add j) = some u := by
  rcases h with ⟨he, rfl, _⟩ | ⟨g, n, cap, pre, spare, post, he, rfl, hl, hc, hsp, hm⟩
  · cases he; exact .inl ⟨rfl, rfl, rfl⟩
  · cases he
    refine .inr ⟨_, rfl, fun w hi j u hu => ?_⟩
    have hj : j < xs.length := (List.getElem?_eq_some_iff.1 hu).1
    have hg := (hw w hi).own _ (List.mem_cons_self ..)
    rw [add_lit, cell_of_row w g _ _ E _ hg]
    simp only [List.getElem?_toArray, List.append_assoc]
    rw [List.getElem?_append_right (by omega), Nat.add_sub_cancel_left, List.getElem?_append_left hj]
    exact hu
section
variable {x : Cx} {env : Env} {H : HL} {dst : Option Tmp} {ty : TypeId} {pos : String} {aft : Array Edge} {gd : Option (Nat × Bool)}
theorem Ef.cpy {T T' E by_ : Nat} {p q : Operand} {xs cs : List Value} {g o n c sn sc : Nat} {sa : Option Addr} {hb hs Hr : HL} [st : SliceT x.P T E 1 by_]
    (hp : ev env p = some (.slice (some ⟨g, o, none⟩) n c)) (hq : ev env q = some (.slice sa sn sc)) (hown : OwnS E 1 xs (.slice (some ⟨g, o, none⟩) n c) hb) (hsub : Sub hb H Hr)
    (hsrc : OwnS E 1 cs (.slice sa sn sc) hs) (hw : ∀ w, In x.F H w → In x.F hs w) (hle : n ≤ sn) (h1 : ∀ u ∈ cs, u.oneCell' = true) :
    Ef x env H ⟨dst, .call ⟨.builtin .copy, #[p, q], #[T, T']⟩, ty, pos, aft, gd⟩ (fun v' H' => v' = .int .i64 n ∧ ∃ hb', OwnS E 1 (cs.take n) (.slice (some ⟨g, o, none⟩) n c) hb' ∧ H' = hb' ++ Hr) := ⟨fun a w he hi => by
  have hperm := hi.perm hsub.perm'
  obtain ⟨i, hinf, hsz, _⟩ := info_sl st
  have hl1 : xs.length = n := by have := hown.len; omega
  have hl2 : cs.length = sn := by have := hsrc.len; omega
  obtain ⟨hb', hown', hput⟩ := OwnS.put hown 0 (cs.take n) (by rw [List.length_take]; omega)
  have hnew : xs.take 0 ++ cs.take n ++ xs.drop (0 + (cs.take n).length) = cs.take n := by
    rw [List.drop_eq_nil_of_le (by rw [List.length_take]; omega)]; simp
  rw [hnew] at hown'
  rcases hsrc.can hw with ⟨rfl, rfl, rfl⟩ | ⟨a2, rfl, hrd⟩
  · have hn : n = 0 := by omega
    subst hn
    have hx0 : xs = [] := List.eq_nil_of_length_eq_zero hl1
    subst hx0
    have hc0 : cs = [] := List.eq_nil_of_length_eq_zero hl2
    subst hc0
    have hrun := run_copy_nil (P := x.P) w T T' ty E ⟨g, o, none⟩ 0 c st.h (by rw [hinf]; rfl)
    refine yields_of_run (v := .int .i64 0) (w' := w) ?_ ⟨hb ++ Hr, ⟨rfl, hb, hown, rfl⟩, hperm, Same.refl _⟩
    simp only [execOp, resolve, invoke, builtin, List.map_toArray, List.map_cons, List.map_nil, he.eval hp, he.eval hq, Sem.run_bind, Sem.run_pure, Result.andThen_ok, hrun]
    rfl
  · obtain ⟨l, r, T2, k, hf, hspl, rfl⟩ := hput.foc
    have hin : In x.F hb w := hperm.left
    have hg := hf.heap hin
    obtain ⟨hr, hfit⟩ := splice_eq hspl
    have hrun := run_copy_row (P := x.P) w T T' ty E g o n c a2 sn sc l.toArray T2 (cs.take n) st.h (by rw [hinf]; simp [hsz]) hg
      (by rw [List.length_take, hl2]; exact (Nat.min_comm _ _))
      (fun j v hv => hrd w hi j v (by
        have hj : j < (cs.take n).length := (List.getElem?_eq_some_iff.1 hv).1
        rw [List.length_take] at hj
        rw [List.getElem?_take, if_pos (by omega)] at hv
        exact hv))
      (by simpa using hfit) (fun v hv => h1 v (List.mem_of_mem_take hv))
    have hcl : (cs.take n).length = n := by rw [List.length_take]; omega
    have hrr : (l.take o ++ cs.take n ++ l.drop (o + (cs.take n).length)) = r := by rw [hr]; simp
    simp only [] at hrun
    rw [hrr, hcl] at hrun
    have hupd : Upd w (w.setRow g r.toArray) g (.cells r.toArray T2 (0, 0)) := Upd.setRow hg
    refine yields_of_run (v := .int .i64 n) (w' := w.setRow g r.toArray) ?_ ⟨k (.cells r.toArray T2 (0, 0)) ++ Hr, ⟨rfl, _, hown', rfl⟩, hperm.upd (Foc.left hf) hupd, hupd.same⟩
    simp only [execOp, resolve, invoke, builtin, List.map_toArray, List.map_cons, List.map_nil, he.eval hp, he.eval hq, Sem.run_bind, Sem.run_pure, Result.andThen_ok, hrun]
    rfl⟩
end
end Go.Sl
