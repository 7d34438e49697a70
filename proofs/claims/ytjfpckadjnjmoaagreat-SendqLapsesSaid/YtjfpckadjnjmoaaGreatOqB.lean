/- A queue of messages in memory, and its methods but 'Expire', walked: they answer as the plain functions do. Conditions: it is well formed. -/
import Derived.Test.YtjfpckadjnjmoaaGreatBa
import Derived.Test.YtjfpckadjnjmoaaGreatFlD
import Derived.Test.YtjfpckadjnjmoaaGreatPaB
import Derived.Test.YtjfpckadjnjmoaaGreatBc
import Derived.Test.YtjfpckadjnjmoaaGreatSlV
namespace Go.Proofs.YtjfpckadjnjmoaaGreat
open Go Go.Sl Go.Oq

structure ItM where
  b : Nat
  it : It
  ba : Option Addr
  bn : Nat
  bc : Nat
  bb : HL
def ItM.cells (m : ItM) : List Value := [.int .u16 m.it.stream, .bool m.it.ord, .slice m.ba m.bn m.bc, .int .i64 m.it.id, .int .i64 m.it.til, .int .i64 m.it.at_, .int .u16 m.it.ssn]
def ItM.H (m : ItM) : HL := (m.b, .cells m.cells.toArray 141 (0, 0)) :: m.bb
def ItM.own (m : ItM) : Prop := OwnS 5 1 (m.it.bs.map B) (.slice m.ba m.bn m.bc) m.bb
theorem ItM.own.len {m : ItM} (h : m.own) : m.bn = m.it.bs.length := by have := OwnS.len h; simp at this; omega
structure OqM where
  R : Nat
  is : List ItM
  ia : Option Addr
  in_ : Nat
  ic : Nat
  ib : HL
  many : Int
  room : Int
  used : Int
  ns : List Int
  na : Option Addr
  nn : Nat
  nc : Nat
  nb : HL
def OqM.cells (o : OqM) : List Value := [.slice o.ia o.in_ o.ic, .int .i64 o.many, .int .i64 o.room, .int .i64 o.used, .slice o.na o.nn o.nc]
def OqM.H (o : OqM) : HL := (o.R, .cells o.cells.toArray 122 (0, 0)) :: (o.ib ++ (o.nb ++ o.is.flatMap ItM.H))
def OqM.S (o : OqM) : Oq.S := ⟨o.is.map (·.it), o.many, o.room, o.used, o.ns⟩
structure OqM.ok (o : OqM) : Prop where
  own : ∀ m ∈ o.is, m.own
  items : OwnS 139 1 (o.is.map (fun m => ptr m.b)) (.slice o.ia o.in_ o.ic) o.ib
  nums : OwnS 33 1 (o.ns.map (Value.int .u16)) (.slice o.na o.nn o.nc) o.nb
  pl : Oq.Ok o.S
  few : o.is.length ≤ 1000000
theorem OqM.ok.inl {o : OqM} (h : o.ok) : o.in_ = o.is.length := by have := OwnS.len h.items; simp at this; omega
theorem OqM.ok.nnl {o : OqM} (h : o.ok) : o.nn = o.ns.length := by have := OwnS.len h.nums; simp at this; omega

theorem made_u16 (k : Nat) : (List.replicate k (0 : Int)).map (Value.int .u16) = mkCells [.int .u16 0] k := by
  induction k with
  | zero => rfl
  | succ k ih => rw [List.replicate_succ, List.map_cons, ih]; rfl
theorem onew_tr (F : Nat → Option Obj) (n r : Int) : Tr Tryz.prog 20 [.int .i64 n, .int .i64 r].toArray F [] (fun v H =>
    (may n r = false ∧ v = tup [.pointer none, .int .i64 1] ∧ H = []) ∨ (may n r = true ∧ ∃ o : OqM, o.ok ∧ v = tup [ptr o.R, .int .i64 0] ∧ H = o.H ∧ o.S = new n r)) := by
  refine Tr.enter Tryz.func20 rfl Tryz.ntmps20 rfl (fun w0 => ?_)
  repeat' (first | refine S2b ?_ | refine SD ?_ | refine SA (fun _ => ?_) | refine G1 (fun hc => ?_) (fun hc => ?_) | refine G2 (fun hc => ?_) (fun hc => ?_) | refine G3 (fun hc => ?_) (fun hc => ?_))
  rotate_right
  · simp only [decide_eq_false_iff_not] at *
    have hm : may n r = true := decide_eq_true (by omega)
    obtain ⟨k, rfl⟩ : ∃ k : Nat, n = k := ⟨n.toNat, by omega⟩
    refine WL.e rfl (Ef.mkS (n := k) (by exact rfl) (by exact rfl) rfl rfl (by omega) (by omega)) ?_
    rintro _ _ ⟨bn, rfl, rfl⟩
    repeat' (first | refine S2b ?_ | refine SD ?_ | refine SA (fun _ => ?_) | refine G1 (fun hc => ?_) (fun hc => ?_) | refine G2 (fun hc => ?_) (fun hc => ?_) | refine G3 (fun hc => ?_) (fun hc => ?_))
    rename_i R
    have ho : (⟨R, [], none, 0, 0, [], 0, r, 0, List.replicate k 0, some ⟨bn, 0, none⟩, k, k, [(bn, .cells (mkCells [.int .u16 0] k).toArray 33 (0, 0))]⟩ : OqM).S = new k r := by unfold OqM.S new; rw [Int.toNat_natCast]; rfl
    refine Fin.retW (by exact rfl) resA (fun _ h => h) (.inr ⟨hm, ⟨R, [], none, 0, 0, [], 0, r, 0, List.replicate k 0, some ⟨bn, 0, none⟩, k, k, [(bn, .cells (mkCells [.int .u16 0] k).toArray 33 (0, 0))]⟩, ⟨by simp, .inl ⟨rfl, rfl, rfl⟩, ?_, by rw [ho]; exact new_ok hm, Nat.zero_le _⟩, rfl, rfl, ho⟩)
    dsimp only
    rw [made_u16]
    exact OwnS.made _ _ _ _ (by unfold maxLen; omega)
  all_goals
    have hm : may n r = false := decide_eq_false (by have := of_decide_eq_true hc; omega)
    exact Fin.retW (by exact rfl) resA (fun _ h => h) (.inl ⟨hm, rfl, rfl⟩)
theorem oleft_tr (F : Nat → Option Obj) (m : ItM) (hl : m.bn = m.it.bs.length) (hm : m.it.at_ ≤ m.it.bs.length) (hb : m.it.bs.length ≤ 1000000000000) (hc : Sl.Can F [] m.b 0 m.cells) : Tr Tryz.prog 50 [ptr m.b].toArray F [] (fun v H => v = .int .i64 (left m.it) ∧ H = []) := by
  refine Tr.enter Tryz.func50 rfl Tryz.ntmps50 rfl (fun w0 => ?_)
  have h2 : Sl.Can F [] m.b (0 + 0 + 2) [.slice m.ba m.bn m.bc] := hc.one (i := 2) rfl
  have h5 : Sl.Can F [] m.b (0 + 5) [.int .i64 m.it.at_] := hc.one (i := 5) rfl
  repeat' (first | refine S2b ?_ | refine SD ?_ | refine SA (fun _ => ?_) | refine G1 (fun hc => ?_) (fun hc => ?_) | refine G2 (fun hc => ?_) (fun hc => ?_) | refine G3 (fun hc => ?_) (fun hc => ?_))
  rw [i64_id (by omega) (by omega)]
  exact Fin.retW (by exact rfl) resA (fun _ h => h) ⟨by unfold left; rw [hl]; show Value.int .i64 _ = Value.int .i64 _; congr 1; omega, rfl⟩
theorem ofree_tr (F : Nat → Option Obj) (o : OqM) (ho : o.ok) (n : Int) : Tr Tryz.prog 45 [ptr o.R, .int .i64 n].toArray F o.H (fun v H => v = .tuple #[] ∧ ∃ o' : OqM, o'.ok ∧ H = o'.H ∧ o'.R = o.R ∧ o'.S = free o.S n ∧ o'.is = o.is) := by
  refine Tr.enter Tryz.func45 rfl Tryz.ntmps45 rfl (fun w0 => ?_)
  have h1 := ho.pl.room; have h2 := ho.pl.used
  dsimp only [OqM.S] at h1 h2
  unfold OqM.H OqM.cells
  repeat' (first | refine S2b ?_ | refine SD ?_ | refine SA (fun _ => ?_) | refine G1 (fun hc => ?_) (fun hc => ?_) | refine G2 (fun hc => ?_) (fun hc => ?_) | refine G3 (fun hc => ?_) (fun hc => ?_))
  simp (disch := omega) only [i64_id, Int.tdiv_eq_ediv_of_nonneg, Go.Pth.go_mx, Go.Pth.go_mn]
  exact Fin.endW (by exact rfl) resA (fun _ h => h) ⟨rfl, { o with used := o.used - Pth.mn (Pth.mx n 0) o.used }, ⟨ho.own, ho.items, ho.nums, free_ok ho.pl n, ho.few⟩, rfl, rfl, rfl, rfl⟩
theorem flat_sub {α : Type} (f : α → HL) {l : List α} {a : α} (h : a ∈ l) : (f a).Sublist (l.flatMap f) := by
  induction l with
  | nil => cases h
  | cons b l ih =>
    rw [List.flatMap_cons]
    rcases List.mem_cons.1 h with rfl | h
    · exact List.sublist_append_left _ _
    · exact (ih h).trans (List.sublist_append_right _ _)
theorem item_can {F : Nat → Option Obj} {m : ItM} : Sl.Can F m.H m.b 0 m.cells := Can.cut (n := 7) (.here rfl)
theorem OqM.item {F : Nat → Option Obj} {o : OqM} {m : ItM} (h : m ∈ o.is) : Sl.Can F o.H m.b 0 m.cells :=
  item_can.mono (fun _ hi => hi.sublist (.cons _ (((flat_sub ItM.H h).trans (List.sublist_append_right o.nb _)).trans (List.sublist_append_right o.ib _))))
/-- an element of a row that is owned -/
theorem own_el {α : Type} {v : α → Value} {E : Nat} {l : List α} {sa : Option Addr} {n c : Nat} {hb : HL} (h : OwnS E 1 (l.map v) (.slice sa n c) hb) {i : Nat} {a : α} (hi : l[i]? = some a) :
    ∃ b off, sa = some ⟨b, off, none⟩ ∧ i < n ∧ ∀ F : Nat → Option Obj, Sl.Can F hb b (off + (i : Int).toNat * 1) [v a] := by
  have hlt := (List.getElem?_eq_some_iff.1 hi).1
  have hn : n = l.length := by have := OwnS.len h; simp at this; omega
  obtain ⟨b, off, rfl⟩ := OwnS.addr h (by omega)
  refine ⟨b, off, rfl, by omega, fun F => ?_⟩
  have hv : (l.map v)[i]? = some (v a) := by rw [List.getElem?_map, hi]; rfl
  have hL := Lst.own (F := F) h (fun _ hh => hh)
  obtain ⟨b', off', he, hcan⟩ := hL.can (by omega)
  cases he
  have := hcan.one hv
  rw [show ((i : Nat) : Int).toNat * 1 = i by omega]
  exact this
theorem OqM.ptrAt {o : OqM} (ho : o.ok) {i : Nat} {m : ItM} (hi : o.is[i]? = some m) : ∃ b off, o.ia = some ⟨b, off, none⟩ ∧ i < o.in_ ∧ ∀ F : Nat → Option Obj, Sl.Can F o.ib b (off + (i : Int).toNat * 1) [ptr m.b] := own_el ho.items hi
theorem OqM.it {o : OqM} (ho : o.ok) {m : ItM} (hm : m ∈ o.is) : m.it.Ok ∧ m.it.stream < o.ns.length ∧ m.bn = m.it.bs.length := by
  have h := ho.pl.its m.it (List.mem_map.2 ⟨m, hm, rfl⟩)
  exact ⟨h.1, h.2, (ho.own m hm).len⟩
theorem osize_tr (F : Nat → Option Obj) (o : OqM) (ho : o.ok) : Tr Tryz.prog 99 [ptr o.R].toArray F o.H (fun v H => v = .int .i64 (Oq.size o.S) ∧ H = o.H) := by
  refine Tr.enter Tryz.func99 rfl Tryz.ntmps99 rfl (fun w0 => ?_)
  have hl := ho.inl
  cases hs : o.is with
  | nil =>
    rw [hs] at hl
    have e : Oq.size o.S = 0 := by unfold OqM.S Oq.size; rw [hs]; rfl
    rw [e]
    unfold OqM.H OqM.cells
    rw [hl]
    repeat' (first | refine S2b ?_ | refine SD ?_ | refine SA (fun _ => ?_) | refine G1 (fun hc => ?_) (fun hc => ?_) | refine G2 (fun hc => ?_) (fun hc => ?_) | refine G3 (fun hc => ?_) (fun hc => ?_))
    exact Fin.retW (by exact rfl) resA (fun _ h => h) ⟨rfl, rfl⟩
  | cons m r =>
    have hm : m ∈ o.is := by rw [hs]; exact List.mem_cons_self
    obtain ⟨h1, h2, h3⟩ := OqM.it ho hm
    have h4 := h1.at_; have h5 := h1.size
    obtain ⟨b, off, hia, hlt, hcan⟩ := OqM.ptrAt ho (i := 0) (m := m) (by rw [hs]; rfl)
    have hcan := hcan F
    have e : Oq.size o.S = left m.it := by unfold OqM.S Oq.size; rw [hs]; rfl
    rw [e]
    have hne : ((o.in_ : Int) == 0) = false := by simp; omega
    have hia0 : 0 ≤ (0 : Int) ∧ (0 : Int) < o.in_ := by omega
    unfold OqM.H OqM.cells
    rw [hia]
    repeat' (first | refine S2b ?_ | refine SD ?_ | refine SA (fun _ => ?_) | refine G1 (fun hc => ?_) (fun hc => ?_) | refine G2 (fun hc => ?_) (fun hc => ?_) | refine G3 (fun hc => ?_) (fun hc => ?_) | refine SL ?_ | fail)
    · exfalso; rw [hne] at hc; cases hc
    refine WL.e rfl (Ef.lookR (by exact rfl) (fun F' hF => oleft_tr F' m h3 (by omega) (by omega) (item_can.mono (fun w h => (hF w h).sublist (.cons _ (((flat_sub ItM.H hm).trans (List.sublist_append_right o.nb _)).trans (List.sublist_append_right o.ib _))))))) ?_
    rintro _ _ ⟨rfl, rfl⟩
    repeat' (first | refine S2b ?_ | refine SD ?_ | refine SA (fun _ => ?_) | refine G1 (fun hc => ?_) (fun hc => ?_) | refine G2 (fun hc => ?_) (fun hc => ?_) | refine G3 (fun hc => ?_) (fun hc => ?_) | refine SL ?_ | fail)
    exact Fin.retW (by exact rfl) resA (fun _ h => h) ⟨rfl, rfl⟩
theorem sum_snoc {α : Type} {f : α → Nat} {l : List α} {i : Nat} {a : α} (h : l[i]? = some a) : ((l.take (i + 1)).map f).sum = ((l.take i).map f).sum + f a := by
  rw [List.take_add_one, h]
  simp
theorem sum_most {α : Type} {f : α → Nat} {b : Nat} {l : List α} (i : Nat) (h : ∀ a ∈ l, f a ≤ b) : ((l.take i).map f).sum ≤ b * i := by
  induction i with
  | zero => simp
  | succ i ih =>
    cases hm : l[i]? with
    | none =>
      rw [List.take_add_one, hm, Nat.mul_succ]
      simp only [Option.toList_none, List.append_nil]
      omega
    | some a =>
      have := h a (List.mem_of_getElem? hm)
      rw [sum_snoc hm, Nat.mul_succ]
      omega
structure GW where
  i : Nat
theorem owait_tr (F : Nat → Option Obj) (o : OqM) (ho : o.ok) : Tr Tryz.prog 24 [ptr o.R].toArray F o.H (fun v H => v = .int .i64 (Oq.waiting o.S) ∧ H = o.H) := by
  refine Tr.enter Tryz.func24 rfl Tryz.ntmps24 rfl (fun w0 => ?_)
  have hl := ho.inl
  have hfew := ho.few
  unfold OqM.H OqM.cells
  repeat' (first | refine S2b ?_ | refine SD ?_ | refine SA (fun _ => ?_) | refine G1 (fun hc => ?_) (fun hc => ?_) | refine G2 (fun hc => ?_) (fun hc => ?_) | refine G3 (fun hc => ?_) (fun hc => ?_) | refine SL ?_ | fail)
  have hsum := fun i => sum_most (f := fun m : ItM => left m.it) (b := 1048576) (l := o.is) i (fun m hm => by have h5 := (OqM.it ho hm).1.size; unfold left; omega)
  refine W.loop (G := GW) (fun g => [(11, .slice o.ia o.in_ o.ic), (12, .int .i64 o.in_), (13, .int .i64 g.i), (3, .int .i64 ((o.is.take g.i).map (fun m => left m.it)).sum)]) (fun _ => o.H) (fun g => g.i ≤ o.in_) (fun g => o.in_ - g.i) ⟨0⟩ (Nat.zero_le _) envA (fun _ h => h) ?_
  rintro ⟨i⟩ hi
  dsimp only at hi ⊢
  repeat' (first | refine S2b ?_ | refine SD ?_ | refine SA (fun _ => ?_) | refine G1 (fun hc => ?_) (fun hc => ?_) | refine G2 (fun hc => ?_) (fun hc => ?_) | refine G3 (fun hc => ?_) (fun hc => ?_) | refine SL ?_ | fail)
  · have hi' : i < o.in_ := by have := of_decide_eq_true hc; omega
    obtain ⟨m, hm⟩ : ∃ m, o.is[i]? = some m := ⟨o.is[i]'(by omega), by simp⟩
    obtain ⟨h1, h2, h3⟩ := OqM.it ho (List.mem_of_getElem? hm)
    have h4 := h1.at_; have h5 := h1.size
    obtain ⟨b, off, hia, hlt, hcan⟩ := OqM.ptrAt ho hm
    have hcan := (hcan F).mono (F' := F) (H' := o.H) (fun _ h => h.sublist (.cons _ (List.sublist_append_left _ _)))
    have hia0 : 0 ≤ (i : Int) ∧ (i : Int) < o.in_ := by omega
    have hs1 := hsum i
    have hs2 := sum_snoc (f := fun m : ItM => left m.it) hm
    rw [hia]
    repeat' (first | refine S2b ?_ | refine SD ?_ | refine SA (fun _ => ?_) | refine G1 (fun hc => ?_) (fun hc => ?_) | refine G2 (fun hc => ?_) (fun hc => ?_) | refine G3 (fun hc => ?_) (fun hc => ?_) | refine SL ?_ | fail)
    refine WL.e rfl (Ef.lookR (by exact rfl) (fun F' hF => oleft_tr F' m h3 (by omega) (by omega) ((OqM.item (F := F) (List.mem_of_getElem? hm)).mono (fun w h => hF w h)))) ?_
    rintro _ _ ⟨rfl, rfl⟩
    repeat' (first | refine S2b ?_ | refine SD ?_ | refine SA (fun _ => ?_) | refine G1 (fun hc => ?_) (fun hc => ?_) | refine G2 (fun hc => ?_) (fun hc => ?_) | refine G3 (fun hc => ?_) (fun hc => ?_) | refine SL ?_ | fail)
    have hl2 : left m.it ≤ 1048576 := by unfold left; omega
    rw [i64_id (n := (((o.is.take i).map (fun m => left m.it)).sum : Int) + (left m.it : Int)) (by omega) (by omega), i64_succ (by omega)]
    rw [hia] at *
    exact Fin.round ⟨i + 1⟩ hi' (by dsimp only; rw [hs2]; push_cast; exact envA) (fun _ h => h) (by dsimp only; omega)
  · have hi' : i = o.is.length := by have := of_decide_eq_false hc; omega
    subst hi'
    exact Fin.retW (by exact rfl) resA (fun _ h => h) ⟨by rw [List.take_length]; unfold OqM.S Oq.waiting; dsimp only; rw [List.map_map]; rfl, rfl⟩
theorem u16_back {n : Int} (h : 0 ≤ n ∧ n < 65536) : IntKind.u16.wrap (u16 (n + 1) - 1) = n := by
  have e : ∀ k : Int, IntKind.u16.wrap k = k % 65536 := fun k => by simp [IntKind.wrap, IntKind.bits, IntKind.signed]
  rw [e, show u16 (n + 1) = (n + 1) % 65536 from e _]
  omega
theorem set_row {α : Type} {v : α → Value} {l : List α} {i : Nat} (hi : i < l.length) (a : α) : (l.map v).take i ++ [v a] ++ (l.map v).drop (i + [v a].length) = (l.set i a).map v := by
  rw [List.map_set, List.set_eq_take_append_cons_drop, if_pos (by simpa using hi)]
  simp
theorem onum_tr (F : Nat → Option Obj) (ns : List Int) (na : Option Addr) (nn nc : Nat) (nb : HL) (hown : OwnS 33 1 (ns.map (Value.int .u16)) (.slice na nn nc) nb) (st : Int) (hst : 0 ≤ st ∧ st < ns.length) (hr : ∀ n ∈ ns, 0 ≤ n ∧ n < 65536) :
    Tr Tryz.prog 100 [.slice na nn nc, .int .u16 st].toArray F nb (fun v H => v = .int .u16 (ns.getD st.toNat 0) ∧ OwnS 33 1 ((ns.set st.toNat (u16 (ns.getD st.toNat 0 + 1))).map (Value.int .u16)) (.slice na nn nc) H) := by
  refine Tr.enter Tryz.func100 rfl Tryz.ntmps100 rfl (fun w0 => ?_)
  have hnn : nn = ns.length := by have := OwnS.len hown; simp at this; omega
  obtain ⟨k, rfl⟩ : ∃ k : Nat, st = k := ⟨st.toNat, by omega⟩
  rw [Int.toNat_natCast]
  have hk : k < ns.length := by omega
  obtain ⟨n, hn⟩ : ∃ n, ns[k]? = some n := ⟨ns[k], List.getElem?_eq_getElem hk⟩
  have hg : ns.getD k 0 = n := by rw [List.getD_eq_getElem?_getD, hn]; rfl
  have hnr := hr n (List.mem_of_getElem? hn)
  rw [hg]
  obtain ⟨b, off, rfl, hlt, hcan⟩ := own_el hown hn
  have hcan := hcan F
  have hia : 0 ≤ (k : Int) ∧ (k : Int) < nn := by omega
  obtain ⟨nb', hown', hput⟩ := hown.put k [.int .u16 (u16 (n + 1))] (by simp; omega)
  have e1 := set_row (v := Value.int .u16) hk (u16 (n + 1))
  rw [e1] at hown'
  have hn' : (ns.set k (u16 (n + 1)))[k]? = some (u16 (n + 1)) := List.getElem?_set_self hk
  obtain ⟨b', off', he', _, hcan'⟩ := own_el hown' hn'
  cases he'
  have hcan' := hcan' F
  repeat' (first | refine S2b ?_ | refine SD ?_ | refine SA (fun _ => ?_) | refine G1 (fun hc => ?_) (fun hc => ?_) | refine G2 (fun hc => ?_) (fun hc => ?_) | refine G3 (fun hc => ?_) (fun hc => ?_) | refine SL ?_ | fail)
  refine WL.e0 (Ef.st rfl rfl rfl (by simpa using hput)) ?_
  rintro _ _ ⟨rfl, rfl⟩
  clear hcan
  repeat' (first | refine S2b ?_ | refine SD ?_ | refine SA (fun _ => ?_) | refine G1 (fun hc => ?_) (fun hc => ?_) | refine G2 (fun hc => ?_) (fun hc => ?_) | refine G3 (fun hc => ?_) (fun hc => ?_) | refine SL ?_ | fail)
  rw [u16_back hnr]
  exact Fin.retW (by exact rfl) resA (fun _ h => h) ⟨rfl, hown'⟩
def PutQ (o : OqM) (stream : Int) (ord : Bool) (bs : List UInt8) (til : Int) (v : Value) (H : HL) : Prop :=
  v = tup [.int .i64 (if putE o.S stream bs.length til = 0 then o.many else 0), .int .i64 (putE o.S stream bs.length til)] ∧ ∃ o' : OqM, o'.ok ∧ H = o'.H ∧ o'.R = o.R ∧ o'.S = put o.S stream ord bs til
set_option maxHeartbeats 4000000 in
theorem oput_tr (F : Nat → Option Obj) (o : OqM) (ho : o.ok) (hmany : 0 ≤ o.many ∧ o.many < 1000000000) (hfew : o.is.length < 1000000) (stream : Int) (hst : 0 ≤ stream ∧ stream < 65536) (ord : Bool) (bs : List UInt8) (ba : Option Addr) (bn bc : Nat) (hsrc : Lst F [] 1 (bs.map B) ba bn bc) (til : Int) :
    Tr Tryz.prog 23 [ptr o.R, .agg [.int .u16 stream, .bool ord, .slice ba bn bc].toArray, .int .i64 til].toArray F o.H (PutQ o stream ord bs til) := by
  refine Tr.enter Tryz.func23 rfl Tryz.ntmps23 rfl (fun w0 => ?_)
  have hbn : bn = bs.length := by have := hsrc.len; simp at this; omega
  have hnl := ho.nnl
  have h1 := ho.pl.room; have h2 := ho.pl.used
  dsimp only [OqM.S] at h1 h2
  unfold OqM.H OqM.cells
  repeat' (first | refine S2b ?_ | refine SD ?_ | refine SA (fun _ => ?_) | refine G1 (fun hc => ?_) (fun hc => ?_) | refine G2 (fun hc => ?_) (fun hc => ?_) | refine G3 (fun hc => ?_) (fun hc => ?_) | refine SL ?_ | fail)
  all_goals simp (disch := omega) only [i64_id, decide_eq_true_eq, decide_eq_false_iff_not, beq_iff_eq, beq_eq_false_iff_ne, ge_iff_le, gt_iff_lt] at *
  rotate_right
  · have hE : putE o.S stream bs.length til = 0 := by
      unfold putE OqM.S
      dsimp only
      repeat' split
      all_goals (first | rfl | (exfalso; omega))
    refine WL.e rfl (Ef.look (by exact rfl) (fun F' hF => clone_tr F' bs ba bn bc (hsrc.mono (fun w h => (hF w h).sublist (List.nil_sublist _))) (by omega))) ?_
    rintro _ _ ⟨ib, ⟨ca, cn, cc, rfl, hcl⟩, rfl⟩
    repeat' (first | refine S2b ?_ | refine SD ?_ | refine SA (fun _ => ?_) | refine G1 (fun hc => ?_) (fun hc => ?_) | refine G2 (fun hc => ?_) (fun hc => ?_) | refine G3 (fun hc => ?_) (fun hc => ?_) | refine SL ?_ | fail)
    rename_i b4 bi bp
    have hil := ho.inl
    refine WD.e rfl (Ef.app (m := 1) (news := [ptr bi]) (hb := o.ib) (by exact rfl) (by exact rfl) rfl rfl ho.items (.last (.there (.there (.right (.there (.there .here)))))) (Src.own (n := 1) (.here rfl)) rfl (by simp [Value.oneCell']) (by simp; omega) (by simp [maxLen]; omega)) ?_
    rintro v' _ ⟨hb', hown', rfl⟩
    refine ⟨.inl (by kernel_rfl), ?_⟩
    obtain ⟨ja, jn, jc, rfl, _, _⟩ := OwnS.shape hown'
    have hcn : cn = bs.length := by have := OwnS.len hcl; simp at this; omega
    repeat' (first | refine S2b ?_ | refine SD ?_ | refine SA (fun _ => ?_) | refine G1 (fun hc => ?_) (fun hc => ?_) | refine G2 (fun hc => ?_) (fun hc => ?_) | refine G3 (fun hc => ?_) (fun hc => ?_) | refine SL ?_ | fail)
    simp (disch := omega) only [i64_id]
    obtain ⟨m, hm⟩ : ∃ m : ItM, m = ⟨bi, Oq.item o.S stream ord bs til, ca, cn, cc, ib⟩ := ⟨_, rfl⟩
    have hS : OqM.S { o with ia := ja, in_ := jn, ic := jc, ib := hb', is := o.is ++ [m], many := o.many + 1, used := o.used + cn } = put o.S stream ord bs til := by
      unfold put
      rw [if_pos hE]
      unfold OqM.S
      dsimp only
      rw [List.map_append, hm, hcn]
      rfl
    refine Fin.retW (by exact rfl) resA (H' := OqM.H { o with ia := ja, in_ := jn, ic := jc, ib := hb', is := o.is ++ [m], many := o.many + 1, used := o.used + cn }) (fun _ h => ?_) ⟨?_, { o with ia := ja, in_ := jn, ic := jc, ib := hb', is := o.is ++ [m], many := o.many + 1, used := o.used + cn }, ⟨?_, ?_, ho.nums, by rw [hS]; exact put_ok ho.pl hst.1 ord bs til, by simp; omega⟩, rfl, rfl, hS⟩
    · have h := In.of_sub (.pick (.right (.there (.there (.right (.there .here))))) (.pickL (L := hb') .here (.pickL (L := o.nb) (.there (.there (.right (.there .here)))) (.pickL (L := o.is.flatMap ItM.H) (.there (.there (.right (.there .all)))) (.pick (.there .here) (.last (L := ib) (.there .here))))))) h
      unfold OqM.H OqM.cells
      dsimp only
      rw [List.flatMap_append, hm, List.flatMap_cons, List.flatMap_nil, List.append_nil]
      exact h
    · rw [if_pos hE, hE, show o.many + 1 - 1 = o.many by omega]
    · intro q hq
      rcases List.mem_append.1 hq with hq | hq
      · exact ho.own q hq
      · rw [List.mem_singleton.1 hq, hm]
        exact hcl
    · dsimp only
      rw [List.map_append, hm]
      exact hown'
  all_goals
    obtain ⟨E, hE, hE0⟩ : ∃ E, putE o.S stream bs.length til = E ∧ E ≠ 0 := ⟨_, rfl, by
      unfold putE OqM.S
      dsimp only
      repeat' split
      all_goals (first | decide | (exfalso; omega))⟩
    refine Fin.retW (by exact rfl) resA (H' := o.H) (fun _ h => h.sublist (.cons _ (.refl _))) ⟨?_, o, ho, rfl, rfl, by unfold put; rw [if_neg (by rw [hE]; exact hE0)]⟩
    rw [if_neg (by rw [hE]; exact hE0)]
    unfold putE OqM.S
    dsimp only
    repeat' split
    all_goals (first | rfl | (exfalso; omega))
def dC (d : Flt.Dt) (ba : Option Addr) (bn bc : Nat) : List Value := [.int .u32 d.tsn, .int .u16 d.stream, .int .u16 d.ssn, .bool d.un, .bool d.fi, .bool d.la, .slice ba bn bc]
def NextQ (o : OqM) (most : Int) (v : Value) (H : HL) : Prop := match Oq.next o.S most with
  | none => v = tup [.agg (dC Oq.noD none 0 0).toArray, .int .i64 0, .bool false] ∧ H = o.H
  | some (d, id, q') => ∃ (ba : Option Addr) (bn bc : Nat) (db : HL) (o' : OqM), v = tup [.agg (dC d ba bn bc).toArray, .int .i64 id, .bool true] ∧ OwnS 5 1 (d.bs.map B) (.slice ba bn bc) db ∧ o'.ok ∧ o'.R = o.R ∧ o'.S = q' ∧ H = db ++ o'.H
theorem NextQ.none {o : OqM} {most : Int} (h : Oq.next o.S most = none) : NextQ o most (tup [.agg (dC Oq.noD none 0 0).toArray, .int .i64 0, .bool false]) o.H := by
  unfold NextQ
  rw [h]
  exact ⟨rfl, rfl⟩
theorem endI {x : It} {most : Int} (h : 1 ≤ most) : (x.at_ : Int) + min most (left x : Int) = ((endAt x most : Nat) : Int) := by
  unfold endAt
  rw [Pth.mn_eq]
  omega
theorem numbers_if {x : It} (h : numbers x = true) : x.at_ = 0 ∧ x.ord = true := by
  unfold numbers first at h
  simpa using h
structure NuG where
  nb : HL
  ss : Int
theorem NextQ.some {o : OqM} {most : Int} {d : Flt.Dt} {id : Int} {q' : Oq.S} (h : Oq.next o.S most = some (d, id, q')) (ba : Option Addr) (bn bc : Nat) (db : HL) (o' : OqM) (hd : OwnS 5 1 (d.bs.map B) (.slice ba bn bc) db) (ho : o'.ok) (hR : o'.R = o.R) (hS : o'.S = q') :
    NextQ o most (tup [.agg (dC d ba bn bc).toArray, .int .i64 id, .bool true]) (db ++ o'.H) := by
  unfold NextQ
  rw [h]
  exact ⟨ba, bn, bc, db, o', rfl, hd, ho, hR, hS, rfl⟩
set_option maxHeartbeats 8000000 in
theorem onext_tr (F : Nat → Option Obj) (o : OqM) (ho : o.ok) (most : Int) (hmost : most ≤ 1000000000) : Tr Tryz.prog 72 [ptr o.R, .int .i64 most].toArray F o.H (NextQ o most) := by
  refine Tr.enter Tryz.func72 rfl Tryz.ntmps72 rfl (fun w0 => ?_)
  have hil := ho.inl
  cases hs : o.is with
  | nil =>
    have e : Oq.next o.S most = none := by unfold OqM.S Oq.next; rw [hs]; split <;> rfl
    rw [hs] at hil
    unfold OqM.H OqM.cells
    rw [show o.in_ = 0 by simpa using hil]
    repeat' (first | refine S2b ?_ | refine SD ?_ | refine SA (fun _ => ?_) | refine G1 (fun hc => ?_) (fun hc => ?_) | refine G2 (fun hc => ?_) (fun hc => ?_) | refine G3 (fun hc => ?_) (fun hc => ?_) | refine SL ?_ | fail)
    refine Fin.retW (by exact rfl) resA (H' := o.H) (fun _ h => ?_) (NextQ.none e)
    unfold OqM.H OqM.cells
    rw [show o.in_ = 0 by simpa using hil]
    exact h.sublist findA
  | cons m r =>
    have hm : m ∈ o.is := by rw [hs]; exact List.mem_cons_self
    obtain ⟨h1, h2, h3⟩ := OqM.it ho hm
    have h4 := h1.at_; have h5 := h1.size; have h6 := h1.stream; have h7 := h1.ssn
    have hnl := ho.nnl
    have hcap : m.bn ≤ m.bc := by obtain ⟨_, _, _, he, _, hle⟩ := OwnS.shape (ho.own m hm); cases he; exact hle
    have hicap : o.in_ ≤ o.ic := by obtain ⟨_, _, _, he, _, hle⟩ := OwnS.shape ho.items; cases he; exact hle
    obtain ⟨b, off, hia, hlt, hcan⟩ := OqM.ptrAt ho (i := 0) (m := m) (by rw [hs]; rfl)
    have hcan := hcan F
    have hne : ((o.in_ : Int) == 0) = false := by simp; omega
    have hia0 : 0 ≤ (0 : Int) ∧ (0 : Int) < o.in_ := by omega
    have hlf : left m.it + m.it.at_ = m.it.bs.length := by unfold left; omega
    have hSL : o.S.L = m.it :: r.map (·.it) := by unfold OqM.S; dsimp only; rw [hs]; rfl
    have e0 : o.H = (o.R, .cells o.cells.toArray 122 (0, 0)) :: (o.ib ++ (o.nb ++ ((m.b, .cells m.cells.toArray 141 (0, 0)) :: (m.bb ++ r.flatMap ItM.H)))) := by unfold OqM.H; rw [hs, List.flatMap_cons]; rfl
    have hq0 : most < 1 → NextQ o most (tup [.agg (dC Oq.noD none 0 0).toArray, .int .i64 0, .bool false]) o.H := fun hm1 => NextQ.none (by unfold Oq.next; rw [if_pos hm1])
    have hnx : ¬ most < 1 → Oq.next o.S most = some (cutD o.S m.it most, m.it.id, nextS o.S m.it (r.map (·.it)) most) := fun hm1 => by unfold Oq.next; rw [if_neg hm1, hSL]
    rw [e0] at hq0 ⊢
    unfold OqM.cells ItM.cells at hq0 ⊢
    rw [hia] at hq0 ⊢
    repeat' (first | refine S2b ?_ | refine SA (fun _ => ?_) | refine G1 (fun hc => ?_) (fun hc => ?_) | refine G2 (fun hc => ?_) (fun hc => ?_) | refine G3 (fun hc => ?_) (fun hc => ?_) | refine SL ?_ | fail)
    · exfalso; rw [hne] at hc; cases hc
    · exact Fin.retW (by exact rfl) resA (fun _ h => h.sublist findA) (hq0 (of_decide_eq_true hc))
    have hm1 := of_decide_eq_false ‹decide (most < 1) = false›
    have hnx := hnx hm1
    clear hq0
    refine W.drawA ?_
    iterate 20 (refine S2b ?_)
    rename_i b4 _
    obtain ⟨bb, hbb⟩ : ∃ bb, (((m.it.at_ : Int) == 0) && m.it.ord) = bb := ⟨_, rfl⟩
    have hn : numbers m.it = bb := by
      rw [← hbb]
      unfold numbers first
      congr 1
      by_cases h0 : m.it.at_ = 0
      · simp [h0]
      · simp [h0]
    repeat refine W.seq ?_
    refine W.cut (G := Unit) (fun _ => [(0, ptr o.R), (1, .int .i64 most), (4, ptr b4), (7, ptr m.b), (55, .bool bb)]) (fun _ => (b4, .cells [.int .u32 0, .int .u16 m.it.stream, .int .u16 0, .bool (!m.it.ord), .bool ((m.it.at_ : Int) == 0), .bool false, .slice none 0 0].toArray 50 (0, 0)) :: ((o.R, .cells [.slice (some ⟨b, off, none⟩) o.in_ o.ic, .int .i64 o.many, .int .i64 o.room, .int .i64 o.used, .slice o.na o.nn o.nc].toArray 122 (0, 0)) :: (o.ib ++ (o.nb ++ ((m.b, .cells [.int .u16 m.it.stream, .bool m.it.ord, .slice m.ba m.bn m.bc, .int .i64 m.it.id, .int .i64 m.it.til, .int .i64 m.it.at_, .int .u16 m.it.ssn].toArray 141 (0, 0)) :: (m.bb ++ r.flatMap ItM.H)))))) (fun _ => True) (fun K' hK _ => ?_) ?_
    · repeat' (first | refine S2b ?_ | refine SA (fun _ => ?_) | refine G1 (fun hc => ?_) (fun hc => ?_) | refine G2 (fun hc => ?_) (fun hc => ?_) | refine G3 (fun hc => ?_) (fun hc => ?_) | refine SL ?_ | fail)
      · exact Fin.cut hK () trivial (by rw [← hbb, ‹((m.it.at_ : Int) == 0) = true›, Bool.true_and]; exact envA) (fun _ h => h)
      · exact Fin.cut hK () trivial (by rw [← hbb, hc, Bool.false_and]; exact envA) (fun _ h => h)
    rintro _ _
    refine Fin.next ?_
    repeat refine W.seq ?_
    refine W.cut (G := NuG) (fun _ => [(0, ptr o.R), (1, .int .i64 most), (4, ptr b4), (7, ptr m.b)]) (fun g => (b4, .cells [.int .u32 0, .int .u16 m.it.stream, .int .u16 0, .bool (!m.it.ord), .bool ((m.it.at_ : Int) == 0), .bool false, .slice none 0 0].toArray 50 (0, 0)) :: ((o.R, .cells [.slice (some ⟨b, off, none⟩) o.in_ o.ic, .int .i64 o.many, .int .i64 o.room, .int .i64 o.used, .slice o.na o.nn o.nc].toArray 122 (0, 0)) :: (o.ib ++ (g.nb ++ ((m.b, .cells [.int .u16 m.it.stream, .bool m.it.ord, .slice m.ba m.bn m.bc, .int .i64 m.it.id, .int .i64 m.it.til, .int .i64 m.it.at_, .int .u16 g.ss].toArray 141 (0, 0)) :: (m.bb ++ r.flatMap ItM.H)))))) (fun g => (g.ss = if numbers m.it then ssnOf o.S m.it else m.it.ssn) ∧ OwnS 33 1 ((ssns o.S m.it).map (Value.int .u16)) (.slice o.na o.nn o.nc) g.nb) (fun K' hK _ => ?_) ?_
    · cases bb with
      | true =>
        refine W.cond_t rfl ?_
        refine W.draw [(b4, .cells [.int .u32 0, .int .u16 m.it.stream, .int .u16 0, .bool (!m.it.ord), .bool ((m.it.at_ : Int) == 0), .bool false, .slice none 0 0].toArray 50 (0, 0)), (o.R, .cells [.slice (some ⟨b, off, none⟩) o.in_ o.ic, .int .i64 o.many, .int .i64 o.room, .int .i64 o.used, .slice o.na o.nn o.nc].toArray 122 (0, 0)), (m.b, .cells [.int .u16 m.it.stream, .bool m.it.ord, .slice m.ba m.bn m.bc, .int .i64 m.it.id, .int .i64 m.it.til, .int .i64 m.it.at_, .int .u16 m.it.ssn].toArray 141 (0, 0))] (by kernel_rfl) (by kernel_rfl) (fun _ h => In.of_sub (.pick .here (.pick .here (.last (L := [_]) (.right (.right .here))))) h) ?_
        repeat' (first | refine S2b ?_ | refine SA (fun _ => ?_) | refine G1 (fun hc => ?_) (fun hc => ?_) | refine G2 (fun hc => ?_) (fun hc => ?_) | refine G3 (fun hc => ?_) (fun hc => ?_) | refine SL ?_ | fail)
        refine WD.e rfl (Ef.call (c := o.nb) (by exact rfl) (.last (.there (.there (.right .here)))) (onum_tr _ o.ns o.na o.nn o.nc o.nb ho.nums m.it.stream ⟨by omega, by omega⟩ ho.pl.ssn)) ?_
        rintro _ _ ⟨nb1, ⟨rfl, hown1⟩, rfl⟩
        refine ⟨.inr (fun _ h => In.of_sub (.pick (.right .here) (.pick (.right .here) (.last (L := [_]) (.right (.right .here))))) h), ?_⟩
        repeat' (first | refine S2b ?_ | refine SA (fun _ => ?_) | refine G1 (fun hc => ?_) (fun hc => ?_) | refine G2 (fun hc => ?_) (fun hc => ?_) | refine G3 (fun hc => ?_) (fun hc => ?_) | refine SL ?_ | fail)
        exact Fin.cut hK ⟨nb1, o.ns.getD m.it.stream.toNat 0⟩ ⟨by dsimp only; rw [hn, if_pos rfl]; rfl, by unfold ssns; rw [hn, if_pos rfl]; exact hown1⟩ envA (fun _ h => In.of_sub (.pick (.right .here) (.pick (.right .here) (.pickL (L := o.ib) (.right .here) (.pickL (L := nb1) .here (.last .all))))) h)
      | false =>
        refine W.cond_f rfl ?_
        repeat' (first | refine S2b ?_ | refine SA (fun _ => ?_) | refine G1 (fun hc => ?_) (fun hc => ?_) | refine G2 (fun hc => ?_) (fun hc => ?_) | refine G3 (fun hc => ?_) (fun hc => ?_) | refine SL ?_ | fail)
        exact Fin.cut hK ⟨o.nb, m.it.ssn⟩ ⟨by dsimp only; rw [hn]; rfl, by unfold ssns; rw [hn]; exact ho.nums⟩ envA (fun _ h => h)
    rintro ⟨nb1, ss⟩ ⟨hss, hown1⟩
    dsimp only at hss hown1 ⊢
    refine Fin.next ?_
    repeat' (first | refine S2b ?_ | refine SA (fun _ => ?_) | refine G1 (fun hc => ?_) (fun hc => ?_) | refine G2 (fun hc => ?_) (fun hc => ?_) | refine G3 (fun hc => ?_) (fun hc => ?_) | refine SL ?_ | fail)
    refine W.drawA ?_
    repeat' (first | refine S2b ?_ | refine SA (fun _ => ?_) | refine G1 (fun hc => ?_) (fun hc => ?_) | refine G2 (fun hc => ?_) (fun hc => ?_) | refine G3 (fun hc => ?_) (fun hc => ?_) | refine SL ?_ | fail)
    obtain ⟨m2, hm2⟩ : ∃ m2 : ItM, m2 = { m with it := { m.it with ssn := ss } } := ⟨_, rfl⟩
    refine WD.e rfl (Ef.lookR (by exact rfl) (fun F' hF => oleft_tr F' { m with it := { m.it with ssn := ss } } h3 (by dsimp only; omega) (by dsimp only; omega) ((Can.cut (F := F) (n := 7) (.there (.there (.right (.right (.here rfl)))))).mono hF))) ?_
    rintro _ _ ⟨rfl, rfl⟩
    refine ⟨.inr (fun _ h => h), ?_⟩
    have hLl : left ({ m with it := { m.it with ssn := ss } } : ItM).it = left m.it := rfl
    rw [hLl]
    repeat' (first | refine S2b ?_ | refine SA (fun _ => ?_) | refine G1 (fun hc => ?_) (fun hc => ?_) | refine G2 (fun hc => ?_) (fun hc => ?_) | refine G3 (fun hc => ?_) (fun hc => ?_) | refine SL ?_ | fail)
    simp (disch := omega) only [i64_id, Go.Pth.go_mn]
    rw [endI (by omega)]
    obtain ⟨E, hE⟩ : ∃ E, endAt m.it most = E := ⟨_, rfl⟩
    have hE1 := endAt_lt h1 (most := most) (by omega)
    have hE2 := endAt_le h1 (most := most)
    rw [hE] at hE1 hE2 ⊢
    repeat' (first | refine S2b ?_ | refine SA (fun _ => ?_) | refine G1 (fun hc => ?_) (fun hc => ?_) | refine G2 (fun hc => ?_) (fun hc => ?_) | refine G3 (fun hc => ?_) (fun hc => ?_) | refine SL ?_ | fail)
    refine W.draw [(m.b, .cells [.int .u16 m.it.stream, .bool m.it.ord, .slice m.ba m.bn m.bc, .int .i64 m.it.id, .int .i64 m.it.til, .int .i64 m.it.at_, .int .u16 ss].toArray 141 (0, 0))] (by kernel_rfl) (by kernel_rfl) (fun _ h => In.of_sub (.last (L := [_]) (.there (.there (.right (.right .here))))) h) ?_
    repeat' (first | refine S2c ?_ | refine SA (fun _ => ?_) | refine G1 (fun hc => ?_) (fun hc => ?_) | refine G2 (fun hc => ?_) (fun hc => ?_) | refine G3 (fun hc => ?_) (fun hc => ?_) | refine SL ?_ | fail)
    refine WD.p rfl (Pu.slLH rfl rfl rfl (by omega) (by omega)) ?_
    simp only [Int.toNat_natCast]
    refine WD.e rfl (Ef.look (by exact rfl) (fun F' hF => clone_tr F' ((m.it.bs.drop m.it.at_).take (E - m.it.at_)) _ _ _ (by
      rw [List.map_take, List.map_drop]
      exact ((Lst.own (F := F) (H := m.bb) (ho.own m hm) (fun _ h => h)).part (by omega) (by omega)).mono (fun w h => (hF w h).sublist findA)) (by rw [List.length_take]; omega))) ?_
    rintro _ _ ⟨db, ⟨ca, cn, cc, rfl, hcl⟩, rfl⟩
    refine ⟨.inr (fun _ h => In.of_sub (.last (L := [_]) (.right (.there (.there (.right (.right .here)))))) h), ?_⟩
    repeat' (first | refine S2c ?_ | refine SA (fun _ => ?_) | refine G1 (fun hc => ?_) (fun hc => ?_) | refine G2 (fun hc => ?_) (fun hc => ?_) | refine G3 (fun hc => ?_) (fun hc => ?_) | refine SL ?_ | fail)
    refine WD.e0A (hk := .inr (fun _ h => In.of_sub (.last (L := [_]) (.right (.there (.there (.right (.right .here)))))) h)) ?_
    repeat' (first | refine S2c ?_ | refine SA (fun _ => ?_) | refine G1 (fun hc => ?_) (fun hc => ?_) | refine G2 (fun hc => ?_) (fun hc => ?_) | refine G3 (fun hc => ?_) (fun hc => ?_) | refine SL ?_ | fail)
    refine WD.e0A (hk := .inr (fun _ h => In.of_sub (.last (L := [_]) (.right (.there (.there (.right (.right .here)))))) h)) ?_
    repeat' (first | refine S2b ?_ | refine SD ?_ | refine SA (fun _ => ?_) | refine G1 (fun hc => ?_) (fun hc => ?_) | refine G2 (fun hc => ?_) (fun hc => ?_) | refine G3 (fun hc => ?_) (fun hc => ?_) | refine SL ?_ | fail)
    · have hcl2 := hc
      have hcl' : OwnS 5 1 ((cutD o.S m.it most).bs.map B) (.slice ca cn cc) db := by unfold cutD; dsimp only; rw [hE]; exact hcl
      have hdE : dC (cutD o.S m.it most) ca cn cc = [.int .u32 0, .int .u16 m.it.stream, .int .u16 ss, .bool (!m.it.ord), .bool ((m.it.at_ : Int) == 0), .bool ((E : Int) == (m.bn : Int)), .slice ca cn cc] := by
        have hf1 : decide (m.it.at_ = 0) = ((m.it.at_ : Int) == 0) := by
          by_cases h0 : m.it.at_ = 0
          · simp [h0]
          · simp [h0]
        have hf2 : decide (E = m.it.bs.length) = ((E : Int) == (m.bn : Int)) := by
          rw [h3]
          by_cases h0 : E = m.it.bs.length
          · simp [h0]
          · simp [h0]; omega
        unfold dC cutD first lastB
        dsimp only
        rw [hE, hss, hf1, hf2]
      have hcE : E = m.it.bs.length := by simp at hcl2; omega
      refine WL.p rfl (Pu.slLo rfl rfl (by omega)) ?_
      repeat' (first | refine S2b ?_ | refine SD ?_ | refine SA (fun _ => ?_) | refine G1 (fun hc => ?_) (fun hc => ?_) | refine G2 (fun hc => ?_) (fun hc => ?_) | refine G3 (fun hc => ?_) (fun hc => ?_) | refine SL ?_ | fail)
      have hlast : lastB m.it most = true := by unfold lastB; rw [hE]; exact decide_eq_true hcE
      have hitems := ho.items
      rw [hs, List.map_cons, hia] at hitems
      have htl := OwnS.tail (x := [ptr m.b]) (sz := 1) rfl (by decide) hitems
      have hS : OqM.S { o with is := r, ia := (if o.ic = (1 : Int).toNat then some ⟨b, off, none⟩ else (some (⟨b, off, none⟩ : Addr)).map (·.add ((1 : Int).toNat * 1))), in_ := o.in_ - (1 : Int).toNat, ic := o.ic - (1 : Int).toNat, ns := ssns o.S m.it, nb := nb1 } = nextS o.S m.it (r.map (·.it)) most := by
        unfold nextS
        rw [hlast, if_pos rfl]
        rfl
      rw [← hdE]
      exact Fin.retW (by exact rfl) resA (H' := db ++ OqM.H { o with is := r, ia := (if o.ic = (1 : Int).toNat then some ⟨b, off, none⟩ else (some (⟨b, off, none⟩ : Addr)).map (·.add ((1 : Int).toNat * 1))), in_ := o.in_ - (1 : Int).toNat, ic := o.ic - (1 : Int).toNat, ns := ssns o.S m.it, nb := nb1 }) (fun _ h => In.of_sub (.pickL (L := db) .here (.pick (.there .here) (.pickL (L := o.ib) (.there .here) (.pickL (L := nb1) (.there .here) (.last (L := r.flatMap ItM.H) (.there (.there (.right .all)))))))) h)
        (NextQ.some hnx ca cn cc db _ hcl' ⟨fun q hq => ho.own q (by rw [hs]; exact List.mem_cons_of_mem _ hq), htl, hown1, by rw [hS]; exact nextS_ok ho.pl hSL most, by have := ho.few; rw [hs, List.length_cons] at this; dsimp only; omega⟩ rfl hS)
    · have hcl2 := hc
      have hcl' : OwnS 5 1 ((cutD o.S m.it most).bs.map B) (.slice ca cn cc) db := by unfold cutD; dsimp only; rw [hE]; exact hcl
      have hdE : dC (cutD o.S m.it most) ca cn cc = [.int .u32 0, .int .u16 m.it.stream, .int .u16 ss, .bool (!m.it.ord), .bool ((m.it.at_ : Int) == 0), .bool ((E : Int) == (m.bn : Int)), .slice ca cn cc] := by
        have hf1 : decide (m.it.at_ = 0) = ((m.it.at_ : Int) == 0) := by
          by_cases h0 : m.it.at_ = 0
          · simp [h0]
          · simp [h0]
        have hf2 : decide (E = m.it.bs.length) = ((E : Int) == (m.bn : Int)) := by
          rw [h3]
          by_cases h0 : E = m.it.bs.length
          · simp [h0]
          · simp [h0]; omega
        unfold dC cutD first lastB
        dsimp only
        rw [hE, hss, hf1, hf2]
      have hcE : E ≠ m.it.bs.length := by simp at hcl2; omega
      have hlast : lastB m.it most = false := by unfold lastB; rw [hE]; exact decide_eq_false hcE
      have hS : OqM.S { o with is := { m with it := cutI o.S m.it most } :: r, ns := ssns o.S m.it, nb := nb1 } = nextS o.S m.it (r.map (·.it)) most := by
        unfold nextS
        rw [hlast]
        rfl
      have hci : cutI o.S m.it most = { m.it with at_ := E, ssn := ss } := by unfold cutI; rw [hE, hss]
      rw [← hdE]
      refine Fin.retW (by exact rfl) resA (H' := db ++ OqM.H { o with is := { m with it := cutI o.S m.it most } :: r, ns := ssns o.S m.it, nb := nb1 }) (fun _ h => ?_)
        (NextQ.some hnx ca cn cc db _ hcl' ⟨?_, ?_, hown1, by rw [hS]; exact nextS_ok ho.pl hSL most, by have := ho.few; rw [hs, List.length_cons] at this; dsimp only; rw [List.length_cons]; omega⟩ rfl hS)
      · unfold OqM.H OqM.cells
        dsimp only
        rw [List.flatMap_cons, hci, hia]
        exact In.of_sub (.pickL (L := db) .here (.pick (.there .here) (.pickL (L := o.ib) (.there .here) (.pickL (L := nb1) (.there .here) (.last (.there .all)))))) h
      · intro q hq
        rcases List.mem_cons.1 hq with rfl | hq
        · exact ho.own m hm
        · exact ho.own q (by rw [hs]; exact List.mem_cons_of_mem _ hq)
      · have hitems := ho.items
        rw [hs] at hitems
        exact hitems
end Go.Proofs.YtjfpckadjnjmoaaGreat
