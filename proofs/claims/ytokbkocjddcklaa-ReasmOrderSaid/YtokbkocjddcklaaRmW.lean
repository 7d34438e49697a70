/- Messages that were sent, as pieces one behind the other: a list of them makes what the laws on orders ask for. No conditions: definitions and laws. -/
import Derived.Test.YtokbkocjddcklaaRmV
namespace Go.Rm
open Go

/-- a part's bytes, and the slice that they lie in -/
structure Pt where
  bs : List UInt8
  ba : Option Addr
  bn : Nat
  bc : Nat
/-- a message that was sent -/
structure Sn where
  stream : Int
  un : Bool
  pa : Option Addr
  pn : Nat
  pc : Nat
  ps : List Pt
/-- a piece, and the slice of its bytes -/
structure PM where
  d : D
  q : Pt
def Sn.st (m : Sn) : Nat := (m.stream % 4).toNat
def ctr (l : List Sn) (t : Nat) : Nat := l.countP (fun q => !q.un && q.st == t)
def offS (l : List Sn) : Nat := (l.map (·.ps.length)).sum
def pcM (first : Int) (base rk : Nat) (m : Sn) (k : Nat) (q : Pt) : PM := ⟨⟨u32 (first + u32 ((base + k : Nat) : Int)), m.st, if m.un then 0 else rk, m.un, decide (k = 0), decide (k + 1 = m.ps.length), q.bs⟩, q⟩
def pcsM (first : Int) (base rk : Nat) (m : Sn) : List PM := m.ps.mapIdx (pcM first base rk m)
def allFrom (first : Int) : List Sn → List Sn → List PM
  | _, [] => []
  | pre, m :: l => pcsM first (offS pre) (ctr pre m.st) m ++ allFrom first (pre ++ [m]) l
def allP (first : Int) (l : List Sn) : List PM := allFrom first [] l
def Sn.mg (m : Sn) : Mg := ⟨m.st, !m.un, m.ps.flatMap (·.bs)⟩

theorem st_lt (m : Sn) : m.st < 4 := by unfold Sn.st; omega
theorem offS_append (a b : List Sn) : offS (a ++ b) = offS a + offS b := by simp [offS]
theorem allFrom_append (first : Int) : ∀ (a b pre : List Sn), allFrom first pre (a ++ b) = allFrom first pre a ++ allFrom first (pre ++ a) b
  | [], b, pre => by simp [allFrom]
  | m :: a, b, pre => by
    rw [List.cons_append, allFrom, allFrom, allFrom_append first a b (pre ++ [m]), List.append_assoc, List.append_assoc]
    rfl
theorem pcsM_len (first : Int) (base rk : Nat) (m : Sn) : (pcsM first base rk m).length = m.ps.length := by simp [pcsM]
theorem allFrom_len (first : Int) : ∀ (l pre : List Sn), (allFrom first pre l).length = offS l
  | [], _ => rfl
  | m :: l, pre => by
    rw [allFrom, List.length_append, pcsM_len, allFrom_len first l]
    simp [offS]
theorem allP_len (first : Int) (l : List Sn) : (allP first l).length = offS l := allFrom_len _ _ _
theorem allP_snoc (first : Int) {l : List Sn} {i : Nat} {m : Sn} (h : l[i]? = some m) : allP first (l.take (i + 1)) = allP first (l.take i) ++ pcsM first (offS (l.take i)) (ctr (l.take i) m.st) m := by
  unfold allP
  rw [List.take_add_one, h, allFrom_append]
  simp [allFrom]
theorem offS_snoc {l : List Sn} {i : Nat} {m : Sn} (h : l[i]? = some m) : offS (l.take (i + 1)) = offS (l.take i) + m.ps.length := by
  rw [List.take_add_one, h, offS_append]
  simp [offS]
theorem ctr_snoc {l : List Sn} {i : Nat} {m : Sn} (h : l[i]? = some m) (t : Nat) : ctr (l.take (i + 1)) t = ctr (l.take i) t + if !m.un && m.st == t then 1 else 0 := by
  unfold ctr
  rw [List.take_add_one, h, List.countP_append]
  simp [List.countP_cons]
theorem offS_mono (l : List Sn) {i j : Nat} (h : i ≤ j) : offS (l.take i) ≤ offS (l.take j) := by
  have : l.take j = l.take i ++ (l.drop i).take (j - i) := by rw [← List.take_add, show i + (j - i) = j by omega]
  rw [this, offS_append]
  omega
theorem offS_le (l : List Sn) (i : Nat) : offS (l.take i) ≤ offS l := by
  have := offS_append (l.take i) (l.drop i)
  rw [List.take_append_drop] at this
  omega
theorem allP_get (first : Int) {l : List Sn} {m k : Nat} {s : Sn} {q : Pt} (h : l[m]? = some s) (hq : s.ps[k]? = some q) : (allP first l)[offS (l.take m) + k]? = some (pcM first (offS (l.take m)) (ctr (l.take m) s.st) s k q) := by
  have hk := (List.getElem?_eq_some_iff.1 hq).1
  have e : l = l.take (m + 1) ++ l.drop (m + 1) := (List.take_append_drop _ _).symm
  have e2 : allP first l = allP first (l.take (m + 1)) ++ allFrom first (l.take (m + 1)) (l.drop (m + 1)) := by
    have h1 := allFrom_append first (l.take (m + 1)) (l.drop (m + 1)) []
    rw [List.take_append_drop, List.nil_append] at h1
    exact h1
  rw [e2, List.getElem?_append_left (by rw [allP_len, offS_snoc h]; omega), allP_snoc first h, List.getElem?_append_right (by rw [allP_len]; omega), allP_len, show offS (l.take m) + k - offS (l.take m) = k by omega]
  unfold pcsM
  rw [List.getElem?_mapIdx, hq]
  rfl
def ownS : List Sn → Nat → Nat
  | [], _ => 0
  | m :: l, i => if i < m.ps.length then 0 else ownS l (i - m.ps.length) + 1
theorem ownS_in : ∀ (l : List Sn) (i : Nat), i < offS l → ownS l i < l.length ∧ offS (l.take (ownS l i)) ≤ i ∧ i < offS (l.take (ownS l i + 1))
  | [], i, h => by simp [offS] at h
  | m :: l, i, h => by
    have hc : ∀ x : List Sn, offS (m :: x) = m.ps.length + offS x := fun x => by simp [offS]
    rw [hc] at h
    rw [ownS]
    split
    · rename_i hi
      refine ⟨by simp, by simp [offS], ?_⟩
      rw [List.take_succ_cons, hc]
      omega
    · rename_i hi
      obtain ⟨h1, h2, h3⟩ := ownS_in l (i - m.ps.length) (by omega)
      refine ⟨by simp; omega, ?_, ?_⟩
      · rw [List.take_succ_cons, hc]; omega
      · rw [List.take_succ_cons, hc]; omega
theorem ownS_eq (l : List Sn) {i m : Nat} (h1 : offS (l.take m) ≤ i) (h2 : i < offS (l.take (m + 1))) : ownS l i = m := by
  obtain ⟨_, h4, h5⟩ := ownS_in l i (Nat.lt_of_lt_of_le h2 (offS_le l _))
  rcases Nat.lt_trichotomy (ownS l i) m with h | h | h
  · have := offS_mono l (show ownS l i + 1 ≤ m by omega); omega
  · exact h
  · have := offS_mono l (show m + 1 ≤ ownS l i by omega); omega
/-- what the laws on orders ask for -/
def pcsOf (first : Int) (l : List Sn) : Pcs where
  N := offS l
  M := l.length
  first := first
  d := fun i => match (allP first l)[i]? with | some x => x.d | none => ⟨0, 0, 0, false, false, false, []⟩
  own := ownS l
  lo := fun m => offS (l.take m)
  hi := fun m => offS (l.take (m + 1)) - 1
  st := fun m => match l[m]? with | some s => s.st | none => 0
  un := fun m => match l[m]? with | some s => s.un | none => false
  rk := fun m => match l[m]? with | some s => ctr (l.take m) s.st | none => 0
theorem pcs_d (first : Int) {l : List Sn} {m k : Nat} {s : Sn} {q : Pt} (h : l[m]? = some s) (hq : s.ps[k]? = some q) : (pcsOf first l).d (offS (l.take m) + k) = (pcM first (offS (l.take m)) (ctr (l.take m) s.st) s k q).d := by
  show (match (allP first l)[offS (l.take m) + k]? with | some x => x.d | none => _) = _
  rw [allP_get first h hq]
theorem pcs_at (first : Int) {l : List Sn} {i : Nat} (hi : i < offS l) : ∃ s k q, l[ownS l i]? = some s ∧ s.ps[k]? = some q ∧ i = offS (l.take (ownS l i)) + k ∧ (pcsOf first l).d i = (pcM first (offS (l.take (ownS l i))) (ctr (l.take (ownS l i)) s.st) s k q).d ∧ (allP first l)[i]? = some (pcM first (offS (l.take (ownS l i))) (ctr (l.take (ownS l i)) s.st) s k q) := by
  obtain ⟨h1, h2, h3⟩ := ownS_in l i hi
  obtain ⟨s, hs⟩ : ∃ s, l[ownS l i]? = some s := ⟨l[ownS l i], by simp [h1]⟩
  rw [offS_snoc hs] at h3
  obtain ⟨q, hq⟩ : ∃ q, s.ps[i - offS (l.take (ownS l i))]? = some q := ⟨s.ps[i - offS (l.take (ownS l i))]'(by omega), by simp⟩
  have e : i = offS (l.take (ownS l i)) + (i - offS (l.take (ownS l i))) := by omega
  refine ⟨s, _, q, hs, hq, e, ?_, ?_⟩
  · conv => lhs; rw [e]
    exact pcs_d first hs hq
  · conv => lhs; rw [e]
    exact allP_get first hs hq
theorem ctr_rk {l : List Sn} {t : Nat} : ∀ (n r : Nat), r < ctr (l.take n) t → ∃ q s, q < n ∧ l[q]? = some s ∧ s.un = false ∧ s.st = t ∧ ctr (l.take q) t = r
  | 0, r, h => by simp [ctr] at h
  | n + 1, r, h => by
    cases hs : l[n]? with
    | none =>
      have hn := List.getElem?_eq_none_iff.1 hs
      rw [List.take_of_length_le (by omega)] at h
      obtain ⟨q, s, h1, h2⟩ := ctr_rk n r (by rw [List.take_of_length_le (by omega)]; exact h)
      exact ⟨q, s, by omega, h2⟩
    | some s =>
      rw [ctr_snoc hs] at h
      by_cases hr : r < ctr (l.take n) t
      · obtain ⟨q, s', h1, h2⟩ := ctr_rk n r hr
        exact ⟨q, s', by omega, h2⟩
      · split at h
        · rename_i hc
          simp at hc
          exact ⟨n, s, by omega, hs, hc.1, hc.2, by omega⟩
        · omega
theorem ctr_mono (l : List Sn) (t : Nat) {i j : Nat} (h : i ≤ j) : ctr (l.take i) t ≤ ctr (l.take j) t := by
  have : l.take j = l.take i ++ (l.drop i).take (j - i) := by rw [← List.take_add, show i + (j - i) = j by omega]
  rw [this]
  unfold ctr
  rw [List.countP_append]
  omega
theorem len_offS : ∀ {l : List Sn}, (∀ m ∈ l, m.ps ≠ []) → l.length ≤ offS l
  | [], _ => Nat.zero_le _
  | m :: l, h => by
    have h1 := List.length_pos_iff.2 (h m (by simp))
    have h2 := len_offS (l := l) (fun q hq => h q (by simp [hq]))
    simp [offS] at h2 ⊢
    omega
theorem pcs_ok (first : Int) {l : List Sn} (hp : ∀ m ∈ l, m.ps ≠ []) (hb : ∀ m ∈ l, ∀ q ∈ m.ps, q.bs ≠ []) (hn : offS l ≤ 1000) : (pcsOf first l).Ok := by
  have hpos : ∀ {m : Nat} {s : Sn}, l[m]? = some s → 0 < s.ps.length := fun {m s} h => List.length_pos_iff.2 (hp s (List.mem_of_getElem? h))
  have hget : ∀ {m : Nat}, m < l.length → ∃ s, l[m]? = some s := fun {m} h => ⟨l[m], by simp [h]⟩
  have hst : ∀ {m : Nat} {s : Sn}, l[m]? = some s → (pcsOf first l).st m = s.st := fun {m s} h => by show (match l[m]? with | some s => s.st | none => 0) = _; rw [h]
  have hun : ∀ {m : Nat} {s : Sn}, l[m]? = some s → (pcsOf first l).un m = s.un := fun {m s} h => by show (match l[m]? with | some s => s.un | none => false) = _; rw [h]
  have hrk : ∀ {m : Nat} {s : Sn}, l[m]? = some s → (pcsOf first l).rk m = ctr (l.take m) s.st := fun {m s} h => by show (match l[m]? with | some s => ctr (l.take m) s.st | none => 0) = _; rw [h]
  have hlen := len_offS hp
  refine ⟨hn, by show l.length ≤ _; omega, fun i hi => ?_, fun i m hm h1 h2 => ?_, fun m hm => ?_, fun i hi => ?_, fun i hi => ?_, fun i hi => ?_, fun i hi => ?_, fun i hi => ?_, fun i hi => ?_, fun i hi => ?_, fun m hm => ?_, fun m hm => ?_, fun m q hmq hq um uq hs => ?_, fun m hm um r hr => ?_⟩
  · obtain ⟨h1, h2, h3⟩ := ownS_in l i hi
    exact ⟨h1, h2, by show i ≤ offS (l.take (ownS l i + 1)) - 1; omega⟩
  · obtain ⟨s, hs⟩ := hget hm
    have := hpos hs
    have h2 : i ≤ offS (l.take (m + 1)) - 1 := h2
    refine ownS_eq l h1 ?_
    rw [offS_snoc hs] at h2 ⊢
    omega
  · obtain ⟨s, hs⟩ := hget hm
    have h1 := hpos hs
    have h2 := offS_snoc hs
    have h3 := offS_le l (m + 1)
    show offS (l.take m) ≤ offS (l.take (m + 1)) - 1 ∧ offS (l.take (m + 1)) - 1 < offS l
    omega
  · obtain ⟨s, k, q, hs, hq, e, hd, _⟩ := pcs_at first hi
    rw [hd]
    show u32 (first + u32 ((offS (l.take (ownS l i)) + k : Nat) : Int)) = u32 (first + i)
    rw [← e]
    simp only [u32_eq]
    omega
  · obtain ⟨s, k, q, hs, hq, e, hd, _⟩ := pcs_at first hi
    rw [hd]
    show decide (k = 0) = decide (i = offS (l.take (ownS l i)))
    exact decide_eq_decide.2 (by omega)
  · obtain ⟨s, k, q, hs, hq, e, hd, _⟩ := pcs_at first hi
    rw [hd]
    have h1 := hpos hs
    have h2 := offS_snoc hs
    show decide (k + 1 = s.ps.length) = decide (i = offS (l.take (ownS l i + 1)) - 1)
    exact decide_eq_decide.2 (by omega)
  · obtain ⟨s, k, q, hs, hq, e, hd, _⟩ := pcs_at first hi
    rw [hd, show (pcsOf first l).own i = ownS l i from rfl, hst hs]
    rfl
  · obtain ⟨s, k, q, hs, hq, e, hd, _⟩ := pcs_at first hi
    rw [hd, show (pcsOf first l).own i = ownS l i from rfl, hun hs]
    rfl
  · obtain ⟨s, k, q, hs, hq, e, hd, _⟩ := pcs_at first hi
    rw [hd, show (pcsOf first l).own i = ownS l i from rfl, hun hs, hrk hs]
    rfl
  · obtain ⟨s, k, q, hs, hq, e, hd, _⟩ := pcs_at first hi
    rw [hd]
    exact hb s (List.mem_of_getElem? hs) q (List.mem_of_getElem? hq)
  · obtain ⟨s, hs⟩ := hget hm
    rw [hst hs]
    exact st_lt s
  · obtain ⟨s, hs⟩ := hget hm
    rw [hrk hs]
    unfold ctr
    refine Nat.le_trans List.countP_le_length ?_
    rw [List.length_take]
    omega
  · obtain ⟨s, hs1⟩ := hget (m := m) (Nat.lt_trans hmq hq)
    obtain ⟨s', hs2⟩ := hget hq
    rw [hun hs1] at um
    rw [hst hs1, hst hs2] at hs
    rw [hrk hs1, hrk hs2, hs]
    have h1 := ctr_snoc hs1 s'.st
    rw [um, hs] at h1
    simp at h1
    have := ctr_mono l s'.st (show m + 1 ≤ q by omega)
    omega
  · obtain ⟨s, hs⟩ := hget hm
    rw [hrk hs] at hr
    obtain ⟨q, s', h1, h2, h3, h4, h5⟩ := ctr_rk m r hr
    exact ⟨q, h1, by rw [hun h2]; exact h3, by rw [hst h2, hst hs]; exact h4, by rw [hrk h2, h4]; exact h5⟩
theorem flat_eq {α β γ : Type} {f : α → List γ} {g : β → List γ} {a : List α} {b : List β} (hl : a.length = b.length) (h : ∀ (i : Nat) x y, a[i]? = some x → b[i]? = some y → f x = g y) : a.flatMap f = b.flatMap g := by
  rw [List.flatMap_def, List.flatMap_def]
  congr 1
  refine List.ext_getElem? (fun i => ?_)
  rw [List.getElem?_map, List.getElem?_map]
  cases ha : a[i]? with
  | none =>
    have := List.getElem?_eq_none_iff.1 ha
    rw [List.getElem?_eq_none_iff.2 (by omega)]
    rfl
  | some x =>
    cases hb : b[i]? with
    | none =>
      have h1 := List.getElem?_eq_none_iff.1 hb
      have h2 := (List.getElem?_eq_some_iff.1 ha).1
      omega
    | some y => simp [h i x y ha hb]
theorem pcs_msg (first : Int) {l : List Sn} (hp : ∀ m ∈ l, m.ps ≠ []) {m : Nat} {s : Sn} (hs : l[m]? = some s) : (pcsOf first l).msg m = s.mg := by
  have h1 : 0 < s.ps.length := List.length_pos_iff.2 (hp s (List.mem_of_getElem? hs))
  have h2 := offS_snoc hs
  have e1 : (pcsOf first l).st m = s.st := by show (match l[m]? with | some s => s.st | none => 0) = _; rw [hs]
  have e2 : (pcsOf first l).un m = s.un := by show (match l[m]? with | some s => s.un | none => false) = _; rw [hs]
  unfold Pcs.msg Sn.mg
  rw [e1, e2]
  congr 1
  refine flat_eq ?_ (fun i x y hx hy => ?_)
  · rw [List.length_range']
    show offS (l.take (m + 1)) - 1 + 1 - offS (l.take m) = _
    omega
  · obtain ⟨hi, rfl⟩ := List.getElem?_eq_some_iff.1 hx
    rw [List.getElem_range', Nat.one_mul]
    show ((pcsOf first l).d (offS (l.take m) + i)).bytes = _
    rw [pcs_d first hs hy]
    rfl

/-! ### how many pieces of a message did not come yet -/
def Pcs.left (p : Pcs) (X : Nat → Bool) (m : Nat) : Nat := (List.range p.N).countP (fun i => decide (p.own i = m) && !X i)
theorem Pcs.left_zero {p : Pcs} (h : p.Ok) {X : Nat → Bool} {m : Nat} (hm : m < p.M) : p.left X m = 0 ↔ p.full X m := by
  unfold Pcs.left Pcs.full
  rw [List.countP_eq_zero]
  constructor
  · intro hz i h1 h2
    obtain ⟨hi, ho⟩ := h.ofRange hm h1 h2
    have := hz i (List.mem_range.2 hi)
    simpa [ho] using this
  · intro hf i hi
    have hi := List.mem_range.1 hi
    by_cases ho : p.own i = m
    · have := h.own i hi
      rw [ho] at this
      simp [hf i this.2.1 this.2.2]
    · simp [ho]
theorem countP_one {q : Nat → Bool} {j : Nat} : ∀ (l : List Nat), l.Nodup → j ∈ l → q j = true → l.countP (fun i => q i && !decide (i = j)) + 1 = l.countP q
  | [], _, h, _ => by cases h
  | a :: l, hn, hj, hq => by
    rw [List.nodup_cons] at hn
    rw [List.countP_cons, List.countP_cons]
    by_cases ha : a = j
    · subst ha
      have : l.countP (fun i => q i && !decide (i = a)) = l.countP q := List.countP_congr (fun i hi => by
        have : i ≠ a := fun e => hn.1 (e ▸ hi)
        simp [this])
      rw [this, hq]
      simp
    · rcases List.mem_cons.1 hj with hj | hj
      · exact absurd hj.symm ha
      · have := countP_one l hn.2 hj hq
        simp only [ha, decide_false, Bool.not_false, Bool.and_true]
        omega
theorem Pcs.left_put {p : Pcs} {X : Nat → Bool} {j m : Nat} (hj : j < p.N) (hX : X j = false) : p.left (fun i => decide (i = j) || X i) m + (if p.own j = m then 1 else 0) = p.left X m := by
  unfold Pcs.left
  by_cases ho : p.own j = m
  · rw [if_pos ho]
    have := countP_one (q := fun i => decide (p.own i = m) && !X i) (List.range p.N) List.nodup_range (List.mem_range.2 hj) (by simp [ho, hX])
    rw [← this]
    congr 1
    refine List.countP_congr (fun i _ => ?_)
    by_cases hi : i = j <;> simp [hi]
  · rw [if_neg ho, Nat.add_zero]
    refine List.countP_congr (fun i _ => ?_)
    by_cases hi : i = j
    · subst hi; simp [ho]
    · simp [hi]

/-! ### an order that numbers tell -/
def turnK (order : List UInt8) (i : Nat) : Nat := match order[i]? with | some b => b.toNat % (i + 1) | none => 0
def turned (order : List UInt8) : Nat → List Nat
  | 0 => []
  | n + 1 => (turned order n).take (turnK order n) ++ [n] ++ (turned order n).drop (turnK order n)
theorem turned_perm (order : List UInt8) : ∀ n, (turned order n).Perm (List.range n)
  | 0 => .refl _
  | n + 1 => by
    rw [turned, List.range_succ]
    have h1 : ((turned order n).take (turnK order n) ++ [n] ++ (turned order n).drop (turnK order n)).Perm ((turned order n).take (turnK order n) ++ (turned order n).drop (turnK order n) ++ [n]) := by
      rw [List.append_assoc, List.append_assoc]
      exact (List.perm_append_comm (l₁ := [n])).append_left _
    rw [List.take_append_drop] at h1
    exact h1.trans ((turned_perm order n).append_right _)
theorem turned_len (order : List UInt8) (n : Nat) : (turned order n).length = n := by simpa using (turned_perm order n).length_eq
theorem turnK_le (order : List UInt8) (i : Nat) : turnK order i ≤ i := by
  unfold turnK
  split
  · have := Nat.mod_lt (‹UInt8›.toNat) (show 0 < i + 1 by omega); omega
  · omega
/-- what came behind so many -/
def cameX (at_ : List Nat) (i : Nat) (j : Nat) : Bool := (at_.take i).contains j
theorem came_succ {at_ : List Nat} {i j : Nat} (h : at_[i]? = some j) : cameX at_ (i + 1) = fun k => decide (k = j) || cameX at_ i k := by
  funext k
  unfold cameX
  rw [List.take_add_one, h]
  by_cases hk : k = j
  · subst hk; simp
  · have : ¬ (k == j) = true := by simpa using hk
    simp [hk]
theorem came_not {at_ : List Nat} (hn : at_.Nodup) {i j : Nat} (h : at_[i]? = some j) : cameX at_ i j = false := by
  unfold cameX
  rw [← Bool.not_eq_true, List.contains_iff_mem]
  intro hm
  obtain ⟨k, hk⟩ := List.getElem?_of_mem hm
  have hlt := (List.getElem?_eq_some_iff.1 hk).1
  rw [List.getElem?_take, if_pos (by simp at hlt; omega)] at hk
  simp at hlt
  have := (List.getElem?_inj (i := k) (j := i) (by omega) hn).1 (by rw [hk, h])
  omega
theorem mem_sum : ∀ {l : List Nat} {a : Nat}, a ∈ l → a ≤ l.sum
  | b :: l, a, h => by
    rw [List.sum_cons]
    rcases List.mem_cons.1 h with rfl | h
    · omega
    · have := mem_sum h; omega
/-- so many pieces of a message are among the first ones -/
def Pcs.among (p : Pcs) (i m : Nat) : Nat := (List.range i).countP (fun j => decide (p.own j = m))
theorem among_succ (p : Pcs) (i m : Nat) : p.among (i + 1) m = p.among i m + if p.own i = m then 1 else 0 := by
  unfold Pcs.among
  rw [List.range_succ, List.countP_append]
  simp [List.countP_cons]
theorem among_all (p : Pcs) (m : Nat) : p.among p.N m = p.left (fun _ => false) m := by
  unfold Pcs.among Pcs.left
  simp
theorem among_le (p : Pcs) (i m : Nat) : p.among i m ≤ i := by
  refine Nat.le_trans List.countP_le_length ?_
  simp
theorem left_le (p : Pcs) (X : Nat → Bool) (m : Nat) : p.left X m ≤ p.N := by
  refine Nat.le_trans List.countP_le_length ?_
  simp
def Pcs.ob (p : Pcs) (X : Nat → Bool) (m q : Nat) : Bool := !p.un m && !p.un q && decide (p.st q = p.st m) && decide (0 < p.left X q)
def Pcs.fineB (p : Pcs) (X : Nat → Bool) (m : Nat) : Bool := decide (p.left X m = 0) && (List.range m).all (fun q => !p.ob X m q)
theorem fineB_iff {p : Pcs} (h : p.Ok) {X : Nat → Bool} {m : Nat} (hm : m < p.M) : p.fineB X m = true ↔ p.fine X m := by
  unfold Pcs.fineB Pcs.fine
  rw [Bool.and_eq_true, decide_eq_true_eq, Pcs.left_zero h hm, List.all_eq_true]
  refine and_congr_right (fun _ => ?_)
  constructor
  · intro hq um q hqm uq hs
    have := hq q (List.mem_range.2 hqm)
    unfold Pcs.ob at this
    rw [um, uq] at this
    simp [hs] at this
    exact (Pcs.left_zero h (by omega)).1 this
  · intro hf q hq
    have hq := List.mem_range.1 hq
    unfold Pcs.ob
    cases um : p.un m with
    | true => simp
    | false =>
      cases uq : p.un q with
      | true => simp
      | false =>
        by_cases hs : p.st q = p.st m
        · have := (Pcs.left_zero h (by omega)).2 (hf um q hq uq hs)
          simp [this]
        · simp [hs]
theorem ready_count {p : Pcs} (h : p.Ok) {X : Nat → Bool} {R : List Nat} {K : Nat → Nat} {s : Rm.S} (i : p.Inv X R K s) (hu : p.satU X R) (ho : ∀ t, t < 4 → p.satO X K t) : R.length = (List.range p.M).countP (p.fineB X) := by
  rw [List.countP_eq_length_filter]
  refine ((List.perm_ext_iff_of_nodup i.nd (List.nodup_range.sublist List.filter_sublist)).2 (fun m => ?_)).length_eq
  rw [List.mem_filter, List.mem_range]
  constructor
  · intro hr
    have hm := (i.rl m hr).1
    exact ⟨hm, (fineB_iff h hm).2 ((i.fine h hu ho hm).1 hr)⟩
  · rintro ⟨hm, hf⟩
    exact (i.fine h hu ho hm).2 ((fineB_iff h hm).1 hf)
/-- the pieces' lengths -/
theorem piece_len {first : Int} {l : List Sn} {i : Nat} {x : PM} (h : (allP first l)[i]? = some x) : x.d.bytes.length ≤ (l.map (fun m => (m.ps.map (·.bs.length)).sum)).sum := by
  have hi := (List.getElem?_eq_some_iff.1 h).1
  rw [allP_len] at hi
  obtain ⟨s, k, q, hs, hq, _, _, hx⟩ := pcs_at first hi
  rw [h] at hx
  cases hx
  have h1 : q.bs.length ≤ (s.ps.map (·.bs.length)).sum := mem_sum (List.mem_map.2 ⟨q, List.mem_of_getElem? hq, rfl⟩)
  have h2 : (s.ps.map (·.bs.length)).sum ≤ (l.map (fun m => (m.ps.map (·.bs.length)).sum)).sum := mem_sum (List.mem_map.2 ⟨s, List.mem_of_getElem? hs, rfl⟩)
  exact Nat.le_trans h1 h2
theorem own_zero {l : List Sn} (hp : ∀ m ∈ l, m.ps ≠ []) : ownS l 0 = 0 := by
  cases l with
  | nil => rfl
  | cons m l =>
    rw [ownS, if_pos (List.length_pos_iff.2 (hp m (by simp)))]
theorem own_step (first : Int) {l : List Sn} (hp : ∀ m ∈ l, m.ps ≠ []) {i : Nat} (hi : i < offS l) : (if i + 1 < offS l then ownS l (i + 1) else l.length) = ownS l i + if ((pcsOf first l).d i).la then 1 else 0 := by
  obtain ⟨h1, h2, h3⟩ := ownS_in l i hi
  obtain ⟨s, k, q, hs, hq, e, hd, _⟩ := pcs_at first hi
  have h4 := offS_snoc hs
  have hla : ((pcsOf first l).d i).la = decide (k + 1 = s.ps.length) := by rw [hd]; rfl
  have hle := offS_le l (ownS l i + 1)
  rw [hla]
  by_cases hk : k + 1 = s.ps.length
  · rw [show (if decide (k + 1 = s.ps.length) = true then 1 else 0) = 1 from if_pos (by simpa using hk)]
    cases hn : l[ownS l i + 1]? with
    | none =>
      have hn := List.getElem?_eq_none_iff.1 hn
      rw [List.take_of_length_le (by omega)] at h4
      rw [if_neg (by omega)]
      omega
    | some s' =>
      have h5 := offS_snoc hn
      have h6 := List.length_pos_iff.2 (hp s' (List.mem_of_getElem? hn))
      have h7 := offS_le l (ownS l i + 1 + 1)
      rw [if_pos (by omega)]
      exact ownS_eq l (by omega) (by omega)
  · have h8 := (List.getElem?_eq_some_iff.1 hq).1
    rw [show (if decide (k + 1 = s.ps.length) = true then 1 else 0) = 0 from if_neg (by simpa using hk), if_pos (by omega)]
    exact ownS_eq l (m := ownS l i) (by omega) (by omega)
theorem ob_eq (p : Pcs) (X : Nat → Bool) (m q : Nat) : p.ob X m q = ((!p.un m) && (!p.un q) && (((p.st q : Nat) : Int) == ((p.st m : Nat) : Int)) && decide (((p.left X q : Nat) : Int) > 0)) := by
  unfold Pcs.ob
  congr 1
  · congr 1
    rw [Bool.eq_iff_iff]
    simp
    omega
  · exact decide_eq_decide.2 (by omega)
theorem all_succ (f : Nat → Bool) (q : Nat) : (List.range (q + 1)).all f = ((List.range q).all f && f q) := by
  rw [List.range_succ, List.all_append]
  simp
theorem cnt_succ (f : Nat → Bool) (m : Nat) : (List.range (m + 1)).countP f = (List.range m).countP f + if f m then 1 else 0 := by
  rw [List.range_succ, List.countP_append]
  simp [List.countP_cons]
end Go.Rm
