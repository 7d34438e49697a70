/- A receiver to which small pieces come, in plain Lean: which came, as a row of truth values; what is held and due. Conditions: the row has 300 places. -/
import Derived.Test.YthjglhdjlmjffaaRcP
import Derived.Test.YthjglhdjlmjffaaBa
namespace Go.Rcv
open Go Spn

/-- is one true from a place on? -/
def anyF (A : List Bool) (c : Nat) : Bool := (A.drop c).any id
def setOf (first : Int) (A : List Bool) (c : Nat) : Spn.S := ⟨u32 (first + c - 1), fun d => decide (1 ≤ d) && A.getD (c + d - 1) false⟩
/-- the first place from one on that is false -/
def nextF (A : List Bool) (c : Nat) : Nat := c + ((A.drop c).takeWhile id).length
theorem takeWhile_spec : ∀ (l : List Bool) (j : Nat), (j < (l.takeWhile id).length → l.getD j false = true) ∧ l.getD (l.takeWhile id).length false = false
  | [], j => by simp
  | a :: l, j => by
    cases a with
    | false => simp
    | true =>
      have h := takeWhile_spec l
      simp only [List.takeWhile_cons, id, if_true, List.length_cons]
      refine ⟨fun hj => ?_, by simpa using (h 0).2⟩
      cases j with
      | zero => rfl
      | succ j => simpa using (h j).1 (by omega)
theorem getD_drop (A : List Bool) (c j : Nat) : (A.drop c).getD j false = A.getD (c + j) false := by
  simp [List.getD_eq_getElem?_getD, List.getElem?_drop]
theorem nextF_le (A : List Bool) (c : Nat) : c ≤ nextF A c := by unfold nextF; omega
theorem nextF_in {A : List Bool} {c q : Nat} (h1 : c ≤ q) (h2 : q < nextF A c) : A.getD q false = true := by
  unfold nextF at h2
  have := (takeWhile_spec (A.drop c) (q - c)).1 (by omega)
  rw [getD_drop, show c + (q - c) = q by omega] at this
  exact this
theorem nextF_stop (A : List Bool) (c : Nat) : A.getD (nextF A c) false = false := by
  have := (takeWhile_spec (A.drop c) 0).2
  rw [getD_drop] at this
  exact this
theorem getD_lt {A : List Bool} {j : Nat} (h : A.getD j false = true) : j < A.length := by
  rcases Nat.lt_or_ge j A.length with h1 | h1
  · exact h1
  · rw [List.getD_eq_getElem?_getD, List.getElem?_eq_none h1] at h; cases h
theorem nextF_lt {A : List Bool} {c : Nat} (hc : c ≤ A.length) : nextF A c ≤ A.length := by
  unfold nextF
  have := (List.takeWhile_prefix (l := A.drop c) id).length_le
  rw [List.length_drop] at this
  omega
theorem setOf_ok (first : Int) {A : List Bool} (hA : A.length ≤ 300) (c : Nat) : (setOf first A c).ok := by
  refine ⟨u32_rng _, fun d hd => ?_⟩
  unfold setOf at hd
  simp only [Bool.and_eq_true, decide_eq_true_eq] at hd
  have := getD_lt hd.2
  omega
theorem setOf_tsn (first : Int) (A : List Bool) (c j : Nat) : u32 (first + u32 ((c + j : Nat) : Int)) = u32 ((setOf first A c).b + (j + 1 : Nat)) := by
  unfold setOf
  simp only [u32_eq]
  omega
theorem look_set (first : Int) {A : List Bool} (c j : Nat) (hj : j ≤ 300) : Spn.look (setOf first A c) (u32 (first + u32 ((c + j : Nat) : Int))) = if A.getD (c + j) false then 1 else 0 := by
  rw [setOf_tsn first A c j]
  unfold Spn.look
  rw [far_from (j + 1) (by omega), inW_iff.2 (by omega), if_pos rfl]
  have : (setOf first A c).p (j + 1) = A.getD (c + j) false := by
    unfold setOf
    dsimp only
    rw [show decide (1 ≤ j + 1) = true by simp, Bool.true_and, show c + (j + 1) - 1 = c + j by omega]
  rw [this]
theorem setOf_shift (first : Int) {A : List Bool} (hA : A.length ≤ 300) (c n : Nat) : shift (setOf first A c) n = setOf first A (c + n) := by
  refine S.ext ?_ (fun d => ?_)
  · unfold shift setOf
    dsimp only
    simp only [u32_eq]
    omega
  · unfold shift setOf
    dsimp only
    by_cases h1 : 1 ≤ d
    · rw [show c + (d + n) - 1 = c + n + d - 1 by omega, show decide (1 ≤ d + n) = true from decide_eq_true (by omega), show decide (1 ≤ d) = true from decide_eq_true h1]
      by_cases h2 : d ≤ 4096
      · rw [inW_iff.2 ⟨h1, h2⟩, Bool.true_and]
      · have : A.getD (c + n + d - 1) false = false := by
          cases h : A.getD (c + n + d - 1) false with
          | false => rfl
          | true => have := getD_lt h; omega
        rw [this]
        simp
    · have : d = 0 := by omega
      subst this
      rfl
theorem setOf_fol (first : Int) {A : List Bool} (hA : A.length ≤ 300) {c : Nat} : fol (setOf first A c) = nextF A c - c := by
  have hle := nextF_le A c
  refine fol_is (setOf_ok first hA c) (fun k h1 h2 => ?_) ?_
  · unfold setOf
    dsimp only
    rw [show decide (1 ≤ k) = true by simpa using h1, Bool.true_and]
    exact nextF_in (c := c) (by omega) (by omega)
  · unfold setOf
    dsimp only
    rw [show c + (nextF A c - c + 1) - 1 = nextF A c by omega, nextF_stop, Bool.and_false]
theorem setOf_settle (first : Int) {A : List Bool} (hA : A.length ≤ 300) (c : Nat) : Spn.settle (setOf first A c) = setOf first A (nextF A c) := by
  unfold Spn.settle
  rw [setOf_fol first hA, setOf_shift first hA]
  have := nextF_le A c
  rw [show c + (nextF A c - c) = nextF A c by omega]
theorem setOf_add (first : Int) {A : List Bool} (c j : Nat) (hj : j ≤ 300) (hk : c + j < A.length) : add (setOf first A c) (u32 (first + u32 ((c + j : Nat) : Int))) = setOf first (A.set (c + j) true) c := by
  rw [setOf_tsn first A c j]
  refine S.ext (by rw [add_b]; rfl) (fun e => ?_)
  rw [add_p (by omega)]
  unfold setOf
  dsimp only
  by_cases he : e = j + 1
  · subst he
    rw [show c + (j + 1) - 1 = c + j by omega]
    simp [List.getD_eq_getElem?_getD, hk]
  · by_cases h1 : 1 ≤ e
    · have hne : c + j ≠ c + e - 1 := by omega
      simp [List.getD_eq_getElem?_getD, List.getElem?_set_ne hne, he]
    · have : e = 0 := by omega
      subst this
      simp
theorem take_set (first : Int) {A : List Bool} (hA : A.length ≤ 300) (c j : Nat) (hj : j ≤ 300) (hk : c + j < A.length) (hf : A.getD (c + j) false = false) :
    takeS (setOf first A c) (u32 (first + u32 ((c + j : Nat) : Int))) = setOf first (A.set (c + j) true) (nextF (A.set (c + j) true) c) := by
  unfold takeS
  rw [look_set first c j hj, hf, if_pos (by simp), setOf_add first c j hj hk, setOf_settle first (by rw [List.length_set]; exact hA)]
theorem holes_set (first : Int) {A : List Bool} (hA : A.length ≤ 300) (c : Nat) : holes (setOf first A c) = anyF A c := by
  unfold holes
  have h1 : (0 < Spn.count (setOf first A c)) ↔ anyF A c = true := by
    unfold Spn.count
    rw [List.length_pos_iff_exists_mem]
    unfold anyF
    rw [List.any_eq_true]
    constructor
    · rintro ⟨d, hd⟩
      obtain ⟨_, hp⟩ := mem_dist.1 hd
      unfold setOf at hp
      simp only [Bool.and_eq_true, decide_eq_true_eq] at hp
      refine ⟨true, ?_, rfl⟩
      have hlt := getD_lt hp.2
      have h2 : A[c + d - 1]? = some true := by
        rw [List.getD_eq_getElem?_getD, List.getElem?_eq_getElem hlt] at hp
        rw [List.getElem?_eq_getElem hlt]
        simpa using hp.2
      have h3 : (A.drop c)[d - 1]? = some true := by rw [List.getElem?_drop, show c + (d - 1) = c + d - 1 by omega]; exact h2
      exact List.mem_of_getElem? h3
    · rintro ⟨x, hx, hx2⟩
      have hx3 : x = true := hx2
      subst hx3
      obtain ⟨i, hi⟩ := List.getElem?_of_mem hx
      rw [List.getElem?_drop] at hi
      have hlt := (List.getElem?_eq_some_iff.1 hi).1
      refine ⟨i + 1, mem_dist.2 ⟨by omega, ?_⟩⟩
      unfold setOf
      dsimp only
      rw [show c + (i + 1) - 1 = c + i by omega, List.getD_eq_getElem?_getD, hi]
      simp
  cases h : anyF A c with
  | true => exact decide_eq_true (h1.2 h)
  | false => exact decide_eq_false (fun hh => by rw [h1.1 hh] at h; cases h)
/-- one more place is looked at -/
theorem anyF_step {A : List Bool} {c : Nat} (h : c < A.length) : anyF A c = (A.getD c false || anyF A (c + 1)) := by
  unfold anyF
  rw [List.drop_eq_getElem_cons h, List.any_cons, List.getD_eq_getElem?_getD, List.getElem?_eq_getElem h]
  rfl
theorem anyF_end {A : List Bool} {c : Nat} (h : A.length ≤ c) : anyF A c = false := by
  unfold anyF
  rw [List.drop_eq_nil_iff.2 h]
  rfl
theorem anyF_at {A : List Bool} {c j : Nat} (h : A.getD (c + j) false = true) : anyF A c = true := by
  unfold anyF
  rw [List.any_eq_true]
  have hlt := getD_lt h
  refine ⟨true, ?_, rfl⟩
  refine List.mem_of_getElem? (i := j) ?_
  rw [List.getElem?_drop]
  rw [List.getD_eq_getElem?_getD, List.getElem?_eq_getElem hlt] at h
  rw [List.getElem?_eq_getElem hlt]
  simpa using h
/-! ### a small piece comes -/
def ten : List UInt8 := List.replicate 10 0
def small (t : Int) : Rm.D := ⟨t, 0, 0, true, true, true, ten⟩
def noW : Rm.S := ⟨[], [], [0, 0]⟩
def oneW : Rm.S := ⟨[], [⟨0, false, ten⟩], [0, 0]⟩
theorem put_small (t : Int) : Rm.put noW (small t) = oneW := by
  have hE : Rm.putE noW (small t) = 0 := rfl
  unfold Rm.put
  rw [if_pos hE]
  have hw : Rm.whole (noW.L ++ [small t]) (small t) = some (t, t) := rfl
  unfold Rm.put1
  rw [if_pos (show (small t).un = true from rfl), hw]
  have hat : Rm.at? [small t] t = some (small t) := by unfold Rm.at? small; simp
  have hr : Rm.ready (noW.L ++ [small t]) noW.row t t = ([], [⟨0, false, ten⟩]) := by
    show Rm.ready [small t] [] t t = _
    unfold Rm.ready
    dsimp only
    rw [hat, show Rm.gath ((Rm.u32 (t - t)).toNat + 1) [small t] t t [] = (ten, []) from by
      rw [Rm.gath, if_pos (by simp), hat]
      simp [small]]
    rfl
  dsimp only
  rw [hr]
  rfl
def soonS (first : Int) (A : List Bool) (c : Nat) (ds : List Int) (h f : Int) : S := ⟨setOf first A c, ds, ⟨5, h, f, false⟩, noW, 4128, 25, false, false⟩
structure SoonQ (first : Int) (A : List Bool) (c j : Nat) (h f now : Int) (s : S) : Prop where
  m : s.m = setOf first (A.set (c + j) true) (nextF (A.set (c + j) true) c)
  d : s.d = ⟨5, h + 1, if h = 0 then now else f, anyF A c || anyF (A.set (c + j) true) (nextF (A.set (c + j) true) c) || A.getD (c + j) false⟩
  w : (Rm.take s.w).2 = noW
  room : s.room = 4128
  most : s.most = 25
  came : s.came = false
  urg : s.urg = false
theorem set_same {A : List Bool} {k : Nat} (h : A.getD k false = true) : A.set k true = A := by
  have hlt := getD_lt h
  refine List.ext_getElem (by simp) (fun i h1 h2 => ?_)
  rw [List.getElem_set]
  split
  · rename_i he
    subst he
    rw [List.getD_eq_getElem?_getD, List.getElem?_eq_getElem hlt] at h
    simpa using h.symm
  · rfl
theorem nextF_same {A : List Bool} {c : Nat} (h : A.getD c false = false) : nextF A c = c := by
  have h1 := nextF_le A c
  rcases Nat.lt_or_ge c (nextF A c) with h2 | h2
  · rw [nextF_in (Nat.le_refl c) h2] at h; cases h
  · omega
theorem soon_step (first : Int) {A : List Bool} (hA : A.length = 300) {c j : Nat} (hj : j ≤ 3) (hk : c + j < 300) (hc : A.getD c false = false) (ds : List Int) (h f now : Int) (hh : h = 0 ∨ h = 1) (hn : 0 ≤ now ∧ now ≤ 1000000) :
    SoonQ first A c j h f now (fin (data (soonS first A c ds h f) (small (u32 (first + u32 ((c + j : Nat) : Int))))) now) := by
  have hcl : Del.clamp now = now := by
    have hl : Del.low now = now := by unfold Del.low; rw [if_neg (by omega)]
    unfold Del.clamp
    rw [hl]
    split <;> omega
  have hmany : (if (2 : Int) < h + 1 then 2 else h + 1) = h + 1 := if_neg (by omega)
  have hl1 := look_set first (A := A) c j (by omega)
  have ht1 := take_set first (A := A) (by omega) c j (by omega) (by omega)
  generalize u32 (first + u32 ((c + j : Nat) : Int)) = t at hl1 ht1 ⊢
  have hb : ¬ (small t).bytes = [] := by simp [small, ten]
  cases hf : A.getD (c + j) false with
  | true =>
    have hlk : Spn.look (soonS first A c ds h f).m (small t).tsn = 1 := by show Spn.look (setOf first A c) t = 1; rw [hl1, hf]; rfl
    have e : data (soonS first A c ds h f) (small t) = { soonS first A c ds h f with ds := takeD (setOf first A c) ds t, came := true, urg := true } := by
      unfold data
      rw [if_neg hb, if_pos hlk]
      rfl
    rw [e]
    refine ⟨?_, ?_, rfl, rfl, rfl, rfl, rfl⟩
    · rw [set_same hf, nextF_same hc]; rfl
    · rw [set_same hf, nextF_same hc, hf, Bool.or_true]
      unfold fin soonS Del.packet
      dsimp only
      rw [if_pos rfl, hmany, hcl]
      rfl
  | false =>
    have hlk : Spn.look (soonS first A c ds h f).m (small t).tsn = 0 := by show Spn.look (setOf first A c) t = 0; rw [hl1, hf]; rfl
    have htk := ht1 hf
    have hfu : full (soonS first A c ds h f) (small t) = false := rfl
    have e : data (soonS first A c ds h f) (small t) = { soonS first A c ds h f with m := setOf first (A.set (c + j) true) (nextF (A.set (c + j) true) c), w := oneW, came := true, urg := anyF A c || anyF (A.set (c + j) true) (nextF (A.set (c + j) true) c) } := by
      unfold data
      rw [if_neg hb, if_neg (by rw [hlk]; decide), if_neg (by rw [hlk]; decide), if_neg (by rw [hfu]; decide)]
      have e1 : takeS (soonS first A c ds h f).m (small t).tsn = setOf first (A.set (c + j) true) (nextF (A.set (c + j) true) c) := htk
      have e2 : Rm.put (soonS first A c ds h f).w (small t) = oneW := put_small _
      rw [e1, e2, show (soonS first A c ds h f).m = setOf first A c from rfl, holes_set first (by omega), holes_set first (by rw [List.length_set]; omega)]
      rfl
    rw [e]
    refine ⟨rfl, ?_, rfl, rfl, rfl, rfl, rfl⟩
    rw [hf, Bool.or_false]
    unfold fin soonS Del.packet
    dsimp only
    rw [if_pos rfl, hmany, hcl, Bool.false_or]
def soonD (A : List Bool) (c j : Nat) (h f now : Int) : Bool := anyF A c || anyF (A.set (c + j) true) (nextF (A.set (c + j) true) c) || A.getD (c + j) false || decide (h + 1 ≥ 2) || decide (now ≥ (if h = 0 then now else f) + 5)
theorem soon_due {first : Int} {A : List Bool} {c j : Nat} {h f now : Int} {s : S} (q : SoonQ first A c j h f now s) (hh : h = 0 ∨ h = 1) : Del.due s.d now = soonD A c j h f now := by
  rw [q.d]
  unfold Del.due soonD
  dsimp only
  have e0 : decide (h + 1 ≠ 0) = true := decide_eq_true (by omega)
  have e1 : decide (1 < h + 1) = decide (h + 1 ≥ 2) := decide_eq_decide.2 (by omega)
  rw [e0, e1, Bool.true_and]
theorem S.eq {s t : S} (h1 : s.m = t.m) (h2 : s.ds = t.ds) (h3 : s.d = t.d) (h4 : s.w = t.w) (h5 : s.room = t.room) (h6 : s.most = t.most) (h7 : s.came = t.came) (h8 : s.urg = t.urg) : s = t := by
  cases s; cases t; simp_all
theorem soon_not {first : Int} {A : List Bool} {c j : Nat} {h f now : Int} {s : S} (q : SoonQ first A c j h f now s) (hd : soonD A c j h f now = false) :
    take s = soonS first (A.set (c + j) true) (nextF (A.set (c + j) true) c) s.ds (h + 1) (if h = 0 then now else f) := by
  refine S.eq q.m rfl ?_ q.w q.room q.most q.came q.urg
  show s.d = _
  rw [q.d]
  unfold soonD at hd
  simp only [Bool.or_eq_false_iff] at hd
  obtain ⟨⟨⟨⟨h1, h2⟩, h3⟩, _⟩, _⟩ := hd
  rw [h1, h2, h3]
  rfl
theorem soon_yes {first : Int} {A : List Bool} {c j : Nat} {h f now : Int} {s : S} (q : SoonQ first A c j h f now s) : take (sack s) = soonS first (A.set (c + j) true) (nextF (A.set (c + j) true) c) [] 0 (if h = 0 then now else f) := by
  refine S.eq q.m rfl ?_ q.w q.room q.most q.came q.urg
  show Del.sent s.d = _
  rw [q.d]
  rfl
theorem nextF_le_of {A : List Bool} {c j : Nat} (h : A.getD j false = false) (hc : c ≤ j) : nextF A c ≤ j := by
  rcases Nat.lt_or_ge j (nextF A c) with h1 | h1
  · rw [nextF_in hc h1] at h; cases h
  · exact h1
theorem set_getD {A : List Bool} {k q : Nat} (h : q ≠ k) : (A.set k true).getD q false = A.getD q false := by
  rw [List.getD_eq_getElem?_getD, List.getElem?_set_ne (by omega), ← List.getD_eq_getElem?_getD]
theorem soon_begin (first : Int) : (⟨⟨u32 (first - 1), fun _ => false⟩, [], ⟨5, 0, 0, false⟩, ⟨[], [], [0, 0]⟩, 4128, 25, false, false⟩ : S) = soonS first (List.replicate 300 false) 0 [] 0 0 := by
  unfold soonS
  have : (⟨u32 (first - 1), fun _ => false⟩ : Spn.S) = setOf first (List.replicate 300 false) 0 := by
    refine S.ext (by unfold setOf; dsimp only; simp only [u32_eq]; omega) (fun d => ?_)
    unfold setOf
    dsimp only
    have : (List.replicate 300 false).getD (0 + d - 1) false = false := by
      cases h : (List.replicate 300 false).getD (0 + d - 1) false with
      | false => rfl
      | true =>
        have hlt := getD_lt h
        rw [List.length_replicate] at hlt
        rw [List.getD_eq_getElem?_getD, List.getElem?_replicate, if_pos hlt] at h
        exact h.symm
    rw [this, Bool.and_false]
  rw [this]
  rfl
end Go.Rcv
