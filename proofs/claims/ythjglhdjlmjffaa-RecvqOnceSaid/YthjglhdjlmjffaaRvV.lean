/- The reassembler in plain Lean: messages that were sent as pieces, one behind the other: what is ready behind which pieces; two streams. No conditions: definitions and laws. -/
import Derived.Test.YthjglhdjlmjffaaBa
namespace Go.Rm
open Go

/-- messages in pieces: so many pieces, so many messages; each piece, the message that it is of; each message's first and last piece, its stream, and how many ordered ones are ahead of it there -/
structure Pcs where
  N : Nat
  M : Nat
  first : Int
  d : Nat → D
  own : Nat → Nat
  lo : Nat → Nat
  hi : Nat → Nat
  st : Nat → Nat
  un : Nat → Bool
  rk : Nat → Nat
structure Pcs.Ok (p : Pcs) : Prop where
  n : p.N ≤ 1000
  m : p.M ≤ 1000
  own : ∀ i, i < p.N → p.own i < p.M ∧ p.lo (p.own i) ≤ i ∧ i ≤ p.hi (p.own i)
  uniq : ∀ i m, m < p.M → p.lo m ≤ i → i ≤ p.hi m → p.own i = m
  hi : ∀ m, m < p.M → p.lo m ≤ p.hi m ∧ p.hi m < p.N
  tsn : ∀ i, i < p.N → (p.d i).tsn = u32 (p.first + i)
  fi : ∀ i, i < p.N → (p.d i).fi = decide (i = p.lo (p.own i))
  la : ∀ i, i < p.N → (p.d i).la = decide (i = p.hi (p.own i))
  stream : ∀ i, i < p.N → (p.d i).stream = (p.st (p.own i) : Int)
  un : ∀ i, i < p.N → (p.d i).un = p.un (p.own i)
  ssn : ∀ i, i < p.N → (p.d i).ssn = if p.un (p.own i) then 0 else (p.rk (p.own i) : Int)
  bytes : ∀ i, i < p.N → (p.d i).bytes ≠ []
  st : ∀ m, m < p.M → p.st m < 2
  rkb : ∀ m, m < p.M → p.rk m ≤ m
  rkm : ∀ m q, m < q → q < p.M → p.un m = false → p.un q = false → p.st m = p.st q → p.rk m < p.rk q
  rkn : ∀ m, m < p.M → p.un m = false → ∀ r, r < p.rk m → ∃ q, q < m ∧ p.un q = false ∧ p.st q = p.st m ∧ p.rk q = r
section
variable {p : Pcs} (h : p.Ok)
def Pcs.msg (p : Pcs) (m : Nat) : Mg := ⟨p.st m, !p.un m, (List.range' (p.lo m) (p.hi m + 1 - p.lo m)).flatMap (fun i => (p.d i).bytes)⟩
/-- pieces that are of these -/
def Pcs.Of (p : Pcs) (L : List D) : Prop := ∀ e ∈ L, ∃ i, i < p.N ∧ e = p.d i
include h
theorem Pcs.Ok.inj {i j : Nat} (hi : i < p.N) (hj : j < p.N) (he : (p.d i).tsn = (p.d j).tsn) : i = j := by
  have := h.n
  rw [h.tsn i hi, h.tsn j hj] at he
  simp only [u32_eq] at he
  omega
theorem Pcs.Ok.pred {i : Nat} (hi : i + 1 < p.N) : u32 ((p.d (i + 1)).tsn - 1) = (p.d i).tsn := by
  rw [h.tsn _ hi, h.tsn i (by omega)]
  simp only [u32_eq]
  omega
theorem Pcs.Ok.succ {i : Nat} (hi : i + 1 < p.N) : u32 ((p.d i).tsn + 1) = (p.d (i + 1)).tsn := by
  rw [h.tsn _ hi, h.tsn i (by omega)]
  simp only [u32_eq]
  omega
theorem Pcs.Ok.at_none {L : List D} (ho : p.Of L) {i : Nat} (hi : i < p.N) (hm : p.d i ∉ L) : at? L (p.d i).tsn = none := by
  cases ha : at? L (p.d i).tsn with
  | none => rfl
  | some e =>
    obtain ⟨h1, h2⟩ := at_mem ha
    obtain ⟨j, hj, rfl⟩ := ho e h1
    have := h.inj hj hi h2
    subst this
    exact absurd h1 hm
theorem Pcs.Ok.mates {i j : Nat} (hi : i < p.N) (hj : j < p.N) (he : p.own i = p.own j) : mates (p.d i) (p.d j) = true := by
  unfold Rm.mates
  rw [h.stream i hi, h.stream j hj, h.ssn i hi, h.ssn j hj, h.un i hi, h.un j hj, he]
  simp
theorem Pcs.Ok.ofRange {m j : Nat} (hm : m < p.M) (h1 : p.lo m ≤ j) (h2 : j ≤ p.hi m) : j < p.N ∧ p.own j = m := ⟨by have := (h.hi m hm).2; omega, h.uniq j m hm h1 h2⟩
theorem Pcs.Ok.back_all {L : List D} (hg : good L) {m i0 : Nat} (hm : m < p.M) (hi0 : i0 < p.N) (ho0 : p.own i0 = m) :
    ∀ (k i : Nat), i = p.lo m + k → i ≤ p.hi m → (∀ j, p.lo m ≤ j → j < i → p.d j ∈ L) → ∀ n, k < n → back L (p.d i0) n (p.d i).tsn (p.d i) = some (p.d (p.lo m)).tsn
  | 0, i, hik, hle, _, n, hn => by
    obtain ⟨n, rfl⟩ : ∃ n', n = n' + 1 := ⟨n - 1, by omega⟩
    obtain ⟨hiN, how⟩ := h.ofRange hm (by omega) hle
    have hil : i = p.lo m := by omega
    rw [back, if_pos (by rw [h.fi i hiN, how]; simpa using hil), hil]
  | k + 1, i, hik, hle, hall, n, hn => by
    obtain ⟨n, rfl⟩ : ∃ n', n = n' + 1 := ⟨n - 1, by omega⟩
    obtain ⟨hiN, how⟩ := h.ofRange hm (by omega) hle
    obtain ⟨i, rfl⟩ : ∃ i', i = i' + 1 := ⟨i - 1, by omega⟩
    obtain ⟨hiN', how'⟩ := h.ofRange hm (j := i) (by omega) (by omega)
    rw [back, if_neg (by rw [h.fi _ hiN, how]; simp; omega), h.pred hiN, at_of_mem hg.keys (hall i (by omega) (by omega))]
    dsimp only
    rw [h.mates hiN' hi0 (how'.trans ho0.symm), if_neg (by rw [h.la i hiN', how']; simp; omega)]
    exact Pcs.Ok.back_all hg hm hi0 ho0 k i (by omega) (by omega) (fun j h1 h2 => hall j h1 (by omega)) n (by omega)
theorem Pcs.Ok.back_none {L : List D} (hg : good L) (ho : p.Of L) {m i0 j : Nat} (hm : m < p.M) (hi0 : i0 < p.N) (ho0 : p.own i0 = m) (hj : p.d j ∉ L) (hjl : p.lo m ≤ j) :
    ∀ (n i : Nat), j < i → i ≤ p.hi m → back L (p.d i0) n (p.d i).tsn (p.d i) = none
  | 0, _, _, _ => rfl
  | n + 1, i, hji, hle => by
    obtain ⟨hiN, how⟩ := h.ofRange hm (j := i) (by omega) hle
    obtain ⟨i, rfl⟩ : ∃ i', i = i' + 1 := ⟨i - 1, by omega⟩
    obtain ⟨hiN', how'⟩ := h.ofRange hm (j := i) (by omega) (by omega)
    rw [back, if_neg (by rw [h.fi _ hiN, how]; simp; omega), h.pred hiN]
    by_cases hmem : p.d i ∈ L
    · rw [at_of_mem hg.keys hmem]
      dsimp only
      rw [h.mates hiN' hi0 (how'.trans ho0.symm), if_neg (by rw [h.la i hiN', how']; simp; omega)]
      have : j ≠ i := fun e => hj (e ▸ hmem)
      exact Pcs.Ok.back_none hg ho hm hi0 ho0 hj hjl n i (by omega) (by omega)
    · rw [h.at_none ho hiN' hmem]
theorem Pcs.Ok.forth_all {L : List D} (hg : good L) {m i0 : Nat} (hm : m < p.M) (hi0 : i0 < p.N) (ho0 : p.own i0 = m) :
    ∀ (k i : Nat), i + k = p.hi m → p.lo m ≤ i → (∀ j, i < j → j ≤ p.hi m → p.d j ∈ L) → ∀ n, k < n → forth L (p.d i0) n (p.d i).tsn (p.d i) = some (p.d (p.hi m)).tsn
  | 0, i, hik, hle, _, n, hn => by
    obtain ⟨n, rfl⟩ : ∃ n', n = n' + 1 := ⟨n - 1, by omega⟩
    obtain ⟨hiN, how⟩ := h.ofRange hm hle (by omega)
    have hil : i = p.hi m := by omega
    rw [forth, if_pos (by rw [h.la i hiN, how]; simpa using hil), hil]
  | k + 1, i, hik, hle, hall, n, hn => by
    obtain ⟨n, rfl⟩ : ∃ n', n = n' + 1 := ⟨n - 1, by omega⟩
    obtain ⟨hiN, how⟩ := h.ofRange hm hle (by omega)
    obtain ⟨hiN', how'⟩ := h.ofRange hm (j := i + 1) (by omega) (by omega)
    rw [forth, if_neg (by rw [h.la _ hiN, how]; simp; omega), h.succ hiN', at_of_mem hg.keys (hall (i + 1) (by omega) (by omega))]
    dsimp only
    rw [h.mates hiN' hi0 (how'.trans ho0.symm), if_neg (by rw [h.fi _ hiN', how']; simp; omega)]
    exact Pcs.Ok.forth_all hg hm hi0 ho0 k (i + 1) (by omega) (by omega) (fun j h1 h2 => hall j (by omega) h2) n (by omega)
theorem Pcs.Ok.forth_none {L : List D} (hg : good L) (ho : p.Of L) {m i0 j : Nat} (hm : m < p.M) (hi0 : i0 < p.N) (ho0 : p.own i0 = m) (hj : p.d j ∉ L) (hjh : j ≤ p.hi m) :
    ∀ (n i : Nat), i < j → p.lo m ≤ i → forth L (p.d i0) n (p.d i).tsn (p.d i) = none
  | 0, _, _, _ => rfl
  | n + 1, i, hji, hle => by
    obtain ⟨hiN, how⟩ := h.ofRange hm (j := i) hle (by omega)
    obtain ⟨hiN', how'⟩ := h.ofRange hm (j := i + 1) (by omega) (by omega)
    rw [forth, if_neg (by rw [h.la _ hiN, how]; simp; omega), h.succ hiN']
    by_cases hmem : p.d (i + 1) ∈ L
    · rw [at_of_mem hg.keys hmem]
      dsimp only
      rw [h.mates hiN' hi0 (how'.trans ho0.symm), if_neg (by rw [h.fi _ hiN', how']; simp; omega)]
      have : j ≠ i + 1 := fun e => hj (e ▸ hmem)
      exact Pcs.Ok.forth_none hg ho hm hi0 ho0 hj hjh n (i + 1) (by omega) (by omega)
    · rw [h.at_none ho hiN' hmem]
theorem Pcs.Ok.whole_some {L : List D} (hg : good L) {m i : Nat} (hm : m < p.M) (h1 : p.lo m ≤ i) (h2 : i ≤ p.hi m) (hall : ∀ j, p.lo m ≤ j → j ≤ p.hi m → p.d j ∈ L) :
    whole L (p.d i) = some ((p.d (p.lo m)).tsn, (p.d (p.hi m)).tsn) := by
  obtain ⟨hiN, how⟩ := h.ofRange hm h1 h2
  have hn := h.n
  have l1 : i - p.lo m ≤ L.length := run_le (t := (p.d i).tsn) (-1) (.inr rfl) (by omega) (fun k hk1 hk2 => ⟨p.d (i - k), hall _ (by omega) (by omega), by
    rw [h.tsn _ (by omega), h.tsn i hiN]; simp only [u32_eq]; omega⟩)
  have hhi := (h.hi m hm).2
  have l2 : p.hi m - i ≤ L.length := run_le (t := (p.d i).tsn) 1 (.inl rfl) (by omega) (fun k hk1 hk2 => ⟨p.d (i + k), hall _ (by omega) (by omega), by
    rw [h.tsn _ (by omega), h.tsn i hiN]; simp only [u32_eq]; omega⟩)
  unfold whole
  rw [h.back_all hg hm hiN how (i - p.lo m) i (by omega) h2 (fun j a b => hall j a (by omega)) _ (by omega)]
  dsimp only
  rw [h.forth_all hg hm hiN how (p.hi m - i) i (by omega) h1 (fun j a b => hall j (by omega) b) _ (by omega)]
theorem Pcs.Ok.whole_none {L : List D} (hg : good L) (ho : p.Of L) {m i j : Nat} (hm : m < p.M) (h1 : p.lo m ≤ i) (h2 : i ≤ p.hi m) (hmem : p.d i ∈ L) (hj1 : p.lo m ≤ j) (hj2 : j ≤ p.hi m) (hj : p.d j ∉ L) : whole L (p.d i) = none := by
  obtain ⟨hiN, how⟩ := h.ofRange hm h1 h2
  unfold whole
  rcases Nat.lt_trichotomy j i with hji | rfl | hji
  · rw [h.back_none hg ho hm hiN how hj hj1 _ i hji h2]
  · exact absurd hmem hj
  · rw [h.forth_none hg ho hm hiN how hj hj2 _ i hji h1]
    split <;> rfl
end
theorem erase_mem {L : List D} (hk : (L.map (·.tsn)).Nodup) {t : Int} {e : D} : e ∈ L.eraseP (fun d => t == d.tsn) ↔ e ∈ L ∧ e.tsn ≠ t := by
  induction L with
  | nil => simp
  | cons a L ih =>
    rw [List.map_cons, List.nodup_cons] at hk
    by_cases ht : t = a.tsn
    · rw [List.eraseP_cons_of_pos (by simpa using ht)]
      constructor
      · intro he
        exact ⟨List.mem_cons_of_mem _ he, fun h2 => hk.1 (List.mem_map.2 ⟨e, he, h2.trans ht⟩)⟩
      · rintro ⟨he, h2⟩
        rcases List.mem_cons.1 he with rfl | he
        · exact absurd ht.symm h2
        · exact he
    · rw [List.eraseP_cons_of_neg (by simpa using ht), List.mem_cons, ih hk.2, List.mem_cons]
      constructor
      · rintro (rfl | h2)
        · exact ⟨.inl rfl, fun h => ht h.symm⟩
        · exact ⟨.inr h2.1, h2.2⟩
      · rintro ⟨rfl | h2, h3⟩
        · exact .inl rfl
        · exact .inr ⟨h2, h3⟩
section
variable {p : Pcs} (h : p.Ok)
include h
theorem Pcs.Ok.gath_run {m : Nat} (hm : m < p.M) : ∀ (k : Nat) (L : List D) (a : Nat) (acc : List UInt8), a + k = p.hi m → p.lo m ≤ a → good L → p.Of L → (∀ j, a ≤ j → j ≤ p.hi m → p.d j ∈ L) →
    (gath (k + 1) L (p.d a).tsn (p.d (p.hi m)).tsn acc).1 = acc ++ (List.range' a (k + 1)).flatMap (fun i => (p.d i).bytes) ∧ ∀ e, e ∈ (gath (k + 1) L (p.d a).tsn (p.d (p.hi m)).tsn acc).2 ↔ e ∈ L ∧ ¬ ∃ j, a ≤ j ∧ j ≤ p.hi m ∧ e = p.d j
  | 0, L, a, acc, hak, hla, hg, ho, hall => by
    have ha : a = p.hi m := by omega
    subst ha
    rw [gath, if_pos (by simp), at_of_mem hg.keys (hall _ (Nat.le_refl _) (Nat.le_refl _))]
    refine ⟨by simp, fun e => ?_⟩
    dsimp only
    rw [erase_mem hg.keys]
    refine and_congr_right (fun he => ?_)
    obtain ⟨i, hi, rfl⟩ := ho e he
    have hiN := (h.hi m hm).2
    constructor
    · rintro h1 ⟨j, h2, h3, h4⟩
      exact h1 (by rw [h4, show j = p.hi m by omega])
    · intro h1 h2
      exact h1 ⟨p.hi m, Nat.le_refl _, Nat.le_refl _, by rw [h.inj hi hiN h2]⟩
  | k + 1, L, a, acc, hak, hla, hg, ho, hall => by
    have hhN := (h.hi m hm).2
    have hne : ¬ (p.d a).tsn = (p.d (p.hi m)).tsn := fun e => by have := h.inj (by omega) hhN e; omega
    rw [gath, if_neg (by simpa using hne), at_of_mem hg.keys (hall a (Nat.le_refl _) (by omega)), h.succ (by omega)]
    dsimp only
    have hg' : good (L.eraseP (fun d => (p.d a).tsn == d.tsn)) := hg.sub List.eraseP_sublist
    obtain ⟨h1, h2⟩ := Pcs.Ok.gath_run hm k (L.eraseP (fun d => (p.d a).tsn == d.tsn)) (a + 1) (acc ++ (p.d a).bytes) (by omega) (by omega) hg' (fun e he => ho e (List.eraseP_sublist.mem he)) (fun j hj1 hj2 => by
      rw [erase_mem hg.keys]
      exact ⟨hall j (by omega) hj2, fun e => by have := h.inj (by omega) (by omega) e; omega⟩)
    refine ⟨?_, fun e => ?_⟩
    · rw [h1, List.range'_succ (s := a) (n := k + 1), List.flatMap_cons, List.append_assoc]
    · rw [h2, erase_mem hg.keys]
      constructor
      · rintro ⟨⟨h3, h4⟩, h5⟩
        refine ⟨h3, ?_⟩
        rintro ⟨j, h6, h7, h8⟩
        rcases Nat.lt_or_ge a j with hj | hj
        · exact h5 ⟨j, hj, h7, h8⟩
        · exact h4 (by rw [h8, show j = a by omega])
      · rintro ⟨h3, h4⟩
        refine ⟨⟨h3, fun h5 => ?_⟩, fun ⟨j, h6, h7, h8⟩ => h4 ⟨j, by omega, h7, h8⟩⟩
        obtain ⟨i, hi, rfl⟩ := ho e h3
        exact h4 ⟨a, Nat.le_refl _, by omega, by rw [h.inj hi (by omega) h5]⟩
theorem Pcs.Ok.ready_msg {L : List D} {row : List Mg} {m : Nat} (hm : m < p.M) (hg : good L) (ho : p.Of L) (hall : ∀ j, p.lo m ≤ j → j ≤ p.hi m → p.d j ∈ L) :
    (ready L row (p.d (p.lo m)).tsn (p.d (p.hi m)).tsn).2 = row ++ [p.msg m] ∧ ∀ e, e ∈ (ready L row (p.d (p.lo m)).tsn (p.d (p.hi m)).tsn).1 ↔ e ∈ L ∧ ¬ ∃ j, p.lo m ≤ j ∧ j ≤ p.hi m ∧ e = p.d j := by
  obtain ⟨h1, h2⟩ := h.hi m hm
  have hn := h.n
  have hk : (u32 ((p.d (p.hi m)).tsn - (p.d (p.lo m)).tsn)).toNat = p.hi m - p.lo m := by
    rw [h.tsn _ h2, h.tsn _ (by omega)]
    simp only [u32_eq]
    omega
  obtain ⟨g1, g2⟩ := h.gath_run hm (p.hi m - p.lo m) L (p.lo m) [] (by omega) (Nat.le_refl _) hg ho hall
  have how := h.uniq (p.lo m) m hm (Nat.le_refl _) h1
  dsimp only [ready]
  rw [hk]
  refine ⟨?_, g2⟩
  rw [g1, at_of_mem hg.keys (hall _ (Nat.le_refl _) h1)]
  unfold Pcs.msg
  rw [show p.hi m + 1 - p.lo m = p.hi m - p.lo m + 1 by omega]
  simp [h.stream _ (Nat.lt_of_le_of_lt h1 h2), h.un _ (Nat.lt_of_le_of_lt h1 h2), how]
end

/-! ### what is there behind some pieces -/
/-- all of a message's pieces came -/
def Pcs.full (p : Pcs) (X : Nat → Bool) (m : Nat) : Prop := ∀ i, p.lo m ≤ i → i ≤ p.hi m → X i = true
structure Pcs.Inv (p : Pcs) (X : Nat → Bool) (R : List Nat) (K : Nat → Nat) (s : S) : Prop where
  good : good s.L
  mem : ∀ e, e ∈ s.L ↔ ∃ i, i < p.N ∧ X i = true ∧ p.own i ∉ R ∧ e = p.d i
  nx : s.nx = [(K 0 : Int), (K 1 : Int)]
  rl : ∀ m ∈ R, m < p.M ∧ p.full X m
  nd : R.Nodup
  ord : ∀ m, m < p.M → p.un m = false → (m ∈ R ↔ p.rk m < K (p.st m))
  kb : ∀ t, K t ≤ p.M
  inc : R.Pairwise (fun a b => p.un a = false → p.un b = false → p.st a = p.st b → a < b)
def Pcs.satO (p : Pcs) (X : Nat → Bool) (K : Nat → Nat) (t : Nat) : Prop := ∀ m, m < p.M → p.un m = false → p.st m = t → p.rk m = K t → ¬ p.full X m
def Pcs.satU (p : Pcs) (X : Nat → Bool) (R : List Nat) : Prop := ∀ m, m < p.M → p.un m = true → p.full X m → m ∈ R
theorem Pcs.Inv.of {p : Pcs} {X : Nat → Bool} {R : List Nat} {K : Nat → Nat} {s : S} (i : p.Inv X R K s) : p.Of s.L := fun e he => by
  obtain ⟨j, h1, _, _, h4⟩ := (i.mem e).1 he
  exact ⟨j, h1, h4⟩
theorem Pcs.Inv.nxt {p : Pcs} {X : Nat → Bool} {R : List Nat} {K : Nat → Nat} {s : S} (i : p.Inv X R K s) {t : Nat} (ht : t < 2) : s.nx.getD ((t : Int)).toNat 0 = (K t : Int) := by
  rw [i.nx, show ((t : Int)).toNat = t by omega]
  have : t = 0 ∨ t = 1 := by omega
  rcases this with rfl | rfl <;> rfl
theorem Pcs.Inv.pieces {p : Pcs} (h : p.Ok) {X : Nat → Bool} {R : List Nat} {K : Nat → Nat} {s : S} (i : p.Inv X R K s) {m : Nat} (hm : m < p.M) (hR : m ∉ R) {j : Nat} (h1 : p.lo m ≤ j) (h2 : j ≤ p.hi m) : p.d j ∈ s.L ↔ X j = true := by
  obtain ⟨hjN, how⟩ := h.ofRange hm h1 h2
  rw [i.mem]
  constructor
  · rintro ⟨k, hk, hX, _, he⟩
    have := h.inj hjN hk (by rw [he])
    subst this
    exact hX
  · intro hX
    exact ⟨j, hjN, hX, by rw [how]; exact hR, rfl⟩
theorem findSome_one {α β : Type} {f : α → Option β} {r : β} : ∀ {l : List α}, (∃ a ∈ l, f a = some r) → (∀ a ∈ l, f a = none ∨ f a = some r) → l.findSome? f = some r
  | [], h, _ => by obtain ⟨_, h, _⟩ := h; cases h
  | a :: l, h1, h2 => by
    rw [List.findSome?_cons]
    rcases h2 a (by simp) with ha | ha
    · rw [ha]
      obtain ⟨b, hb, hf⟩ := h1
      rcases List.mem_cons.1 hb with rfl | hb
      · rw [ha] at hf; cases hf
      · exact findSome_one ⟨b, hb, hf⟩ (fun c hc => h2 c (by simp [hc]))
    · rw [ha]
/-- the messages ahead in a stream's order -/
theorem Pcs.Ok.rk_inj {p : Pcs} (h : p.Ok) {m q : Nat} (hm : m < p.M) (hq : q < p.M) (um : p.un m = false) (uq : p.un q = false) (hs : p.st m = p.st q) (he : p.rk m = p.rk q) : m = q := by
  rcases Nat.lt_trichotomy m q with hlt | rfl | hlt
  · have := h.rkm m q hlt hq um uq hs; omega
  · rfl
  · have := h.rkm q m hlt hm uq um hs.symm; omega
/-- a message becomes ready -/
theorem Pcs.Inv.more {p : Pcs} (h : p.Ok) {X : Nat → Bool} {R : List Nat} {K K' : Nat → Nat} {s : S} (i : p.Inv X R K s) {m : Nat} (hm : m < p.M) (hf : p.full X m) (hR : m ∉ R) (hK : if p.un m then K' = K else p.rk m = K (p.st m) ∧ K' = fun t => if t = p.st m then K t + 1 else K t) {nx' : List Int} (hnx : nx' = [(K' 0 : Int), (K' 1 : Int)]) :
    p.Inv X (R ++ [m]) K' ⟨(ready s.L s.row (p.d (p.lo m)).tsn (p.d (p.hi m)).tsn).1, (ready s.L s.row (p.d (p.lo m)).tsn (p.d (p.hi m)).tsn).2, nx'⟩ ∧ (ready s.L s.row (p.d (p.lo m)).tsn (p.d (p.hi m)).tsn).2 = s.row ++ [p.msg m] := by
  have hall : ∀ j, p.lo m ≤ j → j ≤ p.hi m → p.d j ∈ s.L := fun j h1 h2 => (i.pieces h hm hR h1 h2).2 (hf j h1 h2)
  obtain ⟨r1, r2⟩ := h.ready_msg (row := s.row) hm i.good i.of hall
  refine ⟨⟨i.good.sub (ready_sub (row := s.row)), fun e => ?_, hnx, fun q hq => ?_, ?_, fun q hq uq => ?_, fun t => ?_, ?_⟩, r1⟩
  · dsimp only
    rw [r2, i.mem]
    constructor
    · rintro ⟨⟨k, h1, h2, h3, rfl⟩, h4⟩
      refine ⟨k, h1, h2, fun hk => ?_, rfl⟩
      rcases List.mem_append.1 hk with hk | hk
      · exact h3 hk
      · have hk := List.mem_singleton.1 hk
        have := h.own k h1
        rw [hk] at this
        exact h4 ⟨k, this.2.1, this.2.2, rfl⟩
    · rintro ⟨k, h1, h2, h3, rfl⟩
      refine ⟨⟨k, h1, h2, fun hk => h3 (List.mem_append_left _ hk), rfl⟩, ?_⟩
      rintro ⟨j, h4, h5, h6⟩
      obtain ⟨hjN, how⟩ := h.ofRange hm h4 h5
      have := h.inj h1 hjN (by rw [h6])
      subst this
      exact h3 (List.mem_append_right _ (by simp [how]))
  · rcases List.mem_append.1 hq with hq | hq
    · exact i.rl q hq
    · rw [List.mem_singleton.1 hq]
      exact ⟨hm, hf⟩
  · rw [List.nodup_append]
    refine ⟨i.nd, by simp, fun a ha b hb e => ?_⟩
    rw [List.mem_singleton.1 hb] at e
    exact hR (e ▸ ha)
  · rw [List.mem_append, i.ord q hq uq, List.mem_singleton]
    by_cases um : p.un m = true
    · rw [if_pos um] at hK
      subst hK
      constructor
      · rintro (h1 | rfl)
        · exact h1
        · rw [um] at uq; cases uq
      · exact .inl
    · rw [if_neg um] at hK
      obtain ⟨hr, rfl⟩ := hK
      have um : p.un m = false := by simpa using um
      dsimp only
      by_cases hs : p.st q = p.st m
      · rw [if_pos hs]
        constructor
        · rintro (h1 | rfl)
          · omega
          · omega
        · intro h1
          rcases Nat.lt_or_ge (p.rk q) (K (p.st q)) with h2 | h2
          · exact .inl h2
          · exact .inr (h.rk_inj hq hm uq um hs (by rw [hs] at h1 h2; omega))
      · rw [if_neg hs]
        constructor
        · rintro (h1 | rfl)
          · exact h1
          · exact absurd rfl hs
        · exact .inl
  · by_cases um : p.un m = true
    · rw [if_pos um] at hK
      rw [hK]
      exact i.kb t
    · rw [if_neg um] at hK
      obtain ⟨hr, rfl⟩ := hK
      dsimp only
      split
      · rename_i ht
        have := h.rkb m hm
        rw [ht, ← hr]
        omega
      · exact i.kb t
  · rw [List.pairwise_append]
    refine ⟨i.inc, by simp, fun a ha b hb ua ub hs => ?_⟩
    rw [List.mem_singleton.1 hb] at ub hs ⊢
    rw [if_neg (by simp [ub])] at hK
    have haM := (i.rl a ha).1
    have h1 := (i.ord a haM ua).1 ha
    rw [hs, ← hK.1] at h1
    rcases Nat.lt_trichotomy a m with hlt | rfl | hlt
    · exact hlt
    · omega
    · have := h.rkm m a hlt haM ub ua hs.symm
      omega
theorem Pcs.Inv.cand_some {p : Pcs} (h : p.Ok) {X : Nat → Bool} {R : List Nat} {K : Nat → Nat} {s : S} (i : p.Inv X R K s) {t m : Nat} (hm : m < p.M) (um : p.un m = false) (hs : p.st m = t) (hr : p.rk m = K t) (hf : p.full X m) : cand s.L t (K t) = some ((p.d (p.lo m)).tsn, (p.d (p.hi m)).tsn) := by
  have hR : m ∉ R := fun hm' => by have := (i.ord m hm um).1 hm'; rw [hs] at this; omega
  have hall : ∀ j, p.lo m ≤ j → j ≤ p.hi m → p.d j ∈ s.L := fun j h1 h2 => (i.pieces h hm hR h1 h2).2 (hf j h1 h2)
  obtain ⟨h1, h2⟩ := h.hi m hm
  have key : ∀ k, k < p.N → p.own k = m → isC s.L t (K t) (p.d k) = some ((p.d (p.lo m)).tsn, (p.d (p.hi m)).tsn) := fun k hk how => by
    unfold isC
    rw [h.un k hk, h.stream k hk, h.ssn k hk, how, um, hs, hr]
    have := h.own k hk
    rw [how] at this
    simp only [Bool.not_false, beq_self_eq_true, Bool.and_self, Bool.false_eq_true, if_false, if_true]
    exact h.whole_some i.good hm this.2.1 this.2.2 hall
  refine findSome_one ⟨p.d (p.lo m), hall _ (Nat.le_refl _) h1, key _ (by omega) (h.uniq _ m hm (Nat.le_refl _) h1)⟩ (fun e he => ?_)
  obtain ⟨k, hk, _, _, rfl⟩ := (i.mem e).1 he
  by_cases how : p.own k = m
  · exact .inr (key k hk how)
  · left
    unfold isC
    rw [h.un k hk, h.stream k hk, h.ssn k hk]
    cases uk : p.un (p.own k) with
    | true => simp
    | false =>
      simp only [Bool.not_false, Bool.true_and, Bool.false_eq_true, if_false]
      rw [if_neg]
      intro hc
      simp only [Bool.and_eq_true, beq_iff_eq] at hc
      exact how (h.rk_inj (h.own k hk).1 hm uk um (by omega) (by omega))
theorem Pcs.Inv.cand_none {p : Pcs} (h : p.Ok) {X : Nat → Bool} {R : List Nat} {K : Nat → Nat} {s : S} (i : p.Inv X R K s) {t : Nat} (hno : p.satO X K t) : cand s.L t (K t) = none := by
  cases hc : cand s.L t (K t) with
  | none => rfl
  | some fl =>
    obtain ⟨f, l⟩ := fl
    obtain ⟨e, he, hw, hu, hst, hss⟩ := cand_mem hc
    obtain ⟨k, hk, hX, hR, rfl⟩ := (i.mem e).1 he
    obtain ⟨hM, h1, h2⟩ := h.own k hk
    rw [h.un k hk] at hu
    rw [h.stream k hk] at hst
    rw [h.ssn k hk, hu] at hss
    simp only [Bool.false_eq_true, if_false] at hss
    refine absurd (fun j h3 h4 => ?_) (hno (p.own k) hM hu (by omega) (by omega))
    rw [← i.pieces h hM hR h3 h4]
    refine Classical.byContradiction (fun hn => ?_)
    rw [h.whole_none i.good i.of hM h1 h2 he h3 h4 hn] at hw
    cases hw
theorem u16_small {n : Nat} (h : n ≤ 2000) : u16 ((n : Int)) = n := by rw [u16_eq]; omega
theorem Pcs.Inv.onN {p : Pcs} (h : p.Ok) {X : Nat → Bool} {t : Nat} (ht : t < 2) : ∀ (n : Nat) {R : List Nat} {K : Nat → Nat} {s : S}, p.Inv X R K s → s.L.length < n → ∃ R2 K', p.Inv X (R ++ R2) K' (onN n s t) ∧ p.satO X K' t ∧ (∀ u, u ≠ t → K' u = K u) ∧ (onN n s t).row = s.row ++ R2.map p.msg
  | 0, _, _, _, _, hl => by omega
  | n + 1, R, K, s, i, hl => by
    rw [Rm.onN, i.nxt ht]
    by_cases hex : ∃ m, m < p.M ∧ p.un m = false ∧ p.st m = t ∧ p.rk m = K t ∧ p.full X m
    · obtain ⟨m, hm, um, hs, hr, hf⟩ := hex
      have hR : m ∉ R := fun hm' => by have := (i.ord m hm um).1 hm'; rw [hs] at this; omega
      rw [i.cand_some h hm um hs hr hf]
      dsimp only
      have hkb := i.kb t
      have hMb := h.m
      obtain ⟨i', hrow⟩ := i.more h (K' := fun u => if u = p.st m then K u + 1 else K u) hm hf hR (by rw [if_neg (by simp [um])]; exact ⟨by rw [hs]; exact hr, rfl⟩) (nx' := s.nx.set ((t : Int)).toNat (u16 ((K t : Int) + 1))) (by
        rw [i.nx, hs, show ((t : Int)).toNat = t by omega, show ((K t : Int) + 1) = ((K t + 1 : Nat) : Int) by omega, u16_small (by omega)]
        have : t = 0 ∨ t = 1 := by omega
        rcases this with rfl | rfl <;> rfl)
      have hlt : (ready s.L s.row (p.d (p.lo m)).tsn (p.d (p.hi m)).tsn).1.length < s.L.length := by
        have := (i.pieces h hm hR (Nat.le_refl _) (h.hi m hm).1).2 (hf _ (Nat.le_refl _) (h.hi m hm).1)
        exact ready_lt (at_of_mem i.good.keys this)
      obtain ⟨R2, K', j1, j2, j3, j4⟩ := Pcs.Inv.onN h ht n i' (by dsimp only; omega)
      refine ⟨m :: R2, K', by rw [List.append_assoc] at j1; exact j1, j2, fun u hu => ?_, ?_⟩
      · rw [j3 u hu, if_neg (by rw [hs]; exact hu)]
      · rw [j4]
        dsimp only
        rw [hrow]
        simp
    · have hno : p.satO X K t := fun m hm um hs hr hf => hex ⟨m, hm, um, hs, hr, hf⟩
      rw [i.cand_none h hno]
      exact ⟨[], K, by rw [List.append_nil]; exact i, hno, fun _ _ => rfl, by simp⟩
/-- one piece more -/
theorem Pcs.full_of {p : Pcs} (h : p.Ok) {X : Nat → Bool} {j m : Nat} (_hj : j < p.N) (hm : m < p.M) (hne : p.own j ≠ m) (hf : p.full (fun i => decide (i = j) || X i) m) : p.full X m := fun i h1 h2 => by
  have := hf i h1 h2
  have hij : i ≠ j := fun e => by subst e; exact hne (h.uniq i m hm h1 h2)
  simpa [hij] using this
theorem Pcs.Inv.put {p : Pcs} (h : p.Ok) {X : Nat → Bool} {R : List Nat} {K : Nat → Nat} {s : S} (i : p.Inv X R K s) (hu : p.satU X R) (ho : ∀ t, t < 2 → p.satO X K t) {j : Nat} (hj : j < p.N) (hX : X j = false) :
    putE s (p.d j) = 0 ∧ ∃ R2 K', p.Inv (fun i => decide (i = j) || X i) (R ++ R2) K' (Rm.put s (p.d j)) ∧ p.satU (fun i => decide (i = j) || X i) (R ++ R2) ∧ (∀ t, t < 2 → p.satO (fun i => decide (i = j) || X i) K' t) ∧ (Rm.put s (p.d j)).row = s.row ++ R2.map p.msg := by
  obtain ⟨hM, hl, hh⟩ := h.own j hj
  have hst := h.st _ hM
  have hR : p.own j ∉ R := fun hr => by
    have := (i.rl _ hr).2 j hl hh
    rw [hX] at this
    cases this
  have hnot : p.d j ∉ s.L := fun hm => by
    obtain ⟨k, hk, hkX, _, he⟩ := (i.mem _).1 hm
    have := h.inj hj hk (by rw [he])
    subst this
    rw [hX] at hkX
    cases hkX
  have hE : putE s (p.d j) = 0 := by
    unfold putE
    rw [h.stream j hj, h.un j hj, h.ssn j hj, i.nxt hst, h.at_none i.of hj hnot]
    rw [if_neg (by rw [i.nx]; simp; omega), if_neg (h.bytes j hj)]
    rw [if_neg, if_neg (by simp)]
    cases hun : p.un (p.own j) with
    | true => simp
    | false =>
      have h1 : ¬ p.rk (p.own j) < K (p.st (p.own j)) := fun hc => hR ((i.ord _ hM hun).2 hc)
      have h2 := i.kb (p.st (p.own j))
      have h3 := h.rkb _ hM
      have h4 := h.m
      simp only [Bool.not_false, Bool.true_and, Bool.false_eq_true, if_false]
      unfold less16
      simp only [u16_eq]
      simp
      intro _
      omega
  refine ⟨hE, ?_⟩
  have hgood : Rm.good (s.L ++ [p.d j]) := i.good.add (by rw [h.tsn j hj]; simp only [u32_eq]; omega) (h.at_none i.of hj hnot) (by
    have h1 : s.L.length ≤ (List.range p.N).length := by
      have hnd : s.L.Nodup := Classical.byContradiction (fun hc => hc (by
        have := i.good.keys
        exact List.Pairwise.of_map _ (fun a b hab he => hab (congrArg D.tsn he)) this))
      have := length_le_of_nodup s.L ((List.range p.N).map p.d) hnd (fun e he => by
        obtain ⟨k, hk, _, _, rfl⟩ := (i.mem e).1 he
        exact List.mem_map.2 ⟨k, List.mem_range.2 hk, rfl⟩)
      simpa using this
    have := h.n
    simp at h1
    omega)
  have base : p.Inv (fun i => decide (i = j) || X i) R K ⟨s.L ++ [p.d j], s.row, s.nx⟩ := by
    refine ⟨hgood, fun e => ?_, i.nx, fun m hm => ⟨(i.rl m hm).1, fun k h1 h2 => by simp [(i.rl m hm).2 k h1 h2]⟩, i.nd, i.ord, i.kb, i.inc⟩
    dsimp only
    rw [List.mem_append, List.mem_singleton, i.mem]
    constructor
    · rintro (⟨k, h1, h2, h3, h4⟩ | rfl)
      · exact ⟨k, h1, by simp [h2], h3, h4⟩
      · exact ⟨j, hj, by simp, hR, rfl⟩
    · rintro ⟨k, h1, h2, h3, h4⟩
      by_cases hk : k = j
      · subst hk; exact .inr h4
      · exact .inl ⟨k, h1, by simpa [hk] using h2, h3, h4⟩
  have hu' : ∀ m, m < p.M → p.un m = true → m ≠ p.own j → p.full (fun i => decide (i = j) || X i) m → m ∈ R := fun m hm um hne hf => hu m hm um (Pcs.full_of h hj hm (fun e => hne e.symm) hf)
  unfold Rm.put
  rw [if_pos hE]
  unfold put1
  rw [h.un j hj]
  cases hun : p.un (p.own j) with
  | true =>
    rw [if_pos rfl]
    have hoO : ∀ t, t < 2 → p.satO (fun i => decide (i = j) || X i) K t := fun t ht m hm um hs hr hf => ho t ht m hm um hs hr (Pcs.full_of h hj hm (fun e => by rw [e, um] at hun; cases hun) hf)
    by_cases hf : p.full (fun i => decide (i = j) || X i) (p.own j)
    · have hall : ∀ k, p.lo (p.own j) ≤ k → k ≤ p.hi (p.own j) → p.d k ∈ s.L ++ [p.d j] := fun k h1 h2 => (base.pieces h hM hR h1 h2).2 (hf k h1 h2)
      rw [h.whole_some hgood hM hl hh hall]
      obtain ⟨i', hrow⟩ := base.more h (K' := K) hM hf hR (by rw [if_pos hun]) (nx' := s.nx) i.nx
      refine ⟨[p.own j], K, i', fun m hm um hfm => ?_, hoO, hrow⟩
      by_cases hne : m = p.own j
      · subst hne; simp
      · exact List.mem_append_left _ (hu' m hm um hne hfm)
    · obtain ⟨k, hk⟩ := Classical.not_forall.1 hf
      obtain ⟨h1, hk⟩ := Classical.not_forall.1 hk
      obtain ⟨h2, hk⟩ := Classical.not_forall.1 hk
      rw [h.whole_none hgood base.of hM hl hh (by simp) h1 h2 (fun hm => hk ((base.pieces h hM hR h1 h2).1 hm))]
      refine ⟨[], K, by rw [List.append_nil]; exact base, fun m hm um hfm => ?_, hoO, by simp⟩
      rw [List.append_nil]
      by_cases hne : m = p.own j
      · subst hne; exact absurd hfm hf
      · exact hu' m hm um hne hfm
  | false =>
    rw [if_neg (by simp), h.stream j hj]
    obtain ⟨R2, K', j1, j2, j3, j4⟩ := base.onN h hst ((s.L ++ [p.d j]).length + 1) (by dsimp only; omega)
    refine ⟨R2, K', j1, fun m hm um hfm => List.mem_append_left _ (hu' m hm um (fun e => by rw [← e, um] at hun; cases hun) hfm), fun t ht m hm um hs hr hf => ?_, j4⟩
    by_cases hts : t = p.st (p.own j)
    · subst hts
      exact j2 m hm um hs hr hf
    · rw [j3 t hts] at hr
      exact ho t ht m hm um hs hr (Pcs.full_of h hj hm (fun e => hts (by rw [e, hs])) hf)
/-- what may be ready -/
def Pcs.fine (p : Pcs) (X : Nat → Bool) (m : Nat) : Prop := p.full X m ∧ (p.un m = false → ∀ q, q < m → p.un q = false → p.st q = p.st m → p.full X q)
theorem Pcs.Inv.fine {p : Pcs} (h : p.Ok) {X : Nat → Bool} {R : List Nat} {K : Nat → Nat} {s : S} (i : p.Inv X R K s) (hu : p.satU X R) (ho : ∀ t, t < 2 → p.satO X K t) {m : Nat} (hm : m < p.M) : m ∈ R ↔ p.fine X m := by
  constructor
  · intro hr
    refine ⟨(i.rl m hr).2, fun um q hq uq hs => ?_⟩
    have h1 := (i.ord m hm um).1 hr
    have h2 := h.rkm q m hq hm uq um hs
    exact (i.rl q ((i.ord q (by omega) uq).2 (by rw [hs]; omega))).2
  · rintro ⟨hf, hq⟩
    cases um : p.un m with
    | true => exact hu m hm um hf
    | false =>
      rw [i.ord m hm um]
      refine Classical.byContradiction (fun hn => ?_)
      rcases Nat.lt_or_ge (K (p.st m)) (p.rk m) with hlt | hge
      · obtain ⟨q, h1, h2, h3, h4⟩ := h.rkn m hm um _ hlt
        exact ho _ (h.st m hm) q (by omega) h2 h3 h4 (hq um q h1 h2 h3)
      · exact ho _ (h.st m hm) m hm um rfl (by omega) hf
theorem Pcs.Inv.empty {p : Pcs} (h : p.Ok) : p.Inv (fun _ => false) [] (fun _ => 0) ⟨[], [], [0, 0]⟩ ∧ p.satU (fun _ => false) [] ∧ ∀ t, t < 2 → p.satO (fun _ => false) (fun _ => 0) t := by
  refine ⟨⟨⟨by simp, fun _ h => by simp at h, by simp⟩, fun e => by simp, rfl, fun _ h => by simp at h, by simp, fun m _ _ => by simp, fun _ => Nat.zero_le _, by simp⟩, fun m hm _ hf => ?_, fun t _ m hm _ _ _ hf => ?_⟩
  · have := hf (p.lo m) (Nat.le_refl _) (h.hi m hm).1
    cases this
  · have := hf (p.lo m) (Nat.le_refl _) (h.hi m hm).1
    cases this
/-- behind all pieces all messages are ready: the ordered ones of a stream in their order, the others in some order -/
theorem Pcs.Inv.all {p : Pcs} (h : p.Ok) {X : Nat → Bool} {R : List Nat} {K : Nat → Nat} {s : S} (i : p.Inv X R K s) (hu : p.satU X R) (ho : ∀ t, t < 2 → p.satO X K t) (hX : ∀ j, j < p.N → X j = true) : R.Perm (List.range p.M) ∧ s.L = [] ∧
    ∀ t, R.filter (fun m => decide (p.st m = t) && !p.un m) = (List.range p.M).filter (fun m => decide (p.st m = t) && !p.un m) := by
  have hf : ∀ m, m < p.M → p.full X m := fun m hm k _ h2 => hX k (by have := (h.hi m hm).2; omega)
  have hmem : ∀ m, m ∈ R ↔ m < p.M := fun m => ⟨fun hr => (i.rl m hr).1, fun hm => (i.fine h hu ho hm).2 ⟨hf m hm, fun _ q hq _ _ => hf q (by omega)⟩⟩
  have hp : R.Perm (List.range p.M) := (List.perm_ext_iff_of_nodup i.nd List.nodup_range).2 (fun m => by rw [hmem, List.mem_range])
  refine ⟨hp, ?_, fun t => ?_⟩
  · rw [List.eq_nil_iff_forall_not_mem]
    intro e he
    obtain ⟨k, hk, _, h2, _⟩ := (i.mem e).1 he
    exact h2 ((hmem _).2 (h.own k hk).1)
  · refine List.Perm.eq_of_pairwise (le := fun a b => a < b) (fun a b _ _ h1 h2 => by omega) ?_ (List.pairwise_lt_range.sublist List.filter_sublist) (hp.filter _)
    refine (i.inc.sublist List.filter_sublist).imp_of_mem ?_
    intro a b ha hb hab
    rw [List.mem_filter] at ha hb
    simp at ha hb
    exact hab ha.2.2 hb.2.2 (by omega)
end Go.Rm
