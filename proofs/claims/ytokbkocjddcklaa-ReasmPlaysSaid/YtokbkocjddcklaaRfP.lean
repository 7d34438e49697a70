/- The document's reassembler in plain Lean: places in place of pieces; it says the same as the program's. Conditions: the TSNs are apart, and fewer pieces than 2^31. -/
import Derived.Test.YtokbkocjddcklaaRmQ
namespace Go.Rm
open Go

/-- the place of the piece of a TSN; -1: there is none -/
def ixAt (L : List D) (t : Int) : Int := match L.findIdx? (fun d => t == d.tsn) with | some i => (i : Int) | none => -1
theorem ix_some {L : List D} {t : Int} {d : D} (h : at? L t = some d) : ∃ i : Nat, ixAt L t = i ∧ L[i]? = some d := by
  unfold at? at h
  unfold ixAt
  induction L with
  | nil => cases h
  | cons a L ih =>
    rw [List.find?_cons] at h
    rw [List.findIdx?_cons]
    cases ha : (t == a.tsn) with
    | true => rw [ha] at h; exact ⟨0, by simp, by simpa using h⟩
    | false =>
      rw [ha] at h
      obtain ⟨i, h1, h2⟩ := ih h
      cases hf : L.findIdx? (fun d => t == d.tsn) with
      | none => rw [hf] at h1; dsimp only at h1; omega
      | some j =>
        rw [hf] at h1; dsimp only at h1
        have : j = i := by omega
        subst this
        exact ⟨j + 1, by simp, by simpa using h2⟩
theorem ix_none {L : List D} {t : Int} (h : at? L t = none) : ixAt L t = -1 := by
  unfold at? at h
  unfold ixAt
  have : L.findIdx? (fun d => t == d.tsn) = none := by
    rw [List.findIdx?_eq_none_iff]
    rw [List.find?_eq_none] at h
    intro x hx
    have := h x hx
    simpa using this
  rw [this]
theorem ix_first : ∀ {L : List D} {t : Int} {i : Nat} {d : D}, L[i]? = some d → d.tsn = t → (∀ j : Nat, j < i → ∀ e, L[j]? = some e → e.tsn ≠ t) → at? L t = some d ∧ ixAt L t = i := by
  intro L
  induction L with
  | nil => intro t i d h; simp at h
  | cons a L ih =>
    intro t i d h ht hno
    cases i with
    | zero =>
      obtain rfl : a = d := by simpa using h
      have hb : (t == a.tsn) = true := by simp [ht]
      refine ⟨by unfold at?; rw [List.find?_cons, hb], by unfold ixAt; rw [List.findIdx?_cons, hb]; simp⟩
    | succ i =>
      have hb : (t == a.tsn) = false := by
        have := hno 0 (by omega) a rfl
        simpa using fun h => this h.symm
      obtain ⟨h1, h2⟩ := ih (by simpa using h) ht (fun j hj e he => hno (j + 1) (by omega) e (by simpa using he))
      refine ⟨by unfold at? at h1 ⊢; rw [List.find?_cons, hb]; exact h1, ?_⟩
      unfold ixAt at h2 ⊢
      rw [List.findIdx?_cons, hb]
      cases hf : L.findIdx? (fun d => t == d.tsn) with
      | none => rw [hf] at h2; dsimp only at h2; omega
      | some j => rw [hf] at h2; dsimp only at h2; simp; omega
theorem at_none_of {L : List D} {t : Int} (h : ∀ j : Nat, j < L.length → ∀ e, L[j]? = some e → e.tsn ≠ t) : at? L t = none := by
  unfold at?
  rw [List.find?_eq_none]
  intro x hx
  obtain ⟨j, hj, rfl⟩ := List.mem_iff_getElem.1 hx
  have := h j hj _ (List.getElem?_eq_getElem hj)
  simpa using fun h => this h.symm
theorem ix_of_get : ∀ {L : List D} {i : Nat} {d : D}, (L.map (·.tsn)).Nodup → L[i]? = some d → ixAt L d.tsn = i := by
  intro L i d hk h
  refine (ix_first h rfl (fun j hj e he hne => ?_)).2
  have hi : i < L.length := (List.getElem?_eq_some_iff.1 h).1
  have e1 : (L.map (·.tsn))[j]? = some d.tsn := by rw [List.getElem?_map, he]; simp [hne]
  have e2 : (L.map (·.tsn))[i]? = some d.tsn := by rw [List.getElem?_map, h]; rfl
  have hj' : j < (L.map (·.tsn)).length := by simp; omega
  have hi' : i < (L.map (·.tsn)).length := by simpa using hi
  rw [List.getElem?_eq_getElem hj'] at e1
  rw [List.getElem?_eq_getElem hi'] at e2
  have := (List.pairwise_iff_getElem.1 hk) j i hj' hi' hj
  exact this (by rw [Option.some.inj e1, Option.some.inj e2])

/-- the TSNs from one on -/
def run (f : Int) (n : Nat) : List Int := (List.range (n + 1)).map (fun i : Nat => u32 (f + i))
theorem run_len (f : Int) (n : Nat) : (run f n).length = n + 1 := by simp [run]
theorem run_get {f : Int} {n i : Nat} (h : i ≤ n) : (run f n)[i]? = some (u32 (f + i)) := by
  unfold run
  rw [List.getElem?_map, List.getElem?_range (by omega)]
  rfl
theorem run_succ (f : Int) (n : Nat) (h : 0 ≤ f ∧ f < 4294967296) : run f (n + 1) = f :: run (u32 (f + 1)) n := by
  unfold run
  rw [List.range_succ_eq_map, List.map_cons, List.map_map]
  congr 1
  · simp only [u32_eq]; omega
  · apply List.map_congr_left
    intro i _
    simp only [Function.comp, u32_eq]
    omega
theorem run_snoc (f : Int) (n : Nat) : run f (n + 1) = run f n ++ [u32 (f + (n + 1 : Nat))] := by
  unfold run
  rw [List.range_succ, List.map_append]
  rfl
theorem mem_run {f : Int} {n : Nat} {t : Int} : t ∈ run f n ↔ ∃ i : Nat, i ≤ n ∧ t = u32 (f + i) := by
  unfold run
  rw [List.mem_map]
  constructor
  · rintro ⟨i, hi, rfl⟩
    exact ⟨i, by rw [List.mem_range] at hi; omega, rfl⟩
  · rintro ⟨i, hi, rfl⟩
    exact ⟨i, by rw [List.mem_range]; omega, rfl⟩
def bytesAt (L : List D) (t : Int) : List UInt8 := match at? L t with | some d => d.bytes | none => []
theorem erase_filter {t : Int} : ∀ {L : List D}, (L.map (·.tsn)).Nodup → L.eraseP (fun d => t == d.tsn) = L.filter (fun d => !(t == d.tsn))
  | [], _ => rfl
  | a :: L, hk => by
    rw [List.map_cons, List.nodup_cons] at hk
    cases ha : (t == a.tsn) with
    | true =>
      rw [List.eraseP_cons_of_pos (p := fun d : D => t == d.tsn) ha, List.filter_cons_of_neg (by simp [ha])]
      symm
      rw [List.filter_eq_self]
      intro d hd
      have ht : t = a.tsn := by simpa using ha
      simp only [Bool.not_eq_true', beq_eq_false_iff_ne, ne_eq]
      rintro rfl
      exact hk.1 (ht ▸ List.mem_map_of_mem hd)
    | false =>
      rw [List.eraseP_cons_of_neg (p := fun d : D => t == d.tsn) (by simp [ha]), List.filter_cons_of_pos (by simp [ha]), erase_filter hk.2]
theorem flatMap_congr' {α β : Type} {f g : α → List β} : ∀ {l : List α}, (∀ a ∈ l, f a = g a) → l.flatMap f = l.flatMap g
  | [], _ => rfl
  | a :: l, h => by rw [List.flatMap_cons, List.flatMap_cons, h a (by simp), flatMap_congr' (fun b hb => h b (by simp [hb]))]
theorem gath_run : ∀ (n : Nat) (L : List D) (f l : Int) (acc : List UInt8), (L.map (·.tsn)).Nodup → (0 ≤ f ∧ f < 4294967296) → n < 4294967296 → l = u32 (f + n) →
    gath (n + 1) L f l acc = (acc ++ (run f n).flatMap (bytesAt L), L.filter (fun d => !((run f n).contains d.tsn)))
  | 0, L, f, l, acc, hk, hf, _, hl => by
    have e : l = f := by rw [hl]; simp only [u32_eq]; omega
    have er : run f 0 = [f] := by unfold run; simp [u32_eq]; omega
    subst e
    rw [gath, if_pos (by simp), er, erase_filter hk]
    simp only [List.flatMap_cons, List.flatMap_nil, List.append_nil]
    refine Prod.ext rfl ?_
    dsimp only
    congr 1
    funext d
    by_cases h : l = d.tsn
    · subst h; simp
    · have h2 : ¬ d.tsn = l := fun e => h e.symm
      simp [h, h2]
  | n + 1, L, f, l, acc, hk, hf, hn, hl => by
    have hne : f ≠ l := by rw [hl]; simp only [u32_eq]; omega
    have hk' : ((L.eraseP (fun d => f == d.tsn)).map (·.tsn)).Nodup := hk.sublist ((List.eraseP_sublist).map _)
    rw [gath, if_neg (by simp [hne]), gath_run n _ _ l _ hk' (by simp only [u32_eq]; omega) (by omega) (by rw [hl]; simp only [u32_eq]; omega)]
    rw [run_succ f n hf, List.flatMap_cons]
    have hnot : ∀ t ∈ run (u32 (f + 1)) n, f ≠ t := fun t ht => by
      obtain ⟨i, hi, rfl⟩ := mem_run.1 ht
      simp only [u32_eq]; omega
    refine Prod.ext ?_ ?_
    · dsimp only
      rw [List.append_assoc]
      congr 2
      exact flatMap_congr' (fun t ht => by unfold bytesAt; rw [at_erase_ne (hnot t ht)])
    · dsimp only
      rw [erase_filter hk, List.filter_filter]
      congr 1
      funext d
      by_cases h : f = d.tsn
      · subst h; simp
      · have h2 : ¬ d.tsn = f := fun h2 => h h2.symm
        simp [h, h2]
/-- the pieces of the message of some TSNs go to the row -/
theorem ready_run {L : List D} {row : List Mg} {f l : Int} {n : Nat} {d0 : D} (hk : (L.map (·.tsn)).Nodup) (hf : 0 ≤ f ∧ f < 4294967296) (hn : n < 4294967296) (hl : l = u32 (f + n)) (h0 : at? L f = some d0) :
    ready L row f l = (L.filter (fun d => !((run f n).contains d.tsn)), row ++ [⟨d0.stream, !d0.un, (run f n).flatMap (bytesAt L)⟩]) := by
  unfold ready
  have hnn : (u32 (l - f)).toNat = n := by rw [hl]; simp only [u32_eq]; omega
  rw [hnn, gath_run n L f l [] hk hf hn hl, h0]
  simp

theorem forth_more {L : List D} {p : D} {t : Int} (hL : L.length < 4294967290) : ∀ (n k : Nat) (f : Int) (q : D) (m : Nat), u32 f = u32 (t + k) → (∀ i : Nat, 1 ≤ i → i ≤ k → ∃ d ∈ L, d.tsn = u32 (t + 1 * i)) → L.length < n + k → k ≤ L.length → forth L p n f q = forth L p (n + m) f q
  | 0, k, f, q, m, hf, hv, hlt, hk => by omega
  | n + 1, k, f, q, m, hf, hv, hlt, hk => by
    rw [show n + 1 + m = (n + m) + 1 by omega, forth, forth]
    split
    · rfl
    · cases hat : at? L (u32 (f + 1)) with
      | none => rfl
      | some x =>
        dsimp only
        split
        · rfl
        · have hv' : ∀ i : Nat, 1 ≤ i → i ≤ k + 1 → ∃ d ∈ L, d.tsn = u32 (t + 1 * i) := fun i h1 h2 => by
            rcases Nat.lt_or_ge i (k + 1) with h | h
            · exact hv i h1 (by omega)
            · obtain rfl : i = k + 1 := by omega
              obtain ⟨h3, h4⟩ := at_mem hat
              refine ⟨x, h3, h4.trans ?_⟩
              simp only [u32_eq] at hf ⊢
              omega
          exact forth_more hL n (k + 1) _ x m (by simp only [u32_eq] at hf ⊢; omega) hv' (by omega) (run_le 1 (.inl rfl) (by omega) hv')
theorem back_forth {L : List D} {p : D} : ∀ (n : Nat) (f : Int) (q : D) (r : Int), (0 ≤ f ∧ f < 4294967296) → at? L f = some q → mates q p = true → back L p n f q = some r →
    ∃ (k : Nat) (qr : D), at? L r = some qr ∧ mates qr p = true ∧ (0 ≤ r ∧ r < 4294967296) ∧ ∀ m, forth L p (m + k) r qr = forth L p m f q
  | 0, f, q, r, hf, hq, hm, h => by cases h
  | n + 1, f, q, r, hf, hq, hm, h => by
    rw [back] at h
    by_cases hfi : q.fi = true
    · rw [if_pos hfi] at h
      cases h
      exact ⟨0, q, hq, hm, hf, fun m => rfl⟩
    · rw [if_neg hfi] at h
      cases hat : at? L (u32 (f - 1)) with
      | none => rw [hat] at h; cases h
      | some x =>
        rw [hat] at h
        dsimp only at h
        by_cases hx : (!mates x p || x.la) = true
        · rw [if_pos hx] at h; cases h
        · rw [if_neg hx] at h
          have hx' : mates x p = true ∧ x.la = false := by simpa using hx
          obtain ⟨k, qr, h1, h2, h3, h4⟩ := back_forth n (u32 (f - 1)) x r (by simp only [u32_eq]; omega) hat hx'.1 h
          refine ⟨k + 1, qr, h1, h2, h3, fun m => ?_⟩
          rw [show m + (k + 1) = (m + 1) + k by omega, h4, forth, if_neg (by simp [hx'.2])]
          have e : u32 (u32 (f - 1) + 1) = f := by simp only [u32_eq]; omega
          rw [e, hq]
          dsimp only
          rw [if_neg (by simp [hm]; simpa using hfi)]
/-- 'whole', looked for from the first piece on -/
theorem whole_alt {L : List D} {p : D} (hp : at? L p.tsn = some p) (h32 : 0 ≤ p.tsn ∧ p.tsn < 4294967296) (hL : L.length < 4294967290) :
    whole L p = match back L p (L.length + 1) p.tsn p with
      | none => none
      | some f => match at? L f with
        | none => none
        | some q => match forth L p (L.length + 1) f q with
          | none => none
          | some l => some (f, l) := by
  unfold whole
  cases hb : back L p (L.length + 1) p.tsn p with
  | none => rfl
  | some r =>
    dsimp only
    obtain ⟨k, qr, h1, h2, h3, h4⟩ := back_forth _ _ _ _ h32 hp (by simp [mates]) hb
    rw [h1]
    dsimp only
    rw [forth_more (p := p) (t := r) hL (L.length + 1) 0 r qr k (by simp) (fun i h1 h2 => by omega) (by omega) (by omega), h4]
    cases forth L p (L.length + 1) p.tsn p <;> rfl
/-- the places of the pieces of a whole message; none: it is not whole -/
def wholeIx (L : List D) (p : D) : List Int := match whole L p with
  | none => []
  | some (f, l) => (run f (u32 (l - f)).toNat).map (ixAt L)
theorem wholeIx_nil {L : List D} {p : D} : wholeIx L p = [] ↔ whole L p = none := by
  unfold wholeIx
  cases h : whole L p with
  | none => simp
  | some q => obtain ⟨f, l⟩ := q; simp [run]
def candIx (L : List D) (st ssn : Int) : List Int := match cand L st ssn with
  | none => []
  | some (f, l) => (run f (u32 (l - f)).toNat).map (ixAt L)
theorem own_iff {L : List D} {f : Int} {n i : Nat} {d : D} (hk : (L.map (·.tsn)).Nodup) (hd : L[i]? = some d) (hall : ∀ t ∈ run f n, ∃ d, at? L t = some d) :
    ((run f n).map (ixAt L)).contains (i : Int) = (run f n).contains d.tsn := by
  rw [Bool.eq_iff_iff, List.contains_iff_mem, List.contains_iff_mem, List.mem_map]
  constructor
  · rintro ⟨t, ht, he⟩
    obtain ⟨e, hat⟩ := hall t ht
    obtain ⟨j, h1, h2⟩ := ix_some hat
    have : j = i := by omega
    subst this
    rw [hd] at h2
    cases h2
    rw [(at_mem hat).2]; exact ht
  · intro h
    exact ⟨d.tsn, h, ix_of_get hk hd⟩
theorem run_tot {L : List D} {f : Int} {n : Nat} (hk : (L.map (·.tsn)).Nodup) (hf : 0 ≤ f ∧ f < 4294967296) (hn : n < 4294967296) (hall : ∀ t ∈ run f n, ∃ d, at? L t = some d) : ((run f n).flatMap (bytesAt L)).length ≤ totD L := by
  have h1 := gath_tot n L f (u32 (f + n)) [] hf hn rfl (fun i hi => hall _ (mem_run.2 ⟨i, hi, rfl⟩))
  rw [gath_run n L f _ [] hk hf hn rfl] at h1
  simp only [List.length_nil, List.nil_append, Nat.add_zero] at h1
  omega
theorem flat_take_le {α β : Type} (g : α → List β) (l : List α) (k : Nat) : ((l.take k).flatMap g).length ≤ (l.flatMap g).length := by
  have : l.flatMap g = (l.take k).flatMap g ++ (l.drop k).flatMap g := by rw [← List.flatMap_append, List.take_append_drop]
  rw [this, List.length_append]; omega
theorem take_snoc {α : Type} {l : List α} {k : Nat} {a : α} (h : l[k]? = some a) : l.take (k + 1) = l.take k ++ [a] := by
  rw [List.take_add_one, h]; rfl
end Go.Rm
