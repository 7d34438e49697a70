/- Some texts as one. What goes is on record: the pieces that a sender sends, beside its flight, in plain Lean. No conditions: laws only. The line beside a sender's flight, in plain Lean: what goes can be taken. No conditions: laws only. The line's gaps are such as a flight takes, in plain Lean. No conditions: laws only. The line's answer is taken, in plain Lean. No conditions: laws only. The line beside a sender behind an answer, in plain Lean. No conditions: laws only. The line beside a sender whose timers ran out, in plain Lean. No conditions: laws only. A sender's flight behind Expire, record by record, in plain Lean. No conditions: laws only. What a packet does to a sender's records and its queue, record by record, in plain Lean. Conditions: small packets of one path. The line: what taking pieces, and going over, turns of what was seen, in plain Lean. No conditions: definitions and laws. An acknowledgement of all that came, record by record, in plain Lean. Conditions: at most forty pieces. The law SendqLapses, a turn of it, in plain Lean: what stays so, and what goes on. Conditions: at most ten messages of at most four pieces. The law SendqLapses: how a turn ends, in plain Lean. Conditions: at most ten messages of at most four pieces. The law SendqLapses: how it begins, in plain Lean. Conditions: at most ten messages of at most 400 bytes. -/
import Derived.Test.YtjfpckadjnjmoaaGreatBe
namespace Go.Flt
/-- what sending leaves of a record -/
def Rc.dg (r : Rc) : Dt × Bool := (r.d, r.gone)
theorem dg_get {L M : List Rc} (h : L.map Rc.dg = M.map Rc.dg) {i : Nat} {r : Rc} (hr : L[i]? = some r) : ∃ q, M[i]? = some q ∧ q.d = r.d ∧ q.gone = r.gone := by
  have := congrArg (·[i]?) h
  simp only [List.getElem?_map, hr, Option.map_some] at this
  cases hq : M[i]? with
  | none => rw [hq] at this; cases this
  | some q =>
    rw [hq] at this
    have h2 : q.dg = r.dg := (Option.some.inj this).symm
    exact ⟨q, rfl, congrArg Prod.fst h2, congrArg Prod.snd h2⟩
theorem again_dg (f : S) (t p now : Int) : (again f t p now).1.L.map Rc.dg = f.L.map Rc.dg := by
  unfold again
  split
  · rfl
  · split
    · rfl
    · split
      · rfl
      · rename_i i _ r hr
        split
        · exact set_map Rc.dg hr rfl
        · rfl
theorem getD_at {f : S} {t : Int} {d : Dt} {p : Int} (hg : getD f t = some (d, p)) : ∃ (i : Nat) (r : Rc), f.L[i]? = some r ∧ r.d = d ∧ atI f.c f.L.length t = some i := by
  unfold getD at hg
  cases ha : atI f.c f.L.length t with
  | none => rw [ha] at hg; cases hg
  | some i =>
    rw [ha] at hg
    dsimp only at hg
    cases hr : f.L[i]? with
    | none => rw [hr] at hg; cases hg
    | some r =>
      rw [hr] at hg
      cases hg
      exact ⟨i, r, hr, rfl, rfl⟩
/-- a lost one's place -/
theorem lost_at {f : S} (h : Good f) {t : Int} (ht : t ∈ lostL f) {i : Nat} (hi : atI f.c f.L.length t = some i) : ∃ r, f.L[i]? = some r ∧ r.gone = false := by
  unfold lostL at ht
  obtain ⟨r, hr, hrt⟩ := List.mem_map.1 ht
  obtain ⟨hr1, hr2⟩ := List.mem_filter.1 hr
  obtain ⟨k, hk⟩ := List.getElem?_of_mem hr1
  have hgn : r.gone = false := by unfold openR at hr2; cases hgr : r.gone with
    | false => rfl
    | true => rw [hgr] at hr2; simp at hr2
  have htsn := h.tsn k r hk
  have hkl := (List.getElem?_eq_some_iff.1 hk).1
  have hfew := h.few
  have hc := h.c
  have e : i = k := by
    unfold atI at hi
    split at hi
    · cases hi
      rw [← hrt, htsn]
      unfold Spn.far at *
      simp only [Spn.u32_eq] at *
      omega
    · cases hi
  subst e
  exact ⟨r, hk, hgn⟩
end Go.Flt
namespace Go.Snd
open Go Go.Pth
/-- what is sent again is on record as it is -/
structure AgK (s : S) (x : Go1) : Prop where
  c : x.s.f.c = s.f.c
  len : x.s.f.L.length = s.f.L.length
  dg : x.s.f.L.map Flt.Rc.dg = s.f.L.map Flt.Rc.dg
  out : ∀ d ∈ x.out, ∃ (i : Nat) (r : Flt.Rc), s.f.L[i]? = some r ∧ r.d = d ∧ r.gone = false
theorem again1_k {s : S} (hs : Flt.Good s.f) {k : Nat} {now : Int} {x : Go1 × Bool} (h : AgK s x.1) {t : Int} (ht : t ∈ Flt.lostL s.f) : AgK s (again1 k now x t).1 := by
  unfold again1
  split
  · exact h
  · split
    · exact h
    · rename_i d was hg
      split
      · exact h
      · split
        · exact h
        · obtain ⟨e1, e2⟩ := again_same x.1.s.f t k (clock now)
          refine ⟨e1.trans h.c, e2.trans h.len, (Flt.again_dg _ _ _ _).trans h.dg, fun q hq => ?_⟩
          rcases List.mem_append.1 hq with hq | hq
          · exact h.out q hq
          · rw [List.mem_singleton.1 hq]
            obtain ⟨i, r, h1, h2, h3⟩ := Flt.getD_at hg
            rw [h.c, h.len] at h3
            obtain ⟨r', h4, h5⟩ := Flt.lost_at hs ht h3
            obtain ⟨r2, h6, h7, _⟩ := Flt.dg_get h.dg h1
            rw [h4] at h6
            cases h6
            exact ⟨i, r', h4, h7.trans h2, h5⟩
theorem again_fk {s : S} (hs : Flt.Good s.f) {k : Nat} {now : Int} : ∀ (l : List Int) {x : Go1 × Bool}, (∀ t ∈ l, t ∈ Flt.lostL s.f) → AgK s x.1 → AgK s (l.foldl (again1 k now) x).1
  | [], _, _, h => h
  | t :: l, _, hl, h => again_fk hs l (fun q hq => hl q (List.mem_cons_of_mem _ hq)) (again1_k hs h (hl t List.mem_cons_self))
theorem again_k {s : S} (hs : Flt.Good s.f) (k : Nat) (now : Int) : AgK s (again s k now) :=
  again_fk hs _ (fun _ h => h) ⟨rfl, rfl, rfl, fun _ h => (by cases h)⟩
/-- what is sent for the first time is laid down behind the rest -/
structure FrK (s : S) (g : Go1) : Prop where
  c : g.s.f.c = s.f.c
  more : ∃ M : List Flt.Rc, g.s.f.L = s.f.L ++ M ∧ M.map Flt.Rc.dg = g.out.map (fun d => (d, false))
theorem fresh1_k {n : Nat} {s : S} {k : Nat} {now : Int} {g : Go1} (ho : Ok n g.s) (hk : k < g.s.ws.length) (h : FrK s g) (hs : stops g.s k g.room = false) : FrK s (fresh1 k now g) := by
  have hst := stops_false hs
  obtain ⟨d, id, q', hn, hl, hb⟩ := fresh_next ho hst.1
  have hadd := fresh_add ho hk hb hst.2.2.2.2
  rw [fresh1_at hn]
  obtain ⟨M, hM, hMd⟩ := h.more
  refine ⟨?_, M ++ [Flt.newR g.s.f d k (clock now) id], ?_, ?_⟩
  · dsimp only
    unfold Flt.add
    split <;> exact h.c
  · dsimp only
    unfold Flt.add
    rw [if_pos hadd]
    dsimp only
    rw [hM, List.append_assoc]
  · rw [List.map_append, List.map_append, hMd]
    rfl
theorem freshN_k {n : Nat} {s : S} {k : Nat} {now : Int} : ∀ (m : Nat) {g : Go1}, Ok n g.s → k < g.s.ws.length → FrK s g → FrK s (freshN k now m g)
  | 0, _, _, _, h => h
  | m + 1, g, ho, hk, h => by
    rw [freshN]
    split
    · exact h
    · rename_i hs
      exact freshN_k m (fresh1_ok ho) (by rw [(fresh1_len (k := k) (now := now) ho).1]; exact hk) (fresh1_k ho hk h (Bool.not_eq_true _ ▸ hs))
theorem fresh_k {n : Nat} {s : S} (hs : Ok n s) {k : Nat} (hk : k < s.ws.length) (now : Int) : FrK s (fresh s k now) :=
  freshN_k 100 hs hk ⟨rfl, [], by simp, rfl⟩
/-- a packet: its pieces are on record behind it, what was on record is so -/
theorem next_k {n : Nat} {s s' : S} (ho : Ok n s) {now : Int} {k : Nat} {o : List Flt.Dt} (hn : next s now = (s', some (k, o))) :
    s'.f.c = s.f.c ∧ (∃ M : List Flt.Rc, s'.f.L.map Flt.Rc.dg = s.f.L.map Flt.Rc.dg ++ M.map Flt.Rc.dg) ∧ ∀ d ∈ o, ∃ (i : Nat) (r : Flt.Rc), s'.f.L[i]? = some r ∧ r.d = d ∧ r.gone = false := by
  obtain ⟨g, hk, hg, hgo, _, hs'⟩ := next_how hn
  have hf : s'.f = g.s.f := by rw [hs']; unfold run; split <;> rfl
  rw [hf, ← hgo]
  rcases hg with rfl | rfl
  · have h := again_k ho.f.g k now
    refine ⟨h.c, ⟨[], by simpa using h.dg⟩, fun d hd => ?_⟩
    obtain ⟨i, r, h1, h2, h3⟩ := h.out d hd
    obtain ⟨q, h4, h5, h6⟩ := Flt.dg_get h.dg.symm h1
    exact ⟨i, q, h4, h5.trans h2, h6.trans h3⟩
  · have h := fresh_k ho hk now
    obtain ⟨M, hM, hMd⟩ := h.more
    refine ⟨h.c, ⟨M, by rw [hM, List.map_append]⟩, fun d hd => ?_⟩
    have hm : (d, false) ∈ M.map Flt.Rc.dg := by rw [hMd]; exact List.mem_map.2 ⟨d, hd, rfl⟩
    obtain ⟨r, hr, hrd⟩ := List.mem_map.1 hm
    obtain ⟨j, hj⟩ := List.getElem?_of_mem hr
    refine ⟨s.f.L.length + j, r, ?_, congrArg Prod.fst hrd, congrArg Prod.snd hrd⟩
    rw [hM, List.getElem?_append_right (Nat.le_add_right _ _), Nat.add_sub_cancel_left]
    exact hj
end Go.Snd
namespace Go.Snd
open Go Go.Pth

theorem grow_old {seen : List Flt.Dt} {k j : Nat} (hj : j < seen.length) : (grow seen k)[j]? = seen[j]? := by unfold grow; rw [List.getElem?_append_left hj]
theorem grow_new {seen : List Flt.Dt} {k j : Nat} {d : Flt.Dt} (hj : ¬ j < seen.length) (h : (grow seen k)[j]? = some d) : d = dtZ := by
  unfold grow at h
  rw [List.getElem?_append_right (by omega)] at h
  exact List.eq_of_mem_replicate (List.mem_of_getElem? h)
theorem isB_Z : isB dtZ = false := by decide
/-- what was seen agrees with what is on record -/
structure Sm (L : List Flt.Rc) (a : Nat) (seen : List Flt.Dt) : Prop where
  len : seen.length ≤ a + L.length
  same : ∀ (i : Nat) (r : Flt.Rc) (d : Flt.Dt), L[i]? = some r → seen[a + i]? = some d → isB d = true → r.gone = false → d = r.d
theorem put1_sm {L : List Flt.Rc} {a : Nat} {seen : List Flt.Dt} {first : Int} (h : Sm L a seen) {i : Nat} {r : Flt.Rc} (hr : L[i]? = some r) (hg : r.gone = false) (hb : r.d.bs ≠ []) (hp : placeOf first r.d.tsn = a + i) (h4 : a + i ≤ 4096) :
    ∃ seen', put1 first seen r.d = some seen' ∧ Sm L a seen' ∧ (∀ (k : Nat) d, seen[k]? = some d → isB d = true → seen'[k]? = some d) ∧ seen.length ≤ seen'.length ∧ seen'[a + i]? = some r.d := by
  have hil := (List.getElem?_eq_some_iff.1 hr).1
  have hgl := grow_len seen (a + i)
  obtain ⟨o, ho⟩ : ∃ o, (grow seen (a + i))[a + i]? = some o := ⟨_, List.getElem?_eq_getElem (by omega)⟩
  have hoo : isB o = true → o = r.d := fun hB => by
    by_cases hj : a + i < seen.length
    · rw [grow_old hj] at ho
      exact h.same i r o hr ho hB hg
    · rw [grow_new hj ho, isB_Z] at hB
      cases hB
  refine ⟨(grow seen (a + i)).set (a + i) r.d, ?_, ⟨by rw [List.length_set, hgl]; have := h.len; omega, fun j q d hq hd hB hqg => ?_⟩, fun k d hd hB => ?_, by rw [List.length_set, hgl]; omega, List.getElem?_set_self (by omega)⟩
  · unfold put1
    dsimp only
    rw [hp, if_neg (by rintro (h | h); omega; exact hb h), ho]
    dsimp only
    rw [if_neg (fun e => e.2 (hoo e.1))]
  · by_cases hji : j = i
    · subst hji
      rw [List.getElem?_set_self (by omega)] at hd
      rw [hr] at hq
      cases hq
      exact (Option.some.inj hd).symm
    · rw [List.getElem?_set_ne (by omega)] at hd
      by_cases hj : a + j < seen.length
      · rw [grow_old hj] at hd
        exact h.same j q d hq hd hB hqg
      · rw [grow_new hj hd, isB_Z] at hB
        cases hB
  · have hk := (List.getElem?_eq_some_iff.1 hd).1
    by_cases hki : k = a + i
    · subst hki
      rw [List.getElem?_set_self (by omega)]
      rw [grow_old hk] at ho
      rw [ho] at hd
      cases hd
      rw [hoo hB]
    · rw [List.getElem?_set_ne (by omega), grow_old hk]
      exact hd
theorem putL_sm {L : List Flt.Rc} {a : Nat} {first : Int} (hp : ∀ (i : Nat) (r : Flt.Rc), L[i]? = some r → r.d.bs ≠ [] ∧ placeOf first r.d.tsn = a + i) (h4 : a + L.length ≤ 4096) :
    ∀ (o : List Flt.Dt) {seen : List Flt.Dt}, Sm L a seen → (∀ d ∈ o, ∃ (i : Nat) (r : Flt.Rc), L[i]? = some r ∧ r.d = d ∧ r.gone = false) →
      ∃ seen', putL first seen o = some seen' ∧ Sm L a seen' ∧ (∀ (k : Nat) d, seen[k]? = some d → isB d = true → seen'[k]? = some d) ∧ seen.length ≤ seen'.length ∧ (∀ d ∈ o, d ∈ seen')
  | [], seen, h, _ => ⟨seen, rfl, h, fun _ _ h _ => h, Nat.le_refl _, fun _ h => by cases h⟩
  | d :: o, seen, h, ho => by
    obtain ⟨i, r, hr, rfl, hg⟩ := ho d List.mem_cons_self
    obtain ⟨hb, hpl⟩ := hp i r hr
    have hil := (List.getElem?_eq_some_iff.1 hr).1
    obtain ⟨s1, h1, h2, h3, h5, h6⟩ := put1_sm (first := first) h hr hg hb hpl (by omega)
    obtain ⟨s2, g1, g2, g3, g4, g5⟩ := putL_sm hp h4 o h2 (fun d hd => ho d (List.mem_cons_of_mem _ hd))
    refine ⟨s2, by unfold putL; rw [h1]; exact g1, g2, fun k d hd hB => g3 k d (h3 k d hd hB) hB, by omega, fun q hq => ?_⟩
    rcases List.mem_cons.1 hq with rfl | hq
    · exact List.mem_of_getElem? (g3 (a + i) _ h6 (decide_eq_true hb))
    · exact g5 q hq
end Go.Snd
namespace Go.Flt
def lastG (last : Nat) : List (Nat × Nat) → Nat
  | [] => last
  | g :: gs => lastG g.2 gs
theorem okG_snoc (n base : Nat) (g : Nat × Nat) : ∀ (gs : List (Nat × Nat)) (last : Nat), okG n base last gs = true → lastG last gs + 2 ≤ g.1 → g.1 ≤ g.2 → base + g.2 ≤ n → okG n base last (gs ++ [g]) = true ∧ lastG last (gs ++ [g]) = g.2
  | [], last, _, h1, h2, h3 => by
    refine ⟨?_, rfl⟩
    rw [lastG] at h1
    simp [okG]
    omega
  | q :: gs, last, h, h1, h2, h3 => by
    rw [okG] at h
    simp only [Bool.and_eq_true] at h
    obtain ⟨ha, hb⟩ := h
    obtain ⟨h4, h5⟩ := okG_snoc n base g gs q.2 hb h1 h2 h3
    refine ⟨?_, h5⟩
    rw [List.cons_append, okG, h4]
    simp only [Bool.and_eq_true]
    exact ⟨ha, trivial⟩
end Go.Flt
namespace Go.Snd
open Go Go.Pth
structure GI (seen : List Flt.Dt) (cum base n k : Nat) (gs : List (Nat × Nat)) : Prop where
  ok : Flt.okG n base 0 gs = true
  run : Flt.lastG 0 gs = 0 ∨ ∃ st to, st < k ∧ cum ≤ to ∧ Flt.lastG 0 gs = to - cum + 1 ∧ ∀ j, st ≤ j → j ≤ to → isB (seen.getD j dtZ) = true
theorem run_all {seen : List Flt.Dt} {k j : Nat} (hk : isB (seen.getD k dtZ) = true) (h1 : k ≤ j) (h2 : j ≤ k + ((seen.drop (k + 1)).takeWhile isB).length) : isB (seen.getD j dtZ) = true := by
  by_cases hjk : j = k
  · rw [hjk]; exact hk
  · have hl : j - (k + 1) < ((seen.drop (k + 1)).takeWhile isB).length := by omega
    have hm := List.all_takeWhile (l := seen.drop (k + 1)) (p := isB)
    rw [List.all_eq_true] at hm
    have hpre := (List.takeWhile_prefix (l := seen.drop (k + 1)) isB)
    have hg := hpre.getElem hl
    have hd := hm _ (List.getElem_mem hl)
    rw [hg, List.getElem_drop] at hd
    have e : k + 1 + (j - (k + 1)) = j := by omega
    have hlen : j < seen.length := by have := hpre.length_le; rw [List.length_drop] at this; omega
    have e2 : seen.getD j dtZ = seen[j] := by rw [List.getD_eq_getElem?_getD, List.getElem?_eq_getElem hlen]; rfl
    rw [e2]
    simpa [e] using hd
theorem gaps_gi {seen : List Flt.Dt} {cum base n : Nat} (hb : base + (seen.length - cum) ≤ n) (hc : cum ≤ seen.length) : ∀ (m k : Nat) (gs : List (Nat × Nat)), cum + 1 ≤ k → GI seen cum base n k gs → Flt.okG n base 0 (gaps seen cum m k gs) = true
  | 0, _, _, _, h => h.ok
  | m + 1, k, gs, hk, h => by
    have hup : ∀ gs', GI seen cum base n k gs' → GI seen cum base n (k + 1) gs' := fun gs' h => ⟨h.ok, h.run.imp id (fun ⟨st, to, a, b⟩ => ⟨st, to, by omega, b⟩)⟩
    rw [gaps]
    split
    · rename_i hl
      split
      · exact gaps_gi hb hc m (k + 1) gs (by omega) (hup gs h)
      · rename_i hno
        rw [not_or] at hno
        obtain ⟨hB, hP⟩ := hno
        have hB : isB (seen.getD k dtZ) = true := by simpa using hB
        have hP : isB (seen.getD (k - 1) dtZ) = false := by simpa using hP
        have hle : ((seen.drop (k + 1)).takeWhile isB).length ≤ seen.length - (k + 1) := by have := (List.takeWhile_prefix (l := seen.drop (k + 1)) isB).length_le; rw [List.length_drop] at this; exact this
        have hlast : Flt.lastG 0 gs + 2 ≤ k - cum + 1 := by
          rcases h.run with h0 | ⟨st, to, h1, h2, h3, h4⟩
          · omega
          · rw [h3]
            by_cases hq : k - 1 ≤ to
            · rw [h4 (k - 1) (by omega) hq] at hP; cases hP
            · omega
        obtain ⟨h5, h6⟩ := Flt.okG_snoc n base (k - cum + 1, k + ((seen.drop (k + 1)).takeWhile isB).length - cum + 1) gs 0 h.ok hlast (by dsimp only; omega) (by dsimp only; omega)
        exact gaps_gi hb hc m (k + 1) _ (by omega) ⟨h5, .inr ⟨k, k + ((seen.drop (k + 1)).takeWhile isB).length, by omega, by omega, h6, fun j h1 h2 => run_all hB h1 h2⟩⟩
    · exact h.ok
end Go.Snd
namespace Go.Snd
open Go Go.Pth
/-- a line beside a sender: 'a' pieces are behind the cumulative TSN -/
structure Li (N a : Nat) (s : S) (x : Ln) : Prop where
  ok : Ok N s
  c : s.f.c = Spn.u32 (x.first - 1 + (a : Int))
  cum : a ≤ x.cum ∧ x.cum ≤ x.seen.length
  sm : Sm s.f.L a x.seen
  bs : ∀ r ∈ s.f.L, r.d.bs ≠ []
  sum : a + s.f.L.length ≤ 4000
theorem Li.span {N a : Nat} {s : S} {x : Ln} (h : Li N a s x) : ∃ sp, Flt.span s.f x.y x.gaps = some sp ∧ Spn.far s.f.c x.y = x.cum - a := by
  have hlen := h.sm.len
  have hcum := h.cum
  have hsum := h.sum
  have hc := h.c
  have hfew := h.ok.f.g.few
  have hy : x.y = Spn.u32 (x.first - 1 + (x.cum : Int)) := by unfold Ln.y; simp only [Spn.u32_eq]; omega
  have hfar : Spn.far s.f.c x.y = x.cum - a := far_all (first := x.first) (a := a) (l := x.cum - a) hc (by rw [hy]; congr 1; omega) (by omega)
  have hok := gaps_gi (seen := x.seen) (cum := x.cum) (base := x.cum - a) (n := s.f.L.length) (by omega) hcum.2 x.seen.length (x.cum + 1) [] (Nat.le_refl _) ⟨rfl, .inl rfl⟩
  refine ⟨Flt.spL (x.cum - a) x.gaps, ?_, hfar⟩
  unfold Flt.span
  rw [hfar, if_neg ?_, if_pos (show Flt.okG s.f.L.length (x.cum - a) 0 x.gaps = true from hok)]
  rintro ⟨h1, h2⟩
  unfold Flt.atI at h2
  split at h2
  · cases h2
  · rename_i h3
    have : x.cum ≠ a := fun e => h1 (by rw [hy, hc, e])
    rw [hfar] at h3
    omega
theorem Li.answer {N a : Nat} {s : S} {x : Ln} (h : Li N a s x) (rwnd now : Int) : ∃ s', Snd.answer s x rwnd now = some s' := by
  obtain ⟨sp, h1, _⟩ := h.span
  unfold Snd.answer Snd.sack Flt.sack
  rw [h1]
  exact ⟨_, rfl⟩
/-- a packet goes and is taken -/
theorem Li.takes {N a : Nat} {s s' : S} {x : Ln} (h : Li N a s x) {now : Int} {k : Nat} {o : List Flt.Dt} (hn : next s now = (s', some (k, o))) (hs : a + s'.f.L.length ≤ 4000) (hb : ∀ r ∈ s'.f.L, r.d.bs ≠ []) :
    ∃ x', x.take o = some x' ∧ Li N a s' x' ∧ x'.first = x.first ∧ (∀ d ∈ o, d ∈ x'.seen) ∧ x.cum ≤ x'.cum := by
  obtain ⟨hc, ⟨M, hM⟩, hin⟩ := next_k h.ok hn
  have hok := next_ok h.ok now
  rw [hn] at hok
  have hcum := h.cum
  have hlen : s.f.L.length ≤ s'.f.L.length := by have := congrArg List.length hM; simp at this; omega
  have hsm : Sm s'.f.L a x.seen := ⟨by have := h.sm.len; omega, fun i r d hr hd hB hg => by
    by_cases hi : i < s.f.L.length
    · have e := congrArg (·[i]?) hM
      rw [List.getElem?_append_left (by simpa using hi), List.getElem?_map, List.getElem?_map, hr, List.getElem?_eq_getElem hi] at e
      have e := Option.some.inj e
      have e1 : r.d = (s.f.L[i]).d := congrArg Prod.fst e
      have e2 : r.gone = (s.f.L[i]).gone := congrArg Prod.snd e
      rw [e1]
      exact h.sm.same i _ d (List.getElem?_eq_getElem hi) hd hB (e2.symm.trans hg)
    · have h1 := h.sm.len
      have h2 := (List.getElem?_eq_some_iff.1 hd).1
      omega⟩
  have hp : ∀ (i : Nat) (r : Flt.Rc), s'.f.L[i]? = some r → r.d.bs ≠ [] ∧ placeOf x.first r.d.tsn = a + i := fun i r hr => by
    refine ⟨hb r (List.mem_of_getElem? hr), ?_⟩
    have ht := hok.f.g.tsn i r hr
    have hil := (List.getElem?_eq_some_iff.1 hr).1
    show placeOf x.first r.tsn = a + i
    rw [ht, hc, h.c]
    unfold placeOf
    simp only [Spn.u32_eq]
    omega
  obtain ⟨seen', h1, h2, h3, h4, h5⟩ := putL_sm (first := x.first) hp (by omega) o hsm hin
  have hadv : x.cum ≤ adv seen' x.cum ∧ adv seen' x.cum ≤ seen'.length := by
    unfold adv
    have := (List.takeWhile_prefix (l := seen'.drop x.cum) isB).length_le
    rw [List.length_drop] at this
    omega
  refine ⟨{ x with seen := seen', cum := adv seen' x.cum }, by unfold Ln.take; rw [h1], ⟨hok, by dsimp only; rw [hc]; exact h.c, ⟨by dsimp only; omega, hadv.2⟩, h2, hb, hs⟩, rfl, h5, hadv.1⟩
end Go.Snd
namespace Go.Snd
open Go Go.Pth
/-- an answer: what it leaves of the flight -/
theorem sack_f {s s' : S} {y rwnd now : Int} {gs : List (Nat × Nat)} (ho : s.owed = []) (hs : sack s y rwnd gs now = some s') :
    ∃ M : List Flt.Rc, M.map Flt.Rc.core = s.f.L.map Flt.Rc.core ∧ s'.f = ⟨M.drop (Spn.far s.f.c y), y, s.f.paths⟩ ∧ s'.owed = [] := by
  unfold Snd.sack at hs
  cases hf : Flt.sack s.f y gs with
  | none => rw [hf] at hs; cases hs
  | some x =>
    obtain ⟨f', t⟩ := x
    rw [hf] at hs
    dsimp only at hs
    have hs := Option.some.inj hs
    obtain ⟨M, hM, hf', _⟩ := Flt.sack_core hf
    have k1 : ∀ s4 : S, s4.f = f' → s4.owed = [] → (lay s4 now).f = f' := fun s4 h4 h5 => by rw [layN_nil now h5]; exact h4
    have k2 : ∀ s4 : S, s4.owed = [] → (lay s4 now).owed = [] := fun s4 h5 => by rw [layN_nil now h5]; exact h5
    refine ⟨M, hM, ?_, ?_⟩
    · rw [← hs]
      refine Eq.trans ?_ hf'
      exact k1 _ rfl ho
    · rw [← hs]
      exact k2 _ ho
theorem Li.answered {N a : Nat} {s s' : S} {x : Ln} (h : Li N a s x) (ho : s.owed = []) {rwnd now : Int} (hs : Snd.answer s x rwnd now = some s') : Li N x.cum s' x ∧ s'.owed = [] ∧ s'.f.L.length = s.f.L.length - (x.cum - a) := by
  unfold Snd.answer at hs
  obtain ⟨sp, _, hfar⟩ := h.span
  obtain ⟨M, hM, hf, ho'⟩ := sack_f ho hs
  rw [hfar] at hf
  have hMl : M.length = s.f.L.length := by have := congrArg List.length hM; simpa using this
  have hlen := h.sm.len
  have hcum := h.cum
  have hsum := h.sum
  have hy : x.y = Spn.u32 (x.first - 1 + (x.cum : Int)) := by unfold Ln.y; simp only [Spn.u32_eq]; omega
  have hy2 : 0 ≤ x.y ∧ x.y < 4294967296 := by rw [hy]; exact Flt.u32_mod _
  refine ⟨⟨sack_ok h.ok hy2 hs, by rw [hf]; exact hy, ⟨Nat.le_refl _, hcum.2⟩, ⟨by rw [hf]; dsimp only; rw [List.length_drop, hMl]; omega, fun i r d hr hd hB hg => ?_⟩, fun r hr => ?_, by rw [hf]; dsimp only; rw [List.length_drop, hMl]; omega⟩, ho', by rw [hf]; dsimp only; rw [List.length_drop, hMl]⟩
  · rw [hf] at hr
    dsimp only at hr
    rw [List.getElem?_drop] at hr
    obtain ⟨q, h1, h2⟩ := Flt.map_get hM hr
    have e1 : q.d = r.d := congrArg (fun x : Flt.Dt × Int × Int × Int × Bool × Bool => x.1) h2
    have e2 : q.gone = r.gone := congrArg (fun x : Flt.Dt × Int × Int × Int × Bool × Bool => x.2.2.2.2.1) h2
    rw [← e1]
    exact h.sm.same (x.cum - a + i) q d h1 (by rw [← hd]; congr 1; omega) hB (e2.trans hg)
  · rw [hf] at hr
    dsimp only at hr
    obtain ⟨i, hi⟩ := List.getElem?_of_mem (List.mem_of_mem_drop hr)
    obtain ⟨q, h1, h2⟩ := Flt.map_get hM hi
    have e1 : q.d = r.d := congrArg (fun x : Flt.Dt × Int × Int × Int × Bool × Bool => x.1) h2
    rw [← e1]
    exact h.bs q (List.mem_of_getElem? h1)
end Go.Snd
namespace Go.Flt
theorem sel_dg (q : Rc → Bool) (g : Rc → Rc) (hg : ∀ r, (g r).dg = r.dg) (L : List Rc) : (sel q g L).map Rc.dg = L.map Rc.dg := by
  unfold sel
  rw [List.map_map]
  refine List.map_congr_left (fun r _ => ?_)
  show Rc.dg (if q r then g r else r) = r.dg
  split
  · exact hg r
  · rfl
theorem mark_dg (f : S) (p : Int) : (mark f p).L.map Rc.dg = f.L.map Rc.dg := sel_dg (byP p) setLost (fun _ => rfl) f.L
end Go.Flt
namespace Go.Snd
open Go Go.Pth
/-- the line looks at the flight's records alone -/
theorem Li.like {N N' a : Nat} {s s' : S} {x : Ln} (h : Li N a s x) (ho : Ok N' s') (hc : s'.f.c = s.f.c) (hd : s'.f.L.map Flt.Rc.dg = s.f.L.map Flt.Rc.dg) : Li N' a s' x := by
  have hl : s'.f.L.length = s.f.L.length := by have := congrArg List.length hd; simpa using this
  refine ⟨ho, hc.trans h.c, h.cum, ⟨by rw [hl]; exact h.sm.len, fun i r d hr hd' hB hg => ?_⟩, fun r hr => ?_, by rw [hl]; exact h.sum⟩
  · obtain ⟨q, h1, h2, h3⟩ := Flt.dg_get hd hr
    rw [← h2]
    exact h.sm.same i q d h1 hd' hB (h3.trans hg)
  · obtain ⟨i, hi⟩ := List.getElem?_of_mem hr
    obtain ⟨q, h1, h2, _⟩ := Flt.dg_get hd hi
    rw [← h2]
    exact h.bs q (List.mem_of_getElem? h1)
theorem late1_dg (now : Int) (g : Late) (k : Nat) : (late1 now g k).s.f.c = g.s.f.c ∧ (late1 now g k).s.f.L.map Flt.Rc.dg = g.s.f.L.map Flt.Rc.dg ∧ (late1 now g k).s.owed = g.s.owed := by
  unfold late1
  split
  · exact ⟨rfl, rfl, rfl⟩
  · split
    · exact ⟨rfl, Flt.mark_dg _ _, rfl⟩
    · exact ⟨rfl, rfl, rfl⟩
theorem lateF_dg (now : Int) : ∀ (l : List Nat) (g : Late), (l.foldl (late1 now) g).s.f.c = g.s.f.c ∧ (l.foldl (late1 now) g).s.f.L.map Flt.Rc.dg = g.s.f.L.map Flt.Rc.dg ∧ (l.foldl (late1 now) g).s.owed = g.s.owed
  | [], _ => ⟨rfl, rfl, rfl⟩
  | k :: l, g => by
    obtain ⟨a, b, c⟩ := late1_dg now g k
    obtain ⟨d, e, f⟩ := lateF_dg now l (late1 now g k)
    exact ⟨d.trans a, e.trans b, f.trans c⟩
theorem Li.late {N a : Nat} {s : S} {x : Ln} (h : Li N a s x) (now : Int) : Li N a (timeout s now).s x ∧ (timeout s now).s.owed = s.owed := by
  obtain ⟨a1, b1, c1⟩ := lateF_dg (clock now) (List.range s.ws.length) ⟨s, 0, 0⟩
  exact ⟨h.like (timeout_ok h.ok now) a1 b1, c1⟩
end Go.Snd
namespace Go.Flt
/-- some records are gone now; what is laid down behind them is gone too -/
structure Gn (f f' : S) : Prop where
  c : f'.c = f.c
  len : f.L.length ≤ f'.L.length
  rc : ∀ (i : Nat) r', f'.L[i]? = some r' → (∃ r, f.L[i]? = some r ∧ (r' = r ∨ r' = setGone r)) ∨ (f.L.length ≤ i ∧ r'.gone = true ∧ r'.acked = false ∧ r'.d.bs.length = 1)
theorem Gn.refl (f : S) : Gn f f := ⟨rfl, Nat.le_refl _, fun _ r h => .inl ⟨r, h, .inl rfl⟩⟩
theorem Gn.trans {f g h : S} (a : Gn f g) (b : Gn g h) : Gn f h := by
  refine ⟨b.c.trans a.c, Nat.le_trans a.len b.len, fun i r hr => ?_⟩
  rcases b.rc i r hr with ⟨q, hq, e⟩ | ⟨h1, h2, h3, h4⟩
  · rcases a.rc i q hq with ⟨p, hp, e'⟩ | ⟨h1, h2, h3, h4⟩
    · refine .inl ⟨p, hp, ?_⟩
      rcases e with rfl | rfl
      · exact e'
      · rcases e' with rfl | rfl
        · exact .inr rfl
        · exact .inr rfl
    · refine .inr ⟨h1, ?_⟩
      rcases e with rfl | rfl
      · exact ⟨h2, h3, h4⟩
      · exact ⟨rfl, h3, h4⟩
  · exact .inr ⟨Nat.le_trans a.len h1, h2, h3, h4⟩
theorem abandon_get {f : S} {id : Int} {i : Nat} {r' : Rc} (h : (abandon f id).L[i]? = some r') : ∃ r, f.L[i]? = some r ∧ r' = if ofId id r then setGone r else r := by
  simp only [abandon, sel, List.getElem?_map] at h
  cases hr : f.L[i]? with
  | none => rw [hr] at h; cases h
  | some r => rw [hr] at h; exact ⟨r, rfl, (Option.some.inj h).symm⟩
theorem abandon_len (f : S) (id : Int) : (abandon f id).L.length = f.L.length := by simp [abandon, sel]
theorem Gn.abandon (f : S) (id : Int) : Gn f (Flt.abandon f id) := by
  refine ⟨rfl, Nat.le_of_eq (abandon_len f id).symm, fun i r' h => ?_⟩
  obtain ⟨r, h1, h2⟩ := abandon_get h
  refine .inl ⟨r, h1, ?_⟩
  rw [h2]
  split
  · exact .inr rfl
  · exact .inl rfl
theorem abandon_dead {f : S} {id : Int} {i : Nat} {r' : Rc} (h : (Flt.abandon f id).L[i]? = some r') (hi : r'.id = id) : r'.acked = true ∨ r'.gone = true := by
  obtain ⟨r, _, rfl⟩ := abandon_get h
  split at hi
  · rename_i ho
    exact .inr (by rw [if_pos ho]; rfl)
  · rename_i ho
    rw [if_neg ho]
    unfold ofId at ho
    simp only [Bool.and_eq_true, decide_eq_true_eq, Bool.not_eq_true', not_and, Bool.not_eq_false] at ho
    cases ha : r.acked with
    | true => exact .inl rfl
    | false => exact .inr (ho ⟨hi, ha⟩)
theorem Gn.id {f f' : S} (h : Gn f f') {i : Nat} {r' : Rc} (hr : f'.L[i]? = some r') : r'.gone = true ∨ ∃ r, f.L[i]? = some r ∧ r' = r := by
  rcases h.rc i r' hr with ⟨r, h1, h2 | h2⟩ | ⟨_, h2, _⟩
  · exact .inr ⟨r, h1, h2⟩
  · exact .inl (by rw [h2]; rfl)
  · exact .inl h2
theorem Gn.laid (f : S) (d : Dt) (p now id : Int) (hd : d.bs.length = 1) : Gn f (Flt.abandon (Flt.add f d p now id) id) := by
  unfold Flt.add
  split
  · refine ⟨rfl, by rw [abandon_len]; simp, fun i r' h => ?_⟩
    obtain ⟨r, h1, h2⟩ := abandon_get h
    dsimp only at h1
    by_cases hi : i < f.L.length
    · rw [List.getElem?_append_left hi] at h1
      refine .inl ⟨r, h1, ?_⟩
      rw [h2]
      split
      · exact .inr rfl
      · exact .inl rfl
    · rw [List.getElem?_append_right (by omega)] at h1
      have e := List.mem_of_getElem? h1
      rw [List.mem_singleton] at e
      refine .inr ⟨by omega, ?_⟩
      rw [h2, if_pos (show ofId id r = true by rw [e]; unfold ofId newR; simp), e]
      exact ⟨rfl, rfl, hd⟩
  · exact Gn.abandon f id
theorem add_len {f : S} {d : Dt} {p now id : Int} (h : addE f d p = 0) : (Flt.add f d p now id).L.length = f.L.length + 1 := by unfold Flt.add; rw [if_pos h]; simp
end Go.Flt
namespace Go.Snd
open Go Go.Pth
theorem layN_gn (now : Int) : ∀ (n : Nat) (s : S), (∀ x ∈ s.owed, x.d.bs.length = 1) → Flt.Gn s.f (layN now n s).f
  | 0, s, _ => Flt.Gn.refl _
  | n + 1, s, h => by
    rw [layN]
    split
    · exact Flt.Gn.refl _
    · rename_i x r hx
      split
      · refine (Flt.Gn.laid s.f x.d 0 (clock now) x.id (h x (by rw [hx]; exact List.mem_cons_self))).trans ?_
        exact layN_gn now n { s with f := Flt.abandon (Flt.add s.f x.d 0 (clock now) x.id) x.id, owed := r } (fun y hy => h y (by rw [hx]; exact List.mem_cons_of_mem _ hy))
      · exact Flt.Gn.refl _
theorem lapse_gn : ∀ (l : List Life) (f : Flt.S), Flt.Gn f (l.foldl (fun f x => Flt.abandon f x.id) f)
  | [], f => Flt.Gn.refl f
  | x :: l, f => (Flt.Gn.abandon f x.id).trans (lapse_gn l _)
theorem lapse_len : ∀ (l : List Life) (f : Flt.S), (l.foldl (fun f x => Flt.abandon f x.id) f).L.length = f.L.length
  | [], _ => rfl
  | x :: l, f => (lapse_len l _).trans (Flt.abandon_len f x.id)
theorem gn_dead {f f' : Flt.S} (h : Flt.Gn f f') {id : Int} (hd : ∀ (i : Nat) r, f.L[i]? = some r → r.id = id → r.acked = true ∨ r.gone = true) (i : Nat) (r' : Flt.Rc) (hr : f'.L[i]? = some r') (hi : r'.id = id) : r'.acked = true ∨ r'.gone = true := by
  rcases h.id hr with hg | ⟨r, h1, rfl⟩
  · exact .inr hg
  · exact hd i r' h1 hi
theorem lapse_dead : ∀ (l : List Life) (f : Flt.S) (x : Life), x ∈ l → ∀ (i : Nat) r, (l.foldl (fun f x => Flt.abandon f x.id) f).L[i]? = some r → r.id = x.id → r.acked = true ∨ r.gone = true
  | [], _, _, h, _, _, _, _ => by cases h
  | y :: l, f, x, h, i, r, hr, hi => by
    rcases List.mem_cons.1 h with rfl | h
    · exact gn_dead (lapse_gn l (Flt.abandon f x.id)) (fun j q hq hqi => Flt.abandon_dead hq hqi) i r hr hi
    · exact lapse_dead l _ x h i r hr hi
/-! ### the queue's pieces -/
def pcs (n : Nat) : Nat := (n + 99) / 100
def pcsQ (l : List Oq.It) : Nat := (l.map (fun x => pcs (Oq.left x))).sum
theorem pcsQ_filter (p : Oq.It → Bool) (l : List Oq.It) : pcsQ (l.filter p) ≤ pcsQ l := by
  induction l with
  | nil => exact Nat.le_refl _
  | cons x l ih =>
    rw [List.filter_cons]
    unfold pcsQ at ih ⊢
    split
    · simp only [List.map_cons, List.sum_cons]; omega
    · simp only [List.map_cons, List.sum_cons]; omega
theorem pcsQ_less (p : Oq.It → Bool) {l : List Oq.It} {x : Oq.It} (hx : x ∈ l) (hp : p x = false) (h1 : 0 < Oq.left x) : pcsQ (l.filter p) + 1 ≤ pcsQ l := by
  induction l with
  | nil => cases hx
  | cons y l ih =>
    rw [List.filter_cons]
    rcases List.mem_cons.1 hx with rfl | hx
    · rw [hp]
      have := pcsQ_filter p l
      have h2 : 1 ≤ pcs (Oq.left x) := by unfold pcs; omega
      unfold pcsQ at this ⊢
      simp only [List.map_cons, List.sum_cons]
      rw [if_neg (by simp)]
      omega
    · have := ih hx
      unfold pcsQ at this ⊢
      split
      · simp only [List.map_cons, List.sum_cons]; omega
      · simp only [List.map_cons, List.sum_cons]; omega
theorem seeF_some (now : Int) : ∀ (l : List Oq.It) (q : Int × Flt.Dt × Int × Bool), (l.foldl (Oq.seeI now) q).2.2.2 = true → q.2.2.2 = true ∨ ∃ x ∈ l, Oq.dead now x = true
  | [], _, h => .inl h
  | x :: l, q, h => by
    rcases seeF_some now l _ h with h | ⟨y, hy, hd⟩
    · unfold Oq.seeI at h
      split at h
      · rename_i hd; exact .inr ⟨x, List.mem_cons_self, hd⟩
      · exact .inl h
    · exact .inr ⟨y, List.mem_cons_of_mem _ hy, hd⟩
theorem expQ_L (q : Oq.S) (now : Int) : (Oq.expire q now).L = q.L.filter (fun x => !Oq.dead now x) := rfl
/-- all that Expire does, where nothing is owed -/
structure Exp (s s' : S) (now : Int) : Prop where
  gn : Flt.Gn s.f s'.f
  bud : s'.f.L.length + pcsQ s'.q.L ≤ s.f.L.length + pcsQ s.q.L
  owed : s'.owed = []
  q : s'.q.L = s.q.L.filter (fun x => !Oq.dead now x)
  lives : s'.lives = s.lives.filter (fun x => !lifeDead now x)
  dead : ∀ x ∈ s.lives, lifeDead now x = true → ∀ (i : Nat) r, s'.f.L[i]? = some r → r.id = x.id → r.acked = true ∨ r.gone = true
  mtu : s'.mtu = s.mtu
  ws : s'.ws = s.ws.mapIdx (restW s'.f)
  told : s'.told = s.told ∧ s'.cum = s.cum
theorem expire_all {N : Nat} {s : S} (h : Ok N s) (ho : s.owed = []) (hl : s.f.L.length < 2047) {now : Int} (hc : clock now = now) : Exp s (expire s now) now := by
  have hpaths := h.paths
  have hnws := h.nws
  have hex1 := expire1_ok h now
  unfold expire
  rw [hc]
  have hfl : ∀ f : Flt.S, (lapse f now s.lives).L.length = f.L.length := fun f => lapse_len _ f
  cases hfg : (Oq.seen s.q now).2.2.2 with
  | false =>
    have e1 : expire1 s now = { s with q := Oq.expire s.q now } := by unfold expire1; dsimp only; rw [hfg]; rfl
    have e2 : (expire2 (expire1 s now) now).owed = [] := by rw [e1]; exact ho
    rw [layN_nil now e2, e1]
    exact ⟨lapse_gn _ _, by
      show (lapse s.f now s.lives).L.length + pcsQ (s.q.L.filter _) ≤ _
      rw [hfl]; have := pcsQ_filter (fun x => !Oq.dead now x) s.q.L; omega, ho, rfl, rfl, fun x hx hd i r hr hi => lapse_dead (s.lives.filter (lifeDead now)) s.f x (List.mem_filter.2 ⟨hx, hd⟩) i r hr hi, rfl, rfl, rfl, rfl⟩
  | true =>
    obtain ⟨x, hx, hxd⟩ : ∃ x ∈ s.q.L, Oq.dead now x = true := by
      rcases seeF_some now s.q.L _ hfg with h | h
      · cases h
      · exact h
    obtain ⟨o, ho1⟩ : ∃ o : Owed, o = ⟨(Oq.seen s.q now).2.1, (Oq.seen s.q now).2.2.1⟩ := ⟨_, rfl⟩
    have e1 : expire1 s now = { s with q := Oq.expire s.q now, owed := [o], f := Flt.abandon s.f o.id } := by unfold expire1; dsimp only; rw [hfg, ho, ho1]; rfl
    have ho2 : o.d.bs.length = 1 := hex1.owed o (by rw [e1]; exact List.mem_singleton.2 rfl)
    obtain ⟨f2, hf2⟩ : ∃ f2, f2 = lapse (Flt.abandon s.f o.id) now s.lives := ⟨_, rfl⟩
    have e2 : expire2 (expire1 s now) now = { s with q := Oq.expire s.q now, owed := [o], f := f2, lives := s.lives.filter (fun x => !lifeDead now x) } := by rw [e1, hf2]; rfl
    have hl2 : f2.L.length = s.f.L.length := by rw [hf2, hfl, Flt.abandon_len]
    have hp2 : f2.paths = s.f.paths := by
      rw [hf2]
      have : ∀ (l : List Life) (f : Flt.S), (l.foldl (fun f x => Flt.abandon f x.id) f).paths = f.paths := fun l => by
        induction l with
        | nil => intro f; rfl
        | cons y l ih => intro f; exact ih _
      exact this _ _
    have hE : Flt.addE f2 o.d 0 = 0 := by
      unfold Flt.addE
      rw [if_neg (by rintro (e | e | e); omega; omega; rw [e] at ho2; cases ho2), if_neg (by omega)]
    have e3 : lay (expire2 (expire1 s now) now) now = { s with q := Oq.expire s.q now, owed := [], f := Flt.abandon (Flt.add f2 o.d 0 now o.id) o.id, lives := s.lives.filter (fun x => !lifeDead now x) } := by
      rw [e2]
      unfold lay
      dsimp only [List.length_cons, List.length_nil]
      rw [layN]
      dsimp only
      rw [if_pos hE, hc]
      rfl
    rw [e3]
    have g1 : Flt.Gn s.f f2 := by rw [hf2]; exact (Flt.Gn.abandon s.f o.id).trans (lapse_gn _ _)
    have g2 := Flt.Gn.laid f2 o.d 0 now o.id ho2
    have hxl : 0 < Oq.left x := by have := (h.q.its x hx).1.at_; unfold Oq.left; omega
    exact ⟨g1.trans g2, by
      show (Flt.abandon (Flt.add f2 o.d 0 now o.id) o.id).L.length + pcsQ (s.q.L.filter _) ≤ _
      rw [Flt.abandon_len, Flt.add_len hE, hl2]
      have := pcsQ_less (fun x => !Oq.dead now x) hx (by rw [hxd]; rfl) hxl
      omega, rfl, rfl, rfl, fun y hy hd i r hr hi => gn_dead g2 (fun j q hq hqi => by
        rw [hf2] at hq
        exact lapse_dead (s.lives.filter (lifeDead now)) _ y (List.mem_filter.2 ⟨hy, hd⟩) j q hq hqi) i r hr hi, rfl, rfl, rfl, rfl⟩
end Go.Snd
namespace Go.Flt
theorem lost_open {f : S} (h : Good f) {t : Int} (ht : t ∈ lostL f) {i : Nat} (hi : atI f.c f.L.length t = some i) : ∃ r, f.L[i]? = some r ∧ openR r = true := by
  unfold lostL at ht
  obtain ⟨r, hr, hrt⟩ := List.mem_map.1 ht
  obtain ⟨hr1, hr2⟩ := List.mem_filter.1 hr
  obtain ⟨k, hk⟩ := List.getElem?_of_mem hr1
  have htsn := h.tsn k r hk
  have hkl := (List.getElem?_eq_some_iff.1 hk).1
  have hfew := h.few
  have hc := h.c
  have e : i = k := by
    unfold atI at hi
    split at hi
    · cases hi
      rw [← hrt, htsn]
      unfold Spn.far at *
      simp only [Spn.u32_eq] at *
      omega
    · cases hi
  subst e
  exact ⟨r, hk, hr2⟩
theorem open_not {r : Rc} (h : openR r = true) : r.acked = false ∧ r.gone = false ∧ r.lost = true := by
  unfold openR at h
  simp only [Bool.and_eq_true, Bool.not_eq_true'] at h
  exact ⟨h.1.2, h.2, h.1.1⟩
theorem again_rc {f : S} {t p now : Int} {i : Nat} {r' : Rc} (h : (again f t p now).1.L[i]? = some r') : ∃ r, f.L[i]? = some r ∧ (r' = r ∨ (openR r = true ∧ r' = setAgain p now r ∧ atI f.c f.L.length t = some i)) := by
  unfold again at h
  split at h
  · exact ⟨r', h, .inl rfl⟩
  · split at h
    · exact ⟨r', h, .inl rfl⟩
    · rename_i j hj
      split at h
      · exact ⟨r', h, .inl rfl⟩
      · rename_i q hq
        split at h
        · rename_i ho
          dsimp only at h
          by_cases hji : j = i
          · subst hji
            rw [List.getElem?_set_self (List.getElem?_eq_some_iff.1 hq).1] at h
            exact ⟨q, hq, .inr ⟨ho, (Option.some.inj h).symm, hj⟩⟩
          · rw [List.getElem?_set_ne hji] at h
            exact ⟨r', h, .inl rfl⟩
        · exact ⟨r', h, .inl rfl⟩
end Go.Flt
namespace Go.Snd
open Go Go.Pth
/-- a record that was just laid down -/
structure Born (now : Int) (s : S) (r : Flt.Rc) : Prop where
  acked : r.acked = false
  lost : r.lost = false
  gone : r.gone = false
  miss : r.miss = 0
  of : ∃ it ∈ s.q.L, r.id = it.id ∧ ∀ b ∈ r.d.bs, b ∈ it.bs
  len : r.d.bs.length ≤ 100
/-- what a packet is made of: 'o' of lost ones and new ones -/
structure Nx (s s' : S) (o : List Flt.Dt) (now : Int) : Prop where
  rc : ∀ (i : Nat) r', s'.f.L[i]? = some r' → (∃ r, s.f.L[i]? = some r ∧ (r' = r ∨ (Flt.openR r = true ∧ r' = Flt.setAgain (0 : Nat) now r ∧ r'.d ∈ o))) ∨ (s.f.L.length ≤ i ∧ r'.d ∈ o ∧ Born now s r')
  out : ∀ d ∈ o, ∃ (i : Nat) (r' : Flt.Rc), s'.f.L[i]? = some r' ∧ r'.d = d ∧ r'.acked = false ∧ r'.gone = false ∧ ((∃ r, s.f.L[i]? = some r ∧ Flt.openR r = true) ∨ s.f.L.length ≤ i)
  q : ∀ y ∈ s'.q.L, ∃ it ∈ s.q.L, y.id = it.id ∧ y.til = it.til ∧ y.bs = it.bs
  bud : s'.f.L.length + pcsQ s'.q.L ≤ s.f.L.length + pcsQ s.q.L
  len : s.f.L.length ≤ s'.f.L.length
  lives : s'.lives = s.lives
  owed : s'.owed = s.owed
  mtu : s'.mtu = s.mtu
  told : s'.told = s.told ∧ s'.cum = s.cum
structure AgR (s : S) (now : Int) (x : Go1) : Prop where
  rc : ∀ (i : Nat) r', x.s.f.L[i]? = some r' → ∃ r, s.f.L[i]? = some r ∧ (r' = r ∨ (Flt.openR r = true ∧ r' = Flt.setAgain (0 : Nat) now r ∧ r'.d ∈ x.out))
  out : ∀ d ∈ x.out, ∃ (i : Nat) (r : Flt.Rc), s.f.L[i]? = some r ∧ Flt.openR r = true ∧ r.d = d
  c : x.s.f.c = s.f.c
  len : x.s.f.L.length = s.f.L.length
  rest : x.s = { s with f := x.s.f }
theorem again1_r {s : S} (hs : Flt.Good s.f) {now : Int} {x : Go1 × Bool} (h : AgR s (clock now) x.1) {t : Int} (ht : t ∈ Flt.lostL s.f) : AgR s (clock now) (again1 0 now x t).1 := by
  unfold again1
  split
  · exact h
  · split
    · exact h
    · rename_i d was hg
      split
      · exact h
      · split
        · exact h
        · obtain ⟨e1, e2⟩ := again_same x.1.s.f t (0 : Nat) (clock now)
          obtain ⟨k, q, hk, hqd, hat⟩ := Flt.getD_at hg
          refine ⟨fun i r' hr' => ?_, fun p hp => ?_, e1.trans h.c, e2.trans h.len, ?_⟩
          · obtain ⟨p, hp, hor⟩ := Flt.again_rc hr'
            obtain ⟨r, hr, hor2⟩ := h.rc i p hp
            refine ⟨r, hr, ?_⟩
            rcases hor with rfl | ⟨ho, rfl, hi⟩
            · exact hor2.imp id (fun ⟨a, b, c⟩ => ⟨a, b, List.mem_append_left _ c⟩)
            · rcases hor2 with rfl | ⟨a, rfl, c⟩
              · refine .inr ⟨ho, rfl, List.mem_append_right _ (List.mem_singleton.2 ?_)⟩
                rw [hat] at hi
                cases hi
                rw [hk] at hp
                cases hp
                exact hqd
              · exact .inr ⟨a, rfl, List.mem_append_left _ c⟩
          · rcases List.mem_append.1 hp with hp | hp
            · exact h.out p hp
            · rw [List.mem_singleton.1 hp]
              obtain ⟨r, hr, hor⟩ := h.rc k q hk
              rw [h.c, h.len] at hat
              obtain ⟨r2, hr2, ho2⟩ := Flt.lost_open hs ht hat
              rw [hr] at hr2
              cases hr2
              refine ⟨k, r, hr, ho2, ?_⟩
              rw [← hqd]
              rcases hor with rfl | ⟨_, rfl, _⟩
              · rfl
              · rfl
          · show ({ x.1.s with f := (Flt.again x.1.s.f t (0 : Nat) (clock now)).1 } : S) = { s with f := (Flt.again x.1.s.f t (0 : Nat) (clock now)).1 }
            rw [h.rest]
theorem again_fr {s : S} (hs : Flt.Good s.f) {now : Int} : ∀ (l : List Int) {x : Go1 × Bool}, (∀ t ∈ l, t ∈ Flt.lostL s.f) → AgR s (clock now) x.1 → AgR s (clock now) (l.foldl (again1 0 now) x).1
  | [], _, _, h => h
  | t :: l, _, hl, h => again_fr hs l (fun q hq => hl q (List.mem_cons_of_mem _ hq)) (again1_r hs h (hl t List.mem_cons_self))
theorem again_r {s : S} (hs : Flt.Good s.f) (now : Int) : AgR s (clock now) (again s 0 now) :=
  again_fr hs _ (fun _ h => h) ⟨fun _ r h => ⟨r, h, .inl rfl⟩, fun _ h => (by cases h), rfl, rfl, rfl⟩
/-! ### new ones -/
structure FrR (s : S) (now : Int) (g : Go1) : Prop where
  more : ∃ M : List Flt.Rc, g.s.f.L = s.f.L ++ M ∧ (∀ r ∈ M, r.d ∈ g.out ∧ Born now s r) ∧ ∀ d ∈ g.out, ∃ r ∈ M, r.d = d
  q : ∀ y ∈ g.s.q.L, ∃ it ∈ s.q.L, y.id = it.id ∧ y.til = it.til ∧ y.bs = it.bs
  bud : g.s.f.L.length + pcsQ g.s.q.L ≤ s.f.L.length + pcsQ s.q.L
  ws : g.s.ws = s.ws
  lives : g.s.lives = s.lives
  owed : g.s.owed = s.owed
  mtu : g.s.mtu = s.mtu
  told : g.s.told = s.told ∧ g.s.cum = s.cum
theorem piece128 {s : S} (h : s.mtu = 128) : piece s = mn (Oq.size s.q) 100 := by unfold piece; rw [h]; rfl
theorem next_q {q : Oq.S} (ho : Oq.Ok q) {n : Int} (hn : n = mn (Oq.size q) 100) {d : Flt.Dt} {id : Int} {q' : Oq.S} (h : Oq.next q n = some (d, id, q')) :
    pcsQ q'.L + 1 ≤ pcsQ q.L ∧ (∀ y ∈ q'.L, ∃ it ∈ q.L, y.id = it.id ∧ y.til = it.til ∧ y.bs = it.bs) ∧ (∃ it ∈ q.L, id = it.id ∧ ∀ b ∈ d.bs, b ∈ it.bs) ∧ d.bs.length ≤ 100 := by
  unfold Oq.next at h
  split at h
  · cases h
  · rename_i h1
    cases hL : q.L with
    | nil => rw [hL] at h; cases h
    | cons x r =>
      rw [hL] at h
      cases h
      have hx := (ho.its x (by rw [hL]; exact List.mem_cons_self)).1.at_
      have hsz : Oq.size q = Oq.left x := by unfold Oq.size; rw [hL]
      rw [hsz] at hn
      have hl : Oq.left x = x.bs.length - x.at_ := rfl
      have hend : Oq.endAt x n = x.at_ + min (Oq.left x) 100 := by unfold Oq.endAt; rw [hn, mn_eq, mn_eq]; omega
      refine ⟨?_, fun y hy => ?_, ⟨x, List.mem_cons_self, rfl, fun b hb => ?_⟩, ?_⟩
      · unfold Oq.nextS Oq.lastB
        dsimp only
        rw [hend]
        split
        · rename_i e
          have e := of_decide_eq_true e
          unfold pcsQ
          rw [List.map_cons, List.sum_cons]
          have : 1 ≤ pcs (Oq.left x) := by unfold pcs; omega
          omega
        · rename_i e
          have e : ¬ x.at_ + min (Oq.left x) 100 = x.bs.length := fun e' => e (decide_eq_true e')
          unfold pcsQ
          rw [List.map_cons, List.sum_cons, List.map_cons, List.sum_cons]
          have : Oq.left (Oq.cutI q x n) = Oq.left x - 100 := by
            show x.bs.length - Oq.endAt x n = _
            rw [hend]; omega
          rw [this]
          have : pcs (Oq.left x - 100) + 1 ≤ pcs (Oq.left x) := by unfold pcs; omega
          omega
      · unfold Oq.nextS at hy
        dsimp only at hy
        split at hy
        · exact ⟨y, List.mem_cons_of_mem _ hy, rfl, rfl, rfl⟩
        · rcases List.mem_cons.1 hy with rfl | hy
          · exact ⟨x, List.mem_cons_self, rfl, rfl, rfl⟩
          · exact ⟨y, List.mem_cons_of_mem _ hy, rfl, rfl, rfl⟩
      · exact List.mem_of_mem_drop (List.mem_of_mem_take hb)
      · show ((x.bs.drop x.at_).take (Oq.endAt x n - x.at_)).length ≤ 100
        rw [List.length_take, hend]
        omega
theorem fresh1_r {n : Nat} {s : S} (hm : s.mtu = 128) (hk : 0 < s.ws.length) {now : Int} {g : Go1} (ho : Ok n g.s) (h : FrR s (clock now) g) (hs : stops g.s 0 g.room = false) : FrR s (clock now) (fresh1 0 now g) := by
  have hst := stops_false hs
  obtain ⟨d, id, q', hn, hl, hb⟩ := fresh_next ho hst.1
  have hadd := fresh_add ho (k := 0) (by rw [h.ws]; exact hk) hb hst.2.2.2.2
  obtain ⟨k1, k2, ⟨it, hit, hid, hbs⟩, k4⟩ := next_q ho.q (piece128 (h.mtu.trans hm)) hn
  rw [fresh1_at hn]
  obtain ⟨M, hM, hM1, hM2⟩ := h.more
  have hL : (Flt.add g.s.f d (0 : Nat) (clock now) id).L = g.s.f.L ++ [Flt.newR g.s.f d (0 : Nat) (clock now) id] := by unfold Flt.add; rw [if_pos hadd]
  refine ⟨⟨M ++ [Flt.newR g.s.f d (0 : Nat) (clock now) id], ?_, fun r hr => ?_, fun p hp => ?_⟩, fun y hy => ?_, ?_, h.ws, h.lives, h.owed, h.mtu, h.told⟩
  · dsimp only
    rw [hL, hM, List.append_assoc]
  · dsimp only
    rcases List.mem_append.1 hr with hr | hr
    · obtain ⟨a, b⟩ := hM1 r hr
      exact ⟨List.mem_append_left _ a, b⟩
    · rw [List.mem_singleton.1 hr]
      obtain ⟨i2, hi2, e1, e2, e3⟩ := h.q it hit
      exact ⟨List.mem_append_right _ (List.mem_singleton.2 rfl), rfl, rfl, rfl, rfl, ⟨i2, hi2, hid.trans e1, fun b hb => by rw [← e3]; exact hbs b hb⟩, k4⟩
  · dsimp only at hp
    rcases List.mem_append.1 hp with hp | hp
    · obtain ⟨r, a, b⟩ := hM2 p hp
      exact ⟨r, List.mem_append_left _ a, b⟩
    · rw [List.mem_singleton.1 hp]
      exact ⟨_, List.mem_append_right _ (List.mem_singleton.2 rfl), rfl⟩
  · obtain ⟨i1, hi1, a1, a2, a3⟩ := k2 y hy
    obtain ⟨i2, hi2, e1, e2, e3⟩ := h.q i1 hi1
    exact ⟨i2, hi2, a1.trans e1, a2.trans e2, a3.trans e3⟩
  · dsimp only
    rw [hL, List.length_append, List.length_singleton]
    have := h.bud
    omega
theorem freshN_r {n : Nat} {s : S} (hm : s.mtu = 128) (hk : 0 < s.ws.length) {now : Int} : ∀ (m : Nat) {g : Go1}, Ok n g.s → FrR s (clock now) g → FrR s (clock now) (freshN 0 now m g)
  | 0, _, _, h => h
  | m + 1, g, ho, h => by
    rw [freshN]
    split
    · exact h
    · rename_i hs
      exact freshN_r hm hk m (fresh1_ok ho) (fresh1_r hm hk ho h (Bool.not_eq_true _ ▸ hs))
theorem fresh_r {n : Nat} {s : S} (hs : Ok n s) (hm : s.mtu = 128) (hk : 0 < s.ws.length) (now : Int) : FrR s (clock now) (fresh s 0 now) :=
  freshN_r hm hk 100 hs ⟨⟨[], by simp, fun _ h => (by cases h), fun _ h => (by cases h)⟩, fun y hy => ⟨y, hy, rfl, rfl, rfl⟩, Nat.le_refl _, rfl, rfl, rfl, rfl, rfl, rfl⟩
theorem run_rest (s : S) (k : Nat) (now : Int) : (run s k now).lives = s.lives ∧ (run s k now).owed = s.owed ∧ (run s k now).mtu = s.mtu ∧ (run s k now).told = s.told ∧ (run s k now).cum = s.cum := by
  unfold run
  split
  · exact ⟨rfl, rfl, rfl, rfl, rfl⟩
  · exact ⟨rfl, rfl, rfl, rfl, rfl⟩
theorem run_timer {s : S} {k : Nat} {now : Int} {w : Way} (h : s.ws[0]? = some w) (ht : w.timer ≠ -1) : ∃ w', (run s k now).ws[0]? = some w' ∧ w'.timer = w.timer := by
  unfold run
  split
  · rename_i v hv
    by_cases hk : k = 0
    · subst hk
      rw [hv] at h
      cases h
      refine ⟨runW (clock now) w, ?_, ?_⟩
      · dsimp only
        rw [List.getElem?_set_self (List.getElem?_eq_some_iff.1 hv).1]
      · unfold runW
        rw [if_neg ht]
    · refine ⟨w, ?_, rfl⟩
      dsimp only
      rw [List.getElem?_set_ne hk]
      exact h
  · exact ⟨w, h, rfl⟩
theorem next_nx {n : Nat} {s s' : S} (ho : Ok n s) (hm : s.mtu = 128) (hw : s.ws.length = 1) {now : Int} {k : Nat} {o : List Flt.Dt} (hn : next s now = (s', some (k, o))) :
    k = 0 ∧ Nx s s' o (clock now) ∧ s'.ws.length = 1 ∧ ∀ w, s.ws[0]? = some w → w.timer ≠ -1 → ∃ w', s'.ws[0]? = some w' ∧ w'.timer = w.timer := by
  obtain ⟨g, hk, hg, hgo, _, hs'⟩ := next_how hn
  obtain rfl : k = 0 := by omega
  obtain ⟨f1, f2, _, f4⟩ := run_f g.s 0 now
  obtain ⟨r1, r2, r3, r4, r5⟩ := run_rest g.s 0 now
  rw [← hs'] at f1 f2 f4 r1 r2 r3 r4 r5
  subst hgo
  rcases hg with rfl | rfl
  · have h := again_r ho.f.g now
    have hx := h.rest
    have hws : (again s 0 now).s.ws = s.ws := by rw [hx]
    have hq : (again s 0 now).s.q = s.q := by rw [hx]
    refine ⟨rfl, ⟨fun i r' hr' => ?_, fun d hd => ?_, fun y hy => ?_, ?_, ?_, ?_, ?_, ?_, ?_, ?_⟩, ?_, fun w h1 h2 => ?_⟩
    · rw [f1] at hr'
      exact .inl (h.rc i r' hr')
    · obtain ⟨i, r, hr, hro, hrd⟩ := h.out d hd
      have hil := (List.getElem?_eq_some_iff.1 hr).1
      obtain ⟨q, hq⟩ : ∃ q, (again s 0 now).s.f.L[i]? = some q := ⟨_, List.getElem?_eq_getElem (by rw [h.len]; exact hil)⟩
      obtain ⟨r2, hr2, hor⟩ := h.rc i q hq
      rw [hr] at hr2
      cases hr2
      obtain ⟨o1, o2, _⟩ := Flt.open_not hro
      refine ⟨i, q, by rw [f1]; exact hq, ?_, ?_, ?_, .inl ⟨r, hr, hro⟩⟩
      · rcases hor with rfl | ⟨_, rfl, _⟩
        · exact hrd
        · exact hrd
      · rcases hor with rfl | ⟨_, rfl, _⟩
        · exact o1
        · exact o1
      · rcases hor with rfl | ⟨_, rfl, _⟩
        · exact o2
        · exact o2
    · rw [f2, hq] at hy
      exact ⟨y, hy, rfl, rfl, rfl⟩
    · rw [f1, f2, hq, h.len]; exact Nat.le_refl _
    · rw [f1, h.len]; exact Nat.le_refl _
    · rw [r1, hx]
    · rw [r2, hx]
    · rw [r3, hx]
    · rw [r4, hx]
    · rw [r5, hx]
    · rw [f4, hws]; exact hw
    · rw [hs']; exact run_timer (by rw [hws]; exact h1) h2
  · have h := fresh_r ho hm (by omega) now
    obtain ⟨M, hM, hM1, hM2⟩ := h.more
    refine ⟨rfl, ⟨fun i r' hr' => ?_, fun d hd => ?_, fun y hy => ?_, ?_, ?_, ?_, ?_, ?_, ?_, ?_⟩, ?_, fun w h1 h2 => ?_⟩
    · rw [f1, hM] at hr'
      by_cases hi : i < s.f.L.length
      · rw [List.getElem?_append_left hi] at hr'
        exact .inl ⟨r', hr', .inl rfl⟩
      · rw [List.getElem?_append_right (by omega)] at hr'
        obtain ⟨a, b⟩ := hM1 r' (List.mem_of_getElem? hr')
        exact .inr ⟨by omega, a, b⟩
    · obtain ⟨r, hr, hrd⟩ := hM2 d hd
      obtain ⟨j, hj⟩ := List.getElem?_of_mem hr
      obtain ⟨_, b⟩ := hM1 r hr
      refine ⟨s.f.L.length + j, r, ?_, hrd, b.acked, b.gone, .inr (Nat.le_add_right _ _)⟩
      rw [f1, hM, List.getElem?_append_right (Nat.le_add_right _ _), Nat.add_sub_cancel_left]
      exact hj
    · rw [f2] at hy
      exact h.q y hy
    · rw [f1, f2]; exact h.bud
    · rw [f1, hM, List.length_append]; omega
    · rw [r1]; exact h.lives
    · rw [r2]; exact h.owed
    · rw [r3]; exact h.mtu
    · rw [r4]; exact h.told.1
    · rw [r5]; exact h.told.2
    · rw [f4, h.ws]; exact hw
    · rw [hs']; exact run_timer (by rw [h.ws]; exact h1) h2
/-! ### what goes first -/
theorem again_mem {k : Nat} {now : Int} {d : Flt.Dt} : ∀ (l : List Int) {x : Go1 × Bool}, d ∈ x.1.out → d ∈ (l.foldl (again1 k now) x).1.out
  | [], _, h => h
  | t :: l, x, h => by
    refine again_mem l ?_
    unfold again1
    repeat' split
    all_goals first | exact h | exact List.mem_append_left _ h
theorem fresh_mem {k : Nat} {now : Int} {d : Flt.Dt} : ∀ (m : Nat) {g : Go1}, d ∈ g.out → d ∈ (freshN k now m g).out
  | 0, _, h => h
  | m + 1, g, h => by
    rw [freshN]
    split
    · exact h
    · refine fresh_mem m ?_
      unfold fresh1
      split
      · exact h
      · exact List.mem_append_left _ h
theorem getD_front {f : Flt.S} (h : Flt.Good f) {r : Flt.Rc} (hr : f.L[0]? = some r) : Flt.getD f r.tsn = some (r.d, r.path) ∧ Flt.atI f.c f.L.length r.tsn = some 0 := by
  have htsn := h.tsn 0 r hr
  have hc := h.c
  have hl := (List.getElem?_eq_some_iff.1 hr).1
  have hfar : Spn.far f.c r.tsn = 1 := by
    rw [htsn]
    unfold Spn.far
    simp only [Spn.u32_eq]
    omega
  have hat : Flt.atI f.c f.L.length r.tsn = some 0 := by unfold Flt.atI; rw [hfar, if_pos (by omega)]
  refine ⟨?_, hat⟩
  unfold Flt.getD
  rw [hat]
  dsimp only
  rw [hr]
  rfl
theorem may_free {n : Nat} {s : S} (ho : Ok n s) (hw : s.ws.length = 1) (h0 : Flt.out s.f (0 : Nat) = 0) : mayW s 0 = true := by
  obtain ⟨w, hw1⟩ := List.length_eq_one_iff.1 hw
  have hp := (ho.ws w (by rw [hw1]; exact List.mem_singleton.2 rfl)).p.w
  have h1 := hp.size
  have h2 := hp.mtu
  unfold mayW sizeW
  rw [hw1, h0]
  exact decide_eq_true (by dsimp only [List.getElem?_cons_zero]; omega)
theorem lostL_cons {f : Flt.S} {r : Flt.Rc} (hr : f.L[0]? = some r) (ho : Flt.openR r = true) : ∃ l, Flt.lostL f = r.tsn :: l := by
  unfold Flt.lostL
  cases hL : f.L with
  | nil => rw [hL] at hr; cases hr
  | cons q l =>
    rw [hL] at hr
    cases hr
    rw [List.filter_cons, ho]
    exact ⟨_, rfl⟩
theorem next_first {n : Nat} {s : S} (ho : Ok n s) (hm : s.mtu = 128) (hw : s.ws.length = 1) (h0 : Flt.out s.f (0 : Nat) = 0) {r : Flt.Rc} (hr : s.f.L[0]? = some r) (hop : Flt.openR r = true) (hb : r.d.bs.length ≤ 100) (now : Int) :
    ∃ s' k o, next s now = (s', some (k, o)) ∧ r.d ∈ o := by
  obtain ⟨g1, _⟩ := getD_front ho.f.g hr
  obtain ⟨l, hl⟩ := lostL_cons hr hop
  have hin : r.d ∈ (again s 0 now).out := by
    unfold again
    rw [hl, List.foldl_cons]
    refine again_mem l ?_
    unfold again1
    dsimp only
    rw [if_neg (by decide), g1]
    dsimp only
    rw [if_neg (by rw [nextW_one hw]; simp), may_free ho hw h0]
    have := (need_le (n := r.d.bs.length)).2 hb
    rw [if_neg (by rw [hm]; simp; omega)]
    exact List.mem_append_right _ (List.mem_singleton.2 rfl)
  have hne : (again s 0 now).out ≠ [] := List.ne_nil_of_mem hin
  refine ⟨run (again s 0 now).s 0 now, 0, (again s 0 now).out, ?_, hin⟩
  unfold next
  rw [hw, show List.range 1 = [0] from rfl, trySome]
  dsimp only
  rw [if_neg hne]
theorem nolost_nil {f : Flt.S} (h : f.L = []) : NoLost f := fun r hr => by rw [h] at hr; cases hr
theorem next_new {n : Nat} {s : S} (ho : Ok n s) (hm : s.mtu = 128) (hw : s.ws.length = 1) (hL : s.f.L = []) (hq : s.q.L ≠ []) (now : Int) :
    ∃ s' k o d, next s now = (s', some (k, o)) ∧ d ∈ o ∧ d.tsn = Flt.newT s.f := by
  have hout : ∀ k : Int, Flt.out s.f k = 0 := fun k => by unfold Flt.out; rw [hL]; rfl
  have hmay := may_free ho hw (hout _)
  have haw : away s = 0 := by
    unfold away
    rw [hw]
    show (List.map _ [0]).sum = 0
    simp [hout]
  obtain ⟨x, r, hx⟩ : ∃ x r, s.q.L = x :: r := by
    cases hxL : s.q.L with
    | nil => exact absurd hxL hq
    | cons x r => exact ⟨x, r, rfl⟩
  have hat := (ho.q.its x (by rw [hx]; exact List.mem_cons_self)).1.at_
  have hsz : Oq.size s.q = Oq.left x := by unfold Oq.size; rw [hx]
  have hpc : piece s = mn (Oq.left x) 100 := by rw [piece128 hm, hsz]
  have hleft : 0 < Oq.left x := by unfold Oq.left; omega
  have hst : stops s 0 116 = false := by
    have hn := (need_le (n := (piece s).toNat)).2 (by rw [hpc, mn_eq]; omega)
    unfold stops
    dsimp only
    rw [hmay, haw, hL]
    simp only [Bool.or_eq_false_iff, decide_eq_false_iff_not]
    rw [hpc, mn_eq] at hn ⊢
    refine ⟨by omega, by omega, rfl, ?_, ?_⟩
    · simp
    · simp
  obtain ⟨d, id, q', hn, _, _⟩ := fresh_next ho (show piece s ≠ 0 by rw [hpc, mn_eq]; omega)
  have hin1 : ({ d with tsn := Flt.newT s.f } : Flt.Dt) ∈ (fresh1 0 now ⟨s, [], 116⟩).out := by
    rw [fresh1_at (g := ⟨s, [], 116⟩) hn]
    exact List.mem_append_right _ (List.mem_singleton.2 rfl)
  have hin : ({ d with tsn := Flt.newT s.f } : Flt.Dt) ∈ (fresh s 0 now).out := by
    have e : fresh s 0 now = freshN 0 now 99 (fresh1 0 now ⟨s, [], 116⟩) := by
      have em : s.mtu - 12 = 116 := by rw [hm]; rfl
      unfold fresh
      rw [em]
      exact freshN_go (k := 0) (now := now) (g := ⟨s, [], 116⟩) hst 99
    rw [e]
    exact fresh_mem 99 hin1
  have hne : (fresh s 0 now).out ≠ [] := List.ne_nil_of_mem hin
  refine ⟨run (fresh s 0 now).s 0 now, 0, (fresh s 0 now).out, _, ?_, hin, rfl⟩
  rw [next_one (nolost_nil hL) hw now, if_neg hne]
theorem next_empty {s : S} (hw : s.ws.length = 1) (hL : s.f.L = []) (hq : s.q.L = []) (hm : s.mtu = 128) (now : Int) : next s now = (s, none) := by
  have hst : stops s 0 (s.mtu - 12) = true := by
    have : piece s = 0 := by rw [piece128 hm]; unfold Oq.size; rw [hq]; rfl
    unfold stops
    dsimp only
    rw [this]
    rfl
  rw [next_one (nolost_nil hL) hw now]
  unfold fresh
  rw [freshN_stop (k := 0) (now := now) (g := ⟨s, [], s.mtu - 12⟩) hst]
  rfl
end Go.Snd
namespace Go.Snd
open Go Go.Pth
/-- did it come? -/
def came (seen : List Flt.Dt) (j : Nat) : Bool := isB (seen.getD j dtZ)
theorem came_get {seen : List Flt.Dt} {j : Nat} (h : came seen j = true) : ∃ q, seen[j]? = some q ∧ isB q = true := by
  unfold came at h
  rw [List.getD_eq_getElem?_getD] at h
  cases hq : seen[j]? with
  | none => rw [hq] at h; cases h
  | some q => rw [hq] at h; exact ⟨q, rfl, h⟩
theorem came_of {seen : List Flt.Dt} {j : Nat} {q : Flt.Dt} (h : seen[j]? = some q) : came seen j = isB q := by
  unfold came
  rw [List.getD_eq_getElem?_getD, h]
  rfl
theorem came_out {seen : List Flt.Dt} {j : Nat} (h : seen.length ≤ j) : came seen j = false := by
  unfold came
  rw [List.getD_eq_getElem?_getD, List.getElem?_eq_none h]
  rfl
theorem came_lt {seen : List Flt.Dt} {j : Nat} (h : came seen j = true) : j < seen.length := by
  obtain ⟨q, hq, _⟩ := came_get h
  exact (List.getElem?_eq_some_iff.1 hq).1
theorem grow_came (seen : List Flt.Dt) (k j : Nat) : came (grow seen k) j = came seen j := by
  by_cases hj : j < seen.length
  · unfold came
    rw [List.getD_eq_getElem?_getD, List.getD_eq_getElem?_getD, grow_old hj]
  · rw [came_out (seen := seen) (by omega)]
    cases hg : (grow seen k)[j]? with
    | none => unfold came; rw [List.getD_eq_getElem?_getD, hg]; rfl
    | some d => rw [came_of hg, grow_new hj hg, isB_Z]
theorem set_came {l : List Flt.Dt} {k : Nat} {d : Flt.Dt} (hk : k < l.length) (j : Nat) : came (l.set k d) j = if j = k then isB d else came l j := by
  by_cases hj : j = k
  · rw [if_pos hj, hj]
    exact came_of (List.getElem?_set_self hk)
  · rw [if_neg hj]
    unfold came
    rw [List.getD_eq_getElem?_getD, List.getD_eq_getElem?_getD, List.getElem?_set_ne (Ne.symm hj)]
/-- a piece that is taken -/
theorem put1_came {first : Int} {seen seen' : List Flt.Dt} {d : Flt.Dt} (h : put1 first seen d = some seen') (j : Nat) : came seen' j = (decide (j = placeOf first d.tsn) || came seen j) := by
  unfold put1 at h
  dsimp only at h
  split at h
  · cases h
  · rename_i h1
    have hb : isB d = true := decide_eq_true (fun e => h1 (.inr e))
    split at h
    · cases h
    · rename_i o ho
      split at h
      · cases h
      · cases h
        rw [set_came (List.getElem?_eq_some_iff.1 ho).1, grow_came]
        by_cases hj : j = placeOf first d.tsn
        · rw [if_pos hj, decide_eq_true hj, hb]; rfl
        · rw [if_neg hj, decide_eq_false hj]; rfl
theorem putL_came {first : Int} : ∀ {o : List Flt.Dt} {seen seen' : List Flt.Dt}, putL first seen o = some seen' → ∀ j, came seen' j = true ↔ came seen j = true ∨ ∃ d ∈ o, j = placeOf first d.tsn
  | [], seen, seen', h, j => by
    cases h
    simp
  | d :: o, seen, seen', h, j => by
    unfold putL at h
    split at h
    · cases h
    · rename_i s1 h1
      rw [putL_came h j, put1_came h1 j, Bool.or_eq_true, decide_eq_true_eq]
      constructor
      · rintro ((h | h) | ⟨q, hq, h⟩)
        · exact .inr ⟨d, List.mem_cons_self, h⟩
        · exact .inl h
        · exact .inr ⟨q, List.mem_cons_of_mem _ hq, h⟩
      · rintro (h | ⟨q, hq, h⟩)
        · exact .inl (.inr h)
        · rcases List.mem_cons.1 hq with rfl | hq
          · exact .inl (.inl h)
          · exact .inr ⟨q, hq, h⟩
/-! ### how far all came -/
theorem tw_all {l : List Flt.Dt} {i : Nat} (h : i < (l.takeWhile isB).length) : ∃ q, l[i]? = some q ∧ isB q = true := by
  have hpre := List.takeWhile_prefix (l := l) isB
  have hm := List.all_takeWhile (l := l) (p := isB)
  rw [List.all_eq_true] at hm
  have hl := hpre.length_le
  have hg := hpre.getElem h
  refine ⟨l[i]'(by omega), List.getElem?_eq_getElem _, ?_⟩
  rw [← hg]
  exact hm _ (List.getElem_mem h)
theorem tw_end' : ∀ {l : List Flt.Dt} {q : Flt.Dt}, l[(l.takeWhile isB).length]? = some q → isB q = false
  | [], _, h => by cases h
  | d :: l, q, h => by
    rw [List.takeWhile_cons] at h
    cases hd : isB d with
    | true =>
      rw [hd, if_pos rfl, List.length_cons, List.getElem?_cons_succ] at h
      exact tw_end' h
    | false =>
      rw [hd] at h
      cases h
      exact hd
theorem adv_stop (seen : List Flt.Dt) (cum : Nat) : came seen (adv seen cum) = false := by
  by_cases h : adv seen cum < seen.length
  · unfold adv at h ⊢
    have e : (seen.drop cum)[((seen.drop cum).takeWhile isB).length]? = seen[cum + ((seen.drop cum).takeWhile isB).length]? := List.getElem?_drop
    have hq := List.getElem?_eq_getElem h
    rw [came_of hq]
    exact tw_end' (by rw [e]; exact hq)
  · exact came_out (by omega)
theorem adv_full {seen : List Flt.Dt} {cum j : Nat} (h1 : cum ≤ j) (h2 : j < adv seen cum) : came seen j = true := by
  unfold adv at h2
  obtain ⟨q, hq, hb⟩ := tw_all (l := seen.drop cum) (i := j - cum) (by omega)
  rw [List.getElem?_drop, show cum + (j - cum) = j by omega] at hq
  rw [came_of hq, hb]
theorem adv_le (seen : List Flt.Dt) (cum : Nat) (h : cum ≤ seen.length) : cum ≤ adv seen cum ∧ adv seen cum ≤ seen.length := by
  unfold adv
  have := (List.takeWhile_prefix (l := seen.drop cum) isB).length_le
  rw [List.length_drop] at this
  omega
theorem adv_far {seen : List Flt.Dt} {cum n : Nat} (h : ∀ j, cum ≤ j → j < n → came seen j = true) : n ≤ adv seen cum := by
  refine Nat.le_of_not_lt (fun hlt => ?_)
  have h1 := adv_stop seen cum
  have h2 : cum ≤ adv seen cum := Nat.le_add_right _ _
  rw [h _ h2 hlt] at h1
  cases h1
/-- up to where all came -/
structure Up (x : Ln) : Prop where
  full : ∀ j, j < x.cum → came x.seen j = true
  stop : came x.seen x.cum = false
theorem Up.to {x : Ln} (h : Up x) {seen' : List Flt.Dt} (hm : ∀ j, came x.seen j = true → came seen' j = true) : Up { x with seen := seen', cum := adv seen' x.cum } := by
  refine ⟨fun j hj => ?_, adv_stop _ _⟩
  by_cases h1 : j < x.cum
  · exact hm j (h.full j h1)
  · exact adv_full (by omega) hj
theorem take_came {x x' : Ln} {o : List Flt.Dt} (h : x.take o = some x') : (∀ j, came x'.seen j = true ↔ came x.seen j = true ∨ ∃ d ∈ o, j = placeOf x.first d.tsn) ∧ (Up x → Up x') ∧ x'.first = x.first ∧ x'.cum = adv x'.seen x.cum := by
  unfold Ln.take at h
  split at h
  · cases h
  · rename_i seen' hp
    cases h
    have hc := putL_came hp
    exact ⟨hc, fun hu => hu.to (fun j hj => (hc j).2 (.inl hj)), rfl, rfl⟩
/-! ### what is gone over -/
def fill (d : Flt.Dt) : Flt.Dt := { d with bs := [0] }
def ov1 (seen : List Flt.Dt) (k : Nat) : List Flt.Dt := if came (grow seen k) k then grow seen k else (grow seen k).set k (fill ((grow seen k).getD k dtZ))
def ovN (seen : List Flt.Dt) (n : Nat) : List Flt.Dt := (List.range n).foldl ov1 seen
def overL (seen : List Flt.Dt) (to : Nat) : List Flt.Dt := if to < 4096 then ovN seen to else seen
def toOf (first tsn : Int) : Nat := (Spn.u32 (Spn.u32 (tsn - first) + 1)).toNat
def Ln.over (x : Ln) (tsn : Int) : Ln := { x with seen := overL x.seen (toOf x.first tsn), cum := adv (overL x.seen (toOf x.first tsn)) x.cum }
theorem ovN_succ (seen : List Flt.Dt) (n : Nat) : ovN seen (n + 1) = ov1 (ovN seen n) n := by
  unfold ovN
  rw [List.range_succ, List.foldl_append]
  rfl
theorem ov1_len (seen : List Flt.Dt) (k : Nat) : (ov1 seen k).length = max seen.length (k + 1) := by
  unfold ov1
  split
  · exact grow_len seen k
  · rw [List.length_set, grow_len]
theorem ov1_came (seen : List Flt.Dt) (k j : Nat) : came (ov1 seen k) j = (decide (j = k) || came seen j) := by
  have hl := grow_len seen k
  unfold ov1
  split
  · rename_i h
    rw [grow_came] at h ⊢
    by_cases hj : j = k
    · rw [decide_eq_true hj, hj, h]; rfl
    · rw [decide_eq_false hj]; rfl
  · rw [set_came (by omega), grow_came]
    by_cases hj : j = k
    · rw [if_pos hj, decide_eq_true hj]; rfl
    · rw [if_neg hj, decide_eq_false hj]; rfl
theorem ov1_old {seen : List Flt.Dt} {k j : Nat} {q : Flt.Dt} (hq : seen[j]? = some q) (h : j ≠ k ∨ isB q = true) : (ov1 seen k)[j]? = some q := by
  have hj := (List.getElem?_eq_some_iff.1 hq).1
  have hg : (grow seen k)[j]? = some q := by rw [grow_old hj]; exact hq
  unfold ov1
  split
  · exact hg
  · rename_i hc
    have hjk : j ≠ k := by
      rcases h with h | h
      · exact h
      · intro e
        subst e
        exact hc (by rw [grow_came, came_of hq]; exact h)
    rw [List.getElem?_set_ne (Ne.symm hjk)]
    exact hg
theorem ovN_spec (seen : List Flt.Dt) : ∀ n, (ovN seen n).length = max seen.length n ∧ (∀ j, came (ovN seen n) j = (decide (j < n) || came seen j)) ∧ ∀ (j : Nat) q, seen[j]? = some q → n ≤ j ∨ isB q = true → (ovN seen n)[j]? = some q
  | 0 => ⟨by simp [ovN], fun j => by simp [ovN], fun j q h _ => h⟩
  | n + 1 => by
    obtain ⟨h1, h2, h3⟩ := ovN_spec seen n
    refine ⟨?_, fun j => ?_, fun j q hq ho => ?_⟩
    · rw [ovN_succ, ov1_len, h1]; omega
    · rw [ovN_succ, ov1_came, h2]
      by_cases ha : j = n
      · rw [decide_eq_true ha, decide_eq_true (show j < n + 1 by omega)]; rfl
      · rw [decide_eq_false ha, Bool.false_or]
        congr 1
        by_cases hb : j < n
        · rw [decide_eq_true hb, decide_eq_true (show j < n + 1 by omega)]
        · rw [decide_eq_false hb, decide_eq_false (show ¬ j < n + 1 by omega)]
    · rw [ovN_succ]
      exact ov1_old (h3 j q hq (ho.imp (fun h => by omega) id)) (ho.imp (fun h => by omega) id)
theorem over_came {x : Ln} {tsn : Int} (ht : toOf x.first tsn < 4096) : (∀ j, came (x.over tsn).seen j = (decide (j < toOf x.first tsn) || came x.seen j)) ∧ (Up x → Up (x.over tsn)) ∧ toOf x.first tsn ≤ (x.over tsn).cum ∧ (x.over tsn).seen.length = max x.seen.length (toOf x.first tsn) ∧ (x.over tsn).first = x.first ∧ (x.cum ≤ x.seen.length → x.cum ≤ (x.over tsn).cum ∧ (x.over tsn).cum ≤ (x.over tsn).seen.length) ∧ ∀ (j : Nat) q, (x.over tsn).seen[j]? = some q → toOf x.first tsn ≤ j → x.seen[j]? = some q := by
  obtain ⟨h1, h2, h3⟩ := ovN_spec x.seen (toOf x.first tsn)
  have e : overL x.seen (toOf x.first tsn) = ovN x.seen (toOf x.first tsn) := if_pos ht
  unfold Ln.over
  rw [e]
  dsimp only
  refine ⟨h2, fun hu => hu.to (fun j hj => by rw [h2, hj, Bool.or_true]), adv_far (fun j _ hj => by rw [h2, decide_eq_true hj]; rfl), h1, rfl, fun hc => ?_, fun j q hq hj => ?_⟩
  · exact adv_le _ _ (by omega)
  · have hl := (List.getElem?_eq_some_iff.1 hq).1
    have hjl : j < x.seen.length := by omega
    have := h3 j _ (List.getElem?_eq_getElem hjl) (.inl hj)
    rw [hq] at this
    rw [List.getElem?_eq_getElem hjl, ← this]
end Go.Snd
namespace Go.Flt
def inS (sp : List (Nat × Nat)) (i : Nat) : Prop := ∃ g ∈ sp, g.1 ≤ i ∧ i < g.2
/-- records of which some are acknowledged now -/
structure Ak (L M : List Rc) (p : Nat → Prop) : Prop where
  len : M.length = L.length
  rc : ∀ (i : Nat) r', M[i]? = some r' → ∃ r, L[i]? = some r ∧ (r' = r ∨ r' = setAck r) ∧ (r'.acked = true ↔ r.acked = true ∨ p i)
theorem Ak.refl (L : List Rc) : Ak L L (fun _ => False) := ⟨rfl, fun _ r h => ⟨r, h, .inl rfl, by simp⟩⟩
theorem Ak.trans {L M K : List Rc} {p q : Nat → Prop} (a : Ak L M p) (b : Ak M K q) : Ak L K (fun i => p i ∨ q i) := by
  refine ⟨b.len.trans a.len, fun i r' h => ?_⟩
  obtain ⟨m, hm, e1, k1⟩ := b.rc i r' h
  obtain ⟨r, hr, e2, k2⟩ := a.rc i m hm
  refine ⟨r, hr, ?_, by rw [k1, k2, or_assoc]⟩
  rcases e1 with rfl | rfl
  · exact e2
  · rcases e2 with rfl | rfl
    · exact .inr rfl
    · exact .inr rfl
theorem Ak.imp {L M : List Rc} {p q : Nat → Prop} (a : Ak L M p) (h : ∀ i, i < L.length → (p i ↔ q i)) : Ak L M q := ⟨a.len, fun i r' hr => by
  obtain ⟨r, h1, h2, h3⟩ := a.rc i r' hr
  exact ⟨r, h1, h2, h3.trans (by rw [h i (List.getElem?_eq_some_iff.1 h1).1])⟩⟩
theorem ack1_ak (low : Q4 (Option Nat)) (k : AK) (i : Nat) : Ak k.L (ack1 low k i).L (fun j => j = i) := by
  unfold ack1
  split
  · rename_i hn
    have hl := List.getElem?_eq_none_iff.1 hn
    exact (Ak.refl k.L).imp (fun j hj => ⟨fun h => h.elim, fun h => by omega⟩)
  · rename_i r hr
    have hil := (List.getElem?_eq_some_iff.1 hr).1
    split
    · rename_i ha
      refine ⟨rfl, fun j r' hj => ⟨r', hj, .inl rfl, ?_⟩⟩
      constructor
      · exact .inl
      · rintro (h | rfl)
        · exact h
        · rw [hr] at hj; cases hj; exact ha
    · refine ⟨by simp, fun j r' hj => ?_⟩
      dsimp only at hj
      by_cases hji : i = j
      · subst hji
        rw [List.getElem?_set_self hil] at hj
        cases hj
        exact ⟨r, hr, .inr rfl, by simp [setAck]⟩
      · rw [List.getElem?_set_ne hji] at hj
        exact ⟨r', hj, .inl rfl, ⟨.inl, fun h => h.elim id (fun e => absurd e.symm hji)⟩⟩
theorem ackR_ak (low : Q4 (Option Nat)) (a : Nat) : ∀ (n : Nat) (k : AK), Ak k.L (ackR low k a n).L (fun j => a ≤ j ∧ j < a + n)
  | 0, k => (Ak.refl k.L).imp (fun j _ => ⟨fun h => h.elim, fun h => by omega⟩)
  | n + 1, k => by
    rw [ackR_succ]
    exact ((ackR_ak low a n k).trans (ack1_ak low (ackR low k a n) (a + n))).imp (fun j _ => by omega)
theorem ackAll_ak (low : Q4 (Option Nat)) : ∀ (sp : List (Nat × Nat)) (k : AK), (∀ g ∈ sp, g.1 ≤ g.2) → Ak k.L (ackAll low k sp).L (inS sp)
  | [], k, _ => (Ak.refl k.L).imp (fun j _ => ⟨fun h => h.elim, fun ⟨g, hg, _⟩ => by cases hg⟩)
  | g :: sp, k, h => by
    show Ak k.L (ackAll low (ackR low k g.1 (g.2 - g.1)) sp).L _
    refine ((ackR_ak low g.1 (g.2 - g.1) k).trans (ackAll_ak low sp _ (fun q hq => h q (List.mem_cons_of_mem _ hq)))).imp (fun j _ => ?_)
    have := h g List.mem_cons_self
    unfold inS
    constructor
    · rintro (h | ⟨q, hq, h⟩)
      · exact ⟨g, List.mem_cons_self, by omega⟩
      · exact ⟨q, List.mem_cons_of_mem _ hq, h⟩
    · rintro ⟨q, hq, h⟩
      rcases List.mem_cons.1 hq with rfl | hq
      · exact .inl (by omega)
      · exact .inr ⟨q, hq, h⟩
/-- those that are missed -/
theorem missF_rc (high : Q4 Int) (x : List Rc × Tld) : ∀ n, ((List.range n).foldl (miss1 high) x).1.length = x.1.length ∧ ∀ (i : Nat) r', ((List.range n).foldl (miss1 high) x).1[i]? = some r' → ∃ r, x.1[i]? = some r ∧ (r' = r ∨ (i < n ∧ away r = true ∧ r' = missR r))
  | 0 => ⟨rfl, fun _ r h => ⟨r, h, .inl rfl⟩⟩
  | n + 1 => by
    obtain ⟨h1, h2⟩ := missF_rc high x n
    rw [miss_snoc]
    obtain ⟨y, hy⟩ : ∃ y, y = (List.range n).foldl (miss1 high) x := ⟨_, rfl⟩
    rw [← hy] at h1 h2 ⊢
    unfold miss1
    split
    · exact ⟨h1, fun i r' h => by obtain ⟨r, a, b⟩ := h2 i r' h; exact ⟨r, a, b.imp id (fun ⟨p, q⟩ => ⟨by omega, q⟩)⟩⟩
    · rename_i m hm
      have hml := (List.getElem?_eq_some_iff.1 hm).1
      split
      · rename_i hb
        refine ⟨by simpa using h1, fun i r' h => ?_⟩
        dsimp only at h
        by_cases hi : n = i
        · subst hi
          rw [List.getElem?_set_self hml] at h
          cases h
          obtain ⟨r, a, b⟩ := h2 n m hm
          rcases b with rfl | ⟨c, _⟩
          · refine ⟨m, a, .inr ⟨by omega, ?_, rfl⟩⟩
            unfold missB at hb
            simp only [Bool.and_eq_true] at hb
            exact hb.1.1
          · omega
        · rw [List.getElem?_set_ne hi] at h
          obtain ⟨r, a, b⟩ := h2 i r' h
          exact ⟨r, a, b.imp id (fun ⟨p, q⟩ => ⟨by omega, q⟩)⟩
      · exact ⟨h1, fun i r' h => by obtain ⟨r, a, b⟩ := h2 i r' h; exact ⟨r, a, b.imp id (fun ⟨p, q⟩ => ⟨by omega, q⟩)⟩⟩
/-- the first one of the path is not told of -/
theorem upd0 (t : Tld) (f : PT → PT) (p : Int) (hp : p = 0) : (t.upd p f).p0 = f t.p0 := by unfold Tld.upd; rw [if_pos hp]
theorem ackR_low {low : Q4 (Option Nat)} (a : Nat) : ∀ (n : Nat) (k : AK), (∀ r ∈ k.L, r.path = 0) → (∀ i, a ≤ i → i < a + n → low.q0 ≠ some i) → k.t.p0.pseudo = false → (ackR low k a n).t.p0.pseudo = false ∧ ∀ r ∈ (ackR low k a n).L, r.path = 0
  | 0, _, hp, _, h => ⟨h, hp⟩
  | n + 1, k, hp, hl, h => by
    obtain ⟨h1, h2⟩ := ackR_low a n k hp (fun i a1 a2 => hl i a1 (by omega)) h
    rw [ackR_succ]
    obtain ⟨q, hq⟩ : ∃ q, q = ackR low k a n := ⟨_, rfl⟩
    rw [← hq] at h1 h2 ⊢
    unfold ack1
    split
    · exact ⟨h1, h2⟩
    · rename_i r hr
      split
      · exact ⟨h1, h2⟩
      · have hp0 := h2 r (List.mem_of_getElem? hr)
        refine ⟨?_, fun m hm => ?_⟩
        · dsimp only
          rw [upd0 _ _ _ hp0]
          unfold takeP
          dsimp only
          rw [h1, Bool.false_or]
          refine decide_eq_false ?_
          have : low.get r.path = low.q0 := by unfold Q4.get; rw [if_pos hp0]
          rw [this]
          exact hl (a + n) (by omega) (by omega)
        · dsimp only at hm
          rcases List.mem_or_eq_of_mem_set hm with hm | rfl
          · exact h2 m hm
          · exact hp0
theorem ackAll_low {low : Q4 (Option Nat)} : ∀ (sp : List (Nat × Nat)) (k : AK), (∀ r ∈ k.L, r.path = 0) → (∀ i, inS sp i → low.q0 ≠ some i) → k.t.p0.pseudo = false → (ackAll low k sp).t.p0.pseudo = false
  | [], _, _, _, h => h
  | g :: sp, k, hp, hl, h => by
    obtain ⟨h1, h2⟩ := ackR_low g.1 (g.2 - g.1) k hp (fun i a1 a2 => hl i ⟨g, List.mem_cons_self, by omega⟩) h
    exact ackAll_low sp _ h2 (fun i ⟨q, hq, hi⟩ => hl i ⟨q, List.mem_cons_of_mem _ hq, hi⟩) h1
theorem miss1_pseudo (high : Q4 Int) (x : List Rc × Tld) (i : Nat) : (miss1 high x i).2.p0.pseudo = x.2.p0.pseudo := by
  unfold miss1
  split
  · rfl
  · split
    · dsimp only
      split
      · unfold Tld.upd
        repeat' split
        all_goals rfl
      · rfl
    · rfl
theorem missF_pseudo (high : Q4 Int) (x : List Rc × Tld) : ∀ n, ((List.range n).foldl (miss1 high) x).2.p0.pseudo = x.2.p0.pseudo
  | 0 => rfl
  | n + 1 => by rw [miss_snoc, miss1_pseudo, missF_pseudo high x n]
theorem lowP_some {L : List Rc} {i : Nat} {r : Rc} (hr : L[i]? = some r) (h1 : low1 r = true) (hp : r.path = 0) : ∃ j q, lowP L 0 = some j ∧ j ≤ i ∧ L[j]? = some q ∧ low1 q = true := by
  unfold lowP
  cases hf : L.findIdx? (fun r => low1 r && decide (r.path = 0)) with
  | none =>
    have := List.findIdx?_eq_none_iff.1 hf r (List.mem_of_getElem? hr)
    rw [h1, decide_eq_true hp] at this
    cases this
  | some j =>
    obtain ⟨hj, h2, h3⟩ := List.findIdx?_eq_some_iff_getElem.1 hf
    rw [Bool.and_eq_true] at h2
    refine ⟨j, L[j], rfl, ?_, List.getElem?_eq_getElem hj, h2.1⟩
    refine Nat.le_of_not_lt (fun hlt => ?_)
    have := h3 i hlt
    have e := (List.getElem?_eq_some_iff.1 hr).2
    rw [e, h1, decide_eq_true hp] at this
    exact this rfl
/-- an acknowledgement, record by record -/
theorem sack_rc {s s' : S} {y : Int} {gs : List (Nat × Nat)} {t : Tld} (h : sack s y gs = some (s', t)) : ∃ (sp : List (Nat × Nat)) (M : List Rc), span s y gs = some sp ∧ s' = ⟨M.drop (Spn.far s.c y), y, s.paths⟩ ∧ M.length = s.L.length ∧
    (∀ (i : Nat) r', M[i]? = some r' → ∃ r, s.L[i]? = some r ∧ ((inS sp i ∧ r'.acked = true ∧ r'.id = r.id ∧ r'.d = r.d ∧ r'.gone = r.gone) ∨ (¬ inS sp i ∧ (r' = r ∨ (away r = true ∧ r' = missR r))))) ∧
    ((∀ r ∈ s.L, r.path = 0) → (∀ i, inS sp i → lowP s.L 0 ≠ some i) → t.p0.pseudo = false) := by
  obtain ⟨sp, h0, h1, h2⟩ := sack_some h
  have hsp := (span_ok h0).2.2
  have ha := ackAll_ak (lowQ s.L) sp ⟨s.L, Tld.zero, ⟨-1, -1, -1, -1⟩⟩ (fun g hg => (hsp g hg).1)
  obtain ⟨K, hK⟩ : ∃ K, K = ackAll (lowQ s.L) ⟨s.L, Tld.zero, ⟨-1, -1, -1, -1⟩⟩ sp := ⟨_, rfl⟩
  rw [← hK] at ha h1 h2
  obtain ⟨m1, m2⟩ := missF_rc K.high (K.L, K.t) K.L.length
  refine ⟨sp, _, h0, h1, m1.trans ha.len, fun i r' hr' => ?_, fun hp hl => ?_⟩
  · obtain ⟨q, hq, hor⟩ := m2 i r' hr'
    obtain ⟨r, hr, e, k⟩ := ha.rc i q hq
    refine ⟨r, hr, ?_⟩
    by_cases hin : inS sp i
    · left
      have hqa : q.acked = true := k.2 (.inr hin)
      have hrq : r' = q := by
        rcases hor with h | ⟨_, h, _⟩
        · exact h
        · unfold away at h; rw [hqa] at h; cases h
      rw [hrq]
      refine ⟨hin, hqa, ?_⟩
      rcases e with rfl | rfl
      · exact ⟨rfl, rfl, rfl⟩
      · exact ⟨rfl, rfl, rfl⟩
    · right
      have hqr : q = r := by
        rcases e with e | e
        · exact e
        · have : r.acked = true := by
            rcases k.1 (by rw [e]; rfl) with h | h
            · exact h
            · exact absurd h hin
          rw [e]
          cases r
          unfold setAck
          simp only at this ⊢
          rw [this]
      rw [hqr] at hor
      exact ⟨hin, hor.imp id (fun ⟨_, a, b⟩ => ⟨a, b⟩)⟩
  · rw [h2]
    show (missAll K.high (K.L, K.t)).2.p0.pseudo = false
    unfold missAll
    rw [missF_pseudo]
    show K.t.p0.pseudo = false
    rw [hK]
    exact ackAll_low sp _ hp hl rfl
end Go.Flt
namespace Go.Snd
open Go Go.Pth
/-! ### the line's gaps are just what came -/
theorem gaps_sub {seen : List Flt.Dt} {cum : Nat} : ∀ (m k : Nat) (gs : List (Nat × Nat)), cum + 1 ≤ k → (∀ g ∈ gs, ∀ j, g.1 + cum ≤ j + 1 → j + 1 ≤ g.2 + cum → came seen j = true) → ∀ g ∈ gaps seen cum m k gs, ∀ j, g.1 + cum ≤ j + 1 → j + 1 ≤ g.2 + cum → came seen j = true
  | 0, _, _, _, h => h
  | m + 1, k, gs, hk, h => by
    rw [gaps]
    split
    · split
      · exact gaps_sub m (k + 1) gs (by omega) h
      · rename_i hno
        rw [not_or] at hno
        have hB : isB (seen.getD k dtZ) = true := by simpa using hno.1
        refine gaps_sub m (k + 1) _ (by omega) (fun g hg j h1 h2 => ?_)
        rcases List.mem_append.1 hg with hg | hg
        · exact h g hg j h1 h2
        · rw [List.mem_singleton.1 hg] at h1 h2
          dsimp only at h1 h2
          exact run_all hB (by omega) (by omega)
    · exact h
theorem gaps_pre {seen : List Flt.Dt} {cum : Nat} : ∀ (m k : Nat) (gs : List (Nat × Nat)), ∀ g ∈ gs, g ∈ gaps seen cum m k gs
  | 0, _, _, _, h => h
  | m + 1, k, gs, g, h => by
    rw [gaps]
    split
    · split
      · exact gaps_pre m (k + 1) gs g h
      · exact gaps_pre m (k + 1) _ g (List.mem_append_left _ h)
    · exact h
theorem gaps_all {seen : List Flt.Dt} {cum : Nat} (h40 : seen.length ≤ 40) {k0 : Nat} (hb : came seen k0 = true) (hp : came seen (k0 - 1) = false) (hc0 : cum + 1 ≤ k0) : ∀ (m k : Nat) (gs : List (Nat × Nat)), cum + 1 ≤ k → k ≤ k0 → k0 < k + m → (2 * gs.length ≤ k - cum - 1 + if came seen (k - 1) then 1 else 0) →
    (k0 - cum + 1, k0 + ((seen.drop (k0 + 1)).takeWhile isB).length - cum + 1) ∈ gaps seen cum m k gs
  | 0, _, _, _, _, h, _ => by omega
  | m + 1, k, gs, hk, hle, hm, hn => by
    have hlt := came_lt hb
    have hg20 : gs.length < 20 := by split at hn <;> omega
    rw [gaps, if_pos ⟨by omega, hg20⟩]
    by_cases he : k = k0
    · subst he
      rw [if_neg (by
        rintro (h | h)
        · rw [show isB (seen.getD k dtZ) = true from hb] at h; cases h
        · rw [show isB (seen.getD (k - 1) dtZ) = false from hp] at h; cases h)]
      exact gaps_pre m (k + 1) _ _ (List.mem_append_right _ (List.mem_singleton.2 rfl))
    · split
      · rename_i hor
        refine gaps_all h40 hb hp hc0 m (k + 1) gs (by omega) (by omega) (by omega) ?_
        rw [Nat.add_sub_cancel]
        rcases hor with h | h
        · split at hn <;> omega
        · rw [show came seen (k - 1) = true from h, if_pos rfl] at hn
          split <;> omega
      · rename_i hno
        rw [not_or] at hno
        have hB : came seen k = true := by unfold came; simpa using hno.1
        have hP : came seen (k - 1) = false := by unfold came; simpa using hno.2
        refine gaps_all h40 hb hp hc0 m (k + 1) _ (by omega) (by omega) (by omega) ?_
        rw [Nat.add_sub_cancel, hB, if_pos rfl, List.length_append, List.length_singleton]
        rw [hP] at hn
        simp only [Bool.false_eq_true, if_false] at hn
        omega
/-- where a run begins -/
theorem run_from {seen : List Flt.Dt} {cum : Nat} (hs : came seen cum = false) : ∀ {j : Nat}, cum < j → came seen j = true → ∃ k0, cum + 1 ≤ k0 ∧ k0 ≤ j ∧ came seen (k0 - 1) = false ∧ ∀ i, k0 ≤ i → i ≤ j → came seen i = true
  | 0, h, _ => by omega
  | j + 1, h, hj => by
    cases hp : came seen j with
    | false => exact ⟨j + 1, h, Nat.le_refl _, hp, fun i h1 h2 => by rw [show i = j + 1 by omega]; exact hj⟩
    | true =>
      by_cases hcj : cum < j
      · obtain ⟨k0, a, b, c, d⟩ := run_from hs hcj hp
        exact ⟨k0, a, by omega, c, fun i h1 h2 => by
          by_cases hi : i = j + 1
          · rw [hi]; exact hj
          · exact d i h1 (by omega)⟩
      · rw [show j = cum by omega, hs] at hp; cases hp
theorem run_long {seen : List Flt.Dt} : ∀ (n k : Nat), (∀ i, k ≤ i → i ≤ k + n → came seen i = true) → n ≤ ((seen.drop (k + 1)).takeWhile isB).length
  | n, k, h => by
    refine Nat.le_of_not_lt (fun hlt => ?_)
    have hc := h (k + (((seen.drop (k + 1)).takeWhile isB).length + 1)) (by omega) (by omega)
    obtain ⟨q, hq, hb⟩ := came_get hc
    have e : (seen.drop (k + 1))[((seen.drop (k + 1)).takeWhile isB).length]? = some q := by
      rw [List.getElem?_drop, ← hq]; congr 1; omega
    rw [tw_end' e] at hb
    cases hb
/-- what is told of is what came -/
theorem told_came {x : Ln} {a : Nat} (hu : Up x) (ha : a ≤ x.cum) (h40 : x.seen.length ≤ 40) (i : Nat) : Flt.inS (Flt.spL (x.cum - a) x.gaps) i ↔ came x.seen (a + i) = true := by
  unfold Flt.inS Flt.spL
  constructor
  · rintro ⟨g, hg, h1, h2⟩
    rcases List.mem_cons.1 hg with rfl | hg
    · exact hu.full _ (by dsimp only at h2; omega)
    · obtain ⟨q, hq, rfl⟩ := List.mem_map.1 hg
      dsimp only at h1 h2
      exact gaps_sub x.seen.length (x.cum + 1) [] (Nat.le_refl _) (fun _ h => by cases h) q hq (a + i) (by omega) (by omega)
  · intro hc
    by_cases hlt : a + i < x.cum
    · exact ⟨_, List.mem_cons_self, Nat.zero_le _, by dsimp only; omega⟩
    · have hne : a + i ≠ x.cum := fun e => by rw [e, hu.stop] at hc; cases hc
      obtain ⟨k0, h1, h2, h3, h4⟩ := run_from hu.stop (j := a + i) (by omega) hc
      have hk0 := h4 k0 (Nat.le_refl _) h2
      have hmem := gaps_all h40 hk0 h3 h1 x.seen.length (x.cum + 1) [] (Nat.le_refl _) h1 (by have := came_lt hk0; omega) (by simp)
      have hlong := run_long (seen := x.seen) (a + i - k0) k0 (fun j a1 a2 => h4 j a1 (by omega))
      refine ⟨_, List.mem_cons_of_mem _ (List.mem_map.2 ⟨_, hmem, rfl⟩), ?_, ?_⟩
      · dsimp only; omega
      · dsimp only; omega
end Go.Snd
namespace Go.Snd
open Go Go.Pth
/-- bytes of the message of a number -/
def Pay (m : Nat) (id : Int) (bs : List UInt8) : Prop := ∃ i : Nat, i < m ∧ id = i ∧ ∀ b ∈ bs, b = UInt8.ofNat i
/-- a message that has not lapsed -/
def Alv (lv : Nat → Int) (T id : Int) : Prop := lv id.toNat = 0 ∨ T < lv id.toNat
structure La (m : Nat) (lv : Nat → Int) (T : Int) (N a : Nat) (s : S) (x : Ln) : Prop where
  li : Li N a s x
  ws : s.ws.length = 1
  mtu : s.mtu = 128
  owed : s.owed = []
  q : ∀ y ∈ s.q.L, Pay m y.id y.bs ∧ y.til = lv y.id.toNat ∧ Alv lv T y.id
  r : ∀ r ∈ s.f.L, r.d.bs.length ≤ 100 ∧ (r.acked = true ∨ r.gone = true ∨ (Pay m r.id r.d.bs ∧ Alv lv T r.id))
  lives : ∀ i : Nat, i < m → T < lv i → ∃ z ∈ s.lives, z.id = (i : Int) ∧ z.til = lv i
  bud : a + s.f.L.length + pcsQ s.q.L ≤ 40
  ack : ∀ (i : Nat) r, s.f.L[i]? = some r → r.acked = true → came x.seen (a + i) = true
  up : Up x
/-- the cumulative TSN of the last forwarding -/
def Td (a : Nat) (s : S) (x : Ln) : Prop := s.told = true → ∃ j : Nat, j ≤ a ∧ s.cum = Spn.u32 (x.first - 1 + (j : Int))
/-- nothing is under way -/
def Quiet (s : S) : Prop := ∀ r ∈ s.f.L, Flt.away r = false
/-- what is under way came -/
def QuietD (a : Nat) (s : S) (x : Ln) : Prop := ∀ (i : Nat) r, s.f.L[i]? = some r → Flt.away r = true → came x.seen (a + i) = true
def tim (s : S) : Prop := ∃ w, s.ws[0]? = some w ∧ w.timer = 3
/-- what went at the beginning is under way still, and did not come -/
def Gh (t : Int) (a : Nat) (s : S) (x : Ln) : Prop := tim s ∧ ∀ (i : Nat) r, s.f.L[i]? = some r → r.acked = false → r.gone = false → r.lost = false ∧ 0 ≤ r.miss ∧ r.miss < t ∧ came x.seen (a + i) = false
def GhD (t : Int) (l0 a : Nat) (s : S) (x : Ln) : Prop := tim s ∧ t < 3 ∧ ∀ (i : Nat) r, s.f.L[i]? = some r → r.acked = false → r.gone = false → r.lost = false ∧ 0 ≤ r.miss ∧ r.miss < t ∧ (i < l0 → came x.seen (a + i) = false) ∧ (l0 ≤ i → came x.seen (a + i) = true)
theorem La.place {m : Nat} {lv : Nat → Int} {T : Int} {N a : Nat} {s : S} {x : Ln} (h : La m lv T N a s x) {i : Nat} {r : Flt.Rc} (hr : s.f.L[i]? = some r) : placeOf x.first r.d.tsn = a + i := by
  have ht := h.li.ok.f.g.tsn i r hr
  have hil := (List.getElem?_eq_some_iff.1 hr).1
  have hc := h.li.c
  have hs := h.li.sum
  show placeOf x.first r.tsn = a + i
  rw [ht, hc]
  unfold placeOf
  simp only [Spn.u32_eq]
  omega
/-! ### Expire -/
theorem La.expires {m : Nat} {lv : Nat → Int} {T : Int} {N a : Nat} {s : S} {x : Ln} (h : La m lv T N a s x) {now : Int} (hc : clock now = now) (hT : T ≤ now) (hlv : ∀ i, 0 ≤ lv i) : La m lv now (N + 1) a (expire s now) x ∧ Exp s (expire s now) now := by
  have hl := h.bud
  have e := expire_all h.li.ok h.owed (by omega) hc
  refine ⟨?_, e⟩
  have hok := expire_ok h.li.ok now
  have hcum := h.li.cum
  have hsm := h.li.sm
  have hb := e.bud
  have hT2 : ∀ y ∈ (expire s now).q.L, Pay m y.id y.bs ∧ y.til = lv y.id.toNat ∧ Alv lv now y.id := fun y hy => by
    rw [e.q] at hy
    obtain ⟨h1, h2⟩ := List.mem_filter.1 hy
    obtain ⟨a1, a2, a3⟩ := h.q y h1
    refine ⟨a1, a2, ?_⟩
    unfold Oq.dead at h2
    simp only [Bool.not_eq_true', decide_eq_false_iff_not, a2] at h2
    have := hlv y.id.toNat
    unfold Alv
    omega
  have hdl : ∀ (i : Nat) r', (expire s now).f.L[i]? = some r' → r'.gone = false → ∃ r, s.f.L[i]? = some r ∧ r' = r := fun i r' hr' hg => by
    rcases e.gn.id hr' with h1 | h1
    · rw [hg] at h1; cases h1
    · exact h1
  refine ⟨⟨hok, e.gn.c.trans h.li.c, hcum, ⟨?_, fun i r d hr hd hB hg => ?_⟩, fun r hr => ?_, by omega⟩, ?_, e.mtu.trans h.mtu, e.owed, hT2, fun r hr => ?_, fun i hi ht => ?_, by omega, fun i r hr ha => ?_, h.up⟩
  · have := e.gn.len; have := hsm.len; omega
  · obtain ⟨r0, h1, rfl⟩ := hdl i r hr hg
    exact hsm.same i r d h1 hd hB hg
  · obtain ⟨i, hi⟩ := List.getElem?_of_mem hr
    exact hok.f.g.bs i r hi
  · rw [e.ws, List.length_mapIdx]; exact h.ws
  · obtain ⟨i, hi⟩ := List.getElem?_of_mem hr
    rcases e.gn.rc i r hi with ⟨r0, h1, hor⟩ | ⟨_, h2, _, h4⟩
    · obtain ⟨b1, b2⟩ := h.r r0 (List.mem_of_getElem? h1)
      rcases hor with rfl | rfl
      · refine ⟨b1, ?_⟩
        rcases b2 with b2 | b2 | ⟨b2, b3⟩
        · exact .inl b2
        · exact .inr (.inl b2)
        · by_cases hal : Alv lv now r.id
          · exact .inr (.inr ⟨b2, hal⟩)
          · obtain ⟨j, hj, hid, _⟩ := b2
            unfold Alv at b3 hal
            rw [hid, Int.toNat_natCast] at b3 hal
            obtain ⟨z, hz, hz1, hz2⟩ := h.lives j hj (by have := hlv j; omega)
            have := e.dead z hz (by unfold lifeDead; exact decide_eq_true (by omega)) i r hi (by rw [hid, hz1])
            exact this.imp id (fun h => .inl h)
      · exact ⟨b1, .inr (.inl rfl)⟩
    · exact ⟨by omega, .inr (.inl h2)⟩
  · obtain ⟨z, hz, hz1, hz2⟩ := h.lives i hi (by omega)
    refine ⟨z, ?_, hz1, hz2⟩
    rw [e.lives]
    refine List.mem_filter.2 ⟨hz, ?_⟩
    unfold lifeDead
    simp only [Bool.not_eq_true', decide_eq_false_iff_not]
    omega
  · rcases e.gn.rc i r hr with ⟨r0, h1, hor⟩ | ⟨_, _, h3, _⟩
    · refine h.ack i r0 h1 ?_
      rcases hor with rfl | rfl
      · exact ha
      · exact ha
    · rw [ha] at h3; cases h3
theorem out_none {f : Flt.S} (hg : Flt.Good f) {k : Int} (h : Flt.out f k = 0) : ∀ r ∈ f.L, r.path = k → Flt.away r = false := fun r hr hp => by
  cases ha : Flt.away r with
  | false => rfl
  | true =>
    exfalso
    have hm : r.bs.length ∈ (f.L.filter (Flt.byP k)).map (fun r => r.bs.length) := List.mem_map.2 ⟨r, List.mem_filter.2 ⟨hr, by unfold Flt.byP; rw [decide_eq_true hp, ha]; rfl⟩, rfl⟩
    have hle : ∀ (l : List Nat) (a : Nat), a ∈ l → a ≤ l.sum := fun l a => by
      induction l with
      | nil => intro h; cases h
      | cons b l ih =>
        intro h
        rw [List.sum_cons]
        rcases List.mem_cons.1 h with rfl | h
        · omega
        · have := ih h; omega
    have := hle _ _ hm
    obtain ⟨i, hi⟩ := List.getElem?_of_mem hr
    have hb := List.length_pos_iff.2 (hg.bs i r hi)
    unfold Flt.out Flt.sumB at h
    omega
theorem out_zero {f : Flt.S} (h : ∀ r ∈ f.L, Flt.away r = false) (k : Int) : Flt.out f k = 0 := by
  unfold Flt.out Flt.sumB
  have : f.L.filter (Flt.byP k) = [] := List.filter_eq_nil_iff.2 (fun r hr hc => by
    unfold Flt.byP at hc
    rw [h r hr] at hc
    simp at hc)
  rw [this]
  rfl
theorem path_zero {N : Nat} {s : S} (ho : Ok N s) (hw : s.ws.length = 1) : ∀ r ∈ s.f.L, r.path = 0 := fun r hr => by
  obtain ⟨i, hi⟩ := List.getElem?_of_mem hr
  have := ho.f.g.path i r hi
  have := ho.paths
  omega
theorem mapIdx_zero {l : List Way} (g : Nat → Way → Way) {w : Way} (h : l[0]? = some w) : (l.mapIdx g)[0]? = some (g 0 w) := by rw [List.getElem?_mapIdx, h]; rfl
/-- behind Expire -/
theorem expires_quiet {s s' : S} {now : Int} (e : Exp s s' now) (h : Quiet s) : Quiet s' := fun r hr => by
  obtain ⟨i, hi⟩ := List.getElem?_of_mem hr
  rcases e.gn.id hi with hg | ⟨r0, h1, rfl⟩
  · unfold Flt.away; rw [hg]; simp
  · exact h r (List.mem_of_getElem? h1)
theorem expires_gh {N a : Nat} {s s' : S} {x : Ln} {now t : Int} (e : Exp s s' now) (ho : Ok N s') (hw : s'.ws.length = 1) (h : Gh t a s x) : Quiet s' ∨ Gh t a s' x := by
  obtain ⟨⟨w, hw0, hwt⟩, hr⟩ := h
  have hws : s'.ws[0]? = some (restW s'.f 0 w) := by rw [e.ws]; exact mapIdx_zero _ hw0
  by_cases hz : Flt.out s'.f (0 : Nat) = 0
  · exact .inl (fun r hr => out_none ho.f.g hz r hr (path_zero ho hw r hr))
  · refine .inr ⟨⟨_, hws, ?_⟩, fun i r' hi ha hg => ?_⟩
    · unfold restW
      rw [if_neg hz]
      exact hwt
    · rcases e.gn.id hi with h1 | ⟨r0, h1, rfl⟩
      · rw [hg] at h1; cases h1
      · exact hr i r' h1 ha hg
/-! ### Timeout -/
theorem timeout_one {s : S} {w : Way} (hw : s.ws = [w]) (now : Int) : (timeout s now).s = if ran w (clock now) then { s with ws := [lateW w], f := Flt.mark s.f (0 : Nat) } else s := by
  unfold timeout
  rw [hw]
  show (late1 (clock now) ⟨s, 0, 0⟩ 0).s = _
  unfold late1
  dsimp only
  rw [hw]
  dsimp only [List.getElem?_cons_zero]
  cases hr : ran w (clock now) with
  | true => rfl
  | false => rfl
theorem mark_get {f : Flt.S} {p : Int} {i : Nat} {r' : Flt.Rc} (h : (Flt.mark f p).L[i]? = some r') : ∃ r, f.L[i]? = some r ∧ r' = if Flt.byP p r then Flt.setLost r else r := by
  simp only [Flt.mark, Flt.sel, List.getElem?_map] at h
  cases hr : f.L[i]? with
  | none => rw [hr] at h; cases h
  | some r => rw [hr] at h; exact ⟨r, rfl, (Option.some.inj h).symm⟩
theorem La.lates {m : Nat} {lv : Nat → Int} {T : Int} {N a : Nat} {s : S} {x : Ln} (h : La m lv T N a s x) (now : Int) : La m lv T N a (timeout s now).s x ∧ (timeout s now).s.q = s.q ∧ (timeout s now).s.told = s.told ∧ (timeout s now).s.cum = s.cum := by
  obtain ⟨w, hw⟩ := List.length_eq_one_iff.1 h.ws
  have hli := (h.li.late now).1
  have e := timeout_one hw now
  rw [e] at hli ⊢
  split
  · rename_i hr
    rw [if_pos hr] at hli
    have hb := h.bud
    refine ⟨⟨hli, rfl, h.mtu, h.owed, h.q, fun r' hr' => ?_, h.lives, ?_, fun i r' hi ha => ?_, h.up⟩, rfl, rfl, rfl⟩
    · obtain ⟨i, hi⟩ := List.getElem?_of_mem hr'
      obtain ⟨r, h1, h2⟩ := mark_get hi
      have := h.r r (List.mem_of_getElem? h1)
      rw [h2]
      split
      · exact this
      · exact this
    · show a + (Flt.mark s.f (0 : Nat)).L.length + _ ≤ 40
      simp only [Flt.mark, Flt.sel, List.length_map]
      exact hb
    · obtain ⟨r, h1, h2⟩ := mark_get hi
      refine h.ack i r h1 ?_
      rw [h2] at ha
      split at ha
      · exact ha
      · exact ha
  · exact ⟨h, rfl, rfl, rfl⟩
theorem lates_quiet {s : S} {w : Way} (hw : s.ws = [w]) (now : Int) (h : Quiet s) : Quiet (timeout s now).s := by
  rw [timeout_one hw now]
  split
  · intro r' hr'
    obtain ⟨i, hi⟩ := List.getElem?_of_mem hr'
    obtain ⟨r, h1, h2⟩ := mark_get hi
    rw [h2]
    split
    · unfold Flt.setLost Flt.away; simp
    · exact h r (List.mem_of_getElem? h1)
  · exact h
theorem lates_gh {N a : Nat} {s : S} {x : Ln} {now t : Int} (ho : Ok N s) (hw1 : s.ws.length = 1) (hc : clock now = now) (h : Gh t a s x) (ht : t ≤ now) : Quiet (timeout s now).s ∨ (now < 3 ∧ GhD t s.f.L.length a (timeout s now).s x) := by
  obtain ⟨w, hw⟩ := List.length_eq_one_iff.1 hw1
  obtain ⟨⟨w', hw0, hwt⟩, hr⟩ := h
  rw [hw] at hw0
  cases hw0
  rw [timeout_one hw now, hc]
  by_cases h3 : 3 ≤ now
  · left
    have hran : ran w now = true := by unfold ran; rw [hwt]; simp; omega
    rw [if_pos hran]
    intro r' hr'
    obtain ⟨i, hi⟩ := List.getElem?_of_mem hr'
    obtain ⟨r, h1, h2⟩ := mark_get hi
    have hp := path_zero ho hw1 r (List.mem_of_getElem? h1)
    rw [h2]
    split
    · unfold Flt.setLost Flt.away; simp
    · rename_i hb
      unfold Flt.byP at hb
      rw [decide_eq_true (show r.path = ((0 : Nat) : Int) from hp), Bool.true_and] at hb
      simpa using hb
  · right
    have hran : ran w now = false := by unfold ran; rw [hwt]; simp; omega
    rw [if_neg (by rw [hran]; decide)]
    refine ⟨by omega, ⟨w, by rw [hw]; rfl, hwt⟩, by omega, fun i r hi ha hg => ?_⟩
    obtain ⟨a1, a2, a3, a4⟩ := hr i r hi ha hg
    exact ⟨a1, a2, a3, fun _ => a4, fun hle => by have := (List.getElem?_eq_some_iff.1 hi).1; omega⟩
/-! ### a packet -/
theorem La.goes {m : Nat} {lv : Nat → Int} {T : Int} {N a : Nat} {s s' : S} {x : Ln} (h : La m lv T N a s x) {now : Int} {k : Nat} {o : List Flt.Dt} (hn : next s now = (s', some (k, o))) :
    (∀ d ∈ o, d.bs ≠ [] ∧ ∃ i : Nat, i < m ∧ (∀ b ∈ d.bs, b = UInt8.ofNat i) ∧ (lv i = 0 ∨ T < lv i)) ∧ ∃ x', x.take o = some x' ∧ La m lv T N a s' x' ∧ x'.first = x.first ∧ x.cum ≤ x'.cum ∧ (∀ d ∈ o, placeOf x.first d.tsn = a → a + 1 ≤ x'.cum) ∧
      (Td a s x → Td a s' x') ∧ (QuietD a s x → QuietD a s' x') ∧ ∀ t l0, GhD t l0 a s x → 0 < t → l0 ≤ s.f.L.length → GhD t l0 a s' x' := by
  obtain ⟨rfl, nx, hws', htim⟩ := next_nx h.li.ok h.mtu h.ws hn
  have hok : Ok N s' := by have := next_ok h.li.ok now; rw [hn] at this; exact this
  have hbud := h.bud
  have hnb := nx.bud
  have hbs : ∀ r ∈ s'.f.L, r.d.bs ≠ [] := fun r hr => by
    obtain ⟨i, hi⟩ := List.getElem?_of_mem hr
    exact hok.f.g.bs i r hi
  obtain ⟨x', htk, hli, hfi, _, hcum⟩ := h.li.takes hn (by omega) hbs
  obtain ⟨tc, tu, _, _⟩ := take_came htk
  have hmono : ∀ j, came x.seen j = true → came x'.seen j = true := fun j hj => (tc j).2 (.inl hj)
  have hrr : ∀ r ∈ s'.f.L, r.d.bs.length ≤ 100 ∧ (r.acked = true ∨ r.gone = true ∨ (Pay m r.id r.d.bs ∧ Alv lv T r.id)) := fun r' hr' => by
    obtain ⟨i, hi⟩ := List.getElem?_of_mem hr'
    rcases nx.rc i r' hi with ⟨r, h1, rfl | ⟨_, rfl, _⟩⟩ | ⟨_, _, hb⟩
    · exact h.r r' (List.mem_of_getElem? h1)
    · exact h.r r (List.mem_of_getElem? h1)
    · obtain ⟨it, hit, e1, e2⟩ := hb.of
      obtain ⟨⟨j, hj, hid, hbb⟩, _, a3⟩ := h.q it hit
      exact ⟨hb.len, .inr (.inr ⟨⟨j, hj, e1.trans hid, fun b hb' => hbb b (e2 b hb')⟩, by rw [e1]; exact a3⟩)⟩
  have hla : La m lv T N a s' x' := by
    refine ⟨hli, hws', nx.mtu.trans h.mtu, nx.owed.trans h.owed, fun y hy => ?_, hrr, fun i hi ht => by rw [nx.lives]; exact h.lives i hi ht, by omega, fun i r' hi ha => ?_, tu h.up⟩
    · obtain ⟨it, hit, e1, e2, e3⟩ := nx.q y hy
      obtain ⟨a1, a2, a3⟩ := h.q it hit
      rw [e1, e2, e3]
      exact ⟨a1, a2, a3⟩
    · rcases nx.rc i r' hi with ⟨r, h1, rfl | ⟨ho, rfl, _⟩⟩ | ⟨_, _, hb⟩
      · exact hmono _ (h.ack i r' h1 ha)
      · rw [show (Flt.setAgain (0 : Nat) (clock now) r).acked = r.acked from rfl, (Flt.open_not ho).1] at ha; cases ha
      · rw [hb.acked] at ha; cases ha
  have hat : ∀ (i : Nat) r', s'.f.L[i]? = some r' → r'.d ∈ o → came x'.seen (a + i) = true := fun i r' hi hd => by
    refine (tc _).2 (.inr ⟨r'.d, hd, ?_⟩)
    have := hla.place hi
    rw [hfi] at this
    exact this.symm
  refine ⟨fun d hd => ?_, x', htk, hla, hfi, hcum, fun d hd hp => ?_, fun htd ht => ?_, fun hq i r' hi ha => ?_, fun t l0 hg ht0 hl0 => ?_⟩
  · obtain ⟨i, r', hi, hrd, ha, hg, _⟩ := nx.out d hd
    have hm := List.mem_of_getElem? hi
    refine ⟨by rw [← hrd]; exact hbs r' hm, ?_⟩
    rcases (hrr r' hm).2 with h1 | h1 | ⟨⟨j, hj, hid, hbb⟩, h2⟩
    · rw [ha] at h1; cases h1
    · rw [hg] at h1; cases h1
    · unfold Alv at h2
      rw [hid, Int.toNat_natCast] at h2
      exact ⟨j, hj, by rw [← hrd]; exact hbb, h2⟩
  · have h1 : came x'.seen a = true := (tc a).2 (.inr ⟨d, hd, hp.symm⟩)
    have h2 := hla.up.stop
    have h3 := hla.li.cum.1
    refine Nat.lt_of_le_of_ne h3 (fun e => ?_)
    rw [← e, h1] at h2
    cases h2
  · rw [nx.told.1] at ht
    rw [nx.told.2, hfi]
    exact htd ht
  · rcases nx.rc i r' hi with ⟨r, h1, rfl | ⟨_, _, hd⟩⟩ | ⟨_, hd, _⟩
    · exact hmono _ (hq i r' h1 ha)
    · exact hat i r' hi hd
    · exact hat i r' hi hd
  · obtain ⟨⟨w, hw, hwt⟩, h3, hrec⟩ := hg
    have hno : ∀ (i : Nat) r, s.f.L[i]? = some r → Flt.openR r = true → False := fun i r hi ho => by
      obtain ⟨o1, o2, o3⟩ := Flt.open_not ho
      have := (hrec i r hi o1 o2).1
      rw [o3] at this; cases this
    obtain ⟨w', hw', hwt'⟩ := htim w hw (by rw [hwt]; decide)
    refine ⟨⟨w', hw', hwt'.trans hwt⟩, h3, fun i r' hi ha hg => ?_⟩
    rcases nx.rc i r' hi with ⟨r, h1, rfl | ⟨ho, _, _⟩⟩ | ⟨hle, hd, hb⟩
    · obtain ⟨a1, a2, a3, a4, a5⟩ := hrec i r' h1 ha hg
      refine ⟨a1, a2, a3, fun hlt => ?_, fun hle => hmono _ (a5 hle)⟩
      cases hcm : came x'.seen (a + i) with
      | false => rfl
      | true =>
        exfalso
        rcases (tc _).1 hcm with h5 | ⟨d, hd, hp⟩
        · rw [a4 hlt] at h5; cases h5
        · obtain ⟨j, q, hj, hqd, _, _, hor⟩ := nx.out d hd
          have hpl := hla.place hj
          rw [hqd, hfi, ← hp] at hpl
          have : j = i := by omega
          subst this
          rcases hor with ⟨r, hr, ho⟩ | hle
          · exact hno j r hr ho
          · have := (List.getElem?_eq_some_iff.1 h1).1; omega
    · exact (hno i r h1 ho).elim
    · exact ⟨hb.lost, by rw [hb.miss]; exact Int.le_refl _, by rw [hb.miss]; exact ht0, fun hlt => by omega, fun _ => hat i r' hi hd⟩
end Go.Snd
namespace Go.Snd
open Go Go.Pth
/-! ### forwarding -/
theorem okRow_of {c : Int} (hc : 0 ≤ c ∧ c < 4294967296) : ∀ (l : List Flt.Dt) (i : Nat), (∀ (j : Nat) d, l[j]? = some d → d.tsn = Spn.u32 (c + 1 + ((i + j : Nat) : Int))) → okRow c i l = true
  | [], _, _ => rfl
  | d :: l, i, h => by
    have hd := h 0 d rfl
    rw [okRow, okRow_of hc l (i + 1) (fun j q hq => by rw [h (j + 1) q (by simpa using hq)]; congr 2; omega), Bool.and_true]
    refine decide_eq_true ?_
    rw [hd]
    simp only [Spn.u32_eq]
    omega
theorem pt_get {L : List Flt.Rc} {j : Nat} {d : Flt.Dt} (h : (Flt.ptL L)[j]? = some d) : ∃ r, L[j]? = some r ∧ r.d = d ∧ r.gone = true := by
  unfold Flt.ptL at h
  rw [List.getElem?_map] at h
  cases hr : (L.takeWhile (·.gone))[j]? with
  | none => rw [hr] at h; cases h
  | some r =>
    rw [hr] at h
    have hj := (List.getElem?_eq_some_iff.1 hr).1
    have hpre := List.takeWhile_prefix (l := L) (·.gone)
    have hl := hpre.length_le
    have hm := List.all_takeWhile (l := L) (p := (·.gone))
    rw [List.all_eq_true] at hm
    refine ⟨r, ?_, Option.some.inj h, hm r (List.mem_of_getElem? hr)⟩
    rw [List.getElem?_eq_getElem (by omega), ← hpre.getElem hj, ← List.getElem?_eq_getElem hj]
    exact hr
theorem pt_len (L : List Flt.Rc) : (Flt.ptL L).length ≤ L.length := by
  unfold Flt.ptL
  rw [List.length_map]
  exact (List.takeWhile_prefix (l := L) (·.gone)).length_le
theorem make_pt {f : Flt.S} (h : Flt.Good f) : (Flt.ptL f.L = [] ∧ make f.c (Flt.ptL f.L) = none) ∨ (1 ≤ (Flt.ptL f.L).length ∧ make f.c (Flt.ptL f.L) = some (Spn.u32 (f.c + ((Flt.ptL f.L).length : Int)), skips (Flt.ptL f.L))) := by
  have hrow : okRow f.c 0 (Flt.ptL f.L) = true := okRow_of h.c _ 0 (fun j d hd => by
    obtain ⟨r, hr, hrd, _⟩ := pt_get hd
    have := h.tsn j r hr
    rw [← hrd]
    show r.tsn = _
    rw [this]
    congr 2
    omega)
  unfold make
  rw [hrow, if_pos rfl]
  cases hl : (Flt.ptL f.L).getLast? with
  | none => exact .inl ⟨List.getLast?_eq_none_iff.1 hl, rfl⟩
  | some d =>
    right
    have hne : 1 ≤ (Flt.ptL f.L).length := by
      cases hp : Flt.ptL f.L with
      | nil => rw [hp] at hl; cases hl
      | cons _ _ => simp
    refine ⟨hne, ?_⟩
    rw [List.getLast?_eq_getElem?] at hl
    obtain ⟨r, hr, hrd, _⟩ := pt_get hl
    have := h.tsn _ r hr
    dsimp only
    congr 2
    rw [← hrd]
    show r.tsn = _
    rw [this]
    congr 1
    omega
theorem fw_some {s s' : S} (hg : Flt.Good s.f) {now fc : Int} {sk : List Rm.Sk} {b : Nat} (h : forward s now = (s', some (fc, sk, b))) :
    ∃ m : Nat, 1 ≤ m ∧ m ≤ s.f.L.length ∧ fc = Spn.u32 (s.f.c + (m : Int)) ∧ (∀ (i : Nat) r, i < m → s.f.L[i]? = some r → r.gone = true) ∧ s' = { s with told := true, cum := fc, at_ := clock now, by_ := b } := by
  unfold forward due at h
  rcases make_pt hg with ⟨_, h2⟩ | ⟨h1, h2⟩
  · rw [h2] at h; cases h
  · rw [h2] at h
    dsimp only at h
    generalize (if (s.told && decide (s.cum = Spn.u32 (s.f.c + ((Flt.ptL s.f.L).length : Int)))) = true then s.at_ + valueW s s.by_ else 0) = a at h
    split at h
    · cases h
    · cases h
      refine ⟨_, h1, pt_len _, rfl, fun i r hi hr => ?_, rfl⟩
      obtain ⟨q, hq, _, hqg⟩ := pt_get (List.getElem?_eq_getElem hi)
      rw [hr] at hq
      cases hq
      exact hqg
theorem fw_none {s s' : S} {now : Int} (h : forward s now = (s', none)) : s' = s := by
  unfold forward at h
  split at h
  · cases h; rfl
  · split at h
    · cases h; rfl
    · cases h
theorem La.forwards {m : Nat} {lv : Nat → Int} {T : Int} {N a : Nat} {s : S} {x : Ln} (h : La m lv T N a s x) (hl : ∃ r, s.f.L[0]? = some r ∧ r.gone = true) (ht : Td a s x) (now : Int) : ∃ s' fc sk b, forward s now = (s', some (fc, sk, b)) := by
  obtain ⟨r, hr, hg⟩ := hl
  have hc := h.li.c
  have hb := h.bud
  have hclk := clock_rng now
  unfold forward due
  rcases make_pt h.li.ok.f.g with ⟨h1, _⟩ | ⟨h1, h2⟩
  · exfalso
    unfold Flt.ptL at h1
    cases hL : s.f.L with
    | nil => rw [hL] at hr; cases hr
    | cons q l =>
      rw [hL] at hr
      cases hr
      rw [hL, List.takeWhile_cons, hg, if_pos rfl] at h1
      cases h1
  · have hp := pt_len s.f.L
    rw [h2]
    dsimp only
    have hno : (s.told && decide (s.cum = Spn.u32 (s.f.c + ((Flt.ptL s.f.L).length : Int)))) = false := by
      cases htl : s.told with
      | false => rfl
      | true =>
        obtain ⟨j, hj, hcum⟩ := ht htl
        rw [Bool.true_and]
        refine decide_eq_false ?_
        rw [hcum, hc]
        simp only [Spn.u32_eq]
        omega
    rw [hno]
    simp only [Bool.false_eq_true, if_false]
    rw [if_neg (by omega)]
    exact ⟨_, _, _, _, rfl⟩
/-- all that is looked at but what was told of forwarding -/
theorem La.like {m : Nat} {lv : Nat → Int} {T : Int} {N a : Nat} {s s' : S} {x : Ln} (h : La m lv T N a s x) (ho : Ok N s') (hf : s'.f = s.f) (hq : s'.q = s.q) (hw : s'.ws = s.ws) (hm : s'.mtu = s.mtu) (hl : s'.lives = s.lives) (howed : s'.owed = s.owed) : La m lv T N a s' x :=
  ⟨⟨ho, by rw [hf]; exact h.li.c, h.li.cum, by rw [hf]; exact h.li.sm, by rw [hf]; exact h.li.bs, by rw [hf]; exact h.li.sum⟩, by rw [hw]; exact h.ws, hm.trans h.mtu, howed.trans h.owed, by rw [hq]; exact h.q, by rw [hf]; exact h.r, by rw [hl]; exact h.lives, by rw [hf, hq]; exact h.bud, by rw [hf]; exact h.ack, h.up⟩
/-- to where is gone over -/
theorem La.to {m : Nat} {lv : Nat → Int} {T : Int} {N a : Nat} {s : S} {x : Ln} (h : La m lv T N a s x) {k : Nat} (hk : k ≤ s.f.L.length) {fc : Int} (hfc : fc = Spn.u32 (s.f.c + (k : Int))) : toOf x.first fc = a + k := by
  have hc := h.li.c
  have hb := h.bud
  unfold toOf
  rw [hfc, hc]
  simp only [Spn.u32_eq]
  omega
theorem La.overs {m : Nat} {lv : Nat → Int} {T : Int} {N a : Nat} {s : S} {x : Ln} (h : La m lv T N a s x) {k : Nat} (hk : k ≤ s.f.L.length) {fc : Int} (hfc : fc = Spn.u32 (s.f.c + (k : Int))) (hgone : ∀ (i : Nat) r, i < k → s.f.L[i]? = some r → r.gone = true) :
    La m lv T N a s (x.over fc) ∧ (x.over fc).first = x.first ∧ a + k ≤ (x.over fc).cum ∧ x.cum ≤ (x.over fc).cum ∧ (QuietD a s x → QuietD a s (x.over fc)) ∧ ∀ t l0, GhD t l0 a s x → GhD t l0 a s (x.over fc) := by
  have hto := h.to hk hfc
  have hb := h.bud
  have hcum := h.li.cum
  have hsm := h.li.sm
  have hlen := hsm.len
  obtain ⟨k1, k2, k3, k4, k5, k6, k7⟩ := over_came (x := x) (tsn := fc) (by omega)
  rw [hto] at k1 k3 k4 k7
  obtain ⟨k8, k9⟩ := k6 hcum.2
  have hmono : ∀ j, came x.seen j = true → came (x.over fc).seen j = true := fun j hj => by rw [k1, hj, Bool.or_true]
  refine ⟨⟨⟨h.li.ok, by rw [k5]; exact h.li.c, ⟨by omega, k9⟩, ⟨by omega, fun i r d hr hd hB hg => ?_⟩, h.li.bs, h.li.sum⟩, h.ws, h.mtu, h.owed, h.q, h.r, h.lives, hb, fun i r hr ha => hmono _ (h.ack i r hr ha), k2 h.up⟩, k5, k3, k8, fun hq i r hr ha => hmono _ (hq i r hr ha), fun t l0 hgh => ?_⟩
  · by_cases hik : i < k
    · rw [hgone i r hik hr] at hg; cases hg
    · exact hsm.same i r d hr (k7 _ _ hd (by omega)) hB hg
  · obtain ⟨g1, g2, g3⟩ := hgh
    refine ⟨g1, g2, fun i r hr ha hg => ?_⟩
    obtain ⟨a1, a2, a3, a4, a5⟩ := g3 i r hr ha hg
    refine ⟨a1, a2, a3, fun hlt => ?_, fun hle => hmono _ (a5 hle)⟩
    have hik : ¬ i < k := fun hik => by rw [hgone i r hik hr] at hg; cases hg
    rw [k1, a4 hlt, decide_eq_false (by omega)]
    rfl
/-! ### the answer -/
theorem hear_timer {x : Flt.PT} (h : x.pseudo = false) (full : Bool) (now c : Int) (n : Nat) (w : Way) : (hear x full now c n w).timer = w.timer := by
  have h1 : (hear1 x full now w).timer = w.timer := by
    unfold hear1
    split
    · dsimp only
      rw [h, if_neg (by decide)]
    · rfl
  have h2 : ∀ w : Way, (hear2 x c n w).timer = w.timer := fun w => by unfold hear2; split <;> rfl
  have h3 : ∀ w : Way, (hear3 c w).timer = w.timer := fun w => by unfold hear3; split <;> rfl
  unfold hear
  rw [h3, h2, h1]
theorem sack_full {s s' : S} {y rwnd now : Int} {gs : List (Nat × Nat)} (ho : s.owed = []) (hs : sack s y rwnd gs now = some s') :
    ∃ f' t, Flt.sack s.f y gs = some (f', t) ∧ s'.f = f' ∧ s'.q.L = s.q.L ∧ s'.lives = s.lives ∧ s'.mtu = s.mtu ∧ s'.told = s.told ∧ s'.cum = s.cum ∧ ∃ full, s'.ws = (hearAll { s with f := f' } t full (clock now)).mapIdx (restW f') := by
  unfold Snd.sack at hs
  cases hf : Flt.sack s.f y gs with
  | none => rw [hf] at hs; cases hs
  | some p =>
    obtain ⟨f', t⟩ := p
    rw [hf] at hs
    dsimp only at hs
    rw [layN_nil now (by exact ho)] at hs
    have hs := Option.some.inj hs
    subst hs
    exact ⟨f', t, rfl, rfl, rfl, rfl, rfl, rfl, rfl, _, rfl⟩
theorem La.answers {m : Nat} {lv : Nat → Int} {T : Int} {N a : Nat} {s : S} {x : Ln} (h : La m lv T N a s x) (rwnd now : Int) :
    ∃ s', answer s x rwnd now = some s' ∧ La m lv T N x.cum s' x ∧ s'.told = s.told ∧ s'.cum = s.cum ∧ s'.q.L = s.q.L ∧ s'.f.L.length = s.f.L.length - (x.cum - a) ∧ (QuietD a s x → Quiet s') ∧ ∀ t l0, GhD t l0 a s x → Quiet s' ∨ Gh (t + 1) x.cum s' x := by
  obtain ⟨s', hs⟩ := h.li.answer rwnd now
  obtain ⟨sp0, hsp0, hfar⟩ := h.li.span
  obtain ⟨hli, howed, hlen⟩ := h.li.answered h.owed hs
  have hs0 := hs
  unfold answer at hs0
  obtain ⟨f', t, hfs, hf', hq, hlv, hmtu, htold, hcum, full, hws⟩ := sack_full h.owed hs0
  obtain ⟨sp, M, hsp, hfM, hMl, hrc, hps⟩ := Flt.sack_rc hfs
  rw [hsp0] at hsp
  cases hsp
  have hspe := (Flt.span_ok hsp0).1
  rw [hfar] at hspe hfM
  have hb := h.bud
  have hc := h.li.cum
  have hsl := h.li.sm.len
  have hin : ∀ i, Flt.inS sp0 i ↔ came x.seen (a + i) = true := fun i => by rw [hspe]; exact told_came h.up hc.1 (by omega) i
  have hL : s'.f.L = M.drop (x.cum - a) := by rw [hf', hfM]
  have hw1 : s'.ws.length = 1 := by rw [hws]; unfold hearAll; simp only [List.length_mapIdx]; exact h.ws
  have hget : ∀ (i : Nat) r', s'.f.L[i]? = some r' → ∃ r, s.f.L[x.cum - a + i]? = some r ∧ ((came x.seen (x.cum + i) = true ∧ r'.acked = true ∧ r'.id = r.id ∧ r'.d = r.d ∧ r'.gone = r.gone) ∨ (came x.seen (x.cum + i) = false ∧ (r' = r ∨ (Flt.away r = true ∧ r' = Flt.missR r)))) := fun i r' hi => by
    rw [hL, List.getElem?_drop] at hi
    obtain ⟨r, hr, hor⟩ := hrc _ r' hi
    refine ⟨r, hr, ?_⟩
    have e : a + (x.cum - a + i) = x.cum + i := by omega
    rw [hin, e] at hor
    exact hor.imp id (fun ⟨p, q⟩ => ⟨by simpa using p, q⟩)
  have hmr : ∀ r : Flt.Rc, (Flt.missR r).acked = r.acked ∧ (Flt.missR r).gone = r.gone ∧ (Flt.missR r).id = r.id ∧ (Flt.missR r).d = r.d := fun r => by unfold Flt.missR; split <;> exact ⟨rfl, rfl, rfl, rfl⟩
  refine ⟨s', hs, ⟨hli, hw1, hmtu.trans h.mtu, howed, by rw [hq]; exact h.q, fun r' hr' => ?_, by rw [hlv]; exact h.lives, by rw [hlen, hq]; omega, fun i r' hi ha => ?_, h.up⟩, htold, hcum, hq, hlen, fun hqd r' hr' => ?_, fun t' l0 hgd => ?_⟩
  · obtain ⟨i, hi⟩ := List.getElem?_of_mem hr'
    obtain ⟨r, hr, hor⟩ := hget i r' hi
    have := h.r r (List.mem_of_getElem? hr)
    rcases hor with ⟨_, h1, _, h3, _⟩ | ⟨_, rfl | ⟨_, rfl⟩⟩
    · exact ⟨by rw [h3]; exact this.1, .inl h1⟩
    · exact this
    · obtain ⟨e1, e2, e3, e4⟩ := hmr r
      rw [e1, e2, e3, e4]
      exact this
  · obtain ⟨r, hr, hor⟩ := hget i r' hi
    rcases hor with ⟨h1, _⟩ | ⟨_, h2⟩
    · exact h1
    · have hra : r.acked = true := by
        rcases h2 with rfl | ⟨_, rfl⟩
        · exact ha
        · rw [(hmr r).1] at ha; exact ha
      have := h.ack _ r hr hra
      rw [show a + (x.cum - a + i) = x.cum + i by omega] at this
      exact this
  · obtain ⟨i, hi⟩ := List.getElem?_of_mem hr'
    obtain ⟨r, hr, hor⟩ := hget i r' hi
    rcases hor with ⟨_, h1, _⟩ | ⟨h0, h2⟩
    · unfold Flt.away; rw [h1]; simp
    · cases hra : Flt.away r with
      | true =>
        have := hqd _ r hr hra
        rw [show a + (x.cum - a + i) = x.cum + i by omega, h0] at this
        cases this
      | false =>
        rcases h2 with rfl | ⟨h2, _⟩
        · exact hra
        · rw [hra] at h2; cases h2
  · obtain ⟨⟨w, hw0, hwt⟩, ht3, hrec⟩ := hgd
    by_cases hgh : ∃ (i : Nat) (r : Flt.Rc), s.f.L[i]? = some r ∧ r.acked = false ∧ r.gone = false ∧ i < l0
    · obtain ⟨i0, r0, hr0, ha0, hg0, hl0⟩ := hgh
      have hp := path_zero h.li.ok h.ws
      obtain ⟨j, q, hj, hji, hqj, hql⟩ := Flt.lowP_some hr0 (by unfold Flt.low1; rw [ha0, hg0]; rfl) (hp r0 (List.mem_of_getElem? hr0))
      have hqq : q.acked = false ∧ q.gone = false := by unfold Flt.low1 at hql; simpa using hql
      have hqc := (hrec j q hqj hqq.1 hqq.2).2.2.2.1 (by omega)
      have hpse := hps hp (fun i hi e => by
        rw [hj] at e
        cases e
        rw [hin, hqc] at hi
        cases hi)
      have hw0' : s'.ws[0]? = some (restW f' 0 (hear (ptOf t 0) (full 0) (clock now) f'.c f'.L.length w)) := by
        rw [hws]
        refine mapIdx_zero _ ?_
        unfold hearAll
        exact mapIdx_zero _ hw0
      by_cases hz : Flt.out s'.f (0 : Nat) = 0
      · exact .inl (fun r hr => out_none hli.ok.f.g hz r hr (path_zero hli.ok hw1 r hr))
      · refine .inr ⟨⟨_, hw0', ?_⟩, fun i r' hi ha hg => ?_⟩
        · unfold restW
          rw [← hf', if_neg hz]
          rw [hear_timer (by exact hpse)]
          exact hwt
        · obtain ⟨r, hr, hor⟩ := hget i r' hi
          rcases hor with ⟨_, h1, _⟩ | ⟨h0, h2⟩
          · rw [ha] at h1; cases h1
          · have hrr : r.acked = false ∧ r.gone = false := by
              rcases h2 with rfl | ⟨_, rfl⟩
              · exact ⟨ha, hg⟩
              · rw [(hmr r).1] at ha; rw [(hmr r).2.1] at hg; exact ⟨ha, hg⟩
            obtain ⟨a1, a2, a3, a4, a5⟩ := hrec _ r hr hrr.1 hrr.2
            rcases h2 with rfl | ⟨_, rfl⟩
            · exact ⟨a1, a2, by omega, h0⟩
            · have e : Flt.i64 (r.miss + 1) = r.miss + 1 := Flt.i64_in (by omega) (by omega)
              unfold Flt.missR
              rw [e, if_neg (by omega)]
              exact ⟨a1, by dsimp only; omega, by dsimp only; omega, h0⟩
    · left
      intro r' hr'
      obtain ⟨i, hi⟩ := List.getElem?_of_mem hr'
      obtain ⟨r, hr, hor⟩ := hget i r' hi
      rcases hor with ⟨_, h1, _⟩ | ⟨h0, h2⟩
      · unfold Flt.away; rw [h1]; simp
      · cases hra : Flt.away r' with
        | false => rfl
        | true =>
          exfalso
          have hrr : r'.acked = false ∧ r'.gone = false := by unfold Flt.away at hra; simp at hra; exact ⟨hra.1.1, hra.2⟩
          have hrr2 : r.acked = false ∧ r.gone = false := by
            rcases h2 with rfl | ⟨_, rfl⟩
            · exact hrr
            · rw [(hmr r).1, (hmr r).2.1] at hrr; exact hrr
          obtain ⟨_, _, _, _, a5⟩ := hrec _ r hr hrr2.1 hrr2.2
          by_cases hl : x.cum - a + i < l0
          · exact hgh ⟨_, r, hr, hrr2.1, hrr2.2, hl⟩
          · have := a5 (by omega)
            rw [show a + (x.cum - a + i) = x.cum + i by omega, h0] at this
            cases this
/-! ### what goes on -/
def Ready (s : S) : Prop := Flt.out s.f (0 : Nat) = 0 ∧ ((∃ r, s.f.L[0]? = some r ∧ Flt.openR r = true) ∨ (s.f.L = [] ∧ s.q.L ≠ []))
def FrontGone (s : S) : Prop := ∃ r, s.f.L[0]? = some r ∧ r.gone = true
def Done (s : S) : Prop := s.f.L = [] ∧ s.q.L = []
theorem La.ready {m : Nat} {lv : Nat → Int} {T : Int} {N a : Nat} {s : S} {x : Ln} (h : La m lv T N a s x) (hr : Ready s) (now : Int) : ∃ s' k o d, next s now = (s', some (k, o)) ∧ d ∈ o ∧ placeOf x.first d.tsn = a := by
  obtain ⟨h0, ⟨r, hr1, ho⟩ | ⟨hL, hq⟩⟩ := hr
  · obtain ⟨s', k, o, hn, hd⟩ := next_first h.li.ok h.mtu h.ws h0 hr1 ho (h.r r (List.mem_of_getElem? hr1)).1 now
    exact ⟨s', k, o, r.d, hn, hd, h.place hr1⟩
  · obtain ⟨s', k, o, d, hn, hd, ht⟩ := next_new h.li.ok h.mtu h.ws hL hq now
    refine ⟨s', k, o, d, hn, hd, ?_⟩
    rw [ht]
    unfold Flt.newT
    rw [hL]
    have hb := h.bud
    exact newT_far h.li.c (k := 0) (by omega)
theorem La.stands {m : Nat} {lv : Nat → Int} {T : Int} {N a : Nat} {s : S} {x : Ln} (h : La m lv T N a s x) (hq : Quiet s) (hx : x.cum = a) : Ready s ∨ FrontGone s ∨ Done s := by
  have h0 := out_zero hq (0 : Nat)
  cases hL : s.f.L with
  | nil =>
    by_cases hql : s.q.L = []
    · exact .inr (.inr ⟨hL, hql⟩)
    · exact .inl ⟨h0, .inr ⟨hL, hql⟩⟩
  | cons r l =>
    have hr : s.f.L[0]? = some r := by rw [hL]; rfl
    have hna : r.acked = false := by
      cases ha : r.acked with
      | false => rfl
      | true =>
        have h1 := h.ack 0 r hr ha
        have h2 := h.up.stop
        rw [Nat.add_zero, ← hx, h2] at h1
        cases h1
    cases hg : r.gone with
    | true => exact .inr (.inl ⟨r, hr, hg⟩)
    | false =>
      refine .inl ⟨h0, .inl ⟨r, hr, ?_⟩⟩
      have := hq r (List.mem_of_getElem? hr)
      unfold Flt.away at this
      unfold Flt.openR
      rw [hna, hg] at this ⊢
      simpa using this
/-! ### the packets of a turn -/
structure Mi (m : Nat) (lv : Nat → Int) (now : Int) (N a : Nat) (t : Int) (l0 k : Nat) (s : S) (x : Ln) : Prop where
  la : La m lv now N a s x
  td : Td a s x
  ph : QuietD a s x ∨ (GhD t l0 a s x ∧ l0 ≤ s.f.L.length)
  t0 : 0 < t
  pr : 3 ≤ now → a + 1 ≤ x.cum ∨ FrontGone s ∨ (k = 0 ∧ (Ready s ∨ Done s))
theorem Mi.more {m : Nat} {lv : Nat → Int} {now : Int} {N a : Nat} {t : Int} {l0 k : Nat} {s s' : S} {x : Ln} (h : Mi m lv now N a t l0 k s x) {p : Nat} {o : List Flt.Dt} (hn : next s now = (s', some (p, o))) :
    (∀ d ∈ o, d.bs ≠ [] ∧ ∃ i : Nat, i < m ∧ (∀ b ∈ d.bs, b = UInt8.ofNat i) ∧ (lv i = 0 ∨ now < lv i)) ∧ ∃ x', x.take o = some x' ∧ Mi m lv now N a t l0 (k + 1) s' x' ∧ x'.first = x.first := by
  obtain ⟨h1, x', h2, h3, h4, h5, h6, h7, h8, h9⟩ := h.la.goes hn
  obtain ⟨_, nx, _, _⟩ := next_nx h.la.li.ok h.la.mtu h.la.ws hn
  refine ⟨h1, x', h2, ⟨h3, h7 h.td, ?_, h.t0, fun hnow => ?_⟩, h4⟩
  · rcases h.ph with hq | ⟨hg, hl⟩
    · exact .inl (h8 hq)
    · exact .inr ⟨h9 t l0 hg h.t0 hl, Nat.le_trans hl nx.len⟩
  · rcases h.pr hnow with hc | ⟨r, hr, hg⟩ | ⟨_, hr | ⟨hL, hq⟩⟩
    · exact .inl (by omega)
    · obtain ⟨r', hr'⟩ : ∃ r', s'.f.L[0]? = some r' := ⟨_, List.getElem?_eq_getElem (by have := nx.len; have := (List.getElem?_eq_some_iff.1 hr).1; omega)⟩
      rcases nx.rc 0 r' hr' with ⟨r2, e, rfl | ⟨ho, _⟩⟩ | ⟨hle, _⟩
      · rw [hr] at e; cases e; exact .inr (.inl ⟨_, hr', hg⟩)
      · rw [hr] at e; cases e; rw [(Flt.open_not ho).2.1] at hg; cases hg
      · have := (List.getElem?_eq_some_iff.1 hr).1; omega
    · obtain ⟨s2, k2, o2, d, e1, e2, e3⟩ := h.la.ready hr now
      rw [hn] at e1
      cases e1
      exact .inl (h6 d e2 e3)
    · rw [next_empty h.la.ws hL hq h.la.mtu now] at hn; cases hn
/-- how a turn ends: what is forwarded is gone over, and all that came is answered -/
def Ln.passes (x : Ln) (r : Option (Int × List Rm.Sk × Nat)) : Ln := match r with | none => x | some (fc, _, _) => x.over fc
structure Ot (m : Nat) (lv : Nat → Int) (N : Nat) (t : Int) (s : S) (x : Ln) : Prop where
  la : ∃ T, T ≤ t - 1 ∧ La m lv T N x.cum s x
  td : Td x.cum s x
  ph : Quiet s ∨ Gh t x.cum s x
theorem Mi.ends {m : Nat} {lv : Nat → Int} {now : Int} {N a : Nat} {t : Int} {l0 k : Nat} {s : S} {x : Ln} (h : Mi m lv now N a t l0 k s x) (hk : k = 40 ∨ ∃ s0, next s now = (s0, none)) (ht : t = now) (rwnd : Int) :
    (∀ fc sk b, (forward s now).2 = some (fc, sk, b) → toOf x.first fc ≤ 40) ∧ ∃ s', answer (forward s now).1 (x.passes (forward s now).2) rwnd now = some s' ∧ Ot m lv N (now + 1) s' (x.passes (forward s now).2) ∧ (x.passes (forward s now).2).first = x.first ∧
      (3 ≤ now → a + 1 ≤ (x.passes (forward s now).2).cum ∨ Snd.empty s' = true) := by
  subst ht
  have hfok := forward_ok h.la.li.ok t
  have hcum := h.la.li.cum
  have hpr : 3 ≤ t → a + 1 ≤ x.cum ∨ FrontGone s ∨ Done s := fun hn => by
    rcases h.pr hn with hc | hc | ⟨hk0, hr | hd⟩
    · exact .inl hc
    · exact .inr (.inl hc)
    · exfalso
      rcases hk with hk | ⟨s0, hk⟩
      · omega
      · obtain ⟨s2, k2, o2, d, e1, _⟩ := h.la.ready hr t
        rw [hk] at e1; cases e1
    · exact .inr (.inr hd)
  have hdone : ∀ s' : S, s'.f.L.length = s.f.L.length - (x.cum - a) → s'.q.L = s.q.L → s'.owed = [] → Done s → Snd.empty s' = true := fun s' e1 e2 e3 ⟨hL, hq⟩ => by
    have hl : s'.f.L = [] := List.length_eq_zero_iff.1 (by rw [e1, hL]; simp)
    unfold Snd.empty Oq.waiting
    rw [e2, hq, e3, hl]
    rfl
  cases hf : forward s t with
  | mk s1 r =>
  rw [hf] at hfok
  cases r with
  | none =>
    have e := fw_none hf
    subst e
    obtain ⟨s', hs, hla, h1, h2, h3, h4, h5, h6⟩ := h.la.answers rwnd t
    refine ⟨fun fc sk b e => (by cases e), s', hs, ⟨?_, fun htl => ?_, ?_⟩, rfl, fun hn => ?_⟩
    · exact ⟨t, by omega, hla⟩
    · rw [h1] at htl
      obtain ⟨j, hj, hc⟩ := h.td htl
      exact ⟨j, by show j ≤ x.cum; omega, by rw [h2]; exact hc⟩
    · rcases h.ph with hq | ⟨hg, _⟩
      · exact .inl (h5 hq)
      · exact h6 t l0 hg
    · rcases hpr hn with hc | hc | hc
      · exact .inl hc
      · obtain ⟨s2, fc, sk, b, e⟩ := h.la.forwards hc h.td t
        rw [hf] at e; cases e
      · exact .inr (hdone s' h4 h3 hla.owed hc)
  | some r =>
    obtain ⟨fc, sk, b⟩ := r
    obtain ⟨m', hm1, hm2, hfc, hgone, e⟩ := fw_some h.la.li.ok.f.g hf
    obtain ⟨o1, o2, o3, o4, o5, o6⟩ := h.la.overs hm2 hfc hgone
    have hto := h.la.to hm2 hfc
    have hbud := h.la.bud
    have hla1 : La m lv t N a s1 (x.over fc) := o1.like hfok (by rw [e]) (by rw [e]) (by rw [e]) (by rw [e]) (by rw [e]) (by rw [e])
    have hf1 : s1.f = s.f := by rw [e]
    have hw1 : s1.ws = s.ws := by rw [e]
    obtain ⟨s', hs, hla, h1, h2, h3, h4, h5, h6⟩ := hla1.answers rwnd t
    refine ⟨fun fc' sk' b' e' => ?_, s', hs, ⟨?_, fun htl => ?_, ?_⟩, o2, fun hn => ?_⟩
    · cases e'
      omega
    · exact ⟨t, by omega, hla⟩
    · refine ⟨a + m', o3, ?_⟩
      show s'.cum = Spn.u32 ((x.over fc).first - 1 + _)
      rw [h2, e, o2]
      show fc = _
      rw [hfc, h.la.li.c]
      simp only [Spn.u32_eq]
      omega
    · rcases h.ph with hq | ⟨hg, _⟩
      · exact .inl (h5 (fun i r hr ha => o5 hq i r (by rw [← hf1]; exact hr) ha))
      · obtain ⟨⟨w, hw, hwt⟩, g2, g3⟩ := o6 t l0 hg
        exact h6 t l0 ⟨⟨w, by rw [hw1]; exact hw, hwt⟩, g2, fun i r hr ha hg => g3 i r (by rw [← hf1]; exact hr) ha hg⟩
    · left
      show a + 1 ≤ (x.over fc).cum
      omega
/-- how a turn begins -/
theorem Ot.begins {m : Nat} {lv : Nat → Int} {N : Nat} {t : Int} {s : S} {x : Ln} (h : Ot m lv N t s x) (hlv : ∀ i, 0 ≤ lv i) (hc : clock t = t) (h1 : 1 ≤ t) : Mi m lv t (N + 1) x.cum t (timeout (expire s t) t).s.f.L.length 0 (timeout (expire s t) t).s x := by
  obtain ⟨T, hT, hla⟩ := h.la
  obtain ⟨e1, e2⟩ := hla.expires (now := t) hc (by omega) hlv
  obtain ⟨l1, l2, l3, l4⟩ := e1.lates t
  obtain ⟨w, hw⟩ := List.length_eq_one_iff.1 e1.ws
  have hlen : (timeout (expire s t) t).s.f.L.length = (expire s t).f.L.length := by
    rw [timeout_one hw t]
    split
    · simp [Flt.mark, Flt.sel]
    · rfl
  have htd : Td x.cum (timeout (expire s t) t).s x := fun ht => by
    rw [l3, e2.told.1] at ht
    rw [l4, e2.told.2]
    exact h.td ht
  have hquiet : ∀ s' : S, Quiet s' → QuietD x.cum s' x := fun s' hq i r hr ha => by rw [hq r (List.mem_of_getElem? hr)] at ha; cases ha
  have hpr : Quiet (timeout (expire s t) t).s → x.cum + 1 ≤ x.cum ∨ FrontGone (timeout (expire s t) t).s ∨ (0 = 0 ∧ (Ready (timeout (expire s t) t).s ∨ Done (timeout (expire s t) t).s)) := fun hq => by
    rcases l1.stands hq rfl with h | h | h
    · exact .inr (.inr ⟨rfl, .inl h⟩)
    · exact .inr (.inl h)
    · exact .inr (.inr ⟨rfl, .inr h⟩)
  have key : Quiet (timeout (expire s t) t).s ∨ (t < 3 ∧ GhD t (expire s t).f.L.length x.cum (timeout (expire s t) t).s x) := by
    rcases h.ph with hq | hg
    · exact .inl (lates_quiet hw t (expires_quiet e2 hq))
    · rcases expires_gh e2 e1.li.ok e1.ws hg with hq | hg
      · exact .inl (lates_quiet hw t hq)
      · exact lates_gh e1.li.ok e1.ws hc hg (Int.le_refl _)
  rcases key with hq | ⟨h3, hg⟩
  · exact ⟨l1, htd, .inl (hquiet _ hq), by omega, fun _ => hpr hq⟩
  · exact ⟨l1, htd, .inr ⟨by rw [hlen]; exact hg, Nat.le_refl _⟩, by omega, fun h => by omega⟩
theorem Ot.up {m : Nat} {lv : Nat → Int} {N : Nat} {t t' : Int} {s : S} {x : Ln} (h : Ot m lv N t s x) (ht : t ≤ t') : Ot m lv N t' s x := by
  obtain ⟨⟨T, hT, hla⟩, htd, hph⟩ := h
  exact ⟨⟨T, by omega, hla⟩, htd, hph.imp id (fun ⟨g1, g2⟩ => ⟨g1, fun i r hr ha hg => by obtain ⟨a, b, c, d⟩ := g2 i r hr ha hg; exact ⟨a, b, by omega, d⟩⟩)⟩
end Go.Snd
namespace Go.Snd
open Go Go.Pth
/-- some messages were put into a sender of nothing -/
structure Pi (lv : Nat → Int) (s0 : S) (i : Nat) (s : S) : Prop where
  ok : Ok i s
  rest : s = { s0 with q := s.q, lives := s.lives }
  room : s.q.room = 65536
  ssn : s.q.ssn.length = 2
  used : s.q.used ≤ 400 * (i : Int)
  many : s.q.many = i
  its : ∀ y ∈ s.q.L, Pay i y.id y.bs ∧ y.til = lv y.id.toNat ∧ Alv lv 0 y.id
  lives : ∀ j : Nat, j < i → 0 < lv j → ∃ z ∈ s.lives, z.id = (j : Int) ∧ z.til = lv j
  pcs : pcsQ s.q.L ≤ 4 * i
theorem until0 {v : Int} (h : 0 ≤ v ∧ v < 256) : untilOf v 0 = v := by
  unfold untilOf
  split
  · rw [show clock 0 = 0 from by decide, mn_eq]; omega
  · omega
theorem Pi.zero {lv : Nat → Int} {s0 : S} (ok : Ok 0 s0) (h1 : s0.q.room = 65536) (h2 : s0.q.ssn.length = 2) (h3 : s0.q.used = 0) (h4 : s0.q.many = 0) (h5 : s0.q.L = []) : Pi lv s0 0 s0 :=
  ⟨ok, rfl, h1, h2, by omega, h4, fun y hy => (by rw [h5] at hy; cases hy), fun j hj => by omega, by rw [h5]; exact Nat.le_refl _⟩
theorem Pi.put {lv : Nat → Int} {s0 s : S} {i : Nat} (h : Pi lv s0 i s) (h0 : s0.first = 65536) (hi : i < 10) (hlv : 0 ≤ lv i ∧ lv i < 256) {bs : List UInt8} (hb : 0 < bs.length ∧ bs.length ≤ 400) (hbs : ∀ b ∈ bs, b = UInt8.ofNat i) (ord : Bool) :
    putE s 0 bs.length (lv i) 0 = 0 ∧ Pi lv s0 (i + 1) (Snd.put s 0 ord bs (lv i) 0) := by
  have hu := until0 hlv
  have hf : s.first = 65536 := by rw [h.rest]; exact h0
  have hus := h.used
  have hQ : Oq.putE s.q 0 bs.length (lv i) = 0 := by
    unfold Oq.putE
    rw [if_neg (by omega), h.ssn, if_neg (by omega), h.room, if_neg (by omega), if_neg (by omega)]
  have hE : putE s 0 bs.length (lv i) 0 = 0 := by
    unfold putE
    rw [if_neg (by omega), hf, if_neg (by omega), hu]
    exact hQ
  have hok := put_ok h.ok (by omega : (0 : Int) ≤ 0) ord bs (lv i) 0
  refine ⟨hE, ?_⟩
  have hqL : Oq.put s.q 0 ord bs (lv i) = { s.q with L := s.q.L ++ [Oq.item s.q 0 ord bs (lv i)], many := s.q.many + 1, used := s.q.used + bs.length } := by unfold Oq.put; rw [if_pos hQ]
  have e : Snd.put s 0 ord bs (lv i) 0 = { s with q := { s.q with L := s.q.L ++ [Oq.item s.q 0 ord bs (lv i)], many := s.q.many + 1, used := s.q.used + bs.length }, lives := if lv i > 0 then s.lives ++ [⟨s.q.many, lv i⟩] else s.lives } := by
    unfold Snd.put
    rw [if_pos hE, hu, hqL]
  rw [e] at hok ⊢
  have hm := h.many
  refine ⟨hok, ?_, h.room, h.ssn, by dsimp only; omega, by dsimp only; omega, fun y hy => ?_, fun j hj hpos => ?_, ?_⟩
  · have hr := h.rest
    dsimp only
    exact hr ▸ rfl
  · rcases List.mem_append.1 hy with hy | hy
    · obtain ⟨⟨j, h1, h2⟩, h3⟩ := h.its y hy
      exact ⟨⟨j, by omega, h2⟩, h3⟩
    · rw [List.mem_singleton.1 hy]
      have e1 : (Oq.item s.q 0 ord bs (lv i)).id = (i : Int) := hm
      refine ⟨⟨i, by omega, e1, hbs⟩, ?_, ?_⟩
      · rw [e1, Int.toNat_natCast]; rfl
      · unfold Alv
        rw [e1, Int.toNat_natCast]
        omega
  · dsimp only
    by_cases hji : j = i
    · subst hji
      rw [if_pos hpos]
      exact ⟨_, List.mem_append_right _ (List.mem_singleton.2 rfl), hm, rfl⟩
    · obtain ⟨z, hz, h1⟩ := h.lives j (by omega) hpos
      split
      · exact ⟨z, List.mem_append_left _ hz, h1⟩
      · exact ⟨z, hz, h1⟩
  · dsimp only
    have hp := h.pcs
    unfold pcsQ at hp ⊢
    rw [List.map_append, List.sum_append]
    have : Snd.pcs (Oq.left (Oq.item s.q 0 ord bs (lv i))) ≤ 4 := by
      show (bs.length - 0 + 99) / 100 ≤ 4
      omega
    simp only [List.map_cons, List.map_nil, List.sum_cons, List.sum_nil]
    omega
/-- what goes at the beginning -/
structure In0 (m : Nat) (lv : Nat → Int) (N : Nat) (first : Int) (s : S) : Prop where
  la : La m lv 0 N 0 s ⟨[], first, 0⟩
  told : s.told = false
  rs : ∀ r ∈ s.f.L, r.acked = false ∧ r.lost = false ∧ r.gone = false ∧ r.miss = 0
  tm : tim s ∨ (s.f.L = [] ∧ ∃ w, s.ws = [w] ∧ w.timer = -1 ∧ w.p.r.value = 3)
theorem came_nil (j : Nat) : came [] j = false := came_out (Nat.zero_le _)
theorem In0.start {lv : Nat → Int} {s0 s : S} {m : Nat} {first : Int} (h : Pi lv s0 m s) (hm : m ≤ 10) (hf : s0.f = ⟨[], Spn.u32 (first - 1), 1⟩) (hmtu : s0.mtu = 128) (ho : s0.owed = []) (ht : s0.told = false) {w : Way} (hw : s0.ws = [w]) (hwt : w.timer = -1) (hwv : w.p.r.value = 3) : In0 m lv m first s := by
  have hr := h.rest
  have e1 : s.f = ⟨[], Spn.u32 (first - 1), 1⟩ := by rw [hr]; exact hf
  have e2 : s.ws = [w] := by rw [hr]; exact hw
  have e3 : s.mtu = 128 := by rw [hr]; exact hmtu
  have e4 : s.owed = [] := by rw [hr]; exact ho
  have e5 : s.told = false := by rw [hr]; exact ht
  have hp := h.pcs
  refine ⟨⟨⟨h.ok, by rw [e1]; simp, ⟨Nat.le_refl _, Nat.le_refl _⟩, ⟨by simp, fun i r d _ hd => (by cases hd)⟩, fun r hr => (by rw [e1] at hr; cases hr), by rw [e1]; simp⟩, by rw [e2]; rfl, e3, e4, h.its, fun r hr => (by rw [e1] at hr; cases hr), h.lives, by rw [e1]; simp; omega, fun i r hr => (by rw [e1] at hr; cases hr), ⟨fun j hj => (by cases hj), came_nil _⟩⟩, e5, fun r hr => (by rw [e1] at hr; cases hr), .inr ⟨by rw [e1], w, e2, hwt, hwv⟩⟩
theorem In0.goes {m : Nat} {lv : Nat → Int} {N : Nat} {first : Int} {s s' : S} (h : In0 m lv N first s) {k : Nat} {o : List Flt.Dt} (hn : next s 0 = (s', some (k, o))) : In0 m lv N first s' := by
  have hl := h.la
  obtain ⟨rfl, nx, hws', htim⟩ := next_nx hl.li.ok hl.mtu hl.ws hn
  obtain ⟨hc, _, _⟩ := next_k hl.li.ok hn
  have hok : Ok N s' := by have := next_ok hl.li.ok 0; rw [hn] at this; exact this
  have hbud := hl.bud
  have hnb := nx.bud
  have hrs : ∀ r ∈ s'.f.L, r.acked = false ∧ r.lost = false ∧ r.gone = false ∧ r.miss = 0 := fun r' hr' => by
    obtain ⟨i, hi⟩ := List.getElem?_of_mem hr'
    rcases nx.rc i r' hi with ⟨r, h1, rfl | ⟨ho, _, _⟩⟩ | ⟨_, _, hb⟩
    · exact h.rs r' (List.mem_of_getElem? h1)
    · have := (h.rs r (List.mem_of_getElem? h1)).2.1
      rw [(Flt.open_not ho).2.2] at this
      cases this
    · exact ⟨hb.acked, hb.lost, hb.gone, hb.miss⟩
  refine ⟨⟨⟨hok, hc.trans hl.li.c, hl.li.cum, ⟨by simp, fun i r d _ hd => (by cases hd)⟩, fun r hr => ?_, by omega⟩, hws', nx.mtu.trans hl.mtu, nx.owed.trans hl.owed, fun y hy => ?_, fun r' hr' => ?_, fun i hi ht => by rw [nx.lives]; exact hl.lives i hi ht, by omega, fun i r hr ha => ?_, hl.up⟩, nx.told.1.trans h.told, hrs, .inl ?_⟩
  · obtain ⟨i, hi⟩ := List.getElem?_of_mem hr
    exact hok.f.g.bs i r hi
  · obtain ⟨it, hit, e1, e2, e3⟩ := nx.q y hy
    obtain ⟨a1, a2, a3⟩ := hl.q it hit
    rw [e1, e2, e3]
    exact ⟨a1, a2, a3⟩
  · obtain ⟨i, hi⟩ := List.getElem?_of_mem hr'
    rcases nx.rc i r' hi with ⟨r, h1, rfl | ⟨_, rfl, _⟩⟩ | ⟨_, _, hb⟩
    · exact hl.r r' (List.mem_of_getElem? h1)
    · exact hl.r r (List.mem_of_getElem? h1)
    · obtain ⟨it, hit, e1, e2⟩ := hb.of
      obtain ⟨⟨j, hj, hid, hbb⟩, _, a3⟩ := hl.q it hit
      exact ⟨hb.len, .inr (.inr ⟨⟨j, hj, e1.trans hid, fun b hb' => hbb b (e2 b hb')⟩, by rw [e1]; exact a3⟩)⟩
  · rw [(hrs r (List.mem_of_getElem? hr)).1] at ha; cases ha
  · rcases h.tm with ⟨w, hw, hwt⟩ | ⟨_, w, hw, hwt, hwv⟩
    · obtain ⟨w', hw', hwt'⟩ := htim w hw (by rw [hwt]; decide)
      exact ⟨w', hw', hwt'.trans hwt⟩
    · obtain ⟨g, _, hg, _, _, hs'⟩ := next_how hn
      have hgw : g.s.ws = [w] := by
        rcases hg with rfl | rfl
        · rw [(again_r hl.li.ok.f.g 0).rest]; exact hw
        · exact (fresh_r hl.li.ok hl.mtu (by rw [hl.ws]; decide) 0).ws.trans hw
      have hr : (run g.s 0 0).ws = [runW (clock 0) w] := by unfold run; rw [hgw]; rfl
      refine ⟨runW (clock 0) w, by rw [hs', hr]; rfl, ?_⟩
      unfold runW
      rw [if_pos hwt]
      show clock 0 + w.p.r.value = 3
      rw [hwv]
      decide
theorem lost63 {p : Nat} (h : p < 40) : lostB 9223372036854775807 (p + 1) = true := by
  unfold lostB
  rw [decide_eq_true (by omega), Bool.true_and, Nat.add_sub_cancel, show (9223372036854775807 : Nat) = 2 ^ 63 - 1 by decide, Nat.testBit_two_pow_sub_one]
  exact decide_eq_true (by omega)
theorem In0.all {m : Nat} {lv : Nat → Int} {N : Nat} {first : Int} : ∀ (n : Nat) (a : Al), a.packets + n ≤ 40 → In0 m lv N first a.s → ∃ a', allN 9223372036854775807 0 n a = some a' ∧ a'.x = a.x ∧ In0 m lv N first a'.s
  | 0, a, _, h => ⟨a, rfl, rfl, h⟩
  | n + 1, a, hp, h => by
    rw [allN]
    cases hn : next a.s 0 with
    | mk s' r =>
    cases r with
    | none => exact ⟨_, rfl, rfl, by have := next_quiet hn; subst this; exact h⟩
    | some r =>
      obtain ⟨k, o⟩ := r
      dsimp only
      rw [if_pos (lost63 (by omega))]
      obtain ⟨a', h1, h2, h3⟩ := In0.all n { a with s := s', packets := a.packets + 1, pieces := a.pieces + o.length } (by dsimp only; omega) (h.goes hn)
      exact ⟨a', h1, h2, h3⟩
theorem In0.ot {m : Nat} {lv : Nat → Int} {N : Nat} {first : Int} {s : S} (h : In0 m lv N first s) : Ot m lv N 1 s ⟨[], first, 0⟩ := by
  refine ⟨⟨0, by omega, h.la⟩, fun ht => (by rw [h.told] at ht; cases ht), ?_⟩
  rcases h.tm with ht | ⟨hL, _⟩
  · exact .inr ⟨ht, fun i r hr _ _ => by
      obtain ⟨a1, a2, a3, a4⟩ := h.rs r (List.mem_of_getElem? hr)
      exact ⟨a2, by omega, by omega, came_nil _⟩⟩
  · exact .inl (fun r hr => by rw [hL] at hr; cases hr)
end Go.Snd
