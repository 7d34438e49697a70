/- What goes out of a sender keeps to the paths' sizes and the peer's room, in plain Lean. No conditions: laws only. -/
import Derived.Test.YtjbinhihkfidoaaGreatSnT
namespace Go.Snd
open Go Go.Pth

theorem trySome_same {step : S → Nat → Option Go1} (hsame : ∀ s k g, step s k = some g → g.out = [] → g.s = s) {now : Int} : ∀ {l : List Nat} {s s' : S} {k : Nat} {o : List Flt.Dt}, trySome step now l s = (s', some (k, o)) →
    ∃ g, k ∈ l ∧ step s k = some g ∧ g.out = o ∧ o ≠ [] ∧ s' = run g.s k now
  | [], _, _, _, _, h => by cases h
  | j :: l, s, s', k, o, h => by
    rw [trySome] at h
    split at h
    · obtain ⟨g, h2, h3⟩ := trySome_same hsame h
      exact ⟨g, List.mem_cons_of_mem _ h2, h3⟩
    · rename_i g hg
      split at h
      · rename_i ho
        rw [hsame s j g hg ho] at h
        obtain ⟨g', h2, h3⟩ := trySome_same hsame h
        exact ⟨g', List.mem_cons_of_mem _ h2, h3⟩
      · rename_i ho
        cases h
        exact ⟨g, List.mem_cons_self, hg, rfl, ho, rfl⟩
theorem trySome_sameN {step : S → Nat → Option Go1} (hsame : ∀ s k g, step s k = some g → g.out = [] → g.s = s) {now : Int} : ∀ {l : List Nat} {s s' : S}, trySome step now l s = (s', none) → s' = s
  | [], _, _, h => by cases h; rfl
  | j :: l, s, s', h => by
    rw [trySome] at h
    split at h
    · exact trySome_sameN hsame h
    · rename_i g hg
      split at h
      · rename_i ho
        rw [hsame s j g hg ho] at h
        exact trySome_sameN hsame h
      · cases h
theorem again1_nil {s0 : S} {k : Nat} {now : Int} {x : Go1 × Bool} (h : x.1.out = [] → x.1.s = s0) (t : Int) : (again1 k now x t).1.out = [] → (again1 k now x t).1.s = s0 := by
  unfold again1
  repeat' split
  all_goals first | exact h | (intro e; simp at e)
theorem again_foldn {s0 : S} {k : Nat} {now : Int} : ∀ (l : List Int) {x : Go1 × Bool}, (x.1.out = [] → x.1.s = s0) → (l.foldl (again1 k now) x).1.out = [] → (l.foldl (again1 k now) x).1.s = s0
  | [], _, h => h
  | t :: l, _, h => again_foldn l (again1_nil h t)
theorem again_nil {s : S} {k : Nat} {now : Int} : (again s k now).out = [] → (again s k now).s = s := again_foldn _ (fun _ => rfl)
theorem freshN_nil {s0 : S} {k : Nat} {now : Int} : ∀ (m : Nat) {g : Go1}, (g.out = [] → g.s = s0) → (freshN k now m g).out = [] → (freshN k now m g).s = s0
  | 0, _, h => h
  | m + 1, g, h => by
    rw [freshN]
    split
    · exact h
    · refine freshN_nil m ?_
      unfold fresh1
      split
      · exact h
      · intro e; simp at e
theorem fresh_nil {s : S} {k : Nat} {now : Int} : (fresh s k now).out = [] → (fresh s k now).s = s := freshN_nil 100 (fun _ => rfl)
/-- how a packet goes: of lost ones, or of new ones, from just this state -/
theorem next_how {s s' : S} {now : Int} {k : Nat} {o : List Flt.Dt} (hn : next s now = (s', some (k, o))) :
    ∃ g, k < s.ws.length ∧ (g = again s k now ∨ g = fresh s k now) ∧ g.out = o ∧ o ≠ [] ∧ s' = run g.s k now := by
  have ha : ∀ (s : S) k g, (fun s k => some (again s k now)) s k = some g → g.out = [] → g.s = s := fun s k g hg ho => by cases hg; exact again_nil ho
  unfold next at hn
  split at hn
  · rename_i s1 r h1
    cases hn
    obtain ⟨g, b, c, d, e, f⟩ := trySome_same ha h1
    cases c
    exact ⟨_, List.mem_range.1 b, .inl rfl, d, e, f⟩
  · rename_i s1 h1
    have hs1 := trySome_sameN ha h1
    subst hs1
    obtain ⟨g, b, c, d, e, f⟩ := trySome_same (fun s k g hg ho => by
      split at hg
      · cases hg; exact fresh_nil ho
      · cases hg) hn
    split at c
    · cases c
      exact ⟨_, List.mem_range.1 b, .inr rfl, d, e, f⟩
    · cases c
theorem next_quiet {s s' : S} {now : Int} (hn : next s now = (s', none)) : s' = s := by
  have ha : ∀ (s : S) k g, (fun s k => some (again s k now)) s k = some g → g.out = [] → g.s = s := fun s k g hg ho => by cases hg; exact again_nil ho
  unfold next at hn
  split at hn
  · cases hn
  · rename_i s1 h1
    rw [trySome_sameN (fun s k g hg ho => by
      split at hg
      · cases hg; exact fresh_nil ho
      · cases hg) hn]
    exact trySome_sameN ha h1
/-! ### what is under way -/
theorem out_again {f : Flt.S} {t : Int} {k : Nat} {now : Int} {d : Flt.Dt} {p : Int} (hg : Flt.getD f t = some (d, p)) : Flt.out (Flt.again f t k now).1 k ≤ Flt.out f k + d.bs.length := by
  unfold Flt.getD at hg
  unfold Flt.again
  split
  · dsimp only; omega
  · cases ha : Flt.atI f.c f.L.length t with
    | none => dsimp only; omega
    | some i =>
      rw [ha] at hg
      dsimp only at hg ⊢
      cases hr : f.L[i]? with
      | none => dsimp only; omega
      | some r =>
        rw [hr] at hg
        cases hg
        dsimp only
        split
        · have := Flt.sumB_set (Flt.byP k) hr (Flt.setAgain k now r)
          unfold Flt.out
          dsimp only at this ⊢
          have e : (Flt.setAgain k now r).bs.length = r.bs.length := rfl
          have e2 : r.d.bs.length = r.bs.length := rfl
          rw [e] at this
          rw [e2]
          split at this <;> split at this <;> omega
        · dsimp only; omega
theorem out_add {f : Flt.S} {d : Flt.Dt} {k : Nat} {now id : Int} : Flt.out (Flt.add f d k now id) k = Flt.out f k + if Flt.addE f d k = 0 then d.bs.length else 0 := by
  unfold Flt.add
  split
  · unfold Flt.out
    dsimp only
    rw [Flt.sumB_append]
    congr 1
    unfold Flt.sumB Flt.byP Flt.away Flt.newR
    simp
  · omega
theorem out_add_le {f : Flt.S} {d : Flt.Dt} {k j : Nat} {now id : Int} : Flt.out f j ≤ Flt.out (Flt.add f d k now id) j := by
  unfold Flt.add
  split
  · unfold Flt.out
    dsimp only
    rw [Flt.sumB_append]
    omega
  · omega
theorem need_ge (n : Nat) : (n : Int) + 16 ≤ need n := by unfold need; omega
theorem getD_tsn {f : Flt.S} (h : Flt.Good f) {t : Int} (ht : 0 ≤ t ∧ t < 4294967296) {d : Flt.Dt} {p : Int} (hg : Flt.getD f t = some (d, p)) : d.tsn = t := by
  unfold Flt.getD at hg
  cases ha : Flt.atI f.c f.L.length t with
  | none => rw [ha] at hg; cases hg
  | some i =>
    rw [ha] at hg
    dsimp only at hg
    cases hr : f.L[i]? with
    | none => rw [hr] at hg; cases hg
    | some r =>
      rw [hr] at hg
      cases hg
      show r.tsn = t
      rw [h.tsn i r hr]
      unfold Flt.atI at ha
      split at ha
      · rename_i h1
        cases ha
        have hc := h.c
        unfold Spn.far at h1 ⊢
        simp only [Spn.u32_eq] at h1 ⊢
        omega
      · cases ha
structure AgB (s : S) (k : Nat) (x : Go1) : Prop where
  ws : x.s.ws = s.ws
  room : x.s.room = s.room
  mtu : x.s.mtu = s.mtu
  c : x.s.f.c = s.f.c
  len : x.s.f.L.length = s.f.L.length
  good : Flt.Good x.s.f
  left : x.room ≤ s.mtu - 12
  way : (x.out = [] ∧ x.s = s) ∨ ((Flt.out s.f k : Int) < sizeW s k ∧ (Flt.out x.s.f k : Int) < sizeW s k + s.mtu)
  old : ∀ d ∈ x.out, d.tsn ∈ Flt.lostL s.f
  gone : x.s.f.L.map (·.gone) = s.f.L.map (·.gone)
theorem again_gone (f : Flt.S) (t p now : Int) : (Flt.again f t p now).1.L.map (·.gone) = f.L.map (·.gone) := by
  unfold Flt.again
  split
  · rfl
  · split
    · rfl
    · split
      · rfl
      · rename_i i _ r hr
        split
        · exact Flt.set_map (·.gone) hr rfl
        · rfl
theorem lostL_rng {f : Flt.S} (h : Flt.Good f) {t : Int} (ht : t ∈ Flt.lostL f) : 0 ≤ t ∧ t < 4294967296 := by
  unfold Flt.lostL at ht
  obtain ⟨r, hr, rfl⟩ := List.mem_map.1 ht
  obtain ⟨i, hi⟩ := List.getElem?_of_mem (List.mem_filter.1 hr).1
  rw [h.tsn i r hi]
  exact Flt.u32_mod _
theorem again1_b {s : S} (hs : Flt.Good s.f) {k : Nat} {now : Int} {x : Go1 × Bool} (h : AgB s k x.1) {t : Int} (ht : t ∈ Flt.lostL s.f) : AgB s k (again1 k now x t).1 := by
  unfold again1
  split
  · exact h
  · split
    · exact h
    · rename_i d was hg
      split
      · exact h
      · split
        · exact h
        · rename_i h2
          simp only [Bool.or_eq_true, decide_eq_true_eq, not_or, Bool.not_eq_true', Bool.not_eq_false] at h2
          obtain ⟨hm, hr⟩ := h2
          obtain ⟨e1, e2⟩ := again_same x.1.s.f t k (clock now)
          have hl := h.left
          have hn := need_ge d.bs.length
          have hsz : sizeW x.1.s k = sizeW s k := by unfold sizeW; rw [h.ws]
          have hmay : (Flt.out x.1.s.f k : Int) < sizeW s k := by rw [← hsz]; exact of_decide_eq_true hm
          have hout := out_again (k := k) (now := clock now) hg
          refine ⟨h.ws, h.room, h.mtu, e1.trans h.c, e2.trans h.len, h.good.again _ _ _, by dsimp only; omega, .inr ⟨?_, by dsimp only; omega⟩, fun q hq => ?_, by dsimp only; rw [again_gone, h.gone]⟩
          · rcases h.way with ⟨_, e⟩ | ⟨e, _⟩
            · rw [e] at hmay; exact hmay
            · exact e
          · rcases List.mem_append.1 hq with hq | hq
            · exact h.old q hq
            · rw [List.mem_singleton.1 hq, getD_tsn h.good (lostL_rng hs ht) hg]; exact ht
theorem again_fb {s : S} (hs : Flt.Good s.f) {k : Nat} {now : Int} : ∀ (l : List Int) {x : Go1 × Bool}, (∀ t ∈ l, t ∈ Flt.lostL s.f) → AgB s k x.1 → AgB s k (l.foldl (again1 k now) x).1
  | [], _, _, h => h
  | t :: l, _, hl, h => again_fb hs l (fun q hq => hl q (List.mem_cons_of_mem _ hq)) (again1_b hs h (hl t List.mem_cons_self))
theorem again_b {s : S} (hs : Flt.Good s.f) (k : Nat) (now : Int) : AgB s k (again s k now) :=
  again_fb hs _ (fun _ h => h) ⟨rfl, rfl, rfl, rfl, rfl, hs, Int.le_refl _, .inl ⟨rfl, rfl⟩, fun _ h => (by cases h), rfl⟩
/-! ### new ones -/
def bytesS (o : List Flt.Dt) : Int := (o.map (fun d => (d.bs.length : Int))).sum
theorem bytesS_snoc (o : List Flt.Dt) (d : Flt.Dt) : bytesS (o ++ [d]) = bytesS o + d.bs.length := by unfold bytesS; rw [List.map_append, List.sum_append]; simp
structure FrB (s : S) (k : Nat) (g : Go1) : Prop where
  ws : g.s.ws = s.ws
  mtu : g.s.mtu = s.mtu
  c : g.s.f.c = s.f.c
  left : g.room ≤ s.mtu - 12
  way : (g.out = [] ∧ g.s = s) ∨ ((Flt.out s.f k : Int) < sizeW s k ∧ (Flt.out g.s.f k : Int) < sizeW s k + s.mtu ∧ 0 < away g.s)
  more : ∃ M : List Flt.Rc, g.s.f.L = s.f.L ++ M ∧ M.length = g.out.length
  tsn : ∀ (i : Nat) d, g.out[i]? = some d → d.tsn = Spn.u32 (s.f.c + 1 + ((s.f.L.length + i : Nat) : Int))
  room : (bytesS g.out + g.s.room = s.room ∧ 0 ≤ g.s.room) ∨ (g.out.length = 1 ∧ away s = 0 ∧ g.s.room = 0 ∧ 0 < away g.s)
theorem away_pos {s : S} {k : Nat} (hk : k < s.ws.length) (h : 0 < Flt.out s.f k) : 0 < away s := by
  unfold away
  have : Flt.out s.f k ∈ (List.range s.ws.length).map (fun k : Nat => Flt.out s.f k) := List.mem_map.2 ⟨k, List.mem_range.2 hk, rfl⟩
  have hle : ∀ (l : List Nat) (a : Nat), a ∈ l → a ≤ l.sum := fun l a => by
    induction l with
    | nil => intro h; cases h
    | cons b l ih =>
      intro h
      rw [List.sum_cons]
      rcases List.mem_cons.1 h with rfl | h
      · omega
      · have := ih h; omega
  have := hle _ _ this
  omega
theorem fresh1_b {n : Nat} {s : S} {k : Nat} (hk : k < s.ws.length) {now : Int} {g : Go1} (ho : Ok n g.s) (h : FrB s k g) (hs : stops g.s k g.room = false) : FrB s k (fresh1 k now g) := by
  have hst := stops_false hs
  obtain ⟨d, id, q', hn, hl, hb⟩ := fresh_next ho hst.1
  have hr := piece_rng ho
  have hk' : k < g.s.ws.length := by rw [h.ws]; exact hk
  have hadd := fresh_add ho hk' hb hst.2.2.2.2
  rw [fresh1_at hn]
  have hleft := h.left
  have hnd := need_ge (piece g.s).toNat
  have hroom := hst.2.1
  have hsz : sizeW g.s k = sizeW s k := by unfold sizeW; rw [h.ws]
  have hmay : (Flt.out g.s.f k : Int) < sizeW s k := by rw [← hsz]; exact of_decide_eq_true hst.2.2.1
  have hlen : 0 < d.bs.length := List.length_pos_iff.2 hb
  have hout : Flt.out (Flt.add g.s.f d k (clock now) id) k = Flt.out g.s.f k + d.bs.length := by rw [out_add, if_pos hadd]
  have haw : ∀ s' : S, s'.ws = s.ws → s'.f = Flt.add g.s.f d k (clock now) id → 0 < away s' := fun s' h1 h2 => by
    refine away_pos (k := k) (by rw [h1]; exact hk) ?_
    rw [h2, hout]
    omega
  obtain ⟨M, hM, hMl⟩ := h.more
  refine ⟨h.ws, h.mtu, ?_, by dsimp only; omega, .inr ⟨?_, by dsimp only; rw [hout]; omega, haw _ h.ws rfl⟩, ?_, fun i q hq => ?_, ?_⟩
  · dsimp only
    unfold Flt.add
    split <;> exact h.c
  · rcases h.way with ⟨_, e⟩ | ⟨e, _⟩
    · rw [e] at hmay; exact hmay
    · exact e
  · dsimp only
    refine ⟨M ++ [Flt.newR g.s.f d k (clock now) id], ?_, by simp [hMl]⟩
    unfold Flt.add
    rw [if_pos hadd]
    dsimp only
    rw [hM, List.append_assoc]
  · dsimp only at hq
    by_cases hi : i < g.out.length
    · rw [List.getElem?_append_left hi] at hq
      exact h.tsn i q hq
    · rw [List.getElem?_append_right (by omega)] at hq
      have hi2 : i = g.out.length := by
        cases hd : i - g.out.length with
        | zero => omega
        | succ j => rw [hd] at hq; cases hq
      subst hi2
      rw [Nat.sub_self] at hq
      cases hq
      show Flt.newT g.s.f = _
      rw [Flt.newT_eq ho.f.g, h.c, hM, List.length_append, hMl]
  · dsimp only
    rcases h.room with ⟨h1, h2⟩ | ⟨h1, h2, h3, h4⟩
    · rcases hst.2.2.2.1 with h5 | h5
      · refine .inl ⟨?_, by rw [mx_eq]; omega⟩
        rw [bytesS_snoc, mx_eq]
        dsimp only
        rw [hl]
        omega
      · have hz : away g.s = 0 := by omega
        obtain ⟨ho', e2⟩ : g.out = [] ∧ g.s = s := by
          rcases h.way with e | ⟨_, _, e⟩
          · exact e
          · omega
        by_cases h6 : piece g.s ≤ g.s.room
        · refine .inl ⟨?_, by rw [mx_eq]; omega⟩
          rw [bytesS_snoc, mx_eq]
          dsimp only
          rw [hl]
          omega
        · exact .inr ⟨by rw [ho']; rfl, by rw [← e2]; exact hz, by rw [mx_eq]; omega, haw _ h.ws rfl⟩
    · exfalso
      have := hst.2.2.2.1
      have := hst.1
      omega
theorem freshN_b {n : Nat} {s : S} {k : Nat} (hk : k < s.ws.length) {now : Int} : ∀ (m : Nat) {g : Go1}, Ok n g.s → FrB s k g → FrB s k (freshN k now m g)
  | 0, _, _, h => h
  | m + 1, g, ho, h => by
    rw [freshN]
    split
    · exact h
    · rename_i hs
      exact freshN_b hk m (fresh1_ok ho) (fresh1_b hk ho h (Bool.not_eq_true _ ▸ hs))
theorem fresh_b {n : Nat} {s : S} (hs : Ok n s) {k : Nat} (hk : k < s.ws.length) (now : Int) : FrB s k (fresh s k now) :=
  freshN_b hk 100 hs ⟨rfl, rfl, rfl, Int.le_refl _, .inl ⟨rfl, rfl⟩, ⟨[], by simp, rfl⟩, fun i _ h => (by cases h), .inl ⟨(by show bytesS [] + s.room = s.room; simp [bytesS]), hs.room.1⟩⟩
end Go.Snd
