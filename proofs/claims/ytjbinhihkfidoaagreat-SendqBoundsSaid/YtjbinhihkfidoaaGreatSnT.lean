/- What goes out of a sender, in plain Lean: each piece has a TSN within range, and bytes. No conditions: laws only. -/
import Derived.Test.YtjbinhihkfidoaaGreatSnR
namespace Go.Snd
open Go Go.Pth

/-- a piece that goes -/
def Pc (d : Flt.Dt) : Prop := (0 ≤ d.tsn ∧ d.tsn < 4294967296) ∧ d.bs ≠ [] ∧ d.bs.length ≤ 1500
theorem trySome_some {step : S → Nat → Option Go1} {I : S → Prop} (hstep : ∀ s k g, I s → step s k = some g → I g.s) {now : Int} : ∀ {l : List Nat} {s s' : S} {k : Nat} {o : List Flt.Dt}, I s → trySome step now l s = (s', some (k, o)) →
    ∃ s0 g, I s0 ∧ k ∈ l ∧ step s0 k = some g ∧ g.out = o ∧ o ≠ [] ∧ s' = run g.s k now
  | [], _, _, _, _, _, h => by cases h
  | j :: l, s, s', k, o, hI, h => by
    rw [trySome] at h
    split at h
    · obtain ⟨s0, g, h1, h2, h3⟩ := trySome_some hstep hI h
      exact ⟨s0, g, h1, List.mem_cons_of_mem _ h2, h3⟩
    · rename_i g hg
      split at h
      · obtain ⟨s0, g', h1, h2, h3⟩ := trySome_some hstep (hstep s j g hI hg) h
        exact ⟨s0, g', h1, List.mem_cons_of_mem _ h2, h3⟩
      · rename_i ho
        cases h
        exact ⟨s, g, hI, List.mem_cons_self, hg, rfl, ho, rfl⟩
theorem trySome_inv {step : S → Nat → Option Go1} {I : S → Prop} (hstep : ∀ s k g, I s → step s k = some g → I g.s) {now : Int} : ∀ {l : List Nat} {s s' : S}, I s → trySome step now l s = (s', none) → I s'
  | [], _, _, hI, h => by cases h; exact hI
  | j :: l, s, s', hI, h => by
    rw [trySome] at h
    split at h
    · exact trySome_inv hstep hI h
    · rename_i g hg
      split at h
      · exact trySome_inv hstep (hstep s j g hI hg) h
      · cases h
def needS (o : List Flt.Dt) : Int := (o.map (fun d => need d.bs.length)).sum
theorem needS_snoc (o : List Flt.Dt) (d : Flt.Dt) : needS (o ++ [d]) = needS o + need d.bs.length := by unfold needS; rw [List.map_append, List.sum_append]; simp
theorem needS_len : ∀ {o : List Flt.Dt}, (∀ d ∈ o, d.bs ≠ []) → 20 * (o.length : Int) ≤ needS o
  | [], _ => by simp [needS]
  | d :: o, h => by
    have h1 := needS_len (o := o) (fun q hq => h q (List.mem_cons_of_mem _ hq))
    have h2 : 1 ≤ d.bs.length := List.length_pos_iff.2 (h d List.mem_cons_self)
    have h3 := need20 h2
    have e : needS (d :: o) = need d.bs.length + needS o := by unfold needS; rw [List.map_cons, List.sum_cons]
    rw [e, List.length_cons]
    omega
/-- the pieces that went till now are well; they have room -/
structure GoI (n : Nat) (M : Int) (x : Go1) : Prop where
  ok : Ok n x.s
  pc : ∀ d ∈ x.out, Pc d
  mtu : x.s.mtu = M
  sum : needS x.out + x.room = M - 12
  room : 0 ≤ x.room
theorem getD_pc {f : Flt.S} (h : FOk f) {t : Int} {d : Flt.Dt} {p : Int} (hg : Flt.getD f t = some (d, p)) : Pc d := by
  have h2 := (getD_rng h hg).2
  unfold Flt.getD at hg
  split at hg
  · rename_i i _
    cases hr : f.L[i]? with
    | none => rw [hr] at hg; cases hg
    | some r =>
      rw [hr] at hg
      cases hg
      exact ⟨by show 0 ≤ r.tsn ∧ r.tsn < _; rw [h.g.tsn i r hr]; exact Flt.u32_mod _, h.g.bs i r hr, h2⟩
  · cases hg
theorem again1_pc {n k : Nat} {M now : Int} {x : Go1 × Bool} (h : GoI n M x.1) (t : Int) : GoI n M (again1 k now x t).1 := by
  have hok := again1_ok (k := k) (now := now) h.ok t
  unfold again1 at hok ⊢
  split
  · exact h
  · rename_i hx
    split
    · exact h
    · rename_i d was hg
      split
      · exact h
      · split
        · exact h
        · rename_i h1 h2
          simp only [hx, hg, if_neg h1, if_neg h2] at hok
          simp only [Bool.or_eq_true, decide_eq_true_eq, not_or] at h2
          refine ⟨hok, fun q hq => ?_, h.mtu, ?_, ?_⟩
          · rcases List.mem_append.1 hq with hq | hq
            · exact h.pc q hq
            · rw [List.mem_singleton.1 hq]; exact getD_pc h.ok.f hg
          · have := h.sum
            dsimp only
            rw [needS_snoc]
            omega
          · dsimp only; omega
theorem again_pcf {n k : Nat} {M now : Int} : ∀ (l : List Int) {x : Go1 × Bool}, GoI n M x.1 → GoI n M (l.foldl (again1 k now) x).1
  | [], _, h => h
  | t :: l, _, h => again_pcf l (again1_pc h t)
theorem again_pc {n : Nat} {s : S} (h : Ok n s) (k : Nat) (now : Int) : GoI n s.mtu (again s k now) := by
  have := h.mtu
  exact again_pcf _ ⟨h, fun _ hd => (by cases hd), rfl, (by show needS [] + (s.mtu - 12) = s.mtu - 12; simp [needS]), (by show 0 ≤ s.mtu - 12; omega)⟩
theorem fresh1_pc {n k : Nat} {M now : Int} {g : Go1} (h : GoI n M g) (hs : stops g.s k g.room = false) : GoI n M (fresh1 k now g) := by
  have hok := fresh1_ok (k := k) (now := now) h.ok
  have hst := stops_false hs
  obtain ⟨d, id, q', hn, hl, hb⟩ := fresh_next h.ok hst.1
  have hr := piece_rng h.ok
  rw [fresh1_at hn] at hok ⊢
  refine ⟨hok, fun q hq => ?_, h.mtu, ?_, ?_⟩
  · rcases List.mem_append.1 hq with hq | hq
    · exact h.pc q hq
    · rw [List.mem_singleton.1 hq]
      exact ⟨Flt.u32_mod _, hb, by dsimp only; omega⟩
  · have := h.sum
    dsimp only
    rw [needS_snoc]
    dsimp only
    rw [hl]
    omega
  · have := hst.2.1
    dsimp only
    omega
theorem freshN_pc {n k : Nat} {M now : Int} : ∀ (m : Nat) {g : Go1}, GoI n M g → GoI n M (freshN k now m g)
  | 0, _, h => h
  | m + 1, g, h => by
    rw [freshN]
    split
    · exact h
    · rename_i hs
      exact freshN_pc m (fresh1_pc h (Bool.not_eq_true _ ▸ hs))
theorem fresh_pc {n : Nat} {s : S} (h : Ok n s) (k : Nat) (now : Int) : GoI n s.mtu (fresh s k now) := by
  have := h.mtu
  exact freshN_pc 100 ⟨h, fun _ hd => (by cases hd), rfl, (by show needS [] + (s.mtu - 12) = s.mtu - 12; simp [needS]), (by show 0 ≤ s.mtu - 12; omega)⟩
/-- how a packet goes: of lost ones, or of new ones -/
theorem next_some {n : Nat} {s s' : S} (h : Ok n s) {now : Int} {k : Nat} {o : List Flt.Dt} (hn : next s now = (s', some (k, o))) :
    ∃ s0 g, (Ok n s0 ∧ s0.mtu = s.mtu) ∧ k < s.ws.length ∧ (g = again s0 k now ∨ g = fresh s0 k now) ∧ g.out = o ∧ o ≠ [] ∧ s' = run g.s k now := by
  have ha : ∀ s0 k g, (Ok n s0 ∧ s0.mtu = s.mtu) → (fun s k => some (again s k now)) s0 k = some g → Ok n g.s ∧ g.s.mtu = s.mtu := fun s0 k g h0 hg => by
    cases hg
    have := again_pc h0.1 k now
    exact ⟨this.ok, this.mtu.trans h0.2⟩
  unfold next at hn
  split at hn
  · rename_i s1 r h1
    cases hn
    obtain ⟨s0, g, a, b, c, d, e, f⟩ := trySome_some (I := fun s0 => Ok n s0 ∧ s0.mtu = s.mtu) ha ⟨h, rfl⟩ h1
    cases c
    exact ⟨s0, _, a, List.mem_range.1 b, .inl rfl, d, e, f⟩
  · rename_i s1 h1
    have hs1 := trySome_inv (I := fun s0 => Ok n s0 ∧ s0.mtu = s.mtu) ha ⟨h, rfl⟩ h1
    obtain ⟨s0, g, a, b, c, d, e, f⟩ := trySome_some (I := fun s0 => Ok n s0 ∧ s0.mtu = s.mtu) (fun s0 k g hs hg => by
      split at hg
      · cases hg
        have := fresh_pc hs.1 k now
        exact ⟨this.ok, this.mtu.trans hs.2⟩
      · cases hg) hs1 hn
    split at c
    · cases c
      exact ⟨s0, _, a, List.mem_range.1 b, .inr rfl, d, e, f⟩
    · cases c
theorem next_pc {n : Nat} {s s' : S} (h : Ok n s) {now : Int} {k : Nat} {o : List Flt.Dt} (hn : next s now = (s', some (k, o))) : k < s.ws.length ∧ o ≠ [] ∧ (∀ d ∈ o, Pc d) ∧ needS o ≤ s.mtu - 12 ∧ o.length ≤ 75 := by
  obtain ⟨s0, g, ⟨a, a'⟩, b, c, d, e, _⟩ := next_some h hn
  have hg : GoI n s0.mtu g := by
    rcases c with rfl | rfl
    · exact again_pc a k now
    · exact fresh_pc a k now
  have h1 := hg.sum
  have h2 := hg.room
  have h3 := needS_len (o := g.out) (fun q hq => (hg.pc q hq).2.1)
  have h4 := h.mtu
  rw [d] at h1 h3
  rw [a'] at h1
  exact ⟨b, e, by rw [← d]; exact hg.pc, by omega, by omega⟩
end Go.Snd
