/- What goes from a sender, step by step, in plain Lean. No conditions: laws only. -/
import Derived.Test.YtjbinhihkfidoaaGreatSnQ
import Derived.Test.YtjbinhihkfidoaaGreatSnP
namespace Go.Snd
open Go Go.Pth

theorem again_stop {k : Nat} {now : Int} : ∀ (l : List Int) {x : Go1 × Bool}, x.2 = true → l.foldl (again1 k now) x = x
  | [], _, _ => rfl
  | t :: l, x, h => by
    rw [List.foldl_cons]
    have e : again1 k now x t = x := by unfold again1; rw [if_pos h]
    rw [e]
    exact again_stop l h
theorem lost_get {f f' : Flt.S} (h : Flt.Good f) {t : Int} (ht : t ∈ Flt.lostL f) (hc : f'.c = f.c) (hl : f'.L.length = f.L.length) : ∃ d p, Flt.getD f' t = some (d, p) := by
  unfold Flt.lostL at ht
  obtain ⟨r, hr, rfl⟩ := List.mem_map.1 ht
  obtain ⟨i, hi⟩ := List.getElem?_of_mem (List.mem_filter.1 hr).1
  have hlt := (List.getElem?_eq_some_iff.1 hi).1
  have hfew := h.few
  have hcr := h.c
  have hat : Flt.atI f'.c f'.L.length r.tsn = some i := by
    rw [h.tsn i r hi, hc, hl]
    have hf : Spn.far f.c (Spn.u32 (f.c + 1 + i)) = i + 1 := by
      unfold Spn.far
      simp only [Spn.u32_eq]
      omega
    unfold Flt.atI
    rw [hf, if_pos ⟨by omega, by omega⟩]
    rfl
  unfold Flt.getD
  rw [hat]
  dsimp only
  obtain ⟨r', hr'⟩ : ∃ r', f'.L[i]? = some r' := ⟨f'.L[i]'(by omega), List.getElem?_eq_getElem _⟩
  rw [hr']
  exact ⟨_, _, rfl⟩
theorem getD_rng {f : Flt.S} (h : FOk f) {t : Int} {d : Flt.Dt} {p : Int} (hg : Flt.getD f t = some (d, p)) : (0 ≤ p ∧ p < f.paths) ∧ d.bs.length ≤ 1500 := by
  unfold Flt.getD at hg
  split at hg
  · rename_i i _
    cases hr : f.L[i]? with
    | none => rw [hr] at hg; cases hg
    | some r =>
      rw [hr] at hg
      cases hg
      exact ⟨h.g.path i r hr, h.bytes r (List.mem_of_getElem? hr)⟩
  · cases hg
theorem again_same (f : Flt.S) (t p now : Int) : (Flt.again f t p now).1.c = f.c ∧ (Flt.again f t p now).1.L.length = f.L.length := by
  unfold Flt.again
  repeat' split
  all_goals first | exact ⟨rfl, rfl⟩ | exact ⟨rfl, by simp⟩
/-- the state of the lost ones, while they go -/
structure AgI (n : Nat) (s : S) (x : Go1) : Prop where
  ok : Ok n x.s
  c : x.s.f.c = s.f.c
  len : x.s.f.L.length = s.f.L.length
  room : 0 ≤ x.room ∧ x.room ≤ 1500
theorem again_at {k : Nat} {now : Int} {x : Go1} {t : Int} {d : Flt.Dt} {p : Int} (hg : Flt.getD x.s.f t = some (d, p)) :
    again1 k now (x, false) t = if nextW x.s p.toNat ≠ k then (x, false) else if (!mayW x.s k || decide (need d.bs.length > x.room)) = true then (x, true) else (⟨{ x.s with f := (Flt.again x.s.f t k (clock now)).1 }, x.out ++ [d], x.room - need d.bs.length⟩, false) := by
  unfold again1
  dsimp only
  rw [if_neg (by decide), hg]
theorem AgI.go {n : Nat} {s : S} {x : Go1} (h : AgI n s x) {k : Nat} {now t : Int} {d : Flt.Dt} (hroom : ¬ need d.bs.length > x.room) : AgI n s ⟨{ x.s with f := (Flt.again x.s.f t k (clock now)).1 }, x.out ++ [d], x.room - need d.bs.length⟩ := by
  obtain ⟨h1, h2⟩ := again_same x.s.f t k (clock now)
  have h3 := (need_le (n := d.bs.length)).1
  have h4 := h.room
  exact ⟨{ h.ok with f := h.ok.f.again _ _ (clock_at now), paths := by dsimp only; rw [again_paths]; exact h.ok.paths }, by dsimp only; rw [h1]; exact h.c, by dsimp only; rw [h2]; exact h.len, by dsimp only; omega⟩
/-! ### new ones -/
theorem stops_false {s : S} {k : Nat} {room : Int} (h : stops s k room = false) : piece s ≠ 0 ∧ ¬ need (piece s).toNat > room ∧ mayW s k = true ∧ (¬ piece s > s.room ∨ ¬ 0 < away s) ∧ ¬ 2048 ≤ s.f.L.length := by
  unfold stops at h
  dsimp only at h
  simp only [Bool.or_eq_false_iff, Bool.and_eq_false_iff, decide_eq_false_iff_not, Bool.not_eq_false'] at h
  obtain ⟨h1, h2, h3, h4, h5⟩ := h
  exact ⟨h1, h2, h3, h4, h5⟩
theorem fresh_next {n : Nat} {s : S} (ho : Ok n s) (h : piece s ≠ 0) : ∃ d id q', Oq.next s.q (piece s) = some (d, id, q') ∧ d.bs.length = (piece s).toNat ∧ d.bs ≠ [] := by
  have hr := piece_rng ho
  have hsz : piece s ≤ Oq.size s.q := by unfold piece; rw [mn_eq]; omega
  unfold Oq.next
  rw [if_neg (by omega)]
  cases hL : s.q.L with
  | nil => unfold Oq.size at hsz; rw [hL] at hsz; dsimp only at hsz; omega
  | cons x r =>
    have hx := (ho.q.its x (by rw [hL]; exact List.mem_cons_self)).1
    have hat := hx.at_
    have hs2 : Oq.size s.q = Oq.left x := by unfold Oq.size; rw [hL]
    have hlen : (Oq.cutD s.q x (piece s)).bs.length = (piece s).toNat := by
      unfold Oq.cutD Oq.endAt
      dsimp only
      rw [List.length_take, List.length_drop, mn_eq]
      unfold Oq.left at hs2 ⊢
      omega
    exact ⟨_, _, _, rfl, hlen, fun e => by rw [e] at hlen; simp at hlen; omega⟩
theorem fresh_add {n : Nat} {s : S} (ho : Ok n s) {k : Nat} (hk : k < s.ws.length) {d : Flt.Dt} (hd : d.bs ≠ []) (hl : ¬ 2048 ≤ s.f.L.length) : Flt.addE s.f d k = 0 := by
  have := ho.paths
  unfold Flt.addE
  rw [if_neg, if_neg hl]
  rintro (e | e | e)
  · omega
  · omega
  · exact hd e
theorem fresh1_at {k : Nat} {now : Int} {g : Go1} {d : Flt.Dt} {id : Int} {q' : Oq.S} (h : Oq.next g.s.q (piece g.s) = some (d, id, q')) :
    fresh1 k now g = ⟨{ g.s with q := q', f := Flt.add g.s.f d k (clock now) id, room := mx 0 (g.s.room - piece g.s) }, g.out ++ [{ d with tsn := Flt.newT g.s.f }], g.room - need (piece g.s).toNat⟩ := by
  unfold fresh1
  rw [h]
theorem freshN_stop {k : Nat} {now : Int} {g : Go1} (h : stops g.s k g.room = true) : ∀ m, freshN k now m g = g
  | 0 => rfl
  | m + 1 => by rw [freshN, if_pos h]
theorem freshN_go {k : Nat} {now : Int} {g : Go1} (h : stops g.s k g.room = false) (m : Nat) : freshN k now (m + 1) g = freshN k now m (fresh1 k now g) := by
  rw [freshN, if_neg (by rw [h]; decide)]
theorem fresh1_len {n k : Nat} {now : Int} {g : Go1} (_ho : Ok n g.s) : (fresh1 k now g).s.ws = g.s.ws ∧ (fresh1 k now g).s.mtu = g.s.mtu := by
  unfold fresh1
  split <;> exact ⟨rfl, rfl⟩
theorem need20 {n : Nat} (h : 1 ≤ n) : 20 ≤ need n := by unfold need; omega
end Go.Snd
