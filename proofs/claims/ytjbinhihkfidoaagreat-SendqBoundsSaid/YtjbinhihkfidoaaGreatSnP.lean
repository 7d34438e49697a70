/- A sender that lost nothing, on one path: what goes next, in plain Lean. No conditions: laws only. -/
import Derived.Test.YtjbinhihkfidoaaGreatBa
namespace Go.Snd
open Go Go.Pth

/-- the lost ones: there are none -/
def NoLost (f : Flt.S) : Prop := ∀ r ∈ f.L, r.lost = false
theorem NoLost.nil {f : Flt.S} (h : NoLost f) : Flt.lostL f = [] := by
  unfold Flt.lostL
  rw [List.map_eq_nil_iff]
  refine List.filter_eq_nil_iff.2 (fun r hr hc => ?_)
  unfold Flt.openR at hc
  rw [h r hr] at hc
  cases hc
theorem again_none {s : S} (h : NoLost s.f) (k : Nat) (now : Int) : again s k now = ⟨s, [], s.mtu - 12⟩ := by
  unfold again
  rw [h.nil]
  rfl
theorem try_none {s : S} (h : NoLost s.f) (now : Int) : ∀ l, trySome (fun s k => some (again s k now)) now l s = (s, none)
  | [] => rfl
  | k :: l => by
    rw [trySome, again_none h k now]
    dsimp only
    rw [if_pos rfl]
    exact try_none h now l
theorem nextW_one {s : S} (h : s.ws.length = 1) (k : Nat) : nextW s k = 0 := by
  have := nextW_lt (s := s) (by omega) k
  omega
theorem next_one {s : S} (h : NoLost s.f) (hw : s.ws.length = 1) (now : Int) : next s now = if (fresh s 0 now).out = [] then ((fresh s 0 now).s, none) else (run (fresh s 0 now).s 0 now, some (0, (fresh s 0 now).out)) := by
  unfold next
  rw [try_none h now]
  dsimp only
  rw [hw, show List.range 1 = [0] from rfl, trySome]
  have hc : (noneActive s || activeW s 0) = true := by
    unfold noneActive
    rw [nextW_one hw]
    cases activeW s 0 <;> rfl
  rw [if_pos hc]
  dsimp only
  split
  · rw [trySome]
  · rfl
/-- a sender of one message, of a config of little packets; so many bytes wait -/
structure Lone (s : S) (n : Nat) : Prop where
  ws : s.ws.length = 1
  mtu : s.mtu = 128
  lives : s.lives = []
  owed : s.owed = []
  fl : ∀ r ∈ s.f.L, r.lost = false ∧ r.acked = false ∧ r.gone = false ∧ r.path = 0
  q : (s.q.L = [] ∧ n = 0) ∨ ∃ x, s.q.L = [x] ∧ Oq.left x = n ∧ 0 < n
theorem Lone.nolost {s : S} {n : Nat} (h : Lone s n) : NoLost s.f := fun r hr => (h.fl r hr).1
theorem Lone.size {s : S} {n : Nat} (h : Lone s n) : Oq.size s.q = n := by
  unfold Oq.size
  rcases h.q with ⟨h1, h2⟩ | ⟨x, h1, h2, _⟩
  · rw [h1]; exact h2.symm
  · rw [h1]; exact h2
theorem Lone.piece {s : S} {n : Nat} (h : Lone s n) : piece s = min n 100 := by
  unfold Snd.piece
  rw [h.size, h.mtu, mn_eq]
  omega
theorem need_le {n : Nat} : 16 ≤ need n ∧ (n ≤ 100 → need n ≤ 116) := by unfold need; omega
def sent (s : S) (x : Oq.It) (k : Nat) (now : Int) : S := { s with q := Oq.nextS s.q x [] (piece s), f := Flt.add s.f (Oq.cutD s.q x (piece s)) k (clock now) x.id, room := mx 0 (s.room - piece s) }
/-- nothing goes, or one piece -/
theorem fresh_one {m : Nat} {s : S} {n : Nat} (ho : Ok m s) (h : Lone s n) (now : Int) :
    (fresh s 0 now = ⟨s, [], 116⟩ ∧ stops s 0 116 = true) ∨ ∃ x, stops s 0 116 = false ∧ s.q.L = [x] ∧ fresh s 0 now = ⟨sent s x 0 now, [{ Oq.cutD s.q x (piece s) with tsn := Flt.newT s.f }], 116 - need (min n 100)⟩ := by
  have hp := h.piece
  have hm : s.mtu - 12 = 116 := by rw [h.mtu]; rfl
  unfold fresh
  rw [hm]
  by_cases hs : stops s 0 116 = true
  · left
    refine ⟨?_, hs⟩
    show freshN 0 now (99 + 1) _ = _
    rw [freshN]
    dsimp only
    rw [if_pos hs]
  · right
    have hs' : stops s 0 116 = false := by simpa using hs
    have hn : n ≠ 0 := fun e => hs (by unfold stops; dsimp only; rw [hp, e]; rfl)
    rcases h.q with ⟨_, h2⟩ | ⟨x, hx, hl, h0⟩
    · exact absurd h2 hn
    refine ⟨x, hs', hx, ?_⟩
    show freshN 0 now (98 + 1 + 1) _ = _
    rw [freshN]
    dsimp only
    rw [if_neg hs]
    have e1 : fresh1 0 now ⟨s, [], 116⟩ = ⟨sent s x 0 now, [{ Oq.cutD s.q x (piece s) with tsn := Flt.newT s.f }], 116 - need (min n 100)⟩ := by
      unfold fresh1 Oq.next
      dsimp only
      rw [hp, if_neg (by omega), hx]
      dsimp only
      unfold sent
      rw [hp]
      simp
    rw [e1, freshN]
    dsimp only
    rw [if_pos]
    unfold stops
    dsimp only
    simp only [Bool.or_eq_true, decide_eq_true_eq]
    by_cases h1 : n < 100
    · left
      have hnil : (sent s x 0 now).q.L = [] := by
        unfold sent Oq.nextS
        dsimp only
        have : Oq.lastB x (piece s) = true := by
          unfold Oq.lastB Oq.endAt
          rw [hp, mn_eq]
          have := ((ho.q.its x (by rw [hx]; exact List.mem_singleton.2 rfl)).1).at_
          unfold Oq.left at hl ⊢
          exact decide_eq_true (by omega)
        rw [this]
        rfl
      unfold Snd.piece Oq.size
      rw [hnil]
      show mn ((0 : Nat) : Int) ((s.mtu - 12 - 16) / 4 * 4) = 0
      rw [h.mtu, mn_eq]
      rfl
    · right; left
      have e2 : min n 100 = 100 := by omega
      rw [e2]
      have := (need_le (n := (Snd.piece (sent s x 0 now)).toNat)).1
      have e3 : need 100 = 116 := rfl
      rw [e3]
      omega
theorem nextS_q {s : S} {x : Oq.It} {n : Nat} (hx : x.Ok) (hL : s.q.L = [x]) (hl : Oq.left x = n) (h0 : 0 < n) (hp : piece s = min n 100) :
    ((Oq.nextS s.q x [] (piece s)).L = [] ∧ n - min n 100 = 0) ∨ ∃ y, (Oq.nextS s.q x [] (piece s)).L = [y] ∧ Oq.left y = n - min n 100 ∧ 0 < n - min n 100 := by
  have hat := hx.at_
  have he : Oq.endAt x (piece s) = x.at_ + min n 100 := by
    unfold Oq.endAt
    rw [hp, mn_eq]
    omega
  unfold Oq.nextS Oq.lastB
  dsimp only
  unfold Oq.left at hl
  split
  · rename_i h
    have h := of_decide_eq_true h
    exact .inl ⟨rfl, by omega⟩
  · rename_i h
    have h : Oq.endAt x (piece s) ≠ x.bs.length := fun e => h (decide_eq_true e)
    refine .inr ⟨_, rfl, ?_, by omega⟩
    unfold Oq.left Oq.cutI
    dsimp only
    omega
/-- what one piece that goes does to the sender and its flight -/
theorem sent_lone {m : Nat} {s : S} {n : Nat} (ho : Ok m s) (h : Lone s n) {x : Oq.It} (hL : s.q.L = [x]) (hs : stops s 0 116 = false) (now : Int) :
    Lone (sent s x 0 now) (n - min n 100) ∧ 0 < n ∧ (Oq.cutD s.q x (piece s)).bs.length = min n 100 ∧ (sent s x 0 now).f = { s.f with L := s.f.L ++ [Flt.newR s.f (Oq.cutD s.q x (piece s)) 0 (clock now) x.id] } := by
  have hp := h.piece
  have hx := (ho.q.its x (by rw [hL]; exact List.mem_singleton.2 rfl)).1
  have hn : n ≠ 0 := fun e => by
    unfold stops at hs
    dsimp only at hs
    rw [hp, e] at hs
    cases hs
  have hl : Oq.left x = n := by have := h.size; unfold Oq.size at this; rw [hL] at this; exact this
  have hlen : (Oq.cutD s.q x (piece s)).bs.length = min n 100 := by
    have := hx.at_
    unfold Oq.cutD Oq.endAt
    dsimp only
    rw [List.length_take, List.length_drop, hp, mn_eq]
    unfold Oq.left at hl ⊢
    omega
  have hf : (sent s x 0 now).f = { s.f with L := s.f.L ++ [Flt.newR s.f (Oq.cutD s.q x (piece s)) 0 (clock now) x.id] } := by
    have hc : ¬ 2048 ≤ s.f.L.length := fun e => by
      unfold stops at hs
      dsimp only at hs
      simp only [Bool.or_eq_false_iff, decide_eq_false_iff_not] at hs
      exact hs.2.2.2.2 e
    have hE : Flt.addE s.f (Oq.cutD s.q x (piece s)) 0 = 0 := by
      unfold Flt.addE
      rw [if_neg, if_neg hc]
      rintro (e | e | e)
      · omega
      · have := ho.paths; have := ho.nws; omega
      · rw [e] at hlen; simp at hlen; omega
    unfold sent Flt.add
    dsimp only
    exact if_pos hE
  refine ⟨⟨h.ws, h.mtu, h.lives, h.owed, ?_, ?_⟩, by omega, hlen, hf⟩
  · rw [hf]
    intro r hr
    rcases List.mem_append.1 hr with hr | hr
    · exact h.fl r hr
    · rw [List.mem_singleton.1 hr]
      exact ⟨rfl, rfl, rfl, rfl⟩
  · exact nextS_q hx hL hl (by omega) hp
theorem run_f (s : S) (k : Nat) (now : Int) : (run s k now).f = s.f ∧ (run s k now).q = s.q ∧ (run s k now).room = s.room ∧ (run s k now).ws.length = s.ws.length := by
  unfold run
  split
  · exact ⟨rfl, rfl, rfl, by simp⟩
  · exact ⟨rfl, rfl, rfl, rfl⟩
theorem Lone.run {s : S} {n : Nat} (h : Lone s n) (k : Nat) (now : Int) : Lone (Snd.run s k now) n := by
  obtain ⟨h1, h2, h3, h4⟩ := run_f s k now
  refine ⟨by rw [h4]; exact h.ws, ?_, ?_, ?_, by rw [h1]; exact h.fl, by rw [h2]; exact h.q⟩
  all_goals
    unfold Snd.run
    split
    · first | exact h.mtu | exact h.lives | exact h.owed
    · first | exact h.mtu | exact h.lives | exact h.owed
/-- what 'Next' does to such a sender -/
inductive Goes (s : S) (n : Nat) : S × Option (Nat × List Flt.Dt) → Prop
  | none : stops s 0 116 = true → Goes s n (s, none)
  | one (s' : S) (d : Flt.Dt) : stops s 0 116 = false → 0 < n → Lone s' (n - min n 100) → (∃ r, s'.f = { s.f with L := s.f.L ++ [r] } ∧ r.bs = d.bs) → d.tsn = Flt.newT s.f → d.bs.length = min n 100 → s'.room = mx 0 (s.room - min n 100) → Goes s n (s', some (0, [d]))
theorem Lone.next {m : Nat} {s : S} {n : Nat} (ho : Ok m s) (h : Lone s n) (now : Int) : Goes s n (Snd.next s now) := by
  rw [next_one h.nolost h.ws now]
  rcases fresh_one ho h now with ⟨h1, h2⟩ | ⟨x, h1, h2, h3⟩
  · rw [h1, if_pos rfl]
    exact .none h2
  · obtain ⟨k1, k2, k3, k4⟩ := sent_lone ho h h2 h1 now
    obtain ⟨r1, r2, r3, r4⟩ := run_f (sent s x 0 now) 0 now
    rw [h3, if_neg (by simp)]
    refine .one _ _ h1 k2 (k1.run 0 now) ⟨_, r1.trans k4, rfl⟩ rfl k3 ?_
    rw [r3, ← h.piece]
    rfl
end Go.Snd
