/- A turn of the law SendqBounds, in plain Lean. No conditions: laws only. -/
import Derived.Test.YtjbinhihkfidoaaGreatBnB
import Derived.Test.YtjbinhihkfidoaaGreatSnZ
namespace Go.Snd
open Go Go.Pth

theorem layN_mtu (now : Int) : ∀ (n : Nat) (s : S), (layN now n s).mtu = s.mtu
  | 0, _ => rfl
  | n + 1, s => by
    rw [layN]
    split
    · rfl
    · split
      · rw [layN_mtu now n]
      · rfl
theorem lay_mtu (s : S) (now : Int) : (lay s now).mtu = s.mtu := layN_mtu now _ s
theorem sack_mtu {s s' : S} {y rwnd now : Int} {gs : List (Nat × Nat)} (h : sack s y rwnd gs now = some s') : s'.mtu = s.mtu := by
  unfold sack at h
  split at h
  · cases h
  · rw [← Option.some.inj h]
    exact lay_mtu _ now
theorem expire_mtu (s : S) (now : Int) : (expire s now).mtu = s.mtu := by
  have h1 : (expire1 s (clock now)).mtu = s.mtu := by unfold expire1; dsimp only; split <;> rfl
  exact (lay_mtu (expire2 (expire1 s (clock now)) (clock now)) now).trans h1
theorem late1_mtu (now : Int) (g : Late) (k : Nat) : (late1 now g k).s.mtu = g.s.mtu := by
  unfold late1
  split
  · rfl
  · split <;> rfl
theorem lateF_mtu (now : Int) : ∀ (l : List Nat) (g : Late), (l.foldl (late1 now) g).s.mtu = g.s.mtu
  | [], _ => rfl
  | k :: l, g => (lateF_mtu now l _).trans (late1_mtu now g k)
theorem timeout_mtu (s : S) (now : Int) : (timeout s now).s.mtu = s.mtu := lateF_mtu _ _ _
theorem put_mtu (s : S) (stream : Int) (ord : Bool) (bs : List UInt8) (lasts now : Int) : (put s stream ord bs lasts now).mtu = s.mtu := by unfold put; split <;> rfl
theorem forward_mtu (s : S) (now : Int) : (forward s now).1.mtu = s.mtu := by
  unfold forward
  split
  · rfl
  · split <;> rfl
theorem beaten_mtu (s : S) (k sent now : Int) : (beaten s k sent now).mtu = s.mtu := by
  unfold beaten
  split
  · rfl
  · split <;> rfl
theorem run_mtu (s : S) (k : Nat) (now : Int) : (run s k now).mtu = s.mtu := by unfold run; split <;> rfl
theorem next_mtu {n : Nat} {s s' : S} (h : Ok n s) {now : Int} {k : Nat} {o : List Flt.Dt} (hn : next s now = (s', some (k, o))) : s'.mtu = s.mtu := by
  obtain ⟨s0, g, ⟨_, a'⟩, _, c, _, _, e⟩ := next_some h hn
  obtain ⟨s0', g', ⟨a, _⟩, _, _, _, _, _⟩ := next_some h hn
  rw [e, run_mtu]
  rcases c with rfl | rfl
  · rename_i a0 _
    exact ((again_pc (by assumption) k now).mtu).trans a'
  · exact ((fresh_pc (by assumption) k now).mtu).trans a'
/-- where a sender stands -/
structure Bi (N : Nat) (s : S) (last : Int) : Prop where
  ok : Ok N s
  mtu : s.mtu = 128
  gi : ∃ b, Gi N s b ∧ last = Spn.u32 (s.f.c + b)
theorem Bi.same {N : Nat} {s s' : S} {last : Int} (h : Bi N s last) (ho : Ok (N + 1) s') (hm : s'.mtu = s.mtu) (hf : GoneLe s.f s'.f) : Bi (N + 1) s' last := by
  obtain ⟨b, hg, hl⟩ := h.gi
  exact ⟨ho, hm.trans h.mtu, b, hf.gi hg, by rw [hf.c]; exact hl⟩
theorem Bi.hears {N : Nat} {s s' : S} {last : Int} (h : Bi N s last) {y rwnd now : Int} {gs : List (Nat × Nat)} (hy : 0 ≤ y ∧ y < 4294967296) (hs : sack s y rwnd gs now = some s') : Bi (N + 1) s' last := by
  obtain ⟨b, hg, hl⟩ := h.gi
  obtain ⟨b', h1, h2⟩ := hg.sack h.ok hy hs
  exact ⟨(sack_ok h.ok hy hs).up (Nat.le_succ N), (sack_mtu hs).trans h.mtu, b', h1, by rw [h2]; exact hl⟩
/-- what the law asks of a packet -/
structure Sent (s s' : S) (last last' : Int) (k : Nat) (l : List Flt.Dt) : Prop where
  k4 : k < s.ws.length ∧ s.ws.length ≤ 4
  ne : l ≠ []
  few : l.length ≤ 75
  small : ∀ d ∈ l, d.bs.length ≤ 1500
  size : 12 + needS l ≤ 128
  may : (Flt.out s.f k : Int) < sizeW s k
  may' : (Flt.out s'.f k : Int) < sizeW s' k + 128
  len : s'.ws.length = s.ws.length
  room : (scan last l).2 > s.room → away s = 0 ∧ l.length = 1
  last : (scan last l).1 = last'
theorem Bi.sends {N : Nat} {s s' : S} {last : Int} (h : Bi N s last) (hN : N ≤ 200) {now : Int} {k : Nat} {o : List Flt.Dt} (hn : next s now = (s', some (k, o))) :
    Bi (N + 1) s' (scan last o).1 ∧ Sent s s' last (scan last o).1 k o := by
  obtain ⟨b, hg, hl⟩ := h.gi
  obtain ⟨⟨h1, h2, h3⟩, h4, b', h5, h6⟩ := hg.next hN h.ok hn
  obtain ⟨a1, a2, a3, a4, a5⟩ := next_pc h.ok hn
  rw [← hl] at h4 h6
  have hm := h.mtu
  have hok := next_ok h.ok now
  rw [hn] at hok
  have hlen : s'.ws.length = s.ws.length := by
    obtain ⟨g, _, hg2, _, _, hs'⟩ := next_how hn
    rw [hs', (run_f g.s k now).2.2.2]
    rcases hg2 with rfl | rfl
    · rw [(again_b h.ok.f.g k now).ws]
    · rw [(fresh_b h.ok a1 now).ws]
  exact ⟨⟨hok.up (Nat.le_succ N), (next_mtu h.ok hn).trans hm, b', h5, h6⟩, ⟨a1, h.ok.nws.2⟩, a2, a5, fun d hd => (a3 d hd).2.2, by rw [hm] at a4; omega, h1, by rw [hm] at h2; exact h2, hlen, h4, rfl⟩
/-- a turn -/
theorem Bi.turn {N : Nat} {s : S} {last : Int} (h : Bi N s last) (hN : N ≤ 200) (o : Dg) (ho : 0 ≤ o.stream) (cum now : Int) :
    (¬ (o.kind = 4 ∧ (did s o cum now).is_ = true) → Bi (N + 1) (did s o cum now).s last) ∧
    (o.kind = 4 → (did s o cum now).is_ = true → ∃ k : Nat, (did s o cum now).a = k ∧ Bi (N + 1) (did s o cum now).s (scan last (did s o cum now).l).1 ∧ Sent s (did s o cum now).s last (scan last (did s o cum now).l).1 k (did s o cum now).l) := by
  have hok := did_ok h.ok o ho cum now
  by_cases hk : o.kind = 4
  · have hd : Snd.did s o cum now = (match next s now with | (s', none) => Dn.of s' | (s', some (k, l)) => { Dn.of s' with a := k, l := l, is_ := true }) := by
      unfold Snd.did
      rw [if_neg (by omega), if_neg (by omega), if_neg (by omega), if_neg (by omega), if_pos hk]
      rfl
    rw [hd] at hok ⊢
    cases hn : next s now with
    | mk s' r =>
    rw [hn] at hok
    cases r with
    | none =>
      have := next_quiet hn
      subst this
      exact ⟨fun _ => h.same hok rfl (GoneLe.refl _), fun _ he => by cases he⟩
    | some r =>
      obtain ⟨k, l⟩ := r
      exact ⟨fun he => absurd ⟨hk, rfl⟩ he, fun _ _ => ⟨k, rfl, h.sends hN hn⟩⟩
  · refine ⟨fun _ => ?_, fun e => absurd e hk⟩
    unfold Snd.did at hok ⊢
    split at hok <;> rename_i k0
    · rw [if_pos k0]; exact h.same hok (put_mtu _ _ _ _ _ _) (by show GoneLe s.f (put s _ _ _ _ _).f; rw [put_f]; exact GoneLe.refl _)
    rw [if_neg k0]
    split at hok <;> rename_i k1
    · rw [if_pos k1]
      cases hs : sack s (Spn.u32 (cum + o.by_)) o.rwnd o.gs now with
      | none => rw [hs] at hok; exact h.same hok rfl (GoneLe.refl _)
      | some s' => exact h.hears (Flt.u32_mod _) hs
    rw [if_neg k1]
    split at hok <;> rename_i k2
    · rw [if_pos k2]; exact h.same hok (expire_mtu s now) (expire_gone s now)
    rw [if_neg k2]
    split at hok <;> rename_i k3
    · rw [if_pos k3]; exact h.same hok (timeout_mtu s now) (timeout_gone s now)
    rw [if_neg k3, if_neg hk]
    split at hok <;> rename_i k5
    · rw [if_pos k5]
      have hf := forward_f s now
      have hm := forward_mtu s now
      cases hr : forward s now with
      | mk s' r =>
      rw [hr] at hok hf hm
      dsimp only at hf hm
      have hg : GoneLe s.f s'.f := by rw [hf]; exact GoneLe.refl _
      cases r with
      | none => exact h.same hok hm hg
      | some r => exact h.same hok hm hg
    rw [if_neg k5]
    split at hok <;> rename_i k6
    · rw [if_pos k6]; exact h.same hok rfl (GoneLe.refl _)
    rw [if_neg k6]
    split at hok <;> rename_i k7
    · rw [if_pos k7]; exact h.same hok (beaten_mtu _ _ _ _) (by show GoneLe s.f (beaten s _ _ _).f; rw [beaten_f]; exact GoneLe.refl _)
    rw [if_neg k7]
    exact h.same hok rfl (GoneLe.refl _)
/-- the law's own reckoning of what is away -/
theorem away_path {s : S} (h : away s = 0) (k : Int) : (pathA s k).1 = 0 := by
  unfold pathA
  split
  · rfl
  · rename_i hk
    cases hw : s.ws[k.toNat]? with
    | none => rfl
    | some w =>
      have hl := (List.getElem?_eq_some_iff.1 hw).1
      have hm : Flt.out s.f (k.toNat : Nat) ∈ (List.range s.ws.length).map (fun k : Nat => Flt.out s.f k) := List.mem_map.2 ⟨k.toNat, List.mem_range.2 hl, rfl⟩
      have hs : ((List.range s.ws.length).map (fun k : Nat => Flt.out s.f k)).sum = 0 := h
      have hz : ∀ {l : List Nat}, l.sum = 0 → ∀ x ∈ l, x = 0 := fun {l} h x hx => by
        induction l with
        | nil => cases hx
        | cons a l ih =>
          rw [List.sum_cons] at h
          rcases List.mem_cons.1 hx with rfl | hx
          · omega
          · exact ih (by omega) hx
      have := hz hs _ hm
      dsimp only
      rw [show k = (k.toNat : Int) by omega]
      rw [this]
      rfl
theorem path_out {s : S} {k : Nat} (hk : k < s.ws.length) : (pathA s k).1 = Flt.out s.f k ∧ (pathA s k).2.1 = sizeW s k := by
  unfold pathA sizeW
  rw [if_neg (by omega), Int.toNat_natCast, List.getElem?_eq_getElem hk]
  exact ⟨rfl, rfl⟩
end Go.Snd
