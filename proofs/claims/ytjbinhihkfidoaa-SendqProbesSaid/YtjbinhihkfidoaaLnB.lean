/- A sender of one message beside a line that takes all that comes: each answer lets all go that went, in plain Lean. No conditions: laws only. -/
import Derived.Test.YtjbinhihkfidoaaLnA
import Derived.Test.YtjbinhihkfidoaaSnQ
namespace Go.Snd
open Go Go.Pth

structure Mid (m : Nat) (s : S) (x : Ln) (n : Nat) : Prop where
  ok : Ok m s
  lone : Lone s n
  cum : x.cum = x.seen.length
  all : ∀ d ∈ x.seen, d.bs ≠ []
  len : s.f.L.length ≤ x.seen.length
  c : s.f.c = Spn.u32 (x.first - 1 + ((x.seen.length - s.f.L.length : Nat) : Int))
  sum : x.seen.length + n ≤ 3200
theorem newT_far {first c : Int} {a k : Nat} (hc : c = Spn.u32 (first - 1 + (a : Int))) (hk : a + k ≤ 4096) : placeOf first (Spn.u32 (Spn.u32 (c + 1) + Spn.u32 k)) = a + k := by
  subst hc
  unfold placeOf
  simp only [Spn.u32_eq]
  omega
theorem adv_all {seen : List Flt.Dt} (h : ∀ d ∈ seen, d.bs ≠ []) {c : Nat} (hc : c ≤ seen.length) : adv seen c = seen.length := by
  unfold adv
  have e : ∀ l : List Flt.Dt, (∀ d ∈ l, d.bs ≠ []) → l.takeWhile isB = l := fun l => by
    induction l with
    | nil => intro _; rfl
    | cons d l ih =>
      intro hl
      rw [List.takeWhile_cons, show isB d = true from decide_eq_true (hl d List.mem_cons_self), if_pos rfl, ih (fun q hq => hl q (List.mem_cons_of_mem _ hq))]
  rw [e _ (fun d hd => h d (List.mem_of_mem_drop hd)), List.length_drop]
  omega
theorem put1_new {first : Int} {seen : List Flt.Dt} {d : Flt.Dt} (hk : placeOf first d.tsn = seen.length) (h1 : seen.length ≤ 4096) (hd : d.bs ≠ []) : put1 first seen d = some (seen ++ [d]) := by
  have hg : grow seen seen.length = seen ++ [dtZ] := by unfold grow; rw [show seen.length + 1 - seen.length = 1 by omega]; rfl
  unfold put1
  dsimp only
  rw [hk, if_neg (by rintro (h | h); omega; exact hd h), hg]
  have e : (seen ++ [dtZ])[seen.length]? = some dtZ := by rw [List.getElem?_append_right (by omega)]; simp
  rw [e]
  dsimp only
  rw [if_neg (by rintro ⟨h, _⟩; cases h)]
  rw [List.set_append_right _ _ (by omega)]
  simp
/-- one piece goes and comes -/
theorem Mid.step {m : Nat} {s : S} {x : Ln} {n : Nat} (h : Mid m s x n) (now : Int) {s' : S} {l : List Flt.Dt} {k : Nat} (hn : next s now = (s', some (k, l))) :
    ∃ d x', l = [d] ∧ k = 0 ∧ x.take l = some x' ∧ Mid m s' x' (n - min n 100) ∧ 0 < n ∧ x'.first = x.first ∧ s'.room = mx 0 (s.room - min n 100) ∧ x'.seen = x.seen ++ [d] ∧ (0 ≤ d.tsn ∧ d.tsn < 4294967296) ∧ s'.f.L ≠ [] := by
  have hg := h.lone.next h.ok now
  have ho := next_ok h.ok now
  rw [hn] at hg ho
  dsimp only at ho
  cases hg with
  | one s' d hs h0 hl hf ht hb hr =>
    obtain ⟨r, hf, hrb⟩ := hf
    have hsum := h.sum
    have hlen := h.len
    have hk : placeOf x.first d.tsn = x.seen.length := by
      rw [ht]
      unfold Flt.newT
      rw [newT_far h.c (by omega)]
      omega
    have hd : d.bs ≠ [] := fun e => by rw [e] at hb; simp at hb; omega
    have ha : ∀ q ∈ x.seen ++ [d], q.bs ≠ [] := fun q hq => by
      rcases List.mem_append.1 hq with hq | hq
      · exact h.all q hq
      · rw [List.mem_singleton.1 hq]; exact hd
    have hput : putL x.first x.seen [d] = some (x.seen ++ [d]) := by
      rw [putL, put1_new hk (by omega) hd]
      rfl
    refine ⟨d, { x with seen := x.seen ++ [d], cum := x.seen.length + 1 }, rfl, rfl, ?_, ⟨ho, hl, ?_, ha, ?_, ?_, ?_⟩, h0, rfl, hr, rfl, by rw [ht]; exact Flt.u32_mod _, by rw [hf]; simp⟩
    · unfold Ln.take
      rw [hput]
      dsimp only
      rw [adv_all ha (by rw [h.cum]; simp)]
      simp
    · simp
    · rw [hf]; simp; omega
    · rw [hf]
      dsimp only
      rw [h.c]
      congr 2
      simp
    · simp only [List.length_append, List.length_singleton]
      omega
theorem Mid.none {m : Nat} {s : S} {x : Ln} {n : Nat} (h : Mid m s x n) (now : Int) {s' : S} (hn : next s now = (s', none)) : s' = s ∧ stops s 0 116 = true := by
  have hg := h.lone.next h.ok now
  rw [hn] at hg
  cases hg with
  | none hs => exact ⟨rfl, hs⟩
theorem gaps_none {x : Ln} (h : x.cum = x.seen.length) : x.gaps = [] := by
  unfold Ln.gaps
  rw [h]
  cases hs : x.seen.length with
  | zero => rfl
  | succ n =>
    rw [gaps, if_neg]
    rintro ⟨h1, _⟩
    omega
theorem far_all {c y first : Int} {a l : Nat} (hc : c = Spn.u32 (first - 1 + (a : Int))) (hy : y = Spn.u32 (first - 1 + ((a + l : Nat) : Int))) (hl : l ≤ 2048) : Spn.far c y = l := by
  subst hc hy
  unfold Spn.far
  simp only [Spn.u32_eq]
  omega
/-- all that went is acknowledged -/
theorem sack_all {f : Flt.S} (hf : FOk f) {first : Int} {a : Nat} (hc : f.c = Spn.u32 (first - 1 + (a : Int))) : ∃ f' t, Flt.sack f (Spn.u32 (first - 1 + ((a + f.L.length : Nat) : Int))) [] = some (f', t) ∧ f'.L = [] := by
  have hfew := hf.g.few
  have hfar := far_all hc (y := Spn.u32 (first - 1 + ((a + f.L.length : Nat) : Int))) rfl hfew
  have hsp : ∃ sp, Flt.span f (Spn.u32 (first - 1 + ((a + f.L.length : Nat) : Int))) [] = some sp := by
    unfold Flt.span
    rw [if_neg]
    · exact ⟨_, if_pos rfl⟩
    · rintro ⟨h1, h2⟩
      unfold Flt.atI at h2
      rw [hfar] at h2
      by_cases h0 : 0 < f.L.length
      · rw [if_pos ⟨h0, Nat.le_refl _⟩] at h2
        cases h2
      · exact h1 (by rw [hc, show f.L.length = 0 by omega]; rfl)
  obtain ⟨sp, hsp⟩ := hsp
  cases hs : Flt.sack f (Spn.u32 (first - 1 + ((a + f.L.length : Nat) : Int))) [] with
  | none => unfold Flt.sack at hs; rw [hsp] at hs; cases hs
  | some r =>
    obtain ⟨f', t⟩ := r
    obtain ⟨M, hM, rfl, _⟩ := Flt.sack_L hs
    refine ⟨_, t, rfl, ?_⟩
    have := congrArg List.length hM
    simp only [List.length_map] at this
    dsimp only
    rw [hfar, ← this]
    exact List.drop_length
theorem layN_nil (now : Int) {s : S} (h : s.owed = []) : lay s now = s := by
  unfold lay
  rw [h]
  rfl
theorem roomOf_zero {s : S} (h : 0 ≤ s.room) (whole : Bool) : roomOf s 0 whole = 0 := by
  have ho : (0 : Int) ≤ (Flt.openB s.f : Int) := by omega
  have e : mx 0 (mn 0 1048576 - (Flt.openB s.f : Int)) = 0 := by rw [mx_eq, mn_eq]; omega
  unfold roomOf
  dsimp only
  rw [e]
  split
  · rfl
  · rw [mn_eq]; omega
theorem sack_room {s s' : S} {y rwnd now : Int} {gs : List (Nat × Nat)} (ho : s.owed = []) (h : sack s y rwnd gs now = some s') : ∃ s1 w, s1.room = s.room ∧ s'.room = roomOf s1 rwnd w := by
  unfold sack at h
  split at h
  · cases h
  · dsimp only at h
    rw [layN_nil now (by exact ho)] at h
    have h := Option.some.inj h
    refine ⟨_, _, ?_, (congrArg S.room h).symm⟩
    rfl
theorem Mid.answer {m : Nat} {s : S} {x : Ln} {n : Nat} (h : Mid m s x n) (rwnd now : Int) :
    ∃ s', Snd.answer s x rwnd now = some s' ∧ Mid m s' x n ∧ s'.f.L = [] ∧ (rwnd = 0 → s'.room = 0) := by
  have hlen := h.len
  have hy : x.y = Spn.u32 (x.first - 1 + (((x.seen.length - s.f.L.length) + s.f.L.length : Nat) : Int)) := by
    unfold Ln.y
    rw [h.cum, show x.seen.length - s.f.L.length + s.f.L.length = x.seen.length by omega]
    simp only [Spn.u32_eq]
    omega
  obtain ⟨f', t, hs, hL⟩ := sack_all h.ok.f h.c
  rw [← hy] at hs
  have hy2 : 0 ≤ x.y ∧ x.y < 4294967296 := Flt.u32_mod _
  have hc' := (h.ok.f.sack hy2 hs).2.2.2.2
  obtain ⟨s', he⟩ : ∃ s', Snd.answer s x rwnd now = some s' := by
    unfold Snd.answer sack
    rw [gaps_none h.cum, hs]
    exact ⟨_, rfl⟩
  have hok : Ok m s' := by
    unfold Snd.answer at he
    exact sack_ok h.ok hy2 he
  have hroom := sack_room (by exact h.lone.owed) (show sack s x.y rwnd x.gaps now = some s' from he)
  refine ⟨s', he, ?_⟩
  unfold Snd.answer sack at he
  rw [gaps_none h.cum, hs] at he
  dsimp only at he
  rw [layN_nil now (by exact h.lone.owed)] at he
  have he := Option.some.inj he
  have hf' : s'.f = f' := by rw [← he]; rfl
  have hq : s'.q.L = s.q.L := by rw [← he]; rfl
  refine ⟨⟨hok, ⟨?_, ?_, ?_, ?_, ?_, ?_⟩, h.cum, h.all, ?_, ?_, h.sum⟩, by rw [hf']; exact hL, fun hr => ?_⟩
  · rw [← he]; simp only [restAll, hearAll, List.length_mapIdx]; exact h.lone.ws
  · rw [← he]; exact h.lone.mtu
  · rw [← he]; exact h.lone.lives
  · rw [← he]; exact h.lone.owed
  · rw [hf', hL]; simp
  · rw [hq]; exact h.lone.q
  · rw [hf', hL]; simp
  · rw [hf', hL, hc', hy]
    congr 3
    simp only [List.length_nil]
    omega
  · obtain ⟨s1, w, h1, h2⟩ := hroom
    rw [h2, hr]
    exact roomOf_zero (by rw [h1]; exact h.ok.room.1) _
/-- from a clean one something goes -/
theorem Mid.goes {m : Nat} {s : S} {x : Ln} {n : Nat} (h : Mid m s x n) (hL : s.f.L = []) (h0 : 0 < n) : stops s 0 116 = false := by
  have hp := h.lone.piece
  have hw := h.lone.ws
  obtain ⟨w, hw⟩ := List.length_eq_one_iff.1 hw
  have hsz := (h.ok.ws w (by rw [hw]; exact List.mem_singleton.2 rfl)).p.w
  have h1 := hsz.size; have h2 := hsz.mtu
  have hout : ∀ k : Int, Flt.out s.f k = 0 := fun k => by unfold Flt.out; rw [hL]; rfl
  have hm : mayW s 0 = true := by
    unfold mayW sizeW
    rw [hout, hw]
    exact decide_eq_true (by dsimp only [List.getElem?_cons_zero]; omega)
  have haw : away s = 0 := by
    unfold away
    rw [hw]
    show (List.map _ [0]).sum = 0
    simp [hout]
  have hn := (need_le (n := min n 100)).2 (by omega)
  unfold stops
  dsimp only
  rw [hp, hm, haw, hL]
  simp only [Int.toNat_natCast, Bool.or_eq_false_iff, decide_eq_false_iff_not]
  refine ⟨by omega, by omega, rfl, ?_, ?_⟩
  · simp
  · simp
/-- at a room of nothing no more than one goes -/
theorem Mid.still {m : Nat} {s : S} {x : Ln} {n : Nat} (h : Mid m s x n) (hr : s.room = 0) (hL : s.f.L ≠ []) : stops s 0 116 = true := by
  have hp := h.lone.piece
  have hw := h.lone.ws
  have haw : n ≠ 0 → 0 < away s := fun _ => by
    unfold away
    rw [hw]
    show 0 < (List.map _ [0]).sum
    simp only [List.map_cons, List.map_nil, List.sum_cons, List.sum_nil]
    obtain ⟨r, l, hl⟩ : ∃ r l, s.f.L = r :: l := by
      cases hl : s.f.L with
      | nil => exact absurd hl hL
      | cons r l => exact ⟨r, l, rfl⟩
    have hb := h.ok.f.g.bs 0 r (by rw [hl]; rfl)
    have hfl := h.lone.fl r (by rw [hl]; exact List.mem_cons_self)
    have hlen : 0 < r.bs.length := List.length_pos_iff.2 hb
    show 0 < Flt.out s.f 0 + 0
    unfold Flt.out Flt.sumB
    rw [hl, List.filter_cons, if_pos]
    · rw [List.map_cons, List.sum_cons]; omega
    · unfold Flt.byP Flt.away
      rw [hfl.1, hfl.2.1, hfl.2.2.1, hfl.2.2.2]
      rfl
  unfold stops
  dsimp only
  rw [hp, hr]
  by_cases hn : n = 0
  · simp [hn]
  · have := haw hn
    simp only [Bool.or_eq_true, decide_eq_true_eq, Bool.and_eq_true]
    right; right; right; left
    exact ⟨by omega, this⟩
theorem Lone.empty {s : S} {n : Nat} (h : Lone s n) (hL : s.f.L = []) : Snd.empty s = decide (n = 0) := by
  unfold Snd.empty Oq.waiting
  rw [h.owed, hL]
  rcases h.q with ⟨h1, h2⟩ | ⟨x, h1, h2, h3⟩
  · rw [h1, h2]; rfl
  · rw [h1, List.map_cons, h2]
    simp
/-- the sender of the statement's beginning -/
theorem Mid.start {p : Pth.S} (hp : Pth.Ok p) (first : Int) {n : Nat} (hn : 200 ≤ n ∧ n ≤ 3199) (ord : Bool) :
    putE (newS 1 2 65536 128 p first 4000) 0 n 0 0 = 0 ∧ Mid 1 (put (newS 1 2 65536 128 p first 4000) 0 ord (List.replicate n 0) 0 0) ⟨[], first, 0⟩ n ∧ (put (newS 1 2 65536 128 p first 4000) 0 ord (List.replicate n 0) 0 0).f.L = [] := by
  have hE : putE (newS 1 2 65536 128 p first 4000) 0 n 0 0 = 0 := by
    have hr : (newS 1 2 65536 128 p first 4000).first = 4000 := by show roomR 4000 = 4000; decide
    unfold putE
    rw [if_neg (by omega), hr, if_neg (by omega)]
    unfold Oq.putE
    have h1 : (newS 1 2 65536 128 p first 4000).q = ⟨[], 0, 65536, 0, [0, 0]⟩ := rfl
    have h2 : untilOf 0 0 = 0 := by unfold untilOf; rw [if_neg (by omega)]
    rw [h1, h2]
    dsimp only [List.length_cons, List.length_nil]
    rw [if_neg (by omega), if_neg (by omega), if_neg (by omega), if_neg (by omega)]
  have hnew := newS_ok (first := first) (rwnd := 4000) (by omega : (1 : Int) ≤ 1 ∧ (1 : Int) ≤ 4) (show Oq.may 2 65536 = true by decide) (by omega : (128 : Int) ≤ 128 ∧ (128 : Int) ≤ 1500) hp (by omega)
  have hok := put_ok hnew (by omega : (0 : Int) ≤ 0) ord (List.replicate n 0) 0 0
  have hput : put (newS 1 2 65536 128 p first 4000) 0 ord (List.replicate n 0) 0 0 = { newS 1 2 65536 128 p first 4000 with q := Oq.put (newS 1 2 65536 128 p first 4000).q 0 ord (List.replicate n 0) 0 } := by
    have h2 : untilOf 0 0 = 0 := by unfold untilOf; rw [if_neg (by omega)]
    unfold put
    rw [List.length_replicate, if_pos hE, h2, if_neg (by omega)]
  have hqL : (Oq.put (newS 1 2 65536 128 p first 4000).q 0 ord (List.replicate n 0) 0).L = [⟨0, ord, List.replicate n 0, 0, 0, 0, 0⟩] := by
    unfold Oq.put
    rw [if_pos]
    · rfl
    · unfold putE at hE
      rw [if_neg (by omega)] at hE
      split at hE
      · omega
      · have h2 : untilOf 0 0 = 0 := by unfold untilOf; rw [if_neg (by omega)]
        rw [h2] at hE
        rw [List.length_replicate]
        exact hE
  refine ⟨hE, ⟨hok, ?_, rfl, by simp, ?_, ?_, ?_⟩, ?_⟩
  · rw [hput]
    refine ⟨by simp [newS], rfl, rfl, rfl, by simp [newS], .inr ⟨_, hqL, ?_, by omega⟩⟩
    unfold Oq.left
    simp
  · rw [hput]; simp [newS]
  · rw [hput]
    show Spn.u32 (first - 1) = _
    simp [newS]
  · simp; omega
  · rw [hput]; rfl
end Go.Snd
