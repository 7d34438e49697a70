/- Some texts as one. A sender that lost nothing, on one path: what goes next, in plain Lean. No conditions: laws only. What is between a sender and one who takes all that comes, in plain Lean: what the statements' own 'line' does. No conditions: definitions and laws. A sender's beginning, and its paths turned one by one, in plain Lean. No conditions: definitions and laws. A sender of one message beside a line that takes all that comes: each answer lets all go that went, in plain Lean. No conditions: laws only. What goes from a sender, step by step, in plain Lean. No conditions: laws only. What goes out of a sender, in plain Lean: each piece has a TSN within range, and bytes. No conditions: laws only. What is forwarded over: the skips of streams, in plain Lean. No conditions: laws only. What goes out of a sender keeps to the paths' sizes and the peer's room, in plain Lean. No conditions: laws only. Which of a sender's pieces are new ones, in plain Lean: the last TSN that went, whatever is done. No conditions: laws only. -/
import Derived.Test.YtjfpckadjnjmoaaGreatBa
namespace Go.Snd
open Go Go.Pth

/-- the lost ones: there are none -/
def NoLost (f : Flt.S) : Prop := ∀ r ∈ f.L, r.lost = false
theorem NoLost.nil {f : Flt.S} (h : NoLost f) : Flt.lostL f = [] := by
  unfold Flt.lostL
  rw [List.map_eq_nil_iff]
  refine List.filter_eq_nil_iff.2 (fun r hr hc => ?_)
  unfold Flt.openR at hc
  rw [h r hr] at hc
  cases hc
theorem again_none {s : S} (h : NoLost s.f) (k : Nat) (now : Int) : again s k now = ⟨s, [], s.mtu - 12⟩ := by
  unfold again
  rw [h.nil]
  rfl
theorem try_none {s : S} (h : NoLost s.f) (now : Int) : ∀ l, trySome (fun s k => some (again s k now)) now l s = (s, none)
  | [] => rfl
  | k :: l => by
    rw [trySome, again_none h k now]
    dsimp only
    rw [if_pos rfl]
    exact try_none h now l
theorem nextW_one {s : S} (h : s.ws.length = 1) (k : Nat) : nextW s k = 0 := by
  have := nextW_lt (s := s) (by omega) k
  omega
theorem next_one {s : S} (h : NoLost s.f) (hw : s.ws.length = 1) (now : Int) : next s now = if (fresh s 0 now).out = [] then ((fresh s 0 now).s, none) else (run (fresh s 0 now).s 0 now, some (0, (fresh s 0 now).out)) := by
  unfold next
  rw [try_none h now]
  dsimp only
  rw [hw, show List.range 1 = [0] from rfl, trySome]
  have hc : (noneActive s || activeW s 0) = true := by
    unfold noneActive
    rw [nextW_one hw]
    cases activeW s 0 <;> rfl
  rw [if_pos hc]
  dsimp only
  split
  · rw [trySome]
  · rfl
/-- a sender of one message, of a config of little packets; so many bytes wait -/
structure Lone (s : S) (n : Nat) : Prop where
  ws : s.ws.length = 1
  mtu : s.mtu = 128
  lives : s.lives = []
  owed : s.owed = []
  fl : ∀ r ∈ s.f.L, r.lost = false ∧ r.acked = false ∧ r.gone = false ∧ r.path = 0
  q : (s.q.L = [] ∧ n = 0) ∨ ∃ x, s.q.L = [x] ∧ Oq.left x = n ∧ 0 < n
theorem Lone.nolost {s : S} {n : Nat} (h : Lone s n) : NoLost s.f := fun r hr => (h.fl r hr).1
theorem Lone.size {s : S} {n : Nat} (h : Lone s n) : Oq.size s.q = n := by
  unfold Oq.size
  rcases h.q with ⟨h1, h2⟩ | ⟨x, h1, h2, _⟩
  · rw [h1]; exact h2.symm
  · rw [h1]; exact h2
theorem Lone.piece {s : S} {n : Nat} (h : Lone s n) : piece s = min n 100 := by
  unfold Snd.piece
  rw [h.size, h.mtu, mn_eq]
  omega
theorem need_le {n : Nat} : 16 ≤ need n ∧ (n ≤ 100 → need n ≤ 116) := by unfold need; omega
def sent (s : S) (x : Oq.It) (k : Nat) (now : Int) : S := { s with q := Oq.nextS s.q x [] (piece s), f := Flt.add s.f (Oq.cutD s.q x (piece s)) k (clock now) x.id, room := mx 0 (s.room - piece s) }
/-- nothing goes, or one piece -/
theorem fresh_one {m : Nat} {s : S} {n : Nat} (ho : Ok m s) (h : Lone s n) (now : Int) :
    (fresh s 0 now = ⟨s, [], 116⟩ ∧ stops s 0 116 = true) ∨ ∃ x, stops s 0 116 = false ∧ s.q.L = [x] ∧ fresh s 0 now = ⟨sent s x 0 now, [{ Oq.cutD s.q x (piece s) with tsn := Flt.newT s.f }], 116 - need (min n 100)⟩ := by
  have hp := h.piece
  have hm : s.mtu - 12 = 116 := by rw [h.mtu]; rfl
  unfold fresh
  rw [hm]
  by_cases hs : stops s 0 116 = true
  · left
    refine ⟨?_, hs⟩
    show freshN 0 now (99 + 1) _ = _
    rw [freshN]
    dsimp only
    rw [if_pos hs]
  · right
    have hs' : stops s 0 116 = false := by simpa using hs
    have hn : n ≠ 0 := fun e => hs (by unfold stops; dsimp only; rw [hp, e]; rfl)
    rcases h.q with ⟨_, h2⟩ | ⟨x, hx, hl, h0⟩
    · exact absurd h2 hn
    refine ⟨x, hs', hx, ?_⟩
    show freshN 0 now (98 + 1 + 1) _ = _
    rw [freshN]
    dsimp only
    rw [if_neg hs]
    have e1 : fresh1 0 now ⟨s, [], 116⟩ = ⟨sent s x 0 now, [{ Oq.cutD s.q x (piece s) with tsn := Flt.newT s.f }], 116 - need (min n 100)⟩ := by
      unfold fresh1 Oq.next
      dsimp only
      rw [hp, if_neg (by omega), hx]
      dsimp only
      unfold sent
      rw [hp]
      simp
    rw [e1, freshN]
    dsimp only
    rw [if_pos]
    unfold stops
    dsimp only
    simp only [Bool.or_eq_true, decide_eq_true_eq]
    by_cases h1 : n < 100
    · left
      have hnil : (sent s x 0 now).q.L = [] := by
        unfold sent Oq.nextS
        dsimp only
        have : Oq.lastB x (piece s) = true := by
          unfold Oq.lastB Oq.endAt
          rw [hp, mn_eq]
          have := ((ho.q.its x (by rw [hx]; exact List.mem_singleton.2 rfl)).1).at_
          unfold Oq.left at hl ⊢
          exact decide_eq_true (by omega)
        rw [this]
        rfl
      unfold Snd.piece Oq.size
      rw [hnil]
      show mn ((0 : Nat) : Int) ((s.mtu - 12 - 16) / 4 * 4) = 0
      rw [h.mtu, mn_eq]
      rfl
    · right; left
      have e2 : min n 100 = 100 := by omega
      rw [e2]
      have := (need_le (n := (Snd.piece (sent s x 0 now)).toNat)).1
      have e3 : need 100 = 116 := rfl
      rw [e3]
      omega
theorem nextS_q {s : S} {x : Oq.It} {n : Nat} (hx : x.Ok) (hL : s.q.L = [x]) (hl : Oq.left x = n) (h0 : 0 < n) (hp : piece s = min n 100) :
    ((Oq.nextS s.q x [] (piece s)).L = [] ∧ n - min n 100 = 0) ∨ ∃ y, (Oq.nextS s.q x [] (piece s)).L = [y] ∧ Oq.left y = n - min n 100 ∧ 0 < n - min n 100 := by
  have hat := hx.at_
  have he : Oq.endAt x (piece s) = x.at_ + min n 100 := by
    unfold Oq.endAt
    rw [hp, mn_eq]
    omega
  unfold Oq.nextS Oq.lastB
  dsimp only
  unfold Oq.left at hl
  split
  · rename_i h
    have h := of_decide_eq_true h
    exact .inl ⟨rfl, by omega⟩
  · rename_i h
    have h : Oq.endAt x (piece s) ≠ x.bs.length := fun e => h (decide_eq_true e)
    refine .inr ⟨_, rfl, ?_, by omega⟩
    unfold Oq.left Oq.cutI
    dsimp only
    omega
/-- what one piece that goes does to the sender and its flight -/
theorem sent_lone {m : Nat} {s : S} {n : Nat} (ho : Ok m s) (h : Lone s n) {x : Oq.It} (hL : s.q.L = [x]) (hs : stops s 0 116 = false) (now : Int) :
    Lone (sent s x 0 now) (n - min n 100) ∧ 0 < n ∧ (Oq.cutD s.q x (piece s)).bs.length = min n 100 ∧ (sent s x 0 now).f = { s.f with L := s.f.L ++ [Flt.newR s.f (Oq.cutD s.q x (piece s)) 0 (clock now) x.id] } := by
  have hp := h.piece
  have hx := (ho.q.its x (by rw [hL]; exact List.mem_singleton.2 rfl)).1
  have hn : n ≠ 0 := fun e => by
    unfold stops at hs
    dsimp only at hs
    rw [hp, e] at hs
    cases hs
  have hl : Oq.left x = n := by have := h.size; unfold Oq.size at this; rw [hL] at this; exact this
  have hlen : (Oq.cutD s.q x (piece s)).bs.length = min n 100 := by
    have := hx.at_
    unfold Oq.cutD Oq.endAt
    dsimp only
    rw [List.length_take, List.length_drop, hp, mn_eq]
    unfold Oq.left at hl ⊢
    omega
  have hf : (sent s x 0 now).f = { s.f with L := s.f.L ++ [Flt.newR s.f (Oq.cutD s.q x (piece s)) 0 (clock now) x.id] } := by
    have hc : ¬ 2048 ≤ s.f.L.length := fun e => by
      unfold stops at hs
      dsimp only at hs
      simp only [Bool.or_eq_false_iff, decide_eq_false_iff_not] at hs
      exact hs.2.2.2.2 e
    have hE : Flt.addE s.f (Oq.cutD s.q x (piece s)) 0 = 0 := by
      unfold Flt.addE
      rw [if_neg, if_neg hc]
      rintro (e | e | e)
      · omega
      · have := ho.paths; have := ho.nws; omega
      · rw [e] at hlen; simp at hlen; omega
    unfold sent Flt.add
    dsimp only
    exact if_pos hE
  refine ⟨⟨h.ws, h.mtu, h.lives, h.owed, ?_, ?_⟩, by omega, hlen, hf⟩
  · rw [hf]
    intro r hr
    rcases List.mem_append.1 hr with hr | hr
    · exact h.fl r hr
    · rw [List.mem_singleton.1 hr]
      exact ⟨rfl, rfl, rfl, rfl⟩
  · exact nextS_q hx hL hl (by omega) hp
theorem run_f (s : S) (k : Nat) (now : Int) : (run s k now).f = s.f ∧ (run s k now).q = s.q ∧ (run s k now).room = s.room ∧ (run s k now).ws.length = s.ws.length := by
  unfold run
  split
  · exact ⟨rfl, rfl, rfl, by simp⟩
  · exact ⟨rfl, rfl, rfl, rfl⟩
theorem Lone.run {s : S} {n : Nat} (h : Lone s n) (k : Nat) (now : Int) : Lone (Snd.run s k now) n := by
  obtain ⟨h1, h2, h3, h4⟩ := run_f s k now
  refine ⟨by rw [h4]; exact h.ws, ?_, ?_, ?_, by rw [h1]; exact h.fl, by rw [h2]; exact h.q⟩
  all_goals
    unfold Snd.run
    split
    · first | exact h.mtu | exact h.lives | exact h.owed
    · first | exact h.mtu | exact h.lives | exact h.owed
/-- what 'Next' does to such a sender -/
inductive Goes (s : S) (n : Nat) : S × Option (Nat × List Flt.Dt) → Prop
  | none : stops s 0 116 = true → Goes s n (s, none)
  | one (s' : S) (d : Flt.Dt) : stops s 0 116 = false → 0 < n → Lone s' (n - min n 100) → (∃ r, s'.f = { s.f with L := s.f.L ++ [r] } ∧ r.bs = d.bs) → d.tsn = Flt.newT s.f → d.bs.length = min n 100 → s'.room = mx 0 (s.room - min n 100) → Goes s n (s', some (0, [d]))
theorem Lone.next {m : Nat} {s : S} {n : Nat} (ho : Ok m s) (h : Lone s n) (now : Int) : Goes s n (Snd.next s now) := by
  rw [next_one h.nolost h.ws now]
  rcases fresh_one ho h now with ⟨h1, h2⟩ | ⟨x, h1, h2, h3⟩
  · rw [h1, if_pos rfl]
    exact .none h2
  · obtain ⟨k1, k2, k3, k4⟩ := sent_lone ho h h2 h1 now
    obtain ⟨r1, r2, r3, r4⟩ := run_f (sent s x 0 now) 0 now
    rw [h3, if_neg (by simp)]
    refine .one _ _ h1 k2 (k1.run 0 now) ⟨_, r1.trans k4, rfl⟩ rfl k3 ?_
    rw [r3, ← h.piece]
    rfl
end Go.Snd
namespace Go.Snd
open Go Go.Pth

deriving instance DecidableEq for Flt.Dt
def dtZ : Flt.Dt := ⟨0, 0, 0, false, false, false, []⟩
def isB (d : Flt.Dt) : Bool := decide (d.bs ≠ [])
/-- the place of a TSN -/
def placeOf (first tsn : Int) : Nat := (Spn.u32 (tsn - first)).toNat
def grow (seen : List Flt.Dt) (k : Nat) : List Flt.Dt := seen ++ List.replicate (k + 1 - seen.length) dtZ
theorem grow_len (seen : List Flt.Dt) (k : Nat) : (grow seen k).length = max seen.length (k + 1) := by unfold grow; simp; omega
/-- a piece comes; none: it is another one than it was, or is none -/
def put1 (first : Int) (seen : List Flt.Dt) (d : Flt.Dt) : Option (List Flt.Dt) :=
  let k := placeOf first d.tsn
  if 4096 < k ∨ d.bs = [] then none else match (grow seen k)[k]? with
    | none => none
    | some o => if isB o = true ∧ o ≠ d then none else some ((grow seen k).set k d)
def putL (first : Int) : List Flt.Dt → List Flt.Dt → Option (List Flt.Dt)
  | seen, [] => some seen
  | seen, d :: l => match put1 first seen d with
    | none => none
    | some seen' => putL first seen' l
def adv (seen : List Flt.Dt) (cum : Nat) : Nat := cum + ((seen.drop cum).takeWhile isB).length
structure Ln where
  seen : List Flt.Dt
  first : Int
  cum : Nat
def Ln.take (x : Ln) (l : List Flt.Dt) : Option Ln := match putL x.first x.seen l with
  | none => none
  | some seen' => some { x with seen := seen', cum := adv seen' x.cum }
/-! ### the packets of a moment -/
structure Al where
  s : S
  x : Ln
  packets : Nat
  pieces : Nat
  some_ : Bool
def lostB (lost : Nat) (packets : Nat) : Bool := decide (packets ≤ 64) && lost.testBit (packets - 1)
def allN (lost : Nat) (now : Int) : Nat → Al → Option Al
  | 0, a => some a
  | n + 1, a => match next a.s now with
    | (s', none) => some { a with s := s' }
    | (s', some (_, p)) =>
      if lostB lost (a.packets + 1) then allN lost now n { a with s := s', packets := a.packets + 1, pieces := a.pieces + p.length }
      else match a.x.take p with
        | none => none
        | some x' => allN lost now n ⟨s', x', a.packets + 1, a.pieces + p.length, true⟩
/-! ### the acknowledgement -/
def gaps (seen : List Flt.Dt) (cum : Nat) : Nat → Nat → List (Nat × Nat) → List (Nat × Nat)
  | 0, _, gs => gs
  | n + 1, k, gs => if k < seen.length ∧ gs.length < 20 then
      if isB (seen.getD k dtZ) = false ∨ isB (seen.getD (k - 1) dtZ) = true then gaps seen cum n (k + 1) gs
      else
        let to := k + ((seen.drop (k + 1)).takeWhile isB).length
        gaps seen cum n (k + 1) (gs ++ [(k - cum + 1, to - cum + 1)])
    else gs
def Ln.gaps (x : Ln) : List (Nat × Nat) := Snd.gaps x.seen x.cum x.seen.length (x.cum + 1) []
def Ln.y (x : Ln) : Int := Spn.u32 (Spn.u32 (x.first + Spn.u32 x.cum) - 1)
def answer (s : S) (x : Ln) (rwnd now : Int) : Option S := sack s x.y rwnd x.gaps now
end Go.Snd
namespace Go.Snd
open Go Go.Pth

/-- the ways ahead of one are turned -/
def pmap (g : Nat → Way → Way) (l : List Way) (i : Nat) : List Way := l.mapIdx (fun k w => if k < i then g k w else w)
theorem pmap_zero (g : Nat → Way → Way) (l : List Way) : pmap g l 0 = l := by
  unfold pmap
  refine List.ext_getElem? (fun j => ?_)
  rw [List.getElem?_mapIdx]
  cases l[j]? <;> simp
theorem pmap_all (g : Nat → Way → Way) (l : List Way) : pmap g l l.length = l.mapIdx g := by
  unfold pmap
  refine List.ext_getElem? (fun j => ?_)
  rw [List.getElem?_mapIdx, List.getElem?_mapIdx]
  cases h : l[j]? with
  | none => rfl
  | some w =>
    have := (List.getElem?_eq_some_iff.1 h).1
    simp [this]
theorem pmap_len (g : Nat → Way → Way) (l : List Way) (i : Nat) : (pmap g l i).length = l.length := by simp [pmap]
theorem pmap_get (g : Nat → Way → Way) {l : List Way} {i : Nat} {w : Way} (h : l[i]? = some w) : (pmap g l i)[i]? = some w := by
  unfold pmap
  rw [List.getElem?_mapIdx, h]
  simp
theorem pmap_succ (g : Nat → Way → Way) {l : List Way} {i : Nat} {w : Way} (h : l[i]? = some w) : pmap g l (i + 1) = (pmap g l i).set i (g i w) := by
  refine List.ext_getElem? (fun j => ?_)
  by_cases hj : i = j
  · subst hj
    rw [List.getElem?_set_self (by rw [pmap_len]; exact (List.getElem?_eq_some_iff.1 h).1)]
    unfold pmap
    rw [List.getElem?_mapIdx, h]
    simp
  · rw [List.getElem?_set_ne hj]
    unfold pmap
    rw [List.getElem?_mapIdx, List.getElem?_mapIdx]
    cases l[j]? with
    | none => rfl
    | some v =>
      simp only [Option.map_some]
      congr 1
      by_cases h1 : j < i
      · rw [if_pos h1, if_pos (by omega)]
      · rw [if_neg h1, if_neg (by omega)]
/-! ### a sender of nothing -/
def roomR (rwnd : Int) : Int := mn rwnd 1048576
def way0 (p : Pth.S) : Way := ⟨p, -1, false, 0⟩
def newS (paths streams sroom mtu : Int) (p : Pth.S) (first rwnd : Int) : S :=
  ⟨Oq.new streams sroom, ⟨[], Spn.u32 (first - 1), paths⟩, List.replicate paths.toNat (way0 p), roomR rwnd, roomR rwnd, mtu, [], [], false, 0, 0, paths - 1⟩
theorem newS_ok {paths streams sroom mtu : Int} {p : Pth.S} {first rwnd : Int} (h1 : 1 ≤ paths ∧ paths ≤ 4) (h2 : Oq.may streams sroom = true) (h3 : 128 ≤ mtu ∧ mtu ≤ 1500) (hp : Pth.Ok p) (hr : 0 ≤ rwnd) : Ok 0 (newS paths streams sroom mtu p first rwnd) := by
  have hw : (way0 p).Ok := ⟨hp, by dsimp only [way0]; omega, by dsimp only [way0]; omega⟩
  have hrm : 0 ≤ roomR rwnd ∧ roomR rwnd ≤ 1048576 := by unfold roomR; rw [mn_eq]; omega
  have hlen : (List.replicate paths.toNat (way0 p)).length = paths.toNat := List.length_replicate
  refine ⟨Oq.new_ok h2, ?_, ?_, ⟨⟨Flt.u32_mod _, h1, ?_, ?_, ?_, ?_⟩, ?_, ?_⟩, ?_, ?_, ?_, hrm, hrm, h3, ?_, ?_, ?_, ?_, ?_, ?_, ?_⟩
  all_goals try (simp [newS, Oq.new]; done)
  · show paths = (List.replicate paths.toNat (way0 p)).length
    rw [hlen]; omega
  · show 1 ≤ (List.replicate paths.toNat (way0 p)).length ∧ (List.replicate paths.toNat (way0 p)).length ≤ 4
    rw [hlen]; omega
  · intro w hwm
    rw [(List.mem_replicate.1 hwm).2]
    exact hw
  · exact atR_zero
  · show 0 ≤ paths - 1 ∧ paths - 1 < ((List.replicate paths.toNat (way0 p)).length : Int)
    rw [hlen]; omega
theorem Ok.up {n m : Nat} {s : S} (h : Ok n s) (hm : n ≤ m) : Ok m s := by
  have h1 := h.many; have h2 := h.qfew; have h3 := h.lfew; have h4 := h.ofew
  exact { h with many := by omega, qfew := by omega, lfew := by omega, ofew := by omega }
end Go.Snd
namespace Go.Snd
open Go Go.Pth

structure Mid (m : Nat) (s : S) (x : Ln) (n : Nat) : Prop where
  ok : Ok m s
  lone : Lone s n
  cum : x.cum = x.seen.length
  all : ∀ d ∈ x.seen, d.bs ≠ []
  len : s.f.L.length ≤ x.seen.length
  c : s.f.c = Spn.u32 (x.first - 1 + ((x.seen.length - s.f.L.length : Nat) : Int))
  sum : x.seen.length + n ≤ 3200
theorem newT_far {first c : Int} {a k : Nat} (hc : c = Spn.u32 (first - 1 + (a : Int))) (hk : a + k ≤ 4096) : placeOf first (Spn.u32 (Spn.u32 (c + 1) + Spn.u32 k)) = a + k := by
  subst hc
  unfold placeOf
  simp only [Spn.u32_eq]
  omega
theorem adv_all {seen : List Flt.Dt} (h : ∀ d ∈ seen, d.bs ≠ []) {c : Nat} (hc : c ≤ seen.length) : adv seen c = seen.length := by
  unfold adv
  have e : ∀ l : List Flt.Dt, (∀ d ∈ l, d.bs ≠ []) → l.takeWhile isB = l := fun l => by
    induction l with
    | nil => intro _; rfl
    | cons d l ih =>
      intro hl
      rw [List.takeWhile_cons, show isB d = true from decide_eq_true (hl d List.mem_cons_self), if_pos rfl, ih (fun q hq => hl q (List.mem_cons_of_mem _ hq))]
  rw [e _ (fun d hd => h d (List.mem_of_mem_drop hd)), List.length_drop]
  omega
theorem put1_new {first : Int} {seen : List Flt.Dt} {d : Flt.Dt} (hk : placeOf first d.tsn = seen.length) (h1 : seen.length ≤ 4096) (hd : d.bs ≠ []) : put1 first seen d = some (seen ++ [d]) := by
  have hg : grow seen seen.length = seen ++ [dtZ] := by unfold grow; rw [show seen.length + 1 - seen.length = 1 by omega]; rfl
  unfold put1
  dsimp only
  rw [hk, if_neg (by rintro (h | h); omega; exact hd h), hg]
  have e : (seen ++ [dtZ])[seen.length]? = some dtZ := by rw [List.getElem?_append_right (by omega)]; simp
  rw [e]
  dsimp only
  rw [if_neg (by rintro ⟨h, _⟩; cases h)]
  rw [List.set_append_right _ _ (by omega)]
  simp
/-- one piece goes and comes -/
theorem Mid.step {m : Nat} {s : S} {x : Ln} {n : Nat} (h : Mid m s x n) (now : Int) {s' : S} {l : List Flt.Dt} {k : Nat} (hn : next s now = (s', some (k, l))) :
    ∃ d x', l = [d] ∧ k = 0 ∧ x.take l = some x' ∧ Mid m s' x' (n - min n 100) ∧ 0 < n ∧ x'.first = x.first ∧ s'.room = mx 0 (s.room - min n 100) ∧ x'.seen = x.seen ++ [d] ∧ (0 ≤ d.tsn ∧ d.tsn < 4294967296) ∧ s'.f.L ≠ [] := by
  have hg := h.lone.next h.ok now
  have ho := next_ok h.ok now
  rw [hn] at hg ho
  dsimp only at ho
  cases hg with
  | one s' d hs h0 hl hf ht hb hr =>
    obtain ⟨r, hf, hrb⟩ := hf
    have hsum := h.sum
    have hlen := h.len
    have hk : placeOf x.first d.tsn = x.seen.length := by
      rw [ht]
      unfold Flt.newT
      rw [newT_far h.c (by omega)]
      omega
    have hd : d.bs ≠ [] := fun e => by rw [e] at hb; simp at hb; omega
    have ha : ∀ q ∈ x.seen ++ [d], q.bs ≠ [] := fun q hq => by
      rcases List.mem_append.1 hq with hq | hq
      · exact h.all q hq
      · rw [List.mem_singleton.1 hq]; exact hd
    have hput : putL x.first x.seen [d] = some (x.seen ++ [d]) := by
      rw [putL, put1_new hk (by omega) hd]
      rfl
    refine ⟨d, { x with seen := x.seen ++ [d], cum := x.seen.length + 1 }, rfl, rfl, ?_, ⟨ho, hl, ?_, ha, ?_, ?_, ?_⟩, h0, rfl, hr, rfl, by rw [ht]; exact Flt.u32_mod _, by rw [hf]; simp⟩
    · unfold Ln.take
      rw [hput]
      dsimp only
      rw [adv_all ha (by rw [h.cum]; simp)]
      simp
    · simp
    · rw [hf]; simp; omega
    · rw [hf]
      dsimp only
      rw [h.c]
      congr 2
      simp
    · simp only [List.length_append, List.length_singleton]
      omega
theorem Mid.none {m : Nat} {s : S} {x : Ln} {n : Nat} (h : Mid m s x n) (now : Int) {s' : S} (hn : next s now = (s', none)) : s' = s ∧ stops s 0 116 = true := by
  have hg := h.lone.next h.ok now
  rw [hn] at hg
  cases hg with
  | none hs => exact ⟨rfl, hs⟩
theorem gaps_none {x : Ln} (h : x.cum = x.seen.length) : x.gaps = [] := by
  unfold Ln.gaps
  rw [h]
  cases hs : x.seen.length with
  | zero => rfl
  | succ n =>
    rw [gaps, if_neg]
    rintro ⟨h1, _⟩
    omega
theorem far_all {c y first : Int} {a l : Nat} (hc : c = Spn.u32 (first - 1 + (a : Int))) (hy : y = Spn.u32 (first - 1 + ((a + l : Nat) : Int))) (hl : l ≤ 2048) : Spn.far c y = l := by
  subst hc hy
  unfold Spn.far
  simp only [Spn.u32_eq]
  omega
/-- all that went is acknowledged -/
theorem sack_all {f : Flt.S} (hf : FOk f) {first : Int} {a : Nat} (hc : f.c = Spn.u32 (first - 1 + (a : Int))) : ∃ f' t, Flt.sack f (Spn.u32 (first - 1 + ((a + f.L.length : Nat) : Int))) [] = some (f', t) ∧ f'.L = [] := by
  have hfew := hf.g.few
  have hfar := far_all hc (y := Spn.u32 (first - 1 + ((a + f.L.length : Nat) : Int))) rfl hfew
  have hsp : ∃ sp, Flt.span f (Spn.u32 (first - 1 + ((a + f.L.length : Nat) : Int))) [] = some sp := by
    unfold Flt.span
    rw [if_neg]
    · exact ⟨_, if_pos rfl⟩
    · rintro ⟨h1, h2⟩
      unfold Flt.atI at h2
      rw [hfar] at h2
      by_cases h0 : 0 < f.L.length
      · rw [if_pos ⟨h0, Nat.le_refl _⟩] at h2
        cases h2
      · exact h1 (by rw [hc, show f.L.length = 0 by omega]; rfl)
  obtain ⟨sp, hsp⟩ := hsp
  cases hs : Flt.sack f (Spn.u32 (first - 1 + ((a + f.L.length : Nat) : Int))) [] with
  | none => unfold Flt.sack at hs; rw [hsp] at hs; cases hs
  | some r =>
    obtain ⟨f', t⟩ := r
    obtain ⟨M, hM, rfl, _⟩ := Flt.sack_L hs
    refine ⟨_, t, rfl, ?_⟩
    have := congrArg List.length hM
    simp only [List.length_map] at this
    dsimp only
    rw [hfar, ← this]
    exact List.drop_length
theorem layN_nil (now : Int) {s : S} (h : s.owed = []) : lay s now = s := by
  unfold lay
  rw [h]
  rfl
theorem roomOf_zero {s : S} (h : 0 ≤ s.room) (whole : Bool) : roomOf s 0 whole = 0 := by
  have ho : (0 : Int) ≤ (Flt.openB s.f : Int) := by omega
  have e : mx 0 (mn 0 1048576 - (Flt.openB s.f : Int)) = 0 := by rw [mx_eq, mn_eq]; omega
  unfold roomOf
  dsimp only
  rw [e]
  split
  · rfl
  · rw [mn_eq]; omega
theorem sack_room {s s' : S} {y rwnd now : Int} {gs : List (Nat × Nat)} (ho : s.owed = []) (h : sack s y rwnd gs now = some s') : ∃ s1 w, s1.room = s.room ∧ s'.room = roomOf s1 rwnd w := by
  unfold sack at h
  split at h
  · cases h
  · dsimp only at h
    rw [layN_nil now (by exact ho)] at h
    have h := Option.some.inj h
    refine ⟨_, _, ?_, (congrArg S.room h).symm⟩
    rfl
theorem Mid.answer {m : Nat} {s : S} {x : Ln} {n : Nat} (h : Mid m s x n) (rwnd now : Int) :
    ∃ s', Snd.answer s x rwnd now = some s' ∧ Mid m s' x n ∧ s'.f.L = [] ∧ (rwnd = 0 → s'.room = 0) := by
  have hlen := h.len
  have hy : x.y = Spn.u32 (x.first - 1 + (((x.seen.length - s.f.L.length) + s.f.L.length : Nat) : Int)) := by
    unfold Ln.y
    rw [h.cum, show x.seen.length - s.f.L.length + s.f.L.length = x.seen.length by omega]
    simp only [Spn.u32_eq]
    omega
  obtain ⟨f', t, hs, hL⟩ := sack_all h.ok.f h.c
  rw [← hy] at hs
  have hy2 : 0 ≤ x.y ∧ x.y < 4294967296 := Flt.u32_mod _
  have hc' := (h.ok.f.sack hy2 hs).2.2.2.2
  obtain ⟨s', he⟩ : ∃ s', Snd.answer s x rwnd now = some s' := by
    unfold Snd.answer sack
    rw [gaps_none h.cum, hs]
    exact ⟨_, rfl⟩
  have hok : Ok m s' := by
    unfold Snd.answer at he
    exact sack_ok h.ok hy2 he
  have hroom := sack_room (by exact h.lone.owed) (show sack s x.y rwnd x.gaps now = some s' from he)
  refine ⟨s', he, ?_⟩
  unfold Snd.answer sack at he
  rw [gaps_none h.cum, hs] at he
  dsimp only at he
  rw [layN_nil now (by exact h.lone.owed)] at he
  have he := Option.some.inj he
  have hf' : s'.f = f' := by rw [← he]; rfl
  have hq : s'.q.L = s.q.L := by rw [← he]; rfl
  refine ⟨⟨hok, ⟨?_, ?_, ?_, ?_, ?_, ?_⟩, h.cum, h.all, ?_, ?_, h.sum⟩, by rw [hf']; exact hL, fun hr => ?_⟩
  · rw [← he]; simp only [restAll, hearAll, List.length_mapIdx]; exact h.lone.ws
  · rw [← he]; exact h.lone.mtu
  · rw [← he]; exact h.lone.lives
  · rw [← he]; exact h.lone.owed
  · rw [hf', hL]; simp
  · rw [hq]; exact h.lone.q
  · rw [hf', hL]; simp
  · rw [hf', hL, hc', hy]
    congr 3
    simp only [List.length_nil]
    omega
  · obtain ⟨s1, w, h1, h2⟩ := hroom
    rw [h2, hr]
    exact roomOf_zero (by rw [h1]; exact h.ok.room.1) _
/-- from a clean one something goes -/
theorem Mid.goes {m : Nat} {s : S} {x : Ln} {n : Nat} (h : Mid m s x n) (hL : s.f.L = []) (h0 : 0 < n) : stops s 0 116 = false := by
  have hp := h.lone.piece
  have hw := h.lone.ws
  obtain ⟨w, hw⟩ := List.length_eq_one_iff.1 hw
  have hsz := (h.ok.ws w (by rw [hw]; exact List.mem_singleton.2 rfl)).p.w
  have h1 := hsz.size; have h2 := hsz.mtu
  have hout : ∀ k : Int, Flt.out s.f k = 0 := fun k => by unfold Flt.out; rw [hL]; rfl
  have hm : mayW s 0 = true := by
    unfold mayW sizeW
    rw [hout, hw]
    exact decide_eq_true (by dsimp only [List.getElem?_cons_zero]; omega)
  have haw : away s = 0 := by
    unfold away
    rw [hw]
    show (List.map _ [0]).sum = 0
    simp [hout]
  have hn := (need_le (n := min n 100)).2 (by omega)
  unfold stops
  dsimp only
  rw [hp, hm, haw, hL]
  simp only [Int.toNat_natCast, Bool.or_eq_false_iff, decide_eq_false_iff_not]
  refine ⟨by omega, by omega, rfl, ?_, ?_⟩
  · simp
  · simp
/-- at a room of nothing no more than one goes -/
theorem Mid.still {m : Nat} {s : S} {x : Ln} {n : Nat} (h : Mid m s x n) (hr : s.room = 0) (hL : s.f.L ≠ []) : stops s 0 116 = true := by
  have hp := h.lone.piece
  have hw := h.lone.ws
  have haw : n ≠ 0 → 0 < away s := fun _ => by
    unfold away
    rw [hw]
    show 0 < (List.map _ [0]).sum
    simp only [List.map_cons, List.map_nil, List.sum_cons, List.sum_nil]
    obtain ⟨r, l, hl⟩ : ∃ r l, s.f.L = r :: l := by
      cases hl : s.f.L with
      | nil => exact absurd hl hL
      | cons r l => exact ⟨r, l, rfl⟩
    have hb := h.ok.f.g.bs 0 r (by rw [hl]; rfl)
    have hfl := h.lone.fl r (by rw [hl]; exact List.mem_cons_self)
    have hlen : 0 < r.bs.length := List.length_pos_iff.2 hb
    show 0 < Flt.out s.f 0 + 0
    unfold Flt.out Flt.sumB
    rw [hl, List.filter_cons, if_pos]
    · rw [List.map_cons, List.sum_cons]; omega
    · unfold Flt.byP Flt.away
      rw [hfl.1, hfl.2.1, hfl.2.2.1, hfl.2.2.2]
      rfl
  unfold stops
  dsimp only
  rw [hp, hr]
  by_cases hn : n = 0
  · simp [hn]
  · have := haw hn
    simp only [Bool.or_eq_true, decide_eq_true_eq, Bool.and_eq_true]
    right; right; right; left
    exact ⟨by omega, this⟩
theorem Lone.empty {s : S} {n : Nat} (h : Lone s n) (hL : s.f.L = []) : Snd.empty s = decide (n = 0) := by
  unfold Snd.empty Oq.waiting
  rw [h.owed, hL]
  rcases h.q with ⟨h1, h2⟩ | ⟨x, h1, h2, h3⟩
  · rw [h1, h2]; rfl
  · rw [h1, List.map_cons, h2]
    simp
/-- the sender of the statement's beginning -/
theorem Mid.start {p : Pth.S} (hp : Pth.Ok p) (first : Int) {n : Nat} (hn : 200 ≤ n ∧ n ≤ 3199) (ord : Bool) :
    putE (newS 1 2 65536 128 p first 4000) 0 n 0 0 = 0 ∧ Mid 1 (put (newS 1 2 65536 128 p first 4000) 0 ord (List.replicate n 0) 0 0) ⟨[], first, 0⟩ n ∧ (put (newS 1 2 65536 128 p first 4000) 0 ord (List.replicate n 0) 0 0).f.L = [] := by
  have hE : putE (newS 1 2 65536 128 p first 4000) 0 n 0 0 = 0 := by
    have hr : (newS 1 2 65536 128 p first 4000).first = 4000 := by show roomR 4000 = 4000; decide
    unfold putE
    rw [if_neg (by omega), hr, if_neg (by omega)]
    unfold Oq.putE
    have h1 : (newS 1 2 65536 128 p first 4000).q = ⟨[], 0, 65536, 0, [0, 0]⟩ := rfl
    have h2 : untilOf 0 0 = 0 := by unfold untilOf; rw [if_neg (by omega)]
    rw [h1, h2]
    dsimp only [List.length_cons, List.length_nil]
    rw [if_neg (by omega), if_neg (by omega), if_neg (by omega), if_neg (by omega)]
  have hnew := newS_ok (first := first) (rwnd := 4000) (by omega : (1 : Int) ≤ 1 ∧ (1 : Int) ≤ 4) (show Oq.may 2 65536 = true by decide) (by omega : (128 : Int) ≤ 128 ∧ (128 : Int) ≤ 1500) hp (by omega)
  have hok := put_ok hnew (by omega : (0 : Int) ≤ 0) ord (List.replicate n 0) 0 0
  have hput : put (newS 1 2 65536 128 p first 4000) 0 ord (List.replicate n 0) 0 0 = { newS 1 2 65536 128 p first 4000 with q := Oq.put (newS 1 2 65536 128 p first 4000).q 0 ord (List.replicate n 0) 0 } := by
    have h2 : untilOf 0 0 = 0 := by unfold untilOf; rw [if_neg (by omega)]
    unfold put
    rw [List.length_replicate, if_pos hE, h2, if_neg (by omega)]
  have hqL : (Oq.put (newS 1 2 65536 128 p first 4000).q 0 ord (List.replicate n 0) 0).L = [⟨0, ord, List.replicate n 0, 0, 0, 0, 0⟩] := by
    unfold Oq.put
    rw [if_pos]
    · rfl
    · unfold putE at hE
      rw [if_neg (by omega)] at hE
      split at hE
      · omega
      · have h2 : untilOf 0 0 = 0 := by unfold untilOf; rw [if_neg (by omega)]
        rw [h2] at hE
        rw [List.length_replicate]
        exact hE
  refine ⟨hE, ⟨hok, ?_, rfl, by simp, ?_, ?_, ?_⟩, ?_⟩
  · rw [hput]
    refine ⟨by simp [newS], rfl, rfl, rfl, by simp [newS], .inr ⟨_, hqL, ?_, by omega⟩⟩
    unfold Oq.left
    simp
  · rw [hput]; simp [newS]
  · rw [hput]
    show Spn.u32 (first - 1) = _
    simp [newS]
  · simp; omega
  · rw [hput]; rfl
end Go.Snd
namespace Go.Snd
open Go Go.Pth

theorem again_stop {k : Nat} {now : Int} : ∀ (l : List Int) {x : Go1 × Bool}, x.2 = true → l.foldl (again1 k now) x = x
  | [], _, _ => rfl
  | t :: l, x, h => by
    rw [List.foldl_cons]
    have e : again1 k now x t = x := by unfold again1; rw [if_pos h]
    rw [e]
    exact again_stop l h
theorem lost_get {f f' : Flt.S} (h : Flt.Good f) {t : Int} (ht : t ∈ Flt.lostL f) (hc : f'.c = f.c) (hl : f'.L.length = f.L.length) : ∃ d p, Flt.getD f' t = some (d, p) := by
  unfold Flt.lostL at ht
  obtain ⟨r, hr, rfl⟩ := List.mem_map.1 ht
  obtain ⟨i, hi⟩ := List.getElem?_of_mem (List.mem_filter.1 hr).1
  have hlt := (List.getElem?_eq_some_iff.1 hi).1
  have hfew := h.few
  have hcr := h.c
  have hat : Flt.atI f'.c f'.L.length r.tsn = some i := by
    rw [h.tsn i r hi, hc, hl]
    have hf : Spn.far f.c (Spn.u32 (f.c + 1 + i)) = i + 1 := by
      unfold Spn.far
      simp only [Spn.u32_eq]
      omega
    unfold Flt.atI
    rw [hf, if_pos ⟨by omega, by omega⟩]
    rfl
  unfold Flt.getD
  rw [hat]
  dsimp only
  obtain ⟨r', hr'⟩ : ∃ r', f'.L[i]? = some r' := ⟨f'.L[i]'(by omega), List.getElem?_eq_getElem _⟩
  rw [hr']
  exact ⟨_, _, rfl⟩
theorem getD_rng {f : Flt.S} (h : FOk f) {t : Int} {d : Flt.Dt} {p : Int} (hg : Flt.getD f t = some (d, p)) : (0 ≤ p ∧ p < f.paths) ∧ d.bs.length ≤ 1500 := by
  unfold Flt.getD at hg
  split at hg
  · rename_i i _
    cases hr : f.L[i]? with
    | none => rw [hr] at hg; cases hg
    | some r =>
      rw [hr] at hg
      cases hg
      exact ⟨h.g.path i r hr, h.bytes r (List.mem_of_getElem? hr)⟩
  · cases hg
theorem again_same (f : Flt.S) (t p now : Int) : (Flt.again f t p now).1.c = f.c ∧ (Flt.again f t p now).1.L.length = f.L.length := by
  unfold Flt.again
  repeat' split
  all_goals first | exact ⟨rfl, rfl⟩ | exact ⟨rfl, by simp⟩
/-- the state of the lost ones, while they go -/
structure AgI (n : Nat) (s : S) (x : Go1) : Prop where
  ok : Ok n x.s
  c : x.s.f.c = s.f.c
  len : x.s.f.L.length = s.f.L.length
  room : 0 ≤ x.room ∧ x.room ≤ 1500
theorem again_at {k : Nat} {now : Int} {x : Go1} {t : Int} {d : Flt.Dt} {p : Int} (hg : Flt.getD x.s.f t = some (d, p)) :
    again1 k now (x, false) t = if nextW x.s p.toNat ≠ k then (x, false) else if (!mayW x.s k || decide (need d.bs.length > x.room)) = true then (x, true) else (⟨{ x.s with f := (Flt.again x.s.f t k (clock now)).1 }, x.out ++ [d], x.room - need d.bs.length⟩, false) := by
  unfold again1
  dsimp only
  rw [if_neg (by decide), hg]
theorem AgI.go {n : Nat} {s : S} {x : Go1} (h : AgI n s x) {k : Nat} {now t : Int} {d : Flt.Dt} (hroom : ¬ need d.bs.length > x.room) : AgI n s ⟨{ x.s with f := (Flt.again x.s.f t k (clock now)).1 }, x.out ++ [d], x.room - need d.bs.length⟩ := by
  obtain ⟨h1, h2⟩ := again_same x.s.f t k (clock now)
  have h3 := (need_le (n := d.bs.length)).1
  have h4 := h.room
  exact ⟨{ h.ok with f := h.ok.f.again _ _ (clock_at now), paths := by dsimp only; rw [again_paths]; exact h.ok.paths }, by dsimp only; rw [h1]; exact h.c, by dsimp only; rw [h2]; exact h.len, by dsimp only; omega⟩
/-! ### new ones -/
theorem stops_false {s : S} {k : Nat} {room : Int} (h : stops s k room = false) : piece s ≠ 0 ∧ ¬ need (piece s).toNat > room ∧ mayW s k = true ∧ (¬ piece s > s.room ∨ ¬ 0 < away s) ∧ ¬ 2048 ≤ s.f.L.length := by
  unfold stops at h
  dsimp only at h
  simp only [Bool.or_eq_false_iff, Bool.and_eq_false_iff, decide_eq_false_iff_not, Bool.not_eq_false'] at h
  obtain ⟨h1, h2, h3, h4, h5⟩ := h
  exact ⟨h1, h2, h3, h4, h5⟩
theorem fresh_next {n : Nat} {s : S} (ho : Ok n s) (h : piece s ≠ 0) : ∃ d id q', Oq.next s.q (piece s) = some (d, id, q') ∧ d.bs.length = (piece s).toNat ∧ d.bs ≠ [] := by
  have hr := piece_rng ho
  have hsz : piece s ≤ Oq.size s.q := by unfold piece; rw [mn_eq]; omega
  unfold Oq.next
  rw [if_neg (by omega)]
  cases hL : s.q.L with
  | nil => unfold Oq.size at hsz; rw [hL] at hsz; dsimp only at hsz; omega
  | cons x r =>
    have hx := (ho.q.its x (by rw [hL]; exact List.mem_cons_self)).1
    have hat := hx.at_
    have hs2 : Oq.size s.q = Oq.left x := by unfold Oq.size; rw [hL]
    have hlen : (Oq.cutD s.q x (piece s)).bs.length = (piece s).toNat := by
      unfold Oq.cutD Oq.endAt
      dsimp only
      rw [List.length_take, List.length_drop, mn_eq]
      unfold Oq.left at hs2 ⊢
      omega
    exact ⟨_, _, _, rfl, hlen, fun e => by rw [e] at hlen; simp at hlen; omega⟩
theorem fresh_add {n : Nat} {s : S} (ho : Ok n s) {k : Nat} (hk : k < s.ws.length) {d : Flt.Dt} (hd : d.bs ≠ []) (hl : ¬ 2048 ≤ s.f.L.length) : Flt.addE s.f d k = 0 := by
  have := ho.paths
  unfold Flt.addE
  rw [if_neg, if_neg hl]
  rintro (e | e | e)
  · omega
  · omega
  · exact hd e
theorem fresh1_at {k : Nat} {now : Int} {g : Go1} {d : Flt.Dt} {id : Int} {q' : Oq.S} (h : Oq.next g.s.q (piece g.s) = some (d, id, q')) :
    fresh1 k now g = ⟨{ g.s with q := q', f := Flt.add g.s.f d k (clock now) id, room := mx 0 (g.s.room - piece g.s) }, g.out ++ [{ d with tsn := Flt.newT g.s.f }], g.room - need (piece g.s).toNat⟩ := by
  unfold fresh1
  rw [h]
theorem freshN_stop {k : Nat} {now : Int} {g : Go1} (h : stops g.s k g.room = true) : ∀ m, freshN k now m g = g
  | 0 => rfl
  | m + 1 => by rw [freshN, if_pos h]
theorem freshN_go {k : Nat} {now : Int} {g : Go1} (h : stops g.s k g.room = false) (m : Nat) : freshN k now (m + 1) g = freshN k now m (fresh1 k now g) := by
  rw [freshN, if_neg (by rw [h]; decide)]
theorem fresh1_len {n k : Nat} {now : Int} {g : Go1} (_ho : Ok n g.s) : (fresh1 k now g).s.ws = g.s.ws ∧ (fresh1 k now g).s.mtu = g.s.mtu := by
  unfold fresh1
  split <;> exact ⟨rfl, rfl⟩
theorem need20 {n : Nat} (h : 1 ≤ n) : 20 ≤ need n := by unfold need; omega
end Go.Snd
namespace Go.Snd
open Go Go.Pth

/-- a piece that goes -/
def Pc (d : Flt.Dt) : Prop := (0 ≤ d.tsn ∧ d.tsn < 4294967296) ∧ d.bs ≠ [] ∧ d.bs.length ≤ 1500
theorem trySome_some {step : S → Nat → Option Go1} {I : S → Prop} (hstep : ∀ s k g, I s → step s k = some g → I g.s) {now : Int} : ∀ {l : List Nat} {s s' : S} {k : Nat} {o : List Flt.Dt}, I s → trySome step now l s = (s', some (k, o)) →
    ∃ s0 g, I s0 ∧ k ∈ l ∧ step s0 k = some g ∧ g.out = o ∧ o ≠ [] ∧ s' = run g.s k now
  | [], _, _, _, _, _, h => by cases h
  | j :: l, s, s', k, o, hI, h => by
    rw [trySome] at h
    split at h
    · obtain ⟨s0, g, h1, h2, h3⟩ := trySome_some hstep hI h
      exact ⟨s0, g, h1, List.mem_cons_of_mem _ h2, h3⟩
    · rename_i g hg
      split at h
      · obtain ⟨s0, g', h1, h2, h3⟩ := trySome_some hstep (hstep s j g hI hg) h
        exact ⟨s0, g', h1, List.mem_cons_of_mem _ h2, h3⟩
      · rename_i ho
        cases h
        exact ⟨s, g, hI, List.mem_cons_self, hg, rfl, ho, rfl⟩
theorem trySome_inv {step : S → Nat → Option Go1} {I : S → Prop} (hstep : ∀ s k g, I s → step s k = some g → I g.s) {now : Int} : ∀ {l : List Nat} {s s' : S}, I s → trySome step now l s = (s', none) → I s'
  | [], _, _, hI, h => by cases h; exact hI
  | j :: l, s, s', hI, h => by
    rw [trySome] at h
    split at h
    · exact trySome_inv hstep hI h
    · rename_i g hg
      split at h
      · exact trySome_inv hstep (hstep s j g hI hg) h
      · cases h
def needS (o : List Flt.Dt) : Int := (o.map (fun d => need d.bs.length)).sum
theorem needS_snoc (o : List Flt.Dt) (d : Flt.Dt) : needS (o ++ [d]) = needS o + need d.bs.length := by unfold needS; rw [List.map_append, List.sum_append]; simp
theorem needS_len : ∀ {o : List Flt.Dt}, (∀ d ∈ o, d.bs ≠ []) → 20 * (o.length : Int) ≤ needS o
  | [], _ => by simp [needS]
  | d :: o, h => by
    have h1 := needS_len (o := o) (fun q hq => h q (List.mem_cons_of_mem _ hq))
    have h2 : 1 ≤ d.bs.length := List.length_pos_iff.2 (h d List.mem_cons_self)
    have h3 := need20 h2
    have e : needS (d :: o) = need d.bs.length + needS o := by unfold needS; rw [List.map_cons, List.sum_cons]
    rw [e, List.length_cons]
    omega
/-- the pieces that went till now are well; they have room -/
structure GoI (n : Nat) (M : Int) (x : Go1) : Prop where
  ok : Ok n x.s
  pc : ∀ d ∈ x.out, Pc d
  mtu : x.s.mtu = M
  sum : needS x.out + x.room = M - 12
  room : 0 ≤ x.room
theorem getD_pc {f : Flt.S} (h : FOk f) {t : Int} {d : Flt.Dt} {p : Int} (hg : Flt.getD f t = some (d, p)) : Pc d := by
  have h2 := (getD_rng h hg).2
  unfold Flt.getD at hg
  split at hg
  · rename_i i _
    cases hr : f.L[i]? with
    | none => rw [hr] at hg; cases hg
    | some r =>
      rw [hr] at hg
      cases hg
      exact ⟨by show 0 ≤ r.tsn ∧ r.tsn < _; rw [h.g.tsn i r hr]; exact Flt.u32_mod _, h.g.bs i r hr, h2⟩
  · cases hg
theorem again1_pc {n k : Nat} {M now : Int} {x : Go1 × Bool} (h : GoI n M x.1) (t : Int) : GoI n M (again1 k now x t).1 := by
  have hok := again1_ok (k := k) (now := now) h.ok t
  unfold again1 at hok ⊢
  split
  · exact h
  · rename_i hx
    split
    · exact h
    · rename_i d was hg
      split
      · exact h
      · split
        · exact h
        · rename_i h1 h2
          simp only [hx, hg, if_neg h1, if_neg h2] at hok
          simp only [Bool.or_eq_true, decide_eq_true_eq, not_or] at h2
          refine ⟨hok, fun q hq => ?_, h.mtu, ?_, ?_⟩
          · rcases List.mem_append.1 hq with hq | hq
            · exact h.pc q hq
            · rw [List.mem_singleton.1 hq]; exact getD_pc h.ok.f hg
          · have := h.sum
            dsimp only
            rw [needS_snoc]
            omega
          · dsimp only; omega
theorem again_pcf {n k : Nat} {M now : Int} : ∀ (l : List Int) {x : Go1 × Bool}, GoI n M x.1 → GoI n M (l.foldl (again1 k now) x).1
  | [], _, h => h
  | t :: l, _, h => again_pcf l (again1_pc h t)
theorem again_pc {n : Nat} {s : S} (h : Ok n s) (k : Nat) (now : Int) : GoI n s.mtu (again s k now) := by
  have := h.mtu
  exact again_pcf _ ⟨h, fun _ hd => (by cases hd), rfl, (by show needS [] + (s.mtu - 12) = s.mtu - 12; simp [needS]), (by show 0 ≤ s.mtu - 12; omega)⟩
theorem fresh1_pc {n k : Nat} {M now : Int} {g : Go1} (h : GoI n M g) (hs : stops g.s k g.room = false) : GoI n M (fresh1 k now g) := by
  have hok := fresh1_ok (k := k) (now := now) h.ok
  have hst := stops_false hs
  obtain ⟨d, id, q', hn, hl, hb⟩ := fresh_next h.ok hst.1
  have hr := piece_rng h.ok
  rw [fresh1_at hn] at hok ⊢
  refine ⟨hok, fun q hq => ?_, h.mtu, ?_, ?_⟩
  · rcases List.mem_append.1 hq with hq | hq
    · exact h.pc q hq
    · rw [List.mem_singleton.1 hq]
      exact ⟨Flt.u32_mod _, hb, by dsimp only; omega⟩
  · have := h.sum
    dsimp only
    rw [needS_snoc]
    dsimp only
    rw [hl]
    omega
  · have := hst.2.1
    dsimp only
    omega
theorem freshN_pc {n k : Nat} {M now : Int} : ∀ (m : Nat) {g : Go1}, GoI n M g → GoI n M (freshN k now m g)
  | 0, _, h => h
  | m + 1, g, h => by
    rw [freshN]
    split
    · exact h
    · rename_i hs
      exact freshN_pc m (fresh1_pc h (Bool.not_eq_true _ ▸ hs))
theorem fresh_pc {n : Nat} {s : S} (h : Ok n s) (k : Nat) (now : Int) : GoI n s.mtu (fresh s k now) := by
  have := h.mtu
  exact freshN_pc 100 ⟨h, fun _ hd => (by cases hd), rfl, (by show needS [] + (s.mtu - 12) = s.mtu - 12; simp [needS]), (by show 0 ≤ s.mtu - 12; omega)⟩
/-- how a packet goes: of lost ones, or of new ones -/
theorem next_some {n : Nat} {s s' : S} (h : Ok n s) {now : Int} {k : Nat} {o : List Flt.Dt} (hn : next s now = (s', some (k, o))) :
    ∃ s0 g, (Ok n s0 ∧ s0.mtu = s.mtu) ∧ k < s.ws.length ∧ (g = again s0 k now ∨ g = fresh s0 k now) ∧ g.out = o ∧ o ≠ [] ∧ s' = run g.s k now := by
  have ha : ∀ s0 k g, (Ok n s0 ∧ s0.mtu = s.mtu) → (fun s k => some (again s k now)) s0 k = some g → Ok n g.s ∧ g.s.mtu = s.mtu := fun s0 k g h0 hg => by
    cases hg
    have := again_pc h0.1 k now
    exact ⟨this.ok, this.mtu.trans h0.2⟩
  unfold next at hn
  split at hn
  · rename_i s1 r h1
    cases hn
    obtain ⟨s0, g, a, b, c, d, e, f⟩ := trySome_some (I := fun s0 => Ok n s0 ∧ s0.mtu = s.mtu) ha ⟨h, rfl⟩ h1
    cases c
    exact ⟨s0, _, a, List.mem_range.1 b, .inl rfl, d, e, f⟩
  · rename_i s1 h1
    have hs1 := trySome_inv (I := fun s0 => Ok n s0 ∧ s0.mtu = s.mtu) ha ⟨h, rfl⟩ h1
    obtain ⟨s0, g, a, b, c, d, e, f⟩ := trySome_some (I := fun s0 => Ok n s0 ∧ s0.mtu = s.mtu) (fun s0 k g hs hg => by
      split at hg
      · cases hg
        have := fresh_pc hs.1 k now
        exact ⟨this.ok, this.mtu.trans hs.2⟩
      · cases hg) hs1 hn
    split at c
    · cases c
      exact ⟨s0, _, a, List.mem_range.1 b, .inr rfl, d, e, f⟩
    · cases c
theorem next_pc {n : Nat} {s s' : S} (h : Ok n s) {now : Int} {k : Nat} {o : List Flt.Dt} (hn : next s now = (s', some (k, o))) : k < s.ws.length ∧ o ≠ [] ∧ (∀ d ∈ o, Pc d) ∧ needS o ≤ s.mtu - 12 ∧ o.length ≤ 75 := by
  obtain ⟨s0, g, ⟨a, a'⟩, b, c, d, e, _⟩ := next_some h hn
  have hg : GoI n s0.mtu g := by
    rcases c with rfl | rfl
    · exact again_pc a k now
    · exact fresh_pc a k now
  have h1 := hg.sum
  have h2 := hg.room
  have h3 := needS_len (o := g.out) (fun q hq => (hg.pc q hq).2.1)
  have h4 := h.mtu
  rw [d] at h1 h3
  rw [a'] at h1
  exact ⟨b, e, by rw [← d]; exact hg.pc, by omega, by omega⟩
end Go.Snd
namespace Go.Snd
open Go

theorem skipIn_new {l : List Rm.Sk} {st n : Int} (h : ∀ k ∈ l, k.st ≠ st) : skipIn l st n = l ++ [⟨st, n⟩] := by
  induction l with
  | nil => rfl
  | cons k l ih =>
    rw [skipIn, if_neg (h k List.mem_cons_self), ih (fun q hq => h q (List.mem_cons_of_mem _ hq)), List.cons_append]
theorem skipIn_at {st n : Int} : ∀ {l : List Rm.Sk} {j : Nat} {k : Rm.Sk}, l[j]? = some k → k.st = st → (∀ (i : Nat) q, i < j → l[i]? = some q → q.st ≠ st) → skipIn l st n = l.set j ⟨st, if Rm.less16 k.n n then n else k.n⟩
  | [], _, _, h, _, _ => by cases h
  | q :: l, 0, k, h, hk, _ => by
    cases h
    rw [skipIn, if_pos hk, List.set_cons_zero]
  | q :: l, j + 1, k, h, hk, hb => by
    rw [skipIn, if_neg (hb 0 q (by omega) rfl), List.set_cons_succ, skipIn_at (by simpa using h) hk (fun i p hi hp => hb (i + 1) p (by omega) (by simpa using hp))]
theorem skipIn_len (l : List Rm.Sk) (st n : Int) : (skipIn l st n).length ≤ l.length + 1 := by
  induction l with
  | nil => simp [skipIn]
  | cons k l ih =>
    rw [skipIn]
    split
    · simp
    · rw [List.length_cons, List.length_cons]; omega
theorem skips_snoc (l : List Flt.Dt) (d : Flt.Dt) : skips (l ++ [d]) = if d.un then skips l else skipIn (skips l) d.stream d.ssn := by
  unfold skips
  rw [List.foldl_append]
  rfl
theorem skips_len (l : List Flt.Dt) : (skips l).length ≤ l.length := by
  have h : ∀ (l : List Flt.Dt) (q : List Rm.Sk), (l.foldl (fun q d => if d.un then q else skipIn q d.stream d.ssn) q).length ≤ q.length + l.length := fun l => by
    induction l with
    | nil => intro q; simp
    | cons d l ih =>
      intro q
      rw [List.foldl_cons, List.length_cons]
      have h1 := ih (if d.un then q else skipIn q d.stream d.ssn)
      have h2 := skipIn_len q d.stream d.ssn
      split at h1 <;> rename_i hd <;> simp only [hd, if_true, if_false] at h1 ⊢ <;> simp <;> omega
  have := h l []
  simpa [skips] using this
theorem okRow_at {c : Int} : ∀ {l : List Flt.Dt} {i : Nat}, okRow c i l = true → ∀ (j : Nat) d, l[j]? = some d → Spn.u32 (d.tsn - c) = Spn.u32 ((i + j : Nat) + 1)
  | [], _, _, _, _, h => by cases h
  | q :: l, i, hk, 0, d, h => by
    cases h
    rw [okRow, Bool.and_eq_true, decide_eq_true_eq] at hk
    exact hk.1
  | q :: l, i, hk, j + 1, d, h => by
    rw [okRow, Bool.and_eq_true] at hk
    rw [okRow_at hk.2 j d (by simpa using h)]
    congr 1
    omega
theorem due_len {s : S} {y a : Int} {sk : List Rm.Sk} (h : due s = some ((y, sk), a)) : sk.length ≤ s.f.L.length := by
  unfold due at h
  cases hm : make s.f.c (Flt.ptL s.f.L) with
  | none => rw [hm] at h; cases h
  | some f =>
    rw [hm] at h
    have h := congrArg Prod.fst (Option.some.inj h)
    dsimp only at h
    rw [h] at hm
    unfold make at hm
    split at hm
    · split at hm
      · cases hm
      · have hm := congrArg Prod.snd (Option.some.inj hm)
        dsimp only at hm
        rw [← hm]
        have h1 := skips_len (Flt.ptL s.f.L)
        have h2 : (Flt.ptL s.f.L).length ≤ s.f.L.length := by unfold Flt.ptL; rw [List.length_map]; exact (List.takeWhile_sublist _).length_le
        omega
    · cases hm
end Go.Snd
namespace Go.Snd
open Go Go.Pth

theorem trySome_same {step : S → Nat → Option Go1} (hsame : ∀ s k g, step s k = some g → g.out = [] → g.s = s) {now : Int} : ∀ {l : List Nat} {s s' : S} {k : Nat} {o : List Flt.Dt}, trySome step now l s = (s', some (k, o)) →
    ∃ g, k ∈ l ∧ step s k = some g ∧ g.out = o ∧ o ≠ [] ∧ s' = run g.s k now
  | [], _, _, _, _, h => by cases h
  | j :: l, s, s', k, o, h => by
    rw [trySome] at h
    split at h
    · obtain ⟨g, h2, h3⟩ := trySome_same hsame h
      exact ⟨g, List.mem_cons_of_mem _ h2, h3⟩
    · rename_i g hg
      split at h
      · rename_i ho
        rw [hsame s j g hg ho] at h
        obtain ⟨g', h2, h3⟩ := trySome_same hsame h
        exact ⟨g', List.mem_cons_of_mem _ h2, h3⟩
      · rename_i ho
        cases h
        exact ⟨g, List.mem_cons_self, hg, rfl, ho, rfl⟩
theorem trySome_sameN {step : S → Nat → Option Go1} (hsame : ∀ s k g, step s k = some g → g.out = [] → g.s = s) {now : Int} : ∀ {l : List Nat} {s s' : S}, trySome step now l s = (s', none) → s' = s
  | [], _, _, h => by cases h; rfl
  | j :: l, s, s', h => by
    rw [trySome] at h
    split at h
    · exact trySome_sameN hsame h
    · rename_i g hg
      split at h
      · rename_i ho
        rw [hsame s j g hg ho] at h
        exact trySome_sameN hsame h
      · cases h
theorem again1_nil {s0 : S} {k : Nat} {now : Int} {x : Go1 × Bool} (h : x.1.out = [] → x.1.s = s0) (t : Int) : (again1 k now x t).1.out = [] → (again1 k now x t).1.s = s0 := by
  unfold again1
  repeat' split
  all_goals first | exact h | (intro e; simp at e)
theorem again_foldn {s0 : S} {k : Nat} {now : Int} : ∀ (l : List Int) {x : Go1 × Bool}, (x.1.out = [] → x.1.s = s0) → (l.foldl (again1 k now) x).1.out = [] → (l.foldl (again1 k now) x).1.s = s0
  | [], _, h => h
  | t :: l, _, h => again_foldn l (again1_nil h t)
theorem again_nil {s : S} {k : Nat} {now : Int} : (again s k now).out = [] → (again s k now).s = s := again_foldn _ (fun _ => rfl)
theorem freshN_nil {s0 : S} {k : Nat} {now : Int} : ∀ (m : Nat) {g : Go1}, (g.out = [] → g.s = s0) → (freshN k now m g).out = [] → (freshN k now m g).s = s0
  | 0, _, h => h
  | m + 1, g, h => by
    rw [freshN]
    split
    · exact h
    · refine freshN_nil m ?_
      unfold fresh1
      split
      · exact h
      · intro e; simp at e
theorem fresh_nil {s : S} {k : Nat} {now : Int} : (fresh s k now).out = [] → (fresh s k now).s = s := freshN_nil 100 (fun _ => rfl)
/-- how a packet goes: of lost ones, or of new ones, from just this state -/
theorem next_how {s s' : S} {now : Int} {k : Nat} {o : List Flt.Dt} (hn : next s now = (s', some (k, o))) :
    ∃ g, k < s.ws.length ∧ (g = again s k now ∨ g = fresh s k now) ∧ g.out = o ∧ o ≠ [] ∧ s' = run g.s k now := by
  have ha : ∀ (s : S) k g, (fun s k => some (again s k now)) s k = some g → g.out = [] → g.s = s := fun s k g hg ho => by cases hg; exact again_nil ho
  unfold next at hn
  split at hn
  · rename_i s1 r h1
    cases hn
    obtain ⟨g, b, c, d, e, f⟩ := trySome_same ha h1
    cases c
    exact ⟨_, List.mem_range.1 b, .inl rfl, d, e, f⟩
  · rename_i s1 h1
    have hs1 := trySome_sameN ha h1
    subst hs1
    obtain ⟨g, b, c, d, e, f⟩ := trySome_same (fun s k g hg ho => by
      split at hg
      · cases hg; exact fresh_nil ho
      · cases hg) hn
    split at c
    · cases c
      exact ⟨_, List.mem_range.1 b, .inr rfl, d, e, f⟩
    · cases c
theorem next_quiet {s s' : S} {now : Int} (hn : next s now = (s', none)) : s' = s := by
  have ha : ∀ (s : S) k g, (fun s k => some (again s k now)) s k = some g → g.out = [] → g.s = s := fun s k g hg ho => by cases hg; exact again_nil ho
  unfold next at hn
  split at hn
  · cases hn
  · rename_i s1 h1
    rw [trySome_sameN (fun s k g hg ho => by
      split at hg
      · cases hg; exact fresh_nil ho
      · cases hg) hn]
    exact trySome_sameN ha h1
/-! ### what is under way -/
theorem out_again {f : Flt.S} {t : Int} {k : Nat} {now : Int} {d : Flt.Dt} {p : Int} (hg : Flt.getD f t = some (d, p)) : Flt.out (Flt.again f t k now).1 k ≤ Flt.out f k + d.bs.length := by
  unfold Flt.getD at hg
  unfold Flt.again
  split
  · dsimp only; omega
  · cases ha : Flt.atI f.c f.L.length t with
    | none => dsimp only; omega
    | some i =>
      rw [ha] at hg
      dsimp only at hg ⊢
      cases hr : f.L[i]? with
      | none => dsimp only; omega
      | some r =>
        rw [hr] at hg
        cases hg
        dsimp only
        split
        · have := Flt.sumB_set (Flt.byP k) hr (Flt.setAgain k now r)
          unfold Flt.out
          dsimp only at this ⊢
          have e : (Flt.setAgain k now r).bs.length = r.bs.length := rfl
          have e2 : r.d.bs.length = r.bs.length := rfl
          rw [e] at this
          rw [e2]
          split at this <;> split at this <;> omega
        · dsimp only; omega
theorem out_add {f : Flt.S} {d : Flt.Dt} {k : Nat} {now id : Int} : Flt.out (Flt.add f d k now id) k = Flt.out f k + if Flt.addE f d k = 0 then d.bs.length else 0 := by
  unfold Flt.add
  split
  · unfold Flt.out
    dsimp only
    rw [Flt.sumB_append]
    congr 1
    unfold Flt.sumB Flt.byP Flt.away Flt.newR
    simp
  · omega
theorem out_add_le {f : Flt.S} {d : Flt.Dt} {k j : Nat} {now id : Int} : Flt.out f j ≤ Flt.out (Flt.add f d k now id) j := by
  unfold Flt.add
  split
  · unfold Flt.out
    dsimp only
    rw [Flt.sumB_append]
    omega
  · omega
theorem need_ge (n : Nat) : (n : Int) + 16 ≤ need n := by unfold need; omega
theorem getD_tsn {f : Flt.S} (h : Flt.Good f) {t : Int} (ht : 0 ≤ t ∧ t < 4294967296) {d : Flt.Dt} {p : Int} (hg : Flt.getD f t = some (d, p)) : d.tsn = t := by
  unfold Flt.getD at hg
  cases ha : Flt.atI f.c f.L.length t with
  | none => rw [ha] at hg; cases hg
  | some i =>
    rw [ha] at hg
    dsimp only at hg
    cases hr : f.L[i]? with
    | none => rw [hr] at hg; cases hg
    | some r =>
      rw [hr] at hg
      cases hg
      show r.tsn = t
      rw [h.tsn i r hr]
      unfold Flt.atI at ha
      split at ha
      · rename_i h1
        cases ha
        have hc := h.c
        unfold Spn.far at h1 ⊢
        simp only [Spn.u32_eq] at h1 ⊢
        omega
      · cases ha
structure AgB (s : S) (k : Nat) (x : Go1) : Prop where
  ws : x.s.ws = s.ws
  room : x.s.room = s.room
  mtu : x.s.mtu = s.mtu
  c : x.s.f.c = s.f.c
  len : x.s.f.L.length = s.f.L.length
  good : Flt.Good x.s.f
  left : x.room ≤ s.mtu - 12
  way : (x.out = [] ∧ x.s = s) ∨ ((Flt.out s.f k : Int) < sizeW s k ∧ (Flt.out x.s.f k : Int) < sizeW s k + s.mtu)
  old : ∀ d ∈ x.out, d.tsn ∈ Flt.lostL s.f
  gone : x.s.f.L.map (·.gone) = s.f.L.map (·.gone)
theorem again_gone (f : Flt.S) (t p now : Int) : (Flt.again f t p now).1.L.map (·.gone) = f.L.map (·.gone) := by
  unfold Flt.again
  split
  · rfl
  · split
    · rfl
    · split
      · rfl
      · rename_i i _ r hr
        split
        · exact Flt.set_map (·.gone) hr rfl
        · rfl
theorem lostL_rng {f : Flt.S} (h : Flt.Good f) {t : Int} (ht : t ∈ Flt.lostL f) : 0 ≤ t ∧ t < 4294967296 := by
  unfold Flt.lostL at ht
  obtain ⟨r, hr, rfl⟩ := List.mem_map.1 ht
  obtain ⟨i, hi⟩ := List.getElem?_of_mem (List.mem_filter.1 hr).1
  rw [h.tsn i r hi]
  exact Flt.u32_mod _
theorem again1_b {s : S} (hs : Flt.Good s.f) {k : Nat} {now : Int} {x : Go1 × Bool} (h : AgB s k x.1) {t : Int} (ht : t ∈ Flt.lostL s.f) : AgB s k (again1 k now x t).1 := by
  unfold again1
  split
  · exact h
  · split
    · exact h
    · rename_i d was hg
      split
      · exact h
      · split
        · exact h
        · rename_i h2
          simp only [Bool.or_eq_true, decide_eq_true_eq, not_or, Bool.not_eq_true', Bool.not_eq_false] at h2
          obtain ⟨hm, hr⟩ := h2
          obtain ⟨e1, e2⟩ := again_same x.1.s.f t k (clock now)
          have hl := h.left
          have hn := need_ge d.bs.length
          have hsz : sizeW x.1.s k = sizeW s k := by unfold sizeW; rw [h.ws]
          have hmay : (Flt.out x.1.s.f k : Int) < sizeW s k := by rw [← hsz]; exact of_decide_eq_true hm
          have hout := out_again (k := k) (now := clock now) hg
          refine ⟨h.ws, h.room, h.mtu, e1.trans h.c, e2.trans h.len, h.good.again _ _ _, by dsimp only; omega, .inr ⟨?_, by dsimp only; omega⟩, fun q hq => ?_, by dsimp only; rw [again_gone, h.gone]⟩
          · rcases h.way with ⟨_, e⟩ | ⟨e, _⟩
            · rw [e] at hmay; exact hmay
            · exact e
          · rcases List.mem_append.1 hq with hq | hq
            · exact h.old q hq
            · rw [List.mem_singleton.1 hq, getD_tsn h.good (lostL_rng hs ht) hg]; exact ht
theorem again_fb {s : S} (hs : Flt.Good s.f) {k : Nat} {now : Int} : ∀ (l : List Int) {x : Go1 × Bool}, (∀ t ∈ l, t ∈ Flt.lostL s.f) → AgB s k x.1 → AgB s k (l.foldl (again1 k now) x).1
  | [], _, _, h => h
  | t :: l, _, hl, h => again_fb hs l (fun q hq => hl q (List.mem_cons_of_mem _ hq)) (again1_b hs h (hl t List.mem_cons_self))
theorem again_b {s : S} (hs : Flt.Good s.f) (k : Nat) (now : Int) : AgB s k (again s k now) :=
  again_fb hs _ (fun _ h => h) ⟨rfl, rfl, rfl, rfl, rfl, hs, Int.le_refl _, .inl ⟨rfl, rfl⟩, fun _ h => (by cases h), rfl⟩
/-! ### new ones -/
def bytesS (o : List Flt.Dt) : Int := (o.map (fun d => (d.bs.length : Int))).sum
theorem bytesS_snoc (o : List Flt.Dt) (d : Flt.Dt) : bytesS (o ++ [d]) = bytesS o + d.bs.length := by unfold bytesS; rw [List.map_append, List.sum_append]; simp
structure FrB (s : S) (k : Nat) (g : Go1) : Prop where
  ws : g.s.ws = s.ws
  mtu : g.s.mtu = s.mtu
  c : g.s.f.c = s.f.c
  left : g.room ≤ s.mtu - 12
  way : (g.out = [] ∧ g.s = s) ∨ ((Flt.out s.f k : Int) < sizeW s k ∧ (Flt.out g.s.f k : Int) < sizeW s k + s.mtu ∧ 0 < away g.s)
  more : ∃ M : List Flt.Rc, g.s.f.L = s.f.L ++ M ∧ M.length = g.out.length
  tsn : ∀ (i : Nat) d, g.out[i]? = some d → d.tsn = Spn.u32 (s.f.c + 1 + ((s.f.L.length + i : Nat) : Int))
  room : (bytesS g.out + g.s.room = s.room ∧ 0 ≤ g.s.room) ∨ (g.out.length = 1 ∧ away s = 0 ∧ g.s.room = 0 ∧ 0 < away g.s)
theorem away_pos {s : S} {k : Nat} (hk : k < s.ws.length) (h : 0 < Flt.out s.f k) : 0 < away s := by
  unfold away
  have : Flt.out s.f k ∈ (List.range s.ws.length).map (fun k : Nat => Flt.out s.f k) := List.mem_map.2 ⟨k, List.mem_range.2 hk, rfl⟩
  have hle : ∀ (l : List Nat) (a : Nat), a ∈ l → a ≤ l.sum := fun l a => by
    induction l with
    | nil => intro h; cases h
    | cons b l ih =>
      intro h
      rw [List.sum_cons]
      rcases List.mem_cons.1 h with rfl | h
      · omega
      · have := ih h; omega
  have := hle _ _ this
  omega
theorem fresh1_b {n : Nat} {s : S} {k : Nat} (hk : k < s.ws.length) {now : Int} {g : Go1} (ho : Ok n g.s) (h : FrB s k g) (hs : stops g.s k g.room = false) : FrB s k (fresh1 k now g) := by
  have hst := stops_false hs
  obtain ⟨d, id, q', hn, hl, hb⟩ := fresh_next ho hst.1
  have hr := piece_rng ho
  have hk' : k < g.s.ws.length := by rw [h.ws]; exact hk
  have hadd := fresh_add ho hk' hb hst.2.2.2.2
  rw [fresh1_at hn]
  have hleft := h.left
  have hnd := need_ge (piece g.s).toNat
  have hroom := hst.2.1
  have hsz : sizeW g.s k = sizeW s k := by unfold sizeW; rw [h.ws]
  have hmay : (Flt.out g.s.f k : Int) < sizeW s k := by rw [← hsz]; exact of_decide_eq_true hst.2.2.1
  have hlen : 0 < d.bs.length := List.length_pos_iff.2 hb
  have hout : Flt.out (Flt.add g.s.f d k (clock now) id) k = Flt.out g.s.f k + d.bs.length := by rw [out_add, if_pos hadd]
  have haw : ∀ s' : S, s'.ws = s.ws → s'.f = Flt.add g.s.f d k (clock now) id → 0 < away s' := fun s' h1 h2 => by
    refine away_pos (k := k) (by rw [h1]; exact hk) ?_
    rw [h2, hout]
    omega
  obtain ⟨M, hM, hMl⟩ := h.more
  refine ⟨h.ws, h.mtu, ?_, by dsimp only; omega, .inr ⟨?_, by dsimp only; rw [hout]; omega, haw _ h.ws rfl⟩, ?_, fun i q hq => ?_, ?_⟩
  · dsimp only
    unfold Flt.add
    split <;> exact h.c
  · rcases h.way with ⟨_, e⟩ | ⟨e, _⟩
    · rw [e] at hmay; exact hmay
    · exact e
  · dsimp only
    refine ⟨M ++ [Flt.newR g.s.f d k (clock now) id], ?_, by simp [hMl]⟩
    unfold Flt.add
    rw [if_pos hadd]
    dsimp only
    rw [hM, List.append_assoc]
  · dsimp only at hq
    by_cases hi : i < g.out.length
    · rw [List.getElem?_append_left hi] at hq
      exact h.tsn i q hq
    · rw [List.getElem?_append_right (by omega)] at hq
      have hi2 : i = g.out.length := by
        cases hd : i - g.out.length with
        | zero => omega
        | succ j => rw [hd] at hq; cases hq
      subst hi2
      rw [Nat.sub_self] at hq
      cases hq
      show Flt.newT g.s.f = _
      rw [Flt.newT_eq ho.f.g, h.c, hM, List.length_append, hMl]
  · dsimp only
    rcases h.room with ⟨h1, h2⟩ | ⟨h1, h2, h3, h4⟩
    · rcases hst.2.2.2.1 with h5 | h5
      · refine .inl ⟨?_, by rw [mx_eq]; omega⟩
        rw [bytesS_snoc, mx_eq]
        dsimp only
        rw [hl]
        omega
      · have hz : away g.s = 0 := by omega
        obtain ⟨ho', e2⟩ : g.out = [] ∧ g.s = s := by
          rcases h.way with e | ⟨_, _, e⟩
          · exact e
          · omega
        by_cases h6 : piece g.s ≤ g.s.room
        · refine .inl ⟨?_, by rw [mx_eq]; omega⟩
          rw [bytesS_snoc, mx_eq]
          dsimp only
          rw [hl]
          omega
        · exact .inr ⟨by rw [ho']; rfl, by rw [← e2]; exact hz, by rw [mx_eq]; omega, haw _ h.ws rfl⟩
    · exfalso
      have := hst.2.2.2.1
      have := hst.1
      omega
theorem freshN_b {n : Nat} {s : S} {k : Nat} (hk : k < s.ws.length) {now : Int} : ∀ (m : Nat) {g : Go1}, Ok n g.s → FrB s k g → FrB s k (freshN k now m g)
  | 0, _, _, h => h
  | m + 1, g, ho, h => by
    rw [freshN]
    split
    · exact h
    · rename_i hs
      exact freshN_b hk m (fresh1_ok ho) (fresh1_b hk ho h (Bool.not_eq_true _ ▸ hs))
theorem fresh_b {n : Nat} {s : S} (hs : Ok n s) {k : Nat} (hk : k < s.ws.length) (now : Int) : FrB s k (fresh s k now) :=
  freshN_b hk 100 hs ⟨rfl, rfl, rfl, Int.le_refl _, .inl ⟨rfl, rfl⟩, ⟨[], by simp, rfl⟩, fun i _ h => (by cases h), .inl ⟨(by show bytesS [] + s.room = s.room; simp [bytesS]), hs.room.1⟩⟩
end Go.Snd
namespace Go.Flt
/-- what acknowledgements leave as it is -/
def Rc.core (r : Rc) : Dt × Int × Int × Int × Bool × Bool := (r.d, r.path, r.id, r.at_, r.gone, r.again)
theorem ack1_core (low : Q4 (Option Nat)) (k : AK) (i : Nat) : (ack1 low k i).L.map Rc.core = k.L.map Rc.core := by
  unfold ack1
  split
  · rfl
  · rename_i r hr
    split
    · rfl
    · exact set_map Rc.core hr rfl
theorem ackR_core (low : Q4 (Option Nat)) (a : Nat) : ∀ (n : Nat) (k : AK), (ackR low k a n).L.map Rc.core = k.L.map Rc.core
  | 0, _ => rfl
  | n + 1, k => by rw [ackR_succ, ack1_core, ackR_core low a n k]
theorem ackAll_core (low : Q4 (Option Nat)) : ∀ (sp : List (Nat × Nat)) (k : AK), (ackAll low k sp).L.map Rc.core = k.L.map Rc.core
  | [], _ => rfl
  | g :: sp, k => by
    show (ackAll low (ackR low k g.1 (g.2 - g.1)) sp).L.map Rc.core = _
    rw [ackAll_core low sp, ackR_core]
theorem missR_core (r : Rc) : (missR r).core = r.core := by unfold missR; split <;> rfl
theorem miss1_core (high : Q4 Int) (x : List Rc × Tld) (i : Nat) : (miss1 high x i).1.map Rc.core = x.1.map Rc.core := by
  unfold miss1
  split
  · rfl
  · rename_i r hr
    split
    · exact set_map Rc.core hr (missR_core r)
    · rfl
theorem missF_core (high : Q4 Int) (x : List Rc × Tld) : ∀ n, ((List.range n).foldl (miss1 high) x).1.map Rc.core = x.1.map Rc.core
  | 0 => rfl
  | n + 1 => by rw [miss_snoc, miss1_core, missF_core high x n]
theorem sack_core {s s' : S} {y : Int} {gs : List (Nat × Nat)} {t : Tld} (h : sack s y gs = some (s', t)) : ∃ M : List Rc, M.map Rc.core = s.L.map Rc.core ∧ s' = ⟨M.drop (Spn.far s.c y), y, s.paths⟩ ∧ Spn.far s.c y ≤ s.L.length := by
  obtain ⟨sp, h0, h1, h2⟩ := sack_some h
  refine ⟨_, ?_, h1, (span_ok h0).2.1⟩
  unfold missAll
  rw [missF_core]
  exact ackAll_core _ _ _
theorem map_get {β : Type} {g : Rc → β} {L M : List Rc} (h : L.map g = M.map g) {i : Nat} {r : Rc} (hr : L[i]? = some r) : ∃ q, M[i]? = some q ∧ g q = g r := by
  have := congrArg (·[i]?) h
  simp only [List.getElem?_map, hr, Option.map_some] at this
  cases hq : M[i]? with
  | none => rw [hq] at this; cases this
  | some q => rw [hq] at this; exact ⟨q, rfl, (Option.some.inj this).symm⟩
end Go.Flt
namespace Go.Snd
open Go Go.Pth

/-- pieces that are not gone are not behind the last one that went: 'b' is its place behind the cumulative TSN -/
structure Gi (N : Nat) (s : S) (b : Int) : Prop where
  ng : ∀ (i : Nat) r, s.f.L[i]? = some r → r.gone = false → (i : Int) + 1 ≤ b
  top : b ≤ s.f.L.length
  lo : -2048 * (N : Int) ≤ b
theorem Gi.same {N : Nat} {s s' : S} {b : Int} (h : Gi N s b) (hf : s'.f = s.f) : Gi (N + 1) s' b := ⟨by rw [hf]; exact h.ng, by rw [hf]; exact h.top, by have := h.lo; omega⟩
/-- a flight that has no fewer gone ones -/
structure GoneLe (f f' : Flt.S) : Prop where
  c : f'.c = f.c
  len : f.L.length ≤ f'.L.length
  ng : ∀ (i : Nat) r, f'.L[i]? = some r → r.gone = false → ∃ q, f.L[i]? = some q ∧ q.gone = false
theorem GoneLe.refl (f : Flt.S) : GoneLe f f := ⟨rfl, Nat.le_refl _, fun _ r h h2 => ⟨r, h, h2⟩⟩
theorem GoneLe.trans {f g h : Flt.S} (a : GoneLe f g) (b : GoneLe g h) : GoneLe f h := ⟨b.c.trans a.c, Nat.le_trans a.len b.len, fun i r hr hg => by
  obtain ⟨q, h1, h2⟩ := b.ng i r hr hg
  exact a.ng i q h1 h2⟩
theorem GoneLe.gi {N : Nat} {s s' : S} {b : Int} (hg : GoneLe s.f s'.f) (h : Gi N s b) : Gi (N + 1) s' b :=
  ⟨fun i r hr h2 => by obtain ⟨q, h3, h4⟩ := hg.ng i r hr h2; exact h.ng i q h3 h4, by have := hg.len; have := h.top; omega, by have := h.lo; omega⟩
theorem GoneLe.sel {f : Flt.S} (q : Flt.Rc → Bool) (g : Flt.Rc → Flt.Rc) (hg : ∀ r, r.gone = true → (g r).gone = true) : GoneLe f { f with L := Flt.sel q g f.L } := by
  refine ⟨rfl, by simp [Flt.sel], fun i r hr h2 => ?_⟩
  simp only [Flt.sel, List.getElem?_map] at hr
  cases hq : f.L[i]? with
  | none => rw [hq] at hr; cases hr
  | some p =>
    rw [hq] at hr
    have hr := Option.some.inj hr
    refine ⟨p, rfl, ?_⟩
    cases hp : p.gone with
    | false => rfl
    | true =>
      rw [← hr] at h2
      dsimp only at h2
      split at h2
      · rw [hg p hp] at h2; cases h2
      · rw [hp] at h2; cases h2
theorem GoneLe.mark (f : Flt.S) (p : Int) : GoneLe f (Flt.mark f p) := GoneLe.sel _ _ (fun _ h => h)
theorem GoneLe.abandon (f : Flt.S) (i : Int) : GoneLe f (Flt.abandon f i) := GoneLe.sel _ _ (fun _ _ => rfl)
/-- what is laid is gone at once -/
theorem GoneLe.laid (f : Flt.S) (d : Flt.Dt) (p now id : Int) : GoneLe f (Flt.abandon (Flt.add f d p now id) id) := by
  unfold Flt.add
  split
  · refine ⟨rfl, by simp [Flt.abandon, Flt.sel], fun i r hr h2 => ?_⟩
    simp only [Flt.abandon, Flt.sel, List.getElem?_map] at hr
    by_cases hi : i < f.L.length
    · rw [List.getElem?_append_left hi, List.getElem?_eq_getElem hi] at hr
      have hr := Option.some.inj hr
      refine ⟨f.L[i], List.getElem?_eq_getElem hi, ?_⟩
      rw [← hr] at h2
      dsimp only at h2
      split at h2
      · cases h2
      · exact h2
    · rw [List.getElem?_append_right (by omega)] at hr
      cases hj : i - f.L.length with
      | succ j => rw [hj] at hr; cases hr
      | zero =>
        rw [hj] at hr
        have hr := Option.some.inj hr
        rw [← hr] at h2
        dsimp only at h2
        rw [if_pos (show Flt.ofId id (Flt.newR f d p now id) = true by unfold Flt.ofId Flt.newR; simp)] at h2
        cases h2
  · exact GoneLe.abandon f id
theorem layN_gone (now : Int) : ∀ (n : Nat) (s : S), GoneLe s.f (layN now n s).f
  | 0, s => GoneLe.refl _
  | n + 1, s => by
    rw [layN]
    split
    · exact GoneLe.refl _
    · rename_i x r _
      split
      · have h := layN_gone now n { s with f := Flt.abandon (Flt.add s.f x.d 0 (clock now) x.id) x.id, owed := r }
        exact (GoneLe.laid s.f x.d 0 (clock now) x.id).trans h
      · exact GoneLe.refl _
theorem lay_gone (now : Int) (s : S) : GoneLe s.f (lay s now).f := layN_gone now s.owed.length s
theorem lapse_gone (now : Int) : ∀ (l : List Life) (f : Flt.S), GoneLe f (l.foldl (fun f x => Flt.abandon f x.id) f)
  | [], f => GoneLe.refl f
  | x :: l, f => (GoneLe.abandon f x.id).trans (lapse_gone now l _)
theorem expire_gone (s : S) (now : Int) : GoneLe s.f (expire s now).f := by
  have h1 : GoneLe s.f (expire1 s (clock now)).f := by
    unfold expire1
    dsimp only
    split
    · exact GoneLe.abandon _ _
    · exact GoneLe.refl _
  have h2 : GoneLe (expire1 s (clock now)).f (expire2 (expire1 s (clock now)) (clock now)).f := lapse_gone (clock now) _ _
  exact (h1.trans h2).trans (lay_gone now (expire2 (expire1 s (clock now)) (clock now)))
theorem late1_gone (now : Int) (g : Late) (k : Nat) : GoneLe g.s.f (late1 now g k).s.f := by
  unfold late1
  split
  · exact GoneLe.refl _
  · split
    · exact GoneLe.mark _ _
    · exact GoneLe.refl _
theorem lateF_gone (now : Int) : ∀ (l : List Nat) (g : Late), GoneLe g.s.f (l.foldl (late1 now) g).s.f
  | [], g => GoneLe.refl _
  | k :: l, g => (late1_gone now g k).trans (lateF_gone now l _)
theorem timeout_gone (s : S) (now : Int) : GoneLe s.f (timeout s now).s.f := lateF_gone (clock now) (List.range s.ws.length) ⟨s, 0, 0⟩
theorem put_f (s : S) (stream : Int) (ord : Bool) (bs : List UInt8) (lasts now : Int) : (put s stream ord bs lasts now).f = s.f := by unfold put; split <;> rfl
theorem forward_f (s : S) (now : Int) : (forward s now).1.f = s.f := by
  unfold forward
  split
  · rfl
  · split <;> rfl
theorem beaten_f (s : S) (k sent now : Int) : (beaten s k sent now).f = s.f := by
  unfold beaten
  split
  · rfl
  · split <;> rfl
/-- an acknowledgement: the place goes on -/
theorem Gi.sack {N n : Nat} {s s' : S} {b : Int} (h : Gi N s b) (ho : Ok n s) {y rwnd now : Int} {gs : List (Nat × Nat)} (hy : 0 ≤ y ∧ y < 4294967296) (hs : sack s y rwnd gs now = some s') : ∃ b', Gi (N + 1) s' b' ∧ Spn.u32 (s'.f.c + b') = Spn.u32 (s.f.c + b) := by
  unfold Snd.sack at hs
  cases hf : Flt.sack s.f y gs with
  | none => rw [hf] at hs; cases hs
  | some x =>
    obtain ⟨f', t⟩ := x
    rw [hf] at hs
    dsimp only at hs
    have hs := Option.some.inj hs
    obtain ⟨M, hM, hf', hfar⟩ := Flt.sack_core hf
    have hMl : M.length = s.f.L.length := by have := congrArg List.length hM; simpa using this
    have hg : GoneLe f' s'.f := by
      have key : ∀ s4 : S, s4.f = f' → GoneLe f' (lay s4 now).f := fun s4 h4 => h4 ▸ lay_gone now s4
      rw [← hs]
      exact key _ rfl
    have hsc : s'.f.c = y := by rw [hg.c, hf']
    have hfi := Spn.far_int s.f.c y
    have hc := ho.f.g.c
    have hfew := ho.f.g.few
    refine ⟨b - Spn.far s.f.c y, ⟨fun i r hr h2 => ?_, ?_, ?_⟩, ?_⟩
    · obtain ⟨q, h3, h4⟩ := hg.ng i r hr h2
      rw [hf', List.getElem?_drop] at h3
      obtain ⟨p, h5, h6⟩ := Flt.map_get hM h3
      have hpg : p.gone = false := by
        have := congrArg (fun x : Flt.Dt × Int × Int × Int × Bool × Bool => x.2.2.2.2.1) h6
        exact (show p.gone = q.gone from this).trans h4
      have := h.ng _ p h5 hpg
      omega
    · have h1 := hg.len
      rw [hf'] at h1
      dsimp only at h1
      rw [List.length_drop, hMl] at h1
      have := h.top
      omega
    · have := h.lo
      omega
    · rw [hsc]
      rw [Spn.u32_eq] at hfi
      simp only [Spn.u32_eq]
      omega
/-! ### what the law reckons -/
def beyond (d : Flt.Dt) (last : Int) : Bool := decide (1 ≤ Spn.u32 (d.tsn - last) ∧ Spn.u32 (d.tsn - last) < 2147483648)
def scan1 (x : Int × Int) (d : Flt.Dt) : Int × Int := if beyond d x.1 then (d.tsn, x.2 + d.bs.length) else x
def scan (last : Int) (l : List Flt.Dt) : Int × Int := l.foldl scan1 (last, 0)
theorem scan_old {last : Int} : ∀ {l : List Flt.Dt} {n : Int}, (∀ d ∈ l, beyond d last = false) → l.foldl scan1 (last, n) = (last, n)
  | [], _, _ => rfl
  | d :: l, n, h => by
    rw [List.foldl_cons, show scan1 (last, n) d = (last, n) by unfold scan1; rw [if_neg (by rw [h d List.mem_cons_self]; decide)]]
    exact scan_old (fun q hq => h q (List.mem_cons_of_mem _ hq))
theorem scan_new {t : Int} : ∀ {l : List Flt.Dt} {b n : Int}, b ≤ 0 → -1000000 ≤ b → l.length ≤ 1000000 → (∀ (i : Nat) d, l[i]? = some d → d.tsn = Spn.u32 (t + 1 + (i : Int))) → l.foldl scan1 (Spn.u32 (t + b), n) = (if l = [] then Spn.u32 (t + b) else Spn.u32 (t + l.length), n + bytesS l)
  | [], b, n, _, _, _, _ => by simp [bytesS]
  | d :: l, b, n, h0, h1, h2, h => by
    have hd := h 0 d rfl
    rw [List.length_cons] at h2
    have hb : beyond d (Spn.u32 (t + b)) = true := by
      unfold beyond
      rw [hd]
      refine decide_eq_true ?_
      simp only [Spn.u32_eq]
      omega
    rw [List.foldl_cons, show scan1 (Spn.u32 (t + b), n) d = (Spn.u32 ((t + 1) + 0), n + d.bs.length) by unfold scan1; rw [if_pos hb, hd]; simp]
    rw [scan_new (t := t + 1) (b := 0) (by omega) (by omega) (by omega) (fun i q hq => by rw [h (i + 1) q (by simpa using hq)]; congr 1; omega)]
    rw [if_neg (by simp : ¬ (d :: l) = [])]
    have e : bytesS (d :: l) = d.bs.length + bytesS l := by unfold bytesS; rw [List.map_cons, List.sum_cons]
    rw [e]
    refine Prod.ext ?_ (by dsimp only; omega)
    dsimp only
    split
    · rename_i hl; rw [hl]; simp
    · rw [List.length_cons]; congr 1; omega
/-- a packet goes: all that the law asks of it -/
theorem Gi.next {N n : Nat} {s s' : S} {b : Int} (h : Gi N s b) (hN : N ≤ 200) (ho : Ok n s) {now : Int} {k : Nat} {o : List Flt.Dt} (hn : next s now = (s', some (k, o))) :
    ((Flt.out s.f k : Int) < sizeW s k ∧ (Flt.out s'.f k : Int) < sizeW s' k + s.mtu ∧ sizeW s' k = sizeW s k) ∧ ((scan (Spn.u32 (s.f.c + b)) o).2 > s.room → away s = 0 ∧ o.length = 1) ∧ ∃ b', Gi (N + 1) s' b' ∧ (scan (Spn.u32 (s.f.c + b)) o).1 = Spn.u32 (s'.f.c + b') := by
  obtain ⟨g, hk, hg, hgo, hne, hs'⟩ := next_how hn
  have hlen := (next_pc ho hn).2.2.2.2
  have hf : s'.f = g.s.f := by rw [hs']; unfold run; split <;> rfl
  have hsz : sizeW s' k = sizeW g.s k := by
    rw [hs']
    unfold run
    split
    · rename_i w hw
      unfold sizeW
      dsimp only
      rw [List.getElem?_set_self (List.getElem?_eq_some_iff.1 hw).1, hw]
      show (runW (clock now) w).p.w.size = w.p.w.size
      unfold runW
      split <;> rfl
    · rfl
  have hc := ho.f.g.c
  have hfew := ho.f.g.few
  have hlo := h.lo
  have htop := h.top
  rcases hg with rfl | rfl
  · have hb := again_b ho.f.g k now
    have hz : sizeW (again s k now).s k = sizeW s k := by unfold sizeW; rw [hb.ws]
    have hw : (Flt.out s.f k : Int) < sizeW s k ∧ (Flt.out (again s k now).s.f k : Int) < sizeW s k + s.mtu := by
      rcases hb.way with ⟨e, _⟩ | e
      · exact absurd (hgo.symm.trans e) hne
      · exact e
    have hold : scan (Spn.u32 (s.f.c + b)) o = (Spn.u32 (s.f.c + b), 0) := by
      refine scan_old (fun d hd => ?_)
      have ht := hb.old d (by rw [hgo]; exact hd)
      unfold Flt.lostL at ht
      obtain ⟨r, hr, hrt⟩ := List.mem_map.1 ht
      obtain ⟨hr1, hr2⟩ := List.mem_filter.1 hr
      obtain ⟨i, hi⟩ := List.getElem?_of_mem hr1
      have hgn : r.gone = false := by unfold Flt.openR at hr2; cases hgr : r.gone with
        | false => rfl
        | true => rw [hgr] at hr2; simp at hr2
      have := h.ng i r hi hgn
      have htsn := ho.f.g.tsn i r hi
      unfold beyond
      rw [← hrt, htsn]
      refine decide_eq_false ?_
      simp only [Spn.u32_eq]
      omega
    rw [hold]
    have hroom := ho.room.1
    refine ⟨⟨hw.1, by rw [hf, hsz, hz]; exact hw.2, by rw [hsz, hz]⟩, fun e => absurd e (by dsimp only; omega), b, ⟨fun i r hr hg => ?_, ?_, by omega⟩, ?_⟩
    · rw [hf] at hr
      obtain ⟨q, h1, h2⟩ := Flt.map_get hb.gone hr
      exact h.ng i q h1 (h2.trans hg)
    · rw [hf, hb.len]; exact htop
    · rw [hf, hb.c]
  · have hb := fresh_b ho hk now
    have hz : sizeW (fresh s k now).s k = sizeW s k := by unfold sizeW; rw [hb.ws]
    have hw : (Flt.out s.f k : Int) < sizeW s k ∧ (Flt.out (fresh s k now).s.f k : Int) < sizeW s k + s.mtu := by
      rcases hb.way with ⟨e, _⟩ | ⟨e, e2, _⟩
      · exact absurd (hgo.symm.trans e) hne
      · exact ⟨e, e2⟩
    obtain ⟨M, hM, hMl⟩ := hb.more
    have hsc := scan_new (t := s.f.c + s.f.L.length) (l := o) (b := b - s.f.L.length) (n := 0) (by omega) (by omega) (by omega) (fun i d hd => by
      rw [hb.tsn i d (by rw [hgo]; exact hd)]
      congr 1
      omega)
    rw [if_neg hne, show s.f.c + s.f.L.length + (b - s.f.L.length) = s.f.c + b by omega] at hsc
    rw [show scan (Spn.u32 (s.f.c + b)) o = _ from hsc]
    refine ⟨⟨hw.1, by rw [hf, hsz, hz]; exact hw.2, by rw [hsz, hz]⟩, fun e => ?_, (s.f.L.length + o.length : Nat), ⟨fun i r hr hg => ?_, ?_, by omega⟩, ?_⟩
    · dsimp only at e
      rcases hb.room with ⟨h1, h2⟩ | ⟨h1, h2, _⟩
      · rw [hgo] at h1
        omega
      · rw [hgo] at h1
        exact ⟨h2, h1⟩
    · rw [hf, hM] at hr
      have := (List.getElem?_eq_some_iff.1 hr).1
      rw [List.length_append, hMl, hgo] at this
      omega
    · rw [hf, hM, List.length_append, hMl, hgo]
      omega
    · dsimp only
      rw [hf, hb.c]
      congr 1
      omega
end Go.Snd
