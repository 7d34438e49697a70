/- Which of a sender's pieces are new ones, in plain Lean: the last TSN that went, whatever is done. No conditions: laws only. -/
import Derived.Test.YtjbinhihkfidoaaGreatBnA
namespace Go.Flt
/-- what acknowledgements leave as it is -/
def Rc.core (r : Rc) : Dt × Int × Int × Int × Bool × Bool := (r.d, r.path, r.id, r.at_, r.gone, r.again)
theorem ack1_core (low : Q4 (Option Nat)) (k : AK) (i : Nat) : (ack1 low k i).L.map Rc.core = k.L.map Rc.core := by
  unfold ack1
  split
  · rfl
  · rename_i r hr
    split
    · rfl
    · exact set_map Rc.core hr rfl
theorem ackR_core (low : Q4 (Option Nat)) (a : Nat) : ∀ (n : Nat) (k : AK), (ackR low k a n).L.map Rc.core = k.L.map Rc.core
  | 0, _ => rfl
  | n + 1, k => by rw [ackR_succ, ack1_core, ackR_core low a n k]
theorem ackAll_core (low : Q4 (Option Nat)) : ∀ (sp : List (Nat × Nat)) (k : AK), (ackAll low k sp).L.map Rc.core = k.L.map Rc.core
  | [], _ => rfl
  | g :: sp, k => by
    show (ackAll low (ackR low k g.1 (g.2 - g.1)) sp).L.map Rc.core = _
    rw [ackAll_core low sp, ackR_core]
theorem missR_core (r : Rc) : (missR r).core = r.core := by unfold missR; split <;> rfl
theorem miss1_core (high : Q4 Int) (x : List Rc × Tld) (i : Nat) : (miss1 high x i).1.map Rc.core = x.1.map Rc.core := by
  unfold miss1
  split
  · rfl
  · rename_i r hr
    split
    · exact set_map Rc.core hr (missR_core r)
    · rfl
theorem missF_core (high : Q4 Int) (x : List Rc × Tld) : ∀ n, ((List.range n).foldl (miss1 high) x).1.map Rc.core = x.1.map Rc.core
  | 0 => rfl
  | n + 1 => by rw [miss_snoc, miss1_core, missF_core high x n]
theorem sack_core {s s' : S} {y : Int} {gs : List (Nat × Nat)} {t : Tld} (h : sack s y gs = some (s', t)) : ∃ M : List Rc, M.map Rc.core = s.L.map Rc.core ∧ s' = ⟨M.drop (Spn.far s.c y), y, s.paths⟩ ∧ Spn.far s.c y ≤ s.L.length := by
  obtain ⟨sp, h0, h1, h2⟩ := sack_some h
  refine ⟨_, ?_, h1, (span_ok h0).2.1⟩
  unfold missAll
  rw [missF_core]
  exact ackAll_core _ _ _
theorem map_get {β : Type} {g : Rc → β} {L M : List Rc} (h : L.map g = M.map g) {i : Nat} {r : Rc} (hr : L[i]? = some r) : ∃ q, M[i]? = some q ∧ g q = g r := by
  have := congrArg (·[i]?) h
  simp only [List.getElem?_map, hr, Option.map_some] at this
  cases hq : M[i]? with
  | none => rw [hq] at this; cases this
  | some q => rw [hq] at this; exact ⟨q, rfl, (Option.some.inj this).symm⟩
end Go.Flt
namespace Go.Snd
open Go Go.Pth

/-- pieces that are not gone are not behind the last one that went: 'b' is its place behind the cumulative TSN -/
structure Gi (N : Nat) (s : S) (b : Int) : Prop where
  ng : ∀ (i : Nat) r, s.f.L[i]? = some r → r.gone = false → (i : Int) + 1 ≤ b
  top : b ≤ s.f.L.length
  lo : -2048 * (N : Int) ≤ b
theorem Gi.same {N : Nat} {s s' : S} {b : Int} (h : Gi N s b) (hf : s'.f = s.f) : Gi (N + 1) s' b := ⟨by rw [hf]; exact h.ng, by rw [hf]; exact h.top, by have := h.lo; omega⟩
/-- a flight that has no fewer gone ones -/
structure GoneLe (f f' : Flt.S) : Prop where
  c : f'.c = f.c
  len : f.L.length ≤ f'.L.length
  ng : ∀ (i : Nat) r, f'.L[i]? = some r → r.gone = false → ∃ q, f.L[i]? = some q ∧ q.gone = false
theorem GoneLe.refl (f : Flt.S) : GoneLe f f := ⟨rfl, Nat.le_refl _, fun _ r h h2 => ⟨r, h, h2⟩⟩
theorem GoneLe.trans {f g h : Flt.S} (a : GoneLe f g) (b : GoneLe g h) : GoneLe f h := ⟨b.c.trans a.c, Nat.le_trans a.len b.len, fun i r hr hg => by
  obtain ⟨q, h1, h2⟩ := b.ng i r hr hg
  exact a.ng i q h1 h2⟩
theorem GoneLe.gi {N : Nat} {s s' : S} {b : Int} (hg : GoneLe s.f s'.f) (h : Gi N s b) : Gi (N + 1) s' b :=
  ⟨fun i r hr h2 => by obtain ⟨q, h3, h4⟩ := hg.ng i r hr h2; exact h.ng i q h3 h4, by have := hg.len; have := h.top; omega, by have := h.lo; omega⟩
theorem GoneLe.sel {f : Flt.S} (q : Flt.Rc → Bool) (g : Flt.Rc → Flt.Rc) (hg : ∀ r, r.gone = true → (g r).gone = true) : GoneLe f { f with L := Flt.sel q g f.L } := by
  refine ⟨rfl, by simp [Flt.sel], fun i r hr h2 => ?_⟩
  simp only [Flt.sel, List.getElem?_map] at hr
  cases hq : f.L[i]? with
  | none => rw [hq] at hr; cases hr
  | some p =>
    rw [hq] at hr
    have hr := Option.some.inj hr
    refine ⟨p, rfl, ?_⟩
    cases hp : p.gone with
    | false => rfl
    | true =>
      rw [← hr] at h2
      dsimp only at h2
      split at h2
      · rw [hg p hp] at h2; cases h2
      · rw [hp] at h2; cases h2
theorem GoneLe.mark (f : Flt.S) (p : Int) : GoneLe f (Flt.mark f p) := GoneLe.sel _ _ (fun _ h => h)
theorem GoneLe.abandon (f : Flt.S) (i : Int) : GoneLe f (Flt.abandon f i) := GoneLe.sel _ _ (fun _ _ => rfl)
/-- what is laid is gone at once -/
theorem GoneLe.laid (f : Flt.S) (d : Flt.Dt) (p now id : Int) : GoneLe f (Flt.abandon (Flt.add f d p now id) id) := by
  unfold Flt.add
  split
  · refine ⟨rfl, by simp [Flt.abandon, Flt.sel], fun i r hr h2 => ?_⟩
    simp only [Flt.abandon, Flt.sel, List.getElem?_map] at hr
    by_cases hi : i < f.L.length
    · rw [List.getElem?_append_left hi, List.getElem?_eq_getElem hi] at hr
      have hr := Option.some.inj hr
      refine ⟨f.L[i], List.getElem?_eq_getElem hi, ?_⟩
      rw [← hr] at h2
      dsimp only at h2
      split at h2
      · cases h2
      · exact h2
    · rw [List.getElem?_append_right (by omega)] at hr
      cases hj : i - f.L.length with
      | succ j => rw [hj] at hr; cases hr
      | zero =>
        rw [hj] at hr
        have hr := Option.some.inj hr
        rw [← hr] at h2
        dsimp only at h2
        rw [if_pos (show Flt.ofId id (Flt.newR f d p now id) = true by unfold Flt.ofId Flt.newR; simp)] at h2
        cases h2
  · exact GoneLe.abandon f id
theorem layN_gone (now : Int) : ∀ (n : Nat) (s : S), GoneLe s.f (layN now n s).f
  | 0, s => GoneLe.refl _
  | n + 1, s => by
    rw [layN]
    split
    · exact GoneLe.refl _
    · rename_i x r _
      split
      · have h := layN_gone now n { s with f := Flt.abandon (Flt.add s.f x.d 0 (clock now) x.id) x.id, owed := r }
        exact (GoneLe.laid s.f x.d 0 (clock now) x.id).trans h
      · exact GoneLe.refl _
theorem lay_gone (now : Int) (s : S) : GoneLe s.f (lay s now).f := layN_gone now s.owed.length s
theorem lapse_gone (now : Int) : ∀ (l : List Life) (f : Flt.S), GoneLe f (l.foldl (fun f x => Flt.abandon f x.id) f)
  | [], f => GoneLe.refl f
  | x :: l, f => (GoneLe.abandon f x.id).trans (lapse_gone now l _)
theorem expire_gone (s : S) (now : Int) : GoneLe s.f (expire s now).f := by
  have h1 : GoneLe s.f (expire1 s (clock now)).f := by
    unfold expire1
    dsimp only
    split
    · exact GoneLe.abandon _ _
    · exact GoneLe.refl _
  have h2 : GoneLe (expire1 s (clock now)).f (expire2 (expire1 s (clock now)) (clock now)).f := lapse_gone (clock now) _ _
  exact (h1.trans h2).trans (lay_gone now (expire2 (expire1 s (clock now)) (clock now)))
theorem late1_gone (now : Int) (g : Late) (k : Nat) : GoneLe g.s.f (late1 now g k).s.f := by
  unfold late1
  split
  · exact GoneLe.refl _
  · split
    · exact GoneLe.mark _ _
    · exact GoneLe.refl _
theorem lateF_gone (now : Int) : ∀ (l : List Nat) (g : Late), GoneLe g.s.f (l.foldl (late1 now) g).s.f
  | [], g => GoneLe.refl _
  | k :: l, g => (late1_gone now g k).trans (lateF_gone now l _)
theorem timeout_gone (s : S) (now : Int) : GoneLe s.f (timeout s now).s.f := lateF_gone (clock now) (List.range s.ws.length) ⟨s, 0, 0⟩
theorem put_f (s : S) (stream : Int) (ord : Bool) (bs : List UInt8) (lasts now : Int) : (put s stream ord bs lasts now).f = s.f := by unfold put; split <;> rfl
theorem forward_f (s : S) (now : Int) : (forward s now).1.f = s.f := by
  unfold forward
  split
  · rfl
  · split <;> rfl
theorem beaten_f (s : S) (k sent now : Int) : (beaten s k sent now).f = s.f := by
  unfold beaten
  split
  · rfl
  · split <;> rfl
/-- an acknowledgement: the place goes on -/
theorem Gi.sack {N n : Nat} {s s' : S} {b : Int} (h : Gi N s b) (ho : Ok n s) {y rwnd now : Int} {gs : List (Nat × Nat)} (hy : 0 ≤ y ∧ y < 4294967296) (hs : sack s y rwnd gs now = some s') : ∃ b', Gi (N + 1) s' b' ∧ Spn.u32 (s'.f.c + b') = Spn.u32 (s.f.c + b) := by
  unfold Snd.sack at hs
  cases hf : Flt.sack s.f y gs with
  | none => rw [hf] at hs; cases hs
  | some x =>
    obtain ⟨f', t⟩ := x
    rw [hf] at hs
    dsimp only at hs
    have hs := Option.some.inj hs
    obtain ⟨M, hM, hf', hfar⟩ := Flt.sack_core hf
    have hMl : M.length = s.f.L.length := by have := congrArg List.length hM; simpa using this
    have hg : GoneLe f' s'.f := by
      have key : ∀ s4 : S, s4.f = f' → GoneLe f' (lay s4 now).f := fun s4 h4 => h4 ▸ lay_gone now s4
      rw [← hs]
      exact key _ rfl
    have hsc : s'.f.c = y := by rw [hg.c, hf']
    have hfi := Spn.far_int s.f.c y
    have hc := ho.f.g.c
    have hfew := ho.f.g.few
    refine ⟨b - Spn.far s.f.c y, ⟨fun i r hr h2 => ?_, ?_, ?_⟩, ?_⟩
    · obtain ⟨q, h3, h4⟩ := hg.ng i r hr h2
      rw [hf', List.getElem?_drop] at h3
      obtain ⟨p, h5, h6⟩ := Flt.map_get hM h3
      have hpg : p.gone = false := by
        have := congrArg (fun x : Flt.Dt × Int × Int × Int × Bool × Bool => x.2.2.2.2.1) h6
        exact (show p.gone = q.gone from this).trans h4
      have := h.ng _ p h5 hpg
      omega
    · have h1 := hg.len
      rw [hf'] at h1
      dsimp only at h1
      rw [List.length_drop, hMl] at h1
      have := h.top
      omega
    · have := h.lo
      omega
    · rw [hsc]
      rw [Spn.u32_eq] at hfi
      simp only [Spn.u32_eq]
      omega
/-! ### what the law reckons -/
def beyond (d : Flt.Dt) (last : Int) : Bool := decide (1 ≤ Spn.u32 (d.tsn - last) ∧ Spn.u32 (d.tsn - last) < 2147483648)
def scan1 (x : Int × Int) (d : Flt.Dt) : Int × Int := if beyond d x.1 then (d.tsn, x.2 + d.bs.length) else x
def scan (last : Int) (l : List Flt.Dt) : Int × Int := l.foldl scan1 (last, 0)
theorem scan_old {last : Int} : ∀ {l : List Flt.Dt} {n : Int}, (∀ d ∈ l, beyond d last = false) → l.foldl scan1 (last, n) = (last, n)
  | [], _, _ => rfl
  | d :: l, n, h => by
    rw [List.foldl_cons, show scan1 (last, n) d = (last, n) by unfold scan1; rw [if_neg (by rw [h d List.mem_cons_self]; decide)]]
    exact scan_old (fun q hq => h q (List.mem_cons_of_mem _ hq))
theorem scan_new {t : Int} : ∀ {l : List Flt.Dt} {b n : Int}, b ≤ 0 → -1000000 ≤ b → l.length ≤ 1000000 → (∀ (i : Nat) d, l[i]? = some d → d.tsn = Spn.u32 (t + 1 + (i : Int))) → l.foldl scan1 (Spn.u32 (t + b), n) = (if l = [] then Spn.u32 (t + b) else Spn.u32 (t + l.length), n + bytesS l)
  | [], b, n, _, _, _, _ => by simp [bytesS]
  | d :: l, b, n, h0, h1, h2, h => by
    have hd := h 0 d rfl
    rw [List.length_cons] at h2
    have hb : beyond d (Spn.u32 (t + b)) = true := by
      unfold beyond
      rw [hd]
      refine decide_eq_true ?_
      simp only [Spn.u32_eq]
      omega
    rw [List.foldl_cons, show scan1 (Spn.u32 (t + b), n) d = (Spn.u32 ((t + 1) + 0), n + d.bs.length) by unfold scan1; rw [if_pos hb, hd]; simp]
    rw [scan_new (t := t + 1) (b := 0) (by omega) (by omega) (by omega) (fun i q hq => by rw [h (i + 1) q (by simpa using hq)]; congr 1; omega)]
    rw [if_neg (by simp : ¬ (d :: l) = [])]
    have e : bytesS (d :: l) = d.bs.length + bytesS l := by unfold bytesS; rw [List.map_cons, List.sum_cons]
    rw [e]
    refine Prod.ext ?_ (by dsimp only; omega)
    dsimp only
    split
    · rename_i hl; rw [hl]; simp
    · rw [List.length_cons]; congr 1; omega
/-- a packet goes: all that the law asks of it -/
theorem Gi.next {N n : Nat} {s s' : S} {b : Int} (h : Gi N s b) (hN : N ≤ 200) (ho : Ok n s) {now : Int} {k : Nat} {o : List Flt.Dt} (hn : next s now = (s', some (k, o))) :
    ((Flt.out s.f k : Int) < sizeW s k ∧ (Flt.out s'.f k : Int) < sizeW s' k + s.mtu ∧ sizeW s' k = sizeW s k) ∧ ((scan (Spn.u32 (s.f.c + b)) o).2 > s.room → away s = 0 ∧ o.length = 1) ∧ ∃ b', Gi (N + 1) s' b' ∧ (scan (Spn.u32 (s.f.c + b)) o).1 = Spn.u32 (s'.f.c + b') := by
  obtain ⟨g, hk, hg, hgo, hne, hs'⟩ := next_how hn
  have hlen := (next_pc ho hn).2.2.2.2
  have hf : s'.f = g.s.f := by rw [hs']; unfold run; split <;> rfl
  have hsz : sizeW s' k = sizeW g.s k := by
    rw [hs']
    unfold run
    split
    · rename_i w hw
      unfold sizeW
      dsimp only
      rw [List.getElem?_set_self (List.getElem?_eq_some_iff.1 hw).1, hw]
      show (runW (clock now) w).p.w.size = w.p.w.size
      unfold runW
      split <;> rfl
    · rfl
  have hc := ho.f.g.c
  have hfew := ho.f.g.few
  have hlo := h.lo
  have htop := h.top
  rcases hg with rfl | rfl
  · have hb := again_b ho.f.g k now
    have hz : sizeW (again s k now).s k = sizeW s k := by unfold sizeW; rw [hb.ws]
    have hw : (Flt.out s.f k : Int) < sizeW s k ∧ (Flt.out (again s k now).s.f k : Int) < sizeW s k + s.mtu := by
      rcases hb.way with ⟨e, _⟩ | e
      · exact absurd (hgo.symm.trans e) hne
      · exact e
    have hold : scan (Spn.u32 (s.f.c + b)) o = (Spn.u32 (s.f.c + b), 0) := by
      refine scan_old (fun d hd => ?_)
      have ht := hb.old d (by rw [hgo]; exact hd)
      unfold Flt.lostL at ht
      obtain ⟨r, hr, hrt⟩ := List.mem_map.1 ht
      obtain ⟨hr1, hr2⟩ := List.mem_filter.1 hr
      obtain ⟨i, hi⟩ := List.getElem?_of_mem hr1
      have hgn : r.gone = false := by unfold Flt.openR at hr2; cases hgr : r.gone with
        | false => rfl
        | true => rw [hgr] at hr2; simp at hr2
      have := h.ng i r hi hgn
      have htsn := ho.f.g.tsn i r hi
      unfold beyond
      rw [← hrt, htsn]
      refine decide_eq_false ?_
      simp only [Spn.u32_eq]
      omega
    rw [hold]
    have hroom := ho.room.1
    refine ⟨⟨hw.1, by rw [hf, hsz, hz]; exact hw.2, by rw [hsz, hz]⟩, fun e => absurd e (by dsimp only; omega), b, ⟨fun i r hr hg => ?_, ?_, by omega⟩, ?_⟩
    · rw [hf] at hr
      obtain ⟨q, h1, h2⟩ := Flt.map_get hb.gone hr
      exact h.ng i q h1 (h2.trans hg)
    · rw [hf, hb.len]; exact htop
    · rw [hf, hb.c]
  · have hb := fresh_b ho hk now
    have hz : sizeW (fresh s k now).s k = sizeW s k := by unfold sizeW; rw [hb.ws]
    have hw : (Flt.out s.f k : Int) < sizeW s k ∧ (Flt.out (fresh s k now).s.f k : Int) < sizeW s k + s.mtu := by
      rcases hb.way with ⟨e, _⟩ | ⟨e, e2, _⟩
      · exact absurd (hgo.symm.trans e) hne
      · exact ⟨e, e2⟩
    obtain ⟨M, hM, hMl⟩ := hb.more
    have hsc := scan_new (t := s.f.c + s.f.L.length) (l := o) (b := b - s.f.L.length) (n := 0) (by omega) (by omega) (by omega) (fun i d hd => by
      rw [hb.tsn i d (by rw [hgo]; exact hd)]
      congr 1
      omega)
    rw [if_neg hne, show s.f.c + s.f.L.length + (b - s.f.L.length) = s.f.c + b by omega] at hsc
    rw [show scan (Spn.u32 (s.f.c + b)) o = _ from hsc]
    refine ⟨⟨hw.1, by rw [hf, hsz, hz]; exact hw.2, by rw [hsz, hz]⟩, fun e => ?_, (s.f.L.length + o.length : Nat), ⟨fun i r hr hg => ?_, ?_, by omega⟩, ?_⟩
    · dsimp only at e
      rcases hb.room with ⟨h1, h2⟩ | ⟨h1, h2, _⟩
      · rw [hgo] at h1
        omega
      · rw [hgo] at h1
        exact ⟨h2, h1⟩
    · rw [hf, hM] at hr
      have := (List.getElem?_eq_some_iff.1 hr).1
      rw [List.length_append, hMl, hgo] at this
      omega
    · rw [hf, hM, List.length_append, hMl, hgo]
      omega
    · dsimp only
      rw [hf, hb.c]
      congr 1
      omega
end Go.Snd
