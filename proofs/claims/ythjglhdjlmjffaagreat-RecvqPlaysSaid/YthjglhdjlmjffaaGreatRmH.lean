/- The reassembler's method 'parts', walked: the pieces up to a TSN that are of no whole message go. No conditions but that it stands as it should. -/
import Derived.Test.YthjglhdjlmjffaaGreatRmG
namespace Go.Proofs.YthjglhdjlmjffaaGreat
open Go Go.Sl Go.Rm

theorem OwnS.at {E sz : Nat} {xs : List Value} {sa : Option Addr} {n cap : Nat} {hb : HL} (h : OwnS E sz xs (.slice sa n cap) hb) {i : Nat} (hi : i < n) :
    ∃ g off, sa = some ⟨g, off, none⟩ ∧ ∀ H, CutAt g (off + i * sz) sz ((xs.drop (i * sz)).take sz) (hb ++ H) := by
  rcases h with ⟨he, _⟩ | ⟨g, n', cap', pre, spare, post, he, rfl, hl, hc, hsp, hm⟩
  · cases he; omega
  · cases he
    refine ⟨g, pre.length, rfl, fun H => ?_⟩
    have hle : i * sz + sz ≤ xs.length := by rw [hl, ← Nat.succ_mul]; exact Nat.mul_le_mul_right _ hi
    refine CutAt.mid' (pre := pre ++ xs.take (i * sz)) (rest := xs.drop (i * sz + sz) ++ (spare ++ post)) ?_ ?_ ?_
    · simp only [List.append_assoc]
      congr 1
      rw [← List.append_assoc (List.take sz _), ← List.drop_drop, List.take_append_drop, ← List.append_assoc (List.take _ _), List.take_append_drop]
    · simp; omega
    · simp; omega
/-- one that goes, where each has a key of its own: all others stay -/
theorem erase_filter {ps : List Pc} (hk : (ps.map (·.d.tsn)).Nodup) (t : Int) : ps.eraseP (fun q => t == q.d.tsn) = ps.filter (fun q => !(t == q.d.tsn)) := by
  induction ps with
  | nil => rfl
  | cons a ps ih =>
    rw [List.map_cons, List.nodup_cons] at hk
    by_cases h : (t == a.d.tsn) = true
    · rw [List.eraseP_cons_of_pos (p := fun q : Pc => t == q.d.tsn) h, List.filter_cons_of_neg (by simp [h])]
      rw [List.filter_eq_self.2]
      intro q hq
      simp at h
      simp only [Bool.not_eq_true', beq_eq_false_iff_ne]
      exact fun he => hk.1 (List.mem_map.2 ⟨q, hq, by rw [← he, h]⟩)
    · rw [List.eraseP_cons_of_neg (p := fun q : Pc => t == q.d.tsn) h, List.filter_cons_of_pos (by simpa using h), ih hk.2]
theorem sum_sub {l1 l2 : List Nat} (h : l1.Sublist l2) : l1.sum ≤ l2.sum := by
  induction h with
  | slnil => simp
  | cons a _ ih => simp; omega
  | cons_cons a _ ih => simp; omega
/-- some pieces stay -/
theorem RM.ok.keep {s : RM} (h : s.ok) {ps' : List Pc} (hps : ps'.Sublist s.ps) : ({ s with ps := ps', held := (totD (ps'.map (·.d)) + totM s.row : Nat) } : RM).ok := by
  have h1 : totD (ps'.map (·.d)) ≤ totD s.L := by
    unfold totD RM.L
    rw [List.map_map, List.map_map]
    exact sum_sub (hps.map _)
  refine ⟨fun x hx => h.pok x (hps.mem hx), h.mok, h.row, (h.born).sublist (hps.map _), fun x hx => h.old x (hps.mem hx), h.turn.sublist hps, fun x hx => h.turns x (hps.mem hx), (h.keys).sublist (hps.map _), fun x hx => h.wf x (hps.mem hx), rfl, ?_, h.bound, ?_⟩
  · have h2 := h.few
    have h3 := hps.length_le
    dsimp only
    omega
  · have h2 := h.fine
    have : totD (RM.L { s with ps := ps', held := (totD (ps'.map (·.d)) + totM s.row : Nat) }) = totD (ps'.map (·.d)) := rfl
    have e2 : totM (RM.row { s with ps := ps', held := (totD (ps'.map (·.d)) + totM s.row : Nat) }) = totM s.row := rfl
    rw [this, e2]
    omega

structure PtG where
  seen : List Nat
  gone : List Pc
  va : Option Addr
  vn : Nat
  vc : Nat
  hb : HL
/-- what was found so far -/
structure PtG.ok (ps : List Pc) (f : Pc → Bool) (g : PtG) : Prop where
  nd : g.seen.Nodup
  sin : ∀ b ∈ g.seen, b ∈ ps.map (·.born)
  own : OwnS 138 8 (g.gone.flatMap Pc.cells) (.slice g.va g.vn g.vc) g.hb
  gin : ∀ q ∈ g.gone, q ∈ ps ∧ q.born ∈ g.seen ∧ f q = true
  all : ∀ q ∈ ps, q.born ∈ g.seen → f q = true → q ∈ g.gone
  gnd : (g.gone.map (·.born)).Nodup
theorem PtG.ok.skip {ps : List Pc} {f : Pc → Bool} {g : PtG} (h : g.ok ps f) (hnd : (ps.map (·.born)).Nodup) {p : Pc} (hp : p ∈ ps) (hns : p.born ∉ g.seen) (hf : f p = false) : PtG.ok ps f { g with seen := g.seen ++ [p.born] } := by
  refine ⟨?_, fun b hb => ?_, h.own, fun q hq => ?_, fun q hq hqs hfq => ?_, h.gnd⟩
  · exact List.nodup_append.2 ⟨h.nd, by simp, fun a ha b hb => by rw [List.mem_singleton] at hb; subst hb; exact fun h => by subst h; exact hns ha⟩
  · rcases List.mem_append.1 hb with hb | hb
    · exact h.sin b hb
    · rw [List.mem_singleton] at hb; subst hb; exact List.mem_map.2 ⟨p, hp, rfl⟩
  · obtain ⟨h1, h2, h3⟩ := h.gin q hq
    exact ⟨h1, List.mem_append_left _ h2, h3⟩
  · rcases seen_snoc hnd hp hq hqs with h1 | rfl
    · exact h.all q hq h1 hfq
    · rw [hf] at hfq; cases hfq
theorem PtG.ok.add {ps : List Pc} {f : Pc → Bool} {g : PtG} (h : g.ok ps f) (hnd : (ps.map (·.born)).Nodup) {p : Pc} (hp : p ∈ ps) (hns : p.born ∉ g.seen) (hf : f p = true) {va : Option Addr} {vn vc : Nat} {hb : HL}
    (hown : OwnS 138 8 (g.gone.flatMap Pc.cells ++ p.cells) (.slice va vn vc) hb) : PtG.ok ps f ⟨g.seen ++ [p.born], g.gone ++ [p], va, vn, vc, hb⟩ := by
  refine ⟨?_, fun b hb => ?_, ?_, fun q hq => ?_, fun q hq hqs hfq => ?_, ?_⟩
  · exact List.nodup_append.2 ⟨h.nd, by simp, fun a ha b hb => by rw [List.mem_singleton] at hb; subst hb; exact fun h => by subst h; exact hns ha⟩
  · rcases List.mem_append.1 hb with hb | hb
    · exact h.sin b hb
    · rw [List.mem_singleton] at hb; subst hb; exact List.mem_map.2 ⟨p, hp, rfl⟩
  · dsimp only; rw [List.flatMap_append]; simpa using hown
  · rcases List.mem_append.1 hq with hq | hq
    · obtain ⟨h1, h2, h3⟩ := h.gin q hq
      exact ⟨h1, List.mem_append_left _ h2, h3⟩
    · rw [List.mem_singleton] at hq; subst hq
      exact ⟨hp, List.mem_append_right _ (by simp), hf⟩
  · rcases seen_snoc hnd hp hq hqs with h1 | rfl
    · exact List.mem_append_left _ (h.all q hq h1 hfq)
    · exact List.mem_append_right _ (by simp)
  · dsimp only
    rw [List.map_append]
    refine List.nodup_append.2 ⟨h.gnd, by simp, fun a ha b hb => ?_⟩
    simp at hb; subst hb
    obtain ⟨q, hq, rfl⟩ := List.mem_map.1 ha
    intro he
    exact hns (he ▸ (h.gin q hq).2.1)
theorem PtG.ok.few {ps : List Pc} {f : Pc → Bool} {g : PtG} (h : g.ok ps f) : g.gone.length ≤ ps.length ∧ g.vn = g.gone.length := by
  constructor
  · have := length_le_of_nodup _ (ps.map (·.born)) h.gnd (fun a ha => by obtain ⟨q, hq, rfl⟩ := List.mem_map.1 ha; exact List.mem_map.2 ⟨q, (h.gin q hq).1, rfl⟩)
    simpa using this
  · obtain ⟨_, _, _, he, hl, _⟩ := OwnS.shape h.own
    cases he
    rw [flat_len' Pc.cells 8 (fun _ => rfl)] at hl
    omega

theorem key_inj {ps : List Pc} (hk : (ps.map (·.d.tsn)).Nodup) {p q : Pc} (hp : p ∈ ps) (hq : q ∈ ps) (h : p.d.tsn = q.d.tsn) : p = q := by
  have h1 := find_self hk hp
  have h2 := find_self hk hq
  rw [h, h2] at h1
  exact (Option.some.inj h1).symm
/-- what is left behind some drops -/
def left (ps gone : List Pc) (i : Nat) : List Pc := ps.filter (fun q => !(gone.take i).any (fun g => g.d.tsn == q.d.tsn))
theorem left_zero (ps gone : List Pc) : left ps gone 0 = ps := by simp [left]
theorem left_succ {ps gone : List Pc} (hk : (ps.map (·.d.tsn)).Nodup) {i : Nat} {p : Pc} (hp : gone[i]? = some p) : left ps gone (i + 1) = (left ps gone i).eraseP (fun q => p.d.tsn == q.d.tsn) := by
  have hk' : ((left ps gone i).map (·.d.tsn)).Nodup := hk.sublist (List.filter_sublist.map _)
  rw [erase_filter hk']
  unfold left
  rw [List.filter_filter]
  congr 1
  funext q
  rw [List.take_add_one, hp]
  simp [List.any_append, Bool.and_comm]
theorem left_mem {ps : List Pc} {f : Pc → Bool} {g : PtG} (h : g.ok ps f) (hk : (ps.map (·.d.tsn)).Nodup) {i : Nat} {p : Pc} (hp : g.gone[i]? = some p) : p ∈ left ps g.gone i := by
  have hi : i < g.gone.length := (List.getElem?_eq_some_iff.1 hp).1
  have hpm : p ∈ g.gone := List.mem_of_getElem? hp
  unfold left
  rw [List.mem_filter]
  refine ⟨(h.gin p hpm).1, ?_⟩
  simp only [Bool.not_eq_true', List.any_eq_false, beq_iff_eq]
  intro q hq he
  obtain ⟨j, hj⟩ := List.mem_iff_getElem?.1 hq
  rw [List.getElem?_take] at hj
  split at hj
  · rename_i hji
    have hqp : q = p := key_inj hk (h.gin q (List.mem_of_getElem? hj)).1 (h.gin p hpm).1 he
    subst hqp
    have hnd := h.gnd
    have hjl : j < g.gone.length := by omega
    have hlt := (List.pairwise_iff_getElem.1 hnd) j i (by simpa using hjl) (by simpa using hi) hji
    rw [List.getElem_map, List.getElem_map, (List.getElem?_eq_some_iff.1 hj).2, (List.getElem?_eq_some_iff.1 hp).2] at hlt
    exact hlt rfl
  · cases hj
theorem left_all {ps : List Pc} {f : Pc → Bool} {g : PtG} (h : g.ok ps f) (hk : (ps.map (·.d.tsn)).Nodup) (hall : ∀ q ∈ ps, q.born ∈ g.seen) : left ps g.gone g.gone.length = ps.filter (fun q => !f q) := by
  unfold left
  rw [List.take_length]
  refine List.filter_congr fun q hq => ?_
  congr 1
  cases hf : f q with
  | true => exact List.any_eq_true.2 ⟨q, h.all q hq (hall q hq) hf, by simp⟩
  | false =>
    simp only [List.any_eq_false, beq_iff_eq]
    intro p hp he
    have := h.gin p hp
    rw [key_inj hk this.1 hq he, hf] at this
    exact absurd this.2.2 (by simp)
set_option maxHeartbeats 4000000 in
theorem parts_tr (F : Nat → Option Obj) (s : RM) (hs : s.ok) (cum : Int) :
    Tr Tryz.prog 84 [.pointer (some ⟨s.R, 0, none⟩), .int .u32 cum].toArray F s.H
      (fun v H => v = .tuple #[] ∧ ∃ s' : RM, s'.ok ∧ H = s'.H ∧ s'.R = s.R ∧ s'.turns = s.turns ∧ s'.S = Rm.parts s.S cum) := by
  refine Tr.enter Tryz.func84 rfl Tryz.ntmps84 rfl (fun w0 => ?_)
  have hH := RM.HX s []
  simp only [List.append_nil] at hH
  rw [hH]
  have hps : s.ps.length ≤ 1000000 := by have h1 := hs.few; have h2 := hs.bound; omega
  have hbn := hs.born
  repeat' (first | refine S1 ?_ | refine SD ?_ | refine SA (fun _ => ?_) | refine WL.g_split rfl rfl (fun hc => ?_) (fun hc => ?_) | refine WD.g_split rfl rfl (fun hc => ?_) (fun hc => ?_) | refine W.cond rfl (fun hc => ?_) (fun hc => ?_))
  refine WL.e rfl (Ef.rng rfl (by repeat (first | exact MapAt.here | apply MapAt.there | apply MapAt.right))) ?_
  rintro _ _ ⟨it, rfl, rfl⟩
  repeat' (first | refine S1 ?_ | refine SD ?_ | refine SA (fun _ => ?_) | refine WL.g_split rfl rfl (fun hc => ?_) (fun hc => ?_) | refine WD.g_split rfl rfl (fun hc => ?_) (fun hc => ?_) | refine W.cond rfl (fun hc => ?_) (fun hc => ?_))
  refine W.loop (G := PtG) (fun g => [(0, .pointer (some ⟨s.R, 0, none⟩)), (1, .int .u32 cum), (4, .slice g.va g.vn g.vc), (16, .pointer (some ⟨it, 0, none⟩))])
    (fun g => (it, .mapIter (some s.M) s.clk g.seen.toArray s.clk) :: (g.hb ++ (s.R, .cells [.map (some s.M), .int .i64 s.turns, .slice (some ⟨s.N, 0, none⟩) s.nx.length s.nx.length, .slice s.ra s.rn s.rc, .int .i64 s.held].toArray 100 (0, 0)) ::
      (s.M, .map (s.ps.map Pc.ent).toArray s.clk) :: (s.N, .cells (s.nx.map (Value.int .u16)).toArray 36 (0, 0)) :: (s.rhb ++ (s.ms.flatMap (·.hb) ++ s.ps.flatMap (·.hb)))))
    (PtG.ok s.ps (fun q => doomP s.L cum q.d)) (fun g => s.ps.length - g.seen.length) ⟨[], [], none, 0, 0, []⟩ ⟨by simp, by simp, .inl ⟨rfl, rfl, rfl⟩, by simp, by simp, by simp⟩ envA (fun _ h => h) ?_
  rintro ⟨seen, gone, va, vn, vc, hb⟩ hg
  dsimp only
  repeat' (first | refine S1 ?_ | refine SD ?_ | refine SA (fun _ => ?_) | refine WL.g_split rfl rfl (fun hc => ?_) (fun hc => ?_) | refine WD.g_split rfl rfl (fun hc => ?_) (fun hc => ?_) | refine W.cond rfl (fun hc => ?_) (fun hc => ?_))
  refine WL.e rfl (Ef.nxt rfl (Foc.here _) (by repeat (first | exact MapAt.here | apply MapAt.there | apply MapAt.right)) (fun e he => ?_) (.inr rfl)) ?_
  · obtain ⟨p, hp, rfl⟩ := List.mem_map.1 he
    exact hs.old p hp
  rintro _ _ (⟨hall, rfl, rfl⟩ | ⟨e, he, hns, rfl, rfl⟩)
  · -- all were seen
    have hseen : ∀ q ∈ s.ps, q.born ∈ seen := fun q hq => hall q.ent (List.mem_map.2 ⟨q, hq, rfl⟩)
    obtain ⟨hf1, hf2⟩ := hg.few
    have hown := hg.own
    dsimp only at hf1 hf2 hown
    have hsub : ∀ i, (left s.ps gone i).Sublist s.ps := fun i => List.filter_sublist
    have htot : ∀ i, totD ((left s.ps gone i).map (fun x => x.d)) ≤ 1000000000 := fun i => by
      have := (hs.keep (hsub i)).fine
      have e : totD (RM.L ({ s with ps := left s.ps gone i, held := (totD ((left s.ps gone i).map (·.d)) + totM s.row : Nat) } : RM)) = totD ((left s.ps gone i).map (fun x => x.d)) := rfl
      omega
    have htm : totM s.row ≤ 1000000000 := by have := hs.fine; omega
    repeat' (first | refine S1 ?_ | refine SD ?_ | refine SA (fun _ => ?_) | refine WL.g_split rfl rfl (fun hc => ?_) (fun hc => ?_) | refine WD.g_split rfl rfl (fun hc => ?_) (fun hc => ?_) | refine W.cond rfl (fun hc => ?_) (fun hc => ?_))
    refine W.loop (G := Nat) (fun i => [(0, .pointer (some ⟨s.R, 0, none⟩)), (44, .slice va vn vc), (45, .int .i64 vn), (46, .int .i64 i)])
      (fun i => hb ++ (s.R, .cells [.map (some s.M), .int .i64 s.turns, .slice (some ⟨s.N, 0, none⟩) s.nx.length s.nx.length, .slice s.ra s.rn s.rc, .int .i64 (totD ((left s.ps gone i).map (fun x => x.d)) + totM s.row : Nat)].toArray 100 (0, 0)) ::
        (s.M, .map ((left s.ps gone i).map Pc.ent).toArray s.clk) :: (s.N, .cells (s.nx.map (Value.int .u16)).toArray 36 (0, 0)) :: (s.rhb ++ (s.ms.flatMap (·.hb) ++ s.ps.flatMap (·.hb))))
      (fun i => i ≤ vn) (fun i => vn - i) 0 (Nat.zero_le _) envA (fun _ h => ?_) ?_
    · rw [left_zero]
      have e := hs.held
      unfold RM.L at e
      rw [show ((totD (s.ps.map (fun x => x.d)) + totM s.row : Nat) : Int) = s.held by rw [e]; simp]
      exact h.sublist (.cons _ (.refl _))
    intro i hi
    repeat' (first | refine S1 ?_ | refine SD ?_ | refine SA (fun _ => ?_) | refine WL.g_split rfl rfl (fun hc => ?_) (fun hc => ?_) | refine WD.g_split rfl rfl (fun hc => ?_) (fun hc => ?_) | refine W.cond rfl (fun hc => ?_) (fun hc => ?_))
    · have hi' : i < vn := by simp at hc; omega
      obtain ⟨p, hpi⟩ : ∃ p, gone[i]? = some p := ⟨gone[i]'(by omega), by simp⟩
      obtain ⟨g, off, rfl, hcut⟩ := OwnS.at hown hi'
      have hpm := left_mem hg hs.keys hpi
      dsimp only at hpm
      refine WL.p rfl (Pu.ia rfl rfl (by omega)) ?_
      refine WL.s rfl (Rd.lda (r := p.cells) rfl (by have := hcut; rw [flat_at Pc.cells 8 (fun _ => rfl) _ _ _ hpi] at this; simpa using this _)) ?_
      repeat' (first | refine S1 ?_ | refine SD ?_ | refine SA (fun _ => ?_) | refine WL.g_split rfl rfl (fun hc => ?_) (fun hc => ?_) | refine WD.g_split rfl rfl (fun hc => ?_) (fun hc => ?_) | refine W.cond rfl (fun hc => ?_) (fun hc => ?_))
      refine WL.e rfl (Ef.call (by exact rfl) (by dsimp only [RM.core, RM.cells]; exact subA) (drop_tr _ ({ s with ps := left s.ps gone i, held := (totD ((left s.ps gone i).map (fun x => x.d)) + totM s.row : Nat) } : RM) p)) ?_
      rintro _ _ ⟨_, ⟨rfl, rfl⟩, rfl⟩
      repeat' (first | refine S1 ?_ | refine SD ?_ | refine SA (fun _ => ?_) | refine WL.g_split rfl rfl (fun hc => ?_) (fun hc => ?_) | refine WD.g_split rfl rfl (fun hc => ?_) (fun hc => ?_) | refine W.cond rfl (fun hc => ?_) (fun hc => ?_))
      rw [i64_succ (by omega)]
      refine Fin.round (i + 1) (by omega) envA (fun _ h => ?_) (by omega)
      have hk' : ((left s.ps gone i).map (·.d.tsn)).Nodup := (hs.keys).sublist ((hsub i).map _)
      have htt := tot_erase (L := (left s.ps gone i).map (fun x => x.d)) (t := p.d.tsn) (d := p.d) (by rw [at_pc, find_self hk' hpm]; rfl)
      rw [← map_erase, ← left_succ hs.keys hpi] at htt
      have hpl := Pc.len (hs.pok p ((hsub i).mem hpm))
      have h1 := htot i
      have hwr : IntKind.i64.wrap (((totD ((left s.ps gone i).map (fun x => x.d)) + totM s.row : Nat) : Int) - p.sn) = (totD ((left s.ps gone (i + 1)).map (fun x => x.d)) + totM s.row : Nat) := by
        rw [i64_id (by omega) (by omega)]
        omega
      rw [left_succ hs.keys hpi] at hwr ⊢
      dsimp only [RM.core, RM.cells] at h
      rw [hwr] at h
      exact In.of_sub subA h
    · have hi' : i = gone.length := by simp at hc; omega
      subst hi'
      refine Fin.endW (by exact rfl) resA (H' := ({ s with ps := left s.ps gone gone.length, held := (totD ((left s.ps gone gone.length).map (fun x => x.d)) + totM s.row : Nat) } : RM).H) (fun _ h => ?_) ⟨rfl, _, hs.keep (hsub _), rfl, rfl, rfl, ?_⟩
      · have h2 : In F ((s.R, .cells [.map (some s.M), .int .i64 s.turns, .slice (some ⟨s.N, 0, none⟩) s.nx.length s.nx.length, .slice s.ra s.rn s.rc, .int .i64 (totD ((left s.ps gone gone.length).map (fun x => x.d)) + totM s.row : Nat)].toArray 100 (0, 0)) ::
          (s.M, .map ((left s.ps gone gone.length).map Pc.ent).toArray s.clk) :: (s.N, .cells (s.nx.map (Value.int .u16)).toArray 36 (0, 0)) :: (s.rhb ++ (s.ms.flatMap (·.hb) ++ s.ps.flatMap (·.hb)))) _ := h.right
        dsimp only [RM.H, RM.core, RM.cells, RM.mhb, RM.phb, List.cons_append, List.nil_append]
        exact h2.sublist (.cons_cons _ (.cons_cons _ (.cons_cons _ ((List.Sublist.refl _).append ((List.Sublist.refl _).append (flat_sub _ (hsub _)))))))
      · have hla := left_all hg hs.keys hseen
        dsimp only at hla
        dsimp only [RM.S, RM.L, RM.row, Rm.parts]
        rw [hla, List.filter_map]
        rfl
  · obtain ⟨p, hp, rfl⟩ := List.mem_map.1 he
    have hns' : p.born ∉ seen := hns
    have hmu : s.ps.length - (seen ++ [p.born]).length < s.ps.length - seen.length := by
      have h2 := length_le_of_nodup (seen ++ [p.born]) (s.ps.map (·.born)) (List.nodup_append.2 ⟨hg.nd, by simp, fun a ha b hb => by rw [List.mem_singleton] at hb; subst hb; exact fun h => by subst h; exact hns' ha⟩) (fun b hb => by
        rcases List.mem_append.1 hb with hb | hb
        · exact hg.sin b hb
        · rw [List.mem_singleton] at hb; subst hb; exact List.mem_map.2 ⟨p, hp, rfl⟩)
      simp at h2 ⊢; omega
    repeat' (first | refine S1 ?_ | refine SD ?_ | refine SA (fun _ => ?_) | refine WL.g_split rfl rfl (fun hc => ?_) (fun hc => ?_) | refine WD.g_split rfl rfl (fun hc => ?_) (fun hc => ?_) | refine W.cond rfl (fun hc => ?_) (fun hc => ?_))
    refine WL.s rfl (Rd.ent (e := p.ent) rfl (Foc.here _) (by repeat (first | exact MapAt.here | apply MapAt.there | apply MapAt.right)) he (by have := hbn; simpa [List.map_map, Function.comp_def, Pc.ent] using this)) ?_
    repeat' (first | refine S1 ?_ | refine SD ?_ | refine SA (fun _ => ?_) | refine WL.g_split rfl rfl (fun hc => ?_) (fun hc => ?_) | refine WD.g_split rfl rfl (fun hc => ?_) (fun hc => ?_) | refine W.cond rfl (fun hc => ?_) (fun hc => ?_))
    · refine WL.e rfl (Ef.callR (by exact rfl) subA (less32_tr _ p.d.tsn cum)) ?_
      rintro _ _ ⟨rfl, rfl⟩
      repeat' (first | refine S1 ?_ | refine SD ?_ | refine SA (fun _ => ?_) | refine WL.g_split rfl rfl (fun hc => ?_) (fun hc => ?_) | refine WD.g_split rfl rfl (fun hc => ?_) (fun hc => ?_) | refine W.cond rfl (fun hc => ?_) (fun hc => ?_))
      · refine Fin.round ⟨seen ++ [p.born], gone, va, vn, vc, hb⟩ (hg.skip hbn hp hns' ?_) envA weakA hmu
        unfold doomP
        simp at *
        simp [*]
      · have hle : (p.d.tsn == cum || Rm.less32 p.d.tsn cum) = true := by simp at hc; simp [hc]
        refine WL.e rfl (Ef.callR (by exact rfl) subA (whole_tr _ s.R s.M s.clk s.ps p _ _ _ _ (by omega))) ?_
        rintro _ _ ⟨rfl, rfl⟩
        cases hwh : Rm.whole (s.ps.map (fun x => x.d)) p.d with
        | some fl =>
          obtain ⟨f, l⟩ := fl
          dsimp only [wholeV]
          repeat' (first | refine S1 ?_ | refine SD ?_ | refine SA (fun _ => ?_) | refine WL.g_split rfl rfl (fun hc => ?_) (fun hc => ?_) | refine WD.g_split rfl rfl (fun hc => ?_) (fun hc => ?_) | refine W.cond rfl (fun hc => ?_) (fun hc => ?_))
          refine Fin.round ⟨seen ++ [p.born], gone, va, vn, vc, hb⟩ (hg.skip hbn hp hns' ?_) envA weakA hmu
          unfold doomP
          rw [show whole s.L p.d = some (f, l) from hwh]
          simp
        | none =>
          dsimp only [wholeV]
          repeat' (first | refine S1 ?_ | refine SD ?_ | refine SA (fun _ => ?_) | refine WL.g_split rfl rfl (fun hc => ?_) (fun hc => ?_) | refine WD.g_split rfl rfl (fun hc => ?_) (fun hc => ?_) | refine W.cond rfl (fun hc => ?_) (fun hc => ?_))
          obtain ⟨hf1, hf2⟩ := hg.few
          have hown := hg.own
          dsimp only at hf1 hf2 hown
          refine WL.e rfl (Ef.app (m := 1) (news := p.cells) (by exact rfl) (by exact rfl) rfl rfl hown (.skip _ (.skip _ (.skip _ (.one _ _)))) (Src.own (n := 8) (.here rfl))
            rfl (by simp [Value.oneCell', Pc.cells, Pc.bv]) (by rw [flat_len' Pc.cells 8 (fun _ => rfl)]; simp [Pc.cells]; omega) (by rw [flat_len' Pc.cells 8 (fun _ => rfl)]; simp [maxLen, Pc.cells]; omega)) ?_
          rintro vr _ ⟨hb', hown', rfl⟩
          obtain ⟨va', vn', vc', rfl, _, _⟩ := OwnS.shape hown'
          repeat' (first | refine S1 ?_ | refine SD ?_ | refine SA (fun _ => ?_) | refine WL.g_split rfl rfl (fun hc => ?_) (fun hc => ?_) | refine WD.g_split rfl rfl (fun hc => ?_) (fun hc => ?_) | refine W.cond rfl (fun hc => ?_) (fun hc => ?_))
          refine Fin.round ⟨seen ++ [p.born], gone ++ [p], va', vn', vc', hb'⟩ (hg.add hbn hp hns' ?_ hown') envA (fun _ h => In.of_sub subA h) hmu
          unfold doomP
          rw [show whole s.L p.d = none from hwh, hle]
          rfl
    · have hle : (p.d.tsn == cum || Rm.less32 p.d.tsn cum) = true := by simp at hc; simp [hc]
      refine WL.e rfl (Ef.callR (by exact rfl) subA (whole_tr _ s.R s.M s.clk s.ps p _ _ _ _ (by omega))) ?_
      rintro _ _ ⟨rfl, rfl⟩
      cases hwh : Rm.whole (s.ps.map (fun x => x.d)) p.d with
      | some fl =>
        obtain ⟨f, l⟩ := fl
        dsimp only [wholeV]
        repeat' (first | refine S1 ?_ | refine SD ?_ | refine SA (fun _ => ?_) | refine WL.g_split rfl rfl (fun hc => ?_) (fun hc => ?_) | refine WD.g_split rfl rfl (fun hc => ?_) (fun hc => ?_) | refine W.cond rfl (fun hc => ?_) (fun hc => ?_))
        refine Fin.round ⟨seen ++ [p.born], gone, va, vn, vc, hb⟩ (hg.skip hbn hp hns' ?_) envA weakA hmu
        unfold doomP
        rw [show whole s.L p.d = some (f, l) from hwh]
        simp
      | none =>
        dsimp only [wholeV]
        repeat' (first | refine S1 ?_ | refine SD ?_ | refine SA (fun _ => ?_) | refine WL.g_split rfl rfl (fun hc => ?_) (fun hc => ?_) | refine WD.g_split rfl rfl (fun hc => ?_) (fun hc => ?_) | refine W.cond rfl (fun hc => ?_) (fun hc => ?_))
        obtain ⟨hf1, hf2⟩ := hg.few
        have hown := hg.own
        dsimp only at hf1 hf2 hown
        refine WL.e rfl (Ef.app (m := 1) (news := p.cells) (by exact rfl) (by exact rfl) rfl rfl hown (.skip _ (.skip _ (.skip _ (.one _ _)))) (Src.own (n := 8) (.here rfl))
          rfl (by simp [Value.oneCell', Pc.cells, Pc.bv]) (by rw [flat_len' Pc.cells 8 (fun _ => rfl)]; simp [Pc.cells]; omega) (by rw [flat_len' Pc.cells 8 (fun _ => rfl)]; simp [maxLen, Pc.cells]; omega)) ?_
        rintro vr _ ⟨hb', hown', rfl⟩
        obtain ⟨va', vn', vc', rfl, _, _⟩ := OwnS.shape hown'
        repeat' (first | refine S1 ?_ | refine SD ?_ | refine SA (fun _ => ?_) | refine WL.g_split rfl rfl (fun hc => ?_) (fun hc => ?_) | refine WD.g_split rfl rfl (fun hc => ?_) (fun hc => ?_) | refine W.cond rfl (fun hc => ?_) (fun hc => ?_))
        refine Fin.round ⟨seen ++ [p.born], gone ++ [p], va', vn', vc', hb'⟩ (hg.add hbn hp hns' ?_ hown') envA (fun _ h => In.of_sub subA h) hmu
        unfold doomP
        rw [show whole s.L p.d = none from hwh, hle]
        rfl
end Go.Proofs.YthjglhdjlmjffaaGreat
