/- The reassembler's method 'Put', walked: a piece is taken or refused as the plain function says. Conditions: fewer than a million pieces were put ahead of it, and all bytes are at most 10^9. -/
import Derived.Test.YthjglhdjlmjffaaGreatRmF
namespace Go.Proofs.YthjglhdjlmjffaaGreat
open Go Go.Sl Go.Rm

def dCells (d : D) (bv : Value) : List Value := [.int .u32 d.tsn, .int .u16 d.stream, .int .u16 d.ssn, .bool d.un, .bool d.fi, .bool d.la, bv]

theorem put_nil (F : Nat → Option Obj) (d : D) (bv : Value) : Tr Tryz.prog 78 [.pointer none, .agg (dCells d bv).toArray].toArray F [] (fun v H => v = .int .i64 2 ∧ H = []) := by
  refine Tr.enter Tryz.func78 rfl Tryz.ntmps78 rfl (fun w0 => ?_)
  unfold dCells
  repeat' (first | refine S1 ?_ | refine SD ?_ | refine SA (fun _ => ?_) | refine WL.g_split rfl rfl (fun hc => ?_) (fun hc => ?_) | refine WD.g_split rfl rfl (fun hc => ?_) (fun hc => ?_) | refine W.cond rfl (fun hc => ?_) (fun hc => ?_))
  exact Fin.retW (by exact rfl) resA weakA ⟨rfl, rfl⟩

/-- a piece more -/
theorem RM.ok.more {s : RM} (h : s.ok) {d : D} {sa : Option Addr} {sn sc : Nat} {hb : HL} (hown : OwnS 5 1 (d.bytes.map B) (.slice sa sn sc) hb) (hat : at? s.L d.tsn = none) (h32 : 0 ≤ d.tsn ∧ d.tsn < 4294967296) (hfew : s.turns < 1000000) (htot : totD s.L + totM s.row + d.bytes.length ≤ 1000000000) :
    ({ s with ps := s.ps ++ [⟨d, sa, sn, sc, hb, s.turns, s.clk⟩], clk := s.clk + 1, turns := s.turns + 1, held := s.held + d.bytes.length } : RM).ok := by
  have hmem : ∀ {q : Pc}, q ∈ s.ps ++ [⟨d, sa, sn, sc, hb, s.turns, s.clk⟩] → q ∈ s.ps ∨ q = ⟨d, sa, sn, sc, hb, s.turns, s.clk⟩ := fun h => by
    rcases List.mem_append.1 h with h | h
    · exact .inl h
    · exact .inr (List.mem_singleton.1 h)
  have hat' : ∀ q ∈ s.ps, q.d.tsn ≠ d.tsn := fun q hq he => by
    unfold at? RM.L at hat
    rw [List.find?_eq_none] at hat
    exact hat q.d (List.mem_map.2 ⟨q, hq, rfl⟩) (by simp [he])
  have hnn : 0 ≤ s.turns := by have := h.few; omega
  refine ⟨fun q hq => ?_, h.mok, h.row, ?_, fun q hq => ?_, ?_, fun q hq => ?_, ?_, fun q hq => ?_, ?_, ?_, ?_, ?_⟩
  · rcases hmem hq with hq | rfl
    · exact h.pok q hq
    · exact hown
  · dsimp only
    rw [List.map_append, List.nodup_append]
    refine ⟨h.born, by simp, fun a ha b hb => ?_⟩
    obtain ⟨q, hq, rfl⟩ := List.mem_map.1 ha
    simp at hb
    have := h.old q hq
    omega
  · dsimp only
    rcases hmem hq with hq | rfl
    · have := h.old q hq; omega
    · dsimp only; omega
  · dsimp only
    rw [List.pairwise_append]
    refine ⟨h.turn, by simp, fun a ha b hb => ?_⟩
    rw [List.mem_singleton] at hb
    subst hb
    exact (h.turns a ha).2
  · dsimp only
    rcases hmem hq with hq | rfl
    · have := h.turns q hq; omega
    · dsimp only; omega
  · dsimp only
    rw [List.map_append, List.nodup_append]
    refine ⟨h.keys, by simp, fun a ha b hb => ?_⟩
    obtain ⟨q, hq, rfl⟩ := List.mem_map.1 ha
    simp at hb
    rw [hb]
    exact hat' q hq
  · rcases hmem hq with hq | rfl
    · exact h.wf q hq
    · exact h32
  · have := h.held
    dsimp only [RM.L, RM.row] at this ⊢
    rw [this]
    simp [totD]
    omega
  · have := h.few
    dsimp only
    simp
    omega
  · dsimp only; omega
  · dsimp only [RM.L, RM.row] at htot ⊢
    simp [totD] at htot ⊢
    omega

theorem RM.HX (s : RM) (X : HL) : s.H ++ X = (s.R, .cells [.map (some s.M), .int .i64 s.turns, .slice (some ⟨s.N, 0, none⟩) s.nx.length s.nx.length, .slice s.ra s.rn s.rc, .int .i64 s.held].toArray 100 (0, 0)) ::
    (s.M, .map (s.ps.map Pc.ent).toArray s.clk) :: (s.N, .cells (s.nx.map (Value.int .u16)).toArray 36 (0, 0)) :: (s.rhb ++ (s.ms.flatMap (·.hb) ++ (s.ps.flatMap (·.hb) ++ X))) := by
  simp only [RM.H, RM.core, RM.cells, RM.mhb, RM.phb, List.cons_append, List.nil_append, List.append_assoc]
/-- what 'Put' answers and leaves -/
def PutQ (s : RM) (X : HL) (d : D) (v : Value) (H : HL) : Prop := v = .int .i64 (putE s.S d) ∧ ∃ s' : RM, s'.ok ∧ H = s'.H ++ X ∧ s'.R = s.R ∧ s'.turns ≤ s.turns + 1 ∧ s'.S = Rm.put s.S d ∧ s'.nx.length = s.nx.length
theorem PutQ.same {s : RM} (hs : s.ok) {X : HL} {d : D} {e : Int} (h : putE s.S d = e) (h0 : e ≠ 0) : PutQ s X d (.int .i64 e) (s.H ++ X) :=
  ⟨by rw [h], s, hs, rfl, rfl, by omega, by unfold put; rw [if_neg (by omega)], rfl⟩

set_option maxHeartbeats 4000000 in
theorem put_tr (F : Nat → Option Obj) (X : HL) (s : RM) (hs : s.ok) (d : D) (sa : Option Addr) (m sc : Nat) (hsrc : Src F X (.slice sa m sc) m (d.bytes.map B)) (hm : d.bytes.length = m)
    (h16 : 0 ≤ d.stream) (h65 : d.stream < 65536) (h32 : 0 ≤ d.tsn ∧ d.tsn < 4294967296) (hfew : s.turns < 1000000) (htot : totD s.L + totM s.row + m ≤ 1000000000) (_hnx : s.nx.length < 1000000) :
    Tr Tryz.prog 78 [.pointer (some ⟨s.R, 0, none⟩), .agg (dCells d (.slice sa m sc)).toArray].toArray F (s.H ++ X) (PutQ s X d) := by
  refine Tr.enter Tryz.func78 rfl Tryz.ntmps78 rfl (fun w0 => ?_)
  rw [RM.HX]
  unfold dCells
  generalize hnxt : s.nx.getD d.stream.toNat 0 = nxt
  have hw : IntKind.i64.wrap d.stream = d.stream := i64_id (by omega) (by omega)
  by_cases hst : d.stream < s.nx.length
  rotate_left
  · have hE : putE s.S d = 4 := by unfold putE; rw [if_pos (by dsimp only [RM.S]; omega)]
    repeat' (first | refine S1 ?_ | refine SD ?_ | refine SA (fun _ => ?_) | refine WL.g_split rfl rfl (fun hc => ?_) (fun hc => ?_) | refine WD.g_split rfl rfl (fun hc => ?_) (fun hc => ?_) | refine W.cond rfl (fun hc => ?_) (fun hc => ?_))
    · exact Fin.retW (by exact rfl) resA (H' := s.H ++ X) (fun _ h => by rw [RM.HX]; exact h.sublist (.cons _ (.refl _))) (PutQ.same (e := 4) hs hE (by decide))
    all_goals
      exfalso
      simp only [hw, decide_eq_false_iff_not] at *
      omega
  have hst2 : 0 ≤ d.stream ∧ d.stream < s.nx.length := ⟨h16, hst⟩
  have hN : (s.nx.map (Value.int .u16))[0 + d.stream.toNat * 1]? = some (.int .u16 nxt) := by
    have hlt : d.stream.toNat < s.nx.length := by omega
    rw [Nat.zero_add, Nat.mul_one, List.getElem?_map, ← hnxt]
    simp [hlt]
  repeat' (first | refine S1 ?_ | refine SD ?_ | refine SA (fun _ => ?_) | refine WL.g_split rfl rfl (fun hc => ?_) (fun hc => ?_) | refine WD.g_split rfl rfl (fun hc => ?_) (fun hc => ?_) | refine W.cond rfl (fun hc => ?_) (fun hc => ?_))
  · exfalso
    simp only [hw, decide_eq_true_eq] at *
    omega
  · refine Fin.retW (by exact rfl) resA (H' := s.H ++ X) (fun _ h => by rw [RM.HX]; exact h.sublist (.cons _ (.refl _))) (PutQ.same (e := 5) hs ?_ (by decide))
    unfold putE
    rw [if_neg (by dsimp only [RM.S]; omega), if_pos (by simp at hc; exact List.eq_nil_of_length_eq_zero (by omega))]
  · -- an ordered piece
    have hne : ¬ d.bytes = [] := by intro h; simp [h] at hm; subst hm; simp at *
    obtain ⟨a, rfl⟩ : ∃ a, sa = some a := by
      rcases hsrc with ⟨_, _, h, _⟩ | ⟨a, _, h, _⟩
      · subst h; exact absurd (List.eq_nil_of_length_eq_zero hm) hne
      · cases h; exact ⟨a, rfl⟩
    have hun : d.un = false := by simpa using hc
    refine WD.e rfl (Ef.callR (by exact rfl) subA (less16_tr _ _ _)) ?_
    rintro _ _ ⟨rfl, rfl⟩
    refine ⟨by first | (refine Or.inr (fun _ h => h.sublist ?_); (repeat (first | exact List.Sublist.refl _ | refine List.Sublist.cons_cons _ ?_ | refine List.Sublist.cons _ ?_)); first | done | fail) | exact Or.inl (by kernel_rfl), ?_⟩
    repeat' (first | refine S1 ?_ | refine SD ?_ | refine SA (fun _ => ?_) | refine WL.g_split rfl rfl (fun hc => ?_) (fun hc => ?_) | refine WD.g_split rfl rfl (fun hc => ?_) (fun hc => ?_) | refine W.cond rfl (fun hc => ?_) (fun hc => ?_))
    · refine Fin.retW (by exact rfl) resA (H' := s.H ++ X) (fun _ h => by rw [RM.HX]; exact h.sublist (.cons _ (.refl _))) (PutQ.same (e := 1) hs ?_ (by decide))
      unfold putE
      rw [if_neg (by dsimp only [RM.S]; omega), if_neg (by intro h; simp [h] at hm; subst hm; simp at *), if_pos (by dsimp only [RM.S]; rw [hnxt, hc, hun]; rfl)]
    have hord : (!d.un && Rm.less16 d.ssn nxt) = false := by rw [hc]; simp
    have hE : (at? s.L d.tsn) = none → putE s.S d = 0 := fun h => by
      unfold putE
      rw [if_neg (by dsimp only [RM.S]; omega), if_neg hne, if_neg (by dsimp only [RM.S]; rw [hnxt, hord]; simp), if_neg (by dsimp only [RM.S]; rw [h]; simp)]
    cases hat : s.ps.find? (fun q => d.tsn == q.d.tsn) with
    | some q =>
      refine WD.s rfl (Rd.lk2_some (v := .agg q.cells.toArray) rfl rfl (by repeat (first | exact MapAt.here | apply MapAt.there | apply MapAt.right)) (keysOk_ent _) (by rw [mfind_ent, hat]; rfl)) ?_
      repeat' (first | refine S1 ?_ | refine SD ?_ | refine SA (fun _ => ?_) | refine WL.g_split rfl rfl (fun hc => ?_) (fun hc => ?_) | refine WD.g_split rfl rfl (fun hc => ?_) (fun hc => ?_) | refine W.cond rfl (fun hc => ?_) (fun hc => ?_))
      refine Fin.retW (by exact rfl) resA (H' := s.H ++ X) (fun _ h => by rw [RM.HX]; exact h.sublist (.cons _ (.cons _ (.refl _)))) (PutQ.same (e := 1) hs ?_ (by decide))
      unfold putE
      rw [if_neg (by dsimp only [RM.S]; omega), if_neg hne, if_neg (by dsimp only [RM.S]; rw [hnxt, hord]; simp), if_pos (by dsimp only [RM.S, RM.L]; rw [at_pc, hat]; rfl)]
    | none =>
      have hat2 : at? s.L d.tsn = none := by unfold RM.L; rw [at_pc, hat]; rfl
      refine WD.s rfl (Rd.lk2_none rfl rfl (by repeat (first | exact MapAt.here | apply MapAt.there | apply MapAt.right)) (keysOk_ent _) (by rw [mfind_ent, hat]; rfl)) ?_
      repeat' (first | refine S1 ?_ | refine SD ?_ | refine SA (fun _ => ?_) | refine WL.g_split rfl rfl (fun hc => ?_) (fun hc => ?_) | refine WD.g_split rfl rfl (fun hc => ?_) (fun hc => ?_) | refine W.cond rfl (fun hc => ?_) (fun hc => ?_))
      rename_i b3 b5
      refine WL.e rfl (Ef.call (by exact rfl) (.all _) (clone_tr _ _ a sc m d.bytes (Src.mono hsrc (fun _ h => h.sublist (.cons _ (.cons _ (.cons _ (.cons _ (.cons _ ((List.sublist_append_right _ _).trans ((List.sublist_append_right _ _).trans (List.sublist_append_right _ _)))))))))) hm (by omega))) ?_
      rintro _ _ ⟨_, ⟨sa', sn', sc', hb', rfl, hown, rfl⟩, rfl⟩
      have hsn : sn' = m := by
        obtain ⟨_, _, _, he, hl, _⟩ := OwnS.shape hown
        cases he; simp at hl; omega
      subst hsn
      rw [List.append_nil]
      have hwt : IntKind.i64.wrap (s.turns + 1) = s.turns + 1 := i64_id (by have := hs.few; omega) (by omega)
      have hwh : IntKind.i64.wrap (s.held + sn') = s.held + sn' := by have := hs.held; exact i64_id (by omega) (by omega)
      have hent : s.ps.map Pc.ent ++ [MapEntry.mk (.int .u32 d.tsn) (.agg ((⟨d, sa', sn', sc', hb', s.turns, s.clk⟩ : Pc)).cells.toArray) s.clk] = (s.ps ++ [(⟨d, sa', sn', sc', hb', s.turns, s.clk⟩ : Pc)]).map Pc.ent := by rw [List.map_append]; rfl
      have hok1 : (({ s with ps := s.ps ++ [(⟨d, sa', sn', sc', hb', s.turns, s.clk⟩ : Pc)], clk := s.clk + 1, turns := s.turns + 1, held := s.held + sn' } : RM)).ok := by have h := hs.more hown hat2 h32 hfew (by omega); rw [hm] at h; exact h
      have hH1 : (({ s with ps := s.ps ++ [(⟨d, sa', sn', sc', hb', s.turns, s.clk⟩ : Pc)], clk := s.clk + 1, turns := s.turns + 1, held := s.held + sn' } : RM)).H = (s.R, .cells [.map (some s.M), .int .i64 (s.turns + 1), .slice (some ⟨s.N, 0, none⟩) s.nx.length s.nx.length, .slice s.ra s.rn s.rc, .int .i64 (s.held + sn')].toArray 100 (0, 0)) ::
        (s.M, .map ((s.ps ++ [(⟨d, sa', sn', sc', hb', s.turns, s.clk⟩ : Pc)]).map Pc.ent).toArray (s.clk + 1)) :: (s.N, .cells (s.nx.map (Value.int .u16)).toArray 36 (0, 0)) :: (s.rhb ++ (s.ms.flatMap (·.hb) ++ (s.ps.flatMap (·.hb) ++ hb'))) := by
        rw [← List.append_nil (RM.H _), RM.HX]
        simp only [List.flatMap_append, List.flatMap_cons, List.flatMap_nil, List.append_nil]
      have hL1 : (({ s with ps := s.ps ++ [(⟨d, sa', sn', sc', hb', s.turns, s.clk⟩ : Pc)], clk := s.clk + 1, turns := s.turns + 1, held := s.held + sn' } : RM)).L = s.L ++ [d] := by dsimp only [RM.L]; rw [List.map_append]; rfl
      repeat' (first | refine S1 ?_ | refine SD ?_ | refine SA (fun _ => ?_) | refine WL.g_split rfl rfl (fun hc => ?_) (fun hc => ?_) | refine WD.g_split rfl rfl (fun hc => ?_) (fun hc => ?_) | refine W.cond rfl (fun hc => ?_) (fun hc => ?_))
      refine WD.e0 (Ef.mu_new (v := .agg ((⟨d, sa', sn', sc', hb', s.turns, s.clk⟩ : Pc)).cells.toArray) rfl rfl rfl (by repeat (first | exact MapAt.here | apply MapAt.there | apply MapAt.right)) (keysOk_ent _) (by rw [mfind_ent, hat]; rfl)) ?_
      rintro _ _ ⟨rfl, rfl⟩
      refine ⟨by first | (refine Or.inr (fun _ h => h.sublist ?_); (repeat (first | exact List.Sublist.refl _ | refine List.Sublist.cons_cons _ ?_ | refine List.Sublist.cons _ ?_)); first | done | fail) | exact Or.inl (by kernel_rfl), ?_⟩
      rw [hwt, hwh, hent]
      have hput : Rm.put s.S d = put1 s.S d := by unfold put; rw [if_pos (hE hat2)]
      have hS1 : (({ s with ps := s.ps ++ [(⟨d, sa', sn', sc', hb', s.turns, s.clk⟩ : Pc)], clk := s.clk + 1, turns := s.turns + 1, held := s.held + sn' } : RM)).S = ⟨s.L ++ [d], s.row, s.nx⟩ := by unfold RM.S; rw [hL1]; rfl
      repeat' (first | refine S1 ?_ | refine SD ?_ | refine SA (fun _ => ?_) | refine WL.g_split rfl rfl (fun hc => ?_) (fun hc => ?_) | refine WD.g_split rfl rfl (fun hc => ?_) (fun hc => ?_) | refine W.cond rfl (fun hc => ?_) (fun hc => ?_))
      · have hun' : d.un = false := by simpa using hc
        refine WL.e rfl (Ef.call (c := (({ s with ps := s.ps ++ [(⟨d, sa', sn', sc', hb', s.turns, s.clk⟩ : Pc)], clk := s.clk + 1, turns := s.turns + 1, held := s.held + sn' } : RM)).H) (by exact rfl) (by rw [hH1]; exact subA) (on_tr _ ({ s with ps := s.ps ++ [(⟨d, sa', sn', sc', hb', s.turns, s.clk⟩ : Pc)], clk := s.clk + 1, turns := s.turns + 1, held := s.held + sn' } : RM) hok1 d.stream hst2)) ?_
        rintro _ _ ⟨_, ⟨rfl, s', hs', rfl, hR', htu', hS', hnl', _⟩, rfl⟩
        repeat' (first | refine S1 ?_ | refine SD ?_ | refine SA (fun _ => ?_) | refine WL.g_split rfl rfl (fun hc => ?_) (fun hc => ?_) | refine WD.g_split rfl rfl (fun hc => ?_) (fun hc => ?_) | refine W.cond rfl (fun hc => ?_) (fun hc => ?_))
        refine Fin.retW (by exact rfl) resA (H' := s'.H ++ X) (fun _ h => h.sublist ((List.Sublist.refl _).append (by (repeat (first | exact List.Sublist.refl _ | refine List.Sublist.cons_cons _ ?_ | refine List.Sublist.cons _ ?_))))) ⟨by rw [hE hat2]; rfl, s', hs', rfl, hR', Int.le_of_eq htu', ?_, hnl'⟩
        rw [hS', hS1, hput]
        unfold put1
        rw [if_neg (by simp [hun'])]
        rfl
      · have hun' : d.un = true := by simpa using hc
        have hlen : (s.ps ++ [(⟨d, sa', sn', sc', hb', s.turns, s.clk⟩ : Pc)]).length < 1000002 := by have := hs.few; simp only [List.length_append, List.length_cons, List.length_nil]; omega
        refine WL.e rfl (Ef.callR (by exact rfl) subA (whole_tr _ s.R s.M (s.clk + 1) (s.ps ++ [(⟨d, sa', sn', sc', hb', s.turns, s.clk⟩ : Pc)]) (⟨d, sa', sn', sc', hb', s.turns, s.clk⟩ : Pc) _ _ _ _ (by omega))) ?_
        rintro _ _ ⟨rfl, rfl⟩
        have hwl : (s.ps ++ [(⟨d, sa', sn', sc', hb', s.turns, s.clk⟩ : Pc)]).map (fun x => x.d) = s.L ++ [d] := hL1
        rw [hwl]
        cases hwh : Rm.whole (s.L ++ [d]) d with
        | none =>
          dsimp only [wholeV]
          repeat' (first | refine S1 ?_ | refine SD ?_ | refine SA (fun _ => ?_) | refine WL.g_split rfl rfl (fun hc => ?_) (fun hc => ?_) | refine WD.g_split rfl rfl (fun hc => ?_) (fun hc => ?_) | refine W.cond rfl (fun hc => ?_) (fun hc => ?_))
          refine Fin.retW (by exact rfl) resA (H' := (({ s with ps := s.ps ++ [(⟨d, sa', sn', sc', hb', s.turns, s.clk⟩ : Pc)], clk := s.clk + 1, turns := s.turns + 1, held := s.held + sn' } : RM)).H ++ X) (fun _ h => ?_) ⟨by rw [hE hat2]; rfl, ({ s with ps := s.ps ++ [(⟨d, sa', sn', sc', hb', s.turns, s.clk⟩ : Pc)], clk := s.clk + 1, turns := s.turns + 1, held := s.held + sn' } : RM), hok1, rfl, rfl, Int.le_refl _, ?_, rfl⟩
          · rw [hH1]
            simp only [List.cons_append, List.append_assoc]
            exact In.of_sub subA h
          · rw [hS1, hput]
            unfold put1
            rw [if_pos hun', show whole (s.S.L ++ [d]) d = none from hwh]
            rfl
        | some fl =>
          obtain ⟨f, l⟩ := fl
          have hatd : at? (s.L ++ [d]) d.tsn = some d := by
            unfold at? at hat2 ⊢
            rw [List.find?_append, hat2]
            simp
          obtain ⟨hf1, n, hn1, hl1, _, _, hall1⟩ := whole_run hatd h32 (by rw [← hL1]; simp only [RM.L, List.length_map]; omega) hwh
          dsimp only [wholeV]
          repeat' (first | refine S1 ?_ | refine SD ?_ | refine SA (fun _ => ?_) | refine WL.g_split rfl rfl (fun hc => ?_) (fun hc => ?_) | refine WD.g_split rfl rfl (fun hc => ?_) (fun hc => ?_) | refine W.cond rfl (fun hc => ?_) (fun hc => ?_))
          refine WL.e rfl (Ef.call (c := (({ s with ps := s.ps ++ [(⟨d, sa', sn', sc', hb', s.turns, s.clk⟩ : Pc)], clk := s.clk + 1, turns := s.turns + 1, held := s.held + sn' } : RM)).H) (by exact rfl) (by rw [hH1]; exact subA) (ready_tr _ ({ s with ps := s.ps ++ [(⟨d, sa', sn', sc', hb', s.turns, s.clk⟩ : Pc)], clk := s.clk + 1, turns := s.turns + 1, held := s.held + sn' } : RM) hok1 f l n hf1 hn1 hl1 (fun i hi => let ⟨e, he, _⟩ := hall1 i hi; ⟨e, by rw [hL1]; exact he⟩))) ?_
          rintro _ _ ⟨_, ⟨rfl, s', hs', rfl, hR', hnx', htu', hLr, _⟩, rfl⟩
          repeat' (first | refine S1 ?_ | refine SD ?_ | refine SA (fun _ => ?_) | refine WL.g_split rfl rfl (fun hc => ?_) (fun hc => ?_) | refine WD.g_split rfl rfl (fun hc => ?_) (fun hc => ?_) | refine W.cond rfl (fun hc => ?_) (fun hc => ?_))
          refine Fin.retW (by exact rfl) resA (H' := s'.H ++ X) (fun _ h => h.sublist ((List.Sublist.refl _).append (by (repeat (first | exact List.Sublist.refl _ | refine List.Sublist.cons_cons _ ?_ | refine List.Sublist.cons _ ?_))))) ⟨by rw [hE hat2]; rfl, s', hs', rfl, hR', Int.le_of_eq htu', ?_, by rw [hnx']⟩
          rw [hput]
          unfold put1
          rw [if_pos hun', show whole (s.S.L ++ [d]) d = some (f, l) from hwh]
          rw [hL1] at hLr
          have e1 := congrArg Prod.fst hLr
          have e2 := congrArg Prod.snd hLr
          dsimp only at e1 e2
          dsimp only [RM.S]
          rw [e1, e2, hnx']
          rfl
  · have hun : d.un = true := by simpa using hc
    have hne : ¬ d.bytes = [] := by intro h; simp [h] at hm; subst hm; simp at *
    obtain ⟨a, rfl⟩ : ∃ a, sa = some a := by
      rcases hsrc with ⟨_, _, h, _⟩ | ⟨a, _, h, _⟩
      · subst h; exact absurd (List.eq_nil_of_length_eq_zero hm) hne
      · cases h; exact ⟨a, rfl⟩
    have hord : (!d.un && Rm.less16 d.ssn nxt) = false := by rw [hc]; rfl
    have hE : (at? s.L d.tsn) = none → putE s.S d = 0 := fun h => by
      unfold putE
      rw [if_neg (by dsimp only [RM.S]; omega), if_neg hne, if_neg (by dsimp only [RM.S]; rw [hnxt, hord]; simp), if_neg (by dsimp only [RM.S]; rw [h]; simp)]
    cases hat : s.ps.find? (fun q => d.tsn == q.d.tsn) with
    | some q =>
      refine WD.s rfl (Rd.lk2_some (v := .agg q.cells.toArray) rfl rfl (by repeat (first | exact MapAt.here | apply MapAt.there | apply MapAt.right)) (keysOk_ent _) (by rw [mfind_ent, hat]; rfl)) ?_
      repeat' (first | refine S1 ?_ | refine SD ?_ | refine SA (fun _ => ?_) | refine WL.g_split rfl rfl (fun hc => ?_) (fun hc => ?_) | refine WD.g_split rfl rfl (fun hc => ?_) (fun hc => ?_) | refine W.cond rfl (fun hc => ?_) (fun hc => ?_))
      refine Fin.retW (by exact rfl) resA (H' := s.H ++ X) (fun _ h => by rw [RM.HX]; exact h.sublist (.cons _ (.cons _ (.refl _)))) (PutQ.same (e := 1) hs ?_ (by decide))
      unfold putE
      rw [if_neg (by dsimp only [RM.S]; omega), if_neg hne, if_neg (by dsimp only [RM.S]; rw [hnxt, hord]; simp), if_pos (by dsimp only [RM.S, RM.L]; rw [at_pc, hat]; rfl)]
    | none =>
      have hat2 : at? s.L d.tsn = none := by unfold RM.L; rw [at_pc, hat]; rfl
      refine WD.s rfl (Rd.lk2_none rfl rfl (by repeat (first | exact MapAt.here | apply MapAt.there | apply MapAt.right)) (keysOk_ent _) (by rw [mfind_ent, hat]; rfl)) ?_
      repeat' (first | refine S1 ?_ | refine SD ?_ | refine SA (fun _ => ?_) | refine WL.g_split rfl rfl (fun hc => ?_) (fun hc => ?_) | refine WD.g_split rfl rfl (fun hc => ?_) (fun hc => ?_) | refine W.cond rfl (fun hc => ?_) (fun hc => ?_))
      rename_i b3 b5
      refine WL.e rfl (Ef.call (by exact rfl) (.all _) (clone_tr _ _ a sc m d.bytes (Src.mono hsrc (fun _ h => h.sublist (.cons _ (.cons _ (.cons _ (.cons _ (.cons _ ((List.sublist_append_right _ _).trans ((List.sublist_append_right _ _).trans (List.sublist_append_right _ _)))))))))) hm (by omega))) ?_
      rintro _ _ ⟨_, ⟨sa', sn', sc', hb', rfl, hown, rfl⟩, rfl⟩
      have hsn : sn' = m := by
        obtain ⟨_, _, _, he, hl, _⟩ := OwnS.shape hown
        cases he; simp at hl; omega
      subst hsn
      rw [List.append_nil]
      have hwt : IntKind.i64.wrap (s.turns + 1) = s.turns + 1 := i64_id (by have := hs.few; omega) (by omega)
      have hwh : IntKind.i64.wrap (s.held + sn') = s.held + sn' := by have := hs.held; exact i64_id (by omega) (by omega)
      have hent : s.ps.map Pc.ent ++ [MapEntry.mk (.int .u32 d.tsn) (.agg ((⟨d, sa', sn', sc', hb', s.turns, s.clk⟩ : Pc)).cells.toArray) s.clk] = (s.ps ++ [(⟨d, sa', sn', sc', hb', s.turns, s.clk⟩ : Pc)]).map Pc.ent := by rw [List.map_append]; rfl
      have hok1 : (({ s with ps := s.ps ++ [(⟨d, sa', sn', sc', hb', s.turns, s.clk⟩ : Pc)], clk := s.clk + 1, turns := s.turns + 1, held := s.held + sn' } : RM)).ok := by have h := hs.more hown hat2 h32 hfew (by omega); rw [hm] at h; exact h
      have hH1 : (({ s with ps := s.ps ++ [(⟨d, sa', sn', sc', hb', s.turns, s.clk⟩ : Pc)], clk := s.clk + 1, turns := s.turns + 1, held := s.held + sn' } : RM)).H = (s.R, .cells [.map (some s.M), .int .i64 (s.turns + 1), .slice (some ⟨s.N, 0, none⟩) s.nx.length s.nx.length, .slice s.ra s.rn s.rc, .int .i64 (s.held + sn')].toArray 100 (0, 0)) ::
        (s.M, .map ((s.ps ++ [(⟨d, sa', sn', sc', hb', s.turns, s.clk⟩ : Pc)]).map Pc.ent).toArray (s.clk + 1)) :: (s.N, .cells (s.nx.map (Value.int .u16)).toArray 36 (0, 0)) :: (s.rhb ++ (s.ms.flatMap (·.hb) ++ (s.ps.flatMap (·.hb) ++ hb'))) := by
        rw [← List.append_nil (RM.H _), RM.HX]
        simp only [List.flatMap_append, List.flatMap_cons, List.flatMap_nil, List.append_nil]
      have hL1 : (({ s with ps := s.ps ++ [(⟨d, sa', sn', sc', hb', s.turns, s.clk⟩ : Pc)], clk := s.clk + 1, turns := s.turns + 1, held := s.held + sn' } : RM)).L = s.L ++ [d] := by dsimp only [RM.L]; rw [List.map_append]; rfl
      repeat' (first | refine S1 ?_ | refine SD ?_ | refine SA (fun _ => ?_) | refine WL.g_split rfl rfl (fun hc => ?_) (fun hc => ?_) | refine WD.g_split rfl rfl (fun hc => ?_) (fun hc => ?_) | refine W.cond rfl (fun hc => ?_) (fun hc => ?_))
      refine WD.e0 (Ef.mu_new (v := .agg ((⟨d, sa', sn', sc', hb', s.turns, s.clk⟩ : Pc)).cells.toArray) rfl rfl rfl (by repeat (first | exact MapAt.here | apply MapAt.there | apply MapAt.right)) (keysOk_ent _) (by rw [mfind_ent, hat]; rfl)) ?_
      rintro _ _ ⟨rfl, rfl⟩
      refine ⟨by first | (refine Or.inr (fun _ h => h.sublist ?_); (repeat (first | exact List.Sublist.refl _ | refine List.Sublist.cons_cons _ ?_ | refine List.Sublist.cons _ ?_)); first | done | fail) | exact Or.inl (by kernel_rfl), ?_⟩
      rw [hwt, hwh, hent]
      have hput : Rm.put s.S d = put1 s.S d := by unfold put; rw [if_pos (hE hat2)]
      have hS1 : (({ s with ps := s.ps ++ [(⟨d, sa', sn', sc', hb', s.turns, s.clk⟩ : Pc)], clk := s.clk + 1, turns := s.turns + 1, held := s.held + sn' } : RM)).S = ⟨s.L ++ [d], s.row, s.nx⟩ := by unfold RM.S; rw [hL1]; rfl
      repeat' (first | refine S1 ?_ | refine SD ?_ | refine SA (fun _ => ?_) | refine WL.g_split rfl rfl (fun hc => ?_) (fun hc => ?_) | refine WD.g_split rfl rfl (fun hc => ?_) (fun hc => ?_) | refine W.cond rfl (fun hc => ?_) (fun hc => ?_))
      · have hun' : d.un = false := by simpa using hc
        refine WL.e rfl (Ef.call (c := (({ s with ps := s.ps ++ [(⟨d, sa', sn', sc', hb', s.turns, s.clk⟩ : Pc)], clk := s.clk + 1, turns := s.turns + 1, held := s.held + sn' } : RM)).H) (by exact rfl) (by rw [hH1]; exact subA) (on_tr _ ({ s with ps := s.ps ++ [(⟨d, sa', sn', sc', hb', s.turns, s.clk⟩ : Pc)], clk := s.clk + 1, turns := s.turns + 1, held := s.held + sn' } : RM) hok1 d.stream hst2)) ?_
        rintro _ _ ⟨_, ⟨rfl, s', hs', rfl, hR', htu', hS', hnl', _⟩, rfl⟩
        repeat' (first | refine S1 ?_ | refine SD ?_ | refine SA (fun _ => ?_) | refine WL.g_split rfl rfl (fun hc => ?_) (fun hc => ?_) | refine WD.g_split rfl rfl (fun hc => ?_) (fun hc => ?_) | refine W.cond rfl (fun hc => ?_) (fun hc => ?_))
        refine Fin.retW (by exact rfl) resA (H' := s'.H ++ X) (fun _ h => h.sublist ((List.Sublist.refl _).append (by (repeat (first | exact List.Sublist.refl _ | refine List.Sublist.cons_cons _ ?_ | refine List.Sublist.cons _ ?_))))) ⟨by rw [hE hat2]; rfl, s', hs', rfl, hR', Int.le_of_eq htu', ?_, hnl'⟩
        rw [hS', hS1, hput]
        unfold put1
        rw [if_neg (by simp [hun'])]
        rfl
      · have hun' : d.un = true := by simpa using hc
        have hlen : (s.ps ++ [(⟨d, sa', sn', sc', hb', s.turns, s.clk⟩ : Pc)]).length < 1000002 := by have := hs.few; simp only [List.length_append, List.length_cons, List.length_nil]; omega
        refine WL.e rfl (Ef.callR (by exact rfl) subA (whole_tr _ s.R s.M (s.clk + 1) (s.ps ++ [(⟨d, sa', sn', sc', hb', s.turns, s.clk⟩ : Pc)]) (⟨d, sa', sn', sc', hb', s.turns, s.clk⟩ : Pc) _ _ _ _ (by omega))) ?_
        rintro _ _ ⟨rfl, rfl⟩
        have hwl : (s.ps ++ [(⟨d, sa', sn', sc', hb', s.turns, s.clk⟩ : Pc)]).map (fun x => x.d) = s.L ++ [d] := hL1
        rw [hwl]
        cases hwh : Rm.whole (s.L ++ [d]) d with
        | none =>
          dsimp only [wholeV]
          repeat' (first | refine S1 ?_ | refine SD ?_ | refine SA (fun _ => ?_) | refine WL.g_split rfl rfl (fun hc => ?_) (fun hc => ?_) | refine WD.g_split rfl rfl (fun hc => ?_) (fun hc => ?_) | refine W.cond rfl (fun hc => ?_) (fun hc => ?_))
          refine Fin.retW (by exact rfl) resA (H' := (({ s with ps := s.ps ++ [(⟨d, sa', sn', sc', hb', s.turns, s.clk⟩ : Pc)], clk := s.clk + 1, turns := s.turns + 1, held := s.held + sn' } : RM)).H ++ X) (fun _ h => ?_) ⟨by rw [hE hat2]; rfl, ({ s with ps := s.ps ++ [(⟨d, sa', sn', sc', hb', s.turns, s.clk⟩ : Pc)], clk := s.clk + 1, turns := s.turns + 1, held := s.held + sn' } : RM), hok1, rfl, rfl, Int.le_refl _, ?_, rfl⟩
          · rw [hH1]
            simp only [List.cons_append, List.append_assoc]
            exact In.of_sub subA h
          · rw [hS1, hput]
            unfold put1
            rw [if_pos hun', show whole (s.S.L ++ [d]) d = none from hwh]
            rfl
        | some fl =>
          obtain ⟨f, l⟩ := fl
          have hatd : at? (s.L ++ [d]) d.tsn = some d := by
            unfold at? at hat2 ⊢
            rw [List.find?_append, hat2]
            simp
          obtain ⟨hf1, n, hn1, hl1, _, _, hall1⟩ := whole_run hatd h32 (by rw [← hL1]; simp only [RM.L, List.length_map]; omega) hwh
          dsimp only [wholeV]
          repeat' (first | refine S1 ?_ | refine SD ?_ | refine SA (fun _ => ?_) | refine WL.g_split rfl rfl (fun hc => ?_) (fun hc => ?_) | refine WD.g_split rfl rfl (fun hc => ?_) (fun hc => ?_) | refine W.cond rfl (fun hc => ?_) (fun hc => ?_))
          refine WL.e rfl (Ef.call (c := (({ s with ps := s.ps ++ [(⟨d, sa', sn', sc', hb', s.turns, s.clk⟩ : Pc)], clk := s.clk + 1, turns := s.turns + 1, held := s.held + sn' } : RM)).H) (by exact rfl) (by rw [hH1]; exact subA) (ready_tr _ ({ s with ps := s.ps ++ [(⟨d, sa', sn', sc', hb', s.turns, s.clk⟩ : Pc)], clk := s.clk + 1, turns := s.turns + 1, held := s.held + sn' } : RM) hok1 f l n hf1 hn1 hl1 (fun i hi => let ⟨e, he, _⟩ := hall1 i hi; ⟨e, by rw [hL1]; exact he⟩))) ?_
          rintro _ _ ⟨_, ⟨rfl, s', hs', rfl, hR', hnx', htu', hLr, _⟩, rfl⟩
          repeat' (first | refine S1 ?_ | refine SD ?_ | refine SA (fun _ => ?_) | refine WL.g_split rfl rfl (fun hc => ?_) (fun hc => ?_) | refine WD.g_split rfl rfl (fun hc => ?_) (fun hc => ?_) | refine W.cond rfl (fun hc => ?_) (fun hc => ?_))
          refine Fin.retW (by exact rfl) resA (H' := s'.H ++ X) (fun _ h => h.sublist ((List.Sublist.refl _).append (by (repeat (first | exact List.Sublist.refl _ | refine List.Sublist.cons_cons _ ?_ | refine List.Sublist.cons _ ?_))))) ⟨by rw [hE hat2]; rfl, s', hs', rfl, hR', Int.le_of_eq htu', ?_, by rw [hnx']⟩
          rw [hput]
          unfold put1
          rw [if_pos hun', show whole (s.S.L ++ [d]) d = some (f, l) from hwh]
          rw [hL1] at hLr
          have e1 := congrArg Prod.fst hLr
          have e2 := congrArg Prod.snd hLr
          dsimp only at e1 e2
          dsimp only [RM.S]
          rw [e1, e2, hnx']
          rfl
end Go.Proofs.YthjglhdjlmjffaaGreat
