/- The keys of a set's map, collected: maps.Keys, its iterator, slices.AppendSeq and slices.Collect, walked: a list of all keys in whatever order. Conditions: the set is well formed. -/
import Derived.Test.YthjglhdjlmjffaaGreatSpD
namespace Go.Proofs.YthjglhdjlmjffaaGreat
open Go Go.Sl Go.Spn

theorem keys_tr (F : Nat → Option Obj) (M : Nat) : Tr Tryz.prog 107 [.map (some M)].toArray F [] (fun v H => ∃ bm, v = .func (.func 116) ([] : List Value).toArray [.pointer (some ⟨bm, 0, none⟩)].toArray ∧ H = [(bm, .cells [.map (some M)].toArray 123 (0, 0))]) := by
  refine Tr.enter Tryz.func107 rfl Tryz.ntmps107 rfl (fun w0 => ?_)
  repeat' (first | refine S1 ?_ | refine SD ?_ | refine SA (fun _ => ?_) | refine WL.g_split rfl rfl (fun hc => ?_) (fun hc => ?_) | refine WD.g_split rfl rfl (fun hc => ?_) (fun hc => ?_) | refine W.cond rfl (fun hc => ?_) (fun hc => ?_))
  rename_i bm
  exact Fin.retW (by exact rfl) resA (H' := [(bm, .cells [.map (some M)].toArray 123 (0, 0))]) (fun _ h => h) ⟨bm, rfl, rfl⟩
/-- the memory of an iterator over the keys -/
def SM.KH (s : SM) (bm : Nat) : HL := [(bm, .cells [.map (some s.M)].toArray 123 (0, 0)), (s.M, .map (s.es.map Se.ent).toArray s.clk)]
/-- the iterator: it gives all keys to yield, one behind the other -/
theorem keysIt_tr (F : Nat → Option Obj) (s : SM) (hs : s.ok) (bm l : Nat) (J : List Se → HL → Prop) (H0 : HL) (h0 : J [] H0)
    (hY : ∀ F', (∀ w, In F' [] w → In F [] w) → ∀ pre q, q ∈ s.es → q ∉ pre → (∀ e ∈ pre, e ∈ s.es) → pre.length < s.es.length → ∀ H, J pre H → TrY Tryz.prog l [.int .u32 q.key] F' H (fun v H' => v = .bool true ∧ J (pre ++ [q]) H')) :
    Tr Tryz.prog 116 [.func (.yield l) #[] #[], .pointer (some ⟨bm, 0, none⟩)].toArray F (H0 ++ s.KH bm) (fun _ H => ∃ ks H1, ks.Perm s.es ∧ J ks H1 ∧ H = H1 ++ s.KH bm) := by
  refine Tr.enter Tryz.func116 rfl Tryz.ntmps116 rfl (fun w0 => ?_)
  unfold SM.KH
  repeat' (first | refine S1 ?_ | refine SD ?_ | refine SA (fun _ => ?_) | refine WL.g_split rfl rfl (fun hc => ?_) (fun hc => ?_) | refine WD.g_split rfl rfl (fun hc => ?_) (fun hc => ?_) | refine W.cond rfl (fun hc => ?_) (fun hc => ?_))
  refine WL.e rfl (Ef.rng rfl (by repeat (first | exact MapAt.here | apply MapAt.there | apply MapAt.right))) ?_
  rintro _ _ ⟨it, rfl, rfl⟩
  repeat' (first | refine S1 ?_ | refine SD ?_ | refine SA (fun _ => ?_) | refine WL.g_split rfl rfl (fun hc => ?_) (fun hc => ?_) | refine WD.g_split rfl rfl (fun hc => ?_) (fun hc => ?_) | refine W.cond rfl (fun hc => ?_) (fun hc => ?_))
  refine W.loop (G := List Se × HL) (fun g => [(0, .func (.yield l) #[] #[]), (5, .pointer (some ⟨it, 0, none⟩))]) (fun g => ((it, .mapIter (some s.M) s.clk (g.1.map (·.born)).toArray s.clk) :: (g.2 ++ ([(bm, .cells [.map (some s.M)].toArray 123 (0, 0)), (s.M, .map (s.es.map Se.ent).toArray s.clk)] : HL)) : HL))
    (fun g => J g.1 g.2 ∧ g.1.Nodup ∧ ∀ e ∈ g.1, e ∈ s.es) (fun g => s.es.length - g.1.length) ([], H0) ⟨h0, by simp, by simp⟩ envA (fun _ h => h) ?_
  rintro ⟨pre, H⟩ ⟨hJ, hnd, hsub⟩
  dsimp only at hJ hnd hsub ⊢
  repeat' (first | refine S1 ?_ | refine SD ?_ | refine SA (fun _ => ?_) | refine WL.g_split rfl rfl (fun hc => ?_) (fun hc => ?_) | refine WD.g_split rfl rfl (fun hc => ?_) (fun hc => ?_) | refine W.cond rfl (fun hc => ?_) (fun hc => ?_))
  refine WL.e rfl (Ef.nxt rfl (Foc.here _) (by repeat (first | exact MapAt.here | apply MapAt.there | apply MapAt.right)) (fun e he => ?_) (.inr rfl)) ?_
  · obtain ⟨q, hq, rfl⟩ := List.mem_map.1 he
    exact hs.old q hq
  have hinj : ∀ a ∈ s.es, ∀ b ∈ s.es, a.born = b.born → a = b := fun a ha b hb h => (se_snoc (seen := []) hs.born hb ha (by simp [h])).resolve_left (by simp)
  have hsnd : s.es.Nodup := List.Pairwise.imp (fun h he => h (by rw [he])) (List.pairwise_map.1 hs.born)
  rintro _ _ (⟨hall, rfl, rfl⟩ | ⟨e, he, hns, rfl, rfl⟩)
  · repeat' (first | refine S1 ?_ | refine SD ?_ | refine SA (fun _ => ?_) | refine WL.g_split rfl rfl (fun hc => ?_) (fun hc => ?_) | refine WD.g_split rfl rfl (fun hc => ?_) (fun hc => ?_) | refine W.cond rfl (fun hc => ?_) (fun hc => ?_))
    refine Fin.endW (by exact rfl) resA (fun _ h => h.sublist (.cons _ (.refl _))) ⟨pre, H, ?_, hJ, rfl⟩
    refine (List.perm_ext_iff_of_nodup hnd hsnd).2 (fun q => ⟨hsub q, fun hq => ?_⟩)
    have := hall q.ent (List.mem_map.2 ⟨q, hq, rfl⟩)
    obtain ⟨q', hq', hb⟩ := List.mem_map.1 this
    rw [← hinj q' (hsub q' hq') q hq hb]
    exact hq'
  · obtain ⟨q, hq, rfl⟩ := List.mem_map.1 he
    have hqn : q ∉ pre := fun h => hns (List.mem_map.2 ⟨q, h, rfl⟩)
    have hnew : (pre ++ [q]).Nodup := by
      rw [List.nodup_append]; exact ⟨hnd, by simp, fun a ha b hb h => by simp at hb; subst hb h; exact hqn ha⟩
    have hall' : ∀ a ∈ pre ++ [q], a ∈ s.es := fun a ha => by
      rcases List.mem_append.1 ha with h | h
      · exact hsub a h
      · rw [List.mem_singleton.1 h]; exact hq
    have hlt : pre.length < s.es.length := by
      have h1 : ((pre ++ [q]).map (·.born)).Nodup := List.pairwise_map.2 (hnew.imp_of_mem (fun {a b} ha hb h he => h (hinj a (hall' a ha) b (hall' b hb) he)))
      have h2 := nodup_len h1 (l2 := s.es.map (·.born)) (fun a ha => by
        obtain ⟨z, hz, rfl⟩ := List.mem_map.1 ha
        exact List.mem_map.2 ⟨z, hall' z hz, rfl⟩)
      simp at h2
      omega
    repeat' (first | refine S1 ?_ | refine SD ?_ | refine SA (fun _ => ?_) | refine WL.g_split rfl rfl (fun hc => ?_) (fun hc => ?_) | refine WD.g_split rfl rfl (fun hc => ?_) (fun hc => ?_) | refine W.cond rfl (fun hc => ?_) (fun hc => ?_))
    refine WL.s rfl (Rd.ent (e := q.ent) rfl (Foc.here _) (by repeat (first | exact MapAt.here | apply MapAt.there | apply MapAt.right)) he (by rw [List.map_map]; exact hs.born)) ?_
    repeat' (first | refine S1 ?_ | refine SD ?_ | refine SA (fun _ => ?_) | refine WL.g_split rfl rfl (fun hc => ?_) (fun hc => ?_) | refine WD.g_split rfl rfl (fun hc => ?_) (fun hc => ?_) | refine W.cond rfl (fun hc => ?_) (fun hc => ?_))
    refine WL.e rfl (Ef.callY (l := l) (vals := [.int .u32 q.key]) rfl (by exact rfl) (.skip _ (.one H _)) (fun hd => hY _ (fun _ h => addF_in hd h) pre q hq hqn hsub hlt H hJ)) ?_
    rintro _ _ ⟨H1, ⟨rfl, hJ'⟩, rfl⟩
    repeat' (first | refine S1 ?_ | refine SD ?_ | refine SA (fun _ => ?_) | refine WL.g_split rfl rfl (fun hc => ?_) (fun hc => ?_) | refine WD.g_split rfl rfl (fun hc => ?_) (fun hc => ?_) | refine W.cond rfl (fun hc => ?_) (fun hc => ?_))
    refine Fin.round (pre ++ [q], H1) ⟨hJ', hnew, hall'⟩ envA (fun _ h => ?_) (by simp only [List.length_append, List.length_cons, List.length_nil]; omega)
    rw [List.map_append]
    exact In.of_sub (.pick (.right .here) (.pickL (L := H1) .here (.last .all))) h
def seV (e : Se) : Value := .int .u32 e.key
/-- what a loop that collects owns between two rounds -/
def AJ (l D b2 : Nat) (r : Loop) (pre : List Se) (H : HL) : Prop := ∃ (sa : Option Addr) (sn sc : Nat) (hb : HL), OwnS 24 1 (pre.map seV) (.slice sa sn sc) hb ∧ H = (l, .loop r) :: (D, .deferred (some [])) :: (b2, .cells [.slice sa sn sc].toArray 41 (0, 0)) :: hb
/-- all keys, collected -/
theorem appendSeq_tr (F : Nat → Option Obj) (s : SM) (hs : s.ok) (bm : Nat) :
    Tr Tryz.prog 117 [.slice none 0 0, .func (.func 116) ([] : List Value).toArray [.pointer (some ⟨bm, 0, none⟩)].toArray].toArray F (s.KH bm) (fun v H => ∃ (ks : List Se) (sa : Option Addr) (sn sc : Nat) (hb : HL), ks.Perm s.es ∧ v = .slice sa sn sc ∧ OwnS 24 1 (ks.map seV) v hb ∧ H = hb ++ s.KH bm) := by
  have hlen := SM.len hs
  have hle := dist_le s.S.p
  refine Tr.enterM Tryz.func117 rfl Tryz.ntmps117 rfl (fun w0 => ?_)
  repeat' (first | refine S1 ?_ | refine SD ?_ | refine SA (fun _ => ?_) | refine WL.g_split rfl rfl (fun hc => ?_) (fun hc => ?_) | refine WD.g_split rfl rfl (fun hc => ?_) (fun hc => ?_) | refine W.cond rfl (fun hc => ?_) (fun hc => ?_))
  rename_i b2
  refine W.rangeF (gf := 116) (fv := []) (cv := [.pointer (some ⟨bm, 0, none⟩)]) rfl rfl (fun l D r hr => ?_)
  have hcall := keysIt_tr F s hs bm l (AJ l D b2 r) ([(l, .loop r), (D, .deferred (some [])), (b2, .cells [Value.slice none 0 0].toArray 41 (0, 0))] : HL) ⟨none, 0, 0, [], .inl ⟨rfl, rfl, rfl⟩, rfl⟩ ?_
  · refine Tr.mono hcall ?_
    rintro _ _ ⟨ks, _, hp, ⟨sa, sn, sc, hb, hown, rfl⟩, rfl⟩
    refine ⟨r, (b2, .cells [.slice sa sn sc].toArray 41 (0, 0)) :: (hb ++ s.KH bm), .refl _, by rw [hr.state]; simp, ?_⟩
    rw [hr.pending]
    dsimp only [Cx.marked]
    repeat' (first | refine S1 ?_ | refine SD ?_ | refine SA (fun _ => ?_) | refine WL.g_split rfl rfl (fun hc => ?_) (fun hc => ?_) | refine WD.g_split rfl rfl (fun hc => ?_) (fun hc => ?_) | refine W.cond rfl (fun hc => ?_) (fun hc => ?_))
    exact Fin.retM (D := D) (by exact rfl) .here resA (H' := hb ++ s.KH bm) (fun _ h => h.sublist (.cons _ (.refl _))) ⟨ks, sa, sn, sc, hb, hp, rfl, by exact hown, rfl⟩
  · rintro F' hF pre q hq hqn hsub hlt _ ⟨sa, sn, sc, hb, hown, rfl⟩
    refine TrY.of hr rfl (fun w h => h.own (l, .loop r) (by simp)) (fun w0 => ?_)
    repeat' (first | refine S1 ?_ | refine SD ?_ | refine SA (fun _ => ?_) | refine WL.g_split rfl rfl (fun hc => ?_) (fun hc => ?_) | refine WD.g_split rfl rfl (fun hc => ?_) (fun hc => ?_) | refine W.cond rfl (fun hc => ?_) (fun hc => ?_))
    refine Fin.begin (Foc.here _) hr.state ?_
    repeat' (first | refine S1 ?_ | refine SD ?_ | refine SA (fun _ => ?_) | refine WL.g_split rfl rfl (fun hc => ?_) (fun hc => ?_) | refine WD.g_split rfl rfl (fun hc => ?_) (fun hc => ?_) | refine W.cond rfl (fun hc => ?_) (fun hc => ?_))
    have hpl : (pre.map seV).length = pre.length := by simp
    unfold count at hlen
    refine WL.e rfl (Ef.app (m := 1) (news := [.int .u32 q.key]) (by exact rfl) (by exact rfl) rfl rfl hown (.last (.there (.there (.there (.there .all))))) (Src.own (n := 1) (.here rfl)) rfl (by simp [Value.oneCell']) (by rw [hpl]; simp; omega) (by rw [hpl]; simp [maxLen]; omega)) ?_
    rintro v' _ ⟨hb', hown', rfl⟩
    obtain ⟨sa', sn', sc', rfl, _, _⟩ := OwnS.shape hown'
    repeat' (first | refine S1 ?_ | refine SD ?_ | refine SA (fun _ => ?_) | refine WL.g_split rfl rfl (fun hc => ?_) (fun hc => ?_) | refine WD.g_split rfl rfl (fun hc => ?_) (fun hc => ?_) | refine W.cond rfl (fun hc => ?_) (fun hc => ?_))
    refine Fin.more (Foc.right (.there _ (Foc.here _))) (H' := (l, .loop r) :: (D, .deferred (some [])) :: (b2, .cells [.slice sa' sn' sc'].toArray 41 (0, 0)) :: hb') (fun _ h => ?_) ⟨rfl, sa', sn', sc', hb', by rw [List.map_append]; exact hown', rfl⟩
    simp only [hr.again] at h
    exact In.of_sub (.pick (.right (.there .here)) (.pick (.right (.there .here)) (.pick (.right (.there .here)) (.last (L := hb') .here)))) h
/-- slices.Collect -/
theorem collect_tr (F : Nat → Option Obj) (s : SM) (hs : s.ok) (bm : Nat) :
    Tr Tryz.prog 114 [.func (.func 116) ([] : List Value).toArray [.pointer (some ⟨bm, 0, none⟩)].toArray].toArray F (s.KH bm) (fun v H => ∃ (ks : List Se) (sa : Option Addr) (sn sc : Nat) (hb : HL), ks.Perm s.es ∧ v = .slice sa sn sc ∧ OwnS 24 1 (ks.map seV) v hb ∧ H = hb ++ s.KH bm) := by
  refine Tr.enter Tryz.func114 rfl Tryz.ntmps114 rfl (fun w0 => ?_)
  repeat' (first | refine S1 ?_ | refine SD ?_ | refine SA (fun _ => ?_) | refine WL.g_split rfl rfl (fun hc => ?_) (fun hc => ?_) | refine WD.g_split rfl rfl (fun hc => ?_) (fun hc => ?_) | refine W.cond rfl (fun hc => ?_) (fun hc => ?_))
  refine WL.e rfl (Ef.call (by exact rfl) (.all _) (appendSeq_tr _ s hs bm)) ?_
  rintro _ _ ⟨_, ⟨ks, sa, sn, sc, hb, hp, rfl, hown, rfl⟩, rfl⟩
  repeat' (first | refine S1 ?_ | refine SD ?_ | refine SA (fun _ => ?_) | refine WL.g_split rfl rfl (fun hc => ?_) (fun hc => ?_) | refine WD.g_split rfl rfl (fun hc => ?_) (fun hc => ?_) | refine W.cond rfl (fun hc => ?_) (fun hc => ?_))
  exact Fin.retW (by exact rfl) resA (H' := hb ++ s.KH bm) (fun _ h => h.left) ⟨ks, sa, sn, sc, hb, hp, rfl, by exact hown, rfl⟩
end Go.Proofs.YthjglhdjlmjffaaGreat
