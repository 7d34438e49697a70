/- The law ScriptWrong, walked. Conditions: what the law's run of works answers, and what the net answers where it is asked (Mach). -/
import Derived.Test.YtjcekmiengnglaaGreatDoorSuF
import Derived.Test.YtjcekmiengnglaaGreatDoorBuL
namespace Go.Proofs.YtjcekmiengnglaaGreatDoor
open Go Go.Sl Go.Scr

/-- the law's run, whatever else is in memory -/
def WorksW (F : Nat → Option Obj) : Prop := ∀ Hr : HL, (∀ p ∈ Hr, F p.1 = none) → Tr Tryz.prog 6 ([] : List Value).toArray (addF F Hr) [] (fun v _ => v = .bool true)
instance : Body Tryz.prog 6 := ⟨by kernel_rfl⟩
/-- the lines laid so far, the wrong one among them -/
def laidK (L : List Str) (bad : Str) (k i : Nat) : List Str := if i ≤ k then L.take i else L.take k ++ bad :: (L.take i).drop k
theorem laidK_at {L : List Str} {bad : Str} {k i : Nat} (hk : k ≤ L.length) {x : Str} (hx : L[i]? = some x) : laidK L bad k (i + 1) = (if i = k then laidK L bad k i ++ [bad] else laidK L bad k i) ++ [x] := by
  have hi := (List.getElem?_eq_some_iff.1 hx).1
  unfold laidK
  by_cases h1 : i < k
  · rw [if_pos (show i + 1 ≤ k by omega), if_neg (show ¬ i = k by omega), if_pos (show i ≤ k by omega), List.take_add_one, hx]
    rfl
  · rw [if_neg (show ¬ i + 1 ≤ k by omega), List.take_add_one, hx, List.drop_append_of_le_length (by rw [List.length_take]; omega)]
    by_cases h2 : i = k
    · subst h2
      rw [if_pos rfl, if_pos (Nat.le_refl _)]
      simp
    · rw [if_neg h2, if_neg (show ¬ i ≤ k by omega)]
      simp
theorem laidK_end {L : List Str} {bad : Str} {k : Nat} (hk : k ≤ L.length) : laidK L bad k (L.length + 1) = if L.length = k then laidK L bad k L.length ++ [bad] else laidK L bad k L.length := by
  unfold laidK
  rw [if_neg (show ¬ L.length + 1 ≤ k by omega), List.take_of_length_le (show L.length ≤ L.length + 1 by omega)]
  by_cases h2 : L.length = k
  · subst h2
    rw [if_pos rfl, if_pos (Nat.le_refl _)]
    simp
  · rw [if_neg h2, if_neg (show ¬ L.length ≤ k by omega), List.take_of_length_le (Nat.le_refl _)]
theorem laidK_all {L : List Str} {bad : Str} {k : Nat} (hk : k ≤ L.length) : laidK L bad k (L.length + 1) = L.take k ++ bad :: L.drop k := by
  unfold laidK
  rw [if_neg (show ¬ L.length + 1 ≤ k by omega), List.take_of_length_le (show L.length ≤ L.length + 1 by omega)]
theorem laidK_len {L : List Str} {bad : Str} {m k i : Nat} (h : ∀ s ∈ L, s.length ≤ m) (hb : bad.length ≤ m) : ∀ s ∈ laidK L bad k i, s.length ≤ m := by
  intro s hs
  unfold laidK at hs
  split at hs
  · exact h s (List.mem_of_mem_take hs)
  · rcases List.mem_append.1 hs with hs | hs
    · exact h s (List.mem_of_mem_take hs)
    · rcases List.mem_cons.1 hs with rfl | hs
      · exact hb
      · exact h s (List.mem_of_mem_take (List.mem_of_mem_drop hs))
theorem laidK_num {L : List Str} {bad : Str} {k i : Nat} : (laidK L bad k i).length ≤ L.length + 1 := by
  unfold laidK
  split
  · rw [List.length_take]; omega
  · simp only [List.length_append, List.length_take, List.length_cons, List.length_drop]; omega
theorem sum_mem {α : Type} (f : α → Nat) {l : List α} {a : α} (h : a ∈ l) : f a ≤ (l.map f).sum := by
  induction l with
  | nil => cases h
  | cons y l ih =>
    simp only [List.map_cons, List.sum_cons]
    rcases List.mem_cons.1 h with rfl | h
    · omega
    · have := ih h; omega
structure WrG where
  bad : Str
structure WtG where
  i : Nat
set_option maxHeartbeats 16000000 in
theorem wrong_tr (F : Nat → Option Obj) (hG : Gl F) (hW : WorksW F) (M : ∀ F', (∀ b o, F b = some o → F' b = some o) → Mach F') (c : List Int) (hc : c.length = 14) (hi : ∀ x ∈ c, I64 x) (l : List Evx) (a : Option Addr) (n k : Nat) (hl : EvL F l a n k)
    (m : Int) (hm : 0 ≤ m ∧ m < 4294967296) (q : Int) (hq : 0 ≤ q ∧ q < 256) (bad : Str) :
    Tr Tryz.prog 4 [.agg (ccells c).toArray, .slice a n k, .int .u32 m, .int .u8 q, S bad].toArray F [] (fun v H => v = .bool true ∧ H = []) := by
  refine Tr.enter Tryz.func4 rfl Tryz.ntmps4 rfl (fun w0 => ?_)
  have hn := hl.n
  have hc0 := hc
  have hhl := head_len hc hi
  obtain ⟨a0, a1, a2, a3, a4, a5, a6, a7, a8, a9, a10, a11, a12, a13, hcl⟩ := list14 hc
  obtain ⟨cs, hcs⟩ : ∃ cs, cs = ccells c := ⟨_, rfl⟩
  have hcs2 : cs = [.int .i64 a0, .int .i64 a1, .int .i64 a2, .int .i64 a3, .int .i64 a4, .int .i64 a5, .int .i64 a6, .int .i64 a7, .int .i64 a8, .int .i64 a9, .int .i64 a10, .int .i64 a11, .int .i64 a12, .int .i64 a13] := by rw [hcs, hcl]; rfl
  have hhd := fun F' => rhead_tr F' c hc hi
  have hld := fun F' hF h60 hsz => laid_tr F' c hc hi l a n k (hl.mono hF) h60 hsz m hm
  rw [← hcs, hcs2] at hhd hld
  rw [← hcs, hcs2]
  unfold S
  repeat' (first | refine S2b ?_ | refine S3 ?_ | refine SA (fun _ => ?_) | refine G1 (fun hc => ?_) (fun hc => ?_) | refine G2 (fun hc => ?_) (fun hc => ?_) | refine G3 (fun hc => ?_) (fun hc => ?_) | refine SL ?_ | fail)
  rename_i b1
  refine WL.e rfl (Ef.lookR (by exact rfl) (fun F' hF => vast27_tr F' l a n k (hl.mono (fun w h => (hF w h).sublist (List.nil_sublist _))))) ?_
  rintro _ _ ⟨⟨vb, rfl, hvb⟩, rfl⟩
  cases vb with
  | true =>
    repeat' (first | refine S2b ?_ | refine S3 ?_ | refine SA (fun _ => ?_) | refine G1 (fun hc => ?_) (fun hc => ?_) | refine G2 (fun hc => ?_) (fun hc => ?_) | refine G3 (fun hc => ?_) (fun hc => ?_) | refine SL ?_ | fail)
    refine WL.e rfl (Ef.callF (by exact rfl) (.nil _) (fun hd => hW _ hd)) ?_
    rintro _ _ ⟨_, rfl, rfl⟩
    repeat' (first | refine S2b ?_ | refine S3 ?_ | refine SA (fun _ => ?_) | refine G1 (fun hc => ?_) (fun hc => ?_) | refine G2 (fun hc => ?_) (fun hc => ?_) | refine G3 (fun hc => ?_) (fun hc => ?_) | refine SL ?_ | fail)
    exact Fin.retW (by exact rfl) resA (H' := []) (fun _ h => h.sublist (List.nil_sublist _)) ⟨rfl, rfl⟩
  | false =>
  obtain ⟨h60, hsz⟩ := hvb rfl
  repeat' (first | refine S2b ?_ | refine S3 ?_ | refine SA (fun _ => ?_) | refine G1 (fun hc => ?_) (fun hc => ?_) | refine G2 (fun hc => ?_) (fun hc => ?_) | refine G3 (fun hc => ?_) (fun hc => ?_) | refine SL ?_ | fail)
  · skip
    refine WL.e rfl (Ef.callF (by exact rfl) (.nil _) (fun hd => hW _ hd)) ?_
    rintro _ _ ⟨_, rfl, rfl⟩
    repeat' (first | refine S2b ?_ | refine S3 ?_ | refine SA (fun _ => ?_) | refine G1 (fun hc => ?_) (fun hc => ?_) | refine G2 (fun hc => ?_) (fun hc => ?_) | refine G3 (fun hc => ?_) (fun hc => ?_) | refine SL ?_ | fail)
    exact Fin.retW (by exact rfl) resA (H' := []) (fun _ h => h.sublist (List.nil_sublist _)) ⟨rfl, rfl⟩
  rw [strB_size] at hc
  have hbl : bad.length ≤ 200 := by simp at hc; omega
  clear hc
  refine WL.e rfl (Ef.callW (c := []) (by exact rfl) (Sub.nil _) (fun F' hF => Tr.mono (rread_tr F' bad (by omega)) (fun _ _ => ReQ.b))) ?_
  rintro _ _ ⟨k1, ⟨x1, er1, rfl, r1⟩, rfl⟩
  have h4 : x1.cells.all (·.oneCell') = true := List.all_eq_true.2 (evx_one x1)
  iterate 9 (first | refine S2b ?_ | refine S3 ?_ | refine SA (fun _ => ?_))
  refine W.cut (G := WrG) (fun g => [(1, .slice a n k), (2, .int .u32 m), (3, .int .u8 q), (4, .string (strB g.bad)), (5, .pointer (some ⟨b1, 0, none⟩))]) (fun _ => [(b1, .cells ([.int .i64 a0, .int .i64 a1, .int .i64 a2, .int .i64 a3, .int .i64 a4, .int .i64 a5, .int .i64 a6, .int .i64 a7, .int .i64 a8, .int .i64 a9, .int .i64 a10, .int .i64 a11, .int .i64 a12, .int .i64 a13] : List Value).toArray 33 (0, 0))])
    (fun g => (10 : UInt8) ∉ g.bad ∧ Scr.idle g.bad = false ∧ (∀ e, ¬ Reads g.bad e) ∧ g.bad.length ≤ 345) (fun K' hK _ => ?_) ?_
  · rcases r1.rd with ⟨rfl, h1⟩ | ⟨rfl, _, hno⟩
    · repeat' (first | refine S2b ?_ | refine S3 ?_ | refine SA (fun _ => ?_) | refine G1 (fun hc => ?_) (fun hc => ?_) | refine G2 (fun hc => ?_) (fun hc => ?_) | refine G3 (fun hc => ?_) (fun hc => ?_) | refine SL ?_ | fail)
      refine WL.e rfl (Ef.lookR (by exact rfl) (fun F' hF => hhd F')) ?_
      rintro _ _ ⟨rfl, rfl⟩
      repeat' (first | refine S2b ?_ | refine S3 ?_ | refine SA (fun _ => ?_) | refine G1 (fun hc => ?_) (fun hc => ?_) | refine G2 (fun hc => ?_) (fun hc => ?_) | refine G3 (fun hc => ?_) (fun hc => ?_) | refine SL ?_ | fail)
      exact Fin.cut hK ⟨head c⟩ ⟨head_no c, idle_head c, fun e h => head_not_reads h, hhl⟩ envA (fun _ h => h.sublist findA)
    · repeat' (first | refine S2b ?_ | refine S3 ?_ | refine SA (fun _ => ?_) | refine G1 (fun hc => ?_) (fun hc => ?_) | refine G2 (fun hc => ?_) (fun hc => ?_) | refine G3 (fun hc => ?_) (fun hc => ?_) | refine SL ?_ | fail)
      refine WL.e rfl (Ef.lookR (by exact rfl) (fun F' hF => ridle_tr F' bad)) ?_
      rintro _ _ ⟨rfl, rfl⟩
      cases hid : Scr.idle bad with
      | true =>
        repeat' (first | refine S2b ?_ | refine S3 ?_ | refine SA (fun _ => ?_) | refine G1 (fun hc => ?_) (fun hc => ?_) | refine G2 (fun hc => ?_) (fun hc => ?_) | refine G3 (fun hc => ?_) (fun hc => ?_) | refine SL ?_ | fail)
        refine WL.e rfl (Ef.lookR (by exact rfl) (fun F' hF => hhd F')) ?_
        rintro _ _ ⟨rfl, rfl⟩
        repeat' (first | refine S2b ?_ | refine S3 ?_ | refine SA (fun _ => ?_) | refine G1 (fun hc => ?_) (fun hc => ?_) | refine G2 (fun hc => ?_) (fun hc => ?_) | refine G3 (fun hc => ?_) (fun hc => ?_) | refine SL ?_ | fail)
        exact Fin.cut hK ⟨head c⟩ ⟨head_no c, idle_head c, fun e h => head_not_reads h, hhl⟩ envA (fun _ h => h.sublist findA)
      | false =>
        repeat' (first | refine S2b ?_ | refine S3 ?_ | refine SA (fun _ => ?_) | refine G1 (fun hc => ?_) (fun hc => ?_) | refine G2 (fun hc => ?_) (fun hc => ?_) | refine G3 (fun hc => ?_) (fun hc => ?_) | refine SL ?_ | fail)
        refine WL.e rfl (Ef.callW (c := []) (by exact rfl) (Sub.nil _) (fun F' hF => rsplit_tr F' bad 10 (by omega))) ?_
        rintro _ _ ⟨hb, ⟨sa, sn, sc, rfl, hown⟩, rfl⟩
        have hsn : sn = (split 10 bad).length := by have := hown.len; simp at this; omega
        repeat' (first | refine S2b ?_ | refine S3 ?_ | refine SA (fun _ => ?_) | refine G1 (fun hc => ?_) (fun hc => ?_) | refine G2 (fun hc => ?_) (fun hc => ?_) | refine G3 (fun hc => ?_) (fun hc => ?_) | refine SL ?_ | fail)
        · refine WL.e rfl (Ef.lookR (by exact rfl) (fun F' hF => hhd F')) ?_
          rintro _ _ ⟨rfl, rfl⟩
          repeat' (first | refine S2b ?_ | refine S3 ?_ | refine SA (fun _ => ?_) | refine G1 (fun hc => ?_) (fun hc => ?_) | refine G2 (fun hc => ?_) (fun hc => ?_) | refine G3 (fun hc => ?_) (fun hc => ?_) | refine SL ?_ | fail)
          exact Fin.cut hK ⟨head c⟩ ⟨head_no c, idle_head c, fun e h => head_not_reads h, hhl⟩ envA (fun _ h => h.sublist findA)
        · have hsl : (split 10 bad).length ≤ 1 := by simp at hc; omega
          exact Fin.cut hK ⟨bad⟩ ⟨split_two hsl, hid, hno, Nat.le_trans hbl (by decide)⟩ envA (fun _ h => h.sublist findA)
  rintro ⟨bad2⟩ ⟨hb1, hb2, hb3, hb4⟩
  dsimp only at hb1 hb2 hb3 hb4 ⊢
  clear hbl r1 h4
  repeat' (first | refine S2b ?_ | refine S3 ?_ | refine SA (fun _ => ?_) | refine G1 (fun hc => ?_) (fun hc => ?_) | refine G2 (fun hc => ?_) (fun hc => ?_) | refine G3 (fun hc => ?_) (fun hc => ?_) | refine SL ?_ | fail)
  refine WL.e rfl (Ef.callW (c := []) (by exact rfl) (Sub.nil _) (fun F' hF => hld F' (fun w h => (hF w h).sublist (List.nil_sublist _)) h60 hsz)) ?_
  rintro _ _ ⟨hL, ⟨tx0, la, ln, lc, pv, ev, rfl, hown⟩, rfl⟩
  obtain ⟨es, hes⟩ : ∃ es, es = formed l := ⟨_, rfl⟩
  have hesl : es.length ≤ 60 := by rw [hes]; exact Nat.le_trans (formed_len l) h60
  have hesm : ∀ e ∈ es, e.Ok ∧ e.Form := by rw [hes]; exact formed_mem (hl.ev hsz)
  have hesz : (es.map (fun e => e.bytes.length)).sum ≤ 32768 := by rw [hes]; exact Nat.le_trans (formed_sizes l) hsz
  rw [← hes] at hown
  clear hes
  have hlen : ln = es.length := by have := hown.len; simp at this; omega
  have hlst := Lst.own (F := F) (H := hL) hown (fun _ h => h)
  repeat' (first | refine S2b ?_ | refine S3 ?_ | refine SA (fun _ => ?_) | refine G1 (fun hc => ?_) (fun hc => ?_) | refine G2 (fun hc => ?_) (fun hc => ?_) | refine G3 (fun hc => ?_) (fun hc => ?_) | refine SL ?_ | fail)
  have ew : IntKind.i64.wrap ((ln : Int) + 1) = ((ln + 1 : Nat) : Int) := by rw [i64_id (by omega) (by omega)]; omega
  rw [ew, show IntKind.i64.wrap q = q from i64_id (by omega) (by omega)]
  refine WL.p rfl (Pu.rem rfl rfl (by omega)) ?_
  obtain ⟨kk, hkk⟩ : ∃ kk : Nat, q.tmod ((ln + 1 : Nat) : Int) = kk := ⟨(q.tmod ((ln + 1 : Nat) : Int)).toNat, by
    have := Int.tmod_nonneg (a := q) ((ln + 1 : Nat) : Int) hq.1
    omega⟩
  have hkl : kk ≤ ln := by
    have h1 := Int.tmod_lt_of_pos q (b := ((ln + 1 : Nat) : Int)) (by omega)
    omega
  rw [hkk]
  repeat' (first | refine S2b ?_ | refine S3 ?_ | refine SA (fun _ => ?_) | refine G1 (fun hc => ?_) (fun hc => ?_) | refine G2 (fun hc => ?_) (fun hc => ?_) | refine G3 (fun hc => ?_) (fun hc => ?_) | refine SL ?_ | fail)
  refine WL.e rfl (Ef.lookR (by exact rfl) (fun F' hF => hhd F')) ?_
  rintro _ _ ⟨rfl, rfl⟩
  refine WL.p rfl (Pu.addS (m := strB (head c)) (n := strB [10]) rfl rfl (by rw [strB_size, strB_size]; simp; omega)) ?_
  have e1 : strB (head c) ++ strB [10] = strB (glue [head c]) := by rw [strB_app]; simp [glue]
  rw [e1]
  clear e1 ew
  obtain ⟨L, hL0⟩ : ∃ L, L = es.map Evt.line := ⟨_, rfl⟩
  have hLl : L.length = ln := by rw [hL0, List.length_map, hlen]
  have hLm : ∀ s ∈ L, s.length ≤ 400000 := by
    intro s hs
    rw [hL0] at hs
    obtain ⟨e, he, rfl⟩ := List.mem_map.1 hs
    have h1 := line_len (hesm e he).1
    have h2 : e.bytes.length ≤ (es.map (fun e => e.bytes.length)).sum := sum_mem (fun e : Evt => e.bytes.length) he
    omega
  have hkm : ∀ i, ∀ s ∈ head c :: laidK L bad2 kk i, s.length ≤ 400000 := by
    intro i s hs
    rcases List.mem_cons.1 hs with rfl | hs
    · omega
    · exact laidK_len hLm (by omega) s hs
  have hgl : ∀ i, (glue (head c :: laidK L bad2 kk i)).length ≤ 62 * 400001 := fun i => by
    have h1 := glue_len 400000 _ (hkm i)
    have h2 := laidK_num (L := L) (bad := bad2) (k := kk) (i := i)
    have h3 : (head c :: laidK L bad2 kk i).length ≤ 62 := by simp only [List.length_cons]; omega
    exact Nat.le_trans h1 (Nat.mul_le_mul_right _ h3)
  rw [← hL0] at hlst
  have e0 : glue [head c] = glue (head c :: laidK L bad2 kk 0) := by unfold laidK; rw [if_pos (Nat.zero_le _)]; rfl
  rw [e0]
  clear e0
  repeat' (first | refine S2b ?_ | refine S3 ?_ | refine SA (fun _ => ?_) | refine G1 (fun hc => ?_) (fun hc => ?_) | refine G2 (fun hc => ?_) (fun hc => ?_) | refine G3 (fun hc => ?_) (fun hc => ?_) | refine SL ?_ | fail)
  refine W.loop (G := WtG) (fun g => [(14, .slice la ln lc), (4, .string (strB bad2)), (17, .int .i64 kk), (18, .string (strB (glue (head c :: laidK L bad2 kk g.i)))), (19, .int .i64 g.i)])
    (fun _ => hL) (fun g => g.i ≤ ln + 1) (fun g => ln + 1 - g.i) ⟨0⟩ (Nat.zero_le _) envA (fun _ h => h.sublist (List.sublist_append_left _ _)) ?_
  rintro ⟨i⟩ hi1
  dsimp only at hi1 ⊢
  have hgi := hgl i
  have hat := fun x hx => laidK_at (L := L) (bad := bad2) (k := kk) (i := i) (by omega) (x := x) hx
  have hend := laidK_end (L := L) (bad := bad2) (k := kk) (by omega)
  obtain ⟨tx, htx⟩ : ∃ tx, tx = glue (head c :: laidK L bad2 kk i) := ⟨_, rfl⟩
  rw [← htx] at hgi ⊢
  have hsn : ∀ (M : List Str) (s : Str), glue (head c :: (M ++ [s])) = glue (head c :: M) ++ s ++ [10] := fun M s => by rw [← List.cons_append, glue_snoc]
  repeat' (first | refine S2b ?_ | refine S3 ?_ | refine SA (fun _ => ?_) | refine G1 (fun hc => ?_) (fun hc => ?_) | refine G2 (fun hc => ?_) (fun hc => ?_) | refine G3 (fun hc => ?_) (fun hc => ?_) | refine SL ?_ | fail)
  · have hik : i = kk := by simp at hc; omega
    refine WL.p rfl (Pu.addS (m := strB tx) (n := strB bad2) rfl rfl (by rw [strB_size, strB_size]; omega)) ?_
    have e1 : strB tx ++ strB bad2 = strB (tx ++ bad2) := strB_app _ _
    rw [e1]
    refine WL.p rfl (Pu.addS (m := strB (tx ++ bad2)) (n := strB [10]) rfl rfl (by rw [strB_size, strB_size]; simp; omega)) ?_
    have e2 : strB (tx ++ bad2) ++ strB [10] = strB (tx ++ bad2 ++ [10]) := strB_app _ _
    rw [e2]
    obtain ⟨ty, hty0⟩ : ∃ ty, ty = tx ++ bad2 ++ [10] := ⟨_, rfl⟩
    have htyl : ty.length ≤ 26000000 := by rw [hty0]; simp; omega
    have hty : ty = glue (head c :: if i = kk then laidK L bad2 kk i ++ [bad2] else laidK L bad2 kk i) := by rw [if_pos hik, hsn, hty0, htx]
    rw [← hty0]
    clear e1 e2 hc
    repeat' (first | refine S2b ?_ | refine S3 ?_ | refine SA (fun _ => ?_) | refine G1 (fun hc => ?_) (fun hc => ?_) | refine G2 (fun hc => ?_) (fun hc => ?_) | refine G3 (fun hc => ?_) (fun hc => ?_) | refine SL ?_ | fail)
    · have hil : i < ln := by simp at hc; omega
      clear hc
      obtain ⟨x, hx⟩ : ∃ x, L[i]? = some x := ⟨L[i]'(by omega), by simp⟩
      obtain ⟨bb, oo, rfl, hcan⟩ := hlst.can (by omega)
      have hxm := hLm x (List.mem_of_getElem? hx)
      have hia : 0 ≤ (i : Int) ∧ (i : Int) < ln := by omega
      have hC : Sl.Can F hL bb (oo + (i : Int).toNat * 1) [.string (strB x)] := by
        have := hcan.one (i := i) (v := S x) (by rw [List.getElem?_map, hx]; rfl)
        simpa [S] using this
      repeat' (first | refine S2b ?_ | refine S3 ?_ | refine SA (fun _ => ?_) | refine G1 (fun hc => ?_) (fun hc => ?_) | refine G2 (fun hc => ?_) (fun hc => ?_) | refine G3 (fun hc => ?_) (fun hc => ?_) | refine SL ?_ | fail)
      refine WL.p rfl (Pu.addS (m := strB ty) (n := strB x) rfl rfl (by rw [strB_size, strB_size]; omega)) ?_
      have e3 : strB ty ++ strB x = strB (ty ++ x) := strB_app _ _
      rw [e3]
      refine WL.p rfl (Pu.addS (m := strB (ty ++ x)) (n := strB [10]) rfl rfl (by rw [strB_size, strB_size]; simp; omega)) ?_
      have e4 : strB (ty ++ x) ++ strB [10] = strB (glue (head c :: laidK L bad2 kk (i + 1))) := by
        rw [strB_app, hat x hx, hsn, ← hty]
      rw [e4]
      clear e3 e4
      repeat' (first | refine S2b ?_ | refine S3 ?_ | refine SA (fun _ => ?_) | refine G1 (fun hc => ?_) (fun hc => ?_) | refine G2 (fun hc => ?_) (fun hc => ?_) | refine G3 (fun hc => ?_) (fun hc => ?_) | refine SL ?_ | fail)
      rw [i64_succ (by omega)]
      exact Fin.round ⟨i + 1⟩ (Nat.succ_le_succ (Nat.le_of_lt hil)) envA (fun _ h => h) (by dsimp only; omega)
    · have hil : i = ln := by simp at hc; omega
      clear hc
      have e5 : ty = glue (head c :: laidK L bad2 kk (i + 1)) := by
        rw [show i + 1 = L.length + 1 by omega, hend, hty, show i = L.length by omega]
      rw [e5, i64_succ (by omega)]
      exact Fin.round ⟨i + 1⟩ (Nat.le_of_eq (congrArg (· + 1) hil)) envA (fun _ h => h) (by dsimp only; omega)
  · have hik : ¬ i = kk := by rename_i h1; simp at h1; omega
    have hil : i < ln := by simp at hc; omega
    clear hc
    obtain ⟨ty, hty0⟩ : ∃ ty, ty = tx := ⟨_, rfl⟩
    have htyl : ty.length ≤ 26000000 := by rw [hty0]; omega
    have hty : ty = glue (head c :: if i = kk then laidK L bad2 kk i ++ [bad2] else laidK L bad2 kk i) := by rw [if_neg hik, hty0, htx]
    rw [← hty0]
    obtain ⟨x, hx⟩ : ∃ x, L[i]? = some x := ⟨L[i]'(by omega), by simp⟩
    obtain ⟨bb, oo, rfl, hcan⟩ := hlst.can (by omega)
    have hxm := hLm x (List.mem_of_getElem? hx)
    have hia : 0 ≤ (i : Int) ∧ (i : Int) < ln := by omega
    have hC : Sl.Can F hL bb (oo + (i : Int).toNat * 1) [.string (strB x)] := by
      have := hcan.one (i := i) (v := S x) (by rw [List.getElem?_map, hx]; rfl)
      simpa [S] using this
    repeat' (first | refine S2b ?_ | refine S3 ?_ | refine SA (fun _ => ?_) | refine G1 (fun hc => ?_) (fun hc => ?_) | refine G2 (fun hc => ?_) (fun hc => ?_) | refine G3 (fun hc => ?_) (fun hc => ?_) | refine SL ?_ | fail)
    refine WL.p rfl (Pu.addS (m := strB ty) (n := strB x) rfl rfl (by rw [strB_size, strB_size]; omega)) ?_
    have e3 : strB ty ++ strB x = strB (ty ++ x) := strB_app _ _
    rw [e3]
    refine WL.p rfl (Pu.addS (m := strB (ty ++ x)) (n := strB [10]) rfl rfl (by rw [strB_size, strB_size]; simp; omega)) ?_
    have e4 : strB (ty ++ x) ++ strB [10] = strB (glue (head c :: laidK L bad2 kk (i + 1))) := by
      rw [strB_app, hat x hx, hsn, ← hty]
    rw [e4]
    clear e3 e4
    repeat' (first | refine S2b ?_ | refine S3 ?_ | refine SA (fun _ => ?_) | refine G1 (fun hc => ?_) (fun hc => ?_) | refine G2 (fun hc => ?_) (fun hc => ?_) | refine G3 (fun hc => ?_) (fun hc => ?_) | refine SL ?_ | fail)
    rw [i64_succ (by omega)]
    exact Fin.round ⟨i + 1⟩ (Nat.succ_le_succ (Nat.le_of_lt hil)) envA (fun _ h => h) (by dsimp only; omega)
  · have hik : ¬ i = kk := by rename_i h1; simp at h1; omega
    have hil : i = ln := by rename_i h2 h1; simp at h2 hc; omega
    clear hc
    obtain ⟨ty, hty0⟩ : ∃ ty, ty = tx := ⟨_, rfl⟩
    have hty : ty = glue (head c :: if i = kk then laidK L bad2 kk i ++ [bad2] else laidK L bad2 kk i) := by rw [if_neg hik, hty0, htx]
    rw [← hty0]
    have e5 : ty = glue (head c :: laidK L bad2 kk (i + 1)) := by
      rw [show i + 1 = L.length + 1 by omega, hend, hty, show i = L.length by omega]
    rw [e5, i64_succ (by omega)]
    exact Fin.round ⟨i + 1⟩ (Nat.le_of_eq (congrArg (· + 1) hil)) envA (fun _ h => h) (by dsimp only; omega)
  · have hil : i = L.length + 1 := by simp at hc; omega
    clear hc hend hat hsn hgi
    rw [hil, laidK_all (by omega), hL0, ← List.map_take, ← List.map_drop] at htx
    have hT : Text tx (.inl (kk + 1)) := by
      rw [htx]
      exact text_wrong hc0 hi hesm hb1 hb2 hb3 kk (by omega)
    have htl : tx.length ≤ 1000000 := by
      have h1 := glue_lines es (fun e he => (hesm e he).1)
      have h2 : (glue (es.map Evt.line)).length = (glue ((es.take kk).map Evt.line)).length + (glue ((es.drop kk).map Evt.line)).length := by
        rw [← List.length_append, ← glue_app, ← List.map_append, List.take_append_drop]
      rw [htx, ← List.singleton_append, glue_app, glue_app]
      simp only [List.length_append, glue, List.length_cons, List.length_nil]
      omega
    have eR : ∀ F', (∀ b o, F b = some o → F' b = some o) → (∀ w, In F' [] w → In F hL w) → Tr Tryz.prog 15 [S tx].toArray F' [] (fun v H' => v = tup [S [], .int .i64 ((kk + 1 : Nat) : Int), .int .i64 7] ∧ H' = []) := fun F' hp hF => by
      refine (run_tr F' (hG.at hF) (M F' hp) tx htl (fun k1 c1 ev1 h => by cases h.inj hT)).mono ?_
      rintro v H' ⟨h, rfl⟩
      refine ⟨?_, rfl⟩
      rcases h with ⟨j, h1, rfl⟩ | ⟨k1, c1, ev1, h1, _⟩
      · cases h1.inj hT
        rfl
      · cases h1.inj hT
    refine WL.e rfl (Ef.callP (c := []) (vals := [S tx]) (by exact rfl) (Sub.nil _) eR) ?_
    rintro _ _ ⟨_, ⟨rfl, rfl⟩, rfl⟩
    unfold S
    repeat' (first | refine S2b ?_ | refine S3 ?_ | refine SA (fun _ => ?_) | refine G1 (fun hc => ?_) (fun hc => ?_) | refine G2 (fun hc => ?_) (fun hc => ?_) | refine G3 (fun hc => ?_) (fun hc => ?_) | refine SL ?_ | fail)
    · skip
      refine WL.e rfl (Ef.callF (by exact rfl) (.nil _) (fun hd => hW _ hd)) ?_
      rintro _ _ ⟨_, rfl, rfl⟩
      repeat' (first | refine S2b ?_ | refine S3 ?_ | refine SA (fun _ => ?_) | refine G1 (fun hc => ?_) (fun hc => ?_) | refine G2 (fun hc => ?_) (fun hc => ?_) | refine G3 (fun hc => ?_) (fun hc => ?_) | refine SL ?_ | fail)
      exact Fin.retW (by exact rfl) resA (H' := []) (fun _ h => h.sublist (List.nil_sublist _)) ⟨rfl, rfl⟩
    · exfalso
      rw [i64_id (by omega) (by omega)] at hc
      simp at hc
    · exfalso
      rw [show (ByteArray.mk #[]) = strB [] from rfl, eqS_bool] at hc
      simp at hc
end Go.Proofs.YtjcekmiengnglaaGreatDoor
