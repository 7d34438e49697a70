/- The law ScriptFields, walked. Conditions: the event lies in memory; what the law's run of works answers. -/
import Derived.Test.YtjcekmiengnglaaGreatDoorSuF
import Derived.Test.YtjcekmiengnglaaGreatDoorBuL
import Derived.Test.YtjcekmiengnglaaGreatDoorStQ
import Derived.Test.YtjcekmiengnglaaGreatDoorBuM
namespace Go.Proofs.YtjcekmiengnglaaGreatDoor
open Go Go.Sl Go.Scr

structure FwG where
  i : Nat
set_option maxHeartbeats 16000000 in
theorem fieldsLaw_tr (F : Nat → Option Obj) (hG : Gl F) (hW : WorksIs F) (x : Evx) (hok : x.e.Ok) (hby : Lst F [] 1 (x.e.bytes.map B) x.ba x.bn x.bc) :
    Tr Tryz.prog 5 [.agg x.cells.toArray].toArray F [] (fun v H => v = .bool true ∧ H = []) := by
  refine Tr.enter Tryz.func5 rfl Tryz.ntmps5 rfl (fun w0 => ?_)
  have hbn : x.bn = x.e.bytes.length := by have := hby.len; simp at this; omega
  repeat' (first | refine S2b ?_ | refine S3 ?_ | refine SA (fun _ => ?_) | refine G1 (fun hc => ?_) (fun hc => ?_) | refine G2 (fun hc => ?_) (fun hc => ?_) | refine G3 (fun hc => ?_) (fun hc => ?_) | refine SL ?_ | fail)
  · skip
    refine WL.e rfl (Ef.callF (by exact rfl) (.nil _) (fun hd => hW _ hd)) ?_
    rintro _ _ ⟨_, rfl, rfl⟩
    repeat' (first | refine S2b ?_ | refine S3 ?_ | refine SA (fun _ => ?_) | refine G1 (fun hc => ?_) (fun hc => ?_) | refine G2 (fun hc => ?_) (fun hc => ?_) | refine G3 (fun hc => ?_) (fun hc => ?_) | refine SL ?_ | fail)
    exact Fin.retW (by exact rfl) resA (H' := []) (fun _ h => h.sublist (List.nil_sublist _)) ⟨rfl, rfl⟩
  rename_i b1
  have hbl : x.e.bytes.length ≤ 4096 := by simp at hc; omega
  clear hc
  have hx : Evx.Is F x := ⟨hok, hby, by omega⟩
  refine WL.e rfl (Ef.callW (c := []) (by exact rfl) (Sub.nil _) (fun F' hF => copyE_tr F' x (hx.mono (fun w h => (hF w h).sublist (List.nil_sublist _))) (by omega))) ?_
  rintro _ _ ⟨hb, ⟨y, rfl, hye, hyo⟩, rfl⟩
  have h4 : y.cells.all (·.oneCell') = true := List.all_eq_true.2 (evx_one y)
  have hyis : ∀ {F' G : Nat → Option Obj} {H : HL}, (∀ w, In F' [] w → In G H w) → hb.Sublist H → y.Is F' := fun hF hs => ⟨by rw [hye]; exact hok, (Lst.own (F := _) (H := _) hyo (fun _ h => h.sublist hs)).mono hF, by rw [hye]; omega⟩
  repeat' (first | refine S2b ?_ | refine S3 ?_ | refine SA (fun _ => ?_) | refine G1 (fun hc => ?_) (fun hc => ?_) | refine G2 (fun hc => ?_) (fun hc => ?_) | refine G3 (fun hc => ?_) (fun hc => ?_) | refine SL ?_ | fail)
  refine WL.e rfl (Ef.callW (c := []) (by exact rfl) (Sub.nil _) (fun F' hF => form_tr F' (hG.at hF) y (hyis hF findA))) ?_
  rintro v _ ⟨_, ⟨h1, h2, rfl⟩, rfl⟩
  rw [hye] at h1 h2
  by_cases hf : x.e.Form
  · obtain rfl := h1 hf
    clear h1 h2
    repeat' (first | refine S2b ?_ | refine S3 ?_ | refine SA (fun _ => ?_) | refine G1 (fun hc => ?_) (fun hc => ?_) | refine G2 (fun hc => ?_) (fun hc => ?_) | refine G3 (fun hc => ?_) (fun hc => ?_) | refine SL ?_ | fail)
    refine WL.e rfl (Ef.callW (c := []) (by exact rfl) (Sub.nil _) (fun F' hF => rform_tr F' x (hx.mono (fun w h => (hF w h).sublist (List.nil_sublist _))) (by omega))) ?_
    rintro v _ ⟨_, ⟨h1, h2, rfl⟩, rfl⟩
    obtain rfl := h1 hf
    clear h1 h2
    have hRd : Reads x.e.line x.e := ⟨hok, hf, rfl⟩
    have hsp := (fills_of_reads hRd).1
    have hll := line_len hok
    have hkr := hok.kind
    obtain ⟨ls, hls⟩ : ∃ ls, ls = x.e.line := ⟨_, rfl⟩
    rw [← hls] at hRd hsp hll ⊢
    unfold S
    repeat' (first | refine S2b ?_ | refine S3 ?_ | refine SA (fun _ => ?_) | refine G1 (fun hc => ?_) (fun hc => ?_) | refine G2 (fun hc => ?_) (fun hc => ?_) | refine G3 (fun hc => ?_) (fun hc => ?_) | refine SL ?_ | fail)
    · exfalso
      rw [eqS_bool] at hc
      simp at hc
    clear hc
    refine WL.e rfl (Ef.lookR (by exact rfl) (fun F' hF => rsame_tr F' y x (hyis hF findA) (hx.mono (fun w h => (hF w h).sublist (List.nil_sublist _))))) ?_
    rintro _ _ ⟨rfl, rfl⟩
    rw [decide_eq_true hye]
    repeat' (first | refine S2b ?_ | refine S3 ?_ | refine SA (fun _ => ?_) | refine G1 (fun hc => ?_) (fun hc => ?_) | refine G2 (fun hc => ?_) (fun hc => ?_) | refine G3 (fun hc => ?_) (fun hc => ?_) | refine SL ?_ | fail)
    refine WL.e rfl (Ef.callW (c := []) (by exact rfl) (Sub.nil _) (fun F' hF => rsplit_tr F' ls 32 (by omega))) ?_
    rintro _ _ ⟨hL, ⟨sa, sn, sc, rfl, hown⟩, rfl⟩
    rw [hsp] at hown
    have hwl : x.e.words.length = (fds x.e.kind).length := by unfold Evt.words; rw [List.length_map]
    have hsn : sn = (fds x.e.kind).length + 1 := by have := hown.len; simp at this; omega
    have h5 := fds_len5 x.e.kind
    repeat' (first | refine S2b ?_ | refine S3 ?_ | refine SA (fun _ => ?_) | refine G1 (fun hc => ?_) (fun hc => ?_) | refine G2 (fun hc => ?_) (fun hc => ?_) | refine G3 (fun hc => ?_) (fun hc => ?_) | refine SL ?_ | fail)
    refine WL.e rfl (Ef.lookR (by exact rfl) (fun F' hF => lfields_tr F' x.e.kind hf.1 hf.2.1)) ?_
    rintro _ _ ⟨rfl, rfl⟩
    have ew : IntKind.i64.wrap (1 + ((fds x.e.kind).length : Int)) = (sn : Int) := by rw [i64_id (by omega) (by omega)]; omega
    repeat' (first | refine S2b ?_ | refine S3 ?_ | refine SA (fun _ => ?_) | refine G1 (fun hc => ?_) (fun hc => ?_) | refine G2 (fun hc => ?_) (fun hc => ?_) | refine G3 (fun hc => ?_) (fun hc => ?_) | refine SL ?_ | fail)
    · exfalso
      rw [ew] at hc
      simp at hc
    clear hc
    have hlst := Lst.own (F := F) (H := hL) hown (fun _ h => h)
    refine W.loop (G := FwG) (fun g => [(1, .pointer (some ⟨b1, 0, none⟩)), (4, .string (strB ls)), (8, .slice sa sn sc), (9, .int .i64 g.i)])
      (fun _ => (b1, .cells x.cells.toArray 26 (0, 0)) :: hL) (fun g => 1 ≤ g.i ∧ g.i ≤ sn) (fun g => sn - g.i) ⟨1⟩ ⟨Nat.le_refl _, by dsimp only; omega⟩ envA (fun _ h => In.of_sub (.pick (.right (.right (.right (.there (.right .here))))) (.last (L := hL) .here)) h) ?_
    rintro ⟨i⟩ ⟨hi1, hi2⟩
    dsimp only at hi1 hi2 ⊢
    obtain ⟨W0, hW0⟩ : ∃ W0, W0 = kword x.e.kind :: x.e.words := ⟨_, rfl⟩
    have hWl : W0.length = sn := by rw [hW0, List.length_cons, hwl, hsn]
    rw [← hW0] at hlst hown
    repeat' (first | refine S2b ?_ | refine S3 ?_ | refine SA (fun _ => ?_) | refine G1 (fun hc => ?_) (fun hc => ?_) | refine G2 (fun hc => ?_) (fun hc => ?_) | refine G3 (fun hc => ?_) (fun hc => ?_) | refine SL ?_ | fail)
    · have hi' : i < sn := by simp at hc; omega
      clear hc
      rename_i b4
      refine WL.e rfl (Ef.app (m := sn) (news := W0.map S) (hb := [(b4, .cells ([] : List Value).toArray 9 (0, 0))]) (by exact rfl) (by exact rfl) rfl rfl (OwnS.empty _ _ b4) (.one [_] _) (hlst.src.mono (fun _ h => h.sublist (by simp))) (by simp [hWl]) (fun u hu => by obtain ⟨w, _, rfl⟩ := List.mem_map.1 hu; rfl) (by simp; omega) (by simp [maxLen]; omega)) ?_
      rintro _ _ ⟨hM, hownM, rfl⟩
      obtain ⟨ma, mn, mc, rfl, _, _⟩ := hownM.shape
      rw [List.nil_append] at hownM
      have hmn : mn = sn := by have := hownM.len; rw [List.length_map] at this; omega
      subst hmn
      obtain ⟨w, hw⟩ : ∃ w, W0[i]? = some w := ⟨W0[i]'(by omega), by simp⟩
      obtain ⟨bs, os, rfl, hcan⟩ := hlst.can (by omega)
      obtain ⟨bm, om, rfl⟩ := hownM.addr (by omega)
      have hia : 0 ≤ (i : Int) ∧ (i : Int) < mn := by omega
      have hC : Sl.Can F hL bs (os + (i : Int).toNat * 1) [.string (strB w)] := by
        have := hcan.one (i := i) (v := S w) (by rw [List.getElem?_map, hw]; rfl)
        simpa [S] using this
      repeat' (first | refine S2b ?_ | refine S3 ?_ | refine SA (fun _ => ?_) | refine G1 (fun hc => ?_) (fun hc => ?_) | refine G2 (fun hc => ?_) (fun hc => ?_) | refine G3 (fun hc => ?_) (fun hc => ?_) | refine SL ?_ | fail)
      refine W.drawA ?_
      repeat' (first | refine S2b ?_ | refine S3 ?_ | refine SA (fun _ => ?_) | refine G1 (fun hc => ?_) (fun hc => ?_) | refine G2 (fun hc => ?_) (fun hc => ?_) | refine G3 (fun hc => ?_) (fun hc => ?_) | refine SL ?_ | fail)
      refine WD.e rfl (Ef.lookR (by exact rfl) (fun F' hF => other_tr F' x.e.kind i (by omega) w)) ?_
      rintro _ _ ⟨rfl, rfl⟩
      refine ⟨.inl (by kernel_rfl), ?_⟩
      obtain ⟨j, rfl⟩ : ∃ j, i = j + 1 := ⟨i - 1, by omega⟩
      obtain ⟨f, hfd⟩ : ∃ f, (fds x.e.kind)[j]? = some f := ⟨(fds x.e.kind)[j]'(by omega), by simp⟩
      have hwf : w = wd (x.e.get f) := by
        rw [hW0, List.getElem?_cons_succ, Evt.words, List.getElem?_map, hfd] at hw
        exact (Option.some.inj hw).symm
      obtain ⟨w2, hw2⟩ : ∃ w2, w2 = otherZ (octAt x.e.kind ((j + 1 : Nat) : Int)) w := ⟨_, rfl⟩
      rw [← hw2]
      have hw3 : w2 = wd (nought (x.e.get f)) := by rw [hw2, hwf]; exact other_nought hf.1 hf.2.1 hfd (hok.fits f)
      obtain ⟨e', hR', hk', hne⟩ := reads_other hRd j f hfd
      rw [← hw3] at hR'
      obtain ⟨W1, hW1⟩ : ∃ W1, W1 = kword x.e.kind :: x.e.words.set j w2 := ⟨_, rfl⟩
      rw [← hW1] at hR'
      have hWset : (W0.map S).take (j + 1) ++ [S w2] ++ (W0.map S).drop (j + 1 + 1) = W1.map S := by
        rw [hW1, hW0]
        simp only [List.map_cons, List.take_succ_cons, List.drop_succ_cons, List.cons_append, List.append_assoc, List.map_set]
        rw [List.set_eq_take_append_cons_drop, if_pos (by rw [List.length_map, hwl]; omega)]
        rfl
      have hW1l : W1.length = mn := by rw [hW1, List.length_cons, List.length_set, hwl]; omega
      have hW1m : ∀ u ∈ W1, u.length ≤ 8213 := by
        have hb0 : ∀ (v : FV) (g : Scr.Fd), Scr.fits g.ft v → (∀ z, v = .o z → z.length ≤ 4096) → (wd v).length ≤ 8213 := fun v g h1 h2 => fits_len h1 4096 h2
        intro u hu
        rw [hW1] at hu
        rcases List.mem_cons.1 hu with rfl | hu
        · have := kword_len8 x.e.kind; omega
        · rcases List.mem_or_eq_of_mem_set hu with hu | rfl
          · obtain ⟨g, _, rfl⟩ := List.mem_map.1 hu
            refine hb0 _ g (hok.fits g) (fun z hz => ?_)
            cases g <;> simp only [Evt.get] at hz <;> cases hz
            exact hbl
          · rw [hw3]
            refine hb0 _ f (nought_fits (hok.fits f)) (fun z hz => ?_)
            cases hg : x.e.get f <;> rw [hg] at hz <;> simp only [nought] at hz <;> cases hz
            split <;> decide
      have hjl : (join 32 W1).length ≤ 50000 := by
        have h1 := jlen 32 8213 W1 hW1m
        have h2 : W1.length ≤ 6 := by omega
        have h3 := Nat.mul_le_mul_right (8213 + 1) h2
        omega
      obtain ⟨hM', hownM', hput⟩ := hownM.put (j + 1) [S w2] (by simp; omega)
      have hput' : PutAt bm (om + ((j + 1 : Nat) : Int).toNat * 1) [S w2] hM hM' := by simpa using hput
      rw [show (j + 1) + [S w2].length = j + 1 + 1 from rfl, hWset] at hownM'
      clear hput
      unfold S at hput'
      repeat' (first | refine S2b ?_ | refine S3 ?_ | refine SA (fun _ => ?_) | refine G1 (fun hc => ?_) (fun hc => ?_) | refine G2 (fun hc => ?_) (fun hc => ?_) | refine G3 (fun hc => ?_) (fun hc => ?_) | refine SL ?_ | fail)
      refine WD.e0A ?_ (Ef.st rfl rfl rfl (PutAt.left hput'))
      repeat' (first | refine S2b ?_ | refine S3 ?_ | refine SA (fun _ => ?_) | refine G1 (fun hc => ?_) (fun hc => ?_) | refine G2 (fun hc => ?_) (fun hc => ?_) | refine G3 (fun hc => ?_) (fun hc => ?_) | refine SL ?_ | fail)
      have hls1 := Lst.own (F := F) (H := hM') hownM' (fun _ h => h)
      refine WL.e rfl (Ef.lookR (by exact rfl) (fun F' hF => tog_tr F' [] W1 _ _ _ (hls1.mono (fun w h => (hF w h).sublist findA)) (by rw [hW1]; simp) (fun u hu => Nat.le_trans (hW1m u hu) (by decide)) (by omega))) ?_
      rintro _ _ ⟨rfl, rfl⟩
      obtain ⟨l2, hl2⟩ : ∃ l2, l2 = join 32 W1 := ⟨_, rfl⟩
      rw [← hl2] at hR' hjl ⊢
      unfold S
      repeat' (first | refine S2b ?_ | refine S3 ?_ | refine SA (fun _ => ?_) | refine G1 (fun hc => ?_) (fun hc => ?_) | refine G2 (fun hc => ?_) (fun hc => ?_) | refine G3 (fun hc => ?_) (fun hc => ?_) | refine SL ?_ | fail)
      refine WL.e rfl (Ef.callW (c := []) (vals := [S l2]) (by exact rfl) (Sub.nil _) (fun F' hF => Tr.mono (read_tr F' (hG.at hF) l2 (by omega)) (fun _ _ => ReQ.a))) ?_
      rintro _ _ ⟨k1, ⟨x1, er1, rfl, r1⟩, rfl⟩
      rcases r1.rd with ⟨rfl, hx1⟩ | ⟨rfl, _, hno⟩
      · have hxe := hx1.inj hR'
        repeat' (first | refine S2b ?_ | refine S3 ?_ | refine SA (fun _ => ?_) | refine G1 (fun hc => ?_) (fun hc => ?_) | refine G2 (fun hc => ?_) (fun hc => ?_) | refine G3 (fun hc => ?_) (fun hc => ?_) | refine SL ?_ | fail)
        refine WL.e rfl (Ef.callW (c := []) (by exact rfl) (Sub.nil _) (fun F' hF => form_tr F' (hG.at hF) x1 (r1.is (by omega) hF findA))) ?_
        rintro v _ ⟨_, ⟨q1, _, rfl⟩, rfl⟩
        obtain rfl := q1 hx1.2.1
        rw [hx1.2.2]
        unfold S
        repeat' (first | refine S2b ?_ | refine S3 ?_ | refine SA (fun _ => ?_) | refine G1 (fun hc => ?_) (fun hc => ?_) | refine G2 (fun hc => ?_) (fun hc => ?_) | refine G3 (fun hc => ?_) (fun hc => ?_) | refine SL ?_ | fail)
        · exfalso
          rw [eqS_bool] at hc
          simp at hc
        clear hc
        refine WL.e rfl (Ef.lookR (by exact rfl) (fun F' hF => rsame_tr F' x1 x (r1.is (by omega) hF findA) (hx.mono (fun w h => (hF w h).sublist (List.nil_sublist _))))) ?_
        rintro _ _ ⟨rfl, rfl⟩
        rw [decide_eq_false (show ¬ x1.e = x.e from fun h => hne (by rw [← hxe, h]))]
        repeat' (first | refine S2b ?_ | refine S3 ?_ | refine SA (fun _ => ?_) | refine G1 (fun hc => ?_) (fun hc => ?_) | refine G2 (fun hc => ?_) (fun hc => ?_) | refine G3 (fun hc => ?_) (fun hc => ?_) | refine SL ?_ | fail)
        · exfalso
          rw [hxe, hk'] at hc
          simp at hc
        rw [i64_succ (by omega)]
        exact Fin.round ⟨j + 1 + 1⟩ ⟨Nat.le_add_left 1 _, hi'⟩ envA (fun _ h => In.of_sub (.pick (.right (.there (.right (.right .here)))) (.last (L := hL) (.right (.there (.right (.right .all)))))) h) (by dsimp only; omega)
      · exact absurd hR' (hno e')
    · have hi' : i = sn := by simp at hc; omega
      clear hc
      refine WL.e rfl (Ef.callW (c := []) (vals := [S ls]) (by exact rfl) (Sub.nil _) (fun F' hF => Tr.mono (read_tr F' (hG.at hF) ls (by omega)) (fun _ _ => ReQ.a))) ?_
      rintro _ _ ⟨k1, ⟨x1, er1, rfl, r1⟩, rfl⟩
      rcases r1.rd with ⟨rfl, hx1⟩ | ⟨rfl, _, hno⟩
      · have hxe := hx1.inj hRd
        repeat' (first | refine S2b ?_ | refine S3 ?_ | refine SA (fun _ => ?_) | refine G1 (fun hc => ?_) (fun hc => ?_) | refine G2 (fun hc => ?_) (fun hc => ?_) | refine G3 (fun hc => ?_) (fun hc => ?_) | refine SL ?_ | fail)
        refine WL.e rfl (Ef.lookR (by exact rfl) (fun F' hF => rsame_tr F' x1 x (r1.is (by omega) hF findA) (hx.mono (fun w h => (hF w h).sublist (List.nil_sublist _))))) ?_
        rintro _ _ ⟨rfl, rfl⟩
        rw [decide_eq_true hxe]
        repeat' (first | refine S2b ?_ | refine S3 ?_ | refine SA (fun _ => ?_) | refine G1 (fun hc => ?_) (fun hc => ?_) | refine G2 (fun hc => ?_) (fun hc => ?_) | refine G3 (fun hc => ?_) (fun hc => ?_) | refine SL ?_ | fail)
        refine WL.e rfl (Ef.callF (by exact rfl) (.nil _) (fun hd => hW _ hd)) ?_
        rintro _ _ ⟨_, rfl, rfl⟩
        repeat' (first | refine S2b ?_ | refine S3 ?_ | refine SA (fun _ => ?_) | refine G1 (fun hc => ?_) (fun hc => ?_) | refine G2 (fun hc => ?_) (fun hc => ?_) | refine G3 (fun hc => ?_) (fun hc => ?_) | refine SL ?_ | fail)
        exact Fin.retW (by exact rfl) resA (H' := []) (fun _ h => h.sublist (List.nil_sublist _)) ⟨rfl, rfl⟩
      · exact absurd hRd (hno x.e)
  · obtain rfl := h2 hf
    clear h1 h2
    repeat' (first | refine S2b ?_ | refine S3 ?_ | refine SA (fun _ => ?_) | refine G1 (fun hc => ?_) (fun hc => ?_) | refine G2 (fun hc => ?_) (fun hc => ?_) | refine G3 (fun hc => ?_) (fun hc => ?_) | refine SL ?_ | fail)
    refine WL.e rfl (Ef.callW (c := []) (by exact rfl) (Sub.nil _) (fun F' hF => rform_tr F' x (hx.mono (fun w h => (hF w h).sublist (List.nil_sublist _))) (by omega))) ?_
    rintro v _ ⟨_, ⟨h1, h2, rfl⟩, rfl⟩
    obtain rfl := h2 hf
    clear h1 h2
    unfold S
    repeat' (first | refine S2b ?_ | refine S3 ?_ | refine SA (fun _ => ?_) | refine G1 (fun hc => ?_) (fun hc => ?_) | refine G2 (fun hc => ?_) (fun hc => ?_) | refine G3 (fun hc => ?_) (fun hc => ?_) | refine SL ?_ | fail)
    · exfalso
      rw [eqS_bool] at hc
      simp at hc
    clear hc
    refine WL.e rfl (Ef.lookR (by exact rfl) (fun F' hF => rsame_tr F' y x (hyis hF findA) (hx.mono (fun w h => (hF w h).sublist (List.nil_sublist _))))) ?_
    rintro _ _ ⟨rfl, rfl⟩
    rw [decide_eq_true hye]
    repeat' (first | refine S2b ?_ | refine S3 ?_ | refine SA (fun _ => ?_) | refine G1 (fun hc => ?_) (fun hc => ?_) | refine G2 (fun hc => ?_) (fun hc => ?_) | refine G3 (fun hc => ?_) (fun hc => ?_) | refine SL ?_ | fail)
    refine WL.e rfl (Ef.callF (by exact rfl) (.nil _) (fun hd => hW _ hd)) ?_
    rintro _ _ ⟨_, rfl, rfl⟩
    repeat' (first | refine S2b ?_ | refine S3 ?_ | refine SA (fun _ => ?_) | refine G1 (fun hc => ?_) (fun hc => ?_) | refine G2 (fun hc => ?_) (fun hc => ?_) | refine G3 (fun hc => ?_) (fun hc => ?_) | refine SL ?_ | fail)
    exact Fin.retW (by exact rfl) resA (H' := []) (fun _ h => h.sublist (List.nil_sublist _)) ⟨rfl, rfl⟩
end Go.Proofs.YtjcekmiengnglaaGreatDoor
