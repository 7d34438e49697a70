/- The law ReasmOrder, walked. Conditions: what the arguments' cells are. -/
import Derived.Test.YtokbkocjddcklaaRmZ
namespace Go.Proofs.Ytokbkocjddcklaa
open Go Go.Sl Go.Rm

theorem Inv.like {p : Pcs} {X : Nat → Bool} {R : List Nat} {K : Nat → Nat} {s s' : Rm.S} (i : p.Inv X R K s) (h1 : s'.L = s.L) (h2 : s'.nx = s.nx) : p.Inv X R K s' :=
  ⟨by rw [h1]; exact i.good, by rw [h1]; exact i.mem, by rw [h2]; exact i.nx, i.rl, i.nd, i.ord, i.kb, i.inc⟩
theorem of_map (p : Pcs) (R : List Nat) (k : Nat) (o : Bool) : ofM (R.map p.msg) (k : Int) o = (R.filter (fun m => decide (p.st m = k) && ((!p.un m) == o))).map p.msg := by
  unfold ofM
  rw [List.filter_map]
  congr 1
  refine List.filter_congr (fun m _ => ?_)
  dsimp only [Function.comp, Pcs.msg]
  congr 1
  rw [Bool.eq_iff_iff]
  simp
  omega
theorem want_map (first : Int) {l : List Sn} (hp : ∀ m ∈ l, m.ps ≠ []) : l.map Sn.mg = (List.range l.length).map (pcsOf first l).msg := by
  refine List.ext_getElem? (fun i => ?_)
  rw [List.getElem?_map, List.getElem?_map]
  cases hs : l[i]? with
  | none =>
    have := List.getElem?_eq_none_iff.1 hs
    rw [List.getElem?_eq_none_iff.2 (by simpa using this)]
    rfl
  | some s =>
    have hi := (List.getElem?_eq_some_iff.1 hs).1
    rw [List.getElem?_range hi, Option.map_some, Option.map_some, pcs_msg first hp hs]
theorem msl_own {F : Nat → Option Obj} {H : HL} {gs : List Ms} {ga : Option Addr} {gn gc : Nat} {gb : HL} (h : OwnS 40 3 (gs.flatMap Ms.cells) (.slice ga gn gc) gb) (hw : ∀ w, In F H w → In F gb w) {all : List Ms} (hk : ∀ m ∈ all, m.ok) (hw2 : ∀ w, In F H w → In F (all.flatMap (·.hb)) w) (hs : ∀ m ∈ gs, m ∈ all) : MsL F H gs ga gn gc :=
  ⟨(Lst.own (F := F) (H := gb) h (fun _ h => h)).mono hw, fun m hm => by
    have h1 := hk m (hs m hm)
    have h2 := (Lst.own (F := F) (H := m.hb) h1 (fun _ h => h)).src
    rw [← Ms.len h1]
    exact h2.mono (fun w h => (hw2 w h).sublist (flat_mem (·.hb) (hs m hm)))⟩
theorem msl_sub {F F' : Nat → Option Obj} {H H2 : HL} {gs os : List Ms} {ga oa : Option Addr} {gn gc on oc : Nat} {ob : HL} (h : MsL F H gs ga gn gc) (ho : OwnS 40 3 (os.flatMap Ms.cells) (.slice oa on oc) ob) (hs : ∀ m ∈ os, m ∈ gs) (h1 : ∀ w, In F' H2 w → In F ob w) (h2 : ∀ w, In F' H2 w → In F H w) : MsL F' H2 os oa on oc :=
  ⟨(Lst.own (F := F) (H := ob) ho (fun _ h => h)).mono h1, fun m hm => (h.src m (hs m hm)).mono h2⟩
structure OrG where
  i : Nat
  s : RM
  R : List Nat
  K : Nat → Nat
  ga : Option Addr
  gn : Nat
  gc : Nat
  gb : HL
  gs : List Ms
structure OtG where
  s : RM
  ga : Option Addr
  gn : Nat
  gc : Nat
  gb : HL
  gs : List Ms
set_option maxHeartbeats 16000000 in
theorem orderLaw_tr (F : Nat → Option Obj) (first : Int) (l : List Sn) (ka : Option Addr) (kn kc : Nat) (hl : Lst F [] 3 (l.flatMap snC) ka kn kc) (hop : ∀ m ∈ l, SnIs F m) (order : List UInt8) (sa : Option Addr) (sn sc : Nat) (hs : Lst F [] 1 (order.map B) sa sn sc) :
    Tr Try.prog 5 [.int .u32 first, .slice ka kn kc, .slice sa sn sc].toArray F [] (fun v H => v = .bool true ∧ H = []) := by
  refine Tr.enter Try.func5 rfl Try.ntmps5 rfl (fun w0 => ?_)
  have hkn : l.length = kn := lst_len (cells := snC) (fun _ => rfl) (by decide) hl
  repeat' (first | refine S1 ?_ | refine SD ?_ | refine SA (fun _ => ?_) | refine WL.g_split rfl rfl (fun hc => ?_) (fun hc => ?_) | refine WD.g_split rfl rfl (fun hc => ?_) (fun hc => ?_) | refine W.cond rfl (fun hc => ?_) (fun hc => ?_))
  ·
    refine WL.e rfl (Ef.callR (by exact rfl) (.nil _) (works_tr _)) ?_
    rintro _ _ ⟨rfl, rfl⟩
    repeat' (first | refine S1 ?_ | refine SD ?_ | refine SA (fun _ => ?_) | refine WL.g_split rfl rfl (fun hc => ?_) (fun hc => ?_) | refine WD.g_split rfl rfl (fun hc => ?_) (fun hc => ?_) | refine W.cond rfl (fun hc => ?_) (fun hc => ?_))
    exact Fin.retW (by exact rfl) resA (H' := []) (fun _ h => h.sublist (List.nil_sublist _)) ⟨rfl, rfl⟩
  ·
    refine WL.e rfl (Ef.callR (by exact rfl) (.nil _) (works_tr _)) ?_
    rintro _ _ ⟨rfl, rfl⟩
    repeat' (first | refine S1 ?_ | refine SD ?_ | refine SA (fun _ => ?_) | refine WL.g_split rfl rfl (fun hc => ?_) (fun hc => ?_) | refine WD.g_split rfl rfl (fun hc => ?_) (fun hc => ?_) | refine W.cond rfl (fun hc => ?_) (fun hc => ?_))
    exact Fin.retW (by exact rfl) resA (H' := []) (fun _ h => h.sublist (List.nil_sublist _)) ⟨rfl, rfl⟩
  have h80 : l.length ≤ 80 := by have := of_decide_eq_false (p := (kn : Int) > 80) (by assumption); omega
  refine WL.e rfl (Ef.callF (by exact rfl) (.nil _) (fun hd => pieces_tr _ first l ka kn kc (hl.mono (fun _ h => addF_in hd h)) (fun m hm => (hop m hm).mono (fun _ h => addF_in hd h)) h80)) ?_
  rintro _ _ ⟨_, hq, rfl⟩
  rcases hq with ⟨rfl, rfl⟩ | ⟨aa, an, ac, ab, wa, wn, wc, wb, ms, hA, rfl, hall, hwant, hmok, hmg, rfl⟩
  · dsimp only [tup]
    repeat' (first | refine S1 ?_ | refine SD ?_ | refine SA (fun _ => ?_) | refine WL.g_split rfl rfl (fun hc => ?_) (fun hc => ?_) | refine WD.g_split rfl rfl (fun hc => ?_) (fun hc => ?_) | refine W.cond rfl (fun hc => ?_) (fun hc => ?_))
    refine WL.e rfl (Ef.callR (by exact rfl) (.nil _) (works_tr _)) ?_
    rintro _ _ ⟨rfl, rfl⟩
    repeat' (first | refine S1 ?_ | refine SD ?_ | refine SA (fun _ => ?_) | refine WL.g_split rfl rfl (fun hc => ?_) (fun hc => ?_) | refine WD.g_split rfl rfl (fun hc => ?_) (fun hc => ?_) | refine W.cond rfl (fun hc => ?_) (fun hc => ?_))
    exact Fin.retW (by exact rfl) resA (H' := []) (fun _ h => h.sublist (List.nil_sublist _)) ⟨rfl, rfl⟩
  have han : an = offS l := by
    have := OwnS.len hall
    rw [pm_len, allP_len] at this
    omega
  have hwn : wn = l.length := by
    have h1 := OwnS.len hwant
    rw [flat_len] at h1
    have h2 := congrArg List.length hmg
    simp at h2
    omega
  subst han
  subst hwn
  dsimp only [tup]
  rw [List.append_nil]
  repeat' (first | refine S1 ?_ | refine SD ?_ | refine SA (fun _ => ?_) | refine WL.g_split rfl rfl (fun hc => ?_) (fun hc => ?_) | refine WD.g_split rfl rfl (fun hc => ?_) (fun hc => ?_) | refine W.cond rfl (fun hc => ?_) (fun hc => ?_))
  ·
    refine WL.e rfl (Ef.callR (by exact rfl) (.nil _) (works_tr _)) ?_
    rintro _ _ ⟨rfl, rfl⟩
    repeat' (first | refine S1 ?_ | refine SD ?_ | refine SA (fun _ => ?_) | refine WL.g_split rfl rfl (fun hc => ?_) (fun hc => ?_) | refine WD.g_split rfl rfl (fun hc => ?_) (fun hc => ?_) | refine W.cond rfl (fun hc => ?_) (fun hc => ?_))
    exact Fin.retW (by exact rfl) resA (H' := []) (fun _ h => h.sublist (List.nil_sublist _)) ⟨rfl, rfl⟩
  have hof := hA.few
  have hP : (pcsOf first l).Ok := pcs_ok first hA.ps hA.bs (by omega)
  refine WL.e rfl (Ef.call (by exact rfl) (.nil _) (New_ok _ 4 (by omega))) ?_
  rintro _ _ ⟨_, ⟨s0, hs0, rfl, rfl, ht0, hS0⟩, rfl⟩
  dsimp only [tup]
  repeat' (first | refine S1 ?_ | refine SD ?_ | refine SA (fun _ => ?_) | refine WL.g_split rfl rfl (fun hc => ?_) (fun hc => ?_) | refine WD.g_split rfl rfl (fun hc => ?_) (fun hc => ?_) | refine W.cond rfl (fun hc => ?_) (fun hc => ?_))
  refine WL.e rfl (Ef.callF (by exact rfl) (.nil _) (fun hd => turned_tr _ (offS l) (by omega) order sa sn sc (hs.mono (fun _ h => addF_in hd h)))) ?_
  rintro _ _ ⟨atb, ⟨ta, tc, rfl, hat⟩, rfl⟩
  repeat' (first | refine S1 ?_ | refine SD ?_ | refine SA (fun _ => ?_) | refine WL.g_split rfl rfl (fun hc => ?_) (fun hc => ?_) | refine WD.g_split rfl rfl (fun hc => ?_) (fun hc => ?_) | refine W.cond rfl (fun hc => ?_) (fun hc => ?_))
  have hap := turned_perm order (offS l)
  have hal := turned_len order (offS l)
  have hnd : (turned order (offS l)).Nodup := hap.nodup_iff.2 List.nodup_range
  obtain ⟨hL0, hr0, hn0⟩ := RM.said hS0
  obtain ⟨I0, U0, O0⟩ := Pcs.Inv.empty hP
  refine W.loop (G := OrG) (fun g => [(7, .slice aa (offS l) ac), (8, .slice wa l.length wc), (9, .pointer (some ⟨s0.R, 0, none⟩)), (11, .slice g.ga g.gn g.gc), (12, .slice ta (offS l) tc), (13, .int .i64 g.i)])
    (fun g => g.gb ++ (g.gs.flatMap (·.hb) ++ (atb ++ (g.s.H ++ (ab ++ (wb ++ ms.flatMap (·.hb)))))))
    (fun g => g.i ≤ offS l ∧ g.s.ok ∧ g.s.R = s0.R ∧ g.s.turns ≤ g.i ∧ g.s.nx.length = 4 ∧ totD g.s.L ≤ 32768 * g.i ∧ OwnS 40 3 (g.gs.flatMap Ms.cells) (.slice g.ga g.gn g.gc) g.gb ∧ (∀ m ∈ g.gs, m.ok) ∧ g.gs.map (·.g) = g.R.map (pcsOf first l).msg ∧
      (pcsOf first l).Inv (cameX (turned order (offS l)) g.i) g.R g.K g.s.S ∧ (pcsOf first l).satU (cameX (turned order (offS l)) g.i) g.R ∧ (∀ t, t < 4 → (pcsOf first l).satO (cameX (turned order (offS l)) g.i) g.K t) ∧ g.s.row = []) (fun g => offS l - g.i) ⟨0, s0, [], fun _ => 0, none, 0, 0, [], []⟩
    ⟨Nat.zero_le _, hs0, rfl, by dsimp only; omega, by dsimp only; rw [hn0]; rfl, by dsimp only; rw [hL0]; exact Nat.le_refl _, .inl ⟨rfl, rfl, rfl⟩, by simp, rfl, by dsimp only; rw [hS0]; exact I0, U0, O0, hr0⟩ envA (fun _ h => h) ?_
  clear I0 U0 O0 hL0 hr0 hn0
  rintro ⟨i, s, R, K, ga, gn, gc, gb, gs⟩ ⟨hi, hsk, hsR, hst, hsn, hsb, hgo, hgk, hgm, hI, hU, hO, hrw⟩
  dsimp only at hi hsk hsR hst hsn hsb hgo hgk hgm hI hU hO hrw ⊢
  rw [← hsR]
  repeat' (first | refine S1 ?_ | refine SD ?_ | refine SA (fun _ => ?_) | refine WL.g_split rfl rfl (fun hc => ?_) (fun hc => ?_) | refine WD.g_split rfl rfl (fun hc => ?_) (fun hc => ?_) | refine W.cond rfl (fun hc => ?_) (fun hc => ?_))
  · have hi' : i < offS l := by have := of_decide_eq_true (p := (i : Int) < (offS l : Int)) (by assumption); omega
    obtain ⟨j, hj⟩ : ∃ j, (turned order (offS l))[i]? = some j := ⟨(turned order (offS l))[i]'(by omega), by simp⟩
    have hjN : j < offS l := List.mem_range.1 (hap.mem_iff.1 (List.mem_of_getElem? hj))
    have hX := came_not hnd hj
    have hcs := came_succ hj
    obtain ⟨hE, R2, K2, I2, U2, O2, hrow2⟩ := hI.put hP hU hO hjN hX
    rw [← hcs] at I2 U2 O2
    obtain ⟨hoM, _, _⟩ := ownS_in l j hjN
    obtain ⟨sn_, k_, q_, hs_, hq_, _, hd_, hx_⟩ := pcs_at first hjN
    obtain ⟨x, hxe⟩ : ∃ x, pcM first (offS (l.take (ownS l j))) (ctr (l.take (ownS l j)) sn_.st) sn_ k_ q_ = x := ⟨_, rfl⟩
    rw [hxe] at hd_ hx_
    have hxq : x.q = q_ := by rw [← hxe]; rfl
    have hxb : x.d.bytes = q_.bs := by rw [← hxe]; rfl
    subst hxq
    have hqI := (hop sn_ (List.mem_of_getElem? hs_)).bytes x.q (List.mem_of_getElem? hq_)
    have hql : x.q.bs.length = x.q.bn := by have := hqI.len; simpa using this
    have hpl := Nat.le_trans (piece_len hx_) hA.small
    rw [hxb, hql] at hpl
    obtain ⟨tb, to, rfl, htc⟩ := (Lst.own (F := F) (H := atb) hat (fun _ h => h)).can (by omega)
    have hja : Sl.Can F atb tb (to + (i : Int).toNat * 1) [.int .i64 (j : Int)] := by
      have := htc.one (i := i) (v := nI j) (by rw [List.getElem?_map, hj]; rfl)
      rw [show to + (i : Int).toNat * 1 = to + i by omega]
      exact this
    obtain ⟨pb, po, rfl, hcan⟩ := (Lst.own (F := F) (H := ab) hall (fun _ h => h)).el (cells := pmC) (fun _ => rfl) hx_ (by omega)
    have hia : 0 ≤ (i : Int) ∧ (i : Int) < (offS l : Nat) := by omega
    have hjaa : 0 ≤ (j : Int) ∧ (j : Int) < (offS l : Nat) := by omega
    repeat' (first | refine S1 ?_ | refine SD ?_ | refine SA (fun _ => ?_) | refine WL.g_split rfl rfl (fun hc => ?_) (fun hc => ?_) | refine WD.g_split rfl rfl (fun hc => ?_) (fun hc => ?_) | refine W.cond rfl (fun hc => ?_) (fun hc => ?_))
    refine WL.s rfl (Rd.ldC rfl (hja.mono (fun _ h => h.sublist findA))) ?_
    repeat' (first | refine S1 ?_ | refine SD ?_ | refine SA (fun _ => ?_) | refine WL.g_split rfl rfl (fun hc => ?_) (fun hc => ?_) | refine WD.g_split rfl rfl (fun hc => ?_) (fun hc => ?_) | refine W.cond rfl (fun hc => ?_) (fun hc => ?_))
    refine WL.s rfl (Rd.ldaC rfl rfl (hcan.mono (fun _ h => h.sublist findA))) ?_
    unfold pmC dCells ptC
    repeat' (first | refine S1 ?_ | refine SD ?_ | refine SA (fun _ => ?_) | refine WL.g_split rfl rfl (fun hc => ?_) (fun hc => ?_) | refine WD.g_split rfl rfl (fun hc => ?_) (fun hc => ?_) | refine W.cond rfl (fun hc => ?_) (fun hc => ?_))
    rename_i b14
    refine WL.e rfl (Ef.callF (c := []) (by exact rfl) (.nil _) (fun hd => twin_tr _ [] (.slice x.q.ba x.q.bn x.q.bc) x.q.bs (by rw [hql]; exact (hqI.mono (fun _ h => addF_in hd h)).src) (by omega))) ?_
    rintro _ _ ⟨_, ⟨ya, yn, yc, yb, rfl, hyo, rfl⟩, rfl⟩
    have hyn : x.q.bs.length = yn := by have := OwnS.len hyo; simpa using this
    rw [List.append_nil]
    repeat' (first | refine S1 ?_ | refine SD ?_ | refine SA (fun _ => ?_) | refine WL.g_split rfl rfl (fun hc => ?_) (fun hc => ?_) | refine WD.g_split rfl rfl (fun hc => ?_) (fun hc => ?_) | refine W.cond rfl (fun hc => ?_) (fun hc => ?_))
    refine WL.e rfl (Ef.call (c := s.H ++ yb) (by exact rfl) (.pickL (L := s.H) (.right (.there (.right (.right (.right .here))))) (.last (L := yb) .here)) (put_tr _ yb s hsk x.d ya yn yc (by rw [hxb]; exact (Lst.own (H := yb) hyo (fun _ h => h)).src) (by rw [hxb]; exact hyn) (by rw [← hd_, hP.stream j hjN]; omega) (by rw [← hd_, hP.stream j hjN]; have := hP.st _ hoM; show (((pcsOf first l).st (ownS l j) : Nat) : Int) < _; omega) (by rw [← hd_, hP.tsn j hjN]; simp only [u32_eq]; omega) (by omega) (by rw [hrw]; show totD s.L + 0 + yn ≤ _; omega) (by omega))) ?_
    rintro _ _ ⟨_, ⟨rfl, s1, hs1, rfl, hR1, htu1, hS1, hn1⟩, rfl⟩
    rw [List.append_assoc, ← hd_, show putE s.S ((pcsOf first l).d j) = 0 from hE]
    rw [← hd_] at hS1
    rw [← hS1] at I2 hrow2
    rw [← hR1]
    have hfw : s.S.L.length + 1 < 2147483000 := by
      have h1 := hsk.few
      have h2 := hsk.bound
      have h3 : s.S.L.length = s.ps.length := by simp [RM.S, RM.L]
      omega
    have htot := put_tot (s := s.S) (d := (pcsOf first l).d j) hI.good (by rw [hP.tsn j hjN]; simp only [u32_eq]; omega) hfw
    rw [if_pos hE, ← hS1, hd_, hxb, hql] at htot
    have hrow3 : s1.row = R2.map (pcsOf first l).msg := by
      have h1 : s1.row = s.row ++ R2.map (pcsOf first l).msg := hrow2
      rw [h1, hrw]
      rfl
    have htd : totD s1.L ≤ 32768 * (i + 1) := by
      have e1 : totD s1.S.L = totD s1.L := rfl
      have e2 : totD s.S.L = totD s.L := rfl
      have e3 : totM s.S.row = 0 := by show totM s.row = 0; rw [hrw]; rfl
      omega
    have hRM : (R ++ R2).length ≤ l.length := by
      have := length_le_of_nodup (R ++ R2) (List.range l.length) I2.nd (fun m hm => List.mem_range.2 (I2.rl m hm).1)
      simpa using this
    repeat' (first | refine S1 ?_ | refine SD ?_ | refine SA (fun _ => ?_) | refine WL.g_split rfl rfl (fun hc => ?_) (fun hc => ?_) | refine WD.g_split rfl rfl (fun hc => ?_) (fun hc => ?_) | refine W.cond rfl (fun hc => ?_) (fun hc => ?_))
    refine W.loop (G := OtG) (fun g => [(7, .slice (some ⟨pb, po, none⟩) (offS l) ac), (8, .slice wa l.length wc), (9, .pointer (some ⟨s1.R, 0, none⟩)), (11, .slice g.ga g.gn g.gc), (12, .slice (some ⟨tb, to, none⟩) (offS l) tc), (13, .int .i64 i)])
      (fun g => g.s.H ++ (g.gb ++ (g.gs.flatMap (·.hb) ++ (atb ++ (ab ++ (wb ++ ms.flatMap (·.hb)))))))
      (fun g => g.s.ok ∧ g.s.R = s1.R ∧ g.s.turns = s1.turns ∧ g.s.L = s1.L ∧ g.s.nx = s1.nx ∧ OwnS 40 3 (g.gs.flatMap Ms.cells) (.slice g.ga g.gn g.gc) g.gb ∧ (∀ m ∈ g.gs, m.ok) ∧ g.gs.map (·.g) ++ g.s.row = (R ++ R2).map (pcsOf first l).msg) (fun g => g.s.row.length) ⟨s1, ga, gn, gc, gb, gs⟩
      ⟨hs1, rfl, rfl, rfl, rfl, hgo, hgk, by dsimp only; rw [hgm, hrow3, List.map_append]⟩ envA (fun _ h => In.of_sub (.pickL (L := s1.H) .here (.pickL (L := gb) (.right (.there .here)) (.pickL (L := gs.flatMap (·.hb)) (.right (.there .here)) (.pickL (L := atb) (.right (.there .here)) (.last (.right (.there .all))))))) h) ?_
    rintro ⟨s2, ga2, gn2, gc2, gb2, gs2⟩ ⟨h2k, h2R, h2t, h2L, h2n, h2o, h2m, h2r⟩
    dsimp only at h2k h2R h2t h2L h2n h2o h2m h2r ⊢
    rw [← h2R]
    have hgl2 : gn2 = gs2.length := by have := OwnS.len h2o; rw [flat_len] at this; omega
    have hll2 := congrArg List.length h2r
    rw [List.length_append, List.length_map, List.length_map] at hll2
    repeat' (first | refine S1 ?_ | refine SD ?_ | refine SA (fun _ => ?_) | refine WL.g_split rfl rfl (fun hc => ?_) (fun hc => ?_) | refine WD.g_split rfl rfl (fun hc => ?_) (fun hc => ?_) | refine W.cond rfl (fun hc => ?_) (fun hc => ?_))
    refine WL.e rfl (Ef.callR (c := s2.H) (by exact rfl) (.last .here) (rdyA _ s2 h2k)) ?_
    rintro _ _ ⟨rfl, rfl⟩
    repeat' (first | refine S1 ?_ | refine SD ?_ | refine SA (fun _ => ?_) | refine WL.g_split rfl rfl (fun hc => ?_) (fun hc => ?_) | refine WD.g_split rfl rfl (fun hc => ?_) (fun hc => ?_) | refine W.cond rfl (fun hc => ?_) (fun hc => ?_))
    · refine WL.e rfl (Ef.call (c := s2.H) (by exact rfl) (.last .here) (takeA _ s2 h2k)) ?_
      rintro _ _ ⟨_, hq, rfl⟩
      rcases hq with ⟨h0, _, _⟩ | ⟨m, s3, hmk, h3k, rfl, rfl, h3R, h3t, h3r, h3L, h3n⟩
      · exfalso
        have hp := of_decide_eq_true (p := ((s2.row.length : Nat) : Int) > 0) (by assumption)
        rw [h0] at hp
        simp at hp
      rw [List.append_assoc, ← h3R]
      unfold Ms.cells Ms.bv
      dsimp only [tup]
      repeat' (first | refine S1 ?_ | refine SD ?_ | refine SA (fun _ => ?_) | refine WL.g_split rfl rfl (fun hc => ?_) (fun hc => ?_) | refine WD.g_split rfl rfl (fun hc => ?_) (fun hc => ?_) | refine W.cond rfl (fun hc => ?_) (fun hc => ?_))
      have hfl := flat_len gs2
      refine WL.e rfl (Ef.app (m := 1) (news := m.cells) (by exact rfl) (by exact rfl) rfl rfl h2o (.last (.there (.there (.right (.right .here))))) (Src.own (n := 3) (.here rfl)) rfl m.one (by rw [hfl]; simp [Ms.cells] <;> omega) (by rw [hfl]; simp [Ms.cells] <;> (unfold maxLen; omega))) ?_
      rintro v' _ ⟨gb3, h3o, rfl⟩
      obtain ⟨ga3, gn3, gc3, rfl, _, _⟩ := OwnS.shape h3o
      repeat' (first | refine S1 ?_ | refine SD ?_ | refine SA (fun _ => ?_) | refine WL.g_split rfl rfl (fun hc => ?_) (fun hc => ?_) | refine WD.g_split rfl rfl (fun hc => ?_) (fun hc => ?_) | refine W.cond rfl (fun hc => ?_) (fun hc => ?_))
      refine Fin.round ⟨s3, ga3, gn3, gc3, gb3, gs2 ++ [m]⟩ ⟨h3k, rfl, h3t.trans h2t, h3L.trans h2L, h3n.trans h2n, by dsimp only; rw [List.flatMap_append, List.flatMap_singleton]; exact h3o, ?_, ?_⟩ envA (fun _ h => ?_) (by dsimp only; rw [h3r]; simp)
      · intro x hx
        rcases List.mem_append.1 hx with hx | hx
        · exact h2m x hx
        · rw [List.mem_singleton.1 hx]; exact hmk
      · dsimp only
        rw [← h2r, h3r]
        simp
      · dsimp only
        rw [List.flatMap_append, List.flatMap_singleton, List.append_assoc (List.flatMap (fun x => x.hb) gs2)]
        exact In.of_sub (.pickL (L := s3.H) (.right (.there (.there .here))) (.pickL (L := gb3) .here (.pickL (.there (.there (.right .here))) (.pickL (.there (.there .here)) (.last (.there (.there .all))))))) h
    · exfalso
      have := of_decide_eq_false hc
      omega
    · have h20 : s2.row = [] := List.eq_nil_of_length_eq_zero (by have := of_decide_eq_false (p := (s2.row.length : Int) > 0) (by assumption); omega)
      rw [h20, List.append_nil] at h2r
      rw [i64_succ (by omega)]
      exact Fin.round ⟨i + 1, s2, R ++ R2, K2, ga2, gn2, gc2, gb2, gs2⟩ ⟨hi', h2k, rfl, by dsimp only; omega, by dsimp only; rw [h2n]; omega, by dsimp only; rw [h2L]; exact htd, h2o, h2m, h2r, Inv.like I2 h2L h2n, U2, O2, h20⟩ envA (fun _ h => In.of_sub (.pickL (L := gb2) (.right .here) (.pickL (L := gs2.flatMap (·.hb)) (.right .here) (.pickL (L := atb) (.right .here) (.pickL (L := s2.H) .here (.last .all))))) h) (by dsimp only; omega)
  all_goals
    have hiN : i = offS l := by have := of_decide_eq_false (p := (i : Int) < (offS l : Int)) (by assumption); omega
    subst hiN
    obtain ⟨hperm, hLe, hfilt⟩ := hI.all hP hU hO (fun j hj => by
      show cameX (turned order (offS l)) (offS l) j = true
      unfold cameX
      rw [List.take_of_length_le (by omega), List.contains_iff_mem]
      exact hap.mem_iff.2 (List.mem_range.2 hj))
    have hgn : gn = l.length := by
      have h1 := OwnS.len hgo
      rw [flat_len] at h1
      have h2 := congrArg List.length hgm
      have h3 := hperm.length_eq
      rw [List.length_range] at h3
      simp at h2
      have h4 : (pcsOf first l).M = l.length := rfl
      omega
    subst hgn
  · exfalso
    simp at hc
  refine WL.e rfl (Ef.callR (c := s.H) (by exact rfl) (.last (.right (.right (.right .here)))) (heldA _ s)) ?_
  rintro _ _ ⟨rfl, rfl⟩
  have hh0 : s.held = 0 := by
    rw [hsk.held, hrw, show s.L = [] from hLe]
    rfl
  rw [hh0]
  repeat' (first | refine S1 ?_ | refine SD ?_ | refine SA (fun _ => ?_) | refine WL.g_split rfl rfl (fun hc => ?_) (fun hc => ?_) | refine WD.g_split rfl rfl (fun hc => ?_) (fun hc => ?_) | refine W.cond rfl (fun hc => ?_) (fun hc => ?_))
  have hG : MsL F (gb ++ (gs.flatMap (·.hb) ++ (atb ++ (s.H ++ (ab ++ (wb ++ ms.flatMap (·.hb))))))) gs ga l.length gc := msl_own hgo (fun _ h => h.left) hgk (fun _ h => h.right.left) (fun _ h => h)
  have hW : MsL F (gb ++ (gs.flatMap (·.hb) ++ (atb ++ (s.H ++ (ab ++ (wb ++ ms.flatMap (·.hb))))))) ms wa l.length wc := msl_own hwant (fun _ h => h.right.right.right.right.right.left) hmok (fun _ h => h.right.right.right.right.right.right) (fun _ h => h)
  have hwm : ms.map (·.g) = (List.range l.length).map (pcsOf first l).msg := by rw [hmg, want_map first hA.ps]
  refine W.loop (G := Nat) (fun k => [(8, .slice wa l.length wc), (11, .slice ga l.length gc), (17, .int .u16 k)]) (fun _ => gb ++ (gs.flatMap (·.hb) ++ (atb ++ (s.H ++ (ab ++ (wb ++ ms.flatMap (·.hb)))))))
    (fun k => k ≤ 4) (fun k => 4 - k) 0 (Nat.zero_le _) envA (fun _ h => h) ?_
  intro k hk
  repeat' (first | refine S1 ?_ | refine SD ?_ | refine SA (fun _ => ?_) | refine WL.g_split rfl rfl (fun hc => ?_) (fun hc => ?_) | refine WD.g_split rfl rfl (fun hc => ?_) (fun hc => ?_) | refine W.cond rfl (fun hc => ?_) (fun hc => ?_))
  · have hk' : k < 4 := by have := of_decide_eq_true (p := (k : Int) < 4) (by assumption); omega
    refine WL.e rfl (Ef.look (by exact rfl) (fun F' hF => of_tr F' gs ga l.length gc (hG.mono hF) (by omega) k true)) ?_
    rintro _ _ ⟨b1, ⟨a1, n1, c1, o1, rfl, ho1, hm1, hs1⟩, rfl⟩
    repeat' (first | refine S1 ?_ | refine SD ?_ | refine SA (fun _ => ?_) | refine WL.g_split rfl rfl (fun hc => ?_) (fun hc => ?_) | refine WD.g_split rfl rfl (fun hc => ?_) (fun hc => ?_) | refine W.cond rfl (fun hc => ?_) (fun hc => ?_))
    refine WL.e rfl (Ef.look (by exact rfl) (fun F' hF => of_tr F' ms wa l.length wc (hW.mono (fun w h => (hF w h).right)) (by omega) k true)) ?_
    rintro _ _ ⟨b2, ⟨a2, n2, c2, o2, rfl, ho2, hm2, hs2⟩, rfl⟩
    have he : o1.map (·.g) = o2.map (·.g) := by
      rw [hm1, hm2, hgm, hwm, of_map, of_map]
      have := hfilt k
      simp only [beq_true]
      exact congrArg _ this
    have hl1 : n1 ≤ 1000 := by
      have h1 := OwnS.len ho1
      rw [flat_len] at h1
      have h2 := congrArg List.length hm1
      rw [List.length_map] at h2
      have h3 : (ofM (gs.map (·.g)) k true).length ≤ (gs.map (·.g)).length := List.length_filter_le _ _
      have h4 := congrArg List.length hgm
      have h5 := hperm.length_eq
      rw [List.length_range] at h5
      rw [List.length_map] at h3
      rw [List.length_map, List.length_map] at h4
      have h6 : (pcsOf first l).M = l.length := rfl
      omega
    repeat' (first | refine S1 ?_ | refine SD ?_ | refine SA (fun _ => ?_) | refine WL.g_split rfl rfl (fun hc => ?_) (fun hc => ?_) | refine WD.g_split rfl rfl (fun hc => ?_) (fun hc => ?_) | refine W.cond rfl (fun hc => ?_) (fun hc => ?_))
    refine WL.e rfl (Ef.lookR (by exact rfl) (fun F' hF => alike_tr F' o1 o2 a1 a2 n1 c1 n2 c2 (msl_sub hG ho1 hs1 (fun w h => (hF w h).right.left) (fun w h => (hF w h).right.right)) (msl_sub hW ho2 hs2 (fun w h => (hF w h).left) (fun w h => (hF w h).right.right)) hl1 he)) ?_
    rintro _ _ ⟨rfl, rfl⟩
    repeat' (first | refine S1 ?_ | refine SD ?_ | refine SA (fun _ => ?_) | refine WL.g_split rfl rfl (fun hc => ?_) (fun hc => ?_) | refine WD.g_split rfl rfl (fun hc => ?_) (fun hc => ?_) | refine W.cond rfl (fun hc => ?_) (fun hc => ?_))
    refine WL.e rfl (Ef.look (by exact rfl) (fun F' hF => of_tr F' gs ga l.length gc (hG.mono (fun w h => (hF w h).right.right)) (by omega) k false)) ?_
    rintro _ _ ⟨b3, ⟨a3, n3, c3, o3, rfl, ho3, hm3, hs3⟩, rfl⟩
    repeat' (first | refine S1 ?_ | refine SD ?_ | refine SA (fun _ => ?_) | refine WL.g_split rfl rfl (fun hc => ?_) (fun hc => ?_) | refine WD.g_split rfl rfl (fun hc => ?_) (fun hc => ?_) | refine W.cond rfl (fun hc => ?_) (fun hc => ?_))
    refine WL.e rfl (Ef.look (by exact rfl) (fun F' hF => of_tr F' ms wa l.length wc (hW.mono (fun w h => (hF w h).right.right.right)) (by omega) k false)) ?_
    rintro _ _ ⟨b4, ⟨a4, n4, c4, o4, rfl, ho4, hm4, hs4⟩, rfl⟩
    have hp : (o3.map (·.g)).Perm (o4.map (·.g)) := by
      rw [hm3, hm4, hgm, hwm, of_map, of_map]
      exact (hperm.filter _).map _
    have hl3 : n3 ≤ 1000 := by
      have h1 := OwnS.len ho3
      rw [flat_len] at h1
      have h2 := congrArg List.length hm3
      rw [List.length_map] at h2
      have h3 : (ofM (gs.map (·.g)) k false).length ≤ (gs.map (·.g)).length := List.length_filter_le _ _
      have h4 := congrArg List.length hgm
      have h5 := hperm.length_eq
      rw [List.length_range] at h5
      rw [List.length_map] at h3
      rw [List.length_map, List.length_map] at h4
      have h6 : (pcsOf first l).M = l.length := rfl
      omega
    repeat' (first | refine S1 ?_ | refine SD ?_ | refine SA (fun _ => ?_) | refine WL.g_split rfl rfl (fun hc => ?_) (fun hc => ?_) | refine WD.g_split rfl rfl (fun hc => ?_) (fun hc => ?_) | refine W.cond rfl (fun hc => ?_) (fun hc => ?_))
    refine WL.e rfl (Ef.lookR (by exact rfl) (fun F' hF => mixed_tr F' o3 o4 a3 a4 n3 c3 n4 c4 (msl_sub hG ho3 hs3 (fun w h => (hF w h).right.left) (fun w h => (hF w h).right.right.right.right)) (msl_sub hW ho4 hs4 (fun w h => (hF w h).left) (fun w h => (hF w h).right.right.right.right)) hl3 hp)) ?_
    rintro _ _ ⟨rfl, rfl⟩
    repeat' (first | refine S1 ?_ | refine SD ?_ | refine SA (fun _ => ?_) | refine WL.g_split rfl rfl (fun hc => ?_) (fun hc => ?_) | refine WD.g_split rfl rfl (fun hc => ?_) (fun hc => ?_) | refine W.cond rfl (fun hc => ?_) (fun hc => ?_))
    rw [show IntKind.u16.wrap ((k : Int) + 1) = ((k + 1 : Nat) : Int) by rw [u16_id (by omega)]; omega]
    exact Fin.round (k + 1) hk' envA (fun _ h => h.right.right.right.right) (by omega)
  ·
    refine WL.e rfl (Ef.callR (by exact rfl) (.nil _) (works_tr _)) ?_
    rintro _ _ ⟨rfl, rfl⟩
    repeat' (first | refine S1 ?_ | refine SD ?_ | refine SA (fun _ => ?_) | refine WL.g_split rfl rfl (fun hc => ?_) (fun hc => ?_) | refine WD.g_split rfl rfl (fun hc => ?_) (fun hc => ?_) | refine W.cond rfl (fun hc => ?_) (fun hc => ?_))
    exact Fin.retW (by exact rfl) resA (H' := []) (fun _ h => h.sublist (List.nil_sublist _)) ⟨rfl, rfl⟩
end Go.Proofs.Ytokbkocjddcklaa
