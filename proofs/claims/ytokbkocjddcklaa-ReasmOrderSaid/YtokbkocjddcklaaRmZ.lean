/- The law ReasmSoon, walked. Conditions: what the arguments' cells are. -/
import Derived.Test.YtokbkocjddcklaaRmY
namespace Go.Proofs.Ytokbkocjddcklaa
open Go Go.Sl Go.Rm

theorem spl_set {l : List Nat} {j : Nat} (hj : j < l.length) (v : Nat) : spliceK (l.map nI) (0 + ((j : Nat) : Int).toNat * 1) [nI v] some = some ((l.set j v).map nI) := by
  rw [spliceK_eq, show 0 + ((j : Nat) : Int).toNat * 1 = j by omega, if_pos (by simp; omega), List.map_set, List.set_eq_take_append_cons_drop, if_pos (by simpa using hj)]
  simp
theorem nI_get {l : List Nat} {j v : Nat} (h : l[j]? = some v) : (l.map nI)[0 + ((j : Nat) : Int).toNat * 1]? = some (.int .i64 (v : Int)) := by
  rw [show 0 + ((j : Nat) : Int).toNat * 1 = j by omega, List.getElem?_map, h]
  rfl
theorem mk_nI : ∀ n, mkCells [Value.int .i64 0] n = (List.replicate n 0).map nI
  | 0 => rfl
  | n + 1 => by rw [mkCells, mk_nI n, List.replicate_succ, List.map_cons]; rfl
structure SoG where
  i : Nat
  ow : List Nat
  lf : List Nat
structure SpG where
  i : Nat
  lf : List Nat
  s : RM
  R : List Nat
  K : Nat → Nat
structure SqG where
  m : Nat
  r : Nat
set_option maxHeartbeats 16000000 in
theorem soonLaw_tr (F : Nat → Option Obj) (first : Int) (l : List Sn) (ka : Option Addr) (kn kc : Nat) (hl : Lst F [] 3 (l.flatMap snC) ka kn kc) (hop : ∀ m ∈ l, SnIs F m) (order : List UInt8) (sa : Option Addr) (sn sc : Nat) (hs : Lst F [] 1 (order.map B) sa sn sc) :
    Tr Try.prog 6 [.int .u32 first, .slice ka kn kc, .slice sa sn sc].toArray F [] (fun v H => v = .bool true ∧ H = []) := by
  refine Tr.enter Try.func6 rfl Try.ntmps6 rfl (fun w0 => ?_)
  have hkn : l.length = kn := lst_len (cells := snC) (fun _ => rfl) (by decide) hl
  repeat' (first | refine S1 ?_ | refine SD ?_ | refine SA (fun _ => ?_) | refine WL.g_split rfl rfl (fun hc => ?_) (fun hc => ?_) | refine WD.g_split rfl rfl (fun hc => ?_) (fun hc => ?_) | refine W.cond rfl (fun hc => ?_) (fun hc => ?_))
  ·
    refine WL.e rfl (Ef.callR (by exact rfl) (.nil _) (works_tr _)) ?_
    rintro _ _ ⟨rfl, rfl⟩
    repeat' (first | refine S1 ?_ | refine SD ?_ | refine SA (fun _ => ?_) | refine WL.g_split rfl rfl (fun hc => ?_) (fun hc => ?_) | refine WD.g_split rfl rfl (fun hc => ?_) (fun hc => ?_) | refine W.cond rfl (fun hc => ?_) (fun hc => ?_))
    exact Fin.retW (by exact rfl) resA (H' := []) (fun _ h => h.sublist (List.nil_sublist _)) ⟨rfl, rfl⟩
  ·
    refine WL.e rfl (Ef.callR (by exact rfl) (.nil _) (works_tr _)) ?_
    rintro _ _ ⟨rfl, rfl⟩
    repeat' (first | refine S1 ?_ | refine SD ?_ | refine SA (fun _ => ?_) | refine WL.g_split rfl rfl (fun hc => ?_) (fun hc => ?_) | refine WD.g_split rfl rfl (fun hc => ?_) (fun hc => ?_) | refine W.cond rfl (fun hc => ?_) (fun hc => ?_))
    exact Fin.retW (by exact rfl) resA (H' := []) (fun _ h => h.sublist (List.nil_sublist _)) ⟨rfl, rfl⟩
  have h80 : l.length ≤ 80 := by have := of_decide_eq_false (p := (kn : Int) > 80) (by assumption); omega
  refine WL.e rfl (Ef.callF (by exact rfl) (.nil _) (fun hd => pieces_tr _ first l ka kn kc (hl.mono (fun _ h => addF_in hd h)) (fun m hm => (hop m hm).mono (fun _ h => addF_in hd h)) h80)) ?_
  rintro _ _ ⟨_, hq, rfl⟩
  rcases hq with ⟨rfl, rfl⟩ | ⟨aa, an, ac, ab, wa, wn, wc, wb, ms, hA, rfl, hall, hwant, hmok, hmg, rfl⟩
  · dsimp only [tup]
    repeat' (first | refine S1 ?_ | refine SD ?_ | refine SA (fun _ => ?_) | refine WL.g_split rfl rfl (fun hc => ?_) (fun hc => ?_) | refine WD.g_split rfl rfl (fun hc => ?_) (fun hc => ?_) | refine W.cond rfl (fun hc => ?_) (fun hc => ?_))
    refine WL.e rfl (Ef.callR (by exact rfl) (.nil _) (works_tr _)) ?_
    rintro _ _ ⟨rfl, rfl⟩
    repeat' (first | refine S1 ?_ | refine SD ?_ | refine SA (fun _ => ?_) | refine WL.g_split rfl rfl (fun hc => ?_) (fun hc => ?_) | refine WD.g_split rfl rfl (fun hc => ?_) (fun hc => ?_) | refine W.cond rfl (fun hc => ?_) (fun hc => ?_))
    exact Fin.retW (by exact rfl) resA (H' := []) (fun _ h => h.sublist (List.nil_sublist _)) ⟨rfl, rfl⟩
  have han : an = offS l := by
    have := OwnS.len hall
    rw [pm_len, allP_len] at this
    omega
  have hwn : wn = l.length := by
    have h1 := OwnS.len hwant
    rw [flat_len] at h1
    have h2 := congrArg List.length hmg
    simp at h2
    omega
  subst han
  subst hwn
  dsimp only [tup]
  rw [List.append_nil]
  repeat' (first | refine S1 ?_ | refine SD ?_ | refine SA (fun _ => ?_) | refine WL.g_split rfl rfl (fun hc => ?_) (fun hc => ?_) | refine WD.g_split rfl rfl (fun hc => ?_) (fun hc => ?_) | refine W.cond rfl (fun hc => ?_) (fun hc => ?_))
  ·
    refine WL.e rfl (Ef.callR (by exact rfl) (.nil _) (works_tr _)) ?_
    rintro _ _ ⟨rfl, rfl⟩
    repeat' (first | refine S1 ?_ | refine SD ?_ | refine SA (fun _ => ?_) | refine WL.g_split rfl rfl (fun hc => ?_) (fun hc => ?_) | refine WD.g_split rfl rfl (fun hc => ?_) (fun hc => ?_) | refine W.cond rfl (fun hc => ?_) (fun hc => ?_))
    exact Fin.retW (by exact rfl) resA (H' := []) (fun _ h => h.sublist (List.nil_sublist _)) ⟨rfl, rfl⟩
  have hof := hA.few
  have hP : (pcsOf first l).Ok := pcs_ok first hA.ps hA.bs (by omega)
  refine WL.e rfl (Ef.call (by exact rfl) (.nil _) (New_ok _ 4 (by omega))) ?_
  rintro _ _ ⟨_, ⟨s0, hs0, rfl, rfl, ht0, hS0⟩, rfl⟩
  dsimp only [tup]
  repeat' (first | refine S1 ?_ | refine SD ?_ | refine SA (fun _ => ?_) | refine WL.g_split rfl rfl (fun hc => ?_) (fun hc => ?_) | refine WD.g_split rfl rfl (fun hc => ?_) (fun hc => ?_) | refine W.cond rfl (fun hc => ?_) (fun hc => ?_))
  refine WL.e rfl (Ef.callF (by exact rfl) (.nil _) (fun hd => turned_tr _ (offS l) (by omega) order sa sn sc (hs.mono (fun _ h => addF_in hd h)))) ?_
  rintro _ _ ⟨atb, ⟨ta, tc, rfl, hat⟩, rfl⟩
  repeat' (first | refine S1 ?_ | refine SD ?_ | refine SA (fun _ => ?_) | refine WL.g_split rfl rfl (fun hc => ?_) (fun hc => ?_) | refine WD.g_split rfl rfl (fun hc => ?_) (fun hc => ?_) | refine W.cond rfl (fun hc => ?_) (fun hc => ?_))
  refine WL.e rfl (Ef.mkS (n := l.length) (by exact rfl) (by exact rfl) rfl rfl (by omega) (by omega)) ?_
  rintro _ _ ⟨bl, rfl, rfl⟩
  rw [mk_nI]
  repeat' (first | refine S1 ?_ | refine SD ?_ | refine SA (fun _ => ?_) | refine WL.g_split rfl rfl (fun hc => ?_) (fun hc => ?_) | refine WD.g_split rfl rfl (fun hc => ?_) (fun hc => ?_) | refine W.cond rfl (fun hc => ?_) (fun hc => ?_))
  refine WL.e rfl (Ef.mkS (n := offS l) (by exact rfl) (by exact rfl) rfl rfl (by omega) (by omega)) ?_
  rintro _ _ ⟨bo, rfl, rfl⟩
  rw [mk_nI]
  repeat' (first | refine S1 ?_ | refine SD ?_ | refine SA (fun _ => ?_) | refine WL.g_split rfl rfl (fun hc => ?_) (fun hc => ?_) | refine WD.g_split rfl rfl (fun hc => ?_) (fun hc => ?_) | refine W.cond rfl (fun hc => ?_) (fun hc => ?_))
  refine W.loop (G := SoG) (fun g => [(7, .slice aa (offS l) ac), (8, .slice wa l.length wc), (9, .pointer (some ⟨s0.R, 0, none⟩)), (11, .slice ta (offS l) tc), (12, .slice (some ⟨bl, 0, none⟩) l.length l.length), (13, .slice (some ⟨bo, 0, none⟩) (offS l) (offS l)), (14, .int .i64 ((if g.i < offS l then ownS l g.i else l.length : Nat) : Int)), (15, .int .i64 g.i)])
    (fun g => (bo, .cells (g.ow.map nI).toArray 3 (0, 0)) :: (bl, .cells (g.lf.map nI).toArray 3 (0, 0)) :: (atb ++ (s0.H ++ (ab ++ (wb ++ ms.flatMap (·.hb))))))
    (fun g => g.i ≤ offS l ∧ g.ow.length = offS l ∧ (∀ j, j < g.i → g.ow[j]? = some (ownS l j)) ∧ g.lf.length = l.length ∧ ∀ m, m < l.length → g.lf[m]? = some ((pcsOf first l).among g.i m)) (fun g => offS l - g.i) ⟨0, List.replicate (offS l) 0, List.replicate l.length 0⟩
    ⟨Nat.zero_le _, by simp, fun j h => by simp at h, by simp, fun m hm => by simp [hm, Pcs.among]⟩ (by dsimp only; rw [own_zero hA.ps]; rw [if_pos (by have := ne_of_beq_false hc; omega)]; exact envA) (fun _ h => h) ?_
  rintro ⟨i, ow, lf⟩ ⟨hi, hol, hoj, hll, hlm⟩
  dsimp only at hi hol hoj hll hlm ⊢
  repeat' (first | refine S1 ?_ | refine SD ?_ | refine SA (fun _ => ?_) | refine WL.g_split rfl rfl (fun hc => ?_) (fun hc => ?_) | refine WD.g_split rfl rfl (fun hc => ?_) (fun hc => ?_) | refine W.cond rfl (fun hc => ?_) (fun hc => ?_))
  · have hi' : i < offS l := by have := of_decide_eq_true (p := (i : Int) < (offS l : Int)) (by assumption); omega
    rw [if_pos hi']
    obtain ⟨hoM, _, _⟩ := ownS_in l i hi'
    have hia : 0 ≤ (i : Int) ∧ (i : Int) < (offS l : Nat) := by omega
    have hoa : 0 ≤ ((ownS l i : Nat) : Int) ∧ ((ownS l i : Nat) : Int) < (l.length : Nat) := by omega
    obtain ⟨x, hx⟩ : ∃ x, (allP first l)[i]? = some x := ⟨(allP first l)[i]'(by rw [allP_len]; exact hi'), by simp⟩
    have hxd : x.d = (pcsOf first l).d i := by
      show _ = match (allP first l)[i]? with | some x => x.d | none => _
      rw [hx]
    obtain ⟨pb, po, rfl, hcan⟩ := (Lst.own (F := F) (H := ab) hall (fun _ h => h)).el (cells := pmC) (fun _ => rfl) hx (by omega)
    have hc5 : Sl.Can F ab pb (po + (i : Int).toNat * 7 + 5) [.bool x.d.la] := hcan.one (i := 5) rfl
    have hlv := hlm (ownS l i) hoM
    have hst := own_step first hA.ps hi'
    have ham := among_le (pcsOf first l) i (ownS l i)
    repeat' (first | refine S1 ?_ | refine SD ?_ | refine SA (fun _ => ?_) | refine WL.g_split rfl rfl (fun hc => ?_) (fun hc => ?_) | refine WD.g_split rfl rfl (fun hc => ?_) (fun hc => ?_) | refine W.cond rfl (fun hc => ?_) (fun hc => ?_))
    refine WL.e0 (Ef.st (v := nI (ownS l i)) rfl rfl rfl (.here (spl_set (by omega) _))) ?_
    rintro _ _ ⟨_, rfl⟩
    repeat' (first | refine S1 ?_ | refine SD ?_ | refine SA (fun _ => ?_) | refine WL.g_split rfl rfl (fun hc => ?_) (fun hc => ?_) | refine WD.g_split rfl rfl (fun hc => ?_) (fun hc => ?_) | refine W.cond rfl (fun hc => ?_) (fun hc => ?_))
    refine WL.s rfl (Rd.ld rfl (.there (.here (nI_get hlv)))) ?_
    repeat' (first | refine S1 ?_ | refine SD ?_ | refine SA (fun _ => ?_) | refine WL.g_split rfl rfl (fun hc => ?_) (fun hc => ?_) | refine WD.g_split rfl rfl (fun hc => ?_) (fun hc => ?_) | refine W.cond rfl (fun hc => ?_) (fun hc => ?_))
    rw [i64_succ (by omega)]
    refine WL.e0 (Ef.st (v := nI ((pcsOf first l).among i (ownS l i) + 1)) rfl rfl rfl (.there (.here (spl_set (by omega) _)))) ?_
    rintro _ _ ⟨_, rfl⟩
    repeat' (first | refine S1 ?_ | refine SD ?_ | refine SA (fun _ => ?_) | refine WL.g_split rfl rfl (fun hc => ?_) (fun hc => ?_) | refine WD.g_split rfl rfl (fun hc => ?_) (fun hc => ?_) | refine W.cond rfl (fun hc => ?_) (fun hc => ?_))
    refine WL.s rfl (Rd.ldC rfl (hc5.mono (fun _ h => h.sublist findA))) ?_
    have hoj' : ∀ j, j < i + 1 → (ow.set i (ownS l i))[j]? = some (ownS l j) := fun j hj => by
      by_cases hji : i = j
      · subst hji
        rw [List.getElem?_set_self (by omega)]
      · rw [List.getElem?_set_ne hji]
        exact hoj j (by omega)
    have hlm' : ∀ m, m < l.length → (lf.set (ownS l i) ((pcsOf first l).among i (ownS l i) + 1))[m]? = some ((pcsOf first l).among (i + 1) m) := fun m hm => by
      rw [among_succ, show (pcsOf first l).own i = ownS l i from rfl]
      by_cases hmi : ownS l i = m
      · subst hmi
        rw [List.getElem?_set_self (by omega), if_pos rfl]
      · rw [List.getElem?_set_ne hmi, if_neg hmi]
        exact hlm m hm
    rw [← hxd] at hst
    have hoM2 := hoM
    repeat' (first | refine S1 ?_ | refine SD ?_ | refine SA (fun _ => ?_) | refine WL.g_split rfl rfl (fun hc => ?_) (fun hc => ?_) | refine WD.g_split rfl rfl (fun hc => ?_) (fun hc => ?_) | refine W.cond rfl (fun hc => ?_) (fun hc => ?_))
    · rw [i64_succ (by omega), i64_succ (by omega)]
      rw [show (if x.d.la = true then 1 else 0) = 1 from if_pos (by assumption)] at hst
      refine Fin.round ⟨i + 1, _, _⟩ ⟨hi', by rw [List.length_set]; exact hol, hoj', by rw [List.length_set]; exact hll, hlm'⟩ (by dsimp only; rw [hst]; exact envA) (fun _ h => h) (by dsimp only; omega)
    · rw [i64_succ (by omega)]
      rw [show (if x.d.la = true then 1 else 0) = 0 from if_neg (by rw [hc]; decide), Nat.add_zero] at hst
      refine Fin.round ⟨i + 1, _, _⟩ ⟨hi', by rw [List.length_set]; exact hol, hoj', by rw [List.length_set]; exact hll, hlm'⟩ (by dsimp only; rw [hst]; exact envA) (fun _ h => h) (by dsimp only; omega)
  have hiN : i = offS l := by have := of_decide_eq_false (p := (i : Int) < (offS l : Int)) (by assumption); omega
  subst hiN
  have hlm0 : ∀ m, m < l.length → lf[m]? = some ((pcsOf first l).left (fun _ => false) m) := fun m hm => (hlm m hm).trans (congrArg some (among_all (pcsOf first l) m))
  have hap := turned_perm order (offS l)
  have hal := turned_len order (offS l)
  have hnd : (turned order (offS l)).Nodup := hap.nodup_iff.2 List.nodup_range
  obtain ⟨hL0, hr0, hn0⟩ := RM.said hS0
  obtain ⟨I0, U0, O0⟩ := Pcs.Inv.empty hP
  refine W.loop (G := SpG) (fun g => [(7, .slice aa (offS l) ac), (8, .slice wa l.length wc), (9, .pointer (some ⟨s0.R, 0, none⟩)), (11, .slice ta (offS l) tc), (12, .slice (some ⟨bl, 0, none⟩) l.length l.length), (13, .slice (some ⟨bo, 0, none⟩) (offS l) (offS l)), (16, .int .i64 g.i)])
    (fun g => (bo, .cells (ow.map nI).toArray 3 (0, 0)) :: (bl, .cells (g.lf.map nI).toArray 3 (0, 0)) :: (atb ++ (g.s.H ++ (ab ++ (wb ++ ms.flatMap (·.hb))))))
    (fun g => g.i ≤ offS l ∧ g.s.ok ∧ g.s.R = s0.R ∧ g.s.turns ≤ g.i ∧ g.s.nx.length = 4 ∧ totD g.s.L + totM g.s.row ≤ 32768 * g.i ∧ g.lf.length = l.length ∧ (∀ m, m < l.length → g.lf[m]? = some ((pcsOf first l).left (cameX (turned order (offS l)) g.i) m)) ∧
      (pcsOf first l).Inv (cameX (turned order (offS l)) g.i) g.R g.K g.s.S ∧ (pcsOf first l).satU (cameX (turned order (offS l)) g.i) g.R ∧ (∀ t, t < 4 → (pcsOf first l).satO (cameX (turned order (offS l)) g.i) g.K t) ∧ g.s.row.length = g.R.length) (fun g => offS l - g.i) ⟨0, lf, s0, [], fun _ => 0⟩
    ⟨Nat.zero_le _, hs0, rfl, by dsimp only; omega, by dsimp only; rw [hn0]; rfl, by dsimp only; rw [hL0, hr0]; exact Nat.le_refl _, hll, hlm0, by dsimp only; rw [hS0]; exact I0, U0, O0, by dsimp only; rw [hr0]; rfl⟩ envA (fun _ h => h) ?_
  clear hlm hlm0 hll I0 U0 O0 hi hL0 hr0 hn0
  rintro ⟨i, lf, s, R, K⟩ ⟨hi, hsk, hsR, hst, hsn, hsb, hll, hlm, hI, hU, hO, hrl⟩
  dsimp only at hi hsk hsR hst hsn hsb hll hlm hI hU hO hrl ⊢
  rw [← hsR]
  repeat' (first | refine S1 ?_ | refine SD ?_ | refine SA (fun _ => ?_) | refine WL.g_split rfl rfl (fun hc => ?_) (fun hc => ?_) | refine WD.g_split rfl rfl (fun hc => ?_) (fun hc => ?_) | refine W.cond rfl (fun hc => ?_) (fun hc => ?_))
  · have hi' : i < offS l := by have := of_decide_eq_true (p := (i : Int) < (offS l : Int)) (by assumption); omega
    obtain ⟨j, hj⟩ : ∃ j, (turned order (offS l))[i]? = some j := ⟨(turned order (offS l))[i]'(by omega), by simp⟩
    have hjN : j < offS l := List.mem_range.1 (hap.mem_iff.1 (List.mem_of_getElem? hj))
    have hX := came_not hnd hj
    have hcs := came_succ hj
    obtain ⟨hE, R2, K2, I2, U2, O2, hrow2⟩ := hI.put hP hU hO hjN hX
    rw [← hcs] at I2 U2 O2
    obtain ⟨hoM, _, _⟩ := ownS_in l j hjN
    obtain ⟨sn_, k_, q_, hs_, hq_, _, hd_, hx_⟩ := pcs_at first hjN
    obtain ⟨x, hxe⟩ : ∃ x, pcM first (offS (l.take (ownS l j))) (ctr (l.take (ownS l j)) sn_.st) sn_ k_ q_ = x := ⟨_, rfl⟩
    rw [hxe] at hd_ hx_
    have hxq : x.q = q_ := by rw [← hxe]; rfl
    have hxb : x.d.bytes = q_.bs := by rw [← hxe]; rfl
    have hqI := (hop sn_ (List.mem_of_getElem? hs_)).bytes q_ (List.mem_of_getElem? hq_)
    have hql : q_.bs.length = q_.bn := by have := hqI.len; simpa using this
    have hpl := Nat.le_trans (piece_len hx_) hA.small
    rw [hxb, hql] at hpl
    obtain ⟨tb, to, rfl, htc⟩ := (Lst.own (F := F) (H := atb) hat (fun _ h => h)).can (by omega)
    have hja : Sl.Can F atb tb (to + (i : Int).toNat * 1) [.int .i64 (j : Int)] := by
      have := htc.one (i := i) (v := nI j) (by rw [List.getElem?_map, hj]; rfl)
      rw [show to + (i : Int).toNat * 1 = to + i by omega]
      exact this
    obtain ⟨pb, po, rfl, hcan⟩ := (Lst.own (F := F) (H := ab) hall (fun _ h => h)).el (cells := pmC) (fun _ => rfl) hx_ (by omega)
    have hia : 0 ≤ (i : Int) ∧ (i : Int) < (offS l : Nat) := by omega
    have hjaa : 0 ≤ (j : Int) ∧ (j : Int) < (offS l : Nat) := by omega
    have hoa : 0 ≤ ((ownS l j : Nat) : Int) ∧ ((ownS l j : Nat) : Int) < (l.length : Nat) := by omega
    repeat' (first | refine S1 ?_ | refine SD ?_ | refine SA (fun _ => ?_) | refine WL.g_split rfl rfl (fun hc => ?_) (fun hc => ?_) | refine WD.g_split rfl rfl (fun hc => ?_) (fun hc => ?_) | refine W.cond rfl (fun hc => ?_) (fun hc => ?_))
    refine WL.s rfl (Rd.ldC rfl (hja.mono (fun _ h => h.sublist findA))) ?_
    repeat' (first | refine S1 ?_ | refine SD ?_ | refine SA (fun _ => ?_) | refine WL.g_split rfl rfl (fun hc => ?_) (fun hc => ?_) | refine WD.g_split rfl rfl (fun hc => ?_) (fun hc => ?_) | refine W.cond rfl (fun hc => ?_) (fun hc => ?_))
    refine WL.s rfl (Rd.ldaC rfl rfl (hcan.mono (fun _ h => h.sublist findA))) ?_
    refine WL.e rfl (Ef.callF (c := s.H ++ []) (by exact rfl) (.pickL (L := s.H) (.there (.there (.right .here))) (.nil _)) (fun hd => put_tr _ [] s hsk x.d x.q.ba x.q.bn x.q.bc (by rw [hxb, hxq]; exact (hqI.mono (fun _ h => addF_in hd h)).src) (by rw [hxb, hxq]; exact hql) (by rw [← hd_, hP.stream j hjN]; omega) (by rw [← hd_, hP.stream j hjN]; have := hP.st _ hoM; show (((pcsOf first l).st (ownS l j) : Nat) : Int) < _; omega) (by rw [← hd_, hP.tsn j hjN]; simp only [u32_eq]; omega) (by omega) (by rw [hxq]; omega) (by omega))) ?_
    rintro _ _ ⟨_, ⟨rfl, s1, hs1, rfl, hR1, htu1, hS1, hn1⟩, rfl⟩
    rw [List.append_nil, ← hd_, show putE s.S ((pcsOf first l).d j) = 0 from hE]
    rw [← hd_] at hS1
    rw [← hS1] at I2 hrow2
    rw [← hR1]
    have hlp := fun m => Pcs.left_put (p := pcsOf first l) (m := m) hjN hX
    rw [← hcs] at hlp
    have hlo := hlp (ownS l j)
    rw [show (pcsOf first l).own j = ownS l j from rfl, if_pos rfl] at hlo
    have hlv := hlm (ownS l j) hoM
    have hll2 := left_le (pcsOf first l) (cameX (turned order (offS l)) i) (ownS l j)
    have hN2 : (pcsOf first l).N = offS l := rfl
    repeat' (first | refine S1 ?_ | refine SD ?_ | refine SA (fun _ => ?_) | refine WL.g_split rfl rfl (fun hc => ?_) (fun hc => ?_) | refine WD.g_split rfl rfl (fun hc => ?_) (fun hc => ?_) | refine W.cond rfl (fun hc => ?_) (fun hc => ?_))
    refine WL.s rfl (Rd.ldC rfl (hja.mono (fun _ h => h.sublist findA))) ?_
    repeat' (first | refine S1 ?_ | refine SD ?_ | refine SA (fun _ => ?_) | refine WL.g_split rfl rfl (fun hc => ?_) (fun hc => ?_) | refine WD.g_split rfl rfl (fun hc => ?_) (fun hc => ?_) | refine W.cond rfl (fun hc => ?_) (fun hc => ?_))
    refine WL.s rfl (Rd.ld rfl (.right (.here (nI_get (hoj j hjN))))) ?_
    repeat' (first | refine S1 ?_ | refine SD ?_ | refine SA (fun _ => ?_) | refine WL.g_split rfl rfl (fun hc => ?_) (fun hc => ?_) | refine WD.g_split rfl rfl (fun hc => ?_) (fun hc => ?_) | refine W.cond rfl (fun hc => ?_) (fun hc => ?_))
    refine WL.s rfl (Rd.ld rfl (.right (.there (.here (nI_get hlv))))) ?_
    repeat' (first | refine S1 ?_ | refine SD ?_ | refine SA (fun _ => ?_) | refine WL.g_split rfl rfl (fun hc => ?_) (fun hc => ?_) | refine WD.g_split rfl rfl (fun hc => ?_) (fun hc => ?_) | refine W.cond rfl (fun hc => ?_) (fun hc => ?_))
    have hsub : IntKind.i64.wrap ((((pcsOf first l).left (cameX (turned order (offS l)) i) (ownS l j) : Nat) : Int) - 1) = (((pcsOf first l).left (cameX (turned order (offS l)) (i + 1)) (ownS l j) : Nat) : Int) := by rw [i64_id (by omega) (by omega)]; omega
    rw [hsub]
    refine WL.e0 (Ef.st (v := nI ((pcsOf first l).left (cameX (turned order (offS l)) (i + 1)) (ownS l j))) rfl rfl rfl (.right (.there (.here (spl_set (by omega) _))))) ?_
    rintro _ _ ⟨_, rfl⟩
    have hlm2 : ∀ m, m < l.length → (lf.set (ownS l j) ((pcsOf first l).left (cameX (turned order (offS l)) (i + 1)) (ownS l j)))[m]? = some ((pcsOf first l).left (cameX (turned order (offS l)) (i + 1)) m) := fun m hm => by
      by_cases hmi : ownS l j = m
      · subst hmi
        rw [List.getElem?_set_self (by omega)]
      · rw [List.getElem?_set_ne hmi, hlm m hm]
        have := hlp m
        rw [show (pcsOf first l).own j = ownS l j from rfl, if_neg hmi, Nat.add_zero] at this
        rw [this]
    have hll3 : (lf.set (ownS l j) ((pcsOf first l).left (cameX (turned order (offS l)) (i + 1)) (ownS l j))).length = l.length := by rw [List.length_set]; exact hll
    revert hlm2 hll3
    generalize lf.set (ownS l j) ((pcsOf first l).left (cameX (turned order (offS l)) (i + 1)) (ownS l j)) = lf2
    intro hlm2 hll3
    have hrc := ready_count hP I2 U2 O2
    obtain ⟨X2, hX2⟩ : ∃ X2, cameX (turned order (offS l)) (i + 1) = X2 := ⟨_, rfl⟩
    rw [hX2] at U2 O2 I2 hlm2 hrc
    have hml : ms.length = l.length := by have := congrArg List.length hmg; simpa using this
    have hwan : ∀ m, m < l.length → ∃ (b o : Nat), wa = some ⟨b, o, none⟩ ∧ Sl.Can F (s1.H ++ ((bo, .cells (ow.map nI).toArray 3 (0, 0)) :: (bl, .cells (lf2.map nI).toArray 3 (0, 0)) :: (atb ++ (ab ++ (wb ++ ms.flatMap (·.hb)))))) b (o + (m : Int).toNat * 3 + 0) [.int .u16 ((pcsOf first l).st m : Int)] ∧
        Sl.Can F (s1.H ++ ((bo, .cells (ow.map nI).toArray 3 (0, 0)) :: (bl, .cells (lf2.map nI).toArray 3 (0, 0)) :: (atb ++ (ab ++ (wb ++ ms.flatMap (·.hb)))))) b (o + (m : Int).toNat * 3 + 1) [.bool (!(pcsOf first l).un m)] := fun m hm => by
      obtain ⟨y, hy⟩ : ∃ y, ms[m]? = some y := ⟨ms[m]'(by omega), by simp⟩
      obtain ⟨z, hz⟩ : ∃ z, l[m]? = some z := ⟨l[m], by simp [hm]⟩
      have hyz : y.g = z.mg := by
        have := congrArg (fun l => l[m]?) hmg
        simpa [hy, hz] using this
      obtain ⟨b, o, hwa, hc⟩ := (Lst.own (F := F) (H := wb) hwant (fun _ h => h)).el (cells := Ms.cells) (fun _ => rfl) hy (by omega)
      have e1 : (pcsOf first l).st m = z.st := by show (match l[m]? with | some s => s.st | none => 0) = _; rw [hz]
      have e2 : (pcsOf first l).un m = z.un := by show (match l[m]? with | some s => s.un | none => false) = _; rw [hz]
      have h0 := hc.one (i := 0) (v := .int .u16 ((pcsOf first l).st m : Int)) (by unfold Ms.cells; rw [hyz, e1]; rfl)
      have h1 := hc.one (i := 1) (v := .bool (!(pcsOf first l).un m)) (by unfold Ms.cells; rw [hyz, e2]; rfl)
      exact ⟨b, o, hwa, h0.mono (fun _ h => h.sublist findA), h1.mono (fun _ h => h.sublist findA)⟩
    obtain ⟨xb, xo, rfl, _, _⟩ := hwan 0 (by omega)
    repeat' (first | refine S1 ?_ | refine SD ?_ | refine SA (fun _ => ?_) | refine WL.g_split rfl rfl (fun hc => ?_) (fun hc => ?_) | refine WD.g_split rfl rfl (fun hc => ?_) (fun hc => ?_) | refine W.cond rfl (fun hc => ?_) (fun hc => ?_))
    refine W.loop (G := SqG) (fun g => [(7, .slice (some ⟨pb, po, none⟩) (offS l) ac), (8, .slice (some ⟨xb, xo, none⟩) l.length wc), (9, .pointer (some ⟨s1.R, 0, none⟩)), (11, .slice (some ⟨tb, to, none⟩) (offS l) tc), (12, .slice (some ⟨bl, 0, none⟩) l.length l.length), (13, .slice (some ⟨bo, 0, none⟩) (offS l) (offS l)), (16, .int .i64 i), (17, .int .i64 g.r), (18, .int .i64 g.m)])
      (fun _ => s1.H ++ ((bo, .cells (ow.map nI).toArray 3 (0, 0)) :: (bl, .cells (lf2.map nI).toArray 3 (0, 0)) :: (atb ++ (ab ++ (wb ++ ms.flatMap (·.hb)))))) (fun g => g.m ≤ l.length ∧ g.r = (List.range g.m).countP ((pcsOf first l).fineB X2)) (fun g => l.length - g.m) ⟨0, 0⟩ ⟨Nat.zero_le _, rfl⟩ envA (fun _ h => h) ?_
    rintro ⟨m, r⟩ ⟨hm, hr⟩
    dsimp only at hm hr ⊢
    repeat' (first | refine S1 ?_ | refine SD ?_ | refine SA (fun _ => ?_) | refine WL.g_split rfl rfl (fun hc => ?_) (fun hc => ?_) | refine WD.g_split rfl rfl (fun hc => ?_) (fun hc => ?_) | refine W.cond rfl (fun hc => ?_) (fun hc => ?_))
    · have hm' : m < l.length := by have := of_decide_eq_true (p := (m : Int) < (l.length : Int)) (by assumption); omega
      obtain ⟨_, _, he, cm0, cm1⟩ := hwan m hm'
      cases he
      have hma : 0 ≤ (m : Int) ∧ (m : Int) < (l.length : Nat) := by omega
      have hlv := nI_get (hlm2 m hm')
      repeat' (first | refine S1 ?_ | refine SD ?_ | refine SA (fun _ => ?_) | refine WL.g_split rfl rfl (fun hc => ?_) (fun hc => ?_) | refine WD.g_split rfl rfl (fun hc => ?_) (fun hc => ?_) | refine W.cond rfl (fun hc => ?_) (fun hc => ?_))
      refine W.loop (G := Nat) (fun q => [(7, .slice (some ⟨pb, po, none⟩) (offS l) ac), (8, .slice (some ⟨xb, xo, none⟩) l.length wc), (9, .pointer (some ⟨s1.R, 0, none⟩)), (11, .slice (some ⟨tb, to, none⟩) (offS l) tc), (12, .slice (some ⟨bl, 0, none⟩) l.length l.length), (13, .slice (some ⟨bo, 0, none⟩) (offS l) (offS l)), (16, .int .i64 i), (17, .int .i64 r), (18, .int .i64 m), (19, .bool (decide ((pcsOf first l).left X2 m = 0) && (List.range q).all (fun q => !(pcsOf first l).ob X2 m q))), (20, .int .i64 q)])
        (fun _ => s1.H ++ ((bo, .cells (ow.map nI).toArray 3 (0, 0)) :: (bl, .cells (lf2.map nI).toArray 3 (0, 0)) :: (atb ++ (ab ++ (wb ++ ms.flatMap (·.hb)))))) (fun q => q ≤ m) (fun q => m - q) 0 (Nat.zero_le _) ?_ (fun _ h => h) ?_
      · have e0 : ((((pcsOf first l).left X2 m : Nat) : Int) == 0) = decide ((pcsOf first l).left X2 m = 0) := by
          rw [Bool.eq_iff_iff]
          simp
        rw [List.range_zero, List.all_nil, Bool.and_true, ← e0]
        exact envA
      intro q hq
      repeat' (first | refine S1 ?_ | refine SD ?_ | refine SA (fun _ => ?_) | refine WL.g_split rfl rfl (fun hc => ?_) (fun hc => ?_) | refine WD.g_split rfl rfl (fun hc => ?_) (fun hc => ?_) | refine W.cond rfl (fun hc => ?_) (fun hc => ?_))
      · have hq' : q < m := by have := of_decide_eq_true (p := (q : Int) < (m : Int)) (by assumption); omega
        obtain ⟨_, _, he, cq0, cq1⟩ := hwan q (by omega)
        cases he
        have hqa : 0 ≤ (q : Int) ∧ (q : Int) < (l.length : Nat) := by omega
        have hlq := nI_get (hlm2 q (by omega))
        have hob := ob_eq (pcsOf first l) X2 m q
        have hal := all_succ (fun q => !(pcsOf first l).ob X2 m q) q
        repeat' (first | refine S1 ?_ | refine SD ?_ | refine SA (fun _ => ?_) | refine WL.g_split rfl rfl (fun hc => ?_) (fun hc => ?_) | refine WD.g_split rfl rfl (fun hc => ?_) (fun hc => ?_) | refine W.cond rfl (fun hc => ?_) (fun hc => ?_))
        · rw [show (!(pcsOf first l).un m) = true by assumption, show (!(pcsOf first l).un q) = true by assumption, show (((pcsOf first l).st q : Int) == ((pcsOf first l).st m : Int)) = true by assumption, show decide ((((pcsOf first l).left X2 q : Nat) : Int) > 0) = true by assumption] at hob
          rw [show (pcsOf first l).ob X2 m q = true from hob] at hal
          rw [i64_succ (by omega)]
          exact Fin.round (q + 1) hq' (by rw [hal]; simp only [Bool.not_true, Bool.and_false]; exact envA) (fun _ h => h) (by omega)
        · rw [show decide ((((pcsOf first l).left X2 q : Nat) : Int) > 0) = false by assumption, Bool.and_false] at hob
          rw [show (pcsOf first l).ob X2 m q = false from hob] at hal
          rw [i64_succ (by omega)]
          exact Fin.round (q + 1) hq' (by rw [hal]; simp only [Bool.not_false, Bool.and_true]; exact envA) (fun _ h => h) (by omega)
        · rw [show (((pcsOf first l).st q : Int) == ((pcsOf first l).st m : Int)) = false by assumption, Bool.and_false, Bool.false_and] at hob
          rw [show (pcsOf first l).ob X2 m q = false from hob] at hal
          rw [i64_succ (by omega)]
          exact Fin.round (q + 1) hq' (by rw [hal]; simp only [Bool.not_false, Bool.and_true]; exact envA) (fun _ h => h) (by omega)
        · rw [show (!(pcsOf first l).un q) = false by assumption, Bool.and_false, Bool.false_and, Bool.false_and] at hob
          rw [show (pcsOf first l).ob X2 m q = false from hob] at hal
          rw [i64_succ (by omega)]
          exact Fin.round (q + 1) hq' (by rw [hal]; simp only [Bool.not_false, Bool.and_true]; exact envA) (fun _ h => h) (by omega)
      · have hq' : q < m := by have := of_decide_eq_true (p := (q : Int) < (m : Int)) (by assumption); omega
        have hob := ob_eq (pcsOf first l) X2 m q
        have hal := all_succ (fun q => !(pcsOf first l).ob X2 m q) q
        rw [show (!(pcsOf first l).un m) = false by assumption, Bool.false_and, Bool.false_and, Bool.false_and] at hob
        rw [show (pcsOf first l).ob X2 m q = false from hob] at hal
        rw [i64_succ (by omega)]
        exact Fin.round (q + 1) hq' (by rw [hal]; simp only [Bool.not_false, Bool.and_true]; exact envA) (fun _ h => h) (by omega)
      · have hqm : q = m := by have := of_decide_eq_false (p := (q : Int) < (m : Int)) (by assumption); omega
        subst hqm
        have hfb : (pcsOf first l).fineB X2 q = true := hc
        have hcn := cnt_succ ((pcsOf first l).fineB X2) q
        rw [hfb, if_pos rfl] at hcn
        have hrl2 : r ≤ q := by rw [hr]; exact Nat.le_trans List.countP_le_length (by simp)
        rw [i64_succ (by omega), i64_succ (by omega)]
        exact Fin.round ⟨q + 1, r + 1⟩ ⟨hm', by dsimp only; rw [hcn, ← hr]⟩ envA (fun _ h => h) (by dsimp only; omega)
      · have hqm : q = m := by have := of_decide_eq_false (p := (q : Int) < (m : Int)) (by assumption); omega
        subst hqm
        have hfb : (pcsOf first l).fineB X2 q = false := hc
        have hcn := cnt_succ ((pcsOf first l).fineB X2) q
        rw [hfb, if_neg (by decide)] at hcn
        rw [i64_succ (by omega)]
        exact Fin.round ⟨q + 1, r⟩ ⟨hm', by dsimp only; rw [hcn, ← hr]; rfl⟩ envA (fun _ h => h) (by dsimp only; omega)
    · have hmM : m = l.length := by have := of_decide_eq_false (p := (m : Int) < (l.length : Int)) (by assumption); omega
      subst hmM
      have hrr : s1.row.length = r := by
        have h1 : s1.row = s.row ++ R2.map (pcsOf first l).msg := hrow2
        rw [h1, List.length_append, hrl, List.length_map, ← List.length_append, hrc, hr]
        rfl
      refine WL.e rfl (Ef.callR (c := s1.H) (by exact rfl) (.last .here) (rdyA _ s1 hs1)) ?_
      rintro _ _ ⟨rfl, rfl⟩
      rw [hrr]
      repeat' (first | refine S1 ?_ | refine SD ?_ | refine SA (fun _ => ?_) | refine WL.g_split rfl rfl (fun hc => ?_) (fun hc => ?_) | refine WD.g_split rfl rfl (fun hc => ?_) (fun hc => ?_) | refine W.cond rfl (fun hc => ?_) (fun hc => ?_))
      · simp at hc
      rw [i64_succ (by omega)]
      have hfw : s.S.L.length + 1 < 2147483000 := by
        have h1 := hsk.few
        have h2 := hsk.bound
        have h3 : s.S.L.length = s.ps.length := by simp [RM.S, RM.L]
        omega
      have htot := put_tot (s := s.S) (d := (pcsOf first l).d j) hI.good (by rw [hP.tsn j hjN]; simp only [u32_eq]; omega) hfw
      rw [if_pos hE, ← hS1, hd_, hxb, hql] at htot
      refine Fin.round ⟨i + 1, lf2, s1, R ++ R2, K2⟩ ⟨hi', hs1, rfl, by dsimp only; omega, by dsimp only; omega, ?_, hll3, by rw [hX2]; exact hlm2, by rw [hX2]; exact I2, by rw [hX2]; exact U2, by rw [hX2]; exact O2, ?_⟩ envA (fun _ h => In.of_sub (.pick (.right .here) (.pick (.right .here) (.pickL (L := atb) (.right .here) (.pickL (L := s1.H) .here (.last .all))))) h) (by dsimp only; omega)
      · dsimp only
        have e1 : totD s1.S.L + totM s1.S.row = totD s1.L + totM s1.row := rfl
        have e2 : totD s.S.L + totM s.S.row = totD s.L + totM s.row := rfl
        omega
      · dsimp only
        have h1 : s1.row = s.row ++ R2.map (pcsOf first l).msg := hrow2
        rw [h1, List.length_append, hrl, List.length_map, List.length_append]
  ·
    refine WL.e rfl (Ef.callR (by exact rfl) (.nil _) (works_tr _)) ?_
    rintro _ _ ⟨rfl, rfl⟩
    repeat' (first | refine S1 ?_ | refine SD ?_ | refine SA (fun _ => ?_) | refine WL.g_split rfl rfl (fun hc => ?_) (fun hc => ?_) | refine WD.g_split rfl rfl (fun hc => ?_) (fun hc => ?_) | refine W.cond rfl (fun hc => ?_) (fun hc => ?_))
    exact Fin.retW (by exact rfl) resA (H' := []) (fun _ h => h.sublist (List.nil_sublist _)) ⟨rfl, rfl⟩
end Go.Proofs.Ytokbkocjddcklaa
