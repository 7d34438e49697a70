/- The laws' 'pieces', walked: messages that were sent, cut in pieces. Condition: what the arguments' cells are. -/
import Derived.Test.YtokbkocjddcklaaRmN
import Derived.Test.YtokbkocjddcklaaSlN
import Derived.Test.YtokbkocjddcklaaSlQ
import Derived.Test.YtokbkocjddcklaaRmW
namespace Go.Proofs.Ytokbkocjddcklaa
open Go Go.Sl Go.Rm

def ptC (q : Pt) : Value := .slice q.ba q.bn q.bc
def snC (m : Sn) : List Value := [.int .u8 m.stream, .bool m.un, .slice m.pa m.pn m.pc]
def pmC (x : PM) : List Value := dCells x.d (ptC x.q)
structure SnIs (F : Nat → Option Obj) (m : Sn) : Prop where
  stream : 0 ≤ m.stream ∧ m.stream < 256
  parts : Lst F [] 1 (m.ps.map ptC) m.pa m.pn m.pc
  bytes : ∀ q ∈ m.ps, Lst F [] 1 (q.bs.map B) q.ba q.bn q.bc
  small : ∀ q ∈ m.ps, q.bs.length ≤ 140737488351232
  few : m.ps.length ≤ 140737488351232
theorem SnIs.mono {F F' : Nat → Option Obj} {m : Sn} (h : SnIs F m) (hw : ∀ w, In F' [] w → In F [] w) : SnIs F' m := ⟨h.stream, h.parts.mono hw, fun q hq => (h.bytes q hq).mono hw, h.small, h.few⟩
def ctrC (l : List Sn) : List Value := [.int .u16 (ctr l 0), .int .u16 (ctr l 1), .int .u16 (ctr l 2), .int .u16 (ctr l 3)]
theorem ctr_at (l : List Sn) {t : Nat} (ht : t < 4) : (ctrC l)[t]? = some (.int .u16 (ctr l t)) := by
  have : t = 0 ∨ t = 1 ∨ t = 2 ∨ t = 3 := by omega
  rcases this with rfl | rfl | rfl | rfl <;> rfl
theorem ctr_put {l : List Sn} {i : Nat} {m : Sn} (h : l[i]? = some m) (hu : m.un = false) : spliceK (ctrC (l.take i)) m.st [.int .u16 ((ctr (l.take i) m.st : Nat) + 1 : Int)] some = some (ctrC (l.take (i + 1))) := by
  have hs := ctr_snoc h
  have ht := st_lt m
  unfold ctrC
  rw [hs 0, hs 1, hs 2, hs 3, hu]
  generalize m.st = t at ht
  have : t = 0 ∨ t = 1 ∨ t = 2 ∨ t = 3 := by omega
  rcases this with rfl | rfl | rfl | rfl <;> rfl
theorem ctr_le (l : List Sn) (t : Nat) : ctr l t ≤ l.length := List.countP_le_length
/-- what 'pieces' answers, where it does -/
structure PcsA (l : List Sn) : Prop where
  ps : ∀ m ∈ l, m.ps ≠ []
  bs : ∀ m ∈ l, ∀ q ∈ m.ps, q.bs ≠ []
  few : offS l ≤ 81
  small : (l.map (fun m => (m.ps.map (·.bs.length)).sum)).sum ≤ 32768
def PcsQ (first : Int) (l : List Sn) (v : Value) (H : HL) : Prop :=
  (v = tup [.slice none 0 0, .slice none 0 0] ∧ H = []) ∨
  (∃ (aa : Option Addr) (an ac : Nat) (ab : HL) (wa : Option Addr) (wn wc : Nat) (wb : HL) (ms : List Ms), PcsA l ∧ v = tup [.slice aa an ac, .slice wa wn wc] ∧ OwnS 33 7 ((allP first l).flatMap pmC) (.slice aa an ac) ab ∧
    OwnS 40 3 (ms.flatMap Ms.cells) (.slice wa wn wc) wb ∧ (∀ m ∈ ms, m.ok) ∧ ms.map (·.g) = l.map Sn.mg ∧ H = ab ++ (wb ++ ms.flatMap (·.hb)))
structure PcG where
  i : Nat
  n : Nat
  oa : Option Addr
  on : Nat
  oc : Nat
  ob : HL
  wa : Option Addr
  wn : Nat
  wc : Nat
  wb : HL
  ms : List Ms
structure PdG where
  k : Nat
  n : Nat
  oa : Option Addr
  on : Nat
  oc : Nat
  ob : HL
  ma : Option Addr
  mn : Nat
  mc : Nat
  mb : HL
def bytesS (l : List Sn) : Nat := (l.map (fun m => (m.ps.map (·.bs.length)).sum)).sum
theorem pm_one (x : PM) : ∀ u ∈ pmC x, u.oneCell' = true := fun u hu => by
  unfold pmC dCells ptC at hu
  simp at hu
  rcases hu with rfl | rfl | rfl | rfl | rfl | rfl | rfl <;> rfl
theorem pcsM_get (first : Int) (base rk : Nat) (m : Sn) (k : Nat) : (pcsM first base rk m)[k]? = (m.ps[k]?).map (pcM first base rk m k) := by
  unfold pcsM
  rw [List.getElem?_mapIdx]
theorem pm_len (l : List PM) : (l.flatMap pmC).length = l.length * 7 := flat_len' pmC 7 (fun _ => rfl) l
set_option maxHeartbeats 8000000 in
theorem pieces_tr (F : Nat → Option Obj) (first : Int) (l : List Sn) (ka : Option Addr) (kn kc : Nat) (hl : Lst F [] 3 (l.flatMap snC) ka kn kc) (hop : ∀ m ∈ l, SnIs F m) (h80 : l.length ≤ 80) :
    Tr Try.prog 22 [.int .u32 first, .slice ka kn kc].toArray F [] (PcsQ first l) := by
  refine Tr.enter Try.func22 rfl Try.ntmps22 rfl (fun w0 => ?_)
  have hkn : l.length = kn := lst_len (cells := snC) (fun _ => rfl) (by decide) hl
  repeat' (first | refine S1 ?_ | refine SD ?_ | refine SA (fun _ => ?_) | refine WL.g_split rfl rfl (fun hc => ?_) (fun hc => ?_) | refine WD.g_split rfl rfl (fun hc => ?_) (fun hc => ?_) | refine W.cond rfl (fun hc => ?_) (fun hc => ?_))
  rename_i b8
  refine W.loop (G := PcG) (fun g => [(0, .int .u32 first), (1, .slice ka kn kc), (6, .slice g.oa g.on g.oc), (7, .slice g.wa g.wn g.wc), (8, .pointer (some ⟨b8, 0, none⟩)), (9, .int .i64 g.n), (10, .int .i64 g.i)])
    (fun g => (b8, .cells (ctrC (l.take g.i)).toArray 76 (0, 0)) :: (g.ob ++ (g.wb ++ g.ms.flatMap (·.hb))))
    (fun g => g.i ≤ kn ∧ OwnS 33 7 ((allP first (l.take g.i)).flatMap pmC) (.slice g.oa g.on g.oc) g.ob ∧ OwnS 40 3 (g.ms.flatMap Ms.cells) (.slice g.wa g.wn g.wc) g.wb ∧ (∀ m ∈ g.ms, m.ok) ∧ g.ms.map (·.g) = (l.take g.i).map Sn.mg ∧
      (∀ m ∈ l.take g.i, m.ps ≠ []) ∧ (∀ m ∈ l.take g.i, ∀ q ∈ m.ps, q.bs ≠ []) ∧ offS (l.take g.i) ≤ 81 ∧ bytesS (l.take g.i) = g.n ∧ g.n ≤ 32768) (fun g => kn - g.i) ⟨0, 0, none, 0, 0, [], none, 0, 0, [], []⟩
    ⟨Nat.zero_le _, .inl ⟨rfl, rfl, rfl⟩, .inl ⟨rfl, rfl, rfl⟩, by simp, rfl, by simp, by simp, Nat.zero_le _, rfl, by decide⟩ envA (fun _ h => h) ?_
  rintro ⟨i, n, oa, on, oc, ob, wa, wn, wc, wb, ms⟩ ⟨hi, ho, hw, hmok, hmg, hps, hbs, hof, hbn, hn⟩
  dsimp only at hi ho hw hmok hmg hps hbs hof hbn hn ⊢
  repeat' (first | refine S1 ?_ | refine SD ?_ | refine SA (fun _ => ?_) | refine WL.g_split rfl rfl (fun hc => ?_) (fun hc => ?_) | refine WD.g_split rfl rfl (fun hc => ?_) (fun hc => ?_) | refine W.cond rfl (fun hc => ?_) (fun hc => ?_))
  · have hi' : i < kn := by have := of_decide_eq_true hc; omega
    obtain ⟨m, hm⟩ : ∃ m, l[i]? = some m := ⟨l[i]'(by omega), by simp⟩
    have hmI := hop m (List.mem_of_getElem? hm)
    obtain ⟨lb, lo, rfl, hcan⟩ := hl.el (cells := snC) (fun _ => rfl) hm (by omega)
    have hia : 0 ≤ (i : Int) ∧ (i : Int) < kn := by omega
    have hc0 : Sl.Can F [] lb (lo + (i : Int).toNat * 3 + 0) [.int .u8 m.stream] := hcan.one (i := 0) rfl
    have hc1 : Sl.Can F [] lb (lo + (i : Int).toNat * 3 + 1) [.bool m.un] := hcan.one (i := 1) rfl
    have hc2 : Sl.Can F [] lb (lo + (i : Int).toNat * 3 + 2) [.slice m.pa m.pn m.pc] := hcan.one (i := 2) rfl
    repeat' (first | refine S1 ?_ | refine SD ?_ | refine SA (fun _ => ?_) | refine WL.g_split rfl rfl (fun hc => ?_) (fun hc => ?_) | refine WD.g_split rfl rfl (fun hc => ?_) (fun hc => ?_) | refine W.cond rfl (fun hc => ?_) (fun hc => ?_))
    refine WL.p rfl (Pu.rem rfl rfl (by decide)) ?_
    have hmt : (IntKind.u16.wrap m.stream).tmod 4 = (m.st : Int) := by
      rw [u16_id (by have := hmI.stream; omega)]
      unfold Sn.st
      have := hmI.stream
      rw [Int.tmod_eq_emod_of_nonneg (by omega)]
      omega
    rw [hmt]
    have hst := st_lt m
    have hpl : m.ps.length = m.pn := by have := hmI.parts.len; simpa using this
    repeat' (first | refine S1 ?_ | refine SD ?_ | refine SA (fun _ => ?_) | refine WL.g_split rfl rfl (fun hc => ?_) (fun hc => ?_) | refine WD.g_split rfl rfl (fun hc => ?_) (fun hc => ?_) | refine W.cond rfl (fun hc => ?_) (fun hc => ?_))
    · have : m.pn = 0 := by simpa using hc
      exact Fin.retW (by exact rfl) resA (H' := []) (fun _ h => h.sublist (List.nil_sublist _)) (.inl ⟨rfl, rfl⟩)
    have hp0 : m.ps ≠ [] := fun h => by rw [h] at hpl; simp at hc; simp at hpl; omega
    obtain ⟨pb, po, hpa, hpc⟩ := hmI.parts.can (by have := List.length_pos_iff.2 hp0; omega)
    rw [hpa] at hc2
    rename_i b12
    refine W.loop (G := PdG) (fun g => [(0, .int .u32 first), (1, .slice (some ⟨lb, lo, none⟩) kn kc), (6, .slice g.oa g.on g.oc), (7, .slice wa wn wc), (8, .pointer (some ⟨b8, 0, none⟩)), (9, .int .i64 g.n), (10, .int .i64 i), (11, .int .u16 m.st), (12, .pointer (some ⟨b12, 0, none⟩)), (13, .int .i64 g.k)])
      (fun g => (b12, .cells [.int .u16 m.st, .bool (!m.un), .slice g.ma g.mn g.mc].toArray 40 (0, 0)) :: (b8, .cells (ctrC (l.take i)).toArray 76 (0, 0)) :: (g.mb ++ (g.ob ++ (wb ++ ms.flatMap (·.hb)))))
      (fun g => g.k ≤ m.pn ∧ OwnS 33 7 ((allP first (l.take i) ++ (pcsM first (offS (l.take i)) (ctr (l.take i) m.st) m).take g.k).flatMap pmC) (.slice g.oa g.on g.oc) g.ob ∧ OwnS 5 1 (((m.ps.take g.k).flatMap (·.bs)).map B) (.slice g.ma g.mn g.mc) g.mb ∧
        (∀ q ∈ m.ps.take g.k, q.bs ≠ []) ∧ offS (l.take i) + g.k ≤ 81 ∧ n + ((m.ps.take g.k).map (·.bs.length)).sum = g.n ∧ g.n ≤ 32768) (fun g => m.pn - g.k) ⟨0, n, oa, on, oc, ob, none, 0, 0, []⟩
      ⟨Nat.zero_le _, by simpa using ho, .inl ⟨rfl, rfl, rfl⟩, by simp, hof, by simp, hn⟩ envA (fun _ h => h) ?_
    rintro ⟨k, n2, oa2, on2, oc2, ob2, ma, mn, mc, mb⟩ ⟨hk, ho2, hm2, hbs2, hof2, hbn2, hn2⟩
    dsimp only at hk ho2 hm2 hbs2 hof2 hbn2 hn2 ⊢
    have hon2 : on2 = offS (l.take i) + k := by
      have := OwnS.len ho2
      rw [pm_len, List.length_append, allP_len, List.length_take, pcsM_len] at this
      omega
    repeat' (first | refine S1 ?_ | refine SD ?_ | refine SA (fun _ => ?_) | refine WL.g_split rfl rfl (fun hc => ?_) (fun hc => ?_) | refine WD.g_split rfl rfl (fun hc => ?_) (fun hc => ?_) | refine W.cond rfl (fun hc => ?_) (fun hc => ?_))
    · have hk' : k < m.pn := by rename_i h2; have := of_decide_eq_true hc; omega
      obtain ⟨q, hq⟩ : ∃ q, m.ps[k]? = some q := ⟨m.ps[k]'(by omega), by simp⟩
      have hq1 : Sl.Can F [] pb (po + (k : Int).toNat * 1) [.slice q.ba q.bn q.bc] := by
        have := hpc.one (i := k) (v := ptC q) (by rw [List.getElem?_map, hq]; rfl)
        rw [show po + (k : Int).toNat * 1 = po + k by omega]
        exact this
      have hqI := hmI.bytes q (List.mem_of_getElem? hq)
      have hql : q.bs.length = q.bn := by have := hqI.len; simpa using this
      have hka : 0 ≤ (k : Int) ∧ (k : Int) < m.pn := by omega
      have e1 : ((k : Int) == 0) = decide (k = 0) := by rw [Bool.eq_iff_iff]; simp
      have e2 : ((k : Int) == IntKind.i64.wrap ((m.pn : Int) - 1)) = decide (k + 1 = m.ps.length) := by
        have := hmI.few
        rw [i64_id (by omega) (by omega), Bool.eq_iff_iff]
        simp
        omega
      have hqs := hmI.small q (List.mem_of_getElem? hq)
      have hnw : IntKind.i64.wrap ((n2 : Int) + (q.bn : Int)) = ((n2 + q.bn : Nat) : Int) := by rw [i64_id (by omega) (by omega)]; omega
      have hxl : ((allP first (l.take i) ++ (pcsM first (offS (l.take i)) (ctr (l.take i) m.st) m).take k).flatMap pmC).length = on2 * 7 := OwnS.len ho2
      have hml2 : ((m.ps.take k).flatMap (·.bs)).length ≤ n2 := by
        rw [List.length_flatMap]
        omega
      repeat' (first | refine S1 ?_ | refine SD ?_ | refine SA (fun _ => ?_) | refine WL.g_split rfl rfl (fun hc => ?_) (fun hc => ?_) | refine WD.g_split rfl rfl (fun hc => ?_) (fun hc => ?_) | refine W.cond rfl (fun hc => ?_) (fun hc => ?_))
      all_goals try
        exact Fin.retW (by exact rfl) resA (H' := []) (fun _ h => h.sublist (List.nil_sublist _)) (.inl ⟨rfl, rfl⟩)
      · rename_i hq0 hnb hof1 b15
        have hun : m.un = false := by simpa using hc
        have hst4 : 0 ≤ (m.st : Int) ∧ (m.st : Int) < ((4 : Nat) : Int) := by omega
        refine WL.p rfl (Pu.iaA rfl rfl hst4) ?_
        refine WL.s rfl (Rd.ld rfl (.there (.there (.here (v := .int .u16 (ctr (l.take i) m.st)) (by rw [show 0 + ((m.st : Nat) : Int).toNat * 1 = m.st by omega]; exact ctr_at _ hst))))) ?_
        repeat' (first | refine S1 ?_ | refine SD ?_ | refine SA (fun _ => ?_) | refine WL.g_split rfl rfl (fun hc => ?_) (fun hc => ?_) | refine WD.g_split rfl rfl (fun hc => ?_) (fun hc => ?_) | refine W.cond rfl (fun hc => ?_) (fun hc => ?_))
        have hpm : pmC (pcM first (offS (l.take i)) (ctr (l.take i) m.st) m k q) = [.int .u32 (IntKind.u32.wrap (first + IntKind.u32.wrap (on2 : Int))), .int .u16 m.st, .int .u16 (ctr (l.take i) m.st), .bool m.un, .bool ((k : Int) == 0), .bool ((k : Int) == IntKind.i64.wrap ((m.pn : Int) - 1)), .slice q.ba q.bn q.bc] := by
          rw [e1, e2, hon2]
          unfold pmC pcM dCells ptC
          rw [hun]
          rfl
        have hnb := of_decide_eq_false hnb
        have hof1 := of_decide_eq_false hof1
        rw [hnw] at hnb
        refine WL.e rfl (Ef.app (m := 1) (news := pmC (pcM first (offS (l.take i)) (ctr (l.take i) m.st) m k q)) (by exact rfl) (by exact rfl) rfl rfl ho2 (.last (.there (.there (.there (.there (.right .here)))))) (by rw [hpm]; exact Src.own (n := 7) (.here rfl)) rfl (pm_one _) (by rw [hxl, show (pmC _).length = 7 from rfl]; omega) (by rw [hxl, show (pmC _).length = 7 from rfl]; unfold maxLen; omega)) ?_
        rintro v' _ ⟨ob3, ho3, rfl⟩
        obtain ⟨oa3, on3, oc3, rfl, _, _⟩ := OwnS.shape ho3
        repeat' (first | refine S1 ?_ | refine SD ?_ | refine SA (fun _ => ?_) | refine WL.g_split rfl rfl (fun hc => ?_) (fun hc => ?_) | refine WD.g_split rfl rfl (fun hc => ?_) (fun hc => ?_) | refine W.cond rfl (fun hc => ?_) (fun hc => ?_))
        refine WL.e rfl (Ef.app (m := q.bn) (news := q.bs.map B) (by exact rfl) (by exact rfl) rfl rfl hm2 (.last (.right (.there (.there (.there (.there .here)))))) hqI.any.src (by simp [hql]) (B_one _) (by simp only [List.length_map]; omega) (by simp only [List.length_map]; unfold maxLen; omega)) ?_
        rintro v' _ ⟨mb3, hm3, rfl⟩
        obtain ⟨ma3, mn3, mc3, rfl, _, _⟩ := OwnS.shape hm3
        repeat' (first | refine S1 ?_ | refine SD ?_ | refine SA (fun _ => ?_) | refine WL.g_split rfl rfl (fun hc => ?_) (fun hc => ?_) | refine WD.g_split rfl rfl (fun hc => ?_) (fun hc => ?_) | refine W.cond rfl (fun hc => ?_) (fun hc => ?_))
        rw [i64_succ (by omega), hnw]
        refine Fin.round ⟨k + 1, n2 + q.bn, oa3, on3, oc3, ob3, ma3, mn3, mc3, mb3⟩ ⟨hk', ?_, ?_, ?_, by dsimp only; omega, ?_, by dsimp only; omega⟩ envA (fun _ h => In.of_sub (.pick (.right (.right (.there (.there .here)))) (.pick (.right (.right (.there (.there .here)))) (.pickL (L := mb3) .here (.pickL (L := ob3) .here (.last (.there (.there .all))))))) h) (by dsimp only; omega)
        · dsimp only
          rw [List.take_add_one, pcsM_get, hq, Option.map_some, Option.toList_some, ← List.append_assoc, List.flatMap_append, List.flatMap_singleton]
          exact ho3
        · dsimp only
          rw [List.take_add_one, hq, Option.toList_some, List.flatMap_append, List.flatMap_singleton, List.map_append]
          exact hm3
        · dsimp only
          intro x hx
          rw [List.take_add_one, hq, Option.toList_some] at hx
          rcases List.mem_append.1 hx with hx | hx
          · exact hbs2 x hx
          · rw [List.mem_singleton.1 hx]
            intro hz
            rw [hz] at hql
            simp at hql hq0
            omega
        · dsimp only
          rw [List.take_add_one, hq, Option.toList_some, List.map_append, List.sum_append]
          show n + (_ + (q.bs.length + 0)) = n2 + q.bn
          omega
      · rename_i hq0 hnb hof1 b15 bN
        have hun : m.un = true := by simpa using hc
        have hpm : pmC (pcM first (offS (l.take i)) (ctr (l.take i) m.st) m k q) = [.int .u32 (IntKind.u32.wrap (first + IntKind.u32.wrap (on2 : Int))), .int .u16 m.st, .int .u16 0, .bool m.un, .bool ((k : Int) == 0), .bool ((k : Int) == IntKind.i64.wrap ((m.pn : Int) - 1)), .slice q.ba q.bn q.bc] := by
          rw [e1, e2, hon2]
          unfold pmC pcM dCells ptC
          rw [hun]
          rfl
        have hnb := of_decide_eq_false hnb
        have hof1 := of_decide_eq_false hof1
        rw [hnw] at hnb
        refine WL.e rfl (Ef.app (m := 1) (news := pmC (pcM first (offS (l.take i)) (ctr (l.take i) m.st) m k q)) (by exact rfl) (by exact rfl) rfl rfl ho2 (.last (.there (.there (.there (.there (.right .here)))))) (by rw [hpm]; exact Src.own (n := 7) (.here rfl)) rfl (pm_one _) (by rw [hxl, show (pmC _).length = 7 from rfl]; omega) (by rw [hxl, show (pmC _).length = 7 from rfl]; unfold maxLen; omega)) ?_
        rintro v' _ ⟨ob3, ho3, rfl⟩
        obtain ⟨oa3, on3, oc3, rfl, _, _⟩ := OwnS.shape ho3
        repeat' (first | refine S1 ?_ | refine SD ?_ | refine SA (fun _ => ?_) | refine WL.g_split rfl rfl (fun hc => ?_) (fun hc => ?_) | refine WD.g_split rfl rfl (fun hc => ?_) (fun hc => ?_) | refine W.cond rfl (fun hc => ?_) (fun hc => ?_))
        refine WL.e rfl (Ef.app (m := q.bn) (news := q.bs.map B) (by exact rfl) (by exact rfl) rfl rfl hm2 (.last (.right (.there (.there (.there (.there .here)))))) hqI.any.src (by simp [hql]) (B_one _) (by simp only [List.length_map]; omega) (by simp only [List.length_map]; unfold maxLen; omega)) ?_
        rintro v' _ ⟨mb3, hm3, rfl⟩
        obtain ⟨ma3, mn3, mc3, rfl, _, _⟩ := OwnS.shape hm3
        repeat' (first | refine S1 ?_ | refine SD ?_ | refine SA (fun _ => ?_) | refine WL.g_split rfl rfl (fun hc => ?_) (fun hc => ?_) | refine WD.g_split rfl rfl (fun hc => ?_) (fun hc => ?_) | refine W.cond rfl (fun hc => ?_) (fun hc => ?_))
        rw [i64_succ (by omega), hnw]
        refine Fin.round ⟨k + 1, n2 + q.bn, oa3, on3, oc3, ob3, ma3, mn3, mc3, mb3⟩ ⟨hk', ?_, ?_, ?_, by dsimp only; omega, ?_, by dsimp only; omega⟩ envA (fun _ h => In.of_sub (.pick (.right (.right (.there (.there .here)))) (.pick (.right (.right (.there (.there .here)))) (.pickL (L := mb3) .here (.pickL (L := ob3) .here (.last (.there (.there .all))))))) h) (by dsimp only; omega)
        · dsimp only
          rw [List.take_add_one, pcsM_get, hq, Option.map_some, Option.toList_some, ← List.append_assoc, List.flatMap_append, List.flatMap_singleton]
          exact ho3
        · dsimp only
          rw [List.take_add_one, hq, Option.toList_some, List.flatMap_append, List.flatMap_singleton, List.map_append]
          exact hm3
        · dsimp only
          intro x hx
          rw [List.take_add_one, hq, Option.toList_some] at hx
          rcases List.mem_append.1 hx with hx | hx
          · exact hbs2 x hx
          · rw [List.mem_singleton.1 hx]
            intro hz
            rw [hz] at hql
            simp at hql hq0
            omega
        · dsimp only
          rw [List.take_add_one, hq, Option.toList_some, List.map_append, List.sum_append]
          show n + (_ + (q.bs.length + 0)) = n2 + q.bn
          omega
    · have hun : m.un = false := by simpa using hc
      have hst4 : 0 ≤ (m.st : Int) ∧ (m.st : Int) < ((4 : Nat) : Int) := by omega
      refine WL.p rfl (Pu.iaA rfl rfl hst4) ?_
      refine WL.s rfl (Rd.ld rfl (.there (.here (v := .int .u16 (ctr (l.take i) m.st)) (by rw [show 0 + ((m.st : Nat) : Int).toNat * 1 = m.st by omega]; exact ctr_at _ hst)))) ?_
      repeat' (first | refine S1 ?_ | refine SD ?_ | refine SA (fun _ => ?_) | refine WL.g_split rfl rfl (fun hc => ?_) (fun hc => ?_) | refine WD.g_split rfl rfl (fun hc => ?_) (fun hc => ?_) | refine W.cond rfl (fun hc => ?_) (fun hc => ?_))
      refine WL.p rfl (Pu.iaA rfl rfl hst4) ?_
      have hcl := ctr_le (l.take i) m.st
      rw [List.length_take] at hcl
      refine WL.e0 (Ef.st (v := .int .u16 (IntKind.u16.wrap ((ctr (l.take i) m.st : Nat) + 1 : Int))) rfl rfl rfl (.there (.here (by rw [show 0 + ((m.st : Nat) : Int).toNat * 1 = m.st by omega, u16_id (by omega)]; exact ctr_put hm hun)))) ?_
      rintro _ _ ⟨_, rfl⟩
      repeat' (first | refine S1 ?_ | refine SD ?_ | refine SA (fun _ => ?_) | refine WL.g_split rfl rfl (fun hc => ?_) (fun hc => ?_) | refine WD.g_split rfl rfl (fun hc => ?_) (fun hc => ?_) | refine W.cond rfl (fun hc => ?_) (fun hc => ?_))
      have hkp : k = m.pn := by have := of_decide_eq_false (p := (k : Int) < (m.pn : Int)) (by assumption); omega
      have hwl : (ms.flatMap Ms.cells).length = ms.length * 3 := flat_len ms
      have hml : ms.length ≤ 80 := by
        have := congrArg List.length hmg
        simp at this
        omega
      refine WL.e rfl (Ef.app (m := 1) (news := [.int .u16 m.st, .bool (!m.un), .slice ma mn mc]) (by exact rfl) (by exact rfl) rfl rfl hw (.last (.there (.there (.there (.right (.right .here)))))) (Src.own (n := 3) (.here rfl)) rfl (by intro u hu; simp at hu; rcases hu with rfl | rfl | rfl <;> rfl) (by rw [hwl]; simp; omega) (by rw [hwl]; simp; unfold maxLen; omega)) ?_
      rintro v' _ ⟨wb3, hw3, rfl⟩
      obtain ⟨wa3, wn3, wc3, rfl, _, _⟩ := OwnS.shape hw3
      repeat' (first | refine S1 ?_ | refine SD ?_ | refine SA (fun _ => ?_) | refine WL.g_split rfl rfl (fun hc => ?_) (fun hc => ?_) | refine WD.g_split rfl rfl (fun hc => ?_) (fun hc => ?_) | refine W.cond rfl (fun hc => ?_) (fun hc => ?_))
      rw [i64_succ (by omega)]
      have htk : m.ps.take k = m.ps := List.take_of_length_le (by omega)
      rw [htk] at hm2 hbs2 hbn2
      have hpk : (pcsM first (offS (l.take i)) (ctr (l.take i) m.st) m).take k = pcsM first (offS (l.take i)) (ctr (l.take i) m.st) m := List.take_of_length_le (by rw [pcsM_len]; omega)
      rw [hpk, ← allP_snoc first hm] at ho2
      have htl : l.take (i + 1) = l.take i ++ [m] := by rw [List.take_add_one, hm]; rfl
      refine Fin.round ⟨i + 1, n2, oa2, on2, oc2, ob2, wa3, wn3, wc3, wb3, ms ++ [⟨m.mg, ma, mn, mc, mb⟩]⟩ ⟨hi', ho2, ?_, ?_, ?_, ?_, ?_, ?_, ?_, hn2⟩ envA (fun _ h => ?_) (by dsimp only; omega)
      · dsimp only
        rw [List.flatMap_append, List.flatMap_singleton]
        exact hw3
      · intro x hx
        rcases List.mem_append.1 hx with hx | hx
        · exact hmok x hx
        · rw [List.mem_singleton.1 hx]
          exact hm2
      · dsimp only
        rw [List.map_append, hmg, htl, List.map_append]
        rfl
      · dsimp only
        intro x hx
        rw [htl] at hx
        rcases List.mem_append.1 hx with hx | hx
        · exact hps x hx
        · rw [List.mem_singleton.1 hx]
          exact hp0
      · dsimp only
        intro x hx
        rw [htl] at hx
        rcases List.mem_append.1 hx with hx | hx
        · exact hbs x hx
        · rw [List.mem_singleton.1 hx]
          exact hbs2
      · dsimp only
        rw [offS_snoc hm]
        omega
      · dsimp only
        rw [htl, ← hbn2, ← hbn]
        unfold bytesS
        simp
      · dsimp only
        rw [List.flatMap_append, List.flatMap_singleton]
        exact In.of_sub (.pick (.right (.there (.there .here))) (.pickL (L := ob2) (.right (.there (.there (.right .here)))) (.pickL (L := wb3) .here (.pickL (.there (.there (.right .all))) (.last (.there (.there .here))))))) h
    · have hun : m.un = true := by simpa using hc
      have hcs : ctrC (l.take i) = ctrC (l.take (i + 1)) := by
        unfold ctrC
        simp [ctr_snoc hm, hun]
      rw [hcs]
      have hkp : k = m.pn := by have := of_decide_eq_false (p := (k : Int) < (m.pn : Int)) (by assumption); omega
      have hwl : (ms.flatMap Ms.cells).length = ms.length * 3 := flat_len ms
      have hml : ms.length ≤ 80 := by
        have := congrArg List.length hmg
        simp at this
        omega
      refine WL.e rfl (Ef.app (m := 1) (news := [.int .u16 m.st, .bool (!m.un), .slice ma mn mc]) (by exact rfl) (by exact rfl) rfl rfl hw (.last (.there (.there (.there (.right (.right .here)))))) (Src.own (n := 3) (.here rfl)) rfl (by intro u hu; simp at hu; rcases hu with rfl | rfl | rfl <;> rfl) (by rw [hwl]; simp; omega) (by rw [hwl]; simp; unfold maxLen; omega)) ?_
      rintro v' _ ⟨wb3, hw3, rfl⟩
      obtain ⟨wa3, wn3, wc3, rfl, _, _⟩ := OwnS.shape hw3
      repeat' (first | refine S1 ?_ | refine SD ?_ | refine SA (fun _ => ?_) | refine WL.g_split rfl rfl (fun hc => ?_) (fun hc => ?_) | refine WD.g_split rfl rfl (fun hc => ?_) (fun hc => ?_) | refine W.cond rfl (fun hc => ?_) (fun hc => ?_))
      rw [i64_succ (by omega)]
      have htk : m.ps.take k = m.ps := List.take_of_length_le (by omega)
      rw [htk] at hm2 hbs2 hbn2
      have hpk : (pcsM first (offS (l.take i)) (ctr (l.take i) m.st) m).take k = pcsM first (offS (l.take i)) (ctr (l.take i) m.st) m := List.take_of_length_le (by rw [pcsM_len]; omega)
      rw [hpk, ← allP_snoc first hm] at ho2
      have htl : l.take (i + 1) = l.take i ++ [m] := by rw [List.take_add_one, hm]; rfl
      refine Fin.round ⟨i + 1, n2, oa2, on2, oc2, ob2, wa3, wn3, wc3, wb3, ms ++ [⟨m.mg, ma, mn, mc, mb⟩]⟩ ⟨hi', ho2, ?_, ?_, ?_, ?_, ?_, ?_, ?_, hn2⟩ envA (fun _ h => ?_) (by dsimp only; omega)
      · dsimp only
        rw [List.flatMap_append, List.flatMap_singleton]
        exact hw3
      · intro x hx
        rcases List.mem_append.1 hx with hx | hx
        · exact hmok x hx
        · rw [List.mem_singleton.1 hx]
          exact hm2
      · dsimp only
        rw [List.map_append, hmg, htl, List.map_append]
        rfl
      · dsimp only
        intro x hx
        rw [htl] at hx
        rcases List.mem_append.1 hx with hx | hx
        · exact hps x hx
        · rw [List.mem_singleton.1 hx]
          exact hp0
      · dsimp only
        intro x hx
        rw [htl] at hx
        rcases List.mem_append.1 hx with hx | hx
        · exact hbs x hx
        · rw [List.mem_singleton.1 hx]
          exact hbs2
      · dsimp only
        rw [offS_snoc hm]
        omega
      · dsimp only
        rw [htl, ← hbn2, ← hbn]
        unfold bytesS
        simp
      · dsimp only
        rw [List.flatMap_append, List.flatMap_singleton]
        exact In.of_sub (.pick (.right (.there (.there .here))) (.pickL (L := ob2) (.right (.there (.there (.right .here)))) (.pickL (L := wb3) .here (.pickL (.there (.there (.right .all))) (.last (.there (.there .here))))))) h
  · refine Fin.retW (by exact rfl) resA (H' := ob ++ (wb ++ ms.flatMap (·.hb))) (fun _ h => h.sublist (.cons _ (.refl _))) ?_
    have hin : i = kn := by have := of_decide_eq_false hc; omega
    rw [List.take_of_length_le (by omega)] at ho hmg hps hbs hof hbn
    exact .inr ⟨oa, on, oc, ob, wa, wn, wc, wb, ms, ⟨hps, hbs, hof, by show bytesS l ≤ _; omega⟩, rfl, ho, hw, hmok, hmg, rfl⟩
end Go.Proofs.Ytokbkocjddcklaa
