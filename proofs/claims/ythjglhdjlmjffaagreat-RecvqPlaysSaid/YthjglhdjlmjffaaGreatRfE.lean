/- The document's reassembler's methods 'New', 'Ready', 'Held' and 'Take', walked. Conditions: none but that it is well formed. -/
import Derived.Test.YthjglhdjlmjffaaGreatRfD
namespace Go.Proofs.YthjglhdjlmjffaaGreat
open Go Go.Sl Go.Rm

theorem rrdy_tr (F : Nat → Option Obj) (s : RF) (hs : Sees F [] s) : Tr Tryz.prog 47 [.pointer (some ⟨s.R, 0, none⟩)].toArray F [] (fun v H => v = .int .i64 s.row.length ∧ H = []) := by
  refine Tr.enter Tryz.func47 rfl Tryz.ntmps47 rfl (fun w0 => ?_)
  have hr := hs.r
  repeat' (first | refine S1 ?_ | refine SD ?_ | refine SA (fun _ => ?_) | refine WL.g_split rfl rfl (fun hc => ?_) (fun hc => ?_) | refine WD.g_split rfl rfl (fun hc => ?_) (fun hc => ?_) | refine W.cond rfl (fun hc => ?_) (fun hc => ?_))
  exact Fin.retW (by exact rfl) resA (fun _ h => h) ⟨by rw [hs.rn]; simp [tup, RF.row], rfl⟩
theorem rnew_ok (F : Nat → Option Obj) (m : Nat) (h : 1 ≤ m ∧ m ≤ 16) : Tr Tryz.prog 30 [.int .i64 m].toArray F []
    (fun v H => ∃ s : RF, s.ok ∧ H = s.H ∧ v = tup [.pointer (some ⟨s.R, 0, none⟩), .int .i64 0] ∧ s.S = ⟨[], [], List.replicate m 0⟩) := by
  refine Tr.enter Tryz.func30 rfl Tryz.ntmps30 rfl (fun w0 => ?_)
  repeat' (first | refine S1 ?_ | refine SD ?_ | refine SA (fun _ => ?_) | refine WL.g_split rfl rfl (fun hc => ?_) (fun hc => ?_) | refine WD.g_split rfl rfl (fun hc => ?_) (fun hc => ?_) | refine W.cond rfl (fun hc => ?_) (fun hc => ?_))
  · exfalso
    simp at *
    omega
  · exfalso
    simp at *
    omega
  refine WL.e rfl (Ef.mkS (n := m) (z := [.int .u16 0]) (by exact rfl) (by exact rfl) rfl rfl (by omega) (by omega)) ?_
  rintro _ _ ⟨bn, rfl, rfl⟩
  rw [mk16]
  repeat' (first | refine S1 ?_ | refine SD ?_ | refine SA (fun _ => ?_) | refine WL.g_split rfl rfl (fun hc => ?_) (fun hc => ?_) | refine WD.g_split rfl rfl (fun hc => ?_) (fun hc => ?_) | refine W.cond rfl (fun hc => ?_) (fun hc => ?_))
  rename_i br
  refine Fin.retW (by exact rfl) resA (H' := (⟨br, bn, [], List.replicate m 0, none, 0, 0, [], [], none, 0, 0, []⟩ : RF).H) (fun _ h => ?_) ⟨_, ?_, rfl, rfl, rfl⟩
  · rw [RF.HX]
    simp only [List.length_replicate]
    exact h
  · exact ⟨by simp, by simp, .inl ⟨rfl, rfl, rfl⟩, .inl ⟨rfl, rfl, rfl⟩, by simp [RF.L], by simp, by simp, by simp [totD, totM, RF.L, RF.row]⟩
theorem rnew_bad (F : Nat → Option Obj) (m : Int) (h : m < 1 ∨ 16 < m) : Tr Tryz.prog 30 [.int .i64 m].toArray F [] (fun v H => v = tup [.pointer none, .int .i64 1] ∧ H = []) := by
  refine Tr.enter Tryz.func30 rfl Tryz.ntmps30 rfl (fun w0 => ?_)
  repeat' (first | refine S1 ?_ | refine SD ?_ | refine SA (fun _ => ?_) | refine WL.g_split rfl rfl (fun hc => ?_) (fun hc => ?_) | refine WD.g_split rfl rfl (fun hc => ?_) (fun hc => ?_) | refine W.cond rfl (fun hc => ?_) (fun hc => ?_))
  · exact Fin.retW (by exact rfl) resA (fun _ h => h.sublist (List.nil_sublist _)) ⟨rfl, rfl⟩
  · exact Fin.retW (by exact rfl) resA (fun _ h => h.sublist (List.nil_sublist _)) ⟨rfl, rfl⟩
  · exfalso
    simp at *
    omega
theorem totD_take {L : List D} {i : Nat} {d : D} (h : L[i]? = some d) : totD (L.take (i + 1)) = totD (L.take i) + d.bytes.length := by
  rw [take_snoc h]; simp [totD]
theorem totM_take {L : List Mg} {i : Nat} {d : Mg} (h : L[i]? = some d) : totM (L.take (i + 1)) = totM (L.take i) + d.bytes.length := by
  rw [take_snoc h]; simp [totM]
theorem totD_take_le (L : List D) (i : Nat) : totD (L.take i) ≤ totD L := by
  have : totD L = totD (L.take i) + totD (L.drop i) := by
    unfold totD; rw [← List.sum_append, ← List.map_append, List.take_append_drop]
  omega
theorem totM_take_le (L : List Mg) (i : Nat) : totM (L.take i) ≤ totM L := by
  have : totM L = totM (L.take i) + totM (L.drop i) := by
    unfold totM; rw [← List.sum_append, ← List.map_append, List.take_append_drop]
  omega
set_option maxHeartbeats 4000000 in
theorem rheld_tr (F : Nat → Option Obj) (s : RF) (hs : Sees F [] s) (hok : s.ok) : Tr Tryz.prog 45 [.pointer (some ⟨s.R, 0, none⟩)].toArray F [] (fun v H => v = .int .i64 (totD s.L + totM s.row : Nat) ∧ H = []) := by
  refine Tr.enter Tryz.func45 rfl Tryz.ntmps45 rfl (fun w0 => ?_)
  have hln := hs.ln
  have hrn := hs.rn
  have hl := hs.l
  have hr := hs.r
  have hfew := hok.few
  have hfine := hok.fine
  repeat' (first | refine S1 ?_ | refine SD ?_ | refine SA (fun _ => ?_) | refine WL.g_split rfl rfl (fun hc => ?_) (fun hc => ?_) | refine WD.g_split rfl rfl (fun hc => ?_) (fun hc => ?_) | refine W.cond rfl (fun hc => ?_) (fun hc => ?_))
  refine W.loop (G := Nat) (fun g => [(0, .pointer (some ⟨s.R, 0, none⟩)), (3, .int .i64 (totD (s.L.take g) : Nat)), (4, .int .i64 g)]) (fun _ => []) (fun g => g ≤ s.ps.length) (fun g => s.ps.length - g) 0
    (Nat.zero_le _) envA (fun _ h => h) ?_
  rintro i hi
  try dsimp only at hi ⊢
  have hle := totD_take_le s.L i
  repeat' (first | refine S1 ?_ | refine SD ?_ | refine SA (fun _ => ?_) | refine WL.g_split rfl rfl (fun hc => ?_) (fun hc => ?_) | refine WD.g_split rfl rfl (fun hc => ?_) (fun hc => ?_) | refine W.cond rfl (fun hc => ?_) (fun hc => ?_))
  · have hi' : i < s.ps.length := by simp at hc; omega
    obtain ⟨p, hp⟩ : ∃ p, s.ps[i]? = some p := ⟨s.ps[i]'hi', by simp⟩
    have hd : s.L[i]? = some p.d := by unfold RF.L; rw [List.getElem?_map, hp]; rfl
    obtain ⟨b, off, hla, hA⟩ := hs.piece hp
    rw [hla] at hl ⊢
    have hia : 0 ≤ (i : Int) ∧ (i : Int) < s.ln := by omega
    have hB1 : Sl.Can F [] b (off + (i : Int).toNat * 7 + 6) [.slice p.sa p.sn p.sc] := hA.one (i := 6) rfl
    repeat' (first | refine S1 ?_ | refine SD ?_ | refine SA (fun _ => ?_) | refine WL.g_split rfl rfl (fun hc => ?_) (fun hc => ?_) | refine WD.g_split rfl rfl (fun hc => ?_) (fun hc => ?_) | refine W.cond rfl (fun hc => ?_) (fun hc => ?_))
    have hpl := Pd.len (hok.pok p (List.mem_of_getElem? hp))
    have htt := totD_take hd
    have hle2 := totD_take_le s.L (i + 1)
    rw [i64_succ (by omega), show IntKind.i64.wrap (((totD (s.L.take i) : Nat) : Int) + (p.sn : Nat)) = ((totD (s.L.take (i + 1)) : Nat) : Int) by rw [i64_id (by omega) (by omega)]; omega]
    exact Fin.round (i + 1) hi' envA (fun _ h => h) (by omega)
  · have hin : i = s.ps.length := by simp at hc; omega
    have hall : s.L.take i = s.L := List.take_of_length_le (by simp [RF.L]; omega)
    rw [hall]
    refine W.loop (G := Nat) (fun g => [(0, .pointer (some ⟨s.R, 0, none⟩)), (3, .int .i64 (totD s.L + totM (s.row.take g) : Nat)), (5, .int .i64 g)]) (fun _ => []) (fun g => g ≤ s.ms.length) (fun g => s.ms.length - g) 0
      (Nat.zero_le _) envA (fun _ h => h) ?_
    rintro j hj
    try dsimp only at hj ⊢
    have hle := totM_take_le s.row j
    repeat' (first | refine S1 ?_ | refine SD ?_ | refine SA (fun _ => ?_) | refine WL.g_split rfl rfl (fun hc => ?_) (fun hc => ?_) | refine WD.g_split rfl rfl (fun hc => ?_) (fun hc => ?_) | refine W.cond rfl (fun hc => ?_) (fun hc => ?_))
    · have hj' : j < s.ms.length := by have := of_decide_eq_true (by assumption : decide ((j : Int) < s.rn) = true); omega
      obtain ⟨m, hm⟩ : ∃ p, s.ms[j]? = some p := ⟨s.ms[j]'hj', by simp⟩
      have hd : s.row[j]? = some m.g := by unfold RF.row; rw [List.getElem?_map, hm]; rfl
      obtain ⟨b, off, hra, hA⟩ := hs.row.el (fun _ => rfl) hm (by omega)
      rw [hra] at hr ⊢
      have hia : 0 ≤ (j : Int) ∧ (j : Int) < s.rn := by omega
      have hB1 : Sl.Can F [] b (off + (j : Int).toNat * 3 + 2) [.slice m.sa m.sn m.sc] := hA.one (i := 2) rfl
      repeat' (first | refine S1 ?_ | refine SD ?_ | refine SA (fun _ => ?_) | refine WL.g_split rfl rfl (fun hc => ?_) (fun hc => ?_) | refine WD.g_split rfl rfl (fun hc => ?_) (fun hc => ?_) | refine W.cond rfl (fun hc => ?_) (fun hc => ?_))
      have hpl := Ms.len (hok.mok m (List.mem_of_getElem? hm))
      have htt := totM_take hd
      have hle2 := totM_take_le s.row (j + 1)
      rw [i64_succ (by omega), show IntKind.i64.wrap (((totD s.L + totM (s.row.take j) : Nat) : Int) + (m.sn : Nat)) = ((totD s.L + totM (s.row.take (j + 1)) : Nat) : Int) by rw [i64_id (by omega) (by omega)]; omega]
      exact Fin.round (j + 1) hj' envA (fun _ h => h) (by omega)
    · have hjn : j = s.ms.length := by have := of_decide_eq_false (by assumption : decide ((j : Int) < s.rn) = false); omega
      refine Fin.retW (by exact rfl) resA (fun _ h => h) ⟨?_, rfl⟩
      rw [List.take_of_length_le (by simp [RF.row]; omega)]
      rfl
/-- what 'Take' answers and leaves -/
def RTakeQ (s : RF) (v : Value) (H : HL) : Prop :=
  (s.row = [] ∧ v = tup [.agg [.int .u16 0, .bool false, .slice none 0 0].toArray, .bool false] ∧ H = s.H) ∨
  ∃ (m : Ms) (s' : RF), m.ok ∧ s'.ok ∧ v = tup [.agg m.cells.toArray, .bool true] ∧ H = s'.H ++ m.hb ∧ s'.R = s.R ∧ s.row = m.g :: s'.row ∧ s'.L = s.L ∧ s'.nx = s.nx
set_option maxHeartbeats 4000000 in
theorem rtake_tr (F : Nat → Option Obj) (s : RF) (hs : s.ok) : Tr Tryz.prog 71 [.pointer (some ⟨s.R, 0, none⟩)].toArray F s.H (RTakeQ s) := by
  have hsee : Sees F s.H s := RF.sees hs
  have hrn := hsee.rn
  refine Tr.enter Tryz.func71 rfl Tryz.ntmps71 rfl (fun w0 => ?_)
  rw [RF.HX]
  cases hms : s.ms with
  | nil =>
    rw [hms] at hrn
    rw [show s.rn = 0 from hrn]
    repeat' (first | refine S1 ?_ | refine SD ?_ | refine SA (fun _ => ?_) | refine WL.g_split rfl rfl (fun hc => ?_) (fun hc => ?_) | refine WD.g_split rfl rfl (fun hc => ?_) (fun hc => ?_) | refine W.cond rfl (fun hc => ?_) (fun hc => ?_))
    refine Fin.retW (by exact rfl) resA (H' := s.H) (fun _ h => ?_) (.inl ⟨by simp [RF.row, hms], rfl, rfl⟩)
    rw [RF.HX, hms, show s.rn = 0 from hrn]
    exact h.sublist (.cons _ (.refl _))
  | cons m ms' =>
    rw [hms, List.length_cons] at hrn
    have hrow := hs.row
    rw [hms, List.flatMap_cons] at hrow
    have htail := OwnS.tail (by rfl) (by omega) hrow
    obtain ⟨b, off, hra, hA⟩ := hsee.row.el (i := 0) (fun _ => rfl) (by rw [hms]; rfl) (by omega)
    have hfew := hs.few
    rw [hms, List.length_cons] at hfew
    rw [hra] at htail ⊢
    have hia : 0 ≤ (0 : Int) ∧ (0 : Int) < s.rn := by omega
    repeat' (first | refine S1 ?_ | refine SD ?_ | refine SA (fun _ => ?_) | refine WL.g_split rfl rfl (fun hc => ?_) (fun hc => ?_) | refine WD.g_split rfl rfl (fun hc => ?_) (fun hc => ?_) | refine W.cond rfl (fun hc => ?_) (fun hc => ?_))
    · exfalso; simp at hc; omega
    refine WL.s rfl (Rd.ldaC (r := m.cells) rfl rfl (hA.mono (fun w h => by rw [RF.HX, hra, hms]; exact h.sublist (.cons _ (.refl _))))) ?_
    repeat' (first | refine S1 ?_ | refine SD ?_ | refine SA (fun _ => ?_) | refine WL.g_split rfl rfl (fun hc => ?_) (fun hc => ?_) | refine WD.g_split rfl rfl (fun hc => ?_) (fun hc => ?_) | refine W.cond rfl (fun hc => ?_) (fun hc => ?_))
    refine WL.p rfl (Pu.slLo rfl rfl (by omega)) ?_
    rename_i b2 b4 b23
    have hfl : (ms'.flatMap Ms.cells).length = ms'.length * 3 := flat_len' Ms.cells 3 (fun _ => rfl) _
    refine WL.e rfl (Ef.app (m := s.rn - (1 : Int).toNat) (news := ms'.flatMap Ms.cells) (by exact rfl) (by exact rfl) rfl rfl (OwnS.empty 39 3 b23) (.pick .here (.nil _)) (OwnS.src htail (fun _ h => h.sublist (.cons _ (.cons _ (.cons _ (.cons _ (.cons _ (List.sublist_append_left _ _)))))))) (by rw [hfl, hrn]; simp)
      (fun u hu => by obtain ⟨k, _, h⟩ := List.mem_flatMap.1 hu; simp only [Ms.cells, Ms.bv, List.mem_cons, List.not_mem_nil, or_false] at h; rcases h with rfl | rfl | rfl <;> rfl) (by rw [hfl]; simp; omega) (by rw [hfl]; simp [maxLen]; omega)) ?_
    rintro v' _ ⟨rhb', hr', rfl⟩
    obtain ⟨ra', rn', rc', rfl, _, _⟩ := OwnS.shape hr'
    rw [List.nil_append] at hr'
    repeat' (first | refine S1 ?_ | refine SD ?_ | refine SA (fun _ => ?_) | refine WL.g_split rfl rfl (fun hc => ?_) (fun hc => ?_) | refine WD.g_split rfl rfl (fun hc => ?_) (fun hc => ?_) | refine W.cond rfl (fun hc => ?_) (fun hc => ?_))
    have hfine := hs.fine
    have hmok := hs.mok
    rw [hms] at hmok
    refine Fin.retW (by exact rfl) resA (H' := ({ s with ms := ms', ra := ra', rn := rn', rc := rc', rhb := rhb' } : RF).H ++ m.hb) (fun _ h => ?_) (.inr ⟨m, ({ s with ms := ms', ra := ra', rn := rn', rc := rc', rhb := rhb' } : RF), hmok m (by simp), ⟨hs.pok, fun q hq => hmok q (by simp [hq]), hs.lst, hr', hs.keys, hs.wf, ?_, ?_⟩, rfl, rfl, rfl, by simp [RF.row, hms], rfl, rfl⟩)
    · rw [RF.HX]
      simp only [List.flatMap_cons, List.append_assoc, List.cons_append] at h ⊢
      exact In.of_sub (.pick (.right (.there (.there .here))) (.pick (.right (.there (.there .here))) (.pickL (L := rhb') .here (.pickL (L := s.lhb) (.there (.there (.right .here))) (.pickL (L := ms'.flatMap (·.hb)) (.there (.there (.right (.right .here)))) (.pickL (L := s.ps.flatMap (·.hb)) (.there (.there (.right (.right .all)))) (.last (L := m.hb) (.there (.there (.right .here)))))))))) h
    · dsimp only; omega
    · dsimp only [RF.L, RF.row] at hfine ⊢
      rw [hms] at hfine
      simp only [totM, List.map_cons, List.sum_cons] at hfine ⊢
      omega
end Go.Proofs.YthjglhdjlmjffaaGreat
