/- The law FlightMarks, walked. Conditions: what the arguments' cells are. -/
import Derived.Test.YtglobldnockdoaaFlL
import Derived.Test.YtglobldnockdoaaFmS
namespace Go.Proofs.Ytglobldnockdoaa
open Go Go.Sl Go.Flt

theorem opx_flat (l : List Opx) : (l.map (·.m)).flatMap OpM.cells = l.flatMap Opx.cells := by
  rw [List.flatMap_map]
  rfl
def bnS (l : List Opx) (i : Nat) : Nat := (((l.take i).map (·.m)).map (·.bn)).sum
theorem bnS_succ {l : List Opx} {i : Nat} {p : Opx} (h : l[i]? = some p) : bnS l (i + 1) = bnS l i + p.m.bn := by
  unfold bnS
  rw [List.take_add_one, h]
  simp
theorem bnS_le (l : List Opx) (i : Nat) : bnS l i ≤ ((l.map (·.m)).map (·.bn)).sum := by
  unfold bnS
  rw [List.map_take, List.map_take]
  generalize (l.map (·.m)).map (·.bn) = L
  have : (L.take i).sum + (L.drop i).sum = L.sum := by rw [← List.sum_append, List.take_append_drop]
  omega
theorem bnS_one {l : List Opx} {i : Nat} {p : Opx} (h : l[i]? = some p) : p.m.bn ≤ ((l.map (·.m)).map (·.bn)).sum := by
  have h1 := bnS_succ h
  have h2 := bnS_le l (i + 1)
  omega
theorem OpM.Is.bn {F : Nat → Option Obj} {p : Opx} (h : p.Is F) : p.bs.length = p.m.bn := by have := h.bytes.len; simpa using this
theorem doS_le (s : Flt.S) (o : FOp) (cum : Int) : sumB (fun _ => true) (doS s o cum).L ≤ sumB (fun _ => true) s.L + o.d.bs.length := by
  have := doS_sum s o cum
  split at this <;> omega
theorem doS_paths (s : Flt.S) (o : FOp) (cum : Int) : (doS s o cum).paths = s.paths := by
  unfold doS
  split
  · unfold Flt.add; split <;> rfl
  · split
    · unfold Flt.again
      split
      · rfl
      · split
        · rfl
        · split
          · rfl
          · split <;> rfl
    · split
      · rfl
      · split
        · rfl
        · split
          · rfl
          · split
            · split
              · rename_i h
                obtain ⟨M, _, rfl, _⟩ := sack_L h
                rfl
              · rfl
            · rfl
structure MkG where
  i : Nat
  f : FM
def wasC (s : Flt.S) (i : Nat) : List Value := [.int .i64 (if 0 < i then (Flt.out s 0 : Int) else 0), .int .i64 (if 1 < i then (Flt.out s 1 : Int) else 0), .int .i64 (if 2 < i then (Flt.out s 2 : Int) else 0), .int .i64 (if 3 < i then (Flt.out s 3 : Int) else 0)]
set_option maxHeartbeats 16000000 in
theorem markLaw_tr (F : Nat → Option Obj) (paths first : Int) (l : List Opx) (ka : Option Addr) (kn kc : Nat) (hl : Lst F [] 13 (l.flatMap Opx.cells) ka kn kc) (hop : ∀ p ∈ l, p.Is F) (path by_ : Int) :
    Tr Try.prog 6 [.int .i64 paths, .int .u32 first, .slice ka kn kc, .int .i64 path, .int .i64 by_].toArray F [] (fun v H => v = .bool true ∧ H = []) := by
  refine Tr.enter Try.func6 rfl Try.ntmps6 rfl (fun w0 => ?_)
  have hkn : l.length = kn := lst_len (cells := Opx.cells) (fun _ => rfl) (by decide) hl
  have hlm : Lst F [] 13 ((l.map (·.m)).flatMap OpM.cells) ka kn kc := by rw [opx_flat]; exact hl
  repeat' (first | refine S1 ?_ | refine SD ?_ | refine SA (fun _ => ?_) | refine WL.g_split rfl rfl (fun hc => ?_) (fun hc => ?_) | refine WD.g_split rfl rfl (fun hc => ?_) (fun hc => ?_) | refine W.cond rfl (fun hc => ?_) (fun hc => ?_))
  refine WL.e rfl (Ef.lookR (by exact rfl) (fun F' hF => vast_tr F' [] (l.map (·.m)) ka kn kc (hlm.mono hF))) ?_
  rintro _ _ ⟨rfl, rfl⟩
  cases hv : vast (l.map (·.m)) with
  | true =>
    repeat' (first | refine S1 ?_ | refine SD ?_ | refine SA (fun _ => ?_) | refine WL.g_split rfl rfl (fun hc => ?_) (fun hc => ?_) | refine WD.g_split rfl rfl (fun hc => ?_) (fun hc => ?_) | refine W.cond rfl (fun hc => ?_) (fun hc => ?_))
    refine WL.e rfl (Ef.call (c := []) (by exact rfl) (.nil _) (works_tr _)) ?_
    rintro _ _ ⟨_, ⟨rfl, rfl⟩, rfl⟩
    rw [List.nil_append]
    repeat' (first | refine S1 ?_ | refine SD ?_ | refine SA (fun _ => ?_) | refine WL.g_split rfl rfl (fun hc => ?_) (fun hc => ?_) | refine WD.g_split rfl rfl (fun hc => ?_) (fun hc => ?_) | refine W.cond rfl (fun hc => ?_) (fun hc => ?_))
    exact Fin.retW (by exact rfl) resA (H' := []) (fun _ h => h.sublist (List.nil_sublist _)) ⟨rfl, rfl⟩
  | false =>
  obtain ⟨hl100, hb64, hg50⟩ := vast_no hv
  rw [List.length_map, hkn] at hl100
  repeat' (first | refine S1 ?_ | refine SD ?_ | refine SA (fun _ => ?_) | refine WL.g_split rfl rfl (fun hc => ?_) (fun hc => ?_) | refine WD.g_split rfl rfl (fun hc => ?_) (fun hc => ?_) | refine W.cond rfl (fun hc => ?_) (fun hc => ?_))
  refine WL.e rfl (Ef.call (by exact rfl) (.nil _) (new_tr _ paths first)) ?_
  rintro _ _ ⟨_, hq, rfl⟩
  rcases hq with ⟨_, rfl, rfl⟩ | ⟨hpp, b, rfl, rfl⟩
  · repeat' (first | refine S1 ?_ | refine SD ?_ | refine SA (fun _ => ?_) | refine WL.g_split rfl rfl (fun hc => ?_) (fun hc => ?_) | refine WD.g_split rfl rfl (fun hc => ?_) (fun hc => ?_) | refine W.cond rfl (fun hc => ?_) (fun hc => ?_))
    refine WL.e rfl (Ef.call (c := []) (by exact rfl) (.nil _) (works_tr _)) ?_
    rintro _ _ ⟨_, ⟨rfl, rfl⟩, rfl⟩
    rw [List.nil_append]
    repeat' (first | refine S1 ?_ | refine SD ?_ | refine SA (fun _ => ?_) | refine WL.g_split rfl rfl (fun hc => ?_) (fun hc => ?_) | refine WD.g_split rfl rfl (fun hc => ?_) (fun hc => ?_) | refine W.cond rfl (fun hc => ?_) (fun hc => ?_))
    exact Fin.retW (by exact rfl) resA (H' := []) (fun _ h => h.sublist (List.nil_sublist _)) ⟨rfl, rfl⟩
  obtain ⟨f0, hf0⟩ : ∃ f0, FM.empty b paths first = f0 := ⟨_, rfl⟩
  have ok0 : f0.ok := by rw [← hf0]; exact FM.empty_ok _ _ _
  have S0 : f0.S = ⟨[], Spn.u32 (first - 1), paths⟩ := by rw [← hf0]; rfl
  have R0 : b = f0.R := by rw [← hf0]; rfl
  have G0 : Flt.Good f0.S := by rw [S0]; exact new_good (u32_mod _) hpp
  rw [List.append_nil, hf0, R0]
  clear hf0 R0
  repeat' (first | refine S1 ?_ | refine SD ?_ | refine SA (fun _ => ?_) | refine WL.g_split rfl rfl (fun hc => ?_) (fun hc => ?_) | refine WD.g_split rfl rfl (fun hc => ?_) (fun hc => ?_) | refine W.cond rfl (fun hc => ?_) (fun hc => ?_))
  refine W.loop (G := MkG) (fun g => [(0, .int .i64 paths), (1, .int .u32 first), (2, .slice ka kn kc), (3, .int .i64 path), (4, .int .i64 by_), (11, .pointer (some ⟨f0.R, 0, none⟩)), (13, .int .i64 g.i)])
    (fun g => g.f.H) (fun g => g.i ≤ kn ∧ g.f.ok ∧ g.f.R = f0.R ∧ Flt.Good g.f.S ∧ g.f.S.paths = paths ∧ sumB (fun _ => true) g.f.S.L ≤ bnS l g.i) (fun g => kn - g.i) ⟨0, f0⟩ ⟨Nat.zero_le _, ok0, rfl, G0, by rw [S0], by rw [S0]; exact Nat.zero_le _⟩ envA (fun _ h => h) ?_
  rintro ⟨i, f⟩ ⟨hi, hf, hR, hG, hP, hB⟩
  dsimp only at hi hf hR hG hP hB ⊢
  rw [← hR]
  have hsm : f.small := by
    have := bnS_le l i
    show sumB _ f.S.L ≤ _
    omega
  repeat' (first | refine S1 ?_ | refine SA (fun _ => ?_) | refine WL.g_split rfl rfl (fun hc => ?_) (fun hc => ?_) | refine WD.g_split rfl rfl (fun hc => ?_) (fun hc => ?_) | refine W.cond rfl (fun hc => ?_) (fun hc => ?_))
  · have hi' : i < kn := by have := of_decide_eq_true hc; omega
    obtain ⟨p, hp⟩ : ∃ p, l[i]? = some p := ⟨l[i]'(by omega), by simp⟩
    have hpI := hop p (List.mem_of_getElem? hp)
    obtain ⟨ob, oo, rfl, hcan⟩ := hl.el (cells := Opx.cells) (fun _ => rfl) hp (by omega)
    have hia : 0 ≤ (i : Int) ∧ (i : Int) < kn := by omega
    have hbn := OpM.Is.bn hpI
    have hb1 := bnS_one hp
    have hg1 : p.gs.length ≤ 50 := by
      have h1 : p.gs.length = p.m.gn := lst_len gC_len (by decide) hpI.gaps
      have h2 := hg50 p.m (List.mem_map.2 ⟨p, List.mem_of_getElem? hp, rfl⟩)
      omega
    refine W.drawA ?_
    repeat' (first | refine S1 ?_ | refine SA (fun _ => ?_) | refine WL.g_split rfl rfl (fun hc => ?_) (fun hc => ?_) | refine WD.g_split rfl rfl (fun hc => ?_) (fun hc => ?_) | refine W.cond rfl (fun hc => ?_) (fun hc => ?_))
    refine WD.e rfl (Ef.callR (c := f.H) (by exact rfl) (.all _) (cum_tr _ f)) ?_
    rintro _ _ ⟨rfl, rfl⟩
    refine ⟨.inr (fun _ h => h), ?_⟩
    refine WD.e rfl (Ef.callF (c := f.H) (by exact rfl) (.all _) (fun hd => does_tr _ p.m p.bs p.gs ⟨hpI.bytes.mono (fun _ h => addF_in hd h), hpI.gaps.mono (fun _ h => addF_in hd h), hpI.g16⟩ (by omega) (by omega) f hf hsm hG f.c)) ?_
    rintro _ _ ⟨_, ⟨ua, un, uc, ub, f', rfl, _, hf', rfl, hR', hS'⟩, rfl⟩
    refine ⟨.inl (by kernel_rfl), ?_⟩
    repeat' (first | refine S1 ?_ | refine SA (fun _ => ?_) | refine WL.g_split rfl rfl (fun hc => ?_) (fun hc => ?_) | refine WD.g_split rfl rfl (fun hc => ?_) (fun hc => ?_) | refine W.cond rfl (fun hc => ?_) (fun hc => ?_))
    rw [i64_succ (by omega)]
    refine Fin.round ⟨i + 1, f'⟩ ⟨hi', hf', hR', ?_, ?_, ?_⟩ envA (fun _ h => h.left.right) (by dsimp only; omega)
    · dsimp only; rw [hS']; exact hG.doS _ _
    · dsimp only; rw [hS', doS_paths]; exact hP
    · dsimp only
      rw [hS', bnS_succ hp, ← hbn]
      have := doS_le f.S (p.m.op p.bs p.gs) f.c
      exact Nat.le_trans this (Nat.add_le_add_right hB _)
  · clear hi hB ok0 S0 G0
    rename_i b14
    refine W.loop (G := Nat) (fun g => [(0, .int .i64 paths), (3, .int .i64 path), (4, .int .i64 by_), (11, .pointer (some ⟨f.R, 0, none⟩)), (14, .pointer (some ⟨b14, 0, none⟩)), (15, .int .i64 g)])
      (fun g => (b14, .cells (wasC f.S g).toArray 72 (0, 0)) :: f.H) (fun g => g ≤ 4) (fun g => 4 - g) 0 (Nat.zero_le _) envA (fun _ h => h) ?_
    intro g hg
    have hq4 : g = 0 ∨ g = 1 ∨ g = 2 ∨ g = 3 ∨ g = 4 := by omega
    rcases hq4 with rfl | rfl | rfl | rfl | rfl
    ·
      repeat' (first | refine S1 ?_ | refine SD ?_ | refine SA (fun _ => ?_) | refine WL.g_split rfl rfl (fun hc => ?_) (fun hc => ?_) | refine WD.g_split rfl rfl (fun hc => ?_) (fun hc => ?_) | refine W.cond rfl (fun hc => ?_) (fun hc => ?_))
      refine WL.e rfl (Ef.callR (c := f.H) (by exact rfl) (.last (.there .all)) (out_tr _ f hf hsm _)) ?_
      rintro _ _ ⟨rfl, rfl⟩
      repeat' (first | refine S1 ?_ | refine SD ?_ | refine SA (fun _ => ?_) | refine WL.g_split rfl rfl (fun hc => ?_) (fun hc => ?_) | refine WD.g_split rfl rfl (fun hc => ?_) (fun hc => ?_) | refine W.cond rfl (fun hc => ?_) (fun hc => ?_))
      refine WL.p rfl (Pu.iaA rfl rfl (by decide)) ?_
      repeat' (first | refine S1 ?_ | refine SD ?_ | refine SA (fun _ => ?_) | refine WL.g_split rfl rfl (fun hc => ?_) (fun hc => ?_) | refine WD.g_split rfl rfl (fun hc => ?_) (fun hc => ?_) | refine W.cond rfl (fun hc => ?_) (fun hc => ?_))
      exact Fin.round 1 (by decide) envA (fun _ h => h) (by decide)
    ·
      repeat' (first | refine S1 ?_ | refine SD ?_ | refine SA (fun _ => ?_) | refine WL.g_split rfl rfl (fun hc => ?_) (fun hc => ?_) | refine WD.g_split rfl rfl (fun hc => ?_) (fun hc => ?_) | refine W.cond rfl (fun hc => ?_) (fun hc => ?_))
      refine WL.e rfl (Ef.callR (c := f.H) (by exact rfl) (.last (.there .all)) (out_tr _ f hf hsm _)) ?_
      rintro _ _ ⟨rfl, rfl⟩
      repeat' (first | refine S1 ?_ | refine SD ?_ | refine SA (fun _ => ?_) | refine WL.g_split rfl rfl (fun hc => ?_) (fun hc => ?_) | refine WD.g_split rfl rfl (fun hc => ?_) (fun hc => ?_) | refine W.cond rfl (fun hc => ?_) (fun hc => ?_))
      refine WL.p rfl (Pu.iaA rfl rfl (by decide)) ?_
      repeat' (first | refine S1 ?_ | refine SD ?_ | refine SA (fun _ => ?_) | refine WL.g_split rfl rfl (fun hc => ?_) (fun hc => ?_) | refine WD.g_split rfl rfl (fun hc => ?_) (fun hc => ?_) | refine W.cond rfl (fun hc => ?_) (fun hc => ?_))
      exact Fin.round 2 (by decide) envA (fun _ h => h) (by decide)
    ·
      repeat' (first | refine S1 ?_ | refine SD ?_ | refine SA (fun _ => ?_) | refine WL.g_split rfl rfl (fun hc => ?_) (fun hc => ?_) | refine WD.g_split rfl rfl (fun hc => ?_) (fun hc => ?_) | refine W.cond rfl (fun hc => ?_) (fun hc => ?_))
      refine WL.e rfl (Ef.callR (c := f.H) (by exact rfl) (.last (.there .all)) (out_tr _ f hf hsm _)) ?_
      rintro _ _ ⟨rfl, rfl⟩
      repeat' (first | refine S1 ?_ | refine SD ?_ | refine SA (fun _ => ?_) | refine WL.g_split rfl rfl (fun hc => ?_) (fun hc => ?_) | refine WD.g_split rfl rfl (fun hc => ?_) (fun hc => ?_) | refine W.cond rfl (fun hc => ?_) (fun hc => ?_))
      refine WL.p rfl (Pu.iaA rfl rfl (by decide)) ?_
      repeat' (first | refine S1 ?_ | refine SD ?_ | refine SA (fun _ => ?_) | refine WL.g_split rfl rfl (fun hc => ?_) (fun hc => ?_) | refine WD.g_split rfl rfl (fun hc => ?_) (fun hc => ?_) | refine W.cond rfl (fun hc => ?_) (fun hc => ?_))
      exact Fin.round 3 (by decide) envA (fun _ h => h) (by decide)
    ·
      repeat' (first | refine S1 ?_ | refine SD ?_ | refine SA (fun _ => ?_) | refine WL.g_split rfl rfl (fun hc => ?_) (fun hc => ?_) | refine WD.g_split rfl rfl (fun hc => ?_) (fun hc => ?_) | refine W.cond rfl (fun hc => ?_) (fun hc => ?_))
      refine WL.e rfl (Ef.callR (c := f.H) (by exact rfl) (.last (.there .all)) (out_tr _ f hf hsm _)) ?_
      rintro _ _ ⟨rfl, rfl⟩
      repeat' (first | refine S1 ?_ | refine SD ?_ | refine SA (fun _ => ?_) | refine WL.g_split rfl rfl (fun hc => ?_) (fun hc => ?_) | refine WD.g_split rfl rfl (fun hc => ?_) (fun hc => ?_) | refine W.cond rfl (fun hc => ?_) (fun hc => ?_))
      refine WL.p rfl (Pu.iaA rfl rfl (by decide)) ?_
      repeat' (first | refine S1 ?_ | refine SD ?_ | refine SA (fun _ => ?_) | refine WL.g_split rfl rfl (fun hc => ?_) (fun hc => ?_) | refine WD.g_split rfl rfl (fun hc => ?_) (fun hc => ?_) | refine W.cond rfl (fun hc => ?_) (fun hc => ?_))
      exact Fin.round 4 (by decide) envA (fun _ h => h) (by decide)
    repeat' (first | refine S1 ?_ | refine SD ?_ | refine SA (fun _ => ?_) | refine WL.g_split rfl rfl (fun hc => ?_) (fun hc => ?_) | refine WD.g_split rfl rfl (fun hc => ?_) (fun hc => ?_) | refine W.cond rfl (fun hc => ?_) (fun hc => ?_))
    refine WL.e rfl (Ef.call (c := f.H) (by exact rfl) (.last (.there .all)) (lost_tr _ f hf)) ?_
    rintro _ _ ⟨_, ⟨xa, xn, xc, xb, rfl, hxo, rfl⟩, rfl⟩
    have hxn : (Flt.lostL f.S).length = xn := by have := hxo.len; simpa using this
    rw [List.append_assoc]
    repeat' (first | refine S1 ?_ | refine SD ?_ | refine SA (fun _ => ?_) | refine WL.g_split rfl rfl (fun hc => ?_) (fun hc => ?_) | refine WD.g_split rfl rfl (fun hc => ?_) (fun hc => ?_) | refine W.cond rfl (fun hc => ?_) (fun hc => ?_))
    refine WL.e rfl (Ef.call (c := f.H) (by exact rfl) (.last (.right .here)) (mark_tr _ f hf path)) ?_
    rintro _ _ ⟨_, ⟨rfl, f2, hf2, rfl, hR2, hS2⟩, rfl⟩
    have hG2 : Flt.Good f2.S := by rw [hS2]; exact hG.like (sel_k _ setLost (fun _ => rfl) _)
    have hP2 : f2.S.paths = paths := by rw [hS2]; exact hP
    have hB2 : sumB (fun _ => true) f2.S.L = sumB (fun _ => true) f.S.L := by
      rw [hS2, show (Flt.mark f.S path).L = sel (byP path) setLost f.S.L from rfl, sumB_k (sel_k _ setLost (fun _ => rfl) _)]
    have hsm2 : f2.small := by
      have : sumB (fun _ => true) f.S.L ≤ 1000000000000 := hsm
      show sumB _ f2.S.L ≤ _
      omega
    have hlen := hf.len
    have hfew := hf.few
    have hml := mark_lost f.S path
    rw [← hS2, hxn] at hml
    have hml2 : markN f.S path ≤ 2048 := by
      have h1 := cntB_le (byP path) f.S.L
      have h2 : f.S.L.length = f.rs.length := by simp [FM.S]
      unfold markN
      omega
    have hxn2 : xn ≤ 2048 := by
      have h1 := lostL_le f.S
      have h2 : f.S.L.length = f.rs.length := by simp [FM.S]
      omega
    rw [← hR2]
    repeat' (first | refine S1 ?_ | refine SD ?_ | refine SA (fun _ => ?_) | refine WL.g_split rfl rfl (fun hc => ?_) (fun hc => ?_) | refine WD.g_split rfl rfl (fun hc => ?_) (fun hc => ?_) | refine W.cond rfl (fun hc => ?_) (fun hc => ?_))
    refine WL.e rfl (Ef.call (c := f2.H) (by exact rfl) (.last .here) (lost_tr _ f2 hf2)) ?_
    rintro _ _ ⟨_, ⟨la, ln, lc, lb, rfl, hlo, rfl⟩, rfl⟩
    have hln : (Flt.lostL f2.S).length = ln := by have := hlo.len; simpa using this
    rw [hln] at hml
    have hadd : IntKind.i64.wrap ((xn : Int) + (markN f.S path : Nat)) = ((ln : Nat) : Int) := by rw [i64_id (by omega) (by omega)]; omega
    rw [List.append_assoc]
    repeat' (first | refine S1 ?_ | refine SD ?_ | refine SA (fun _ => ?_) | refine WL.g_split rfl rfl (fun hc => ?_) (fun hc => ?_) | refine WD.g_split rfl rfl (fun hc => ?_) (fun hc => ?_) | refine W.cond rfl (fun hc => ?_) (fun hc => ?_))
    · exfalso
      rw [hadd] at hc
      simp at hc
    refine W.loop (G := Nat) (fun g => [(0, .int .i64 paths), (3, .int .i64 path), (4, .int .i64 by_), (11, .pointer (some ⟨f2.R, 0, none⟩)), (14, .pointer (some ⟨b14, 0, none⟩)), (18, .slice la ln lc), (19, .int .i64 g)])
      (fun g => lb ++ (f2.H ++ [(b14, .cells (wasC f.S 4).toArray 72 (0, 0))])) (fun g => g ≤ 4) (fun g => 4 - g) 0 (Nat.zero_le _) envA (fun _ h => h.sublist (.append (.refl _) (.append (.refl _) (by repeat (first | exact List.Sublist.refl _ | exact List.Sublist.cons_cons _ (List.nil_sublist _) | refine List.Sublist.cons _ ?_ | refine List.Sublist.trans ?_ (List.sublist_append_right _ _)))))) ?_
    intro g hg
    have hq4 : g = 0 ∨ g = 1 ∨ g = 2 ∨ g = 3 ∨ g = 4 := by omega
    rcases hq4 with rfl | rfl | rfl | rfl | rfl
    ·
      repeat' (first | refine S1 ?_ | refine SD ?_ | refine SA (fun _ => ?_) | refine WL.g_split rfl rfl (fun hc => ?_) (fun hc => ?_) | refine WD.g_split rfl rfl (fun hc => ?_) (fun hc => ?_) | refine W.cond rfl (fun hc => ?_) (fun hc => ?_))
      refine WL.p rfl (Pu.iaA rfl rfl (by decide)) ?_
      repeat' (first | refine S1 ?_ | refine SD ?_ | refine SA (fun _ => ?_) | refine WL.g_split rfl rfl (fun hc => ?_) (fun hc => ?_) | refine WD.g_split rfl rfl (fun hc => ?_) (fun hc => ?_) | refine W.cond rfl (fun hc => ?_) (fun hc => ?_))
      · have hpe := eq_of_beq hc
        refine WL.e rfl (Ef.callR (c := f2.H) (by exact rfl) (.last (.right .here)) (out_tr _ f2 hf2 hsm2 _)) ?_
        rintro _ _ ⟨rfl, rfl⟩
        rw [show Flt.out f2.S _ = _ by rw [hS2, mark_out, if_pos hpe]]
        repeat' (first | refine S1 ?_ | refine SD ?_ | refine SA (fun _ => ?_) | refine WL.g_split rfl rfl (fun hc => ?_) (fun hc => ?_) | refine WD.g_split rfl rfl (fun hc => ?_) (fun hc => ?_) | refine W.cond rfl (fun hc => ?_) (fun hc => ?_))
        first | exact Fin.round 1 (by decide) envA (fun _ h => h) (by decide) | exact Fin.round 2 (by decide) envA (fun _ h => h) (by decide) | exact Fin.round 3 (by decide) envA (fun _ h => h) (by decide) | exact Fin.round 4 (by decide) envA (fun _ h => h) (by decide)
      · have hpe := ne_of_beq_false hc
        refine WL.e rfl (Ef.callR (c := f2.H) (by exact rfl) (.last (.right .here)) (out_tr _ f2 hf2 hsm2 _)) ?_
        rintro _ _ ⟨rfl, rfl⟩
        rw [show Flt.out f2.S _ = _ by rw [hS2, mark_out, if_neg hpe]]
        repeat' (first | refine S1 ?_ | refine SD ?_ | refine SA (fun _ => ?_) | refine WL.g_split rfl rfl (fun hc => ?_) (fun hc => ?_) | refine WD.g_split rfl rfl (fun hc => ?_) (fun hc => ?_) | refine W.cond rfl (fun hc => ?_) (fun hc => ?_))
        · exfalso
          simp at hc
        · first | exact Fin.round 1 (by decide) envA (fun _ h => h) (by decide) | exact Fin.round 2 (by decide) envA (fun _ h => h) (by decide) | exact Fin.round 3 (by decide) envA (fun _ h => h) (by decide) | exact Fin.round 4 (by decide) envA (fun _ h => h) (by decide)
    ·
      repeat' (first | refine S1 ?_ | refine SD ?_ | refine SA (fun _ => ?_) | refine WL.g_split rfl rfl (fun hc => ?_) (fun hc => ?_) | refine WD.g_split rfl rfl (fun hc => ?_) (fun hc => ?_) | refine W.cond rfl (fun hc => ?_) (fun hc => ?_))
      refine WL.p rfl (Pu.iaA rfl rfl (by decide)) ?_
      repeat' (first | refine S1 ?_ | refine SD ?_ | refine SA (fun _ => ?_) | refine WL.g_split rfl rfl (fun hc => ?_) (fun hc => ?_) | refine WD.g_split rfl rfl (fun hc => ?_) (fun hc => ?_) | refine W.cond rfl (fun hc => ?_) (fun hc => ?_))
      · have hpe := eq_of_beq hc
        refine WL.e rfl (Ef.callR (c := f2.H) (by exact rfl) (.last (.right .here)) (out_tr _ f2 hf2 hsm2 _)) ?_
        rintro _ _ ⟨rfl, rfl⟩
        rw [show Flt.out f2.S _ = _ by rw [hS2, mark_out, if_pos hpe]]
        repeat' (first | refine S1 ?_ | refine SD ?_ | refine SA (fun _ => ?_) | refine WL.g_split rfl rfl (fun hc => ?_) (fun hc => ?_) | refine WD.g_split rfl rfl (fun hc => ?_) (fun hc => ?_) | refine W.cond rfl (fun hc => ?_) (fun hc => ?_))
        first | exact Fin.round 1 (by decide) envA (fun _ h => h) (by decide) | exact Fin.round 2 (by decide) envA (fun _ h => h) (by decide) | exact Fin.round 3 (by decide) envA (fun _ h => h) (by decide) | exact Fin.round 4 (by decide) envA (fun _ h => h) (by decide)
      · have hpe := ne_of_beq_false hc
        refine WL.e rfl (Ef.callR (c := f2.H) (by exact rfl) (.last (.right .here)) (out_tr _ f2 hf2 hsm2 _)) ?_
        rintro _ _ ⟨rfl, rfl⟩
        rw [show Flt.out f2.S _ = _ by rw [hS2, mark_out, if_neg hpe]]
        repeat' (first | refine S1 ?_ | refine SD ?_ | refine SA (fun _ => ?_) | refine WL.g_split rfl rfl (fun hc => ?_) (fun hc => ?_) | refine WD.g_split rfl rfl (fun hc => ?_) (fun hc => ?_) | refine W.cond rfl (fun hc => ?_) (fun hc => ?_))
        · exfalso
          simp at hc
        · first | exact Fin.round 1 (by decide) envA (fun _ h => h) (by decide) | exact Fin.round 2 (by decide) envA (fun _ h => h) (by decide) | exact Fin.round 3 (by decide) envA (fun _ h => h) (by decide) | exact Fin.round 4 (by decide) envA (fun _ h => h) (by decide)
    ·
      repeat' (first | refine S1 ?_ | refine SD ?_ | refine SA (fun _ => ?_) | refine WL.g_split rfl rfl (fun hc => ?_) (fun hc => ?_) | refine WD.g_split rfl rfl (fun hc => ?_) (fun hc => ?_) | refine W.cond rfl (fun hc => ?_) (fun hc => ?_))
      refine WL.p rfl (Pu.iaA rfl rfl (by decide)) ?_
      repeat' (first | refine S1 ?_ | refine SD ?_ | refine SA (fun _ => ?_) | refine WL.g_split rfl rfl (fun hc => ?_) (fun hc => ?_) | refine WD.g_split rfl rfl (fun hc => ?_) (fun hc => ?_) | refine W.cond rfl (fun hc => ?_) (fun hc => ?_))
      · have hpe := eq_of_beq hc
        refine WL.e rfl (Ef.callR (c := f2.H) (by exact rfl) (.last (.right .here)) (out_tr _ f2 hf2 hsm2 _)) ?_
        rintro _ _ ⟨rfl, rfl⟩
        rw [show Flt.out f2.S _ = _ by rw [hS2, mark_out, if_pos hpe]]
        repeat' (first | refine S1 ?_ | refine SD ?_ | refine SA (fun _ => ?_) | refine WL.g_split rfl rfl (fun hc => ?_) (fun hc => ?_) | refine WD.g_split rfl rfl (fun hc => ?_) (fun hc => ?_) | refine W.cond rfl (fun hc => ?_) (fun hc => ?_))
        first | exact Fin.round 1 (by decide) envA (fun _ h => h) (by decide) | exact Fin.round 2 (by decide) envA (fun _ h => h) (by decide) | exact Fin.round 3 (by decide) envA (fun _ h => h) (by decide) | exact Fin.round 4 (by decide) envA (fun _ h => h) (by decide)
      · have hpe := ne_of_beq_false hc
        refine WL.e rfl (Ef.callR (c := f2.H) (by exact rfl) (.last (.right .here)) (out_tr _ f2 hf2 hsm2 _)) ?_
        rintro _ _ ⟨rfl, rfl⟩
        rw [show Flt.out f2.S _ = _ by rw [hS2, mark_out, if_neg hpe]]
        repeat' (first | refine S1 ?_ | refine SD ?_ | refine SA (fun _ => ?_) | refine WL.g_split rfl rfl (fun hc => ?_) (fun hc => ?_) | refine WD.g_split rfl rfl (fun hc => ?_) (fun hc => ?_) | refine W.cond rfl (fun hc => ?_) (fun hc => ?_))
        · exfalso
          simp at hc
        · first | exact Fin.round 1 (by decide) envA (fun _ h => h) (by decide) | exact Fin.round 2 (by decide) envA (fun _ h => h) (by decide) | exact Fin.round 3 (by decide) envA (fun _ h => h) (by decide) | exact Fin.round 4 (by decide) envA (fun _ h => h) (by decide)
    ·
      repeat' (first | refine S1 ?_ | refine SD ?_ | refine SA (fun _ => ?_) | refine WL.g_split rfl rfl (fun hc => ?_) (fun hc => ?_) | refine WD.g_split rfl rfl (fun hc => ?_) (fun hc => ?_) | refine W.cond rfl (fun hc => ?_) (fun hc => ?_))
      refine WL.p rfl (Pu.iaA rfl rfl (by decide)) ?_
      repeat' (first | refine S1 ?_ | refine SD ?_ | refine SA (fun _ => ?_) | refine WL.g_split rfl rfl (fun hc => ?_) (fun hc => ?_) | refine WD.g_split rfl rfl (fun hc => ?_) (fun hc => ?_) | refine W.cond rfl (fun hc => ?_) (fun hc => ?_))
      · have hpe := eq_of_beq hc
        refine WL.e rfl (Ef.callR (c := f2.H) (by exact rfl) (.last (.right .here)) (out_tr _ f2 hf2 hsm2 _)) ?_
        rintro _ _ ⟨rfl, rfl⟩
        rw [show Flt.out f2.S _ = _ by rw [hS2, mark_out, if_pos hpe]]
        repeat' (first | refine S1 ?_ | refine SD ?_ | refine SA (fun _ => ?_) | refine WL.g_split rfl rfl (fun hc => ?_) (fun hc => ?_) | refine WD.g_split rfl rfl (fun hc => ?_) (fun hc => ?_) | refine W.cond rfl (fun hc => ?_) (fun hc => ?_))
        first | exact Fin.round 1 (by decide) envA (fun _ h => h) (by decide) | exact Fin.round 2 (by decide) envA (fun _ h => h) (by decide) | exact Fin.round 3 (by decide) envA (fun _ h => h) (by decide) | exact Fin.round 4 (by decide) envA (fun _ h => h) (by decide)
      · have hpe := ne_of_beq_false hc
        refine WL.e rfl (Ef.callR (c := f2.H) (by exact rfl) (.last (.right .here)) (out_tr _ f2 hf2 hsm2 _)) ?_
        rintro _ _ ⟨rfl, rfl⟩
        rw [show Flt.out f2.S _ = _ by rw [hS2, mark_out, if_neg hpe]]
        repeat' (first | refine S1 ?_ | refine SD ?_ | refine SA (fun _ => ?_) | refine WL.g_split rfl rfl (fun hc => ?_) (fun hc => ?_) | refine WD.g_split rfl rfl (fun hc => ?_) (fun hc => ?_) | refine W.cond rfl (fun hc => ?_) (fun hc => ?_))
        · exfalso
          simp at hc
        · first | exact Fin.round 1 (by decide) envA (fun _ h => h) (by decide) | exact Fin.round 2 (by decide) envA (fun _ h => h) (by decide) | exact Fin.round 3 (by decide) envA (fun _ h => h) (by decide) | exact Fin.round 4 (by decide) envA (fun _ h => h) (by decide)
    repeat' (first | refine S1 ?_ | refine SD ?_ | refine SA (fun _ => ?_) | refine WL.g_split rfl rfl (fun hc => ?_) (fun hc => ?_) | refine WD.g_split rfl rfl (fun hc => ?_) (fun hc => ?_) | refine W.cond rfl (fun hc => ?_) (fun hc => ?_))
    have hln4 : ln ≤ 4096 := by omega
    clear hg hml hml2 hadd hxo hxn hxn2 hsm
    by_cases hvb : 0 ≤ by_ ∧ by_ < paths
    · refine W.loop (G := MkG) (fun g => [(0, .int .i64 paths), (4, .int .i64 by_), (11, .pointer (some ⟨f2.R, 0, none⟩)), (18, .slice la ln lc), (21, .int .i64 g.i)])
        (fun g => lb ++ g.f.H) (fun g => g.i ≤ ln ∧ g.f.ok ∧ g.f.R = f2.R ∧ Flt.Good g.f.S ∧ g.f.S.paths = paths ∧ g.f.small ∧ Flt.lostL g.f.S = (Flt.lostL f2.S).drop g.i) (fun g => ln - g.i) ⟨0, f2⟩ ⟨Nat.zero_le _, hf2, rfl, hG2, hP2, hsm2, rfl⟩ envA (fun _ h => h.sublist (.append (.refl _) (List.sublist_append_left _ _))) ?_
      rintro ⟨k, f3⟩ ⟨hk, hf3, hR3, hG3, hP3, hsm3, hL3⟩
      dsimp only at hk hf3 hR3 hG3 hP3 hsm3 hL3 ⊢
      rw [← hR3]
      repeat' (first | refine S1 ?_ | refine SD ?_ | refine SA (fun _ => ?_) | refine WL.g_split rfl rfl (fun hc => ?_) (fun hc => ?_) | refine WD.g_split rfl rfl (fun hc => ?_) (fun hc => ?_) | refine W.cond rfl (fun hc => ?_) (fun hc => ?_))
      · have hk' : k < ln := by have := of_decide_eq_true hc; omega
        obtain ⟨t0, ht0⟩ : ∃ t0, (Flt.lostL f2.S)[k]? = some t0 := ⟨(Flt.lostL f2.S)[k]'(by omega), by simp⟩
        have hdrop : (Flt.lostL f2.S).drop k = t0 :: (Flt.lostL f2.S).drop (k + 1) := by rw [List.drop_eq_getElem_cons (by omega)]; congr 1; exact (List.getElem?_eq_some_iff.1 ht0).2
        rw [hdrop] at hL3
        obtain ⟨r, s', hget, hbs, hag, hG4, hrest, ⟨d', hget'⟩, hag', hP4⟩ := again_first hG3 hL3 (p := by_) (by omega) 7
        obtain ⟨b1, o1, rfl, hcc⟩ := (Lst.own (F := F) (H := lb) hlo (fun _ h => h)).can (by omega)
        have hlc : Sl.Can F lb b1 (o1 + (k : Int).toNat * 1) [.int .u32 t0] := by
          have := hcc.one (i := k) (v := .int .u32 t0) (by rw [List.getElem?_map, ht0]; rfl)
          rw [show o1 + (k : Int).toNat * 1 = o1 + k by omega]
          exact this
        have hik : 0 ≤ (k : Int) ∧ (k : Int) < (ln : Int) := by omega
        repeat' (first | refine S1 ?_ | refine SD ?_ | refine SA (fun _ => ?_) | refine WL.g_split rfl rfl (fun hc => ?_) (fun hc => ?_) | refine WD.g_split rfl rfl (fun hc => ?_) (fun hc => ?_) | refine W.cond rfl (fun hc => ?_) (fun hc => ?_))
        refine WL.s rfl (Rd.ldC rfl (hlc.mono (fun _ h => h.sublist findA))) ?_
        refine WL.e rfl (Ef.call (c := f3.H) (by exact rfl) (.last (.right .all)) (getD_tr _ f3 hf3 hsm3 t0)) ?_
        rintro _ _ ⟨_, hq, rfl⟩
        obtain ⟨m, p, h1, hm, rfl, rfl⟩ := hq.resolve_left (fun h => by rw [hget] at h; cases h.1)
        rw [hget] at h1
        have hmb : m.d.bs = r.bs := (congrArg (fun x : Dt × Int => x.1.bs) (Option.some.inj h1)).symm
        have hml3 : m.d.bs.length = m.bn := by have := OwnS.len hm; simpa using this
        have hne : m.bn ≠ 0 := fun h => hbs (List.eq_nil_of_length_eq_zero (by rw [← hmb, hml3]; exact h))
        rw [List.append_assoc]
        unfold DM.cells
        dsimp only [tup]
        repeat' (first | refine S1 ?_ | refine SD ?_ | refine SA (fun _ => ?_) | refine WL.g_split rfl rfl (fun hc => ?_) (fun hc => ?_) | refine WD.g_split rfl rfl (fun hc => ?_) (fun hc => ?_) | refine W.cond rfl (fun hc => ?_) (fun hc => ?_))
        refine WL.s rfl (Rd.ldC rfl (hlc.mono (fun _ h => h.sublist findA))) ?_
        repeat' (first | refine S1 ?_ | refine SD ?_ | refine SA (fun _ => ?_) | refine WL.g_split rfl rfl (fun hc => ?_) (fun hc => ?_) | refine WD.g_split rfl rfl (fun hc => ?_) (fun hc => ?_) | refine W.cond rfl (fun hc => ?_) (fun hc => ?_))
        refine WL.e rfl (Ef.call (c := f3.H) (by exact rfl) (.last (.there (.right .here))) (again_tr _ f3 hf3 t0 by_ 7)) ?_
        rintro _ _ ⟨_, ⟨rfl, f4, hf4, rfl, hR4, hS4⟩, rfl⟩
        rw [hag]
        rw [hag] at hS4
        dsimp only at hS4 ⊢
        have hsm4 : f4.small := by
          have h1 := sumB_bs (again_k f3.S t0 by_ 7)
          rw [hag] at h1
          have h2 : sumB (fun _ => true) f3.S.L ≤ 1000000000000 := hsm3
          show sumB _ f4.S.L ≤ _
          rw [hS4]
          dsimp only at h1
          omega
        rw [← hR4]
        repeat' (first | refine S1 ?_ | refine SD ?_ | refine SA (fun _ => ?_) | refine WL.g_split rfl rfl (fun hc => ?_) (fun hc => ?_) | refine WD.g_split rfl rfl (fun hc => ?_) (fun hc => ?_) | refine W.cond rfl (fun hc => ?_) (fun hc => ?_))
        · exfalso
          have := of_decide_eq_true hc
          omega
        · exfalso
          have := of_decide_eq_true hc
          omega
        refine WL.s rfl (Rd.ldC rfl (hlc.mono (fun _ h => h.sublist findA))) ?_
        refine WL.e rfl (Ef.call (c := f4.H) (by exact rfl) (.last .here) (getD_tr _ f4 hf4 hsm4 t0)) ?_
        rintro _ _ ⟨_, hq, rfl⟩
        obtain ⟨m2, p2, h2, hm2, rfl, rfl⟩ := hq.resolve_left (fun h => by rw [hS4, hget'] at h; cases h.1)
        rw [hS4, hget'] at h2
        have hp2 : by_ = p2 := congrArg (fun x : Dt × Int => x.2) (Option.some.inj h2)
        subst hp2
        rw [List.append_assoc]
        unfold DM.cells
        dsimp only [tup]
        repeat' (first | refine S1 ?_ | refine SD ?_ | refine SA (fun _ => ?_) | refine WL.g_split rfl rfl (fun hc => ?_) (fun hc => ?_) | refine WD.g_split rfl rfl (fun hc => ?_) (fun hc => ?_) | refine W.cond rfl (fun hc => ?_) (fun hc => ?_))
        · exfalso
          simp at hc
        refine WL.s rfl (Rd.ldC rfl (hlc.mono (fun _ h => h.sublist findA))) ?_
        repeat' (first | refine S1 ?_ | refine SD ?_ | refine SA (fun _ => ?_) | refine WL.g_split rfl rfl (fun hc => ?_) (fun hc => ?_) | refine WD.g_split rfl rfl (fun hc => ?_) (fun hc => ?_) | refine W.cond rfl (fun hc => ?_) (fun hc => ?_))
        refine WL.e rfl (Ef.call (c := f4.H) (by exact rfl) (.last (.there (.right .here))) (again_tr _ f4 hf4 t0 by_ 7)) ?_
        rintro _ _ ⟨_, ⟨rfl, f5, hf5, rfl, hR5, hS5⟩, rfl⟩
        rw [hS4, hag']
        rw [hS4, hag'] at hS5
        dsimp only at hS5 ⊢
        rw [← hR5]
        repeat' (first | refine S1 ?_ | refine SD ?_ | refine SA (fun _ => ?_) | refine WL.g_split rfl rfl (fun hc => ?_) (fun hc => ?_) | refine WD.g_split rfl rfl (fun hc => ?_) (fun hc => ?_) | refine W.cond rfl (fun hc => ?_) (fun hc => ?_))
        · exfalso
          have := eq_of_beq hc
          omega
        · rw [i64_succ (by omega)]
          refine Fin.round ⟨k + 1, f5⟩ ⟨hk', hf5, rfl, by dsimp only; rw [hS5]; exact hG4, by dsimp only; rw [hS5]; exact hP4.trans hP3, ?_, by dsimp only; rw [hS5]; exact hrest⟩ envA (fun _ h => In.of_sub (.pickL (L := lb) (.right (.there (.right (.there (.right .here))))) (.last (L := f5.H) .here)) h) (by dsimp only; omega)
          show sumB _ f5.S.L ≤ _
          rw [hS5, ← hS4]
          exact hsm4
      · exfalso
        have := of_decide_eq_true hc
        omega
      · exfalso
        have := of_decide_eq_true hc
        omega
      · refine WL.e rfl (Ef.call (c := f3.H) (by exact rfl) (.last (.right .all)) (lost_tr _ f3 hf3)) ?_
        rintro _ _ ⟨_, ⟨xa, xn, xc, xb, rfl, hxo, rfl⟩, rfl⟩
        have hkn : k = ln := by rename_i h1 _; have := of_decide_eq_false h1; omega
        have hx0 : xn = 0 := by
          have h1 := hxo.len
          rw [hL3, List.drop_of_length_le (by omega)] at h1
          simpa using h1.symm
        subst hx0
        repeat' (first | refine S1 ?_ | refine SD ?_ | refine SA (fun _ => ?_) | refine WL.g_split rfl rfl (fun hc => ?_) (fun hc => ?_) | refine WD.g_split rfl rfl (fun hc => ?_) (fun hc => ?_) | refine W.cond rfl (fun hc => ?_) (fun hc => ?_))
        refine WL.e rfl (Ef.call (c := []) (by exact rfl) (.nil _) (works_tr _)) ?_
        rintro _ _ ⟨_, ⟨rfl, rfl⟩, rfl⟩
        rw [List.nil_append]
        repeat' (first | refine S1 ?_ | refine SD ?_ | refine SA (fun _ => ?_) | refine WL.g_split rfl rfl (fun hc => ?_) (fun hc => ?_) | refine WD.g_split rfl rfl (fun hc => ?_) (fun hc => ?_) | refine W.cond rfl (fun hc => ?_) (fun hc => ?_))
        exact Fin.retW (by exact rfl) resA (H' := []) (fun _ h => h.sublist (List.nil_sublist _)) ⟨rfl, rfl⟩
    · have hbad : decide (by_ < 0) = true ∨ decide (by_ ≥ paths) = true := by simp; omega
      refine W.loop (G := MkG) (fun g => [(0, .int .i64 paths), (4, .int .i64 by_), (11, .pointer (some ⟨f2.R, 0, none⟩)), (18, .slice la ln lc), (21, .int .i64 g.i)])
        (fun g => lb ++ g.f.H) (fun g => g.i ≤ ln ∧ g.f.ok ∧ g.f.R = f2.R ∧ g.f.S.paths = paths ∧ g.f.small) (fun g => ln - g.i) ⟨0, f2⟩ ⟨Nat.zero_le _, hf2, rfl, hP2, hsm2⟩ envA (fun _ h => h.sublist (.append (.refl _) (List.sublist_append_left _ _))) ?_
      rintro ⟨k, f3⟩ ⟨hk, hf3, hR3, hP3, hsm3⟩
      dsimp only at hk hf3 hR3 hP3 hsm3 ⊢
      rw [← hR3]
      repeat' (first | refine S1 ?_ | refine SD ?_ | refine SA (fun _ => ?_) | refine WL.g_split rfl rfl (fun hc => ?_) (fun hc => ?_) | refine WD.g_split rfl rfl (fun hc => ?_) (fun hc => ?_) | refine W.cond rfl (fun hc => ?_) (fun hc => ?_))
      · have hk' : k < ln := by have := of_decide_eq_true hc; omega
        obtain ⟨t0, ht0⟩ : ∃ t0, (Flt.lostL f2.S)[k]? = some t0 := ⟨(Flt.lostL f2.S)[k]'(by omega), by simp⟩
        have hag : Flt.again f3.S t0 by_ 7 = (f3.S, 1) := by unfold Flt.again; rw [if_pos (by rw [hP3]; omega)]
        obtain ⟨b1, o1, rfl, hcc⟩ := (Lst.own (F := F) (H := lb) hlo (fun _ h => h)).can (by omega)
        have hlc : Sl.Can F lb b1 (o1 + (k : Int).toNat * 1) [.int .u32 t0] := by
          have := hcc.one (i := k) (v := .int .u32 t0) (by rw [List.getElem?_map, ht0]; rfl)
          rw [show o1 + (k : Int).toNat * 1 = o1 + k by omega]
          exact this
        have hik : 0 ≤ (k : Int) ∧ (k : Int) < (ln : Int) := by omega
        repeat' (first | refine S1 ?_ | refine SD ?_ | refine SA (fun _ => ?_) | refine WL.g_split rfl rfl (fun hc => ?_) (fun hc => ?_) | refine WD.g_split rfl rfl (fun hc => ?_) (fun hc => ?_) | refine W.cond rfl (fun hc => ?_) (fun hc => ?_))
        refine WL.s rfl (Rd.ldC rfl (hlc.mono (fun _ h => h.sublist findA))) ?_
        refine WL.e rfl (Ef.call (c := f3.H) (by exact rfl) (.last (.right .all)) (getD_tr _ f3 hf3 hsm3 t0)) ?_
        rintro _ _ ⟨_, hq, rfl⟩
        obtain ⟨dd, p, is, va, vn, vc, bb, rfl, rfl⟩ : ∃ (dd : Dt) (p : Int) (is : Bool) (va : Option Addr) (vn vc : Nat) (bb : HL), _ = tup [.agg [.int .u32 dd.tsn, .int .u16 dd.stream, .int .u16 dd.ssn, .bool dd.un, .bool dd.fi, .bool dd.la, .slice va vn vc].toArray, .int .i64 p, .bool is] ∧ _ = bb ++ f3.H := by
          rcases hq with ⟨_, h1, h2⟩ | ⟨m, p, _, _, h1, h2⟩
          · exact ⟨Dt.zero, 0, false, none, 0, 0, [], h1, h2⟩
          · exact ⟨m.d, p, true, m.ba, m.bn, m.bc, m.bb, h1, h2⟩
        clear hq
        rw [List.append_assoc]
        dsimp only [tup]
        repeat' (first | refine S1 ?_ | refine SD ?_ | refine SA (fun _ => ?_) | refine WL.g_split rfl rfl (fun hc => ?_) (fun hc => ?_) | refine WD.g_split rfl rfl (fun hc => ?_) (fun hc => ?_) | refine W.cond rfl (fun hc => ?_) (fun hc => ?_))
        refine WL.s rfl (Rd.ldC rfl (hlc.mono (fun _ h => h.sublist findA))) ?_
        repeat' (first | refine S1 ?_ | refine SD ?_ | refine SA (fun _ => ?_) | refine WL.g_split rfl rfl (fun hc => ?_) (fun hc => ?_) | refine WD.g_split rfl rfl (fun hc => ?_) (fun hc => ?_) | refine W.cond rfl (fun hc => ?_) (fun hc => ?_))
        refine WL.e rfl (Ef.call (c := f3.H) (by exact rfl) (.last (.there (.right .here))) (again_tr _ f3 hf3 t0 by_ 7)) ?_
        rintro _ _ ⟨_, ⟨rfl, f4, hf4, rfl, hR4, hS4⟩, rfl⟩
        rw [hag]
        rw [hag] at hS4
        dsimp only at hS4 ⊢
        rw [← hR4]
        repeat' (first | refine S1 ?_ | refine SD ?_ | refine SA (fun _ => ?_) | refine WL.g_split rfl rfl (fun hc => ?_) (fun hc => ?_) | refine WD.g_split rfl rfl (fun hc => ?_) (fun hc => ?_) | refine W.cond rfl (fun hc => ?_) (fun hc => ?_))
        ·
          rw [i64_succ (by omega)]
          refine Fin.round ⟨k + 1, f4⟩ ⟨hk', hf4, rfl, by dsimp only; rw [hS4]; exact hP3, ?_⟩ envA (fun _ h => In.of_sub (.pickL (L := lb) (.right (.there (.right .here))) (.last (L := f4.H) .here)) h) (by dsimp only; omega)
          show sumB _ f4.S.L ≤ _
          rw [hS4]
          exact hsm3
        ·
          rw [i64_succ (by omega)]
          refine Fin.round ⟨k + 1, f4⟩ ⟨hk', hf4, rfl, by dsimp only; rw [hS4]; exact hP3, ?_⟩ envA (fun _ h => In.of_sub (.pickL (L := lb) (.right (.there (.right .here))) (.last (L := f4.H) .here)) h) (by dsimp only; omega)
          show sumB _ f4.S.L ≤ _
          rw [hS4]
          exact hsm3
        · exfalso
          have h2 := of_decide_eq_false hc
          rename_i h1
          have h3 := of_decide_eq_false h1
          omega
      ·
        refine WL.e rfl (Ef.call (c := []) (by exact rfl) (.nil _) (works_tr _)) ?_
        rintro _ _ ⟨_, ⟨rfl, rfl⟩, rfl⟩
        rw [List.nil_append]
        repeat' (first | refine S1 ?_ | refine SD ?_ | refine SA (fun _ => ?_) | refine WL.g_split rfl rfl (fun hc => ?_) (fun hc => ?_) | refine WD.g_split rfl rfl (fun hc => ?_) (fun hc => ?_) | refine W.cond rfl (fun hc => ?_) (fun hc => ?_))
        exact Fin.retW (by exact rfl) resA (H' := []) (fun _ h => h.sublist (List.nil_sublist _)) ⟨rfl, rfl⟩
      ·
        refine WL.e rfl (Ef.call (c := []) (by exact rfl) (.nil _) (works_tr _)) ?_
        rintro _ _ ⟨_, ⟨rfl, rfl⟩, rfl⟩
        rw [List.nil_append]
        repeat' (first | refine S1 ?_ | refine SD ?_ | refine SA (fun _ => ?_) | refine WL.g_split rfl rfl (fun hc => ?_) (fun hc => ?_) | refine WD.g_split rfl rfl (fun hc => ?_) (fun hc => ?_) | refine W.cond rfl (fun hc => ?_) (fun hc => ?_))
        exact Fin.retW (by exact rfl) resA (H' := []) (fun _ h => h.sublist (List.nil_sublist _)) ⟨rfl, rfl⟩
      · exfalso
        have h2 := of_decide_eq_false hc
        rename_i h1
        have h3 := of_decide_eq_false h1
        omega
end Go.Proofs.Ytglobldnockdoaa
