/- The document's flight of pieces: at, Again, Get, Add, Point, walked: they answer as the plain functions do. Conditions: it is well formed; the bytes are few. -/
import Derived.Test.YtglobldnockdoaaFgB
namespace Go.Proofs.Ytglobldnockdoaa
open Go Go.Sl Go.Flt

def atR (c : Int) (n : Nat) (t : Int) : Int := match atI c n t with | some i => (i : Int) | none => -1
theorem rat_tr (F : Nat → Option Obj) (f : FR) (hf : f.ok) (t : Int) : Tr Try.prog 62 [.pointer (some ⟨f.R, 0, none⟩), .int .u32 t].toArray F f.H (fun v H => v = .int .i64 (atR f.c f.ln t) ∧ H = f.H) := by
  refine Tr.enter Try.func62 rfl Try.ntmps62 rfl (fun w0 => ?_)
  have hff := Spn.far_int f.c t
  have hfl := Spn.far_lt f.c t
  have hlen := hf.len
  have hfew := hf.few
  unfold FR.H FR.hd
  repeat' (first | refine S1 ?_ | refine SD ?_ | refine SA (fun _ => ?_) | refine WL.g_split rfl rfl (fun hc => ?_) (fun hc => ?_) | refine WD.g_split rfl rfl (fun hc => ?_) (fun hc => ?_) | refine W.cond rfl (fun hc => ?_) (fun hc => ?_))
  · refine Fin.retW (by exact rfl) resA (fun _ h => h) ⟨?_, rfl⟩
    have := of_decide_eq_true hc
    rw [show IntKind.u32.wrap (t - f.c) = ((Spn.far f.c t : Nat) : Int) from hff.symm] at this
    unfold atR atI
    rw [if_neg (by omega)]
    rfl
  · refine Fin.retW (by exact rfl) resA (fun _ h => h) ⟨?_, rfl⟩
    have := of_decide_eq_true hc
    rw [show IntKind.u32.wrap (t - f.c) = ((Spn.far f.c t : Nat) : Int) from hff.symm, u32_id (by omega)] at this
    unfold atR atI
    rw [if_neg (by omega)]
    rfl
  · refine Fin.retW (by exact rfl) resA (fun _ h => h) ⟨?_, rfl⟩
    rename_i h1
    have h1 := of_decide_eq_false h1
    have h2 := of_decide_eq_false hc
    rw [show IntKind.u32.wrap (t - f.c) = ((Spn.far f.c t : Nat) : Int) from hff.symm] at h1 h2 ⊢
    rw [u32_id (by omega)] at h2
    unfold atR atI
    rw [if_pos (by omega)]
    dsimp only [tup]
    rw [i64_id (n := ((Spn.far f.c t : Nat) : Int)) (by omega) (by omega), i64_id (by omega) (by omega)]
    congr 1
    omega
set_option maxHeartbeats 4000000 in
theorem ragain_tr (F : Nat → Option Obj) (f : FR) (hf : f.ok) (t p now : Int) : Tr Try.prog 51 [.pointer (some ⟨f.R, 0, none⟩), .int .u32 t, .int .i64 p, .int .i64 now].toArray F f.H (fun v H => v = .int .i64 (Flt.again f.S t p now).2 ∧ ∃ f' : FR, f'.ok ∧ H = f'.H ∧ f'.R = f.R ∧ f'.S = (Flt.again f.S t p now).1) := by
  refine Tr.enter Try.func51 rfl Try.ntmps51 rfl (fun w0 => ?_)
  have hsl := fr_len hf
  have hat := rat_tr (addF F []) f hf t
  unfold FR.H FR.hd
  repeat' (first | refine S1 ?_ | refine SD ?_ | refine SA (fun _ => ?_) | refine WL.g_split rfl rfl (fun hc => ?_) (fun hc => ?_) | refine WD.g_split rfl rfl (fun hc => ?_) (fun hc => ?_) | refine W.cond rfl (fun hc => ?_) (fun hc => ?_))
  · refine Fin.retW (by exact rfl) resA (H' := f.H) (fun _ h => h) ⟨?_, f, hf, rfl, rfl, ?_⟩
    · unfold Flt.again
      rw [if_pos (.inl (of_decide_eq_true hc))]
      rfl
    · unfold Flt.again
      rw [if_pos (.inl (of_decide_eq_true hc))]
  · refine Fin.retW (by exact rfl) resA (H' := f.H) (fun _ h => h) ⟨?_, f, hf, rfl, rfl, ?_⟩
    · unfold Flt.again
      rw [if_pos (.inr (of_decide_eq_true hc))]
      rfl
    · unfold Flt.again
      rw [if_pos (.inr (of_decide_eq_true hc))]
  have hin : ¬ (p < 0 ∨ f.S.paths ≤ p) := by
    rename_i h1
    have h1 := of_decide_eq_false h1
    have h2 := of_decide_eq_false hc
    rintro (h | h)
    · exact h1 h
    · exact h2 h
  refine WL.e rfl (Ef.callR (c := f.H) (by exact rfl) (.all _) (rat_tr _ f hf t)) ?_
  rintro _ _ ⟨rfl, rfl⟩
  cases hi : atI f.c f.ln t with
  | none =>
    have e : Flt.again f.S t p now = (f.S, 11) := by
      unfold Flt.again
      rw [if_neg hin, hsl, show f.S.c = f.c from rfl, hi]
    rw [show atR f.c f.ln t = -1 by unfold atR; rw [hi]]
    repeat' (first | refine S1 ?_ | refine SD ?_ | refine SA (fun _ => ?_) | refine WL.g_split rfl rfl (fun hc => ?_) (fun hc => ?_) | refine WD.g_split rfl rfl (fun hc => ?_) (fun hc => ?_) | refine W.cond rfl (fun hc => ?_) (fun hc => ?_))
    exact Fin.retW (by exact rfl) resA (H' := f.H) (fun _ h => h) ⟨by rw [e]; rfl, f, hf, rfl, rfl, by rw [e]⟩
  | some i =>
    have hil : i < f.ln := by
      unfold atI at hi
      split at hi
      · cases hi; omega
      · cases hi
    have hlen := hf.len
    have hfew := hf.few
    obtain ⟨m, hm⟩ : ∃ m, f.rs[i]? = some m := ⟨f.rs[i]'(by omega), by simp⟩
    obtain ⟨lb, lo, hla, hcan⟩ := fr_el (F := F) hf hm
    have hmr := fr_r hm
    have hia : 0 ≤ (i : Int) ∧ (i : Int) < f.ln := by omega
    have e : Flt.again f.S t p now = if openR m.r then ({ f.S with L := f.S.L.set i (setAgain p now m.r) }, 0) else (f.S, 11) := by
      unfold Flt.again
      rw [if_neg hin, hsl, show f.S.c = f.c from rfl, hi]
      dsimp only
      rw [hmr]
      rfl
    rw [show atR f.c f.ln t = (i : Int) by unfold atR; rw [hi]]
    unfold FR.H FR.hd at hcan
    have c11 : Sl.Can F ((f.R, .cells [.slice f.la f.ln f.lc, .int .u32 f.c, .int .i64 f.paths].toArray 107 (0, 0)) :: (f.lb ++ f.rs.flatMap (·.bb))) lb (lo + (i : Int).toNat * 15 + 11) [.bool m.r.acked] := hcan.one (i := 11) rfl
    have c12 : Sl.Can F ((f.R, .cells [.slice f.la f.ln f.lc, .int .u32 f.c, .int .i64 f.paths].toArray 107 (0, 0)) :: (f.lb ++ f.rs.flatMap (·.bb))) lb (lo + (i : Int).toNat * 15 + 12) [.bool m.r.lost] := hcan.one (i := 12) rfl
    have c13 : Sl.Can F ((f.R, .cells [.slice f.la f.ln f.lc, .int .u32 f.c, .int .i64 f.paths].toArray 107 (0, 0)) :: (f.lb ++ f.rs.flatMap (·.bb))) lb (lo + (i : Int).toNat * 15 + 13) [.bool m.r.gone] := hcan.one (i := 13) rfl
    rw [hla] at c11 c12 c13 ⊢
    repeat' (first | refine S1 ?_ | refine SD ?_ | refine SA (fun _ => ?_) | refine WL.g_split rfl rfl (fun hc => ?_) (fun hc => ?_) | refine WD.g_split rfl rfl (fun hc => ?_) (fun hc => ?_) | refine W.cond rfl (fun hc => ?_) (fun hc => ?_))
    · have ho : openR m.r = false := by unfold openR; rw [show m.r.lost = false by simpa using ‹(!m.r.lost) = true›, Bool.false_and, Bool.false_and]
      rw [if_neg (by rw [ho]; decide)] at e
      exact Fin.retW (by exact rfl) resA (H' := f.H) (fun _ h => by unfold FR.H FR.hd; rw [hla]; exact h) ⟨by rw [e]; rfl, f, hf, rfl, rfl, by rw [e]⟩
    · have ho : openR m.r = false := by unfold openR; rw [show m.r.acked = true by assumption, Bool.not_true, Bool.and_false, Bool.false_and]
      rw [if_neg (by rw [ho]; decide)] at e
      exact Fin.retW (by exact rfl) resA (H' := f.H) (fun _ h => by unfold FR.H FR.hd; rw [hla]; exact h) ⟨by rw [e]; rfl, f, hf, rfl, rfl, by rw [e]⟩
    · have ho : openR m.r = false := by unfold openR; rw [show m.r.gone = true by assumption, Bool.not_true, Bool.and_false]
      rw [if_neg (by rw [ho]; decide)] at e
      exact Fin.retW (by exact rfl) resA (H' := f.H) (fun _ h => by unfold FR.H FR.hd; rw [hla]; exact h) ⟨by rw [e]; rfl, f, hf, rfl, rfl, by rw [e]⟩
    · have ho : openR m.r = true := by unfold openR; rw [show m.r.lost = true by simpa using ‹(!m.r.lost) = false›, show m.r.acked = false by assumption, show m.r.gone = false by assumption]; rfl
      rw [if_pos ho] at e
      obtain ⟨g1, g1k, g1p, g1R, g1a, g1n, g1c, g1e, g1q, g1s⟩ := fr_put hf hm hla (k := 7) (v := .int .i64 p) (r' := { m.r with path := p }) rfl rfl
      unfold FR.H FR.hd at g1p
      rw [hla] at g1p
      refine WL.e0 (Ef.st rfl rfl rfl g1p) ?_
      rintro _ _ ⟨_, rfl⟩
      have g1m : g1.rs[i]? = some { m with r := { m.r with path := p } } := by rw [g1s, List.getElem?_set_self (List.getElem?_eq_some_iff.1 hm).1]
      have g1l : g1.la = some ⟨lb, lo, none⟩ := g1a.trans hla
      rw [g1R, g1a, hla, g1n, g1c, g1e, g1q]
      repeat' (first | refine S1 ?_ | refine SD ?_ | refine SA (fun _ => ?_) | refine WL.g_split rfl rfl (fun hc => ?_) (fun hc => ?_) | refine WD.g_split rfl rfl (fun hc => ?_) (fun hc => ?_) | refine W.cond rfl (fun hc => ?_) (fun hc => ?_))
      obtain ⟨g2, g2k, g2p, g2R, g2a, g2n, g2c, g2e, g2q, g2s⟩ := fr_put g1k g1m g1l (k := 8) (v := .int .i64 now) (r' := { m.r with path := p, at_ := now }) rfl rfl
      unfold FR.H FR.hd at g2p
      rw [g1l] at g2p
      refine WL.e0 (Ef.st rfl rfl rfl (by rw [g1R, g1n, g1c, g1e, g1q] at g2p; exact g2p)) ?_
      rintro _ _ ⟨_, rfl⟩
      replace g2R := g2R.trans g1R
      replace g2n := g2n.trans g1n
      replace g2c := g2c.trans g1c
      replace g2e := g2e.trans g1e
      replace g2q := g2q.trans g1q
      have g2m : g2.rs[i]? = some { m with r := { m.r with path := p, at_ := now } } := by rw [g2s, List.getElem?_set_self (List.getElem?_eq_some_iff.1 g1m).1]
      have g2l : g2.la = some ⟨lb, lo, none⟩ := g2a.trans g1l
      rw [g2R, g2a, g1l, g2n, g2c, g2e, g2q]
      repeat' (first | refine S1 ?_ | refine SD ?_ | refine SA (fun _ => ?_) | refine WL.g_split rfl rfl (fun hc => ?_) (fun hc => ?_) | refine WD.g_split rfl rfl (fun hc => ?_) (fun hc => ?_) | refine W.cond rfl (fun hc => ?_) (fun hc => ?_))
      obtain ⟨g3, g3k, g3p, g3R, g3a, g3n, g3c, g3e, g3q, g3s⟩ := fr_put g2k g2m g2l (k := 12) (v := .bool false) (r' := { m.r with path := p, at_ := now, lost := false }) rfl rfl
      unfold FR.H FR.hd at g3p
      rw [g2l] at g3p
      refine WL.e0 (Ef.st rfl rfl rfl (by rw [g2R, g2n, g2c, g2e, g2q] at g3p; exact g3p)) ?_
      rintro _ _ ⟨_, rfl⟩
      replace g3R := g3R.trans g2R
      replace g3n := g3n.trans g2n
      replace g3c := g3c.trans g2c
      replace g3e := g3e.trans g2e
      replace g3q := g3q.trans g2q
      have g3m : g3.rs[i]? = some { m with r := { m.r with path := p, at_ := now, lost := false } } := by rw [g3s, List.getElem?_set_self (List.getElem?_eq_some_iff.1 g2m).1]
      have g3l : g3.la = some ⟨lb, lo, none⟩ := g3a.trans g2l
      rw [g3R, g3a, g2l, g3n, g3c, g3e, g3q]
      repeat' (first | refine S1 ?_ | refine SD ?_ | refine SA (fun _ => ?_) | refine WL.g_split rfl rfl (fun hc => ?_) (fun hc => ?_) | refine WD.g_split rfl rfl (fun hc => ?_) (fun hc => ?_) | refine W.cond rfl (fun hc => ?_) (fun hc => ?_))
      obtain ⟨g4, g4k, g4p, g4R, g4a, g4n, g4c, g4e, g4q, g4s⟩ := fr_put g3k g3m g3l (k := 14) (v := .bool true) (r' := setAgain p now m.r) rfl rfl
      unfold FR.H FR.hd at g4p
      rw [g3l] at g4p
      refine WL.e0 (Ef.st rfl rfl rfl (by rw [g3R, g3n, g3c, g3e, g3q] at g4p; exact g4p)) ?_
      rintro _ _ ⟨_, rfl⟩
      replace g4R := g4R.trans g3R
      replace g4n := g4n.trans g3n
      replace g4c := g4c.trans g3c
      replace g4e := g4e.trans g3e
      replace g4q := g4q.trans g3q
      have g4m : g4.rs[i]? = some { m with r := setAgain p now m.r } := by rw [g4s, List.getElem?_set_self (List.getElem?_eq_some_iff.1 g3m).1]
      have g4l : g4.la = some ⟨lb, lo, none⟩ := g4a.trans g3l
      rw [g4R, g4a, g3l, g4n, g4c, g4e, g4q]
      repeat' (first | refine S1 ?_ | refine SD ?_ | refine SA (fun _ => ?_) | refine WL.g_split rfl rfl (fun hc => ?_) (fun hc => ?_) | refine WD.g_split rfl rfl (fun hc => ?_) (fun hc => ?_) | refine W.cond rfl (fun hc => ?_) (fun hc => ?_))
      refine Fin.retW (by exact rfl) resA (H' := g4.H) (fun _ h => by unfold FR.H FR.hd; rw [g4R, g4l, g4n, g4c, g4e, g4q]; exact h) ⟨by rw [e]; rfl, g4, g4k, rfl, g4R, ?_⟩
      rw [e]
      dsimp only
      unfold FR.S
      rw [g4e, g4q, g4s, g3s, g2s, g1s]
      rw [List.set_set, List.set_set, List.set_set, List.map_set]
end Go.Proofs.Ytglobldnockdoaa
