/- The law's 'Vast', and 'does' where there is no sender, walked. Conditions: what the things done are in memory. -/
import Derived.Test.YtjbinhihkfidoaaGreatSnW
namespace Go.Proofs.YtjbinhihkfidoaaGreat
open Go Go.Sl Go.Pth

theorem exp_nil (F : Nat → Option Obj) (now : Int) : Tr Tryz.prog 13 [.pointer none, .int .i64 now].toArray F [] (fun v H => v = .tuple #[] ∧ H = []) := by
  refine Tr.enter Tryz.func13 rfl Tryz.ntmps13 rfl (fun w0 => ?_)
  repeat' (first | refine S2b ?_ | refine SD ?_ | refine SA (fun _ => ?_) | refine WL.g_split rfl rfl (fun hc => ?_) (fun hc => ?_) | refine WD.g_split rfl rfl (fun hc => ?_) (fun hc => ?_) | refine W.cond rfl (fun hc => ?_) (fun hc => ?_) | refine WL.s rfl (Rd.ldC rfl (Sl.Can.mono (by assumption) (fun _ h => h.sublist findA))) ?_ | refine WD.s rfl (Rd.ldC rfl (Sl.Can.mono (by assumption) (fun _ h => h.sublist findA))) ?_ | fail)
  exact Fin.retW (by exact rfl) resA (H' := []) (fun _ h => h.sublist (List.nil_sublist _)) ⟨rfl, rfl⟩
theorem slate_nil (F : Nat → Option Obj) (now : Int) : Tr Tryz.prog 14 [.pointer none, .int .i64 now].toArray F [] (fun v H => v = tup [.int .i64 0, .int .i64 0] ∧ H = []) := by
  refine Tr.enter Tryz.func14 rfl Tryz.ntmps14 rfl (fun w0 => ?_)
  repeat' (first | refine S2b ?_ | refine SD ?_ | refine SA (fun _ => ?_) | refine WL.g_split rfl rfl (fun hc => ?_) (fun hc => ?_) | refine WD.g_split rfl rfl (fun hc => ?_) (fun hc => ?_) | refine W.cond rfl (fun hc => ?_) (fun hc => ?_) | refine WL.s rfl (Rd.ldC rfl (Sl.Can.mono (by assumption) (fun _ h => h.sublist findA))) ?_ | refine WD.s rfl (Rd.ldC rfl (Sl.Can.mono (by assumption) (fun _ h => h.sublist findA))) ?_ | fail)
  exact Fin.retW (by exact rfl) resA (H' := []) (fun _ h => h.sublist (List.nil_sublist _)) ⟨rfl, rfl⟩
theorem fwd_nil (F : Nat → Option Obj) (now : Int) : Tr Tryz.prog 17 [.pointer none, .int .i64 now].toArray F [] (fun v H => v = tup [.agg [.int .u32 0, .slice none 0 0].toArray, .int .i64 0, .bool false] ∧ H = []) := by
  refine Tr.enter Tryz.func17 rfl Tryz.ntmps17 rfl (fun w0 => ?_)
  repeat' (first | refine S2b ?_ | refine SD ?_ | refine SA (fun _ => ?_) | refine WL.g_split rfl rfl (fun hc => ?_) (fun hc => ?_) | refine WD.g_split rfl rfl (fun hc => ?_) (fun hc => ?_) | refine W.cond rfl (fun hc => ?_) (fun hc => ?_) | refine WL.s rfl (Rd.ldC rfl (Sl.Can.mono (by assumption) (fun _ h => h.sublist findA))) ?_ | refine WD.s rfl (Rd.ldC rfl (Sl.Can.mono (by assumption) (fun _ h => h.sublist findA))) ?_ | fail)
  exact Fin.retW (by exact rfl) resA (H' := []) (fun _ h => h.sublist (List.nil_sublist _)) ⟨rfl, rfl⟩
theorem sbeat_nil (F : Nat → Option Obj) (now : Int) : Tr Tryz.prog 62 [.pointer none, .int .i64 now].toArray F [] (fun v H => v = .slice none 0 0 ∧ H = []) := by
  refine Tr.enter Tryz.func62 rfl Tryz.ntmps62 rfl (fun w0 => ?_)
  repeat' (first | refine S2b ?_ | refine SD ?_ | refine SA (fun _ => ?_) | refine WL.g_split rfl rfl (fun hc => ?_) (fun hc => ?_) | refine WD.g_split rfl rfl (fun hc => ?_) (fun hc => ?_) | refine W.cond rfl (fun hc => ?_) (fun hc => ?_) | refine WL.s rfl (Rd.ldC rfl (Sl.Can.mono (by assumption) (fun _ h => h.sublist findA))) ?_ | refine WD.s rfl (Rd.ldC rfl (Sl.Can.mono (by assumption) (fun _ h => h.sublist findA))) ?_ | fail)
  exact Fin.retW (by exact rfl) resA (H' := []) (fun _ h => h.sublist (List.nil_sublist _)) ⟨rfl, rfl⟩
theorem sbeaten_nil (F : Nat → Option Obj) (p sent now : Int) : Tr Tryz.prog 63 [.pointer none, .int .i64 p, .int .i64 sent, .int .i64 now].toArray F [] (fun v H => v = .bool false ∧ H = []) := by
  refine Tr.enter Tryz.func63 rfl Tryz.ntmps63 rfl (fun w0 => ?_)
  repeat' (first | refine S2b ?_ | refine SD ?_ | refine SA (fun _ => ?_) | refine WL.g_split rfl rfl (fun hc => ?_) (fun hc => ?_) | refine WD.g_split rfl rfl (fun hc => ?_) (fun hc => ?_) | refine W.cond rfl (fun hc => ?_) (fun hc => ?_) | refine WL.s rfl (Rd.ldC rfl (Sl.Can.mono (by assumption) (fun _ h => h.sublist findA))) ?_ | refine WD.s rfl (Rd.ldC rfl (Sl.Can.mono (by assumption) (fun _ h => h.sublist findA))) ?_ | fail)
  exact Fin.retW (by exact rfl) resA (H' := []) (fun _ h => h.sublist (List.nil_sublist _)) ⟨rfl, rfl⟩
theorem swhen_nil (F : Nat → Option Obj) : Tr Tryz.prog 31 [.pointer none].toArray F [] (fun v H => v = tup [.int .i64 0, .bool false] ∧ H = []) := by
  refine Tr.enter Tryz.func31 rfl Tryz.ntmps31 rfl (fun w0 => ?_)
  repeat' (first | refine S2b ?_ | refine SD ?_ | refine SA (fun _ => ?_) | refine WL.g_split rfl rfl (fun hc => ?_) (fun hc => ?_) | refine WD.g_split rfl rfl (fun hc => ?_) (fun hc => ?_) | refine W.cond rfl (fun hc => ?_) (fun hc => ?_) | refine WL.s rfl (Rd.ldC rfl (Sl.Can.mono (by assumption) (fun _ h => h.sublist findA))) ?_ | refine WD.s rfl (Rd.ldC rfl (Sl.Can.mono (by assumption) (fun _ h => h.sublist findA))) ?_ | fail)
  exact Fin.retW (by exact rfl) resA (H' := []) (fun _ h => h.sublist (List.nil_sublist _)) ⟨rfl, rfl⟩
theorem spath_nil (F : Nat → Option Obj) (k : Int) : Tr Tryz.prog 21 [.pointer none, .int .i64 k].toArray F [] (fun v H => v = tup [.int .i64 0, .int .i64 0, .int .i64 0, .bool false] ∧ H = []) := by
  refine Tr.enter Tryz.func21 rfl Tryz.ntmps21 rfl (fun w0 => ?_)
  repeat' (first | refine S2b ?_ | refine SD ?_ | refine SA (fun _ => ?_) | refine WL.g_split rfl rfl (fun hc => ?_) (fun hc => ?_) | refine WD.g_split rfl rfl (fun hc => ?_) (fun hc => ?_) | refine W.cond rfl (fun hc => ?_) (fun hc => ?_) | refine WL.s rfl (Rd.ldC rfl (Sl.Can.mono (by assumption) (fun _ h => h.sublist findA))) ?_ | refine WD.s rfl (Rd.ldC rfl (Sl.Can.mono (by assumption) (fun _ h => h.sublist findA))) ?_ | fail)
  exact Fin.retW (by exact rfl) resA (H' := []) (fun _ h => h.sublist (List.nil_sublist _)) ⟨rfl, rfl⟩
/-- a thing done, as it lies in memory -/
structure Ov where
  kind : Int
  wait : Int
  stream : Int
  ord : Bool
  ba : Option Addr
  bn : Nat
  bc : Nat
  life : Int
  by_ : Int
  ka : Option Addr
  kn : Nat
  kc : Nat
  rwnd : Int
  path : Int
def Ov.cells (o : Ov) : List Value := [.int .i64 o.kind, .int .u16 o.wait, .int .u16 o.stream, .bool o.ord, .slice o.ba o.bn o.bc, .int .i64 o.life, .int .u32 o.by_, .slice o.ka o.kn o.kc, .int .u32 o.rwnd, .int .i64 o.path]
def vastG : List Ov → Int → Bool
  | [], _ => false
  | o :: r, n => if n + min (o.bn : Int) 131072 > 32768 ∨ o.kn > 50 then true else vastG r (n + min (o.bn : Int) 131072)
def vast (l : List Ov) : Bool := decide (l.length > 120) || vastG l 0
structure VsG where
  i : Nat
  n : Int
set_option maxHeartbeats 4000000 in
theorem vast_tr (F : Nat → Option Obj) (X : HL) (l : List Ov) (ka : Option Addr) (kn kc : Nat) (hl : Lst F X 10 (l.flatMap Ov.cells) ka kn kc) :
    Tr Tryz.prog 20 [.slice ka kn kc].toArray F X (fun v H => v = .bool (vast l) ∧ H = X) := by
  refine Tr.enter Tryz.func20 rfl Tryz.ntmps20 rfl (fun w0 => ?_)
  have hkn : kn = l.length := by have := hl.len; rw [flat_len' Ov.cells 10 (fun _ => rfl)] at this; omega
  repeat' (first | refine S1 ?_ | refine SD ?_ | refine SA (fun _ => ?_) | refine WL.g_split rfl rfl (fun hc => ?_) (fun hc => ?_) | refine WD.g_split rfl rfl (fun hc => ?_) (fun hc => ?_) | refine W.cond rfl (fun hc => ?_) (fun hc => ?_))
  · refine Fin.retW (by exact rfl) resA (fun _ h => h) ⟨?_, rfl⟩
    simp at hc
    simp [tup, vast]
    omega
  have h80 : kn ≤ 120 := by simp at hc; omega
  refine W.loop (G := VsG) (fun g => [(0, .slice ka kn kc), (3, .int .i64 g.n), (4, .int .i64 g.i)]) (fun _ => X)
    (fun g => g.i ≤ kn ∧ 0 ≤ g.n ∧ g.n ≤ 32768 ∧ vastG (l.drop g.i) g.n = vastG l 0) (fun g => kn - g.i) ⟨0, 0⟩ ⟨Nat.zero_le _, by decide, by decide, rfl⟩ envA (fun _ h => h) ?_
  rintro ⟨i, n⟩ ⟨hi, hn0, hn1, hv⟩
  dsimp only at hi hn0 hn1 hv ⊢
  repeat' (first | refine S1 ?_ | refine SD ?_ | refine SA (fun _ => ?_) | refine WL.g_split rfl rfl (fun hc => ?_) (fun hc => ?_) | refine WD.g_split rfl rfl (fun hc => ?_) (fun hc => ?_) | refine W.cond rfl (fun hc => ?_) (fun hc => ?_))
  · have hi' : i < kn := by simp at hc; omega
    obtain ⟨o, ho⟩ : ∃ o, l[i]? = some o := ⟨l[i]'(by omega), by simp⟩
    obtain ⟨b, off, rfl, hcan⟩ := hl.can (by omega)
    have hat := flat_at Ov.cells 10 (fun _ => rfl) l i o ho
    have hsub := hcan.sub (i * 10) 10
    rw [hat] at hsub
    have hia : 0 ≤ (i : Int) ∧ (i : Int) < kn := by omega
    have hC1 : Sl.Can F X b (off + (i : Int).toNat * 10 + 2 + 2) [.slice o.ba o.bn o.bc] := by have := hsub.one (i := 4) (v := .slice o.ba o.bn o.bc) rfl; simpa using this
    have hC2 : Sl.Can F X b (off + (i : Int).toNat * 10 + 7) [.slice o.ka o.kn o.kc] := by have := hsub.one (i := 7) (v := .slice o.ka o.kn o.kc) rfl; simpa using this
    have hd : l.drop i = o :: l.drop (i + 1) := by rw [List.drop_eq_getElem_cons (by omega), (List.getElem?_eq_some_iff.1 ho).2]
    have e1 : IntKind.i64.wrap (n + if 131072 < (o.bn : Int) then 131072 else (o.bn : Int)) = n + min (o.bn : Int) 131072 := by
      rw [show (if 131072 < (o.bn : Int) then 131072 else (o.bn : Int)) = min (o.bn : Int) 131072 by split <;> omega, i64_id (by omega) (by omega)]
    rw [hd, vastG] at hv
    have hno : vast l = vastG l 0 := by unfold vast; rw [show decide (l.length > 120) = false by simp; omega]; rfl
    repeat' (first | refine S1 ?_ | refine SD ?_ | refine SA (fun _ => ?_) | refine WL.g_split rfl rfl (fun hc => ?_) (fun hc => ?_) | refine WD.g_split rfl rfl (fun hc => ?_) (fun hc => ?_) | refine W.cond rfl (fun hc => ?_) (fun hc => ?_))
    · refine Fin.retW (by exact rfl) resA (fun _ h => h) ⟨?_, rfl⟩
      rw [e1] at hc
      rw [hno, ← hv, if_pos (.inl (of_decide_eq_true hc))]
      rfl
    · refine Fin.retW (by exact rfl) resA (fun _ h => h) ⟨?_, rfl⟩
      have h5 := of_decide_eq_true hc
      rw [hno, ← hv, if_pos (.inr (by omega))]
      rfl
    · rename_i hc1
      rw [e1] at hc1
      have g1 := of_decide_eq_false hc1
      have g2 := of_decide_eq_false hc
      rw [if_neg (by omega)] at hv
      rw [e1, i64_succ (by omega)]
      exact Fin.round ⟨i + 1, n + min (o.bn : Int) 131072⟩ ⟨hi', by dsimp only; omega, by dsimp only; omega, hv⟩ envA (fun _ h => h) (by dsimp only; omega)
  · have hi' : i = l.length := by simp at hc; omega
    subst hi'
    refine Fin.retW (by exact rfl) resA (fun _ h => h) ⟨?_, rfl⟩
    rw [List.drop_length, vastG] at hv
    unfold vast
    rw [← hv, show decide (l.length > 120) = false by simp; omega]
    rfl
/-- what an Op in memory means: its bytes and its gaps -/
structure Ov.Is (F : Nat → Option Obj) (o : Ov) (bs : List UInt8) (gs : List (Nat × Nat)) : Prop where
  bytes : Lst F [] 1 (bs.map B) o.ba o.bn o.bc
  gaps : Lst F [] 2 (gs.flatMap gC) o.ka o.kn o.kc
  wait : 0 ≤ o.wait ∧ o.wait < 65536
  stream : 0 ≤ o.stream ∧ o.stream < 65536
  by_ : 0 ≤ o.by_ ∧ o.by_ < 4294967296
  rwnd : 0 ≤ o.rwnd ∧ o.rwnd < 4294967296
  gs16 : ∀ g ∈ gs, g.1 < 65536 ∧ g.2 < 65536
theorem Ov.Is.bn {F : Nat → Option Obj} {o : Ov} {bs : List UInt8} {gs : List (Nat × Nat)} (h : o.Is F bs gs) : o.bn = bs.length := by have := h.bytes.len; simp at this; omega
theorem Ov.Is.kn {F : Nat → Option Obj} {o : Ov} {bs : List UInt8} {gs : List (Nat × Nat)} (h : o.Is F bs gs) : o.kn = gs.length := by have := h.gaps.len; rw [flat_len' gC 2 gC_len] at this; omega
theorem Ov.Is.mono {F F' : Nat → Option Obj} {o : Ov} {bs : List UInt8} {gs : List (Nat × Nat)} (h : o.Is F bs gs) (hw : ∀ w, In F' [] w → In F [] w) : o.Is F' bs gs := ⟨h.bytes.mono hw, h.gaps.mono hw, h.wait, h.stream, h.by_, h.rwnd, h.gs16⟩
theorem gC_one (gs : List (Nat × Nat)) : ∀ u ∈ gs.flatMap gC, u.oneCell' = true := by
  intro u hu
  obtain ⟨g, _, hg⟩ := List.mem_flatMap.1 hu
  simp [gC] at hg
  rcases hg with rfl | rfl <;> rfl
/-- what is told -/
def toldV (e a b : Int) (lv : Value) (fc : Int) (fs : Value) (is_ : Bool) (kv : Value) : List Value := [.int .i64 e, .int .i64 a, .int .i64 b, lv, .int .u32 fc, fs, .bool is_, kv]
def nilS : Value := .slice none 0 0
structure DoG where
  i : Nat
  xs : List Value
  hb : HL
set_option maxHeartbeats 4000000 in
theorem does_nil (F : Nat → Option Obj) (o : Ov) (bs : List UInt8) (gs : List (Nat × Nat)) (ho : o.Is F bs gs) (cum now : Int) (hb : bs.length ≤ 1000000000) (hg : gs.length ≤ 1000) :
    Tr Tryz.prog 24 [.pointer none, .agg o.cells.toArray, .int .u32 cum, .int .i64 now].toArray F [] (fun v H => v = .agg (toldV (if o.kind = 0 ∨ o.kind = 1 then 2 else 0) 0 0 nilS 0 nilS false nilS).toArray ∧ H = []) := by
  refine Tr.enter Tryz.func24 rfl Tryz.ntmps24 rfl (fun w0 => ?_)
  unfold Ov.cells
  repeat' (first | refine S2b ?_ | refine SA (fun _ => ?_) | refine WL.g_split rfl rfl (fun hc => ?_) (fun hc => ?_) | refine WD.g_split rfl rfl (fun hc => ?_) (fun hc => ?_) | refine WL.s rfl (Rd.ldC rfl (Sl.Can.mono (by assumption) (fun _ h => h.sublist findA))) ?_ | refine WD.s rfl (Rd.ldC rfl (Sl.Can.mono (by assumption) (fun _ h => h.sublist findA))) ?_ | fail)
  cases h0 : (o.kind == 0) with
  | true =>
    have hk : o.kind = 0 ∨ o.kind = 1 := .inl (by simpa using h0)
    rw [if_pos hk]
    repeat' (first | refine S2b ?_ | refine SD ?_ | refine SA (fun _ => ?_) | refine WL.g_split rfl rfl (fun hc => ?_) (fun hc => ?_) | refine WD.g_split rfl rfl (fun hc => ?_) (fun hc => ?_) | refine W.cond rfl (fun hc => ?_) (fun hc => ?_) | refine WL.s rfl (Rd.ldC rfl (Sl.Can.mono (by assumption) (fun _ h => h.sublist findA))) ?_ | refine WD.s rfl (Rd.ldC rfl (Sl.Can.mono (by assumption) (fun _ h => h.sublist findA))) ?_ | fail)
    rename_i b1 b2 b3 b4 b5
    have hbn := ho.bn
    refine WL.e rfl (Ef.app (m := bs.length) (news := bs.map B) (hb := [(b5, .cells ([] : List Value).toArray 5 (0, 0))]) (by exact rfl) (by exact rfl) rfl rfl (OwnS.empty _ _ b5) (.one [_] _) (by rw [← hbn]; exact (ho.bytes.src).mono (fun _ h => h.sublist (List.nil_sublist _))) (by simp) (B_one bs) (by simp; omega) (by simp [maxLen]; omega)) ?_
    rintro v' _ ⟨hb', hown, rfl⟩
    rw [List.nil_append] at hown
    obtain ⟨ta, tn, tc, rfl, _, _⟩ := OwnS.shape hown
    have htn : tn = bs.length := by have := hown.len; simp at this; omega
    repeat' (first | refine S2b ?_ | refine SD ?_ | refine SA (fun _ => ?_) | refine WL.g_split rfl rfl (fun hc => ?_) (fun hc => ?_) | refine WD.g_split rfl rfl (fun hc => ?_) (fun hc => ?_) | refine W.cond rfl (fun hc => ?_) (fun hc => ?_) | refine WL.s rfl (Rd.ldC rfl (Sl.Can.mono (by assumption) (fun _ h => h.sublist findA))) ?_ | refine WD.s rfl (Rd.ldC rfl (Sl.Can.mono (by assumption) (fun _ h => h.sublist findA))) ?_ | fail)
    refine WL.e rfl (Ef.callR (by exact rfl) (.nil _) (sput_nil _ o.stream o.ord ta tn tc o.life now)) ?_
    rintro _ _ ⟨rfl, rfl⟩
    repeat' (first | refine S2b ?_ | refine SD ?_ | refine SA (fun _ => ?_) | refine WL.g_split rfl rfl (fun hc => ?_) (fun hc => ?_) | refine WD.g_split rfl rfl (fun hc => ?_) (fun hc => ?_) | refine W.cond rfl (fun hc => ?_) (fun hc => ?_) | refine WL.s rfl (Rd.ldC rfl (Sl.Can.mono (by assumption) (fun _ h => h.sublist findA))) ?_ | refine WD.s rfl (Rd.ldC rfl (Sl.Can.mono (by assumption) (fun _ h => h.sublist findA))) ?_ | fail)
    refine W.loop (G := DoG) (fun g => [(8, ptr b2), (9, ptr b3), (10, ptr b4), (11, .int .i64 g.i)])
      (fun g => g.hb ++ ((b4, .cells [.int .u16 o.stream, .bool o.ord, .slice ta tn tc].toArray 36 (0, 0)) :: (b3, .cells [.int .i64 2, .int .i64 0, .int .i64 0, .slice none 0 0, .int .u32 0, .slice none 0 0, .bool false, .slice none 0 0].toArray 72 (0, 0)) :: [(b2, .cells [.int .i64 0, .int .i64 0, .int .i64 0, .slice none 0 0, .int .u32 0, .slice none 0 0, .bool false, .slice none 0 0].toArray 72 (0, 0))]))
      (fun g => g.i ≤ tn ∧ OwnS 5 1 g.xs (.slice ta tn tc) g.hb) (fun g => tn - g.i) ⟨0, _, hb'⟩ ⟨Nat.zero_le _, hown⟩ envA (fun _ h => h.sublist (List.Sublist.append_left (.cons_cons _ (.cons_cons _ (.cons_cons _ (List.nil_sublist _)))) _)) ?_
    rintro ⟨i, xs, hb⟩ ⟨hi, hx⟩
    dsimp only at hi hx ⊢
    repeat' (first | refine S2b ?_ | refine SD ?_ | refine SA (fun _ => ?_) | refine WL.g_split rfl rfl (fun hc => ?_) (fun hc => ?_) | refine WD.g_split rfl rfl (fun hc => ?_) (fun hc => ?_) | refine W.cond rfl (fun hc => ?_) (fun hc => ?_) | refine WL.s rfl (Rd.ldC rfl (Sl.Can.mono (by assumption) (fun _ h => h.sublist findA))) ?_ | refine WD.s rfl (Rd.ldC rfl (Sl.Can.mono (by assumption) (fun _ h => h.sublist findA))) ?_ | fail)
    · have hi' : i < tn := by simp at hc; omega
      obtain ⟨q, oo, rfl⟩ := hx.addr (by omega)
      have hia : 0 ≤ (i : Int) ∧ (i : Int) < tn := by omega
      obtain ⟨hb', hx', hput⟩ := hx.put i [.int .u8 85] (by have := hx.len; simp at this ⊢; omega)
      repeat' (first | refine S2b ?_ | refine SD ?_ | refine SA (fun _ => ?_) | refine WL.g_split rfl rfl (fun hc => ?_) (fun hc => ?_) | refine WD.g_split rfl rfl (fun hc => ?_) (fun hc => ?_) | refine W.cond rfl (fun hc => ?_) (fun hc => ?_) | refine WL.s rfl (Rd.ldC rfl (Sl.Can.mono (by assumption) (fun _ h => h.sublist findA))) ?_ | refine WD.s rfl (Rd.ldC rfl (Sl.Can.mono (by assumption) (fun _ h => h.sublist findA))) ?_ | fail)
      refine WL.e0 (Ef.st rfl rfl rfl (PutAt.left (by simpa using hput))) ?_
      rintro _ _ ⟨rfl, rfl⟩
      repeat' (first | refine S2b ?_ | refine SD ?_ | refine SA (fun _ => ?_) | refine WL.g_split rfl rfl (fun hc => ?_) (fun hc => ?_) | refine WD.g_split rfl rfl (fun hc => ?_) (fun hc => ?_) | refine W.cond rfl (fun hc => ?_) (fun hc => ?_) | refine WL.s rfl (Rd.ldC rfl (Sl.Can.mono (by assumption) (fun _ h => h.sublist findA))) ?_ | refine WD.s rfl (Rd.ldC rfl (Sl.Can.mono (by assumption) (fun _ h => h.sublist findA))) ?_ | fail)
      rw [i64_succ (by omega)]
      exact Fin.round ⟨i + 1, _, hb'⟩ ⟨hi', hx'⟩ envA (fun _ h => h) (by dsimp only; omega)
    · exact Fin.retW (by exact rfl) resA (H' := []) (fun _ h => h.sublist (List.nil_sublist _)) ⟨rfl, rfl⟩
  | false =>
  repeat' (first | refine S2b ?_ | refine SA (fun _ => ?_) | refine WL.g_split rfl rfl (fun hc => ?_) (fun hc => ?_) | refine WD.g_split rfl rfl (fun hc => ?_) (fun hc => ?_) | refine WL.s rfl (Rd.ldC rfl (Sl.Can.mono (by assumption) (fun _ h => h.sublist findA))) ?_ | refine WD.s rfl (Rd.ldC rfl (Sl.Can.mono (by assumption) (fun _ h => h.sublist findA))) ?_ | fail)
  cases h1 : (o.kind == 1) with
  | true =>
    have hk : o.kind = 0 ∨ o.kind = 1 := .inr (by simpa using h1)
    rw [if_pos hk]
    repeat' (first | refine S2b ?_ | refine SD ?_ | refine SA (fun _ => ?_) | refine WL.g_split rfl rfl (fun hc => ?_) (fun hc => ?_) | refine WD.g_split rfl rfl (fun hc => ?_) (fun hc => ?_) | refine W.cond rfl (fun hc => ?_) (fun hc => ?_) | refine WL.s rfl (Rd.ldC rfl (Sl.Can.mono (by assumption) (fun _ h => h.sublist findA))) ?_ | refine WD.s rfl (Rd.ldC rfl (Sl.Can.mono (by assumption) (fun _ h => h.sublist findA))) ?_ | fail)
    rename_i b1 b2 b3 b4
    have hkn := ho.kn
    refine WD.e rfl (Ef.app (m := gs.length) (news := gs.flatMap gC) (hb := [(b4, .cells ([] : List Value).toArray 136 (0, 0))]) (by exact rfl) (by exact rfl) rfl rfl (OwnS.empty _ _ b4) (.one [_] _) (by rw [← hkn]; exact (ho.gaps.src).mono (fun _ h => h.sublist (List.nil_sublist _))) (by rw [flat_len' gC 2 gC_len]) (gC_one gs) (by rw [flat_len' gC 2 gC_len]; simp; omega) (by rw [flat_len' gC 2 gC_len]; simp [maxLen]; omega)) ?_
    rintro v' _ ⟨hb', hown, rfl⟩
    obtain ⟨ta, tn, tc, rfl, _, _⟩ := OwnS.shape hown
    refine ⟨.inr (fun _ h => h.right), ?_⟩
    repeat' (first | refine S2b ?_ | refine SD ?_ | refine SA (fun _ => ?_) | refine WL.g_split rfl rfl (fun hc => ?_) (fun hc => ?_) | refine WD.g_split rfl rfl (fun hc => ?_) (fun hc => ?_) | refine W.cond rfl (fun hc => ?_) (fun hc => ?_) | refine WL.s rfl (Rd.ldC rfl (Sl.Can.mono (by assumption) (fun _ h => h.sublist findA))) ?_ | refine WD.s rfl (Rd.ldC rfl (Sl.Can.mono (by assumption) (fun _ h => h.sublist findA))) ?_ | fail)
    refine WD.e rfl (Ef.callR (by exact rfl) (.nil _) (ssack_nil _ _ o.rwnd ta tn tc none 0 0 now)) ?_
    rintro _ _ ⟨rfl, rfl⟩
    refine ⟨.inl (by kernel_rfl), ?_⟩
    repeat' (first | refine S2b ?_ | refine SD ?_ | refine SA (fun _ => ?_) | refine WL.g_split rfl rfl (fun hc => ?_) (fun hc => ?_) | refine WD.g_split rfl rfl (fun hc => ?_) (fun hc => ?_) | refine W.cond rfl (fun hc => ?_) (fun hc => ?_) | refine WL.s rfl (Rd.ldC rfl (Sl.Can.mono (by assumption) (fun _ h => h.sublist findA))) ?_ | refine WD.s rfl (Rd.ldC rfl (Sl.Can.mono (by assumption) (fun _ h => h.sublist findA))) ?_ | fail)
    exact Fin.retW (by exact rfl) resA (H' := []) (fun _ h => h.sublist (List.nil_sublist _)) ⟨rfl, rfl⟩
  | false =>
  have hk : ¬ (o.kind = 0 ∨ o.kind = 1) := by simp at h0 h1; omega
  rw [if_neg hk]
  repeat' (first | refine S2b ?_ | refine SD ?_ | refine SA (fun _ => ?_) | refine WL.g_split rfl rfl (fun hc => ?_) (fun hc => ?_) | refine WD.g_split rfl rfl (fun hc => ?_) (fun hc => ?_) | refine W.cond rfl (fun hc => ?_) (fun hc => ?_) | refine WL.s rfl (Rd.ldC rfl (Sl.Can.mono (by assumption) (fun _ h => h.sublist findA))) ?_ | refine WD.s rfl (Rd.ldC rfl (Sl.Can.mono (by assumption) (fun _ h => h.sublist findA))) ?_ | fail)
  · refine WL.e rfl (Ef.callR (by exact rfl) (.nil _) (exp_nil _ now)) ?_
    rintro _ _ ⟨rfl, rfl⟩
    repeat' (first | refine S2b ?_ | refine SD ?_ | refine SA (fun _ => ?_) | refine WL.g_split rfl rfl (fun hc => ?_) (fun hc => ?_) | refine WD.g_split rfl rfl (fun hc => ?_) (fun hc => ?_) | refine W.cond rfl (fun hc => ?_) (fun hc => ?_) | refine WL.s rfl (Rd.ldC rfl (Sl.Can.mono (by assumption) (fun _ h => h.sublist findA))) ?_ | refine WD.s rfl (Rd.ldC rfl (Sl.Can.mono (by assumption) (fun _ h => h.sublist findA))) ?_ | fail)
    exact Fin.retW (by exact rfl) resA (H' := []) (fun _ h => h.sublist (List.nil_sublist _)) ⟨rfl, rfl⟩
  · refine WL.e rfl (Ef.callR (by exact rfl) (.nil _) (slate_nil _ now)) ?_
    rintro _ _ ⟨rfl, rfl⟩
    dsimp only [tup]
    repeat' (first | refine S2b ?_ | refine SD ?_ | refine SA (fun _ => ?_) | refine WL.g_split rfl rfl (fun hc => ?_) (fun hc => ?_) | refine WD.g_split rfl rfl (fun hc => ?_) (fun hc => ?_) | refine W.cond rfl (fun hc => ?_) (fun hc => ?_) | refine WL.s rfl (Rd.ldC rfl (Sl.Can.mono (by assumption) (fun _ h => h.sublist findA))) ?_ | refine WD.s rfl (Rd.ldC rfl (Sl.Can.mono (by assumption) (fun _ h => h.sublist findA))) ?_ | fail)
    exact Fin.retW (by exact rfl) resA (H' := []) (fun _ h => h.sublist (List.nil_sublist _)) ⟨rfl, rfl⟩
  · refine WL.e rfl (Ef.callR (by exact rfl) (.nil _) (snx_nil _ now)) ?_
    rintro _ _ ⟨rfl, rfl⟩
    dsimp only [tup]
    repeat' (first | refine S2b ?_ | refine SD ?_ | refine SA (fun _ => ?_) | refine WL.g_split rfl rfl (fun hc => ?_) (fun hc => ?_) | refine WD.g_split rfl rfl (fun hc => ?_) (fun hc => ?_) | refine W.cond rfl (fun hc => ?_) (fun hc => ?_) | refine WL.s rfl (Rd.ldC rfl (Sl.Can.mono (by assumption) (fun _ h => h.sublist findA))) ?_ | refine WD.s rfl (Rd.ldC rfl (Sl.Can.mono (by assumption) (fun _ h => h.sublist findA))) ?_ | fail)
    rename_i b1 b2 b3 _ _
    refine W.loop (G := Unit) (fun _ => [(8, ptr b2), (9, ptr b3), (13, .slice none 0 0), (15, .int .i64 0)]) (fun _ => (b3, .cells (toldV 0 0 0 nilS 0 nilS false nilS).toArray 72 (0, 0)) :: [(b2, .cells (toldV 0 0 0 nilS 0 nilS false nilS).toArray 72 (0, 0))]) (fun _ => True) (fun _ => 0) () trivial envA (fun _ h => h.sublist (.cons_cons _ (.cons_cons _ (List.nil_sublist _)))) ?_
    rintro _ _
    unfold toldV nilS
    repeat' (first | refine S2b ?_ | refine SD ?_ | refine SA (fun _ => ?_) | refine WL.g_split rfl rfl (fun hc => ?_) (fun hc => ?_) | refine WD.g_split rfl rfl (fun hc => ?_) (fun hc => ?_) | refine W.cond rfl (fun hc => ?_) (fun hc => ?_) | refine WL.s rfl (Rd.ldC rfl (Sl.Can.mono (by assumption) (fun _ h => h.sublist findA))) ?_ | refine WD.s rfl (Rd.ldC rfl (Sl.Can.mono (by assumption) (fun _ h => h.sublist findA))) ?_ | fail)
    exact Fin.retW (by exact rfl) resA (H' := []) (fun _ h => h.sublist (List.nil_sublist _)) ⟨rfl, rfl⟩
  · refine WL.e rfl (Ef.callR (by exact rfl) (.nil _) (fwd_nil _ now)) ?_
    rintro _ _ ⟨rfl, rfl⟩
    dsimp only [tup]
    repeat' (first | refine S2b ?_ | refine SD ?_ | refine SA (fun _ => ?_) | refine WL.g_split rfl rfl (fun hc => ?_) (fun hc => ?_) | refine WD.g_split rfl rfl (fun hc => ?_) (fun hc => ?_) | refine W.cond rfl (fun hc => ?_) (fun hc => ?_) | refine WL.s rfl (Rd.ldC rfl (Sl.Can.mono (by assumption) (fun _ h => h.sublist findA))) ?_ | refine WD.s rfl (Rd.ldC rfl (Sl.Can.mono (by assumption) (fun _ h => h.sublist findA))) ?_ | fail)
    exact Fin.retW (by exact rfl) resA (H' := []) (fun _ h => h.sublist (List.nil_sublist _)) ⟨rfl, rfl⟩
  · refine WL.e rfl (Ef.callR (by exact rfl) (.nil _) (sbeat_nil _ now)) ?_
    rintro _ _ ⟨rfl, rfl⟩
    repeat' (first | refine S2b ?_ | refine SD ?_ | refine SA (fun _ => ?_) | refine WL.g_split rfl rfl (fun hc => ?_) (fun hc => ?_) | refine WD.g_split rfl rfl (fun hc => ?_) (fun hc => ?_) | refine W.cond rfl (fun hc => ?_) (fun hc => ?_) | refine WL.s rfl (Rd.ldC rfl (Sl.Can.mono (by assumption) (fun _ h => h.sublist findA))) ?_ | refine WD.s rfl (Rd.ldC rfl (Sl.Can.mono (by assumption) (fun _ h => h.sublist findA))) ?_ | fail)
    exact Fin.retW (by exact rfl) resA (H' := []) (fun _ h => h.sublist (List.nil_sublist _)) ⟨rfl, rfl⟩
  · refine WL.e rfl (Ef.callR (by exact rfl) (.nil _) (sbeaten_nil _ o.path o.life now)) ?_
    rintro _ _ ⟨rfl, rfl⟩
    repeat' (first | refine S2b ?_ | refine SD ?_ | refine SA (fun _ => ?_) | refine WL.g_split rfl rfl (fun hc => ?_) (fun hc => ?_) | refine WD.g_split rfl rfl (fun hc => ?_) (fun hc => ?_) | refine W.cond rfl (fun hc => ?_) (fun hc => ?_) | refine WL.s rfl (Rd.ldC rfl (Sl.Can.mono (by assumption) (fun _ h => h.sublist findA))) ?_ | refine WD.s rfl (Rd.ldC rfl (Sl.Can.mono (by assumption) (fun _ h => h.sublist findA))) ?_ | fail)
    exact Fin.retW (by exact rfl) resA (H' := []) (fun _ h => h.sublist (List.nil_sublist _)) ⟨rfl, rfl⟩
  · exact Fin.retW (by exact rfl) resA (H' := []) (fun _ h => h.sublist (List.nil_sublist _)) ⟨rfl, rfl⟩
end Go.Proofs.YtjbinhihkfidoaaGreat
