/- The law's 'vast' and 'twin', and 'does' where there is no receiver, walked. Conditions: what the things done are in memory. -/
import Derived.Test.YthjglhdjlmjffaaGreatRcE
import Derived.Test.YthjglhdjlmjffaaGreatBb
namespace Go.Proofs.YthjglhdjlmjffaaGreat
open Go Go.Sl Go.Rm

/-- a thing done, as it lies in memory -/
structure Ov where
  kind : Int
  tsn : Int
  stream : Int
  ssn : Int
  un : Bool
  fi : Bool
  la : Bool
  ba : Option Addr
  bn : Nat
  bc : Nat
  cum : Int
  ka : Option Addr
  kn : Nat
  kc : Nat
  now : Int
def Ov.bv (o : Ov) : Value := .slice o.ba o.bn o.bc
def Ov.kv (o : Ov) : Value := .slice o.ka o.kn o.kc
def Ov.cells (o : Ov) : List Value := [.int .i64 o.kind, .int .u32 o.tsn, .int .u16 o.stream, .int .u16 o.ssn, .bool o.un, .bool o.fi, .bool o.la, .slice o.ba o.bn o.bc, .int .u32 o.cum, .slice o.ka o.kn o.kc, .int .i64 o.now]
def vastG : List Ov → Int → Int → Bool
  | [], _, _ => false
  | o :: r, n, k => if n + min (o.bn : Int) 131072 > 32768 ∨ k + min (o.kn : Int) 100 > 12 then true else vastG r (n + min (o.bn : Int) 131072) (k + min (o.kn : Int) 100)
def vast (l : List Ov) : Bool := decide (l.length > 80) || vastG l 0 0
structure VsG where
  i : Nat
  n : Int
  k : Int
set_option maxHeartbeats 4000000 in
theorem vast_tr (F : Nat → Option Obj) (X : HL) (l : List Ov) (ka : Option Addr) (kn kc : Nat) (hl : Lst F X 11 (l.flatMap Ov.cells) ka kn kc) :
    Tr Tryz.prog 4 [.slice ka kn kc].toArray F X (fun v H => v = .bool (vast l) ∧ H = X) := by
  refine Tr.enter Tryz.func4 rfl Tryz.ntmps4 rfl (fun w0 => ?_)
  have hkn : kn = l.length := by have := hl.len; rw [flat_len' Ov.cells 11 (fun _ => rfl)] at this; omega
  repeat' (first | refine S1 ?_ | refine SD ?_ | refine SA (fun _ => ?_) | refine WL.g_split rfl rfl (fun hc => ?_) (fun hc => ?_) | refine WD.g_split rfl rfl (fun hc => ?_) (fun hc => ?_) | refine W.cond rfl (fun hc => ?_) (fun hc => ?_))
  · refine Fin.retW (by exact rfl) resA (fun _ h => h) ⟨?_, rfl⟩
    simp at hc
    simp [tup, vast]
    omega
  have h80 : kn ≤ 80 := by simp at hc; omega
  refine W.loop (G := VsG) (fun g => [(0, .slice ka kn kc), (3, .int .i64 g.n), (4, .int .i64 g.k), (5, .int .i64 g.i)]) (fun _ => X)
    (fun g => g.i ≤ kn ∧ 0 ≤ g.n ∧ g.n ≤ 32768 ∧ 0 ≤ g.k ∧ g.k ≤ 12 ∧ vastG (l.drop g.i) g.n g.k = vastG l 0 0) (fun g => kn - g.i) ⟨0, 0, 0⟩ ⟨Nat.zero_le _, by decide, by decide, by decide, by decide, rfl⟩ envA (fun _ h => h) ?_
  rintro ⟨i, n, k⟩ ⟨hi, hn0, hn1, hk0, hk1, hv⟩
  dsimp only at hi hn0 hn1 hk0 hk1 hv ⊢
  repeat' (first | refine S1 ?_ | refine SD ?_ | refine SA (fun _ => ?_) | refine WL.g_split rfl rfl (fun hc => ?_) (fun hc => ?_) | refine WD.g_split rfl rfl (fun hc => ?_) (fun hc => ?_) | refine W.cond rfl (fun hc => ?_) (fun hc => ?_))
  · have hi' : i < kn := by simp at hc; omega
    obtain ⟨o, ho⟩ : ∃ o, l[i]? = some o := ⟨l[i]'(by omega), by simp⟩
    obtain ⟨b, off, rfl, hcan⟩ := hl.can (by omega)
    have hat := flat_at Ov.cells 11 (fun _ => rfl) l i o ho
    have hsub := hcan.sub (i * 11) 11
    rw [hat] at hsub
    have hia : 0 ≤ (i : Int) ∧ (i : Int) < kn := by omega
    have hC1 : Sl.Can F X b (off + (i : Int).toNat * 11 + 1 + 6) [.slice o.ba o.bn o.bc] := by have := hsub.one (i := 7) (v := .slice o.ba o.bn o.bc) rfl; simpa using this
    have hC2 : Sl.Can F X b (off + (i : Int).toNat * 11 + 8 + 1) [.slice o.ka o.kn o.kc] := by have := hsub.one (i := 9) (v := .slice o.ka o.kn o.kc) rfl; simpa using this
    have hd : l.drop i = o :: l.drop (i + 1) := by rw [List.drop_eq_getElem_cons (by omega), (List.getElem?_eq_some_iff.1 ho).2]
    have e1 : IntKind.i64.wrap (n + if 131072 < (o.bn : Int) then 131072 else (o.bn : Int)) = n + min (o.bn : Int) 131072 := by
      rw [show (if 131072 < (o.bn : Int) then 131072 else (o.bn : Int)) = min (o.bn : Int) 131072 by split <;> omega, i64_id (by omega) (by omega)]
    have e2 : IntKind.i64.wrap (k + if 100 < (o.kn : Int) then 100 else (o.kn : Int)) = k + min (o.kn : Int) 100 := by
      rw [show (if 100 < (o.kn : Int) then 100 else (o.kn : Int)) = min (o.kn : Int) 100 by split <;> omega, i64_id (by omega) (by omega)]
    rw [hd, vastG] at hv
    have hno : vast l = vastG l 0 0 := by unfold vast; rw [show decide (l.length > 80) = false by simp; omega]; rfl
    repeat' (first | refine S1 ?_ | refine SD ?_ | refine SA (fun _ => ?_) | refine WL.g_split rfl rfl (fun hc => ?_) (fun hc => ?_) | refine WD.g_split rfl rfl (fun hc => ?_) (fun hc => ?_) | refine W.cond rfl (fun hc => ?_) (fun hc => ?_))
    · refine Fin.retW (by exact rfl) resA (fun _ h => h) ⟨?_, rfl⟩
      rw [e1] at hc
      rw [hno, ← hv, if_pos (.inl (of_decide_eq_true hc))]
      rfl
    · refine Fin.retW (by exact rfl) resA (fun _ h => h) ⟨?_, rfl⟩
      rw [e2] at hc
      rw [hno, ← hv, if_pos (.inr (of_decide_eq_true hc))]
      rfl
    · rename_i hc1
      rw [e1] at hc1
      rw [e2] at hc
      have g1 := of_decide_eq_false hc1
      have g2 := of_decide_eq_false hc
      rw [if_neg (by omega)] at hv
      rw [e1, e2, i64_succ (by omega)]
      exact Fin.round ⟨i + 1, n + min (o.bn : Int) 131072, k + min (o.kn : Int) 100⟩ ⟨hi', by dsimp only; omega, by dsimp only; omega, by dsimp only; omega, by dsimp only; omega, hv⟩ envA (fun _ h => h) (by dsimp only; omega)
  · have hi' : i = l.length := by simp at hc; omega
    subst hi'
    refine Fin.retW (by exact rfl) resA (fun _ h => h) ⟨?_, rfl⟩
    rw [List.drop_length, vastG] at hv
    unfold vast
    rw [← hv, show decide (l.length > 80) = false by simp; omega]
    rfl
theorem twin_tr (F : Nat → Option Obj) (X : HL) (d : D) (ba : Option Addr) (bn bc : Nat) (hs : Src F X (.slice ba bn bc) d.bytes.length (d.bytes.map B)) (hb : d.bytes.length ≤ 1000000000) :
    Tr Tryz.prog 34 [.agg (dCells d (.slice ba bn bc)).toArray].toArray F X (fun v H' => ∃ sa sn sc hb, v = .agg (dCells d (.slice sa sn sc)).toArray ∧ OwnS 5 1 (d.bytes.map B) (.slice sa sn sc) hb ∧ H' = hb ++ X) := by
  refine Tr.enter Tryz.func34 rfl Tryz.ntmps34 rfl (fun w0 => ?_)
  unfold dCells
  repeat' (first | refine S1 ?_ | refine SD ?_ | refine SA (fun _ => ?_) | refine WL.g_split rfl rfl (fun hc => ?_) (fun hc => ?_) | refine WD.g_split rfl rfl (fun hc => ?_) (fun hc => ?_) | refine W.cond rfl (fun hc => ?_) (fun hc => ?_))
  rename_i b1 b2 b3
  refine WL.e rfl (Ef.app (m := d.bytes.length) (news := d.bytes.map B) (by exact rfl) (by exact rfl) rfl rfl (OwnS.empty _ _ b3) subA (Src.mono hs (fun _ h => h.sublist (.cons _ (.cons _ (.cons _ (.refl _)))))) (by simp) (B_one d.bytes) (by simp; omega) (by simp [maxLen]; omega)) ?_
  rintro v' _ ⟨hb', hown, rfl⟩
  rw [List.nil_append] at hown
  obtain ⟨sa, sn, sc, rfl, _, _⟩ := OwnS.shape hown
  repeat' (first | refine S1 ?_ | refine SD ?_ | refine SA (fun _ => ?_) | refine WL.g_split rfl rfl (fun hc => ?_) (fun hc => ?_) | refine WD.g_split rfl rfl (fun hc => ?_) (fun hc => ?_) | refine W.cond rfl (fun hc => ?_) (fun hc => ?_))
  exact Fin.retW (by exact rfl) resA (H' := hb' ++ X) (fun _ h => h.sublist (.append (.refl _) (.cons _ (.cons _ (.refl _))))) ⟨sa, sn, sc, hb', rfl, hown, rfl⟩
/-- what an Op in memory means: its bytes and its skips -/
structure Ov.Is (F : Nat → Option Obj) (o : Ov) (bs : List UInt8) (ks : List Sk) : Prop where
  bytes : Lst F [] 1 (bs.map B) o.ba o.bn o.bc
  skips : Lst F [] 2 (ks.flatMap skCells) o.ka o.kn o.kc
  tsn : 0 ≤ o.tsn ∧ o.tsn < 4294967296
  stream : 0 ≤ o.stream ∧ o.stream < 65536
  cum : 0 ≤ o.cum ∧ o.cum < 4294967296
  sks : ∀ k ∈ ks, (0 ≤ k.st ∧ k.st < 65536) ∧ 0 ≤ k.n ∧ k.n < 65536
theorem Ov.Is.bn {F : Nat → Option Obj} {o : Ov} {bs : List UInt8} {ks : List Sk} (h : o.Is F bs ks) : o.bn = bs.length := by have := h.bytes.len; simp at this; omega
theorem Ov.Is.kn {F : Nat → Option Obj} {o : Ov} {bs : List UInt8} {ks : List Sk} (h : o.Is F bs ks) : o.kn = ks.length := by have := h.skips.len; rw [flat_len' skCells 2 (fun _ => rfl)] at this; omega
/-- the piece of a thing done, its TSN so far beyond -/
def Ov.D (o : Ov) (cum : Int) (bs : List UInt8) : Rm.D := ⟨Rm.u32 (o.tsn + cum), o.stream, o.ssn, o.un, o.fi, o.la, bs⟩
def toldV (g : Mg) (mv : Value) (is : Bool) (e cum rw : Int) (gv rv : Value) : List Value := [.int .u16 g.stream, .bool g.ordered, mv, .bool is, .int .i64 e, .int .u32 cum, .int .u32 rw, gv, rv]
structure DoG where
  i : Nat
  xs : List Value
  hb : HL
def noMg : Mg := ⟨0, false, []⟩
def nilS : Value := .slice none 0 0
set_option maxHeartbeats 4000000 in
theorem does_nil (F : Nat → Option Obj) (o : Ov) (bs : List UInt8) (ks : List Sk) (ho : o.Is F bs ks) (cum : Int) (hb : bs.length ≤ 1000000000) :
    Tr Tryz.prog 9 [.pointer none, .agg o.cells.toArray, .int .u32 cum].toArray F [] (fun v H => v = .agg (toldV noMg nilS false (if o.kind = 0 then 2 else 0) 0 0 nilS nilS).toArray ∧ H = []) := by
  refine Tr.enter Tryz.func9 rfl Tryz.ntmps9 rfl (fun w0 => ?_)
  unfold Ov.cells
  repeat' (first | refine S1 ?_ | refine SD ?_ | refine SA (fun _ => ?_) | refine WL.g_split rfl rfl (fun hc => ?_) (fun hc => ?_) | refine WD.g_split rfl rfl (fun hc => ?_) (fun hc => ?_) | refine W.cond rfl (fun hc => ?_) (fun hc => ?_))
  · have hk : o.kind = 0 := by simpa using hc
    rename_i b1 b2 b3
    refine WL.e rfl (Ef.callF (by exact rfl) (.nil _) (fun hd => twin_tr _ [] ⟨o.tsn, o.stream, o.ssn, o.un, o.fi, o.la, bs⟩ o.ba o.bn o.bc (by have := (ho.bytes.mono (fun _ h => addF_in hd h)).src; rw [ho.bn] at this ⊢; exact this) hb)) ?_
    rintro _ _ ⟨_, ⟨ta, tn, tc, thb, rfl, hown, rfl⟩, rfl⟩
    rw [List.append_nil]
    unfold dCells
    dsimp only
    refine WL.weak (H' := (b3, _) :: (b2, _) :: (b1, _) :: thb) (fun _ h => h.perm List.perm_append_comm) ?_
    repeat' (first | refine S1 ?_ | refine SD ?_ | refine SA (fun _ => ?_) | refine WL.g_split rfl rfl (fun hc => ?_) (fun hc => ?_) | refine WD.g_split rfl rfl (fun hc => ?_) (fun hc => ?_) | refine W.cond rfl (fun hc => ?_) (fun hc => ?_))
    refine WL.e rfl (Ef.call (by exact rfl) (.nil _) (rdata_nil _ (dCells ⟨Rm.u32 (o.tsn + cum), o.stream, o.ssn, o.un, o.fi, o.la, []⟩ (.slice ta tn tc)) rfl rfl)) ?_
    rintro _ _ ⟨_, ⟨rfl, rfl⟩, rfl⟩
    dsimp only [tup]
    have htn : tn = bs.length := by have := hown.len; simp at this; omega
    rw [List.nil_append]
    repeat' (first | refine S1 ?_ | refine SD ?_ | refine SA (fun _ => ?_) | refine WL.g_split rfl rfl (fun hc => ?_) (fun hc => ?_) | refine WD.g_split rfl rfl (fun hc => ?_) (fun hc => ?_) | refine W.cond rfl (fun hc => ?_) (fun hc => ?_))
    rename_i b4
    refine W.loop (G := DoG) (fun g => [(6, .pointer (some ⟨b2, 0, none⟩)), (7, .pointer (some ⟨b3, 0, none⟩)), (8, .pointer (some ⟨b4, 0, none⟩)), (9, .int .i64 g.i)])
      (fun g => (b4, .cells [.int .u32 (IntKind.u32.wrap (o.tsn + cum)), .int .u16 o.stream, .int .u16 o.ssn, .bool o.un, .bool o.fi, .bool o.la, .slice ta tn tc].toArray 48 (0, 0)) :: (b3, .cells [.int .u16 0, .bool false, .slice none 0 0, .bool false, .int .i64 2, .int .u32 0, .int .u32 0, .slice none 0 0, .slice none 0 0].toArray 45 (0, 0)) :: (b2, .cells [.int .u16 0, .bool false, .slice none 0 0, .bool false, .int .i64 0, .int .u32 0, .int .u32 0, .slice none 0 0, .slice none 0 0].toArray 45 (0, 0)) :: g.hb)
      (fun g => g.i ≤ tn ∧ OwnS 5 1 g.xs (.slice ta tn tc) g.hb) (fun g => tn - g.i) ⟨0, _, thb⟩ ⟨Nat.zero_le _, hown⟩ envA (fun _ h => h.sublist (.cons_cons _ (.cons_cons _ (.cons_cons _ (.cons _ (.refl _)))))) ?_
    rintro ⟨i, xs, hb⟩ ⟨hi, hx⟩
    dsimp only at hi hx ⊢
    repeat' (first | refine S1 ?_ | refine SD ?_ | refine SA (fun _ => ?_) | refine WL.g_split rfl rfl (fun hc => ?_) (fun hc => ?_) | refine WD.g_split rfl rfl (fun hc => ?_) (fun hc => ?_) | refine W.cond rfl (fun hc => ?_) (fun hc => ?_))
    · have hi' : i < tn := by simp at hc; omega
      obtain ⟨q, oo, rfl⟩ := hx.addr (by omega)
      have hia : 0 ≤ (i : Int) ∧ (i : Int) < tn := by omega
      obtain ⟨hb', hx', hput⟩ := hx.put i [.int .u8 85] (by have := hx.len; simp at this ⊢; omega)
      repeat' (first | refine S1 ?_ | refine SD ?_ | refine SA (fun _ => ?_) | refine WL.g_split rfl rfl (fun hc => ?_) (fun hc => ?_) | refine WD.g_split rfl rfl (fun hc => ?_) (fun hc => ?_) | refine W.cond rfl (fun hc => ?_) (fun hc => ?_))
      refine WL.e0 (Ef.st rfl rfl rfl (PutAt.there (PutAt.there (PutAt.there (by simpa using hput))))) ?_
      rintro _ _ ⟨rfl, rfl⟩
      repeat' (first | refine S1 ?_ | refine SD ?_ | refine SA (fun _ => ?_) | refine WL.g_split rfl rfl (fun hc => ?_) (fun hc => ?_) | refine WD.g_split rfl rfl (fun hc => ?_) (fun hc => ?_) | refine W.cond rfl (fun hc => ?_) (fun hc => ?_))
      rw [i64_succ (by omega)]
      exact Fin.round ⟨i + 1, _, hb'⟩ ⟨hi', hx'⟩ envA (fun _ h => h) (by dsimp only; omega)
    · exact Fin.retW (by exact rfl) resA (H' := []) (fun _ h => h.sublist (List.nil_sublist _)) ⟨by rw [if_pos hk]; rfl, rfl⟩
  · refine WL.e rfl (Ef.callR (by exact rfl) (.nil _) (rforward_nil _ [.int .u32 (IntKind.u32.wrap (o.cum + cum)), .slice o.ka o.kn o.kc] rfl)) ?_
    rintro _ _ ⟨rfl, rfl⟩
    repeat' (first | refine S1 ?_ | refine SD ?_ | refine SA (fun _ => ?_) | refine WL.g_split rfl rfl (fun hc => ?_) (fun hc => ?_) | refine WD.g_split rfl rfl (fun hc => ?_) (fun hc => ?_) | refine W.cond rfl (fun hc => ?_) (fun hc => ?_))
    exact Fin.retW (by exact rfl) resA (H' := []) (fun _ h => h.sublist (List.nil_sublist _)) ⟨by rw [if_neg (by simpa using ‹(o.kind == 0) = false›)]; rfl, rfl⟩
  · refine WL.e rfl (Ef.callR (by exact rfl) (.nil _) (rend_nil _ o.now)) ?_
    rintro _ _ ⟨rfl, rfl⟩
    repeat' (first | refine S1 ?_ | refine SD ?_ | refine SA (fun _ => ?_) | refine WL.g_split rfl rfl (fun hc => ?_) (fun hc => ?_) | refine WD.g_split rfl rfl (fun hc => ?_) (fun hc => ?_) | refine W.cond rfl (fun hc => ?_) (fun hc => ?_))
    exact Fin.retW (by exact rfl) resA (H' := []) (fun _ h => h.sublist (List.nil_sublist _)) ⟨by rw [if_neg (by simpa using ‹(o.kind == 0) = false›)]; rfl, rfl⟩
  · refine WL.e rfl (Ef.callR (by exact rfl) (.nil _) (rsack_nil _)) ?_
    rintro _ _ ⟨rfl, rfl⟩
    repeat' (first | refine S1 ?_ | refine SD ?_ | refine SA (fun _ => ?_) | refine WL.g_split rfl rfl (fun hc => ?_) (fun hc => ?_) | refine WD.g_split rfl rfl (fun hc => ?_) (fun hc => ?_) | refine W.cond rfl (fun hc => ?_) (fun hc => ?_))
    exact Fin.retW (by exact rfl) resA (H' := []) (fun _ h => h.sublist (List.nil_sublist _)) ⟨by rw [if_neg (by simpa using ‹(o.kind == 0) = false›)]; rfl, rfl⟩
  · refine WL.e rfl (Ef.callR (by exact rfl) (.nil _) (rtake_nil _)) ?_
    rintro _ _ ⟨rfl, rfl⟩
    dsimp only [tup]
    repeat' (first | refine S1 ?_ | refine SD ?_ | refine SA (fun _ => ?_) | refine WL.g_split rfl rfl (fun hc => ?_) (fun hc => ?_) | refine WD.g_split rfl rfl (fun hc => ?_) (fun hc => ?_) | refine W.cond rfl (fun hc => ?_) (fun hc => ?_))
    exact Fin.retW (by exact rfl) resA (H' := []) (fun _ h => h.sublist (List.nil_sublist _)) ⟨by rw [if_neg (by simpa using ‹(o.kind == 0) = false›)]; rfl, rfl⟩
  · exact Fin.retW (by exact rfl) resA (H' := []) (fun _ h => h.sublist (List.nil_sublist _)) ⟨by rw [if_neg (by simpa using ‹(o.kind == 0) = false›)]; rfl, rfl⟩
end Go.Proofs.YthjglhdjlmjffaaGreat
