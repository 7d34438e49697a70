/- The law's 'Vast', and 'does' where there is no end, walked. Conditions: what the thing done is in memory. -/
import Derived.Test.YtpiabbfckfoppaaGreatDoorBuD
import Derived.Test.YtpiabbfckfoppaaGreatDoorBuC
import Derived.Test.YtpiabbfckfoppaaGreatDoorTy
namespace Go.Proofs.YtpiabbfckfoppaaGreatDoor
open Go Go.Sl

theorem eopen_nil (F : Nat → Option Obj) (now : Int) (ac : Bool) (tag tsn : Int) : Tr Tryz.prog 20 [.pointer none, .int .i64 now, .bool ac, .int .u32 tag, .int .u32 tsn].toArray F [] (fun v H => v = .int .i64 2 ∧ H = []) := by
  refine Tr.enter Tryz.func20 rfl Tryz.ntmps20 rfl (fun w0 => ?_)
  repeat' (first | refine S2b ?_ | refine SD ?_ | refine SA (fun _ => ?_) | refine G1 (fun hc => ?_) (fun hc => ?_) | refine G2 (fun hc => ?_) (fun hc => ?_) | refine G3 (fun hc => ?_) (fun hc => ?_) | refine SL ?_ | fail)
  exact Fin.retW (by exact rfl) resA (H' := []) (fun _ h => h.sublist (List.nil_sublist _)) ⟨rfl, rfl⟩
theorem esend_nil (F : Nat → Option Obj) (now : Int) (m : List Value) (life : Int) : Tr Tryz.prog 16 [.pointer none, .int .i64 now, .agg m.toArray, .int .i64 life].toArray F [] (fun v H => v = .int .i64 2 ∧ H = []) := by
  refine Tr.enter Tryz.func16 rfl Tryz.ntmps16 rfl (fun w0 => ?_)
  repeat' (first | refine S2b ?_ | refine SD ?_ | refine SA (fun _ => ?_) | refine G1 (fun hc => ?_) (fun hc => ?_) | refine G2 (fun hc => ?_) (fun hc => ?_) | refine G3 (fun hc => ?_) (fun hc => ?_) | refine SL ?_ | fail)
  exact Fin.retW (by exact rfl) resA (H' := []) (fun _ h => h.sublist (List.nil_sublist _)) ⟨rfl, rfl⟩
theorem erecv_nil (F : Nat → Option Obj) (now : Int) : Tr Tryz.prog 18 [.pointer none, .int .i64 now].toArray F [] (fun v H => v = tup [.agg [.int .u16 0, .bool false, .slice none 0 0].toArray, .bool false] ∧ H = []) := by
  refine Tr.enter Tryz.func18 rfl Tryz.ntmps18 rfl (fun w0 => ?_)
  repeat' (first | refine S2b ?_ | refine SD ?_ | refine SA (fun _ => ?_) | refine G1 (fun hc => ?_) (fun hc => ?_) | refine G2 (fun hc => ?_) (fun hc => ?_) | refine G3 (fun hc => ?_) (fun hc => ?_) | refine SL ?_ | fail)
  exact Fin.retW (by exact rfl) resA (H' := []) (fun _ h => h.sublist (List.nil_sublist _)) ⟨rfl, rfl⟩
theorem eshut_nil (F : Nat → Option Obj) (now : Int) : Tr Tryz.prog 21 [.pointer none, .int .i64 now].toArray F [] (fun v H => v = .int .i64 2 ∧ H = []) := by
  refine Tr.enter Tryz.func21 rfl Tryz.ntmps21 rfl (fun w0 => ?_)
  repeat' (first | refine S2b ?_ | refine SD ?_ | refine SA (fun _ => ?_) | refine G1 (fun hc => ?_) (fun hc => ?_) | refine G2 (fun hc => ?_) (fun hc => ?_) | refine G3 (fun hc => ?_) (fun hc => ?_) | refine SL ?_ | fail)
  exact Fin.retW (by exact rfl) resA (H' := []) (fun _ h => h.sublist (List.nil_sublist _)) ⟨rfl, rfl⟩
theorem eabort_nil (F : Nat → Option Obj) (now : Int) : Tr Tryz.prog 22 [.pointer none, .int .i64 now].toArray F [] (fun v H => v = .int .i64 2 ∧ H = []) := by
  refine Tr.enter Tryz.func22 rfl Tryz.ntmps22 rfl (fun w0 => ?_)
  repeat' (first | refine S2b ?_ | refine SD ?_ | refine SA (fun _ => ?_) | refine G1 (fun hc => ?_) (fun hc => ?_) | refine G2 (fun hc => ?_) (fun hc => ?_) | refine G3 (fun hc => ?_) (fun hc => ?_) | refine SL ?_ | fail)
  exact Fin.retW (by exact rfl) resA (H' := []) (fun _ h => h.sublist (List.nil_sublist _)) ⟨rfl, rfl⟩
theorem etick_nil (F : Nat → Option Obj) (now : Int) : Tr Tryz.prog 23 [.pointer none, .int .i64 now].toArray F [] (fun v H => v = .tuple #[] ∧ H = []) := by
  refine Tr.enter Tryz.func23 rfl Tryz.ntmps23 rfl (fun w0 => ?_)
  repeat' (first | refine S2b ?_ | refine SD ?_ | refine SA (fun _ => ?_) | refine G1 (fun hc => ?_) (fun hc => ?_) | refine G2 (fun hc => ?_) (fun hc => ?_) | refine G3 (fun hc => ?_) (fun hc => ?_) | refine SL ?_ | fail)
  exact Fin.retW (by exact rfl) resA (H' := []) (fun _ h => h.sublist (List.nil_sublist _)) ⟨rfl, rfl⟩
theorem einput_nil (F : Nat → Option Obj) (now p : Int) (ta : Option Addr) (tn tc : Nat) : Tr Tryz.prog 19 [.pointer none, .int .i64 now, .int .i64 p, .slice ta tn tc].toArray F [] (fun v H => v = .int .i64 2 ∧ H = []) := by
  refine Tr.enter Tryz.func19 rfl Tryz.ntmps19 rfl (fun w0 => ?_)
  repeat' (first | refine S2b ?_ | refine SD ?_ | refine SA (fun _ => ?_) | refine G1 (fun hc => ?_) (fun hc => ?_) | refine G2 (fun hc => ?_) (fun hc => ?_) | refine G3 (fun hc => ?_) (fun hc => ?_) | refine SL ?_ | fail)
  exact Fin.retW (by exact rfl) resA (H' := []) (fun _ h => h.sublist (List.nil_sublist _)) ⟨rfl, rfl⟩
theorem ewhen_nil (F : Nat → Option Obj) : Tr Tryz.prog 7 [.pointer none].toArray F [] (fun v H => v = tup [.int .i64 0, .bool false] ∧ H = []) := by
  refine Tr.enter Tryz.func7 rfl Tryz.ntmps7 rfl (fun w0 => ?_)
  repeat' (first | refine S2b ?_ | refine SD ?_ | refine SA (fun _ => ?_) | refine G1 (fun hc => ?_) (fun hc => ?_) | refine G2 (fun hc => ?_) (fun hc => ?_) | refine G3 (fun hc => ?_) (fun hc => ?_) | refine SL ?_ | fail)
  exact Fin.retW (by exact rfl) resA (H' := []) (fun _ h => h.sublist (List.nil_sublist _)) ⟨rfl, rfl⟩
theorem epath_nil (F : Nat → Option Obj) (k : Int) : Tr Tryz.prog 8 [.pointer none, .int .i64 k].toArray F [] (fun v H => v = tup [.int .i64 0, .int .i64 0, .int .i64 0, .bool false] ∧ H = []) := by
  refine Tr.enter Tryz.func8 rfl Tryz.ntmps8 rfl (fun w0 => ?_)
  repeat' (first | refine S2b ?_ | refine SD ?_ | refine SA (fun _ => ?_) | refine G1 (fun hc => ?_) (fun hc => ?_) | refine G2 (fun hc => ?_) (fun hc => ?_) | refine G3 (fun hc => ?_) (fun hc => ?_) | refine SL ?_ | fail)
  exact Fin.retW (by exact rfl) resA (H' := []) (fun _ h => h.sublist (List.nil_sublist _)) ⟨rfl, rfl⟩
theorem estate_nil (F : Nat → Option Obj) : Tr Tryz.prog 10 [.pointer none].toArray F [] (fun v H => v = .int .u8 0 ∧ H = []) := by
  refine Tr.enter Tryz.func10 rfl Tryz.ntmps10 rfl (fun w0 => ?_)
  repeat' (first | refine S2b ?_ | refine SD ?_ | refine SA (fun _ => ?_) | refine G1 (fun hc => ?_) (fun hc => ?_) | refine G2 (fun hc => ?_) (fun hc => ?_) | refine G3 (fun hc => ?_) (fun hc => ?_) | refine SL ?_ | fail)
  exact Fin.retW (by exact rfl) resA (H' := []) (fun _ h => h.sublist (List.nil_sublist _)) ⟨rfl, rfl⟩
theorem eoutput_nil (F : Nat → Option Obj) : Tr Tryz.prog 11 [.pointer none].toArray F [] (fun v H => v = .slice none 0 0 ∧ H = []) := by
  refine Tr.enter Tryz.func11 rfl Tryz.ntmps11 rfl (fun w0 => ?_)
  repeat' (first | refine S2b ?_ | refine SD ?_ | refine SA (fun _ => ?_) | refine G1 (fun hc => ?_) (fun hc => ?_) | refine G2 (fun hc => ?_) (fun hc => ?_) | refine G3 (fun hc => ?_) (fun hc => ?_) | refine SL ?_ | fail)
  exact Fin.retW (by exact rfl) resA (H' := []) (fun _ h => h.sublist (List.nil_sublist _)) ⟨rfl, rfl⟩
theorem eheld_nil (F : Nat → Option Obj) : Tr Tryz.prog 12 [.pointer none].toArray F [] (fun v H => v = .int .i64 0 ∧ H = []) := by
  refine Tr.enter Tryz.func12 rfl Tryz.ntmps12 rfl (fun w0 => ?_)
  repeat' (first | refine S2b ?_ | refine SD ?_ | refine SA (fun _ => ?_) | refine G1 (fun hc => ?_) (fun hc => ?_) | refine G2 (fun hc => ?_) (fun hc => ?_) | refine G3 (fun hc => ?_) (fun hc => ?_) | refine SL ?_ | fail)
  exact Fin.retW (by exact rfl) resA (H' := []) (fun _ h => h.sublist (List.nil_sublist _)) ⟨rfl, rfl⟩
/-- a thing done, as it lies in memory -/
structure Ov where
  kind : Int
  end_ : Int
  wait : Int
  active : Bool
  tag : Int
  tsn : Int
  stream : Int
  ord : Bool
  ba : Option Addr
  bn : Nat
  bc : Nat
  life : Int
  path : Int
  ka : Option Addr
  kn : Nat
  kc : Nat
  n : Int
  by_ : Bool
def Ov.cells (o : Ov) : List Value := [.int .i64 o.kind, .int .u8 o.end_, .int .u16 o.wait, .bool o.active, .int .u32 o.tag, .int .u32 o.tsn, .int .u16 o.stream, .bool o.ord, .slice o.ba o.bn o.bc, .int .i64 o.life, .int .i64 o.path, .slice o.ka o.kn o.kc, .int .i64 o.n, .bool o.by_]
def vastG : List Ov → Int → Bool
  | [], _ => false
  | o :: r, n => if n + min (o.bn : Int) 131072 + min (o.kn : Int) 131072 > 32768 then true else vastG r (n + min (o.bn : Int) 131072 + min (o.kn : Int) 131072)
def vast (l : List Ov) : Bool := decide (l.length > 120) || vastG l 0
structure VsG where
  i : Nat
  n : Int
set_option maxHeartbeats 4000000 in
theorem vast_tr (F : Nat → Option Obj) (X : HL) (l : List Ov) (ka : Option Addr) (kn kc : Nat) (hl : Lst F X 14 (l.flatMap Ov.cells) ka kn kc) :
    Tr Tryz.prog 4 [.slice ka kn kc].toArray F X (fun v H => v = .bool (vast l) ∧ H = X) := by
  refine Tr.enter Tryz.func4 rfl Tryz.ntmps4 rfl (fun w0 => ?_)
  have hkn : kn = l.length := by have := hl.len; rw [flat_len' Ov.cells 14 (fun _ => rfl)] at this; omega
  repeat' (first | refine S2b ?_ | refine SD ?_ | refine SA (fun _ => ?_) | refine G1 (fun hc => ?_) (fun hc => ?_) | refine G2 (fun hc => ?_) (fun hc => ?_) | refine G3 (fun hc => ?_) (fun hc => ?_) | refine SL ?_ | fail)
  · refine Fin.retW (by exact rfl) resA (fun _ h => h) ⟨?_, rfl⟩
    simp at hc
    simp [tup, vast]
    omega
  have h80 : kn ≤ 120 := by simp at hc; omega
  refine W.loop (G := VsG) (fun g => [(0, .slice ka kn kc), (3, .int .i64 g.n), (4, .int .i64 g.i)]) (fun _ => X)
    (fun g => g.i ≤ kn ∧ 0 ≤ g.n ∧ g.n ≤ 32768 ∧ vastG (l.drop g.i) g.n = vastG l 0) (fun g => kn - g.i) ⟨0, 0⟩ ⟨Nat.zero_le _, by decide, by decide, rfl⟩ envA (fun _ h => h) ?_
  rintro ⟨i, n⟩ ⟨hi, hn0, hn1, hv⟩
  dsimp only at hi hn0 hn1 hv ⊢
  repeat' (first | refine S2b ?_ | refine SD ?_ | refine SA (fun _ => ?_) | refine G1 (fun hc => ?_) (fun hc => ?_) | refine G2 (fun hc => ?_) (fun hc => ?_) | refine G3 (fun hc => ?_) (fun hc => ?_) | refine SL ?_ | fail)
  · have hi' : i < kn := by simp at hc; omega
    obtain ⟨o, ho⟩ : ∃ o, l[i]? = some o := ⟨l[i]'(by omega), by simp⟩
    obtain ⟨b, off, rfl, hcan⟩ := hl.can (by omega)
    have hat := flat_at Ov.cells 14 (fun _ => rfl) l i o ho
    have hsub := hcan.sub (i * 14) 14
    rw [hat] at hsub
    have hia : 0 ≤ (i : Int) ∧ (i : Int) < kn := by omega
    have hC1 : Sl.Can F X b (off + (i : Int).toNat * 14 + 6 + 2) [.slice o.ba o.bn o.bc] := by have := hsub.one (i := 8) (v := .slice o.ba o.bn o.bc) rfl; simpa using this
    have hC2 : Sl.Can F X b (off + (i : Int).toNat * 14 + 11) [.slice o.ka o.kn o.kc] := by have := hsub.one (i := 11) (v := .slice o.ka o.kn o.kc) rfl; simpa using this
    have hd : l.drop i = o :: l.drop (i + 1) := by rw [List.drop_eq_getElem_cons (by omega), (List.getElem?_eq_some_iff.1 ho).2]
    have e0 : ∀ q : Nat, (if 131072 < (q : Int) then (131072 : Int) else (q : Int)) = min (q : Int) 131072 := fun q => by split <;> omega
    have e1 : IntKind.i64.wrap (IntKind.i64.wrap (n + if 131072 < (o.bn : Int) then 131072 else (o.bn : Int)) + if 131072 < (o.kn : Int) then 131072 else (o.kn : Int)) = n + min (o.bn : Int) 131072 + min (o.kn : Int) 131072 := by
      rw [e0, e0, i64_id (n := n + min (o.bn : Int) 131072) (by omega) (by omega), i64_id (by omega) (by omega)]
    rw [hd, vastG] at hv
    have hno : vast l = vastG l 0 := by unfold vast; rw [show decide (l.length > 120) = false by simp; omega]; rfl
    repeat' (first | refine S2b ?_ | refine SD ?_ | refine SA (fun _ => ?_) | refine G1 (fun hc => ?_) (fun hc => ?_) | refine G2 (fun hc => ?_) (fun hc => ?_) | refine G3 (fun hc => ?_) (fun hc => ?_) | refine SL ?_ | fail)
    · refine Fin.retW (by exact rfl) resA (fun _ h => h) ⟨?_, rfl⟩
      rw [e1] at hc
      rw [hno, ← hv, if_pos (of_decide_eq_true hc)]
      rfl
    · rw [e1] at hc
      have g1 := of_decide_eq_false hc
      rw [if_neg (by omega)] at hv
      rw [e1, i64_succ (by omega)]
      exact Fin.round ⟨i + 1, n + min (o.bn : Int) 131072 + min (o.kn : Int) 131072⟩ ⟨hi', by dsimp only; omega, by dsimp only; omega, hv⟩ envA (fun _ h => h) (by dsimp only; omega)
  · have hi' : i = l.length := by simp at hc; omega
    subst hi'
    refine Fin.retW (by exact rfl) resA (fun _ h => h) ⟨?_, rfl⟩
    rw [List.drop_length, vastG] at hv
    unfold vast
    rw [← hv, show decide (l.length > 120) = false by simp; omega]
    rfl
/-- what an Op in memory means: its bytes -/
structure Ov.Is (F : Nat → Option Obj) (o : Ov) (bs ks : List UInt8) : Prop where
  bytes : Lst F [] 1 (bs.map B) o.ba o.bn o.bc
  packet : Lst F [] 1 (ks.map B) o.ka o.kn o.kc
theorem Ov.Is.bn {F : Nat → Option Obj} {o : Ov} {bs ks : List UInt8} (h : o.Is F bs ks) : o.bn = bs.length := by have := h.bytes.len; simp at this; omega
theorem Ov.Is.kn {F : Nat → Option Obj} {o : Ov} {bs ks : List UInt8} (h : o.Is F bs ks) : o.kn = ks.length := by have := h.packet.len; simp at this; omega
theorem Ov.Is.mono {F F' : Nat → Option Obj} {o : Ov} {bs ks : List UInt8} (h : o.Is F bs ks) (hw : ∀ w, In F' [] w → In F [] w) : o.Is F' bs ks := ⟨h.bytes.mono hw, h.packet.mono hw⟩
def msg0 : Value := .agg [.int .u16 0, .bool false, .slice none 0 0].toArray
def refused (k : Int) : Bool := k == 0 || k == 1 || k == 3 || k == 4 || k == 6
structure DoG where
  i : Nat
  xs : List Value
  hb : HL
set_option maxHeartbeats 8000000 in
theorem does_nil (F : Nat → Option Obj) (o : Ov) (bs ks : List UInt8) (ho : o.Is F bs ks) (now : Int) (hb : bs.length ≤ 1000000000) (hk : ks.length ≤ 1000000000) :
    Tr Tryz.prog 6 [.pointer none, .agg o.cells.toArray, .int .i64 now].toArray F [] (fun v H => v = tup [msg0, .bool false, .int .i64 (if refused o.kind then 2 else 0)] ∧ H = []) := by
  refine Tr.enter Tryz.func6 rfl Tryz.ntmps6 rfl (fun w0 => ?_)
  unfold Ov.cells
  repeat' (first | refine S2b ?_ | refine SA (fun _ => ?_) | refine G1 (fun hc => ?_) (fun hc => ?_) | refine G2 (fun hc => ?_) (fun hc => ?_) | refine SL ?_ | fail)
  cases h0 : (o.kind == 0) with
  | true =>
    repeat' (first | refine S2b ?_ | refine SD ?_ | refine SA (fun _ => ?_) | refine G1 (fun hc => ?_) (fun hc => ?_) | refine G2 (fun hc => ?_) (fun hc => ?_) | refine G3 (fun hc => ?_) (fun hc => ?_) | refine SL ?_ | fail)
    refine WL.e rfl (Ef.callR (by exact rfl) (.nil _) (eopen_nil _ now o.active o.tag o.tsn)) ?_
    rintro _ _ ⟨rfl, rfl⟩
    repeat' (first | refine S2b ?_ | refine SD ?_ | refine SA (fun _ => ?_) | refine G1 (fun hc => ?_) (fun hc => ?_) | refine G2 (fun hc => ?_) (fun hc => ?_) | refine G3 (fun hc => ?_) (fun hc => ?_) | refine SL ?_ | fail)
    exact Fin.retW (by exact rfl) resA (H' := []) (fun _ h => h.sublist (List.nil_sublist _)) ⟨by first | (simp [tup, msg0, refused, *]; done) | (simp [tup, msg0, refused, *]; simp at *; omega), rfl⟩
  | false =>
  repeat' (first | refine S2b ?_ | refine SA (fun _ => ?_) | refine G1 (fun hc => ?_) (fun hc => ?_) | refine G2 (fun hc => ?_) (fun hc => ?_) | refine SL ?_ | fail)
  cases h1 : (o.kind == 1) with
  | true =>
    repeat' (first | refine S2b ?_ | refine SD ?_ | refine SA (fun _ => ?_) | refine G1 (fun hc => ?_) (fun hc => ?_) | refine G2 (fun hc => ?_) (fun hc => ?_) | refine G3 (fun hc => ?_) (fun hc => ?_) | refine SL ?_ | fail)
    rename_i b1 b2 b3 b4
    have hbn := ho.bn
    refine WL.e rfl (Ef.app (m := bs.length) (news := bs.map B) (hb := [(b4, .cells ([] : List Value).toArray 5 (0, 0))]) (by exact rfl) (by exact rfl) rfl rfl (OwnS.empty _ _ b4) (.one [_] _) (by rw [← hbn]; exact (ho.bytes.src).mono (fun _ h => h.sublist (List.nil_sublist _))) (by simp) (B_one bs) (by simp; omega) (by simp [maxLen]; omega)) ?_
    rintro v' _ ⟨hb', hown, rfl⟩
    rw [List.nil_append] at hown
    obtain ⟨ta, tn, tc, rfl, _, _⟩ := OwnS.shape hown
    have htn : tn = bs.length := by have := hown.len; simp at this; omega
    repeat' (first | refine S2b ?_ | refine SD ?_ | refine SA (fun _ => ?_) | refine G1 (fun hc => ?_) (fun hc => ?_) | refine G2 (fun hc => ?_) (fun hc => ?_) | refine G3 (fun hc => ?_) (fun hc => ?_) | refine SL ?_ | fail)
    refine WL.e rfl (Ef.callR (by exact rfl) (.nil _) (esend_nil _ now [.int .u16 o.stream, .bool o.ord, .slice ta tn tc] o.life)) ?_
    rintro _ _ ⟨rfl, rfl⟩
    repeat' (first | refine S2b ?_ | refine SD ?_ | refine SA (fun _ => ?_) | refine G1 (fun hc => ?_) (fun hc => ?_) | refine G2 (fun hc => ?_) (fun hc => ?_) | refine G3 (fun hc => ?_) (fun hc => ?_) | refine SL ?_ | fail)
    refine W.loop (G := DoG) (fun g => [(6, .pointer (some ⟨b2, 0, none⟩)), (9, .pointer (some ⟨b3, 0, none⟩)), (10, .int .i64 2), (11, .int .i64 g.i)])
      (fun g => g.hb ++ ((b3, .cells [.int .u16 o.stream, .bool o.ord, .slice ta tn tc].toArray 26 (0, 0)) :: [(b2, .cells [.int .u16 0, .bool false, .slice none 0 0].toArray 26 (0, 0))]))
      (fun g => g.i ≤ tn ∧ OwnS 5 1 g.xs (.slice ta tn tc) g.hb) (fun g => tn - g.i) ⟨0, _, hb'⟩ ⟨Nat.zero_le _, hown⟩ envA (fun _ h => h.sublist (List.Sublist.append_left (.cons_cons _ (.cons_cons _ (List.nil_sublist _))) _)) ?_
    rintro ⟨i, xs, hb⟩ ⟨hi, hx⟩
    dsimp only at hi hx ⊢
    repeat' (first | refine S2b ?_ | refine SD ?_ | refine SA (fun _ => ?_) | refine G1 (fun hc => ?_) (fun hc => ?_) | refine G2 (fun hc => ?_) (fun hc => ?_) | refine G3 (fun hc => ?_) (fun hc => ?_) | refine SL ?_ | fail)
    · have hi' : i < tn := by simp at hc; omega
      obtain ⟨q, oo, rfl⟩ := hx.addr (by omega)
      have hia : 0 ≤ (i : Int) ∧ (i : Int) < tn := by omega
      obtain ⟨hb', hx', hput⟩ := hx.put i [.int .u8 85] (by have := hx.len; simp at this ⊢; omega)
      repeat' (first | refine S2b ?_ | refine SD ?_ | refine SA (fun _ => ?_) | refine G1 (fun hc => ?_) (fun hc => ?_) | refine G2 (fun hc => ?_) (fun hc => ?_) | refine G3 (fun hc => ?_) (fun hc => ?_) | refine SL ?_ | fail)
      refine WL.e0 (Ef.st rfl rfl rfl (PutAt.left (by simpa using hput))) ?_
      rintro _ _ ⟨rfl, rfl⟩
      repeat' (first | refine S2b ?_ | refine SD ?_ | refine SA (fun _ => ?_) | refine G1 (fun hc => ?_) (fun hc => ?_) | refine G2 (fun hc => ?_) (fun hc => ?_) | refine G3 (fun hc => ?_) (fun hc => ?_) | refine SL ?_ | fail)
      rw [i64_succ (by omega)]
      exact Fin.round ⟨i + 1, _, hb'⟩ ⟨hi', hx'⟩ envA (fun _ h => h) (by dsimp only; omega)
    ·
      exact Fin.retW (by exact rfl) resA (H' := []) (fun _ h => h.sublist (List.nil_sublist _)) ⟨by first | (simp [tup, msg0, refused, *]; done) | (simp [tup, msg0, refused, *]; simp at *; omega), rfl⟩
  | false =>
  repeat' (first | refine S2b ?_ | refine SA (fun _ => ?_) | refine G1 (fun hc => ?_) (fun hc => ?_) | refine G2 (fun hc => ?_) (fun hc => ?_) | refine SL ?_ | fail)
  cases h2 : (o.kind == 2) with
  | true =>
    repeat' (first | refine S2b ?_ | refine SD ?_ | refine SA (fun _ => ?_) | refine G1 (fun hc => ?_) (fun hc => ?_) | refine G2 (fun hc => ?_) (fun hc => ?_) | refine G3 (fun hc => ?_) (fun hc => ?_) | refine SL ?_ | fail)
    refine WL.e rfl (Ef.callR (by exact rfl) (.nil _) (erecv_nil _ now)) ?_
    rintro _ _ ⟨rfl, rfl⟩
    dsimp only [tup]
    repeat' (first | refine S2b ?_ | refine SD ?_ | refine SA (fun _ => ?_) | refine G1 (fun hc => ?_) (fun hc => ?_) | refine G2 (fun hc => ?_) (fun hc => ?_) | refine G3 (fun hc => ?_) (fun hc => ?_) | refine SL ?_ | fail)
    exact Fin.retW (by exact rfl) resA (H' := []) (fun _ h => h.sublist (List.nil_sublist _)) ⟨by first | (simp [tup, msg0, refused, *]; done) | (simp [tup, msg0, refused, *]; simp at *; omega), rfl⟩
  | false =>
  repeat' (first | refine S2b ?_ | refine SA (fun _ => ?_) | refine G1 (fun hc => ?_) (fun hc => ?_) | refine G2 (fun hc => ?_) (fun hc => ?_) | refine SL ?_ | fail)
  cases h3 : (o.kind == 3) with
  | true =>
    repeat' (first | refine S2b ?_ | refine SD ?_ | refine SA (fun _ => ?_) | refine G1 (fun hc => ?_) (fun hc => ?_) | refine G2 (fun hc => ?_) (fun hc => ?_) | refine G3 (fun hc => ?_) (fun hc => ?_) | refine SL ?_ | fail)
    refine WL.e rfl (Ef.callR (by exact rfl) (.nil _) (eshut_nil _ now)) ?_
    rintro _ _ ⟨rfl, rfl⟩
    repeat' (first | refine S2b ?_ | refine SD ?_ | refine SA (fun _ => ?_) | refine G1 (fun hc => ?_) (fun hc => ?_) | refine G2 (fun hc => ?_) (fun hc => ?_) | refine G3 (fun hc => ?_) (fun hc => ?_) | refine SL ?_ | fail)
    exact Fin.retW (by exact rfl) resA (H' := []) (fun _ h => h.sublist (List.nil_sublist _)) ⟨by first | (simp [tup, msg0, refused, *]; done) | (simp [tup, msg0, refused, *]; simp at *; omega), rfl⟩
  | false =>
  repeat' (first | refine S2b ?_ | refine SA (fun _ => ?_) | refine G1 (fun hc => ?_) (fun hc => ?_) | refine G2 (fun hc => ?_) (fun hc => ?_) | refine SL ?_ | fail)
  cases h4 : (o.kind == 4) with
  | true =>
    repeat' (first | refine S2b ?_ | refine SD ?_ | refine SA (fun _ => ?_) | refine G1 (fun hc => ?_) (fun hc => ?_) | refine G2 (fun hc => ?_) (fun hc => ?_) | refine G3 (fun hc => ?_) (fun hc => ?_) | refine SL ?_ | fail)
    refine WL.e rfl (Ef.callR (by exact rfl) (.nil _) (eabort_nil _ now)) ?_
    rintro _ _ ⟨rfl, rfl⟩
    repeat' (first | refine S2b ?_ | refine SD ?_ | refine SA (fun _ => ?_) | refine G1 (fun hc => ?_) (fun hc => ?_) | refine G2 (fun hc => ?_) (fun hc => ?_) | refine G3 (fun hc => ?_) (fun hc => ?_) | refine SL ?_ | fail)
    exact Fin.retW (by exact rfl) resA (H' := []) (fun _ h => h.sublist (List.nil_sublist _)) ⟨by first | (simp [tup, msg0, refused, *]; done) | (simp [tup, msg0, refused, *]; simp at *; omega), rfl⟩
  | false =>
  repeat' (first | refine S2b ?_ | refine SA (fun _ => ?_) | refine G1 (fun hc => ?_) (fun hc => ?_) | refine G2 (fun hc => ?_) (fun hc => ?_) | refine SL ?_ | fail)
  cases h5 : (o.kind == 5) with
  | true =>
    repeat' (first | refine S2b ?_ | refine SD ?_ | refine SA (fun _ => ?_) | refine G1 (fun hc => ?_) (fun hc => ?_) | refine G2 (fun hc => ?_) (fun hc => ?_) | refine G3 (fun hc => ?_) (fun hc => ?_) | refine SL ?_ | fail)
    refine WL.e rfl (Ef.callR (by exact rfl) (.nil _) (etick_nil _ now)) ?_
    rintro _ _ ⟨rfl, rfl⟩
    repeat' (first | refine S2b ?_ | refine SD ?_ | refine SA (fun _ => ?_) | refine G1 (fun hc => ?_) (fun hc => ?_) | refine G2 (fun hc => ?_) (fun hc => ?_) | refine G3 (fun hc => ?_) (fun hc => ?_) | refine SL ?_ | fail)
    exact Fin.retW (by exact rfl) resA (H' := []) (fun _ h => h.sublist (List.nil_sublist _)) ⟨by first | (simp [tup, msg0, refused, *]; done) | (simp [tup, msg0, refused, *]; simp at *; omega), rfl⟩
  | false =>
  repeat' (first | refine S2b ?_ | refine SA (fun _ => ?_) | refine G1 (fun hc => ?_) (fun hc => ?_) | refine G2 (fun hc => ?_) (fun hc => ?_) | refine SL ?_ | fail)
  cases h6 : (o.kind == 6) with
  | true =>
    repeat' (first | refine S2b ?_ | refine SD ?_ | refine SA (fun _ => ?_) | refine G1 (fun hc => ?_) (fun hc => ?_) | refine G2 (fun hc => ?_) (fun hc => ?_) | refine G3 (fun hc => ?_) (fun hc => ?_) | refine SL ?_ | fail)
    rename_i b1 b2 b3
    have hkn := ho.kn
    refine WL.e rfl (Ef.app (m := ks.length) (news := ks.map B) (hb := [(b3, .cells ([] : List Value).toArray 5 (0, 0))]) (by exact rfl) (by exact rfl) rfl rfl (OwnS.empty _ _ b3) (.one [_] _) (by rw [← hkn]; exact (ho.packet.src).mono (fun _ h => h.sublist (List.nil_sublist _))) (by simp) (B_one ks) (by simp; omega) (by simp [maxLen]; omega)) ?_
    rintro v' _ ⟨hb', hown, rfl⟩
    rw [List.nil_append] at hown
    obtain ⟨ta, tn, tc, rfl, _, _⟩ := OwnS.shape hown
    have htn : tn = ks.length := by have := hown.len; simp at this; omega
    repeat' (first | refine S2b ?_ | refine SD ?_ | refine SA (fun _ => ?_) | refine G1 (fun hc => ?_) (fun hc => ?_) | refine G2 (fun hc => ?_) (fun hc => ?_) | refine G3 (fun hc => ?_) (fun hc => ?_) | refine SL ?_ | fail)
    refine WL.e rfl (Ef.callR (by exact rfl) (.nil _) (einput_nil _ now o.path ta tn tc)) ?_
    rintro _ _ ⟨rfl, rfl⟩
    repeat' (first | refine S2b ?_ | refine SD ?_ | refine SA (fun _ => ?_) | refine G1 (fun hc => ?_) (fun hc => ?_) | refine G2 (fun hc => ?_) (fun hc => ?_) | refine G3 (fun hc => ?_) (fun hc => ?_) | refine SL ?_ | fail)
    refine W.loop (G := DoG) (fun g => [(6, .pointer (some ⟨b2, 0, none⟩)), (14, .slice ta tn tc), (15, .int .i64 2), (16, .int .i64 g.i)])
      (fun g => g.hb ++ [(b2, .cells [.int .u16 0, .bool false, .slice none 0 0].toArray 26 (0, 0))])
      (fun g => g.i ≤ tn ∧ OwnS 5 1 g.xs (.slice ta tn tc) g.hb) (fun g => tn - g.i) ⟨0, _, hb'⟩ ⟨Nat.zero_le _, hown⟩ envA (fun _ h => h.sublist (List.Sublist.append_left (.cons_cons _ (List.nil_sublist _)) _)) ?_
    rintro ⟨i, xs, hb⟩ ⟨hi, hx⟩
    dsimp only at hi hx ⊢
    repeat' (first | refine S2b ?_ | refine SD ?_ | refine SA (fun _ => ?_) | refine G1 (fun hc => ?_) (fun hc => ?_) | refine G2 (fun hc => ?_) (fun hc => ?_) | refine G3 (fun hc => ?_) (fun hc => ?_) | refine SL ?_ | fail)
    · have hi' : i < tn := by simp at hc; omega
      obtain ⟨q, oo, rfl⟩ := hx.addr (by omega)
      have hia : 0 ≤ (i : Int) ∧ (i : Int) < tn := by omega
      obtain ⟨hb', hx', hput⟩ := hx.put i [.int .u8 85] (by have := hx.len; simp at this ⊢; omega)
      repeat' (first | refine S2b ?_ | refine SD ?_ | refine SA (fun _ => ?_) | refine G1 (fun hc => ?_) (fun hc => ?_) | refine G2 (fun hc => ?_) (fun hc => ?_) | refine G3 (fun hc => ?_) (fun hc => ?_) | refine SL ?_ | fail)
      refine WL.e0 (Ef.st rfl rfl rfl (PutAt.left (by simpa using hput))) ?_
      rintro _ _ ⟨rfl, rfl⟩
      repeat' (first | refine S2b ?_ | refine SD ?_ | refine SA (fun _ => ?_) | refine G1 (fun hc => ?_) (fun hc => ?_) | refine G2 (fun hc => ?_) (fun hc => ?_) | refine G3 (fun hc => ?_) (fun hc => ?_) | refine SL ?_ | fail)
      rw [i64_succ (by omega)]
      exact Fin.round ⟨i + 1, _, hb'⟩ ⟨hi', hx'⟩ envA (fun _ h => h) (by dsimp only; omega)
    ·
      exact Fin.retW (by exact rfl) resA (H' := []) (fun _ h => h.sublist (List.nil_sublist _)) ⟨by first | (simp [tup, msg0, refused, *]; done) | (simp [tup, msg0, refused, *]; simp at *; omega), rfl⟩
  | false =>
  repeat' (first | refine S2b ?_ | refine SD ?_ | refine SA (fun _ => ?_) | refine G1 (fun hc => ?_) (fun hc => ?_) | refine G2 (fun hc => ?_) (fun hc => ?_) | refine G3 (fun hc => ?_) (fun hc => ?_) | refine SL ?_ | fail)
  exact Fin.retW (by exact rfl) resA (H' := []) (fun _ h => h.sublist (List.nil_sublist _)) ⟨by first | (simp [tup, msg0, refused, *]; done) | (simp [tup, msg0, refused, *]; simp at *; omega), rfl⟩
end Go.Proofs.YtpiabbfckfoppaaGreatDoor
