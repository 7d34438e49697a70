/- The laws' 'Vast' and 'Plain', walked. No conditions. -/
import Derived.Test.YtglobldnockdoaaFlH
import Derived.Test.YtglobldnockdoaaFlT
namespace Go.Proofs.Ytglobldnockdoaa
open Go Go.Sl Go.Flt

/-- a thing done, as it lies in memory -/
structure OpM where
  kind : Int
  tsn : Int
  stream : Int
  ssn : Int
  un : Bool
  fi : Bool
  la : Bool
  ba : Option Addr
  bn : Nat
  bc : Nat
  path : Int
  now : Int
  id : Int
  by_ : Int
  ga : Option Addr
  gn : Nat
  gc : Nat
def OpM.cells (o : OpM) : List Value := [.int .i64 o.kind, .int .u32 o.tsn, .int .u16 o.stream, .int .u16 o.ssn, .bool o.un, .bool o.fi, .bool o.la, .slice o.ba o.bn o.bc, .int .i64 o.path, .int .i64 o.now, .int .i64 o.id, .int .u32 o.by_, .slice o.ga o.gn o.gc]
structure OpM.Is (F : Nat → Option Obj) (o : OpM) (bs : List UInt8) (gs : List (Nat × Nat)) : Prop where
  bytes : Lst F [] 1 (bs.map B) o.ba o.bn o.bc
  gaps : Lst F [] 2 (gs.flatMap gC) o.ga o.gn o.gc
  g16 : ∀ g ∈ gs, g.1 < 65536 ∧ g.2 < 65536
def OpM.op (o : OpM) (bs : List UInt8) (gs : List (Nat × Nat)) : FOp := ⟨o.kind, ⟨o.tsn, o.stream, o.ssn, o.un, o.fi, o.la, bs⟩, o.path, o.now, o.id, o.by_, gs⟩
def vastG : List OpM → Int → Bool
  | [], _ => false
  | o :: r, n => if n + min (o.bn : Int) 131072 > 65536 ∨ o.gn > 50 then true else vastG r (n + min (o.bn : Int) 131072)
def vast (l : List OpM) : Bool := decide (l.length > 100) || vastG l 0
/-- what is not vast -/
theorem vastG_no : ∀ {l : List OpM} {n : Int}, 0 ≤ n → vastG l n = false → n + ((l.map (·.bn)).sum : Nat) ≤ 65536 ∨ l = []
  | [], _, _, _ => .inr rfl
  | o :: r, n, h0, h => by
    rw [vastG] at h
    split at h
    · cases h
    · rename_i hq
      left
      rcases vastG_no (l := r) (by omega) h with h1 | h1
      · simp only [List.map_cons, List.sum_cons]; omega
      · subst h1; simp; omega
theorem vastG_gaps : ∀ {l : List OpM} {n : Int}, vastG l n = false → ∀ o ∈ l, o.gn ≤ 50
  | [], _, _, _, h => by cases h
  | o :: r, n, h, q, hq => by
    rw [vastG] at h
    split at h
    · cases h
    · rename_i hc
      rcases List.mem_cons.1 hq with rfl | hq
      · omega
      · exact vastG_gaps h q hq
theorem vast_no {l : List OpM} (h : vast l = false) : l.length ≤ 100 ∧ (l.map (·.bn)).sum ≤ 65536 ∧ ∀ o ∈ l, o.gn ≤ 50 := by
  unfold vast at h
  rw [Bool.or_eq_false_iff] at h
  refine ⟨by simpa using h.1, ?_, vastG_gaps h.2⟩
  rcases vastG_no (Int.le_refl 0) h.2 with h1 | h1
  · omega
  · subst h1; simp
structure VsG where
  i : Nat
  n : Int
set_option maxHeartbeats 4000000 in
theorem vast_tr (F : Nat → Option Obj) (X : HL) (l : List OpM) (ka : Option Addr) (kn kc : Nat) (hl : Lst F X 13 (l.flatMap OpM.cells) ka kn kc) :
    Tr Try.prog 21 [.slice ka kn kc].toArray F X (fun v H => v = .bool (vast l) ∧ H = X) := by
  refine Tr.enter Try.func21 rfl Try.ntmps21 rfl (fun w0 => ?_)
  have hkn : kn = l.length := by have := hl.len; rw [flat_len' OpM.cells 13 (fun _ => rfl)] at this; omega
  repeat' (first | refine S1 ?_ | refine SD ?_ | refine SA (fun _ => ?_) | refine WL.g_split rfl rfl (fun hc => ?_) (fun hc => ?_) | refine WD.g_split rfl rfl (fun hc => ?_) (fun hc => ?_) | refine W.cond rfl (fun hc => ?_) (fun hc => ?_))
  · refine Fin.retW (by exact rfl) resA (fun _ h => h) ⟨?_, rfl⟩
    simp at hc
    simp [tup, vast]
    omega
  have h80 : kn ≤ 100 := by simp at hc; omega
  refine W.loop (G := VsG) (fun g => [(0, .slice ka kn kc), (3, .int .i64 g.n), (4, .int .i64 g.i)]) (fun _ => X)
    (fun g => g.i ≤ kn ∧ 0 ≤ g.n ∧ g.n ≤ 65536 ∧ vastG (l.drop g.i) g.n = vastG l 0) (fun g => kn - g.i) ⟨0, 0⟩ ⟨Nat.zero_le _, by decide, by decide, rfl⟩ envA (fun _ h => h) ?_
  rintro ⟨i, n⟩ ⟨hi, hn0, hn1, hv⟩
  dsimp only at hi hn0 hn1 hv ⊢
  repeat' (first | refine S1 ?_ | refine SD ?_ | refine SA (fun _ => ?_) | refine WL.g_split rfl rfl (fun hc => ?_) (fun hc => ?_) | refine WD.g_split rfl rfl (fun hc => ?_) (fun hc => ?_) | refine W.cond rfl (fun hc => ?_) (fun hc => ?_))
  · have hi' : i < kn := by simp at hc; omega
    obtain ⟨o, ho⟩ : ∃ o, l[i]? = some o := ⟨l[i]'(by omega), by simp⟩
    obtain ⟨b, off, rfl, hcan⟩ := hl.can (by omega)
    have hat := flat_at OpM.cells 13 (fun _ => rfl) l i o ho
    have hsub := hcan.sub (i * 13) 13
    rw [hat] at hsub
    have hia : 0 ≤ (i : Int) ∧ (i : Int) < kn := by omega
    have hC1 : Sl.Can F X b (off + (i : Int).toNat * 13 + 1 + 6) [.slice o.ba o.bn o.bc] := by have := hsub.one (i := 7) (v := .slice o.ba o.bn o.bc) rfl; simpa using this
    have hC2 : Sl.Can F X b (off + (i : Int).toNat * 13 + 12) [.slice o.ga o.gn o.gc] := by have := hsub.one (i := 12) (v := .slice o.ga o.gn o.gc) rfl; simpa using this
    have hd : l.drop i = o :: l.drop (i + 1) := by rw [List.drop_eq_getElem_cons (by omega), (List.getElem?_eq_some_iff.1 ho).2]
    have e1 : IntKind.i64.wrap (n + if 131072 < (o.bn : Int) then 131072 else (o.bn : Int)) = n + min (o.bn : Int) 131072 := by
      rw [show (if 131072 < (o.bn : Int) then 131072 else (o.bn : Int)) = min (o.bn : Int) 131072 by split <;> omega, i64_id (by omega) (by omega)]
    rw [hd, vastG] at hv
    have hno : vast l = vastG l 0 := by unfold vast; rw [show decide (l.length > 100) = false by simp; omega]; rfl
    repeat' (first | refine S1 ?_ | refine SD ?_ | refine SA (fun _ => ?_) | refine WL.g_split rfl rfl (fun hc => ?_) (fun hc => ?_) | refine WD.g_split rfl rfl (fun hc => ?_) (fun hc => ?_) | refine W.cond rfl (fun hc => ?_) (fun hc => ?_))
    · refine Fin.retW (by exact rfl) resA (fun _ h => h) ⟨?_, rfl⟩
      rw [e1] at hc
      rw [hno, ← hv, if_pos (.inl (of_decide_eq_true hc))]
      rfl
    · refine Fin.retW (by exact rfl) resA (fun _ h => h) ⟨?_, rfl⟩
      have := of_decide_eq_true hc
      rw [hno, ← hv, if_pos (.inr (by omega))]
      rfl
    · rename_i hc1
      rw [e1] at hc1
      have g1 := of_decide_eq_false hc1
      have g2 := of_decide_eq_false hc
      rw [if_neg (by omega)] at hv
      rw [e1, i64_succ (by omega)]
      exact Fin.round ⟨i + 1, n + min (o.bn : Int) 131072⟩ ⟨hi', by dsimp only; omega, by dsimp only; omega, hv⟩ envA (fun _ h => h) (by dsimp only; omega)
  · have hi' : i = l.length := by simp at hc; omega
    subst hi'
    refine Fin.retW (by exact rfl) resA (fun _ h => h) ⟨?_, rfl⟩
    rw [List.drop_length, vastG] at hv
    unfold vast
    rw [← hv, show decide (l.length > 100) = false by simp; omega]
    rfl
def plT (t : Tld) (i : Nat) : Tld := ⟨t.freed, t.whole, if 0 < i then t.p0 else PT.zero, if 1 < i then t.p1 else PT.zero, if 2 < i then t.p2 else PT.zero, if 3 < i then t.p3 else PT.zero⟩
set_option maxHeartbeats 4000000 in
theorem plain_tr (F : Nat → Option Obj) (t : Tld) : Tr Try.prog 48 [.agg (tldC t).toArray].toArray F [] (fun v H => v = tup [.agg (tldC t).toArray] ∧ H = []) := by
  refine Tr.enter Try.func48 rfl Try.ntmps48 rfl (fun w0 => ?_)
  repeat' (first | refine S1 ?_ | refine SD ?_ | refine SA (fun _ => ?_) | refine WL.g_split rfl rfl (fun hc => ?_) (fun hc => ?_) | refine WD.g_split rfl rfl (fun hc => ?_) (fun hc => ?_) | refine W.cond rfl (fun hc => ?_) (fun hc => ?_))
  rename_i b1 b2 b3
  refine W.loop (G := Nat) (fun g => [(1, .pointer (some ⟨b1, 0, none⟩)), (2, .pointer (some ⟨b2, 0, none⟩)), (3, .pointer (some ⟨b3, 0, none⟩)), (4, .int .i64 g)]) (fun g => [(b3, .cells (tldC (plT t g)).toArray 65 (0, 0)), (b2, .cells (tldC Tld.zero).toArray 65 (0, 0)), (b1, .cells (tldC t).toArray 40 (0, 0))])
    (fun g => g ≤ 4) (fun g => 4 - g) 0 (Nat.zero_le _) envA (fun _ h => h) ?_
  intro g hg
  have hq : g = 0 ∨ g = 1 ∨ g = 2 ∨ g = 3 ∨ g = 4 := by omega
  rcases hq with rfl | rfl | rfl | rfl | rfl
  ·
    repeat' (first | refine S1 ?_ | refine SD ?_ | refine SA (fun _ => ?_) | refine WL.g_split rfl rfl (fun hc => ?_) (fun hc => ?_) | refine WD.g_split rfl rfl (fun hc => ?_) (fun hc => ?_) | refine W.cond rfl (fun hc => ?_) (fun hc => ?_))
    refine WL.p rfl (Pu.iaA rfl rfl (by decide)) ?_
    repeat' (first | refine S1 ?_ | refine SD ?_ | refine SA (fun _ => ?_) | refine WL.g_split rfl rfl (fun hc => ?_) (fun hc => ?_) | refine WD.g_split rfl rfl (fun hc => ?_) (fun hc => ?_) | refine W.cond rfl (fun hc => ?_) (fun hc => ?_))
    refine WL.p rfl (Pu.iaA rfl rfl (by decide)) ?_
    repeat' (first | refine S1 ?_ | refine SD ?_ | refine SA (fun _ => ?_) | refine WL.g_split rfl rfl (fun hc => ?_) (fun hc => ?_) | refine WD.g_split rfl rfl (fun hc => ?_) (fun hc => ?_) | refine W.cond rfl (fun hc => ?_) (fun hc => ?_))
    exact Fin.round 1 (by decide) envA weakA (by decide)
  ·
    repeat' (first | refine S1 ?_ | refine SD ?_ | refine SA (fun _ => ?_) | refine WL.g_split rfl rfl (fun hc => ?_) (fun hc => ?_) | refine WD.g_split rfl rfl (fun hc => ?_) (fun hc => ?_) | refine W.cond rfl (fun hc => ?_) (fun hc => ?_))
    refine WL.p rfl (Pu.iaA rfl rfl (by decide)) ?_
    repeat' (first | refine S1 ?_ | refine SD ?_ | refine SA (fun _ => ?_) | refine WL.g_split rfl rfl (fun hc => ?_) (fun hc => ?_) | refine WD.g_split rfl rfl (fun hc => ?_) (fun hc => ?_) | refine W.cond rfl (fun hc => ?_) (fun hc => ?_))
    refine WL.p rfl (Pu.iaA rfl rfl (by decide)) ?_
    repeat' (first | refine S1 ?_ | refine SD ?_ | refine SA (fun _ => ?_) | refine WL.g_split rfl rfl (fun hc => ?_) (fun hc => ?_) | refine WD.g_split rfl rfl (fun hc => ?_) (fun hc => ?_) | refine W.cond rfl (fun hc => ?_) (fun hc => ?_))
    exact Fin.round 2 (by decide) envA weakA (by decide)
  ·
    repeat' (first | refine S1 ?_ | refine SD ?_ | refine SA (fun _ => ?_) | refine WL.g_split rfl rfl (fun hc => ?_) (fun hc => ?_) | refine WD.g_split rfl rfl (fun hc => ?_) (fun hc => ?_) | refine W.cond rfl (fun hc => ?_) (fun hc => ?_))
    refine WL.p rfl (Pu.iaA rfl rfl (by decide)) ?_
    repeat' (first | refine S1 ?_ | refine SD ?_ | refine SA (fun _ => ?_) | refine WL.g_split rfl rfl (fun hc => ?_) (fun hc => ?_) | refine WD.g_split rfl rfl (fun hc => ?_) (fun hc => ?_) | refine W.cond rfl (fun hc => ?_) (fun hc => ?_))
    refine WL.p rfl (Pu.iaA rfl rfl (by decide)) ?_
    repeat' (first | refine S1 ?_ | refine SD ?_ | refine SA (fun _ => ?_) | refine WL.g_split rfl rfl (fun hc => ?_) (fun hc => ?_) | refine WD.g_split rfl rfl (fun hc => ?_) (fun hc => ?_) | refine W.cond rfl (fun hc => ?_) (fun hc => ?_))
    exact Fin.round 3 (by decide) envA weakA (by decide)
  ·
    repeat' (first | refine S1 ?_ | refine SD ?_ | refine SA (fun _ => ?_) | refine WL.g_split rfl rfl (fun hc => ?_) (fun hc => ?_) | refine WD.g_split rfl rfl (fun hc => ?_) (fun hc => ?_) | refine W.cond rfl (fun hc => ?_) (fun hc => ?_))
    refine WL.p rfl (Pu.iaA rfl rfl (by decide)) ?_
    repeat' (first | refine S1 ?_ | refine SD ?_ | refine SA (fun _ => ?_) | refine WL.g_split rfl rfl (fun hc => ?_) (fun hc => ?_) | refine WD.g_split rfl rfl (fun hc => ?_) (fun hc => ?_) | refine W.cond rfl (fun hc => ?_) (fun hc => ?_))
    refine WL.p rfl (Pu.iaA rfl rfl (by decide)) ?_
    repeat' (first | refine S1 ?_ | refine SD ?_ | refine SA (fun _ => ?_) | refine WL.g_split rfl rfl (fun hc => ?_) (fun hc => ?_) | refine WD.g_split rfl rfl (fun hc => ?_) (fun hc => ?_) | refine W.cond rfl (fun hc => ?_) (fun hc => ?_))
    exact Fin.round 4 (by decide) envA weakA (by decide)
  · repeat' (first | refine S1 ?_ | refine SD ?_ | refine SA (fun _ => ?_) | refine WL.g_split rfl rfl (fun hc => ?_) (fun hc => ?_) | refine WD.g_split rfl rfl (fun hc => ?_) (fun hc => ?_) | refine W.cond rfl (fun hc => ?_) (fun hc => ?_))
    exact Fin.retW (by exact rfl) resA (H' := []) (fun _ h => h.sublist (List.nil_sublist _)) ⟨rfl, rfl⟩
end Go.Proofs.Ytglobldnockdoaa
