/- The bytes of a word, walked. Conditions: the word's length is within bounds. -/
import Derived.Test.YtkelhlffeilakaaGreatDoorBuD
import Derived.Test.YtkelhlffeilakaaGreatDoorStV
namespace Go.Proofs.YtkelhlffeilakaaGreatDoor
open Go Go.Sl Go.Scr

theorem ix_some {c : UInt8} {o : Nat} (h : Lib.indexByte signs c = o) : o < 16 ∧ hx o = c := by
  have h1 := (Lib.indexByte_some h).1
  have hlt : o < 16 := (List.getElem?_eq_some_iff.1 h1).1
  have : ∀ k : Fin 16, signs[k.val]? = some (hx k.val) := by decide
  have h2 := this ⟨o, hlt⟩
  rw [h1] at h2
  exact ⟨hlt, (Option.some.inj h2).symm⟩
theorem ix_none {c : UInt8} (h : Lib.indexByte signs c = -1) {k : Nat} (hk : k < 16) : hx k ≠ c := fun e => by
  have : ∀ k : Fin 16, signs[k.val]? = some (hx k.val) := by decide
  exact Lib.indexByte_none h k (by rw [← e]; exact this ⟨k, hk⟩)
theorem byte_of {h l : Nat} (hh : h < 16) (hl : l < 16) : IntKind.u8.wrap (IntKind.i64.wrap ((BitVec.ofInt IntKind.i64.bits (IntKind.i64.wrap ((h : Int) * 2 ^ (min (4 : Int).toNat IntKind.i64.bits))) ||| BitVec.ofInt IntKind.i64.bits (l : Int)).toNat : Int)) = ((UInt8.ofNat (16 * h + l)).toNat : Int) := by
  have : ∀ a b : Fin 16, IntKind.u8.wrap (IntKind.i64.wrap ((BitVec.ofInt 64 (IntKind.i64.wrap ((a.val : Int) * 16)) ||| BitVec.ofInt 64 (b.val : Int)).toNat : Int)) = ((UInt8.ofNat (16 * a.val + b.val)).toNat : Int) := by decide
  exact this ⟨h, hh⟩ ⟨l, hl⟩
theorem oct_hexs {s bs : Str} (hne : s ≠ [45]) (h : oct bs = s) : bs ≠ [] ∧ hexs bs = s := by
  unfold oct at h
  split at h
  · exact absurd h.symm hne
  · exact ⟨‹_›, h⟩
theorem unhex_no {s : Str} {i : Nat} {c : UInt8} (hne : s ≠ [45]) (hi : s[i]? = some c) (hn : ∀ k, k < 16 → hx k ≠ c) : ∀ bs, oct bs ≠ s := fun bs h => by
  obtain ⟨_, h2⟩ := oct_hexs hne h
  have hlt : i < s.length := (List.getElem?_eq_some_iff.1 hi).1
  have hl := hexs_len bs
  rw [h2] at hl
  obtain ⟨x, hx0⟩ : ∃ x, bs[i / 2]? = some x := ⟨bs[i / 2]'(by omega), by simp⟩
  have := hexs_get hx0
  rw [h2, hi] at this
  have hx256 := x.toNat_lt
  refine hn (if i % 2 = 0 then x.toNat / 16 else x.toNat % 16) ?_ (Option.some.inj this).symm
  split <;> omega
def UnhexQ (s : Str) (H : HL) (v : Value) (H' : HL) : Prop := ∃ sa sn sc ok, v = tup [.slice sa sn sc, .bool ok] ∧ (ok = true → ∃ bs hb, oct bs = s ∧ OwnS 5 1 (bs.map B) (.slice sa sn sc) hb ∧ (bs = [] → sa = none) ∧ H' = hb ++ H) ∧ (ok = false → (∀ bs, oct bs ≠ s) ∧ H' = H)
structure UhG where
  k : Nat
  bs : Str
  sa : Option Addr
  sn : Nat
  sc : Nat
  hb : HL
set_option maxHeartbeats 8000000 in
theorem unhex_tr (F : Nat → Option Obj) (H : HL) (s : Str) (hs : s.length ≤ 1000000000) : Tr Tryz.prog 91 [S s].toArray F H (UnhexQ s H) := by
  refine Tr.enter Tryz.func91 rfl Tryz.ntmps91 rfl (fun w0 => ?_)
  unfold S
  refine SP ?_; repeat' (first|refine ⟨fun hc=>?_,fun hc=>?_⟩|intro)
  · have he : s = [45] := by rw [show (ByteArray.mk #[45]) = strB [45] from rfl, eqS_bool] at hc; simpa using hc
    subst he
    exact Fin.retW (by exact rfl) resA (fun _ h => h) ⟨none, 0, 0, true, rfl, fun _ => ⟨[], [], rfl, .inl ⟨rfl, rfl, rfl⟩, fun _ => rfl, rfl⟩, fun h => by cases h⟩
  have hne : s ≠ [45] := fun he => by subst he; rw [show (ByteArray.mk #[45]) = strB [45] from rfl, eqS_bool] at hc; simp at hc
  clear hc
  refine W.loop (G := UhG) (fun g => [(0, .string (strB s)), (4, .slice g.sa g.sn g.sc), (5, .int .i64 ((2 * g.k : Nat) : Int))]) (fun g => g.hb ++ H)
    (fun g => 2 * g.k ≤ s.length ∧ OwnS 5 1 (g.bs.map B) (.slice g.sa g.sn g.sc) g.hb ∧ hexs g.bs = s.take (2 * g.k) ∧ g.bs.length = g.k) (fun g => s.length - 2 * g.k) ⟨0, [], none, 0, 0, []⟩ ⟨by simp, .inl ⟨rfl, rfl, rfl⟩, by simp [hexs], rfl⟩ envA (fun _ h => h) ?_
  rintro ⟨k, bs, sa, sn, sc, hb⟩ ⟨hk, hown, hhx, hbl⟩
  dsimp only at hk hown hhx hbl ⊢
  have e1 : IntKind.i64.wrap (((2 * k : Nat) : Int) + 1) = ((2 * k + 1 : Nat) : Int) := by rw [i64_id (by omega) (by omega)]; omega
  have e2 : IntKind.i64.wrap (((2 * k : Nat) : Int) + 2) = ((2 * (k + 1) : Nat) : Int) := by rw [i64_id (by omega) (by omega)]; omega
  refine SP ?_; repeat' (first|refine ⟨fun hc=>?_,fun hc=>?_⟩|intro)
  · rw [e1, strB_size] at hc
    have hi : 2 * k + 1 < s.length := by simp at hc; omega
    obtain ⟨c1, hc1⟩ : ∃ y, s[2 * k]? = some y := ⟨s[2 * k]'(by omega), by simp⟩
    obtain ⟨c2, hc2⟩ : ∃ y, s[2 * k + 1]? = some y := ⟨s[2 * k + 1]'(by omega), by simp⟩
    refine W.drawA ?_
    refine SP ?_; repeat' (first|refine ⟨fun hc=>?_,fun hc=>?_⟩|intro)
    refine WD.p rfl (Pu.ixStr (m := strB s) (b := c1) rfl rfl (by omega) (by rw [show ((2 * k : Nat) : Int).toNat = 2 * k by omega]; exact strB_get hc1)) ?_
    refine WD.e rfl (Ef.lookR (by exact rfl) (fun F' hF => ixb_tr F' [] signs c1)) ?_
    rintro _ _ ⟨rfl, rfl⟩
    refine ⟨.inl (by kernel_rfl), ?_⟩
    refine SP ?_; repeat' (first|refine ⟨fun hc=>?_,fun hc=>?_⟩|intro)
    rw [e1]
    refine WD.p rfl (Pu.ixStr (m := strB s) (b := c2) rfl rfl (by omega) (by rw [show ((2 * k + 1 : Nat) : Int).toNat = 2 * k + 1 by omega]; exact strB_get hc2)) ?_
    refine WD.e rfl (Ef.lookR (by exact rfl) (fun F' hF => ixb_tr F' [] signs c2)) ?_
    rintro _ _ ⟨rfl, rfl⟩
    refine ⟨.inl (by kernel_rfl), ?_⟩
    have g1 := Lib.indexByte_ge signs c1
    have g2 := Lib.indexByte_ge signs c2
    obtain ⟨a1, ha1⟩ : ∃ a, Lib.indexByte signs c1 = a := ⟨_, rfl⟩
    obtain ⟨a2, ha2⟩ : ∃ a, Lib.indexByte signs c2 = a := ⟨_, rfl⟩
    rw [ha1] at g1
    rw [ha2] at g2
    rw [ha1, ha2]
    clear hc
    refine SP ?_; repeat' (first|refine ⟨fun hc=>?_,fun hc=>?_⟩|intro)
    · have hm : a1 = -1 := by simp at hc; omega
      exact Fin.retW (by exact rfl) resA (fun _ h => h.right) ⟨none, 0, 0, false, rfl, fun h => (by cases h), fun _ => ⟨unhex_no hne hc1 (fun k hk => ix_none (by rw [ha1, hm]) hk), rfl⟩⟩
    · have hm : a2 = -1 := by simp at hc; omega
      exact Fin.retW (by exact rfl) resA (fun _ h => h.right) ⟨none, 0, 0, false, rfl, fun h => (by cases h), fun _ => ⟨unhex_no hne hc2 (fun k hk => ix_none (by rw [ha2, hm]) hk), rfl⟩⟩
    · have hA : decide (a1 < 0) = false := by assumption
      have hA2 : decide (a2 < 0) = false := by assumption
      obtain ⟨o1, rfl⟩ : ∃ o : Nat, a1 = o := ⟨a1.toNat, by simp at hA; omega⟩
      obtain ⟨o2, rfl⟩ : ∃ o : Nat, a2 = o := ⟨a2.toNat, by simp at hA2; omega⟩
      obtain ⟨h1, x1⟩ := ix_some ha1
      obtain ⟨h2, x2⟩ := ix_some ha2
      rw [byte_of h1 h2]
      refine WL.e rfl (Ef.app (m := 1) (news := [.int .u8 (UInt8.ofNat (16 * o1 + o2)).toNat]) (hb := hb) (by exact rfl) (by exact rfl) rfl rfl hown subA (Src.own (n := 1) (.here rfl)) rfl (by simp [Value.oneCell']) (by simp; omega) (by simp [maxLen]; omega)) ?_
      rintro _ _ ⟨hb', hown', rfl⟩
      obtain ⟨sa', sn', sc', rfl, _, _⟩ := hown'.shape
      refine SP ?_; repeat' (first|refine ⟨fun hc=>?_,fun hc=>?_⟩|intro)
      rw [e2]
      refine Fin.round ⟨k + 1, bs ++ [UInt8.ofNat (16 * o1 + o2)], sa', sn', sc', hb'⟩ ⟨by dsimp only; omega, ?_, ?_, by simp [hbl]⟩ envA (fun _ h => h.sublist (by simp)) (by dsimp only; omega)
      · dsimp only
        rw [List.map_append]
        exact hown'
      · dsimp only
        have hb1 : (UInt8.ofNat (16 * o1 + o2)).toNat = 16 * o1 + o2 := by rw [UInt8.toNat_ofNat']; omega
        rw [hexs_snoc, hb1, hhx, show 2 * (k + 1) = 2 * k + 1 + 1 by omega, List.take_add_one, List.take_add_one, hc1, hc2]
        rw [show (16 * o1 + o2) / 16 = o1 by omega, show (16 * o1 + o2) % 16 = o2 by omega, x1, x2]
        rfl
  · rename_i hc0
    rw [e1, strB_size] at hc0
    have h2 : s.length % 2 = 0 := by
      rw [strB_size, Int.tmod_eq_emod_of_nonneg (by omega)] at hc
      have := eq_of_beq hc
      omega
    have hkl : s.length = 2 * k := by simp at hc0; omega
    have hsx : hexs bs = s := by rw [hhx, List.take_of_length_le (by omega)]
    have hsn : sn = bs.length := by have := hown.len; simp at this; omega
    cases hz : decide ((0 : Int) < sn) with
    | true =>
      have : bs ≠ [] := fun e => by subst e; simp at hz hsn; omega
      refine Fin.retW (by exact rfl) resA (fun _ h => h) ⟨sa, sn, sc, true, rfl, fun _ => ⟨bs, hb, ?_, hown, fun e => absurd e this, rfl⟩, fun h => (by cases h)⟩
      unfold oct
      rw [if_neg this, hsx]
    | false =>
      refine Fin.retW (by exact rfl) resA (fun _ h => h.right) ⟨sa, sn, sc, false, rfl, fun h => (by cases h), fun _ => ⟨fun bs' h' => ?_, rfl⟩⟩
      obtain ⟨g1, g2⟩ := oct_hexs hne h'
      have : bs = [] := List.eq_nil_of_length_eq_zero (by simp at hz; omega)
      subst this
      have := hexs_len bs'
      rw [g2, ← hsx] at this
      exact g1 (List.eq_nil_of_length_eq_zero (by simp [hexs] at this; omega))
  · rename_i hc0
    have h2 : s.length % 2 ≠ 0 := fun h => by
      rw [strB_size, Int.tmod_eq_emod_of_nonneg (by omega), show (s.length : Int) % 2 = 0 by omega] at hc
      cases hc
    refine Fin.retW (by exact rfl) resA (fun _ h => h.right) ⟨sa, sn, sc, false, rfl, fun h => (by cases h), fun _ => ⟨fun bs' h' => ?_, rfl⟩⟩
    obtain ⟨g1, g2⟩ := oct_hexs hne h'
    have := hexs_len bs'
    rw [g2] at this
    omega
end Go.Proofs.YtkelhlffeilakaaGreatDoor
