/- What is between a sender and one who takes all, in memory: the packets of a moment, walked. Conditions: it is well formed; no piece is another one than it was. -/
import Derived.Test.YtjfpckadjnjmoaaGreatLnC
import Derived.Test.YtjfpckadjnjmoaaGreatSnI
import Derived.Test.YtjfpckadjnjmoaaGreatSnF
import Derived.Test.YtjfpckadjnjmoaaGreatBe
namespace Go.Proofs.YtjfpckadjnjmoaaGreat
open Go Go.Sl Go.Pth
theorem bit_of {lost n : Nat} (hl : lost < 2 ^ 64) (hn : n < 64) :
    (IntKind.u64.wrap (BitVec.ofInt IntKind.u64.bits ((lost : Int).fdiv (2 ^ (min ((n : Int)).toNat IntKind.u64.bits))) &&& BitVec.ofInt IntKind.u64.bits 1).toNat == 1) = lost.testBit n := by
  have e1 : min ((n : Int)).toNat IntKind.u64.bits = n := by show min _ 64 = n; omega
  rw [e1]
  have e2 : ((lost : Int).fdiv (2 ^ n)) = ((lost / 2 ^ n : Nat) : Int) := by
    rw [Int.fdiv_eq_ediv_of_nonneg _ (by exact Int.le_of_lt (Int.pow_pos (by decide)))]
    simp
  rw [e2]
  have e3 : (BitVec.ofInt IntKind.u64.bits ((lost / 2 ^ n : Nat) : Int) &&& BitVec.ofInt IntKind.u64.bits 1).toNat = lost / 2 ^ n % 2 := by
    show (BitVec.ofInt 64 ((lost / 2 ^ n : Nat) : Int) &&& BitVec.ofInt 64 1).toNat = _
    rw [BitVec.toNat_and, BitVec.toNat_ofInt, show (BitVec.ofInt 64 1).toNat = 1 from rfl, Nat.and_one_is_mod]
    have : (((lost / 2 ^ n : Nat) : Int) % ((2 ^ 64 : Nat) : Int)).toNat = lost / 2 ^ n := by
      have h1 : lost / 2 ^ n < 2 ^ 64 := Nat.lt_of_le_of_lt (Nat.div_le_self _ _) hl
      obtain ⟨q, hq⟩ : ∃ q, lost / 2 ^ n = q := ⟨_, rfl⟩
      rw [hq] at h1 ⊢
      omega
    rw [this]
  rw [e3, Nat.testBit_eq_decide_div_mod_eq]
  rcases Nat.mod_two_eq_zero_or_one (lost / 2 ^ n) with h | h
  · rw [h]; rfl
  · rw [h]; rfl
structure GL where
  k : Nat
  x : LnM
  s : SdM
  a : Snd.Al
set_option maxHeartbeats 8000000 in
theorem all_tr (F : Nat → Option Obj) {m : Nat} (x : LnM) (hx : x.ok) (s : SdM) (hs : s.ok m) (hR : x.R = s.R) (lost pk : Nat) (hlo : lost < 2 ^ 64) (hpk : pk ≤ 1000000) (fin : Snd.Al) (hfin : Snd.allN lost x.now 40 ⟨s.S, x.ln, pk, 0, false⟩ = some fin) :
    Tr Tryz.prog 8 [ptr x.L, .int .u64 lost, .int .i64 pk].toArray F (x.H ++ s.H) (fun v H => v = tup [.int .i64 fin.packets, .int .i64 fin.pieces, .bool fin.some_, .bool true] ∧ ∃ (x' : LnM) (s' : SdM), x'.ok ∧ s'.ok m ∧ x'.L = x.L ∧ x'.R = s'.R ∧ s'.R = s.R ∧ x'.now = x.now ∧ s'.S = fin.s ∧ x'.ln = fin.x ∧ H = x'.H ++ s'.H) := by
  refine Tr.enter Tryz.func8 rfl Tryz.ntmps8 rfl (fun w0 => ?_)
  repeat' (first | refine S2b ?_ | refine SD ?_ | refine SA (fun _ => ?_) | refine G1 (fun hc => ?_) (fun hc => ?_) | refine G2 (fun hc => ?_) (fun hc => ?_) | refine G3 (fun hc => ?_) (fun hc => ?_) | refine SL ?_ | fail)
  refine W.loop (G := GL) (fun g => [(0, ptr x.L), (1, .int .u64 lost), (2, .int .i64 g.a.packets), (10, .int .i64 g.a.pieces), (11, .bool g.a.some_), (12, .int .i64 g.k)]) (fun g => g.x.H ++ g.s.H)
    (fun g => g.k ≤ 40 ∧ g.x.ok ∧ g.s.ok m ∧ g.x.L = x.L ∧ g.x.R = g.s.R ∧ g.s.R = s.R ∧ g.x.now = x.now ∧ g.a.s = g.s.S ∧ g.a.x = g.x.ln ∧ Snd.allN lost x.now (40 - g.k) g.a = some fin ∧ g.a.packets ≤ pk + g.k ∧ g.a.pieces ≤ 75 * g.k) (fun g => 40 - g.k) ⟨0, x, s, ⟨s.S, x.ln, pk, 0, false⟩⟩ ⟨Nat.zero_le _, hx, hs, rfl, hR, rfl, rfl, rfl, rfl, hfin, Nat.le_refl _, Nat.zero_le _⟩ envA (fun _ h => h) ?_
  rintro ⟨k, y, t, ⟨a1, ax, apk, apc, asm⟩⟩ ⟨hk, hy, ht, hL, hyR, htR, hnow, has, hax, hall, hp1, hp2⟩
  dsimp only at hk hy ht hL hyR htR hnow has hax hall hp1 hp2 ⊢
  subst has hax
  repeat' (first | refine S2b ?_ | refine SA (fun _ => ?_) | refine G1 (fun hc => ?_) (fun hc => ?_) | refine G2 (fun hc => ?_) (fun hc => ?_) | refine SL ?_ | fail)
  cases hc : decide ((k : Int) < 40) with
  | false =>
    have hk40 := of_decide_eq_false hc
    rw [show 40 - k = 0 by omega] at hall
    cases Option.some.inj hall
    repeat' (first | refine S2b ?_ | refine SA (fun _ => ?_) | refine G1 (fun hc => ?_) (fun hc => ?_) | refine G2 (fun hc => ?_) (fun hc => ?_) | refine G3 (fun hc => ?_) (fun hc => ?_) | refine SL ?_ | fail)
    exact Fin.retW (by exact rfl) resA (fun _ h => h) ⟨rfl, y, t, hy, ht, hL, hyR, htR, hnow, rfl, rfl, rfl⟩
  | true =>
  have hk40 := of_decide_eq_true hc
  rw [show 40 - k = (40 - (k + 1)) + 1 by omega, Snd.allN] at hall
  have hHx : y.H = (x.L, .cells [ptr t.R, .slice y.sa y.sn y.sc, .int .u32 y.first, .int .i64 y.cum, .int .i64 y.now].toArray 40 (0, 0)) :: (y.hb ++ y.seen.flatMap (·.bb)) := by unfold LnM.H LnM.hd LnM.cells; rw [hyR, hL]
  rw [hHx]
  repeat' (first | refine S2b ?_ | refine SA (fun _ => ?_) | refine G1 (fun hc => ?_) (fun hc => ?_) | refine G2 (fun hc => ?_) (fun hc => ?_) | refine SL ?_ | fail)
  refine W.drawA ?_
  repeat' (first | refine S2b ?_ | refine SA (fun _ => ?_) | refine G1 (fun hc => ?_) (fun hc => ?_) | refine G2 (fun hc => ?_) (fun hc => ?_) | refine SL ?_ | fail)
  refine WD.e rfl (Ef.call (c := t.H) (by exact rfl) (.last (.right .all)) (snx_tr _ t ht y.now)) ?_
  rintro _ _ ⟨_, hq, rfl⟩
  refine ⟨.inl (by kernel_rfl), ?_⟩
  dsimp only at hall
  rw [← hnow] at hall
  cases hnx : Snd.next t.S y.now with
  | mk S' r =>
  rw [hnx] at hq hall
  cases r with
  | none =>
    obtain ⟨rfl, s', hs', hR', hS', rfl⟩ := hq
    cases Option.some.inj hall
    dsimp only [tup]
    repeat' (first | refine S2b ?_ | refine SA (fun _ => ?_) | refine G1 (fun hc => ?_) (fun hc => ?_) | refine G2 (fun hc => ?_) (fun hc => ?_) | refine G3 (fun hc => ?_) (fun hc => ?_) | refine SL ?_ | fail)
    refine Fin.retW (by exact rfl) resA (H' := y.H ++ s'.H) (fun _ h => ?_) ⟨rfl, y, s', hy, hs', hL, hyR.trans hR'.symm, hR'.trans htR, hnow, hS', rfl, rfl⟩
    rw [hHx]
    rw [List.append_nil] at h
    exact h.perm List.perm_append_comm
  | some r =>
    obtain ⟨p, l⟩ := r
    obtain ⟨s', o, rfl, hs', hR', hS', ho, hoL, rfl⟩ := hq
    dsimp only at hall
    obtain ⟨_, hne, hpc, _, hlen⟩ := Snd.next_pc ht.pl hnx
    have hon := ho.len
    have hol : l.length = o.sn := by rw [← hoL, ← hon]; unfold OuM.L; rw [List.length_map]
    have hyR2 : y.R = s'.R := hyR.trans hR'.symm
    dsimp only [tup]
    refine WD.weak (H' := y.H ++ (o.hb ++ (o.bb ++ s'.H))) (fun _ h => ?_) ?_
    · rw [hHx]
      rw [List.append_nil] at h
      have h2 := h.perm List.perm_append_comm
      exact h2
    repeat' (first | refine S2b ?_ | refine SA (fun _ => ?_) | refine G1 (fun hc => ?_) (fun hc => ?_) | refine G2 (fun hc => ?_) (fun hc => ?_) | refine SL ?_ | fail)
    · have hcl : apk + 1 ≤ 64 := by
        have := of_decide_eq_true hc
        rw [i64_succ (by omega)] at this
        omega
      have hbit := bit_of (lost := lost) (n := apk) hlo (by omega)
      have hlb : Snd.lostB lost (apk + 1) = lost.testBit apk := by
        unfold Snd.lostB
        rw [decide_eq_true hcl, Bool.true_and, Nat.add_sub_cancel]
      rw [i64_succ (i := apk) (by omega), i64_id (n := ((apk + 1 : Nat) : Int) - 1) (by omega) (by omega), show ((apk + 1 : Nat) : Int) - 1 = (apk : Int) by omega]
      refine WL.p rfl (by exact Pu.shr rfl rfl (by omega)) ?_
      repeat' (first | refine S2b ?_ | refine SA (fun _ => ?_) | refine G1 (fun hc => ?_) (fun hc => ?_) | refine G2 (fun hc => ?_) (fun hc => ?_) | refine SL ?_ | fail)
      rw [hbit]
      cases hlost : lost.testBit apk with
      | true =>
        rw [if_pos (by rw [hlb, hlost])] at hall
        repeat' (first | refine S2b ?_ | refine SA (fun _ => ?_) | refine G1 (fun hc => ?_) (fun hc => ?_) | refine G2 (fun hc => ?_) (fun hc => ?_) | refine G3 (fun hc => ?_) (fun hc => ?_) | refine SL ?_ | fail)
        rw [i64_succ (i := k) (by omega)]
        try rw [i64_succ (i := apk) (by omega)]
        rw [i64_id (n := (apc : Int) + (o.sn : Int)) (by omega) (by omega), show (apc : Int) + (o.sn : Int) = ((apc + l.length : Nat) : Int) by rw [hol]; push_cast; rfl]
        refine Fin.round ⟨k + 1, y, s', ⟨s'.S, y.ln, apk + 1, apc + l.length, asm⟩⟩ ⟨by dsimp only; omega, hy, hs', hL, hyR2, hR'.trans htR, hnow, rfl, rfl, ?_, by dsimp only; omega, by dsimp only; omega⟩ envA (fun _ h => ?_) (by dsimp only; omega)
        · dsimp only
          rw [hS', ← hnow]
          exact hall
        · exact In.of_sub (.pickL (L := y.H) .here (.last (.right (.right .all)))) h
      | false =>
        rw [← hlb] at hlost
        rw [if_neg (by rw [hlost]; decide)] at hall
        cases htk : y.ln.take l with
        | none => rw [htk] at hall; cases hall
        | some x1 =>
        rw [htk] at hall
        dsimp only at hall
        have htake := fun F' => ltake_tr F' y hy o ho (by omega) (fun d hd => (hpc d (by rw [← hoL]; exact hd)).1) x1 (by rw [hoL]; exact htk)
        rw [hL] at htake
        repeat' (first | refine S2b ?_ | refine SA (fun _ => ?_) | refine G1 (fun hc => ?_) (fun hc => ?_) | refine G2 (fun hc => ?_) (fun hc => ?_) | refine SL ?_ | fail)
        refine WL.e rfl (Ef.call (c := y.H ++ (o.hb ++ o.bb)) (by exact rfl) (.pickL (L := y.H) .here (.pickL (L := o.hb) .here (.last (L := o.bb) .here))) (htake _)) ?_
        rintro _ _ ⟨_, ⟨rfl, x', hx', hL', hxR', hn', hln', rfl⟩, rfl⟩
        repeat' (first | refine S2b ?_ | refine SA (fun _ => ?_) | refine G1 (fun hc => ?_) (fun hc => ?_) | refine G2 (fun hc => ?_) (fun hc => ?_) | refine G3 (fun hc => ?_) (fun hc => ?_) | refine SL ?_ | fail)
        rw [i64_succ (i := k) (by omega)]
        try rw [i64_succ (i := apk) (by omega)]
        rw [i64_id (n := (apc : Int) + (o.sn : Int)) (by omega) (by omega), show (apc : Int) + (o.sn : Int) = ((apc + l.length : Nat) : Int) by rw [hol]; push_cast; rfl]
        refine Fin.round ⟨k + 1, x', s', ⟨s'.S, x'.ln, apk + 1, apc + l.length, true⟩⟩ ⟨by dsimp only; omega, hx', hs', hL', hxR'.trans hyR2, hR'.trans htR, hn'.trans hnow, rfl, rfl, ?_, by dsimp only; omega, by dsimp only; omega⟩ envA (fun _ h => h) (by dsimp only; omega)
        dsimp only
        rw [hS', hln', ← hnow]
        exact hall
    · have hlost : Snd.lostB lost (apk + 1) = false := by
        have := of_decide_eq_false hc
        rw [i64_succ (by omega)] at this
        unfold Snd.lostB
        rw [decide_eq_false (by omega), Bool.false_and]
      rw [if_neg (by rw [hlost]; decide)] at hall
      cases htk : y.ln.take l with
      | none => rw [htk] at hall; cases hall
      | some x1 =>
      rw [htk] at hall
      dsimp only at hall
      have htake := fun F' => ltake_tr F' y hy o ho (by omega) (fun d hd => (hpc d (by rw [← hoL]; exact hd)).1) x1 (by rw [hoL]; exact htk)
      rw [hL] at htake
      repeat' (first | refine S2b ?_ | refine SA (fun _ => ?_) | refine G1 (fun hc => ?_) (fun hc => ?_) | refine G2 (fun hc => ?_) (fun hc => ?_) | refine SL ?_ | fail)
      refine WL.e rfl (Ef.call (c := y.H ++ (o.hb ++ o.bb)) (by exact rfl) (.pickL (L := y.H) .here (.pickL (L := o.hb) .here (.last (L := o.bb) .here))) (htake _)) ?_
      rintro _ _ ⟨_, ⟨rfl, x', hx', hL', hxR', hn', hln', rfl⟩, rfl⟩
      repeat' (first | refine S2b ?_ | refine SA (fun _ => ?_) | refine G1 (fun hc => ?_) (fun hc => ?_) | refine G2 (fun hc => ?_) (fun hc => ?_) | refine G3 (fun hc => ?_) (fun hc => ?_) | refine SL ?_ | fail)
      rw [i64_succ (i := k) (by omega)]
      try rw [i64_succ (i := apk) (by omega)]
      rw [i64_id (n := (apc : Int) + (o.sn : Int)) (by omega) (by omega), show (apc : Int) + (o.sn : Int) = ((apc + l.length : Nat) : Int) by rw [hol]; push_cast; rfl]
      refine Fin.round ⟨k + 1, x', s', ⟨s'.S, x'.ln, apk + 1, apc + l.length, true⟩⟩ ⟨by dsimp only; omega, hx', hs', hL', hxR'.trans hyR2, hR'.trans htR, hn'.trans hnow, rfl, rfl, ?_, by dsimp only; omega, by dsimp only; omega⟩ envA (fun _ h => h) (by dsimp only; omega)
      dsimp only
      rw [hS', hln', ← hnow]
      exact hall
end Go.Proofs.YtjfpckadjnjmoaaGreat
