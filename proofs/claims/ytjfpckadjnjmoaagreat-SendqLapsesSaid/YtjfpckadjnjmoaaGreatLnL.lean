/- The law SendqLapses, walked. Conditions: its arguments lie in the caller's memory. -/
import Derived.Test.YtjfpckadjnjmoaaGreatLnD
import Derived.Test.YtjfpckadjnjmoaaGreatLnO
import Derived.Test.YtjfpckadjnjmoaaGreatSnM
import Derived.Test.YtjfpckadjnjmoaaGreatSnJ
import Derived.Test.YtjfpckadjnjmoaaGreatSnK
import Derived.Test.YtjfpckadjnjmoaaGreatBf
import Derived.Test.YtjfpckadjnjmoaaGreatSnW
namespace Go.Proofs.YtjfpckadjnjmoaaGreat
open Go Go.Sl Go.Pth

theorem LnM.nowPut (x : LnM) (v : Int) : PutAt x.L (0 + 4) [.int .i64 v] x.H ({ x with now := v } : LnM).H := by
  unfold LnM.H LnM.hd LnM.cells
  exact .here rfl
theorem LnM.ok.now {x : LnM} (h : x.ok) (v : Int) : ({ x with now := v } : LnM).ok := ⟨h.row, h.len, h.first, h.cum⟩
attribute [local irreducible] LnM.H
theorem plain0_ok : Pth.Ok ((plainC 0).pathNew 0) := Pth.new_ok (show Pth.may 3 1 60 128 1000 2 10 0 = true by decide)
/-- so many bytes are laid down -/
def fb (c : UInt8) (n k : Nat) : List UInt8 := List.replicate k c ++ List.replicate (n - k) 0
theorem fb_set {c : UInt8} {n k : Nat} (h : k < n) : (fb c n k).set k c = fb c n (k + 1) := by
  unfold fb
  rw [List.set_append_right _ _ (by simp), List.length_replicate, Nat.sub_self, show n - k = (n - (k + 1)) + 1 by omega, List.replicate_succ, List.set_cons_zero, List.replicate_succ', List.append_assoc]
  rfl
theorem fb_len {c : UInt8} {n k : Nat} (h : k ≤ n) : (fb c n k).length = n := by unfold fb; simp; omega
theorem fb_all (c : UInt8) (n : Nat) : fb c n n = List.replicate n c := by unfold fb; simp
theorem b_flat (l : List UInt8) : l.flatMap (fun b : UInt8 => [B b]) = l.map B := by
  induction l with
  | nil => rfl
  | cons a l ih => simp [ih]
theorem b_idx {i : Nat} (h : i < 256) : B (UInt8.ofNat i) = .int .u8 (i : Int) := by
  unfold B
  congr 1
  simp
  omega
structure GPt where
  i : Nat
  s : SdM
structure GOt where
  j : Nat
  x : LnM
  s : SdM
structure GIn where
  k : Nat
  x : LnM
  s : SdM
structure GFl where
  k : Nat
  hb : HL
def lvf (lvs : List Int) (i : Nat) : Int := lvs.getD i 0
set_option maxRecDepth 40000 in
set_option maxHeartbeats 8000000 in
theorem lapses_tr (F : Nat → Option Obj) (first moment : Int) (ls lvs : List Int) (la : Option Addr) (ln lc : Nat) (va : Option Addr) (vn vc : Nat) (hl : Lst F [] 1 (ls.map (Value.int .u16)) la ln lc) (hv : Lst F [] 1 (lvs.map (Value.int .u8)) va vn vc)
    (hf : 0 ≤ first ∧ first < 4294967296) (hmo : 0 ≤ moment ∧ moment < 256) (hlr : ∀ a ∈ ls, 0 ≤ a ∧ a < 65536) (hvr : ∀ a ∈ lvs, 0 ≤ a ∧ a < 256) :
    Tr Tryz.prog 3 [.int .u32 first, .slice la ln lc, .slice va vn vc, .int .u8 moment].toArray F [] (fun v H => v = .bool true ∧ H = []) := by
  refine Tr.enter Tryz.func3 rfl Tryz.ntmps3 rfl (fun w0 => ?_)
  have hll := lst_int hl
  have hvl := lst_int hv
  have hlv : ∀ i, 0 ≤ lvf lvs i ∧ lvf lvs i < 256 := fun i => by
    unfold lvf
    rw [List.getD_eq_getElem?_getD]
    cases h : lvs[i]? with
    | none => exact ⟨by decide, by decide⟩
    | some a => exact hvr a (List.mem_of_getElem? h)
  repeat' (first | refine S2b ?_ | refine SA (fun _ => ?_) | refine G1 (fun hc => ?_) (fun hc => ?_) | refine G2 (fun hc => ?_) (fun hc => ?_) | refine G3 (fun hc => ?_) (fun hc => ?_) | refine SL ?_ | fail)
  ·
    refine WL.e rfl (Ef.callR (by exact rfl) (.nil _) (works_tr _)) ?_
    rintro _ _ ⟨rfl, rfl⟩
    repeat' (first | refine S2b ?_ | refine SA (fun _ => ?_) | refine G1 (fun hc => ?_) (fun hc => ?_) | refine G2 (fun hc => ?_) (fun hc => ?_) | refine G3 (fun hc => ?_) (fun hc => ?_) | refine SL ?_ | fail)
    exact Fin.retW (by exact rfl) resA (H' := []) (fun _ h => h.sublist (List.nil_sublist _)) ⟨rfl, rfl⟩
  ·
    refine WL.e rfl (Ef.callR (by exact rfl) (.nil _) (works_tr _)) ?_
    rintro _ _ ⟨rfl, rfl⟩
    repeat' (first | refine S2b ?_ | refine SA (fun _ => ?_) | refine G1 (fun hc => ?_) (fun hc => ?_) | refine G2 (fun hc => ?_) (fun hc => ?_) | refine G3 (fun hc => ?_) (fun hc => ?_) | refine SL ?_ | fail)
    exact Fin.retW (by exact rfl) resA (H' := []) (fun _ h => h.sublist (List.nil_sublist _)) ⟨rfl, rfl⟩
  rename_i hc1
  have h10 : ln ≤ 10 := by have := of_decide_eq_false hc1; omega
  have hvn : ln ≤ vn := by have := of_decide_eq_false hc; omega
  refine WL.e rfl (Ef.callR (by exact rfl) (.nil _) (plain_tr _ 0 (by omega))) ?_
  rintro _ _ ⟨rfl, rfl⟩
  repeat' (first | refine S2b ?_ | refine SA (fun _ => ?_) | refine G1 (fun hc => ?_) (fun hc => ?_) | refine G2 (fun hc => ?_) (fun hc => ?_) | refine SL ?_ | fail)
  refine WL.e rfl (Ef.call (by exact rfl) (.nil _) (snew_tr _ (plainC 0) first 65536 0 (by omega))) ?_
  rintro _ _ ⟨_, (⟨hno, _⟩ | ⟨_, s0, hs0, rfl, rfl, hS0⟩), rfl⟩
  · rw [plain_may] at hno; cases hno
  have hS0' : s0.S = Snd.newS 1 2 65536 128 ((plainC 0).pathNew 0) first 65536 := hS0
  have hpi0 : Snd.Pi (lvf lvs) s0.S 0 s0.S := Snd.Pi.zero hs0.pl (by rw [hS0']; rfl) (by rw [hS0']; rfl) (by rw [hS0']; rfl) (by rw [hS0']; rfl) (by rw [hS0']; rfl)
  dsimp only [tup]
  rw [List.append_nil]
  repeat' (first | refine S2b ?_ | refine SA (fun _ => ?_) | refine G1 (fun hc => ?_) (fun hc => ?_) | refine G2 (fun hc => ?_) (fun hc => ?_) | refine SL ?_ | fail)
  refine W.loopX (G := GPt) (.exit 0) (fun g => [(0, .int .u32 first), (1, .slice la ln lc), (2, .slice va vn vc), (3, .int .u8 moment), (9, ptr s0.R), (11, .int .i64 g.i)]) (fun g => g.s.H)
    (fun g => g.i ≤ ln ∧ g.s.ok g.i ∧ g.s.R = s0.R ∧ Snd.Pi (lvf lvs) s0.S g.i g.s.S) (fun g => ln - g.i) ⟨0, s0⟩ ⟨Nat.zero_le _, hs0, rfl, hpi0⟩ envA (fun _ h => h) (fun g => g.i = ln) ?_ ?_
  · rintro K' hK ⟨i, s⟩ ⟨hi, hs, hsR, hpi⟩
    dsimp only at hi hs hsR hpi ⊢
    by_cases hi' : i < ln
    · obtain ⟨y, hy⟩ : ∃ y, ls[i]? = some y := ⟨ls[i]'(by omega), List.getElem?_eq_getElem _⟩
      obtain ⟨z, hz⟩ : ∃ z, lvs[i]? = some z := ⟨lvs[i]'(by omega), List.getElem?_eq_getElem _⟩
      have hyr := hlr y (List.mem_of_getElem? hy)
      have hzi : lvf lvs i = z := by unfold lvf; rw [List.getD_eq_getElem?_getD, hz]; rfl
      have hzr := hvr z (List.mem_of_getElem? hz)
      obtain ⟨lb, lo, rfl, hcl⟩ := lst_el hl hy
      obtain ⟨vb, vo, rfl, hcv⟩ := lst_el hv hz
      have hik : 0 ≤ (i : Int) ∧ (i : Int) < ln := by omega
      have hikv : 0 ≤ (i : Int) ∧ (i : Int) < vn := by omega
      have e1 : decide ((i : Int) < ln) = true := decide_eq_true (by omega)
      obtain ⟨n, hn⟩ : ∃ n : Nat, (n : Int) = 1 + y % 400 := ⟨(1 + y % 400).toNat, by omega⟩
      have en : IntKind.i64.wrap (1 + (IntKind.i64.wrap y).tmod 400) = (n : Int) := by
        rw [i64_id (n := y) (by omega) (by omega), Int.tmod_eq_emod_of_nonneg (by omega), i64_id (by omega) (by omega), hn]
      repeat' (first | refine S2b ?_ | refine SA (fun _ => ?_) | refine G1 (fun hc => ?_) (fun hc => ?_) | refine G2 (fun hc => ?_) (fun hc => ?_) | refine SL ?_ | fail)
      rw [e1]
      repeat' (first | refine S2b ?_ | refine SA (fun _ => ?_) | refine G1 (fun hc => ?_) (fun hc => ?_) | refine G2 (fun hc => ?_) (fun hc => ?_) | refine SL ?_ | fail)
      rw [en]
      refine WL.e rfl (Ef.mkS (n := n) (z := [.int .u8 0]) (by exact rfl) (by exact rfl) rfl rfl (by omega) (by omega)) ?_
      rintro _ _ ⟨z1, rfl, rfl⟩
      have hz1 := OwnS.made 5 (.int .u8 0) z1 n (by simp only [maxLen]; omega)
      rw [mk_wz] at hz1 ⊢
      repeat' (first | refine S2b ?_ | refine SA (fun _ => ?_) | refine G1 (fun hc => ?_) (fun hc => ?_) | refine G2 (fun hc => ?_) (fun hc => ?_) | refine SL ?_ | fail)
      refine W.loopX (G := GFl) (.exit 2) (fun g => [(0, .int .u32 first), (1, .slice (some ⟨lb, lo, none⟩) ln lc), (2, .slice (some ⟨vb, vo, none⟩) vn vc), (3, .int .u8 moment), (9, ptr s0.R), (11, .int .i64 i), (12, .slice (some ⟨z1, 0, none⟩) n n), (13, .int .i64 g.k)]) (fun g => g.hb ++ s.H)
        (fun g => g.k ≤ n ∧ OwnS 5 1 ((fb (UInt8.ofNat i) n g.k).flatMap (fun b : UInt8 => [B b])) (.slice (some ⟨z1, 0, none⟩) n n) g.hb) (fun g => n - g.k) ⟨0, [(z1, .cells ((wz n).map B).toArray 5 (0, 0))]⟩ ⟨Nat.zero_le _, by rw [b_flat]; exact hz1⟩ envA (fun _ h => h) (fun g => g.k = n) ?_ ?_
      · rintro K2 hK2 ⟨k, hb⟩ ⟨hk, hown⟩
        dsimp only at hk hown ⊢
        by_cases hk' : k < n
        · have e2 : decide ((k : Int) < n) = true := decide_eq_true (by omega)
          have hkk : 0 ≤ (k : Int) ∧ (k : Int) < n := by omega
          obtain ⟨hb', hown', hput⟩ := OwnS.setEl (cells := fun b : UInt8 => [B b]) (sz := 1) (fun _ => rfl) hown (k := k) (by rw [fb_len (c := UInt8.ofNat i) hk]; exact hk') (UInt8.ofNat i)
          rw [fb_set hk'] at hown'
          have hput2 : PutAt z1 (0 + (k : Int).toNat * 1) [.int .u8 (IntKind.u8.wrap (i : Int))] hb hb' := by
            rw [u8_id (by omega), ← b_idx (by omega)]
            exact hput
          repeat' (first | refine S2b ?_ | refine SA (fun _ => ?_) | refine G1 (fun hc => ?_) (fun hc => ?_) | refine G2 (fun hc => ?_) (fun hc => ?_) | refine SL ?_ | fail)
          rw [e2]
          repeat' (first | refine S2c ?_ | refine SA (fun _ => ?_) | refine G1 (fun hc => ?_) (fun hc => ?_) | refine G2 (fun hc => ?_) (fun hc => ?_) | refine G3 (fun hc => ?_) (fun hc => ?_) | refine SL ?_ | fail)
          refine WL.e0 (Ef.st rfl rfl rfl (.left hput2)) ?_
          rintro _ _ ⟨rfl, rfl⟩
          repeat' (first | refine S2b ?_ | refine SA (fun _ => ?_) | refine G1 (fun hc => ?_) (fun hc => ?_) | refine G2 (fun hc => ?_) (fun hc => ?_) | refine G3 (fun hc => ?_) (fun hc => ?_) | refine SL ?_ | fail)
          rw [i64_succ (i := k) (by omega)]
          exact Fin.round ⟨k + 1, hb'⟩ ⟨hk', hown'⟩ envA (fun _ h => h) (by dsimp only; omega)
        · have e2 : decide ((k : Int) < n) = false := decide_eq_false (by omega)
          repeat' (first | refine S2b ?_ | refine SA (fun _ => ?_) | refine G1 (fun hc => ?_) (fun hc => ?_) | refine G2 (fun hc => ?_) (fun hc => ?_) | refine SL ?_ | fail)
          rw [e2]
          repeat' (first | refine S2b ?_ | refine SA (fun _ => ?_) | refine G1 (fun hc => ?_) (fun hc => ?_) | refine G2 (fun hc => ?_) (fun hc => ?_) | refine G3 (fun hc => ?_) (fun hc => ?_) | refine SL ?_ | fail)
          exact Fin.weak envA (fun _ h => h) (hK2 ⟨k, hb⟩ ⟨hk, hown⟩ (by dsimp only; omega))
      · rintro ⟨k, hb⟩ ⟨_, hown⟩ hkn
        dsimp only at hown hkn ⊢
        subst hkn
        rw [fb_all, b_flat] at hown
        repeat' (first | refine S2b ?_ | refine SA (fun _ => ?_) | refine G1 (fun hc => ?_) (fun hc => ?_) | refine G2 (fun hc => ?_) (fun hc => ?_) | refine SL ?_ | fail)
        have hT := fun (F' : Nat → Option Obj) (hF : ∀ w, In F' [] w → In F hb w) => sput_tr F' s hs (by omega) 0 (by omega) true (List.replicate k (UInt8.ofNat i)) (some ⟨z1, 0, none⟩) k k ((Lst.own (F := F) hown (fun _ h => h)).mono (fun w h => hF w h)) (IntKind.i64.wrap z) 0
        rw [hsR] at hT
        refine WL.e rfl (Ef.callW (c := s.H) (by exact rfl) (.skipL hb (.all _)) (fun F' hF => hT F' (fun w h => (hF w h).left))) ?_
        clear hT
        rintro _ _ ⟨_, ⟨rfl, s1, hs1, rfl, hR1, hS1⟩, rfl⟩
        have hzw : IntKind.i64.wrap z = z := i64_id (by omega) (by omega)
        obtain ⟨hpE, hpi1⟩ := hpi.put (by rw [hS0']; rfl) (by omega) (hlv i) (bs := List.replicate k (UInt8.ofNat i)) (by simp; omega) (fun b hb' => List.eq_of_mem_replicate hb') true
        rw [hzi] at hpE hpi1
        rw [hzw] at hS1 ⊢
        rw [hpE]
        repeat' (first | refine S2b ?_ | refine SA (fun _ => ?_) | refine G1 (fun hc => ?_) (fun hc => ?_) | refine G2 (fun hc => ?_) (fun hc => ?_) | refine G3 (fun hc => ?_) (fun hc => ?_) | refine SL ?_ | fail)
        rw [i64_succ (i := i) (by omega)]
        exact Fin.round ⟨i + 1, s1⟩ ⟨hi', hs1, hR1, by dsimp only; rw [hS1]; exact hpi1⟩ envA (fun _ h => h.left) (by dsimp only; omega)
    · have e1 : decide ((i : Int) < ln) = false := decide_eq_false (by omega)
      repeat' (first | refine S2b ?_ | refine SA (fun _ => ?_) | refine G1 (fun hc => ?_) (fun hc => ?_) | refine G2 (fun hc => ?_) (fun hc => ?_) | refine SL ?_ | fail)
      rw [e1]
      repeat' (first | refine S2b ?_ | refine SA (fun _ => ?_) | refine G1 (fun hc => ?_) (fun hc => ?_) | refine G2 (fun hc => ?_) (fun hc => ?_) | refine G3 (fun hc => ?_) (fun hc => ?_) | refine SL ?_ | fail)
      exact Fin.weak envA (fun _ h => h) (hK ⟨i, s⟩ ⟨hi, hs, hsR, hpi⟩ (by dsimp only; omega))
  · rintro ⟨i, s⟩ ⟨_, hs, hsR, hpi⟩ hin
    dsimp only at hs hsR hpi hin ⊢
    subst hin
    have hin0 : Snd.In0 i (lvf lvs) i first s.S := Snd.In0.start hpi h10 (w := Snd.way0 ((plainC 0).pathNew 0)) (by rw [hS0']; rfl) (by rw [hS0']; rfl) (by rw [hS0']; rfl) (by rw [hS0']; rfl) (by rw [hS0']; rfl) rfl rfl
    repeat' (first | refine S2b ?_ | refine SA (fun _ => ?_) | refine G1 (fun hc => ?_) (fun hc => ?_) | refine G2 (fun hc => ?_) (fun hc => ?_) | refine SL ?_ | fail)
    rename_i b14
    obtain ⟨x0, hx0⟩ : ∃ x0 : LnM, x0 = ⟨b14, s.R, [], none, 0, 0, [], first, 0, 0⟩ := ⟨_, rfl⟩
    have hx0H : x0.H = [(b14, .cells [ptr s.R, .slice none 0 0, .int .u32 first, .int .i64 (0 : Nat), .int .i64 0].toArray 40 (0, 0))] := by rw [hx0]; unfold LnM.H LnM.hd LnM.cells; rfl
    have hx0ok : x0.ok := by rw [hx0]; exact ⟨⟨.inl ⟨rfl, rfl, rfl⟩, fun _ h => by cases h⟩, Nat.zero_le _, hf, Nat.le_refl _⟩
    have hx0L : x0.L = b14 := by rw [hx0]
    have hx0R : x0.R = s.R := by rw [hx0]
    have hx0n : x0.now = 0 := by rw [hx0]
    have hx0l : x0.ln = ⟨[], first, 0⟩ := by rw [hx0]; rfl
    obtain ⟨a', ha, hax, hin⟩ := Snd.In0.all (m := i) (lv := lvf lvs) (N := i) (first := first) 40 ⟨s.S, x0.ln, 0, 0, false⟩ (by exact Nat.le_refl 40) hin0
    rw [← hx0n] at ha
    rw [← hx0L]
    refine WL.weak (H' := x0.H ++ s.H) (fun _ h => by rw [hx0H, ← hx0L, hsR]; exact h) ?_
    have hT := fun F' => all_tr F' x0 hx0ok s hs hx0R 9223372036854775807 0 (by decide) (by decide) a' ha
    rw [hsR] at hT
    repeat' (first | refine S2b ?_ | refine SA (fun _ => ?_) | refine G1 (fun hc => ?_) (fun hc => ?_) | refine G2 (fun hc => ?_) (fun hc => ?_) | refine SL ?_ | fail)
    refine WL.e rfl (Ef.call (c := x0.H ++ s.H) (by exact rfl) (.all _) (hT _)) ?_
    clear hT
    rintro _ _ ⟨_, ⟨rfl, x2, s2, hx2, hs2, hx2L, hx2R, hs2R, hx2n, hs2S, hx2ln, rfl⟩, rfl⟩
    have hx2s : s2.R = s0.R := hs2R
    have hot : Snd.Ot i (lvf lvs) i 1 s2.S x2.ln := by
      rw [hs2S, hx2ln, hax]
      dsimp only
      rw [hx0l]
      exact hin.ot
    have hx2f : x2.ln.first = first := by rw [hx2ln, hax]; dsimp only; rw [hx0l]
    have hx2c : x2.ln.cum = 0 := by rw [hx2ln, hax]; dsimp only; rw [hx0l]
    rw [List.append_nil]
    dsimp only [tup]
    have hmw : IntKind.i64.wrap moment = moment := i64_id (by omega) (by omega)
    repeat' (first | refine S2c ?_ | refine SA (fun _ => ?_) | refine G1 (fun hc => ?_) (fun hc => ?_) | refine G2 (fun hc => ?_) (fun hc => ?_) | refine G3 (fun hc => ?_) (fun hc => ?_) | refine SL ?_ | fail)
    rw [hmw]
    refine WL.e0 (Ef.st rfl rfl rfl (.left (by rw [← hx2L]; exact LnM.nowPut x2 moment))) ?_
    rintro _ _ ⟨rfl, rfl⟩
    have hx3 := hx2.now moment
    obtain ⟨x3, hx3e⟩ : ∃ y : LnM, y = { x2 with now := moment } := ⟨_, rfl⟩
    rw [← hx3e] at hx3 ⊢
    have hx3L : x3.L = x0.L := by rw [hx3e]; exact hx2L
    have hx3R : x3.R = s2.R := by rw [hx3e]; exact hx2R
    have hx3n : x3.now = moment := by rw [hx3e]
    have hx3l : x3.ln = x2.ln := by rw [hx3e]; rfl
    rw [← hx3l] at hot hx2f hx2c
    repeat' (first | refine S2b ?_ | refine SA (fun _ => ?_) | refine G1 (fun hc => ?_) (fun hc => ?_) | refine G2 (fun hc => ?_) (fun hc => ?_) | refine SL ?_ | fail)
    refine W.loopX (G := GOt) (.exit 4) (fun g => [(1, .slice la i lc), (2, .slice va vn vc), (9, ptr s0.R), (14, ptr x0.L), (15, .int .i64 g.j)]) (fun g => g.x.H ++ g.s.H)
      (fun g => g.j ≤ 600 ∧ g.x.ok ∧ g.s.ok (i + g.j) ∧ g.x.L = x0.L ∧ g.x.R = g.s.R ∧ g.s.R = s0.R ∧ g.x.now = moment + g.j ∧ g.x.ln.first = first ∧ Snd.Ot i (lvf lvs) (i + g.j) (moment + 1 + g.j) g.s.S g.x.ln ∧ (g.j ≤ g.x.ln.cum + 2 ∨ Snd.empty g.s.S = true)) (fun g => 600 - g.j) ⟨0, x3, s2⟩
      ⟨Nat.zero_le _, hx3, hs2, hx3L, hx3R, hx2s, by dsimp only; omega, hx2f, hot.up (by dsimp only; omega), .inl (Nat.zero_le _)⟩ envA (fun _ h => h) (fun g => Snd.empty g.s.S = true) ?_ ?_
    · clear hx0H hx0ok hx0R hx0n hx0l ha hax hin hx2 hs2 hx2L hx2R hs2R hx2n hs2S hx2ln hx2s hot hx2f hx2c hx3 hx3e hx3L hx3R hx3n hx3l hs hpi hin0 hpi0 hS0 hS0'
      rintro K' hK ⟨j, x, s⟩ ⟨hj, hx, hs, hxL, hxR, hsR, hnow, hxf, hot, hpr⟩
      dsimp only at hj hx hs hxL hxR hsR hnow hxf hot hpr ⊢
      obtain ⟨c0, c1, c2, c3, c4⟩ := x.cans (F := F)
      rw [hxL] at c0 c1 c2 c3 c4
      rw [hxR, hsR] at c0
      by_cases hem : Snd.empty s.S = true
      ·
        repeat' (first | refine S2b ?_ | refine SA (fun _ => ?_) | refine G1 (fun hc => ?_) (fun hc => ?_) | refine G2 (fun hc => ?_) (fun hc => ?_) | refine SL ?_ | fail)
        · have hT := fun F' => sempty_tr F' s hs
          rw [hsR] at hT
          refine WL.e rfl (Ef.callR (c := s.H) (by exact rfl) (.last (.right .all)) (hT _)) ?_
          clear hT
          rintro _ _ ⟨rfl, rfl⟩
          rw [hem]
          repeat' (first | refine S2b ?_ | refine SA (fun _ => ?_) | refine G1 (fun hc => ?_) (fun hc => ?_) | refine G2 (fun hc => ?_) (fun hc => ?_) | refine G3 (fun hc => ?_) (fun hc => ?_) | refine SL ?_ | fail)
          exact Fin.weak envA (fun _ h => h) (hK ⟨j, x, s⟩ ⟨hj, hx, hs, hxL, hxR, hsR, hnow, hxf, hot, hpr⟩ hem)
        · exact Fin.weak envA (fun _ h => h) (hK ⟨j, x, s⟩ ⟨hj, hx, hs, hxL, hxR, hsR, hnow, hxf, hot, hpr⟩ hem)
      · have hem' : Snd.empty s.S = false := by simpa using hem
        have hjc : j ≤ x.ln.cum + 2 := hpr.resolve_right hem
        obtain ⟨T0, hT0, hla0⟩ := hot.la
        have hbud := hla0.bud
        have hli0 := hla0.li.cum
        have hj40 : j ≤ 42 := by omega
        repeat' (first | refine S2b ?_ | refine SA (fun _ => ?_) | refine G1 (fun hc => ?_) (fun hc => ?_) | refine G2 (fun hc => ?_) (fun hc => ?_) | refine SL ?_ | fail)
        rotate_right
        · exfalso
          have := of_decide_eq_false hc
          omega
        have hT := fun F' => sempty_tr F' s hs
        rw [hsR] at hT
        refine WL.e rfl (Ef.callR (c := s.H) (by exact rfl) (.last (.right .all)) (hT _)) ?_
        clear hT
        rintro _ _ ⟨rfl, rfl⟩
        rw [hem']
        have hnw : IntKind.i64.wrap (x.now + 1) = x.now + 1 := i64_id (by omega) (by omega)
        repeat' (first | refine S2c ?_ | refine SA (fun _ => ?_) | refine G1 (fun hc => ?_) (fun hc => ?_) | refine G2 (fun hc => ?_) (fun hc => ?_) | refine G3 (fun hc => ?_) (fun hc => ?_) | refine SL ?_ | fail)
        rw [hnw]
        refine WL.e0 (Ef.st rfl rfl rfl (.left (by rw [← hxL]; exact LnM.nowPut x (x.now + 1)))) ?_
        rintro _ _ ⟨rfl, rfl⟩
        have hx1 := hx.now (x.now + 1)
        obtain ⟨y, hy⟩ : ∃ y : LnM, y = { x with now := x.now + 1 } := ⟨_, rfl⟩
        rw [← hy] at hx1 ⊢
        have hyL : y.L = x0.L := by rw [hy]; exact hxL
        have hyR : y.R = s.R := by rw [hy]; exact hxR
        have hyn : y.now = moment + 1 + j := by rw [hy]; dsimp only; omega
        have hyl : y.ln = x.ln := by rw [hy]; rfl
        clear c0 c1 c2 c3 c4
        obtain ⟨c0, c1, c2, c3, c4⟩ := y.cans (F := F)
        rw [hyL] at c0 c1 c2 c3 c4
        rw [hyR, hsR] at c0
        rw [← hyl] at hot hxf
        have hck : Snd.clock (moment + 1 + j) = moment + 1 + j := by unfold Snd.clock; rw [mx_eq, mn_eq]; omega
        have hmi := hot.begins (fun q => (hlv q).1) hck (by omega)
        rw [← hyn] at hmi
        repeat' (first | refine S2b ?_ | refine SA (fun _ => ?_) | refine G1 (fun hc => ?_) (fun hc => ?_) | refine G2 (fun hc => ?_) (fun hc => ?_) | refine SL ?_ | fail)
        have hT := fun F' => sexp_tr F' s hs (by omega) y.now
        rw [hsR] at hT
        refine WL.e rfl (Ef.call (c := s.H) (by exact rfl) (.last (.right .all)) (hT _)) ?_
        clear hT
        rintro _ _ ⟨_, ⟨rfl, s3, hs3, hs3R, hs3S, rfl⟩, rfl⟩
        refine WL.weak (H' := y.H ++ s3.H) (fun _ h => by rw [List.append_nil] at h; exact h.perm List.perm_append_comm) ?_
        repeat' (first | refine S2b ?_ | refine SA (fun _ => ?_) | refine G1 (fun hc => ?_) (fun hc => ?_) | refine G2 (fun hc => ?_) (fun hc => ?_) | refine SL ?_ | fail)
        have hT := fun F' => slate_tr F' s3 hs3 y.now
        rw [hs3R] at hT
        refine WL.e rfl (Ef.call (c := s3.H) (by exact rfl) (.last (.right .all)) (hT _)) ?_
        clear hT
        rintro _ _ ⟨_, ⟨rfl, s4, hs4, hs4R, hs4S, rfl⟩, rfl⟩
        refine WL.weak (H' := y.H ++ s4.H) (fun _ h => by rw [List.append_nil] at h; exact h.perm List.perm_append_comm) ?_
        rw [← hs3S, ← hs4S] at hmi
        obtain ⟨l0, hl0⟩ : ∃ l0, l0 = s4.S.f.L.length := ⟨_, rfl⟩
        rw [← hl0] at hmi
        repeat' (first | refine S2b ?_ | refine SA (fun _ => ?_) | refine G1 (fun hc => ?_) (fun hc => ?_) | refine G2 (fun hc => ?_) (fun hc => ?_) | refine SL ?_ | fail)
        refine W.loopX (G := GIn) (.exit 6) (fun g => [(1, .slice la i lc), (2, .slice va vn vc), (9, ptr s0.R), (14, ptr x0.L), (15, .int .i64 j), (16, .int .i64 g.k)]) (fun g => g.x.H ++ g.s.H)
          (fun g => g.k ≤ 40 ∧ g.x.ok ∧ g.s.ok (i + j + 1) ∧ g.x.L = x0.L ∧ g.x.R = g.s.R ∧ g.s.R = s0.R ∧ g.x.now = y.now ∧ g.x.ln.first = first ∧ Snd.Mi i (lvf lvs) y.now (i + j + 1) y.ln.cum y.now l0 g.k g.s.S g.x.ln) (fun g => 40 - g.k) ⟨0, y, s4⟩
          ⟨Nat.zero_le _, hx1, hs4, hyL, hyR.trans (hsR.trans hs4R.symm), hs4R, rfl, hxf, hmi⟩ envA (fun _ h => h) (fun g => g.k = 40 ∨ ∃ s9, Snd.next g.s.S y.now = (s9, none)) ?_ ?_
        · clear c0 c1 c2 c3 c4 hmi hx1 hs4 hs4S hs3S hs3 hot hla0 hbud hli0 hpr hem hem' hs hx hs3R hs4R
          rintro K2 hK2 ⟨k, x5, s5⟩ ⟨hk, hx5, hs5, hx5L, hx5R, hs5R, hx5n, hx5f, hmi5⟩
          dsimp only at hk hx5 hs5 hx5L hx5R hs5R hx5n hx5f hmi5 ⊢
          obtain ⟨c0, c1, c2, c3, c4⟩ := x5.cans (F := F)
          rw [hx5L] at c0 c1 c2 c3 c4
          rw [hx5R, hs5R] at c0
          rw [hx5n] at c4
          repeat' (first | refine S2b ?_ | refine SA (fun _ => ?_) | refine G1 (fun hc => ?_) (fun hc => ?_) | refine G2 (fun hc => ?_) (fun hc => ?_) | refine G3 (fun hc => ?_) (fun hc => ?_) | refine SL ?_ | fail)
          · have hk' : k < 40 := by have := of_decide_eq_true hc; omega
            have hT := fun F' => snx_tr F' s5 hs5 y.now
            rw [hs5R] at hT
            cases hnx : Snd.next s5.S y.now with
            | mk S' r =>
            rw [hnx] at hT
            cases r with
            | none =>
              have hS' := Snd.next_quiet hnx
              refine WL.e rfl (Ef.call (c := s5.H) (by exact rfl) (.last (.right .all)) (hT _)) ?_
              rintro _ _ ⟨_, ⟨rfl, s6, hs6, hs6R, hs6S, rfl⟩, rfl⟩
              dsimp only [tup]
              repeat' (first | refine S2b ?_ | refine SA (fun _ => ?_) | refine G1 (fun hc => ?_) (fun hc => ?_) | refine G2 (fun hc => ?_) (fun hc => ?_) | refine G3 (fun hc => ?_) (fun hc => ?_) | refine SL ?_ | fail)
              refine Fin.weak envA (fun _ h => by rw [List.append_nil] at h; exact h.perm List.perm_append_comm) (hK2 ⟨k, x5, s6⟩ ⟨hk, hx5, hs6, hx5L, hx5R.trans hs6R.symm, hs6R.trans hs5R, hx5n, hx5f, ?_⟩ (.inr ?_))
              · dsimp only
                rw [hs6S, hS']
                exact hmi5
              · dsimp only
                rw [hs6S, hS']
                exact ⟨_, hnx⟩
            | some r =>
              obtain ⟨p, l⟩ := r
              obtain ⟨hpc, xl, htk, hmi6, hxlf⟩ := hmi5.more hnx
              obtain ⟨_, hlne, hpcs, _, hl75⟩ := Snd.next_pc hs5.pl hnx
              refine WL.e rfl (Ef.call (c := s5.H) (by exact rfl) (.last (.right .all)) (hT _)) ?_
              clear hT
              rintro _ _ ⟨_, ⟨s6, o, rfl, hs6, hs6R, hs6S, ho, hoL, rfl⟩, rfl⟩
              have hon := ho.len
              have hol : l.length = o.sn := by rw [← hoL, ← hon]; unfold OuM.L; rw [List.length_map]
              have horow : RowOk o.ds o.sa o.sn o.sc o.hb := ⟨ho.row, ho.own⟩
              dsimp only [tup]
              refine WL.weak (H' := x5.H ++ (o.hb ++ (o.bb ++ s6.H))) (fun _ h => by rw [List.append_nil] at h; exact h.perm List.perm_append_comm) ?_
              repeat' (first | refine S2b ?_ | refine SA (fun _ => ?_) | refine G1 (fun hc => ?_) (fun hc => ?_) | refine G2 (fun hc => ?_) (fun hc => ?_) | refine G3 (fun hc => ?_) (fun hc => ?_) | refine SL ?_ | fail)
              refine W.loopX (G := GK) (.exit 8) (fun g => [(1, .slice la i lc), (2, .slice va vn vc), (9, ptr s0.R), (14, ptr x0.L), (15, .int .i64 j), (16, .int .i64 k), (18, .slice o.sa o.sn o.sc), (20, .int .i64 g.i)]) (fun _ => x5.H ++ (o.hb ++ (o.bb ++ s6.H)))
                (fun g => g.i ≤ o.sn) (fun g => o.sn - g.i) ⟨0⟩ (Nat.zero_le _) envA (fun _ h => h) (fun _ => True) ?_ ?_
              · rintro K3 hK3 ⟨q⟩ hq
                dsimp only at hq ⊢
                by_cases hq' : q < o.sn
                · obtain ⟨m, hm⟩ : ∃ m, o.ds[q]? = some m := ⟨o.ds[q]'(by omega), List.getElem?_eq_getElem _⟩
                  have hmo := ho.own m (List.mem_of_getElem? hm)
                  have hdl : m.d ∈ l := by rw [← hoL]; exact List.mem_map.2 ⟨m, List.mem_of_getElem? hm, rfl⟩
                  obtain ⟨hne, u, hu, hbu, hlu⟩ := hpc m.d hdl
                  obtain ⟨c, hcb⟩ : ∃ c, m.d.bs[0]? = some c := ⟨m.d.bs[0]'(List.length_pos_iff.2 hne), List.getElem?_eq_getElem _⟩
                  have hcu := hbu c (List.mem_of_getElem? hcb)
                  obtain ⟨z, hz⟩ : ∃ z, lvs[u]? = some z := ⟨lvs[u]'(by omega), List.getElem?_eq_getElem _⟩
                  have hzi : lvf lvs u = z := by unfold lvf; rw [List.getD_eq_getElem?_getD, hz]; rfl
                  have hzr := hvr z (List.mem_of_getElem? hz)
                  rw [hzi] at hlu
                  have hbn := dm_bn hmo
                  have hbp : 0 < m.d.bs.length := List.length_pos_iff.2 hne
                  obtain ⟨pb, po, hoa, hpcan⟩ := horow.can hm
                  have hp6 : Sl.Can F o.hb pb (po + (q : Int).toNat * 7 + 6) [.slice m.ba m.bn m.bc] := (hpcan F).one (i := 6) rfl
                  have hLb : Lst F m.bb 1 (m.d.bs.flatMap (fun b : UInt8 => [B b])) m.ba m.bn m.bc := by rw [b_flat]; exact Lst.own hmo (fun _ h => h)
                  obtain ⟨wb, wo, hba, hwc⟩ := hLb.el (fun _ => rfl) hcb (by omega)
                  rw [hcu, b_idx (by omega)] at hwc
                  have hwc2 : Sl.Can F o.bb wb (wo + (0 : Int).toNat * 1) [.int .u8 (u : Int)] := hwc.mono (fun _ h => h.sublist (flat_sub (fun q : DM => q.bb) (List.mem_of_getElem? hm)))
                  rw [hba] at hp6
                  rw [hoa]
                  obtain ⟨vb, vo, rfl, hcv⟩ := lst_el hv hz
                  have hu64 : IntKind.i64.wrap (u : Int) = u := i64_id (by omega) (by omega)
                  have hiq : 0 ≤ (q : Int) ∧ (q : Int) < o.sn := by omega
                  have hi0 : 0 ≤ (0 : Int) ∧ (0 : Int) < m.bn := by omega
                  have hiu : 0 ≤ IntKind.i64.wrap (u : Int) ∧ IntKind.i64.wrap (u : Int) < vn := by omega
                  rw [← hu64] at hcv
                  repeat' (first | refine S2b ?_ | refine SA (fun _ => ?_) | refine G1 (fun hc => ?_) (fun hc => ?_) | refine G2 (fun hc => ?_) (fun hc => ?_) | refine G3 (fun hc => ?_) (fun hc => ?_) | refine SL ?_ | fail)
                  · exfalso
                    have : (m.bn : Int) = 0 := by simpa using hc
                    omega
                  · refine W.drawA ?_
                    repeat' (first | refine S2b ?_ | refine SA (fun _ => ?_) | refine G1 (fun hc => ?_) (fun hc => ?_) | refine G2 (fun hc => ?_) (fun hc => ?_) | refine G3 (fun hc => ?_) (fun hc => ?_) | refine SL ?_ | fail)
                    · exfalso
                      have := of_decide_eq_true hc
                      omega
                    · exfalso
                      rename_i hzp
                      have h1 := of_decide_eq_true hc
                      have h2 := of_decide_eq_true hzp
                      rw [i64_id (n := z) (by omega) (by omega)] at h1
                      omega
                    · rw [i64_succ (i := q) (by omega)]
                      exact Fin.round ⟨q + 1⟩ (by exact hq') envA (fun _ h => h) (by dsimp only; omega)
                    · rw [i64_succ (i := q) (by omega)]
                      exact Fin.round ⟨q + 1⟩ (by exact hq') envA (fun _ h => h) (by dsimp only; omega)
                  · exfalso
                    have := of_decide_eq_false hc
                    omega
                · have e1 : decide ((q : Int) < o.sn) = false := decide_eq_false (by omega)
                  repeat' (first | refine S2b ?_ | refine SA (fun _ => ?_) | refine G1 (fun hc => ?_) (fun hc => ?_) | refine G2 (fun hc => ?_) (fun hc => ?_) | refine G3 (fun hc => ?_) (fun hc => ?_) | refine SL ?_ | fail)
                  · exfalso
                    have := of_decide_eq_true hc
                    omega
                  exact Fin.weak envA (fun _ h => h) (hK3 ⟨q⟩ hq trivial)
              · rintro ⟨q⟩ _ _
                have htake := fun F' => ltake_tr F' x5 hx5 o ho (by omega) (fun d hd => (hpcs d (by rw [← hoL]; exact hd)).1) xl (by rw [hoL]; exact htk)
                rw [hx5L] at htake
                repeat' (first | refine S2b ?_ | refine SA (fun _ => ?_) | refine G1 (fun hc => ?_) (fun hc => ?_) | refine G2 (fun hc => ?_) (fun hc => ?_) | refine SL ?_ | fail)
                refine WL.e rfl (Ef.call (c := x5.H ++ (o.hb ++ o.bb)) (by exact rfl) (.pickL (L := x5.H) .here (.pickL (L := o.hb) .here (.last (L := o.bb) .here))) (htake _)) ?_
                clear htake
                rintro _ _ ⟨_, ⟨rfl, x6, hx6, hx6L, hx6R, hx6n, hx6l, rfl⟩, rfl⟩
                repeat' (first | refine S2b ?_ | refine SA (fun _ => ?_) | refine G1 (fun hc => ?_) (fun hc => ?_) | refine G2 (fun hc => ?_) (fun hc => ?_) | refine G3 (fun hc => ?_) (fun hc => ?_) | refine SL ?_ | fail)
                rw [i64_succ (i := k) (by omega)]
                refine Fin.round ⟨k + 1, x6, s6⟩ ⟨hk', hx6, hs6, hx6L, hx6R.trans (hx5R.trans hs6R.symm), hs6R.trans hs5R, hx6n.trans hx5n, ?_, ?_⟩ envA (fun _ h => h) (by dsimp only; omega)
                · dsimp only
                  rw [hx6l, hxlf]
                  exact hx5f
                · dsimp only
                  rw [hx6l, hs6S]
                  exact hmi6
          · exact Fin.weak envA (fun _ h => h) (hK2 ⟨k, x5, s5⟩ ⟨hk, hx5, hs5, hx5L, hx5R, hs5R, hx5n, hx5f, hmi5⟩ (.inl (by have := of_decide_eq_false hc; dsimp only; omega)))
        · clear c0 c1 c2 c3 c4 hx1 hs4 hs4S hs3S hs3 hot hla0 hbud hli0 hpr hem hem' hs hx hs3R hs4R hl0
          rintro ⟨k, x5, s5⟩ ⟨_, hx5, hs5, hx5L, hx5R, hs5R, hx5n, hx5f, hmi5⟩ hkk
          dsimp only at hx5 hs5 hx5L hx5R hs5R hx5n hx5f hmi5 hkk ⊢
          obtain ⟨c0, c1, c2, c3, c4⟩ := x5.cans (F := F)
          rw [hx5L] at c0 c1 c2 c3 c4
          rw [hx5R, hs5R] at c0
          rw [hx5n] at c4
          obtain ⟨hfar, s9, hans, hot9, hlf, hprog⟩ := hmi5.ends hkk rfl 65536
          have hT := fun F' => fwd_tr F' s5 hs5 y.now
          rw [hs5R] at hT
          repeat' (first | refine S2b ?_ | refine SA (fun _ => ?_) | refine G1 (fun hc => ?_) (fun hc => ?_) | refine G2 (fun hc => ?_) (fun hc => ?_) | refine SL ?_ | fail)
          cases hfw : Snd.forward s5.S y.now with
          | mk S1 r =>
          rw [hfw] at hT hans hot9 hlf hprog hfar
          cases r with
          | none =>
            refine WL.e rfl (Ef.call (c := s5.H) (by exact rfl) (.last (.right .all)) (hT _)) ?_
            clear hT
            rintro _ _ ⟨_, ⟨rfl, s6, hs6, hs6R, hs6S, rfl⟩, rfl⟩
            dsimp only [tup]
            refine WL.weak (H' := x5.H ++ s6.H) (fun _ h => by rw [List.append_nil] at h; exact h.perm List.perm_append_comm) ?_
            obtain ⟨x8, hx8e⟩ : ∃ x8, x8 = x5 := ⟨_, rfl⟩
            have hx8 : x8.ok := by rw [hx8e]; exact hx5
            have hx8L : x8.L = x0.L := by rw [hx8e]; exact hx5L
            have hx8R : x8.R = s6.R := by rw [hx8e]; exact hx5R.trans hs6R.symm
            have hx8n : x8.now = y.now := by rw [hx8e]; exact hx5n
            have hx8l : x8.ln = x5.ln.passes none := by rw [hx8e]; rfl
            rw [← hx8e]
            clear c0 c1 c2 c3 c4
            repeat' (first | refine S2b ?_ | refine SA (fun _ => ?_) | refine G1 (fun hc => ?_) (fun hc => ?_) | refine G2 (fun hc => ?_) (fun hc => ?_) | refine G3 (fun hc => ?_) (fun hc => ?_) | refine SL ?_ | fail)
            have hT := fun F' => answer_tr F' x8 hx8 s6 hs6 hx8R 65536 (by decide)
            rw [hx8L] at hT
            refine WL.e rfl (Ef.call (c := x8.H ++ s6.H) (by exact rfl) (.skip _ (.all _)) (hT _)) ?_
            clear hT
            rintro _ _ ⟨_, hq, rfl⟩
            rw [← hx8l] at hans hot9 hlf hprog
            rw [hs6S, hx8n, hans] at hq
            obtain ⟨rfl, s7, hs7, hs7R, hs7S, rfl⟩ := hq
            repeat' (first | refine S2b ?_ | refine SA (fun _ => ?_) | refine G1 (fun hc => ?_) (fun hc => ?_) | refine G2 (fun hc => ?_) (fun hc => ?_) | refine G3 (fun hc => ?_) (fun hc => ?_) | refine SL ?_ | fail)
            rw [i64_succ (i := j) (by omega)]
            refine Fin.round ⟨j + 1, x8, s7⟩ ⟨by dsimp only; omega, hx8, hs7, hx8L, hx8R.trans hs7R.symm, hs7R.trans (hs6R.trans hs5R), by dsimp only; omega, hlf.trans hx5f, ?_, ?_⟩ envA (fun _ h => ?_) (by dsimp only; omega)
            · dsimp only
              rw [hs7S]
              rw [show moment + 1 + ((j + 1 : Nat) : Int) = y.now + 1 by omega]
              exact hot9
            · dsimp only
              rw [hs7S]
              by_cases h3 : 3 ≤ y.now
              · exact (hprog h3).imp (fun h => by rw [hyl] at h; omega) id
              · exact .inl (by omega)
            · dsimp only
              first | exact In.of_sub (.pickL (L := x8.H) .here (.last .here)) h | exact In.of_sub (.pickL (L := x8.H) .here (.last (.right .all))) h | (simp only [List.append_assoc, List.append_nil] at h; first | exact h | exact In.of_sub (.pickL (L := x8.H) .here (.last .here)) h)
          | some r =>
            obtain ⟨fc, sk, b⟩ := r
            refine WL.e rfl (Ef.call (c := s5.H) (by exact rfl) (.last (.right .all)) (hT _)) ?_
            clear hT
            rintro _ _ ⟨_, ⟨ka, kn, kc, kb, s6, rfl, hkb, hs6, hs6R, hs6S, rfl⟩, rfl⟩
            dsimp only [tup]
            refine WL.weak (H' := x5.H ++ s6.H) (fun _ h => In.of_sub (.pickL (L := x5.H) (.right (.right .here)) (.last (.right .here))) (by rw [List.append_assoc] at h; exact h)) ?_
            have hfc := hfar fc sk b rfl
            have hT := fun F' => over_tr F' x5 hx5 fc (by show Snd.toOf x5.ln.first fc ≤ 4000; omega)
            rw [hx5L] at hT
            repeat' (first | refine S2b ?_ | refine SA (fun _ => ?_) | refine G1 (fun hc => ?_) (fun hc => ?_) | refine G2 (fun hc => ?_) (fun hc => ?_) | refine G3 (fun hc => ?_) (fun hc => ?_) | refine SL ?_ | fail)
            refine WL.e rfl (Ef.call (c := x5.H) (by exact rfl) (.skip _ (.one _ _)) (hT _)) ?_
            clear hT
            rintro _ _ ⟨_, ⟨rfl, x8, hx8, hx8L, hx8R', hx8n', hx8l, rfl⟩, rfl⟩
            refine WL.weak (H' := x8.H ++ s6.H) (fun _ h => In.of_sub (.pickL (L := x8.H) .here (.last (.there .all))) h) ?_
            have hx8R : x8.R = s6.R := hx8R'.trans (hx5R.trans hs6R.symm)
            have hx8n : x8.now = y.now := hx8n'.trans hx5n
            have hx8l : x8.ln = x5.ln.passes (some (fc, sk, b)) := hx8l
            clear c0 c1 c2 c3 c4
            repeat' (first | refine S2b ?_ | refine SA (fun _ => ?_) | refine G1 (fun hc => ?_) (fun hc => ?_) | refine G2 (fun hc => ?_) (fun hc => ?_) | refine G3 (fun hc => ?_) (fun hc => ?_) | refine SL ?_ | fail)
            have hT := fun F' => answer_tr F' x8 hx8 s6 hs6 hx8R 65536 (by decide)
            rw [hx8L] at hT
            refine WL.e rfl (Ef.call (c := x8.H ++ s6.H) (by exact rfl) (.all _) (hT _)) ?_
            clear hT
            rintro _ _ ⟨_, hq, rfl⟩
            rw [← hx8l] at hans hot9 hlf hprog
            rw [hs6S, hx8n, hans] at hq
            obtain ⟨rfl, s7, hs7, hs7R, hs7S, rfl⟩ := hq
            repeat' (first | refine S2b ?_ | refine SA (fun _ => ?_) | refine G1 (fun hc => ?_) (fun hc => ?_) | refine G2 (fun hc => ?_) (fun hc => ?_) | refine G3 (fun hc => ?_) (fun hc => ?_) | refine SL ?_ | fail)
            rw [i64_succ (i := j) (by omega)]
            refine Fin.round ⟨j + 1, x8, s7⟩ ⟨by dsimp only; omega, hx8, hs7, hx8L, hx8R.trans hs7R.symm, hs7R.trans (hs6R.trans hs5R), by dsimp only; omega, hlf.trans hx5f, ?_, ?_⟩ envA (fun _ h => ?_) (by dsimp only; omega)
            · dsimp only
              rw [hs7S]
              rw [show moment + 1 + ((j + 1 : Nat) : Int) = y.now + 1 by omega]
              exact hot9
            · dsimp only
              rw [hs7S]
              by_cases h3 : 3 ≤ y.now
              · exact (hprog h3).imp (fun h => by rw [hyl] at h; omega) id
              · exact .inl (by omega)
            · dsimp only
              first | exact In.of_sub (.pickL (L := x8.H) .here (.last .here)) h | exact In.of_sub (.pickL (L := x8.H) .here (.last (.right .all))) h | (simp only [List.append_assoc, List.append_nil] at h; first | exact h | exact In.of_sub (.pickL (L := x8.H) .here (.last .here)) h)
    · rintro ⟨j, x, s⟩ ⟨_, hx, hs, hxL, hxR, hsR, _, _, _, _⟩ hem
      dsimp only at hx hs hxL hxR hsR hem ⊢
      repeat' (first | refine S2b ?_ | refine SA (fun _ => ?_) | refine G1 (fun hc => ?_) (fun hc => ?_) | refine G2 (fun hc => ?_) (fun hc => ?_) | refine SL ?_ | fail)
      have hT := fun F' => sempty_tr F' s hs
      rw [hsR] at hT
      refine WL.e rfl (Ef.callR (c := s.H) (by exact rfl) (.last (.right .all)) (hT _)) ?_
      clear hT
      rintro _ _ ⟨rfl, rfl⟩
      rw [hem]
      repeat' (first | refine S2b ?_ | refine SA (fun _ => ?_) | refine G1 (fun hc => ?_) (fun hc => ?_) | refine G2 (fun hc => ?_) (fun hc => ?_) | refine SL ?_ | fail)
      refine WL.e rfl (Ef.callR (by exact rfl) (.nil _) (works_tr _)) ?_
      rintro _ _ ⟨rfl, rfl⟩
      repeat' (first | refine S2b ?_ | refine SA (fun _ => ?_) | refine G1 (fun hc => ?_) (fun hc => ?_) | refine G2 (fun hc => ?_) (fun hc => ?_) | refine G3 (fun hc => ?_) (fun hc => ?_) | refine SL ?_ | fail)
      exact Fin.retW (by exact rfl) resA (H' := []) (fun _ h => h.sublist (List.nil_sublist _)) ⟨rfl, rfl⟩
end Go.Proofs.YtjfpckadjnjmoaaGreat
