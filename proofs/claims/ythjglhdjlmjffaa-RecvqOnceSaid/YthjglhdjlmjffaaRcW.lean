/- The law RecvqOnce, walked: what is sent in any order, and again, is handed out once, in order. Conditions: the argument's bytes are in memory. -/
import Derived.Test.YthjglhdjlmjffaaRcF
import Derived.Test.YthjglhdjlmjffaaRcO
import Derived.Test.YthjglhdjlmjffaaBc
namespace Go.Proofs.Ythjglhdjlmjffaa
open Go Go.Sl Go.Rm

/-- an order that bytes tell -/
def turnK (order : List UInt8) (i : Nat) : Nat := match order[i]? with | some b => b.toNat % (i + 1) | none => 0
def turned (order : List UInt8) : Nat → List Nat
  | 0 => []
  | n + 1 => (turned order n).take (turnK order n) ++ [n] ++ (turned order n).drop (turnK order n)
theorem turned_perm (order : List UInt8) : ∀ n, (turned order n).Perm (List.range n)
  | 0 => .refl _
  | n + 1 => by
    rw [turned, List.range_succ]
    have h1 : ((turned order n).take (turnK order n) ++ [n] ++ (turned order n).drop (turnK order n)).Perm ((turned order n).take (turnK order n) ++ (turned order n).drop (turnK order n) ++ [n]) := by
      rw [List.append_assoc, List.append_assoc]
      exact (List.perm_append_comm (l₁ := [n])).append_left _
    rw [List.take_append_drop] at h1
    exact h1.trans ((turned_perm order n).append_right _)
theorem turned_len (order : List UInt8) (n : Nat) : (turned order n).length = n := by simpa using (turned_perm order n).length_eq
theorem turnK_le (order : List UInt8) (i : Nat) : turnK order i ≤ i := by
  unfold turnK
  split
  · have := Nat.mod_lt (‹UInt8›.toNat) (show 0 < i + 1 by omega); omega
  · omega
/-- what came behind so many -/
def cameX (at_ : List Nat) (i : Nat) (j : Nat) : Bool := (at_.take i).contains j
theorem came_succ {at_ : List Nat} {i j : Nat} (h : at_[i]? = some j) : cameX at_ (i + 1) = fun k => decide (k = j) || cameX at_ i k := by
  funext k
  unfold cameX
  rw [List.take_add_one, h]
  by_cases hk : k = j
  · subst hk; simp
  · have : ¬ (k == j) = true := by simpa using hk
    simp [hk]
theorem came_not {at_ : List Nat} (hn : at_.Nodup) {i j : Nat} (h : at_[i]? = some j) : cameX at_ i j = false := by
  unfold cameX
  rw [← Bool.not_eq_true, List.contains_iff_mem]
  intro hm
  obtain ⟨k, hk⟩ := List.getElem?_of_mem hm
  have hlt := (List.getElem?_eq_some_iff.1 hk).1
  rw [List.getElem?_take, if_pos (by simp at hlt; omega)] at hk
  simp at hlt
  have := (List.getElem?_inj (i := k) (j := i) (by omega) hn).1 (by rw [hk, h])
  omega
theorem came_all {at_ : List Nat} {n : Nat} (h : at_.Perm (List.range n)) : ∀ i, i < n → cameX at_ n i = true := fun i hi => by
  unfold cameX
  rw [List.take_of_length_le (by rw [h.length_eq, List.length_range]; omega), List.contains_iff_mem]
  exact h.mem_iff.2 (List.mem_range.2 hi)
/-- a piece comes, for the first time or again -/
theorem once_come {first : Int} {n : Nat} {un : Nat → Bool} (hn : n ≤ 40) {at_ : List Nat} (hp : at_.Perm (List.range n)) {t i j : Nat} (ht : t < 2) (hi : i < n) (hj : at_[i]? = some j) {R : List Nat} {K : Nat → Nat} {A : List Bool} {s : Rcv.S}
    (h : Rcv.OnceS first n un (cameX at_ (if t = 0 then i else n)) R K A s) (hh : Rcv.held s = if t = 0 then i else n) :
    Rcv.dataA s (Rcv.onceD first un j) = (decide (t = 0), 0) ∧ Rcv.held (Rcv.data s (Rcv.onceD first un j)) = (if t = 0 then i + 1 else n) ∧ ∃ R' K' A', Rcv.OnceS first n un (cameX at_ (if t = 0 then i + 1 else n)) R' K' A' (Rcv.data s (Rcv.onceD first un j)) := by
  have hjn : j < n := List.mem_range.1 (hp.mem_iff.1 (List.mem_of_getElem? hj))
  have hnd : at_.Nodup := hp.nodup_iff.2 List.nodup_range
  have : t = 0 ∨ t = 1 := by omega
  rcases this with rfl | rfl
  · rw [if_pos rfl] at h hh ⊢
    obtain ⟨h1, h2, R2, K', h3⟩ := Rcv.once_step hn h (by omega) hjn (came_not hnd hj)
    refine ⟨h1, by rw [h2, hh], R ++ R2, K', A.set j true, ?_⟩
    rw [came_succ hj]
    exact h3
  · rw [if_neg (by decide)] at h hh ⊢
    obtain ⟨h1, h2, h3⟩ := Rcv.once_again hn h (came_all hp) hjn
    exact ⟨h1, by rw [h2, hh], R, K, A, h3⟩
theorem Lst.upto {F : Nat → Option Obj} {H : HL} {xs : List Value} {sa : Option Addr} {n c : Nat} (h : Lst F H 1 xs sa n c) {k : Nat} (hk : k ≤ n) : Lst F H 1 (xs.take k) sa k c := by
  have hl := h.len
  refine ⟨by rw [List.length_take]; omega, Nat.le_trans hk h.cap, fun h0 => ?_, fun h0 => by have := h.ok h0; omega⟩
  obtain ⟨b, off, rfl, hc⟩ := h.can (by omega)
  refine ⟨b, off, rfl, fun w hi j u hu => hc w hi j u ?_⟩
  rw [List.getElem?_take] at hu
  split at hu
  · exact hu
  · cases hu
def nJ (n : Nat) : Value := .int .i64 n
theorem nJ_one (l : List Nat) : ∀ u ∈ l.map nJ, u.oneCell' = true := fun u hu => by
  obtain ⟨a, _, rfl⟩ := List.mem_map.1 hu
  rfl
/-- a piece, and the block of its byte -/
structure Pn where
  d : D
  b : Nat
def Pn.cells (p : Pn) : List Value := dCells p.d (.slice (some ⟨p.b, 0, none⟩) 1 1)
def Pn.blk (p : Pn) : Nat × Obj := (p.b, .cells (p.d.bytes.map B).toArray 5 (0, 0))
theorem Pn.one (x : Pn) : ∀ u ∈ x.cells, u.oneCell' = true := fun u hu => by
  unfold Pn.cells dCells at hu
  simp at hu
  rcases hu with rfl | rfl | rfl | rfl | rfl | rfl | rfl <;> rfl
def unB (z : Int) (i : Nat) : Bool := (IntKind.u64.wrap ((BitVec.ofInt IntKind.u64.bits (z.fdiv (2 ^ min ((i % 64 : Nat) : Int).toNat IntKind.u64.bits)) &&& BitVec.ofInt IntKind.u64.bits 1).toNat : Int) == 1)
def cnC (un : Nat → Bool) (i : Nat) : List Value := [.int .u16 (Rcv.cntO un 0 i), .int .u16 (Rcv.cntO un 1 i)]
theorem cn_at (un : Nat → Bool) (i : Nat) {t : Nat} (ht : t < 2) : (cnC un i)[t]? = some (.int .u16 (Rcv.cntO un t i)) := by
  have : t = 0 ∨ t = 1 := by omega
  rcases this with rfl | rfl <;> rfl
theorem cn_put {un : Nat → Bool} {i : Nat} (hu : un i = false) : spliceK (cnC un i) (i % 2) [.int .u16 ((Rcv.cntO un (i % 2) i : Nat) + 1 : Int)] some = some (cnC un (i + 1)) := by
  unfold cnC
  rw [Rcv.cntO_succ, Rcv.cntO_succ]
  have : i % 2 = 0 ∨ i % 2 = 1 := by omega
  rcases this with h | h <;> rw [h] <;> simp [hu] <;> rfl
theorem cn_same {un : Nat → Bool} {i : Nat} (hu : un i = true) : cnC un (i + 1) = cnC un i := by
  unfold cnC
  rw [Rcv.cntO_succ, Rcv.cntO_succ, if_neg (by simp [hu]), if_neg (by simp [hu])]
  rfl
theorem ofNat_B {i : Nat} (h : i < 256) : B (UInt8.ofNat i) = .int .u8 i := by
  unfold B
  rw [UInt8.toNat_ofNat']
  congr 2
  omega
structure WaG where
  i : Nat
  aa : Option Addr
  an : Nat
  ac : Nat
  ab : HL
  ps : List Pn
def seenL (L : List Nat) (n : Nat) : List Nat := (List.range n).map (fun m => if L.contains m then 1 else 0)
theorem seen_at (L : List Nat) {n k : Nat} (hk : k < n) : ((seenL L n).map nJ)[0 + ((k : Nat) : Int).toNat * 1]? = some (nJ (if L.contains k then 1 else 0)) := by
  rw [show 0 + ((k : Nat) : Int).toNat * 1 = k by omega]
  unfold seenL
  rw [List.getElem?_map, List.getElem?_map, List.getElem?_range hk]
  rfl
theorem seen_put (L : List Nat) {n k : Nat} (hk : k < n) : spliceK ((seenL L n).map nJ) (0 + ((k : Nat) : Int).toNat * 1) [nJ 1] some = some ((seenL (L ++ [k]) n).map nJ) := by
  rw [show 0 + ((k : Nat) : Int).toNat * 1 = k by omega]
  have hl : ((seenL L n).map nJ).length = n := by unfold seenL; simp
  rw [spliceK_eq, if_pos (by rw [hl]; exact hk)]
  congr 1
  refine List.ext_getElem? (fun q => ?_)
  have e1 : ((seenL L n).map nJ).set k (nJ 1) = ((seenL L n).map nJ).take k ++ [nJ 1] ++ ((seenL L n).map nJ).drop (k + 1) := by rw [List.set_eq_take_append_cons_drop, if_pos (by rw [hl]; exact hk)]; simp
  have e2 : ((seenL L n).map nJ).take k ++ ([nJ 1] ++ ((seenL L n).map nJ).drop (k + [nJ 1].length)) = ((seenL L n).map nJ).set k (nJ 1) := by rw [e1, List.append_assoc]; rfl
  first | rw [e2] | (rw [List.append_assoc, e2])
  rcases Nat.lt_or_ge q n with hq | hq
  · by_cases h : q = k
    · subst h
      rw [List.getElem?_set_self (by rw [hl]; exact hk)]
      unfold seenL
      rw [List.getElem?_map, List.getElem?_map, List.getElem?_range hq]
      simp
    · rw [List.getElem?_set_ne (by omega)]
      unfold seenL
      rw [List.getElem?_map, List.getElem?_map, List.getElem?_range hq, List.getElem?_map, List.getElem?_map, List.getElem?_range hq]
      simp [h]
  · rw [List.getElem?_eq_none (by rw [List.length_set, hl]; exact hq), List.getElem?_eq_none (by unfold seenL; simp; omega)]
def lastO (un : Nat → Bool) (t : Nat) (L : List Nat) : Int := L.foldl (fun a m => if m % 2 = t ∧ un m = false then (m : Int) else a) (-1)
theorem lastO_snoc (un : Nat → Bool) (t : Nat) (L : List Nat) (k : Nat) : lastO un t (L ++ [k]) = if k % 2 = t ∧ un k = false then (k : Int) else lastO un t L := by
  unfold lastO
  rw [List.foldl_append]
  rfl
theorem lastO_le {un : Nat → Bool} {t : Nat} {k : Int} (h0 : 0 ≤ k) : ∀ (L : List Nat) (a : Int), a ≤ k → (∀ m ∈ L, un m = false → m % 2 = t → (m : Int) ≤ k) → L.foldl (fun a m => if m % 2 = t ∧ un m = false then (m : Int) else a) a ≤ k
  | [], a, ha, _ => ha
  | m :: L, a, ha, h => by
    rw [List.foldl_cons]
    refine lastO_le h0 L _ ?_ (fun q hq => h q (List.mem_cons_of_mem _ hq))
    split
    · rename_i hm
      exact h m (List.mem_cons_self ..) hm.2 hm.1
    · exact ha
def lastC (un : Nat → Bool) (L : List Nat) : List Value := [.int .i64 (lastO un 0 L), .int .i64 (lastO un 1 L)]
theorem last_at (un : Nat → Bool) (L : List Nat) (k : Nat) : (lastC un L)[0 + ((k % 2 : Nat) : Int).toNat * 1]? = some (.int .i64 (lastO un (k % 2) L)) := by
  rw [show 0 + ((k % 2 : Nat) : Int).toNat * 1 = k % 2 by omega]
  have : k % 2 = 0 ∨ k % 2 = 1 := by omega
  rcases this with h | h <;> rw [h] <;> rfl
def lastP (un : Nat → Bool) (L : List Nat) (k : Nat) : List Value := if k % 2 = 0 then [.int .i64 k, .int .i64 (lastO un 1 L)] else [.int .i64 (lastO un 0 L), .int .i64 k]
theorem last_any (un : Nat → Bool) (L : List Nat) (k : Nat) : spliceK (lastC un L) (0 + ((k % 2 : Nat) : Int).toNat * 1) [.int .i64 k] some = some (lastP un L k) := by
  rw [show 0 + ((k % 2 : Nat) : Int).toNat * 1 = k % 2 by omega]
  unfold lastC lastP
  have : k % 2 = 0 ∨ k % 2 = 1 := by omega
  rcases this with h | h <;> rw [h] <;> rfl
theorem last_same {un : Nat → Bool} (L : List Nat) {k : Nat} (hu : un k = true) : lastC un (L ++ [k]) = lastC un L := by
  unfold lastC
  rw [lastO_snoc, lastO_snoc, if_neg (by simp [hu]), if_neg (by simp [hu])]
theorem last_put {un : Nat → Bool} (L : List Nat) {k : Nat} (hu : un k = false) : lastC un (L ++ [k]) = lastP un L k := by
  unfold lastC lastP
  rw [lastO_snoc, lastO_snoc]
  have : k % 2 = 0 ∨ k % 2 = 1 := by omega
  rcases this with h | h <;> rw [h] <;> simp [hu]
theorem mk_nJ (n : Nat) : mkCells [.int .i64 0] n = (seenL [] n).map nJ := by
  have h : ∀ n, mkCells [.int .i64 0] n = (List.replicate n 0).map nJ := fun n => by
    induction n with
    | zero => rfl
    | succ n ih => rw [mkCells, ih]; rfl
  rw [h]
  congr 1
  unfold seenL
  refine List.ext_getElem? (fun q => ?_)
  rw [List.getElem?_map, List.getElem?_replicate]
  split
  · rw [List.getElem?_range (by assumption)]; rfl
  · rw [List.getElem?_eq_none (by simp; omega)]; rfl
theorem once_cum {first : Int} {n : Nat} {un : Nat → Bool} {X : Nat → Bool} {R : List Nat} {K : Nat → Nat} {A : List Bool} {s : Rcv.S} (h : Rcv.OnceS first n un X R K A s) (hX : ∀ i, i < n → X i = true) : s.m.b = Spn.u32 (first + n - 1) := by
  have hnx : Rcv.nextF A 0 = n := by
    have h1 : A.getD n false = false := by rw [h.at_, show decide (n < n) = false by simp, Bool.false_and]
    have h2 := Rcv.nextF_ge h1
    rcases Nat.lt_or_ge (Rcv.nextF A 0) n with h3 | h3
    · have h4 := Rcv.nextF_stop A 0
      rw [h.at_, hX _ h3, show decide (Rcv.nextF A 0 < n) = true from decide_eq_true h3] at h4
      cases h4
    · omega
  rw [h.m, hnx]
  rfl
structure WeG where
  i : Nat
  r : RcM
structure WcG where
  t : Nat
  r : RcM
  R : List Nat
  K : Nat → Nat
  A : List Bool
structure WdG where
  i : Nat
  r : RcM
  R : List Nat
  K : Nat → Nat
  A : List Bool
structure WbG where
  i : Nat
  oa : Option Addr
  on : Nat
  oc : Nat
  ob : HL
set_option maxRecDepth 20000 in
set_option maxHeartbeats 8000000 in
theorem onceLaw_tr (F : Nat → Option Obj) (first z : Int) (order : List UInt8) (ka : Option Addr) (kn kc : Nat) (hl : Lst F [] 1 (order.map B) ka kn kc) :
    Tr Try.prog 3 [.int .u32 first, .int .u64 z, .slice ka kn kc].toArray F [] (fun v H => v = .bool true ∧ H = []) := by
  refine Tr.enter Try.func3 rfl Try.ntmps3 rfl (fun w0 => ?_)
  have hkn : order.length = kn := by have := hl.len; simpa using this
  repeat' (first | refine S1 ?_ | refine SA (fun _ => ?_) | refine WL.g_split rfl rfl (fun hc => ?_) (fun hc => ?_) | refine WD.g_split rfl rfl (fun hc => ?_) (fun hc => ?_) | refine W.cond rfl (fun hc => ?_) (fun hc => ?_))
  obtain ⟨n, hn, hn40, hnk⟩ : ∃ n : Nat, (if 40 < (kn : Int) then 40 else (kn : Int)) = n ∧ n ≤ 40 ∧ n ≤ kn := ⟨min kn 40, by split <;> omega, by omega, by omega⟩
  refine WL.e rfl (Ef.callR (by exact rfl) (.nil _) (plain_tr _ 4000 (by omega))) ?_
  rintro _ _ ⟨rfl, rfl⟩
  repeat' (first | refine S1 ?_ | refine SD ?_ | refine SA (fun _ => ?_) | refine WL.g_split rfl rfl (fun hc => ?_) (fun hc => ?_) | refine WD.g_split rfl rfl (fun hc => ?_) (fun hc => ?_) | refine W.cond rfl (fun hc => ?_) (fun hc => ?_))
  refine WL.e rfl (Ef.call (by exact rfl) (.nil _) (rnew_tr _ (plainC 4000) first)) ?_
  rintro _ _ ⟨_, (⟨hno, _⟩ | ⟨_, r0, hr0, rfl, rfl, hS0, ht0⟩), rfl⟩
  · exact absurd (by unfold Cfg.rcvOk plainC; dsimp only; omega) hno
  have hS0 : r0.S = Rcv.soonS first (List.replicate 300 false) 0 [] 0 0 := by rw [hS0, ← Rcv.soon_begin]; rfl
  dsimp only [tup]
  repeat' (first | refine S1 ?_ | refine SD ?_ | refine SA (fun _ => ?_) | refine WL.g_split rfl rfl (fun hc => ?_) (fun hc => ?_) | refine WD.g_split rfl rfl (fun hc => ?_) (fun hc => ?_) | refine W.cond rfl (fun hc => ?_) (fun hc => ?_))
  rename_i b10
  rw [hn]
  refine W.loopX (G := WaG) (.exit 0) (fun g => [(0, .int .u32 first), (1, .int .u64 z), (2, .slice ka kn kc), (7, .int .i64 n), (8, .pointer (some ⟨r0.R, 0, none⟩)), (10, .pointer (some ⟨b10, 0, none⟩)), (11, .slice g.aa g.an g.ac), (12, .int .i64 g.i)])
    (fun g => (b10, .cells (cnC (unB z) g.i).toArray 33 (0, 0)) :: (g.ab ++ (g.ps.map Pn.blk ++ r0.H)))
    (fun g => g.i ≤ n ∧ OwnS 36 7 (g.ps.flatMap Pn.cells) (.slice g.aa g.an g.ac) g.ab ∧ g.ps.map (·.d) = (List.range g.i).map (Rcv.onceD first (unB z))) (fun g => n - g.i)
    ⟨0, none, 0, 0, [], []⟩ ⟨Nat.zero_le _, .inl ⟨rfl, rfl, rfl⟩, rfl⟩ envA (fun _ h => by rw [List.append_nil] at h; exact h) (fun g => g.i = n) ?_ ?_
  · rintro K' hK ⟨i, aa, an, ac, ab, ps⟩ ⟨hi, ho, hps⟩
    dsimp only at hi ho hps ⊢
    repeat' (first | refine S1 ?_ | refine SA (fun _ => ?_) | refine WL.g_split rfl rfl (fun hc => ?_) (fun hc => ?_) | refine WD.g_split rfl rfl (fun hc => ?_) (fun hc => ?_) | refine W.cond rfl (fun hc => ?_) (fun hc => ?_))
    rotate_right
    · exact Fin.weak envA (fun _ h => h) (hK ⟨i, aa, an, ac, ab, ps⟩ ⟨hi, ho, hps⟩ (by have := of_decide_eq_false hc; dsimp only; omega))
    have hi' : i < n := by have := of_decide_eq_true hc; omega
    clear hc
    refine WL.p rfl (Pu.rem rfl rfl (by decide)) ?_
    have e1 : IntKind.u16.wrap (i : Int) = i := u16_id (by omega)
    have e2 : (i : Int).tmod 2 = ((i % 2 : Nat) : Int) := by rw [Int.tmod_eq_emod_of_nonneg (by omega)]; omega
    have e3 : (i : Int).tmod 64 = ((i % 64 : Nat) : Int) := by rw [Int.tmod_eq_emod_of_nonneg (by omega)]; omega
    rw [e1, e2]
    repeat' (first | refine S1 ?_ | refine SA (fun _ => ?_) | refine WL.g_split rfl rfl (fun hc => ?_) (fun hc => ?_) | refine WD.g_split rfl rfl (fun hc => ?_) (fun hc => ?_) | refine W.cond rfl (fun hc => ?_) (fun hc => ?_))
    refine WL.p rfl (Pu.rem rfl rfl (by decide)) ?_
    rw [e3]
    repeat' (first | refine S1 ?_ | refine SA (fun _ => ?_) | refine WL.g_split rfl rfl (fun hc => ?_) (fun hc => ?_) | refine WD.g_split rfl rfl (fun hc => ?_) (fun hc => ?_) | refine W.cond rfl (fun hc => ?_) (fun hc => ?_))
    refine WL.p rfl (Pu.shr rfl rfl (by omega)) ?_
    obtain ⟨u, hu⟩ : ∃ u, unB z i = u := ⟨_, rfl⟩
    have hu' := hu
    unfold unB at hu'
    have e8 : IntKind.u8.wrap (i : Int) = i := u8_id (by omega)
    have hi2 : 0 ≤ ((i % 2 : Nat) : Int) ∧ ((i % 2 : Nat) : Int) < ((2 : Nat) : Int) := by omega
    have hcl := Rcv.cntO_le (unB z) (i % 2) i
    have hbk : ∀ b, Pn.blk ⟨Rcv.onceD first (unB z) i, b⟩ = (b, .cells [.int .u8 (i : Int)].toArray 5 (0, 0)) := fun b => by unfold Pn.blk Rcv.onceD; dsimp only; rw [List.map_singleton, ofNat_B (by omega)]
    have hpl : ps.length = i := by have := congrArg List.length hps; simpa using this
    have hxl : (ps.flatMap Pn.cells).length = i * 7 := by rw [flat_len' Pn.cells 7 (fun _ => rfl), hpl]
    have han : an = i := by have := OwnS.len ho; omega
    repeat' (first | refine S1 ?_ | refine SA (fun _ => ?_) | refine WL.g_split rfl rfl (fun hc => ?_) (fun hc => ?_) | refine WD.g_split rfl rfl (fun hc => ?_) (fun hc => ?_) | refine W.cond rfl (fun hc => ?_) (fun hc => ?_))
    · rw [hu'] at hc ⊢
      rw [e8]
      have hu0 : unB z i = false := by rw [hu]; simpa using hc
      rename_i bL bD
      refine WL.p rfl (Pu.iaA rfl rfl hi2) ?_
      refine WL.s rfl (Rd.ld rfl (.there (.there (.here (v := .int .u16 (Rcv.cntO (unB z) (i % 2) i)) (by rw [show 0 + ((i % 2 : Nat) : Int).toNat * 1 = i % 2 by omega]; exact cn_at _ _ (by omega)))))) ?_
      repeat' (first | refine S1 ?_ | refine SA (fun _ => ?_) | refine WL.g_split rfl rfl (fun hc => ?_) (fun hc => ?_) | refine WD.g_split rfl rfl (fun hc => ?_) (fun hc => ?_) | refine W.cond rfl (fun hc => ?_) (fun hc => ?_))
      refine WL.p rfl (Pu.iaA rfl rfl hi2) ?_
      refine WL.s rfl (Rd.ld rfl (.there (.there (.here (v := .int .u16 (Rcv.cntO (unB z) (i % 2) i)) (by rw [show 0 + ((i % 2 : Nat) : Int).toNat * 1 = i % 2 by omega]; exact cn_at _ _ (by omega)))))) ?_
      repeat' (first | refine S1 ?_ | refine SA (fun _ => ?_) | refine WL.g_split rfl rfl (fun hc => ?_) (fun hc => ?_) | refine WD.g_split rfl rfl (fun hc => ?_) (fun hc => ?_) | refine W.cond rfl (fun hc => ?_) (fun hc => ?_))
      refine WL.p rfl (Pu.iaA rfl rfl hi2) ?_
      refine WL.e0 (Ef.st (v := .int .u16 (IntKind.u16.wrap ((Rcv.cntO (unB z) (i % 2) i : Nat) + 1 : Int))) rfl rfl rfl (.there (.there (.here (by rw [show 0 + ((i % 2 : Nat) : Int).toNat * 1 = i % 2 by omega, u16_id (by omega)]; exact cn_put hu0))))) ?_
      rintro _ _ ⟨_, rfl⟩
      repeat' (first | refine S1 ?_ | refine SA (fun _ => ?_) | refine WL.g_split rfl rfl (fun hc => ?_) (fun hc => ?_) | refine WD.g_split rfl rfl (fun hc => ?_) (fun hc => ?_) | refine W.cond rfl (fun hc => ?_) (fun hc => ?_))
      have hpm : Pn.cells ⟨Rcv.onceD first (unB z) i, bL⟩ = [.int .u32 (IntKind.u32.wrap (first + IntKind.u32.wrap (i : Int))), .int .u16 ((i % 2 : Nat) : Int), .int .u16 (Rcv.cntO (unB z) (i % 2) i), .bool u, .bool true, .bool true, .slice (some ⟨bL, 0, none⟩) 1 1] := by
        unfold Pn.cells dCells Rcv.onceD
        dsimp only
        rw [if_neg (by simp [hu0]), hu]
      refine WL.e rfl (Ef.app (m := 1) (news := Pn.cells ⟨Rcv.onceD first (unB z) i, bL⟩) (by exact rfl) (by exact rfl) rfl rfl ho (.last (.there (.there (.there (.there .here))))) (by rw [hpm]; exact Src.own (n := 7) (.here rfl)) rfl (Pn.one _) (by rw [hxl, show (Pn.cells _).length = 7 from rfl]; omega) (by rw [hxl, show (Pn.cells _).length = 7 from rfl]; unfold maxLen; omega)) ?_
      rintro v' _ ⟨ab2, ho2, rfl⟩
      obtain ⟨aa2, an2, ac2, rfl, _, _⟩ := OwnS.shape ho2
      repeat' (first | refine S1 ?_ | refine SA (fun _ => ?_) | refine WL.g_split rfl rfl (fun hc => ?_) (fun hc => ?_) | refine WD.g_split rfl rfl (fun hc => ?_) (fun hc => ?_) | refine W.cond rfl (fun hc => ?_) (fun hc => ?_))
      rw [i64_succ (by omega)]
      refine Fin.round ⟨i + 1, aa2, an2, ac2, ab2, ps ++ [⟨Rcv.onceD first (unB z) i, bL⟩]⟩ ⟨hi', ?_, ?_⟩ envA (fun _ h => ?_) (by dsimp only; omega)
      · dsimp only
        rw [List.flatMap_append, List.flatMap_singleton]
        exact ho2
      · dsimp only
        rw [List.map_append, hps, List.range_succ, List.map_append]
        rfl
      · dsimp only
        rw [List.map_append, List.map_singleton, hbk, List.append_assoc]
        exact In.of_sub (.pick (.right (.there (.there (.there .here)))) (.pickL (L := ab2) .here (.pickL (L := ps.map Pn.blk) (.there (.there (.there .here))) (.pick (.there (.there .here)) (.last (L := r0.H) (.there (.there .all))))))) h
    · rw [hu'] at hc ⊢
      rw [e8]
      have hu1 : unB z i = true := by rw [hu]; simpa using hc
      rw [← cn_same hu1]
      rename_i bL bD bS
      have hpm : Pn.cells ⟨Rcv.onceD first (unB z) i, bL⟩ = [.int .u32 (IntKind.u32.wrap (first + IntKind.u32.wrap (i : Int))), .int .u16 ((i % 2 : Nat) : Int), .int .u16 0, .bool u, .bool true, .bool true, .slice (some ⟨bL, 0, none⟩) 1 1] := by
        unfold Pn.cells dCells Rcv.onceD
        dsimp only
        rw [if_pos hu1, hu]
      refine WL.e rfl (Ef.app (m := 1) (news := Pn.cells ⟨Rcv.onceD first (unB z) i, bL⟩) (by exact rfl) (by exact rfl) rfl rfl ho (.last (.there (.there (.there (.there .here))))) (by rw [hpm]; exact Src.own (n := 7) (.here rfl)) rfl (Pn.one _) (by rw [hxl, show (Pn.cells _).length = 7 from rfl]; omega) (by rw [hxl, show (Pn.cells _).length = 7 from rfl]; unfold maxLen; omega)) ?_
      rintro v' _ ⟨ab2, ho2, rfl⟩
      obtain ⟨aa2, an2, ac2, rfl, _, _⟩ := OwnS.shape ho2
      repeat' (first | refine S1 ?_ | refine SA (fun _ => ?_) | refine WL.g_split rfl rfl (fun hc => ?_) (fun hc => ?_) | refine WD.g_split rfl rfl (fun hc => ?_) (fun hc => ?_) | refine W.cond rfl (fun hc => ?_) (fun hc => ?_))
      rw [i64_succ (by omega)]
      refine Fin.round ⟨i + 1, aa2, an2, ac2, ab2, ps ++ [⟨Rcv.onceD first (unB z) i, bL⟩]⟩ ⟨hi', ?_, ?_⟩ envA (fun _ h => ?_) (by dsimp only; omega)
      · dsimp only
        rw [List.flatMap_append, List.flatMap_singleton]
        exact ho2
      · dsimp only
        rw [List.map_append, hps, List.range_succ, List.map_append]
        rfl
      · dsimp only
        rw [List.map_append, List.map_singleton, hbk, List.append_assoc]
        exact In.of_sub (.pick (.right (.there (.there (.there .here)))) (.pickL (L := ab2) .here (.pickL (L := ps.map Pn.blk) (.there (.there (.there .here))) (.pick (.there (.there .here)) (.last (L := r0.H) (.there (.there .all))))))) h
  rintro ⟨i, aa, an, ac, ab, ps⟩ ⟨_, ho, hps⟩ hin
  dsimp only at ho hps hin ⊢
  subst hin
  obtain ⟨n, hni⟩ : ∃ n, i = n := ⟨_, rfl⟩
  rw [hni] at hps hn hn40 hnk
  rw [show (i : Int) = (n : Int) by omega]
  clear hni
  obtain ⟨R, hR⟩ : ∃ R, R = ab ++ (ps.map Pn.blk ++ r0.H) := ⟨_, rfl⟩
  rw [← hR]
  repeat' (first | refine S1 ?_ | refine SA (fun _ => ?_) | refine WL.g_split rfl rfl (fun hc => ?_) (fun hc => ?_) | refine WD.g_split rfl rfl (fun hc => ?_) (fun hc => ?_) | refine W.cond rfl (fun hc => ?_) (fun hc => ?_))
  refine W.loopX (G := WbG) (.exit 2) (fun g => [(0, .int .u32 first), (2, .slice ka kn kc), (7, .int .i64 n), (8, .pointer (some ⟨r0.R, 0, none⟩)), (11, .slice aa an ac), (14, .slice g.oa g.on g.oc), (15, .int .i64 g.i)]) (fun g => g.ob ++ R)
    (fun g => g.i ≤ n ∧ OwnS 3 1 ((turned order g.i).map nJ) (.slice g.oa g.on g.oc) g.ob) (fun g => n - g.i) ⟨0, none, 0, 0, []⟩ ⟨Nat.zero_le _, .inl ⟨rfl, rfl, rfl⟩⟩ envA (fun _ h => h.sublist (.cons _ (.refl _))) (fun g => g.i = n) ?_ ?_
  · rintro K' hK ⟨i, oa, on, oc, ob⟩ ⟨hi, ho⟩
    dsimp only at hi ho ⊢
    have hon : on = i := by have := OwnS.len ho; rw [List.length_map, turned_len] at this; omega
    have hoc : on ≤ oc := by obtain ⟨_, _, _, he, _, h⟩ := OwnS.shape ho; cases he; exact h
    have htk := turnK_le order i
    have htl := turned_len order i
    repeat' (first | refine S1 ?_ | refine SA (fun _ => ?_) | refine WL.g_split rfl rfl (fun hc => ?_) (fun hc => ?_) | refine WD.g_split rfl rfl (fun hc => ?_) (fun hc => ?_) | refine W.cond rfl (fun hc => ?_) (fun hc => ?_))
    rotate_right
    · exact Fin.weak envA (fun _ h => h) (hK ⟨i, oa, on, oc, ob⟩ ⟨hi, ho⟩ (by have := of_decide_eq_false hc; dsimp only; omega))
    have hi' : i < n := by have := of_decide_eq_true hc; omega
    clear hc
    obtain ⟨d, hd⟩ : ∃ d, order[i]? = some d := ⟨order[i]'(by omega), by simp⟩
    obtain ⟨b1, o1, rfl, hcc⟩ := hl.can (by omega)
    have hcan : Sl.Can F [] b1 (o1 + (i : Int).toNat * 1) [.int .u8 ((d.toNat : Nat) : Int)] := by
      have := hcc.one (i := i) (v := B d) (by rw [List.getElem?_map, hd]; rfl)
      rw [show o1 + (i : Int).toNat * 1 = o1 + i by omega]
      exact this
    have hia : 0 ≤ (i : Int) ∧ (i : Int) < kn := by omega
    repeat' (first | refine S1 ?_ | refine SA (fun _ => ?_) | refine WL.g_split rfl rfl (fun hc => ?_) (fun hc => ?_) | refine WD.g_split rfl rfl (fun hc => ?_) (fun hc => ?_) | refine W.cond rfl (fun hc => ?_) (fun hc => ?_))
    rw [i64_succ (by omega)]
    refine WL.p rfl (Pu.rem rfl rfl (by omega)) ?_
    have hdl := d.toNat_lt
    have hk : (IntKind.i64.wrap ((d.toNat : Nat) : Int)).tmod ((on + 1 : Nat) : Int) = ((turnK order i : Nat) : Int) := by
      rw [i64_id (n := ((d.toNat : Nat) : Int)) (by omega) (by omega), ← Int.ofNat_tmod]
      unfold turnK
      rw [hd, hon]
    rw [hk]
    repeat' (first | refine S1 ?_ | refine SA (fun _ => ?_) | refine WL.g_split rfl rfl (fun hc => ?_) (fun hc => ?_) | refine WD.g_split rfl rfl (fun hc => ?_) (fun hc => ?_) | refine W.cond rfl (fun hc => ?_) (fun hc => ?_))
    rename_i b0
    refine WL.p rfl (Pu.slHi rfl rfl ⟨by omega, by omega⟩) ?_
    repeat' (first | refine S1 ?_ | refine SA (fun _ => ?_) | refine WL.g_split rfl rfl (fun hc => ?_) (fun hc => ?_) | refine WD.g_split rfl rfl (fun hc => ?_) (fun hc => ?_) | refine W.cond rfl (fun hc => ?_) (fun hc => ?_))
    refine WL.e rfl (Ef.app (m := turnK order i) (news := ((turned order i).map nJ).take (turnK order i)) (by exact rfl) (by exact rfl) rfl rfl (OwnS.empty 3 1 b0) (.pick .here (.nil _)) ((Lst.upto (Lst.own (F := F) (H := (b0, .cells ([] : List Value).toArray 3 (0, 0)) :: (ob ++ R)) ho (fun _ h => h.sublist (.cons _ (List.sublist_append_left _ _)))) (by omega)).src) (by rw [List.length_take, List.length_map]; omega) (fun u hu => nJ_one _ u (List.mem_of_mem_take hu)) (by rw [List.length_take, List.length_map]; simp <;> omega) (by rw [List.length_take, List.length_map]; simp <;> (unfold maxLen; omega))) ?_
    rintro v' _ ⟨h1, ho1, rfl⟩
    obtain ⟨a1, n1, c1, rfl, _, _⟩ := OwnS.shape ho1
    repeat' (first | refine S1 ?_ | refine SA (fun _ => ?_) | refine WL.g_split rfl rfl (fun hc => ?_) (fun hc => ?_) | refine WD.g_split rfl rfl (fun hc => ?_) (fun hc => ?_) | refine W.cond rfl (fun hc => ?_) (fun hc => ?_))
    refine WL.e rfl (Ef.app (m := 1) (news := [nJ i]) (by exact rfl) (by exact rfl) rfl rfl ho1 (.last (.there .here)) (Src.own (n := 1) (.here rfl)) rfl (by intro u hu; rw [List.mem_singleton.1 hu]; rfl) (by simp <;> omega) (by simp <;> (unfold maxLen; omega))) ?_
    rintro v' _ ⟨h2, ho2, rfl⟩
    obtain ⟨a2, n2, c2, rfl, _, _⟩ := OwnS.shape ho2
    repeat' (first | refine S1 ?_ | refine SA (fun _ => ?_) | refine WL.g_split rfl rfl (fun hc => ?_) (fun hc => ?_) | refine WD.g_split rfl rfl (fun hc => ?_) (fun hc => ?_) | refine W.cond rfl (fun hc => ?_) (fun hc => ?_))
    refine WL.p rfl (Pu.slLo rfl rfl ⟨by omega, by omega⟩) ?_
    have hd := OwnS.drop1 ho (n := turnK order i) (by omega)
    have hsr := (Lst.own (F := F) (H := ob) hd (fun _ h => h)).src
    refine WL.e rfl (Ef.app (m := on - ((turnK order i : Nat) : Int).toNat) (news := ((turned order i).map nJ).drop (turnK order i)) (by exact rfl) (by exact rfl) rfl rfl ho2 (.last .here) (hsr.mono (fun _ h => h.sublist ((List.sublist_append_left ob R).trans ((List.sublist_cons_self _ _).trans (List.sublist_append_right h2 _))))) (by rw [List.length_drop, List.length_map]; omega) (fun u hu => nJ_one _ u (List.mem_of_mem_drop hu)) (by simp <;> omega) (by simp <;> (unfold maxLen; omega))) ?_
    rintro v' _ ⟨h3, ho3, rfl⟩
    obtain ⟨a3, n3, c3, rfl, _, _⟩ := OwnS.shape ho3
    repeat' (first | refine S1 ?_ | refine SA (fun _ => ?_) | refine WL.g_split rfl rfl (fun hc => ?_) (fun hc => ?_) | refine WD.g_split rfl rfl (fun hc => ?_) (fun hc => ?_) | refine W.cond rfl (fun hc => ?_) (fun hc => ?_))
    rw [i64_succ (by omega)]
    refine Fin.round ⟨i + 1, a3, n3, c3, h3⟩ ⟨hi', ?_⟩ envA (fun _ h => In.of_sub (.pickL (L := h3) .here (.last (L := R) (.there (.right .all)))) h) (by dsimp only; omega)
    dsimp only
    rw [turned, List.map_append, List.map_append, List.map_take, List.map_drop]
    exact ho3
  rintro ⟨i, oa, on, oc, ob⟩ ⟨_, hot⟩ hin
  dsimp only at hot hin ⊢
  subst hin
  obtain ⟨n, hni⟩ : ∃ n, i = n := ⟨_, rfl⟩
  rw [hni] at hps hn hn40 hnk hot
  rw [show (i : Int) = (n : Int) by omega]
  clear hni
  have hon : on = n := by have := OwnS.len hot; rw [List.length_map, turned_len] at this; omega
  subst hon
  subst hR
  have hpl : ps.length = on := by have := congrArg List.length hps; simpa using this
  obtain ⟨at_, hat⟩ : ∃ at_, turned order on = at_ := ⟨_, rfl⟩
  have hperm : at_.Perm (List.range on) := by rw [← hat]; exact turned_perm order on
  have hatl : at_.length = on := by rw [← hat]; exact turned_len order on
  rw [hat] at hot
  repeat' (first | refine S1 ?_ | refine SA (fun _ => ?_) | refine WL.g_split rfl rfl (fun hc => ?_) (fun hc => ?_) | refine WD.g_split rfl rfl (fun hc => ?_) (fun hc => ?_) | refine W.cond rfl (fun hc => ?_) (fun hc => ?_))
  refine W.loopX (G := WcG) (.exit 4) (fun g => [(0, .int .u32 first), (7, .int .i64 on), (8, .pointer (some ⟨r0.R, 0, none⟩)), (11, .slice aa an ac), (14, .slice oa on oc), (18, .int .i64 g.t)]) (fun g => ob ++ (ab ++ (ps.map Pn.blk ++ g.r.H)))
    (fun g => g.t ≤ 2 ∧ g.r.ok ∧ g.r.R = r0.R ∧ g.r.w.turns ≤ 40 * g.t ∧ Rcv.held g.r.S = (if g.t = 0 then 0 else on) ∧ Rcv.OnceS first on (unB z) (cameX at_ (if g.t = 0 then 0 else on)) g.R g.K g.A g.r.S) (fun g => 2 - g.t) ⟨0, r0, [], fun _ => 0, List.replicate 300 false⟩
    ⟨Nat.zero_le _, hr0, rfl, by dsimp only; omega, by dsimp only; rw [hS0]; rfl, by dsimp only; rw [hS0]; exact Rcv.once_begin first on (unB z) hn40⟩ envA (fun _ h => h) (fun g => g.t = 2) ?_ ?_
  · rintro K' hK ⟨t, r, Rl, Kf, A⟩ ⟨ht, hr, hrR, hturn, hheld, hO⟩
    dsimp only at ht hr hrR hturn hheld hO ⊢
    repeat' (first | refine S1 ?_ | refine SA (fun _ => ?_) | refine WL.g_split rfl rfl (fun hc => ?_) (fun hc => ?_) | refine WD.g_split rfl rfl (fun hc => ?_) (fun hc => ?_) | refine W.cond rfl (fun hc => ?_) (fun hc => ?_))
    rotate_right
    · exact Fin.weak envA (fun _ h => h) (hK ⟨t, r, Rl, Kf, A⟩ ⟨ht, hr, hrR, hturn, hheld, hO⟩ (by have := of_decide_eq_false hc; dsimp only; omega))
    have ht' : t < 2 := by have := of_decide_eq_true hc; omega
    clear hc
    refine W.loopX (G := WdG) (.exit 6) (fun g => [(0, .int .u32 first), (7, .int .i64 on), (8, .pointer (some ⟨r0.R, 0, none⟩)), (11, .slice aa an ac), (14, .slice oa on oc), (18, .int .i64 t), (19, .int .i64 g.i)]) (fun g => ob ++ (ab ++ (ps.map Pn.blk ++ g.r.H)))
      (fun g => g.i ≤ on ∧ g.r.ok ∧ g.r.R = r0.R ∧ g.r.w.turns ≤ 40 * t + g.i ∧ Rcv.held g.r.S = (if t = 0 then g.i else on) ∧ Rcv.OnceS first on (unB z) (cameX at_ (if t = 0 then g.i else on)) g.R g.K g.A g.r.S) (fun g => on - g.i) ⟨0, r, Rl, Kf, A⟩
      ⟨Nat.zero_le _, hr, hrR, hturn, hheld, hO⟩ envA (fun _ h => h) (fun g => g.i = on) ?_ ?_
    · clear hK hr hrR hturn hheld hO
      rintro K' hK ⟨i, r, Rl, Kf, A⟩ ⟨hi, hr, hrR, hturn, hheld, hO⟩
      dsimp only at hi hr hrR hturn hheld hO ⊢
      repeat' (first | refine S1 ?_ | refine SA (fun _ => ?_) | refine WL.g_split rfl rfl (fun hc => ?_) (fun hc => ?_) | refine WD.g_split rfl rfl (fun hc => ?_) (fun hc => ?_) | refine W.cond rfl (fun hc => ?_) (fun hc => ?_))
      rotate_right
      · exact Fin.weak envA (fun _ h => h) (hK ⟨i, r, Rl, Kf, A⟩ ⟨hi, hr, hrR, hturn, hheld, hO⟩ (by have := of_decide_eq_false hc; dsimp only; omega))
      have hi' : i < on := by have := of_decide_eq_true hc; omega
      clear hc
      obtain ⟨j, hj⟩ : ∃ j, at_[i]? = some j := ⟨at_[i]'(by omega), by simp⟩
      have hjn : j < on := List.mem_range.1 (hperm.mem_iff.1 (List.mem_of_getElem? hj))
      obtain ⟨bj, hpj⟩ : ∃ b, ps[j]? = some ⟨Rcv.onceD first (unB z) j, b⟩ := by
        have h1 := congrArg (fun l => l[j]?) hps
        simp only [List.getElem?_map, List.getElem?_range hjn, Option.map_some] at h1
        cases h2 : ps[j]? with
        | none => rw [h2] at h1; cases h1
        | some p => rw [h2] at h1; exact ⟨p.b, by rw [← Option.some.inj h1]⟩
      have hlo := Lst.own (F := F) (H := ob ++ (ab ++ (ps.map Pn.blk ++ r.H))) hot (fun _ h => h.sublist (List.sublist_append_left _ _))
      have hla := Lst.own (F := F) (H := ob ++ (ab ++ (ps.map Pn.blk ++ r.H))) ho (fun _ h => h.sublist ((List.sublist_append_left _ _).trans (List.sublist_append_right ob _)))
      obtain ⟨b1, o1, rfl, hcc⟩ := hlo.can (by omega)
      have hcan : Sl.Can F (ob ++ (ab ++ (ps.map Pn.blk ++ r.H))) b1 (o1 + (i : Int).toNat * 1) [.int .i64 (j : Int)] := by
        have := hcc.one (i := i) (v := nJ j) (by rw [List.getElem?_map, hj]; rfl)
        rw [show o1 + (i : Int).toNat * 1 = o1 + i by omega]
        exact this
      have han : an = on := by have := OwnS.len ho; rw [flat_len' Pn.cells 7 (fun _ => rfl), hpl] at this; omega
      obtain ⟨b2, o2, rfl, hcp⟩ := hla.el (cells := Pn.cells) (fun _ => rfl) hpj (by omega)
      have hia : 0 ≤ (i : Int) ∧ (i : Int) < on := by omega
      have hja : 0 ≤ (j : Int) ∧ (j : Int) < an := by omega
      rw [← hrR]
      repeat' (first | refine S1 ?_ | refine SA (fun _ => ?_) | refine WL.g_split rfl rfl (fun hc => ?_) (fun hc => ?_) | refine WD.g_split rfl rfl (fun hc => ?_) (fun hc => ?_) | refine W.cond rfl (fun hc => ?_) (fun hc => ?_))
      refine WL.s rfl (Rd.ldaC rfl rfl hcp) ?_
      have hsrcB : Src F (ob ++ (ab ++ (ps.map Pn.blk ++ r.H))) (.slice (some ⟨bj, 0, none⟩) 1 1) 1 ((Rcv.onceD first (unB z) j).bytes.map B) := Src.mono (Src.own (H := [Pn.blk ⟨Rcv.onceD first (unB z) j, bj⟩]) (n := 1) (.here rfl)) (fun _ h => h.sublist ((List.singleton_sublist.2 (List.mem_map.2 ⟨_, List.mem_of_getElem? hpj, rfl⟩)).trans ((List.sublist_append_left _ r.H).trans ((List.sublist_append_right ab _).trans (List.sublist_append_right ob _)))))
      repeat' (first | refine S1 ?_ | refine SA (fun _ => ?_) | refine WL.g_split rfl rfl (fun hc => ?_) (fun hc => ?_) | refine WD.g_split rfl rfl (fun hc => ?_) (fun hc => ?_) | refine W.cond rfl (fun hc => ?_) (fun hc => ?_))
      refine WL.e rfl (Ef.callW (by exact rfl) (.nil _) (fun F' hF => twin_tr _ [] (Rcv.onceD first (unB z) j) (some ⟨bj, 0, none⟩) 1 1 (hsrcB.mono hF) (show 1 ≤ 1000000000 by omega))) ?_
      rintro _ _ ⟨_, ⟨ta, tn, tc, thb, rfl, hown, rfl⟩, rfl⟩
      rw [List.append_nil]
      have htn : (Rcv.onceD first (unB z) j).bytes.length = tn := by have := hown.len; rw [List.length_map] at this; omega
      obtain ⟨hdA, hdh, R', K2, A', hO'⟩ := once_come hn40 hperm ht' hi' hj hO hheld
      repeat' (first | refine S1 ?_ | refine SA (fun _ => ?_) | refine WL.g_split rfl rfl (fun hc => ?_) (fun hc => ?_) | refine WD.g_split rfl rfl (fun hc => ?_) (fun hc => ?_) | refine W.cond rfl (fun hc => ?_) (fun hc => ?_))
      refine WL.e rfl (Ef.call (by exact rfl) (.pickL (L := r.H) (.right (.right (.right (.right .all)))) (.last (L := thb) .here)) (rdata_tr _ thb r hr (Rcv.onceD first (unB z) j) ta tn tc (OwnS.src hown (fun _ h => h)) htn (by unfold Rcv.onceD; dsimp only; omega) (by unfold Rcv.onceD; dsimp only; omega) (by unfold Rcv.onceD; dsimp only; rw [u32_eq]; omega) (by omega) (by rw [← htn]; show 1 ≤ 1000000000; omega))) ?_
      rintro _ _ ⟨_, ⟨rfl, r1, hr1, rfl, hR1, ht1, hS1⟩, rfl⟩
      rw [← hS1] at hO' hdh
      rw [hdA, ← hR1]
      dsimp only [tup]
      refine WL.weak (H' := ob ++ (ab ++ (ps.map Pn.blk ++ r1.H))) (fun _ h => by rw [List.append_assoc] at h; exact In.of_sub (.pickL (L := ob) (.right (.right .here)) (.pickL (L := ab) (.right (.right .here)) (.pickL (L := ps.map Pn.blk) (.right (.right .here)) (.last (L := r1.H) .here)))) h) ?_
      repeat' (first | refine S1 ?_ | refine SA (fun _ => ?_) | refine WL.g_split rfl rfl (fun hc => ?_) (fun hc => ?_) | refine WD.g_split rfl rfl (fun hc => ?_) (fun hc => ?_) | refine W.cond rfl (fun hc => ?_) (fun hc => ?_))
      · exfalso
        have : t = 0 ∨ t = 1 := by omega
        rcases this with rfl | rfl <;> cases hc
      clear hc
      refine WL.e rfl (Ef.call (by exact rfl) (.last (L := r1.H) (.right (.right (.right .all)))) (rfin_tr _ r1 hr1 i)) ?_
      rintro _ _ ⟨_, ⟨rfl, r2, hr2, rfl, hR2, hS2, hw2⟩, rfl⟩
      rw [← hR2]
      refine WL.weak (H' := ob ++ (ab ++ (ps.map Pn.blk ++ r2.H))) (fun _ h => In.of_sub (.pickL (L := ob) (.right .here) (.pickL (L := ab) (.right .here) (.pickL (L := ps.map Pn.blk) (.right .here) (.last (L := r2.H) .here)))) h) ?_
      have hO2 : Rcv.OnceS first on (unB z) (cameX at_ (if t = 0 then i + 1 else on)) R' K2 A' r2.S := by rw [hS2]; exact Rcv.once_fin hO' _
      have hh2 : Rcv.held r2.S = if t = 0 then i + 1 else on := by rw [hS2, ← hdh]; rfl
      repeat' (first | refine S1 ?_ | refine SA (fun _ => ?_) | refine WL.g_split rfl rfl (fun hc => ?_) (fun hc => ?_) | refine WD.g_split rfl rfl (fun hc => ?_) (fun hc => ?_) | refine W.cond rfl (fun hc => ?_) (fun hc => ?_))
      refine WL.p rfl (Pu.rem rfl rfl (by decide)) ?_
      repeat' (first | refine S1 ?_ | refine SA (fun _ => ?_) | refine WL.g_split rfl rfl (fun hc => ?_) (fun hc => ?_) | refine WD.g_split rfl rfl (fun hc => ?_) (fun hc => ?_) | refine W.cond rfl (fun hc => ?_) (fun hc => ?_))
      · refine WL.e rfl (Ef.call (by exact rfl) (.last (L := r2.H) (.right (.right (.right .all)))) (rsack_tr _ r2 hr2)) ?_
        rintro _ _ ⟨_, ⟨r3, ga, gn, gc, gb, ra, rn, rc, rb, rfl, hr3, rfl, hR3, hw3, hS3, _, _⟩, rfl⟩
        rw [← hR3]
        refine WL.weak (H' := ob ++ (ab ++ (ps.map Pn.blk ++ r3.H))) (fun _ h => by rw [List.append_assoc] at h; exact In.of_sub (.pickL (L := ob) (.right (.right .here)) (.pickL (L := ab) (.right (.right .here)) (.pickL (L := ps.map Pn.blk) (.right (.right .here)) (.last (L := r3.H) .here)))) h) ?_
        repeat' (first | refine S1 ?_ | refine SA (fun _ => ?_) | refine WL.g_split rfl rfl (fun hc => ?_) (fun hc => ?_) | refine WD.g_split rfl rfl (fun hc => ?_) (fun hc => ?_) | refine W.cond rfl (fun hc => ?_) (fun hc => ?_))
        rw [i64_succ (by omega)]
        exact Fin.round ⟨i + 1, r3, R', K2, A'⟩ ⟨hi', hr3, rfl, by dsimp only; rw [hw3, hw2]; omega, by dsimp only; rw [hS3, ← hh2]; rfl, by dsimp only; rw [hS3]; exact Rcv.once_sack hO2⟩ envA (fun _ h => h) (by dsimp only; omega)
      · rw [i64_succ (by omega)]
        exact Fin.round ⟨i + 1, r2, R', K2, A'⟩ ⟨hi', hr2, rfl, by dsimp only; rw [hw2]; omega, hh2, hO2⟩ envA (fun _ h => h) (by dsimp only; omega)
    · rintro ⟨i, r, Rl, Kf, A⟩ ⟨_, hr, hrR, hturn, hheld, hO⟩ hin
      dsimp only at hr hrR hturn hheld hO hin ⊢
      rw [hin] at hheld hO hturn
      have e0 : (if t = 0 then on else on) = on := by split <;> rfl
      rw [e0] at hheld hO
      repeat' (first | refine S1 ?_ | refine SA (fun _ => ?_) | refine WL.g_split rfl rfl (fun hc => ?_) (fun hc => ?_) | refine WD.g_split rfl rfl (fun hc => ?_) (fun hc => ?_) | refine W.cond rfl (fun hc => ?_) (fun hc => ?_))
      rw [i64_succ (by omega)]
      exact Fin.round ⟨t + 1, r, Rl, Kf, A⟩ ⟨ht', hr, hrR, by dsimp only; omega, by dsimp only; rw [if_neg (by omega)]; exact hheld, by dsimp only; rw [if_neg (by omega)]; exact hO⟩ envA (fun _ h => h) (by dsimp only; omega)
  rintro ⟨t, r, Rl, Kf, A⟩ ⟨_, hr, hrR, hturn, hheld, hO⟩ ht
  dsimp only at hr hrR hturn hheld hO ht ⊢
  subst ht
  rw [if_neg (by decide)] at hheld hO
  obtain ⟨hRp, hL0, hfl⟩ := Rm.Pcs.Inv.all (Rcv.onceP_ok first on (unB z) hn40) hO.inv hO.u hO.o (came_all hperm)
  clear hfl
  have hRl : Rl.length = on := by have := hRp.length_eq; rw [List.length_range] at this; exact this
  have hRn : Rl.Nodup := hRp.nodup_iff.2 List.nodup_range
  have hcum := once_cum hO (came_all hperm)
  have hrow0 := hO.row
  have hinc := hO.inv.inc
  have han : an = on := by have := OwnS.len ho; rw [flat_len' Pn.cells 7 (fun _ => rfl), hpl] at this; omega
  clear hO hheld hturn
  repeat' (first | refine S1 ?_ | refine SA (fun _ => ?_) | refine WL.g_split rfl rfl (fun hc => ?_) (fun hc => ?_) | refine WD.g_split rfl rfl (fun hc => ?_) (fun hc => ?_) | refine W.cond rfl (fun hc => ?_) (fun hc => ?_))
  refine WL.e rfl (Ef.mkS (n := on) (z := [.int .i64 0]) (by exact rfl) (by exact rfl) rfl rfl (by omega) (by omega)) ?_
  rintro _ _ ⟨bS, rfl, rfl⟩
  rw [mk_nJ]
  repeat' (first | refine S1 ?_ | refine SA (fun _ => ?_) | refine WL.g_split rfl rfl (fun hc => ?_) (fun hc => ?_) | refine WD.g_split rfl rfl (fun hc => ?_) (fun hc => ?_) | refine W.cond rfl (fun hc => ?_) (fun hc => ?_))
  refine WL.e rfl (Ef.bsN (vals := [(0, .int .i64 (-1)), (1, .int .i64 (-1))]) (r := [.int .i64 (-1), .int .i64 (-1)]) (by rfl) rfl rfl rfl (by exact rfl) (by exact rfl)) ?_
  rintro _ _ ⟨bT, rfl, rfl⟩
  repeat' (first | refine S1 ?_ | refine SA (fun _ => ?_) | refine WL.g_split rfl rfl (fun hc => ?_) (fun hc => ?_) | refine WD.g_split rfl rfl (fun hc => ?_) (fun hc => ?_) | refine W.cond rfl (fun hc => ?_) (fun hc => ?_))
  rw [← hrR]
  refine W.loopX (G := WeG) (.exit 8) (fun g => [(0, .int .u32 first), (7, .int .i64 on), (8, .pointer (some ⟨r.R, 0, none⟩)), (11, .slice aa an ac), (22, .slice (some ⟨bS, 0, none⟩) on on), (23, .slice (some ⟨bT, 0, none⟩) 2 2), (24, .int .i64 g.i)])
    (fun g => (bT, .cells (lastC (unB z) (Rl.take g.i)).toArray 3 (0, 0)) :: (bS, .cells ((seenL (Rl.take g.i) on).map nJ).toArray 3 (0, 0)) :: (ab ++ g.r.H))
    (fun g => g.i ≤ on ∧ g.r.ok ∧ g.r.R = r.R ∧ g.r.S.w.row = (Rl.drop g.i).map (Rcv.onceP first on (unB z)).msg ∧ g.r.S.w.L = [] ∧ g.r.S.m.b = Spn.u32 (first + on - 1)) (fun g => on - g.i) ⟨0, r⟩
    ⟨Nat.zero_le _, hr, rfl, hrow0, hL0, hcum⟩ envA (fun _ h => In.of_sub (.pick .here (.pick .here (.pickL (L := ab) (.right .here) (.last (L := r.H) (.right (.right .all)))))) h) (fun g => g.i = on) ?_ ?_
  · clear hL0 hcum hrow0
    rintro K' hK ⟨i, q⟩ ⟨hi, hq, hqR, hrow, hL, hcum⟩
    dsimp only at hi hq hqR hrow hL hcum ⊢
    repeat' (first | refine S1 ?_ | refine SA (fun _ => ?_) | refine WL.g_split rfl rfl (fun hc => ?_) (fun hc => ?_) | refine WD.g_split rfl rfl (fun hc => ?_) (fun hc => ?_) | refine W.cond rfl (fun hc => ?_) (fun hc => ?_))
    rotate_right
    · exact Fin.weak envA (fun _ h => h) (hK ⟨i, q⟩ ⟨hi, hq, hqR, hrow, hL, hcum⟩ (by have := of_decide_eq_false hc; dsimp only; omega))
    have hi' : i < on := by have := of_decide_eq_true hc; omega
    clear hc
    obtain ⟨k, hk⟩ : ∃ k, Rl[i]? = some k := ⟨Rl[i]'(by omega), by simp⟩
    have hkn : k < on := List.mem_range.1 (hRp.mem_iff.1 (List.mem_of_getElem? hk))
    have htk : Rl.take (i + 1) = Rl.take i ++ [k] := by rw [List.take_add_one, hk]; rfl
    have hdk : Rl.drop i = k :: Rl.drop (i + 1) := by
      have h1 := List.drop_eq_getElem_cons (l := Rl) (i := i) (by omega)
      rw [h1]
      congr 1
      have := List.getElem?_eq_getElem (l := Rl) (i := i) (by omega)
      rw [hk] at this
      exact (Option.some.inj this).symm
    rw [hdk, List.map_cons, Rcv.once_msg] at hrow
    rw [← hqR]
    refine WL.e rfl (Ef.call (by exact rfl) (.last (L := q.H) (.there (.there (.right .all)))) (ctake_tr _ q hq)) ?_
    rintro _ _ ⟨_, (⟨hno, _⟩ | ⟨⟨mg, ma, mn, mc, mhb⟩, q2, hm, hq2, rfl, rfl, hR2, ht2, hrow2, hS2⟩), rfl⟩
    · rw [hrow] at hno; cases hno
    rw [hrow] at hrow2
    obtain ⟨rfl, hrow3⟩ := List.cons.inj hrow2
    unfold Ms.ok Ms.bv at hm
    dsimp only at hm hrow3
    have hL2 : q2.S.w.L = [] := by rw [hS2]; unfold Rcv.take Rm.take; rw [hrow]; exact hL
    have hcum2 : q2.S.m.b = Spn.u32 (first + on - 1) := by rw [hS2]; exact hcum
    have hmn : mn = 1 := by have := hm.len; simpa using this.symm
    subst hmn
    obtain ⟨bm, om, rfl⟩ := hm.addr (by omega)
    have hcm : Sl.Can F mhb bm (om + (0 : Int).toNat * 1) [.int .u8 (k : Int)] := by
      have h1 := (Lst.own (F := F) (H := mhb) hm (fun _ h => h)).can (by omega)
      obtain ⟨_, _, he, h2⟩ := h1
      cases he
      have := h2.one (i := 0) (v := .int .u8 (k : Int)) (by rw [List.map_singleton, ofNat_B (by omega)]; rfl)
      exact this
    obtain ⟨bj, hpj⟩ : ∃ b, ps[k]? = some ⟨Rcv.onceD first (unB z) k, b⟩ := by
      have h1 := congrArg (fun l => l[k]?) hps
      simp only [List.getElem?_map, List.getElem?_range hkn, Option.map_some] at h1
      cases h2 : ps[k]? with
      | none => rw [h2] at h1; cases h1
      | some p => rw [h2] at h1; exact ⟨p.b, by rw [← Option.some.inj h1]⟩
    obtain ⟨b2, o2, rfl, hcp⟩ := (Lst.own (F := F) (H := ab) ho (fun _ h => h)).el (cells := Pn.cells) (fun _ => rfl) hpj (by omega)
    have hcu : Sl.Can F ab b2 (o2 + (k : Int).toNat * 7 + 3) [.bool (unB z k)] := hcp.one (i := 3) rfl
    clear hcp
    obtain ⟨u, hu⟩ : ∃ u, unB z k = u := ⟨_, rfl⟩
    rw [hu] at hcu ⊢
    rw [← hR2]
    dsimp only [tup, Ms.cells, Ms.bv]
    rw [List.append_assoc]
    have hia : 0 ≤ (k : Int) ∧ (k : Int) < on := by omega
    have hja : 0 ≤ (k : Int) ∧ (k : Int) < an := by omega
    have hsk := seen_at (Rl.take i) (n := on) hkn
    have hct : (Rl.take i).contains k = false := came_not hRn hk
    rw [hct, if_neg (by decide)] at hsk
    have hsp := seen_put (Rl.take i) (n := on) hkn
    have hsk : ((seenL (Rl.take i) on).map nJ)[0 + ((k : Nat) : Int).toNat * 1]? = some (.int .i64 0) := hsk
    have hsp : spliceK ((seenL (Rl.take i) on).map nJ) (0 + ((k : Nat) : Int).toNat * 1) [.int .i64 (IntKind.i64.wrap (0 + 1))] some = some ((seenL (Rl.take (i + 1)) on).map nJ) := by rw [htk]; exact hsp
    have hi0 : 0 ≤ (0 : Int) ∧ (0 : Int) < ((1 : Nat) : Int) := by decide
    have ek : IntKind.i64.wrap (k : Int) = k := i64_id (by omega) (by omega)
    have hsk1 : ((seenL (Rl.take (i + 1)) on).map nJ)[0 + ((k : Nat) : Int).toNat * 1]? = some (.int .i64 1) := by
      have h1 := seen_at (Rl.take (i + 1)) (n := on) hkn
      rw [show (Rl.take (i + 1)).contains k = true by rw [htk, List.contains_iff_mem]; simp, if_pos rfl] at h1
      exact h1
    refine WL.weak (H' := (bT, _) :: (bS, _) :: (ab ++ (mhb ++ q2.H))) (fun _ h => In.of_sub (.pick (.right (.right .here)) (.pick (.right (.right .here)) (.pickL (L := ab) (.right (.right .here)) (.pickL (L := mhb) (.right .here) (.last (L := q2.H) .here))))) h) ?_
    repeat' (first | refine S1 ?_ | refine SA (fun _ => ?_) | refine WL.g_split rfl rfl (fun hc => ?_) (fun hc => ?_) | refine WD.g_split rfl rfl (fun hc => ?_) (fun hc => ?_) | refine W.cond rfl (fun hc => ?_) (fun hc => ?_) | refine WL.s rfl (Rd.ldC rfl (Sl.Can.mono (by assumption) (fun _ h => h.sublist findA))) ?_ | refine WD.s rfl (Rd.ldC rfl (Sl.Can.mono (by assumption) (fun _ h => h.sublist findA))) ?_)
    · exfalso
      have h1 := of_decide_eq_true hc
      rw [ek] at h1
      omega
    clear hc
    rw [ek]
    repeat' (first | refine S1 ?_ | refine SA (fun _ => ?_) | refine WL.g_split rfl rfl (fun hc => ?_) (fun hc => ?_) | refine WD.g_split rfl rfl (fun hc => ?_) (fun hc => ?_) | refine W.cond rfl (fun hc => ?_) (fun hc => ?_) | refine WL.s rfl (Rd.ldC rfl (Sl.Can.mono (by assumption) (fun _ h => h.sublist findA))) ?_ | refine WD.s rfl (Rd.ldC rfl (Sl.Can.mono (by assumption) (fun _ h => h.sublist findA))) ?_)
    refine W.drawA ?_
    repeat' (first | refine S1 ?_ | refine SA (fun _ => ?_) | refine WL.g_split rfl rfl (fun hc => ?_) (fun hc => ?_) | refine WD.g_split rfl rfl (fun hc => ?_) (fun hc => ?_) | refine W.cond rfl (fun hc => ?_) (fun hc => ?_) | refine WL.s rfl (Rd.ldC rfl (Sl.Can.mono (by assumption) (fun _ h => h.sublist findA))) ?_ | refine WD.s rfl (Rd.ldC rfl (Sl.Can.mono (by assumption) (fun _ h => h.sublist findA))) ?_)
    have e2 : (k : Int).tmod 2 = ((k % 2 : Nat) : Int) := by rw [Int.tmod_eq_emod_of_nonneg (by omega)]; omega
    have e3 : IntKind.i64.wrap ((k % 2 : Nat) : Int) = ((k % 2 : Nat) : Int) := i64_id (by omega) (by omega)
    refine WD.p rfl (Pu.rem rfl rfl (by decide)) ?_
    rw [e2, e3]
    have hl2 : 0 ≤ ((k % 2 : Nat) : Int) ∧ ((k % 2 : Nat) : Int) < ((2 : Nat) : Int) := by omega
    have hla := last_at (unB z) (Rl.take i) k
    have hlp := last_any (unB z) (Rl.take i) k
    have hlo : u = false → lastO (unB z) (k % 2) (Rl.take i) ≤ (k : Int) := fun hu0 => by
      refine lastO_le (by omega) _ _ (by omega) (fun m hm h1 h2 => ?_)
      have h3 := hinc
      rw [← List.take_append_drop i Rl, List.pairwise_append] at h3
      have h4 := h3.2.2 m hm k (by rw [hdk]; exact List.mem_cons_self ..) h1 (by rw [← hu0]; exact hu) h2
      omega
    repeat' (first | refine S1 ?_ | refine SA (fun _ => ?_) | refine WL.g_split rfl rfl (fun hc => ?_) (fun hc => ?_) | refine WD.g_split rfl rfl (fun hc => ?_) (fun hc => ?_) | refine W.cond rfl (fun hc => ?_) (fun hc => ?_) | refine WL.s rfl (Rd.ldC rfl (Sl.Can.mono (by assumption) (fun _ h => h.sublist findA))) ?_ | refine WD.s rfl (Rd.ldC rfl (Sl.Can.mono (by assumption) (fun _ h => h.sublist findA))) ?_)
    all_goals try (exfalso; simp at hc; done)
    all_goals try (exfalso; cases u <;> cases hc; done)
    · exfalso
      have h1 := of_decide_eq_true hc
      have h2 := hlo (by have h3 : (!u) = true := by assumption
                         simpa using h3)
      omega
    · have hu0 : unB z k = false := by rw [hu]; have h3 : (!u) = true := by assumption
                                       simpa using h3
      have hlc : lastC (unB z) (Rl.take (i + 1)) = lastP (unB z) (Rl.take i) k := by rw [htk]; exact last_put _ hu0
      rw [i64_succ (by omega)]
      exact Fin.round ⟨i + 1, q2⟩ ⟨hi', hq2, rfl, hrow3.symm, hL2, hcum2⟩ envA (fun _ h => by dsimp only; rw [hlc]; exact In.of_sub (.pick (.there .here) (.pick (.there .here) (.pickL (L := ab) (.there .here) (.last (L := q2.H) (.there (.right .all)))))) h) (by dsimp only; omega)
    · have hu1 : unB z k = true := by rw [hu]; simpa using hc
      have hlc : lastC (unB z) (Rl.take (i + 1)) = lastC (unB z) (Rl.take i) := by rw [htk]; exact last_same _ hu1
      rw [i64_succ (by omega)]
      exact Fin.round ⟨i + 1, q2⟩ ⟨hi', hq2, rfl, hrow3.symm, hL2, hcum2⟩ envA (fun _ h => by dsimp only; rw [hlc]; exact In.of_sub (.pick (.there .here) (.pick (.there .here) (.pickL (L := ab) (.there .here) (.last (L := q2.H) (.there (.right .all)))))) h) (by dsimp only; omega)
  rintro ⟨i, q⟩ ⟨_, hq, hqR, hrow, hL, hcum⟩ hin
  dsimp only at hq hqR hrow hL hcum hin ⊢
  have hrow' : q.S.w.row = [] := by rw [hrow, hin, List.drop_of_length_le (by omega)]; rfl
  rw [← hqR]
  repeat' (first | refine S1 ?_ | refine SA (fun _ => ?_) | refine WL.g_split rfl rfl (fun hc => ?_) (fun hc => ?_) | refine WD.g_split rfl rfl (fun hc => ?_) (fun hc => ?_) | refine W.cond rfl (fun hc => ?_) (fun hc => ?_))
  refine WL.e rfl (Ef.call (c := q.H) (by exact rfl) (.last (L := q.H) (.there (.there (.right .all)))) (ctake_tr _ q hq)) ?_
  rintro _ _ ⟨_, (⟨_, rfl, rfl⟩ | ⟨m, q2, _, _, rfl, rfl, _, _, hrow2, _⟩), rfl⟩
  rotate_left
  · rw [hrow'] at hrow2; cases hrow2
  dsimp only [tup]
  repeat' (first | refine S1 ?_ | refine SA (fun _ => ?_) | refine WL.g_split rfl rfl (fun hc => ?_) (fun hc => ?_) | refine WD.g_split rfl rfl (fun hc => ?_) (fun hc => ?_) | refine W.cond rfl (fun hc => ?_) (fun hc => ?_))
  have hh0 : Rcv.held q.S = 0 := by unfold Rcv.held; rw [hL, hrow']; rfl
  refine WL.e rfl (Ef.callR (c := q.H) (by exact rfl) (.last (L := q.H) (.there .here)) (cheld_tr _ q hq)) ?_
  rintro _ _ ⟨rfl, rfl⟩
  rw [hh0]
  repeat' (first | refine S1 ?_ | refine SA (fun _ => ?_) | refine WL.g_split rfl rfl (fun hc => ?_) (fun hc => ?_) | refine WD.g_split rfl rfl (fun hc => ?_) (fun hc => ?_) | refine W.cond rfl (fun hc => ?_) (fun hc => ?_))
  refine WL.e rfl (Ef.callR (c := q.H) (by exact rfl) (.last (L := q.H) (.there .here)) (rcum_tr _ q)) ?_
  rintro _ _ ⟨rfl, rfl⟩
  have hcc : q.S.m.b = IntKind.u32.wrap (IntKind.u32.wrap (first + IntKind.u32.wrap (on : Int)) - 1) := by
    rw [hcum]
    show Spn.u32 (first + (on : Int) - 1) = Spn.u32 (Spn.u32 (first + Spn.u32 (on : Int)) - 1)
    simp only [Spn.u32_eq]
    omega
  rw [hcc]
  repeat' (first | refine S1 ?_ | refine SA (fun _ => ?_) | refine WL.g_split rfl rfl (fun hc => ?_) (fun hc => ?_) | refine WD.g_split rfl rfl (fun hc => ?_) (fun hc => ?_) | refine W.cond rfl (fun hc => ?_) (fun hc => ?_))
  · refine WL.e rfl (Ef.callR (by exact rfl) (.nil _) (works_tr _)) ?_
    rintro _ _ ⟨rfl, rfl⟩
    repeat' (first | refine S1 ?_ | refine SD ?_ | refine SA (fun _ => ?_) | refine WL.g_split rfl rfl (fun hc => ?_) (fun hc => ?_) | refine WD.g_split rfl rfl (fun hc => ?_) (fun hc => ?_) | refine W.cond rfl (fun hc => ?_) (fun hc => ?_))
    exact Fin.retW (by exact rfl) resA (fun _ h => h.sublist (List.nil_sublist _)) ⟨rfl, rfl⟩
  · exfalso
    simp at hc
end Go.Proofs.Ythjglhdjlmjffaa
