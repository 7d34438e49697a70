/- The law SendqBounds, walked: what is away, and its turns. Conditions: its input lies in memory. -/
import Derived.Test.YtjbinhihkfidoaaGreatSnU
import Derived.Test.YtjbinhihkfidoaaGreatSnS
import Derived.Test.YtjbinhihkfidoaaGreatBnC
namespace Go.Proofs.YtjbinhihkfidoaaGreat
open Go Go.Sl Go.Pth

def pathO (s : Snd.S) (k : Nat) : Int := (Snd.pathA s k).1
def lawAway (s : Snd.S) (i : Nat) : Int := ((List.range i).map (pathO s)).sum
theorem lawAway_succ (s : Snd.S) (i : Nat) : lawAway s (i + 1) = lawAway s i + pathO s i := by unfold lawAway; rw [List.range_succ, List.map_append, List.sum_append]; simp
theorem pathO_rng {n : Nat} {s : SdM} (hs : s.ok n) (k : Nat) : 0 ≤ pathO s.S k ∧ pathO s.S k ≤ 3072000 := by
  unfold pathO Snd.pathA
  rw [if_neg (by omega)]
  split
  · have := hs.out k
    dsimp only
    show 0 ≤ (Flt.out s.f.S k : Int) ∧ (Flt.out s.f.S k : Int) ≤ 3072000
    omega
  · exact ⟨by decide, by decide⟩
theorem lawAway_rng {n : Nat} {s : SdM} (hs : s.ok n) : ∀ i : Nat, 0 ≤ lawAway s.S i ∧ lawAway s.S i ≤ 3072000 * i
  | 0 => ⟨Int.le_refl _, Int.le_refl _⟩
  | i + 1 => by
    have h1 := lawAway_rng hs i
    have h2 := pathO_rng hs i
    rw [lawAway_succ]
    omega
theorem lawAway_zero {s : Snd.S} (h : Snd.away s = 0) : ∀ i : Nat, lawAway s i = 0
  | 0 => rfl
  | i + 1 => by rw [lawAway_succ, lawAway_zero h i]; unfold pathO; rw [Snd.away_path h]; rfl
set_option maxHeartbeats 4000000 in
theorem lawaway_tr (F : Nat → Option Obj) {n : Nat} (s : SdM) (hs : s.ok n) : Tr Tryz.prog 23 [ptr s.R].toArray F s.H (fun v H => v = .int .i64 (lawAway s.S 4) ∧ H = s.H) := by
  refine Tr.enter Tryz.func23 rfl Tryz.ntmps23 rfl (fun w0 => ?_)
  repeat' (first | refine S2b ?_ | refine SD ?_ | refine SA (fun _ => ?_) | refine WL.g_split rfl rfl (fun hc => ?_) (fun hc => ?_) | refine WD.g_split rfl rfl (fun hc => ?_) (fun hc => ?_) | refine W.cond rfl (fun hc => ?_) (fun hc => ?_) | refine WL.s rfl (Rd.ldC rfl (Sl.Can.mono (by assumption) (fun _ h => h.sublist findA))) ?_ | refine WD.s rfl (Rd.ldC rfl (Sl.Can.mono (by assumption) (fun _ h => h.sublist findA))) ?_ | fail)
  refine W.loop (G := GK) (fun g => [(0, ptr s.R), (4, .int .i64 g.i), (3, .int .i64 (lawAway s.S g.i))]) (fun _ => s.H) (fun g => g.i ≤ 4) (fun g => 4 - g.i) ⟨0⟩ (Nat.zero_le _) envA (fun _ h => h) ?_
  rintro ⟨i⟩ hi
  dsimp only at hi ⊢
  repeat' (first | refine S2b ?_ | refine SD ?_ | refine SA (fun _ => ?_) | refine WL.g_split rfl rfl (fun hc => ?_) (fun hc => ?_) | refine WD.g_split rfl rfl (fun hc => ?_) (fun hc => ?_) | refine W.cond rfl (fun hc => ?_) (fun hc => ?_) | refine WL.s rfl (Rd.ldC rfl (Sl.Can.mono (by assumption) (fun _ h => h.sublist findA))) ?_ | refine WD.s rfl (Rd.ldC rfl (Sl.Can.mono (by assumption) (fun _ h => h.sublist findA))) ?_ | fail)
  · have hi' : i < 4 := by have := of_decide_eq_true hc; omega
    refine WL.e rfl (Ef.callR (c := s.H) (by exact rfl) (.all _) (spath_tr _ s hs i)) ?_
    rintro _ _ ⟨rfl, rfl⟩
    unfold pathV
    dsimp only [tup]
    have h1 := lawAway_rng hs i
    have h2 := pathO_rng hs i
    have e : (Snd.pathA s.S i).1 = pathO s.S i := rfl
    rw [e]
    repeat' (first | refine S2b ?_ | refine SD ?_ | refine SA (fun _ => ?_) | refine WL.g_split rfl rfl (fun hc => ?_) (fun hc => ?_) | refine WD.g_split rfl rfl (fun hc => ?_) (fun hc => ?_) | refine W.cond rfl (fun hc => ?_) (fun hc => ?_) | refine WL.s rfl (Rd.ldC rfl (Sl.Can.mono (by assumption) (fun _ h => h.sublist findA))) ?_ | refine WD.s rfl (Rd.ldC rfl (Sl.Can.mono (by assumption) (fun _ h => h.sublist findA))) ?_ | fail)
    rw [i64_succ (by omega), i64_id (n := lawAway s.S i + pathO s.S i) (by omega) (by omega), ← lawAway_succ]
    exact Fin.round ⟨i + 1⟩ hi' envA (fun _ h => h) (by dsimp only; omega)
  · have hi' : i = 4 := by have := of_decide_eq_false hc; omega
    subst hi'
    exact Fin.retW (by exact rfl) resA (fun _ h => h) ⟨rfl, rfl⟩
def aAt (f : Nat → Int) : Nat → List Value
  | 0 => [.int .i64 0, .int .i64 0, .int .i64 0, .int .i64 0]
  | 1 => [.int .i64 (f 0), .int .i64 0, .int .i64 0, .int .i64 0]
  | 2 => [.int .i64 (f 0), .int .i64 (f 1), .int .i64 0, .int .i64 0]
  | 3 => [.int .i64 (f 0), .int .i64 (f 1), .int .i64 (f 2), .int .i64 0]
  | _ => [.int .i64 (f 0), .int .i64 (f 1), .int .i64 (f 2), .int .i64 (f 3)]
theorem a0 (f : Nat → Int) : aAt f 0 = [.int .i64 0, .int .i64 0, .int .i64 0, .int .i64 0] := rfl
theorem a1 (f : Nat → Int) : aAt f 1 = [.int .i64 (f 0), .int .i64 0, .int .i64 0, .int .i64 0] := rfl
theorem a2 (f : Nat → Int) : aAt f 2 = [.int .i64 (f 0), .int .i64 (f 1), .int .i64 0, .int .i64 0] := rfl
theorem a3 (f : Nat → Int) : aAt f 3 = [.int .i64 (f 0), .int .i64 (f 1), .int .i64 (f 2), .int .i64 0] := rfl
theorem a4 (f : Nat → Int) : aAt f 4 = [.int .i64 (f 0), .int .i64 (f 1), .int .i64 (f 2), .int .i64 (f 3)] := rfl
def pathZ (s : Snd.S) (k : Nat) : Int := (Snd.pathA s k).2.1
structure GBn where
  i : Nat
  s : SdM
  now : Int
  cum : Int
  last : Int
theorem needS_nn (l : List Flt.Dt) : 0 ≤ Snd.needS l := by
  induction l with
  | nil => exact Int.le_refl _
  | cons d l ih =>
    have : Snd.needS (d :: l) = Snd.need d.bs.length + Snd.needS l := rfl
    have h2 : 0 ≤ Snd.need d.bs.length := by unfold Snd.need; omega
    omega
theorem needS_app (l m : List Flt.Dt) : Snd.needS (l ++ m) = Snd.needS l + Snd.needS m := by unfold Snd.needS; rw [List.map_append, List.sum_append]
theorem needS_take (l : List Flt.Dt) (j : Nat) : 0 ≤ Snd.needS (l.take j) ∧ Snd.needS (l.take j) ≤ Snd.needS l := by
  have h := needS_app (l.take j) (l.drop j)
  rw [List.take_append_drop] at h
  have h1 := needS_nn (l.take j)
  have h2 := needS_nn (l.drop j)
  omega
theorem sizeW_rng {n : Nat} {s : Snd.S} (h : Snd.Ok n s) (k : Nat) : 0 ≤ Snd.sizeW s k ∧ Snd.sizeW s k ≤ 1000000000000 := by
  unfold Snd.sizeW
  cases hw : s.ws[k]? with
  | none => exact ⟨by decide, by decide⟩
  | some w =>
    have hwo := (h.ws w (List.mem_of_getElem? hw)).p.w
    have a := hwo.mtu; have b := hwo.most; have c := hwo.size
    dsimp only
    omega
structure GSc where
  j : Nat
  size : Int
  nb : Int
  last : Int
theorem vastG_small : ∀ {l : List Ov} {n : Int}, 0 ≤ n → vastG l n = false → ∀ o ∈ l, o.bn ≤ 32768 ∧ o.kn ≤ 50
  | [], _, _, _, o, ho => by cases ho
  | q :: r, n, hn, h, o, ho => by
    rw [vastG] at h
    split at h
    · cases h
    · rename_i hc
      rcases List.mem_cons.1 ho with rfl | ho
      · omega
      · exact vastG_small (by omega) h o ho
theorem vast_ops {F : Nat → Option Obj} {l : List Opx} (hop : ∀ q ∈ l, q.Is F) (h : vast (l.map (·.o)) = false) : l.length ≤ 120 ∧ ∀ q ∈ l, q.bs.length ≤ 1000000000 ∧ q.gs.length ≤ 1000 := by
  unfold vast at h
  rw [Bool.or_eq_false_iff] at h
  obtain ⟨h1, h2⟩ := h
  have h1 := of_decide_eq_false h1
  rw [List.length_map] at h1
  refine ⟨by omega, fun q hq => ?_⟩
  have h3 := vastG_small (Int.le_refl 0) h2 q.o (List.mem_map.2 ⟨q, hq, rfl⟩)
  have h4 := (hop q hq).bn
  have h5 := (hop q hq).kn
  omega
set_option maxHeartbeats 16000000 in
theorem bounds_tr (F : Nat → Option Obj) (p first rwnd : Int) (hp : 0 ≤ p ∧ p < 256) (hf : 0 ≤ first ∧ first < 4294967296) (hr : 0 ≤ rwnd ∧ rwnd < 4294967296) (l : List Opx) (ka : Option Addr) (kn kc : Nat) (hl : Lst F [] 10 (l.flatMap Opx.cells) ka kn kc) (hop : ∀ q ∈ l, q.Is F) :
    Tr Tryz.prog 4 [.int .u8 p, .int .u32 first, .int .u32 rwnd, .slice ka kn kc].toArray F [] (fun v H => v = .bool true ∧ H = []) := by
  refine Tr.enter Tryz.func4 rfl Tryz.ntmps4 rfl (fun w0 => ?_)
  have hkn : kn = l.length := by have := hl.len; rw [flat_len' Opx.cells 10 (fun _ => rfl)] at this; omega
  have hl' : Lst F [] 10 ((l.map (·.o)).flatMap Ov.cells) ka kn kc := by rw [List.flatMap_map]; exact hl
  repeat' (first | refine S2b ?_ | refine SD ?_ | refine SA (fun _ => ?_) | refine WL.g_split rfl rfl (fun hc => ?_) (fun hc => ?_) | refine WD.g_split rfl rfl (fun hc => ?_) (fun hc => ?_) | refine W.cond rfl (fun hc => ?_) (fun hc => ?_) | refine WL.s rfl (Rd.ldC rfl (Sl.Can.mono (by assumption) (fun _ h => h.sublist findA))) ?_ | refine WD.s rfl (Rd.ldC rfl (Sl.Can.mono (by assumption) (fun _ h => h.sublist findA))) ?_ | fail)
  refine WL.e rfl (Ef.callFR (by exact rfl) (.nil _) (fun hd => vast_tr _ _ (l.map (·.o)) ka kn kc (hl'.mono (fun _ h => addF_in hd h)))) ?_
  rintro _ _ ⟨rfl, rfl⟩
  cases hv : vast (l.map (·.o)) with
  | true =>
    repeat' (first | refine S2b ?_ | refine SD ?_ | refine SA (fun _ => ?_) | refine WL.g_split rfl rfl (fun hc => ?_) (fun hc => ?_) | refine WD.g_split rfl rfl (fun hc => ?_) (fun hc => ?_) | refine W.cond rfl (fun hc => ?_) (fun hc => ?_) | refine WL.s rfl (Rd.ldC rfl (Sl.Can.mono (by assumption) (fun _ h => h.sublist findA))) ?_ | refine WD.s rfl (Rd.ldC rfl (Sl.Can.mono (by assumption) (fun _ h => h.sublist findA))) ?_ | fail)
    refine WL.e rfl (Ef.callR (by exact rfl) (.nil _) (works_tr _)) ?_
    rintro _ _ ⟨rfl, rfl⟩
    repeat' (first | refine S2b ?_ | refine SD ?_ | refine SA (fun _ => ?_) | refine WL.g_split rfl rfl (fun hc => ?_) (fun hc => ?_) | refine WD.g_split rfl rfl (fun hc => ?_) (fun hc => ?_) | refine W.cond rfl (fun hc => ?_) (fun hc => ?_) | refine WL.s rfl (Rd.ldC rfl (Sl.Can.mono (by assumption) (fun _ h => h.sublist findA))) ?_ | refine WD.s rfl (Rd.ldC rfl (Sl.Can.mono (by assumption) (fun _ h => h.sublist findA))) ?_ | fail)
    exact Fin.retW (by exact rfl) resA (H' := []) (fun _ h => h.sublist (List.nil_sublist _)) ⟨rfl, rfl⟩
  | false =>
  repeat' (first | refine S2b ?_ | refine SD ?_ | refine SA (fun _ => ?_) | refine WL.g_split rfl rfl (fun hc => ?_) (fun hc => ?_) | refine WD.g_split rfl rfl (fun hc => ?_) (fun hc => ?_) | refine W.cond rfl (fun hc => ?_) (fun hc => ?_) | refine WL.s rfl (Rd.ldC rfl (Sl.Can.mono (by assumption) (fun _ h => h.sublist findA))) ?_ | refine WD.s rfl (Rd.ldC rfl (Sl.Can.mono (by assumption) (fun _ h => h.sublist findA))) ?_ | fail)
  refine WL.e rfl (Ef.callR (by exact rfl) (.nil _) (plain_tr _ p hp)) ?_
  rintro _ _ ⟨rfl, rfl⟩
  repeat' (first | refine S2b ?_ | refine SD ?_ | refine SA (fun _ => ?_) | refine WL.g_split rfl rfl (fun hc => ?_) (fun hc => ?_) | refine WD.g_split rfl rfl (fun hc => ?_) (fun hc => ?_) | refine W.cond rfl (fun hc => ?_) (fun hc => ?_) | refine WL.s rfl (Rd.ldC rfl (Sl.Can.mono (by assumption) (fun _ h => h.sublist findA))) ?_ | refine WD.s rfl (Rd.ldC rfl (Sl.Can.mono (by assumption) (fun _ h => h.sublist findA))) ?_ | fail)
  rename_i b9
  refine WL.e rfl (Ef.call (by exact rfl) (.nil _) (snew_tr _ (plainC p) first rwnd 0 hr.1)) ?_
  rintro _ _ ⟨_, (⟨hno, _⟩ | ⟨_, s0, hs0, rfl, rfl, hS0⟩), rfl⟩
  · rw [plain_may] at hno; cases hno
  dsimp only [tup]
  have hB0 : Snd.Bi 0 s0.S (Spn.u32 (first - 1)) := ⟨hs0.pl, by rw [hS0]; rfl, 0, ⟨(fun i r h => by rw [hS0] at h; cases h), (by rw [hS0]; exact Int.le_refl _), Int.le_refl _⟩, by rw [hS0]; show _ = Spn.u32 (Spn.u32 (first - 1) + 0); simp only [Spn.u32_eq]; omega⟩
  have hu : IntKind.u32.wrap (first - 1) = Spn.u32 (first - 1) := rfl
  obtain ⟨R, hR⟩ : ∃ R, s0.R = R := ⟨_, rfl⟩
  rw [hR]
  have hsm := vast_ops hop hv
  repeat' (first | refine S2b ?_ | refine SD ?_ | refine SA (fun _ => ?_) | refine WL.g_split rfl rfl (fun hc => ?_) (fun hc => ?_) | refine WD.g_split rfl rfl (fun hc => ?_) (fun hc => ?_) | refine W.cond rfl (fun hc => ?_) (fun hc => ?_) | refine WL.s rfl (Rd.ldC rfl (Sl.Can.mono (by assumption) (fun _ h => h.sublist findA))) ?_ | refine WD.s rfl (Rd.ldC rfl (Sl.Can.mono (by assumption) (fun _ h => h.sublist findA))) ?_ | fail)
  refine W.loop (G := GBn) (fun g => [(3, .slice ka kn kc), (9, ptr b9), (10, ptr R), (12, .int .i64 g.now), (13, .int .u32 g.cum), (14, .int .u32 g.last), (15, .int .i64 g.i)])
    (fun g => (b9, .cells (plainC p).cells.toArray 31 (0, 0)) :: g.s.H)
    (fun g => g.i ≤ kn ∧ g.s.ok g.i ∧ g.s.R = R ∧ Snd.Bi g.i g.s.S g.last ∧ 0 ≤ g.now ∧ g.now ≤ 65536 * g.i) (fun g => kn - g.i) ⟨0, s0, 0, Spn.u32 (first - 1), Spn.u32 (first - 1)⟩ ⟨Nat.zero_le _, hs0, hR, hB0, Int.le_refl _, Int.le_refl _⟩ envA (fun _ h => h.perm List.perm_append_comm) ?_
  rintro ⟨i, s, now, cum, last⟩ ⟨hi, hs, hsR, hB, hnow0, hnow1⟩
  dsimp only at hi hs hsR hB hnow0 hnow1 ⊢
  subst hsR
  unfold Cfg.cells
  repeat' (first | refine S2b ?_ | refine SD ?_ | refine SA (fun _ => ?_) | refine WL.g_split rfl rfl (fun hc => ?_) (fun hc => ?_) | refine WD.g_split rfl rfl (fun hc => ?_) (fun hc => ?_) | refine W.cond rfl (fun hc => ?_) (fun hc => ?_) | refine WL.s rfl (Rd.ldC rfl (Sl.Can.mono (by assumption) (fun _ h => h.sublist findA))) ?_ | refine WD.s rfl (Rd.ldC rfl (Sl.Can.mono (by assumption) (fun _ h => h.sublist findA))) ?_ | fail)
  · have hi' : i < kn := by have := of_decide_eq_true hc; omega
    obtain ⟨q, hq⟩ : ∃ q, l[i]? = some q := ⟨l[i]'(by omega), List.getElem?_eq_getElem _⟩
    obtain ⟨ho1, ho2⟩ := hsm.2 q (List.mem_of_getElem? hq)
    have ho := hop q (List.mem_of_getElem? hq)
    have how := ho.wait
    obtain ⟨sb, so, hka, hcan⟩ := hl.el (cells := Opx.cells) (fun _ => rfl) hq (by omega)
    have hia : 0 ≤ (i : Int) ∧ (i : Int) < kn := by omega
    rw [hka]
    unfold Opx.cells Ov.cells at hcan
    repeat' (first | refine S2b ?_ | refine SD ?_ | refine SA (fun _ => ?_) | refine WL.g_split rfl rfl (fun hc => ?_) (fun hc => ?_) | refine WD.g_split rfl rfl (fun hc => ?_) (fun hc => ?_) | refine W.cond rfl (fun hc => ?_) (fun hc => ?_) | refine WL.s rfl (Rd.ldC rfl (Sl.Can.mono (by assumption) (fun _ h => h.sublist findA))) ?_ | refine WD.s rfl (Rd.ldC rfl (Sl.Can.mono (by assumption) (fun _ h => h.sublist findA))) ?_ | fail)
    refine WL.s rfl (Rd.ldC rfl (hcan.sub 1 1).any) ?_
    repeat' (first | refine S2b ?_ | refine SD ?_ | refine SA (fun _ => ?_) | refine WL.g_split rfl rfl (fun hc => ?_) (fun hc => ?_) | refine WD.g_split rfl rfl (fun hc => ?_) (fun hc => ?_) | refine W.cond rfl (fun hc => ?_) (fun hc => ?_) | refine WL.s rfl (Rd.ldC rfl (Sl.Can.mono (by assumption) (fun _ h => h.sublist findA))) ?_ | refine WD.s rfl (Rd.ldC rfl (Sl.Can.mono (by assumption) (fun _ h => h.sublist findA))) ?_ | fail)
    rename_i b16 b17
    rw [i64_id (n := q.o.wait) (by omega) (by omega), i64_id (n := now + q.o.wait) (by omega) (by omega)]
    obtain ⟨now', hnow'⟩ : ∃ z, now + q.o.wait = z := ⟨_, rfl⟩
    rw [hnow', ← hka]
    refine W.loop (G := GK) (fun g => [(3, .slice ka kn kc), (9, ptr b9), (10, ptr s.R), (12, .int .i64 now'), (13, .int .u32 cum), (14, .int .u32 last), (15, .int .i64 i), (16, ptr b16), (17, ptr b17), (18, .int .i64 g.i)])
      (fun g => (b17, .cells (aAt (pathZ s.S) g.i).toArray 65 (0, 0)) :: (b16, .cells (aAt (pathO s.S) g.i).toArray 65 (0, 0)) :: (b9, .cells (plainC p).cells.toArray 31 (0, 0)) :: s.H) (fun g => g.i ≤ 4) (fun g => 4 - g.i) ⟨0⟩ (Nat.zero_le _) envA (fun _ h => h) ?_
    rintro ⟨j⟩ hj
    dsimp only at hj ⊢
    by_cases hj4 : j < 4
    · have hja : 0 ≤ (j : Int) ∧ (j : Int) < (4 : Nat) := by omega
      obtain rfl | rfl | rfl | rfl : j = 0 ∨ j = 1 ∨ j = 2 ∨ j = 3 := by omega
      all_goals
        simp only [a0, a1, a2, a3]
        repeat' (first | refine S2b ?_ | refine SD ?_ | refine SA (fun _ => ?_) | refine WL.g_split rfl rfl (fun hc => ?_) (fun hc => ?_) | refine WD.g_split rfl rfl (fun hc => ?_) (fun hc => ?_) | refine W.cond rfl (fun hc => ?_) (fun hc => ?_) | refine WL.s rfl (Rd.ldC rfl (Sl.Can.mono (by assumption) (fun _ h => h.sublist findA))) ?_ | refine WD.s rfl (Rd.ldC rfl (Sl.Can.mono (by assumption) (fun _ h => h.sublist findA))) ?_ | fail)
        refine WL.e rfl (Ef.callR (c := s.H) (by exact rfl) (.skip _ (.skip _ (.skip _ (.all _)))) (spath_tr _ s hs _)) ?_
        rintro _ _ ⟨rfl, rfl⟩
        unfold pathV
        dsimp only [tup]
        repeat' (first | refine S2b ?_ | refine SD ?_ | refine SA (fun _ => ?_) | refine WL.g_split rfl rfl (fun hc => ?_) (fun hc => ?_) | refine WD.g_split rfl rfl (fun hc => ?_) (fun hc => ?_) | refine W.cond rfl (fun hc => ?_) (fun hc => ?_) | refine WL.s rfl (Rd.ldC rfl (Sl.Can.mono (by assumption) (fun _ h => h.sublist findA))) ?_ | refine WD.s rfl (Rd.ldC rfl (Sl.Can.mono (by assumption) (fun _ h => h.sublist findA))) ?_ | fail)
        refine WL.p rfl (Pu.iaA rfl rfl hja) ?_
        repeat' (first | refine S2b ?_ | refine SD ?_ | refine SA (fun _ => ?_) | refine WL.g_split rfl rfl (fun hc => ?_) (fun hc => ?_) | refine WD.g_split rfl rfl (fun hc => ?_) (fun hc => ?_) | refine W.cond rfl (fun hc => ?_) (fun hc => ?_) | refine WL.s rfl (Rd.ldC rfl (Sl.Can.mono (by assumption) (fun _ h => h.sublist findA))) ?_ | refine WD.s rfl (Rd.ldC rfl (Sl.Can.mono (by assumption) (fun _ h => h.sublist findA))) ?_ | fail)
        refine WL.p rfl (Pu.iaA rfl rfl hja) ?_
        repeat' (first | refine S2b ?_ | refine SD ?_ | refine SA (fun _ => ?_) | refine WL.g_split rfl rfl (fun hc => ?_) (fun hc => ?_) | refine WD.g_split rfl rfl (fun hc => ?_) (fun hc => ?_) | refine W.cond rfl (fun hc => ?_) (fun hc => ?_) | refine WL.s rfl (Rd.ldC rfl (Sl.Can.mono (by assumption) (fun _ h => h.sublist findA))) ?_ | refine WD.s rfl (Rd.ldC rfl (Sl.Can.mono (by assumption) (fun _ h => h.sublist findA))) ?_ | fail)
      · exact Fin.round ⟨1⟩ (by dsimp only; omega) envA (fun _ h => h) (by dsimp only; omega)
      · exact Fin.round ⟨2⟩ (by dsimp only; omega) envA (fun _ h => h) (by dsimp only; omega)
      · exact Fin.round ⟨3⟩ (by dsimp only; omega) envA (fun _ h => h) (by dsimp only; omega)
      · exact Fin.round ⟨4⟩ (by dsimp only; omega) envA (fun _ h => h) (by dsimp only; omega)
    · have hj4' : j = 4 := by omega
      subst hj4'
      rw [a4, a4]
      have hsr := hs.pl.room
      have haw := lawAway_rng hs 4
      repeat' (first | refine S2b ?_ | refine SD ?_ | refine SA (fun _ => ?_) | refine WL.g_split rfl rfl (fun hc => ?_) (fun hc => ?_) | refine WD.g_split rfl rfl (fun hc => ?_) (fun hc => ?_) | refine W.cond rfl (fun hc => ?_) (fun hc => ?_) | refine WL.s rfl (Rd.ldC rfl (Sl.Can.mono (by assumption) (fun _ h => h.sublist findA))) ?_ | refine WD.s rfl (Rd.ldC rfl (Sl.Can.mono (by assumption) (fun _ h => h.sublist findA))) ?_ | fail)
      refine WL.e rfl (Ef.callR (c := s.H) (by exact rfl) (.skip _ (.skip _ (.skip _ (.all _)))) (sroom_tr _ s)) ?_
      rintro _ _ ⟨rfl, rfl⟩
      repeat' (first | refine S2b ?_ | refine SD ?_ | refine SA (fun _ => ?_) | refine WL.g_split rfl rfl (fun hc => ?_) (fun hc => ?_) | refine WD.g_split rfl rfl (fun hc => ?_) (fun hc => ?_) | refine W.cond rfl (fun hc => ?_) (fun hc => ?_) | refine WL.s rfl (Rd.ldC rfl (Sl.Can.mono (by assumption) (fun _ h => h.sublist findA))) ?_ | refine WD.s rfl (Rd.ldC rfl (Sl.Can.mono (by assumption) (fun _ h => h.sublist findA))) ?_ | fail)
      refine WL.e rfl (Ef.callR (c := s.H) (by exact rfl) (.skip _ (.skip _ (.skip _ (.all _)))) (lawaway_tr _ s hs)) ?_
      rintro _ _ ⟨rfl, rfl⟩
      rw [hka]
      repeat' (first | refine S2b ?_ | refine SD ?_ | refine SA (fun _ => ?_) | refine WL.g_split rfl rfl (fun hc => ?_) (fun hc => ?_) | refine WD.g_split rfl rfl (fun hc => ?_) (fun hc => ?_) | refine W.cond rfl (fun hc => ?_) (fun hc => ?_) | refine WL.s rfl (Rd.ldC rfl (Sl.Can.mono (by assumption) (fun _ h => h.sublist findA))) ?_ | refine WD.s rfl (Rd.ldC rfl (Sl.Can.mono (by assumption) (fun _ h => h.sublist findA))) ?_ | fail)
      have hturn := hB.turn (by omega) (q.o.dg q.bs q.gs) ho.stream.1 cum now'
      refine WL.e rfl (Ef.callW (c := s.H) (by exact rfl) (.skip _ (.skip _ (.skip _ (.all _)))) (fun F' hF => does_tr F' s hs (by omega) q.o q.bs q.gs (ho.mono (fun w h => (hF w h).sublist (List.nil_sublist _))) cum now' (by omega) ho1 ho2)) ?_
      rintro _ _ ⟨_, ⟨t, s', ht, hs', hR', hS', rfl, rfl⟩, rfl⟩
      obtain ⟨d, hd⟩ : ∃ d, Snd.did s.S (q.o.dg q.bs q.gs) cum now' = d := ⟨_, rfl⟩
      rw [hd] at hturn ht hS' ⊢
      have hk : (q.o.dg q.bs q.gs).kind = q.o.kind := rfl
      rw [hk] at hturn
      rw [← hS'] at hturn
      have hsr' := hs'.pl.room
      rw [← hR']
      unfold ToM.cells toldV
      repeat' (first | refine S2b ?_ | refine SD ?_ | refine SA (fun _ => ?_) | refine WL.g_split rfl rfl (fun hc => ?_) (fun hc => ?_) | refine WD.g_split rfl rfl (fun hc => ?_) (fun hc => ?_) | refine W.cond rfl (fun hc => ?_) (fun hc => ?_) | refine WL.s rfl (Rd.ldC rfl (Sl.Can.mono (by assumption) (fun _ h => h.sublist findA))) ?_ | refine WD.s rfl (Rd.ldC rfl (Sl.Can.mono (by assumption) (fun _ h => h.sublist findA))) ?_ | fail)
      rename_i b21
      rw [List.append_assoc t.H]
      have hcanK := (hcan.sub 0 1).any (H := [])
      have hcanB := (hcan.sub 6 1).any (H := [])
      refine WL.s rfl (Rd.ldC rfl (hcan.sub 0 1).any) ?_
      repeat' (first | refine S2b ?_ | refine SD ?_ | refine SA (fun _ => ?_) | refine WL.g_split rfl rfl (fun hc => ?_) (fun hc => ?_) | refine WD.g_split rfl rfl (fun hc => ?_) (fun hc => ?_) | refine W.cond rfl (fun hc => ?_) (fun hc => ?_) | refine WL.s rfl (Rd.ldC rfl (Sl.Can.mono (by assumption) (fun _ h => h.sublist findA))) ?_ | refine WD.s rfl (Rd.ldC rfl (Sl.Can.mono (by assumption) (fun _ h => h.sublist findA))) ?_ | fail)
      all_goals
        first
          | (rw [show IntKind.u32.wrap (cum + q.o.by_) = Spn.u32 (cum + q.o.by_) from rfl]
             generalize Spn.u32 (cum + q.o.by_) = cum')
          | generalize cum = cum'
        refine WL.e rfl (Ef.callR (c := s'.H) (by exact rfl) (.last (L := s'.H) (.there (.right .here))) (sroom_tr _ s')) ?_
        rintro _ _ ⟨rfl, rfl⟩
        have hno : decide (s'.S.room < 0) = false := decide_eq_false (by omega)
        repeat' (first | refine S2b ?_ | refine SD ?_ | refine SA (fun _ => ?_) | refine WL.g_split rfl rfl (fun hc => ?_) (fun hc => ?_) | refine WD.g_split rfl rfl (fun hc => ?_) (fun hc => ?_) | refine W.cond rfl (fun hc => ?_) (fun hc => ?_) | refine WL.s rfl (Rd.ldC rfl (Sl.Can.mono (by assumption) (fun _ h => h.sublist findA))) ?_ | refine WD.s rfl (Rd.ldC rfl (Sl.Can.mono (by assumption) (fun _ h => h.sublist findA))) ?_ | fail)
        · exact absurd (hno.symm.trans ‹decide (s'.S.room < 0) = true›) (by decide)
        refine WL.e rfl (Ef.callR (c := s'.H) (by exact rfl) (.last (L := s'.H) (.there (.right .here))) (sroom_tr _ s')) ?_
        rintro _ _ ⟨rfl, rfl⟩
        repeat' (first | refine S2b ?_ | refine SD ?_ | refine SA (fun _ => ?_) | refine WL.g_split rfl rfl (fun hc => ?_) (fun hc => ?_) | refine WD.g_split rfl rfl (fun hc => ?_) (fun hc => ?_) | refine W.cond rfl (fun hc => ?_) (fun hc => ?_) | refine WL.s rfl (Rd.ldC rfl (Sl.Can.mono (by assumption) (fun _ h => h.sublist findA))) ?_ | refine WD.s rfl (Rd.ldC rfl (Sl.Can.mono (by assumption) (fun _ h => h.sublist findA))) ?_ | fail)
        · exfalso
          have := of_decide_eq_true hc
          omega
        rotate_right
        all_goals first
          | (have hB' := hturn.1 (fun he => by simp [he.1, he.2] at hc)
             rw [i64_succ (by omega)]
             exact Fin.round ⟨i + 1, s', now', cum', last⟩ ⟨hi', hs', rfl, hB', (by dsimp only; omega), (by dsimp only; omega)⟩ envA (fun _ h => (h.sublist (.cons _ (((List.Sublist.refl s'.H).append (.cons _ (.cons _ (.refl _)))).trans (List.sublist_append_right t.H _)))).perm List.perm_append_comm) (by dsimp only; omega))
          | (exfalso
             have h1 : q.o.kind = 1 := by simpa using ‹(q.o.kind == 1) = true›
             have h4 : q.o.kind = 4 := by simpa using ‹(q.o.kind != 4) = false›
             omega)
          | skip
      have h4 : q.o.kind = 4 := by simpa using ‹(q.o.kind != 4) = false›
      have h5 : d.is_ = true := by simpa using hc
      obtain ⟨k, hak, hB', hS⟩ := hturn.2 h4 h5
      have hk4 := hS.k4
      have hlen := hS.len
      obtain ⟨hp1, hp2⟩ := Snd.path_out (s := s'.S) (k := k) (by omega)
      obtain ⟨hq1, hq2⟩ := Snd.path_out (s := s.S) (k := k) (by omega)
      have htn := ht.o.len
      have htl : t.o.ds.length = d.l.length := by have := congrArg List.length ht.l; simpa [OuM.L] using this
      have hfew := hS.few
      rw [hak]
      refine WL.e rfl (Ef.callR (c := s'.H) (by exact rfl) (.last (L := s'.H) (.there (.right .here))) (spath_tr _ s' hs' k)) ?_
      rintro _ _ ⟨rfl, rfl⟩
      unfold pathV
      dsimp only [tup]
      rw [hp1, hp2]
      repeat' (first | refine S2b ?_ | refine SD ?_ | refine SA (fun _ => ?_) | refine WL.g_split rfl rfl (fun hc => ?_) (fun hc => ?_) | refine WD.g_split rfl rfl (fun hc => ?_) (fun hc => ?_) | refine W.cond rfl (fun hc => ?_) (fun hc => ?_) | refine WL.s rfl (Rd.ldC rfl (Sl.Can.mono (by assumption) (fun _ h => h.sublist findA))) ?_ | refine WD.s rfl (Rd.ldC rfl (Sl.Can.mono (by assumption) (fun _ h => h.sublist findA))) ?_ | fail)
      refine W.loop (G := GSc) (fun g => [(3, .slice (some ⟨sb, so, none⟩) kn kc), (9, ptr b9), (10, ptr s'.R), (12, .int .i64 now'), (13, .int .u32 cum'), (14, .int .u32 g.last), (15, .int .i64 i), (16, ptr b16), (17, ptr b17), (19, .int .i64 s.S.room), (20, .int .i64 (lawAway s.S 4)), (21, ptr b21), (22, .int .i64 (Flt.out s'.S.f k)), (23, .int .i64 (Snd.sizeW s'.S k)), (26, .int .i64 g.size), (27, .int .i64 g.nb), (28, .int .i64 g.j)])
        (fun _ => _)
        (fun g => g.j ≤ t.o.sn ∧ g.size = 12 + Snd.needS (d.l.take g.j) ∧ (d.l.take g.j).foldl Snd.scan1 (last, 0) = (g.last, g.nb) ∧ 0 ≤ g.nb ∧ g.nb ≤ 1500 * g.j) (fun g => t.o.sn - g.j) ⟨0, 12, 0, last⟩ ⟨Nat.zero_le _, rfl, rfl, Int.le_refl _, Int.le_refl _⟩ envA (fun _ h => h) ?_
      rintro ⟨j, size, nb, last'⟩ ⟨hj, hsz, hsc, hnb0, hnb1⟩
      dsimp only at hj hsz hsc hnb0 hnb1 ⊢
      have hsS := hS.size
      have hntk := needS_take d.l j
      have hmtu : (plainC p).mtu = 128 := rfl
      repeat' (first | refine S2b ?_ | refine SD ?_ | refine SA (fun _ => ?_) | refine WL.g_split rfl rfl (fun hc => ?_) (fun hc => ?_) | refine WD.g_split rfl rfl (fun hc => ?_) (fun hc => ?_) | refine W.cond rfl (fun hc => ?_) (fun hc => ?_) | refine WL.s rfl (Rd.ldC rfl (Sl.Can.mono (by assumption) (fun _ h => h.sublist findA))) ?_ | refine WD.s rfl (Rd.ldC rfl (Sl.Can.mono (by assumption) (fun _ h => h.sublist findA))) ?_ | fail)
      · have hj' : j < t.o.sn := by have := of_decide_eq_true hc; omega
        obtain ⟨m, hm⟩ : ∃ m, t.o.ds[j]? = some m := ⟨t.o.ds[j]'(by omega), List.getElem?_eq_getElem _⟩
        have hdm : d.l[j]? = some m.d := by rw [← ht.l]; unfold OuM.L; rw [List.getElem?_map, hm]; rfl
        obtain ⟨sb2, so2, hta, hcan2⟩ := (Lst.own (F := F) ht.o.row (fun _ h => h)).el DM.len hm (by omega)
        have hmo := ht.o.own m (List.mem_of_getElem? hm)
        have hml := hS.small m.d (List.mem_of_getElem? hdm)
        have hbn : m.bn = m.d.bs.length := by have := OwnS.len hmo; simp at this; omega
        have hja : 0 ≤ (j : Int) ∧ (j : Int) < t.o.sn := by omega
        have hcan3 : Sl.Can F t.H sb2 (so2 + (j : Int).toNat * 7) m.cells := hcan2.mono (fun _ h => h.sublist (by unfold ToM.H; exact List.sublist_append_left _ _))
        unfold DM.cells at hcan3
        have hc6 := hcan3.sub 6 1
        have hc0 := hcan3.sub 0 1
        have htk : d.l.take (j + 1) = d.l.take j ++ [m.d] := by rw [List.take_add_one, hdm]; rfl
        have hstep : (d.l.take (j + 1)).foldl Snd.scan1 (last, 0) = if Snd.beyond m.d last' then (m.d.tsn, nb + m.d.bs.length) else (last', nb) := by
          rw [htk, List.foldl_append, hsc]
          rfl
        have hE : IntKind.i64.wrap (IntKind.i64.wrap (size + 16) + IntKind.i64.wrap (IntKind.i64.wrap ((IntKind.i64.wrap ((m.bn : Int) + 3)).tdiv 4) * 4)) = 12 + Snd.needS (d.l.take (j + 1)) := by
          rw [htk, needS_app, show Snd.needS [m.d] = 16 + ((m.d.bs.length : Int) + 3) / 4 * 4 from rfl, hbn]
          rw [i64_id (n := (m.d.bs.length : Int) + 3) (by omega) (by omega), Int.tdiv_eq_ediv_of_nonneg (by omega), i64_id (n := ((m.d.bs.length : Int) + 3) / 4) (by omega) (by omega), i64_id (n := ((m.d.bs.length : Int) + 3) / 4 * 4) (by omega) (by omega), i64_id (n := size + 16) (by omega) (by omega), i64_id (n := size + 16 + ((m.d.bs.length : Int) + 3) / 4 * 4) (by omega) (by omega)]
          omega
        have hwr : IntKind.u32.wrap (m.d.tsn - last') = Spn.u32 (m.d.tsn - last') := rfl
        rw [hta]
        repeat' (first | refine S2b ?_ | refine SD ?_ | refine SA (fun _ => ?_) | refine WL.g_split rfl rfl (fun hc => ?_) (fun hc => ?_) | refine WD.g_split rfl rfl (fun hc => ?_) (fun hc => ?_) | refine W.cond rfl (fun hc => ?_) (fun hc => ?_) | refine WL.s rfl (Rd.ldC rfl (Sl.Can.mono (by assumption) (fun _ h => h.sublist findA))) ?_ | refine WD.s rfl (Rd.ldC rfl (Sl.Can.mono (by assumption) (fun _ h => h.sublist findA))) ?_ | fail)
        · rename_i hge
          have hb : Snd.beyond m.d last' = true := decide_eq_true ⟨by have := of_decide_eq_true hge; rw [hwr] at this; omega, by have := of_decide_eq_true hc; rw [hwr] at this; omega⟩
          rw [hb, if_pos rfl] at hstep
          rw [i64_succ (by omega), hE, i64_id (n := nb + m.bn) (by omega) (by omega), hbn]
          exact Fin.round ⟨j + 1, _, _, _⟩ ⟨hj', rfl, hstep, (by dsimp only; omega), (by dsimp only; push_cast; omega)⟩ envA (fun _ h => h) (by dsimp only; omega)
        · have hb : Snd.beyond m.d last' = false := decide_eq_false (fun he => by have := of_decide_eq_false hc; rw [hwr] at this; omega)
          rw [hb, if_neg (by decide)] at hstep
          rw [i64_succ (by omega), hE]
          exact Fin.round ⟨j + 1, _, _, _⟩ ⟨hj', rfl, hstep, hnb0, (by dsimp only; push_cast; omega)⟩ envA (fun _ h => h) (by dsimp only; omega)
        · have hb : Snd.beyond m.d last' = false := decide_eq_false (fun he => by have := of_decide_eq_false hc; rw [hwr] at this; omega)
          rw [hb, if_neg (by decide)] at hstep
          rw [i64_succ (by omega), hE]
          exact Fin.round ⟨j + 1, _, _, _⟩ ⟨hj', rfl, hstep, hnb0, (by dsimp only; push_cast; omega)⟩ envA (fun _ h => h) (by dsimp only; omega)
      · exfalso
        have h1 := of_decide_eq_true hc
        have h2 : j = d.l.length := by have := of_decide_eq_false ‹decide ((j : Int) < t.o.sn) = false›; omega
        rw [h2, List.take_length] at hsz
        omega
      · exfalso
        have h1 : t.o.sn = 0 := by have : (t.o.sn : Int) = 0 := by simpa using hc
                                   omega
        exact hS.ne (List.length_eq_zero_iff.1 (by omega))
      have hka4 : 0 ≤ (k : Int) ∧ (k : Int) < (4 : Nat) := by omega
      have hge1 : ¬ pathO s.S k ≥ pathZ s.S k := by
        unfold pathO pathZ
        rw [hq1, hq2]
        have := hS.may
        omega
      have hge2 := hS.may'
      have hj' : j = d.l.length := by have := of_decide_eq_false ‹decide ((j : Int) < t.o.sn) = false›; omega
      have hsc' : Snd.scan last d.l = (last', nb) := by unfold Snd.scan; rw [← hsc, hj', List.take_length]
      have hroom := hS.room
      rw [hsc'] at hroom hB'
      dsimp only at hroom hB'
      have hsz2 := sizeW_rng hs'.pl k
      have hlz := fun h => lawAway_zero (s := s.S) h 4
      obtain rfl | rfl | rfl | rfl : k = 0 ∨ k = 1 ∨ k = 2 ∨ k = 3 := by omega
      all_goals
        refine WD.p rfl (Pu.iaA rfl rfl hka4) ?_
        repeat' (first | refine S2b ?_ | refine SD ?_ | refine SA (fun _ => ?_) | refine WL.g_split rfl rfl (fun hc => ?_) (fun hc => ?_) | refine WD.g_split rfl rfl (fun hc => ?_) (fun hc => ?_) | refine W.cond rfl (fun hc => ?_) (fun hc => ?_) | refine WL.s rfl (Rd.ldC rfl (Sl.Can.mono (by assumption) (fun _ h => h.sublist findA))) ?_ | refine WD.s rfl (Rd.ldC rfl (Sl.Can.mono (by assumption) (fun _ h => h.sublist findA))) ?_ | fail)
        refine WD.p rfl (Pu.iaA rfl rfl hka4) ?_
        repeat' (first | refine S2b ?_ | refine SD ?_ | refine SA (fun _ => ?_) | refine WL.g_split rfl rfl (fun hc => ?_) (fun hc => ?_) | refine WD.g_split rfl rfl (fun hc => ?_) (fun hc => ?_) | refine W.cond rfl (fun hc => ?_) (fun hc => ?_) | refine WL.s rfl (Rd.ldC rfl (Sl.Can.mono (by assumption) (fun _ h => h.sublist findA))) ?_ | refine WD.s rfl (Rd.ldC rfl (Sl.Can.mono (by assumption) (fun _ h => h.sublist findA))) ?_ | fail)
      all_goals first
        | exact absurd (of_decide_eq_true hc) hge1
        | (exfalso
           have h1 := of_decide_eq_true hc
           rw [hmtu, i64_id (by omega) (by omega)] at h1
           omega)
        | (exfalso
           have h1 := hroom (of_decide_eq_true ‹decide (nb > s.S.room) = true›)
           have h2 := hlz h1.1
           have h3 := of_decide_eq_true hc
           omega)
        | (exfalso
           have h1 := hroom (of_decide_eq_true ‹decide (nb > s.S.room) = true›)
           have h3 : ¬ (t.o.sn : Int) = 1 := by simpa using hc
           omega)
        | (rw [i64_succ (by omega)]
           exact Fin.round ⟨i + 1, s', now', cum', last'⟩ ⟨hi', hs', rfl, hB', (by dsimp only; omega), (by dsimp only; omega)⟩ envA (fun _ h => (h.sublist (.cons _ (((List.Sublist.refl s'.H).append (.cons _ (.cons _ (.refl _)))).trans (List.sublist_append_right t.H _)))).perm List.perm_append_comm) (by dsimp only; omega))
        | skip
  · refine WL.e rfl (Ef.callR (by exact rfl) (.nil _) (works_tr _)) ?_
    rintro _ _ ⟨rfl, rfl⟩
    repeat' (first | refine S2b ?_ | refine SD ?_ | refine SA (fun _ => ?_) | refine WL.g_split rfl rfl (fun hc => ?_) (fun hc => ?_) | refine WD.g_split rfl rfl (fun hc => ?_) (fun hc => ?_) | refine W.cond rfl (fun hc => ?_) (fun hc => ?_) | refine WL.s rfl (Rd.ldC rfl (Sl.Can.mono (by assumption) (fun _ h => h.sublist findA))) ?_ | refine WD.s rfl (Rd.ldC rfl (Sl.Can.mono (by assumption) (fun _ h => h.sublist findA))) ?_ | fail)
    exact Fin.retW (by exact rfl) resA (H' := []) (fun _ h => h.sublist (List.nil_sublist _)) ⟨rfl, rfl⟩
end Go.Proofs.YtjbinhihkfidoaaGreat
