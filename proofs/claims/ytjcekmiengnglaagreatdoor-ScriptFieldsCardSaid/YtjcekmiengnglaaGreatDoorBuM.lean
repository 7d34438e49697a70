/- Some texts as one. What the logic's rules ask of this translation lies in Ty. No conditions. The document's line of a config, idle lines, how much a statement plays, and texts laid out of events, walked. Conditions: the events lie in memory; lengths within bounds. The arguments of chapter 28's laws: events and configs, as they lie in memory. No conditions. Events copied, how many words a kind's line has, and other words, walked. Conditions: what is read lies in memory; lengths within bounds. -/
import Derived.Test.YtjcekmiengnglaaGreatDoorTy
import Derived.Test.YtjcekmiengnglaaGreatDoorStX
import Derived.Test.YtjcekmiengnglaaGreatDoorStQ
import Derived.Test.YtjcekmiengnglaaGreatDoorBuJ
import Derived.Test.YtjcekmiengnglaaGreatDoorBuI
import Derived.Test.YtjcekmiengnglaaGreatDoorStI

namespace Go.Proofs.YtjcekmiengnglaaGreatDoor
open Go Go.Sl Go.Scr

/-- events in memory, one behind the other -/
structure EvL (F : Nat → Option Obj) (l : List Evx) (a : Option Addr) (n k : Nat) : Prop where
  lst : Lst F [] 9 (l.flatMap Evx.cells) a n k
  is : ∀ x ∈ l, x.e.Ok ∧ Lst F [] 1 (x.e.bytes.map B) x.ba x.bn x.bc
theorem EvL.n {F : Nat → Option Obj} {l : List Evx} {a : Option Addr} {n k : Nat} (h : EvL F l a n k) : n = l.length := by
  have := h.lst.len
  rw [flat_len' Evx.cells 9 (fun _ => rfl)] at this
  omega
theorem EvL.mono {F F' : Nat → Option Obj} {l : List Evx} {a : Option Addr} {n k : Nat} (h : EvL F l a n k) (hw : ∀ w, In F' [] w → In F [] w) : EvL F' l a n k := ⟨h.lst.mono hw, fun x hx => ⟨(h.is x hx).1, (h.is x hx).2.mono hw⟩⟩
/-- one of events in memory, field by field -/
theorem EvL.at {F : Nat → Option Obj} {H : HL} {l : List Evx} {a : Option Addr} {n k i : Nat} {x : Evx} (h : EvL F l a n k) (hx : l[i]? = some x) : ∃ b o, a = some ⟨b, o, none⟩ ∧ Sl.Can F H b (o + (i : Int).toNat * 9) x.cells := by
  have hlt := (List.getElem?_eq_some_iff.1 hx).1
  have hn := h.n
  obtain ⟨b, o, rfl, hcan⟩ := h.lst.can (by omega)
  have hat := flat_at Evx.cells 9 (fun _ => rfl) l i x hx
  have hsub := hcan.sub (i * 9) 9
  rw [hat] at hsub
  exact ⟨b, o, rfl, by simpa using hsub.mono (fun w h => h.sublist (List.nil_sublist _))⟩
def sizes (l : List Evx) : Nat := (l.map (fun x => x.e.bytes.length)).sum
theorem sizes_mem {l : List Evx} {x : Evx} (h : x ∈ l) : x.e.bytes.length ≤ sizes l := by
  unfold sizes
  induction l with
  | nil => cases h
  | cons y l ih =>
    simp only [List.map_cons, List.sum_cons]
    rcases List.mem_cons.1 h with rfl | h
    · omega
    · have := ih h; omega
theorem EvL.ev {F : Nat → Option Obj} {l : List Evx} {a : Option Addr} {n k : Nat} (h : EvL F l a n k) (hs : sizes l ≤ 32768) : ∀ x ∈ l, x.Is F := fun x hx => ⟨(h.is x hx).1, (h.is x hx).2, by have := sizes_mem hx; omega⟩
end Go.Proofs.YtjcekmiengnglaaGreatDoor
namespace Go.Proofs.YtjcekmiengnglaaGreatDoor
open Go Go.Sl Go.Scr

def evSh : Sh := .struct [.int .u8, .int .u8, .bool, .bool, .int .u16, .int .i64, .int .i64, .int .i64, .slice (.int .u8)]
theorem ev_dec {w : World} (x : List Value) (h : evSh.rep w x) : ∃ p : Evx, x = p.cells ∧ p.e.Ok ∧ Lst (heapF w) [] 1 (p.e.bytes.map B) p.ba p.bn p.bc := by
  simp only [evSh, Sh.rep, Sh.repAll] at h
  obtain ⟨_, _, rfl, _, ⟨kind, rfl, k1, k2⟩, _, _, rfl, _, ⟨fin, rfl, f1, f2⟩, _, _, rfl, _, ⟨act, rfl⟩, _, _, rfl, _, ⟨ord, rfl⟩, _, _, rfl, _, ⟨str, rfl, s1, s2⟩, _, _, rfl, _, ⟨path, rfl, p1, p2⟩, _, _, rfl, _, ⟨n, rfl, n1, n2⟩, _, _, rfl, _, ⟨life, rfl, l1, l2⟩, _, _, rfl, _, ⟨ba, bn, bc, rfl, hba⟩, rfl⟩ := h
  obtain ⟨bs, hbl, hbs, _⟩ := Sh.bytes (w := w) (sa := ba) (n := bn) (c := bc) (by simp only [Sh.rep]; exact ⟨_, _, _, rfl, hba⟩)
  have e1 := rgU8 k1 k2
  have e2 := rgU8 f1 f2
  have e3 := rgU16 s1 s2
  have e4 := rgI64 p1 p2
  have e5 := rgI64 n1 n2
  have e6 := rgI64 l1 l2
  exact ⟨⟨⟨kind, fin, act, ord, str, path, n, life, bs⟩, ba, bn, bc⟩, rfl, ⟨e1, e2, e3, ⟨e4.1, by dsimp only; omega⟩, ⟨e5.1, by dsimp only; omega⟩, ⟨e6.1, by dsimp only; omega⟩⟩, hbs⟩
theorem ev_of {w : World} {v : Value} {cs : List Value} (hv : evSh.val v cs) (h : evSh.rep w cs) : ∃ p : Evx, v = .agg p.cells.toArray ∧ p.e.Ok ∧ Lst (heapF w) [] 1 (p.e.bytes.map B) p.ba p.bn p.bc := by
  obtain ⟨p, rfl, hp⟩ := ev_dec cs h
  exact ⟨p, hv, hp⟩
end Go.Proofs.YtjcekmiengnglaaGreatDoor
namespace Go.Proofs.YtjcekmiengnglaaGreatDoor
open Go Go.Sl Go.Scr

structure CbG where
  i : Nat
  xs : List Value
  hb : HL
set_option maxHeartbeats 8000000 in
theorem cpb_tr (F : Nat → Option Obj) (bs : Str) (ba : Option Addr) (bn bc : Nat) (hb : Lst F [] 1 (bs.map B) ba bn bc) (hl : bs.length ≤ 100000000000) :
    Tr Tryz.prog 37 [.slice ba bn bc].toArray F [] (fun v H' => ∃ sa sn sc, v = .slice sa sn sc ∧ OwnS 5 1 (bs.map B) (.slice sa sn sc) H') := by
  refine Tr.enter Tryz.func37 rfl Tryz.ntmps37 rfl (fun w0 => ?_)
  have hbn : bn = bs.length := by have := hb.len; simp at this; omega
  repeat' (first | refine S2b ?_ | refine S3 ?_ | refine SA (fun _ => ?_) | refine G1 (fun hc => ?_) (fun hc => ?_) | refine G2 (fun hc => ?_) (fun hc => ?_) | refine G3 (fun hc => ?_) (fun hc => ?_) | refine SL ?_ | fail)
  · have h0 : bs = [] := List.eq_nil_of_length_eq_zero (by simp at hc; omega)
    subst h0
    exact Fin.retW (by exact rfl) resA (H' := []) (fun _ h => h) ⟨none, 0, 0, rfl, .inl ⟨rfl, rfl, rfl⟩⟩
  have hpos : 0 < bn := by simp at hc; omega
  clear hc
  refine WL.e rfl (Ef.mkS (n := bn) (z := [.int .u8 0]) rfl rfl rfl rfl (by omega) (by omega)) ?_
  rintro _ _ ⟨g, rfl, rfl⟩
  have hml := length_mkCells [.int .u8 0] bn
  simp only [List.length_cons, List.length_nil] at hml
  have hown0 : OwnS 5 1 (mkCells [.int .u8 0] bn) (.slice (some ⟨g, 0, none⟩) bn bn) [(g, .cells (mkCells [.int .u8 0] bn).toArray 5 (0, 0))] :=
    .inr ⟨g, bn, bn, [], [], [], rfl, by simp, by omega, Nat.le_refl _, by simp, by simp [maxLen]; omega⟩
  repeat' (first | refine S2b ?_ | refine S3 ?_ | refine SA (fun _ => ?_) | refine G1 (fun hc => ?_) (fun hc => ?_) | refine G2 (fun hc => ?_) (fun hc => ?_) | refine G3 (fun hc => ?_) (fun hc => ?_) | refine SL ?_ | fail)
  refine W.loop (G := CbG) (fun q => [(0, .slice ba bn bc), (3, .slice (some ⟨g, 0, none⟩) bn bn), (4, .int .i64 q.i)]) (fun q => q.hb)
    (fun q => q.i ≤ bn ∧ q.xs.length = bn ∧ q.xs.take q.i = (bs.take q.i).map B ∧ OwnS 5 1 q.xs (.slice (some ⟨g, 0, none⟩) bn bn) q.hb) (fun q => bn - q.i) ⟨0, _, _⟩ ⟨Nat.zero_le _, by rw [hml]; omega, rfl, hown0⟩ envA (fun _ h => h) ?_
  rintro ⟨i, xs, ho⟩ ⟨hi, hxl, hxt, hown⟩
  dsimp only at hi hxl hxt hown ⊢
  repeat' (first | refine S2b ?_ | refine S3 ?_ | refine SA (fun _ => ?_) | refine G1 (fun hc => ?_) (fun hc => ?_) | refine G2 (fun hc => ?_) (fun hc => ?_) | refine G3 (fun hc => ?_) (fun hc => ?_) | refine SL ?_ | fail)
  · have hi' : i < bn := by simp at hc; omega
    clear hc
    obtain ⟨c, hcx⟩ : ∃ c, bs[i]? = some c := ⟨bs[i]'(by omega), by simp⟩
    obtain ⟨b2, o2, rfl, hcan⟩ := hb.can (by omega)
    have hia : 0 ≤ (i : Int) ∧ (i : Int) < bn := by omega
    have hC : Sl.Can F ho b2 (o2 + (i : Int).toNat * 1) [B c] := by
      have := hcan.one (i := i) (v := B c) (by rw [List.getElem?_map, hcx]; rfl)
      simpa using this.mono (fun w h => h.sublist (List.nil_sublist _))
    obtain ⟨ho', hx', hput⟩ := hown.put i [B c] (by rw [hxl]; simp; omega)
    unfold B at hC
    repeat' (first | refine S2b ?_ | refine S3 ?_ | refine SA (fun _ => ?_) | refine G1 (fun hc => ?_) (fun hc => ?_) | refine G2 (fun hc => ?_) (fun hc => ?_) | refine G3 (fun hc => ?_) (fun hc => ?_) | refine SL ?_ | fail)
    refine WL.e0 (Ef.st rfl rfl rfl (by simpa [B] using hput)) ?_
    rintro _ h2 ⟨rfl, rfl⟩
    repeat' (first | refine S2b ?_ | refine S3 ?_ | refine SA (fun _ => ?_) | refine G1 (fun hc => ?_) (fun hc => ?_) | refine G2 (fun hc => ?_) (fun hc => ?_) | refine G3 (fun hc => ?_) (fun hc => ?_) | refine SL ?_ | fail)
    rw [i64_succ (by omega)]
    refine Fin.round ⟨i + 1, _, h2⟩ ⟨hi', ?_, ?_, hx'⟩ envA (fun _ h => h) (by dsimp only; omega)
    · simp only [List.length_append, List.length_take, List.length_drop, List.length_cons, List.length_nil]
      omega
    · dsimp only
      rw [List.take_add_one (l := bs), hcx, List.map_append, ← hxt]
      rw [List.take_append_of_le_length (by simp only [List.length_append, List.length_take, List.length_cons, List.length_nil]; omega), List.take_of_length_le (by simp only [List.length_append, List.length_take, List.length_cons, List.length_nil]; omega)]
      rfl
  · have hi' : i = bn := by simp at hc; omega
    rw [hi', List.take_of_length_le (by omega), List.take_of_length_le (by omega)] at hxt
    rw [hxt] at hown
    exact Fin.retW (by exact rfl) resA (H' := ho) (fun _ h => h) ⟨_, _, _, rfl, hown⟩
set_option maxHeartbeats 8000000 in
theorem copyE_tr (F : Nat → Option Obj) (x : Evx) (hx : x.Is F) (hlb : x.e.bytes.length ≤ 100000000000) :
    Tr Tryz.prog 16 [.agg x.cells.toArray].toArray F [] (fun v H' => ∃ y : Evx, v = .agg y.cells.toArray ∧ y.e = x.e ∧ OwnS 5 1 (y.e.bytes.map B) (.slice y.ba y.bn y.bc) H') := by
  refine Tr.enter Tryz.func16 rfl Tryz.ntmps16 rfl (fun w0 => ?_)
  obtain ⟨⟨kind, fin, act, ord, str, path, n, life, bytes⟩, ba, bn, bc⟩ := x
  have hby := hx.bytes
  dsimp only at hby hlb
  unfold Evx.cells
  dsimp only
  repeat' (first | refine S2b ?_ | refine S3 ?_ | refine SA (fun _ => ?_) | refine G1 (fun hc => ?_) (fun hc => ?_) | refine G2 (fun hc => ?_) (fun hc => ?_) | refine G3 (fun hc => ?_) (fun hc => ?_) | refine SL ?_ | fail)
  rename_i b1 b2
  refine WL.e rfl (Ef.callW (c := []) (by exact rfl) (Sub.nil _) (fun F' hF => cpb_tr F' bytes ba bn bc (hby.mono (fun w h => (hF w h).sublist (List.nil_sublist _))) hlb)) ?_
  rintro _ _ ⟨hb, ⟨sa, sn, sc, rfl, hown⟩, rfl⟩
  repeat' (first | refine S2b ?_ | refine S3 ?_ | refine SA (fun _ => ?_) | refine G1 (fun hc => ?_) (fun hc => ?_) | refine G2 (fun hc => ?_) (fun hc => ?_) | refine G3 (fun hc => ?_) (fun hc => ?_) | refine SL ?_ | fail)
  exact Fin.retW (by exact rfl) resA (H' := hb) (fun _ h => h.sublist (List.sublist_append_left _ _)) ⟨⟨⟨kind, fin, act, ord, str, path, n, life, bytes⟩, sa, sn, sc⟩, rfl, rfl, hown⟩
theorem lfields_tr (F : Nat → Option Obj) (k : Int) (h1 : 1 ≤ k) (h2 : k ≤ 11) : Tr Tryz.prog 19 [.int .u8 k].toArray F [] (fun v H' => v = .int .i64 (fds k).length ∧ H' = []) := by
  refine Tr.enter Tryz.func19 rfl Tryz.ntmps19 rfl (fun w0 => ?_)
  rcases kind_cases h1 h2 with e | e | e | e | e | e | e | e | e | e | e <;> subst e
  all_goals
    repeat' (first | refine S2b ?_ | refine S3 ?_ | refine SA (fun _ => ?_) | refine G1 (fun hc => ?_) (fun hc => ?_) | refine G2 (fun hc => ?_) (fun hc => ?_) | refine G3 (fun hc => ?_) (fun hc => ?_) | refine SL ?_ | fail)
  all_goals exact Fin.retW (by exact rfl) resA (fun _ h => h) ⟨rfl, rfl⟩
def noF : List Str := [[121, 101, 115], [110, 111]]
theorem num_yes (n : Int) : num n ≠ [121, 101, 115] ∧ num n ≠ [110, 111] ∧ num n ≠ [45] := by
  refine ⟨fun h => ?_, fun h => ?_, fun h => ?_⟩
  · have := num_mem (n := n) (x := 121) (by rw [h]; simp); revert this; decide
  · have := num_mem (n := n) (x := 110) (by rw [h]; simp); revert this; decide
  · unfold num at h
    split at h
    · exact digs_ne _ (List.cons.inj h).2
    · have := dg_mem (n := n.natAbs) (x := 45) (by rw [h]; simp)
      revert this; decide
theorem num0 : num 0 = [48] := by
  unfold num
  rw [if_neg (by decide), show (0 : Int).natAbs = 0 from rfl, digs_lt (by decide)]
  rfl
theorem num1 : num 1 = [49] := by
  unfold num
  rw [if_neg (by decide), show (1 : Int).natAbs = 1 from rfl, digs_lt (by decide)]
  rfl
theorem num_zero (n : Int) : (num n = [48]) ↔ n = 0 := by
  constructor
  · intro h; exact num_inj (by rw [h, num0])
  · intro h; subst h; exact num0
theorem oct_yes (b : Str) : oct b ≠ [121, 101, 115] ∧ oct b ≠ [110, 111] := by
  refine ⟨fun h => ?_, fun h => ?_⟩
  · have := oct_mem (b := b) (x := 121) (by rw [h]; simp); revert this; decide
  · have := oct_mem (b := b) (x := 110) (by rw [h]; simp); revert this; decide
theorem oct_minus (b : Str) : (oct b = [45]) ↔ b = [] := by
  constructor
  · intro h; exact oct_inj (by rw [h]; decide)
  · intro h; subst h; decide
/-- the place of a word is one of bytes -/
def octAt (k i : Int) : Bool := (k == 2 && i == 5) || (k == 11 && i == 3)
theorem octAt_ft {k : Int} (h1 : 1 ≤ k) (h2 : k ≤ 11) {i : Nat} {f : Scr.Fd} (hf : (fds k)[i]? = some f) : octAt k ((i + 1 : Nat) : Int) = decide (f = .bytes) := by
  have hi : i < 5 := by
    have := (List.getElem?_eq_some_iff.1 hf).1
    have := fds_len5 k
    omega
  have key : ∀ k : Fin 12, ∀ i : Fin 5, ∀ f ∈ (fds (k.val : Int))[i.val]?, octAt (k.val : Int) ((i.val + 1 : Nat) : Int) = decide (f = .bytes) := by decide +kernel
  have := key ⟨k.toNat, by omega⟩ ⟨i, hi⟩ f
  dsimp only at this
  rw [show ((k.toNat : Nat) : Int) = k by omega] at this
  exact this (by rw [hf]; rfl)
def otherZ (oc : Bool) (w : Str) : Str := if w = [121, 101, 115] then [110, 111] else if w = [110, 111] then [121, 101, 115] else if oc = true ∧ w = [45] then [48, 48] else if oc = true then [45] else if w = [48] then [49] else [48]
theorem other_nought {k : Int} (h1 : 1 ≤ k) (h2 : k ≤ 11) {i : Nat} {f : Scr.Fd} (hf : (fds k)[i]? = some f) {v : FV} (hv : Scr.fits f.ft v) : otherZ (octAt k ((i + 1 : Nat) : Int)) (wd v) = wd (nought v) := by
  rw [octAt_ft h1 h2 hf]
  cases v with
  | n x =>
    have hne : f ≠ .bytes := fun e => by subst e; exact hv
    obtain ⟨n1, n2, n3⟩ := num_yes x
    unfold otherZ
    simp only [wd, n1, n2, n3, hne, nought, decide_false, Bool.false_eq_true, false_and, if_false, num_zero]
    split
    · exact num1.symm
    · exact num0.symm
  | b x =>
    have hne : f ≠ .bytes := fun e => by subst e; exact hv
    rw [decide_eq_false hne]
    cases x <;> decide
  | o x =>
    have he : f = .bytes := by cases f <;> simp only [Scr.Fd.ft, Scr.fits] at hv <;> rfl
    obtain ⟨n1, n2⟩ := oct_yes x
    unfold otherZ
    simp only [wd, n1, n2, he, nought, decide_true, true_and, if_true, if_false, oct_minus]
    split <;> decide
set_option maxHeartbeats 8000000 in
theorem other_tr (F : Nat → Option Obj) (k : Int) (i : Nat) (hi : i ≤ 1000) (w : Str) : Tr Tryz.prog 20 [.int .u8 k, .int .i64 i, S w].toArray F [] (fun v H' => v = S (otherZ (octAt k i) w) ∧ H' = []) := by
  refine Tr.enter Tryz.func20 rfl Tryz.ntmps20 rfl (fun w0 => ?_)
  unfold S
  have q1 : ∀ (a : Str) (b : ByteArray), b = strB a → ((strB w).toList == b.toList) = decide (w = a) := fun a b hb => by rw [hb, eqS_bool]
  have e1 := q1 [121, 101, 115] ⟨#[121, 101, 115]⟩ rfl
  have e2 := q1 [110, 111] ⟨#[110, 111]⟩ rfl
  have e3 := q1 [45] ⟨#[45]⟩ rfl
  have e4 := q1 [48] ⟨#[48]⟩ rfl
  clear q1
  repeat' (first | refine S2b ?_ | refine S3 ?_ | refine SA (fun _ => ?_) | refine G1 (fun hc => ?_) (fun hc => ?_) | refine G2 (fun hc => ?_) (fun hc => ?_) | refine G3 (fun hc => ?_) (fun hc => ?_) | refine SL ?_ | fail)
  all_goals
    refine Fin.retW (by exact rfl) resA (H' := []) (fun _ h => h) ⟨?_, rfl⟩
    rename_i e5
    first
      | exact congrArg (fun s => Value.string (strB s)) (show [110, 111] = otherZ _ _ by unfold otherZ octAt; simp_all)
      | exact congrArg (fun s => Value.string (strB s)) (show [121, 101, 115] = otherZ _ _ by unfold otherZ octAt; simp_all)
      | exact congrArg (fun s => Value.string (strB s)) (show [48, 48] = otherZ _ _ by unfold otherZ octAt; simp_all)
      | exact congrArg (fun s => Value.string (strB s)) (show [45] = otherZ _ _ by unfold otherZ octAt; simp_all)
      | exact congrArg (fun s => Value.string (strB s)) (show [49] = otherZ _ _ by unfold otherZ octAt; simp_all)
      | exact congrArg (fun s => Value.string (strB s)) (show [48] = otherZ _ _ by unfold otherZ octAt; simp_all)
end Go.Proofs.YtjcekmiengnglaaGreatDoor
