/- The document's word of bytes, and the lines of an answer, the script's and the document's, walked. Conditions: what is read lies in memory; lengths within bounds. -/
import Derived.Test.YtjcekmiengnglaaGreatDoorStR
import Derived.Test.YtjcekmiengnglaaGreatDoorStE
namespace Go.Proofs.YtjcekmiengnglaaGreatDoor
open Go Go.Sl Go.Scr

structure OcG where
  i : Nat
  sa : Option Addr
  sn : Nat
  sc : Nat
  hb : HL
set_option maxHeartbeats 8000000 in
theorem octets_tr (F : Nat → Option Obj) (H : HL) (bs : Str) (ba : Option Addr) (bn bc : Nat) (hl : Lst F H 1 (bs.map B) ba bn bc) (hb : bs.length ≤ 100000000000) :
    Tr Tryz.prog 57 [.slice ba bn bc].toArray F H (fun v H' => v = S (oct bs) ∧ H' = H) := by
  refine Tr.enter Tryz.func57 rfl Tryz.ntmps57 rfl (fun w0 => ?_)
  have hbn : bn = bs.length := by have := hl.len; simp at this; omega
  have e2 : IntKind.i64.wrap (2 * (bn : Int)) = ((2 * bn : Nat) : Int) := by rw [i64_id (by omega) (by omega)]; omega
  have hxl := hexs_len bs
  repeat' (first | refine S2b ?_ | refine S3 ?_ | refine SA (fun _ => ?_) | refine G1 (fun hc => ?_) (fun hc => ?_) | refine G2 (fun hc => ?_) (fun hc => ?_) | refine G3 (fun hc => ?_) (fun hc => ?_) | refine SL ?_ | fail)
  rename_i b0
  refine W.loop (G := OcG) (fun g => [(0, .slice ba bn bc), (3, .string (strB signs)), (4, .slice g.sa g.sn g.sc), (5, .int .i64 g.i)]) (fun g => g.hb ++ H)
    (fun g => g.i ≤ 2 * bn ∧ OwnS 5 1 (((hexs bs).take g.i).map B) (.slice g.sa g.sn g.sc) g.hb) (fun g => 2 * bn - g.i) ⟨0, some ⟨b0, 0, none⟩, 0, 0, [(b0, .cells ([] : List Value).toArray 5 (0, 0))]⟩ ⟨Nat.zero_le _, OwnS.empty _ _ _⟩ envA (fun _ h => h) ?_
  rintro ⟨i, sa, sn, sc, hb0⟩ ⟨hi, hown⟩
  dsimp only at hi hown ⊢
  have hlt0 := hexs_len bs
  repeat' (first | refine S2b ?_ | refine S3 ?_ | refine SA (fun _ => ?_) | refine G1 (fun hc => ?_) (fun hc => ?_) | refine G2 (fun hc => ?_) (fun hc => ?_) | refine G3 (fun hc => ?_) (fun hc => ?_) | refine SL ?_ | fail)
  · rw [e2] at hc
    have hi' : i < 2 * bn := by simp at hc; omega
    obtain ⟨c, hc0⟩ : ∃ y, bs[i / 2]? = some y := ⟨bs[i / 2]'(by omega), by simp⟩
    obtain ⟨b1, o1, rfl, hcan⟩ := hl.can (by omega)
    have e3 : IntKind.i64.wrap ((i : Int).tdiv 2) = ((i / 2 : Nat) : Int) := by rw [Int.tdiv_eq_ediv_of_nonneg (by omega), i64_id (by omega) (by omega)]; omega
    have hia : 0 ≤ ((i / 2 : Nat) : Int) ∧ ((i / 2 : Nat) : Int) < bn := by omega
    have hC0 : Sl.Can F H b1 (o1 + ((i / 2 : Nat) : Int).toNat * 1) [.int .u8 c.toNat] := by
      rw [show ((i / 2 : Nat) : Int).toNat * 1 = i / 2 by omega]
      exact hcan.one (i := i / 2) (v := B c) (by rw [List.getElem?_map, hc0]; rfl)
    have hC : Sl.Can F (hb0 ++ H) b1 (o1 + ((i / 2 : Nat) : Int).toNat * 1) [.int .u8 c.toNat] := hC0.mono (fun _ h => h.right)
    clear hC0
    have hc256 := c.toNat_lt
    have hget := hexs_get hc0
    have e4 : (i : Int).tmod 2 = ((i % 2 : Nat) : Int) := by rw [Int.tmod_eq_emod_of_nonneg (by omega)]; omega
    rw [e3]
    repeat' (first | refine S2b ?_ | refine S3 ?_ | refine SA (fun _ => ?_) | refine G1 (fun hc => ?_) (fun hc => ?_) | refine G2 (fun hc => ?_) (fun hc => ?_) | refine G3 (fun hc => ?_) (fun hc => ?_) | refine SL ?_ | fail)
    · have hev : i % 2 = 0 := by rw [e4] at hc; simp at hc; omega
      rw [if_pos hev] at hget
      have e5 : IntKind.u8.wrap ((c.toNat : Int).tdiv 16) = ((c.toNat / 16 : Nat) : Int) := by rw [Int.tdiv_eq_ediv_of_nonneg (by omega), u8_id ⟨by omega, by omega⟩]; omega
      have e6 : ((c.toNat / 16 : Nat) : Int).tmod 16 = ((c.toNat / 16 : Nat) : Int) := by rw [Int.tmod_eq_emod_of_nonneg (by omega)]; omega
      rw [e5, e6]
      obtain ⟨k, hk⟩ : ∃ k, k = c.toNat / 16 := ⟨_, rfl⟩
      rw [← hk] at hget ⊢
      have hk2 : ((k : Nat) : Int).toNat = k := by omega
      refine WL.p rfl (Pu.ixStr (m := strB signs) (b := hx k) rfl rfl (by omega) (by rw [hk2]; exact signs_get (by omega))) ?_
      repeat' (first | refine S2b ?_ | refine S3 ?_ | refine SA (fun _ => ?_) | refine G1 (fun hc => ?_) (fun hc => ?_) | refine G2 (fun hc => ?_) (fun hc => ?_) | refine G3 (fun hc => ?_) (fun hc => ?_) | refine SL ?_ | fail)
      refine WL.e rfl (Ef.app (m := 1) (news := [.int .u8 (hx k).toNat]) (hb := hb0) (by exact rfl) (by exact rfl) rfl rfl hown subA (Src.own (n := 1) (.here rfl)) rfl (by simp [Value.oneCell']) (by simp; omega) (by simp [maxLen]; omega)) ?_
      rintro _ _ ⟨hb', hown', rfl⟩
      obtain ⟨sa', sn', sc', rfl, _, _⟩ := hown'.shape
      repeat' (first | refine S2b ?_ | refine S3 ?_ | refine SA (fun _ => ?_) | refine G1 (fun hc => ?_) (fun hc => ?_) | refine G2 (fun hc => ?_) (fun hc => ?_) | refine G3 (fun hc => ?_) (fun hc => ?_) | refine SL ?_ | fail)
      rw [i64_succ (by omega)]
      refine Fin.round ⟨i + 1, sa', sn', sc', hb'⟩ ⟨by dsimp only; omega, ?_⟩ envA (fun _ h => h.sublist (by simp)) (by dsimp only; omega)
      dsimp only
      have e : ((hexs bs).take (i + 1)).map B = ((hexs bs).take i).map B ++ [.int .u8 (hx k).toNat] := by
        rw [List.take_add_one, hget, List.map_append]
        rfl
      rw [e]
      exact hown'
    · have hev : ¬ i % 2 = 0 := by rw [e4] at hc; simp at hc; omega
      rw [if_neg hev] at hget
      have e6 : (c.toNat : Int).tmod 16 = ((c.toNat % 16 : Nat) : Int) := by rw [Int.tmod_eq_emod_of_nonneg (by omega)]; omega
      rw [e6]
      obtain ⟨k, hk⟩ : ∃ k, k = c.toNat % 16 := ⟨_, rfl⟩
      rw [← hk] at hget ⊢
      have hk2 : ((k : Nat) : Int).toNat = k := by omega
      refine WL.p rfl (Pu.ixStr (m := strB signs) (b := hx k) rfl rfl (by omega) (by rw [hk2]; exact signs_get (by omega))) ?_
      repeat' (first | refine S2b ?_ | refine S3 ?_ | refine SA (fun _ => ?_) | refine G1 (fun hc => ?_) (fun hc => ?_) | refine G2 (fun hc => ?_) (fun hc => ?_) | refine G3 (fun hc => ?_) (fun hc => ?_) | refine SL ?_ | fail)
      refine WL.e rfl (Ef.app (m := 1) (news := [.int .u8 (hx k).toNat]) (hb := hb0) (by exact rfl) (by exact rfl) rfl rfl hown subA (Src.own (n := 1) (.here rfl)) rfl (by simp [Value.oneCell']) (by simp; omega) (by simp [maxLen]; omega)) ?_
      rintro _ _ ⟨hb', hown', rfl⟩
      obtain ⟨sa', sn', sc', rfl, _, _⟩ := hown'.shape
      repeat' (first | refine S2b ?_ | refine S3 ?_ | refine SA (fun _ => ?_) | refine G1 (fun hc => ?_) (fun hc => ?_) | refine G2 (fun hc => ?_) (fun hc => ?_) | refine G3 (fun hc => ?_) (fun hc => ?_) | refine SL ?_ | fail)
      rw [i64_succ (by omega)]
      refine Fin.round ⟨i + 1, sa', sn', sc', hb'⟩ ⟨by dsimp only; omega, ?_⟩ envA (fun _ h => h.sublist (by simp)) (by dsimp only; omega)
      dsimp only
      have e : ((hexs bs).take (i + 1)).map B = ((hexs bs).take i).map B ++ [.int .u8 (hx k).toNat] := by
        rw [List.take_add_one, hget, List.map_append]
        rfl
      rw [e]
      exact hown'
  · rename_i hz
    rw [e2] at hz
    have hi' : i = 2 * bn := by simp at hz; omega
    rw [hi', List.take_of_length_le (by omega)] at hown
    have hsn : sn = (hexs bs).length := by have := hown.len; simp at this; omega
    have hbs : bs = [] := List.eq_nil_of_length_eq_zero (by simp at hc; omega)
    refine Fin.retW (by exact rfl) resA (fun _ h => h.right) ⟨?_, rfl⟩
    subst hbs
    rfl
  · rename_i hz
    rw [e2] at hz
    have hi' : i = 2 * bn := by simp at hz; omega
    rw [hi', List.take_of_length_le (by omega)] at hown
    have hsn : sn = (hexs bs).length := by have := hown.len; simp at this; omega
    have hne : bs ≠ [] := fun h => by subst h; simp [hexs] at hsn; subst hsn; simp at hc
    subst hsn
    refine WL.s rfl (Rd.cvBS (m := (hexs bs).length) (bs := hexs bs) rfl (hown.srcB (fun _ h => h.left)) rfl) ?_
    repeat' (first | refine S2b ?_ | refine S3 ?_ | refine SA (fun _ => ?_) | refine G1 (fun hc => ?_) (fun hc => ?_) | refine G2 (fun hc => ?_) (fun hc => ?_) | refine G3 (fun hc => ?_) (fun hc => ?_) | refine SL ?_ | fail)
    refine Fin.retW (by exact rfl) resA (fun _ h => h.right) ⟨?_, rfl⟩
    unfold oct
    rw [if_neg hne]
    rfl

/-- an answer in memory -/
structure Tlx where
  t : Tld
  ba : Option Addr
  bn : Nat
  bc : Nat
def Tlx.cells (x : Tlx) : List Value := [.int .i64 x.t.err, .int .u8 x.t.s0, .int .u8 x.t.s1, .int .i64 x.t.now, .int .u16 x.t.stream, .bool x.t.ord, .slice x.ba x.bn x.bc, .bool x.t.some]
structure Tlx.Is (F : Nat → Option Obj) (x : Tlx) : Prop where
  bytes : Lst F [] 1 (x.t.bytes.map B) x.ba x.bn x.bc
  err : I64 x.t.err
  s0 : 0 ≤ x.t.s0 ∧ x.t.s0 < 256
  s1 : 0 ≤ x.t.s1 ∧ x.t.s1 < 256
  now : I64 x.t.now
  stream : 0 ≤ x.t.stream ∧ x.t.stream < 65536
theorem Tlx.Is.mono {F F' : Nat → Option Obj} {x : Tlx} (h : x.Is F) (hw : ∀ w, In F' [] w → In F [] w) : x.Is F' := ⟨h.bytes.mono hw, h.err, h.s0, h.s1, h.now, h.stream⟩
def Tlx.fps (x : Tlx) (b : Nat) : List Fp := [⟨.u8, b, 1, .n x.t.s0, .int .u8 x.t.s0⟩, ⟨.u8, b, 2, .n x.t.s1, .int .u8 x.t.s1⟩, ⟨.i64, b, 3, .n x.t.now, .int .i64 x.t.now⟩, ⟨.bool, b, 7, .b x.t.some, .bool x.t.some⟩, ⟨.u16, b, 4, .n x.t.stream, .int .u16 x.t.stream⟩, ⟨.bool, b, 5, .b x.t.ord, .bool x.t.ord⟩, ⟨.oct, b, 6, .o x.t.bytes, .slice x.ba x.bn x.bc⟩]
theorem Tlx.fps_is {F : Nat → Option Obj} {H : HL} {x : Tlx} (h : x.Is F) (hb : x.t.bytes.length ≤ 100000000000) {b : Nat} (hc : Sl.Can F H b 0 x.cells) : ∀ p ∈ x.fps b, p.Is F H := by
  have one : ∀ (i : Nat) (v : Value), x.cells[i]? = some v → Sl.Can F H b i [v] := fun i v hv => by have := hc.one hv; simpa using this
  intro p hp
  simp only [Tlx.fps, List.mem_cons, List.not_mem_nil, or_false] at hp
  rcases hp with rfl | rfl | rfl | rfl | rfl | rfl | rfl
  · exact ⟨one 1 _ rfl, .u8 h.s0⟩
  · exact ⟨one 2 _ rfl, .u8 h.s1⟩
  · exact ⟨one 3 _ rfl, .i64 h.now⟩
  · exact ⟨one 7 _ rfl, .bool _⟩
  · exact ⟨one 4 _ rfl, .u16 h.stream⟩
  · exact ⟨one 5 _ rfl, .bool _⟩
  · exact ⟨one 6 _ rfl, .oct (h.bytes.mono (fun _ h => h.sublist (List.nil_sublist _))) (by omega)⟩
set_option maxHeartbeats 8000000 in
theorem stold_tr (F : Nat → Option Obj) (hG : Gl F) (x : Tlx) (hx : x.Is F) (hb : x.t.bytes.length ≤ 100000000000) :
    Tr Tryz.prog 34 [.agg x.cells.toArray].toArray F [] (fun v H' => v = S x.t.line ∧ H' = []) := by
  refine Tr.enter Tryz.func34 rfl Tryz.ntmps34 rfl (fun w0 => ?_)
  unfold Tlx.cells
  repeat' (first | refine S2b ?_ | refine S3 ?_ | refine SA (fun _ => ?_) | refine G1 (fun hc => ?_) (fun hc => ?_) | refine G2 (fun hc => ?_) (fun hc => ?_) | refine G3 (fun hc => ?_) (fun hc => ?_) | refine SL ?_ | fail)
  rename_i b1 b3
  have hfp := fun (F' : Nat → Option Obj) (hF : ∀ w, In F' [] w → In F [(b3, .cells [.int .i64 x.t.err].toArray 3 (0, 0)), (b1, .cells x.cells.toArray 84 (0, 0))] w) => Tlx.fps_is (F := F') (H := []) (hx.mono (fun w h => (hF w h).sublist (List.nil_sublist _))) hb (b := b1) (fun w hi => Can.cut (F := F) (n := 8) (.there (.here rfl)) w (hF w hi))
  refine WL.e rfl (Ef.lookR (by exact rfl) (fun F' hF => word_tr F' [] (hG.at hF) ⟨.int, b3, 0, .n x.t.err, .int .i64 x.t.err⟩ ⟨fun w hi => Can.cut (F := F) (n := 1) (.here rfl) w (hF w hi), .int hx.err⟩)) ?_
  rintro _ _ ⟨rfl, rfl⟩
  repeat' (first | refine S2b ?_ | refine S3 ?_ | refine SA (fun _ => ?_) | refine G1 (fun hc => ?_) (fun hc => ?_) | refine G2 (fun hc => ?_) (fun hc => ?_) | refine G3 (fun hc => ?_) (fun hc => ?_) | refine SL ?_ | fail)
  refine WL.e rfl (Ef.bsN (n := 7) (r := (x.fps b1).map Fp.ptr) (by exact rfl) (by exact rfl) (by exact rfl) (by exact rfl) rfl (by exact rfl)) ?_
  rintro _ _ ⟨b5, rfl, rfl⟩
  refine WL.e rfl (Ef.lookR (by exact rfl) (fun F' hF => line_tr F' [] (hG.at hF) (num x.t.err) (x.fps b1) (some ⟨b5, 0, none⟩) 7 7 ⟨rfl, Nat.le_refl _, fun _ => ⟨b5, 0, rfl, fun w hi => Can.cut (F := F) (n := 7) (.here rfl) w (hF w hi)⟩, fun h => by cases h⟩ (hfp F' (fun w hi => (hF w hi).sublist (.cons _ (.refl _)))) (by have := num_len hx.err; omega) (by simp [Tlx.fps]))) ?_
  rintro _ _ ⟨rfl, rfl⟩
  repeat' (first | refine S2b ?_ | refine S3 ?_ | refine SA (fun _ => ?_) | refine G1 (fun hc => ?_) (fun hc => ?_) | refine G2 (fun hc => ?_) (fun hc => ?_) | refine G3 (fun hc => ?_) (fun hc => ?_) | refine SL ?_ | fail)
  exact Fin.retW (by exact rfl) resA (H' := []) (fun _ h => h.sublist (List.nil_sublist _)) ⟨rfl, rfl⟩
end Go.Proofs.YtjcekmiengnglaaGreatDoor
