/- The script's words, walked: bytes as a word (through the library's Builder), an answer's word. Conditions: what is read lies in memory; lengths within the library's bounds. -/
import Derived.Test.YtkelhlffeilakaaGreatDoorBuD
import Derived.Test.YtkelhlffeilakaaGreatDoorStL
import Derived.Test.YtkelhlffeilakaaGreatDoorBuC
namespace Go.Proofs.YtkelhlffeilakaaGreatDoor
open Go Go.Sl Go.Scr

theorem upd_cell0 {w : World} {b : Nat} {p q s : Value} {T : TypeId} (hg : w.heap[b]? = some (.cells [p, s].toArray T (0, 0))) : Upd w (w.setCell ⟨b, 0, none⟩ q) b (.cells [q, s].toArray T (0, 0)) := by
  refine ⟨⟨rfl, rfl, rfl, by simp [World.setCell], .any⟩, ?_, fun k hk => ?_⟩
  · simp [World.setCell, Array.getElem?_modify, hg]
  · simp only [World.setCell, Array.getElem?_modify]
    rw [if_neg (Ne.symm hk)]
theorem cc_tr (F : Nat → Option Obj) (b : Nat) (p s : Value) (hp : p = .pointer none ∨ p = .pointer (some ⟨b, 0, none⟩)) :
    Tr Tryz.prog 29 [.pointer (some ⟨b, 0, none⟩)].toArray F [(b, .cells [p, s].toArray 52 (0, 0))] (fun v H => v = .tuple #[] ∧ H = [(b, .cells [.pointer (some ⟨b, 0, none⟩), s].toArray 52 (0, 0))]) := by
  intro w hw
  have hg : w.heap[b]? = some (.cells [p, s].toArray 52 (0, 0)) := hw.own (b, .cells [p, s].toArray 52 (0, 0)) (List.mem_cons_self ..)
  have h0 : w.cell? ⟨b, 0, none⟩ = some p := by rw [cell_of_row w b 0 _ _ _ hg]; rfl
  rcases hp with rfl | rfl
  · refine (Any.Builder_copyCheck_fresh { Tryz.lb156 with } Tryz.Builder_Extra_156.toX72 b w h0 (by simp [World.shape?, hg]; rfl) (by simp [World.frozen?, hg])).mono ?_
    rintro _ _ ⟨rfl, rfl⟩
    exact ⟨_, _, rfl, ⟨rfl, rfl⟩, hw.upd1 (upd_cell0 hg), (upd_cell0 (q := .pointer (some ⟨b, 0, none⟩)) hg).same⟩
  · refine (Any.Builder_copyCheck_used { Tryz.lb156 with } Tryz.Builder_Extra_156.toX72 b w h0).mono ?_
    rintro _ _ ⟨rfl, rfl⟩
    exact ⟨_, _, rfl, ⟨rfl, rfl⟩, hw, Same.refl _⟩

/-- a Builder in memory -/
structure Bld where
  b : Nat
  p : Value
  sa : Option Addr
  sn : Nat
  sc : Nat
  hb : HL
def Bld.H (x : Bld) : HL := (x.b, .cells [x.p, .slice x.sa x.sn x.sc].toArray 52 (0, 0)) :: x.hb
structure Bld.Is (x : Bld) (l : Str) : Prop where
  p : x.p = .pointer none ∨ x.p = .pointer (some ⟨x.b, 0, none⟩)
  own : OwnS 5 1 (l.map B) (.slice x.sa x.sn x.sc) x.hb
  z : OffZ (.slice x.sa x.sn x.sc)
theorem Bld.Is.len {x : Bld} {l : Str} (h : x.Is l) : x.sn = l.length := by have := h.own.len; simp at this; omega
set_option maxHeartbeats 4000000 in
theorem wb_tr (F : Nat → Option Obj) (x : Bld) (l : Str) (hx : x.Is l) (c : UInt8) (hlen : l.length + 1 ≤ 140737488355328) :
    Tr Tryz.prog 84 [.pointer (some ⟨x.b, 0, none⟩), .int .u8 c.toNat].toArray F x.H (fun v H => v = .nilIface ∧ ∃ y : Bld, y.b = x.b ∧ y.Is (l ++ [c]) ∧ H = y.H) := by
  refine Tr.enter Tryz.func84 rfl Tryz.ntmps84 rfl (fun w0 => ?_)
  obtain ⟨b, p, sa, sn, sc, hb⟩ := x
  obtain ⟨hp, hown, hoz⟩ := hx
  unfold Bld.H
  dsimp only at hp hown hoz ⊢
  refine SP ?_; repeat' (first|refine ⟨fun hc=>?_,fun hc=>?_⟩|intro)
  refine WL.e rfl (Ef.call (c := [(b, _)]) (by exact rfl) subA (cc_tr _ b p _ hp)) ?_
  rintro _ _ ⟨_, ⟨rfl, rfl⟩, rfl⟩
  refine SP ?_; repeat' (first|refine ⟨fun hc=>?_,fun hc=>?_⟩|intro)
  refine WL.e rfl (Ef.appZ (m := 1) (news := [.int .u8 c.toNat]) (hb := hb) (by exact rfl) (by exact rfl) rfl rfl hown subA (Src.own (n := 1) (.here rfl)) rfl (by simp [Value.oneCell']) (by simp; omega) (by simp [maxLen]; omega)) ?_
  rintro _ _ ⟨hb', hown', hz', rfl⟩
  obtain ⟨sa', sn', sc', rfl, _, _⟩ := hown'.shape
  refine SP ?_; repeat' (first|refine ⟨fun hc=>?_,fun hc=>?_⟩|intro)
  refine Fin.retW (by exact rfl) resA (H' := Bld.H ⟨b, .pointer (some ⟨b, 0, none⟩), sa', sn', sc', hb'⟩) (fun _ h => ?_) ⟨rfl, ⟨b, .pointer (some ⟨b, 0, none⟩), sa', sn', sc', hb'⟩, rfl, ⟨.inr rfl, ?_, hz' hoz⟩, rfl⟩
  · unfold Bld.H
    exact (In.perm List.perm_append_comm h).sublist (.cons _ (List.Sublist.refl _))
  · simpa [B] using hown'
set_option maxHeartbeats 4000000 in
theorem bstr_tr (F : Nat → Option Obj) (x : Bld) (l : Str) (hx : x.Is l) (hne : l ≠ []) (hlen : l.length ≤ 140737488355328) :
    Tr Tryz.prog 18 [.pointer (some ⟨x.b, 0, none⟩)].toArray F x.H (fun v H => v = S l ∧ H = []) := by
  refine Tr.enter Tryz.func18 rfl Tryz.ntmps18 rfl (fun w0 => ?_)
  have hl := hx.len
  obtain ⟨b, p, sa, sn, sc, hb⟩ := x
  obtain ⟨hp, hown, hoz⟩ := hx
  unfold Bld.H
  dsimp only at hp hown hoz hl ⊢
  have hpos : 0 < l.length := List.length_pos_iff.2 hne
  subst hl
  obtain ⟨g, o, rfl⟩ := hown.addr hpos
  have ho0 : o = 0 := by have := hoz _ _ _ rfl; injection this
  have hcap : sc ≠ 0 := by obtain ⟨_, _, _, e, _, h⟩ := hown.shape; cases e; omega
  refine SP ?_; repeat' (first|refine ⟨fun hc=>?_,fun hc=>?_⟩|intro)
  refine W.draw [(b, .cells [p, .slice (some ⟨g, o, none⟩) l.length sc].toArray 52 (0, 0))] (by kernel_rfl) (by kernel_rfl) (fun _ h => h.sublist (by simp)) ?_
  refine SP ?_; repeat' (first|refine ⟨fun hc=>?_,fun hc=>?_⟩|intro)
  refine WD.e rfl (Rd.ef (Pu.rd (Pu.sld rfl hcap))) ?_
  rintro _ _ ⟨rfl, rfl⟩
  refine ⟨.inr (fun _ h => h.sublist (by simp)), ?_⟩
  refine SP ?_; repeat' (first|refine ⟨fun hc=>?_,fun hc=>?_⟩|intro)
  refine WD.e rfl (Ef.uStr (E := 5) (l := l) (hb := hb) (by kernel_rfl) (by kernel_rfl) rfl rfl hne (by omega) ho0 hown subA) ?_
  rintro _ _ ⟨rfl, rfl⟩
  refine ⟨.inr (fun _ h => h.sublist (by simp)), ?_⟩
  refine SP ?_; repeat' (first|refine ⟨fun hc=>?_,fun hc=>?_⟩|intro)
  exact Fin.retW (by exact rfl) resA (H' := []) (fun _ h => h.sublist (List.nil_sublist _)) ⟨rfl, rfl⟩

/-! ### bytes as a word -/
theorem w8nn (p : BitVec 8) : 0 ≤ IntKind.u8.wrap ((p.toNat : Nat) : Int) := by rw [u8_id ⟨by omega, by have := p.isLt; omega⟩]; omega
def signs : Str := [48, 49, 50, 51, 52, 53, 54, 55, 56, 57, 97, 98, 99, 100, 101, 102]
theorem signs_get {n : Nat} (h : n < 16) : (strB signs)[n]? = some (hx n) := by
  refine strB_get ?_
  have : ∀ k : Fin 16, signs[k.val]? = some (hx k.val) := by decide
  exact this ⟨n, h⟩
theorem high4 (c : UInt8) : ((c.toNat : Int).fdiv (2 ^ (min (4 : Int).toNat IntKind.u8.bits))).toNat = c.toNat / 16 := by
  show ((c.toNat : Int).fdiv 16).toNat = _
  rw [Int.fdiv_eq_ediv_of_nonneg _ (by decide)]
  omega
theorem low4 (c : UInt8) : (IntKind.u8.wrap ((BitVec.ofInt IntKind.u8.bits (c.toNat : Int) &&& BitVec.ofInt IntKind.u8.bits 15).toNat : Int)).toNat = c.toNat % 16 := by
  have h := c.toNat_lt
  have e : (BitVec.ofInt 8 (c.toNat : Int) &&& BitVec.ofInt 8 15).toNat = c.toNat % 16 := by
    rw [BitVec.toNat_and]
    have e1 : (BitVec.ofInt 8 (c.toNat : Int)).toNat = c.toNat := by simp [BitVec.toNat_ofInt]
    have e2 : (BitVec.ofInt 8 15).toNat = 2 ^ 4 - 1 := by decide
    rw [e1, e2, Nat.and_two_pow_sub_one_eq_mod]
  show (IntKind.u8.wrap (((BitVec.ofInt 8 (c.toNat : Int) &&& BitVec.ofInt 8 15).toNat : Nat) : Int)).toNat = _
  rw [e, u8_id (by omega)]
  omega

structure HxG where
  i : Nat
  x : Bld
set_option maxHeartbeats 4000000 in
theorem hex_tr (F : Nat → Option Obj) (H : HL) (bs : Str) (ba : Option Addr) (bn bc : Nat) (hl : Lst F H 1 (bs.map B) ba bn bc) (hb : bs.length ≤ 1000000000000) :
    Tr Tryz.prog 40 [.slice ba bn bc].toArray F H (fun v H' => v = S (oct bs) ∧ H' = H) := by
  refine Tr.enter Tryz.func40 rfl Tryz.ntmps40 rfl (fun w0 => ?_)
  have hbn : bn = bs.length := by have := hl.len; simp at this; omega
  refine SP ?_; repeat' (first|refine ⟨fun hc=>?_,fun hc=>?_⟩|intro)
  · refine Fin.retW (by exact rfl) resA (fun _ h => h) ⟨?_, rfl⟩
    have : bs = [] := List.eq_nil_of_length_eq_zero (by simp at hc; omega)
    subst this
    rfl
  have hpos : 0 < bs.length := by simp at hc; omega
  rename_i b0
  refine W.loop (G := HxG) (fun g => [(3, .pointer (some ⟨b0, 0, none⟩)), (9, .slice ba bn bc), (10, .int .i64 bn), (11, .int .i64 g.i)]) (fun g => g.x.H ++ H)
    (fun g => g.i ≤ bn ∧ g.x.b = b0 ∧ g.x.Is (hexs (bs.take g.i))) (fun g => bn - g.i) ⟨0, ⟨b0, .pointer none, none, 0, 0, []⟩⟩ ⟨Nat.zero_le _, rfl, .inl rfl, .inl ⟨rfl, rfl, rfl⟩, .none _ _⟩ envA (fun _ h => h) ?_
  rintro ⟨i, x⟩ ⟨hi, rfl, hI⟩
  dsimp only at hi hI ⊢
  refine SP ?_; repeat' (first|refine ⟨fun hc=>?_,fun hc=>?_⟩|intro)
  · have hi' : i < bn := by simp at hc; omega
    obtain ⟨c, hc0⟩ : ∃ y, bs[i]? = some y := ⟨bs[i]'(by omega), by simp⟩
    obtain ⟨b1, o1, rfl, hcan⟩ := hl.can (by omega)
    have hia : 0 ≤ (i : Int) ∧ (i : Int) < bn := by omega
    have hC : Sl.Can F (x.H ++ H) b1 (o1 + (i : Int).toNat * 1) [.int .u8 c.toNat] := by
      have := hcan.one (i := i) (v := B c) (by rw [List.getElem?_map, hc0]; rfl)
      exact (by simpa [B] using this : Sl.Can F H b1 (o1 + (i : Int).toNat * 1) [.int .u8 c.toNat]).mono (fun _ h => h.right)
    have hlen := hexs_len (bs.take i)
    have hc256 := c.toNat_lt
    refine SP ?_; repeat' (first|refine ⟨fun hc=>?_,fun hc=>?_⟩|intro)
    refine WL.p rfl (Pu.ixStr (m := strB signs) (b := hx (c.toNat / 16)) rfl rfl (Int.fdiv_nonneg (by omega) (by decide)) (by rw [high4]; exact signs_get (by omega))) ?_
    refine WL.e rfl (Ef.call (c := x.H) (by exact rfl) subA (wb_tr _ x _ hI _ (by rw [hlen]; simp; omega))) ?_
    rintro _ _ ⟨_, ⟨rfl, y, hyb, hy, rfl⟩, rfl⟩
    rw [← hyb]
    refine SP ?_; repeat' (first|refine ⟨fun hc=>?_,fun hc=>?_⟩|intro)
    refine WL.p rfl (Pu.ixStr (m := strB signs) (b := hx (c.toNat % 16)) rfl rfl (w8nn _) (by rw [low4]; exact signs_get (by omega))) ?_
    refine WL.e rfl (Ef.call (c := y.H) (by exact rfl) subA (wb_tr _ y _ hy _ (by rw [List.length_append, hlen]; simp; omega))) ?_
    rintro _ _ ⟨_, ⟨rfl, z, hzb, hz, rfl⟩, rfl⟩
    refine SP ?_; repeat' (first|refine ⟨fun hc=>?_,fun hc=>?_⟩|intro)
    rw [i64_succ (by omega)]
    refine Fin.round ⟨i + 1, z⟩ ⟨hi', by rw [hzb], ?_⟩ (by rw [hyb]; exact envA) (fun _ h => h) (by dsimp only; omega)
    dsimp only
    have e : hexs (bs.take (i + 1)) = hexs (bs.take i) ++ [hx (c.toNat / 16)] ++ [hx (c.toNat % 16)] := by
      rw [List.take_add_one, hc0]
      exact hexs_snoc _ _
    rw [e]
    exact hz
  · have hi' : i = bn := by simp at hc; omega
    rw [hi', List.take_of_length_le (by omega)] at hI
    have hne : hexs bs ≠ [] := fun h => by have := hexs_len bs; rw [h] at this; simp at this; omega
    refine WL.e rfl (Ef.call (c := x.H) (by exact rfl) subA (bstr_tr _ x _ hI hne (by rw [hexs_len]; omega))) ?_
    rintro _ _ ⟨_, ⟨rfl, rfl⟩, rfl⟩
    refine SP ?_; repeat' (first|refine ⟨fun hc=>?_,fun hc=>?_⟩|intro)
    refine Fin.retW (by exact rfl) resA (fun _ h => h) ⟨?_, rfl⟩
    have : bs ≠ [] := List.length_pos_iff.1 hpos
    unfold oct
    rw [if_neg this]
    rfl
theorem answer_tr (F : Nat → Option Obj) (H : HL) (b : Bool) : Tr Tryz.prog 39 [.bool b].toArray F H (fun v H' => v = S (yn b) ∧ H' = H) := by
  refine Tr.enter Tryz.func39 rfl Tryz.ntmps39 rfl (fun w0 => ?_)
  cases b
  · refine SP ?_; repeat' (first|refine ⟨fun hc=>?_,fun hc=>?_⟩|intro)
    exact Fin.retW (by exact rfl) resA (fun _ h => h) ⟨rfl, rfl⟩
  · refine SP ?_; repeat' (first|refine ⟨fun hc=>?_,fun hc=>?_⟩|intro)
    exact Fin.retW (by exact rfl) resA (fun _ h => h) ⟨rfl, rfl⟩
end Go.Proofs.YtkelhlffeilakaaGreatDoor
