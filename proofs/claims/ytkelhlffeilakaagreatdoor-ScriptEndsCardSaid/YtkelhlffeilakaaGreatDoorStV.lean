/- A field's word, and a line, of the script, walked. Conditions: the fields lie in memory; lengths within the library's bounds. -/
import Derived.Test.YtkelhlffeilakaaGreatDoorBuD
import Derived.Test.YtkelhlffeilakaaGreatDoorStW
namespace Go.Proofs.YtkelhlffeilakaaGreatDoor
open Go Go.Sl Go.Scr

instance : ConT Tryz.prog 87 := ⟨by kernel_rfl⟩
instance : ZeroV Tryz.prog 87 (.pointer none) := ⟨by kernel_rfl⟩
instance : ConT Tryz.prog 89 := ⟨by kernel_rfl⟩
instance : ZeroV Tryz.prog 89 (.pointer none) := ⟨by kernel_rfl⟩
instance : ConT Tryz.prog 77 := ⟨by kernel_rfl⟩
instance : ZeroV Tryz.prog 77 (.pointer none) := ⟨by kernel_rfl⟩
instance : ConT Tryz.prog 78 := ⟨by kernel_rfl⟩
instance : ZeroV Tryz.prog 78 (.pointer none) := ⟨by kernel_rfl⟩
instance : ConT Tryz.prog 88 := ⟨by kernel_rfl⟩
instance : ZeroV Tryz.prog 88 (.pointer none) := ⟨by kernel_rfl⟩
instance : ConT Tryz.prog 90 := ⟨by kernel_rfl⟩
instance : ZeroV Tryz.prog 90 (.pointer none) := ⟨by kernel_rfl⟩
theorem Gl.at {F F' : Nat → Option Obj} {H : HL} (h : Gl F) (hw : ∀ w, In F' [] w → In F H w) : Gl F' := h.mono (fun w hi => (hw w hi).sublist (List.nil_sublist _))
inductive KT | u8 | u16 | int | i64 | bool | oct
def KT.ft : KT → FT
  | .u8 => .u8
  | .u16 => .u16
  | .int => .int
  | .i64 => .int
  | .bool => .bool
  | .oct => .oct
/-- the type of a pointer to it -/
def KT.ptr : KT → Nat
  | .u8 => 87
  | .u16 => 89
  | .int => 77
  | .i64 => 78
  | .bool => 88
  | .oct => 90
/-- a field's cell -/
inductive CellIs (F : Nat → Option Obj) (H : HL) : KT → FV → Value → Prop
  | u8 {x : Int} (h : 0 ≤ x ∧ x < 256) : CellIs F H .u8 (.n x) (.int .u8 x)
  | u16 {x : Int} (h : 0 ≤ x ∧ x < 65536) : CellIs F H .u16 (.n x) (.int .u16 x)
  | int {x : Int} (h : I64 x) : CellIs F H .int (.n x) (.int .i64 x)
  | i64 {x : Int} (h : I64 x) : CellIs F H .i64 (.n x) (.int .i64 x)
  | bool (x : Bool) : CellIs F H .bool (.b x) (.bool x)
  | oct {bs : Str} {ba : Option Addr} {bn bc : Nat} (h : Lst F H 1 (bs.map B) ba bn bc) (hb : bs.length ≤ 1000000000000) : CellIs F H .oct (.o bs) (.slice ba bn bc)
theorem CellIs.mono {F F' : Nat → Option Obj} {H H' : HL} {k : KT} {v : FV} {c : Value} (h : CellIs F H k v c) (hw : ∀ w, In F' H' w → In F H w) : CellIs F' H' k v c := by
  cases h with
  | u8 h => exact .u8 h
  | u16 h => exact .u16 h
  | int h => exact .int h
  | i64 h => exact .i64 h
  | bool b => exact .bool b
  | oct h hb => exact .oct (h.mono hw) hb
theorem CellIs.fits {F : Nat → Option Obj} {H : HL} {k : KT} {v : FV} {c : Value} (h : CellIs F H k v c) : fits k.ft v := by
  cases h with
  | u8 h => exact h
  | u16 h => exact h
  | int h => exact h
  | i64 h => exact h
  | bool b => trivial
  | oct h hb => trivial
/-- a pointer to a field -/
structure Fp where
  k : KT
  b : Nat
  off : Nat
  v : FV
  c : Value
def Fp.ptr (p : Fp) : Value := .iface p.k.ptr (.pointer (some ⟨p.b, p.off, none⟩))
structure Fp.Is (F : Nat → Option Obj) (H : HL) (p : Fp) : Prop where
  can : Sl.Can F H p.b p.off [p.c]
  cell : CellIs F H p.k p.v p.c
theorem Fp.Is.mono {F F' : Nat → Option Obj} {H H' : HL} {p : Fp} (h : p.Is F H) (hw : ∀ w, In F' H' w → In F H w) : p.Is F' H' := ⟨h.can.mono hw, h.cell.mono hw⟩
theorem wd_len {F : Nat → Option Obj} {H : HL} {k : KT} {v : FV} {c : Value} (h : CellIs F H k v c) : (wd v).length ≤ 2199023255553 := by
  cases h with
  | @u8 x h => have := num_len (v := x) ⟨by omega, by omega⟩; simp only [wd]; omega
  | @u16 x h => have := num_len (v := x) ⟨by omega, by omega⟩; simp only [wd]; omega
  | int h => have := num_len h; simp only [wd]; omega
  | i64 h => have := num_len h; simp only [wd]; omega
  | bool b => cases b <;> simp [wd, yn]
  | oct h hb =>
    simp only [wd, oct]
    split
    · simp
    · rw [hexs_len]; omega
set_option maxHeartbeats 4000000 in
theorem word_tr (F : Nat → Option Obj) (H : HL) (hG : Gl F) (p : Fp) (hp : p.Is F H) : Tr Tryz.prog 21 [p.ptr].toArray F H (fun u H' => u = S (wd p.v) ∧ H' = H) := by
  refine Tr.enter Tryz.func21 rfl Tryz.ntmps21 rfl (fun w0 => ?_)
  obtain ⟨k, b, off, v, c⟩ := p
  obtain ⟨hc, hk⟩ := hp
  dsimp only at hc hk
  unfold Fp.ptr
  cases hk with
  | @u8 x h =>
    refine SP ?_; repeat' (first|refine ⟨fun hc=>?_,fun hc=>?_⟩|intro)
    have e : IntKind.i64.wrap x = x := i64_id (by omega) (by omega)
    rw [e]
    refine WL.e rfl (Ef.lookR (by exact rfl) (fun F' hF => itoa_tr F' [] (hG.at hF) _ ⟨by omega, by omega⟩)) ?_
    rintro _ _ ⟨rfl, rfl⟩
    refine SP ?_; repeat' (first|refine ⟨fun hc=>?_,fun hc=>?_⟩|intro)
    exact Fin.retW (by exact rfl) resA (fun _ h => h) ⟨rfl, rfl⟩
  | @u16 x h =>
    refine SP ?_; repeat' (first|refine ⟨fun hc=>?_,fun hc=>?_⟩|intro)
    have e : IntKind.i64.wrap x = x := i64_id (by omega) (by omega)
    rw [e]
    refine WL.e rfl (Ef.lookR (by exact rfl) (fun F' hF => itoa_tr F' [] (hG.at hF) _ ⟨by omega, by omega⟩)) ?_
    rintro _ _ ⟨rfl, rfl⟩
    refine SP ?_; repeat' (first|refine ⟨fun hc=>?_,fun hc=>?_⟩|intro)
    exact Fin.retW (by exact rfl) resA (fun _ h => h) ⟨rfl, rfl⟩
  | @int x h =>
    obtain ⟨h1, h2⟩ := h
    refine SP ?_; repeat' (first|refine ⟨fun hc=>?_,fun hc=>?_⟩|intro)
    refine WL.e rfl (Ef.lookR (by exact rfl) (fun F' hF => itoa_tr F' [] (hG.at hF) _ ⟨by omega, by omega⟩)) ?_
    rintro _ _ ⟨rfl, rfl⟩
    refine SP ?_; repeat' (first|refine ⟨fun hc=>?_,fun hc=>?_⟩|intro)
    exact Fin.retW (by exact rfl) resA (fun _ h => h) ⟨rfl, rfl⟩
  | @i64 x h =>
    refine SP ?_; repeat' (first|refine ⟨fun hc=>?_,fun hc=>?_⟩|intro)
    refine WL.e rfl (Ef.lookR (by exact rfl) (fun F' hF => fmtI_tr F' [] (hG.at hF) _ h)) ?_
    rintro _ _ ⟨rfl, rfl⟩
    refine SP ?_; repeat' (first|refine ⟨fun hc=>?_,fun hc=>?_⟩|intro)
    exact Fin.retW (by exact rfl) resA (fun _ h => h) ⟨rfl, rfl⟩
  | bool x =>
    refine SP ?_; repeat' (first|refine ⟨fun hc=>?_,fun hc=>?_⟩|intro)
    refine WL.e rfl (Ef.lookR (by exact rfl) (fun F' hF => answer_tr F' [] x)) ?_
    rintro _ _ ⟨rfl, rfl⟩
    refine SP ?_; repeat' (first|refine ⟨fun hc=>?_,fun hc=>?_⟩|intro)
    exact Fin.retW (by exact rfl) resA (fun _ h => h) ⟨rfl, rfl⟩
  | oct h hb =>
    refine SP ?_; repeat' (first|refine ⟨fun hc=>?_,fun hc=>?_⟩|intro)
    refine WL.e rfl (Ef.lookR (by exact rfl) (fun F' hF => hex_tr F' [] _ _ _ _ (h.mono hF) hb)) ?_
    rintro _ _ ⟨rfl, rfl⟩
    refine SP ?_; repeat' (first|refine ⟨fun hc=>?_,fun hc=>?_⟩|intro)
    exact Fin.retW (by exact rfl) resA (fun _ h => h) ⟨rfl, rfl⟩
structure LnG where
  i : Nat
  sa : Option Addr
  sn : Nat
  sc : Nat
  hb : HL
set_option maxHeartbeats 4000000 in
theorem line_tr (F : Nat → Option Obj) (H : HL) (hG : Gl F) (first : Str) (l : List Fp) (la : Option Addr) (ln lc : Nat) (hl : Lst F H 1 (l.map Fp.ptr) la ln lc) (hp : ∀ p ∈ l, p.Is F H) (hf : first.length ≤ 1000) (hn : l.length ≤ 20) :
    Tr Tryz.prog 9 [S first, .slice la ln lc].toArray F H (fun v H' => v = S (join 32 (first :: l.map fun p => wd p.v)) ∧ H' = H) := by
  refine Tr.enter Tryz.func9 rfl Tryz.ntmps9 rfl (fun w0 => ?_)
  have hln : ln = l.length := by have := hl.len; simp at this; omega
  refine SP ?_; repeat' (first|refine ⟨fun hc=>?_,fun hc=>?_⟩|intro)
  rename_i b0
  refine W.loop (G := LnG) (fun g => [(5, .slice g.sa g.sn g.sc), (10, .slice la ln lc), (11, .int .i64 ln), (12, .int .i64 g.i)]) (fun g => g.hb ++ H)
    (fun g => g.i ≤ ln ∧ OwnS 9 1 ((first :: (l.take g.i).map fun p => wd p.v).map S) (.slice g.sa g.sn g.sc) g.hb) (fun g => ln - g.i) ⟨0, some ⟨b0, 0, none⟩, 1, 1, [(b0, _)]⟩ ⟨Nat.zero_le _, .inr ⟨b0, 1, 1, [], [], [], rfl, rfl, rfl, Nat.le_refl _, by simp, by simp [maxLen]⟩⟩ envA (fun _ h => h) ?_
  rintro ⟨i, sa, sn, sc, hb⟩ ⟨hi, hown⟩
  dsimp only at hi hown ⊢
  refine SP ?_; repeat' (first|refine ⟨fun hc=>?_,fun hc=>?_⟩|intro)
  · have hi' : i < ln := by simp at hc; omega
    obtain ⟨p, hpi⟩ : ∃ y, l[i]? = some y := ⟨l[i]'(by omega), by simp⟩
    obtain ⟨b1, o1, rfl, hcan⟩ := hl.can (by omega)
    have hia : 0 ≤ (i : Int) ∧ (i : Int) < ln := by omega
    have hC : Sl.Can F (hb ++ H) b1 (o1 + (i : Int).toNat * 1) [p.ptr] := by
      have := hcan.one (i := i) (v := p.ptr) (by rw [List.getElem?_map, hpi]; rfl)
      exact (by simpa using this : Sl.Can F H b1 (o1 + (i : Int).toNat * 1) [p.ptr]).mono (fun _ h => h.right)
    have hpm := hp p (List.mem_of_getElem? hpi)
    refine SP ?_; repeat' (first|refine ⟨fun hc=>?_,fun hc=>?_⟩|intro)
    refine WL.e rfl (Ef.lookR (by exact rfl) (fun F' hF => word_tr F' [] (hG.at hF) p (hpm.mono (fun w h => (hF w h).right)))) ?_
    rintro _ _ ⟨rfl, rfl⟩
    refine SP ?_; repeat' (first|refine ⟨fun hc=>?_,fun hc=>?_⟩|intro)
    refine WL.e rfl (Ef.app (m := 1) (news := [S (wd p.v)]) (hb := hb) (by exact rfl) (by exact rfl) rfl rfl hown subA (Src.own (n := 1) (.here rfl)) rfl (by simp [S, Value.oneCell']) (by simp; omega) (by simp [maxLen]; omega)) ?_
    rintro _ _ ⟨hb', hown', rfl⟩
    obtain ⟨sa', sn', sc', rfl, _, _⟩ := hown'.shape
    refine SP ?_; repeat' (first|refine ⟨fun hc=>?_,fun hc=>?_⟩|intro)
    rw [i64_succ (by omega)]
    refine Fin.round ⟨i + 1, sa', sn', sc', hb'⟩ ⟨hi', ?_⟩ envA (fun _ h => ?_) (by dsimp only; omega)
    · dsimp only
      have e : (first :: (l.take (i + 1)).map fun p => wd p.v).map S = (first :: (l.take i).map fun p => wd p.v).map S ++ [S (wd p.v)] := by
        rw [List.take_add_one, hpi]
        simp
      rw [e]
      exact hown'
    · exact h.sublist (by simp)
  · have hi' : i = ln := by simp at hc; omega
    rw [hi', List.take_of_length_le (by omega)] at hown
    have hw : ∀ w ∈ first :: l.map fun p => wd p.v, w.length ≤ 2199023255553 := by
      intro w hw
      rcases List.mem_cons.1 hw with hw | hw
      · rw [hw]; omega
      · obtain ⟨p, hpm, rfl⟩ := List.mem_map.1 hw
        exact wd_len (hp p hpm).cell
    have hjl := join_len 32 _ _ hw
    simp only [List.length_cons, List.length_map] at hjl
    refine WL.e rfl (Ef.lookR (by exact rfl) (fun F' hF => join_tr F' [] 32 _ _ _ _ ((Lst.own (F := F) (H := hb) hown (fun _ h => h)).mono (fun w h => (hF w h).left)) (by simp) (by simp; omega) (by
      have : (l.length + 1) * (2199023255553 + 1) ≤ 21 * (2199023255553 + 1) := Nat.mul_le_mul_right _ (by omega)
      omega))) ?_
    rintro _ _ ⟨rfl, rfl⟩
    refine SP ?_; repeat' (first|refine ⟨fun hc=>?_,fun hc=>?_⟩|intro)
    exact Fin.retW (by exact rfl) resA (fun _ h => h.right) ⟨rfl, rfl⟩
end Go.Proofs.YtkelhlffeilakaaGreatDoor
