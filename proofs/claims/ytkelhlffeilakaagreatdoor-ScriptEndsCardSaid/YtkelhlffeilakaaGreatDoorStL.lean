/- The library's contracts of strings.Split, Join, IndexByte and strconv.ParseInt, Itoa, FormatInt, in the logic. Conditions: the package variables that they read are as the statement lays them; lengths within the library's bounds. -/
import Derived.Test.YtkelhlffeilakaaGreatDoorLbL
import Derived.Test.YtkelhlffeilakaaGreatDoorStC
import Derived.Test.YtkelhlffeilakaaGreatDoorBuD
import Derived.Test.YtkelhlffeilakaaGreatDoorBuB
import Derived.Test.YtkelhlffeilakaaGreatDoorTy
import Derived.Lib.AppendIntMem
import Derived.Lib.AtoiErrMem
namespace Go.Proofs.YtkelhlffeilakaaGreatDoor
open Go Go.Sl Go.Scr

/-- what the walks ask of the package's variables -/
structure GlW (w : World) : Prop where
  maxlen : ∃ m : Int, w.cell? ⟨Tryz.lb146_ren.g 1, 0, none⟩ = some (.int .i64 m)
  pow10 : Lib.TabIs Tryz.prog w "internal/strconv.uint64pow10" .u64 Lib.pow10Tab
  errS : ∃ te pe, w.cell? ⟨Tryz.lb174_ren.g 15, 0, none⟩ = some (.iface te pe)
  errR : ∃ te pe, w.cell? ⟨Tryz.lb174_ren.g 16, 0, none⟩ = some (.iface te pe)
def Gl (F : Nat → Option Obj) : Prop := ∀ w, In F [] w → GlW w
theorem Gl.mono {F F' : Nat → Option Obj} (h : Gl F) (hw : ∀ w, In F' [] w → In F [] w) : Gl F' := fun w hi => h w (hw w hi)
theorem Gl.any {F : Nat → Option Obj} {H : HL} (h : Gl F) {w : World} (hi : In F H w) : GlW w := h w (hi.sublist (List.nil_sublist _))

/-- a string of the program's -/
def S (s : Str) : Value := .string (strB s)
theorem split_tr (F : Nat → Option Obj) (H : HL) (hG : Gl F) (c : UInt8) (s : Str) (hs : s.length < 4294967281) :
    Tr Tryz.prog 12 [S s, S [c]].toArray F H (fun v H' => ∃ b, v = .slice (some ⟨b, 0, none⟩) (split c s).length (split c s).length ∧ H' = (b, .cells ((split c s).map S).toArray 9 (0, 0)) :: H) := by
  intro w hw
  obtain ⟨m, hm⟩ := (hG.any hw).maxlen
  refine (Any.strings_Split Tryz.lb146 (by kernel_rfl) (strB s) (strB [c]) m w (by rw [strB_size]; exact hs) hm (by rw [strB_size]; exact Nat.le_refl 1)).mono ?_
  rintro _ _ ⟨rfl, rfl⟩
  refine ⟨_, _, rfl, ⟨w.heap.size, ?_, rfl⟩, ?_, Same.alloc w _⟩
  · rw [countB_split]
  · rw [splitB_split, List.map_map]
    exact hw.alloc _
theorem join_tr (F : Nat → Option Obj) (H : HL) (c : UInt8) (ws : List Str) (sa : Option Addr) (n k : Nat) (hl : Lst F H 1 (ws.map S) sa n k) (h0 : ws ≠ []) (hn : ws.length ≤ 140737488355328) (hj : (join c ws).length ≤ 140737488355328) :
    Tr Tryz.prog 22 [.slice sa n k, S [c]].toArray F H (fun v H' => v = S (join c ws) ∧ H' = H) := by
  have hlen : n = ws.length := by have := hl.len; simp at this; omega
  have hp : 0 < ws.length := List.length_pos_iff.2 h0
  subst hlen
  obtain ⟨b, o, rfl, hcan⟩ := hl.can hp
  have hnew : (ws.map strB).map (·.data.toList) = ws := by
    rw [List.map_map]
    conv => rhs; rw [← List.map_id ws]
    exact List.map_congr_left fun x _ => strB_data x
  have hcell : ∀ w, In F H w → ∀ (j : Nat) x, (ws.map strB)[j]? = some x → w.cell? ⟨b, o + j, none⟩ = some (.string x) := fun w hw j x hx => by
    rw [List.getElem?_map] at hx
    cases hj : ws[j]? with
    | none => rw [hj] at hx; cases hx
    | some y =>
      rw [hj] at hx
      cases hx
      exact hcan w hw j (S y) (by rw [List.getElem?_map, hj]; rfl)
  refine (Tr.of_below (R := fun v => v = S (join c ws)) ?_)
  intro w hw
  have hbk : b < w.heap.size := by
    obtain ⟨y, hy⟩ : ∃ y, ws[0]? = some y := ⟨ws[0], by simp [hp]⟩
    have := hcell w hw 0 (strB y) (by rw [List.getElem?_map, hy]; rfl)
    unfold World.cell? at this
    cases hb : w.heap[b]? with
    | none => simp [hb] at this
    | some _ => exact heap_lt hb
  have h := Any.strings_Join Tryz.lb156 Tryz.Builder_Extra_156 b o k (ws.map strB) (strB [c]) w (hcell w hw) hbk (by simpa using hn) (by simpa using hl.cap) (by rw [hnew, strB_data, join_lib]; exact hj)
  rw [List.length_map] at h
  refine h.mono ?_
  rintro _ _ ⟨rfl, hb⟩
  refine ⟨_, rfl, ?_, hb⟩
  rw [hnew, strB_data, join_lib]
  rfl
theorem ixb_tr (F : Nat → Option Obj) (H : HL) (s : Str) (c : UInt8) : Tr Tryz.prog 129 [S s, .int .u8 c.toNat].toArray F H (fun v H' => v = .int .i64 (Lib.indexByte s c) ∧ H' = H) := by
  intro w hw
  refine (Any.strings_IndexByte Tryz.lb137 (strB s) (c.toNat : Int) w).mono ?_
  rintro _ _ ⟨rfl, rfl⟩
  refine ⟨_, _, rfl, ⟨?_, rfl⟩, hw, Same.refl _⟩
  rw [strB_data]
  simp
/-- what ParseInt(s, 10, 64) answers: the number and no error; or an error -/
def ParseQ (s : Str) (v : Value) : Prop := ∃ n ev, v = tup [.int .i64 n, ev] ∧ ((ev = .nilIface ∧ Lib.parseIntB 64 s = .ok n) ∨ ((∃ t p, ev = .iface t p) ∧ ∀ m, Lib.parseIntB 64 s ≠ .ok m))
theorem parse_tr (F : Nat → Option Obj) (H : HL) (hG : Gl F) (s : Str) (hs : s.length ≤ 281474976710656) :
    Tr Tryz.prog 90 [S s, .int .i64 10, .int .i64 64].toArray F H (fun v H' => ParseQ s v ∧ H' = H) := by
  refine Tr.of_below fun w hw => ?_
  have hg := hG.any hw
  rcases h : Lib.parseIntB 64 s with n | _ | _
  · refine (Any.strconv_ParseInt_10_at64_ok Tryz.lb174 (strB s) (by rw [strB_size]; omega) n (by rw [strB_data]; exact h) w).mono ?_
    rintro _ w' ⟨rfl, hw'⟩
    refine ⟨_, rfl, ⟨n, .nilIface, rfl, .inl ⟨rfl, h⟩⟩, ?_⟩
    rcases hw' with rfl | ⟨t, rfl⟩
    · exact RowKit.Below.refl _ _
    · exact Lib.bytesWorld_below _ _ _
  · obtain ⟨te, pe, he⟩ := hg.errS
    refine (Any.strconv_ParseInt_10_at64_syntax Tryz.lb174 (strB s) (by rw [strB_size]; exact hs) (by rw [strB_data]; exact h) _ w he (.inr ⟨te, pe, rfl⟩)).mono ?_
    rintro _ w' ⟨N, rfl, _, _, hb⟩
    exact ⟨_, rfl, ⟨_, _, rfl, .inr ⟨⟨_, _, rfl⟩, fun m hm => by rw [h] at hm; cases hm⟩⟩, hb⟩
  · obtain ⟨te, pe, he⟩ := hg.errR
    refine (Any.strconv_ParseInt_10_at64_range Tryz.lb174 (strB s) (by rw [strB_size]; exact hs) (by rw [strB_data]; exact h) _ w he (.inr ⟨te, pe, rfl⟩)).mono ?_
    rintro _ w' ⟨N, rfl, _, _, hb⟩
    exact ⟨_, rfl, ⟨_, _, rfl, .inr ⟨⟨_, _, rfl⟩, fun m hm => by rw [h] at hm; cases hm⟩⟩, hb⟩
theorem itoa_tr (F : Nat → Option Obj) (H : HL) (hG : Gl F) (n : Int) (hn : I64 n) : Tr Tryz.prog 37 [.int .i64 n].toArray F H (fun v H' => v = S (num n) ∧ H' = H) := by
  refine Tr.of_below (R := fun v => v = S (num n)) fun w hw => ?_
  obtain ⟨h1, h2⟩ := hn
  refine (Any.strconv_Itoa Tryz.lb171 n h1 (by omega) w (hG.any hw).pow10).mono ?_
  rintro _ w' ⟨rfl, k, os, rfl⟩
  refine ⟨_, rfl, ?_, Lib.below_grow _ _ (Nat.le_refl _) _ _⟩
  rw [itoa_num]
  rfl
theorem fmtI_tr (F : Nat → Option Obj) (H : HL) (hG : Gl F) (n : Int) (hn : I64 n) : Tr Tryz.prog 38 [.int .i64 n, .int .i64 10].toArray F H (fun v H' => v = S (num n) ∧ H' = H) := by
  refine Tr.of_below (R := fun v => v = S (num n)) fun w hw => ?_
  obtain ⟨h1, h2⟩ := hn
  refine (Any.strconv_FormatInt_10 Tryz.lb173 n h1 (by omega) w (hG.any hw).pow10).mono ?_
  rintro _ w' ⟨rfl, k, os, rfl⟩
  refine ⟨_, rfl, ?_, Lib.below_grow _ _ (Nat.le_refl _) _ _⟩
  rw [itoa_num]
  rfl
end Go.Proofs.YtkelhlffeilakaaGreatDoor
