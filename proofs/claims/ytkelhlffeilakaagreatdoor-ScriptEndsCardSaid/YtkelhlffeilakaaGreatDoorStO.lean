/- The document's word of bytes, and the lines of an answer, the script's and the document's, walked. Conditions: what is read lies in memory; lengths within bounds. -/
import Derived.Test.YtkelhlffeilakaaGreatDoorBuD
import Derived.Test.YtkelhlffeilakaaGreatDoorStR
import Derived.Test.YtkelhlffeilakaaGreatDoorStE
namespace Go.Proofs.YtkelhlffeilakaaGreatDoor
open Go Go.Sl Go.Scr

/-- an answer in memory -/
structure Tlx where
  t : Tld
  ba : Option Addr
  bn : Nat
  bc : Nat
def Tlx.cells (x : Tlx) : List Value := [.int .i64 x.t.err, .int .u8 x.t.s0, .int .u8 x.t.s1, .int .i64 x.t.now, .int .u16 x.t.stream, .bool x.t.ord, .slice x.ba x.bn x.bc, .bool x.t.some]
structure Tlx.Is (F : Nat → Option Obj) (x : Tlx) : Prop where
  bytes : Lst F [] 1 (x.t.bytes.map B) x.ba x.bn x.bc
  err : I64 x.t.err
  s0 : 0 ≤ x.t.s0 ∧ x.t.s0 < 256
  s1 : 0 ≤ x.t.s1 ∧ x.t.s1 < 256
  now : I64 x.t.now
  stream : 0 ≤ x.t.stream ∧ x.t.stream < 65536
theorem Tlx.Is.mono {F F' : Nat → Option Obj} {x : Tlx} (h : x.Is F) (hw : ∀ w, In F' [] w → In F [] w) : x.Is F' := ⟨h.bytes.mono hw, h.err, h.s0, h.s1, h.now, h.stream⟩
def Tlx.fps (x : Tlx) (b : Nat) : List Fp := [⟨.u8, b, 1, .n x.t.s0, .int .u8 x.t.s0⟩, ⟨.u8, b, 2, .n x.t.s1, .int .u8 x.t.s1⟩, ⟨.i64, b, 3, .n x.t.now, .int .i64 x.t.now⟩, ⟨.bool, b, 7, .b x.t.some, .bool x.t.some⟩, ⟨.u16, b, 4, .n x.t.stream, .int .u16 x.t.stream⟩, ⟨.bool, b, 5, .b x.t.ord, .bool x.t.ord⟩, ⟨.oct, b, 6, .o x.t.bytes, .slice x.ba x.bn x.bc⟩]
theorem Tlx.fps_is {F : Nat → Option Obj} {H : HL} {x : Tlx} (h : x.Is F) (hb : x.t.bytes.length ≤ 100000000000) {b : Nat} (hc : Sl.Can F H b 0 x.cells) : ∀ p ∈ x.fps b, p.Is F H := by
  have one : ∀ (i : Nat) (v : Value), x.cells[i]? = some v → Sl.Can F H b i [v] := fun i v hv => by have := hc.one hv; simpa using this
  intro p hp
  simp only [Tlx.fps, List.mem_cons, List.not_mem_nil, or_false] at hp
  rcases hp with rfl | rfl | rfl | rfl | rfl | rfl | rfl
  · exact ⟨one 1 _ rfl, .u8 h.s0⟩
  · exact ⟨one 2 _ rfl, .u8 h.s1⟩
  · exact ⟨one 3 _ rfl, .i64 h.now⟩
  · exact ⟨one 7 _ rfl, .bool _⟩
  · exact ⟨one 4 _ rfl, .u16 h.stream⟩
  · exact ⟨one 5 _ rfl, .bool _⟩
  · exact ⟨one 6 _ rfl, .oct (h.bytes.mono (fun _ h => h.sublist (List.nil_sublist _))) (by omega)⟩
set_option maxHeartbeats 8000000 in
theorem stold_tr (F : Nat → Option Obj) (hG : Gl F) (x : Tlx) (hx : x.Is F) (hb : x.t.bytes.length ≤ 100000000000) :
    Tr Tryz.prog 16 [.agg x.cells.toArray].toArray F [] (fun v H' => v = S x.t.line ∧ H' = []) := by
  refine Tr.enter Tryz.func16 rfl Tryz.ntmps16 rfl (fun w0 => ?_)
  unfold Tlx.cells
  refine SP ?_; repeat' (first|refine ⟨fun hc=>?_,fun hc=>?_⟩|intro)
  rename_i b1 b3
  have hfp := fun (F' : Nat → Option Obj) (hF : ∀ w, In F' [] w → In F [(b3, .cells [.int .i64 x.t.err].toArray 3 (0, 0)), (b1, .cells x.cells.toArray 62 (0, 0))] w) => Tlx.fps_is (F := F') (H := []) (hx.mono (fun w h => (hF w h).sublist (List.nil_sublist _))) hb (b := b1) (fun w hi => Can.cut (F := F) (n := 8) (.there (.here rfl)) w (hF w hi))
  refine WL.e rfl (Ef.lookR (by exact rfl) (fun F' hF => word_tr F' [] (hG.at hF) ⟨.int, b3, 0, .n x.t.err, .int .i64 x.t.err⟩ ⟨fun w hi => Can.cut (F := F) (n := 1) (.here rfl) w (hF w hi), .int hx.err⟩)) ?_
  rintro _ _ ⟨rfl, rfl⟩
  refine SP ?_; repeat' (first|refine ⟨fun hc=>?_,fun hc=>?_⟩|intro)
  refine WL.e rfl (Ef.bsN (n := 7) (r := (x.fps b1).map Fp.ptr) (by exact rfl) (by exact rfl) (by exact rfl) (by exact rfl) rfl (by exact rfl)) ?_
  rintro _ _ ⟨b5, rfl, rfl⟩
  refine WL.e rfl (Ef.lookR (by exact rfl) (fun F' hF => line_tr F' [] (hG.at hF) (num x.t.err) (x.fps b1) (some ⟨b5, 0, none⟩) 7 7 ⟨rfl, Nat.le_refl _, fun _ => ⟨b5, 0, rfl, fun w hi => Can.cut (F := F) (n := 7) (.here rfl) w (hF w hi)⟩, fun h => by cases h⟩ (hfp F' (fun w hi => (hF w hi).sublist (.cons _ (.refl _)))) (by have := num_len hx.err; omega) (by simp [Tlx.fps]))) ?_
  rintro _ _ ⟨rfl, rfl⟩
  refine SP ?_; repeat' (first|refine ⟨fun hc=>?_,fun hc=>?_⟩|intro)
  exact Fin.retW (by exact rfl) resA (H' := []) (fun _ h => h.sublist (List.nil_sublist _)) ⟨rfl, rfl⟩
end Go.Proofs.YtkelhlffeilakaaGreatDoor
