/- Some texts as one. What the rules of the logic ask of this translation lies in Ty. No conditions. The document's line of a config, idle lines, how much a statement plays, and texts laid out of events, walked. Conditions: the events lie in memory; lengths within bounds. The arguments of chapter 28's laws: events and configs, as they lie in memory. No conditions. -/
import Derived.Test.YtkelhlffeilakaaGreatDoorTy
import Derived.Test.YtkelhlffeilakaaGreatDoorBuD
import Derived.Test.YtkelhlffeilakaaGreatDoorStX
import Derived.Test.YtkelhlffeilakaaGreatDoorStQ
import Derived.Test.YtkelhlffeilakaaGreatDoorBuJ
import Derived.Test.YtkelhlffeilakaaGreatDoorBuI

namespace Go.Proofs.YtkelhlffeilakaaGreatDoor
open Go Go.Sl Go.Scr

structure HdG where
  i : Nat
theorem heads_take {c : List Int} {i : Nat} {x : Int} (h : c[i]? = some x) : join 32 (endsW :: (c.take (i + 1)).map num) = join 32 (endsW :: (c.take i).map num) ++ [32] ++ num x := by
  rw [List.take_add_one, h]
  simp only [Option.toList_some, List.map_append, List.map_cons, List.map_nil]
  rw [← List.cons_append, join_snoc 32 (endsW :: (c.take i).map num) (num x) (by simp)]
set_option maxHeartbeats 8000000 in
theorem rhead_tr (F : Nat → Option Obj) (c : List Int) (hc : c.length = 14) (hi : ∀ x ∈ c, I64 x) : Tr Tryz.prog 5 [.agg (ccells c).toArray].toArray F [] (fun v H' => v = S (head c) ∧ H' = []) := by
  refine Tr.enter Tryz.func5 rfl Tryz.ntmps5 rfl (fun w0 => ?_)
  have hlen : ∀ i, (join 32 (endsW :: (c.take i).map num)).length ≤ 345 := fun i => by
    have h1 : ∀ w ∈ endsW :: (c.take i).map num, w.length ≤ 22 := by
      intro w hw
      rcases List.mem_cons.1 hw with rfl | hw
      · decide
      · obtain ⟨x, hx, rfl⟩ := List.mem_map.1 hw
        have := num_len (hi x (List.mem_of_mem_take hx))
        omega
    have h2 := jlen 32 _ _ h1
    simp only [List.length_cons, List.length_map, List.length_take, hc] at h2
    omega
  obtain ⟨a0, a1, a2, a3, a4, a5, a6, a7, a8, a9, a10, a11, a12, a13, hcl⟩ := list14 hc
  obtain ⟨cs, hcs⟩ : ∃ cs, cs = ccells c := ⟨_, rfl⟩
  have hcs2 : cs = [.int .i64 a0, .int .i64 a1, .int .i64 a2, .int .i64 a3, .int .i64 a4, .int .i64 a5, .int .i64 a6, .int .i64 a7, .int .i64 a8, .int .i64 a9, .int .i64 a10, .int .i64 a11, .int .i64 a12, .int .i64 a13] := by rw [hcs, hcl]; rfl
  rw [← hcs, hcs2]
  refine SP ?_; repeat' (first|refine ⟨fun hc=>?_,fun hc=>?_⟩|intro)
  rename_i b1
  refine WL.e rfl (Ef.bsN (n := 14) (r := [.int .i64 a0, .int .i64 a1, .int .i64 a2, .int .i64 a3, .int .i64 a4, .int .i64 a5, .int .i64 a6, .int .i64 a7, .int .i64 a8, .int .i64 a9, .int .i64 a10, .int .i64 a11, .int .i64 a12, .int .i64 a13]) (by exact rfl) (by exact rfl) (by exact rfl) (by exact rfl) rfl (by exact rfl)) ?_
  rintro _ _ ⟨g, rfl, rfl⟩
  rw [← hcs2]
  refine SP ?_; repeat' (first|refine ⟨fun hc=>?_,fun hc=>?_⟩|intro)
  refine W.loop (G := HdG) (fun g' => [(3, .slice (some ⟨g, 0, none⟩) 14 14), (4, S (join 32 (endsW :: (c.take g'.i).map num))), (5, .int .i64 g'.i)]) (fun _ => (g, .cells cs.toArray 2 (0, 0)) :: [(b1, .cells cs.toArray 23 (0, 0))])
    (fun g' => g'.i ≤ 14) (fun g' => 14 - g'.i) ⟨0⟩ (Nat.zero_le _) (by
      have e : join 32 (endsW :: (c.take 0).map num) = endsW := by simp [join]
      rw [e]
      exact envA) (fun _ h => h) ?_
  rintro ⟨i⟩ hi'
  dsimp only at hi' ⊢
  have hj := hlen i
  obtain ⟨js, hjs⟩ : ∃ js, js = join 32 (endsW :: (c.take i).map num) := ⟨_, rfl⟩
  rw [← hjs] at hj ⊢
  refine SP ?_; repeat' (first|refine ⟨fun hc=>?_,fun hc=>?_⟩|intro)
  · have hi2 : i < 14 := by simp at hc; omega
    clear hc
    obtain ⟨x, hx⟩ : ∃ x, c[i]? = some x := ⟨c[i]'(by omega), by simp⟩
    have hxi := hi x (List.mem_of_getElem? hx)
    have hnl := num_len hxi
    refine WL.p rfl (Pu.addS (m := strB js) (n := strB [32]) rfl rfl (by rw [strB_size, strB_size]; simp; omega)) ?_
    have e1 : strB js ++ strB [32] = strB (js ++ [32]) := strB_app _ _
    rw [e1]
    have hia : 0 ≤ (i : Int) ∧ (i : Int) < 14 := by omega
    have hC : Sl.Can F ((g, .cells cs.toArray 2 (0, 0)) :: [(b1, .cells cs.toArray 23 (0, 0))]) g (0 + (i : Int).toNat * 1) [.int .i64 x] := can_own (.head _) (by rw [Nat.zero_add, hcs, ccells, List.getElem?_map, show (i : Int).toNat * 1 = i by omega, hx]; rfl)
    refine SP ?_; repeat' (first|refine ⟨fun hc=>?_,fun hc=>?_⟩|intro)
    refine WL.e rfl (Ef.lookR (by exact rfl) (fun F' hF => number_tr F' [] x hxi)) ?_
    rintro _ _ ⟨rfl, rfl⟩
    refine WL.p rfl (Pu.addS (m := strB (js ++ [32])) (n := strB (num x)) rfl rfl (by rw [strB_size, strB_size]; simp; omega)) ?_
    have e2 : Value.string (strB (js ++ [32]) ++ strB (num x)) = S (join 32 (endsW :: (c.take (i + 1)).map num)) := by
      rw [strB_app, heads_take hx, ← hjs]
      rfl
    rw [e2]
    refine SP ?_; repeat' (first|refine ⟨fun hc=>?_,fun hc=>?_⟩|intro)
    rw [i64_succ (by omega)]
    exact Fin.round ⟨i + 1⟩ hi2 envA (fun _ h => h) (by dsimp only; omega)
  · have hi2 : i = 14 := by simp at hc; omega
    refine Fin.retW (by exact rfl) resA (H' := []) (fun _ h => h.sublist (List.nil_sublist _)) ⟨?_, rfl⟩
    rw [hjs, hi2, List.take_of_length_le (by omega)]
    rfl
/-- events in memory, one behind the other -/
structure EvL (F : Nat → Option Obj) (l : List Evx) (a : Option Addr) (n k : Nat) : Prop where
  lst : Lst F [] 9 (l.flatMap Evx.cells) a n k
  is : ∀ x ∈ l, x.e.Ok ∧ Lst F [] 1 (x.e.bytes.map B) x.ba x.bn x.bc
theorem EvL.n {F : Nat → Option Obj} {l : List Evx} {a : Option Addr} {n k : Nat} (h : EvL F l a n k) : n = l.length := by
  have := h.lst.len
  rw [flat_len' Evx.cells 9 (fun _ => rfl)] at this
  omega
theorem EvL.mono {F F' : Nat → Option Obj} {l : List Evx} {a : Option Addr} {n k : Nat} (h : EvL F l a n k) (hw : ∀ w, In F' [] w → In F [] w) : EvL F' l a n k := ⟨h.lst.mono hw, fun x hx => ⟨(h.is x hx).1, (h.is x hx).2.mono hw⟩⟩
/-- one of events in memory, field by field -/
theorem EvL.at {F : Nat → Option Obj} {H : HL} {l : List Evx} {a : Option Addr} {n k i : Nat} {x : Evx} (h : EvL F l a n k) (hx : l[i]? = some x) : ∃ b o, a = some ⟨b, o, none⟩ ∧ Sl.Can F H b (o + (i : Int).toNat * 9) x.cells := by
  have hlt := (List.getElem?_eq_some_iff.1 hx).1
  have hn := h.n
  obtain ⟨b, o, rfl, hcan⟩ := h.lst.can (by omega)
  have hat := flat_at Evx.cells 9 (fun _ => rfl) l i x hx
  have hsub := hcan.sub (i * 9) 9
  rw [hat] at hsub
  exact ⟨b, o, rfl, by simpa using hsub.mono (fun w h => h.sublist (List.nil_sublist _))⟩
def sizes (l : List Evx) : Nat := (l.map (fun x => x.e.bytes.length)).sum
theorem sizes_mem {l : List Evx} {x : Evx} (h : x ∈ l) : x.e.bytes.length ≤ sizes l := by
  unfold sizes
  induction l with
  | nil => cases h
  | cons y l ih =>
    simp only [List.map_cons, List.sum_cons]
    rcases List.mem_cons.1 h with rfl | h
    · omega
    · have := ih h; omega
theorem EvL.ev {F : Nat → Option Obj} {l : List Evx} {a : Option Addr} {n k : Nat} (h : EvL F l a n k) (hs : sizes l ≤ 32768) : ∀ x ∈ l, x.Is F := fun x hx => ⟨(h.is x hx).1, (h.is x hx).2, by have := sizes_mem hx; omega⟩
end Go.Proofs.YtkelhlffeilakaaGreatDoor
namespace Go.Proofs.YtkelhlffeilakaaGreatDoor
open Go Go.Sl Go.Scr

def cfgSh : Sh := .struct [.int .i64, .int .i64, .int .i64, .int .i64, .int .i64, .int .i64, .int .i64, .int .i64, .int .i64, .int .i64, .int .i64, .int .i64, .int .i64, .int .i64]
theorem cfg_of {w : World} {v : Value} {cs : List Value} (hv : cfgSh.val v cs) (h : cfgSh.rep w cs) : ∃ c : List Int, v = .agg (ccells c).toArray ∧ c.length = 14 ∧ ∀ x ∈ c, I64 x := by
  simp only [cfgSh, Sh.rep, Sh.repAll] at h
  obtain ⟨_, _, rfl, _, ⟨a0, rfl, b0, d0⟩, _, _, rfl, _, ⟨a1, rfl, b1, d1⟩, _, _, rfl, _, ⟨a2, rfl, b2, d2⟩, _, _, rfl, _, ⟨a3, rfl, b3, d3⟩, _, _, rfl, _, ⟨a4, rfl, b4, d4⟩, _, _, rfl, _, ⟨a5, rfl, b5, d5⟩, _, _, rfl, _, ⟨a6, rfl, b6, d6⟩, _, _, rfl, _, ⟨a7, rfl, b7, d7⟩,
    _, _, rfl, _, ⟨a8, rfl, b8, d8⟩, _, _, rfl, _, ⟨a9, rfl, b9, d9⟩, _, _, rfl, _, ⟨a10, rfl, b10, d10⟩, _, _, rfl, _, ⟨a11, rfl, b11, d11⟩, _, _, rfl, _, ⟨a12, rfl, b12, d12⟩, _, _, rfl, _, ⟨a13, rfl, b13, d13⟩, rfl⟩ := h
  have key : ∀ {n : Int}, IntKind.i64.min ≤ n → n ≤ IntKind.i64.max → I64 n := fun h1 h2 => by have := rgI64 h1 h2; exact ⟨this.1, by omega⟩
  refine ⟨[a0, a1, a2, a3, a4, a5, a6, a7, a8, a9, a10, a11, a12, a13], hv, rfl, fun x hx => ?_⟩
  simp only [List.mem_cons, List.not_mem_nil, or_false] at hx
  rcases hx with rfl | rfl | rfl | rfl | rfl | rfl | rfl | rfl | rfl | rfl | rfl | rfl | rfl | rfl
  · exact key b0 d0
  · exact key b1 d1
  · exact key b2 d2
  · exact key b3 d3
  · exact key b4 d4
  · exact key b5 d5
  · exact key b6 d6
  · exact key b7 d7
  · exact key b8 d8
  · exact key b9 d9
  · exact key b10 d10
  · exact key b11 d11
  · exact key b12 d12
  · exact key b13 d13
end Go.Proofs.YtkelhlffeilakaaGreatDoor
