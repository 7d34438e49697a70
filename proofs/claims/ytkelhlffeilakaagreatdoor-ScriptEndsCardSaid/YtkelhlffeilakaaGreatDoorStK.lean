/- A config's line, and an event's line, walked. Conditions: what is read lies in memory; lengths within bounds. -/
import Derived.Test.YtkelhlffeilakaaGreatDoorBuD
import Derived.Test.YtkelhlffeilakaaGreatDoorStJ
namespace Go.Proofs.YtkelhlffeilakaaGreatDoor
open Go Go.Sl Go.Scr

/-- fields of a config, as the line's walk asks for them -/
def cfp (b : Nat) (c : List Int) : List Fp := List.zipWith (fun (f : Fl) x => ⟨f.1, b, f.2, .n x, .int .i64 x⟩) cfl c
theorem cfp_ptr {b : Nat} {c : List Int} (h : c.length = 14) : (cfp b c).map Fp.ptr = cfl.map (flp b) := by
  obtain ⟨a0, a1, a2, a3, a4, a5, a6, a7, a8, a9, a10, a11, a12, a13, rfl⟩ := list14 h
  rfl
theorem cfp_wd {b : Nat} {c : List Int} (h : c.length = 14) : (cfp b c).map (fun p => wd p.v) = c.map num := by
  obtain ⟨a0, a1, a2, a3, a4, a5, a6, a7, a8, a9, a10, a11, a12, a13, rfl⟩ := list14 h
  rfl
set_option maxHeartbeats 4000000 in
theorem head_tr (F : Nat → Option Obj) (hG : Gl F) (c : List Int) (hc : c.length = 14) (hi : ∀ x ∈ c, I64 x) : Tr Tryz.prog 4 [.agg (ccells c).toArray].toArray F [] (fun v H' => v = S (head c) ∧ H' = []) := by
  refine Tr.enter Tryz.func4 rfl Tryz.ntmps4 rfl (fun w0 => ?_)
  refine SP ?_; repeat' (first|refine ⟨fun hc=>?_,fun hc=>?_⟩|intro)
  rename_i b
  refine WL.e rfl (Ef.callW (c := [(b, .cells (ccells c).toArray 23 (0, 0))]) (by exact rfl) subA (fun F' hF => numbers_tr F' (ccells c) b)) ?_
  rintro _ _ ⟨_, ⟨ga, gn, gc, hg, rfl, hgo, rfl⟩, rfl⟩
  rw [← cfp_ptr hc] at hgo
  have hfp : ∀ p ∈ cfp b c, ∃ (k : KT) (o : Nat) (x : Int), p = ⟨k, b, o, .n x, .int .i64 x⟩ ∧ (k = .int ∨ k = .i64) ∧ I64 x ∧ (ccells c)[o]? = some (.int .i64 x) := by
    obtain ⟨a0, a1, a2, a3, a4, a5, a6, a7, a8, a9, a10, a11, a12, a13, rfl⟩ := list14 hc
    intro p hp
    simp only [cfp, cfl, List.zipWith, List.mem_cons, List.not_mem_nil, or_false] at hp
    rcases hp with rfl | rfl | rfl | rfl | rfl | rfl | rfl | rfl | rfl | rfl | rfl | rfl | rfl | rfl <;> exact ⟨_, _, _, rfl, by simp, hi _ (by simp), rfl⟩
  refine WL.e rfl (Ef.lookR (by exact rfl) (fun F' hF => line_tr F' [] (hG.at hF) endsW (cfp b c) ga gn gc ((Lst.own (F := F) (H := hg) hgo (fun _ h => h)).mono (fun w h => (hF w h).sublist (by simp))) (fun p hp => ?_) (by simp [endsW]) (by simp [cfp, cfl, hc]))) ?_
  · obtain ⟨k, o, x, rfl, hk, hx, ho⟩ := hfp p hp
    refine ⟨(can_own (F := F) (H := [(b, .cells (ccells c).toArray 23 (0, 0))]) (.head _) ho).mono (fun w h => (hF w h).sublist (by simp)), ?_⟩
    rcases hk with rfl | rfl
    · exact .int hx
    · exact .i64 hx
  rintro _ _ ⟨rfl, rfl⟩
  refine SP ?_; repeat' (first|refine ⟨fun hc=>?_,fun hc=>?_⟩|intro)
  refine Fin.retW (by exact rfl) resA (H' := []) (fun _ h => h.sublist (List.nil_sublist _)) ⟨?_, rfl⟩
  rw [cfp_wd hc]
  rfl
end Go.Proofs.YtkelhlffeilakaaGreatDoor
