/- A net made out of a config, walked: whether it may be, and the machine of a script without events. No conditions but that numbers are 64 bits wide. -/
import Derived.Test.YtkelhlffeilakaaGreatDoorBuD
import Derived.Test.YtkelhlffeilakaaGreatDoorBuK
import Derived.Test.YtkelhlffeilakaaGreatDoorStQ
namespace Go.Proofs.YtkelhlffeilakaaGreatDoor
open Go Go.Sl Go.Scr

structure NtG where
  i : Nat
  x0 : Option Addr
  x1 : Option Addr
set_option maxHeartbeats 8000000 in
theorem netNew_tr (F : Nat → Option Obj) (c : List Int) (hc : c.length = 14) : Tr Tryz.prog 7 [.agg (ccells c).toArray].toArray F [] (fun v H' => NewQ (endOkC c) v ∧ H' = []) := by
  refine Tr.enter Tryz.func7 rfl Tryz.ntmps7 rfl (fun w0 => ?_)
  have h1 := fun F' kb ka kc h => endNew_tr F' c hc kb ka kc h
  have hpaths : endOkC c → 1 ≤ c.getD 0 0 ∧ c.getD 0 0 ≤ 4 := fun h => h.1.1.1
  obtain ⟨okc, hokc⟩ : ∃ p, p = endOkC c := ⟨_, rfl⟩
  rw [← hokc] at h1 hpaths ⊢
  clear hokc
  obtain ⟨a0, a1, a2, a3, a4, a5, a6, a7, a8, a9, a10, a11, a12, a13, rfl⟩ := list14 hc
  unfold ccells at h1 ⊢
  simp only [List.map_cons, List.map_nil] at h1 ⊢
  simp only [List.getD_cons_zero] at hpaths
  refine SP ?_; repeat' (first|refine ⟨fun hc=>?_,fun hc=>?_⟩|intro)
  rename_i b1 b2
  refine W.loop (G := NtG) (fun g => [(10, .int .i64 g.i), (4, .pointer (some ⟨b2, 0, none⟩)), (1, .pointer (some ⟨b1, 0, none⟩))])
    (fun g => (b2, .cells ([.pointer g.x0, .pointer g.x1, .int .i64 0, .int .u32 0, .slice none 0 0, .slice none 0 0] : List Value).toArray 71 (0, 0)) :: [(b1, .cells ([.int .i64 a0, .int .i64 a1, .int .i64 a2, .int .i64 a3, .int .i64 a4, .int .i64 a5, .int .i64 a6, .int .i64 a7, .int .i64 a8, .int .i64 a9, .int .i64 a10, .int .i64 a11, .int .i64 a12, .int .i64 a13] : List Value).toArray 23 (0, 0))])
    (fun g => g.i ≤ 2 ∧ (1 ≤ g.i → okc)) (fun g => 2 - g.i) ⟨0, none, none⟩ ⟨by decide, fun h => absurd h (by decide)⟩ envA (fun _ h => h) ?_
  rintro ⟨i, x0, x1⟩ ⟨hi, hok⟩
  dsimp only at hi hok ⊢
  have hi' : i = 0 ∨ i = 1 ∨ i = 2 := by omega
  rcases hi' with rfl | rfl | rfl
  · refine SP ?_; repeat' (first|refine ⟨fun hc=>?_,fun hc=>?_⟩|intro)
    rename_i bk
    rw [show IntKind.u8.wrap (IntKind.i64.wrap (48 + ((0 : Nat) : Int))) = 48 from by decide]
    refine WL.e rfl (Ef.callW (c := []) (by exact rfl) (Sub.nil _) (fun F' hF => h1 F' 48 (some ⟨bk, 0, none⟩) 1 ((Lst.own (F := F) (H := [(bk, .cells ([.int .u8 48] : List Value).toArray 5 (0, 0))]) (own_lit (E := 5) (l := [B 48]) (by simp)) (fun _ h => h)).mono (fun w h => (hF w h).sublist findA)))) ?_
    rintro _ _ ⟨_, (⟨g1, p1, rfl⟩ | ⟨g1, rfl⟩), rfl⟩
    · refine SP ?_; repeat' (first|refine ⟨fun hc=>?_,fun hc=>?_⟩|intro)
      exact Fin.round ⟨1, some p1, x1⟩ ⟨by dsimp only; omega, fun _ => g1⟩ envA (fun _ h => h.sublist findA) (by dsimp only; omega)
    · refine SP ?_; repeat' (first|refine ⟨fun hc=>?_,fun hc=>?_⟩|intro)
      exact Fin.retW (by exact rfl) resA (H' := []) (fun _ h => h.sublist (List.nil_sublist _)) ⟨.inr ⟨g1, rfl⟩, rfl⟩
  · refine SP ?_; repeat' (first|refine ⟨fun hc=>?_,fun hc=>?_⟩|intro)
    rename_i bk
    rw [show IntKind.u8.wrap (IntKind.i64.wrap (48 + ((1 : Nat) : Int))) = 49 from by decide]
    refine WL.e rfl (Ef.callW (c := []) (by exact rfl) (Sub.nil _) (fun F' hF => h1 F' 49 (some ⟨bk, 0, none⟩) 1 ((Lst.own (F := F) (H := [(bk, .cells ([.int .u8 49] : List Value).toArray 5 (0, 0))]) (own_lit (E := 5) (l := [B 49]) (by simp)) (fun _ h => h)).mono (fun w h => (hF w h).sublist findA)))) ?_
    rintro _ _ ⟨_, (⟨g1, p1, rfl⟩ | ⟨g1, rfl⟩), rfl⟩
    · refine SP ?_; repeat' (first|refine ⟨fun hc=>?_,fun hc=>?_⟩|intro)
      exact Fin.round ⟨2, x0, some p1⟩ ⟨by dsimp only; omega, fun _ => g1⟩ envA (fun _ h => h.sublist findA) (by dsimp only; omega)
    · refine SP ?_; repeat' (first|refine ⟨fun hc=>?_,fun hc=>?_⟩|intro)
      exact Fin.retW (by exact rfl) resA (H' := []) (fun _ h => h.sublist (List.nil_sublist _)) ⟨.inr ⟨g1, rfl⟩, rfl⟩
  · have hk := hok (by decide)
    have hp := hpaths hk
    obtain ⟨k, rfl⟩ : ∃ k : Nat, a0 = k := ⟨a0.toNat, by omega⟩
    refine SP ?_; repeat' (first|refine ⟨fun hc=>?_,fun hc=>?_⟩|intro)
    refine WL.e rfl (Ef.mkS (n := k) (z := [.bool false]) rfl rfl rfl rfl (by omega) (by omega)) ?_
    rintro _ _ ⟨g, rfl, rfl⟩
    refine SP ?_; repeat' (first|refine ⟨fun hc=>?_,fun hc=>?_⟩|intro)
    exact Fin.retW (by exact rfl) resA (H' := []) (fun _ h => h.sublist (List.nil_sublist _)) ⟨.inl ⟨hk, _, rfl⟩, rfl⟩
/-- the machine of a script without events: whether its net may be -/
noncomputable def endM (F0 : Nat → Option Obj) : Mach F0 where
  σ := Addr
  p := id
  H := fun _ => []
  Good := fun _ l => l = []
  Pre := fun _ l => l = []
  Start := fun c _ => endOkC c
  Err := fun c e => e = 1 ∧ ¬ endOkC c
  Step := fun _ _ _ _ => False
  new := fun F c l _ hl hc _ => (netNew_tr F c hc).mono fun v H' h => by
    obtain ⟨h, rfl⟩ := h
    rcases h with ⟨h, a, rfl⟩ | ⟨h, rfl⟩
    · exact .inl ⟨a, rfl, rfl, h, hl⟩
    · exact .inr ⟨none, 1, by decide, rfl, rfl, rfl, h⟩
  step := fun F s x l _ hg _ _ => by cases hg
end Go.Proofs.YtkelhlffeilakaaGreatDoor
