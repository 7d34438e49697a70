/- A set of numbers beyond a base: its keys sorted by how far they are beyond it: the closures of 'Gaps', slices.SortedFunc, walked. Conditions: the set is well formed. -/
import Derived.Test.YthjglhdjlmjffaaGreatSpE
import Derived.Test.YthjglhdjlmjffaaGreatSlL
import Derived.Test.YthjglhdjlmjffaaGreatSpL
namespace Go.Proofs.YthjglhdjlmjffaaGreat
open Go Go.Sl Go.Spn

def far16 (b y : Int) : Int := IntKind.u16.wrap (u32 (y - b))
theorem far16_rng (b y : Int) : 0 ≤ far16 b y ∧ far16 b y < 65536 := by unfold far16; simp [IntKind.wrap, IntKind.bits, IntKind.signed]; omega
theorem far16_small {b y : Int} (h : far b y ≤ 4096) : far16 b y = far b y := by
  unfold far16
  rw [← far_int]
  simp [IntKind.wrap, IntKind.bits, IntKind.signed]
  omega
theorem farF_tr (F : Nat → Option Obj) (b2 R : Nat) (b y : Int) (h2 : Sl.Can F [] b2 0 [.pointer (some ⟨R, 0, none⟩)]) (hR : Sl.Can F [] R 0 [.int .u32 b]) :
    Tr Tryz.prog 104 [.int .u32 y, .pointer (some ⟨b2, 0, none⟩)].toArray F [] (fun v H => v = .int .u16 (far16 b y) ∧ H = []) := by
  refine Tr.enter Tryz.func104 rfl Tryz.ntmps104 rfl (fun w0 => ?_)
  have hR0 : Sl.Can F [] R (0 + 0) [.int .u32 b] := hR
  repeat' (first | refine S1 ?_ | refine SD ?_ | refine SA (fun _ => ?_) | refine WL.g_split rfl rfl (fun hc => ?_) (fun hc => ?_) | refine WD.g_split rfl rfl (fun hc => ?_) (fun hc => ?_) | refine W.cond rfl (fun hc => ?_) (fun hc => ?_))
  refine WL.e rfl (Ef.callR (by exact rfl) (.nil _) (ahead_tr _ b y)) ?_
  rintro _ _ ⟨rfl, rfl⟩
  repeat' (first | refine S1 ?_ | refine SD ?_ | refine SA (fun _ => ?_) | refine WL.g_split rfl rfl (fun hc => ?_) (fun hc => ?_) | refine WD.g_split rfl rfl (fun hc => ?_) (fun hc => ?_) | refine W.cond rfl (fun hc => ?_) (fun hc => ?_))
  exact Fin.retW (by exact rfl) resA (fun _ h => h) ⟨rfl, rfl⟩
/-- the value of the closure that tells how far -/
def farV (b2 : Nat) : Value := .func (.func 104) ([] : List Value).toArray [.pointer (some ⟨b2, 0, none⟩)].toArray
theorem nearF_tr (F : Nat → Option Obj) (b5 b2 R : Nat) (b y z : Int) (h5 : Sl.Can F [] b5 0 [farV b2]) (h2 : Sl.Can F [] b2 0 [.pointer (some ⟨R, 0, none⟩)]) (hR : Sl.Can F [] R 0 [.int .u32 b]) :
    Tr Tryz.prog 105 [.int .u32 y, .int .u32 z, .pointer (some ⟨b5, 0, none⟩)].toArray F [] (fun v H => v = .int .i64 (far16 b y - far16 b z) ∧ H = []) := by
  refine Tr.enter Tryz.func105 rfl Tryz.ntmps105 rfl (fun w0 => ?_)
  have r1 := far16_rng b y
  have r2 := far16_rng b z
  repeat' (first | refine S1 ?_ | refine SD ?_ | refine SA (fun _ => ?_) | refine WL.g_split rfl rfl (fun hc => ?_) (fun hc => ?_) | refine WD.g_split rfl rfl (fun hc => ?_) (fun hc => ?_) | refine W.cond rfl (fun hc => ?_) (fun hc => ?_))
  refine WD.e rfl (Ef.lookV (f := 104) (fv := []) (cv := [.pointer (some ⟨b2, 0, none⟩)]) (vals := [.int .u32 y]) (all := [.int .u32 y, .pointer (some ⟨b2, 0, none⟩)]) rfl (by exact rfl) rfl (fun F' hF => farF_tr F' b2 R b y (h2.mono hF) (hR.mono hF))) ?_
  rintro _ _ ⟨rfl, rfl⟩
  refine ⟨by first | (refine Or.inr (fun _ h => h.sublist ?_); (repeat (first | exact List.Sublist.refl _ | refine List.Sublist.cons_cons _ ?_ | refine List.Sublist.cons _ ?_)); first | done | fail) | exact Or.inl (by kernel_rfl), ?_⟩
  repeat' (first | refine S1 ?_ | refine SD ?_ | refine SA (fun _ => ?_) | refine WL.g_split rfl rfl (fun hc => ?_) (fun hc => ?_) | refine WD.g_split rfl rfl (fun hc => ?_) (fun hc => ?_) | refine W.cond rfl (fun hc => ?_) (fun hc => ?_))
  refine WD.e rfl (Ef.lookV (f := 104) (fv := []) (cv := [.pointer (some ⟨b2, 0, none⟩)]) (vals := [.int .u32 z]) (all := [.int .u32 z, .pointer (some ⟨b2, 0, none⟩)]) rfl (by exact rfl) rfl (fun F' hF => farF_tr F' b2 R b z (h2.mono hF) (hR.mono hF))) ?_
  rintro _ _ ⟨rfl, rfl⟩
  refine ⟨by first | (refine Or.inr (fun _ h => h.sublist ?_); (repeat (first | exact List.Sublist.refl _ | refine List.Sublist.cons_cons _ ?_ | refine List.Sublist.cons _ ?_)); first | done | fail) | exact Or.inl (by kernel_rfl), ?_⟩
  repeat' (first | refine S1 ?_ | refine SD ?_ | refine SA (fun _ => ?_) | refine WL.g_split rfl rfl (fun hc => ?_) (fun hc => ?_) | refine WD.g_split rfl rfl (fun hc => ?_) (fun hc => ?_) | refine W.cond rfl (fun hc => ?_) (fun hc => ?_))
  refine Fin.retW (by exact rfl) resA (fun _ h => h) ⟨?_, rfl⟩
  dsimp only [tup]
  rw [i64_id (n := far16 b y) (by omega) (by omega), i64_id (n := far16 b z) (by omega) (by omega), i64_id (by omega) (by omega)]
/-- what the comparison looks at -/
def SM.CH (s : SM) (b5 b2 : Nat) : HL := [(b5, .cells [farV b2].toArray 149 (0, 0)), (b2, .cells [.pointer (some ⟨s.R, 0, none⟩)].toArray 103 (0, 0)), (s.R, .cells [.int .u32 s.base, .map (some s.M)].toArray 125 (0, 0))]
def nearC (b : Int) (x y : Se) : Int := far16 b x.key - far16 b y.key
theorem near_swo (b : Int) : Sort.SWO (ltOf (nearC b)) := by
  have e : ∀ x y, ltOf (nearC b) x y = decide (far16 b x.key < far16 b y.key) := fun x y => by
    unfold ltOf nearC
    congr 1
    apply propext
    omega
  refine ⟨fun x => by rw [e]; simp, fun x y z h1 h2 => ?_, fun x y z h1 h2 => ?_⟩
  · rw [e] at *; simp at *; omega
  · rw [e] at *; simp at *; omega
instance : Inhabited Se := ⟨⟨0, 0⟩⟩
theorem sorted_tr (F : Nat → Option Obj) (s : SM) (hs : s.ok) (bm b5 b2 : Nat) :
    Tr Tryz.prog 106 [.func (.func 116) ([] : List Value).toArray [.pointer (some ⟨bm, 0, none⟩)].toArray, .func (.func 105) ([] : List Value).toArray [.pointer (some ⟨b5, 0, none⟩)].toArray].toArray F (s.KH bm ++ s.CH b5 b2)
      (fun v H => ∃ (ks : List Se) (sa : Option Addr) (sn sc : Nat) (hb : HL), ks.Perm s.es ∧ ks.Pairwise (fun a b => far16 s.base a.key ≤ far16 s.base b.key) ∧ v = .slice sa sn sc ∧ OwnS 24 1 (ks.map seV) v hb ∧ H = hb ++ (s.KH bm ++ s.CH b5 b2)) := by
  refine Tr.enter Tryz.func106 rfl Tryz.ntmps106 rfl (fun w0 => ?_)
  have hlen := SM.len hs
  have hle := dist_le s.S.p
  repeat' (first | refine S1 ?_ | refine SD ?_ | refine SA (fun _ => ?_) | refine WL.g_split rfl rfl (fun hc => ?_) (fun hc => ?_) | refine WD.g_split rfl rfl (fun hc => ?_) (fun hc => ?_) | refine W.cond rfl (fun hc => ?_) (fun hc => ?_))
  refine WL.e rfl (Ef.call (by exact rfl) (.one _ _) (collect_tr _ s hs bm)) ?_
  rintro _ _ ⟨_, ⟨ks, sa, sn, sc, hb, hp, rfl, hown, rfl⟩, rfl⟩
  rw [List.append_assoc]
  repeat' (first | refine S1 ?_ | refine SD ?_ | refine SA (fun _ => ?_) | refine WL.g_split rfl rfl (fun hc => ?_) (fun hc => ?_) | refine WD.g_split rfl rfl (fun hc => ?_) (fun hc => ?_) | refine W.cond rfl (fun hc => ?_) (fun hc => ?_))
  have hkl := hown.len
  have hpl := hp.length_eq
  unfold count at hlen
  rw [List.length_map] at hkl
  have hsort : ∀ F', Tr Tryz.prog 115 [.slice sa sn sc, .func (.func 105) ([] : List Value).toArray [.pointer (some ⟨b5, 0, none⟩)].toArray].toArray F' (hb ++ s.CH b5 b2) _ := fun F' =>
    sortFunc_tr sortU seV (fun _ => rfl) (nearC s.base) (near_swo s.base) 105 [.pointer (some ⟨b5, 0, none⟩)] (enters_of Tryz.func105 (by kernel_rfl) rfl) F' (s.CH b5 b2)
      (fun F2 hF x y => nearF_tr F2 b5 b2 s.R s.base x.key y.key ((Can.cut (n := 1) (.here rfl)).mono hF) ((Can.cut (n := 1) (.there (.here rfl))).mono hF) ((Can.cut (n := 1) (.there (.there (.here rfl)))).mono hF)) hown (by omega)
  refine WL.e rfl (Ef.call (by exact rfl) (.pickL (L := hb) .here (.last (.right .all))) (hsort _)) ?_
  rintro _ _ ⟨_, ⟨rfl, ys, hb', hp', hso, hown', rfl⟩, rfl⟩
  repeat' (first | refine S1 ?_ | refine SD ?_ | refine SA (fun _ => ?_) | refine WL.g_split rfl rfl (fun hc => ?_) (fun hc => ?_) | refine WD.g_split rfl rfl (fun hc => ?_) (fun hc => ?_) | refine W.cond rfl (fun hc => ?_) (fun hc => ?_))
  refine Fin.retW (by exact rfl) resA (H' := hb' ++ (s.KH bm ++ s.CH b5 b2)) (fun _ h => ?_) ⟨ys, sa, sn, sc, hb', hp'.trans hp, ?_, rfl, by exact hown', rfl⟩
  · rw [List.append_assoc] at h
    exact In.of_sub (.pickL (L := hb') .here (.pickL (L := s.KH bm) (.right .here) (.last (L := s.CH b5 b2) .here))) h
  · refine hso.imp (fun {a b} h => ?_)
    unfold ltOf nearC at h
    simp at h
    omega
/-- the numbers, sorted, are the distances in order -/
theorem sorted_dist {s : SM} (hs : s.ok) {ks : List Se} (hp : ks.Perm s.es) (hso : ks.Pairwise (fun a b => far16 s.base a.key ≤ far16 s.base b.key)) : ks.map (fun e => far s.base e.key) = dist s.S.p := by
  have hin : ∀ e ∈ ks, e ∈ s.es := fun e he => hp.mem_iff.1 he
  have hnd : (ks.map (·.key)).Nodup := (hp.map _).nodup_iff.2 hs.keys
  refine sorted_ext (List.pairwise_map.2 ?_) (dist_sorted _) (fun d => ?_)
  · refine (hso.and (List.pairwise_map.1 hnd)).imp_of_mem (fun {a b} ha hb h => ?_)
    obtain ⟨h1, h2⟩ := h
    have wa := inW_iff.1 (hs.win a (hin a ha))
    have wb := inW_iff.1 (hs.win b (hin b hb))
    rw [far16_small wa.2, far16_small wb.2] at h1
    have : far s.base a.key ≠ far s.base b.key := fun he => h2 (by
      rw [← far_back hs.base (hs.rng a (hin a ha)), ← far_back hs.base (hs.rng b (hin b hb)), he])
    omega
  · rw [mem_dist, List.mem_map]
    constructor
    · rintro ⟨e, he, rfl⟩
      have he' := hin e he
      have hw := hs.win e he'
      refine ⟨(inW_iff.1 hw).2, ?_⟩
      rw [SM.S_p hs.base (hs.rng e he'), hw, SM.isIn_iff.2 ⟨e, he', rfl⟩]
      rfl
    · rintro ⟨_, hd⟩
      dsimp only [SM.S] at hd
      rw [Bool.and_eq_true] at hd
      obtain ⟨e, he, hk⟩ := SM.isIn_iff.1 hd.2
      refine ⟨e, hp.mem_iff.2 he, ?_⟩
      have := inW_iff.1 hd.1
      have hb := hs.base
      rw [hk]
      unfold far
      simp only [u32_eq]
      omega
end Go.Proofs.YthjglhdjlmjffaaGreat
