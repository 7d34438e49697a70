/- The law's 'works', walked: a sender works at all. No conditions. -/
import Derived.Test.YtjfpckadjnjmoaaGreatSnI
import Derived.Test.YtjfpckadjnjmoaaGreatSnF
namespace Go.Proofs.YtjfpckadjnjmoaaGreat
open Go Go.Sl Go.Pth

def plainC (p : Int) : Cfg := ⟨1 + p % 4, 128, 2, 65536, 65536, 1000, 3, 1, 60, 5, 100, 10, 2, 5⟩
theorem plain_tr (F : Nat → Option Obj) (p : Int) (hp : 0 ≤ p ∧ p < 256) : Tr Tryz.prog 6 [.int .u8 p].toArray F [] (fun v H => v = .agg (plainC p).cells.toArray ∧ H = []) := by
  refine Tr.enter Tryz.func6 rfl Tryz.ntmps6 rfl (fun w0 => ?_)
  repeat' (first | refine S2b ?_ | refine SD ?_ | refine SA (fun _ => ?_) | refine G1 (fun hc => ?_) (fun hc => ?_) | refine G2 (fun hc => ?_) (fun hc => ?_) | refine G3 (fun hc => ?_) (fun hc => ?_))
  refine Fin.retW (by exact rfl) resA (H' := []) (fun _ h => h.sublist (List.nil_sublist _)) ⟨?_, rfl⟩
  have e1 : IntKind.i64.wrap p = p := i64_id (by omega) (by omega)
  have e2 : p.tmod 4 = p % 4 := Int.tmod_eq_emod_of_nonneg (by omega)
  have e3 : IntKind.i64.wrap (1 + p % 4) = 1 + p % 4 := i64_id (by omega) (by omega)
  simp only [e1, e2, e3, plainC, Cfg.cells, tup]
theorem plain_may (p : Int) : (plainC p).sndMay 0 = true := by
  have h : 0 ≤ p % 4 ∧ p % 4 < 4 := by omega
  unfold Cfg.sndMay plainC Cfg.pathMay
  dsimp only
  rw [decide_eq_true (by omega)]
  rfl
def wz (n : Nat) : List UInt8 := List.replicate n 0
theorem mk_wz (n : Nat) : mkCells [.int .u8 0] n = (wz n).map B := by
  induction n with
  | zero => rfl
  | succ n ih => rw [mkCells, ih]; rfl
def wp : Pth.S := ⟨⟨3, 1, 60, false, 0, 0⟩, ⟨128, 1000, 256, 1000, 0⟩, 0, 2, 10, 10, false⟩
def wS0 : Snd.S := ⟨⟨[], 0, 65536, 0, [0, 0]⟩, ⟨[], 9, 2⟩, [⟨wp, -1, false, 0⟩, ⟨wp, -1, false, 0⟩], 400, 400, 128, [], [], false, 0, 0, 1⟩
def wS1 : Snd.S := ⟨⟨[⟨0, true, wz 150, 0, 0, 0, 0⟩], 1, 65536, 150, [0, 0]⟩, ⟨[], 9, 2⟩, [⟨wp, -1, false, 0⟩, ⟨wp, -1, false, 0⟩], 400, 400, 128, [], [], false, 0, 0, 1⟩
def wS2 : Snd.S := ⟨⟨[⟨0, true, wz 150, 0, 0, 100, 0⟩], 1, 65536, 150, [1, 0]⟩, ⟨[⟨10, 0, 0, false, true, false, wz 100, 0, 0, 0, 0, false, false, false, false⟩], 9, 2⟩, [⟨wp, 3, false, 0⟩, ⟨wp, -1, false, 0⟩], 300, 400, 128, [], [], false, 0, 0, 1⟩
def wS3 : Snd.S := ⟨⟨[], 1, 65536, 150, [1, 0]⟩, ⟨[⟨10, 0, 0, false, true, false, wz 100, 0, 0, 0, 0, false, false, false, false⟩, ⟨11, 0, 0, false, false, true, wz 50, 0, 0, 0, 0, false, false, false, false⟩], 9, 2⟩, [⟨wp, 3, false, 0⟩, ⟨wp, -1, false, 0⟩], 250, 400, 128, [], [], false, 0, 0, 1⟩
def wd1 : Flt.Dt := ⟨10, 0, 0, false, true, false, wz 100⟩
def wd2 : Flt.Dt := ⟨11, 0, 0, false, false, true, wz 50⟩
theorem wN0 : (plainC 1).sndNew 10 400 0 = wS0 := by kernel_rfl
theorem wE1 : Snd.putE wS0 0 150 0 0 = 0 := by kernel_rfl
theorem wN1 : Snd.put wS0 0 true (wz 150) 0 0 = wS1 := by kernel_rfl
theorem wN2 : Snd.next wS1 0 = (wS2, some (0, [wd1])) := by kernel_rfl
theorem wN3 : Snd.next wS2 0 = (wS3, some (0, [wd2])) := by kernel_rfl
theorem wN4 : Snd.next wS3 0 = (wS3, none) := by kernel_rfl
theorem wN5 : (Snd.sack wS3 11 400 [] 2).map Snd.empty = some true := by kernel_rfl
theorem OuM.ok.one {o : OuM} (h : o.ok) {d : Flt.Dt} (hL : o.L = [d]) : ∃ (b off : Nat) (ba : Option Addr) (bc : Nat), o.sa = some ⟨b, off, none⟩ ∧ o.sn = 1 ∧ ∀ F : Nat → Option Obj, Sl.Can F o.hb b (off + (0 : Int).toNat * 7 + 6) [.slice ba d.bs.length bc] ∧ Sl.Can F o.hb b (off + (0 : Int).toNat * 7 + 0) [.int .u32 d.tsn] := by
  have hl := h.len
  have hr := h.row
  unfold OuM.L at hL
  obtain ⟨m, hm, hd⟩ : ∃ m, o.ds = [m] ∧ m.d = d := by
    cases hds : o.ds with
    | nil => rw [hds] at hL; cases hL
    | cons m r =>
      rw [hds, List.map_cons] at hL
      obtain ⟨h1, h2⟩ := List.cons.inj hL
      exact ⟨m, by rw [List.map_eq_nil_iff.1 h2], h1⟩
  have hsn : o.sn = 1 := by rw [hm] at hl; simpa using hl.symm
  have hbn : m.bn = d.bs.length := by
    have := OwnS.len (h.own m (by rw [hm]; exact List.mem_singleton.2 rfl))
    rw [hd] at this
    simp at this
    omega
  rw [hm, hsn] at hr
  have hL := fun F : Nat → Option Obj => Lst.own (F := F) hr (fun _ hh => hh)
  obtain ⟨b, off, ha, _⟩ := (hL (fun _ => none)).can (by decide)
  refine ⟨b, off, m.ba, m.bc, ha, hsn, fun F => ?_⟩
  obtain ⟨b', off', ha', hcan⟩ := (hL F).can (by decide)
  rw [ha] at ha'
  cases ha'
  rw [← hbn, ← hd]
  exact ⟨hcan.one (i := 6) rfl, hcan.one (i := 0) rfl⟩
set_option maxHeartbeats 4000000 in
theorem works_tr (F : Nat → Option Obj) : Tr Tryz.prog 4 [].toArray F [] (fun v H => v = .bool true ∧ H = []) := by
  refine Tr.enter Tryz.func4 rfl Tryz.ntmps4 rfl (fun w0 => ?_)
  repeat' (first | refine S1 ?_ | refine SD ?_ | refine SA (fun _ => ?_) | refine G1 (fun hc => ?_) (fun hc => ?_) | refine G2 (fun hc => ?_) (fun hc => ?_) | refine G3 (fun hc => ?_) (fun hc => ?_))
  refine WL.e rfl (Ef.callR (by exact rfl) (.nil _) (plain_tr _ 1 (by omega))) ?_
  rintro _ _ ⟨rfl, rfl⟩
  repeat' (first | refine S1 ?_ | refine SD ?_ | refine SA (fun _ => ?_) | refine G1 (fun hc => ?_) (fun hc => ?_) | refine G2 (fun hc => ?_) (fun hc => ?_) | refine G3 (fun hc => ?_) (fun hc => ?_))
  refine WL.e rfl (Ef.call (by exact rfl) (.nil _) (snew_tr _ (plainC 1) 10 400 0 (by omega))) ?_
  rintro _ _ ⟨_, (⟨hno, _⟩ | ⟨_, s0, hs0, rfl, rfl, hS0⟩), rfl⟩
  · rw [plain_may] at hno; cases hno
  rw [wN0] at hS0
  dsimp only [tup]
  rw [List.append_nil]
  repeat' (first | refine S1 ?_ | refine SD ?_ | refine SA (fun _ => ?_) | refine G1 (fun hc => ?_) (fun hc => ?_) | refine G2 (fun hc => ?_) (fun hc => ?_) | refine G3 (fun hc => ?_) (fun hc => ?_))
  refine WL.e rfl (Ef.mkS (n := 150) (z := [.int .u8 0]) (by exact rfl) (by exact rfl) rfl rfl (by decide) (by decide)) ?_
  rintro _ _ ⟨z1, rfl, rfl⟩
  rw [mk_wz]
  repeat' (first | refine S1 ?_ | refine SD ?_ | refine SA (fun _ => ?_) | refine G1 (fun hc => ?_) (fun hc => ?_) | refine G2 (fun hc => ?_) (fun hc => ?_) | refine G3 (fun hc => ?_) (fun hc => ?_))
  refine WL.e rfl (Ef.callW (c := s0.H) (by exact rfl) (.skip _ (.all _)) (fun F' hF => sput_tr F' s0 hs0 (by decide) 0 (by omega) true (wz 150) (some ⟨z1, 0, none⟩) 150 150 (Lst.mono (F := F) (H := [(z1, .cells ((wz 150).map B).toArray 5 (0, 0))]) ⟨rfl, Nat.le_refl _, fun _ => ⟨z1, 0, rfl, Can.cut (n := 150) (.here (by kernel_rfl))⟩, fun h => by cases h⟩ (fun w h => hF w h)) 0 0)) ?_
  rintro _ _ ⟨_, ⟨rfl, s1, hs1, rfl, hR1, hS1⟩, rfl⟩
  rw [hS0, wN1] at hS1
  rw [hS0, show (wz 150).length = 150 from rfl, wE1, ← hR1]
  refine WL.weak (H' := s1.H) (fun _ h => h.left) ?_
  repeat' (first | refine S1 ?_ | refine SD ?_ | refine SA (fun _ => ?_) | refine G1 (fun hc => ?_) (fun hc => ?_) | refine G2 (fun hc => ?_) (fun hc => ?_) | refine G3 (fun hc => ?_) (fun hc => ?_))
  refine WL.e rfl (Ef.call (c := s1.H) (by exact rfl) (.all _) (snx_tr _ s1 hs1 0)) ?_
  rintro _ _ ⟨_, hq, rfl⟩
  rw [hS1, wN2] at hq
  obtain ⟨s2, o1, rfl, hs2, hR2, hS2, ho1, hL1, rfl⟩ := hq
  obtain ⟨b1, f1, ba1, bc1, ha1, hn1, hc1⟩ := ho1.one hL1
  obtain ⟨hc1a, hc1b⟩ := hc1 F
  rw [ha1, hn1, ← hR2, List.append_nil]
  dsimp only [tup]
  refine WL.weak (H' := o1.hb ++ s2.H) (fun _ h => In.of_sub (.pickL (L := o1.hb) .here (.last (.right .all))) h) ?_
  repeat' (first | refine S1 ?_ | refine SD ?_ | refine SA (fun _ => ?_) | refine G1 (fun hc => ?_) (fun hc => ?_) | refine G2 (fun hc => ?_) (fun hc => ?_) | refine G3 (fun hc => ?_) (fun hc => ?_))
  refine WL.e rfl (Ef.call (c := s2.H) (by exact rfl) (.skipL o1.hb (.all _)) (snx_tr _ s2 hs2 0)) ?_
  rintro _ _ ⟨_, hq, rfl⟩
  rw [hS2, wN3] at hq
  obtain ⟨s3, o2, rfl, hs3, hR3, hS3, ho2, hL2, rfl⟩ := hq
  obtain ⟨b2, f2, ba2, bc2, ha2, hn2, hc2⟩ := ho2.one hL2
  obtain ⟨hc2a, hc2b⟩ := hc2 F
  rw [ha2, hn2, ← hR3]
  dsimp only [tup]
  refine WL.weak (H' := o1.hb ++ (o2.hb ++ s3.H)) (fun _ h => by
    rw [List.append_assoc, List.append_assoc] at h
    exact In.of_sub (.pickL (L := o1.hb) (.right (.right (.right .here))) (.pickL (L := o2.hb) .here (.last (L := s3.H) (.right .here)))) h) ?_
  repeat' (first | refine S1 ?_ | refine SD ?_ | refine SA (fun _ => ?_) | refine G1 (fun hc => ?_) (fun hc => ?_) | refine G2 (fun hc => ?_) (fun hc => ?_) | refine G3 (fun hc => ?_) (fun hc => ?_))
  refine WL.e rfl (Ef.call (c := s3.H) (by exact rfl) (.skipL o1.hb (.skipL o2.hb (.all _))) (snx_tr _ s3 hs3 0)) ?_
  rintro _ _ ⟨_, hq, rfl⟩
  rw [hS3, wN4] at hq
  obtain ⟨rfl, s4, hs4, hR4, hS4, rfl⟩ := hq
  rw [← hR4]
  dsimp only [tup]
  refine WL.weak (H' := o1.hb ++ (o2.hb ++ s4.H)) (fun _ h => In.of_sub (.pickL (L := o1.hb) (.right .here) (.pickL (L := o2.hb) (.right .here) (.last (L := s4.H) .here))) h) ?_
  repeat' (first | refine S1 ?_ | refine SD ?_ | refine SA (fun _ => ?_) | refine G1 (fun hc => ?_) (fun hc => ?_) | refine G2 (fun hc => ?_) (fun hc => ?_) | refine G3 (fun hc => ?_) (fun hc => ?_))
  refine WL.e rfl (Ef.callR (c := s4.H) (by exact rfl) (.skipL o1.hb (.skipL o2.hb (.all _))) (sroom_tr _ s4)) ?_
  rintro _ _ ⟨rfl, rfl⟩
  rw [hS4, show wS3.room = 250 from rfl]
  repeat' (first | refine S1 ?_ | refine SD ?_ | refine SA (fun _ => ?_) | refine G1 (fun hc => ?_) (fun hc => ?_) | refine G2 (fun hc => ?_) (fun hc => ?_) | refine G3 (fun hc => ?_) (fun hc => ?_))
  refine WL.e rfl (Ef.call (c := s4.H) (by exact rfl) (.skipL o1.hb (.skipL o2.hb (.all _))) (ssack_tr _ s4 hs4 11 400 (by omega) (by omega) [] none 0 0 .nil (by simp) (by simp) none 0 0 2)) ?_
  rintro _ _ ⟨_, hq, rfl⟩
  rw [hS4] at hq
  have h5 := wN5
  cases hsk : Snd.sack wS3 11 400 [] 2 with
  | none => rw [hsk] at h5; cases h5
  | some S5 =>
  rw [hsk] at h5 hq
  have h5 : Snd.empty S5 = true := Option.some.inj h5
  obtain ⟨rfl, s5, hs5, rfl, hR5, hS5⟩ := hq
  rw [← hR5]
  refine WL.weak (H' := o1.hb ++ (o2.hb ++ s5.H)) (fun _ h => In.of_sub (.pickL (L := o1.hb) (.right .here) (.pickL (L := o2.hb) (.right .here) (.last (L := s5.H) .here))) h) ?_
  have k1 := hc1a.mono (F' := F) (H' := o1.hb ++ (o2.hb ++ s5.H)) (fun _ h => h.left)
  have k2 := hc1b.mono (F' := F) (H' := o1.hb ++ (o2.hb ++ s5.H)) (fun _ h => h.left)
  have k3 := hc2a.mono (F' := F) (H' := o1.hb ++ (o2.hb ++ s5.H)) (fun _ h => h.right.left)
  have k4 := hc2b.mono (F' := F) (H' := o1.hb ++ (o2.hb ++ s5.H)) (fun _ h => h.right.left)
  clear hc1 hc2 hc1a hc1b hc2a hc2b
  rw [show wd1.bs.length = 100 from rfl] at k1
  rw [show wd2.bs.length = 50 from rfl] at k3
  rw [show wd1.tsn = 10 from rfl] at k2
  rw [show wd2.tsn = 11 from rfl] at k4
  have hia : 0 ≤ (0 : Int) ∧ (0 : Int) < ((1 : Nat) : Int) := by decide
  repeat' (first | refine S1 ?_ | refine SD ?_ | refine SA (fun _ => ?_) | refine G1 (fun hc => ?_) (fun hc => ?_) | refine G2 (fun hc => ?_) (fun hc => ?_) | refine G3 (fun hc => ?_) (fun hc => ?_))
  refine WL.e rfl (Ef.callR (c := s5.H) (by exact rfl) (.skipL o1.hb (.skipL o2.hb (.all _))) (sempty_tr _ s5 hs5)) ?_
  rintro _ _ ⟨rfl, rfl⟩
  rw [hS5, h5]
  repeat' (first | refine S1 ?_ | refine SD ?_ | refine SA (fun _ => ?_) | refine G1 (fun hc => ?_) (fun hc => ?_) | refine G2 (fun hc => ?_) (fun hc => ?_) | refine G3 (fun hc => ?_) (fun hc => ?_))
  exact Fin.retW (by exact rfl) resA (fun _ h => h.sublist (List.nil_sublist _)) ⟨rfl, rfl⟩
end Go.Proofs.YtjfpckadjnjmoaaGreat
