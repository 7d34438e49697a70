/- A sender: what is to be forwarded, and when something is to be done, walked. Conditions: it is well formed. -/
import Derived.Test.YtjfpckadjnjmoaaGreatFwB
import Derived.Test.YtjfpckadjnjmoaaGreatSnF
namespace Go.Proofs.YtjfpckadjnjmoaaGreat
open Go Go.Sl Go.Pth

/-- what is to be forwarded, as it is handed back: its moment is 0 where there is nothing -/
def DueQ (s : SdM) (o : Option ((Int × List Rm.Sk) × Int)) (v : Value) (H : HL) : Prop := match o with
  | none => v = tup [.agg [.int .u32 0, .slice none 0 0].toArray, .int .i64 0, .bool false] ∧ H = s.H
  | some ((y, sk), a) => ∃ (ka : Option Addr) (kn kc : Nat) (kb : HL), v = tup [.agg [.int .u32 y, .slice ka kn kc].toArray, .int .i64 a, .bool true] ∧ OwnS 168 2 (sk.flatMap skC) (.slice ka kn kc) kb ∧ H = kb ++ s.H
set_option maxHeartbeats 4000000 in
theorem due_tr (F : Nat → Option Obj) {n : Nat} (s : SdM) (hs : s.ok n) : Tr Tryz.prog 39 [ptr s.R].toArray F s.H (DueQ s (Snd.due s.S)) := by
  refine Tr.enter Tryz.func39 rfl Tryz.ntmps39 rfl (fun w0 => ?_)
  obtain ⟨c0, c1, c2, c3, c4, c5, c6, c7, c8, c9, c10, c11⟩ := s.cans (F := F)
  have hfew := hs.pl.f.g.few
  repeat' (first | refine S2b ?_ | refine SD ?_ | refine SA (fun _ => ?_) | refine G1 (fun hc => ?_) (fun hc => ?_) | refine G2 (fun hc => ?_) (fun hc => ?_) | refine G3 (fun hc => ?_) (fun hc => ?_) | refine SL ?_ | fail)
  rename_i b2
  refine WL.e rfl (Ef.call (c := s.f.H) (by exact rfl) (.skip _ s.flP.sub) (point_tr _ s.f hs.f hs.small)) ?_
  rintro _ _ ⟨_, ⟨sa, sn, sc, hb, ds, rfl, hown, hds, hdd, rfl⟩, rfl⟩
  dsimp only [tup]
  refine WL.weak (H' := (b2, .cells [.int .u32 0, .slice none 0 0].toArray 54 (0, 0)) :: (hb ++ (ds.flatMap DM.bb ++ s.H))) (fun _ h => ?_) ?_
  · refine h.perm (List.perm_middle.trans ?_)
    rw [List.append_assoc, List.append_assoc]
    exact (((s.flE (f' := s.f) rfl).append_left _).append_left _).cons _
  have hdl : ds.length = sn := by have := OwnS.len hown; rw [flat_len' DM.cells 7 DM.len] at this; omega
  have hsn : sn ≤ 3000 := by
    have h1 : ds.length = (Flt.ptL s.f.S.L).length := by rw [← hdd, List.length_map]
    have h2 : (Flt.ptL s.f.S.L).length ≤ s.f.S.L.length := by unfold Flt.ptL; rw [List.length_map]; exact (List.takeWhile_sublist _).length_le
    have h3 : s.S.f.L.length = s.f.S.L.length := rfl
    omega
  repeat' (first | refine S2b ?_ | refine SD ?_ | refine SA (fun _ => ?_) | refine G1 (fun hc => ?_) (fun hc => ?_) | refine G2 (fun hc => ?_) (fun hc => ?_) | refine G3 (fun hc => ?_) (fun hc => ?_) | refine SL ?_ | fail)
  refine WL.e rfl (Ef.callR (c := s.f.H) (by exact rfl) (.skip _ (.skipL hb (.skipL (ds.flatMap DM.bb) s.flP.sub))) (cum_tr _ s.f)) ?_
  rintro _ _ ⟨rfl, rfl⟩
  repeat' (first | refine S2b ?_ | refine SD ?_ | refine SA (fun _ => ?_) | refine G1 (fun hc => ?_) (fun hc => ?_) | refine G2 (fun hc => ?_) (fun hc => ?_) | refine G3 (fun hc => ?_) (fun hc => ?_) | refine SL ?_ | fail)
  refine WL.e rfl (Ef.look (by exact rfl) (fun F' hF => make_tr F' s.f.c ds sa sn sc ((Lst.own (F := F) (H := hb) hown (fun _ h => h)).mono (fun w h => (hF w h).sublist (.cons _ (List.sublist_append_left _ _)))) hsn)) ?_
  rintro _ _ ⟨H1, hq, rfl⟩
  rw [hdd] at hq
  have hdue : Snd.due s.S = match Snd.make s.f.c (Flt.ptL s.f.S.L) with | none => none | some f => some (f, if s.told && decide (s.cum = f.1) then s.at_ + Snd.valueW s.S s.by_ else 0) := rfl
  rw [hdue]
  cases hmk : Snd.make s.f.c (Flt.ptL s.f.S.L) with
  | none =>
    rw [hmk] at hq
    obtain ⟨rfl, rfl⟩ := hq
    dsimp only [tup]
    repeat' (first | refine S2b ?_ | refine SD ?_ | refine SA (fun _ => ?_) | refine G1 (fun hc => ?_) (fun hc => ?_) | refine G2 (fun hc => ?_) (fun hc => ?_) | refine G3 (fun hc => ?_) (fun hc => ?_) | refine SL ?_ | fail)
    refine Fin.retW (by exact rfl) resA (H' := s.H) (fun _ h => In.of_sub (.last (.there (.right (.right .all)))) h) ⟨rfl, rfl⟩
  | some f =>
    obtain ⟨y, sk⟩ := f
    rw [hmk] at hq
    obtain ⟨ka, kn, kc, rfl, hkown⟩ := hq
    dsimp only [tup]
    cases htold : s.told with
    | false =>
      rw [htold] at c8
      repeat' (first | refine S2b ?_ | refine SD ?_ | refine SA (fun _ => ?_) | refine G1 (fun hc => ?_) (fun hc => ?_) | refine G2 (fun hc => ?_) (fun hc => ?_) | refine G3 (fun hc => ?_) (fun hc => ?_) | refine SL ?_ | fail)
      exact Fin.retW (by exact rfl) resA (H' := H1 ++ s.H) (fun _ h => In.of_sub (.pickL (L := H1) .here (.last (.there (.right (.right .all))))) h) ⟨ka, kn, kc, H1, rfl, hkown, rfl⟩
    | true =>
      rw [htold] at c8
      have hby := hs.pl.by_
      have hwn := hs.wn
      have hSl : s.S.ws.length = s.ws.length := by simp [SdM.S]
      obtain ⟨j, hj⟩ : ∃ j : Nat, s.by_ = (j : Int) := ⟨s.by_.toNat, by have := hby.1; show s.by_ = _; have : 0 ≤ s.by_ := this; omega⟩
      have hby2 : s.by_ < s.ws.length := by rw [← hSl]; exact hby.2
      obtain ⟨m, hm, hmS, hkn2⟩ := SdM.wayAt hs (k := j) (by omega)
      obtain ⟨b, off, hwa, hel⟩ := hs.wrow
      have hcan := hel F j m hm
      obtain ⟨d0, d1, d2, d3⟩ := SdM.wayCans (F := F) hm
      have hval := (hs.way hm).value
      have hat := hs.pl.at_
      have hat2 : 0 ≤ s.at_ ∧ s.at_ ≤ 2305843009213693952 := hat
      have hv : Snd.valueW s.S (j : Int) = m.pm.s.r.value := by unfold Snd.valueW; rw [show ((j : Int)).toNat = j from rfl, hmS]; rfl
      have hval2 : 1 ≤ m.pm.s.r.value ∧ m.pm.s.r.value ≤ 1048576 := hval
      rw [hj] at c11
      rw [hwa] at c2
      rw [hj, hv]
      clear hel
      repeat' (first | refine S2b ?_ | refine SD ?_ | refine SA (fun _ => ?_) | refine G1 (fun hc => ?_) (fun hc => ?_) | refine G2 (fun hc => ?_) (fun hc => ?_) | refine G3 (fun hc => ?_) (fun hc => ?_) | refine SL ?_ | fail)
      · have hcy : s.cum = y := by simpa using hc
        refine WD.e rfl (Ef.callR (by exact rfl) (.skipL H1 (.skip _ (.skipL hb (.skipL (ds.flatMap DM.bb) (SdM.paP hm).sub)))) (rto_tr _ m.pm)) ?_
        rintro _ _ ⟨rfl, rfl⟩
        refine ⟨.inr (fun _ h => h), ?_⟩
        repeat' (first | refine S2b ?_ | refine SD ?_ | refine SA (fun _ => ?_) | refine G1 (fun hc => ?_) (fun hc => ?_) | refine G2 (fun hc => ?_) (fun hc => ?_) | refine G3 (fun hc => ?_) (fun hc => ?_) | refine SL ?_ | fail)
        rw [i64_id (by omega) (by omega)]
        refine Fin.retW (by exact rfl) resA (H' := H1 ++ s.H) (fun _ h => In.of_sub (.pickL (L := H1) .here (.last (.there (.right (.right .all))))) h) ⟨ka, kn, kc, H1, ?_, hkown, rfl⟩
        rw [hcy]
        simp
      · have hcy : ¬ s.cum = y := by simpa using hc
        refine Fin.retW (by exact rfl) resA (H' := H1 ++ s.H) (fun _ h => In.of_sub (.pickL (L := H1) .here (.last (.there (.right (.right .all))))) h) ⟨ka, kn, kc, H1, ?_, hkown, rfl⟩
        simp [hcy]
def FwdQ (n : Nat) (s : SdM) (r : Snd.S × Option (Int × List Rm.Sk × Nat)) (v : Value) (H : HL) : Prop := match r with
  | (S', none) => v = tup [.agg [.int .u32 0, .slice none 0 0].toArray, .int .i64 0, .bool false] ∧ ∃ s' : SdM, s'.ok n ∧ s'.R = s.R ∧ s'.S = S' ∧ H = s'.H
  | (S', some (y, sk, b)) => ∃ (ka : Option Addr) (kn kc : Nat) (kb : HL) (s' : SdM), v = tup [.agg [.int .u32 y, .slice ka kn kc].toArray, .int .i64 b, .bool true] ∧ OwnS 168 2 (sk.flatMap skC) (.slice ka kn kc) kb ∧ s'.ok n ∧ s'.R = s.R ∧ s'.S = S' ∧ H = kb ++ s'.H
set_option maxHeartbeats 4000000 in
theorem fwd_tr (F : Nat → Option Obj) {n : Nat} (s : SdM) (hs : s.ok n) (now : Int) : Tr Tryz.prog 14 [ptr s.R, .int .i64 now].toArray F s.H (FwdQ n s (Snd.forward s.S now)) := by
  refine Tr.enter Tryz.func14 rfl Tryz.ntmps14 rfl (fun w0 => ?_)
  repeat' (first | refine S2b ?_ | refine SD ?_ | refine SA (fun _ => ?_) | refine G1 (fun hc => ?_) (fun hc => ?_) | refine G2 (fun hc => ?_) (fun hc => ?_) | refine G3 (fun hc => ?_) (fun hc => ?_) | refine SL ?_ | fail)
  rename_i b4
  refine WL.e rfl (Ef.call (c := s.H) (by exact rfl) (.skip _ (.all _)) (due_tr _ s hs)) ?_
  rintro _ _ ⟨_, hq, rfl⟩
  cases hd : Snd.due s.S with
  | none =>
    have hf : Snd.forward s.S now = (s.S, none) := by unfold Snd.forward; rw [hd]
    rw [hd] at hq
    rw [hf]
    obtain ⟨rfl, rfl⟩ := hq
    dsimp only [tup]
    repeat' (first | refine S2b ?_ | refine SD ?_ | refine SA (fun _ => ?_) | refine G1 (fun hc => ?_) (fun hc => ?_) | refine G2 (fun hc => ?_) (fun hc => ?_) | refine G3 (fun hc => ?_) (fun hc => ?_) | refine SL ?_ | fail)
    exact Fin.retW (by exact rfl) resA (H' := s.H) (fun _ h => h.left) ⟨rfl, s, hs, rfl, rfl, rfl⟩
  | some f =>
    obtain ⟨⟨y, sk⟩, a⟩ := f
    rw [hd] at hq
    obtain ⟨ka, kn, kc, kb, rfl, hown, rfl⟩ := hq
    have hf : Snd.forward s.S now = if a > Snd.clock now then (s.S, none) else ({ s.S with told := true, cum := y, at_ := Snd.clock now, by_ := (Snd.nextW s.S s.by_.toNat : Nat) }, some (y, Snd.cutSk sk (s.mtu - 20), Snd.nextW s.S s.by_.toNat)) := by unfold Snd.forward; rw [hd]; rfl
    have hok := Snd.forward_ok hs.pl now
    rw [hf] at hok ⊢
    dsimp only [tup]
    refine WL.weak (H' := (b4, .cells [.int .u32 0, .slice none 0 0].toArray 54 (0, 0)) :: (kb ++ s.H)) (fun _ h => In.of_sub (.pick (.right .here) (.last .here)) h) ?_
    repeat' (first | refine S2b ?_ | refine SD ?_ | refine SA (fun _ => ?_) | refine G1 (fun hc => ?_) (fun hc => ?_) | refine G2 (fun hc => ?_) (fun hc => ?_) | refine G3 (fun hc => ?_) (fun hc => ?_) | refine SL ?_ | fail)
    refine WL.e rfl (Ef.callR (by exact rfl) (.nil _) (clock_tr _ now)) ?_
    rintro _ _ ⟨rfl, rfl⟩
    repeat' (first | refine S2b ?_ | refine SA (fun _ => ?_) | refine G1 (fun hc => ?_) (fun hc => ?_) | refine G2 (fun hc => ?_) (fun hc => ?_) | refine G3 (fun hc => ?_) (fun hc => ?_) | refine SL ?_ | fail)
    · have hgt := of_decide_eq_true hc
      rw [if_pos hgt]
      exact Fin.retW (by exact rfl) resA (H' := s.H) (fun _ h => In.of_sub (.last (.there (.right .all))) h) ⟨rfl, s, hs, rfl, rfl, rfl⟩
    have hle := of_decide_eq_false hc
    rw [if_neg hle] at hok ⊢
    dsimp only at hok
    refine W.draw [(b4, .cells [.int .u32 y, .slice ka kn kc].toArray 54 (0, 0))] (by kernel_rfl) (by kernel_rfl) (fun _ h => h.sublist (.cons_cons _ (List.nil_sublist _))) ?_
    repeat' (first | refine S2b ?_ | refine SA (fun _ => ?_) | refine G1 (fun hc => ?_) (fun hc => ?_) | refine G2 (fun hc => ?_) (fun hc => ?_) | refine G3 (fun hc => ?_) (fun hc => ?_) | refine SL ?_ | fail)
    refine WD.e rfl (Ef.callR (by exact rfl) (.nil _) (clock_tr _ now)) ?_
    rintro _ _ ⟨rfl, rfl⟩
    refine ⟨.inr (fun _ h => h.sublist (.cons_cons _ (List.nil_sublist _))), ?_⟩
    repeat' (first | refine S2b ?_ | refine SD ?_ | refine SA (fun _ => ?_) | refine G1 (fun hc => ?_) (fun hc => ?_) | refine G2 (fun hc => ?_) (fun hc => ?_) | refine G3 (fun hc => ?_) (fun hc => ?_) | refine SL ?_ | fail)
    refine WD.e0 (Ef.st rfl rfl rfl (.there (.right (SdM.put (s' := { s with told := true }) rfl rfl (off := 0 + 8) (vs := [.bool true]) rfl)))) ?_
    rintro _ _ ⟨rfl, rfl⟩
    refine ⟨.inr (fun _ h => h.sublist (.cons_cons _ (List.nil_sublist _))), ?_⟩
    repeat' (first | refine S2b ?_ | refine SD ?_ | refine SA (fun _ => ?_) | refine G1 (fun hc => ?_) (fun hc => ?_) | refine G2 (fun hc => ?_) (fun hc => ?_) | refine G3 (fun hc => ?_) (fun hc => ?_) | refine SL ?_ | fail)
    refine WD.e0 (Ef.st rfl rfl rfl (.there (.right (SdM.put (s := { s with told := true }) (s' := { s with told := true, cum := y }) rfl rfl (off := 0 + 9) (vs := [.int .u32 y]) rfl)))) ?_
    rintro _ _ ⟨rfl, rfl⟩
    refine ⟨.inr (fun _ h => h.sublist (.cons_cons _ (List.nil_sublist _))), ?_⟩
    repeat' (first | refine S2b ?_ | refine SD ?_ | refine SA (fun _ => ?_) | refine G1 (fun hc => ?_) (fun hc => ?_) | refine G2 (fun hc => ?_) (fun hc => ?_) | refine G3 (fun hc => ?_) (fun hc => ?_) | refine SL ?_ | fail)
    refine WD.e0 (Ef.st rfl rfl rfl (.there (.right (SdM.put (s := { s with told := true, cum := y }) (s' := { s with told := true, cum := y, at_ := Snd.clock now }) rfl rfl (off := 0 + 10) (vs := [.int .i64 (Snd.clock now)]) rfl)))) ?_
    rintro _ _ ⟨rfl, rfl⟩
    refine ⟨.inr (fun _ h => h.sublist (.cons_cons _ (List.nil_sublist _))), ?_⟩
    obtain ⟨u, hu⟩ : ∃ u : SdM, u = { s with told := true, cum := y, at_ := Snd.clock now } := ⟨_, rfl⟩
    have huR : u.R = s.R := by rw [hu]
    have huB : u.by_ = s.by_ := by rw [hu]
    have huM : u.mtu = s.mtu := by rw [hu]
    have huS : u.S = { s.S with told := true, cum := y, at_ := Snd.clock now } := by rw [hu]; rfl
    have huo : u.ok n := by
      rw [hu]
      exact ⟨hs.o, hs.f, hs.ways, hs.lives, hs.owed, hs.own, { hs.pl with cum := hok.cum, at_ := hok.at_ }⟩
    have hby := hs.pl.by_
    have hnws := hs.nws
    have hSl : s.S.ws.length = s.ws.length := by simp [SdM.S]
    have hby1 : 0 ≤ s.by_ := hby.1
    have hby2 : s.by_ < s.ws.length := by rw [← hSl]; exact hby.2
    obtain ⟨j, hj⟩ : ∃ j : Nat, s.by_ = (j : Int) := ⟨s.by_.toNat, by omega⟩
    rw [← hu]
    have c11 : Sl.Can F u.H s.R (0 + 11) [.int .i64 (j : Int)] := by rw [← huR, ← hj, ← huB]; exact (u.cans (F := F)).2.2.2.2.2.2.2.2.2.2.2
    have hT := fun F' => snext_tr F' u huo j (by omega)
    rw [huR] at hT
    repeat' (first | refine S2b ?_ | refine SD ?_ | refine SA (fun _ => ?_) | refine G1 (fun hc => ?_) (fun hc => ?_) | refine G2 (fun hc => ?_) (fun hc => ?_) | refine G3 (fun hc => ?_) (fun hc => ?_) | refine SL ?_ | fail)
    refine WL.e rfl (Ef.callR (c := u.H) (by exact rfl) (.skip _ (.last (.right .all))) (hT _)) ?_
    clear hT c11
    rintro _ _ ⟨rfl, rfl⟩
    have hnx : Snd.nextW u.S j = Snd.nextW s.S s.by_.toNat := by rw [huS, hj]; rfl
    rw [hnx]
    obtain ⟨q, hq⟩ : ∃ q, Snd.nextW s.S s.by_.toNat = q := ⟨_, rfl⟩
    rw [hq] at hok ⊢
    repeat' (first | refine S2b ?_ | refine SD ?_ | refine SA (fun _ => ?_) | refine G1 (fun hc => ?_) (fun hc => ?_) | refine G2 (fun hc => ?_) (fun hc => ?_) | refine G3 (fun hc => ?_) (fun hc => ?_) | refine SL ?_ | fail)
    refine WL.e0 (Ef.st rfl rfl rfl (.there (.right (by rw [← huR]; exact SdM.put (s := u) (s' := { u with by_ := q }) rfl rfl (off := 0 + 11) (vs := [.int .i64 q]) rfl)))) ?_
    rintro _ _ ⟨rfl, rfl⟩
    obtain ⟨r, hr⟩ : ∃ r : SdM, r = { u with by_ := q } := ⟨_, rfl⟩
    have hrR : r.R = s.R := by rw [hr]; exact huR
    have hrS : r.S = { s.S with told := true, cum := y, at_ := Snd.clock now, by_ := q } := by rw [hr, hu]; rfl
    have hro : r.ok n := by
      rw [hr]
      exact ⟨huo.o, huo.f, huo.ways, huo.lives, huo.owed, huo.own, by show Snd.Ok n { u.S with by_ := q }; rw [huS]; exact hok⟩
    have hrM : r.mtu = s.mtu := by rw [hr]; exact huM
    rw [← hr]
    have hmtu : 128 ≤ s.mtu ∧ s.mtu ≤ 1500 := hs.pl.mtu
    have c5 : Sl.Can F r.H s.R (0 + 5) [.int .i64 s.mtu] := by rw [← hrR, ← hrM]; exact (r.cans (F := F)).2.2.2.2.2.1
    have c11 : Sl.Can F r.H s.R (0 + 11) [.int .i64 (q : Int)] := by rw [← hrR]; have := (r.cans (F := F)).2.2.2.2.2.2.2.2.2.2.2; rw [hr] at this ⊢; exact this
    repeat' (first | refine S2b ?_ | refine SD ?_ | refine SA (fun _ => ?_) | refine G1 (fun hc => ?_) (fun hc => ?_) | refine G2 (fun hc => ?_) (fun hc => ?_) | refine G3 (fun hc => ?_) (fun hc => ?_) | refine SL ?_ | fail)
    rw [i64_id (n := s.mtu - 20) (by omega) (by omega)]
    have hskl := Snd.due_len hd
    have hfew := hs.pl.f.g.few
    refine WD.e rfl (Ef.look (by exact rfl) (fun F' hF => cut_tr F' y sk ka kn kc ((Lst.own (F := F) (H := kb) hown (fun _ h => h)).mono (fun w h => (hF w h).sublist (.cons _ (List.sublist_append_left _ _)))) (by omega) (s.mtu - 20) (by omega))) ?_
    rintro _ _ ⟨H1, ⟨ja, jn, jc, rfl, hown'⟩, rfl⟩
    refine ⟨.inr (fun _ h => h.right), ?_⟩
    repeat' (first | refine S2b ?_ | refine SD ?_ | refine SA (fun _ => ?_) | refine G1 (fun hc => ?_) (fun hc => ?_) | refine G2 (fun hc => ?_) (fun hc => ?_) | refine G3 (fun hc => ?_) (fun hc => ?_) | refine SL ?_ | fail)
    refine Fin.retW (by exact rfl) resA (H' := H1 ++ r.H) (fun _ h => In.of_sub (.pickL (L := H1) .here (.last (.there (.right .all)))) h) ⟨ja, jn, jc, H1, r, rfl, hown', hro, hrR, hrS, rfl⟩
/-! ### when something is to be done -/
structure GWn where
  i : Nat
end Go.Proofs.YtjfpckadjnjmoaaGreat
