/- No flight: the law's 'does', and the law FlightNil, walked. Conditions: what the argument's cells are. -/
import Derived.Test.YtglobldnockdoaaFlL
import Derived.Test.YtglobldnockdoaaFlN
import Derived.Test.YtglobldnockdoaaFmZ
namespace Go.Proofs.Ytglobldnockdoaa
open Go Go.Sl Go.Flt

def nilE (k : Int) : Int := if k = 0 ∨ k = 1 ∨ k = 5 then 2 else 0
def NilQ (k : Int) (v : Value) (H : HL) : Prop := ∃ (sa : Option Addr) (sn sc : Nat), v = tup [.agg (ansC { FAns.zero with e := nilE k } sa sn sc).toArray] ∧ H = []
set_option maxHeartbeats 4000000 in
theorem nil_add (F : Nat → Option Obj) (o : OpM) (bs : List UInt8) (gs : List (Nat × Nat)) (ho : o.Is F bs gs) (hbs : bs.length ≤ 1000000) (hk : o.kind = 0) (cum : Int) :
    Tr Try.prog 22 [.pointer none, .agg o.cells.toArray, .int .u32 cum].toArray F [] (NilQ 0) := by
  refine Tr.enter Try.func22 rfl Try.ntmps22 rfl (fun w0 => ?_)
  unfold OpM.cells
  rw [hk]
  have hbn : o.bn = bs.length := by have := ho.bytes.len; simp at this; omega
  repeat' (first | refine S1 ?_ | refine SD ?_ | refine SA (fun _ => ?_) | refine WL.g_split rfl rfl (fun hc => ?_) (fun hc => ?_) | refine WD.g_split rfl rfl (fun hc => ?_) (fun hc => ?_) | refine W.cond rfl (fun hc => ?_) (fun hc => ?_))
  rename_i b4 b6 b7 b8 b24
  refine WL.e rfl (Ef.app (m := o.bn) (news := bs.map B) (by exact rfl) (by exact rfl) rfl rfl (OwnS.empty _ _ b24) subA ((ho.bytes.mono (fun _ h => h.sublist (List.nil_sublist _))).src) (by simp [hbn])
    (B_one bs) (by simp; omega) (by simp [maxLen]; omega)) ?_
  rintro v' _ ⟨thb, hown, rfl⟩
  obtain ⟨ta, tn, tc, rfl, hl2, _⟩ := OwnS.shape hown
  rw [List.nil_append] at hown
  repeat' (first | refine S1 ?_ | refine SD ?_ | refine SA (fun _ => ?_) | refine WL.g_split rfl rfl (fun hc => ?_) (fun hc => ?_) | refine WD.g_split rfl rfl (fun hc => ?_) (fun hc => ?_) | refine W.cond rfl (fun hc => ?_) (fun hc => ?_))
  refine WL.e rfl (Ef.call (c := []) (by exact rfl) (.nil _) (add_nil _ (o.op bs gs).d ta tn tc o.path o.now o.id)) ?_
  rintro _ _ ⟨_, ⟨rfl, rfl⟩, rfl⟩
  dsimp only [tup]
  rw [List.nil_append]
  repeat' (first | refine S1 ?_ | refine SD ?_ | refine SA (fun _ => ?_) | refine WL.g_split rfl rfl (fun hc => ?_) (fun hc => ?_) | refine WD.g_split rfl rfl (fun hc => ?_) (fun hc => ?_) | refine W.cond rfl (fun hc => ?_) (fun hc => ?_))
  refine W.loop (G := DoG) (fun g => [(6, .pointer (some ⟨b6, 0, none⟩)), (8, .pointer (some ⟨b8, 0, none⟩)), (9, .int .u32 0), (10, .int .i64 2), (11, .int .i64 g.i)])
    (fun g => g.hb ++ [(b8, .cells [.int .u32 o.tsn, .int .u16 o.stream, .int .u16 o.ssn, .bool o.un, .bool o.fi, .bool o.la, .slice ta tn tc].toArray 32 (0, 0)), (b6, .cells zAns.toArray 67 (0, 0))])
    (fun g => g.i ≤ tn ∧ OwnS 5 1 g.xs (.slice ta tn tc) g.hb) (fun g => tn - g.i) ⟨0, _, thb⟩ ⟨Nat.zero_le _, hown⟩ envA (fun _ h => h.sublist (.append (.refl _) (.cons_cons _ (.cons _ (.cons_cons _ (List.nil_sublist _)))))) ?_
  rintro ⟨i, xs, hb⟩ ⟨hi, hx⟩
  dsimp only at hi hx ⊢
  repeat' (first | refine S1 ?_ | refine SD ?_ | refine SA (fun _ => ?_) | refine WL.g_split rfl rfl (fun hc => ?_) (fun hc => ?_) | refine WD.g_split rfl rfl (fun hc => ?_) (fun hc => ?_) | refine W.cond rfl (fun hc => ?_) (fun hc => ?_))
  · have hi' : i < tn := by simp at hc; omega
    obtain ⟨g, oo, rfl⟩ := hx.addr (by omega)
    have hia : 0 ≤ (i : Int) ∧ (i : Int) < tn := by omega
    obtain ⟨hb', hx', hput⟩ := hx.put i [.int .u8 85] (by have := hx.len; simp at this ⊢; omega)
    have hi2 : i ≤ 1000000000000 := by have := hown.len; simp at this; omega
    repeat' (first | refine S1 ?_ | refine SD ?_ | refine SA (fun _ => ?_) | refine WL.g_split rfl rfl (fun hc => ?_) (fun hc => ?_) | refine WD.g_split rfl rfl (fun hc => ?_) (fun hc => ?_) | refine W.cond rfl (fun hc => ?_) (fun hc => ?_))
    refine WL.e0 (Ef.st rfl rfl rfl (PutAt.left (H1' := hb') (by simpa using hput))) ?_
    rintro _ _ ⟨rfl, rfl⟩
    repeat' (first | refine S1 ?_ | refine SD ?_ | refine SA (fun _ => ?_) | refine WL.g_split rfl rfl (fun hc => ?_) (fun hc => ?_) | refine WD.g_split rfl rfl (fun hc => ?_) (fun hc => ?_) | refine W.cond rfl (fun hc => ?_) (fun hc => ?_))
    rw [i64_succ hi2]
    exact Fin.round ⟨i + 1, _, hb'⟩ ⟨hi', hx'⟩ envA (fun _ h => h) (by dsimp only; omega)
  ·
    refine Fin.retW (by exact rfl) resA (H' := []) (fun _ h => h.sublist (List.nil_sublist _)) ⟨_, _, _, rfl, rfl⟩
set_option maxHeartbeats 4000000 in
theorem nil_get (F : Nat → Option Obj) (o : OpM) (hk : o.kind = 2) (cum : Int) :
    Tr Try.prog 22 [.pointer none, .agg o.cells.toArray, .int .u32 cum].toArray F [] (NilQ 2) := by
  refine Tr.enter Try.func22 rfl Try.ntmps22 rfl (fun w0 => ?_)
  unfold OpM.cells
  rw [hk]
  repeat' (first | refine S1 ?_ | refine SD ?_ | refine SA (fun _ => ?_) | refine WL.g_split rfl rfl (fun hc => ?_) (fun hc => ?_) | refine WD.g_split rfl rfl (fun hc => ?_) (fun hc => ?_) | refine W.cond rfl (fun hc => ?_) (fun hc => ?_))
  refine WL.e rfl (Ef.call (c := []) (by exact rfl) (.nil _) (getD_nil _ _)) ?_
  rintro _ _ ⟨_, ⟨rfl, rfl⟩, rfl⟩
  dsimp only [tup]
  rw [List.nil_append]
  repeat' (first | refine S1 ?_ | refine SD ?_ | refine SA (fun _ => ?_) | refine WL.g_split rfl rfl (fun hc => ?_) (fun hc => ?_) | refine WD.g_split rfl rfl (fun hc => ?_) (fun hc => ?_) | refine W.cond rfl (fun hc => ?_) (fun hc => ?_))
  rename_i b4 b6 b7 b12 b86
  refine WL.e rfl (Ef.app (m := 0) (news := []) (by exact rfl) (by exact rfl) rfl rfl (OwnS.empty _ _ b86) (.last .here) Src.nil rfl (fun u hu => by cases hu) (by simp) (by simp [maxLen])) ?_
  rintro v' _ ⟨thb, hown2, rfl⟩
  obtain ⟨ta, tn, tc, rfl, hl2, _⟩ := OwnS.shape hown2
  repeat' (first | refine S1 ?_ | refine SD ?_ | refine SA (fun _ => ?_) | refine WL.g_split rfl rfl (fun hc => ?_) (fun hc => ?_) | refine WD.g_split rfl rfl (fun hc => ?_) (fun hc => ?_) | refine W.cond rfl (fun hc => ?_) (fun hc => ?_))
  refine W.loop (G := Unit) (fun _ => [(6, .pointer (some ⟨b6, 0, none⟩)), (7, .pointer (some ⟨b7, 0, none⟩)), (12, .pointer (some ⟨b12, 0, none⟩)), (15, .int .i64 0)])
    (fun _ => [(b12, .cells [.int .u32 0, .int .u16 0, .int .u16 0, .bool false, .bool false, .bool false, .slice none 0 0].toArray 32 (0, 0)), (b7, .cells (ansC FAns.zero ta tn tc).toArray 67 (0, 0)), (b6, .cells zAns.toArray 67 (0, 0))])
    (fun _ => True) (fun _ => 0) () trivial envA (fun _ h => h.sublist (.trans (.cons_cons _ (.cons_cons _ (.cons_cons _ (List.nil_sublist _)))) (List.sublist_append_right _ _))) ?_
  rintro _ _
  repeat' (first | refine S1 ?_ | refine SD ?_ | refine SA (fun _ => ?_) | refine WL.g_split rfl rfl (fun hc => ?_) (fun hc => ?_) | refine WD.g_split rfl rfl (fun hc => ?_) (fun hc => ?_) | refine W.cond rfl (fun hc => ?_) (fun hc => ?_))
  refine Fin.retW (by exact rfl) resA (H' := []) (fun _ h => h.sublist (List.nil_sublist _)) ⟨_, _, _, rfl, rfl⟩
set_option maxHeartbeats 4000000 in
theorem nil_again (F : Nat → Option Obj) (o : OpM) (hk : o.kind = 1) (cum : Int) : Tr Try.prog 22 [.pointer none, .agg o.cells.toArray, .int .u32 cum].toArray F [] (NilQ 1) := by
  refine Tr.enter Try.func22 rfl Try.ntmps22 rfl (fun w0 => ?_)
  unfold OpM.cells
  rw [hk]
  repeat' (first | refine S1 ?_ | refine SD ?_ | refine SA (fun _ => ?_) | refine WL.g_split rfl rfl (fun hc => ?_) (fun hc => ?_) | refine WD.g_split rfl rfl (fun hc => ?_) (fun hc => ?_) | refine W.cond rfl (fun hc => ?_) (fun hc => ?_))
  refine WL.e rfl (Ef.call (c := []) (by exact rfl) (.nil _) (again_nil _ _ _ _)) ?_
  rintro _ _ ⟨_, ⟨rfl, rfl⟩, rfl⟩
  rw [List.nil_append]
  repeat' (first | refine S1 ?_ | refine SD ?_ | refine SA (fun _ => ?_) | refine WL.g_split rfl rfl (fun hc => ?_) (fun hc => ?_) | refine WD.g_split rfl rfl (fun hc => ?_) (fun hc => ?_) | refine W.cond rfl (fun hc => ?_) (fun hc => ?_))
  refine Fin.retW (by exact rfl) resA (H' := []) (fun _ h => h.sublist (List.nil_sublist _)) ⟨_, _, _, rfl, rfl⟩
set_option maxHeartbeats 4000000 in
theorem nil_mark (F : Nat → Option Obj) (o : OpM) (hk : o.kind = 3) (cum : Int) : Tr Try.prog 22 [.pointer none, .agg o.cells.toArray, .int .u32 cum].toArray F [] (NilQ 3) := by
  refine Tr.enter Try.func22 rfl Try.ntmps22 rfl (fun w0 => ?_)
  unfold OpM.cells
  rw [hk]
  repeat' (first | refine S1 ?_ | refine SD ?_ | refine SA (fun _ => ?_) | refine WL.g_split rfl rfl (fun hc => ?_) (fun hc => ?_) | refine WD.g_split rfl rfl (fun hc => ?_) (fun hc => ?_) | refine W.cond rfl (fun hc => ?_) (fun hc => ?_))
  refine WL.e rfl (Ef.call (c := []) (by exact rfl) (.nil _) (mark_nil _ _)) ?_
  rintro _ _ ⟨_, ⟨rfl, rfl⟩, rfl⟩
  rw [List.nil_append]
  repeat' (first | refine S1 ?_ | refine SD ?_ | refine SA (fun _ => ?_) | refine WL.g_split rfl rfl (fun hc => ?_) (fun hc => ?_) | refine WD.g_split rfl rfl (fun hc => ?_) (fun hc => ?_) | refine W.cond rfl (fun hc => ?_) (fun hc => ?_))
  refine Fin.retW (by exact rfl) resA (H' := []) (fun _ h => h.sublist (List.nil_sublist _)) ⟨_, _, _, rfl, rfl⟩
set_option maxHeartbeats 4000000 in
theorem nil_abandon (F : Nat → Option Obj) (o : OpM) (hk : o.kind = 4) (cum : Int) : Tr Try.prog 22 [.pointer none, .agg o.cells.toArray, .int .u32 cum].toArray F [] (NilQ 4) := by
  refine Tr.enter Try.func22 rfl Try.ntmps22 rfl (fun w0 => ?_)
  unfold OpM.cells
  rw [hk]
  repeat' (first | refine S1 ?_ | refine SD ?_ | refine SA (fun _ => ?_) | refine WL.g_split rfl rfl (fun hc => ?_) (fun hc => ?_) | refine WD.g_split rfl rfl (fun hc => ?_) (fun hc => ?_) | refine W.cond rfl (fun hc => ?_) (fun hc => ?_))
  refine WL.e rfl (Ef.call (c := []) (by exact rfl) (.nil _) (abandon_nil _ _)) ?_
  rintro _ _ ⟨_, ⟨rfl, rfl⟩, rfl⟩
  rw [List.nil_append]
  repeat' (first | refine S1 ?_ | refine SD ?_ | refine SA (fun _ => ?_) | refine WL.g_split rfl rfl (fun hc => ?_) (fun hc => ?_) | refine WD.g_split rfl rfl (fun hc => ?_) (fun hc => ?_) | refine W.cond rfl (fun hc => ?_) (fun hc => ?_))
  refine Fin.retW (by exact rfl) resA (H' := []) (fun _ h => h.sublist (List.nil_sublist _)) ⟨_, _, _, rfl, rfl⟩
set_option maxHeartbeats 8000000 in
theorem nil_sack (F : Nat → Option Obj) (o : OpM) (bs : List UInt8) (gs : List (Nat × Nat)) (ho : o.Is F bs gs) (hgs : gs.length ≤ 1000) (hk : o.kind = 5) (cum : Int) :
    Tr Try.prog 22 [.pointer none, .agg o.cells.toArray, .int .u32 cum].toArray F [] (NilQ 5) := by
  refine Tr.enter Try.func22 rfl Try.ntmps22 rfl (fun w0 => ?_)
  unfold OpM.cells
  rw [hk]
  have hgn : gs.length = o.gn := lst_len gC_len (by decide) ho.gaps
  repeat' (first | refine S1 ?_ | refine SA (fun _ => ?_) | refine WL.g_split rfl rfl (fun hc => ?_) (fun hc => ?_) | refine WD.g_split rfl rfl (fun hc => ?_) (fun hc => ?_) | refine W.cond rfl (fun hc => ?_) (fun hc => ?_))
  rename_i b4 b6 b7
  refine W.drawG 14 [(b4, .cells [.int .i64 5, .int .u32 o.tsn, .int .u16 o.stream, .int .u16 o.ssn, .bool o.un, .bool o.fi, .bool o.la, .slice o.ba o.bn o.bc, .int .i64 o.path, .int .i64 o.now, .int .i64 o.id, .int .u32 o.by_, .slice o.ga o.gn o.gc].toArray 70 (0, 0))] (fun _ h => h.sublist (.cons _ (.cons _ (.cons_cons _ (List.nil_sublist _))))) ?_
  repeat' (first
    | refine WF.pA ?_ | refine WF.sA ?_)
  refine WF.e rfl Ef.bs0 ?_ ?_
  · rintro _ _ ⟨b5, rfl, rfl⟩
    refine ⟨.inr (fun _ h => h.sublist (.cons _ (.cons _ (.cons _ (.cons_cons _ (List.nil_sublist _)))))), ?_⟩
    repeat' (first
      | refine WF.pA ?_ | refine WF.sA ?_)
    refine WF.e rfl (Ef.app (m := o.gn) (news := gs.flatMap gC) (by exact rfl) (by exact rfl) rfl rfl (OwnS.empty _ _ b5) (.last .here) ((ho.gaps.mono (fun _ h => h.sublist (List.nil_sublist _))).src) (by rw [flat_len' gC 2 gC_len, hgn]) (gs_one gs) (by rw [flat_len' gC 2 gC_len]; simp; omega) (by rw [flat_len' gC 2 gC_len]; simp [maxLen]; omega)) ?_ ?_
    · rintro v' _ ⟨ghb, hown, rfl⟩
      obtain ⟨sa, sn, sc, rfl, hl2, _⟩ := OwnS.shape hown
      refine ⟨.inr (fun _ h => h.right.sublist (.cons _ (.cons _ (.cons_cons _ (List.nil_sublist _))))), ?_⟩
      repeat' (first
        | refine WF.pA ?_ | refine WF.sA ?_)
      refine WF.e rfl (Ef.call (c := []) (by exact rfl) (.nil _) (sack_nil _ (Spn.u32 (cum + o.by_)) 0 sa sn sc none 0 0)) ?_ ?_
      · rintro _ _ ⟨_, ⟨rfl, rfl⟩, rfl⟩
        refine ⟨.inr (fun _ h => h.right.right.sublist (.cons _ (.cons _ (.cons_cons _ (List.nil_sublist _))))), ?_⟩
        dsimp only [tup]
        rw [List.nil_append]
        repeat' (first
          | refine WF.pA ?_ | refine WF.sA ?_)
        refine WF.nil ?_
        refine WD.aA (fun b16 => ?_) (hk := fun _ => .inr (fun _ h => In.sublist (.cons _ (.trans (.cons _ (.cons _ (.cons_cons _ (List.nil_sublist _)))) (List.sublist_append_right _ _))) h))
        refine WD.e0A ?_
        repeat' (first | refine S1 ?_ | refine SA (fun _ => ?_) | refine WL.g_split rfl rfl (fun hc => ?_) (fun hc => ?_) | refine WD.g_split rfl rfl (fun hc => ?_) (fun hc => ?_) | refine W.cond rfl (fun hc => ?_) (fun hc => ?_))
        refine WL.e rfl (Ef.call (c := []) (by exact rfl) (.nil _) (plain_tr _ Tld.zero)) ?_
        rintro _ _ ⟨_, ⟨rfl, rfl⟩, rfl⟩
        dsimp only [tup]
        rw [List.nil_append]
        repeat' (first | refine S1 ?_ | refine SA (fun _ => ?_) | refine WL.g_split rfl rfl (fun hc => ?_) (fun hc => ?_) | refine WD.g_split rfl rfl (fun hc => ?_) (fun hc => ?_) | refine W.cond rfl (fun hc => ?_) (fun hc => ?_))
        refine Fin.retW (by exact rfl) resA (H' := []) (fun _ h => h.sublist (List.nil_sublist _)) ⟨_, _, _, rfl, rfl⟩
      · refine WD.aA (fun b16 => ?_) (hk := fun _ => .inr (fun _ h => h.sublist (.cons _ (.trans (.cons _ (.cons _ (.cons_cons _ (List.nil_sublist _)))) (List.sublist_append_right _ _)))))
        refine WD.e rfl (Ef.call (c := []) (by exact rfl) (.nil _) (sack_nil _ (Spn.u32 (cum + o.by_)) 0 sa sn sc none 0 0)) ?_
        rintro _ _ ⟨_, ⟨rfl, rfl⟩, rfl⟩
        refine ⟨.inr (fun _ h => h.right.sublist (by repeat (first | exact List.Sublist.refl _ | exact List.Sublist.cons_cons _ (List.nil_sublist _) | refine List.Sublist.cons _ ?_ | refine List.Sublist.trans ?_ (List.sublist_append_right _ _)))), ?_⟩
        dsimp only [tup]
        rw [List.nil_append]
        repeat' (first | refine S1 ?_ | refine SA (fun _ => ?_) | refine WL.g_split rfl rfl (fun hc => ?_) (fun hc => ?_) | refine WD.g_split rfl rfl (fun hc => ?_) (fun hc => ?_) | refine W.cond rfl (fun hc => ?_) (fun hc => ?_))
        repeat' (first | refine S1 ?_ | refine SA (fun _ => ?_) | refine WL.g_split rfl rfl (fun hc => ?_) (fun hc => ?_) | refine WD.g_split rfl rfl (fun hc => ?_) (fun hc => ?_) | refine W.cond rfl (fun hc => ?_) (fun hc => ?_))
        refine WL.e rfl (Ef.call (c := []) (by exact rfl) (.nil _) (plain_tr _ Tld.zero)) ?_
        rintro _ _ ⟨_, ⟨rfl, rfl⟩, rfl⟩
        dsimp only [tup]
        rw [List.nil_append]
        repeat' (first | refine S1 ?_ | refine SA (fun _ => ?_) | refine WL.g_split rfl rfl (fun hc => ?_) (fun hc => ?_) | refine WD.g_split rfl rfl (fun hc => ?_) (fun hc => ?_) | refine W.cond rfl (fun hc => ?_) (fun hc => ?_))
        refine Fin.retW (by exact rfl) resA (H' := []) (fun _ h => h.sublist (List.nil_sublist _)) ⟨_, _, _, rfl, rfl⟩
    · refine WD.aA (fun b16 => ?_) (hk := fun _ => .inr (fun _ h => h.sublist (.cons _ (.cons _ (.cons _ (.cons _ (.cons_cons _ (List.nil_sublist _))))))))
      refine WD.e rfl (Ef.app (m := o.gn) (news := gs.flatMap gC) (by exact rfl) (by exact rfl) rfl rfl (OwnS.empty _ _ b5) subA ((ho.gaps.mono (fun _ h => h.sublist (List.nil_sublist _))).src) (by rw [flat_len' gC 2 gC_len, hgn]) (gs_one gs) (by rw [flat_len' gC 2 gC_len]; simp; omega) (by rw [flat_len' gC 2 gC_len]; simp [maxLen]; omega)) ?_
      rintro v' _ ⟨ghb, hown, rfl⟩
      obtain ⟨sa, sn, sc, rfl, hl2, _⟩ := OwnS.shape hown
      refine ⟨.inr (fun _ h => h.right.sublist (.cons _ (.cons _ (.cons _ (.cons_cons _ (List.nil_sublist _)))))), ?_⟩
      repeat' (first | refine S1 ?_ | refine SA (fun _ => ?_) | refine WL.g_split rfl rfl (fun hc => ?_) (fun hc => ?_) | refine WD.g_split rfl rfl (fun hc => ?_) (fun hc => ?_) | refine W.cond rfl (fun hc => ?_) (fun hc => ?_))
      refine WD.e rfl (Ef.call (c := []) (by exact rfl) (.nil _) (sack_nil _ (Spn.u32 (cum + o.by_)) 0 sa sn sc none 0 0)) ?_
      rintro _ _ ⟨_, ⟨rfl, rfl⟩, rfl⟩
      refine ⟨.inr (fun _ h => h.right.sublist (by repeat (first | exact List.Sublist.refl _ | exact List.Sublist.cons_cons _ (List.nil_sublist _) | refine List.Sublist.cons _ ?_ | refine List.Sublist.trans ?_ (List.sublist_append_right _ _)))), ?_⟩
      dsimp only [tup]
      rw [List.nil_append]
      repeat' (first | refine S1 ?_ | refine SA (fun _ => ?_) | refine WL.g_split rfl rfl (fun hc => ?_) (fun hc => ?_) | refine WD.g_split rfl rfl (fun hc => ?_) (fun hc => ?_) | refine W.cond rfl (fun hc => ?_) (fun hc => ?_))
      repeat' (first | refine S1 ?_ | refine SA (fun _ => ?_) | refine WL.g_split rfl rfl (fun hc => ?_) (fun hc => ?_) | refine WD.g_split rfl rfl (fun hc => ?_) (fun hc => ?_) | refine W.cond rfl (fun hc => ?_) (fun hc => ?_))
      refine WL.e rfl (Ef.call (c := []) (by exact rfl) (.nil _) (plain_tr _ Tld.zero)) ?_
      rintro _ _ ⟨_, ⟨rfl, rfl⟩, rfl⟩
      dsimp only [tup]
      rw [List.nil_append]
      repeat' (first | refine S1 ?_ | refine SA (fun _ => ?_) | refine WL.g_split rfl rfl (fun hc => ?_) (fun hc => ?_) | refine WD.g_split rfl rfl (fun hc => ?_) (fun hc => ?_) | refine W.cond rfl (fun hc => ?_) (fun hc => ?_))
      refine Fin.retW (by exact rfl) resA (H' := []) (fun _ h => h.sublist (List.nil_sublist _)) ⟨_, _, _, rfl, rfl⟩
  · refine WD.aA (fun b16 => ?_) (hk := fun _ => .inr (fun _ h => h.sublist (.cons _ (.cons _ (.cons _ (.cons_cons _ (List.nil_sublist _)))))))
    refine WD.e rfl Ef.bs0 ?_
    rintro _ _ ⟨b5, rfl, rfl⟩
    refine ⟨.inr (fun _ h => h.sublist (.cons _ (.cons _ (.cons _ (.cons _ (.cons_cons _ (List.nil_sublist _))))))), ?_⟩
    repeat' (first | refine S1 ?_ | refine SA (fun _ => ?_) | refine WL.g_split rfl rfl (fun hc => ?_) (fun hc => ?_) | refine WD.g_split rfl rfl (fun hc => ?_) (fun hc => ?_) | refine W.cond rfl (fun hc => ?_) (fun hc => ?_))
    refine WD.e rfl (Ef.app (m := o.gn) (news := gs.flatMap gC) (by exact rfl) (by exact rfl) rfl rfl (OwnS.empty _ _ b5) subA ((ho.gaps.mono (fun _ h => h.sublist (List.nil_sublist _))).src) (by rw [flat_len' gC 2 gC_len, hgn]) (gs_one gs) (by rw [flat_len' gC 2 gC_len]; simp; omega) (by rw [flat_len' gC 2 gC_len]; simp [maxLen]; omega)) ?_
    rintro v' _ ⟨ghb, hown, rfl⟩
    obtain ⟨sa, sn, sc, rfl, hl2, _⟩ := OwnS.shape hown
    refine ⟨.inr (fun _ h => h.right.sublist (.cons _ (.cons _ (.cons _ (.cons_cons _ (List.nil_sublist _)))))), ?_⟩
    repeat' (first | refine S1 ?_ | refine SA (fun _ => ?_) | refine WL.g_split rfl rfl (fun hc => ?_) (fun hc => ?_) | refine WD.g_split rfl rfl (fun hc => ?_) (fun hc => ?_) | refine W.cond rfl (fun hc => ?_) (fun hc => ?_))
    refine WD.e rfl (Ef.call (c := []) (by exact rfl) (.nil _) (sack_nil _ (Spn.u32 (cum + o.by_)) 0 sa sn sc none 0 0)) ?_
    rintro _ _ ⟨_, ⟨rfl, rfl⟩, rfl⟩
    refine ⟨.inr (fun _ h => h.right.sublist (by repeat (first | exact List.Sublist.refl _ | exact List.Sublist.cons_cons _ (List.nil_sublist _) | refine List.Sublist.cons _ ?_ | refine List.Sublist.trans ?_ (List.sublist_append_right _ _)))), ?_⟩
    dsimp only [tup]
    rw [List.nil_append]
    repeat' (first | refine S1 ?_ | refine SA (fun _ => ?_) | refine WL.g_split rfl rfl (fun hc => ?_) (fun hc => ?_) | refine WD.g_split rfl rfl (fun hc => ?_) (fun hc => ?_) | refine W.cond rfl (fun hc => ?_) (fun hc => ?_))
    repeat' (first | refine S1 ?_ | refine SA (fun _ => ?_) | refine WL.g_split rfl rfl (fun hc => ?_) (fun hc => ?_) | refine WD.g_split rfl rfl (fun hc => ?_) (fun hc => ?_) | refine W.cond rfl (fun hc => ?_) (fun hc => ?_))
    refine WL.e rfl (Ef.call (c := []) (by exact rfl) (.nil _) (plain_tr _ Tld.zero)) ?_
    rintro _ _ ⟨_, ⟨rfl, rfl⟩, rfl⟩
    dsimp only [tup]
    rw [List.nil_append]
    repeat' (first | refine S1 ?_ | refine SA (fun _ => ?_) | refine WL.g_split rfl rfl (fun hc => ?_) (fun hc => ?_) | refine WD.g_split rfl rfl (fun hc => ?_) (fun hc => ?_) | refine W.cond rfl (fun hc => ?_) (fun hc => ?_))
    refine Fin.retW (by exact rfl) resA (H' := []) (fun _ h => h.sublist (List.nil_sublist _)) ⟨_, _, _, rfl, rfl⟩
set_option maxHeartbeats 4000000 in
theorem nil_none (F : Nat → Option Obj) (o : OpM) (h0 : o.kind ≠ 0) (h1 : o.kind ≠ 1) (h2 : o.kind ≠ 2) (h3 : o.kind ≠ 3) (h4 : o.kind ≠ 4) (h5 : o.kind ≠ 5) (cum : Int) :
    Tr Try.prog 22 [.pointer none, .agg o.cells.toArray, .int .u32 cum].toArray F [] (NilQ 3) := by
  refine Tr.enter Try.func22 rfl Try.ntmps22 rfl (fun w0 => ?_)
  unfold OpM.cells
  repeat' (first | refine S1 ?_ | refine SA (fun _ => ?_) | refine WL.g_split rfl rfl (fun hc => ?_) (fun hc => ?_) | refine WD.g_split rfl rfl (fun hc => ?_) (fun hc => ?_) | refine W.cond rfl (fun hc => ?_) (fun hc => ?_))
  · exact absurd (by simpa using hc) h0
  · exact absurd (by simpa using hc) h1
  · exact absurd (by simpa using hc) h2
  · exact absurd (by simpa using hc) h3
  · exact absurd (by simpa using hc) h4
  · exact absurd (by simpa using hc) h5
  ·
    refine Fin.retW (by exact rfl) resA (H' := []) (fun _ h => h.sublist (List.nil_sublist _)) ⟨_, _, _, rfl, rfl⟩
theorem nil_does (F : Nat → Option Obj) (o : OpM) (bs : List UInt8) (gs : List (Nat × Nat)) (ho : o.Is F bs gs) (hbs : bs.length ≤ 1000000) (hgs : gs.length ≤ 1000) (cum : Int) :
    Tr Try.prog 22 [.pointer none, .agg o.cells.toArray, .int .u32 cum].toArray F [] (NilQ o.kind) := by
  by_cases h0 : o.kind = 0
  · rw [h0]; exact nil_add F o bs gs ho hbs h0 cum
  by_cases h1 : o.kind = 1
  · rw [h1]; exact nil_again F o h1 cum
  by_cases h2 : o.kind = 2
  · rw [h2]; exact nil_get F o h2 cum
  by_cases h3 : o.kind = 3
  · rw [h3]; exact nil_mark F o h3 cum
  by_cases h4 : o.kind = 4
  · rw [h4]; exact nil_abandon F o h4 cum
  by_cases h5 : o.kind = 5
  · rw [h5]; exact nil_sack F o bs gs ho hgs h5 cum
  · have := nil_none F o h0 h1 h2 h3 h4 h5 cum
    have e : nilE 3 = nilE o.kind := by simp [nilE, h0, h1, h5]
    unfold NilQ at this ⊢
    rw [← e]
    exact this
end Go.Proofs.Ytglobldnockdoaa
