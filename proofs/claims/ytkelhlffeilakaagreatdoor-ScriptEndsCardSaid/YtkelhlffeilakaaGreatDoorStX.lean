/- The document's Split and Lines, walked. Conditions: the text's length is within bounds. -/
import Derived.Test.YtkelhlffeilakaaGreatDoorBuD
import Derived.Test.YtkelhlffeilakaaGreatDoorStR
import Derived.Test.YtkelhlffeilakaaGreatDoorBuJ
namespace Go.Proofs.YtkelhlffeilakaaGreatDoor
open Go Go.Sl Go.Scr

def pre (w : Str) : List Str → List Str
  | [] => [w]
  | v :: vs => (w ++ v) :: vs
theorem split_cons (c x : UInt8) (s : Str) : split c (x :: s) = if x = c then [] :: split c s else pre [x] (split c s) := by
  rw [split]
  split
  · rfl
  · cases split c s <;> rfl
theorem pre_nil {l : List Str} (h : l ≠ []) : pre [] l = l := by
  cases l with
  | nil => exact absurd rfl h
  | cons => rfl
theorem pre_pre (a b : Str) (l : List Str) : pre a (pre b l) = pre (a ++ b) l := by
  cases l <;> simp [pre]
structure SpG where
  i : Nat
  fr : Nat
  d : List Str
  sa : Option Addr
  sn : Nat
  sc : Nat
  hb : HL
set_option maxHeartbeats 8000000 in
theorem rsplit_tr (F : Nat → Option Obj) (s : Str) (c : UInt8) (hs : s.length ≤ 1000000000000) :
    Tr Tryz.prog 36 [S s, .int .u8 c.toNat].toArray F [] (fun v H' => ∃ sa sn sc, v = .slice sa sn sc ∧ OwnS 9 1 ((split c s).map S) (.slice sa sn sc) H') := by
  refine Tr.enter Tryz.func36 rfl Tryz.ntmps36 rfl (fun w0 => ?_)
  unfold S
  refine SP ?_; repeat' (first|refine ⟨fun hc=>?_,fun hc=>?_⟩|intro)
  refine W.loop (G := SpG) (fun g => [(0, .string (strB s)), (1, .int .u8 c.toNat), (5, .slice g.sa g.sn g.sc), (6, .int .i64 g.fr), (7, .int .i64 g.i)]) (fun g => g.hb)
    (fun g => g.i ≤ s.length ∧ g.fr ≤ g.i ∧ g.d.length ≤ g.i ∧ OwnS 9 1 (g.d.map S) (.slice g.sa g.sn g.sc) g.hb ∧ split c s = g.d ++ pre ((s.take g.i).drop g.fr) (split c (s.drop g.i))) (fun g => s.length - g.i) ⟨0, 0, [], none, 0, 0, []⟩
    ⟨Nat.zero_le _, Nat.le_refl _, Nat.le_refl _, .inl ⟨rfl, rfl, rfl⟩, by simp [pre_nil (split_ne c s)]⟩ envA (fun _ h => h) ?_
  rintro ⟨i, fr, d, sa, sn, sc, hb⟩ ⟨hi, hfr, hd, hown, hsp⟩
  dsimp only at hi hfr hd hown hsp ⊢
  refine SP ?_; repeat' (first|refine ⟨fun hc=>?_,fun hc=>?_⟩|intro)
  · rw [strB_size] at hc
    have hi' : i < s.length := by simp at hc; omega
    clear hc
    obtain ⟨x, hx⟩ : ∃ y, s[i]? = some y := ⟨s[i], by simp [hi']⟩
    have hdr : s.drop i = x :: s.drop (i + 1) := by rw [List.drop_eq_getElem_cons hi', (List.getElem?_eq_some_iff.1 hx).2]
    rw [hdr, split_cons] at hsp
    refine WL.p rfl (Pu.ixStr (m := strB s) (b := x) rfl rfl (by omega) (by rw [show (i : Int).toNat = i by omega]; exact strB_get hx)) ?_
    have hxc : ((x.toNat : Int) == (c.toNat : Int)) = decide (x = c) := by
      by_cases h : x = c
      · subst h; simp
      · rw [decide_eq_false h]
        have : x.toNat ≠ c.toNat := fun e => h (UInt8.toNat.inj e)
        simp; omega
    refine SP ?_; repeat' (first|refine ⟨fun hc=>?_,fun hc=>?_⟩|intro)
    · rw [hxc] at hc
      have hc' : x = c := of_decide_eq_true hc
      rw [if_pos hc'] at hsp
      refine WL.p rfl (Pu.cutStr (m := strB s) rfl rfl rfl (by omega) (by omega) (by rw [strB_size]; omega)) ?_
      rw [strB_cut, show (i : Int).toNat = i by omega, show (fr : Int).toNat = fr by omega]
      refine SP ?_; repeat' (first|refine ⟨fun hc=>?_,fun hc=>?_⟩|intro)
      refine WL.e rfl (Ef.app (m := 1) (news := [S ((s.take i).drop fr)]) (hb := hb) (by exact rfl) (by exact rfl) rfl rfl hown (.last (.there .all)) (Src.own (n := 1) (.here rfl)) rfl (by simp [Value.oneCell', S]) (by simp; omega) (by simp [maxLen]; omega)) ?_
      rintro _ _ ⟨hb', hown', rfl⟩
      obtain ⟨sa', sn', sc', rfl, _, _⟩ := hown'.shape
      refine SP ?_; repeat' (first|refine ⟨fun hc=>?_,fun hc=>?_⟩|intro)
      rw [i64_succ (by omega)]
      refine Fin.round ⟨i + 1, i + 1, d ++ [(s.take i).drop fr], sa', sn', sc', hb'⟩ ⟨hi', Nat.le_refl _, by simp; omega, ?_, ?_⟩ envA (fun _ h => h.sublist (List.sublist_append_left _ _)) (by dsimp only; omega)
      · dsimp only
        rw [List.map_append]
        exact hown'
      · dsimp only
        rw [hsp, show (s.take (i + 1)).drop (i + 1) = [] by simp, pre_nil (split_ne c _)]
        simp [pre]
    · rw [hxc] at hc
      have hc' : ¬ x = c := of_decide_eq_false hc
      rw [if_neg hc', pre_pre] at hsp
      rw [i64_succ (by omega)]
      refine Fin.round ⟨i + 1, fr, d, sa, sn, sc, hb⟩ ⟨hi', by dsimp only; omega, by dsimp only; omega, hown, ?_⟩ envA (fun _ h => h) (by dsimp only; omega)
      dsimp only
      rw [hsp, List.take_add_one, hx, List.drop_append_of_le_length (by rw [List.length_take]; omega)]
      rfl
  · rw [strB_size] at hc
    have hi' : i = s.length := by simp at hc; omega
    rw [hi', List.drop_of_length_le (Nat.le_refl _), List.take_of_length_le (Nat.le_refl _)] at hsp
    refine WL.p rfl (Pu.cutStrL (m := strB s) rfl rfl (by omega) (by rw [strB_size]; omega)) ?_
    rw [strB_cut, strB_size, List.take_of_length_le (Nat.le_refl _), show (fr : Int).toNat = fr by omega]
    refine SP ?_; repeat' (first|refine ⟨fun hc=>?_,fun hc=>?_⟩|intro)
    refine WL.e rfl (Ef.app (m := 1) (news := [S (s.drop fr)]) (hb := hb) (by exact rfl) (by exact rfl) rfl rfl hown (.last (.there .all)) (Src.own (n := 1) (.here rfl)) rfl (by simp [Value.oneCell', S]) (by simp; omega) (by simp [maxLen]; omega)) ?_
    rintro _ _ ⟨hb', hown', rfl⟩
    obtain ⟨sa', sn', sc', rfl, _, _⟩ := hown'.shape
    refine SP ?_; repeat' (first|refine ⟨fun hc=>?_,fun hc=>?_⟩|intro)
    refine Fin.retW (by exact rfl) resA (H' := hb') (fun _ h => h.sublist (List.sublist_append_left _ _)) ⟨sa', sn', sc', rfl, ?_⟩
    rw [hsp]
    have e : d ++ pre (s.drop fr) (split c []) = d ++ [s.drop fr] := by simp [pre, split]
    rw [e, List.map_append]
    exact hown'
set_option maxHeartbeats 8000000 in
theorem rlines_tr (F : Nat → Option Obj) (s : Str) (hs : s.length ≤ 100000000) :
    Tr Tryz.prog 20 [S s].toArray F [] (fun v H' => ∃ sa sc, v = .slice sa (lines s).length sc ∧ Lst F H' 1 ((lines s).map S) sa (lines s).length sc) := by
  refine Tr.enter Tryz.func20 rfl Tryz.ntmps20 rfl (fun w0 => ?_)
  refine SP ?_; repeat' (first|refine ⟨fun hc=>?_,fun hc=>?_⟩|intro)
  refine WL.e rfl (Ef.callW (c := []) (by exact rfl) (Sub.nil _) (fun F' hF => rsplit_tr F' s 10 (by omega))) ?_
  rintro _ _ ⟨hb, ⟨sa, sn, sc, rfl, hown⟩, rfl⟩
  have hne := split_ne 10 s
  obtain ⟨al, hal⟩ : ∃ al, al = split 10 s := ⟨_, rfl⟩
  rw [← hal] at hown hne
  have hap : 0 < al.length := List.length_pos_iff.2 hne
  have hsl : al.length ≤ s.length + 1 := by
    rw [hal]
    clear hal hown hne hap
    induction s with
    | nil => simp [split]
    | cons x s ih =>
      rw [split_cons]
      have := ih (by simp at hs; omega)
      split
      · simp; omega
      · cases h : split 10 s with
        | nil => simp [pre]
        | cons v vs => rw [h] at this; simp [pre] at this ⊢; omega
  have hsn : sn = al.length := by have := hown.len; simp at this; omega
  subst hsn
  have hl := Lst.own (F := F) (H := hb) hown (fun _ h => h)
  obtain ⟨b, o, rfl, hcan⟩ := hl.can (by omega)
  obtain ⟨z, hz⟩ : ∃ z, al[al.length - 1]? = some z := ⟨al[al.length - 1]'(by omega), by simp⟩
  have hll : al.getLast? = some z := by rw [List.getLast?_eq_getElem?]; exact hz
  have e1 : IntKind.i64.wrap ((al.length : Int) - 1) = ((al.length - 1 : Nat) : Int) := by rw [i64_id (by omega) (by omega)]; omega
  have hia : 0 ≤ IntKind.i64.wrap ((al.length : Int) - 1) ∧ IntKind.i64.wrap ((al.length : Int) - 1) < al.length := by rw [e1]; omega
  have hC : Sl.Can F (hb ++ []) b (o + (IntKind.i64.wrap ((al.length : Int) - 1)).toNat * 1) [.string (strB z)] := by
    rw [e1, List.append_nil]
    have := hcan.one (i := al.length - 1) (v := S z) (by rw [List.getElem?_map, hz]; rfl)
    rw [show ((al.length - 1 : Nat) : Int).toNat * 1 = al.length - 1 by omega]
    simpa [S] using this
  have hcap := hl.cap
  refine SP ?_; repeat' (first|refine ⟨fun hc=>?_,fun hc=>?_⟩|intro)
  · rw [show (ByteArray.mk #[]) = strB [] from rfl, eqS_bool] at hc
    have hz0 : z = [] := of_decide_eq_true hc
    have el : lines s = al.dropLast := by unfold lines; rw [← hal, if_pos (by rw [hll, hz0])]
    refine WL.p rfl (Pu.slHi rfl rfl ⟨by rw [e1]; omega, by rw [e1]; omega⟩) ?_
    refine SP ?_; repeat' (first|refine ⟨fun hc=>?_,fun hc=>?_⟩|intro)
    have hn : (IntKind.i64.wrap ((al.length : Int) - 1)).toNat = (lines s).length := by rw [e1, el, List.length_dropLast]; omega
    rw [hn]
    refine Fin.retW (by exact rfl) resA (H' := hb) (fun _ h => h.sublist (by simp)) ⟨_, _, rfl, ?_⟩
    refine ⟨by simp, by rw [el, List.length_dropLast]; omega, fun h0 => ⟨b, o, rfl, ?_⟩, fun h => by cases h⟩
    intro w hw j u hu
    refine hcan w hw j u ?_
    rw [el, List.getElem?_map] at hu
    rw [List.getElem?_map]
    cases hj : al.dropLast[j]? with
    | none => rw [hj] at hu; cases hu
    | some y =>
      rw [hj] at hu
      have := List.getElem?_dropLast (xs := al) (i := j)
      rw [hj] at this
      split at this
      · rw [← this]; exact hu
      · cases this
  · rw [show (ByteArray.mk #[]) = strB [] from rfl, eqS_bool] at hc
    have hz0 : ¬ z = [] := of_decide_eq_false hc
    have el : lines s = al := by unfold lines; rw [← hal, if_neg (by rw [hll]; simpa using hz0)]
    refine Fin.retW (by exact rfl) resA (H' := hb) (fun _ h => h.sublist (by simp)) ⟨_, _, by rw [el]; rfl, ?_⟩
    rw [el]
    exact hl
end Go.Proofs.YtkelhlffeilakaaGreatDoor
