/- The document's event of the fields of its kind alone, with these as words, and its line, walked. Conditions: the event lies in memory; lengths within bounds. -/
import Derived.Test.YtjcekmiengnglaaGreatDoorSuA
import Derived.Test.YtjcekmiengnglaaGreatDoorStO
namespace Go.Proofs.YtjcekmiengnglaaGreatDoor
open Go Go.Sl Go.Scr

/-- the bytes of y are those of x, or none -/
def Byt (x y : Evx) : Prop := (y.e.bytes = x.e.bytes ∧ y.ba = x.ba ∧ y.bn = x.bn ∧ y.bc = x.bc) ∨ (y.e.bytes = [] ∧ y.bn = 0)
theorem Byt.is {F : Nat → Option Obj} {x y : Evx} (h : Byt x y) (hx : x.Is F) (ho : y.e.Ok) : y.Is F := by
  rcases h with ⟨h1, h2, h3, h4⟩ | ⟨h1, h2⟩
  · exact ⟨ho, by rw [h1, h2, h3, h4]; exact hx.bytes, by rw [h1]; exact hx.len⟩
  · exact ⟨ho, by rw [h1, h2]; exact .nil, by rw [h1]; exact Nat.zero_le _⟩
def OnlyQ (x : Evx) (v : Value) (H' : HL) : Prop := ∃ (y : Evx) (sa : Option Addr) (sn sc : Nat), v = tup [.agg y.cells.toArray, .slice sa sn sc] ∧ y.e = x.e.only ∧ Byt x y ∧ OwnS 9 1 ((kword x.e.kind :: x.e.words).map S) (.slice sa sn sc) H'
theorem only_ok {e : Evt} (h : e.Ok) : e.only.Ok := by
  unfold Evt.only
  have : ∀ (l : List Scr.Fd) (o : Evt), o.Ok → (l.foldl (fun o f => o.set f (e.get f)) o).Ok := by
    intro l
    induction l with
    | nil => intro o h; exact h
    | cons f l ih => intro o ho; exact ih _ (ho.set _ _ (h.fits f))
  exact this _ _ ⟨h.kind, ⟨by show (0 : Int) ≤ 0; decide, by show (0 : Int) < 256; decide⟩, ⟨by show (0 : Int) ≤ 0; decide, by show (0 : Int) < 65536; decide⟩, ⟨by show _ ≤ (0 : Int); decide, by show (0 : Int) < _; decide⟩, ⟨by show _ ≤ (0 : Int); decide, by show (0 : Int) < _; decide⟩, ⟨by show _ ≤ (0 : Int); decide, by show (0 : Int) < _; decide⟩⟩
set_option maxHeartbeats 16000000 in
theorem only_tr (F : Nat → Option Obj) (x : Evx) (hx : x.Is F) (hlb : x.e.bytes.length ≤ 100000000000) : Tr Tryz.prog 41 [.agg x.cells.toArray].toArray F [] (OnlyQ x) := by
  refine Tr.enter Tryz.func41 rfl Tryz.ntmps41 rfl (fun w0 => ?_)
  obtain ⟨⟨kind, fin, act, ord, str, path, n, life, bytes⟩, ba, bn, bc⟩ := x
  obtain ⟨⟨hk, hf, hs, hp, hn, hl⟩, hby, hlen⟩ := hx
  dsimp only at hk hf hs hp hn hl hby hlen hlb
  have e0 : IntKind.i64.wrap fin = fin := i64_id (by omega) (by omega)
  have e1 : IntKind.i64.wrap str = str := i64_id (by omega) (by omega)
  have i0 : I64 fin := ⟨by omega, by omega⟩
  have i1 : I64 str := ⟨by omega, by omega⟩
  have i2 : I64 path := hp
  have i3 : I64 n := hn
  have i4 : I64 life := hl
  have q1 : ∀ {m : Int}, (kind == m) = true → kind = m := fun h => by simpa using h
  unfold Evx.cells
  dsimp only
  repeat' (first | refine S2b ?_ | refine S3 ?_ | refine SA (fun _ => ?_) | refine G1 (fun hc => ?_) (fun hc => ?_) | refine G2 (fun hc => ?_) (fun hc => ?_) | refine G3 (fun hc => ?_) (fun hc => ?_) | refine SL ?_ | fail)
  refine WL.e rfl (Ef.lookR (by exact rfl) (fun F' hF => rword_tr F' [] kind hk)) ?_
  rintro _ _ ⟨rfl, rfl⟩
  obtain ⟨w1, hw1⟩ : ∃ w1, w1 = kword kind := ⟨_, rfl⟩
  rw [← hw1]
  have hkc : kind = 1 ∨ kind = 2 ∨ kind = 3 ∨ kind = 4 ∨ kind = 5 ∨ kind = 6 ∨ kind = 7 ∨ kind = 8 ∨ kind = 9 ∨ kind = 10 ∨ kind = 11 ∨ (kind ≠ 1 ∧ kind ≠ 2 ∧ kind ≠ 3 ∧ kind ≠ 4 ∧ kind ≠ 5 ∧ kind ≠ 6 ∧ kind ≠ 7 ∧ kind ≠ 8 ∧ kind ≠ 9 ∧ kind ≠ 10 ∧ kind ≠ 11) := by omega
  rcases hkc with rfl | rfl | rfl | rfl | rfl | rfl | rfl | rfl | rfl | rfl | rfl | ⟨n1, n2, n3, n4, n5, n6, n7, n8, n9, n10, n11⟩
  · repeat' (first | refine S2b ?_ | refine S3 ?_ | refine SA (fun _ => ?_) | refine G1 (fun hc => ?_) (fun hc => ?_) | refine G2 (fun hc => ?_) (fun hc => ?_) | refine G3 (fun hc => ?_) (fun hc => ?_) | refine SL ?_ | fail)
    rw [e0]
    refine WL.e rfl (Ef.lookR (by exact rfl) (fun F' hF => number_tr F' [] fin i0)) ?_
    rintro _ _ ⟨rfl, rfl⟩
    repeat' (first | refine S2b ?_ | refine S3 ?_ | refine SA (fun _ => ?_) | refine G1 (fun hc => ?_) (fun hc => ?_) | refine G2 (fun hc => ?_) (fun hc => ?_) | refine G3 (fun hc => ?_) (fun hc => ?_) | refine SL ?_ | fail)
    refine WL.e rfl (Ef.app (m := 1) (news := [S (num fin)]) (hb := [(_, .cells [S w1].toArray 9 (0, 0))]) (by exact rfl) (by exact rfl) rfl rfl (own_lit (E := 9) (l := [S w1]) (by simp)) subA (Src.own (n := 1) (.here rfl)) rfl (by simp [Value.oneCell', S]) (by simp) (by simp [maxLen])) ?_
    rintro _ _ ⟨hw, hown, rfl⟩
    obtain ⟨sa, sn, sc, rfl, _, _⟩ := hown.shape
    repeat' (first | refine S2b ?_ | refine S3 ?_ | refine SA (fun _ => ?_) | refine G1 (fun hc => ?_) (fun hc => ?_) | refine G2 (fun hc => ?_) (fun hc => ?_) | refine G3 (fun hc => ?_) (fun hc => ?_) | refine SL ?_ | fail)
    refine W.drawA ?_
    repeat' (first | refine S2b ?_ | refine S3 ?_ | refine SA (fun _ => ?_) | refine G1 (fun hc => ?_) (fun hc => ?_) | refine G2 (fun hc => ?_) (fun hc => ?_) | refine G3 (fun hc => ?_) (fun hc => ?_) | refine SL ?_ | fail)
    refine WD.e rfl (Ef.lookR (by exact rfl) (fun F' hF => yes_tr F' [] _)) ?_
    rintro _ _ ⟨rfl, rfl⟩
    refine ⟨.inr (fun _ h => h), ?_⟩
    repeat' (first | refine S2b ?_ | refine S3 ?_ | refine SA (fun _ => ?_) | refine G1 (fun hc => ?_) (fun hc => ?_) | refine G2 (fun hc => ?_) (fun hc => ?_) | refine G3 (fun hc => ?_) (fun hc => ?_) | refine SL ?_ | fail)
    refine WD.e rfl (Ef.lookR (by exact rfl) (fun F' hF => number_tr F' [] _ (by assumption))) ?_
    rintro _ _ ⟨rfl, rfl⟩
    refine ⟨.inr (fun _ h => h), ?_⟩
    repeat' (first | refine S2b ?_ | refine S3 ?_ | refine SA (fun _ => ?_) | refine G1 (fun hc => ?_) (fun hc => ?_) | refine G2 (fun hc => ?_) (fun hc => ?_) | refine G3 (fun hc => ?_) (fun hc => ?_) | refine SL ?_ | fail)
    refine WD.e rfl (Ef.bsN (n := 2) (r := [S (yn act), S (num n)]) (by exact rfl) (by exact rfl) (by exact rfl) (by exact rfl) rfl (by exact rfl)) ?_
    rintro _ _ ⟨g, rfl, rfl⟩
    refine ⟨.inr (fun _ h => h.sublist (List.sublist_cons_self _ _)), ?_⟩
    repeat' (first | refine S2b ?_ | refine S3 ?_ | refine SA (fun _ => ?_) | refine G1 (fun hc => ?_) (fun hc => ?_) | refine G2 (fun hc => ?_) (fun hc => ?_) | refine G3 (fun hc => ?_) (fun hc => ?_) | refine SL ?_ | fail)
    refine WD.e rfl (Ef.app (m := 2) (news := [S (yn act), S (num n)]) (hb := hw) (by exact rfl) (by exact rfl) rfl rfl hown subA (Src.own (n := 2) (.here rfl)) rfl (by simp [Value.oneCell', S]) (by simp) (by simp [maxLen])) ?_
    rintro _ _ ⟨hw2, hown2, rfl⟩
    obtain ⟨sa2, sn2, sc2, rfl, _, _⟩ := hown2.shape
    refine ⟨.inl (by kernel_rfl), ?_⟩
    repeat' (first | refine S2b ?_ | refine S3 ?_ | refine SA (fun _ => ?_) | refine G1 (fun hc => ?_) (fun hc => ?_) | refine G2 (fun hc => ?_) (fun hc => ?_) | refine G3 (fun hc => ?_) (fun hc => ?_) | refine SL ?_ | fail)
    subst hw1
    exact Fin.retW (by exact rfl) resA (H' := hw2) (fun _ h => h.sublist (List.sublist_append_left _ _)) ⟨⟨⟨1, fin, act, false, 0, 0, n, 0, []⟩, none, 0, 0⟩, _, _, _, rfl, rfl, .inr ⟨rfl, rfl⟩, hown2⟩
  · repeat' (first | refine S2b ?_ | refine S3 ?_ | refine SA (fun _ => ?_) | refine G1 (fun hc => ?_) (fun hc => ?_) | refine G2 (fun hc => ?_) (fun hc => ?_) | refine G3 (fun hc => ?_) (fun hc => ?_) | refine SL ?_ | fail)
    rw [e0]
    refine WL.e rfl (Ef.lookR (by exact rfl) (fun F' hF => number_tr F' [] fin i0)) ?_
    rintro _ _ ⟨rfl, rfl⟩
    repeat' (first | refine S2b ?_ | refine S3 ?_ | refine SA (fun _ => ?_) | refine G1 (fun hc => ?_) (fun hc => ?_) | refine G2 (fun hc => ?_) (fun hc => ?_) | refine G3 (fun hc => ?_) (fun hc => ?_) | refine SL ?_ | fail)
    refine WL.e rfl (Ef.app (m := 1) (news := [S (num fin)]) (hb := [(_, .cells [S w1].toArray 9 (0, 0))]) (by exact rfl) (by exact rfl) rfl rfl (own_lit (E := 9) (l := [S w1]) (by simp)) subA (Src.own (n := 1) (.here rfl)) rfl (by simp [Value.oneCell', S]) (by simp) (by simp [maxLen])) ?_
    rintro _ _ ⟨hw, hown, rfl⟩
    obtain ⟨sa, sn, sc, rfl, _, _⟩ := hown.shape
    repeat' (first | refine S2b ?_ | refine S3 ?_ | refine SA (fun _ => ?_) | refine G1 (fun hc => ?_) (fun hc => ?_) | refine G2 (fun hc => ?_) (fun hc => ?_) | refine G3 (fun hc => ?_) (fun hc => ?_) | refine SL ?_ | fail)
    refine W.drawA ?_
    repeat' (first | refine S2b ?_ | refine S3 ?_ | refine SA (fun _ => ?_) | refine G1 (fun hc => ?_) (fun hc => ?_) | refine G2 (fun hc => ?_) (fun hc => ?_) | refine G3 (fun hc => ?_) (fun hc => ?_) | refine SL ?_ | fail)
    rw [e1]
    refine WD.e rfl (Ef.lookR (by exact rfl) (fun F' hF => number_tr F' [] _ (by assumption))) ?_
    rintro _ _ ⟨rfl, rfl⟩
    refine ⟨.inr (fun _ h => h), ?_⟩
    repeat' (first | refine S2b ?_ | refine S3 ?_ | refine SA (fun _ => ?_) | refine G1 (fun hc => ?_) (fun hc => ?_) | refine G2 (fun hc => ?_) (fun hc => ?_) | refine G3 (fun hc => ?_) (fun hc => ?_) | refine SL ?_ | fail)
    refine WD.e rfl (Ef.lookR (by exact rfl) (fun F' hF => yes_tr F' [] _)) ?_
    rintro _ _ ⟨rfl, rfl⟩
    refine ⟨.inr (fun _ h => h), ?_⟩
    repeat' (first | refine S2b ?_ | refine S3 ?_ | refine SA (fun _ => ?_) | refine G1 (fun hc => ?_) (fun hc => ?_) | refine G2 (fun hc => ?_) (fun hc => ?_) | refine G3 (fun hc => ?_) (fun hc => ?_) | refine SL ?_ | fail)
    refine WD.e rfl (Ef.lookR (by exact rfl) (fun F' hF => number_tr F' [] _ (by assumption))) ?_
    rintro _ _ ⟨rfl, rfl⟩
    refine ⟨.inr (fun _ h => h), ?_⟩
    repeat' (first | refine S2b ?_ | refine S3 ?_ | refine SA (fun _ => ?_) | refine G1 (fun hc => ?_) (fun hc => ?_) | refine G2 (fun hc => ?_) (fun hc => ?_) | refine G3 (fun hc => ?_) (fun hc => ?_) | refine SL ?_ | fail)
    refine WD.e rfl (Ef.lookR (by exact rfl) (fun F' hF => octets_tr F' [] bytes ba bn bc (hby.mono (fun w h => (hF w h).sublist (List.nil_sublist _))) (by omega))) ?_
    rintro _ _ ⟨rfl, rfl⟩
    refine ⟨.inr (fun _ h => h), ?_⟩
    repeat' (first | refine S2b ?_ | refine S3 ?_ | refine SA (fun _ => ?_) | refine G1 (fun hc => ?_) (fun hc => ?_) | refine G2 (fun hc => ?_) (fun hc => ?_) | refine G3 (fun hc => ?_) (fun hc => ?_) | refine SL ?_ | fail)
    refine WD.e rfl (Ef.bsN (n := 4) (r := [S (num str), S (yn ord), S (num life), S (oct bytes)]) (by exact rfl) (by exact rfl) (by exact rfl) (by exact rfl) rfl (by exact rfl)) ?_
    rintro _ _ ⟨g, rfl, rfl⟩
    refine ⟨.inr (fun _ h => h.sublist (List.sublist_cons_self _ _)), ?_⟩
    repeat' (first | refine S2b ?_ | refine S3 ?_ | refine SA (fun _ => ?_) | refine G1 (fun hc => ?_) (fun hc => ?_) | refine G2 (fun hc => ?_) (fun hc => ?_) | refine G3 (fun hc => ?_) (fun hc => ?_) | refine SL ?_ | fail)
    refine WD.e rfl (Ef.app (m := 4) (news := [S (num str), S (yn ord), S (num life), S (oct bytes)]) (hb := hw) (by exact rfl) (by exact rfl) rfl rfl hown subA (Src.own (n := 4) (.here rfl)) rfl (by simp [Value.oneCell', S]) (by simp) (by simp [maxLen])) ?_
    rintro _ _ ⟨hw2, hown2, rfl⟩
    obtain ⟨sa2, sn2, sc2, rfl, _, _⟩ := hown2.shape
    refine ⟨.inl (by kernel_rfl), ?_⟩
    repeat' (first | refine S2b ?_ | refine S3 ?_ | refine SA (fun _ => ?_) | refine G1 (fun hc => ?_) (fun hc => ?_) | refine G2 (fun hc => ?_) (fun hc => ?_) | refine G3 (fun hc => ?_) (fun hc => ?_) | refine SL ?_ | fail)
    subst hw1
    exact Fin.retW (by exact rfl) resA (H' := hw2) (fun _ h => h.sublist (List.sublist_append_left _ _)) ⟨⟨⟨2, fin, false, ord, str, 0, 0, life, bytes⟩, ba, bn, bc⟩, _, _, _, rfl, rfl, .inl ⟨rfl, rfl, rfl, rfl⟩, hown2⟩
  · repeat' (first | refine S2b ?_ | refine S3 ?_ | refine SA (fun _ => ?_) | refine G1 (fun hc => ?_) (fun hc => ?_) | refine G2 (fun hc => ?_) (fun hc => ?_) | refine G3 (fun hc => ?_) (fun hc => ?_) | refine SL ?_ | fail)
    rw [e0]
    refine WL.e rfl (Ef.lookR (by exact rfl) (fun F' hF => number_tr F' [] fin i0)) ?_
    rintro _ _ ⟨rfl, rfl⟩
    repeat' (first | refine S2b ?_ | refine S3 ?_ | refine SA (fun _ => ?_) | refine G1 (fun hc => ?_) (fun hc => ?_) | refine G2 (fun hc => ?_) (fun hc => ?_) | refine G3 (fun hc => ?_) (fun hc => ?_) | refine SL ?_ | fail)
    refine WL.e rfl (Ef.app (m := 1) (news := [S (num fin)]) (hb := [(_, .cells [S w1].toArray 9 (0, 0))]) (by exact rfl) (by exact rfl) rfl rfl (own_lit (E := 9) (l := [S w1]) (by simp)) subA (Src.own (n := 1) (.here rfl)) rfl (by simp [Value.oneCell', S]) (by simp) (by simp [maxLen])) ?_
    rintro _ _ ⟨hw, hown, rfl⟩
    obtain ⟨sa, sn, sc, rfl, _, _⟩ := hown.shape
    repeat' (first | refine S2b ?_ | refine S3 ?_ | refine SA (fun _ => ?_) | refine G1 (fun hc => ?_) (fun hc => ?_) | refine G2 (fun hc => ?_) (fun hc => ?_) | refine G3 (fun hc => ?_) (fun hc => ?_) | refine SL ?_ | fail)
    subst hw1
    exact Fin.retW (by exact rfl) resA (H' := hw) (fun _ h => h.sublist (List.sublist_append_left _ _)) ⟨⟨⟨3, fin, false, false, 0, 0, 0, 0, []⟩, none, 0, 0⟩, _, _, _, rfl, rfl, .inr ⟨rfl, rfl⟩, hown⟩
  · repeat' (first | refine S2b ?_ | refine S3 ?_ | refine SA (fun _ => ?_) | refine G1 (fun hc => ?_) (fun hc => ?_) | refine G2 (fun hc => ?_) (fun hc => ?_) | refine G3 (fun hc => ?_) (fun hc => ?_) | refine SL ?_ | fail)
    rw [e0]
    refine WL.e rfl (Ef.lookR (by exact rfl) (fun F' hF => number_tr F' [] fin i0)) ?_
    rintro _ _ ⟨rfl, rfl⟩
    repeat' (first | refine S2b ?_ | refine S3 ?_ | refine SA (fun _ => ?_) | refine G1 (fun hc => ?_) (fun hc => ?_) | refine G2 (fun hc => ?_) (fun hc => ?_) | refine G3 (fun hc => ?_) (fun hc => ?_) | refine SL ?_ | fail)
    refine WL.e rfl (Ef.app (m := 1) (news := [S (num fin)]) (hb := [(_, .cells [S w1].toArray 9 (0, 0))]) (by exact rfl) (by exact rfl) rfl rfl (own_lit (E := 9) (l := [S w1]) (by simp)) subA (Src.own (n := 1) (.here rfl)) rfl (by simp [Value.oneCell', S]) (by simp) (by simp [maxLen])) ?_
    rintro _ _ ⟨hw, hown, rfl⟩
    obtain ⟨sa, sn, sc, rfl, _, _⟩ := hown.shape
    repeat' (first | refine S2b ?_ | refine S3 ?_ | refine SA (fun _ => ?_) | refine G1 (fun hc => ?_) (fun hc => ?_) | refine G2 (fun hc => ?_) (fun hc => ?_) | refine G3 (fun hc => ?_) (fun hc => ?_) | refine SL ?_ | fail)
    subst hw1
    exact Fin.retW (by exact rfl) resA (H' := hw) (fun _ h => h.sublist (List.sublist_append_left _ _)) ⟨⟨⟨4, fin, false, false, 0, 0, 0, 0, []⟩, none, 0, 0⟩, _, _, _, rfl, rfl, .inr ⟨rfl, rfl⟩, hown⟩
  · repeat' (first | refine S2b ?_ | refine S3 ?_ | refine SA (fun _ => ?_) | refine G1 (fun hc => ?_) (fun hc => ?_) | refine G2 (fun hc => ?_) (fun hc => ?_) | refine G3 (fun hc => ?_) (fun hc => ?_) | refine SL ?_ | fail)
    rw [e0]
    refine WL.e rfl (Ef.lookR (by exact rfl) (fun F' hF => number_tr F' [] fin i0)) ?_
    rintro _ _ ⟨rfl, rfl⟩
    repeat' (first | refine S2b ?_ | refine S3 ?_ | refine SA (fun _ => ?_) | refine G1 (fun hc => ?_) (fun hc => ?_) | refine G2 (fun hc => ?_) (fun hc => ?_) | refine G3 (fun hc => ?_) (fun hc => ?_) | refine SL ?_ | fail)
    refine WL.e rfl (Ef.app (m := 1) (news := [S (num fin)]) (hb := [(_, .cells [S w1].toArray 9 (0, 0))]) (by exact rfl) (by exact rfl) rfl rfl (own_lit (E := 9) (l := [S w1]) (by simp)) subA (Src.own (n := 1) (.here rfl)) rfl (by simp [Value.oneCell', S]) (by simp) (by simp [maxLen])) ?_
    rintro _ _ ⟨hw, hown, rfl⟩
    obtain ⟨sa, sn, sc, rfl, _, _⟩ := hown.shape
    repeat' (first | refine S2b ?_ | refine S3 ?_ | refine SA (fun _ => ?_) | refine G1 (fun hc => ?_) (fun hc => ?_) | refine G2 (fun hc => ?_) (fun hc => ?_) | refine G3 (fun hc => ?_) (fun hc => ?_) | refine SL ?_ | fail)
    subst hw1
    exact Fin.retW (by exact rfl) resA (H' := hw) (fun _ h => h.sublist (List.sublist_append_left _ _)) ⟨⟨⟨5, fin, false, false, 0, 0, 0, 0, []⟩, none, 0, 0⟩, _, _, _, rfl, rfl, .inr ⟨rfl, rfl⟩, hown⟩
  · repeat' (first | refine S2b ?_ | refine S3 ?_ | refine SA (fun _ => ?_) | refine G1 (fun hc => ?_) (fun hc => ?_) | refine G2 (fun hc => ?_) (fun hc => ?_) | refine G3 (fun hc => ?_) (fun hc => ?_) | refine SL ?_ | fail)
    refine WL.e rfl (Ef.lookR (by exact rfl) (fun F' hF => number_tr F' [] n i3)) ?_
    rintro _ _ ⟨rfl, rfl⟩
    repeat' (first | refine S2b ?_ | refine S3 ?_ | refine SA (fun _ => ?_) | refine G1 (fun hc => ?_) (fun hc => ?_) | refine G2 (fun hc => ?_) (fun hc => ?_) | refine G3 (fun hc => ?_) (fun hc => ?_) | refine SL ?_ | fail)
    refine WL.e rfl (Ef.app (m := 1) (news := [S (num n)]) (hb := [(_, .cells [S w1].toArray 9 (0, 0))]) (by exact rfl) (by exact rfl) rfl rfl (own_lit (E := 9) (l := [S w1]) (by simp)) subA (Src.own (n := 1) (.here rfl)) rfl (by simp [Value.oneCell', S]) (by simp) (by simp [maxLen])) ?_
    rintro _ _ ⟨hw, hown, rfl⟩
    obtain ⟨sa, sn, sc, rfl, _, _⟩ := hown.shape
    repeat' (first | refine S2b ?_ | refine S3 ?_ | refine SA (fun _ => ?_) | refine G1 (fun hc => ?_) (fun hc => ?_) | refine G2 (fun hc => ?_) (fun hc => ?_) | refine G3 (fun hc => ?_) (fun hc => ?_) | refine SL ?_ | fail)
    subst hw1
    exact Fin.retW (by exact rfl) resA (H' := hw) (fun _ h => h.sublist (List.sublist_append_left _ _)) ⟨⟨⟨6, 0, false, false, 0, 0, n, 0, []⟩, none, 0, 0⟩, _, _, _, rfl, rfl, .inr ⟨rfl, rfl⟩, hown⟩
  · repeat' (first | refine S2b ?_ | refine S3 ?_ | refine SA (fun _ => ?_) | refine G1 (fun hc => ?_) (fun hc => ?_) | refine G2 (fun hc => ?_) (fun hc => ?_) | refine G3 (fun hc => ?_) (fun hc => ?_) | refine SL ?_ | fail)
    refine WL.e rfl (Ef.lookR (by exact rfl) (fun F' hF => number_tr F' [] n i3)) ?_
    rintro _ _ ⟨rfl, rfl⟩
    repeat' (first | refine S2b ?_ | refine S3 ?_ | refine SA (fun _ => ?_) | refine G1 (fun hc => ?_) (fun hc => ?_) | refine G2 (fun hc => ?_) (fun hc => ?_) | refine G3 (fun hc => ?_) (fun hc => ?_) | refine SL ?_ | fail)
    refine WL.e rfl (Ef.app (m := 1) (news := [S (num n)]) (hb := [(_, .cells [S w1].toArray 9 (0, 0))]) (by exact rfl) (by exact rfl) rfl rfl (own_lit (E := 9) (l := [S w1]) (by simp)) subA (Src.own (n := 1) (.here rfl)) rfl (by simp [Value.oneCell', S]) (by simp) (by simp [maxLen])) ?_
    rintro _ _ ⟨hw, hown, rfl⟩
    obtain ⟨sa, sn, sc, rfl, _, _⟩ := hown.shape
    repeat' (first | refine S2b ?_ | refine S3 ?_ | refine SA (fun _ => ?_) | refine G1 (fun hc => ?_) (fun hc => ?_) | refine G2 (fun hc => ?_) (fun hc => ?_) | refine G3 (fun hc => ?_) (fun hc => ?_) | refine SL ?_ | fail)
    subst hw1
    exact Fin.retW (by exact rfl) resA (H' := hw) (fun _ h => h.sublist (List.sublist_append_left _ _)) ⟨⟨⟨7, 0, false, false, 0, 0, n, 0, []⟩, none, 0, 0⟩, _, _, _, rfl, rfl, .inr ⟨rfl, rfl⟩, hown⟩
  · repeat' (first | refine S2b ?_ | refine S3 ?_ | refine SA (fun _ => ?_) | refine G1 (fun hc => ?_) (fun hc => ?_) | refine G2 (fun hc => ?_) (fun hc => ?_) | refine G3 (fun hc => ?_) (fun hc => ?_) | refine SL ?_ | fail)
    refine WL.e rfl (Ef.lookR (by exact rfl) (fun F' hF => number_tr F' [] n i3)) ?_
    rintro _ _ ⟨rfl, rfl⟩
    repeat' (first | refine S2b ?_ | refine S3 ?_ | refine SA (fun _ => ?_) | refine G1 (fun hc => ?_) (fun hc => ?_) | refine G2 (fun hc => ?_) (fun hc => ?_) | refine G3 (fun hc => ?_) (fun hc => ?_) | refine SL ?_ | fail)
    refine WL.e rfl (Ef.app (m := 1) (news := [S (num n)]) (hb := [(_, .cells [S w1].toArray 9 (0, 0))]) (by exact rfl) (by exact rfl) rfl rfl (own_lit (E := 9) (l := [S w1]) (by simp)) subA (Src.own (n := 1) (.here rfl)) rfl (by simp [Value.oneCell', S]) (by simp) (by simp [maxLen])) ?_
    rintro _ _ ⟨hw, hown, rfl⟩
    obtain ⟨sa, sn, sc, rfl, _, _⟩ := hown.shape
    repeat' (first | refine S2b ?_ | refine S3 ?_ | refine SA (fun _ => ?_) | refine G1 (fun hc => ?_) (fun hc => ?_) | refine G2 (fun hc => ?_) (fun hc => ?_) | refine G3 (fun hc => ?_) (fun hc => ?_) | refine SL ?_ | fail)
    subst hw1
    exact Fin.retW (by exact rfl) resA (H' := hw) (fun _ h => h.sublist (List.sublist_append_left _ _)) ⟨⟨⟨8, 0, false, false, 0, 0, n, 0, []⟩, none, 0, 0⟩, _, _, _, rfl, rfl, .inr ⟨rfl, rfl⟩, hown⟩
  · repeat' (first | refine S2b ?_ | refine S3 ?_ | refine SA (fun _ => ?_) | refine G1 (fun hc => ?_) (fun hc => ?_) | refine G2 (fun hc => ?_) (fun hc => ?_) | refine G3 (fun hc => ?_) (fun hc => ?_) | refine SL ?_ | fail)
    refine W.drawA ?_
    repeat' (first | refine S2b ?_ | refine S3 ?_ | refine SA (fun _ => ?_) | refine G1 (fun hc => ?_) (fun hc => ?_) | refine G2 (fun hc => ?_) (fun hc => ?_) | refine G3 (fun hc => ?_) (fun hc => ?_) | refine SL ?_ | fail)
    refine WD.e rfl (Ef.lookR (by exact rfl) (fun F' hF => number_tr F' [] _ (by assumption))) ?_
    rintro _ _ ⟨rfl, rfl⟩
    refine ⟨.inr (fun _ h => h), ?_⟩
    repeat' (first | refine S2b ?_ | refine S3 ?_ | refine SA (fun _ => ?_) | refine G1 (fun hc => ?_) (fun hc => ?_) | refine G2 (fun hc => ?_) (fun hc => ?_) | refine G3 (fun hc => ?_) (fun hc => ?_) | refine SL ?_ | fail)
    refine WD.e rfl (Ef.lookR (by exact rfl) (fun F' hF => number_tr F' [] _ (by assumption))) ?_
    rintro _ _ ⟨rfl, rfl⟩
    refine ⟨.inr (fun _ h => h), ?_⟩
    repeat' (first | refine S2b ?_ | refine S3 ?_ | refine SA (fun _ => ?_) | refine G1 (fun hc => ?_) (fun hc => ?_) | refine G2 (fun hc => ?_) (fun hc => ?_) | refine G3 (fun hc => ?_) (fun hc => ?_) | refine SL ?_ | fail)
    refine WD.e rfl (Ef.bsN (n := 2) (r := [S (num n), S (num life)]) (by exact rfl) (by exact rfl) (by exact rfl) (by exact rfl) rfl (by exact rfl)) ?_
    rintro _ _ ⟨g, rfl, rfl⟩
    refine ⟨.inr (fun _ h => h.sublist (List.sublist_cons_self _ _)), ?_⟩
    repeat' (first | refine S2b ?_ | refine S3 ?_ | refine SA (fun _ => ?_) | refine G1 (fun hc => ?_) (fun hc => ?_) | refine G2 (fun hc => ?_) (fun hc => ?_) | refine G3 (fun hc => ?_) (fun hc => ?_) | refine SL ?_ | fail)
    refine WD.e rfl (Ef.app (m := 2) (news := [S (num n), S (num life)]) (hb := [(_, .cells [S w1].toArray 9 (0, 0))]) (by exact rfl) (by exact rfl) rfl rfl (own_lit (E := 9) (l := [S w1]) (by simp)) subA (Src.own (n := 2) (.here rfl)) rfl (by simp [Value.oneCell', S]) (by simp) (by simp [maxLen])) ?_
    rintro _ _ ⟨hw2, hown2, rfl⟩
    obtain ⟨sa2, sn2, sc2, rfl, _, _⟩ := hown2.shape
    refine ⟨.inl (by kernel_rfl), ?_⟩
    repeat' (first | refine S2b ?_ | refine S3 ?_ | refine SA (fun _ => ?_) | refine G1 (fun hc => ?_) (fun hc => ?_) | refine G2 (fun hc => ?_) (fun hc => ?_) | refine G3 (fun hc => ?_) (fun hc => ?_) | refine SL ?_ | fail)
    subst hw1
    exact Fin.retW (by exact rfl) resA (H' := hw2) (fun _ h => h.sublist (List.sublist_append_left _ _)) ⟨⟨⟨9, 0, false, false, 0, 0, n, life, []⟩, none, 0, 0⟩, _, _, _, rfl, rfl, .inr ⟨rfl, rfl⟩, hown2⟩
  · repeat' (first | refine S2b ?_ | refine S3 ?_ | refine SA (fun _ => ?_) | refine G1 (fun hc => ?_) (fun hc => ?_) | refine G2 (fun hc => ?_) (fun hc => ?_) | refine G3 (fun hc => ?_) (fun hc => ?_) | refine SL ?_ | fail)
    refine W.drawA ?_
    repeat' (first | refine S2b ?_ | refine S3 ?_ | refine SA (fun _ => ?_) | refine G1 (fun hc => ?_) (fun hc => ?_) | refine G2 (fun hc => ?_) (fun hc => ?_) | refine G3 (fun hc => ?_) (fun hc => ?_) | refine SL ?_ | fail)
    refine WD.e rfl (Ef.lookR (by exact rfl) (fun F' hF => number_tr F' [] _ (by assumption))) ?_
    rintro _ _ ⟨rfl, rfl⟩
    refine ⟨.inr (fun _ h => h), ?_⟩
    repeat' (first | refine S2b ?_ | refine S3 ?_ | refine SA (fun _ => ?_) | refine G1 (fun hc => ?_) (fun hc => ?_) | refine G2 (fun hc => ?_) (fun hc => ?_) | refine G3 (fun hc => ?_) (fun hc => ?_) | refine SL ?_ | fail)
    refine WD.e rfl (Ef.lookR (by exact rfl) (fun F' hF => yes_tr F' [] _)) ?_
    rintro _ _ ⟨rfl, rfl⟩
    refine ⟨.inr (fun _ h => h), ?_⟩
    repeat' (first | refine S2b ?_ | refine S3 ?_ | refine SA (fun _ => ?_) | refine G1 (fun hc => ?_) (fun hc => ?_) | refine G2 (fun hc => ?_) (fun hc => ?_) | refine G3 (fun hc => ?_) (fun hc => ?_) | refine SL ?_ | fail)
    refine WD.e rfl (Ef.bsN (n := 2) (r := [S (num path), S (yn act)]) (by exact rfl) (by exact rfl) (by exact rfl) (by exact rfl) rfl (by exact rfl)) ?_
    rintro _ _ ⟨g, rfl, rfl⟩
    refine ⟨.inr (fun _ h => h.sublist (List.sublist_cons_self _ _)), ?_⟩
    repeat' (first | refine S2b ?_ | refine S3 ?_ | refine SA (fun _ => ?_) | refine G1 (fun hc => ?_) (fun hc => ?_) | refine G2 (fun hc => ?_) (fun hc => ?_) | refine G3 (fun hc => ?_) (fun hc => ?_) | refine SL ?_ | fail)
    refine WD.e rfl (Ef.app (m := 2) (news := [S (num path), S (yn act)]) (hb := [(_, .cells [S w1].toArray 9 (0, 0))]) (by exact rfl) (by exact rfl) rfl rfl (own_lit (E := 9) (l := [S w1]) (by simp)) subA (Src.own (n := 2) (.here rfl)) rfl (by simp [Value.oneCell', S]) (by simp) (by simp [maxLen])) ?_
    rintro _ _ ⟨hw2, hown2, rfl⟩
    obtain ⟨sa2, sn2, sc2, rfl, _, _⟩ := hown2.shape
    refine ⟨.inl (by kernel_rfl), ?_⟩
    repeat' (first | refine S2b ?_ | refine S3 ?_ | refine SA (fun _ => ?_) | refine G1 (fun hc => ?_) (fun hc => ?_) | refine G2 (fun hc => ?_) (fun hc => ?_) | refine G3 (fun hc => ?_) (fun hc => ?_) | refine SL ?_ | fail)
    subst hw1
    exact Fin.retW (by exact rfl) resA (H' := hw2) (fun _ h => h.sublist (List.sublist_append_left _ _)) ⟨⟨⟨10, 0, act, false, 0, path, 0, 0, []⟩, none, 0, 0⟩, _, _, _, rfl, rfl, .inr ⟨rfl, rfl⟩, hown2⟩
  · repeat' (first | refine S2b ?_ | refine S3 ?_ | refine SA (fun _ => ?_) | refine G1 (fun hc => ?_) (fun hc => ?_) | refine G2 (fun hc => ?_) (fun hc => ?_) | refine G3 (fun hc => ?_) (fun hc => ?_) | refine SL ?_ | fail)
    rw [e0]
    refine WL.e rfl (Ef.lookR (by exact rfl) (fun F' hF => number_tr F' [] fin i0)) ?_
    rintro _ _ ⟨rfl, rfl⟩
    repeat' (first | refine S2b ?_ | refine S3 ?_ | refine SA (fun _ => ?_) | refine G1 (fun hc => ?_) (fun hc => ?_) | refine G2 (fun hc => ?_) (fun hc => ?_) | refine G3 (fun hc => ?_) (fun hc => ?_) | refine SL ?_ | fail)
    refine WL.e rfl (Ef.app (m := 1) (news := [S (num fin)]) (hb := [(_, .cells [S w1].toArray 9 (0, 0))]) (by exact rfl) (by exact rfl) rfl rfl (own_lit (E := 9) (l := [S w1]) (by simp)) subA (Src.own (n := 1) (.here rfl)) rfl (by simp [Value.oneCell', S]) (by simp) (by simp [maxLen])) ?_
    rintro _ _ ⟨hw, hown, rfl⟩
    obtain ⟨sa, sn, sc, rfl, _, _⟩ := hown.shape
    repeat' (first | refine S2b ?_ | refine S3 ?_ | refine SA (fun _ => ?_) | refine G1 (fun hc => ?_) (fun hc => ?_) | refine G2 (fun hc => ?_) (fun hc => ?_) | refine G3 (fun hc => ?_) (fun hc => ?_) | refine SL ?_ | fail)
    refine W.drawA ?_
    repeat' (first | refine S2b ?_ | refine S3 ?_ | refine SA (fun _ => ?_) | refine G1 (fun hc => ?_) (fun hc => ?_) | refine G2 (fun hc => ?_) (fun hc => ?_) | refine G3 (fun hc => ?_) (fun hc => ?_) | refine SL ?_ | fail)
    refine WD.e rfl (Ef.lookR (by exact rfl) (fun F' hF => number_tr F' [] _ (by assumption))) ?_
    rintro _ _ ⟨rfl, rfl⟩
    refine ⟨.inr (fun _ h => h), ?_⟩
    repeat' (first | refine S2b ?_ | refine S3 ?_ | refine SA (fun _ => ?_) | refine G1 (fun hc => ?_) (fun hc => ?_) | refine G2 (fun hc => ?_) (fun hc => ?_) | refine G3 (fun hc => ?_) (fun hc => ?_) | refine SL ?_ | fail)
    refine WD.e rfl (Ef.lookR (by exact rfl) (fun F' hF => octets_tr F' [] bytes ba bn bc (hby.mono (fun w h => (hF w h).sublist (List.nil_sublist _))) (by omega))) ?_
    rintro _ _ ⟨rfl, rfl⟩
    refine ⟨.inr (fun _ h => h), ?_⟩
    repeat' (first | refine S2b ?_ | refine S3 ?_ | refine SA (fun _ => ?_) | refine G1 (fun hc => ?_) (fun hc => ?_) | refine G2 (fun hc => ?_) (fun hc => ?_) | refine G3 (fun hc => ?_) (fun hc => ?_) | refine SL ?_ | fail)
    refine WD.e rfl (Ef.bsN (n := 2) (r := [S (num path), S (oct bytes)]) (by exact rfl) (by exact rfl) (by exact rfl) (by exact rfl) rfl (by exact rfl)) ?_
    rintro _ _ ⟨g, rfl, rfl⟩
    refine ⟨.inr (fun _ h => h.sublist (List.sublist_cons_self _ _)), ?_⟩
    repeat' (first | refine S2b ?_ | refine S3 ?_ | refine SA (fun _ => ?_) | refine G1 (fun hc => ?_) (fun hc => ?_) | refine G2 (fun hc => ?_) (fun hc => ?_) | refine G3 (fun hc => ?_) (fun hc => ?_) | refine SL ?_ | fail)
    refine WD.e rfl (Ef.app (m := 2) (news := [S (num path), S (oct bytes)]) (hb := hw) (by exact rfl) (by exact rfl) rfl rfl hown subA (Src.own (n := 2) (.here rfl)) rfl (by simp [Value.oneCell', S]) (by simp) (by simp [maxLen])) ?_
    rintro _ _ ⟨hw2, hown2, rfl⟩
    obtain ⟨sa2, sn2, sc2, rfl, _, _⟩ := hown2.shape
    refine ⟨.inl (by kernel_rfl), ?_⟩
    repeat' (first | refine S2b ?_ | refine S3 ?_ | refine SA (fun _ => ?_) | refine G1 (fun hc => ?_) (fun hc => ?_) | refine G2 (fun hc => ?_) (fun hc => ?_) | refine G3 (fun hc => ?_) (fun hc => ?_) | refine SL ?_ | fail)
    subst hw1
    exact Fin.retW (by exact rfl) resA (H' := hw2) (fun _ h => h.sublist (List.sublist_append_left _ _)) ⟨⟨⟨11, fin, false, false, 0, path, 0, 0, bytes⟩, ba, bn, bc⟩, _, _, _, rfl, rfl, .inl ⟨rfl, rfl, rfl, rfl⟩, hown2⟩
  · have hkf : fds kind = [] := by unfold fds; rw [if_neg n1, if_neg n2, if_neg (by omega), if_neg (by omega), if_neg n9, if_neg n10, if_neg n11]
    have ho : Evt.only ⟨kind, fin, act, ord, str, path, n, life, bytes⟩ = ⟨kind, 0, false, false, 0, 0, 0, 0, []⟩ := by
      show List.foldl _ _ (fds kind) = _
      rw [hkf]
      rfl
    have hwd : Evt.words ⟨kind, fin, act, ord, str, path, n, life, bytes⟩ = [] := by
      show List.map _ (fds kind) = _
      rw [hkf]
      rfl
    have h1 : ¬ (kind == 1) = true := fun h => n1 (q1 h)
    have h2 : ¬ (kind == 2) = true := fun h => n2 (q1 h)
    have h3 : ¬ (kind == 3) = true := fun h => n3 (q1 h)
    have h4 : ¬ (kind == 4) = true := fun h => n4 (q1 h)
    have h5 : ¬ (kind == 5) = true := fun h => n5 (q1 h)
    have h6 : ¬ (kind == 6) = true := fun h => n6 (q1 h)
    have h7 : ¬ (kind == 7) = true := fun h => n7 (q1 h)
    have h8 : ¬ (kind == 8) = true := fun h => n8 (q1 h)
    have h9 : ¬ (kind == 9) = true := fun h => n9 (q1 h)
    have h10 : ¬ (kind == 10) = true := fun h => n10 (q1 h)
    have h11 : ¬ (kind == 11) = true := fun h => n11 (q1 h)
    repeat' (first | refine S2b ?_ | refine S3 ?_ | refine SA (fun _ => ?_) | refine G1 (fun hc => ?_) (fun hc => ?_) | refine G2 (fun hc => ?_) (fun hc => ?_) | refine G3 (fun hc => ?_) (fun hc => ?_) | refine SL ?_ | fail)
    all_goals first
    | contradiction
    | skip
    subst hw1
    refine Fin.retW (by exact rfl) resA (H' := [(_, .cells [S (kword kind)].toArray 9 (0, 0))]) (fun _ h => h.sublist (.cons_cons _ (List.nil_sublist _))) ⟨⟨⟨kind, 0, false, false, 0, 0, 0, 0, []⟩, none, 0, 0⟩, _, _, _, rfl, ho.symm, .inr ⟨rfl, rfl⟩, ?_⟩
    dsimp only
    rw [hwd]
    exact own_lit (E := 9) (l := [S (kword kind)]) (by simp)
end Go.Proofs.YtjcekmiengnglaaGreatDoor
