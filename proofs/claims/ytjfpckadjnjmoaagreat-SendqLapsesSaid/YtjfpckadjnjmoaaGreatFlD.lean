/- A flight of pieces: Lost, Cum, Count, New, get, slices.Clone, walked: they answer as the plain functions do. Conditions: it is well formed. -/
import Derived.Test.YtjfpckadjnjmoaaGreatFlC
namespace Go.Proofs.YtjfpckadjnjmoaaGreat
open Go Go.Sl Go.Flt

/-- what a loop that collects what is lost owns between two rounds -/
def LJ (l D b2 b3 bn : Nat) (r : Loop) (f : FM) (i : Nat) (H : HL) : Prop := ∃ (sa : Option Addr) (sn sc : Nat) (hb : HL), OwnS 22 1 ((Flt.lostL ⟨(f.rs.map (·.r)).take i, f.c, f.paths⟩).map (Value.int .u32)) (.slice sa sn sc) hb ∧
  H = HS l D r b2 b3 f.R (.func (.func 95) ([] : List Value).toArray ([] : List Value).toArray) ((bn, .cells [.slice sa sn sc].toArray 63 (0, 0)) :: (hb ++ f.H))
theorem lostL_snoc {L : List Rc} {i : Nat} {r : Rc} (h : L[i]? = some r) (c p : Int) : Flt.lostL ⟨L.take (i + 1), c, p⟩ = Flt.lostL ⟨L.take i, c, p⟩ ++ if Flt.openR r then [r.tsn] else [] := by
  unfold Flt.lostL
  dsimp only
  rw [List.take_add_one, h, List.filter_append]
  cases hq : Flt.openR r <;> simp [hq]
theorem lostL_le (s : Flt.S) : (Flt.lostL s).length ≤ s.L.length := by
  unfold Flt.lostL
  rw [List.length_map]
  exact List.length_filter_le _ _
set_option maxHeartbeats 4000000 in
theorem lost_tr (F : Nat → Option Obj) (f : FM) (hf : f.ok) : Tr Tryz.prog 64 [.pointer (some ⟨f.R, 0, none⟩)].toArray F f.H (fun v H => ∃ (sa : Option Addr) (sn sc : Nat) (hb : HL), v = .slice sa sn sc ∧ OwnS 22 1 ((Flt.lostL f.S).map (Value.int .u32)) (.slice sa sn sc) hb ∧ H = hb ++ f.H) := by
  refine Tr.enterM Tryz.func64 rfl Tryz.ntmps64 rfl (fun w0 => ?_)
  have hlen := hf.len
  have hfew := hf.few
  repeat' (first | refine S1 ?_ | refine SD ?_ | refine SA (fun _ => ?_) | refine G1 (fun hc => ?_) (fun hc => ?_) | refine G2 (fun hc => ?_) (fun hc => ?_) | refine G3 (fun hc => ?_) (fun hc => ?_))
  rename_i bn
  refine WL.e rfl (Ef.call (by exact rfl) (.nil _) (such_tr _ (.pointer (some ⟨f.R, 0, none⟩)) (.func (.func 95) ([] : List Value).toArray ([] : List Value).toArray) rfl rfl)) ?_
  rintro _ _ ⟨_, ⟨b2, b3, rfl, rfl⟩, rfl⟩
  repeat' (first | refine S1 ?_ | refine SD ?_ | refine SA (fun _ => ?_) | refine G1 (fun hc => ?_) (fun hc => ?_) | refine G2 (fun hc => ?_) (fun hc => ?_) | refine G3 (fun hc => ?_) (fun hc => ?_))
  refine W.rangeF (gf := 91) (fv := []) (cv := [.pointer (some ⟨b2, 0, none⟩), .pointer (some ⟨b3, 0, none⟩)]) rfl rfl (fun l D r hr => ?_)
  have hcall := such1_tr F f.R b2 b3 l 95 [] f.sn f.sc f.sa (ptOf f) (by omega) (fun i => match f.rs[i]? with | some m => Flt.openR m.r | none => false) (LJ l D b2 b3 bn r f)
    (fun i H hi hH => by
      obtain ⟨sa, sn, sc, hb, hown, rfl⟩ := hH
      obtain ⟨h1, h2, h3, h4⟩ := su_cans (F := F) (l := l) (D := D) (lp := r) (b2 := b2) (b3 := b3) (isV := .func (.func 95) ([] : List Value).toArray ([] : List Value).toArray) (rest := (bn, .cells [.slice sa sn sc].toArray 63 (0, 0)) :: (hb ++ f.H)) hf rfl (fun w h => h.sublist (.cons _ (List.sublist_append_right _ _)))
      exact ⟨h1, h2, h3, h4 i⟩)
    (fun i H hi hH F' hF => by
      obtain ⟨sa, sn, sc, hb, hown, rfl⟩ := hH
      obtain ⟨m, hm⟩ : ∃ m, f.rs[i]? = some m := ⟨f.rs[i]'(by omega), by simp⟩
      unfold ptOf
      rw [hm]
      exact open_tr F' m (su_rec (fun w h => h.sublist (.cons _ (List.sublist_append_right _ _))) hF hm))
    (fun i H hi hq hH => by
      obtain ⟨sa, sn, sc, hb, hown, rfl⟩ := hH
      obtain ⟨m, hm⟩ : ∃ m, f.rs[i]? = some m := ⟨f.rs[i]'(by omega), by simp⟩
      rw [hm] at hq
      refine ⟨sa, sn, sc, hb, ?_, rfl⟩
      rw [lostL_snoc (r := m.r) (by rw [List.getElem?_map, hm]; rfl), show Flt.openR m.r = false from hq]
      simpa using hown)
    (fun i H hi hq hH F' hF => by
      obtain ⟨sa, sn, sc, hb, hown, rfl⟩ := hH
      obtain ⟨m, hm⟩ : ∃ m, f.rs[i]? = some m := ⟨f.rs[i]'(by omega), by simp⟩
      rw [hm] at hq
      have hle := lostL_le ⟨(f.rs.map (·.r)).take i, f.c, f.paths⟩
      simp only [List.length_take, List.length_map] at hle
      refine TrY.mono (R := fun v H' => v = .bool true ∧ ∃ (sa : Option Addr) (sn sc : Nat) (hb : HL), OwnS 22 1 ((Flt.lostL ⟨(f.rs.map (·.r)).take i, f.c, f.paths⟩).map (Value.int .u32) ++ [.int .u32 m.r.tsn]) (.slice sa sn sc) hb ∧ H' = HS l D r b2 b3 f.R (.func (.func 95) ([] : List Value).toArray ([] : List Value).toArray) ((bn, .cells [.slice sa sn sc].toArray 63 (0, 0)) :: (hb ++ f.H))) ?_ ?_
      · unfold ptOf
        rw [hm]
        have hpl : ((Flt.lostL ⟨(f.rs.map (·.r)).take i, f.c, f.paths⟩).map (Value.int .u32)).length ≤ 2048 := by rw [List.length_map]; omega
        obtain ⟨xs, hxs⟩ : ∃ xs, (Flt.lostL ⟨(f.rs.map (·.r)).take i, f.c, f.paths⟩).map (Value.int .u32) = xs := ⟨_, rfl⟩
        rw [hxs] at hown hpl ⊢
        refine TrY.of hr rfl (fun w h => h.own (l, .loop r) (by simp [HS])) (fun w1 => ?_)
        unfold RcM.p HS
        repeat' (first | refine S1 ?_ | refine SD ?_ | refine SA (fun _ => ?_) | refine G1 (fun hc => ?_) (fun hc => ?_) | refine G2 (fun hc => ?_) (fun hc => ?_) | refine G3 (fun hc => ?_) (fun hc => ?_))
        refine Fin.begin (Foc.here _) hr.state ?_
        repeat' (first | refine S1 ?_ | refine SD ?_ | refine SA (fun _ => ?_) | refine G1 (fun hc => ?_) (fun hc => ?_) | refine G2 (fun hc => ?_) (fun hc => ?_) | refine G3 (fun hc => ?_) (fun hc => ?_))
        refine WD.s rfl (Rd.ldC rfl ((rec_can' hm (fun _ h => h.sublist findA)).one (i := 0) rfl)) ?_
        repeat' (first | refine S1 ?_ | refine SD ?_ | refine SA (fun _ => ?_) | refine G1 (fun hc => ?_) (fun hc => ?_) | refine G2 (fun hc => ?_) (fun hc => ?_) | refine G3 (fun hc => ?_) (fun hc => ?_))
        refine WD.e rfl (Ef.app (m := 1) (news := [.int .u32 m.r.tsn]) (hb := hb) (by exact rfl) (by exact rfl) rfl rfl hown (.last (.there (.there (.there (.there (.there (.there .here))))))) (Src.own (n := 1) (.here rfl)) rfl (by simp [Value.oneCell']) (by simp; omega) (by simp [maxLen]; omega)) ?_
        rintro v' _ ⟨hb', hown', rfl⟩
        refine ⟨.inl (by kernel_rfl), ?_⟩
        obtain ⟨sa', sn', sc', rfl, _, _⟩ := OwnS.shape hown'
        repeat' (first | refine S1 ?_ | refine SD ?_ | refine SA (fun _ => ?_) | refine G1 (fun hc => ?_) (fun hc => ?_) | refine G2 (fun hc => ?_) (fun hc => ?_) | refine G3 (fun hc => ?_) (fun hc => ?_))
        refine Fin.more (Foc.right (.there _ (Foc.here _))) (H' := HS l D r b2 b3 f.R (.func (.func 95) ([] : List Value).toArray ([] : List Value).toArray) ((bn, .cells [.slice sa' sn' sc'].toArray 63 (0, 0)) :: (hb' ++ f.H))) (fun _ h => ?_) ⟨rfl, sa', sn', sc', hb', hown', rfl⟩
        simp only [hr.again] at h
        exact In.of_sub (.pick (.right (.there .here)) (.pick (.right (.there .here)) (.pick (.right (.there .here)) (.pick (.right (.there .here)) (.pick (.right (.there .here)) (.pickL (L := hb') .here (.last (.there .all)))))))) h
      · rintro _ _ ⟨rfl, sa, sn, sc, hb, hown, rfl⟩
        refine ⟨rfl, sa, sn, sc, hb, ?_, rfl⟩
        rw [lostL_snoc (r := m.r) (by rw [List.getElem?_map, hm]; rfl), show Flt.openR m.r = true from hq, if_pos rfl, List.map_append]
        exact hown)
    (HS l D r b2 b3 f.R (.func (.func 95) ([] : List Value).toArray ([] : List Value).toArray) ((bn, .cells [.slice none 0 0].toArray 63 (0, 0)) :: f.H)) ⟨none, 0, 0, [], .inl ⟨rfl, rfl, rfl⟩, rfl⟩
  refine Tr.mono hcall ?_
  rintro _ _ ⟨sa, sn, sc, hb, hown, rfl⟩
  rw [List.take_of_length_le (by simp; omega)] at hown
  refine ⟨r, _, .refl _, by rw [hr.state]; simp, ?_⟩
  rw [hr.pending]
  dsimp only [Cx.marked]
  repeat' (first | refine S1 ?_ | refine SD ?_ | refine SA (fun _ => ?_) | refine G1 (fun hc => ?_) (fun hc => ?_) | refine G2 (fun hc => ?_) (fun hc => ?_) | refine G3 (fun hc => ?_) (fun hc => ?_))
  exact Fin.retM (D := D) (by exact rfl) .here resA (H' := hb ++ f.H) (fun _ h => h.sublist findA) ⟨sa, sn, sc, hb, rfl, hown, rfl⟩

theorem cum_tr (F : Nat → Option Obj) (f : FM) : Tr Tryz.prog 75 [.pointer (some ⟨f.R, 0, none⟩)].toArray F f.H (fun v H => v = .int .u32 f.c ∧ H = f.H) := by
  refine Tr.enter Tryz.func75 rfl Tryz.ntmps75 rfl (fun w0 => ?_)
  unfold FM.H FM.B
  repeat' (first | refine S1 ?_ | refine SD ?_ | refine SA (fun _ => ?_) | refine G1 (fun hc => ?_) (fun hc => ?_) | refine G2 (fun hc => ?_) (fun hc => ?_) | refine G3 (fun hc => ?_) (fun hc => ?_))
  exact Fin.retW (by exact rfl) resA (fun _ h => h) ⟨rfl, rfl⟩
theorem cum_nil (F : Nat → Option Obj) : Tr Tryz.prog 75 [.pointer none].toArray F [] (fun v H => v = .int .u32 0 ∧ H = []) := by
  refine Tr.enter Tryz.func75 rfl Tryz.ntmps75 rfl (fun w0 => ?_)
  repeat' (first | refine S1 ?_ | refine SD ?_ | refine SA (fun _ => ?_) | refine G1 (fun hc => ?_) (fun hc => ?_) | refine G2 (fun hc => ?_) (fun hc => ?_) | refine G3 (fun hc => ?_) (fun hc => ?_))
  exact Fin.retW (by exact rfl) resA (fun _ h => h) ⟨rfl, rfl⟩
theorem count_tr (F : Nat → Option Obj) (f : FM) : Tr Tryz.prog 25 [.pointer (some ⟨f.R, 0, none⟩)].toArray F f.H (fun v H => v = .int .i64 f.sn ∧ H = f.H) := by
  refine Tr.enter Tryz.func25 rfl Tryz.ntmps25 rfl (fun w0 => ?_)
  unfold FM.H FM.B
  repeat' (first | refine S1 ?_ | refine SD ?_ | refine SA (fun _ => ?_) | refine G1 (fun hc => ?_) (fun hc => ?_) | refine G2 (fun hc => ?_) (fun hc => ?_) | refine G3 (fun hc => ?_) (fun hc => ?_))
  exact Fin.retW (by exact rfl) resA (fun _ h => h) ⟨rfl, rfl⟩
theorem count_nil (F : Nat → Option Obj) : Tr Tryz.prog 25 [.pointer none].toArray F [] (fun v H => v = .int .i64 0 ∧ H = []) := by
  refine Tr.enter Tryz.func25 rfl Tryz.ntmps25 rfl (fun w0 => ?_)
  repeat' (first | refine S1 ?_ | refine SD ?_ | refine SA (fun _ => ?_) | refine G1 (fun hc => ?_) (fun hc => ?_) | refine G2 (fun hc => ?_) (fun hc => ?_) | refine G3 (fun hc => ?_) (fun hc => ?_))
  exact Fin.retW (by exact rfl) resA (fun _ h => h) ⟨rfl, rfl⟩
/-- an empty flight -/
def FM.empty (b : Nat) (paths first : Int) : FM := ⟨b, none, 0, 0, [], [], Spn.u32 (first - 1), paths⟩
theorem FM.empty_ok (b : Nat) (paths first : Int) : (FM.empty b paths first).ok := ⟨.inl ⟨rfl, rfl, rfl⟩, fun _ h => by (cases h), by have := Spn.u32_eq (first - 1); dsimp only [FM.empty]; omega, Nat.zero_le _⟩
theorem new_tr (F : Nat → Option Obj) (paths first : Int) : Tr Tryz.prog 19 [.int .i64 paths, .int .u32 first].toArray F [] (fun v H =>
    (¬ (1 ≤ paths ∧ paths ≤ 4) ∧ v = tup [.pointer none, .int .i64 1] ∧ H = []) ∨ ((1 ≤ paths ∧ paths ≤ 4) ∧ ∃ b, v = tup [.pointer (some ⟨b, 0, none⟩), .int .i64 0] ∧ H = (FM.empty b paths first).H)) := by
  refine Tr.enter Tryz.func19 rfl Tryz.ntmps19 rfl (fun w0 => ?_)
  repeat' (first | refine S1 ?_ | refine SD ?_ | refine SA (fun _ => ?_) | refine G1 (fun hc => ?_) (fun hc => ?_) | refine G2 (fun hc => ?_) (fun hc => ?_) | refine G3 (fun hc => ?_) (fun hc => ?_))
  · exact Fin.retW (by exact rfl) resA (fun _ h => h) (.inl ⟨by simp at hc; omega, rfl, rfl⟩)
  · exact Fin.retW (by exact rfl) resA (fun _ h => h) (.inl ⟨by simp at hc; omega, rfl, rfl⟩)
  · exact Fin.retW (by exact rfl) resA (fun _ h => h) (.inr ⟨by simp_all, _, rfl, rfl⟩)
theorem ahead_tr (F : Nat → Option Obj) (a b : Int) : Tr Tryz.prog 101 [.int .u32 a, .int .u32 b].toArray F [] (fun v H => v = .int .u32 (Spn.u32 (b - a)) ∧ H = []) := by
  refine Tr.enter Tryz.func101 rfl Tryz.ntmps101 rfl (fun w0 => ?_)
  repeat' (first | refine S1 ?_ | refine SD ?_ | refine SA (fun _ => ?_) | refine G1 (fun hc => ?_) (fun hc => ?_) | refine G2 (fun hc => ?_) (fun hc => ?_) | refine G3 (fun hc => ?_) (fun hc => ?_))
  exact Fin.retW (by exact rfl) resA (fun _ h => h) ⟨rfl, rfl⟩
theorem in_tr (F : Nat → Option Obj) (y b : Int) (n : Nat) (hn : n ≤ 1000000) : Tr Tryz.prog 104 [.int .u32 y, .int .u32 b, .int .i64 n].toArray F [] (fun v H => v = .bool (atI b n y).isSome ∧ H = []) := by
  refine Tr.enter Tryz.func104 rfl Tryz.ntmps104 rfl (fun w0 => ?_)
  have hf := Spn.far_int b y
  have hl := Spn.far_lt b y
  repeat' (first | refine S1 ?_ | refine SD ?_ | refine SA (fun _ => ?_) | refine G1 (fun hc => ?_) (fun hc => ?_) | refine G2 (fun hc => ?_) (fun hc => ?_) | refine G3 (fun hc => ?_) (fun hc => ?_))
  refine WL.e rfl (Ef.callR (by exact rfl) (.nil _) (ahead_tr _ b y)) ?_
  rintro _ _ ⟨rfl, rfl⟩
  rw [← hf]
  have e1 : IntKind.u64.wrap ((Spn.far b y : Nat) : Int) = Spn.far b y := by simp [IntKind.wrap, IntKind.bits, IntKind.signed]; omega
  have e2 : IntKind.u64.wrap ((n : Nat) : Int) = n := by simp [IntKind.wrap, IntKind.bits, IntKind.signed]; omega
  repeat' (first | refine S1 ?_ | refine SD ?_ | refine SA (fun _ => ?_) | refine G1 (fun hc => ?_) (fun hc => ?_) | refine G2 (fun hc => ?_) (fun hc => ?_) | refine G3 (fun hc => ?_) (fun hc => ?_))
  all_goals
    refine Fin.retW (by exact rfl) resA (fun _ h => h) ⟨?_, rfl⟩
    unfold atI
    dsimp only [tup]
    try rw [e1, e2]
    simp at *
    try (split <;> simp <;> omega)
    try omega
theorem get_tr (F : Nat → Option Obj) (f : FM) (hf : f.ok) (t : Int) : Tr Tryz.prog 96 [.pointer (some ⟨f.R, 0, none⟩), .int .u32 t].toArray F f.H (fun v H => v = (match atI f.c f.sn t with | some i => ptOf f i | none => .pointer none) ∧ H = f.H) := by
  refine Tr.enter Tryz.func96 rfl Tryz.ntmps96 rfl (fun w0 => ?_)
  have hlen := hf.len
  have hfew := hf.few
  unfold FM.H FM.B
  repeat' (first | refine S1 ?_ | refine SD ?_ | refine SA (fun _ => ?_) | refine G1 (fun hc => ?_) (fun hc => ?_) | refine G2 (fun hc => ?_) (fun hc => ?_) | refine G3 (fun hc => ?_) (fun hc => ?_))
  refine WD.e rfl (Ef.callR (by exact rfl) (.nil _) (in_tr _ t f.c f.sn (by omega))) ?_
  rintro _ _ ⟨rfl, rfl⟩
  refine ⟨.inr (fun _ h => h), ?_⟩
  cases ha : atI f.c f.sn t with
  | none =>
    repeat' (first | refine S1 ?_ | refine SD ?_ | refine SA (fun _ => ?_) | refine G1 (fun hc => ?_) (fun hc => ?_) | refine G2 (fun hc => ?_) (fun hc => ?_) | refine G3 (fun hc => ?_) (fun hc => ?_))
    exact Fin.retW (by exact rfl) resA (fun _ h => h) ⟨rfl, rfl⟩
  | some i =>
    have hi : Spn.far f.c t = i + 1 ∧ i < f.sn := by
      unfold atI at ha
      split at ha
      · simp at ha; omega
      · cases ha
    have hk := Spn.far_int f.c t
    repeat' (first | refine S1 ?_ | refine SD ?_ | refine SA (fun _ => ?_) | refine G1 (fun hc => ?_) (fun hc => ?_) | refine G2 (fun hc => ?_) (fun hc => ?_) | refine G3 (fun hc => ?_) (fun hc => ?_))
    refine WD.e rfl (Ef.callR (by exact rfl) (.nil _) (ahead_tr _ f.c t)) ?_
    rintro _ _ ⟨rfl, rfl⟩
    refine ⟨.inr (fun _ h => h), ?_⟩
    rw [← hk, hi.1]
    have hm : f.rs[i]? = some (f.rs[i]'(by omega)) := by simp
    obtain ⟨gb, go, hsa, hp⟩ := fl_ptr (F := F) hf hm
    rw [show f.sa = some ⟨gb, go, none⟩ from hsa]
    have hw : IntKind.u32.wrap (((i + 1 : Nat) : Int) - 1) = (i : Int) := by rw [u32_id (by omega)]; omega
    have hia : 0 ≤ IntKind.u32.wrap (((i + 1 : Nat) : Int) - 1) ∧ IntKind.u32.wrap (((i + 1 : Nat) : Int) - 1) < f.sn := by rw [hw]; omega
    have hp' := hp
    unfold FM.H FM.B at hp'
    rw [hsa, ← hw] at hp'
    repeat' (first | refine S1 ?_ | refine SD ?_ | refine SA (fun _ => ?_) | refine G1 (fun hc => ?_) (fun hc => ?_) | refine G2 (fun hc => ?_) (fun hc => ?_) | refine G3 (fun hc => ?_) (fun hc => ?_))
    exact Fin.retW (by exact rfl) resA (fun _ h => h) ⟨by unfold ptOf; dsimp only; rw [hm]; rfl, rfl⟩
theorem get_nil (F : Nat → Option Obj) (t : Int) : Tr Tryz.prog 96 [.pointer none, .int .u32 t].toArray F [] (fun v H => v = .pointer none ∧ H = []) := by
  refine Tr.enter Tryz.func96 rfl Tryz.ntmps96 rfl (fun w0 => ?_)
  repeat' (first | refine S1 ?_ | refine SD ?_ | refine SA (fun _ => ?_) | refine G1 (fun hc => ?_) (fun hc => ?_) | refine G2 (fun hc => ?_) (fun hc => ?_) | refine G3 (fun hc => ?_) (fun hc => ?_))
  exact Fin.retW (by exact rfl) resA (fun _ h => h) ⟨rfl, rfl⟩
/-- slices.Clone, of bytes that can be read -/
theorem clone_tr (F : Nat → Option Obj) (bs : List UInt8) (sa : Option Addr) (sn sc : Nat) (hl : Lst F [] 1 (bs.map B) sa sn sc) (hn : bs.length ≤ 1000000000000) : Tr Tryz.prog 49 [.slice sa sn sc].toArray F [] (fun v H => ∃ (sa' : Option Addr) (sn' sc' : Nat), v = .slice sa' sn' sc' ∧ OwnS 5 1 (bs.map B) (.slice sa' sn' sc') H) := by
  refine Tr.enter Tryz.func49 rfl Tryz.ntmps49 rfl (fun w0 => ?_)
  have hlen : bs.length = sn := by have := hl.len; simp at this; exact this
  repeat' (first | refine S1 ?_ | refine SD ?_ | refine SA (fun _ => ?_) | refine G1 (fun hc => ?_) (fun hc => ?_) | refine G2 (fun hc => ?_) (fun hc => ?_) | refine G3 (fun hc => ?_) (fun hc => ?_))
  · have hs0 : sa = none := by simpa using hc
    subst hs0
    have h0 := hl.ok rfl
    rw [h0] at hlen
    have hbs : bs = [] := List.eq_nil_of_length_eq_zero hlen
    subst hbs
    exact Fin.retW (by exact rfl) resA (fun _ h => h) ⟨none, 0, 0, rfl, .inl ⟨rfl, rfl, rfl⟩⟩
  · refine WL.e rfl (Ef.app (m := sn) (news := bs.map B) (xs := []) (by exact rfl) (by exact rfl) rfl rfl (OwnS.empty _ _ _) (.all _) hl.any.src (by simp; omega) (B_one bs) (by simp; omega) (by simp [maxLen]; omega)) ?_
    rintro v' _ ⟨hb', hown', rfl⟩
    obtain ⟨sa', sn', sc', rfl, _, _⟩ := OwnS.shape hown'
    repeat' (first | refine S1 ?_ | refine SD ?_ | refine SA (fun _ => ?_) | refine G1 (fun hc => ?_) (fun hc => ?_) | refine G2 (fun hc => ?_) (fun hc => ?_) | refine G3 (fun hc => ?_) (fun hc => ?_))
    exact Fin.retW (by exact rfl) resA (H' := hb') (fun _ h => h.left) ⟨sa', sn', sc', rfl, hown'⟩
end Go.Proofs.YtjfpckadjnjmoaaGreat
