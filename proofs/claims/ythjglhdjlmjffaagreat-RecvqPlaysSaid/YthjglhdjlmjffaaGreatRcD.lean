/- The receiver's 'Data', 'Forward' and 'Sack', walked. Conditions: bounds on what is held; TSNs are 32 bits wide. -/
import Derived.Test.YthjglhdjlmjffaaGreatRcC
import Derived.Test.YthjglhdjlmjffaaGreatBc
namespace Go.Proofs.YthjglhdjlmjffaaGreat
open Go Go.Sl Go.Rm

section
variable {x : Cx} {env : Env} {H : HL} {dst : Option Tmp} {ty : TypeId} {pos : String} {aft : Array Edge} {gd : Option (Nat × Bool)}
theorem Ef.callVF {p : Operand} {f : FuncId} {args : List Operand} {tys : Array TypeId} {fv cv vals all : List Value} {c Hr : HL} {R : Value → HL → Prop} [bd : Body x.P f] (hp : ev env p = some (.func (.func f) fv.toArray cv.toArray)) (hargs : args.map (ev env) = vals.map some)
    (hall : fv ++ vals ++ cv = all) (hs : Sub c H Hr) (tr : (∀ p ∈ Hr, x.F p.1 = none) → Tr x.P f all.toArray (addF x.F Hr) c R) : Ef x env H ⟨dst, .call ⟨.value p, args.toArray, tys⟩, ty, pos, aft, gd⟩ (fun v H' => ∃ H1, R v H1 ∧ H' = H1 ++ Hr) := ⟨fun a w he hi =>
  (Ef.callV (dst := dst) (tys := tys) (ty := ty) (pos := pos) (aft := aft) (gd := gd) hp hargs hall hs (tr (fun p hp => hi.dj p (hs.perm'.mem_iff.2 (List.mem_append_right _ hp))))).run a w he hi⟩
end
def RDataQ (r : RcM) (X : HL) (d : D) (v : Value) (H : HL) : Prop :=
  v = tup [.bool (Rcv.dataA r.S d).1, .int .i64 (Rcv.dataA r.S d).2] ∧ ∃ r' : RcM, r'.ok ∧ H = r'.H ++ X ∧ r'.R = r.R ∧ r'.w.turns ≤ r.w.turns + 1 ∧ r'.S = Rcv.data r.S d
set_option maxHeartbeats 4000000 in
theorem rdata_tr (F : Nat → Option Obj) (X : HL) (r : RcM) (hr : r.ok) (d : D) (sa : Option Addr) (m sc : Nat) (hsrc : Src F X (.slice sa m sc) m (d.bytes.map B)) (hm : d.bytes.length = m)
    (h16 : 0 ≤ d.stream) (h65 : d.stream < 65536) (h32 : 0 ≤ d.tsn ∧ d.tsn < 4294967296) (hfew : r.w.turns < 1000000) (hmb : m ≤ 1000000000) :
    Tr Tryz.prog 23 [.pointer (some ⟨r.R, 0, none⟩), .agg (dCells d (.slice sa m sc)).toArray].toArray F (r.H ++ X) (RDataQ r X d) := by
  refine Tr.enter Tryz.func23 rfl Tryz.ntmps23 rfl (fun w0 => ?_)
  have hrd : ((⟨r.R, r.m, r.d, r.w, r.room, r.most, true, r.urg⟩ : RcM)).ok := ⟨hr.m, hr.d, hr.w, hr.room, hr.most, hr.n16, hr.nl, hr.fit⟩
  have hnil : d.bytes = [] ↔ m = 0 := by rw [← hm]; exact List.length_eq_zero_iff.symm
  unfold dCells
  rw [show r.H ++ X = r.B :: (r.m.H ++ (r.d.H ++ (r.w.H ++ X))) by unfold RcM.H; simp only [List.cons_append, List.append_assoc]]
  unfold RcM.B
  repeat' (first | refine S1 ?_ | refine SD ?_ | refine SA (fun _ => ?_) | refine WL.g_split rfl rfl (fun hc => ?_) (fun hc => ?_) | refine WD.g_split rfl rfl (fun hc => ?_) (fun hc => ?_) | refine W.cond rfl (fun hc => ?_) (fun hc => ?_))
  · refine Fin.retW (by exact rfl) resA (H' := ((⟨r.R, r.m, r.d, r.w, r.room, r.most, true, r.urg⟩ : RcM)).H ++ X) (fun _ h => ?_) ⟨?_, (⟨r.R, r.m, r.d, r.w, r.room, r.most, true, r.urg⟩ : RcM), hrd, rfl, rfl, by dsimp only; omega, ?_⟩
    · unfold RcM.H RcM.B
      simp only [List.cons_append, List.append_assoc]
      exact h.sublist (.cons _ (.refl _))
    · have h0 : d.bytes = [] := hnil.2 (by simpa using hc)
      unfold Rcv.dataA
      rw [if_pos h0]
    · have h0 : d.bytes = [] := hnil.2 (by simpa using hc)
      unfold Rcv.data
      rw [if_pos h0]
      rfl
  have h0 : ¬ d.bytes = [] := fun h => by have := hnil.1 h; simp [this] at hc
  clear hc
  refine WD.e rfl (Ef.callR (c := r.m.H) (by exact rfl) (.last (.there (.there .here))) (look_tr _ r.m hr.m d.tsn h32)) ?_
  rintro _ _ ⟨rfl, rfl⟩
  refine ⟨.inr (fun _ h => h), ?_⟩
  obtain ⟨k, hk⟩ : ∃ k, Spn.look r.m.s.S d.tsn = k := ⟨_, rfl⟩
  rw [hk]
  have hbx : ((⟨r.R, r.m, r.d, r.w, r.room, r.most, true, r.urg⟩ : RcM)).B :: (r.m.H ++ (r.d.H ++ (r.w.H ++ X))) = ((⟨r.R, r.m, r.d, r.w, r.room, r.most, true, r.urg⟩ : RcM)).H ++ X := by unfold RcM.H; simp only [List.cons_append, List.append_assoc]
  repeat' (first | refine S1 ?_ | refine SD ?_ | refine SA (fun _ => ?_) | refine WL.g_split rfl rfl (fun hc => ?_) (fun hc => ?_) | refine WD.g_split rfl rfl (fun hc => ?_) (fun hc => ?_) | refine W.cond rfl (fun hc => ?_) (fun hc => ?_))
  · have hk1 : Spn.look r.S.m d.tsn = 1 := by show Spn.look r.m.s.S d.tsn = 1; rw [hk]; simpa using hc
    refine WL.weak (H' := ((⟨r.R, r.m, r.d, r.w, r.room, r.most, true, r.urg⟩ : RcM)).H ++ X) (fun _ h => by rw [← hbx]; exact h.sublist (.cons _ (.refl _))) ?_
    refine WL.e rfl (Ef.callV (fv := [.pointer (some ⟨r.R, 0, none⟩)]) (cv := []) (vals := [.agg (dCells d (.slice sa m sc)).toArray]) rfl (by exact rfl) rfl (.one _ _) (again_tr _ (⟨r.R, r.m, r.d, r.w, r.room, r.most, true, r.urg⟩ : RcM) hrd d h32 _ rfl)) ?_
    rintro _ _ ⟨_, ⟨rfl, r', hr', rfl, hR', hS', hw'⟩, rfl⟩
    dsimp only [tup]
    repeat' (first | refine S1 ?_ | refine SD ?_ | refine SA (fun _ => ?_) | refine WL.g_split rfl rfl (fun hc => ?_) (fun hc => ?_) | refine WD.g_split rfl rfl (fun hc => ?_) (fun hc => ?_) | refine W.cond rfl (fun hc => ?_) (fun hc => ?_))
    refine Fin.retW (by exact rfl) resA (H' := r'.H ++ X) (fun _ h => h) ⟨?_, r', hr', rfl, hR', by rw [hw']; dsimp only; omega, ?_⟩
    · unfold Rcv.dataA
      rw [if_neg h0, if_pos (.inl hk1)]
    · rw [hS']
      unfold Rcv.data
      rw [if_neg h0, if_pos hk1]
      have e : Spn.takeS r.S.m d.tsn = r.S.m := by unfold Spn.takeS; rw [if_neg (by omega)]
      show { ((⟨r.R, r.m, r.d, r.w, r.room, r.most, true, r.urg⟩ : RcM)).S with m := Spn.takeS r.S.m d.tsn, ds := Spn.takeD r.S.m r.S.ds d.tsn, urg := true } = _
      rw [e]
      rfl
  · have hk1 : ¬ Spn.look r.S.m d.tsn = 1 := by show ¬ Spn.look r.m.s.S d.tsn = 1; rw [hk]; rename_i hc1; simpa using hc1
    have hk2 : Spn.look r.S.m d.tsn = 2 := by show Spn.look r.m.s.S d.tsn = 2; rw [hk]; simpa using hc
    refine WL.weak (H' := ((⟨r.R, r.m, r.d, r.w, r.room, r.most, true, r.urg⟩ : RcM)).H ++ X) (fun _ h => by rw [← hbx]; exact h.sublist (.cons _ (.refl _))) ?_
    refine WL.e rfl (Ef.callV (fv := [.pointer (some ⟨r.R, 0, none⟩)]) (cv := []) (vals := [.agg (dCells d (.slice sa m sc)).toArray]) rfl (by exact rfl) rfl (.nil _) (far_tr _ [] _ _)) ?_
    rintro _ _ ⟨_, ⟨rfl, rfl⟩, rfl⟩
    dsimp only [tup]
    repeat' (first | refine S1 ?_ | refine SD ?_ | refine SA (fun _ => ?_) | refine WL.g_split rfl rfl (fun hc => ?_) (fun hc => ?_) | refine WD.g_split rfl rfl (fun hc => ?_) (fun hc => ?_) | refine W.cond rfl (fun hc => ?_) (fun hc => ?_))
    refine Fin.retW (by exact rfl) resA (H' := ((⟨r.R, r.m, r.d, r.w, r.room, r.most, true, r.urg⟩ : RcM)).H ++ X) (fun _ h => h) ⟨?_, (⟨r.R, r.m, r.d, r.w, r.room, r.most, true, r.urg⟩ : RcM), hrd, rfl, rfl, by dsimp only; omega, ?_⟩
    · unfold Rcv.dataA
      rw [if_neg h0, if_pos (.inr hk2)]
    · unfold Rcv.data
      rw [if_neg h0, if_neg hk1, if_pos hk2]
      rfl
  · have hk1 : ¬ Spn.look r.S.m d.tsn = 1 := by show ¬ Spn.look r.m.s.S d.tsn = 1; rw [hk]; rename_i hc1; simpa using hc1
    have hk2 : ¬ Spn.look r.S.m d.tsn = 2 := by show ¬ Spn.look r.m.s.S d.tsn = 2; rw [hk]; simpa using hc
    have hk0 : Spn.look r.S.m d.tsn = 0 := by rcases Spn.look_rng r.S.m d.tsn with h | h | h; exact h; exact absurd h hk1; exact absurd h hk2
    refine WL.weak (H' := ((⟨r.R, r.m, r.d, r.w, r.room, r.most, true, r.urg⟩ : RcM)).H ++ X) (fun _ h => by rw [← hbx]; exact h.sublist (.cons _ (.refl _))) ?_
    refine WL.e rfl (Ef.callVF (fv := [.pointer (some ⟨r.R, 0, none⟩)]) (cv := []) (vals := [.agg (dCells d (.slice sa m sc)).toArray]) rfl (by exact rfl) rfl (.all _) (fun hd => fresh_tr _ X (⟨r.R, r.m, r.d, r.w, r.room, r.most, true, r.urg⟩ : RcM) hrd d sa m sc (Src.mono hsrc (fun _ h => addF_inH hd h)) hm h16 h65 h32 hfew hmb hk0)) ?_
    rintro _ _ ⟨_, ⟨rfl, r', hr', rfl, hR', ht', hS'⟩, rfl⟩
    dsimp only [tup]
    repeat' (first | refine S1 ?_ | refine SD ?_ | refine SA (fun _ => ?_) | refine WL.g_split rfl rfl (fun hc => ?_) (fun hc => ?_) | refine WD.g_split rfl rfl (fun hc => ?_) (fun hc => ?_) | refine W.cond rfl (fun hc => ?_) (fun hc => ?_))
    have hfu : Rcv.full ((⟨r.R, r.m, r.d, r.w, r.room, r.most, true, r.urg⟩ : RcM)).S d = Rcv.full r.S d := rfl
    rw [hfu] at hS'
    refine Fin.retW (by exact rfl) resA (H' := r'.H ++ X) (fun _ h => by rw [List.append_nil] at h; exact h) ⟨?_, r', hr', rfl, hR', ht', ?_⟩
    · have e : Rcv.dataA r.S d = if Rcv.full r.S d then (false, 6) else (true, putE r.S.w d) := by unfold Rcv.dataA; rw [if_neg h0, if_neg (by rintro (h | h); exact hk1 h; exact hk2 h)]
      rw [e, hfu]
      cases hf : Rcv.full r.S d with
      | true => rfl
      | false => rfl
    · rw [hS']
      unfold Rcv.data
      rw [if_neg h0, if_neg hk1, if_neg hk2]
      cases hf : Rcv.full r.S d with
      | true => rfl
      | false => rfl
theorem skip_nx {s : Rm.S} {cum : Int} {l : List Sk} (h : nx16 s.nx) : nx16 (Rm.skip s cum l).nx := by
  unfold Rm.skip
  split
  · have : ∀ (l : List Sk) (s : Rm.S), nx16 s.nx → nx16 (l.foldl (fun s k => skip1 s k.st k.n) s).nx := fun l => by
      induction l with
      | nil => exact fun _ h => h
      | cons k l ih => exact fun s h => ih _ (skip1_nx h)
    exact this l _ h
  · exact h
def RFwdQ (r : RcM) (X : HL) (cum : Int) (l : List Sk) (v : Value) (H : HL) : Prop :=
  v = .bool (Rcv.inWin r.S cum) ∧ ∃ r' : RcM, r'.ok ∧ H = r'.H ++ X ∧ r'.R = r.R ∧ r'.w.turns = r.w.turns ∧ r'.S = Rcv.forward r.S cum l
set_option maxHeartbeats 4000000 in
theorem rfwd_tr (F : Nat → Option Obj) (X : HL) (r : RcM) (hr : r.ok) (cum : Int) (h32 : 0 ≤ cum ∧ cum < 4294967296) (l : List Sk) (ka : Option Addr) (kn kc : Nat) (hl : Lst F X 2 (l.flatMap skCells) ka kn kc) (hk : ∀ k ∈ l, (0 ≤ k.st ∧ k.st < 65536) ∧ 0 ≤ k.n ∧ k.n < 65536) (hmany : kn ≤ 1000) :
    Tr Tryz.prog 35 [.pointer (some ⟨r.R, 0, none⟩), .agg [.int .u32 cum, .slice ka kn kc].toArray].toArray F (r.H ++ X) (RFwdQ r X cum l) := by
  refine Tr.enter Tryz.func35 rfl Tryz.ntmps35 rfl (fun w0 => ?_)
  have hrf : ((⟨r.R, r.m, r.d, r.w, r.room, r.most, true, true⟩ : RcM)).ok := ⟨hr.m, hr.d, hr.w, hr.room, hr.most, hr.n16, hr.nl, hr.fit⟩
  rw [show r.H ++ X = r.B :: (r.m.H ++ (r.d.H ++ (r.w.H ++ X))) by unfold RcM.H; simp only [List.cons_append, List.append_assoc]]
  unfold RcM.B
  repeat' (first | refine S1 ?_ | refine SD ?_ | refine SA (fun _ => ?_) | refine WL.g_split rfl rfl (fun hc => ?_) (fun hc => ?_) | refine WD.g_split rfl rfl (fun hc => ?_) (fun hc => ?_) | refine W.cond rfl (fun hc => ?_) (fun hc => ?_))
  refine WD.e rfl (Ef.call (c := r.m.H) (by exact rfl) (.last (.there (.there .here))) (forward_tr _ r.m hr.m cum h32)) ?_
  rintro _ _ ⟨_, ⟨rfl, m', hm', rfl, hR, hS, hds⟩, rfl⟩
  refine ⟨.inl (by kernel_rfl), ?_⟩
  obtain ⟨u, hu⟩ : ∃ u, True ∧ Spn.inW (Spn.far r.m.s.base cum) = u := ⟨_, trivial, rfl⟩
  have hin : Rcv.inWin r.S cum = u := hu.2
  rw [hu.2]
  repeat' (first | refine S1 ?_ | refine SD ?_ | refine SA (fun _ => ?_) | refine WL.g_split rfl rfl (fun hc => ?_) (fun hc => ?_) | refine WD.g_split rfl rfl (fun hc => ?_) (fun hc => ?_) | refine W.cond rfl (fun hc => ?_) (fun hc => ?_))
  · have hu1 : u = false := by simpa using hc
    have hmS : m'.s.S = r.m.s.S := by rw [hS]; unfold Spn.move; rw [show Spn.inW (Spn.far r.m.s.S.b cum) = false from hu.2.trans hu1]; rfl
    refine Fin.retW (by exact rfl) resA (H' := (⟨r.R, m', r.d, r.w, r.room, r.most, true, true⟩ : RcM).H ++ X) (fun _ h => ?_) ⟨by rw [hin, hu1]; rfl, ⟨r.R, m', r.d, r.w, r.room, r.most, true, true⟩, ⟨hm', hr.d, hr.w, hr.room, hr.most, hr.n16, hr.nl, hr.fit⟩, rfl, rfl, rfl, ?_⟩
    · unfold RcM.H RcM.B
      dsimp only
      rw [hR]
      simp only [List.cons_append, List.append_assoc]
      exact In.of_sub (.pick (.right (.there .here)) (.pickL (L := m'.H) .here (.last (.there .all)))) h
    · unfold Rcv.forward
      rw [hin, hu1, if_neg (by simp)]
      unfold RcM.S
      dsimp only
      rw [hmS, hds]
  · have hu1 : u = true := by simpa using hc
    refine WD.e rfl (Ef.callF (by exact rfl) (.pickL (L := r.w.H) (.right (.there (.there (.right .here)))) (.last (L := X) (.right (.there (.there (.right .all)))))) (fun hd => Skip_tr _ X r.w hr.w cum l ka kn kc (Lst.mono hl (fun _ h => addF_inH hd h)) hk hmany hr.n16 (by have := hr.nl; omega))) ?_
    rintro _ _ ⟨_, ⟨rfl, w', hw', rfl, hwR, hwt, hwS, hwn⟩, rfl⟩
    refine ⟨.inl (by kernel_rfl), ?_⟩
    have hw'n : w'.nx = (Rm.skip r.w.S cum l).nx := (RM.said hwS).2.2
    repeat' (first | refine S1 ?_ | refine SD ?_ | refine SA (fun _ => ?_) | refine WL.g_split rfl rfl (fun hc => ?_) (fun hc => ?_) | refine WD.g_split rfl rfl (fun hc => ?_) (fun hc => ?_) | refine W.cond rfl (fun hc => ?_) (fun hc => ?_))
    refine Fin.retW (by exact rfl) resA (H' := (⟨r.R, m', r.d, w', r.room, r.most, true, true⟩ : RcM).H ++ X) (fun _ h => ?_) ⟨by rw [hin, hu1]; rfl, ⟨r.R, m', r.d, w', r.room, r.most, true, true⟩, ⟨hm', hr.d, hw', hr.room, hr.most, by show nx16 w'.nx; rw [hw'n]; exact skip_nx hr.n16, by show w'.nx.length ≤ 16; rw [hwn]; exact hr.nl, ?_⟩, rfl, rfl, hwt, ?_⟩
    · unfold RcM.H RcM.B
      dsimp only
      rw [hR, hwR]
      simp only [List.cons_append, List.append_assoc]
      rw [List.append_assoc] at h
      exact In.of_sub (.pick (.right (.right (.right (.there .here)))) (.pickL (L := m'.H) (.right (.right .here)) (.pickL (L := r.d.H) (.right (.right (.there .here))) (.pickL (L := w'.H) .here (.last (L := X) .here))))) h
    · have h1 := (Rm.skip_good cum l hr.fine (s := r.w.S)).2
      have h2 := hr.fit
      have e : Rcv.held (⟨r.R, m', r.d, w', r.room, r.most, true, true⟩ : RcM).S = totD (Rm.skip r.w.S cum l).L + totM (Rm.skip r.w.S cum l).row := by unfold RcM.S Rcv.held; dsimp only; rw [hwS]
      rw [e]
      exact Nat.le_trans h1 h2
    · unfold Rcv.forward
      rw [hin, hu1, if_pos rfl]
      unfold RcM.S
      dsimp only
      rw [hS, hds, hwS]
theorem OwnS.take1 {E : Nat} {xs : List Value} {ra : Option Addr} {rn rc : Nat} {hb : HL} (h : OwnS E 1 xs (.slice ra rn rc) hb) {n : Nat} (hn : n ≤ rn) : OwnS E 1 (xs.take n) (.slice ra n rc) hb := by
  rcases h with ⟨he, hx, hbn⟩ | ⟨g, q, cap, pre, spare, post, he, rfl, hl, hc, hsp, hm⟩
  · cases he
    obtain rfl : n = 0 := by omega
    subst hx hbn
    exact .inl ⟨rfl, rfl, rfl⟩
  · cases he
    simp only [Nat.mul_one] at hl hsp
    refine .inr ⟨g, n, rc, pre, xs.drop n ++ spare, post, rfl, ?_, ?_, by omega, ?_, hm⟩
    · have : xs.take n ++ xs.drop n = xs := List.take_append_drop n xs
      rw [List.append_assoc pre (xs.take n), ← List.append_assoc (xs.take n), this, List.append_assoc pre xs spare]
    · rw [List.length_take, Nat.mul_one, hl]; omega
    · rw [List.length_append, List.length_drop, Nat.mul_one, hl, hsp]; omega
/-- what 'Sack' answers and leaves -/
def RSackQ (r : RcM) (v : Value) (H : HL) : Prop :=
  ∃ (r' : RcM) (ga : Option Addr) (gn gc : Nat) (gb : HL) (ra : Option Addr) (rn rc : Nat) (rb : HL), v = .agg [.int .u32 r.S.m.b, .int .u32 (Rcv.sRoom r.S), .slice ga gn gc, .slice ra rn rc].toArray ∧ r'.ok ∧ H = r'.H ++ (gb ++ rb) ∧ r'.R = r.R ∧ r'.w = r.w ∧ r'.S = Rcv.sack r.S ∧
    OwnS 92 2 ((Rcv.sGaps r.S).flatMap gCells) (.slice ga gn gc) gb ∧ OwnS 24 1 ((Rcv.sDups r.S).map (Value.int .u32)) (.slice ra rn rc) rb
set_option maxHeartbeats 4000000 in
theorem rsack_tr (F : Nat → Option Obj) (r : RcM) (hr : r.ok) : Tr Tryz.prog 25 [.pointer (some ⟨r.R, 0, none⟩)].toArray F r.H (RSackQ r) := by
  refine Tr.enter Tryz.func25 rfl Tryz.ntmps25 rfl (fun w0 => ?_)
  have hmost := hr.most
  have hroom := hr.room
  have hfit := hr.fit
  unfold RcM.H RcM.B
  repeat' (first | refine S1 ?_ | refine SA (fun _ => ?_) | refine WL.g_split rfl rfl (fun hc => ?_) (fun hc => ?_) | refine WD.g_split rfl rfl (fun hc => ?_) (fun hc => ?_) | refine W.cond rfl (fun hc => ?_) (fun hc => ?_))
  refine W.drawG 13 [(_, _), (r.R, _)] (fun _ h => h.sublist (.cons_cons _ (.cons_cons _ (List.nil_sublist _)))) ?_
  repeat' (first
    | refine WF.pA ?_ | refine WF.sA ?_)
  refine WF.e rfl (Ef.call (c := r.m.H) (by exact rfl) (.last (.there (.there .here))) (report_tr _ r.m hr.m r.most r.most (by omega))) ?_ ?_
  · rintro _ _ ⟨_, ⟨m', ga, gn, gc, gb, ra, rn, rc, rb, rfl, hq, rfl⟩, rfl⟩
    refine ⟨.inl (by kernel_rfl), ?_⟩
    refine WF.nil ?_
    refine WD.aA (fun b3 => ?_) (hk := by intro b; exact .inr (fun _ h => h.sublist (.cons _ (List.Sublist.trans (.cons_cons _ (.cons_cons _ (List.nil_sublist _))) (List.sublist_append_right _ _)))))
    refine WD.e0A ?_ (hk := .inl (by kernel_rfl))
    refine WD.nil ?_
    refine Fin.weakH (H' := (b3, _) :: (_, _) :: (r.R, _) :: (m'.H ++ (r.d.H ++ (r.w.H ++ (gb ++ rb))))) (fun _ h => by rw [List.append_assoc, List.append_assoc] at h; exact In.of_sub (.pick .here (.pick (.right (.right (.right .here))) (.pick (.right (.right (.right .here))) (.pickL (L := m'.H) .here (.pickL (L := r.d.H) (.right (.right .here)) (.pickL (L := r.w.H) (.right (.right .all)) (.pickL (L := gb) .here (.last (L := rb) .here)))))))) h) ?_
    have hgl : (Rcv.sGaps r.S).length = gn := by have := hq.g.len; rw [flat_len' gCells 2 (fun _ => rfl)] at this; rw [if_neg (by omega)] at this; unfold Rcv.sGaps; rw [← show Spn.gaps r.m.s.S r.most = Spn.gaps r.S.m r.S.most from rfl]; omega
    have hgm : gn ≤ r.most.toNat := by rw [← hgl]; exact Rcv.sGaps_le r.S
    have hrl := hq.d.len
    have hrn : rn = min r.most.toNat r.m.ds.length := by rw [List.length_map, List.length_take, dupN_eq] at hrl; omega
    repeat' (first | refine S1 ?_ | refine SD ?_ | refine SA (fun _ => ?_) | refine WL.g_split rfl rfl (fun hc => ?_) (fun hc => ?_) | refine WD.g_split rfl rfl (fun hc => ?_) (fun hc => ?_) | refine W.cond rfl (fun hc => ?_) (fun hc => ?_))
    obtain ⟨q, hqv, hqe⟩ : ∃ q : Nat, (if IntKind.i64.wrap (r.most - gn) < (rn : Int) then IntKind.i64.wrap (r.most - gn) else (rn : Int)) = q ∧ q = min (r.most.toNat - gn) rn := ⟨min (r.most.toNat - gn) rn, by rw [i64_id (by omega) (by omega)]; split <;> omega, rfl⟩
    rw [hqv]
    have hrc : rn ≤ rc := by obtain ⟨_, _, _, he, _, hh⟩ := OwnS.shape hq.d; cases he; exact hh
    refine WD.p rfl (Pu.slHi rfl rfl (by omega)) ?_
    have hqn : ((q : Nat) : Int).toNat = q := by omega
    rw [hqn]
    repeat' (first | refine S1 ?_ | refine SD ?_ | refine SA (fun _ => ?_) | refine WL.g_split rfl rfl (fun hc => ?_) (fun hc => ?_) | refine WD.g_split rfl rfl (fun hc => ?_) (fun hc => ?_) | refine W.cond rfl (fun hc => ?_) (fun hc => ?_))
    refine WD.e rfl (Ef.callR (c := r.w.H) (by exact rfl) (.last (.there (.there (.there (.right (.right .here)))))) (heldA _ r.w)) ?_
    rintro _ _ ⟨rfl, rfl⟩
    refine ⟨.inr (fun _ h => h), ?_⟩
    rw [hr.held]
    repeat' (first | refine S1 ?_ | refine SD ?_ | refine SA (fun _ => ?_) | refine WL.g_split rfl rfl (fun hc => ?_) (fun hc => ?_) | refine WD.g_split rfl rfl (fun hc => ?_) (fun hc => ?_) | refine W.cond rfl (fun hc => ?_) (fun hc => ?_))
    refine WL.e rfl (Ef.call (c := r.d.H) (by exact rfl) (.last (.there (.there (.there (.right .here))))) (dsent_tr _ r.d)) ?_
    rintro _ _ ⟨_, ⟨rfl, rfl⟩, rfl⟩
    repeat' (first | refine S1 ?_ | refine SD ?_ | refine SA (fun _ => ?_) | refine WL.g_split rfl rfl (fun hc => ?_) (fun hc => ?_) | refine WD.g_split rfl rfl (fun hc => ?_) (fun hc => ?_) | refine W.cond rfl (fun hc => ?_) (fun hc => ?_))
    have hro : IntKind.u32.wrap (IntKind.i64.wrap (r.room - (Rcv.held r.S : Int))) = Rcv.sRoom r.S := by
      rw [i64_id (n := r.room - (Rcv.held r.S : Int)) (by omega) (by omega)]; rfl
    have hgeq : Spn.gaps r.m.s.S (if r.most < 0 then 0 else r.most) = Rcv.sGaps r.S := by rw [if_neg (by omega)]; rfl
    have hdeq : ((r.m.ds.take (dupN r.most r.m.ds.length)).map (Value.int .u32)).take q = (Rcv.sDups r.S).map (Value.int .u32) := by
      have e1 : (r.S.most - ((Rcv.sGaps r.S).length : Int)).toNat = r.most.toNat - gn := by rw [hgl]; show (r.most - (gn : Int)).toNat = _; omega
      unfold Rcv.sDups
      rw [e1, ← List.map_take, List.take_take, dupN_eq]
      show _ = ((r.m.ds).take (r.most.toNat - gn)).map _
      congr 1
      rcases Nat.lt_or_ge (r.most.toNat - gn) r.m.ds.length with h | h
      · rw [show min q (min r.most.toNat r.m.ds.length) = r.most.toNat - gn by omega]
      · rw [List.take_of_length_le h, List.take_of_length_le (by omega)]
    refine Fin.retW (by exact rfl) resA (H' := ((⟨r.R, m', ⟨r.d.R, Del.sent r.d.s⟩, r.w, r.room, r.most, r.came, r.urg⟩ : RcM)).H ++ (gb ++ rb)) (fun _ h => ?_) ⟨(⟨r.R, m', ⟨r.d.R, Del.sent r.d.s⟩, r.w, r.room, r.most, r.came, r.urg⟩ : RcM), ga, gn, gc, gb, ra, q, rc, rb, by rw [hro]; rfl, ⟨hq.ok, hr.d.sent, hr.w, hr.room, hr.most, hr.n16, hr.nl, hr.fit⟩, rfl, rfl, rfl, ?_, by rw [← hgeq]; exact hq.g, by rw [← hdeq]; exact OwnS.take1 hq.d (by omega)⟩
    · unfold RcM.H RcM.B
      dsimp only
      rw [hq.R]
      simp only [List.cons_append, List.append_assoc]
      exact In.of_sub (.pick (.right (.there (.there .here))) (.pickL (L := m'.H) (.right (.there (.there .here))) (.pickL (L := DeM.H ⟨r.d.R, Del.sent r.d.s⟩) .here (.pickL (L := r.w.H) (.there (.there .here)) (.pickL (L := gb) (.there (.there .here)) (.last (L := rb) (.there (.there .all)))))))) h
    · unfold RcM.S Rcv.sack
      dsimp only
      rw [hq.S, hq.ds]
  · refine WD.aA (fun b3 => ?_) (hk := fun _ => .inr (fun _ h => h.sublist (.cons _ (.cons_cons _ (.cons_cons _ (List.nil_sublist _))))))
    refine WD.e rfl (Ef.call (c := r.m.H) (by exact rfl) (.last (.there (.there (.there .here)))) (report_tr _ r.m hr.m r.most r.most (by omega))) ?_
    rintro _ _ ⟨_, ⟨m', ga, gn, gc, gb, ra, rn, rc, rb, rfl, hq, rfl⟩, rfl⟩
    refine ⟨.inl (by kernel_rfl), ?_⟩
    rw [List.append_assoc, List.append_assoc]
    refine WD.e0 (Ef.sta rfl rfl rfl rfl (.right (.right (.right (.here rfl))))) ?_
    rintro _ _ ⟨rfl, rfl⟩
    refine ⟨.inl (by kernel_rfl), ?_⟩
    refine WD.nil ?_
    refine Fin.weakH (H' := (b3, _) :: (_, _) :: (r.R, _) :: (m'.H ++ (r.d.H ++ (r.w.H ++ (gb ++ rb))))) (fun _ h => In.of_sub (.pick (.right (.right (.right .here))) (.pick (.right (.right (.right .here))) (.pick (.right (.right (.right .here))) (.pickL (L := m'.H) .here (.pickL (L := r.d.H) (.right (.right .here)) (.pickL (L := r.w.H) (.right (.right .all)) (.pickL (L := gb) .here (.last (L := rb) .here)))))))) h) ?_
    have hgl : (Rcv.sGaps r.S).length = gn := by have := hq.g.len; rw [flat_len' gCells 2 (fun _ => rfl)] at this; rw [if_neg (by omega)] at this; unfold Rcv.sGaps; rw [← show Spn.gaps r.m.s.S r.most = Spn.gaps r.S.m r.S.most from rfl]; omega
    have hgm : gn ≤ r.most.toNat := by rw [← hgl]; exact Rcv.sGaps_le r.S
    have hrl := hq.d.len
    have hrn : rn = min r.most.toNat r.m.ds.length := by rw [List.length_map, List.length_take, dupN_eq] at hrl; omega
    repeat' (first | refine S1 ?_ | refine SD ?_ | refine SA (fun _ => ?_) | refine WL.g_split rfl rfl (fun hc => ?_) (fun hc => ?_) | refine WD.g_split rfl rfl (fun hc => ?_) (fun hc => ?_) | refine W.cond rfl (fun hc => ?_) (fun hc => ?_))
    obtain ⟨q, hqv, hqe⟩ : ∃ q : Nat, (if IntKind.i64.wrap (r.most - gn) < (rn : Int) then IntKind.i64.wrap (r.most - gn) else (rn : Int)) = q ∧ q = min (r.most.toNat - gn) rn := ⟨min (r.most.toNat - gn) rn, by rw [i64_id (by omega) (by omega)]; split <;> omega, rfl⟩
    rw [hqv]
    have hrc : rn ≤ rc := by obtain ⟨_, _, _, he, _, hh⟩ := OwnS.shape hq.d; cases he; exact hh
    refine WD.p rfl (Pu.slHi rfl rfl (by omega)) ?_
    have hqn : ((q : Nat) : Int).toNat = q := by omega
    rw [hqn]
    repeat' (first | refine S1 ?_ | refine SD ?_ | refine SA (fun _ => ?_) | refine WL.g_split rfl rfl (fun hc => ?_) (fun hc => ?_) | refine WD.g_split rfl rfl (fun hc => ?_) (fun hc => ?_) | refine W.cond rfl (fun hc => ?_) (fun hc => ?_))
    refine WD.e rfl (Ef.callR (c := r.w.H) (by exact rfl) (.last (.there (.there (.there (.right (.right .here)))))) (heldA _ r.w)) ?_
    rintro _ _ ⟨rfl, rfl⟩
    refine ⟨.inr (fun _ h => h), ?_⟩
    rw [hr.held]
    repeat' (first | refine S1 ?_ | refine SD ?_ | refine SA (fun _ => ?_) | refine WL.g_split rfl rfl (fun hc => ?_) (fun hc => ?_) | refine WD.g_split rfl rfl (fun hc => ?_) (fun hc => ?_) | refine W.cond rfl (fun hc => ?_) (fun hc => ?_))
    refine WL.e rfl (Ef.call (c := r.d.H) (by exact rfl) (.last (.there (.there (.there (.right .here))))) (dsent_tr _ r.d)) ?_
    rintro _ _ ⟨_, ⟨rfl, rfl⟩, rfl⟩
    repeat' (first | refine S1 ?_ | refine SD ?_ | refine SA (fun _ => ?_) | refine WL.g_split rfl rfl (fun hc => ?_) (fun hc => ?_) | refine WD.g_split rfl rfl (fun hc => ?_) (fun hc => ?_) | refine W.cond rfl (fun hc => ?_) (fun hc => ?_))
    have hro : IntKind.u32.wrap (IntKind.i64.wrap (r.room - (Rcv.held r.S : Int))) = Rcv.sRoom r.S := by
      rw [i64_id (n := r.room - (Rcv.held r.S : Int)) (by omega) (by omega)]; rfl
    have hgeq : Spn.gaps r.m.s.S (if r.most < 0 then 0 else r.most) = Rcv.sGaps r.S := by rw [if_neg (by omega)]; rfl
    have hdeq : ((r.m.ds.take (dupN r.most r.m.ds.length)).map (Value.int .u32)).take q = (Rcv.sDups r.S).map (Value.int .u32) := by
      have e1 : (r.S.most - ((Rcv.sGaps r.S).length : Int)).toNat = r.most.toNat - gn := by rw [hgl]; show (r.most - (gn : Int)).toNat = _; omega
      unfold Rcv.sDups
      rw [e1, ← List.map_take, List.take_take, dupN_eq]
      show _ = ((r.m.ds).take (r.most.toNat - gn)).map _
      congr 1
      rcases Nat.lt_or_ge (r.most.toNat - gn) r.m.ds.length with h | h
      · rw [show min q (min r.most.toNat r.m.ds.length) = r.most.toNat - gn by omega]
      · rw [List.take_of_length_le h, List.take_of_length_le (by omega)]
    refine Fin.retW (by exact rfl) resA (H' := ((⟨r.R, m', ⟨r.d.R, Del.sent r.d.s⟩, r.w, r.room, r.most, r.came, r.urg⟩ : RcM)).H ++ (gb ++ rb)) (fun _ h => ?_) ⟨(⟨r.R, m', ⟨r.d.R, Del.sent r.d.s⟩, r.w, r.room, r.most, r.came, r.urg⟩ : RcM), ga, gn, gc, gb, ra, q, rc, rb, by rw [hro]; rfl, ⟨hq.ok, hr.d.sent, hr.w, hr.room, hr.most, hr.n16, hr.nl, hr.fit⟩, rfl, rfl, rfl, ?_, by rw [← hgeq]; exact hq.g, by rw [← hdeq]; exact OwnS.take1 hq.d (by omega)⟩
    · unfold RcM.H RcM.B
      dsimp only
      rw [hq.R]
      simp only [List.cons_append, List.append_assoc]
      exact In.of_sub (.pick (.right (.there (.there .here))) (.pickL (L := m'.H) (.right (.there (.there .here))) (.pickL (L := DeM.H ⟨r.d.R, Del.sent r.d.s⟩) .here (.pickL (L := r.w.H) (.there (.there .here)) (.pickL (L := gb) (.there (.there .here)) (.last (L := rb) (.there (.there .all)))))))) h
    · unfold RcM.S Rcv.sack
      dsimp only
      rw [hq.S, hq.ds]
end Go.Proofs.YthjglhdjlmjffaaGreat
