/- A script run, walked, over whatever the net answers. Conditions: what the package variables hold; the text's length within bounds; what the net's beginning and its events answer (Mach). -/
import Derived.Test.YtkelhlffeilakaaGreatDoorBuD
import Derived.Test.YtkelhlffeilakaaGreatDoorStJ
import Derived.Test.YtkelhlffeilakaaGreatDoorStO
import Derived.Test.YtkelhlffeilakaaGreatDoorBuJ
namespace Go.Proofs.YtkelhlffeilakaaGreatDoor
open Go Go.Sl Go.Scr

set_option maxHeartbeats 4000000 in
theorem ws_tr (F : Nat → Option Obj) (x : Bld) (l : Str) (hx : x.Is l) (s : Str) (hlen : l.length + s.length ≤ 140737488355328) :
    Tr Tryz.prog 15 [.pointer (some ⟨x.b, 0, none⟩), S s].toArray F x.H (fun v H => v = tup [.int .i64 s.length, .nilIface] ∧ ∃ y : Bld, y.b = x.b ∧ y.Is (l ++ s) ∧ H = y.H) := by
  refine Tr.enter Tryz.func15 rfl Tryz.ntmps15 rfl (fun w0 => ?_)
  obtain ⟨b, p, sa, sn, sc, hb⟩ := x
  obtain ⟨hp, hown, hoz⟩ := hx
  unfold Bld.H S
  dsimp only at hp hown hoz ⊢
  refine SP ?_; repeat' (first|refine ⟨fun hc=>?_,fun hc=>?_⟩|intro)
  refine WL.e rfl (Ef.call (c := [(b, _)]) (by exact rfl) subA (cc_tr _ b p _ hp)) ?_
  rintro _ _ ⟨_, ⟨rfl, rfl⟩, rfl⟩
  refine SP ?_; repeat' (first|refine ⟨fun hc=>?_,fun hc=>?_⟩|intro)
  refine WL.e rfl (Ef.appS (l := s) (hb := hb) rfl rfl rfl hown subA (by simp; omega)) ?_
  rintro _ _ ⟨hb', hown', hz', rfl⟩
  obtain ⟨sa', sn', sc', rfl, _, _⟩ := hown'.shape
  refine SP ?_; repeat' (first|refine ⟨fun hc=>?_,fun hc=>?_⟩|intro)
  refine Fin.retW (by exact rfl) resA (H' := Bld.H ⟨b, .pointer (some ⟨b, 0, none⟩), sa', sn', sc', hb'⟩) (fun _ h => ?_) ⟨?_, ⟨b, .pointer (some ⟨b, 0, none⟩), sa', sn', sc', hb'⟩, rfl, ⟨.inr rfl, ?_, hz' hoz⟩, rfl⟩
  · unfold Bld.H
    exact In.perm List.perm_append_comm h
  · rw [strB_size]
  · dsimp only
    rw [List.map_append]
    exact hown'
set_option maxHeartbeats 4000000 in
theorem bstr0_tr (F : Nat → Option Obj) (b : Nat) (p : Value) (sc : Nat) :
    Tr Tryz.prog 18 [.pointer (some ⟨b, 0, none⟩)].toArray F [(b, .cells [p, .slice none 0 0].toArray 52 (0, 0))] (fun v H => v = S [] ∧ H = []) := by
  refine Tr.enter Tryz.func18 rfl Tryz.ntmps18 rfl (fun w0 => ?_)
  refine SP ?_; repeat' (first|refine ⟨fun hc=>?_,fun hc=>?_⟩|intro)
  refine W.draw [(b, .cells [p, .slice none 0 0].toArray 52 (0, 0))] (by kernel_rfl) (by kernel_rfl) (fun _ h => h) ?_
  refine SP ?_; repeat' (first|refine ⟨fun hc=>?_,fun hc=>?_⟩|intro)
  refine WD.e rfl (Rd.ef (Pu.rd (Pu.sld0 rfl))) ?_
  rintro _ _ ⟨rfl, rfl⟩
  refine ⟨.inr (fun _ h => h), ?_⟩
  refine SP ?_; repeat' (first|refine ⟨fun hc=>?_,fun hc=>?_⟩|intro)
  refine WD.e rfl (Rd.ef (Pu.rd (Pu.uStr0 rfl rfl))) ?_
  rintro _ _ ⟨rfl, rfl⟩
  refine ⟨.inr (fun _ h => h), ?_⟩
  refine SP ?_; repeat' (first|refine ⟨fun hc=>?_,fun hc=>?_⟩|intro)
  exact Fin.retW (by exact rfl) resA (H' := []) (fun _ h => h.sublist (List.nil_sublist _)) ⟨rfl, rfl⟩

theorem ev_zero {x : Evx} {hb : HL} (h : EvOwn x hb) (h0 : x.e.bytes = []) : x.ba = none ∧ x.bc = 0 := by
  have h1 := h.2 h0
  refine ⟨h1, ?_⟩
  rcases h.1 with ⟨e, _, _⟩ | ⟨g, n, cap, pre, spare, post, e, _⟩
  · injection e
  · rw [h1] at e; cases e

/-! ### what the net answers, as far as it is asked -/
/-- the net's states, what they own, and what its beginning and an event answer -/
structure Mach (F0 : Nat → Option Obj) where
  σ : Type
  p : σ → Addr
  H : σ → HL
  Good : σ → List Evt → Prop
  Pre : List Int → List Evt → Prop
  Start : List Int → σ → Prop
  Err : List Int → Int → Prop
  Step : σ → Evt → Tld → σ → Prop
  new : ∀ (F : Nat → Option Obj) (c : List Int) (l : List Evt), (∀ b o, F0 b = some o → F b = some o) → Pre c l → c.length = 14 → (∀ x ∈ c, I64 x) →
    Tr Tryz.prog 7 [.agg (ccells c).toArray].toArray F [] (fun v H' => (∃ s, v = tup [.pointer (some (p s)), .int .i64 0] ∧ H' = H s ∧ Start c s ∧ Good s l) ∨ ∃ (q : Option Addr) (e : Int), e ≠ 0 ∧ v = tup [.pointer q, .int .i64 e] ∧ H' = [] ∧ Err c e)
  step : ∀ (F : Nat → Option Obj) (s : σ) (x : Evx) (l : List Evt), (∀ b o, F0 b = some o → F b = some o) → Good s (x.e :: l) → x.Is F → (x.e.bytes = [] → x.ba = none ∧ x.bc = 0) →
    Tr Tryz.prog 17 [.pointer (some (p s)), .agg x.cells.toArray].toArray F (H s) (fun v H' => ∃ (s' : σ) (y : Tlx) (hb : HL), v = .agg y.cells.toArray ∧ H' = H s' ++ hb ∧ p s' = p s ∧ Step s x.e y.t s' ∧ Good s' l ∧ y.t.bytes.length ≤ 1000000 ∧ y.t.line.length ≤ 16000008 ∧ ∀ F' G, (∀ w, In F' [] w → In G (H s' ++ hb) w) → y.Is F')
inductive Runs {F0 : Nat → Option Obj} (M : Mach F0) : M.σ → List Evt → List Tld → M.σ → Prop
  | nil (s : M.σ) : Runs M s [] [] s
  | snoc {s s' s'' : M.σ} {l : List Evt} {ts : List Tld} {e : Evt} {t : Tld} (h : Runs M s l ts s') (k : M.Step s' e t s'') : Runs M s (l ++ [e]) (ts ++ [t]) s''
/-- a line, and its answer's -/
def tellOne (s : Str) (t : Tld) : Str := s ++ [32, 61, 62, 32] ++ t.line ++ [10]
def tell : List Str → List Tld → Str
  | s :: ss, t :: ts => tellOne s t ++ tell ss ts
  | _, _ => []
theorem tell_snoc : ∀ {ss : List Str} {ts : List Tld}, ss.length = ts.length → ∀ (s : Str) (t : Tld), tell (ss ++ [s]) (ts ++ [t]) = tell ss ts ++ tellOne s t
  | [], [], _, s, t => by simp [tell]
  | _ :: _, _ :: _, h, s, t => by simp [tell, tell_snoc (show _ = _ from by simpa using h) s t]
  | [], _ :: _, h, _, _ => by simp at h
  | _ :: _, [], h, _, _ => by simp at h
/-- what Run answers -/
def RunQ {F0 : Nat → Option Obj} (M : Mach F0) (t : Str) (v : Value) : Prop :=
  (∃ i : Nat, Text t (.inl i) ∧ v = tup [S [], .int .i64 i, .int .i64 7]) ∨
  ∃ (k : Nat) (c : List Int) (ev : List (Str × Evt)), Text t (.inr (k, c, ev)) ∧
    ((∃ e : Int, e ≠ 0 ∧ M.Err c e ∧ v = tup [S [], .int .i64 k, .int .i64 e]) ∨
     ∃ s ts s', M.Start c s ∧ Runs M s (ev.map (·.2)) ts s' ∧ ts.length = ev.length ∧ v = tup [S (tell (ev.map (·.1)) ts), .int .i64 0, .int .i64 0])

/-! ### the walk -/
def fstI (p : Ps) : Int := match p.c with
  | none => -1
  | some q => q.1
/-- what is known behind some lines, in memory -/
structure RnG where
  i : Nat
  p : Ps
  cs : List Value
  xs : List (Evx × HL)
  ea : Option Addr
  en : Nat
  ec : Nat
  hE : HL
  la : Option Addr
  ln : Nat
  lc : Nat
  hL : HL
structure RnG.Ok (ls : List Str) (g : RnG) : Prop where
  i : g.i ≤ ls.length
  go : Pgo (ls.take g.i) g.p
  cs0 : g.cs.length = 14
  cs1 : ∀ u ∈ g.cs, u.oneCell' = true
  csc : ∀ k c, g.p.c = some (k, c) → g.cs = ccells c ∧ c.length = 14 ∧ (∀ x ∈ c, I64 x) ∧ k < g.i
  evs : g.xs.map (·.1.e) = g.p.ev.map (·.2)
  own : ∀ q ∈ g.xs, EvOwn q.1 q.2 ∧ q.1.e.Ok ∧ q.1.e.bytes.length ≤ 1000000
  n : g.p.ev.length ≤ g.i
  oE : OwnS 47 9 (g.xs.flatMap (·.1.cells)) (.slice g.ea g.en g.ec) g.hE
  oL : OwnS 9 1 (g.p.ev.map (fun q => S q.1)) (.slice g.la g.ln g.lc) g.hL
theorem evx_one (x : Evx) : ∀ u ∈ x.cells, u.oneCell' = true := by
  intro u hu
  simp only [Evx.cells, List.mem_cons, List.not_mem_nil, or_false] at hu
  rcases hu with rfl | rfl | rfl | rfl | rfl | rfl | rfl | rfl | rfl <;> rfl
theorem hexs_le {b s : Str} (h : oct b = s) : b.length ≤ s.length := by
  unfold oct at h
  split at h
  · rename_i e; subst e; simp
  · rw [← h, hexs_len]; omega
theorem word_le (c : UInt8) : ∀ (ws : List Str) (w : Str), w ∈ ws → w.length ≤ (join c ws).length := by
  intro ws
  induction ws with
  | nil => intro w h; cases h
  | cons v ws ih =>
    intro w h
    cases ws with
    | nil => simp at h; subst h; exact Nat.le_refl _
    | cons u ws =>
      rw [join_cons _ _ (by simp)]
      rcases List.mem_cons.1 h with e | h
      · subst e; simp
      · have := ih w h; simp at this ⊢; omega
/-- an event's bytes are no longer than its line -/
theorem reads_bytes {s : Str} {e : Evt} (h : Reads s e) : e.bytes.length ≤ s.length := by
  obtain ⟨ho, hf, hl⟩ := h
  by_cases hm : Scr.Fd.bytes ∈ fds e.kind
  · have h1 : oct e.bytes ∈ kword e.kind :: e.words := List.mem_cons_of_mem _ (List.mem_map.2 ⟨.bytes, hm, rfl⟩)
    have h2 := word_le 32 _ _ h1
    have h3 := hexs_le (b := e.bytes) rfl
    have h4 : (join 32 (kword e.kind :: e.words)).length = s.length := by rw [← hl]; rfl
    omega
  · have h1 : e.only.bytes = e.bytes := by rw [hf.2.2]
    have h2 : ∀ (l : List Scr.Fd) (o : Evt), Scr.Fd.bytes ∉ l → (l.foldl (fun o f => o.set f (e.get f)) o).bytes = o.bytes := by
      intro l
      induction l with
      | nil => intro o _; rfl
      | cons f l ih =>
        intro o hn
        rw [List.foldl_cons, ih _ (fun h => hn (List.mem_cons_of_mem _ h))]
        have h3 := set_other (e := o) (f := f) (g := .bytes) (v := e.get f) (fun h => hn (by rw [h]; exact List.mem_cons_self))
        simpa [Evt.get] using h3
    unfold Evt.only at h1
    rw [h2 _ _ hm] at h1
    rw [← h1]
    exact Nat.zero_le _
theorem lines_mem {t s : Str} (h : s ∈ lines t) : s ∈ split 10 t := by
  unfold lines at h
  split at h
  · exact List.dropLast_subset _ h
  · exact h
theorem pgo_mem {l : List Str} {p : Ps} (h : Pgo l p) : ∀ q ∈ p.ev, q.1 ∈ l := by
  induction h with
  | nil => intro q h; cases h
  | snoc h hs ih =>
    intro q hq
    cases hs with
    | idle => exact List.mem_append_left _ (ih q hq)
    | head => exact List.mem_append_left _ (ih q hq)
    | event =>
      rcases List.mem_append.1 hq with h | h
      · exact List.mem_append_left _ (ih q h)
      · rw [List.mem_singleton.1 h]
        exact List.mem_append_right _ (by simp)
theorem tell_len : ∀ {ss : List Str} {ts : List Tld}, (∀ s ∈ ss, s.length ≤ 1000000) → (∀ t ∈ ts, t.line.length ≤ 16000008) → (tell ss ts).length ≤ ts.length * 18000000
  | [], ts, _, _ => by simp [tell]
  | _ :: _, [], _, _ => by simp [tell]
  | s :: ss, t :: ts, h1, h2 => by
    have h3 := tell_len (fun s hs => h1 s (List.mem_cons_of_mem _ hs)) (fun t ht => h2 t (List.mem_cons_of_mem _ ht)) (ss := ss) (ts := ts)
    have h4 := h1 s (by simp)
    have h5 := h2 t (by simp)
    simp only [tell, tellOne, List.length_append, List.length_cons, List.length_nil] at h3 ⊢
    omega
theorem tell_nil {ss : List Str} {ts : List Tld} (hl : ss.length = ts.length) (h : tell ss ts = []) : ts = [] := by
  cases ts with
  | nil => rfl
  | cons t ts =>
    cases ss with
    | nil => simp at hl
    | cons s ss => simp [tell, tellOne] at h
theorem flat_subs {α : Type} (f : α → HL) {l : List α} {a : α} (h : a ∈ l) : (f a).Sublist (l.flatMap f) := by
  induction l with
  | nil => cases h
  | cons b l ih =>
    rw [List.flatMap_cons]
    rcases List.mem_cons.1 h with e | h
    · subst e; exact List.sublist_append_left _ _
    · exact (ih h).trans (List.sublist_append_right _ _)
structure TlG (σ : Type) where
  j : Nat
  s : σ
  ts : List Tld
  x : Bld
set_option maxHeartbeats 16000000 in
theorem run_tr (F : Nat → Option Obj) (hG : Gl F) (M : Mach F) (t : Str) (ht : t.length ≤ 1000000) (hP : ∀ k c ev, Text t (.inr (k, c, ev)) → M.Pre c (ev.map (·.2))) :
    Tr Tryz.prog 6 [S t].toArray F [] (fun v H' => RunQ M t v ∧ H' = []) := by
  refine Tr.enter Tryz.func6 rfl Tryz.ntmps6 rfl (fun w0 => ?_)
  have hne := split_ne 10 t
  have hsl := split_len 10 t
  have hsm := split_mem_len 10 t
  obtain ⟨al, hal⟩ : ∃ al, al = split 10 t := ⟨_, rfl⟩
  have hap : 0 < al.length := by rw [hal]; exact List.length_pos_iff.2 hne
  refine SP ?_; repeat' (first|refine ⟨fun hc=>?_,fun hc=>?_⟩|intro)
  refine WL.e rfl (Ef.callW (c := []) (by exact rfl) (Sub.nil _) (fun F' hF => split_tr F' [] (hG.at hF) 10 t (by omega))) ?_
  rintro _ _ ⟨_, ⟨b1, rfl, rfl⟩, rfl⟩
  rw [← hal] at hsl ⊢
  obtain ⟨z, hz⟩ : ∃ z, al[al.length - 1]? = some z := ⟨al[al.length - 1]'(by omega), by simp⟩
  have e1 : IntKind.i64.wrap ((al.length : Int) - 1) = ((al.length - 1 : Nat) : Int) := by rw [i64_id (by omega) (by omega)]; omega
  have hia : 0 ≤ IntKind.i64.wrap ((al.length : Int) - 1) ∧ IntKind.i64.wrap ((al.length : Int) - 1) < al.length := by rw [e1]; omega
  have hC : Sl.Can F [(b1, .cells (al.map S).toArray 9 (0, 0))] b1 (0 + (IntKind.i64.wrap ((al.length : Int) - 1)).toNat * 1) [.string (strB z)] := by
    rw [e1]
    exact can_own (.head _) (by rw [Nat.zero_add, List.getElem?_map, show ((al.length - 1 : Nat) : Int).toNat * 1 = al.length - 1 by omega, hz]; rfl)
  obtain ⟨ls, hls⟩ : ∃ ls, ls = lines t := ⟨_, rfl⟩
  have hll : al.getLast? = some z := by rw [List.getLast?_eq_getElem?]; exact hz
  have hlen : ls.length ≤ al.length ∧ ∃ r, al = ls ++ r := by
    rw [hls]
    unfold lines
    rw [← hal]
    split
    · exact ⟨by simp, [z], (by
        rw [List.getLast?_eq_some_iff] at hll
        obtain ⟨l, e⟩ := hll
        rw [e, List.dropLast_concat])⟩
    · exact ⟨Nat.le_refl _, [], by simp⟩
  refine WL.pA ?_
  refine WL.nil ?_
  refine Fin.next ?_
  refine W.seq ?_
  refine W.cut (G := Unit) (fun _ => [(5, .slice (some ⟨b1, 0, none⟩) ls.length al.length)]) (fun _ => [(b1, .cells (al.map S).toArray 9 (0, 0))]) (fun _ => True) (fun K' hK _ => ?_) ?_
  · refine SP ?_; repeat' (first|refine ⟨fun hc=>?_,fun hc=>?_⟩|intro)
    · rw [show (ByteArray.mk #[]) = strB [] from rfl, eqS_bool] at hc
      have hz0 : z = [] := of_decide_eq_true hc
      refine WL.p rfl (Pu.slHi rfl rfl ⟨by rw [e1]; omega, by rw [e1]; omega⟩) ?_
      refine SP ?_; repeat' (first|refine ⟨fun hc=>?_,fun hc=>?_⟩|intro)
      have el : ls.length = (IntKind.i64.wrap ((al.length : Int) - 1)).toNat := by
        rw [e1, hls]
        unfold lines
        rw [← hal, if_pos (by rw [hll, hz0]), List.length_dropLast]
        omega
      rw [← el]
      exact Fin.cut hK () trivial envA (fun _ h => h)
    · rw [show (ByteArray.mk #[]) = strB [] from rfl, eqS_bool] at hc
      have hz0 : ¬ z = [] := of_decide_eq_false hc
      have el : ls.length = al.length := by
        rw [hls]
        unfold lines
        rw [← hal, if_neg (by rw [hll]; simpa using hz0)]
      rw [el] at hK
      exact Fin.cut hK () trivial envA (fun _ h => h)
  rintro ⟨⟩ -
  clear hC hia e1
  obtain ⟨hlen, rs, hrs⟩ := hlen
  refine SP ?_; repeat' (first|refine ⟨fun hc=>?_,fun hc=>?_⟩|intro)
  rename_i b6
  refine W.loop (G := RnG) (fun g => [(5, .slice (some ⟨b1, 0, none⟩) ls.length al.length), (6, .pointer (some ⟨b6, 0, none⟩)), (7, .slice g.ea g.en g.ec), (8, .slice g.la g.ln g.lc), (9, .int .i64 (fstI g.p)), (35, .slice (some ⟨b1, 0, none⟩) ls.length al.length), (36, .int .i64 ls.length), (37, .int .i64 g.i)])
    (fun g => (b6, .cells g.cs.toArray 23 (0, 0)) :: (b1, .cells (al.map S).toArray 9 (0, 0)) :: (g.hE ++ (g.hL ++ g.xs.flatMap (·.2)))) (fun g => g.Ok ls) (fun g => ls.length - g.i)
    ⟨0, ⟨none, []⟩, [.int .i64 0, .int .i64 0, .int .i64 0, .int .i64 0, .int .i64 0, .int .i64 0, .int .i64 0, .int .i64 0, .int .i64 0, .int .i64 0, .int .i64 0, .int .i64 0, .int .i64 0, .int .i64 0], [], none, 0, 0, [], none, 0, 0, []⟩
    ⟨Nat.zero_le _, .nil, rfl, (by decide), (fun _ _ h => by cases h), rfl, (fun _ h => by cases h), Nat.le_refl _, .inl ⟨rfl, rfl, rfl⟩, .inl ⟨rfl, rfl, rfl⟩⟩ envA (fun _ h => h) ?_
  rintro ⟨i, p, cs, xs, ea, en, ec, hE, la, ln, lc, hL⟩ hok
  obtain ⟨hi, hgo, hcs0, hcs1, hcsc, hevs, hown, hn, hoE, hoL⟩ := hok
  dsimp only at hi hgo hcs0 hcs1 hcsc hevs hown hn hoE hoL ⊢
  refine SP ?_; repeat' (first|refine ⟨fun hc=>?_,fun hc=>?_⟩|intro)
  · have hi' : i < ls.length := by simp at hc; omega
    clear hc
    obtain ⟨s, hs⟩ : ∃ y, ls[i]? = some y := ⟨ls[i]'(by omega), by simp⟩
    have hia : 0 ≤ (i : Int) ∧ (i : Int) < ls.length := by omega
    have hC : Sl.Can F ((b6, .cells cs.toArray 23 (0, 0)) :: (b1, .cells (al.map S).toArray 9 (0, 0)) :: (hE ++ (hL ++ xs.flatMap (·.2)))) b1 (0 + (i : Int).toNat * 1) [.string (strB s)] := can_own (.tail _ (.head _)) (by rw [Nat.zero_add, List.getElem?_map, show (i : Int).toNat * 1 = i by omega, hrs, List.getElem?_append_left (by omega), hs]; rfl)
    have htk : ls.take (i + 1) = ls.take i ++ [s] := by rw [List.take_add_one, hs]; rfl
    have htl : (ls.take i).length = i := by rw [List.length_take]; omega
    have hsl1 : s.length ≤ 1000000 := by
      have := hsm s (lines_mem (by rw [← hls]; exact List.mem_of_getElem? hs))
      omega
    have hstep : ∀ q, Pstep i s p q → Pgo (ls.take (i + 1)) q := fun q hq => by
      rw [htk]
      exact .snoc hgo (by rw [htl]; exact hq)
    have hwrong : Pwrong s p → Text t (.inl i) := fun hw => by
      have := Text.wrong (t := t) (l := ls.take i) (m := ls.drop (i + 1)) (s := s) (p := p) (by
        rw [← hls]
        conv => lhs; rw [← List.take_append_drop i ls]
        rw [List.drop_eq_getElem_cons hi', (List.getElem?_eq_some_iff.1 hs).2]) hgo hw
      rw [htl] at this
      exact this
    have hround : ∀ q, Pstep i s p q → q.ev = p.ev → q.c = p.c → RnG.Ok ls ⟨i + 1, q, cs, xs, ea, en, ec, hE, la, ln, lc, hL⟩ := fun q hq h1 h2 =>
      ⟨hi', hstep q hq, hcs0, hcs1, fun k c e => (by dsimp only at e; rw [h2] at e; have := hcsc k c e; exact ⟨this.1, this.2.1, this.2.2.1, by dsimp only; omega⟩), by rw [h1]; exact hevs, hown, by dsimp only; rw [h1]; omega, hoE, by dsimp only; rw [h1]; exact hoL⟩
    cases s with
    | nil =>
      refine SP ?_; repeat' (first|refine ⟨fun hc=>?_,fun hc=>?_⟩|intro)
      · rw [i64_succ (by omega)]
        exact Fin.round ⟨i + 1, p, cs, xs, ea, en, ec, hE, la, ln, lc, hL⟩ (hround p (.idle rfl) rfl rfl) envA (fun _ h => h) (by dsimp only; omega)
      · rw [show (ByteArray.mk #[]) = strB [] from rfl, eqS_bool] at hc
        cases hc
    | cons x r =>
      have hx256 := x.toNat_lt
      have hxi : ((x.toNat : Int) == 35) = Scr.idle (x :: r) := by
        show _ = decide (x = 35)
        by_cases h : x = 35
        · subst h; rfl
        · rw [decide_eq_false h]
          have : x.toNat ≠ 35 := fun e => h (UInt8.toNat.inj e)
          simp; omega
      refine SP ?_; repeat' (first|refine ⟨fun hc=>?_,fun hc=>?_⟩|intro)
      · rw [show (ByteArray.mk #[]) = strB [] from rfl, eqS_bool] at hc
        cases hc
      refine WL.p rfl (Pu.ixStr (m := strB (x :: r)) (b := x) rfl rfl (by decide) (strB_get rfl)) ?_
      have hls1 : (x :: r).length ≤ 100000000 := by omega
      obtain ⟨pc, ev⟩ := p
      cases pc with
      | none =>
        refine SP ?_; repeat' (first|refine ⟨fun hc=>?_,fun hc=>?_⟩|intro)
        · rw [hxi] at hc
          rw [i64_succ (by omega)]
          exact Fin.round ⟨i + 1, ⟨none, ev⟩, cs, xs, ea, en, ec, hE, la, ln, lc, hL⟩ (hround _ (.idle hc) rfl rfl) envA (fun _ h => h) (by dsimp only; omega)
        have hid : Scr.idle (x :: r) = false := by rw [← hxi]; assumption
        refine WL.e rfl (Ef.callW (c := []) (by exact rfl) (Sub.nil _) (fun F' hF => config_tr F' (hG.at hF) (x :: r) hls1)) ?_
        rintro _ _ ⟨_, ⟨okc, cs', rfl, rfl, hl14, hone, hyes, hno⟩, rfl⟩
        obtain ⟨a0, a1, a2, a3, a4, a5, a6, a7, a8, a9, a10, a11, a12, a13, rfl⟩ := list14 hl14
        have h4 : ([a0, a1, a2, a3, a4, a5, a6, a7, a8, a9, a10, a11, a12, a13] : List Value).all (·.oneCell') = true := List.all_eq_true.2 hone
        obtain ⟨c0, c1, c2, c3, c4, c5, c6, c7, c8, c9, c10, c11, c12, c13, rfl⟩ := list14 hcs0
        cases okc with
        | false =>
          refine SP ?_; repeat' (first|refine ⟨fun hc=>?_,fun hc=>?_⟩|intro)
          refine WL.e0A ?_ (Ef.sta rfl rfl rfl h4 (.here rfl))
          refine SP ?_; repeat' (first|refine ⟨fun hc=>?_,fun hc=>?_⟩|intro)
          have hT := hwrong ⟨hid, hno rfl⟩
          exact Fin.retW (by exact rfl) resA (H' := []) (fun _ h => h.sublist (List.nil_sublist _)) ⟨.inl ⟨_, hT, rfl⟩, rfl⟩
        | true =>
          obtain ⟨c, hH, hcc⟩ := hyes rfl
          refine SP ?_; repeat' (first|refine ⟨fun hc=>?_,fun hc=>?_⟩|intro)
          refine WL.e0A ?_ (Ef.sta rfl rfl rfl h4 (.here rfl))
          refine SP ?_; repeat' (first|refine ⟨fun hc=>?_,fun hc=>?_⟩|intro)
          refine WL.e0A ?_ (Ef.sta rfl rfl rfl h4 (.there (.here rfl)))
          refine SP ?_; repeat' (first|refine ⟨fun hc=>?_,fun hc=>?_⟩|intro)
          rw [i64_succ (by omega)]
          refine Fin.round ⟨i + 1, ⟨some (i, c), ev⟩, [a0, a1, a2, a3, a4, a5, a6, a7, a8, a9, a10, a11, a12, a13], xs, ea, en, ec, hE, la, ln, lc, hL⟩ ⟨hi', hstep _ (.head hid rfl hH), rfl, hone, fun k c' e => ?_, hevs, hown, by dsimp only at hn ⊢; omega, hoE, hoL⟩ envA weakA (by dsimp only; omega)
          cases e
          exact ⟨hcc, hH.1, hH.2.1, by dsimp only; omega⟩
      | some q =>
        obtain ⟨k, c⟩ := q
        refine SP ?_; repeat' (first|refine ⟨fun hc=>?_,fun hc=>?_⟩|intro)
        · rw [hxi] at hc
          rw [i64_succ (by omega)]
          exact Fin.round ⟨i + 1, ⟨some (k, c), ev⟩, cs, xs, ea, en, ec, hE, la, ln, lc, hL⟩ (hround _ (.idle hc) rfl rfl) envA (fun _ h => h) (by dsimp only; omega)
        have hid : Scr.idle (x :: r) = false := by rw [← hxi]; assumption
        refine WL.e rfl (Ef.callW (c := []) (by exact rfl) (Sub.nil _) (fun F' hF => read_tr F' (hG.at hF) (x :: r) hls1)) ?_
        rintro _ _ ⟨hb, hq, rfl⟩
        rcases hq with ⟨y, _, rfl, hR, hyo, rfl⟩ | ⟨rfl, hno, rfl⟩
        · have hyc := evx_one y
          have hbl := reads_bytes hR
          obtain ⟨⟨kind, fin, act, ord, str, path, n, life, bytes⟩, ba, bn, bc⟩ := y
          unfold Evx.cells at hyc ⊢
          dsimp only at hbl hyc ⊢
          refine SP ?_; repeat' (first|refine ⟨fun hc=>?_,fun hc=>?_⟩|intro)
          have hxl : xs.length = ev.length := by have := congrArg List.length hevs; simpa using this
          have hfl : (xs.flatMap (·.1.cells)).length = xs.length * 9 := flat_len' (fun q : Evx × HL => q.1.cells) 9 (fun _ => rfl) xs
          have hn' : ev.length ≤ i := hn
          refine WL.e rfl (Ef.app (m := 1) (news := Evx.cells ⟨⟨kind, fin, act, ord, str, path, n, life, bytes⟩, ba, bn, bc⟩) (hb := hE) (by exact rfl) (by exact rfl) rfl rfl hoE (.last (.there (.there (.right (.there (.there .here)))))) (Src.own (n := 9) (.here rfl)) rfl hyc (by rw [hfl]; simp [Evx.cells]; omega) (by rw [hfl]; simp [Evx.cells, maxLen]; omega)) ?_
          rintro _ _ ⟨hE', hoE', rfl⟩
          obtain ⟨ea', en', ec', rfl, _, _⟩ := hoE'.shape
          refine SP ?_; repeat' (first|refine ⟨fun hc=>?_,fun hc=>?_⟩|intro)
          refine WL.e rfl (Ef.app (m := 1) (news := [S (x :: r)]) (hb := hL) (by exact rfl) (by exact rfl) rfl rfl hoL (.last (.there (.right (.there (.there (.right (.there (.there .here)))))))) (Src.own (n := 1) (.here rfl)) rfl (by simp [Value.oneCell', S]) (by simp; omega) (by simp [maxLen]; omega)) ?_
          rintro _ _ ⟨hL', hoL', rfl⟩
          obtain ⟨la', ln', lc', rfl, _, _⟩ := hoL'.shape
          refine SP ?_; repeat' (first|refine ⟨fun hc=>?_,fun hc=>?_⟩|intro)
          rw [i64_succ (by omega)]
          refine Fin.round ⟨i + 1, ⟨some (k, c), ev ++ [(x :: r, ⟨kind, fin, act, ord, str, path, n, life, bytes⟩)]⟩, cs, xs ++ [(⟨⟨kind, fin, act, ord, str, path, n, life, bytes⟩, ba, bn, bc⟩, hb)], ea', en', ec', hE', la', ln', lc', hL'⟩ ⟨hi', hstep _ (.event hid rfl hR), hcs0, hcs1, fun k1 c1 e => ?_, ?_, ?_, ?_, ?_, ?_⟩ envA (fun _ h => ?_) (by dsimp only; omega)
          · have := hcsc k1 c1 e
            exact ⟨this.1, this.2.1, this.2.2.1, by dsimp only; omega⟩
          · dsimp only at hevs ⊢
            rw [List.map_append, List.map_append, hevs]
            rfl
          · intro q hq
            rcases List.mem_append.1 hq with h | h
            · exact hown q h
            · rw [List.mem_singleton.1 h]
              exact ⟨hyo, hR.1, by dsimp only; omega⟩
          · dsimp only
            simp
            omega
          · dsimp only
            rw [List.flatMap_append, List.flatMap_cons, List.flatMap_nil, List.append_nil]
            exact hoE'
          · dsimp only at hoL' ⊢
            rw [List.map_append]
            exact hoL'
          · dsimp only
            rw [List.flatMap_append, List.flatMap_cons, List.flatMap_nil, List.append_nil]
            exact In.of_sub (.pick (.right (.there (.right (.there (.there (.right .here)))))) (.pick (.right (.there (.right (.there (.there (.right .here)))))) (.pickL (L := hE') (.right (.there .here)) (.pickL (L := hL') .here (.pickL (L := xs.flatMap (·.2)) (.there (.there (.there (.right .all)))) (.last (L := hb) (.there (.there (.there .here))))))))) h
        · unfold Evx.cells evx0
          dsimp only
          refine SP ?_; repeat' (first|refine ⟨fun hc=>?_,fun hc=>?_⟩|intro)
          have hT := hwrong ⟨hid, hno⟩
          exact Fin.retW (by exact rfl) resA (H' := []) (fun _ h => h.sublist (List.nil_sublist _)) ⟨.inl ⟨_, hT, rfl⟩, rfl⟩
  · rename_i hc0
    have hi' : i = ls.length := by simp at hc0; omega
    rw [hi', List.take_of_length_le (Nat.le_refl _)] at hgo
    have hpc : p.c = none := by
      cases h : p.c with
      | none => rfl
      | some q =>
        unfold fstI at hc
        rw [h] at hc
        simp at hc
        omega
    have hT : Text t (.inl ls.length) := by rw [hls] at hgo ⊢; exact .none hgo hpc
    exact Fin.retW (by exact rfl) resA (H' := []) (fun _ h => h.sublist (List.nil_sublist _)) ⟨.inl ⟨_, hT, rfl⟩, rfl⟩
  · rename_i hc0
    have hi' : i = ls.length := by simp at hc0; omega
    rw [hi', List.take_of_length_le (Nat.le_refl _)] at hgo
    obtain ⟨⟨k, c⟩, hpc⟩ : ∃ q, p.c = some q := by
      cases h : p.c with
      | none =>
        unfold fstI at hc
        rw [h] at hc
        simp at hc
      | some q => exact ⟨q, rfl⟩
    have hT : Text t (.inr (k, c, p.ev)) := by rw [hls] at hgo; exact .some hgo hpc
    have hPre := hP _ _ _ hT
    obtain ⟨hcc, hc14, hcI, _⟩ := hcsc k c hpc
    have hfk : fstI p = (k : Nat) := by unfold fstI; rw [hpc]
    rw [hfk]
    obtain ⟨a0, a1, a2, a3, a4, a5, a6, a7, a8, a9, a10, a11, a12, a13, hcl⟩ := list14 hc14
    subst hcl
    subst hcc
    unfold ccells
    clear hcs1 hcsc hc
    refine SP ?_; repeat' (first|refine ⟨fun hc=>?_,fun hc=>?_⟩|intro)
    refine WL.e rfl (Ef.callP (c := []) (by exact rfl) (Sub.nil _) (fun F' hp hF => M.new F' _ (p.ev.map (·.2)) hp hPre hc14 hcI)) ?_
    rintro _ _ ⟨_, hq, rfl⟩
    rcases hq with ⟨s0, rfl, rfl, hst, hgd⟩ | ⟨q, e, he0, rfl, rfl, herr⟩
    · refine SP ?_; repeat' (first|refine ⟨fun hc=>?_,fun hc=>?_⟩|intro)
      rename_i b18
      have hxl : xs.length = p.ev.length := by have := congrArg List.length hevs; simpa using this
      have hfl : (xs.flatMap (·.1.cells)).length = xs.length * 9 := flat_len' (fun q : Evx × HL => q.1.cells) 9 (fun _ => rfl) xs
      have hen : en = xs.length := by have := hoE.len; omega
      have hln : ln = p.ev.length := by have := hoL.len; simp at this; omega
      have hlm : ∀ q ∈ p.ev, q.1.length ≤ 1000000 := fun q hq => by
        have := hsm q.1 (lines_mem (by rw [← hls]; exact pgo_mem hgo q hq))
        omega
      refine W.loop (G := TlG M.σ) (fun g => [(8, .slice la ln lc), (16, .pointer (some (M.p s0))), (18, .pointer (some ⟨b18, 0, none⟩)), (94, .slice ea en ec), (95, .int .i64 en), (96, .int .i64 g.j)])
        (fun g => g.x.H ++ (M.H g.s ++ (hE ++ (hL ++ xs.flatMap (·.2)))))
        (fun g => g.j ≤ en ∧ g.ts.length = g.j ∧ M.p g.s = M.p s0 ∧ M.Good g.s ((p.ev.map (·.2)).drop g.j) ∧ Runs M s0 ((p.ev.map (·.2)).take g.j) g.ts g.s ∧ g.x.b = b18 ∧ g.x.Is (tell ((p.ev.map (·.1)).take g.j) g.ts) ∧ (g.j = 0 → g.x = ⟨b18, .pointer none, none, 0, 0, []⟩) ∧ ∀ t ∈ g.ts, t.line.length ≤ 16000008)
        (fun g => en - g.j) ⟨0, s0, [], ⟨b18, .pointer none, none, 0, 0, []⟩⟩
        ⟨Nat.zero_le _, rfl, rfl, hgd, .nil _, rfl, ⟨.inl rfl, .inl ⟨rfl, rfl, rfl⟩, .none _ _⟩, fun _ => rfl, fun _ h => (by cases h)⟩ envA
        (fun w h => by
          show In F ((b18, .cells [.pointer none, .slice none 0 0].toArray 52 (0, 0)) :: (M.H s0 ++ (hE ++ (hL ++ xs.flatMap (·.2))))) w
          exact h.sublist (List.Sublist.cons_cons _ (List.Sublist.append_left (List.Sublist.cons _ (List.Sublist.cons _ (.refl _))) _))) ?_
      rintro ⟨j, s, ts, x⟩ ⟨hj, htl, hps, hgd, hrun, rfl, hI, hx0, htb⟩
      dsimp only at hj htl hps hgd hrun hI hx0 htb ⊢
      refine SP ?_; repeat' (first|refine ⟨fun hc=>?_,fun hc=>?_⟩|intro)
      · have hj' : j < en := by simp at hc; omega
        clear hc
        obtain ⟨⟨y, hb⟩, hy⟩ : ∃ y, xs[j]? = some y := ⟨xs[j]'(by omega), by simp⟩
        obtain ⟨⟨l, e⟩, hle⟩ : ∃ y, p.ev[j]? = some y := ⟨p.ev[j]'(by omega), by simp⟩
        have hye : y.e = e := by
          have := congrArg (fun l => l[j]?) hevs
          simp only [List.getElem?_map, hy, hle, Option.map_some, Option.some.injEq] at this
          exact this
        subst hye
        have hyo := hown _ (List.mem_of_getElem? hy)
        dsimp only at hyo
        have hll1 := hlm _ (List.mem_of_getElem? hle)
        dsimp only at hll1
        obtain ⟨eb, eo, rfl, hCe⟩ := (Lst.own (F := F) (H := x.H ++ (M.H s ++ (hE ++ (hL ++ xs.flatMap (·.2))))) hoE (fun _ h => In.of_sub (.last (L := hE) (.right (.right .here))) h)).el (cells := fun q : Evx × HL => q.1.cells) (fun _ => rfl) hy (by omega)
        have hia : 0 ≤ (j : Int) ∧ (j : Int) < en := by omega
        have hCe' : Sl.Can F (x.H ++ (M.H s ++ (hE ++ (hL ++ xs.flatMap (·.2))))) eb (eo + (j : Int).toNat * 9) y.cells := hCe
        clear hCe
        have hyc := evx_one y
        have hd : (p.ev.map (·.2)).drop j = y.e :: (p.ev.map (·.2)).drop (j + 1) := by
          have hlt : j < (p.ev.map (·.2)).length := by rw [List.length_map]; omega
          rw [List.drop_eq_getElem_cons hlt]
          congr 1
          have : (p.ev.map (·.2))[j]? = some y.e := by rw [List.getElem?_map, hle]; rfl
          rw [List.getElem?_eq_getElem hlt] at this
          exact Option.some.inj this
        rw [hd] at hgd
        obtain ⟨y0, hy0⟩ : ∃ y0, y0 = y := ⟨_, rfl⟩
        have hysub : hb.Sublist (xs.flatMap (·.2)) := flat_subs (fun q : Evx × HL => q.2) (List.mem_of_getElem? hy)
        obtain ⟨⟨kind, fin, act, ord, str, path, n, life, bytes⟩, ba, bn, bc⟩ := y
        unfold Evx.cells at hCe'
        dsimp only at hCe'
        refine SP ?_; repeat' (first|refine ⟨fun hc=>?_,fun hc=>?_⟩|intro)
        refine WL.s rfl (Rd.ldaC rfl rfl hCe') ?_
        refine SP ?_; repeat' (first|refine ⟨fun hc=>?_,fun hc=>?_⟩|intro)
        rename_i b20
        have hev : y0.cells = [.int .u8 kind, .int .u8 fin, .bool act, .bool ord, .int .u16 str, .int .i64 path, .int .i64 n, .int .i64 life, .slice ba bn bc] := by rw [hy0]; rfl
        obtain ⟨lb, lo, rfl, hCl⟩ := (Lst.own (F := F) (H := (b20, .cells [.int .u8 kind, .int .u8 fin, .bool act, .bool ord, .int .u16 str, .int .i64 path, .int .i64 n, .int .i64 life, .slice ba bn bc].toArray 47 (0, 0)) :: hL) (by
          have : p.ev.map (fun q => S q.1) = p.ev.flatMap (fun q => [S q.1]) := by rw [List.flatMap_def, List.flatten_eq_flatMap, List.flatMap_map]; simp [List.map_eq_flatMap]
          rw [this] at hoL
          exact hoL) (fun _ h => h.sublist (List.sublist_cons_self _ _))).el (cells := fun q : Str × Evt => [S q.1]) (fun _ => rfl) hle (by omega)
        have hia2 : 0 ≤ (j : Int) ∧ (j : Int) < ln := by omega
        have hCl' : Sl.Can F ((b20, .cells [.int .u8 kind, .int .u8 fin, .bool act, .bool ord, .int .u16 str, .int .i64 path, .int .i64 n, .int .i64 life, .slice ba bn bc].toArray 47 (0, 0)) :: hL) lb (lo + (j : Int).toNat * 1) [.string (strB l)] := hCl
        clear hCl hCe'
        refine W.draw ((b20, .cells [.int .u8 kind, .int .u8 fin, .bool act, .bool ord, .int .u16 str, .int .i64 path, .int .i64 n, .int .i64 life, .slice ba bn bc].toArray 47 (0, 0)) :: hL) (by kernel_rfl) (by kernel_rfl) (fun _ h => In.of_sub (.pick .here (.last (L := hL) (.right (.right (.right .here))))) h) ?_
        refine SP ?_; repeat' (first|refine ⟨fun hc=>?_,fun hc=>?_⟩|intro)
        refine WD.p rfl (Pu.addS (m := strB l) (n := strB [32, 61, 62, 32]) rfl rfl (by rw [strB_size, strB_size]; simp; omega)) ?_
        refine SP ?_; repeat' (first|refine ⟨fun hc=>?_,fun hc=>?_⟩|intro)
        have hys : ∀ F', (∀ w, In F' [] w → In F ((b20, .cells [.int .u8 kind, .int .u8 fin, .bool act, .bool ord, .int .u16 str, .int .i64 path, .int .i64 n, .int .i64 life, .slice ba bn bc].toArray 47 (0, 0)) :: (x.H ++ (hE ++ (hL ++ xs.flatMap (·.2))))) w) → Evx.Is F' ⟨⟨kind, fin, act, ord, str, path, n, life, bytes⟩, ba, bn, bc⟩ := fun F' hF =>
          hyo.1.is hyo.2.1 (by dsimp only; have := hyo.2.2; dsimp only at this; omega) hF (hysub.trans (((List.sublist_append_right _ _).trans (List.sublist_append_right _ _)).trans ((List.sublist_append_right _ _).trans (List.sublist_cons_self _ _))))
        have hdo := fun F' (hp : ∀ b o, F b = some o → F' b = some o) (hF : ∀ w, In F' [] w → In F ((b20, .cells [.int .u8 kind, .int .u8 fin, .bool act, .bool ord, .int .u16 str, .int .i64 path, .int .i64 n, .int .i64 life, .slice ba bn bc].toArray 47 (0, 0)) :: (x.H ++ (hE ++ (hL ++ xs.flatMap (·.2))))) w) => M.step F' s ⟨⟨kind, fin, act, ord, str, path, n, life, bytes⟩, ba, bn, bc⟩ _ hp hgd (hys F' hF) (ev_zero hyo.1)
        rw [hps] at hdo
        refine WD.e rfl (Ef.callP (c := M.H s) (by exact rfl) (.last (.there (.right .here))) hdo) ?_
        rintro _ _ ⟨_, ⟨s', y, hb', rfl, rfl, hps', hst', hgd', hbl', hll', hyis⟩, rfl⟩
        refine ⟨.inr (fun _ h => In.of_sub (.pick (.right .here) (.last (L := hL) (.right (.right (.right .here))))) h), ?_⟩
        refine WD.e rfl (Ef.lookR (by exact rfl) (fun F' hF => stold_tr F' (hG.at hF) y (hyis F' F (fun w h => (hF w h).left)) (by omega))) ?_
        rintro _ _ ⟨rfl, rfl⟩
        refine ⟨.inr (fun _ h => In.of_sub (.pick (.right .here) (.last (L := hL) (.right (.right (.right .here))))) h), ?_⟩
        obtain ⟨yl, hyl⟩ : ∃ yl, yl = y.t.line := ⟨_, rfl⟩
        have hylen : yl.length ≤ 16000008 := by
          rw [hyl]
          exact hll'
        rw [← hyl]
        have e5 : strB l ++ strB [32, 61, 62, 32] = strB (l ++ [32, 61, 62, 32]) := strB_app _ _
        refine WD.p rfl (Pu.addS (m := strB l ++ strB [32, 61, 62, 32]) (n := strB yl) rfl rfl (by rw [e5, strB_size, strB_size]; simp; omega)) ?_
        have e6 : strB l ++ strB [32, 61, 62, 32] ++ strB yl = strB (l ++ [32, 61, 62, 32] ++ yl) := by rw [e5, strB_app]
        rw [e6]
        refine WD.p rfl (Pu.addS (m := strB (l ++ [32, 61, 62, 32] ++ yl)) (n := strB [10]) rfl rfl (by rw [strB_size, strB_size]; simp; omega)) ?_
        have e7 : strB (l ++ [32, 61, 62, 32] ++ yl) ++ strB [10] = strB (tellOne l y.t) := by rw [strB_app, hyl]; rfl
        rw [e7]
        have htk : tell ((p.ev.map (·.1)).take (j + 1)) (ts ++ [y.t]) = tell ((p.ev.map (·.1)).take j) ts ++ tellOne l y.t := by
          rw [List.take_add_one, List.getElem?_map, hle]
          exact tell_snoc (by rw [List.length_take, List.length_map]; omega) _ _
        have htl0 : (tell ((p.ev.map (·.1)).take j) ts).length ≤ j * 18000000 := by
          rw [← htl]
          refine tell_len (fun s hs => ?_) htb
          obtain ⟨q, hq, rfl⟩ := List.mem_map.1 (List.mem_of_mem_take hs)
          exact hlm q hq
        have hto : (tellOne l y.t).length ≤ 18000000 := by
          unfold tellOne
          rw [← hyl]
          simp
          omega
        refine WD.e rfl (Ef.callW (c := x.H) (by exact rfl) (.last (.right (.there .here))) (fun F' hF => ws_tr F' x _ hI (tellOne l y.t) (by omega))) ?_
        rintro _ _ ⟨_, ⟨rfl, z, hzb, hz, rfl⟩, rfl⟩
        refine ⟨.inl (by kernel_rfl), ?_⟩
        refine SP ?_; repeat' (first|refine ⟨fun hc=>?_,fun hc=>?_⟩|intro)
        rw [i64_succ (by omega)]
        refine Fin.round ⟨j + 1, s', ts ++ [y.t], z⟩ ⟨hj', by simp [htl], hps', hgd', ?_, hzb, ?_, fun h => (by cases h), ?_⟩ envA (fun _ h => by
          rw [List.append_assoc] at h
          exact In.of_sub (.pickL (L := z.H) .here (.pickL (L := M.H s') .here (.last (.right (.there .all))))) h) (by dsimp only; omega)
        · dsimp only
          rw [List.take_add_one, List.getElem?_map, hle]
          exact .snoc hrun hst'
        · dsimp only
          rw [htk]
          exact hz
        · intro u hu
          rcases List.mem_append.1 hu with h | h
          · exact htb u h
          · rw [List.mem_singleton.1 h, ← hyl]
            exact hylen
      · have hj' : j = en := by simp at hc; omega
        rw [hj', List.take_of_length_le (by rw [List.length_map]; omega)] at hrun
        rw [hj', List.take_of_length_le (by rw [List.length_map]; omega)] at hI
        by_cases h0 : ts = []
        · have hx1 := hx0 (by rw [← htl, h0]; rfl)
          have hxH : x.H = [(x.b, .cells [.pointer none, .slice none 0 0].toArray 52 (0, 0))] := by rw [hx1]; rfl
          rw [hxH]
          refine WL.e rfl (Ef.callW (c := [(x.b, _)]) (by exact rfl) subA (fun F' hF => bstr0_tr F' x.b (.pointer none) 0)) ?_
          rintro _ _ ⟨_, ⟨rfl, rfl⟩, rfl⟩
          refine SP ?_; repeat' (first|refine ⟨fun hc=>?_,fun hc=>?_⟩|intro)
          refine Fin.retW (by exact rfl) resA (H' := []) (fun _ h => h.sublist (List.nil_sublist _)) ⟨.inr ⟨k, _, _, hT, .inr ⟨s0, ts, s, hst, hrun, by omega, ?_⟩⟩, rfl⟩
          rw [h0]
          cases p.ev <;> rfl
        · have hne0 : tell (p.ev.map (·.1)) ts ≠ [] := fun h => h0 (tell_nil (by rw [List.length_map]; omega) h)
          have htl0 : (tell (p.ev.map (·.1)) ts).length ≤ ts.length * 18000000 := by
            refine tell_len (fun s hs => ?_) htb
            obtain ⟨q, hq, rfl⟩ := List.mem_map.1 hs
            exact hlm q hq
          refine WL.e rfl (Ef.callW (c := x.H) (by exact rfl) (.last .here) (fun F' hF => bstr_tr F' x _ hI hne0 (by omega))) ?_
          rintro _ _ ⟨_, ⟨rfl, rfl⟩, rfl⟩
          refine SP ?_; repeat' (first|refine ⟨fun hc=>?_,fun hc=>?_⟩|intro)
          exact Fin.retW (by exact rfl) resA (H' := []) (fun _ h => h.sublist (List.nil_sublist _)) ⟨.inr ⟨k, _, _, hT, .inr ⟨s0, ts, s, hst, hrun, by omega, rfl⟩⟩, rfl⟩
    · refine SP ?_; repeat' (first|refine ⟨fun hc=>?_,fun hc=>?_⟩|intro)
      · exact Fin.retW (by exact rfl) resA (H' := []) (fun _ h => h.sublist (List.nil_sublist _)) ⟨.inr ⟨k, _, _, hT, .inl ⟨e, he0, herr, rfl⟩⟩, rfl⟩
      · exfalso
        simp at hc
        exact he0 hc
end Go.Proofs.YtkelhlffeilakaaGreatDoor