/- A line read as an event, walked. Conditions: the line's length is within bounds. -/
import Derived.Test.YtkelhlffeilakaaGreatDoorBuD
import Derived.Test.YtkelhlffeilakaaGreatDoorStG
namespace Go.Proofs.YtkelhlffeilakaaGreatDoor
open Go Go.Sl Go.Scr

theorem split_mem_len (c : UInt8) (s : Str) : ∀ w ∈ split c s, w.length ≤ s.length := by
  induction s with
  | nil => intro w hw; simp [split] at hw; subst hw; simp
  | cons x s ih =>
    intro w hw
    unfold split at hw
    split at hw
    · rcases List.mem_cons.1 hw with h | h
      · subst h; simp
      · have := ih w h; simp; omega
    · split at hw
      · simp at hw; subst hw; simp
      · rename_i v vs hv
        rcases List.mem_cons.1 hw with h | h
        · subst h; have := ih v (by rw [hv]; simp); simp; omega
        · have := ih w (by rw [hv]; simp [h]); simp; omega
theorem split_len (c : UInt8) (s : Str) : (split c s).length ≤ s.length + 1 := by
  induction s with
  | nil => simp [split]
  | cons x s ih =>
    unfold split
    split
    · simp; omega
    · split
      · simp
      · rename_i v vs hv
        rw [hv] at ih
        simp at ih ⊢
        omega
theorem ft_fl (f : Scr.Fd) : (fl f).1.ft = f.ft := by cases f <;> rfl
theorem fills_snoc {fs : List Scr.Fd} {ws : List Str} {e e' : Evt} (h : Fills fs ws e e') {f : Scr.Fd} {w : Str} {v : FV} (hw : Wd f.ft w v) : Fills (fs ++ [f]) (ws ++ [w]) e (e'.set f v) := by
  induction h with
  | nil e => exact .cons hw (.nil _)
  | cons h r ih => exact .cons h ih
def EvOwn (x : Evx) (hb : HL) : Prop := OwnS 5 1 (x.e.bytes.map B) (.slice x.ba x.bn x.bc) hb ∧ (x.e.bytes = [] → x.ba = none)
/-- an event in memory, as it is read -/
structure Evx.Is (F : Nat → Option Obj) (x : Evx) : Prop where
  ok : x.e.Ok
  bytes : Lst F [] 1 (x.e.bytes.map B) x.ba x.bn x.bc
  len : x.e.bytes.length ≤ 1000000000000
theorem Evx.Is.bn {F : Nat → Option Obj} {x : Evx} (h : x.Is F) : x.bn = x.e.bytes.length := by have := h.bytes.len; simp at this; omega
theorem Evx.Is.mono {F F' : Nat → Option Obj} {x : Evx} (h : x.Is F) (hw : ∀ w, In F' [] w → In F [] w) : x.Is F' := ⟨h.ok, h.bytes.mono hw, h.len⟩
theorem EvOwn.is {x : Evx} {hb : HL} (h : EvOwn x hb) (ho : x.e.Ok) (hl : x.e.bytes.length ≤ 1000000000000) {F G : Nat → Option Obj} {H : HL} (hF : ∀ w, In F [] w → In G H w) (hs : hb.Sublist H) : x.Is F := ⟨ho, (Lst.own (F := G) (H := H) h.1 (fun _ h => h.sublist hs)).mono hF, hl⟩
/-- fields filled in memory: the event filled -/
theorem fillC_evt {ps : List Fl} {ws : List Str} {cs cs' : List Value} {hb : HL} (h : FillC ps ws cs cs' hb) : ∀ (fs : List Scr.Fd) (x0 : Evx), ps = fs.map fl → fs.Nodup → cs = x0.cells → EvOwn x0 [] →
    ∃ x : Evx, cs' = x.cells ∧ Fills fs ws x0.e x.e ∧ EvOwn x hb ∧ (Scr.Fd.bytes ∉ fs → hb = []) := by
  induction h with
  | nil cs =>
    intro fs x0 h1 _ h3 h4
    have : fs = [] := by simpa using h1.symm
    subst this
    exact ⟨x0, h3, .nil _, h4, fun _ => rfl⟩
  | @snoc ps ws cs cs' hb hb' p w xv c r hw hc ih =>
    intro fs x0 h1 h2 h3 h4
    obtain ⟨fs, f, rfl⟩ : ∃ l f, fs = l ++ [f] := by
      have hne : fs ≠ [] := fun e => by subst e; simp at h1
      exact ⟨fs.dropLast, fs.getLast hne, (List.dropLast_concat_getLast hne).symm⟩
    rw [List.map_append, List.map_singleton] at h1
    obtain ⟨h5, h6⟩ := List.append_inj' h1 rfl
    simp only [List.cons.injEq, and_true] at h6
    subst h6
    rw [List.nodup_append] at h2
    obtain ⟨x, rfl, hf, ho, hz⟩ := ih fs x0 h5 h2.1 h3 h4
    have hw' : Wd f.ft w xv := by rw [← ft_fl]; exact hw
    have hF := fills_snoc hf hw'
    obtain ⟨e, ba, bn, bc⟩ := x
    cases f <;> cases hc
    · exact ⟨⟨_, ba, bn, bc⟩, rfl, hF, ho, fun hn => hz (fun h => hn (by simp [h]))⟩
    · exact ⟨⟨_, ba, bn, bc⟩, rfl, hF, ho, fun hn => hz (fun h => hn (by simp [h]))⟩
    · exact ⟨⟨_, ba, bn, bc⟩, rfl, hF, ho, fun hn => hz (fun h => hn (by simp [h]))⟩
    · exact ⟨⟨_, ba, bn, bc⟩, rfl, hF, ho, fun hn => hz (fun h => hn (by simp [h]))⟩
    · exact ⟨⟨_, ba, bn, bc⟩, rfl, hF, ho, fun hn => hz (fun h => hn (by simp [h]))⟩
    · exact ⟨⟨_, ba, bn, bc⟩, rfl, hF, ho, fun hn => hz (fun h => hn (by simp [h]))⟩
    · exact ⟨⟨_, ba, bn, bc⟩, rfl, hF, ho, fun hn => hz (fun h => hn (by simp [h]))⟩
    · have hz' := hz (fun h => h2.2.2 _ h _ (by simp) rfl)
      subst hz'
      rw [List.append_nil]
      exact ⟨⟨_, _, _, _⟩, rfl, hF, ⟨by assumption, by assumption⟩, fun hn => absurd (by simp) hn⟩
theorem fills_wd {fs : List Scr.Fd} {ws : List Str} {e e' : Evt} (h : Fills fs ws e e') : ∀ (i : Nat) (f : Scr.Fd) (w : Str), fs[i]? = some f → ws[i]? = some w → ∃ v, Wd f.ft w v := by
  induction h with
  | nil e => intro i f w h; simp at h
  | cons h r ih =>
    intro i f w h1 h2
    cases i with
    | zero => simp at h1 h2; subst h1 h2; exact ⟨_, h⟩
    | succ i => exact ih i f w (by simpa using h1) (by simpa using h2)
def evx0 : Evx := ⟨evt0, none, 0, 0⟩
/-- what Read answers -/
def ReadQ (s : Str) (v : Value) (H' : HL) : Prop := (∃ x hb, v = tup [.agg x.cells.toArray, .int .i64 0] ∧ Reads s x.e ∧ EvOwn x hb ∧ H' = hb) ∨ (v = tup [.agg evx0.cells.toArray, .int .i64 7] ∧ (∀ e, ¬ Reads s e) ∧ H' = [])
theorem no_read {s : Str} {k : Int} (hs : ∀ e, Reads s e → e.kind = k) (h : (fds k).length + 1 ≠ (split 32 s).length ∨ ∃ (i : Nat) (f : Scr.Fd) (w : Str), (fds k)[i]? = some f ∧ (split 32 s)[i + 1]? = some w ∧ ∀ x, ¬ Wd f.ft w x) : ∀ e, ¬ Reads s e := by
  intro e he
  obtain ⟨h1, h2⟩ := fills_of_reads he
  have hk := hs e he
  rw [hk] at h2
  rcases h with h | ⟨i, f, w, h3, h4, h5⟩
  · rw [h1] at h
    have := h2.len
    simp at h
    omega
  · rw [h1] at h4
    obtain ⟨v, hv⟩ := fills_wd h2 i f w h3 (by simpa using h4)
    exact h5 v hv
theorem fl_lt {l : List Scr.Fd} : ∀ p ∈ l.map fl, p.2 < 9 := fun p hp => by
  obtain ⟨f, _, rfl⟩ := List.mem_map.1 hp
  cases f <;> decide
theorem fds_len (k : Int) : (fds k).length ≤ 5 := by
  unfold fds
  (repeat' split) <;> decide
theorem rest_lst {F F' : Nat → Option Obj} {b1 : Nat} {w1 : Str} {ws : List Str} (hl : ws.length ≤ 100000000) (hF : ∀ w, In F' [] w → In F [(b1, .cells ((w1 :: ws).map S).toArray 9 (0, 0))] w) : Lst F' [] 1 (ws.map S) (if (w1 :: ws).length = (1 : Int).toNat then some ⟨b1, 0, none⟩ else (some ⟨b1, 0, none⟩ : Option Addr).map (·.add ((1 : Int).toNat * 1))) ((w1 :: ws).length - (1 : Int).toNat) ((w1 :: ws).length - (1 : Int).toNat) := by
  have h := ((Lst.own (F := F) (H := [(b1, _)]) (own_lit (E := 9) (g := b1) (l := (w1 :: ws).map S) (by simp; omega)) (fun _ h => h)).mono (fun w h => hF w h)).part (lo := 1) (up := ((w1 :: ws).map S).length) (by simp) (Nat.le_refl _)
  rw [show (((w1 :: ws).map S).drop 1).take (((w1 :: ws).map S).length - 1) = ws.map S by simp [List.take_of_length_le]] at h
  rw [List.length_map] at h
  exact h
set_option maxHeartbeats 8000000 in
theorem read_tr (F : Nat → Option Obj) (hG : Gl F) (s : Str) (hs : s.length ≤ 100000000) :
    Tr Tryz.prog 14 [S s].toArray F [] (ReadQ s) := by
  refine Tr.enter Tryz.func14 rfl Tryz.ntmps14 rfl (fun w0 => ?_)
  unfold S
  have hne := split_ne 32 s
  have hsl := split_len 32 s
  have hsm := split_mem_len 32 s
  obtain ⟨w1, ws, hsp⟩ : ∃ w ws, split 32 s = w :: ws := by
    cases h : split 32 s with
    | nil => exact absurd h hne
    | cons w ws => exact ⟨w, ws, rfl⟩
  rw [hsp] at hsl hsm
  simp only [List.length_cons] at hsl
  refine SP ?_; repeat' (first|refine ⟨fun hc=>?_,fun hc=>?_⟩|intro)
  refine WL.e rfl (Ef.callW (c := []) (by exact rfl) (Sub.nil _) (fun F' hF => split_tr F' [] (hG.at hF) 32 s (by omega))) ?_
  rintro _ _ ⟨_, ⟨b1, rfl, rfl⟩, rfl⟩
  rw [hsp]
  refine SP ?_; repeat' (first|refine ⟨fun hc=>?_,fun hc=>?_⟩|intro)
  refine W.drawA ?_
  refine SP ?_; repeat' (first|refine ⟨fun hc=>?_,fun hc=>?_⟩|intro)
  refine WD.e rfl (Ef.callW (c := []) (by exact rfl) (Sub.nil _) (fun F' hF => words_tr F' [])) ?_
  rintro _ _ ⟨_, ⟨b2, rfl, rfl⟩, rfl⟩
  refine ⟨.inr (fun _ h => h.sublist (by simp)), ?_⟩
  have hia : 0 ≤ (0 : Int) ∧ (0 : Int) < ((w1 :: ws).length : Nat) := by simp
  refine SP ?_; repeat' (first|refine ⟨fun hc=>?_,fun hc=>?_⟩|intro)
  refine WD.e rfl (Ef.lookR (by exact rfl) (fun F' hF => index_tr F' [] kwords w1 (some ⟨b2, 0, none⟩) 12 12 ((Lst.own (F := F) (H := [(b2, _)]) (own_lit (E := 9) (l := kwords.map S) (by simp [kwords])) (fun _ h => h)).mono (fun w h => (hF w h).sublist (by simp))) (by simp [kwords]))) ?_
  rintro _ _ ⟨⟨r, rfl, hr⟩, rfl⟩
  refine ⟨.inl (by kernel_rfl), ?_⟩
  clear hia
  refine SP ?_; repeat' (first|refine ⟨fun hc=>?_,fun hc=>?_⟩|intro)
  · refine Fin.retW (by exact rfl) resA (H' := []) (fun _ h => h.sublist (List.nil_sublist _)) (.inr ⟨rfl, fun e he => ?_, rfl⟩)
    obtain ⟨h1, _⟩ := fills_of_reads he
    rw [hsp] at h1
    simp only [List.cons.injEq] at h1
    rcases hr with ⟨rfl, hno⟩ | ⟨i, rfl, hi⟩
    · refine hno (h1.1 ▸ ?_)
      rcases kind_cases he.2.1.1 he.2.1.2.1 with e1 | e1 | e1 | e1 | e1 | e1 | e1 | e1 | e1 | e1 | e1 <;> rw [e1] <;> decide
    · have : i = 0 := by simp at hc; omega
      subst this
      rw [h1.1] at hi
      exact kword_ne he.2.1.1 he.2.1.2.1 (Option.some.inj hi).symm
  obtain ⟨i, rfl, hi⟩ : ∃ i : Nat, r = i ∧ kwords[i]? = some w1 := by
    rcases hr with ⟨rfl, hno⟩ | h
    · simp at hc
    · exact h
  have hi1 : 1 ≤ i := by simp at hc; omega
  have hi2 : i < 12 := (List.getElem?_eq_some_iff.1 hi).1
  have hkw : kword (i : Int) = w1 := by
    unfold kword
    rw [show (i : Int).toNat = i by omega, List.getD_eq_getElem?_getD, hi]
    rfl
  have hu : IntKind.u8.wrap (i : Int) = i := u8_id (by omega)
  rw [hu]
  rename_i b3 b6
  refine W.drawA ?_
  refine SP ?_; repeat' (first|refine ⟨fun hc=>?_,fun hc=>?_⟩|intro)
  refine WD.e rfl (Ef.callW (c := [(b6, _)]) (by exact rfl) subA (fun F' hF => fields_tr F' ⟨{ evt0 with kind := i }, none, 0, 0⟩ b6)) ?_
  rintro _ _ ⟨_, ⟨ga, gn, gc, hg, rfl, hgo, rfl⟩, rfl⟩
  refine ⟨.inr (fun _ h => h.sublist (by rw [List.append_assoc]; exact List.sublist_append_right _ _)), ?_⟩
  rw [List.append_assoc]
  refine SP ?_; repeat' (first|refine ⟨fun hc=>?_,fun hc=>?_⟩|intro)
  refine WD.p rfl (Pu.slLo rfl rfl ⟨by decide, by simp; omega⟩) ?_
  refine WD.e rfl (Ef.callW (c := [(b6, _)]) (by exact rfl) subA (fun F' hF => fill_tr F' (hG.at hF) ((fds i).map fl) ws b6 (Evx.cells ⟨{ evt0 with kind := i }, none, 0, 0⟩) 47 ga gn gc _ _ _ ((Lst.own (F := F) (H := hg) hgo (fun _ h => h)).mono (fun w h => (hF w h).sublist (by simp))) (rest_lst (by omega) (fun w h => (hF w h).sublist (by simp))) ?_ ?_ ?_)) ?_
  · exact fl_lt
  · exact fun w hw => by have := hsm w (by simp [hw]); omega
  · have := fds_len i
    simp
    omega
  rintro _ _ ⟨_, ⟨ok, rfl, hy, hno⟩, rfl⟩
  refine ⟨.inl (by kernel_rfl), ?_⟩
  cases ok with
  | true =>
    obtain ⟨cs', hb, hfc, rfl⟩ := hy rfl
    obtain ⟨x, rfl, hfi, hown, _⟩ := fillC_evt hfc (fds i) _ rfl (fds_nodup _) rfl ⟨.inl ⟨rfl, rfl, rfl⟩, fun _ => rfl⟩
    have hR := reads_of_fills (s := s) (k := i) (by omega) (by omega) (by rw [hkw, hsp]) hfi
    obtain ⟨⟨kind, fin, act, ord, str, path, n, life, bytes⟩, ba, bn, bc⟩ := x
    unfold Evx.cells
    refine SP ?_; repeat' (first|refine ⟨fun hc=>?_,fun hc=>?_⟩|intro)
    refine Fin.retW (by exact rfl) resA (H' := hb) (fun _ h => h.sublist ?_) (.inl ⟨⟨_, ba, bn, bc⟩, hb, rfl, hR, hown, rfl⟩)
    exact List.Sublist.cons _ (List.sublist_append_left hb _)
  | false =>
    refine SP ?_; repeat' (first|refine ⟨fun hc=>?_,fun hc=>?_⟩|intro)
    refine Fin.retW (by exact rfl) resA (H' := []) (fun _ h => h.sublist (List.nil_sublist _)) (.inr ⟨rfl, no_read (k := i) (fun e he => ?_) ?_, rfl⟩)
    · have h1 := (fills_of_reads he).1
      rw [hsp, ← hkw] at h1
      simp only [List.cons.injEq] at h1
      exact (kword_inj ⟨by omega, by omega⟩ ⟨he.2.1.1, he.2.1.2.1⟩ h1.1).symm
    · rcases (hno rfl).1 with h | ⟨j, p, w, h1, h2, h3⟩
      · exact .inl (by rw [hsp]; simpa using h)
      · refine .inr ?_
        rw [List.getElem?_map] at h1
        cases hf : (fds i)[j]? with
        | none => rw [hf] at h1; cases h1
        | some f =>
          rw [hf] at h1
          cases h1
          exact ⟨j, f, w, hf, by rw [hsp]; exact h2, fun x hx => h3 x (by rw [ft_fl]; exact hx)⟩
end Go.Proofs.YtkelhlffeilakaaGreatDoor
