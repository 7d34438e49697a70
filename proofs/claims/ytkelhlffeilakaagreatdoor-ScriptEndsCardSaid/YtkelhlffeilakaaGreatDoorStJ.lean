/- A line read as a config, walked. Conditions: the line's length is within bounds. -/
import Derived.Test.YtkelhlffeilakaaGreatDoorBuD
import Derived.Test.YtkelhlffeilakaaGreatDoorStI
namespace Go.Proofs.YtkelhlffeilakaaGreatDoor
open Go Go.Sl Go.Scr

/-- a config in memory -/
def ccells (c : List Int) : List Value := c.map (Value.int .i64)
def ConfigQ (s : Str) (v : Value) (H' : HL) : Prop := ∃ ok cs, v = tup [.agg cs.toArray, .bool ok] ∧ H' = [] ∧ cs.length = 14 ∧ (∀ u ∈ cs, u.oneCell' = true) ∧ (ok = true → ∃ c, HeadOf s c ∧ cs = ccells c) ∧ (ok = false → ∀ c, ¬ HeadOf s c)
theorem fillC_cfg {ps : List Fl} {ws : List Str} {cs cs' : List Value} {hb : HL} (h : FillC ps ws cs cs' hb) : (∀ p ∈ ps, p.1 = .int ∨ p.1 = .i64) → ps.map (·.2) = List.range ps.length → ps.length ≤ cs.length →
    ∃ c : List Int, c.length = ps.length ∧ (∀ x ∈ c, I64 x) ∧ ws = c.map num ∧ hb = [] ∧ cs' = ccells c ++ cs.drop c.length := by
  induction h with
  | nil cs => exact fun _ _ _ => ⟨[], rfl, by simp, rfl, rfl, by simp [ccells]⟩
  | @snoc ps ws cs cs' hb hb' p w xv c r hw hc ih =>
    intro h1 h2 h3
    rw [List.map_append, List.length_append, List.map_singleton, List.length_singleton, List.range_succ] at h2
    obtain ⟨h4, h5⟩ := List.append_inj' h2 rfl
    simp only [List.cons.injEq, and_true] at h5
    simp only [List.length_append, List.length_singleton] at h3
    obtain ⟨l, e1, e2, e3, e4, e5⟩ := ih (fun p hp => h1 p (by simp [hp])) h4 (by omega)
    have key : ∀ x : Int, I64 x → num x = w → hb' = [] → c = .int .i64 x → ∃ c_1 : List Int, c_1.length = (ps ++ [p]).length ∧ (∀ x ∈ c_1, I64 x) ∧ ws ++ [w] = c_1.map num ∧ hb' ++ hb = [] ∧ cs'.set p.2 c = ccells c_1 ++ cs.drop c_1.length := by
      intro x hx hn hz hcx
      subst hz hcx
      refine ⟨l ++ [x], by simp [e1], ?_, by rw [e3, ← hn]; simp, by rw [e4]; rfl, ?_⟩
      · intro y hy
        rcases List.mem_append.1 hy with h | h
        · exact e2 y h
        · rw [List.mem_singleton.1 h]; exact hx
      · have hlt : l.length < cs.length := by omega
        rw [e5, h5, ← e1, List.set_append_right _ _ (by simp [ccells])]
        simp [ccells]
        rw [List.drop_eq_getElem_cons hlt, List.set_cons_zero]
    obtain ⟨k, off⟩ := p
    obtain ⟨hw1, hw2⟩ := hw
    rcases h1 (k, off) (by simp) with e | e <;> (dsimp only at e; subst e; cases hc; exact key _ (by assumption) hw2 rfl rfl)
theorem head_of {s w1 : Str} {ws : List Str} {c : List Int} (hsp : split 32 s = w1 :: ws) (hw : w1 = endsW) (e : ws = c.map num) : head c = s := by
  unfold head
  rw [← e, ← hw, ← hsp, join_split]
theorem list14 {α : Type} {l : List α} (h : l.length = 14) : ∃ a0 a1 a2 a3 a4 a5 a6 a7 a8 a9 a10 a11 a12 a13, l = [a0, a1, a2, a3, a4, a5, a6, a7, a8, a9, a10, a11, a12, a13] := by
  match l, h with
  | [a0, a1, a2, a3, a4, a5, a6, a7, a8, a9, a10, a11, a12, a13], _ => exact ⟨_, _, _, _, _, _, _, _, _, _, _, _, _, _, rfl⟩
theorem no_head {s w1 : Str} {ws : List Str} (hsp : split 32 s = w1 :: ws) (h : w1 ≠ endsW ∨ ws.length ≠ 14 ∨ ∃ (i : Nat) (w : Str), ws[i]? = some w ∧ ∀ x, ¬ Wd .int w x) : ∀ c, ¬ HeadOf s c := by
  rintro c ⟨h1, h2, h3⟩
  have h4 := head_split (c := c)
  rw [h3, hsp] at h4
  simp only [List.cons.injEq] at h4
  obtain ⟨e1, e2⟩ := h4
  rcases h with h | h | ⟨i, w, h5, h6⟩
  · exact h e1
  · exact h (by rw [e2, List.length_map, h1])
  · rw [e2, List.getElem?_map] at h5
    cases hx : c[i]? with
    | none => rw [hx] at h5; cases h5
    | some x =>
      rw [hx] at h5
      cases h5
      exact h6 (.n x) ⟨h2 x (List.mem_of_getElem? hx), rfl⟩
theorem cfl_int : ∀ p ∈ cfl, p.1.ft = .int := fun p hp => by
  simp [cfl] at hp
  rcases hp with rfl | rfl | rfl | rfl | rfl | rfl | rfl | rfl | rfl | rfl | rfl | rfl | rfl | rfl <;> rfl
set_option maxHeartbeats 8000000 in
theorem config_tr (F : Nat → Option Obj) (hG : Gl F) (s : Str) (hs : s.length ≤ 100000000) :
    Tr Tryz.prog 13 [S s].toArray F [] (ConfigQ s) := by
  refine Tr.enter Tryz.func13 rfl Tryz.ntmps13 rfl (fun w0 => ?_)
  unfold S
  have hne := split_ne 32 s
  have hsl := split_len 32 s
  have hsm := split_mem_len 32 s
  obtain ⟨w1, ws, hsp⟩ : ∃ w ws, split 32 s = w :: ws := by
    cases h : split 32 s with
    | nil => exact absurd h hne
    | cons w ws => exact ⟨w, ws, rfl⟩
  rw [hsp] at hsl hsm
  simp only [List.length_cons] at hsl
  refine SP ?_; repeat' (first|refine ⟨fun hc=>?_,fun hc=>?_⟩|intro)
  refine WL.e rfl (Ef.callW (c := []) (by exact rfl) (Sub.nil _) (fun F' hF => split_tr F' [] (hG.at hF) 32 s (by omega))) ?_
  rintro _ _ ⟨_, ⟨b1, rfl, rfl⟩, rfl⟩
  rw [hsp]
  have hia : 0 ≤ (0 : Int) ∧ (0 : Int) < ((w1 :: ws).length : Nat) := by simp
  rename_i b0
  refine SP ?_; repeat' (first|refine ⟨fun hc=>?_,fun hc=>?_⟩|intro)
  refine W.drawA ?_
  refine SP ?_; repeat' (first|refine ⟨fun hc=>?_,fun hc=>?_⟩|intro)
  · refine WD.e rfl (Ef.callW (c := [(b0, _)]) (by exact rfl) subA (fun F' hF => numbers_tr F' _ b0)) ?_
    rintro _ _ ⟨_, ⟨ga, gn, gc, hg, rfl, hgo, rfl⟩, rfl⟩
    refine ⟨.inr (fun _ h => (In.perm List.perm_append_comm h).sublist (List.Sublist.append_left (List.sublist_append_right _ _) _)), ?_⟩
    rw [List.append_assoc]
    refine SP ?_; repeat' (first|refine ⟨fun hc=>?_,fun hc=>?_⟩|intro)
    refine WD.p rfl (Pu.slLo rfl rfl ⟨by decide, by simp; omega⟩) ?_
    refine SP ?_; repeat' (first|refine ⟨fun hc=>?_,fun hc=>?_⟩|intro)
    refine WD.e rfl (Ef.callW (c := [(b0, _)]) (by exact rfl) subA (fun F' hF => fill_tr F' (hG.at hF) cfl ws b0 [.int .i64 0, .int .i64 0, .int .i64 0, .int .i64 0, .int .i64 0, .int .i64 0, .int .i64 0, .int .i64 0, .int .i64 0, .int .i64 0, .int .i64 0, .int .i64 0, .int .i64 0, .int .i64 0] 23 ga gn gc _ _ _ ((Lst.own (F := F) (H := hg) hgo (fun _ h => h)).mono (fun w h => (hF w h).sublist (by simp))) (rest_lst (by omega) (fun w h => (hF w h).sublist (by simp))) ?_ ?_ (by simp [cfl]))) ?_
    · exact fun p hp => by simp [cfl] at hp; rcases hp with rfl | rfl | rfl | rfl | rfl | rfl | rfl | rfl | rfl | rfl | rfl | rfl | rfl | rfl <;> simp
    · exact fun w hw => by have := hsm w (by simp [hw]); omega
    rintro _ _ ⟨_, ⟨ok, rfl, hy, hno⟩, rfl⟩
    refine ⟨.inl (by kernel_rfl), ?_⟩
    cases ok with
    | true =>
      obtain ⟨cs', hb, hfc, rfl⟩ := hy rfl
      obtain ⟨c, e1, e2, e3, rfl, rfl⟩ := fillC_cfg hfc (fun p hp => by simp [cfl] at hp; rcases hp with rfl | rfl | rfl | rfl | rfl | rfl | rfl | rfl | rfl | rfl | rfl | rfl | rfl | rfl <;> simp) rfl (by simp [cfl])
      have hcl : c.length = 14 := e1
      have hH : HeadOf s c := ⟨hcl, e2, head_of hsp (by rw [show (ByteArray.mk #[101, 110, 100, 115]) = strB endsW from rfl, eqS_bool] at hc; exact of_decide_eq_true hc) e3⟩
      obtain ⟨a0, a1, a2, a3, a4, a5, a6, a7, a8, a9, a10, a11, a12, a13, rfl⟩ := list14 hcl
      dsimp only [ccells, List.map_cons, List.map_nil, List.length_cons, List.length_nil, List.drop, List.cons_append, List.nil_append, List.append_nil]
      refine SP ?_; repeat' (first|refine ⟨fun hc=>?_,fun hc=>?_⟩|intro)
      refine Fin.retW (by exact rfl) resA (H' := []) (fun _ h => h.sublist (List.nil_sublist _)) ⟨true, ccells [a0, a1, a2, a3, a4, a5, a6, a7, a8, a9, a10, a11, a12, a13], rfl, rfl, rfl, ?_, fun _ => ⟨_, hH, rfl⟩, fun h => (by cases h)⟩
      intro u hu
      obtain ⟨x, _, rfl⟩ := List.mem_map.1 hu
      rfl
    | false =>
      obtain ⟨hno1, cs', h1, h2, rfl⟩ := hno rfl
      have h14 : cs'.length = 14 := h1
      have h3 := h2 (fun u hu => by
        obtain ⟨x, _, rfl⟩ := List.mem_map.1 (show u ∈ ccells (List.replicate 14 0) from hu)
        rfl)
      have h4 : cs'.all (·.oneCell') = true := List.all_eq_true.2 h3
      obtain ⟨a0, a1, a2, a3, a4, a5, a6, a7, a8, a9, a10, a11, a12, a13, rfl⟩ := list14 h14
      refine SP ?_; repeat' (first|refine ⟨fun hc=>?_,fun hc=>?_⟩|intro)
      refine WL.e0A ?_ (Ef.sta rfl rfl rfl h4 (.left (.here rfl)))
      refine SP ?_; repeat' (first|refine ⟨fun hc=>?_,fun hc=>?_⟩|intro)
      refine Fin.retW (by exact rfl) resA (H' := []) (fun _ h => h.sublist (List.nil_sublist _)) ⟨false, [a0, a1, a2, a3, a4, a5, a6, a7, a8, a9, a10, a11, a12, a13], rfl, rfl, rfl, h3, fun h => (by cases h), fun _ => no_head hsp ?_⟩
      rcases hno1 with h | ⟨j, p, w, g1, g2, g3⟩
      · exact .inr (.inl (fun e => h (by rw [e]; rfl)))
      · exact .inr (.inr ⟨j, w, g2, fun x hx => g3 x (by rw [cfl_int p (List.mem_of_getElem? g1)]; exact hx)⟩)
  · refine Fin.retW (by exact rfl) resA (H' := []) (fun _ h => h.sublist (List.nil_sublist _)) ⟨false, ccells (List.replicate 14 0), rfl, rfl, rfl, fun u hu => ?_, fun h => (by cases h), fun _ => no_head hsp (.inl ?_)⟩
    · obtain ⟨x, _, rfl⟩ := List.mem_map.1 hu
      rfl
    · rw [show (ByteArray.mk #[101, 110, 100, 115]) = strB endsW from rfl, eqS_bool] at hc
      exact of_decide_eq_false hc
end Go.Proofs.YtkelhlffeilakaaGreatDoor
