/- The fields of an event and of a config, the words of the kinds, and words filled into fields, walked. Conditions: the fields lie in an owned block; lengths within bounds. -/
import Derived.Test.YtkelhlffeilakaaGreatDoorBuD
import Derived.Test.YtkelhlffeilakaaGreatDoorStS
namespace Go.Proofs.YtkelhlffeilakaaGreatDoor
open Go Go.Sl Go.Scr

/-- a field of a block: its kind and its place -/
abbrev Fl := KT × Nat
def flp (b : Nat) (f : Fl) : Value := .iface f.1.ptr (.pointer (some ⟨b, f.2, none⟩))
def fl : Scr.Fd → Fl
  | .fin => (.u8, 1)
  | .act => (.bool, 2)
  | .ord => (.bool, 3)
  | .str => (.u16, 4)
  | .path => (.int, 5)
  | .n => (.int, 6)
  | .life => (.i64, 7)
  | .bytes => (.oct, 8)
/-- an event in memory -/
structure Evx where
  e : Evt
  ba : Option Addr
  bn : Nat
  bc : Nat
def Evx.cells (x : Evx) : List Value := [.int .u8 x.e.kind, .int .u8 x.e.fin, .bool x.e.act, .bool x.e.ord, .int .u16 x.e.str, .int .i64 x.e.path, .int .i64 x.e.n, .int .i64 x.e.life, .slice x.ba x.bn x.bc]
def FieldsQ (b : Nat) (ps : List Fl) (H : HL) (v : Value) (H' : HL) : Prop := ∃ sa n c hb, v = .slice sa n c ∧ OwnS 20 1 (ps.map (flp b)) (.slice sa n c) hb ∧ H' = hb ++ H
theorem own_lit {E : TypeId} {g : Nat} {l : List Value} (hm : l.length ≤ 1000000000) : OwnS E 1 l (.slice (some ⟨g, 0, none⟩) l.length l.length) [(g, .cells l.toArray E (0, 0))] :=
  .inr ⟨g, l.length, l.length, [], [], [], rfl, by simp, by simp, Nat.le_refl _, by simp, by simp [maxLen]; omega⟩
set_option maxHeartbeats 8000000 in
theorem fields_tr (F : Nat → Option Obj) (x : Evx) (b : Nat) :
    Tr Tryz.prog 28 [.pointer (some ⟨b, 0, none⟩)].toArray F [(b, .cells x.cells.toArray 47 (0, 0))] (FieldsQ b ((fds x.e.kind).map fl) [(b, .cells x.cells.toArray 47 (0, 0))]) := by
  refine Tr.enter Tryz.func28 rfl Tryz.ntmps28 rfl (fun w0 => ?_)
  obtain ⟨⟨kind, fin, act, ord, str, path, n, life, bytes⟩, ba, bn, bc⟩ := x
  unfold Evx.cells
  dsimp only
  have hk : kind = 1 ∨ kind = 2 ∨ kind = 3 ∨ kind = 4 ∨ kind = 5 ∨ kind = 6 ∨ kind = 7 ∨ kind = 8 ∨ kind = 9 ∨ kind = 10 ∨ kind = 11 ∨ (kind ≠ 1 ∧ kind ≠ 2 ∧ kind ≠ 3 ∧ kind ≠ 4 ∧ kind ≠ 5 ∧ kind ≠ 6 ∧ kind ≠ 7 ∧ kind ≠ 8 ∧ kind ≠ 9 ∧ kind ≠ 10 ∧ kind ≠ 11) := by omega
  rcases hk with rfl | rfl | rfl | rfl | rfl | rfl | rfl | rfl | rfl | rfl | rfl | ⟨n1, n2, n3, n4, n5, n6, n7, n8, n9, n10, n11⟩
  · rw [show (fds 1).map fl = [fl .fin, fl .act, fl .n] from rfl]
    refine SP ?_; repeat' (first|refine ⟨fun hc=>?_,fun hc=>?_⟩|intro)
    refine W.drawA ?_
    refine SP ?_; repeat' (first|refine ⟨fun hc=>?_,fun hc=>?_⟩|intro)
    refine WD.e rfl (Ef.bsN (n := 3) (r := ([fl .fin, fl .act, fl .n]).map (flp b)) (by exact rfl) (by exact rfl) (by exact rfl) (by exact rfl) rfl (by exact rfl)) ?_
    rintro _ _ ⟨g, rfl, rfl⟩
    refine ⟨.inr (fun _ h => h.sublist (by simp)), ?_⟩
    refine SP ?_; repeat' (first|refine ⟨fun hc=>?_,fun hc=>?_⟩|intro)
    exact Fin.retW (by exact rfl) resA (H' := (g, .cells (([fl .fin, fl .act, fl .n]).map (flp b)).toArray 20 (0, 0)) :: [(b, _)]) (fun _ h => h) ⟨some ⟨g, 0, none⟩, 3, 3, [(g, _)], rfl, own_lit (l := ([fl .fin, fl .act, fl .n]).map (flp b)) (by simp), rfl⟩
  · rw [show (fds 2).map fl = [fl .fin, fl .str, fl .ord, fl .life, fl .bytes] from rfl]
    refine SP ?_; repeat' (first|refine ⟨fun hc=>?_,fun hc=>?_⟩|intro)
    refine W.drawA ?_
    refine SP ?_; repeat' (first|refine ⟨fun hc=>?_,fun hc=>?_⟩|intro)
    refine WD.e rfl (Ef.bsN (n := 5) (r := ([fl .fin, fl .str, fl .ord, fl .life, fl .bytes]).map (flp b)) (by exact rfl) (by exact rfl) (by exact rfl) (by exact rfl) rfl (by exact rfl)) ?_
    rintro _ _ ⟨g, rfl, rfl⟩
    refine ⟨.inr (fun _ h => h.sublist (by simp)), ?_⟩
    refine SP ?_; repeat' (first|refine ⟨fun hc=>?_,fun hc=>?_⟩|intro)
    exact Fin.retW (by exact rfl) resA (H' := (g, .cells (([fl .fin, fl .str, fl .ord, fl .life, fl .bytes]).map (flp b)).toArray 20 (0, 0)) :: [(b, _)]) (fun _ h => h) ⟨some ⟨g, 0, none⟩, 5, 5, [(g, _)], rfl, own_lit (l := ([fl .fin, fl .str, fl .ord, fl .life, fl .bytes]).map (flp b)) (by simp), rfl⟩
  · rw [show (fds 3).map fl = [fl .fin] from rfl]
    refine SP ?_; repeat' (first|refine ⟨fun hc=>?_,fun hc=>?_⟩|intro)
    rename_i g
    exact Fin.retW (by exact rfl) resA (H' := (g, .cells (([fl .fin]).map (flp b)).toArray 20 (0, 0)) :: [(b, _)]) (fun _ h => h) ⟨some ⟨g, 0, none⟩, 1, 1, [(g, _)], rfl, own_lit (l := ([fl .fin]).map (flp b)) (by simp), rfl⟩
  · rw [show (fds 4).map fl = [fl .fin] from rfl]
    refine SP ?_; repeat' (first|refine ⟨fun hc=>?_,fun hc=>?_⟩|intro)
    rename_i g
    exact Fin.retW (by exact rfl) resA (H' := (g, .cells (([fl .fin]).map (flp b)).toArray 20 (0, 0)) :: [(b, _)]) (fun _ h => h) ⟨some ⟨g, 0, none⟩, 1, 1, [(g, _)], rfl, own_lit (l := ([fl .fin]).map (flp b)) (by simp), rfl⟩
  · rw [show (fds 5).map fl = [fl .fin] from rfl]
    refine SP ?_; repeat' (first|refine ⟨fun hc=>?_,fun hc=>?_⟩|intro)
    rename_i g
    exact Fin.retW (by exact rfl) resA (H' := (g, .cells (([fl .fin]).map (flp b)).toArray 20 (0, 0)) :: [(b, _)]) (fun _ h => h) ⟨some ⟨g, 0, none⟩, 1, 1, [(g, _)], rfl, own_lit (l := ([fl .fin]).map (flp b)) (by simp), rfl⟩
  · rw [show (fds 6).map fl = [fl .n] from rfl]
    refine SP ?_; repeat' (first|refine ⟨fun hc=>?_,fun hc=>?_⟩|intro)
    rename_i g
    exact Fin.retW (by exact rfl) resA (H' := (g, .cells (([fl .n]).map (flp b)).toArray 20 (0, 0)) :: [(b, _)]) (fun _ h => h) ⟨some ⟨g, 0, none⟩, 1, 1, [(g, _)], rfl, own_lit (l := ([fl .n]).map (flp b)) (by simp), rfl⟩
  · rw [show (fds 7).map fl = [fl .n] from rfl]
    refine SP ?_; repeat' (first|refine ⟨fun hc=>?_,fun hc=>?_⟩|intro)
    rename_i g
    exact Fin.retW (by exact rfl) resA (H' := (g, .cells (([fl .n]).map (flp b)).toArray 20 (0, 0)) :: [(b, _)]) (fun _ h => h) ⟨some ⟨g, 0, none⟩, 1, 1, [(g, _)], rfl, own_lit (l := ([fl .n]).map (flp b)) (by simp), rfl⟩
  · rw [show (fds 8).map fl = [fl .n] from rfl]
    refine SP ?_; repeat' (first|refine ⟨fun hc=>?_,fun hc=>?_⟩|intro)
    rename_i g
    exact Fin.retW (by exact rfl) resA (H' := (g, .cells (([fl .n]).map (flp b)).toArray 20 (0, 0)) :: [(b, _)]) (fun _ h => h) ⟨some ⟨g, 0, none⟩, 1, 1, [(g, _)], rfl, own_lit (l := ([fl .n]).map (flp b)) (by simp), rfl⟩
  · rw [show (fds 9).map fl = [fl .n, fl .life] from rfl]
    refine SP ?_; repeat' (first|refine ⟨fun hc=>?_,fun hc=>?_⟩|intro)
    refine W.drawA ?_
    refine SP ?_; repeat' (first|refine ⟨fun hc=>?_,fun hc=>?_⟩|intro)
    refine WD.e rfl (Ef.bsN (n := 2) (r := ([fl .n, fl .life]).map (flp b)) (by exact rfl) (by exact rfl) (by exact rfl) (by exact rfl) rfl (by exact rfl)) ?_
    rintro _ _ ⟨g, rfl, rfl⟩
    refine ⟨.inr (fun _ h => h.sublist (by simp)), ?_⟩
    refine SP ?_; repeat' (first|refine ⟨fun hc=>?_,fun hc=>?_⟩|intro)
    exact Fin.retW (by exact rfl) resA (H' := (g, .cells (([fl .n, fl .life]).map (flp b)).toArray 20 (0, 0)) :: [(b, _)]) (fun _ h => h) ⟨some ⟨g, 0, none⟩, 2, 2, [(g, _)], rfl, own_lit (l := ([fl .n, fl .life]).map (flp b)) (by simp), rfl⟩
  · rw [show (fds 10).map fl = [fl .path, fl .act] from rfl]
    refine SP ?_; repeat' (first|refine ⟨fun hc=>?_,fun hc=>?_⟩|intro)
    refine W.drawA ?_
    refine SP ?_; repeat' (first|refine ⟨fun hc=>?_,fun hc=>?_⟩|intro)
    refine WD.e rfl (Ef.bsN (n := 2) (r := ([fl .path, fl .act]).map (flp b)) (by exact rfl) (by exact rfl) (by exact rfl) (by exact rfl) rfl (by exact rfl)) ?_
    rintro _ _ ⟨g, rfl, rfl⟩
    refine ⟨.inr (fun _ h => h.sublist (by simp)), ?_⟩
    refine SP ?_; repeat' (first|refine ⟨fun hc=>?_,fun hc=>?_⟩|intro)
    exact Fin.retW (by exact rfl) resA (H' := (g, .cells (([fl .path, fl .act]).map (flp b)).toArray 20 (0, 0)) :: [(b, _)]) (fun _ h => h) ⟨some ⟨g, 0, none⟩, 2, 2, [(g, _)], rfl, own_lit (l := ([fl .path, fl .act]).map (flp b)) (by simp), rfl⟩
  · rw [show (fds 11).map fl = [fl .fin, fl .path, fl .bytes] from rfl]
    refine SP ?_; repeat' (first|refine ⟨fun hc=>?_,fun hc=>?_⟩|intro)
    refine W.drawA ?_
    refine SP ?_; repeat' (first|refine ⟨fun hc=>?_,fun hc=>?_⟩|intro)
    refine WD.e rfl (Ef.bsN (n := 3) (r := ([fl .fin, fl .path, fl .bytes]).map (flp b)) (by exact rfl) (by exact rfl) (by exact rfl) (by exact rfl) rfl (by exact rfl)) ?_
    rintro _ _ ⟨g, rfl, rfl⟩
    refine ⟨.inr (fun _ h => h.sublist (by simp)), ?_⟩
    refine SP ?_; repeat' (first|refine ⟨fun hc=>?_,fun hc=>?_⟩|intro)
    exact Fin.retW (by exact rfl) resA (H' := (g, .cells (([fl .fin, fl .path, fl .bytes]).map (flp b)).toArray 20 (0, 0)) :: [(b, _)]) (fun _ h => h) ⟨some ⟨g, 0, none⟩, 3, 3, [(g, _)], rfl, own_lit (l := ([fl .fin, fl .path, fl .bytes]).map (flp b)) (by simp), rfl⟩
  · have hf : (fds kind).map fl = [] := by
      unfold fds
      simp [*]
    rw [hf]
    have q1 : ∀ {m : Int}, (kind == m) = true → kind = m := fun h => by simpa using h
    refine SP ?_; repeat' (first|refine ⟨fun hc=>?_,fun hc=>?_⟩|intro)
    any_goals (exfalso; simp_all; done)
    exact Fin.retW (by exact rfl) resA (fun _ h => h) ⟨none, 0, 0, [], rfl, .inl ⟨rfl, rfl, rfl⟩, rfl⟩
/-- the fields of a config -/
def cfl : List Fl := [(.int, 0), (.int, 1), (.int, 2), (.int, 3), (.int, 4), (.int, 5), (.i64, 6), (.i64, 7), (.i64, 8), (.i64, 9), (.i64, 10), (.i64, 11), (.int, 12), (.int, 13)]
set_option maxHeartbeats 8000000 in
theorem numbers_tr (F : Nat → Option Obj) (c : List Value) (b : Nat) :
    Tr Tryz.prog 10 [.pointer (some ⟨b, 0, none⟩)].toArray F [(b, .cells c.toArray 23 (0, 0))] (FieldsQ b cfl [(b, .cells c.toArray 23 (0, 0))]) := by
  refine Tr.enter Tryz.func10 rfl Tryz.ntmps10 rfl (fun w0 => ?_)
  refine SP ?_; repeat' (first|refine ⟨fun hc=>?_,fun hc=>?_⟩|intro)
  refine W.drawA ?_
  refine SP ?_; repeat' (first|refine ⟨fun hc=>?_,fun hc=>?_⟩|intro)
  refine WD.e rfl (Ef.bsN (n := 14) (r := cfl.map (flp b)) (by exact rfl) (by exact rfl) (by exact rfl) (by exact rfl) rfl (by exact rfl)) ?_
  rintro _ _ ⟨g, rfl, rfl⟩
  refine ⟨.inr (fun _ h => h.sublist (by simp)), ?_⟩
  refine SP ?_; repeat' (first|refine ⟨fun hc=>?_,fun hc=>?_⟩|intro)
  exact Fin.retW (by exact rfl) resA (H' := (g, .cells (cfl.map (flp b)).toArray 20 (0, 0)) :: [(b, _)]) (fun _ h => h) ⟨some ⟨g, 0, none⟩, 14, 14, [(g, _)], rfl, own_lit (l := cfl.map (flp b)) (by simp [cfl]), rfl⟩
set_option maxHeartbeats 8000000 in
theorem words_tr (F : Nat → Option Obj) (H : HL) :
    Tr Tryz.prog 27 ([] : List Value).toArray F H (fun v H' => ∃ g, v = .slice (some ⟨g, 0, none⟩) 12 12 ∧ H' = (g, .cells (kwords.map S).toArray 9 (0, 0)) :: H) := by
  refine Tr.enter Tryz.func27 rfl Tryz.ntmps27 rfl (fun w0 => ?_)
  refine SP ?_; repeat' (first|refine ⟨fun hc=>?_,fun hc=>?_⟩|intro)
  refine WL.e rfl (Ef.bsN (n := 12) (r := kwords.map S) (by exact rfl) (by exact rfl) (by exact rfl) (by exact rfl) rfl (by exact rfl)) ?_
  rintro _ _ ⟨g, rfl, rfl⟩
  refine SP ?_; repeat' (first|refine ⟨fun hc=>?_,fun hc=>?_⟩|intro)
  exact Fin.retW (by exact rfl) resA (fun _ h => h) ⟨g, rfl, rfl⟩
/-- the first place of a word in a list, else -1 -/
def IxQ (ws : List Str) (s : Str) (r : Int) : Prop := (r = -1 ∧ s ∉ ws) ∨ ∃ i : Nat, r = i ∧ ws[i]? = some s
set_option maxHeartbeats 8000000 in
theorem index_tr (F : Nat → Option Obj) (H : HL) (ws : List Str) (s : Str) (sa : Option Addr) (n c : Nat) (hl : Lst F H 1 (ws.map S) sa n c) (hn : ws.length ≤ 1000000000) :
    Tr Tryz.prog 26 [.slice sa n c, S s].toArray F H (fun v H' => (∃ r, v = .int .i64 r ∧ IxQ ws s r) ∧ H' = H) := by
  refine Tr.enter Tryz.func26 rfl Tryz.ntmps26 rfl (fun w0 => ?_)
  have hln : n = ws.length := by have := hl.len; simp at this; omega
  unfold S
  refine SP ?_; repeat' (first|refine ⟨fun hc=>?_,fun hc=>?_⟩|intro)
  refine W.loop (G := Nat) (fun i => [(0, .slice sa n c), (1, .string (strB s)), (7, .int .i64 n), (8, .int .i64 i)]) (fun _ => H) (fun i => i ≤ n ∧ s ∉ ws.take i) (fun i => n - i) 0 ⟨Nat.zero_le _, by simp⟩ envA (fun _ h => h) ?_
  rintro i ⟨hi, hno⟩
  refine SP ?_; repeat' (first|refine ⟨fun hc=>?_,fun hc=>?_⟩|intro)
  · have hi' : i < n := by simp at hc; omega
    obtain ⟨y, hy⟩ : ∃ y, ws[i]? = some y := ⟨ws[i]'(by omega), by simp⟩
    obtain ⟨b1, o1, rfl, hcan⟩ := hl.can (by omega)
    have hia : 0 ≤ (i : Int) ∧ (i : Int) < n := by omega
    have hC : Sl.Can F H b1 (o1 + (i : Int).toNat * 1) [.string (strB y)] := by
      have := hcan.one (i := i) (v := S y) (by rw [List.getElem?_map, hy]; rfl)
      simpa [S] using this
    clear hc
    refine SP ?_; repeat' (first|refine ⟨fun hc=>?_,fun hc=>?_⟩|intro)
    · refine Fin.retW (by exact rfl) resA (fun _ h => h) ⟨⟨i, rfl, .inr ⟨i, rfl, ?_⟩⟩, rfl⟩
      rw [eqS_bool] at hc
      rw [hy, of_decide_eq_true hc]
    · rw [i64_succ (by omega)]
      refine Fin.round (i + 1) ⟨hi', ?_⟩ envA (fun _ h => h) (by omega)
      rw [eqS_bool] at hc
      rw [List.take_add_one, hy]
      simp only [Option.toList_some, List.mem_append, List.mem_singleton, not_or]
      exact ⟨hno, of_decide_eq_false hc⟩
  · have hi' : i = n := by simp at hc; omega
    rw [hi', List.take_of_length_le (by omega)] at hno
    exact Fin.retW (by exact rfl) resA (fun _ h => h) ⟨⟨-1, rfl, .inl ⟨rfl, hno⟩⟩, rfl⟩
end Go.Proofs.YtkelhlffeilakaaGreatDoor
