/- Some texts as one. A config's line, and an event's line, walked. Conditions: what is read lies in memory; lengths within bounds. An event without the fields of its kind, walked. No conditions but what the event is in memory. An event's line, walked. Conditions: the event lies in memory; lengths within bounds. -/
import Derived.Test.YtjcekmiengnglaaGreatDoorStJ
namespace Go.Proofs.YtjcekmiengnglaaGreatDoor
open Go Go.Sl Go.Scr

theorem zero_tr (F : Nat → Option Obj) (x : Evx) : Tr Tryz.prog 38 [.agg x.cells.toArray].toArray F [] (fun v H' => v = .bool (decide (x.e.fin = 0 ∧ x.e.act = false ∧ x.e.ord = false ∧ x.e.str = 0 ∧ x.e.path = 0 ∧ x.e.n = 0 ∧ x.e.life = 0 ∧ x.bn = 0)) ∧ H' = []) := by
  refine Tr.enter Tryz.func38 rfl Tryz.ntmps38 rfl (fun w0 => ?_)
  obtain ⟨⟨kind, fin, act, ord, str, path, n, life, bytes⟩, ba, bn, bc⟩ := x
  unfold Evx.cells
  dsimp only
  repeat' (first | refine S2b ?_ | refine S3 ?_ | refine SA (fun _ => ?_) | refine G1 (fun hc => ?_) (fun hc => ?_) | refine G2 (fun hc => ?_) (fun hc => ?_) | refine G3 (fun hc => ?_) (fun hc => ?_) | refine SL ?_ | fail)
  all_goals
    refine Fin.retW (by exact rfl) resA (H' := []) (fun _ h => h.sublist (List.nil_sublist _)) ⟨?_, rfl⟩
    refine congrArg Value.bool ?_
    simp_all
  all_goals
    rw [Bool.eq_iff_iff]
    simp
end Go.Proofs.YtjcekmiengnglaaGreatDoor
namespace Go.Proofs.YtjcekmiengnglaaGreatDoor
open Go Go.Sl Go.Scr

structure BrG where
  i : Nat
  x : Evx
set_option maxHeartbeats 8000000 in
theorem bare_tr (F : Nat → Option Obj) (x : Evx) (hx : x.bn = x.e.bytes.length) : Tr Tryz.prog 39 [.agg x.cells.toArray].toArray F [] (fun v H' => ∃ y : Evx, v = .agg y.cells.toArray ∧ y.e = x.e.bare ∧ y.bn = y.e.bytes.length ∧ H' = []) := by
  refine Tr.enter Tryz.func39 rfl Tryz.ntmps39 rfl (fun w0 => ?_)
  repeat' (first | refine S2b ?_ | refine S3 ?_ | refine SA (fun _ => ?_) | refine G1 (fun hc => ?_) (fun hc => ?_) | refine G2 (fun hc => ?_) (fun hc => ?_) | refine G3 (fun hc => ?_) (fun hc => ?_) | refine SL ?_ | fail)
  rename_i b1 b2
  refine WL.e rfl (Ef.callW (c := [(b1, .cells x.cells.toArray 26 (0, 0))]) (by exact rfl) subA (fun F' hF => fields_tr F' x b1)) ?_
  rintro _ _ ⟨_, ⟨ga, gn, gc, hg, rfl, hgo, rfl⟩, rfl⟩
  have hp := Lst.own (F := F) (H := hg) hgo (fun _ h => h)
  have hgn : gn = (fds x.e.kind).length := by have := hp.len; simp at this; omega
  have h5 := fds_len x.e.kind
  repeat' (first | refine S2b ?_ | refine S3 ?_ | refine SA (fun _ => ?_) | refine G1 (fun hc => ?_) (fun hc => ?_) | refine G2 (fun hc => ?_) (fun hc => ?_) | refine G3 (fun hc => ?_) (fun hc => ?_) | refine SL ?_ | fail)
  refine W.loop (G := BrG) (fun g => [(1, .pointer (some ⟨b1, 0, none⟩)), (2, .pointer (some ⟨b2, 0, none⟩)), (11, .slice ga gn gc), (12, .int .i64 gn), (13, .int .i64 g.i)]) (fun g => (b1, .cells g.x.cells.toArray 26 (0, 0)) :: (hg ++ [(b2, .cells ([.int .u8 0, .int .u8 0, .bool false, .bool false, .int .u16 0, .int .i64 0, .int .i64 0, .int .i64 0, .slice none 0 0] : List Value).toArray 26 (0, 0))]))
    (fun g => g.i ≤ gn ∧ g.x.e = ((fds x.e.kind).take g.i).foldl (fun o f => o.set f f.zero) x.e ∧ g.x.bn = g.x.e.bytes.length) (fun g => gn - g.i) ⟨0, x⟩ ⟨Nat.zero_le _, rfl, hx⟩ envA (fun _ h => by rw [List.append_assoc] at h; exact In.perm (List.perm_append_comm_assoc _ _ _) h) ?_
  rintro ⟨i, y⟩ ⟨hi, he, hyb⟩
  dsimp only at hi he hyb ⊢
  repeat' (first | refine S2b ?_ | refine S3 ?_ | refine SA (fun _ => ?_) | refine G1 (fun hc => ?_) (fun hc => ?_) | refine G2 (fun hc => ?_) (fun hc => ?_) | refine G3 (fun hc => ?_) (fun hc => ?_) | refine SL ?_ | fail)
  · have hi' : i < gn := by simp at hc; omega
    obtain ⟨f, hf⟩ : ∃ f, (fds x.e.kind)[i]? = some f := ⟨(fds x.e.kind)[i]'(by omega), by simp⟩
    obtain ⟨b3, o3, rfl, hcan⟩ := hp.can (by omega)
    have hia : 0 ≤ (i : Int) ∧ (i : Int) < gn := by omega
    have hC : Sl.Can F hg b3 (o3 + (i : Int).toNat * 1) [flp b1 (fl f)] := by
      simpa using hcan.one (i := i) (v := flp b1 (fl f)) (by rw [List.getElem?_map, List.getElem?_map, hf]; rfl)
    have hC2 : ∀ q, Sl.Can F ((b1, q) :: (hg ++ [(b2, .cells ([.int .u8 0, .int .u8 0, .bool false, .bool false, .int .u16 0, .int .i64 0, .int .i64 0, .int .i64 0, .slice none 0 0] : List Value).toArray 26 (0, 0))])) b3 (o3 + (i : Int).toNat * 1) [flp b1 (fl f)] := fun q => hC.mono (fun w h => h.sublist (by simp))
    have hfold : ((fds x.e.kind).take (i + 1)).foldl (fun o f => o.set f f.zero) x.e = y.e.set f f.zero := by
      rw [List.take_add_one, hf, List.foldl_append, ← he]
      rfl
    obtain ⟨⟨kind, fin, act, ord, str, path, n, life, bytes⟩, ba, bn, bc⟩ := y
    unfold Evx.cells
    have hC3 := hC2 (.cells (Evx.cells ⟨⟨kind, fin, act, ord, str, path, n, life, bytes⟩, ba, bn, bc⟩).toArray 26 (0, 0))
    unfold Evx.cells at hC3
    dsimp only at hfold hyb hC3 ⊢
    cases f
    · repeat' (first | refine S2b ?_ | refine S3 ?_ | refine SA (fun _ => ?_) | refine G1 (fun hc => ?_) (fun hc => ?_) | refine G2 (fun hc => ?_) (fun hc => ?_) | refine G3 (fun hc => ?_) (fun hc => ?_) | refine SL ?_ | fail)
      rw [i64_succ (by omega)]
      exact Fin.round ⟨i + 1, ⟨⟨kind, 0, act, ord, str, path, n, life, bytes⟩, ba, bn, bc⟩⟩ ⟨hi', hfold.symm, hyb⟩ envA (fun _ h => h) (by dsimp only; omega)
    · repeat' (first | refine S2b ?_ | refine S3 ?_ | refine SA (fun _ => ?_) | refine G1 (fun hc => ?_) (fun hc => ?_) | refine G2 (fun hc => ?_) (fun hc => ?_) | refine G3 (fun hc => ?_) (fun hc => ?_) | refine SL ?_ | fail)
      rw [i64_succ (by omega)]
      exact Fin.round ⟨i + 1, ⟨⟨kind, fin, false, ord, str, path, n, life, bytes⟩, ba, bn, bc⟩⟩ ⟨hi', hfold.symm, hyb⟩ envA (fun _ h => h) (by dsimp only; omega)
    · repeat' (first | refine S2b ?_ | refine S3 ?_ | refine SA (fun _ => ?_) | refine G1 (fun hc => ?_) (fun hc => ?_) | refine G2 (fun hc => ?_) (fun hc => ?_) | refine G3 (fun hc => ?_) (fun hc => ?_) | refine SL ?_ | fail)
      rw [i64_succ (by omega)]
      exact Fin.round ⟨i + 1, ⟨⟨kind, fin, act, false, str, path, n, life, bytes⟩, ba, bn, bc⟩⟩ ⟨hi', hfold.symm, hyb⟩ envA (fun _ h => h) (by dsimp only; omega)
    · repeat' (first | refine S2b ?_ | refine S3 ?_ | refine SA (fun _ => ?_) | refine G1 (fun hc => ?_) (fun hc => ?_) | refine G2 (fun hc => ?_) (fun hc => ?_) | refine G3 (fun hc => ?_) (fun hc => ?_) | refine SL ?_ | fail)
      rw [i64_succ (by omega)]
      exact Fin.round ⟨i + 1, ⟨⟨kind, fin, act, ord, 0, path, n, life, bytes⟩, ba, bn, bc⟩⟩ ⟨hi', hfold.symm, hyb⟩ envA (fun _ h => h) (by dsimp only; omega)
    · repeat' (first | refine S2b ?_ | refine S3 ?_ | refine SA (fun _ => ?_) | refine G1 (fun hc => ?_) (fun hc => ?_) | refine G2 (fun hc => ?_) (fun hc => ?_) | refine G3 (fun hc => ?_) (fun hc => ?_) | refine SL ?_ | fail)
      rw [i64_succ (by omega)]
      exact Fin.round ⟨i + 1, ⟨⟨kind, fin, act, ord, str, 0, n, life, bytes⟩, ba, bn, bc⟩⟩ ⟨hi', hfold.symm, hyb⟩ envA (fun _ h => h) (by dsimp only; omega)
    · repeat' (first | refine S2b ?_ | refine S3 ?_ | refine SA (fun _ => ?_) | refine G1 (fun hc => ?_) (fun hc => ?_) | refine G2 (fun hc => ?_) (fun hc => ?_) | refine G3 (fun hc => ?_) (fun hc => ?_) | refine SL ?_ | fail)
      rw [i64_succ (by omega)]
      exact Fin.round ⟨i + 1, ⟨⟨kind, fin, act, ord, str, path, 0, life, bytes⟩, ba, bn, bc⟩⟩ ⟨hi', hfold.symm, hyb⟩ envA (fun _ h => h) (by dsimp only; omega)
    · repeat' (first | refine S2b ?_ | refine S3 ?_ | refine SA (fun _ => ?_) | refine G1 (fun hc => ?_) (fun hc => ?_) | refine G2 (fun hc => ?_) (fun hc => ?_) | refine G3 (fun hc => ?_) (fun hc => ?_) | refine SL ?_ | fail)
      rw [i64_succ (by omega)]
      exact Fin.round ⟨i + 1, ⟨⟨kind, fin, act, ord, str, path, n, 0, bytes⟩, ba, bn, bc⟩⟩ ⟨hi', hfold.symm, hyb⟩ envA (fun _ h => h) (by dsimp only; omega)
    · repeat' (first | refine S2b ?_ | refine S3 ?_ | refine SA (fun _ => ?_) | refine G1 (fun hc => ?_) (fun hc => ?_) | refine G2 (fun hc => ?_) (fun hc => ?_) | refine G3 (fun hc => ?_) (fun hc => ?_) | refine SL ?_ | fail)
      rw [i64_succ (by omega)]
      exact Fin.round ⟨i + 1, ⟨⟨kind, fin, act, ord, str, path, n, life, []⟩, none, 0, 0⟩⟩ ⟨hi', hfold.symm, rfl⟩ envA (fun _ h => h) (by dsimp only; omega)
  · have hi' : i = gn := by simp at hc; omega
    rw [hi', List.take_of_length_le (by omega)] at he
    obtain ⟨⟨kind, fin, act, ord, str, path, n, life, bytes⟩, ba, bn, bc⟩ := y
    unfold Evx.cells
    repeat' (first | refine S2b ?_ | refine S3 ?_ | refine SA (fun _ => ?_) | refine G1 (fun hc => ?_) (fun hc => ?_) | refine G2 (fun hc => ?_) (fun hc => ?_) | refine G3 (fun hc => ?_) (fun hc => ?_) | refine SL ?_ | fail)
    exact Fin.retW (by exact rfl) resA (H' := []) (fun _ h => h.sublist (List.nil_sublist _)) ⟨⟨⟨kind, fin, act, ord, str, path, n, life, bytes⟩, ba, bn, bc⟩, rfl, he, hyb, rfl⟩
end Go.Proofs.YtjcekmiengnglaaGreatDoor
namespace Go.Proofs.YtjcekmiengnglaaGreatDoor
open Go Go.Sl Go.Scr

theorem bare_kind (e : Evt) : e.bare.kind = e.kind := by
  unfold Evt.bare
  have hk : ∀ (l : List Scr.Fd) (o : Evt), (l.foldl (fun o f => o.set f f.zero) o).kind = o.kind := by
    intro l
    induction l with
    | nil => intro o; rfl
    | cons f l ih => intro o; rw [List.foldl_cons, ih, set_kind]
  exact hk _ _
theorem bare_zero {e y : Evt} (hy : y = e.bare) (bn : Nat) (hb : bn = y.bytes.length) : (y.fin = 0 ∧ y.act = false ∧ y.ord = false ∧ y.str = 0 ∧ y.path = 0 ∧ y.n = 0 ∧ y.life = 0 ∧ bn = 0) ↔ e.only = e := by
  rw [only_iff_bare, ← hy]
  have hk : y.kind = e.kind := by rw [hy, bare_kind]
  obtain ⟨kind, fin, act, ord, str, path, n, life, bytes⟩ := y
  dsimp only at hk hb ⊢
  simp only [evt0, Evt.mk.injEq]
  constructor
  · rintro ⟨h1, h2, h3, h4, h5, h6, h7, h8⟩
    exact ⟨hk, h1, h2, h3, h4, h5, h6, h7, List.eq_nil_of_length_eq_zero (by omega)⟩
  · rintro ⟨_, h1, h2, h3, h4, h5, h6, h7, h8⟩
    exact ⟨h1, h2, h3, h4, h5, h6, h7, by rw [hb, h8]; rfl⟩
/-- an event's field, as it lies in memory -/
def Evx.cell (x : Evx) : Scr.Fd → Value
  | .fin => .int .u8 x.e.fin
  | .act => .bool x.e.act
  | .ord => .bool x.e.ord
  | .str => .int .u16 x.e.str
  | .path => .int .i64 x.e.path
  | .n => .int .i64 x.e.n
  | .life => .int .i64 x.e.life
  | .bytes => .slice x.ba x.bn x.bc
def Evx.fp (x : Evx) (b : Nat) (f : Scr.Fd) : Fp := ⟨(fl f).1, b, (fl f).2, x.e.get f, x.cell f⟩
theorem fp_ptr (x : Evx) (b : Nat) (l : List Scr.Fd) : (l.map (x.fp b)).map Fp.ptr = (l.map fl).map (flp b) := by
  rw [List.map_map, List.map_map]
  exact List.map_congr_left fun f _ => rfl
theorem fp_is {F : Nat → Option Obj} {H : HL} {x : Evx} (h : x.Is F) {b : Nat} (hc : Sl.Can F H b 0 x.cells) (l : List Scr.Fd) : ∀ p ∈ l.map (x.fp b), p.Is F H := by
  have one : ∀ (i : Nat) (v : Value), x.cells[i]? = some v → Sl.Can F H b i [v] := fun i v hv => by have := hc.one hv; simpa using this
  intro p hp
  obtain ⟨f, _, rfl⟩ := List.mem_map.1 hp
  cases f
  · exact ⟨one 1 _ rfl, .u8 h.ok.fin⟩
  · exact ⟨one 2 _ rfl, .bool _⟩
  · exact ⟨one 3 _ rfl, .bool _⟩
  · exact ⟨one 4 _ rfl, .u16 h.ok.str⟩
  · exact ⟨one 5 _ rfl, .int h.ok.path⟩
  · exact ⟨one 6 _ rfl, .int h.ok.n⟩
  · exact ⟨one 7 _ rfl, .i64 h.ok.life⟩
  · exact ⟨one 8 _ rfl, .oct (h.bytes.mono (fun _ h => h.sublist (List.nil_sublist _))) h.len⟩
theorem sub3 {α : Type} (l : List α) (a b : α) : [a, b].Sublist (l ++ [a] ++ [b]) := (List.sublist_append_right l [a]).append (.refl [b])
set_option maxHeartbeats 8000000 in
theorem form_tr (F : Nat → Option Obj) (hG : Gl F) (x : Evx) (hx : x.Is F) : Tr Tryz.prog 17 [.agg x.cells.toArray].toArray F [] (fun v H' => (x.e.Form → v = tup [S x.e.line, .int .i64 0]) ∧ (¬ x.e.Form → v = tup [S [], .int .i64 1]) ∧ H' = []) := by
  refine Tr.enter Tryz.func17 rfl Tryz.ntmps17 rfl (fun w0 => ?_)
  have hbn := hx.bn
  have hbz := fun (y : Evt) hy => bare_zero (e := x.e) (y := y) hy
  obtain ⟨⟨kind, fin, act, ord, str, path, n, life, bytes⟩, ba, bn, bc⟩ := x
  have hk0 : 0 ≤ kind ∧ kind < 256 := hx.ok.kind
  unfold Evx.cells
  dsimp only at hbn hbz ⊢
  repeat' (first | refine S2b ?_ | refine S3 ?_ | refine SA (fun _ => ?_) | refine G1 (fun hc => ?_) (fun hc => ?_) | refine G2 (fun hc => ?_) (fun hc => ?_) | refine G3 (fun hc => ?_) (fun hc => ?_) | refine SL ?_ | fail)
  rename_i b1
  refine WL.e rfl (Ef.callW (c := []) (by exact rfl) (Sub.nil _) (fun F' hF => words_tr F' [])) ?_
  rintro _ _ ⟨_, ⟨b2, rfl, rfl⟩, rfl⟩
  repeat' (first | refine S2b ?_ | refine S3 ?_ | refine SA (fun _ => ?_) | refine G1 (fun hc => ?_) (fun hc => ?_) | refine G2 (fun hc => ?_) (fun hc => ?_) | refine G3 (fun hc => ?_) (fun hc => ?_) | refine SL ?_ | fail)
  · have e0 : kind = 0 := by simpa using hc
    exact Fin.retW (by exact rfl) resA (H' := []) (fun _ h => h.sublist (List.nil_sublist _)) ⟨fun h => absurd h.1 (by dsimp only; omega), fun _ => rfl, rfl⟩
  · rw [i64_id (by omega) (by omega)] at hc
    exact Fin.retW (by exact rfl) resA (H' := []) (fun _ h => h.sublist (List.nil_sublist _)) ⟨fun h => absurd h.2.1 (by simp at hc; dsimp only; omega), fun _ => rfl, rfl⟩
  rw [i64_id (by omega) (by omega)] at hc
  rename_i hc0
  have hk1 : 1 ≤ kind ∧ kind ≤ 11 := by
    have : kind ≠ 0 := by simpa using hc0
    simp at hc
    omega
  refine WL.e rfl (Ef.callW (c := []) (by exact rfl) (Sub.nil _) (fun F' hF => bare_tr F' ⟨⟨kind, fin, act, ord, str, path, n, life, bytes⟩, ba, bn, bc⟩ hbn)) ?_
  rintro _ _ ⟨_, ⟨y, rfl, hy, hyb, rfl⟩, rfl⟩
  have hz := hbz y.e hy y.bn hyb
  repeat' (first | refine S2b ?_ | refine S3 ?_ | refine SA (fun _ => ?_) | refine G1 (fun hc => ?_) (fun hc => ?_) | refine G2 (fun hc => ?_) (fun hc => ?_) | refine G3 (fun hc => ?_) (fun hc => ?_) | refine SL ?_ | fail)
  refine WL.e rfl (Ef.callW (c := []) (by exact rfl) (Sub.nil _) (fun F' hF => zero_tr F' y)) ?_
  rintro _ _ ⟨_, ⟨rfl, rfl⟩, rfl⟩
  repeat' (first | refine S2b ?_ | refine S3 ?_ | refine SA (fun _ => ?_) | refine G1 (fun hc => ?_) (fun hc => ?_) | refine G2 (fun hc => ?_) (fun hc => ?_) | refine G3 (fun hc => ?_) (fun hc => ?_) | refine SL ?_ | fail)
  · exact Fin.retW (by exact rfl) resA (H' := []) (fun _ h => h.sublist (List.nil_sublist _)) ⟨fun h => (by rw [decide_eq_true (hz.2 h.2.2)] at hc; cases hc), fun _ => rfl, rfl⟩
  have hf : Evt.Form ⟨kind, fin, act, ord, str, path, n, life, bytes⟩ := ⟨hk1.1, hk1.2, hz.1 (by simpa using hc)⟩
  clear hc
  have hia : 0 ≤ kind ∧ kind < (12 : Nat) := by omega
  have hkw : (kwords.map S)[kind.toNat]? = some (S (kword kind)) := by
    rcases kind_cases hk1.1 hk1.2 with e | e | e | e | e | e | e | e | e | e | e <;> subst e <;> rfl
  have hC : Sl.Can F [(b2, .cells (kwords.map S).toArray 9 (0, 0))] b2 (0 + kind.toNat * 1) [S (kword kind)] := can_own (.head _) (by simpa using hkw)
  refine W.drawA ?_
  repeat' (first | refine S2b ?_ | refine S3 ?_ | refine SA (fun _ => ?_) | refine G1 (fun hc => ?_) (fun hc => ?_) | refine G2 (fun hc => ?_) (fun hc => ?_) | refine G3 (fun hc => ?_) (fun hc => ?_) | refine SL ?_ | fail)
  have hok := hx.ok
  have hby := hx.bytes
  have hbl := hx.len
  dsimp only at hby hbl
  refine WD.e rfl (Ef.callW (c := [(b1, .cells (Evx.cells ⟨⟨kind, fin, act, ord, str, path, n, life, bytes⟩, ba, bn, bc⟩).toArray 26 (0, 0))]) (by exact rfl) subA (fun F' hF => fields_tr F' ⟨⟨kind, fin, act, ord, str, path, n, life, bytes⟩, ba, bn, bc⟩ b1)) ?_
  rintro _ _ ⟨_, ⟨ga, gn, gc, hg, rfl, hgo, rfl⟩, rfl⟩
  refine ⟨.inr (fun _ h => In.perm (List.Perm.swap _ _ []) (h.sublist (sub3 _ _ _))), ?_⟩
  have hkl : (kword kind).length ≤ 1000 := by
    rcases kind_cases hk1.1 hk1.2 with e | e | e | e | e | e | e | e | e | e | e <;> subst e <;> decide
  have hfl := fds_len kind
  repeat' (first | refine S2b ?_ | refine S3 ?_ | refine SA (fun _ => ?_) | refine G1 (fun hc => ?_) (fun hc => ?_) | refine G2 (fun hc => ?_) (fun hc => ?_) | refine G3 (fun hc => ?_) (fun hc => ?_) | refine SL ?_ | fail)
  refine WD.e rfl (Ef.lookR (by exact rfl) (fun F' hF => line_tr F' [] (hG.at hF) (kword kind) ((fds kind).map (Evx.fp ⟨⟨kind, fin, act, ord, str, path, n, life, bytes⟩, ba, bn, bc⟩ b1)) ga gn gc (by rw [fp_ptr]; exact (Lst.own (F := F) (H := hg) hgo (fun _ h => h)).mono (fun w h => (hF w h).sublist (by simp))) (fp_is (hx.mono (fun w h => (hF w h).sublist (List.nil_sublist _))) (fun w hi => Can.cut (F := F) (n := 9) (.here rfl) w ((hF w hi).sublist (sub3 _ _ _))) _) hkl (by rw [List.length_map]; omega))) ?_
  rintro _ _ ⟨rfl, rfl⟩
  refine ⟨.inl (by kernel_rfl), ?_⟩
  repeat' (first | refine S2b ?_ | refine S3 ?_ | refine SA (fun _ => ?_) | refine G1 (fun hc => ?_) (fun hc => ?_) | refine G2 (fun hc => ?_) (fun hc => ?_) | refine G3 (fun hc => ?_) (fun hc => ?_) | refine SL ?_ | fail)
  exact Fin.retW (by exact rfl) resA (H' := []) (fun _ h => h.sublist (List.nil_sublist _)) ⟨fun _ => (by rw [List.map_map]; rfl), fun h => absurd hf h, rfl⟩
end Go.Proofs.YtjcekmiengnglaaGreatDoor
