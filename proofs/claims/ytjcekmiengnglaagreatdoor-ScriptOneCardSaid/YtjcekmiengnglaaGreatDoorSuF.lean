/- The law ScriptOne, walked. Conditions: the law's run of works answers true. -/
import Derived.Test.YtjcekmiengnglaaGreatDoorSuE
import Derived.Test.YtjcekmiengnglaaGreatDoorBuD
namespace Go.Proofs.YtjcekmiengnglaaGreatDoor
open Go Go.Sl Go.Scr

/-- the law's run, whatever else is in memory -/
def WorksIs (F : Nat → Option Obj) : Prop := ∀ Hr : HL, (∀ p ∈ Hr, F p.1 = none) → Tr Tryz.prog 6 ([] : List Value).toArray (addF F Hr) [] (fun v _ => v = .bool true)
instance : Body Tryz.prog 8 := ⟨by kernel_rfl⟩
instance : Body Tryz.prog 9 := ⟨by kernel_rfl⟩
instance : Body Tryz.prog 6 := ⟨by kernel_rfl⟩
/-- what a Read answers, as the law looks at it: the error's number, the event in memory -/
structure Re (s : Str) (x : Evx) (er : Int) (h : HL) : Prop where
  rd : (er = 0 ∧ Reads s x.e) ∨ (er = 7 ∧ x.e = evt0 ∧ ∀ e, ¬ Reads s e)
  own : OwnS 5 1 (x.e.bytes.map B) (.slice x.ba x.bn x.bc) h
def ReQ (s : Str) (v : Value) (h : HL) : Prop := ∃ (x : Evx) (er : Int), v = tup [.agg x.cells.toArray, .int .i64 er] ∧ Re s x er h
theorem ReQ.a {s : Str} {v : Value} {h : HL} (q : ReadQ s v h) : ReQ s v h := by
  rcases q with ⟨x, hb, rfl, h1, h2, rfl⟩ | ⟨rfl, h1, rfl⟩
  · exact ⟨x, 0, rfl, .inl ⟨rfl, h1⟩, h2.1⟩
  · exact ⟨evx0, 7, rfl, .inr ⟨rfl, rfl, h1⟩, .inl ⟨rfl, rfl, rfl⟩⟩
theorem ReQ.b {s : Str} {v : Value} {h : HL} (q : RReadQ s v h) : ReQ s v h := by
  rcases q with ⟨x, hb, rfl, h1, h2, h3, rfl⟩ | ⟨rfl, h1, rfl⟩
  · exact ⟨x, 0, rfl, .inl ⟨rfl, h1⟩, h2⟩
  · exact ⟨evx0, 7, rfl, .inr ⟨rfl, rfl, h1⟩, .inl ⟨rfl, rfl, rfl⟩⟩
theorem Re.eq {s : Str} {x y : Evx} {a b : Int} {h k : HL} (p : Re s x a h) (q : Re s y b k) : b = a ∧ x.e = y.e := by
  rcases p.rd with ⟨rfl, h1⟩ | ⟨rfl, h1, h2⟩ <;> rcases q.rd with ⟨rfl, k1⟩ | ⟨rfl, k1, k2⟩
  · exact ⟨rfl, h1.inj k1⟩
  · exact absurd h1 (k2 _)
  · exact absurd k1 (h2 _)
  · exact ⟨rfl, h1.trans k1.symm⟩
theorem Re.is {s : Str} {x : Evx} {a : Int} {h : HL} (p : Re s x a h) (hs : s.length ≤ 100000) {F G : Nat → Option Obj} {H : HL} (hF : ∀ w, In F [] w → In G H w) (hh : h.Sublist H) : x.Is F := by
  have ok0 : evt0.Ok := gz_ok []
  refine ⟨?_, (Lst.own (F := G) (H := H) p.own (fun _ h => h.sublist hh)).mono hF, ?_⟩
  · rcases p.rd with ⟨_, h1⟩ | ⟨_, h1, _⟩
    · exact h1.1
    · rw [h1]; exact ok0
  · rcases p.rd with ⟨_, h1⟩ | ⟨_, h1, _⟩
    · rw [← gz_reads h1]
      obtain ⟨w1, wr, hsp⟩ : ∃ w ws, split 32 s = w :: ws := by
        cases h : split 32 s with
        | nil => exact absurd h (split_ne 32 s)
        | cons w ws => exact ⟨w, ws, rfl⟩
      rw [hsp]
      exact Nat.le_trans (gz_bytes w1 wr s.length (fun w hw => split_mem_len 32 s w (by rw [hsp]; exact List.mem_cons_of_mem _ hw))) (by omega)
    · rw [h1]; exact Nat.zero_le _
set_option maxHeartbeats 16000000 in
theorem one_tr (F : Nat → Option Obj) (hG : Gl F) (hW : WorksIs F) (a b : Str) : Tr Tryz.prog 3 [S a, S b].toArray F [] (fun v H => v = .bool true ∧ H = []) := by
  refine Tr.enter Tryz.func3 rfl Tryz.ntmps3 rfl (fun w0 => ?_)
  unfold S
  repeat' (first | refine S2b ?_ | refine S3 ?_ | refine SA (fun _ => ?_) | refine G1 (fun hc => ?_) (fun hc => ?_) | refine G2 (fun hc => ?_) (fun hc => ?_) | refine G3 (fun hc => ?_) (fun hc => ?_) | refine SL ?_ | fail)
  · skip
    refine WL.e rfl (Ef.callF (by exact rfl) (.nil _) (fun hd => hW _ hd)) ?_
    rintro _ _ ⟨_, rfl, rfl⟩
    repeat' (first | refine S2b ?_ | refine S3 ?_ | refine SA (fun _ => ?_) | refine G1 (fun hc => ?_) (fun hc => ?_) | refine G2 (fun hc => ?_) (fun hc => ?_) | refine G3 (fun hc => ?_) (fun hc => ?_) | refine SL ?_ | fail)
    exact Fin.retW (by exact rfl) resA (H' := []) (fun _ h => h.sublist (List.nil_sublist _)) ⟨rfl, rfl⟩
  · skip
    refine WL.e rfl (Ef.callF (by exact rfl) (.nil _) (fun hd => hW _ hd)) ?_
    rintro _ _ ⟨_, rfl, rfl⟩
    repeat' (first | refine S2b ?_ | refine S3 ?_ | refine SA (fun _ => ?_) | refine G1 (fun hc => ?_) (fun hc => ?_) | refine G2 (fun hc => ?_) (fun hc => ?_) | refine G3 (fun hc => ?_) (fun hc => ?_) | refine SL ?_ | fail)
    exact Fin.retW (by exact rfl) resA (H' := []) (fun _ h => h.sublist (List.nil_sublist _)) ⟨rfl, rfl⟩
  rename_i hc1
  rw [strB_size] at hc1 hc
  have ha : a.length ≤ 4096 := by simp at hc1; omega
  have hb : b.length ≤ 4096 := by simp at hc; omega
  clear hc hc1
  refine WL.e rfl (Ef.callW (c := []) (by exact rfl) (Sub.nil _) (fun F' hF => Tr.mono (read_tr F' (hG.at hF) a (by omega)) (fun _ _ => ReQ.a))) ?_
  rintro _ _ ⟨k1, ⟨x1, er1, rfl, r1⟩, rfl⟩
  repeat' (first | refine S2b ?_ | refine S3 ?_ | refine SA (fun _ => ?_) | refine G1 (fun hc => ?_) (fun hc => ?_) | refine G2 (fun hc => ?_) (fun hc => ?_) | refine G3 (fun hc => ?_) (fun hc => ?_) | refine SL ?_ | fail)
  refine WL.e rfl (Ef.callW (c := []) (by exact rfl) (Sub.nil _) (fun F' hF => Tr.mono (read_tr F' (hG.at hF) b (by omega)) (fun _ _ => ReQ.a))) ?_
  rintro _ _ ⟨k2, ⟨x2, er2, rfl, r2⟩, rfl⟩
  repeat' (first | refine S2b ?_ | refine S3 ?_ | refine SA (fun _ => ?_) | refine G1 (fun hc => ?_) (fun hc => ?_) | refine G2 (fun hc => ?_) (fun hc => ?_) | refine G3 (fun hc => ?_) (fun hc => ?_) | refine SL ?_ | fail)
  refine WL.e rfl (Ef.callW (c := []) (by exact rfl) (Sub.nil _) (fun F' hF => Tr.mono (rread_tr F' a (by omega)) (fun _ _ => ReQ.b))) ?_
  rintro _ _ ⟨k3, ⟨y1, fr1, rfl, q1⟩, rfl⟩
  repeat' (first | refine S2b ?_ | refine S3 ?_ | refine SA (fun _ => ?_) | refine G1 (fun hc => ?_) (fun hc => ?_) | refine G2 (fun hc => ?_) (fun hc => ?_) | refine G3 (fun hc => ?_) (fun hc => ?_) | refine SL ?_ | fail)
  refine WL.e rfl (Ef.callW (c := []) (by exact rfl) (Sub.nil _) (fun F' hF => Tr.mono (rread_tr F' b (by omega)) (fun _ _ => ReQ.b))) ?_
  rintro _ _ ⟨k4, ⟨y2, fr2, rfl, q2⟩, rfl⟩
  obtain ⟨rfl, e1⟩ := r1.eq q1
  obtain ⟨rfl, e2⟩ := r2.eq q2
  have p1 := r1.rd
  have p2 := r2.rd
  rcases p1 with ⟨rfl, h1⟩ | ⟨rfl, _, _⟩
  · rcases p2 with ⟨rfl, h2⟩ | ⟨rfl, _, _⟩
    · skip
      repeat' (first | refine S2b ?_ | refine S3 ?_ | refine SA (fun _ => ?_) | refine G1 (fun hc => ?_) (fun hc => ?_) | refine G2 (fun hc => ?_) (fun hc => ?_) | refine G3 (fun hc => ?_) (fun hc => ?_) | refine SL ?_ | fail)
      refine WL.e rfl (Ef.lookR (by exact rfl) (fun F' hF => rsame_tr F' x1 y1 (r1.is (by omega) hF findA) (q1.is (by omega) hF findA))) ?_
      rintro _ _ ⟨rfl, rfl⟩
      rw [decide_eq_true e1]
      repeat' (first | refine S2b ?_ | refine S3 ?_ | refine SA (fun _ => ?_) | refine G1 (fun hc => ?_) (fun hc => ?_) | refine G2 (fun hc => ?_) (fun hc => ?_) | refine G3 (fun hc => ?_) (fun hc => ?_) | refine SL ?_ | fail)
      refine WL.e rfl (Ef.lookR (by exact rfl) (fun F' hF => rsame_tr F' x2 y2 (r2.is (by omega) hF findA) (q2.is (by omega) hF findA))) ?_
      rintro _ _ ⟨rfl, rfl⟩
      rw [decide_eq_true e2]
      repeat' (first | refine S2b ?_ | refine S3 ?_ | refine SA (fun _ => ?_) | refine G1 (fun hc => ?_) (fun hc => ?_) | refine G2 (fun hc => ?_) (fun hc => ?_) | refine G3 (fun hc => ?_) (fun hc => ?_) | refine SL ?_ | fail)
      refine WL.e rfl (Ef.lookR (by exact rfl) (fun F' hF => rsame_tr F' x1 x2 (r1.is (by omega) hF findA) (r2.is (by omega) hF findA))) ?_
      rintro _ _ ⟨rfl, rfl⟩
      have key : (decide (x1.e = x2.e) == ((strB a).toList == (strB b).toList)) = true := by
        have e : decide (x1.e = x2.e) = decide (a = b) := decide_eq_decide.2 ⟨fun h => by rw [← h1.2.2, ← h2.2.2, h], fun h => by subst h; exact h1.inj h2⟩
        rw [eqS_bool, e]
        simp
      repeat' (first | refine S2b ?_ | refine S3 ?_ | refine SA (fun _ => ?_) | refine G1 (fun hc => ?_) (fun hc => ?_) | refine G2 (fun hc => ?_) (fun hc => ?_) | refine G3 (fun hc => ?_) (fun hc => ?_) | refine SL ?_ | fail)
      any_goals (exfalso; rw [key] at hc; cases hc; done)
      refine WL.e rfl (Ef.callF (by exact rfl) (.nil _) (fun hd => hW _ hd)) ?_
      rintro _ _ ⟨_, rfl, rfl⟩
      repeat' (first | refine S2b ?_ | refine S3 ?_ | refine SA (fun _ => ?_) | refine G1 (fun hc => ?_) (fun hc => ?_) | refine G2 (fun hc => ?_) (fun hc => ?_) | refine G3 (fun hc => ?_) (fun hc => ?_) | refine SL ?_ | fail)
      exact Fin.retW (by exact rfl) resA (H' := []) (fun _ h => h.sublist (List.nil_sublist _)) ⟨rfl, rfl⟩
    · skip
      repeat' (first | refine S2b ?_ | refine S3 ?_ | refine SA (fun _ => ?_) | refine G1 (fun hc => ?_) (fun hc => ?_) | refine G2 (fun hc => ?_) (fun hc => ?_) | refine G3 (fun hc => ?_) (fun hc => ?_) | refine SL ?_ | fail)
      refine WL.e rfl (Ef.lookR (by exact rfl) (fun F' hF => rsame_tr F' x1 y1 (r1.is (by omega) hF findA) (q1.is (by omega) hF findA))) ?_
      rintro _ _ ⟨rfl, rfl⟩
      rw [decide_eq_true e1]
      repeat' (first | refine S2b ?_ | refine S3 ?_ | refine SA (fun _ => ?_) | refine G1 (fun hc => ?_) (fun hc => ?_) | refine G2 (fun hc => ?_) (fun hc => ?_) | refine G3 (fun hc => ?_) (fun hc => ?_) | refine SL ?_ | fail)
      refine WL.e rfl (Ef.lookR (by exact rfl) (fun F' hF => rsame_tr F' x2 y2 (r2.is (by omega) hF findA) (q2.is (by omega) hF findA))) ?_
      rintro _ _ ⟨rfl, rfl⟩
      rw [decide_eq_true e2]
      repeat' (first | refine S2b ?_ | refine S3 ?_ | refine SA (fun _ => ?_) | refine G1 (fun hc => ?_) (fun hc => ?_) | refine G2 (fun hc => ?_) (fun hc => ?_) | refine G3 (fun hc => ?_) (fun hc => ?_) | refine SL ?_ | fail)
      refine WL.e rfl (Ef.callF (by exact rfl) (.nil _) (fun hd => hW _ hd)) ?_
      rintro _ _ ⟨_, rfl, rfl⟩
      repeat' (first | refine S2b ?_ | refine S3 ?_ | refine SA (fun _ => ?_) | refine G1 (fun hc => ?_) (fun hc => ?_) | refine G2 (fun hc => ?_) (fun hc => ?_) | refine G3 (fun hc => ?_) (fun hc => ?_) | refine SL ?_ | fail)
      exact Fin.retW (by exact rfl) resA (H' := []) (fun _ h => h.sublist (List.nil_sublist _)) ⟨rfl, rfl⟩
  · rcases p2 with ⟨rfl, h2⟩ | ⟨rfl, _, _⟩
    · skip
      repeat' (first | refine S2b ?_ | refine S3 ?_ | refine SA (fun _ => ?_) | refine G1 (fun hc => ?_) (fun hc => ?_) | refine G2 (fun hc => ?_) (fun hc => ?_) | refine G3 (fun hc => ?_) (fun hc => ?_) | refine SL ?_ | fail)
      refine WL.e rfl (Ef.lookR (by exact rfl) (fun F' hF => rsame_tr F' x1 y1 (r1.is (by omega) hF findA) (q1.is (by omega) hF findA))) ?_
      rintro _ _ ⟨rfl, rfl⟩
      rw [decide_eq_true e1]
      repeat' (first | refine S2b ?_ | refine S3 ?_ | refine SA (fun _ => ?_) | refine G1 (fun hc => ?_) (fun hc => ?_) | refine G2 (fun hc => ?_) (fun hc => ?_) | refine G3 (fun hc => ?_) (fun hc => ?_) | refine SL ?_ | fail)
      refine WL.e rfl (Ef.lookR (by exact rfl) (fun F' hF => rsame_tr F' x2 y2 (r2.is (by omega) hF findA) (q2.is (by omega) hF findA))) ?_
      rintro _ _ ⟨rfl, rfl⟩
      rw [decide_eq_true e2]
      repeat' (first | refine S2b ?_ | refine S3 ?_ | refine SA (fun _ => ?_) | refine G1 (fun hc => ?_) (fun hc => ?_) | refine G2 (fun hc => ?_) (fun hc => ?_) | refine G3 (fun hc => ?_) (fun hc => ?_) | refine SL ?_ | fail)
      refine WL.e rfl (Ef.callF (by exact rfl) (.nil _) (fun hd => hW _ hd)) ?_
      rintro _ _ ⟨_, rfl, rfl⟩
      repeat' (first | refine S2b ?_ | refine S3 ?_ | refine SA (fun _ => ?_) | refine G1 (fun hc => ?_) (fun hc => ?_) | refine G2 (fun hc => ?_) (fun hc => ?_) | refine G3 (fun hc => ?_) (fun hc => ?_) | refine SL ?_ | fail)
      exact Fin.retW (by exact rfl) resA (H' := []) (fun _ h => h.sublist (List.nil_sublist _)) ⟨rfl, rfl⟩
    · skip
      repeat' (first | refine S2b ?_ | refine S3 ?_ | refine SA (fun _ => ?_) | refine G1 (fun hc => ?_) (fun hc => ?_) | refine G2 (fun hc => ?_) (fun hc => ?_) | refine G3 (fun hc => ?_) (fun hc => ?_) | refine SL ?_ | fail)
      refine WL.e rfl (Ef.lookR (by exact rfl) (fun F' hF => rsame_tr F' x1 y1 (r1.is (by omega) hF findA) (q1.is (by omega) hF findA))) ?_
      rintro _ _ ⟨rfl, rfl⟩
      rw [decide_eq_true e1]
      repeat' (first | refine S2b ?_ | refine S3 ?_ | refine SA (fun _ => ?_) | refine G1 (fun hc => ?_) (fun hc => ?_) | refine G2 (fun hc => ?_) (fun hc => ?_) | refine G3 (fun hc => ?_) (fun hc => ?_) | refine SL ?_ | fail)
      refine WL.e rfl (Ef.lookR (by exact rfl) (fun F' hF => rsame_tr F' x2 y2 (r2.is (by omega) hF findA) (q2.is (by omega) hF findA))) ?_
      rintro _ _ ⟨rfl, rfl⟩
      rw [decide_eq_true e2]
      repeat' (first | refine S2b ?_ | refine S3 ?_ | refine SA (fun _ => ?_) | refine G1 (fun hc => ?_) (fun hc => ?_) | refine G2 (fun hc => ?_) (fun hc => ?_) | refine G3 (fun hc => ?_) (fun hc => ?_) | refine SL ?_ | fail)
      refine WL.e rfl (Ef.callF (by exact rfl) (.nil _) (fun hd => hW _ hd)) ?_
      rintro _ _ ⟨_, rfl, rfl⟩
      repeat' (first | refine S2b ?_ | refine S3 ?_ | refine SA (fun _ => ?_) | refine G1 (fun hc => ?_) (fun hc => ?_) | refine G2 (fun hc => ?_) (fun hc => ?_) | refine G3 (fun hc => ?_) (fun hc => ?_) | refine SL ?_ | fail)
      exact Fin.retW (by exact rfl) resA (H' := []) (fun _ h => h.sublist (List.nil_sublist _)) ⟨rfl, rfl⟩
end Go.Proofs.YtjcekmiengnglaaGreatDoor
