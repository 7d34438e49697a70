/- The document's Read, walked. Conditions: lengths within bounds. -/
import Derived.Test.YtjcekmiengnglaaGreatDoorSuD
import Derived.Test.YtjcekmiengnglaaGreatDoorStX
namespace Go.Proofs.YtjcekmiengnglaaGreatDoor
open Go Go.Sl Go.Scr

instance : Body Tryz.prog 28 := ⟨by kernel_rfl⟩
instance : Body Tryz.prog 18 := ⟨by kernel_rfl⟩
def RReadQ (s : Str) (v : Value) (H' : HL) : Prop := (∃ (x : Evx) (hb : HL), v = tup [.agg x.cells.toArray, .int .i64 0] ∧ Reads s x.e ∧ OwnS 5 1 (x.e.bytes.map B) (.slice x.ba x.bn x.bc) hb ∧ x.e.bytes.length ≤ 100000000000 ∧ H' = hb) ∨ (v = tup [.agg evx0.cells.toArray, .int .i64 7] ∧ (∀ e, ¬ Reads s e) ∧ H' = [])
theorem unhexs_le : ∀ (w : Str), (unhexs w).length ≤ w.length
  | a :: b :: s => by
    have := unhexs_le s
    simp only [unhexs, List.length_cons]
    omega
  | [] => by simp [unhexs]
  | [_] => by simp [unhexs]
theorem gz_bytes (w1 : Str) (wr : List Str) (m : Nat) (h : ∀ w ∈ wr, w.length ≤ m) : (gz (w1 :: wr)).bytes.length ≤ m := by
  rw [gz_cons]
  split
  · have key : ∀ (l : List (Scr.Fd × Str)) (o : Evt), (∀ p ∈ l, p.2.length ≤ m) → o.bytes.length ≤ m → (l.foldl (fun o p => o.set p.1 (gv p.1 p.2)) o).bytes.length ≤ m := by
      intro l
      induction l with
      | nil => intro o _ h; exact h
      | cons p l ih =>
        intro o hl ho
        refine ih _ (fun q hq => hl q (List.mem_cons_of_mem _ hq)) ?_
        have hp := hl p (List.mem_cons_self ..)
        obtain ⟨f, w⟩ := p
        cases f <;> simp only [gv, Evt.set] <;> first | exact ho | exact Nat.le_trans (unhexs_le w) hp
    exact key _ { evt0 with kind := kindZ w1 } (fun p hp => h _ (List.of_mem_zip hp).2) (Nat.zero_le _)
  · exact Nat.zero_le _
set_option maxHeartbeats 8000000 in
theorem rread_tr (F : Nat → Option Obj) (s : Str) (hs : s.length ≤ 100000000) : Tr Tryz.prog 8 [S s].toArray F [] (RReadQ s) := by
  refine Tr.enter Tryz.func8 rfl Tryz.ntmps8 rfl (fun w0 => ?_)
  have hsl := split_len 32 s
  have hsm := split_mem_len 32 s
  obtain ⟨w1, wr, hsp⟩ : ∃ w ws, split 32 s = w :: ws := by
    cases h : split 32 s with
    | nil => exact absurd h (split_ne 32 s)
    | cons w ws => exact ⟨w, ws, rfl⟩
  unfold S
  repeat' (first | refine S2b ?_ | refine S3 ?_ | refine SA (fun _ => ?_) | refine G1 (fun hc => ?_) (fun hc => ?_) | refine G2 (fun hc => ?_) (fun hc => ?_) | refine G3 (fun hc => ?_) (fun hc => ?_) | refine SL ?_ | fail)
  refine WL.e rfl (Ef.callW (c := []) (by exact rfl) (Sub.nil _) (fun F' hF => rsplit_tr F' s 32 (by omega))) ?_
  rintro _ _ ⟨hb, ⟨sa, sn, sc, rfl, hown⟩, rfl⟩
  rw [hsp] at hown
  repeat' (first | refine S2b ?_ | refine S3 ?_ | refine SA (fun _ => ?_) | refine G1 (fun hc => ?_) (fun hc => ?_) | refine G2 (fun hc => ?_) (fun hc => ?_) | refine G3 (fun hc => ?_) (fun hc => ?_) | refine SL ?_ | fail)
  refine WL.e rfl (Ef.callW (c := []) (by exact rfl) (Sub.nil _) (fun F' hF => guess_tr F' w1 wr sa sn sc ((Lst.own (F := F) (H := hb) hown (fun _ h => h)).mono (fun w h => (hF w h).sublist (by simp))) (fun w hw => Nat.le_trans (hsm w (by rw [hsp]; exact hw)) (by omega)))) ?_
  rintro _ _ ⟨hh, ⟨x, _, rfl, he, hxo, rfl⟩, rfl⟩
  rw [← hsp] at he
  have hok : x.e.Ok := by rw [he]; exact gz_ok _
  have hlb : x.e.bytes.length ≤ 100000000000 := by
    rw [he, hsp]
    exact Nat.le_trans (gz_bytes w1 wr s.length (fun w hw => hsm w (by rw [hsp]; exact List.mem_cons_of_mem _ hw))) (by omega)
  repeat' (first | refine S2b ?_ | refine S3 ?_ | refine SA (fun _ => ?_) | refine G1 (fun hc => ?_) (fun hc => ?_) | refine G2 (fun hc => ?_) (fun hc => ?_) | refine G3 (fun hc => ?_) (fun hc => ?_) | refine SL ?_ | fail)
  refine WL.e rfl (Ef.callW (c := []) (by exact rfl) (Sub.nil _) (fun F' hF => rform_tr F' x ⟨hok, (Lst.own (F := F) (H := hh) hxo (fun _ h => h)).mono (fun w h => (hF w h).sublist (by simp)), Nat.le_trans hlb (by decide)⟩ hlb)) ?_
  rintro v _ ⟨_, ⟨h1, h2, rfl⟩, rfl⟩
  by_cases hf : x.e.Form
  · obtain rfl := h1 hf
    clear h1 h2
    unfold S
    repeat' (first | refine S2b ?_ | refine S3 ?_ | refine SA (fun _ => ?_) | refine G1 (fun hc => ?_) (fun hc => ?_) | refine G2 (fun hc => ?_) (fun hc => ?_) | refine G3 (fun hc => ?_) (fun hc => ?_) | refine SL ?_ | fail)
    · rw [eqS_bool] at hc
      have hne : x.e.line ≠ s := by simpa using hc
      exact Fin.retW (by exact rfl) resA (H' := []) (fun _ h => h.sublist (List.nil_sublist _)) (.inr ⟨rfl, fun e h => hne (by rw [he, gz_reads h]; exact h.2.2), rfl⟩)
    · rw [eqS_bool] at hc
      have hl : x.e.line = s := by simpa using hc
      exact Fin.retW (by exact rfl) resA (H' := hh) (fun _ h => h.sublist (by simp)) (.inl ⟨x, hh, rfl, ⟨hok, hf, hl⟩, hxo, hlb, rfl⟩)
  · obtain rfl := h2 hf
    clear h1 h2
    repeat' (first | refine S2b ?_ | refine S3 ?_ | refine SA (fun _ => ?_) | refine G1 (fun hc => ?_) (fun hc => ?_) | refine G2 (fun hc => ?_) (fun hc => ?_) | refine G3 (fun hc => ?_) (fun hc => ?_) | refine SL ?_ | fail)
    exact Fin.retW (by exact rfl) resA (H' := []) (fun _ h => h.sublist (List.nil_sublist _)) (.inr ⟨rfl, fun e h => hf (by rw [he, gz_reads h]; exact h.2.1), rfl⟩)
end Go.Proofs.YtjcekmiengnglaaGreatDoor
