/- The reassembler in plain Lean: a skip adds no byte to what is held. Condition: TSNs are 32 bits wide and no two pieces have one. -/
import Derived.Test.YtokbkocjddcklaaRmQ
namespace Go.Rm
open Go

theorem totD_le {L L' : List D} (h : L'.Sublist L) : totD L' ≤ totD L := by
  induction h with
  | slnil => exact Nat.le_refl _
  | cons a _ ih => simp [totD] at ih ⊢; omega
  | cons_cons a _ ih => simp [totD] at ih ⊢; omega
def tot (s : S) : Nat := totD s.L + totM s.row
theorem wait_sub (s : S) (st : Int) : (wait s st).L.Sublist s.L := by
  unfold wait
  split
  · exact .refl _
  · exact ready_sub (row := s.row)
theorem wait_tot {s : S} {st : Int} (hg : good s.L) : tot (wait s st) = tot s := by
  unfold wait
  split
  · rfl
  · rename_i f l hc
    obtain ⟨d, hd, hw, _⟩ := cand_mem hc
    exact ready_tot hg hd hw
theorem upto_both : ∀ (n : Nat) (s : S) (st e : Int), good s.L → (upto n s st e).L.Sublist s.L ∧ tot (upto n s st e) = tot s
  | 0, _, _, _, _ => ⟨.refl _, rfl⟩
  | n + 1, s, st, e, hg => by
    rw [upto]
    split
    · exact ⟨.refl _, rfl⟩
    · have hs := wait_sub s st
      obtain ⟨h1, h2⟩ := upto_both n { wait s st with nx := (wait s st).nx.set st.toNat (u16 (s.nx.getD st.toNat 0 + 1)) } st e (hg.sub hs)
      refine ⟨h1.trans hs, h2.trans ?_⟩
      exact wait_tot hg
theorem onN_sub : ∀ (n : Nat) (s : S) (st : Int), (onN n s st).L.Sublist s.L
  | 0, _, _ => .refl _
  | n + 1, s, st => by
    rw [onN]
    split
    · exact .refl _
    · exact (onN_sub n _ st).trans (ready_sub (row := s.row))
theorem skip1_both {s : S} {st to : Int} (hg : good s.L) : (skip1 s st to).L.Sublist s.L ∧ tot (skip1 s st to) ≤ tot s := by
  unfold skip1
  split
  · exact ⟨.refl _, Nat.le_refl _⟩
  · dsimp only
    obtain ⟨h1, h2⟩ := upto_both ((u16 (u16 (to + 1) - s.nx.getD st.toNat 0)).toNat + 1) s st (u16 (to + 1)) hg
    generalize upto ((u16 (u16 (to + 1) - s.nx.getD st.toNat 0)).toNat + 1) s st (u16 (to + 1)) = q at h1 h2
    have hf : (q.L.filter (fun d => !doomS st (q.nx.getD st.toNat 0) d)).Sublist q.L := List.filter_sublist
    refine ⟨(onN_sub _ _ _).trans (hf.trans h1), ?_⟩
    have h3 := on_tot (s := ⟨q.L.filter (fun d => !doomS st (q.nx.getD st.toNat 0) d), q.row, q.nx⟩) (st := st) (hg.sub (hf.trans h1))
    have h4 := totD_le hf
    unfold tot at h2 ⊢
    dsimp only at h3
    omega
theorem skips_both : ∀ (l : List Sk) (s : S), good s.L → (l.foldl (fun s k => skip1 s k.st k.n) s).L.Sublist s.L ∧ tot (l.foldl (fun s k => skip1 s k.st k.n) s) ≤ tot s
  | [], _, _ => ⟨.refl _, Nat.le_refl _⟩
  | k :: l, s, hg => by
    obtain ⟨h1, h2⟩ := skip1_both (s := s) (st := k.st) (to := k.n) hg
    obtain ⟨h3, h4⟩ := skips_both l (skip1 s k.st k.n) (hg.sub h1)
    exact ⟨h3.trans h1, Nat.le_trans h4 h2⟩
theorem skip_tot {s : S} {cum : Int} {l : List Sk} (hg : good s.L) : tot (skip s cum l) ≤ tot s := by
  unfold skip
  split
  · have hf : (s.L.filter (fun d => !doomP s.L cum d)).Sublist s.L := List.filter_sublist
    refine Nat.le_trans (skips_both l (parts s cum) (hg.sub hf)).2 ?_
    have := totD_le hf
    unfold tot parts
    dsimp only
    omega
  · exact Nat.le_refl _
end Go.Rm
