/- The reassembler's methods once more, each over all that it owns. No conditions but that it stands as it should. -/
import Derived.Test.YthjglhdjlmjffaaGreatBc
import Derived.Test.YthjglhdjlmjffaaGreatRmJ
namespace Go.Proofs.YthjglhdjlmjffaaGreat
open Go Go.Sl Go.Rm

theorem heldA (F : Nat → Option Obj) (s : RM) : Tr Tryz.prog 44 [.pointer (some ⟨s.R, 0, none⟩)].toArray F s.H (fun v H => v = .int .i64 s.held ∧ H = s.H) :=
  (Tr.more (held_tr _ s)).mono fun _ _ ⟨_, ⟨h1, h2⟩, h3⟩ => ⟨h1, by rw [h3, h2]; rfl⟩
theorem rdyA (F : Nat → Option Obj) (s : RM) (hs : s.ok) : Tr Tryz.prog 46 [.pointer (some ⟨s.R, 0, none⟩)].toArray F s.H (fun v H => v = .int .i64 s.row.length ∧ H = s.H) :=
  (Tr.more (rdy_tr _ s)).mono fun _ _ ⟨_, ⟨h1, h2⟩, h3⟩ => ⟨by rw [h1, hs.rlen]; simp [RM.row], by rw [h3, h2]; rfl⟩
/-- what 'Take' answers and leaves -/
def TakeQ (s : RM) (v : Value) (H : HL) : Prop :=
  (s.row = [] ∧ v = tup [.agg [.int .u16 0, .bool false, .slice none 0 0].toArray, .bool false] ∧ H = s.H) ∨
  ∃ (m : Ms) (s' : RM), m.ok ∧ s'.ok ∧ v = tup [.agg m.cells.toArray, .bool true] ∧ H = s'.H ++ m.hb ∧ s'.R = s.R ∧ s'.turns = s.turns ∧ s.row = m.g :: s'.row ∧ s'.L = s.L ∧ s'.nx = s.nx
theorem takeA (F : Nat → Option Obj) (s : RM) (hs : s.ok) : Tr Tryz.prog 57 [.pointer (some ⟨s.R, 0, none⟩)].toArray F s.H (TakeQ s) := by
  cases hms : s.ms with
  | nil => exact (Tr.more (take_none _ s hs hms)).mono fun _ _ ⟨_, ⟨h1, h2⟩, h3⟩ => .inl ⟨by simp [RM.row, hms], h1, by rw [h3, h2]; rfl⟩
  | cons m ms' =>
    have e : s.H = (s.core ++ s.rhb) ++ (s.mhb ++ s.phb) := by simp [RM.H]
    rw [e]
    refine Tr.weak (Tr.more (take_some _ s hs m ms' hms)) ?_
    rintro _ _ ⟨_, ⟨ra', rc', rfl, hown, rfl⟩, rfl⟩
    have hmok : m.ok := hs.mok m (by simp [hms])
    have hlen := Ms.len hmok
    have hh := hs.held
    have hf := hs.fine
    have hrow : s.row = m.g :: ms'.map (·.g) := by simp [RM.row, hms]
    have htm : totM s.row = m.g.bytes.length + totM (ms'.map (·.g)) := by rw [hrow]; simp [totM]
    have hw : IntKind.i64.wrap (s.held - m.sn) = s.held - m.sn := i64_id (by omega) (by omega)
    refine ⟨({ s with ms := ms', ra := ra', rn := ms'.length, rc := rc', held := IntKind.i64.wrap (s.held - m.sn) } : RM).H ++ m.hb, .inr ⟨m, _, hmok, ?_, rfl, rfl, rfl, rfl, hrow, rfl, rfl⟩, fun w h => ?_⟩
    · refine ⟨hs.pok, fun x hx => hs.mok x (by rw [hms]; exact List.mem_cons_of_mem _ hx), hown, hs.born, hs.old, hs.turn, hs.turns, hs.keys, hs.wf, ?_, ?_, hs.bound, ?_⟩
      · show IntKind.i64.wrap (s.held - m.sn) = totD s.L + totM (ms'.map (·.g))
        rw [hw, hh, htm, hlen]; simp; omega
      · have := hs.few
        rw [hms] at this
        dsimp only
        simp at this ⊢
        omega
      · show totD s.L + totM (ms'.map (·.g)) ≤ 1000000000
        omega
    · have e2 : s.mhb = m.hb ++ ms'.flatMap (·.hb) := by simp [RM.mhb, hms]
      rw [e2] at h
      unfold RM.H
      refine h.perm ?_
      unfold RM.mhb RM.phb
      dsimp only
      simp only [List.append_assoc]
      refine List.Perm.append_left _ (List.Perm.append_left _ ?_)
      exact (List.perm_append_comm (l₁ := m.hb)).trans (by rw [List.append_assoc])

end Go.Proofs.YthjglhdjlmjffaaGreat
