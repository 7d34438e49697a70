/- The law ScriptOne, walked. Conditions: the law's run of works answers true. -/
import Derived.Test.YtjcekmiengnglaaGreatDoorSuE
import Derived.Test.YtjcekmiengnglaaGreatDoorBuD
namespace Go.Proofs.YtjcekmiengnglaaGreatDoor
open Go Go.Sl Go.Scr

/-- the law's run, whatever else is in memory -/
def WorksIs (F : Nat → Option Obj) : Prop := ∀ Hr : HL, (∀ p ∈ Hr, F p.1 = none) → Tr Tryz.prog 6 ([] : List Value).toArray (addF F Hr) [] (fun v _ => v = .bool true)
instance : Body Tryz.prog 8 := ⟨by kernel_rfl⟩
instance : Body Tryz.prog 9 := ⟨by kernel_rfl⟩
instance : Body Tryz.prog 6 := ⟨by kernel_rfl⟩
/-- what a Read answers, as the law looks at it: the error's number, the event in memory -/
structure Re (s : Str) (x : Evx) (er : Int) (h : HL) : Prop where
  rd : (er = 0 ∧ Reads s x.e) ∨ (er = 7 ∧ x.e = evt0 ∧ ∀ e, ¬ Reads s e)
  own : OwnS 5 1 (x.e.bytes.map B) (.slice x.ba x.bn x.bc) h
def ReQ (s : Str) (v : Value) (h : HL) : Prop := ∃ (x : Evx) (er : Int), v = tup [.agg x.cells.toArray, .int .i64 er] ∧ Re s x er h
theorem ReQ.a {s : Str} {v : Value} {h : HL} (q : ReadQ s v h) : ReQ s v h := by
  rcases q with ⟨x, hb, rfl, h1, h2, rfl⟩ | ⟨rfl, h1, rfl⟩
  · exact ⟨x, 0, rfl, .inl ⟨rfl, h1⟩, h2.1⟩
  · exact ⟨evx0, 7, rfl, .inr ⟨rfl, rfl, h1⟩, .inl ⟨rfl, rfl, rfl⟩⟩
theorem ReQ.b {s : Str} {v : Value} {h : HL} (q : RReadQ s v h) : ReQ s v h := by
  rcases q with ⟨x, hb, rfl, h1, h2, h3, rfl⟩ | ⟨rfl, h1, rfl⟩
  · exact ⟨x, 0, rfl, .inl ⟨rfl, h1⟩, h2⟩
  · exact ⟨evx0, 7, rfl, .inr ⟨rfl, rfl, h1⟩, .inl ⟨rfl, rfl, rfl⟩⟩
theorem Re.is {s : Str} {x : Evx} {a : Int} {h : HL} (p : Re s x a h) (hs : s.length ≤ 100000) {F G : Nat → Option Obj} {H : HL} (hF : ∀ w, In F [] w → In G H w) (hh : h.Sublist H) : x.Is F := by
  have ok0 : evt0.Ok := gz_ok []
  refine ⟨?_, (Lst.own (F := G) (H := H) p.own (fun _ h => h.sublist hh)).mono hF, ?_⟩
  · rcases p.rd with ⟨_, h1⟩ | ⟨_, h1, _⟩
    · exact h1.1
    · rw [h1]; exact ok0
  · rcases p.rd with ⟨_, h1⟩ | ⟨_, h1, _⟩
    · rw [← gz_reads h1]
      obtain ⟨w1, wr, hsp⟩ : ∃ w ws, split 32 s = w :: ws := by
        cases h : split 32 s with
        | nil => exact absurd h (split_ne 32 s)
        | cons w ws => exact ⟨w, ws, rfl⟩
      rw [hsp]
      exact Nat.le_trans (gz_bytes w1 wr s.length (fun w hw => split_mem_len 32 s w (by rw [hsp]; exact List.mem_cons_of_mem _ hw))) (by omega)
    · rw [h1]; exact Nat.zero_le _
end Go.Proofs.YtjcekmiengnglaaGreatDoor
