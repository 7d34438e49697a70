/- The reassembler in plain Lean, second part: what each of its methods does to the pieces, the row and the streams' next numbers. No conditions: definitions and laws. -/
import Derived.Test.YtokbkocjddcklaaRmA
namespace Go.Rm
open Go

theorem erase_le {L : List D} {t : Int} : (L.eraseP (fun d => t == d.tsn)).length ≤ L.length := (List.eraseP_sublist).length_le
theorem gath_le : ∀ (n : Nat) (L : List D) (t l : Int) (acc : List UInt8), (gath n L t l acc).2.length ≤ L.length
  | 0, _, _, _, _ => Nat.le_refl _
  | n + 1, L, t, l, acc => by
    rw [gath]
    split
    · exact erase_le
    · exact Nat.le_trans (gath_le n _ _ _ _) erase_le
theorem erase_lt {L : List D} {t : Int} {d : D} (h : at? L t = some d) : (L.eraseP (fun d => t == d.tsn)).length < L.length := by
  obtain ⟨h1, h2⟩ := at_mem h
  rw [List.length_eraseP_of_mem h1 (by simp [h2])]
  have := List.length_pos_of_mem h1
  omega
theorem ready_lt {L : List D} {row : List Mg} {f l : Int} {d : D} (h : at? L f = some d) : (ready L row f l).1.length < L.length := by
  dsimp only [ready]
  rw [gath]
  split
  · exact erase_lt h
  · exact Nat.lt_of_le_of_lt (gath_le _ _ _ _ _) (erase_lt h)

/-- what is there: the pieces, the row, the streams' next numbers -/
structure S where
  L : List D
  row : List Mg
  nx : List Int
/-- the ordered messages that come next become ready -/
def onN : Nat → S → Int → S
  | 0, s, _ => s
  | n + 1, s, st => match cand s.L st (s.nx.getD st.toNat 0) with
    | none => s
    | some (f, l) => onN n ⟨(ready s.L s.row f l).1, (ready s.L s.row f l).2, s.nx.set st.toNat (u16 (s.nx.getD st.toNat 0 + 1))⟩ st
def on (s : S) (st : Int) : S := onN (s.L.length + 1) s st
/-- a piece that is taken -/
def put1 (s : S) (d : D) : S :=
  if d.un then match whole (s.L ++ [d]) d with
    | none => ⟨s.L ++ [d], s.row, s.nx⟩
    | some (f, l) => ⟨(ready (s.L ++ [d]) s.row f l).1, (ready (s.L ++ [d]) s.row f l).2, s.nx⟩
  else on ⟨s.L ++ [d], s.row, s.nx⟩ d.stream
/-- what stands against a piece -/
def putE (s : S) (d : D) : Int :=
  if d.stream ≥ s.nx.length then 4 else if d.bytes = [] then 5 else if !d.un && less16 d.ssn (s.nx.getD d.stream.toNat 0) then 1 else if (at? s.L d.tsn).isSome then 1 else 0
def put (s : S) (d : D) : S := if putE s d = 0 then put1 s d else s
/-- a piece up to a TSN that is of no whole message -/
def doomP (L : List D) (cum : Int) (d : D) : Bool := (d.tsn == cum || less32 d.tsn cum) && (whole L d).isNone
def parts (s : S) (cum : Int) : S := ⟨s.L.filter (fun d => !doomP s.L cum d), s.row, s.nx⟩
/-- a piece of a message that was gone over -/
def doomS (st n : Int) (d : D) : Bool := !d.un && d.stream == st && less16 d.ssn n
def wait (s : S) (st : Int) : S := match cand s.L st (s.nx.getD st.toNat 0) with
  | none => s
  | some (f, l) => ⟨(ready s.L s.row f l).1, (ready s.L s.row f l).2, s.nx⟩
/-- up to a number -/
def upto : Nat → S → Int → Int → S
  | 0, s, _, _ => s
  | n + 1, s, st, e => if s.nx.getD st.toNat 0 = e then s else upto n { wait s st with nx := (wait s st).nx.set st.toNat (u16 (s.nx.getD st.toNat 0 + 1)) } st e
def skip1 (s : S) (st to : Int) : S :=
  if s.nx.getD st.toNat 0 ≠ to ∧ less16 (s.nx.getD st.toNat 0) to = false then s
  else
    let q := upto ((u16 (u16 (to + 1) - s.nx.getD st.toNat 0)).toNat + 1) s st (u16 (to + 1))
    on ⟨q.L.filter (fun d => !doomS st (q.nx.getD st.toNat 0) d), q.row, q.nx⟩ st
/-- a message that was skipped: its stream and its number -/
structure Sk where
  st : Int
  n : Int
def skipE (s : S) (l : List Sk) : Int := if l.any (fun k => decide (k.st ≥ s.nx.length)) then 4 else 0
def skip (s : S) (cum : Int) (l : List Sk) : S := if skipE s l = 0 then l.foldl (fun s k => skip1 s k.st k.n) (parts s cum) else s
def take (s : S) : Option Mg × S := match s.row with
  | [] => (none, s)
  | m :: r => (some m, ⟨s.L, r, s.nx⟩)
end Go.Rm
