/- The document's flight of pieces, in memory; what it tells, walked. Conditions: it is well formed. -/
import Derived.Test.YtglobldnockdoaaSlT
import Derived.Test.YtglobldnockdoaaSlP
import Derived.Test.YtglobldnockdoaaFlI
import Derived.Test.YtglobldnockdoaaFlX
namespace Go.Proofs.Ytglobldnockdoaa
open Go Go.Sl Go.Flt

/-- a record, as the document has it -/
structure RrM where
  r : Rc
  ba : Option Addr
  bn : Nat
  bc : Nat
  bb : HL
def RrM.cells (m : RrM) : List Value := [.int .u32 m.r.tsn, .int .u16 m.r.stream, .int .u16 m.r.ssn, .bool m.r.un, .bool m.r.fi, .bool m.r.la, .slice m.ba m.bn m.bc, .int .i64 m.r.path, .int .i64 m.r.at_, .int .i64 m.r.id, .int .i64 m.r.miss, .bool m.r.acked, .bool m.r.lost, .bool m.r.gone, .bool m.r.again]
structure FR where
  R : Nat
  la : Option Addr
  ln : Nat
  lc : Nat
  lb : HL
  rs : List RrM
  c : Int
  paths : Int
def FR.hd (f : FR) : Nat × Obj := (f.R, .cells [.slice f.la f.ln f.lc, .int .u32 f.c, .int .i64 f.paths].toArray 107 (0, 0))
def FR.H (f : FR) : HL := f.hd :: (f.lb ++ f.rs.flatMap (·.bb))
def FR.S (f : FR) : Flt.S := ⟨f.rs.map (·.r), f.c, f.paths⟩
structure FR.ok (f : FR) : Prop where
  own : OwnS 111 15 (f.rs.flatMap RrM.cells) (.slice f.la f.ln f.lc) f.lb
  recs : ∀ m ∈ f.rs, OwnS 5 1 (m.r.bs.map B) (.slice m.ba m.bn m.bc) m.bb
  few : f.rs.length ≤ 2048
def FR.small (f : FR) : Prop := sumB (fun _ => true) f.S.L ≤ 1000000000000
theorem FR.ok.len {f : FR} (h : f.ok) : f.rs.length = f.ln := by have := OwnS.len h.own; rw [flat_len' RrM.cells 15 (fun _ => rfl)] at this; omega
theorem fr_el {F : Nat → Option Obj} {f : FR} (hf : f.ok) {i : Nat} {m : RrM} (h : f.rs[i]? = some m) : ∃ b o, f.la = some ⟨b, o, none⟩ ∧ Sl.Can F f.H b (o + (i : Int).toNat * 15) m.cells := by
  have hi := (List.getElem?_eq_some_iff.1 h).1
  have hl := hf.len
  obtain ⟨b, o, h1, h2⟩ := (Lst.own (F := F) (H := f.lb) hf.own (fun _ h => h)).el (cells := RrM.cells) (fun _ => rfl) h (by omega)
  exact ⟨b, o, h1, h2.mono (fun _ h => h.sublist (.cons _ (List.sublist_append_left _ _)))⟩
theorem flat_put {α : Type} {c : α → List Value} {sz : Nat} (hc : ∀ a, (c a).length = sz) {l : List α} {i k : Nat} {a a' : α} {vs : List Value} (h : l[i]? = some a) (hs : spliceK (c a) k vs some = some (c a')) :
    (l.flatMap c).take (i * sz + k) ++ vs ++ (l.flatMap c).drop (i * sz + k + vs.length) = (l.set i a').flatMap c ∧ i * sz + k + vs.length ≤ (l.flatMap c).length := by
  have hi := (List.getElem?_eq_some_iff.1 h).1
  have he := (List.getElem?_eq_some_iff.1 h).2
  obtain ⟨h1, h2⟩ := splice_eq hs
  have e1 : l = l.take i ++ a :: l.drop (i + 1) := by rw [← he, ← List.drop_eq_getElem_cons hi, List.take_append_drop]
  have hX : ((l.take i).flatMap c).length = i * sz := by rw [flat_len' c sz hc, List.length_take, Nat.min_eq_left (by omega)]
  have e2 : l.flatMap c = (l.take i).flatMap c ++ (c a ++ (l.drop (i + 1)).flatMap c) := by
    conv => lhs; rw [e1]
    rw [List.flatMap_append, List.flatMap_cons]
  rw [List.set_eq_take_append_cons_drop, if_pos hi, List.flatMap_append, List.flatMap_cons, h1, e2]
  generalize (l.take i).flatMap c = X at hX
  generalize (l.drop (i + 1)).flatMap c = Y
  generalize c a = Z at h2
  rw [← hX]
  refine ⟨?_, by simp only [List.length_append]; omega⟩
  rw [List.take_append, List.take_of_length_le (by omega), List.drop_append, List.drop_eq_nil_of_le (by omega), List.take_append_of_le_length (by omega), List.drop_append_of_le_length (by omega),
    show X.length + k - X.length = k by omega, show X.length + k + vs.length - X.length = k + vs.length by omega]
  simp
/-- a record's cell is written -/
theorem fr_put {f : FR} (hf : f.ok) {i : Nat} {m : RrM} (h : f.rs[i]? = some m) {b o : Nat} (hla : f.la = some ⟨b, o, none⟩) {k : Nat} {v : Value} {r' : Rc} (hb : r'.bs = m.r.bs) (hs : spliceK m.cells k [v] some = some ({ m with r := r' } : RrM).cells) :
    ∃ f' : FR, f'.ok ∧ PutAt b (o + (i : Int).toNat * 15 + k) [v] f.H f'.H ∧ f'.R = f.R ∧ f'.la = f.la ∧ f'.ln = f.ln ∧ f'.lc = f.lc ∧ f'.c = f.c ∧ f'.paths = f.paths ∧ f'.rs = f.rs.set i { m with r := r' } := by
  obtain ⟨h1, h2⟩ := flat_put (c := RrM.cells) (sz := 15) (fun _ => rfl) h hs
  have hown := hf.own
  rw [hla] at hown
  obtain ⟨lb', h3, h4⟩ := OwnS.put hown (i * 15 + k) [v] h2
  rw [h1] at h3
  have hbb : (f.rs.set i { m with r := r' }).flatMap (·.bb) = f.rs.flatMap (·.bb) := by
    have hi := (List.getElem?_eq_some_iff.1 h).1
    have he := (List.getElem?_eq_some_iff.1 h).2
    have e1 : f.rs = f.rs.take i ++ m :: f.rs.drop (i + 1) := by rw [← he, ← List.drop_eq_getElem_cons hi, List.take_append_drop]
    rw [List.set_eq_take_append_cons_drop, if_pos hi]
    conv => rhs; rw [e1]
    rw [List.flatMap_append, List.flatMap_cons, List.flatMap_append, List.flatMap_cons]
  refine ⟨{ f with lb := lb', rs := f.rs.set i { m with r := r' } }, ⟨by dsimp only; rw [hla]; exact h3, fun q hq => ?_, by simpa using hf.few⟩, ?_, rfl, rfl, rfl, rfl, rfl, rfl, rfl⟩
  · rcases List.mem_or_eq_of_mem_set hq with hq | rfl
    · exact hf.recs q hq
    · have := hf.recs m (List.mem_of_getElem? h)
      dsimp only
      rw [hb]
      exact this
  · unfold FR.H FR.hd
    dsimp only
    rw [hbb, show o + (i : Int).toNat * 15 + k = o + (i * 15 + k) by omega]
    exact .there (.left h4)
def FR.empty (b : Nat) (paths first : Int) : FR := ⟨b, none, 0, 0, [], [], Spn.u32 (first - 1), paths⟩
theorem FR.empty_ok (b : Nat) (paths first : Int) : (FR.empty b paths first).ok := ⟨.inl ⟨rfl, rfl, rfl⟩, fun m hm => by simp [FR.empty] at hm, by simp [FR.empty]⟩
theorem rnew_tr (F : Nat → Option Obj) (paths first : Int) : Tr Try.prog 26 [.int .i64 paths, .int .u32 first].toArray F [] (fun v H =>
    (¬ (1 ≤ paths ∧ paths ≤ 4) ∧ v = tup [.pointer none, .int .i64 1] ∧ H = []) ∨ ((1 ≤ paths ∧ paths ≤ 4) ∧ ∃ b, v = tup [.pointer (some ⟨b, 0, none⟩), .int .i64 0] ∧ H = (FR.empty b paths first).H)) := by
  refine Tr.enter Try.func26 rfl Try.ntmps26 rfl (fun w0 => ?_)
  repeat' (first | refine S1 ?_ | refine SD ?_ | refine SA (fun _ => ?_) | refine WL.g_split rfl rfl (fun hc => ?_) (fun hc => ?_) | refine WD.g_split rfl rfl (fun hc => ?_) (fun hc => ?_) | refine W.cond rfl (fun hc => ?_) (fun hc => ?_))
  · exact Fin.retW (by exact rfl) resA (fun _ h => h) (.inl ⟨fun h => by have := of_decide_eq_true hc; omega, rfl, rfl⟩)
  · exact Fin.retW (by exact rfl) resA (fun _ h => h) (.inl ⟨fun h => by have := of_decide_eq_true hc; omega, rfl, rfl⟩)
  · rename_i h1 b
    have h1 := of_decide_eq_false h1
    have h2 := of_decide_eq_false hc
    exact Fin.retW (by exact rfl) resA (fun _ h => h) (.inr ⟨by omega, b, rfl, rfl⟩)
theorem rcum_tr (F : Nat → Option Obj) (f : FR) : Tr Try.prog 27 [.pointer (some ⟨f.R, 0, none⟩)].toArray F f.H (fun v H => v = .int .u32 f.c ∧ H = f.H) := by
  refine Tr.enter Try.func27 rfl Try.ntmps27 rfl (fun w0 => ?_)
  unfold FR.H FR.hd
  repeat' (first | refine S1 ?_ | refine SD ?_ | refine SA (fun _ => ?_) | refine WL.g_split rfl rfl (fun hc => ?_) (fun hc => ?_) | refine WD.g_split rfl rfl (fun hc => ?_) (fun hc => ?_) | refine W.cond rfl (fun hc => ?_) (fun hc => ?_))
  exact Fin.retW (by exact rfl) resA (fun _ h => h) ⟨rfl, rfl⟩
theorem rcount_tr (F : Nat → Option Obj) (f : FR) : Tr Try.prog 30 [.pointer (some ⟨f.R, 0, none⟩)].toArray F f.H (fun v H => v = .int .i64 f.ln ∧ H = f.H) := by
  refine Tr.enter Try.func30 rfl Try.ntmps30 rfl (fun w0 => ?_)
  unfold FR.H FR.hd
  repeat' (first | refine S1 ?_ | refine SD ?_ | refine SA (fun _ => ?_) | refine WL.g_split rfl rfl (fun hc => ?_) (fun hc => ?_) | refine WD.g_split rfl rfl (fun hc => ?_) (fun hc => ?_) | refine W.cond rfl (fun hc => ?_) (fun hc => ?_))
  exact Fin.retW (by exact rfl) resA (fun _ h => h) ⟨rfl, rfl⟩
theorem raway_tr (F : Nat → Option Obj) (m : RrM) : Tr Try.prog 56 [.agg m.cells.toArray].toArray F [] (fun v H => v = .bool (Flt.away m.r) ∧ H = []) := by
  refine Tr.enter Try.func56 rfl Try.ntmps56 rfl (fun w0 => ?_)
  unfold RrM.cells
  repeat' (first | refine S1 ?_ | refine SD ?_ | refine SA (fun _ => ?_) | refine WL.g_split rfl rfl (fun hc => ?_) (fun hc => ?_) | refine WD.g_split rfl rfl (fun hc => ?_) (fun hc => ?_) | refine W.cond rfl (fun hc => ?_) (fun hc => ?_))
  all_goals
    refine Fin.retW (by exact rfl) resA (fun _ h => h.sublist (List.nil_sublist _)) ⟨?_, rfl⟩
    unfold Flt.away
    dsimp only [tup]
    simp_all
end Go.Proofs.Ytglobldnockdoaa
