/- The reassembler's pieces in memory, and its method 'whole', walked: it answers as the plain function does, and leaves what it was handed. Condition: fewer than 2^32 - 1 pieces. -/
import Derived.Test.YthjglhdjlmjffaaGreatTy
import Derived.Test.YthjglhdjlmjffaaGreatBa
namespace Go.Proofs.YthjglhdjlmjffaaGreat
open Go Go.Sl Go.Rm

/-- a piece in memory: the slice of its bytes, and the blocks that bear them; when it came; the map's own stamp -/
structure Pc where
  d : D
  sa : Option Addr
  sn : Nat
  sc : Nat
  hb : HL
  turn : Int
  born : Nat
def Pc.bv (p : Pc) : Value := .slice p.sa p.sn p.sc
def Pc.cells (p : Pc) : List Value := [.int .u32 p.d.tsn, .int .u16 p.d.stream, .int .u16 p.d.ssn, .bool p.d.un, .bool p.d.fi, .bool p.d.la, p.bv, .int .i64 p.turn]
def Pc.ent (p : Pc) : MapEntry := ⟨.int .u32 p.d.tsn, .agg p.cells.toArray, p.born⟩
def Pc.ok (p : Pc) : Prop := OwnS 5 1 (p.d.bytes.map B) p.bv p.hb

theorem keysOk_ent (ps : List Pc) : keysOk .u32 (ps.map Pc.ent) := fun e he => by
  obtain ⟨p, _, rfl⟩ := List.mem_map.1 he
  exact ⟨p.d.tsn, rfl⟩
theorem mfind_ent (ps : List Pc) (n : Int) : mfind (ps.map Pc.ent) n = (ps.find? (fun p => n == p.d.tsn)).map (fun p => .agg p.cells.toArray) := by
  unfold mfind
  induction ps with
  | nil => rfl
  | cons p ps ih =>
    rw [List.map_cons, List.find?_cons, List.find?_cons]
    have : isKey n p.ent = (n == p.d.tsn) := rfl
    rw [this]
    cases (n == p.d.tsn) with
    | true => rfl
    | false => exact ih
theorem at_pc (ps : List Pc) (n : Int) : at? (ps.map (·.d)) n = (ps.find? (fun p => n == p.d.tsn)).map (·.d) := by
  unfold at?
  induction ps with
  | nil => rfl
  | cons p ps ih =>
    rw [List.map_cons, List.find?_cons, List.find?_cons]
    cases (n == p.d.tsn) with
    | true => rfl
    | false => exact ih

theorem mates_tr (F : Nat → Option Obj) (p q : Pc) : Tr Tryz.prog 113 [.agg p.cells.toArray, .agg q.cells.toArray].toArray F [] (fun v H => v = .bool (Rm.mates p.d q.d) ∧ H = []) := by
  refine Tr.enter Tryz.func113 rfl Tryz.ntmps113 rfl (fun w0 => ?_)
  repeat' (first | refine S1 ?_ | refine SD ?_ | refine SA (fun _ => ?_) | refine WL.g_split rfl rfl (fun hc => ?_) (fun hc => ?_) | refine WD.g_split rfl rfl (fun hc => ?_) (fun hc => ?_) | refine W.cond rfl (fun hc => ?_) (fun hc => ?_))
  all_goals refine Fin.weakH (fun _ h => h.sublist (List.nil_sublist _)) (Fin.ret_tmp (by exact rfl) (by exact rfl) ⟨?_, rfl⟩)
  all_goals simp_all [Rm.mates]

def wholeV : Option (Int × Int) → Value
  | some (f, l) => .tuple [.int .u32 f, .int .u32 l, .bool true].toArray
  | none => .tuple [.int .u32 0, .int .u32 0, .bool false].toArray

structure WG where
  k : Nat
  f : Int
  q : Pc
  bq : Nat

theorem u32_step (a b : Int) (h : u32 a = u32 b) : u32 (a - 1) = u32 (b - 1) ∧ u32 (a + 1) = u32 (b + 1) ∧ u32 (u32 (a - 1)) = u32 (b - 1) ∧ u32 (u32 (a + 1)) = u32 (b + 1) := by
  simp only [u32_eq] at *
  omega

set_option maxHeartbeats 4000000 in
theorem whole_tr (F : Nat → Option Obj) (R M clk : Nat) (ps : List Pc) (p : Pc) (c1 c2 c3 c4 : Value) (hL : ps.length < 4294967295) :
    Tr Tryz.prog 100 [.pointer (some ⟨R, 0, none⟩), .agg p.cells.toArray].toArray F [(R, .cells [.map (some M), c1, c2, c3, c4].toArray 100 (0, 0)), (M, .map (ps.map Pc.ent).toArray clk)]
      (fun v H => v = wholeV (Rm.whole (ps.map (·.d)) p.d) ∧ H = [(R, .cells [.map (some M), c1, c2, c3, c4].toArray 100 (0, 0)), (M, .map (ps.map Pc.ent).toArray clk)]) := by
  refine Tr.enter Tryz.func100 rfl Tryz.ntmps100 rfl (fun w0 => ?_)
  repeat' (first | refine S1 ?_ | refine SD ?_ | refine SA (fun _ => ?_) | refine WL.g_split rfl rfl (fun hc => ?_) (fun hc => ?_) | refine WD.g_split rfl rfl (fun hc => ?_) (fun hc => ?_) | refine W.cond rfl (fun hc => ?_) (fun hc => ?_))
  rename_i bp bq
  generalize hbk : back (ps.map (·.d)) p.d (ps.length + 1) p.d.tsn p.d = bk
  refine W.loop (G := WG) (fun g => [(0, .pointer (some ⟨R, 0, none⟩)), (3, .pointer (some ⟨bp, 0, none⟩)), (4, .int .u32 g.f), (5, .int .u32 p.d.tsn), (6, .bool false), (7, .pointer (some ⟨g.bq, 0, none⟩))])
    (fun g => [(g.bq, .cells g.q.cells.toArray 138 (0, 0)), (bp, .cells p.cells.toArray 138 (0, 0)), (R, .cells [.map (some M), c1, c2, c3, c4].toArray 100 (0, 0)), (M, .map (ps.map Pc.ent).toArray clk)])
    (fun g => g.k ≤ ps.length ∧ u32 g.f = u32 (p.d.tsn - g.k) ∧ (∀ i : Nat, 1 ≤ i → i ≤ g.k → ∃ d ∈ ps.map (·.d), d.tsn = u32 (p.d.tsn + -1 * i)) ∧ bk = back (ps.map (·.d)) p.d (ps.length + 1 - g.k) g.f g.q.d)
    (fun g => ps.length - g.k) ⟨0, p.d.tsn, p, bq⟩ ⟨Nat.zero_le _, by simp, fun i h1 h2 => by simp at h2; omega, hbk.symm⟩ envA (fun _ h => h) ?_
  rintro ⟨k, f, q, bq'⟩ ⟨hk, hf, hvis, hback⟩
  dsimp only at hk hf hvis hback ⊢
  have hfuel : ps.length + 1 - k = (ps.length - k) + 1 := by omega
  rw [hfuel, back] at hback
  repeat' (first | refine S1 ?_ | refine SD ?_ | refine SA (fun _ => ?_) | refine WL.g_split rfl rfl (fun hc => ?_) (fun hc => ?_) | refine WD.g_split rfl rfl (fun hc => ?_) (fun hc => ?_) | refine W.cond rfl (fun hc => ?_) (fun hc => ?_))
  · -- one more ahead of it
    have hfi : q.d.fi = false := by simpa using hc
    rw [if_neg (by simp [hfi])] at hback
    obtain ⟨s1, _, s3, _⟩ := u32_step f (p.d.tsn - k) hf
    cases hat : ps.find? (fun x => u32 (f - 1) == x.d.tsn) with
    | none =>
      have hnone : at? (ps.map (·.d)) (u32 (f - 1)) = none := by rw [at_pc, hat]; rfl
      rw [hnone] at hback
      refine WL.s rfl (Rd.lk2_none rfl rfl (by repeat (first | exact MapAt.here | apply MapAt.there | apply MapAt.right)) (keysOk_ent ps) (by rw [mfind_ent, hat]; rfl)) ?_
      repeat' (first | refine S1 ?_ | refine SD ?_ | refine SA (fun _ => ?_) | refine WL.g_split rfl rfl (fun hc => ?_) (fun hc => ?_) | refine WD.g_split rfl rfl (fun hc => ?_) (fun hc => ?_) | refine W.cond rfl (fun hc => ?_) (fun hc => ?_))
      refine Fin.weakH weakA (Fin.ret_tmp3 (by exact rfl) (by exact rfl) (by exact rfl) (by exact rfl) ⟨?_, rfl⟩)
      simp only [Rm.whole, List.length_map, hbk, hback]; rfl
    | some xx =>
      have hsome : at? (ps.map (·.d)) (u32 (f - 1)) = some xx.d := by rw [at_pc, hat]; rfl
      rw [hsome] at hback
      simp only at hback
      refine WL.s rfl (Rd.lk2_some (v := .agg xx.cells.toArray) rfl rfl (by repeat (first | exact MapAt.here | apply MapAt.there | apply MapAt.right)) (keysOk_ent ps) (by rw [mfind_ent, hat]; rfl)) ?_
      repeat' (first | refine S1 ?_ | refine SD ?_ | refine SA (fun _ => ?_) | refine WL.g_split rfl rfl (fun hc => ?_) (fun hc => ?_) | refine WD.g_split rfl rfl (fun hc => ?_) (fun hc => ?_) | refine W.cond rfl (fun hc => ?_) (fun hc => ?_))
      refine WL.e rfl (Ef.callR (by exact rfl) subA (mates_tr _ xx p)) ?_
      rintro _ _ ⟨rfl, rfl⟩
      repeat' (first | refine S1 ?_ | refine SD ?_ | refine SA (fun _ => ?_) | refine WL.g_split rfl rfl (fun hc => ?_) (fun hc => ?_) | refine WD.g_split rfl rfl (fun hc => ?_) (fun hc => ?_) | refine W.cond rfl (fun hc => ?_) (fun hc => ?_))
      · refine Fin.weakH weakA (Fin.ret_tmp3 (by exact rfl) (by exact rfl) (by exact rfl) (by exact rfl) ⟨?_, rfl⟩)
        rw [if_pos (by simp_all)] at hback
        simp only [Rm.whole, List.length_map, hbk, hback]; rfl
      · refine Fin.weakH weakA (Fin.ret_tmp3 (by exact rfl) (by exact rfl) (by exact rfl) (by exact rfl) ⟨?_, rfl⟩)
        rw [if_pos (by simp_all)] at hback
        simp only [Rm.whole, List.length_map, hbk, hback]; rfl
      · rename_i hm hla bx bq2
        rw [if_neg (by simp_all)] at hback
        have hvis' : ∀ i : Nat, 1 ≤ i → i ≤ k + 1 → ∃ d ∈ ps.map (·.d), d.tsn = u32 (p.d.tsn + -1 * i) := fun i h1 h2 => by
          rcases Nat.lt_or_ge i (k + 1) with h | h
          · exact hvis i h1 (by omega)
          · obtain rfl : i = k + 1 := by omega
            obtain ⟨h3, h4⟩ := at_mem hsome
            refine ⟨xx.d, h3, h4.trans (s1.trans ?_)⟩
            congr 1; omega
        have hle := run_le (L := ps.map (·.d)) (t := p.d.tsn) (k := k + 1) (-1) (.inr rfl) (by omega) hvis'
        rw [List.length_map] at hle
        refine Fin.round ⟨k + 1, u32 (f - 1), xx, bq2⟩ ⟨hle, s3.trans (by congr 1; simp; omega), hvis', ?_⟩ envA weakA (by simp; omega)
        rw [hback]
        congr 1
        dsimp only; omega
  · -- its first one: now those behind it
    have hfi : q.d.fi = true := by simpa using hc
    rw [if_pos hfi] at hback
    rename_i bl
    clear hvis
    generalize hfk : forth (ps.map (·.d)) p.d (ps.length + 1) p.d.tsn p.d = fk
    refine W.loop (G := WG) (fun g => [(0, .pointer (some ⟨R, 0, none⟩)), (3, .pointer (some ⟨bp, 0, none⟩)), (4, .int .u32 f), (5, .int .u32 g.f), (6, .bool false), (10, .pointer (some ⟨g.bq, 0, none⟩))])
      (fun g => [(g.bq, .cells g.q.cells.toArray 138 (0, 0)), (bp, .cells p.cells.toArray 138 (0, 0)), (R, .cells [.map (some M), c1, c2, c3, c4].toArray 100 (0, 0)), (M, .map (ps.map Pc.ent).toArray clk)])
      (fun g => g.k ≤ ps.length ∧ u32 g.f = u32 (p.d.tsn + g.k) ∧ (∀ i : Nat, 1 ≤ i → i ≤ g.k → ∃ d ∈ ps.map (·.d), d.tsn = u32 (p.d.tsn + 1 * i)) ∧ fk = forth (ps.map (·.d)) p.d (ps.length + 1 - g.k) g.f g.q.d)
      (fun g => ps.length - g.k) ⟨0, p.d.tsn, p, bl⟩ ⟨Nat.zero_le _, by simp, fun i h1 h2 => by simp at h2; omega, hfk.symm⟩ envA weakA ?_
    rintro ⟨k2, f2, q2, bq2⟩ ⟨hk2, hf2, hvis2, hforth⟩
    dsimp only at hk2 hf2 hvis2 hforth ⊢
    have hfuel2 : ps.length + 1 - k2 = (ps.length - k2) + 1 := by omega
    rw [hfuel2, forth] at hforth
    repeat' (first | refine S1 ?_ | refine SD ?_ | refine SA (fun _ => ?_) | refine WL.g_split rfl rfl (fun hc => ?_) (fun hc => ?_) | refine WD.g_split rfl rfl (fun hc => ?_) (fun hc => ?_) | refine W.cond rfl (fun hc => ?_) (fun hc => ?_))
    · have hla : q2.d.la = false := by simpa using hc
      rw [if_neg (by simp [hla])] at hforth
      obtain ⟨_, s1, _, s3⟩ := u32_step f2 (p.d.tsn + k2) hf2
      cases hat : ps.find? (fun x => u32 (f2 + 1) == x.d.tsn) with
      | none =>
        have hnone : at? (ps.map (·.d)) (u32 (f2 + 1)) = none := by rw [at_pc, hat]; rfl
        rw [hnone] at hforth
        refine WL.s rfl (Rd.lk2_none rfl rfl (by repeat (first | exact MapAt.here | apply MapAt.there | apply MapAt.right)) (keysOk_ent ps) (by rw [mfind_ent, hat]; rfl)) ?_
        repeat' (first | refine S1 ?_ | refine SD ?_ | refine SA (fun _ => ?_) | refine WL.g_split rfl rfl (fun hc => ?_) (fun hc => ?_) | refine WD.g_split rfl rfl (fun hc => ?_) (fun hc => ?_) | refine W.cond rfl (fun hc => ?_) (fun hc => ?_))
        refine Fin.weakH weakA (Fin.ret_tmp3 (by exact rfl) (by exact rfl) (by exact rfl) (by exact rfl) ⟨?_, rfl⟩)
        simp only [Rm.whole, List.length_map, hbk, hback, hfk, hforth]; rfl
      | some xx =>
        have hsome : at? (ps.map (·.d)) (u32 (f2 + 1)) = some xx.d := by rw [at_pc, hat]; rfl
        rw [hsome] at hforth
        simp only at hforth
        refine WL.s rfl (Rd.lk2_some (v := .agg xx.cells.toArray) rfl rfl (by repeat (first | exact MapAt.here | apply MapAt.there | apply MapAt.right)) (keysOk_ent ps) (by rw [mfind_ent, hat]; rfl)) ?_
        repeat' (first | refine S1 ?_ | refine SD ?_ | refine SA (fun _ => ?_) | refine WL.g_split rfl rfl (fun hc => ?_) (fun hc => ?_) | refine WD.g_split rfl rfl (fun hc => ?_) (fun hc => ?_) | refine W.cond rfl (fun hc => ?_) (fun hc => ?_))
        refine WL.e rfl (Ef.callR (by exact rfl) subA (mates_tr _ xx p)) ?_
        rintro _ _ ⟨rfl, rfl⟩
        repeat' (first | refine S1 ?_ | refine SD ?_ | refine SA (fun _ => ?_) | refine WL.g_split rfl rfl (fun hc => ?_) (fun hc => ?_) | refine WD.g_split rfl rfl (fun hc => ?_) (fun hc => ?_) | refine W.cond rfl (fun hc => ?_) (fun hc => ?_))
        · refine Fin.weakH weakA (Fin.ret_tmp3 (by exact rfl) (by exact rfl) (by exact rfl) (by exact rfl) ⟨?_, rfl⟩)
          rw [if_pos (by simp_all)] at hforth
          simp only [Rm.whole, List.length_map, hbk, hback, hfk, hforth]; rfl
        · refine Fin.weakH weakA (Fin.ret_tmp3 (by exact rfl) (by exact rfl) (by exact rfl) (by exact rfl) ⟨?_, rfl⟩)
          rw [if_pos (by simp_all)] at hforth
          simp only [Rm.whole, List.length_map, hbk, hback, hfk, hforth]; rfl
        · rename_i hm hla2 bx bq3
          rw [if_neg (by simp_all)] at hforth
          have hvis' : ∀ i : Nat, 1 ≤ i → i ≤ k2 + 1 → ∃ d ∈ ps.map (·.d), d.tsn = u32 (p.d.tsn + 1 * i) := fun i h1 h2 => by
            rcases Nat.lt_or_ge i (k2 + 1) with h | h
            · exact hvis2 i h1 (by omega)
            · obtain rfl : i = k2 + 1 := by omega
              obtain ⟨h3, h4⟩ := at_mem hsome
              refine ⟨xx.d, h3, h4.trans (s1.trans ?_)⟩
              congr 1; omega
          have hle := run_le (L := ps.map (·.d)) (t := p.d.tsn) (k := k2 + 1) 1 (.inl rfl) (by omega) hvis'
          rw [List.length_map] at hle
          refine Fin.round ⟨k2 + 1, u32 (f2 + 1), xx, bq3⟩ ⟨hle, s3.trans (by congr 1; simp; omega), hvis', ?_⟩ envA weakA (by simp; omega)
          rw [hforth]
          congr 1
          dsimp only; omega
    · have hla : q2.d.la = true := by simpa using hc
      rw [if_pos hla] at hforth
      refine Fin.weakH weakA (Fin.ret_tmp3 (by exact rfl) (by exact rfl) (by exact rfl) (by exact rfl) ⟨?_, rfl⟩)
      simp only [Rm.whole, List.length_map, hbk, hback, hfk, hforth]; rfl
end Go.Proofs.YthjglhdjlmjffaaGreat
