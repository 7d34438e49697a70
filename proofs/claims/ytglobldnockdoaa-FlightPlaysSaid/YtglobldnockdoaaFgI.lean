/- The law's comparing of lists, of pieces, of lists of pieces, walked: they are found the same where the plain ones are. Conditions: they can be read. -/
import Derived.Test.YtglobldnockdoaaFgF
import Derived.Test.YtglobldnockdoaaFlK
namespace Go.Proofs.Ytglobldnockdoaa
open Go Go.Sl Go.Flt

set_option maxHeartbeats 8000000 in
theorem same_tr (F : Nat → Option Obj) (X : HL) (d : Dt) (ba : Option Addr) (bn bc : Nat) (b2 : Option Addr) (n2 c2 : Nat) (ha : Lst F X 1 (d.bs.map B) ba bn bc) (hb : Lst F X 1 (d.bs.map B) b2 n2 c2) :
    Tr Try.prog 29 [.agg [.int .u32 d.tsn, .int .u16 d.stream, .int .u16 d.ssn, .bool d.un, .bool d.fi, .bool d.la, .slice ba bn bc].toArray, .agg [.int .u32 d.tsn, .int .u16 d.stream, .int .u16 d.ssn, .bool d.un, .bool d.fi, .bool d.la, .slice b2 n2 c2].toArray].toArray F X (fun v H => v = .bool true ∧ H = X) := by
  refine Tr.enter Try.func29 rfl Try.ntmps29 rfl (fun w0 => ?_)
  have h1 : d.bs.length = bn := by have := ha.len; simpa using this
  have h2 : d.bs.length = n2 := by have := hb.len; simpa using this
  repeat' (first | refine S1 ?_ | refine SD ?_ | refine SA (fun _ => ?_) | refine WL.g_split rfl rfl (fun hc => ?_) (fun hc => ?_) | refine WD.g_split rfl rfl (fun hc => ?_) (fun hc => ?_) | refine W.cond rfl (fun hc => ?_) (fun hc => ?_))
  all_goals try (exfalso; simp at hc; done)
  refine WL.s rfl (Rd.cvBS (bs := d.bs) (m := bn) rfl (Src.mono ha.src (fun _ h => h.sublist (.cons _ (.cons _ (.refl _))))) h1) ?_
  repeat' (first | refine S1 ?_ | refine SD ?_ | refine SA (fun _ => ?_) | refine WL.g_split rfl rfl (fun hc => ?_) (fun hc => ?_) | refine WD.g_split rfl rfl (fun hc => ?_) (fun hc => ?_) | refine W.cond rfl (fun hc => ?_) (fun hc => ?_))
  refine WL.s rfl (Rd.cvBS (bs := d.bs) (m := n2) rfl (Src.mono hb.src (fun _ h => h.sublist (.cons _ (.cons _ (.refl _))))) h2) ?_
  repeat' (first | refine S1 ?_ | refine SD ?_ | refine SA (fun _ => ?_) | refine WL.g_split rfl rfl (fun hc => ?_) (fun hc => ?_) | refine WD.g_split rfl rfl (fun hc => ?_) (fun hc => ?_) | refine W.cond rfl (fun hc => ?_) (fun hc => ?_))
  refine WL.p rfl (by exact Pu.eqS rfl rfl) ?_
  repeat' (first | refine S1 ?_ | refine SD ?_ | refine SA (fun _ => ?_) | refine WL.g_split rfl rfl (fun hc => ?_) (fun hc => ?_) | refine WD.g_split rfl rfl (fun hc => ?_) (fun hc => ?_) | refine W.cond rfl (fun hc => ?_) (fun hc => ?_))
  refine Fin.retW (by exact rfl) resA (H' := X) (fun _ h => h.sublist (.cons _ (.cons _ (.refl _)))) ⟨?_, rfl⟩
  simp [tup]
set_option maxHeartbeats 8000000 in
theorem sameL_tr (F : Nat → Option Obj) (X : HL) (l : List Int) (sa : Option Addr) (sn sc : Nat) (ta : Option Addr) (tn tc : Nat) (hl : Lst F X 1 (l.map (Value.int .u32)) sa sn sc) (hm : Lst F X 1 (l.map (Value.int .u32)) ta tn tc) (hs : l.length ≤ 1000000) :
    Tr Try.prog 32 [.slice sa sn sc, .slice ta tn tc].toArray F X (fun v H => v = .bool true ∧ H = X) := by
  refine Tr.enter Try.func32 rfl Try.ntmps32 rfl (fun w0 => ?_)
  have h1 := lst_int hl
  have h2 := lst_int hm
  obtain rfl : tn = sn := by omega
  repeat' (first | refine S1 ?_ | refine SD ?_ | refine SA (fun _ => ?_) | refine WL.g_split rfl rfl (fun hc => ?_) (fun hc => ?_) | refine WD.g_split rfl rfl (fun hc => ?_) (fun hc => ?_) | refine W.cond rfl (fun hc => ?_) (fun hc => ?_))
  · exfalso; simp at hc
  refine W.loop (G := Nat) (fun i => [(0, .slice sa tn sc), (1, .slice ta tn tc), (5, .int .i64 i)]) (fun _ => X) (fun i => i ≤ tn) (fun i => tn - i) 0 (Nat.zero_le _) envA (fun _ h => h) ?_
  intro i hi
  repeat' (first | refine S1 ?_ | refine SD ?_ | refine SA (fun _ => ?_) | refine WL.g_split rfl rfl (fun hc => ?_) (fun hc => ?_) | refine WD.g_split rfl rfl (fun hc => ?_) (fun hc => ?_) | refine W.cond rfl (fun hc => ?_) (fun hc => ?_))
  · have hi' : i < tn := by have := of_decide_eq_true hc; omega
    obtain ⟨a, hga⟩ : ∃ a, l[i]? = some a := ⟨l[i]'(by omega), by simp⟩
    obtain ⟨b, o, rfl, c1⟩ := lst_el hl hga
    obtain ⟨b', o', rfl, c2⟩ := lst_el hm hga
    have hia : 0 ≤ (i : Int) ∧ (i : Int) < tn := by omega
    repeat' (first | refine S1 ?_ | refine SD ?_ | refine SA (fun _ => ?_) | refine WL.g_split rfl rfl (fun hc => ?_) (fun hc => ?_) | refine WD.g_split rfl rfl (fun hc => ?_) (fun hc => ?_) | refine W.cond rfl (fun hc => ?_) (fun hc => ?_))
    · exfalso; simp at hc
    rw [i64_succ (by omega)]
    exact Fin.round (i + 1) hi' envA (fun _ h => h) (by omega)
  · exact Fin.retW (by exact rfl) resA (fun _ h => h) ⟨rfl, rfl⟩
theorem dm_d {m q : DM} (h : m.d = q.d) : m.cells = [.int .u32 q.d.tsn, .int .u16 q.d.stream, .int .u16 q.d.ssn, .bool q.d.un, .bool q.d.fi, .bool q.d.la, .slice m.ba m.bn m.bc] := by
  unfold DM.cells
  rw [h]
set_option maxHeartbeats 8000000 in
theorem sameD_tr (F : Nat → Option Obj) (X : HL) (ds es : List DM) (sa : Option Addr) (sn sc : Nat) (ta : Option Addr) (tn tc : Nat) (hl : Lst F X 7 (ds.flatMap DM.cells) sa sn sc) (hm : Lst F X 7 (es.flatMap DM.cells) ta tn tc) (hs : ds.length ≤ 1000000) (hd : ds.map (·.d) = es.map (·.d))
    (ho : ∀ m ∈ ds, Lst F X 1 (m.d.bs.map B) m.ba m.bn m.bc) (hp : ∀ m ∈ es, Lst F X 1 (m.d.bs.map B) m.ba m.bn m.bc) :
    Tr Try.prog 36 [.slice sa sn sc, .slice ta tn tc].toArray F X (fun v H => v = .bool true ∧ H = X) := by
  refine Tr.enter Try.func36 rfl Try.ntmps36 rfl (fun w0 => ?_)
  have h1 := lst_len DM.len (by decide) hl
  have h2 := lst_len DM.len (by decide) hm
  have h3 := congrArg List.length hd
  simp only [List.length_map] at h3
  obtain rfl : tn = sn := by omega
  repeat' (first | refine S1 ?_ | refine SD ?_ | refine SA (fun _ => ?_) | refine WL.g_split rfl rfl (fun hc => ?_) (fun hc => ?_) | refine WD.g_split rfl rfl (fun hc => ?_) (fun hc => ?_) | refine W.cond rfl (fun hc => ?_) (fun hc => ?_))
  · exfalso; simp at hc
  refine W.loop (G := Nat) (fun i => [(0, .slice sa tn sc), (1, .slice ta tn tc), (5, .int .i64 i)]) (fun _ => X) (fun i => i ≤ tn) (fun i => tn - i) 0 (Nat.zero_le _) envA (fun _ h => h) ?_
  intro i hi
  repeat' (first | refine S1 ?_ | refine SD ?_ | refine SA (fun _ => ?_) | refine WL.g_split rfl rfl (fun hc => ?_) (fun hc => ?_) | refine WD.g_split rfl rfl (fun hc => ?_) (fun hc => ?_) | refine W.cond rfl (fun hc => ?_) (fun hc => ?_))
  · have hi' : i < tn := by have := of_decide_eq_true hc; omega
    obtain ⟨m, hgm⟩ : ∃ m, ds[i]? = some m := ⟨ds[i]'(by omega), by simp⟩
    obtain ⟨q, hgq⟩ : ∃ q, es[i]? = some q := ⟨es[i]'(by omega), by simp⟩
    have hdq : q.d = m.d := by
      have := congrArg (fun l => l[i]?) hd
      simp only [List.getElem?_map, hgm, hgq, Option.map_some, Option.some.injEq] at this
      exact this.symm
    obtain ⟨b, o, rfl, c1⟩ := hl.el DM.len hgm (by omega)
    obtain ⟨b', o', rfl, c2⟩ := hm.el DM.len hgq (by omega)
    rw [dm_d hdq] at c2
    have hia : 0 ≤ (i : Int) ∧ (i : Int) < tn := by omega
    have hm1 := ho m (List.mem_of_getElem? hgm)
    have hq1 := hp q (List.mem_of_getElem? hgq)
    rw [hdq] at hq1
    repeat' (first | refine S1 ?_ | refine SD ?_ | refine SA (fun _ => ?_) | refine WL.g_split rfl rfl (fun hc => ?_) (fun hc => ?_) | refine WD.g_split rfl rfl (fun hc => ?_) (fun hc => ?_) | refine W.cond rfl (fun hc => ?_) (fun hc => ?_))
    refine WD.s rfl (Rd.ldaC rfl (by exact rfl) c1) ?_
    repeat' (first | refine S1 ?_ | refine SD ?_ | refine SA (fun _ => ?_) | refine WL.g_split rfl rfl (fun hc => ?_) (fun hc => ?_) | refine WD.g_split rfl rfl (fun hc => ?_) (fun hc => ?_) | refine W.cond rfl (fun hc => ?_) (fun hc => ?_))
    refine WD.s rfl (Rd.ldaC rfl (by exact rfl) c2) ?_
    repeat' (first | refine S1 ?_ | refine SD ?_ | refine SA (fun _ => ?_) | refine WL.g_split rfl rfl (fun hc => ?_) (fun hc => ?_) | refine WD.g_split rfl rfl (fun hc => ?_) (fun hc => ?_) | refine W.cond rfl (fun hc => ?_) (fun hc => ?_))
    refine WD.e rfl (Ef.callR (c := X) (by exact rfl) (.last .all) (same_tr _ X m.d m.ba m.bn m.bc q.ba q.bn q.bc hm1 hq1)) ?_
    rintro _ _ ⟨rfl, rfl⟩
    refine ⟨.inr (fun _ h => h), ?_⟩
    repeat' (first | refine S1 ?_ | refine SD ?_ | refine SA (fun _ => ?_) | refine WL.g_split rfl rfl (fun hc => ?_) (fun hc => ?_) | refine WD.g_split rfl rfl (fun hc => ?_) (fun hc => ?_) | refine W.cond rfl (fun hc => ?_) (fun hc => ?_))
    rw [i64_succ (by omega)]
    exact Fin.round (i + 1) hi' envA (fun _ h => h) (by omega)
  · exact Fin.retW (by exact rfl) resA (fun _ h => h) ⟨rfl, rfl⟩
end Go.Proofs.Ytglobldnockdoaa
