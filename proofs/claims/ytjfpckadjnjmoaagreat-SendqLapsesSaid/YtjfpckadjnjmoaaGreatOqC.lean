/- A queue of messages: those whose time is over are let go, walked. Conditions: it is well formed. -/
import Derived.Test.YtjfpckadjnjmoaaGreatOqB
import Derived.Test.YtjfpckadjnjmoaaGreatFlE
import Derived.Test.YtjfpckadjnjmoaaGreatSlW
namespace Go.Proofs.YtjfpckadjnjmoaaGreat
open Go Go.Sl Go.Oq

theorem orest_tr (F : Nat → Option Obj) (m : ItM) (hc : Sl.Can F [] m.b 0 m.cells) : Tr Tryz.prog 53 [ptr m.b].toArray F [] (fun v H => ∃ dm : DM, v = .agg dm.cells.toArray ∧ dm.ok ∧ dm.d = Oq.rest m.it ∧ dm.bn = 1 ∧ H = dm.bb) := by
  refine Tr.enter Tryz.func53 rfl Tryz.ntmps53 rfl (fun w0 => ?_)
  have h0 : Sl.Can F [] m.b (0 + 0 + 0) [.int .u16 m.it.stream] := hc.one (i := 0) rfl
  have h1 : Sl.Can F [] m.b (0 + 0 + 1) [.bool m.it.ord] := hc.one (i := 1) rfl
  have h6 : Sl.Can F [] m.b (0 + 6) [.int .u16 m.it.ssn] := hc.one (i := 6) rfl
  repeat' (first | refine S2b ?_ | refine SD ?_ | refine SA (fun _ => ?_) | refine G1 (fun hc => ?_) (fun hc => ?_) | refine G2 (fun hc => ?_) (fun hc => ?_) | refine G3 (fun hc => ?_) (fun hc => ?_) | refine SL ?_ | fail)
  rename_i b2 b18
  exact Fin.retW (by exact rfl) resA (H' := [(b18, .cells [.int .u8 0].toArray 5 (0, 0))]) (fun _ h => h.sublist (.cons_cons _ (List.nil_sublist _))) ⟨⟨Oq.rest m.it, some ⟨b18, 0, none⟩, 1, 1, [(b18, .cells [.int .u8 0].toArray 5 (0, 0))]⟩, rfl, .inr ⟨b18, 1, 1, [], [], [], rfl, rfl, rfl, Nat.le_refl _, rfl, by decide⟩, rfl, rfl, rfl⟩
/-- what the function that is handed on owns: the moment, how many bytes are gone, the piece, its message, whether there is one -/
structure Cap5 where
  b3 : Nat
  b7 : Nat
  b4 : Nat
  b5 : Nat
  b6 : Nat
def Cap5.vals (c : Cap5) : List Value := [ptr c.b3, ptr c.b7, ptr c.b4, ptr c.b5, ptr c.b6]
def Cap5.H (c : Cap5) (now : Int) (q : Int × Flt.Dt × Int × Bool) (dm : DM) : HL := (c.b3, .cells [.int .i64 now].toArray 2 (0, 0)) :: (c.b7, .cells [.int .i64 q.1].toArray 3 (0, 0)) :: (c.b4, .cells dm.cells.toArray 50 (0, 0)) :: (c.b5, .cells [.int .i64 q.2.2.1].toArray 3 (0, 0)) :: (c.b6, .cells [.bool q.2.2.2].toArray 4 (0, 0)) :: dm.bb
structure SeeQ (q : Int × Flt.Dt × Int × Bool) (dm : DM) (N : Int) : Prop where
  ok : dm.ok
  d : dm.d = q.2.1
  rng : -N ≤ q.1 ∧ q.1 ≤ N
set_option maxHeartbeats 4000000 in
theorem see1_tr (F : Nat → Option Obj) (c : Cap5) (now : Int) (q : Int × Flt.Dt × Int × Bool) (dm : DM) {N : Int} (hq : SeeQ q dm N) (hN : N ≤ 1000000000000000) (m : ItM) (hl : m.bn = m.it.bs.length) (hm : m.it.Ok) (hcan : Sl.Can F [] m.b 0 m.cells) :
    Tr Tryz.prog 52 ([ptr m.b] ++ c.vals).toArray F (c.H now q dm) (fun v H => v = .bool (Oq.dead now m.it) ∧ ∃ dm' : DM, SeeQ (Oq.seeI now q m.it) dm' (N + 1048577) ∧ H = c.H now (Oq.seeI now q m.it) dm') := by
  obtain ⟨b3, b7, b4, b5, b6⟩ := c
  obtain ⟨gone, d, id, is⟩ := q
  refine Tr.enter Tryz.func52 rfl Tryz.ntmps52 rfl (fun w0 => ?_)
  have hq1 := hq.rng
  have hat := hm.at_
  have hsz := hm.size
  dsimp only at hq1
  have h4 : Sl.Can F [] m.b (0 + 4) [.int .i64 m.it.til] := hcan.one (i := 4) rfl
  have h5 : Sl.Can F [] m.b (0 + 5) [.int .i64 m.it.at_] := hcan.one (i := 5) rfl
  have h3 : Sl.Can F [] m.b (0 + 3) [.int .i64 m.it.id] := hcan.one (i := 3) rfl
  unfold Cap5.H Cap5.vals
  dsimp only
  repeat' (first | refine S2b ?_ | refine SA (fun _ => ?_) | refine G1 (fun hc => ?_) (fun hc => ?_) | refine G2 (fun hc => ?_) (fun hc => ?_) | refine G3 (fun hc => ?_) (fun hc => ?_) | refine SL ?_ | fail)
  refine W.drawA ?_
  repeat' (first | refine S2b ?_ | refine SA (fun _ => ?_) | refine G1 (fun hc => ?_) (fun hc => ?_) | refine G2 (fun hc => ?_) (fun hc => ?_) | refine G3 (fun hc => ?_) (fun hc => ?_) | refine SL ?_ | fail)
  · have hd : Oq.dead now m.it = false := decide_eq_false (by have := of_decide_eq_true hc; omega)
    have hs : Oq.seeI now (gone, d, id, is) m.it = (gone, d, id, is) := by unfold Oq.seeI; rw [if_neg (by rw [hd]; decide)]
    rw [hd, hs]
    exact Fin.retW (by exact rfl) resA (fun _ h => h) ⟨rfl, dm, ⟨hq.ok, hq.d, by dsimp only; omega⟩, rfl⟩
  · have hd : Oq.dead now m.it = false := decide_eq_false (by have := of_decide_eq_true hc; omega)
    have hs : Oq.seeI now (gone, d, id, is) m.it = (gone, d, id, is) := by unfold Oq.seeI; rw [if_neg (by rw [hd]; decide)]
    rw [hd, hs]
    exact Fin.retW (by exact rfl) resA (fun _ h => h) ⟨rfl, dm, ⟨hq.ok, hq.d, by dsimp only; omega⟩, rfl⟩
  have hd : Oq.dead now m.it = true := by
    have h1 := of_decide_eq_false hc
    have h2 := of_decide_eq_false ‹decide (m.it.til < 1) = false›
    exact decide_eq_true (by omega)
  rw [hd]
  have hleft : (left m.it : Int) = (m.it.bs.length : Int) - m.it.at_ := by unfold left; omega
  refine W.drawA ?_
  repeat' (first | refine S2b ?_ | refine SA (fun _ => ?_) | refine G1 (fun hc => ?_) (fun hc => ?_) | refine G2 (fun hc => ?_) (fun hc => ?_) | refine G3 (fun hc => ?_) (fun hc => ?_) | refine SL ?_ | fail)
  refine WD.e rfl (Ef.lookR (by exact rfl) (fun F' hF => oleft_tr F' m hl (by omega) (by omega) (hcan.mono (fun w h => (hF w h).sublist (List.nil_sublist _))))) ?_
  rintro _ _ ⟨rfl, rfl⟩
  refine ⟨.inr (fun _ h => h), ?_⟩
  repeat' (first | refine S2b ?_ | refine SA (fun _ => ?_) | refine G1 (fun hc => ?_) (fun hc => ?_) | refine G2 (fun hc => ?_) (fun hc => ?_) | refine G3 (fun hc => ?_) (fun hc => ?_) | refine SL ?_ | fail)
  all_goals rw [i64_id (n := gone + (left m.it : Int)) (by omega) (by omega)]
  · have hbg : Oq.begun m.it = true := decide_eq_true (by have := of_decide_eq_true hc; omega)
    have hs : Oq.seeI now (gone, d, id, is) m.it = (gone + goneI m.it, Oq.rest m.it, m.it.id, true) := by unfold Oq.seeI; rw [if_pos hd, if_pos hbg]
    have hg1 : goneI m.it = (left m.it : Int) - 1 := by unfold goneI; rw [if_pos hbg]
    rw [hs]
    refine W.draw [] (by kernel_rfl) (by kernel_rfl) (fun _ h => h.sublist (List.nil_sublist _)) ?_
    repeat' (first | refine S2b ?_ | refine SA (fun _ => ?_) | refine G1 (fun hc => ?_) (fun hc => ?_) | refine G2 (fun hc => ?_) (fun hc => ?_) | refine G3 (fun hc => ?_) (fun hc => ?_) | refine SL ?_ | fail)
    refine WD.e rfl (Ef.look (by exact rfl) (fun F' hF => orest_tr F' m (hcan.mono (fun w h => (hF w h).sublist (List.nil_sublist _))))) ?_
    rintro _ _ ⟨H1, ⟨dm', rfl, hok', hd', hbn', rfl⟩, rfl⟩
    refine ⟨.inr (fun _ h => h.sublist (List.nil_sublist _)), ?_⟩
    repeat' (first | refine S2c ?_ | refine SA (fun _ => ?_) | refine G1 (fun hc => ?_) (fun hc => ?_) | refine G2 (fun hc => ?_) (fun hc => ?_) | refine G3 (fun hc => ?_) (fun hc => ?_) | refine SL ?_ | fail)
    refine WD.e0 (Ef.sta rfl rfl rfl rfl (.right (.there (.there (.here rfl))))) ?_
    rintro _ _ ⟨rfl, rfl⟩
    refine ⟨.inr (fun _ h => h.sublist (List.nil_sublist _)), ?_⟩
    repeat' (first | refine S2c ?_ | refine SA (fun _ => ?_) | refine G1 (fun hc => ?_) (fun hc => ?_) | refine G2 (fun hc => ?_) (fun hc => ?_) | refine G3 (fun hc => ?_) (fun hc => ?_) | refine SL ?_ | fail)
    refine WD.e0 (Ef.st rfl rfl rfl (.right (.there (.there (.there (.here rfl)))))) ?_
    rintro _ _ ⟨rfl, rfl⟩
    refine ⟨.inr (fun _ h => h.sublist (List.nil_sublist _)), ?_⟩
    repeat' (first | refine S2c ?_ | refine SA (fun _ => ?_) | refine G1 (fun hc => ?_) (fun hc => ?_) | refine G2 (fun hc => ?_) (fun hc => ?_) | refine G3 (fun hc => ?_) (fun hc => ?_) | refine SL ?_ | fail)
    refine WD.e0 (Ef.st rfl rfl rfl (.right (.there (.there (.there (.there (.here rfl))))))) ?_
    rintro _ _ ⟨rfl, rfl⟩
    refine ⟨.inr (fun _ h => h.sublist (List.nil_sublist _)), ?_⟩
    repeat' (first | refine S2b ?_ | refine SA (fun _ => ?_) | refine G1 (fun hc => ?_) (fun hc => ?_) | refine G2 (fun hc => ?_) (fun hc => ?_) | refine G3 (fun hc => ?_) (fun hc => ?_) | refine SL ?_ | fail)
    have e1 : IntKind.i64.wrap (gone + (left m.it : Int) - (dm'.bn : Int)) = gone + ((left m.it : Int) - 1) := by rw [hbn', i64_id (by omega) (by omega)]; omega
    rw [hg1, e1]
    refine Fin.retW (by exact rfl) resA (fun _ h => ?_) ⟨rfl, dm', ⟨hok', hd', by dsimp only; omega⟩, rfl⟩
    exact In.of_sub (.pick (.right .here) (.pick (.right .here) (.pick (.right .here) (.pick (.right .here) (.pick (.right .here) (.last .here)))))) h
  · have hbg : Oq.begun m.it = false := decide_eq_false (by have := of_decide_eq_false hc; omega)
    have hs : Oq.seeI now (gone, d, id, is) m.it = (gone + goneI m.it, d, id, is) := by unfold Oq.seeI; rw [if_pos hd, if_neg (by rw [hbg]; decide)]
    have hg1 : goneI m.it = (left m.it : Int) := by unfold goneI; rw [if_neg (by rw [hbg]; decide)]; omega
    rw [hs, hg1]
    exact Fin.retW (by exact rfl) resA (fun _ h => h) ⟨rfl, dm, ⟨hq.ok, hq.d, by dsimp only; omega⟩, rfl⟩
/-! ### the first one whose time is over -/
def deadO (now : Int) (m : ItM) : Bool := Oq.dead now m.it
def seeN (now : Int) (q : Int × Flt.Dt × Int × Bool) (l : List ItM) : Int × Flt.Dt × Int × Bool := l.foldl (fun q m => Oq.seeI now q m.it) q
theorem seeI_alive {now : Int} {q : Int × Flt.Dt × Int × Bool} {m : ItM} (h : deadO now m = false) : Oq.seeI now q m.it = q := by
  unfold Oq.seeI
  exact if_neg (by unfold deadO at h; rw [h]; decide)
theorem seeN_alive (now : Int) (q : Int × Flt.Dt × Int × Bool) {l : List ItM} (h : ∀ m ∈ l, deadO now m = false) : seeN now q l = q := by
  induction l with
  | nil => rfl
  | cons m l ih =>
    show seeN now (Oq.seeI now q m.it) l = q
    rw [seeI_alive (h m List.mem_cons_self)]
    exact ih (fun y hy => h y (List.mem_cons_of_mem _ hy))
theorem seeN_snoc (now : Int) (q : Int × Flt.Dt × Int × Bool) {l : List ItM} {j : Nat} {m : ItM} (h : l[j]? = some m) : seeN now q (l.take (j + 1)) = Oq.seeI now (seeN now q (l.take j)) m.it := by
  rw [List.take_add_one, h]
  unfold seeN
  rw [List.foldl_append]
  rfl
def pC (m : ItM) : List Value := [ptr m.b]
theorem pC_len (m : ItM) : (pC m).length = 1 := rfl
def idxO (o : Option Nat) : Int := match o with | some k => k | none => -1
structure GIo where
  i : Nat
  dm : DM
set_option maxHeartbeats 4000000 in
theorem idxO_tr (F : Nat → Option Obj) (c : Cap5) (now : Int) (q : Int × Flt.Dt × Int × Bool) (dm : DM) {N : Int} (hq : SeeQ q dm N) (hN : N ≤ 100000000000000) (L : List ItM) (hits : ∀ m ∈ L, m.bn = m.it.bs.length ∧ m.it.Ok ∧ Sl.Can F [] m.b 0 m.cells) (la : Option Addr) (ln lc : Nat) (lb : HL) (hown : OwnS 139 1 (L.flatMap pC) (.slice la ln lc) lb) (hn : L.length ≤ 1000000) :
    Tr Tryz.prog 90 [.slice la ln lc, .func (.func 52) ([] : List Value).toArray c.vals.toArray].toArray F (lb ++ c.H now q dm) (fun v H => v = .int .i64 (idxO (L.findIdx? (deadO now))) ∧ ∃ dm' : DM, SeeQ (match L.findIdx? (deadO now) with | some k => seeN now q (L.take (k + 1)) | none => q) dm' (N + 1048577) ∧ H = lb ++ c.H now (match L.findIdx? (deadO now) with | some k => seeN now q (L.take (k + 1)) | none => q) dm') := by
  refine Tr.enter Tryz.func90 rfl Tryz.ntmps90 rfl (fun w0 => ?_)
  have hln : L.length = ln := by have := OwnS.len hown; rw [flat_len' pC 1 pC_len] at this; omega
  have hwide : ∀ {q' : Int × Flt.Dt × Int × Bool} {d' : DM}, SeeQ q' d' N → SeeQ q' d' (N + 1048577) := fun h => ⟨h.ok, h.d, by have := h.rng; omega⟩
  repeat' (first | refine S2b ?_ | refine SD ?_ | refine SA (fun _ => ?_) | refine G1 (fun hc => ?_) (fun hc => ?_) | refine G2 (fun hc => ?_) (fun hc => ?_) | refine G3 (fun hc => ?_) (fun hc => ?_) | refine SL ?_ | fail)
  refine W.loop (G := GIo) (fun g => [(0, .slice la ln lc), (1, .func (.func 52) ([] : List Value).toArray c.vals.toArray), (7, .int .i64 ln), (8, .int .i64 g.i)]) (fun g => lb ++ c.H now q g.dm) (fun g => g.i ≤ ln ∧ (∀ x ∈ L.take g.i, deadO now x = false) ∧ SeeQ q g.dm N) (fun g => ln - g.i) ⟨0, dm⟩ ⟨Nat.zero_le _, (fun _ h => by simp at h), hq⟩ envA (fun _ h => h) ?_
  rintro ⟨i, g⟩ ⟨hi, hal, hg⟩
  dsimp only at hi hal hg ⊢
  repeat' (first | refine S2b ?_ | refine SA (fun _ => ?_) | refine G1 (fun hc => ?_) (fun hc => ?_) | refine G2 (fun hc => ?_) (fun hc => ?_) | refine SL ?_ | fail)
  cases hc : decide ((i : Int) < ln) with
  | false =>
    have hi' : i = L.length := by have := of_decide_eq_false hc; omega
    subst hi'
    rw [List.take_length] at hal
    have hnone : L.findIdx? (deadO now) = none := List.findIdx?_eq_none_iff.2 hal
    rw [hnone]
    repeat' (first | refine S2b ?_ | refine SA (fun _ => ?_) | refine G1 (fun hc => ?_) (fun hc => ?_) | refine G2 (fun hc => ?_) (fun hc => ?_) | refine G3 (fun hc => ?_) (fun hc => ?_) | refine SL ?_ | fail)
    exact Fin.retW (by exact rfl) resA (fun _ h => h) ⟨rfl, g, hwide hg, rfl⟩
  | true =>
  have hi' : i < ln := by have := of_decide_eq_true hc; omega
  obtain ⟨m, hm⟩ : ∃ x, L[i]? = some x := ⟨L[i]'(by omega), List.getElem?_eq_getElem _⟩
  obtain ⟨hm1, hm2, hm3⟩ := hits m (List.mem_of_getElem? hm)
  obtain ⟨sb, so, hla, hcan⟩ := (Lst.own (F := F) hown (fun _ h => h)).el pC_len hm (by omega)
  have hia : 0 ≤ (i : Int) ∧ (i : Int) < ln := by omega
  have hcan' : Sl.Can F (lb ++ c.H now q g) sb (so + (i : Int).toNat * 1) [ptr m.b] := hcan.mono (fun w h => h.left)
  rw [hla]
  repeat' (first | refine S2b ?_ | refine SA (fun _ => ?_) | refine G1 (fun hc => ?_) (fun hc => ?_) | refine G2 (fun hc => ?_) (fun hc => ?_) | refine G3 (fun hc => ?_) (fun hc => ?_) | refine SL ?_ | fail)
  refine WL.e rfl (Ef.callVW (fv := []) (cv := c.vals) (vals := [ptr m.b]) (c := c.H now q g) rfl (by exact rfl) rfl (.last (.right .all)) (fun F' hF => by
    have h := see1_tr F' c now q g hg (by omega) m hm1 hm2 (hm3.mono (fun w h => (hF w h).sublist (List.nil_sublist _)))
    exact h)) ?_
  rintro _ _ ⟨_, ⟨rfl, dm', hdm', rfl⟩, rfl⟩
  have hsn : L.take (i + 1) = L.take i ++ [m] := by rw [List.take_add_one, hm]; rfl
  cases hd : Oq.dead now m.it with
  | true =>
    have hsome : L.findIdx? (deadO now) = some i := by
      rw [List.findIdx?_eq_some_iff_getElem]
      refine ⟨by omega, by rw [(List.getElem?_eq_some_iff.1 hm).2]; exact hd, fun j hj => ?_⟩
      rw [hal L[j] (by rw [List.mem_take_iff_getElem]; exact ⟨j, by omega, rfl⟩)]
      decide
    have hse : seeN now q (L.take (i + 1)) = Oq.seeI now q m.it := by rw [seeN_snoc now q hm, seeN_alive now q hal]
    rw [hsome]
    dsimp only
    rw [hse]
    repeat' (first | refine S2b ?_ | refine SA (fun _ => ?_) | refine G1 (fun hc => ?_) (fun hc => ?_) | refine G2 (fun hc => ?_) (fun hc => ?_) | refine G3 (fun hc => ?_) (fun hc => ?_) | refine SL ?_ | fail)
    refine Fin.retW (by exact rfl) resA (H' := lb ++ c.H now (Oq.seeI now q m.it) dm') (fun _ h => ?_) ⟨rfl, dm', hdm', rfl⟩
    rw [List.append_nil] at h
    exact h.perm List.perm_append_comm
  | false =>
    have hsame : Oq.seeI now q m.it = q := seeI_alive hd
    rw [hsame] at hdm' ⊢
    repeat' (first | refine S2b ?_ | refine SA (fun _ => ?_) | refine G1 (fun hc => ?_) (fun hc => ?_) | refine G2 (fun hc => ?_) (fun hc => ?_) | refine G3 (fun hc => ?_) (fun hc => ?_) | refine SL ?_ | fail)
    rw [i64_succ (by omega), ← hla]
    refine Fin.round ⟨i + 1, dm'⟩ ⟨hi', fun y hy => ?_, ⟨hdm'.ok, hdm'.d, hg.rng⟩⟩ envA (fun _ h => ?_) (by dsimp only; omega)
    · rw [hsn] at hy
      rcases List.mem_append.1 hy with hy | hy
      · exact hal y hy
      · rw [List.mem_singleton.1 hy]; exact hd
    · rw [List.append_nil] at h
      exact h.perm List.perm_append_comm
/-! ### all whose time is over are struck out -/
structure GDo where
  j : Nat
  X : List ItM
  hb : HL
  dm : DM
def aliveO (now : Int) (L : List ItM) : List ItM := L.filter (fun x => !deadO now x)
set_option maxHeartbeats 4000000 in
theorem delO_tr (F : Nat → Option Obj) (c : Cap5) (now : Int) (q : Int × Flt.Dt × Int × Bool) (dm : DM) (hq : SeeQ q dm 0) (L : List ItM) (hits : ∀ m ∈ L, m.bn = m.it.bs.length ∧ m.it.Ok ∧ Sl.Can F [] m.b 0 m.cells) (la : Option Addr) (ln lc : Nat) (lb : HL) (hown : OwnS 139 1 (L.flatMap pC) (.slice la ln lc) lb) (hn : L.length ≤ 1000000) :
    Tr Tryz.prog 51 [.slice la ln lc, .func (.func 52) ([] : List Value).toArray c.vals.toArray].toArray F (lb ++ c.H now q dm) (fun v H => ∃ (hb : HL) (dm' : DM), v = .slice la (aliveO now L).length lc ∧ OwnS 139 1 ((aliveO now L).flatMap pC) (.slice la (aliveO now L).length lc) hb ∧ SeeQ (seeN now q L) dm' 2000000000000 ∧ H = hb ++ c.H now (seeN now q L) dm') := by
  refine Tr.enter Tryz.func51 rfl Tryz.ntmps51 rfl (fun w0 => ?_)
  have hln : L.length = ln := by have := OwnS.len hown; rw [flat_len' pC 1 pC_len] at this; omega
  repeat' (first | refine S2b ?_ | refine SA (fun _ => ?_) | refine G1 (fun hc => ?_) (fun hc => ?_) | refine G2 (fun hc => ?_) (fun hc => ?_) | refine G3 (fun hc => ?_) (fun hc => ?_) | refine SL ?_ | fail)
  refine WL.e rfl (Ef.callW (c := lb ++ c.H now q dm) (by exact rfl) (.all _) (fun F' hF => idxO_tr F' c now q dm hq (by decide) L (fun m hm => ⟨(hits m hm).1, (hits m hm).2.1, (hits m hm).2.2.mono hF⟩) la ln lc lb hown hn)) ?_
  rintro _ _ ⟨_, ⟨rfl, dm1, hdm1, rfl⟩, rfl⟩
  rw [List.append_nil]
  cases hfi : L.findIdx? (deadO now) with
  | none =>
    rw [hfi] at hdm1
    have hal := List.findIdx?_eq_none_iff.1 hfi
    have hK : aliveO now L = L := List.filter_eq_self.2 (fun x hx => by rw [hal x hx]; rfl)
    have hS : seeN now q L = q := seeN_alive now q hal
    rw [hK, hS, hln]
    unfold idxO
    dsimp only at hdm1 ⊢
    repeat' (first | refine S2b ?_ | refine SA (fun _ => ?_) | refine G1 (fun hc => ?_) (fun hc => ?_) | refine G2 (fun hc => ?_) (fun hc => ?_) | refine G3 (fun hc => ?_) (fun hc => ?_) | refine SL ?_ | fail)
    exact Fin.retW (by exact rfl) resA (fun _ h => h) ⟨lb, dm1, rfl, hown, ⟨hdm1.ok, hdm1.d, by have := hdm1.rng; omega⟩, rfl⟩
  | some i0 =>
  rw [hfi] at hdm1
  dsimp only at hdm1
  obtain ⟨hi0, hp0, hb0⟩ := List.findIdx?_eq_some_iff_getElem.1 hfi
  have hal : ∀ x ∈ L.take i0, deadO now x = false := fun x hx => by
    obtain ⟨j, hj, rfl⟩ := List.mem_take_iff_getElem.1 hx
    have := hb0 j (by omega)
    simpa using this
  have hK0 : (L.take i0).filter (fun x => !deadO now x) = L.take i0 := List.filter_eq_self.2 (fun x hx => by rw [hal x hx]; rfl)
  have hK1 : (L.take (i0 + 1)).filter (fun x => !deadO now x) = L.take i0 := by
    rw [List.take_add_one, List.getElem?_eq_getElem hi0, List.filter_append, hK0]
    simp [hp0]
  have hlt : (aliveO now L).length < L.length := by
    unfold aliveO
    rw [List.length_filter_lt_length_iff_exists]
    exact ⟨L[i0], List.getElem_mem _, by rw [hp0]; decide⟩
  obtain ⟨sb, so, rfl⟩ := OwnS.addr hown (by omega)
  have hD0 : Dl (deadO now) L L (i0 + 1) := ⟨rfl, by rw [hK1, List.length_take, Nat.min_eq_left (by omega)], rfl⟩
  unfold idxO
  dsimp only
  repeat' (first | refine S2b ?_ | refine SA (fun _ => ?_) | refine G1 (fun hc => ?_) (fun hc => ?_) | refine G2 (fun hc => ?_) (fun hc => ?_) | refine G3 (fun hc => ?_) (fun hc => ?_) | refine SL ?_ | fail)
  rw [i64_succ (i := i0) (by omega)]
  refine W.loop (G := GDo) (fun g => [(0, .slice (some ⟨sb, so, none⟩) ln lc), (1, .func (.func 52) ([] : List Value).toArray c.vals.toArray), (5, .int .i64 ((L.take g.j).filter (fun x => !deadO now x)).length), (6, .int .i64 g.j)]) (fun g => g.hb ++ c.H now (seeN now q (L.take g.j)) g.dm)
    (fun g => g.j ≤ ln ∧ Dl (deadO now) L g.X g.j ∧ OwnS 139 1 (g.X.flatMap pC) (.slice (some ⟨sb, so, none⟩) ln lc) g.hb ∧ SeeQ (seeN now q (L.take g.j)) g.dm (1048577 * g.j + 1048577)) (fun g => ln - g.j) ⟨i0 + 1, L, lb, dm1⟩ ⟨by dsimp only; omega, hD0, hown, ⟨hdm1.ok, hdm1.d, by have := hdm1.rng; dsimp only; omega⟩⟩ (by dsimp only; rw [hK1, List.length_take, Nat.min_eq_left (by omega)]; exact envA) (fun _ h => h) ?_
  clear hdm1 hD0
  rintro ⟨j, X, hb, g⟩ ⟨hj, hD, hX, hg⟩
  dsimp only at hj hD hX hg ⊢
  obtain ⟨k, hk⟩ : ∃ k, ((L.take j).filter (fun x => !deadO now x)).length = k := ⟨_, rfl⟩
  have hkj := hD.kept
  rw [hk] at hkj ⊢
  have hXl := hD.len
  repeat' (first | refine S2b ?_ | refine SA (fun _ => ?_) | refine G1 (fun hc => ?_) (fun hc => ?_) | refine G2 (fun hc => ?_) (fun hc => ?_) | refine SL ?_ | fail)
  cases hc : decide ((j : Int) < ln) with
  | true =>
    have hj' : j < ln := by have := of_decide_eq_true hc; omega
    obtain ⟨m, hm⟩ : ∃ x, L[j]? = some x := ⟨L[j]'(by omega), List.getElem?_eq_getElem _⟩
    obtain ⟨hm1, hm2, hm3⟩ := hits m (List.mem_of_getElem? hm)
    have hXx := hD.get hm
    obtain ⟨sb', so', hla', hcan⟩ := (Lst.own (F := F) hX (fun _ h => h)).el pC_len hXx (by omega)
    cases hla'
    have hia : 0 ≤ (j : Int) ∧ (j : Int) < ln := by omega
    have hik : 0 ≤ (k : Int) ∧ (k : Int) < ln := by omega
    have hcan' : Sl.Can F (hb ++ c.H now (seeN now q (L.take j)) g) sb (so + (j : Int).toNat * 1) [ptr m.b] := hcan.mono (fun w h => h.left)
    repeat' (first | refine S2b ?_ | refine SA (fun _ => ?_) | refine G1 (fun hc => ?_) (fun hc => ?_) | refine G2 (fun hc => ?_) (fun hc => ?_) | refine G3 (fun hc => ?_) (fun hc => ?_) | refine SL ?_ | fail)
    clear hcan hcan'
    refine WL.e rfl (Ef.callVW (fv := []) (cv := c.vals) (vals := [ptr m.b]) (c := c.H now (seeN now q (L.take j)) g) rfl (by exact rfl) rfl (.last (.right .all)) (fun F' hF => by
      have h := see1_tr F' c now _ g hg (by omega) m hm1 hm2 (hm3.mono (fun w h => (hF w h).sublist (List.nil_sublist _)))
      exact h)) ?_
    rintro _ _ ⟨_, ⟨rfl, dm', hdm', rfl⟩, rfl⟩
    have hse := seeN_snoc now q hm
    rw [← hse] at hdm' ⊢
    refine WL.weak (H' := hb ++ c.H now (seeN now q (L.take (j + 1))) dm') (fun _ h => by rw [List.append_nil] at h; exact h.perm List.perm_append_comm) ?_
    have hdm2 : SeeQ (seeN now q (L.take (j + 1))) dm' (1048577 * ((j + 1 : Nat) : Int) + 1048577) := ⟨hdm'.ok, hdm'.d, by have := hdm'.rng; omega⟩
    cases hd : Oq.dead now m.it with
    | true =>
      have hsame : (L.take (j + 1)).filter (fun x => !deadO now x) = (L.take j).filter (fun x => !deadO now x) := by
        rw [List.take_add_one, hm, List.filter_append]
        have : deadO now m = true := hd
        simp [this]
      repeat' (first | refine S2b ?_ | refine SA (fun _ => ?_) | refine G1 (fun hc => ?_) (fun hc => ?_) | refine G2 (fun hc => ?_) (fun hc => ?_) | refine G3 (fun hc => ?_) (fun hc => ?_) | refine SL ?_ | fail)
      rw [i64_succ (i := j) (by omega)]
      refine Fin.round ⟨j + 1, X, hb, dm'⟩ ⟨by dsimp only; omega, hD.goes hm hd, hX, hdm2⟩ (by dsimp only; rw [hsame, hk]; exact envA) (fun _ h => h) (by dsimp only; omega)
    | false =>
      obtain ⟨hD', hlen'⟩ := hD.stays hm hd
      rw [hk] at hD' hlen'
      obtain ⟨hb', hX', hput⟩ := hX.setEl pC_len (k := k) (by omega) m
      have hput' : PutAt sb (so + (k : Int).toNat * 1) [ptr m.b] hb hb' := hput
      repeat' (first | refine S2b ?_ | refine SA (fun _ => ?_) | refine G1 (fun hc => ?_) (fun hc => ?_) | refine G2 (fun hc => ?_) (fun hc => ?_) | refine G3 (fun hc => ?_) (fun hc => ?_) | refine SL ?_ | fail)
      refine WL.e0 (Ef.st rfl rfl rfl (.left hput')) ?_
      rintro _ _ ⟨rfl, rfl⟩
      repeat' (first | refine S2b ?_ | refine SA (fun _ => ?_) | refine G1 (fun hc => ?_) (fun hc => ?_) | refine G2 (fun hc => ?_) (fun hc => ?_) | refine G3 (fun hc => ?_) (fun hc => ?_) | refine SL ?_ | fail)
      rw [i64_succ (i := j) (by omega), i64_succ (i := k) (by omega)]
      refine Fin.round ⟨j + 1, X.set k m, hb', dm'⟩ ⟨by dsimp only; omega, hD', hX', hdm2⟩ (by dsimp only; rw [hlen']; exact envA) (fun _ h => h) (by dsimp only; omega)
  | false =>
    have hj' : j = L.length := by have := of_decide_eq_false hc; omega
    subst hj'
    rw [List.take_length] at hk hg ⊢
    have hK : aliveO now L = X.take k := by
      have := hD.pre
      rw [List.take_length, hk] at this
      exact this.symm
    have hkl : (aliveO now L).length = k := hk
    have hkn : k < ln := by omega
    obtain ⟨r, hr⟩ : ∃ r, ln - k = r + 1 := ⟨ln - k - 1, by omega⟩
    have hXc : (X.flatMap pC).length = L.length * 1 := by rw [flat_len' pC 1 pC_len, hXl]
    obtain ⟨hb', hX', hput⟩ := hX.put (k * 1) (mkCells [.pointer none] (r + 1)) (by rw [length_mkCells, hXc]; simp only [List.length_cons, List.length_nil]; omega)
    have hX2 := hX'.shrink (k := k) (by omega)
    rw [show ((X.flatMap pC).take (k * 1) ++ mkCells [.pointer none] (r + 1) ++ (X.flatMap pC).drop (k * 1 + (mkCells [.pointer none] (r + 1)).length)).take (k * 1) = (aliveO now L).flatMap pC from by
      rw [List.append_assoc, List.take_left' (by rw [List.length_take, hXc]; omega), flat_take pC_len, hK]] at hX2
    have hlc : ln ≤ lc := by obtain ⟨_, _, _, he, _, h⟩ := OwnS.shape hX; cases he; exact h
    repeat' (first | refine S2b ?_ | refine SA (fun _ => ?_) | refine G1 (fun hc => ?_) (fun hc => ?_) | refine G2 (fun hc => ?_) (fun hc => ?_) | refine G3 (fun hc => ?_) (fun hc => ?_) | refine SL ?_ | fail)
    refine WL.p rfl (by exact Pu.slLo rfl rfl (by omega)) ?_
    rw [show ((k : Int)).toNat = k from rfl, hr, if_neg (by omega), Option.map_some, add_lit]
    refine WL.e0 (Ef.clr (z := [.pointer none]) rfl rfl rfl (.left hput)) ?_
    rintro _ _ ⟨rfl, rfl⟩
    repeat' (first | refine S2b ?_ | refine SA (fun _ => ?_) | refine G1 (fun hc => ?_) (fun hc => ?_) | refine G2 (fun hc => ?_) (fun hc => ?_) | refine G3 (fun hc => ?_) (fun hc => ?_) | refine SL ?_ | fail)
    refine WL.p rfl (by exact Pu.slHi rfl rfl (by omega)) ?_
    rw [show ((k : Int)).toNat = k from rfl]
    repeat' (first | refine S2b ?_ | refine SA (fun _ => ?_) | refine G1 (fun hc => ?_) (fun hc => ?_) | refine G2 (fun hc => ?_) (fun hc => ?_) | refine G3 (fun hc => ?_) (fun hc => ?_) | refine SL ?_ | fail)
    exact Fin.retW (by exact rfl) resA (fun _ h => h) ⟨hb', g, by rw [hkl]; rfl, by rw [hkl]; exact hX2, ⟨hg.ok, hg.d, by have := hg.rng; omega⟩, rfl⟩
/-! ### Expire -/
theorem flat_filter {p : ItM → Bool} : ∀ (l : List ItM), ((l.filter p).flatMap ItM.H).Sublist (l.flatMap ItM.H)
  | [] => .slnil
  | m :: l => by
    rw [List.filter_cons, List.flatMap_cons]
    split
    · rw [List.flatMap_cons]
      exact (List.Sublist.refl _).append (flat_filter l)
    · exact (flat_filter l).trans (List.sublist_append_right _ _)
def zDM0 : DM := ⟨Oq.noD, none, 0, 0, []⟩
theorem seen_eq (o : OqM) (now : Int) : Oq.seen o.S now = seeN now (0, Oq.noD, 0, false) o.is := by
  unfold Oq.seen seeN OqM.S
  dsimp only
  rw [List.foldl_map]
set_option maxHeartbeats 4000000 in
theorem oexp_tr (F : Nat → Option Obj) (o : OqM) (ho : o.ok) (now : Int) : Tr Tryz.prog 26 [ptr o.R, .int .i64 now].toArray F o.H (fun v H => ∃ (dm : DM) (o' : OqM), v = tup [.agg dm.cells.toArray, .int .i64 (Oq.seen o.S now).2.2.1, .bool (Oq.seen o.S now).2.2.2] ∧ dm.ok ∧ dm.d = (Oq.seen o.S now).2.1 ∧ o'.ok ∧ o'.R = o.R ∧ o'.S = Oq.expire o.S now ∧ H = dm.bb ++ o'.H) := by
  refine Tr.enter Tryz.func26 rfl Tryz.ntmps26 rfl (fun w0 => ?_)
  unfold OqM.H OqM.cells
  repeat' (first | refine S2b ?_ | refine SD ?_ | refine SA (fun _ => ?_) | refine G1 (fun hc => ?_) (fun hc => ?_) | refine G2 (fun hc => ?_) (fun hc => ?_) | refine G3 (fun hc => ?_) (fun hc => ?_) | refine SL ?_ | fail)
  rename_i b3 b4 b5 b6 b7
  have hown := ho.items
  rw [List.map_eq_flatMap] at hown
  have hq0 : SeeQ (0, Oq.noD, 0, false) zDM0 0 := ⟨.inl ⟨rfl, rfl, rfl⟩, rfl, by decide⟩
  refine WL.e rfl (Ef.callW (c := o.ib ++ (⟨b3, b7, b4, b5, b6⟩ : Cap5).H now (0, Oq.noD, 0, false) zDM0) (by exact rfl) (.pickL (L := o.ib) (.there (.there (.there (.there (.there (.there .here)))))) (.pick (.there (.there (.there (.there .here)))) (.pick .here (.pick (.there (.there .here)) (.pick (.there .here) (.pick .here (.nil _))))))) (fun F' hF => delO_tr F' ⟨b3, b7, b4, b5, b6⟩ now (0, Oq.noD, 0, false) zDM0 hq0 o.is (fun m hm => ⟨(OqM.it ho hm).2.2, (OqM.it ho hm).1, (Can.cut (F := F) (H := m.H) (n := 7) (.here rfl)).mono (fun w h => (hF w h).sublist (.cons _ ((flat_sub ItM.H hm).trans (List.sublist_append_right _ _))))⟩) o.ia o.in_ o.ic o.ib hown ho.few)) ?_
  rintro _ _ ⟨_, ⟨hb, dm', rfl, hown', hq', rfl⟩, rfl⟩
  rw [← seen_eq] at hq'
  rw [← seen_eq]
  have hexp : Oq.expire o.S now = Oq.free { o.S with L := o.S.L.filter (fun x => !Oq.dead now x) } (Oq.seen o.S now).1 := rfl
  rw [hexp]
  obtain ⟨q, hq⟩ : ∃ q, Oq.seen o.S now = q := ⟨_, rfl⟩
  rw [hq] at hq' ⊢
  obtain ⟨o1, ho1⟩ : ∃ o1 : OqM, o1 = { o with is := aliveO now o.is, in_ := (aliveO now o.is).length, ib := hb } := ⟨_, rfl⟩
  have ho1S : o1.S = { o.S with L := o.S.L.filter (fun x => !Oq.dead now x) } := by
    rw [ho1]
    unfold OqM.S aliveO
    dsimp only
    rw [List.filter_map]
    rfl
  have hsub : ∀ m, m ∈ aliveO now o.is → m ∈ o.is := fun m hm => (List.mem_filter.1 hm).1
  have ho1k : o1.ok := by
    have hpl : Oq.Ok { o.S with L := o.S.L.filter (fun x => !Oq.dead now x) } := ⟨fun x hx => ho.pl.its x (List.mem_filter.1 hx).1, ho.pl.room, ho.pl.used, ho.pl.streams, ho.pl.ssn⟩
    refine ⟨?_, ?_, ?_, by rw [ho1S]; exact hpl, ?_⟩
    · rw [ho1]; exact fun m hm => ho.own m (hsub m hm)
    · rw [ho1]; dsimp only; rw [List.map_eq_flatMap]; exact hown'
    · rw [ho1]; exact ho.nums
    · rw [ho1]; dsimp only; exact Nat.le_trans (List.length_filter_le _ _) ho.few
  have ho1R : o1.R = o.R := by rw [ho1]
  unfold Cap5.H
  dsimp only
  repeat' (first | refine S2b ?_ | refine SA (fun _ => ?_) | refine G1 (fun hc => ?_) (fun hc => ?_) | refine G2 (fun hc => ?_) (fun hc => ?_) | refine G3 (fun hc => ?_) (fun hc => ?_) | refine SL ?_ | fail)
  refine WL.weak (H' := (b3, .cells [.int .i64 now].toArray 2 (0, 0)) :: (b7, .cells [.int .i64 q.1].toArray 3 (0, 0)) :: (b4, .cells dm'.cells.toArray 50 (0, 0)) :: (b5, .cells [.int .i64 q.2.2.1].toArray 3 (0, 0)) :: (b6, .cells [.bool q.2.2.2].toArray 4 (0, 0)) :: (dm'.bb ++ o1.H)) (fun _ h => ?_) ?_
  · rw [ho1]
    unfold OqM.H OqM.cells
    dsimp only
    have h1 := h.sublist ((List.Sublist.refl _).append (.cons_cons _ ((List.Sublist.refl o.nb).append (flat_filter (p := fun x => !deadO now x) o.is))))
    simp only [List.append_assoc, List.cons_append] at h1
    exact In.of_sub (.pick (.right .here) (.pick (.right .here) (.pick (.right .here) (.pick (.right .here) (.pick (.right .here) (.pickL (L := dm'.bb) (.right .here) (.pick (.right .here) (.all _)))))))) h1
  have hT := fun F' => ofree_tr F' o1 ho1k q.1
  rw [ho1R] at hT
  repeat' (first | refine S2b ?_ | refine SA (fun _ => ?_) | refine G1 (fun hc => ?_) (fun hc => ?_) | refine G2 (fun hc => ?_) (fun hc => ?_) | refine G3 (fun hc => ?_) (fun hc => ?_) | refine SL ?_ | fail)
  refine WL.e rfl (Ef.call (c := o1.H) (by exact rfl) (.last (.there (.there (.there (.there (.there (.right .all))))))) (hT _)) ?_
  rintro _ _ ⟨_, ⟨rfl, o2, ho2, rfl, ho2R, ho2S, _⟩, rfl⟩
  clear hT
  refine WL.weak (H' := (b4, .cells dm'.cells.toArray 50 (0, 0)) :: (b5, .cells [.int .i64 q.2.2.1].toArray 3 (0, 0)) :: (b6, .cells [.bool q.2.2.2].toArray 4 (0, 0)) :: (dm'.bb ++ o2.H)) (fun _ h => ?_) ?_
  · rw [List.append_nil] at h
    exact In.of_sub (.pick (.right (.there (.there .here))) (.pick (.right (.there (.there .here))) (.pick (.right (.there (.there .here))) (.pickL (L := dm'.bb) (.right (.there (.there .all))) (.last .here))))) h
  repeat' (first | refine S2b ?_ | refine SD ?_ | refine SA (fun _ => ?_) | refine G1 (fun hc => ?_) (fun hc => ?_) | refine G2 (fun hc => ?_) (fun hc => ?_) | refine G3 (fun hc => ?_) (fun hc => ?_) | refine SL ?_ | fail)
  exact Fin.retW (by exact rfl) resA (H' := dm'.bb ++ o2.H) (fun _ h => In.of_sub (.last (.there (.there (.there .all)))) h) ⟨dm', o2, rfl, hq'.ok, hq'.d, ho2, ho2R, by rw [ho2S, ho1S], rfl⟩
end Go.Proofs.YtjfpckadjnjmoaaGreat
