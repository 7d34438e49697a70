/- The laws' small functions on orders and lists of messages ('turned', 'of', 'alike', 'count', 'mixed'), walked. Conditions: lists are short. -/
import Derived.Test.YtokbkocjddcklaaRmX
import Derived.Test.YtokbkocjddcklaaSlP
namespace Go.Proofs.Ytokbkocjddcklaa
open Go Go.Sl Go.Rm

theorem Lst.hi {F : Nat → Option Obj} {H : HL} {xs : List Value} {sa : Option Addr} {n c : Nat} (h : Lst F H 1 xs sa n c) {k : Nat} (hk : k ≤ n) : Lst F H 1 (xs.take k) sa k c := by
  have hl := h.len
  refine ⟨by rw [List.length_take]; omega, Nat.le_trans hk h.cap, fun h0 => ?_, fun h0 => by have := h.ok h0; omega⟩
  obtain ⟨b, off, rfl, hc⟩ := h.can (by omega)
  refine ⟨b, off, rfl, fun w hi j u hu => hc w hi j u ?_⟩
  rw [List.getElem?_take] at hu
  split at hu
  · exact hu
  · cases hu
def nI (n : Nat) : Value := .int .i64 (n : Int)
theorem nI_one (l : List Nat) : ∀ u ∈ l.map nI, u.oneCell' = true := fun u hu => by
  obtain ⟨b, _, rfl⟩ := List.mem_map.1 hu; rfl
structure TuG where
  i : Nat
  oa : Option Addr
  on : Nat
  oc : Nat
  ob : HL
set_option maxHeartbeats 2000000 in
theorem turned_tr (F : Nat → Option Obj) (n : Nat) (hn : n ≤ 1000) (order : List UInt8) (sa : Option Addr) (sn sc : Nat) (hl : Lst F [] 1 (order.map B) sa sn sc) :
    Tr Try.prog 23 [.int .i64 n, .slice sa sn sc].toArray F [] (fun v H => ∃ (oa : Option Addr) (oc : Nat), v = .slice oa n oc ∧ OwnS 3 1 ((turned order n).map nI) (.slice oa n oc) H) := by
  refine Tr.enter Try.func23 rfl Try.ntmps23 rfl (fun w0 => ?_)
  have hsn : order.length = sn := by have := hl.len; simpa using this
  repeat' (first | refine S1 ?_ | refine SD ?_ | refine SA (fun _ => ?_) | refine WL.g_split rfl rfl (fun hc => ?_) (fun hc => ?_) | refine WD.g_split rfl rfl (fun hc => ?_) (fun hc => ?_) | refine W.cond rfl (fun hc => ?_) (fun hc => ?_))
  refine W.loop (G := TuG) (fun g => [(0, .int .i64 n), (1, .slice sa sn sc), (5, .slice g.oa g.on g.oc), (6, .int .i64 g.i)]) (fun g => g.ob) (fun g => g.i ≤ n ∧ OwnS 3 1 ((turned order g.i).map nI) (.slice g.oa g.on g.oc) g.ob) (fun g => n - g.i) ⟨0, none, 0, 0, []⟩ ⟨Nat.zero_le _, .inl ⟨rfl, rfl, rfl⟩⟩ envA (fun _ h => h) ?_
  rintro ⟨i, oa, on, oc, ob⟩ ⟨hi, ho⟩
  dsimp only at hi ho ⊢
  have hon : on = i := by have := OwnS.len ho; rw [List.length_map, turned_len] at this; omega
  have hoc : on ≤ oc := by obtain ⟨_, _, _, he, _, h⟩ := OwnS.shape ho; cases he; exact h
  have htk := turnK_le order i
  have htl := turned_len order i
  repeat' (first | refine S1 ?_ | refine SD ?_ | refine SA (fun _ => ?_) | refine WL.g_split rfl rfl (fun hc => ?_) (fun hc => ?_) | refine WD.g_split rfl rfl (fun hc => ?_) (fun hc => ?_) | refine W.cond rfl (fun hc => ?_) (fun hc => ?_))
  · have hi' : i < n := by have := of_decide_eq_true (p := (i : Int) < (n : Int)) (by assumption); omega
    have hi2 : i < sn := by have := of_decide_eq_true hc; omega
    obtain ⟨d, hd⟩ : ∃ d, order[i]? = some d := ⟨order[i]'(by omega), by simp⟩
    obtain ⟨b1, o1, rfl, hcc⟩ := hl.can (by omega)
    have hcan : Sl.Can F [] b1 (o1 + (i : Int).toNat * 1) [.int .u8 ((d.toNat : Nat) : Int)] := by
      have := hcc.one (i := i) (v := B d) (by rw [List.getElem?_map, hd]; rfl)
      rw [show o1 + (i : Int).toNat * 1 = o1 + i by omega]
      exact this
    have hia : 0 ≤ (i : Int) ∧ (i : Int) < sn := by omega
    repeat' (first | refine S1 ?_ | refine SD ?_ | refine SA (fun _ => ?_) | refine WL.g_split rfl rfl (fun hc => ?_) (fun hc => ?_) | refine WD.g_split rfl rfl (fun hc => ?_) (fun hc => ?_) | refine W.cond rfl (fun hc => ?_) (fun hc => ?_))
    rw [i64_succ (by omega)]
    refine WL.p rfl (Pu.rem rfl rfl (by omega)) ?_
    have hdl := d.toNat_lt
    have hk : (IntKind.i64.wrap ((d.toNat : Nat) : Int)).tmod ((on + 1 : Nat) : Int) = ((turnK order i : Nat) : Int) := by
      rw [i64_id (n := ((d.toNat : Nat) : Int)) (by omega) (by omega), ← Int.ofNat_tmod]
      unfold turnK
      rw [hd, hon]
    rw [hk]
    repeat' (first | refine S1 ?_ | refine SD ?_ | refine SA (fun _ => ?_) | refine WL.g_split rfl rfl (fun hc => ?_) (fun hc => ?_) | refine WD.g_split rfl rfl (fun hc => ?_) (fun hc => ?_) | refine W.cond rfl (fun hc => ?_) (fun hc => ?_))
    refine WL.p rfl (Pu.slHi rfl rfl ⟨by omega, by omega⟩) ?_
    repeat' (first | refine S1 ?_ | refine SD ?_ | refine SA (fun _ => ?_) | refine WL.g_split rfl rfl (fun hc => ?_) (fun hc => ?_) | refine WD.g_split rfl rfl (fun hc => ?_) (fun hc => ?_) | refine W.cond rfl (fun hc => ?_) (fun hc => ?_))
    rename_i b0
    refine WL.e rfl (Ef.app (m := turnK order i) (news := ((turned order i).map nI).take (turnK order i)) (by exact rfl) (by exact rfl) rfl rfl (OwnS.empty 3 1 b0) (.pick .here (.nil _)) ((Lst.hi (Lst.own (F := F) (H := (b0, .cells ([] : List Value).toArray 3 (0, 0)) :: ob) ho (fun _ h => h.sublist (.cons _ (.refl _)))) (by omega)).src) (by rw [List.length_take, List.length_map]; omega) (fun u hu => nI_one _ u (List.mem_of_mem_take hu)) (by rw [List.length_take, List.length_map]; simp <;> omega) (by rw [List.length_take, List.length_map]; simp <;> (unfold maxLen; omega))) ?_
    rintro v' _ ⟨h1, ho1, rfl⟩
    obtain ⟨a1, n1, c1, rfl, _, _⟩ := OwnS.shape ho1
    repeat' (first | refine S1 ?_ | refine SD ?_ | refine SA (fun _ => ?_) | refine WL.g_split rfl rfl (fun hc => ?_) (fun hc => ?_) | refine WD.g_split rfl rfl (fun hc => ?_) (fun hc => ?_) | refine W.cond rfl (fun hc => ?_) (fun hc => ?_))
    refine WL.e rfl (Ef.app (m := 1) (news := [nI i]) (by exact rfl) (by exact rfl) rfl rfl ho1 (.last (.there .here)) (Src.own (n := 1) (.here rfl)) rfl (by intro u hu; rw [List.mem_singleton.1 hu]; rfl) (by simp <;> omega) (by simp <;> (unfold maxLen; omega))) ?_
    rintro v' _ ⟨h2, ho2, rfl⟩
    obtain ⟨a2, n2, c2, rfl, _, _⟩ := OwnS.shape ho2
    repeat' (first | refine S1 ?_ | refine SD ?_ | refine SA (fun _ => ?_) | refine WL.g_split rfl rfl (fun hc => ?_) (fun hc => ?_) | refine WD.g_split rfl rfl (fun hc => ?_) (fun hc => ?_) | refine W.cond rfl (fun hc => ?_) (fun hc => ?_))
    refine WL.p rfl (Pu.slLo rfl rfl ⟨by omega, by omega⟩) ?_
    have hd := OwnS.drop1 ho (n := turnK order i) (by omega)
    have hsr := (Lst.own (F := F) (H := ob) hd (fun _ h => h)).src
    refine WL.e rfl (Ef.app (m := on - ((turnK order i : Nat) : Int).toNat) (news := ((turned order i).map nI).drop (turnK order i)) (by exact rfl) (by exact rfl) rfl rfl ho2 (.last .here) (hsr.mono (fun _ h => h.sublist findA)) (by rw [List.length_drop, List.length_map]; omega) (fun u hu => nI_one _ u (List.mem_of_mem_drop hu)) (by simp <;> omega) (by simp <;> (unfold maxLen; omega))) ?_
    rintro v' _ ⟨h3, ho3, rfl⟩
    obtain ⟨a3, n3, c3, rfl, _, _⟩ := OwnS.shape ho3
    repeat' (first | refine S1 ?_ | refine SD ?_ | refine SA (fun _ => ?_) | refine WL.g_split rfl rfl (fun hc => ?_) (fun hc => ?_) | refine WD.g_split rfl rfl (fun hc => ?_) (fun hc => ?_) | refine W.cond rfl (fun hc => ?_) (fun hc => ?_))
    rw [i64_succ (by omega)]
    refine Fin.round ⟨i + 1, a3, n3, c3, h3⟩ ⟨hi', ?_⟩ envA (fun _ h => h.left) (by dsimp only; omega)
    dsimp only
    rw [turned, List.map_append, List.map_append, List.map_take, List.map_drop]
    exact ho3
  · have hi' : i < n := by have := of_decide_eq_true (p := (i : Int) < (n : Int)) (by assumption); omega
    have hi2 : ¬ i < sn := by have := of_decide_eq_false hc; omega
    have hk0 : turnK order i = 0 := by
      unfold turnK
      rw [List.getElem?_eq_none (by omega)]
    refine WL.p rfl (Pu.slHi rfl rfl ⟨by omega, by omega⟩) ?_
    repeat' (first | refine S1 ?_ | refine SD ?_ | refine SA (fun _ => ?_) | refine WL.g_split rfl rfl (fun hc => ?_) (fun hc => ?_) | refine WD.g_split rfl rfl (fun hc => ?_) (fun hc => ?_) | refine W.cond rfl (fun hc => ?_) (fun hc => ?_))
    rename_i b0
    refine WL.e rfl (Ef.app (m := 0) (news := ((turned order i).map nI).take 0) (by exact rfl) (by exact rfl) rfl rfl (OwnS.empty 3 1 b0) (.pick .here (.nil _)) ((Lst.hi (Lst.own (F := F) (H := (b0, .cells ([] : List Value).toArray 3 (0, 0)) :: ob) ho (fun _ h => h.sublist (.cons _ (.refl _)))) (by omega)).src) (by rw [List.length_take, List.length_map]; omega) (fun u hu => nI_one _ u (List.mem_of_mem_take hu)) (by rw [List.length_take, List.length_map]; simp <;> omega) (by rw [List.length_take, List.length_map]; simp <;> (unfold maxLen; omega))) ?_
    rintro v' _ ⟨h1, ho1, rfl⟩
    obtain ⟨a1, n1, c1, rfl, _, _⟩ := OwnS.shape ho1
    repeat' (first | refine S1 ?_ | refine SD ?_ | refine SA (fun _ => ?_) | refine WL.g_split rfl rfl (fun hc => ?_) (fun hc => ?_) | refine WD.g_split rfl rfl (fun hc => ?_) (fun hc => ?_) | refine W.cond rfl (fun hc => ?_) (fun hc => ?_))
    refine WL.e rfl (Ef.app (m := 1) (news := [nI i]) (by exact rfl) (by exact rfl) rfl rfl ho1 (.last (.there .here)) (Src.own (n := 1) (.here rfl)) rfl (by intro u hu; rw [List.mem_singleton.1 hu]; rfl) (by simp <;> omega) (by simp <;> (unfold maxLen; omega))) ?_
    rintro v' _ ⟨h2, ho2, rfl⟩
    obtain ⟨a2, n2, c2, rfl, _, _⟩ := OwnS.shape ho2
    repeat' (first | refine S1 ?_ | refine SD ?_ | refine SA (fun _ => ?_) | refine WL.g_split rfl rfl (fun hc => ?_) (fun hc => ?_) | refine WD.g_split rfl rfl (fun hc => ?_) (fun hc => ?_) | refine W.cond rfl (fun hc => ?_) (fun hc => ?_))
    refine WL.p rfl (Pu.slLo rfl rfl ⟨by omega, by omega⟩) ?_
    have hd := OwnS.drop1 ho (n := 0) (by omega)
    have hsr := (Lst.own (F := F) (H := ob) hd (fun _ h => h)).src
    refine WL.e rfl (Ef.app (m := on - ((0 : Nat) : Int).toNat) (news := ((turned order i).map nI).drop 0) (by exact rfl) (by exact rfl) rfl rfl ho2 (.last .here) (hsr.mono (fun _ h => h.sublist findA)) (by rw [List.length_drop, List.length_map]; omega) (fun u hu => nI_one _ u (List.mem_of_mem_drop hu)) (by simp <;> omega) (by simp <;> (unfold maxLen; omega))) ?_
    rintro v' _ ⟨h3, ho3, rfl⟩
    obtain ⟨a3, n3, c3, rfl, _, _⟩ := OwnS.shape ho3
    repeat' (first | refine S1 ?_ | refine SD ?_ | refine SA (fun _ => ?_) | refine WL.g_split rfl rfl (fun hc => ?_) (fun hc => ?_) | refine WD.g_split rfl rfl (fun hc => ?_) (fun hc => ?_) | refine W.cond rfl (fun hc => ?_) (fun hc => ?_))
    rw [i64_succ (by omega)]
    refine Fin.round ⟨i + 1, a3, n3, c3, h3⟩ ⟨hi', ?_⟩ envA (fun _ h => h.left) (by dsimp only; omega)
    dsimp only
    rw [turned, hk0, List.map_append, List.map_append, List.map_take, List.map_drop]
    exact ho3
  · have hin : i = n := by have := of_decide_eq_false hc; omega
    subst hin
    subst hon
    exact Fin.retW (by exact rfl) resA (fun _ h => h) ⟨oa, oc, rfl, ho⟩

/-! ### lists of messages -/
/-- a list of messages in memory: each message's bytes can be read -/
structure MsL (F : Nat → Option Obj) (H : HL) (ms : List Ms) (wa : Option Addr) (wn wc : Nat) : Prop where
  lst : Lst F H 3 (ms.flatMap Ms.cells) wa wn wc
  src : ∀ m ∈ ms, Src F H m.bv m.g.bytes.length (m.g.bytes.map B)
theorem MsL.mono {F F' : Nat → Option Obj} {H H' : HL} {ms : List Ms} {wa : Option Addr} {wn wc : Nat} (h : MsL F H ms wa wn wc) (hw : ∀ w, In F' H' w → In F H w) : MsL F' H' ms wa wn wc := ⟨h.lst.mono hw, fun m hm => (h.src m hm).mono hw⟩
theorem MsL.len {F : Nat → Option Obj} {H : HL} {ms : List Ms} {wa : Option Addr} {wn wc : Nat} (h : MsL F H ms wa wn wc) : ms.length = wn := by have := h.lst.len; rw [flat_len] at this; omega
def cntM (l : List Mg) (m : Mg) : Nat := l.countP (fun a => sameMg a m)
def ofM (l : List Mg) (s : Int) (o : Bool) : List Mg := l.filter (fun a => a.stream == s && a.ordered == o)
theorem ofM_snoc {l : List Mg} {s : Int} {o : Bool} {i : Nat} {m : Mg} (h : l[i]? = some m) : ofM (l.take (i + 1)) s o = ofM (l.take i) s o ++ if m.stream == s && m.ordered == o then [m] else [] := by
  unfold ofM
  rw [List.take_add_one, h, Option.toList_some, List.filter_append]
  congr 1
  cases hq : (m.stream == s && m.ordered == o) <;> simp [hq]
theorem sameMg_self (m : Mg) : sameMg m m = true := by simp [sameMg]
theorem Ms.one (m : Ms) : ∀ u ∈ m.cells, u.oneCell' = true := fun u hu => by
  unfold Ms.cells Ms.bv at hu
  simp at hu
  rcases hu with rfl | rfl | rfl <;> rfl
structure OfG where
  i : Nat
  oa : Option Addr
  on : Nat
  oc : Nat
  ob : HL
  os : List Ms
set_option maxHeartbeats 2000000 in
theorem of_tr (F : Nat → Option Obj) (ms : List Ms) (wa : Option Addr) (wn wc : Nat) (h : MsL F [] ms wa wn wc) (hn : wn ≤ 1000) (s : Int) (o : Bool) :
    Tr Try.prog 27 [.slice wa wn wc, .int .u16 s, .bool o].toArray F [] (fun v H => ∃ (oa : Option Addr) (on oc : Nat) (os : List Ms), v = .slice oa on oc ∧ OwnS 40 3 (os.flatMap Ms.cells) (.slice oa on oc) H ∧ os.map (·.g) = ofM (ms.map (·.g)) s o ∧ ∀ m ∈ os, m ∈ ms) := by
  refine Tr.enter Try.func27 rfl Try.ntmps27 rfl (fun w0 => ?_)
  have hlen := h.len
  repeat' (first | refine S1 ?_ | refine SD ?_ | refine SA (fun _ => ?_) | refine WL.g_split rfl rfl (fun hc => ?_) (fun hc => ?_) | refine WD.g_split rfl rfl (fun hc => ?_) (fun hc => ?_) | refine W.cond rfl (fun hc => ?_) (fun hc => ?_))
  refine W.loop (G := OfG) (fun g => [(0, .slice wa wn wc), (1, .int .u16 s), (2, .bool o), (7, .slice g.oa g.on g.oc), (8, .int .i64 g.i)]) (fun g => g.ob) (fun g => g.i ≤ wn ∧ OwnS 40 3 (g.os.flatMap Ms.cells) (.slice g.oa g.on g.oc) g.ob ∧ g.os.map (·.g) = ofM ((ms.map (·.g)).take g.i) s o ∧ (∀ m ∈ g.os, m ∈ ms) ∧ g.os.length ≤ g.i) (fun g => wn - g.i)
    ⟨0, none, 0, 0, [], []⟩ ⟨Nat.zero_le _, .inl ⟨rfl, rfl, rfl⟩, rfl, by simp, by simp⟩ envA (fun _ h => h) ?_
  rintro ⟨i, oa, on, oc, ob, os⟩ ⟨hi, ho, hom, hos, hol⟩
  dsimp only at hi ho hom hos hol ⊢
  repeat' (first | refine S1 ?_ | refine SD ?_ | refine SA (fun _ => ?_) | refine WL.g_split rfl rfl (fun hc => ?_) (fun hc => ?_) | refine WD.g_split rfl rfl (fun hc => ?_) (fun hc => ?_) | refine W.cond rfl (fun hc => ?_) (fun hc => ?_))
  rotate_right
  · have hin : i = wn := by have := of_decide_eq_false hc; omega
    subst hin
    rw [List.take_of_length_le (by simp; omega)] at hom
    exact Fin.retW (by exact rfl) resA (fun _ h => h) ⟨oa, on, oc, os, rfl, ho, hom, hos⟩
  have hi' : i < wn := by have := of_decide_eq_true (p := (i : Int) < (wn : Int)) (by assumption); omega
  obtain ⟨m, hm⟩ : ∃ m, ms[i]? = some m := ⟨ms[i]'(by omega), by simp⟩
  obtain ⟨lb, lo, rfl, hcan⟩ := h.lst.el (cells := Ms.cells) (fun _ => rfl) hm (by omega)
  have hia : 0 ≤ (i : Int) ∧ (i : Int) < wn := by omega
  have hc0 : Sl.Can F [] lb (lo + (i : Int).toNat * 3 + 0) [.int .u16 m.g.stream] := hcan.one (i := 0) rfl
  have hc1 : Sl.Can F [] lb (lo + (i : Int).toNat * 3 + 1) [.bool m.g.ordered] := hcan.one (i := 1) rfl
  have hgm : (ms.map (·.g))[i]? = some m.g := by rw [List.getElem?_map, hm]; rfl
  have hsn := ofM_snoc (s := s) (o := o) hgm
  unfold Ms.cells Ms.bv at hcan
  repeat' (first | refine S1 ?_ | refine SD ?_ | refine SA (fun _ => ?_) | refine WL.g_split rfl rfl (fun hc => ?_) (fun hc => ?_) | refine WD.g_split rfl rfl (fun hc => ?_) (fun hc => ?_) | refine W.cond rfl (fun hc => ?_) (fun hc => ?_))
  · refine WL.s rfl (Rd.ldaC0 rfl hcan rfl) ?_
    repeat' (first | refine S1 ?_ | refine SD ?_ | refine SA (fun _ => ?_) | refine WL.g_split rfl rfl (fun hc => ?_) (fun hc => ?_) | refine WD.g_split rfl rfl (fun hc => ?_) (fun hc => ?_) | refine W.cond rfl (fun hc => ?_) (fun hc => ?_))
    have hfl := flat_len os
    refine WL.e rfl (Ef.app (m := 1) (news := m.cells) (by exact rfl) (by exact rfl) rfl rfl ho (.last (.there .all)) (Src.own (n := 3) (.here rfl)) rfl m.one (by rw [hfl]; simp [Ms.cells] <;> omega) (by rw [hfl]; simp [Ms.cells] <;> (unfold maxLen; omega))) ?_
    rintro v' _ ⟨ob2, ho2, rfl⟩
    obtain ⟨oa2, on2, oc2, rfl, _, _⟩ := OwnS.shape ho2
    repeat' (first | refine S1 ?_ | refine SD ?_ | refine SA (fun _ => ?_) | refine WL.g_split rfl rfl (fun hc => ?_) (fun hc => ?_) | refine WD.g_split rfl rfl (fun hc => ?_) (fun hc => ?_) | refine W.cond rfl (fun hc => ?_) (fun hc => ?_))
    rw [i64_succ (by omega)]
    refine Fin.round ⟨i + 1, oa2, on2, oc2, ob2, os ++ [m]⟩ ⟨hi', by dsimp only; rw [List.flatMap_append, List.flatMap_singleton]; exact ho2, ?_, ?_, by simp; omega⟩ envA (fun _ h => h.left) (by dsimp only; omega)
    · have hs1 : (m.g.stream == s) = true := by assumption
      dsimp only
      rw [hsn, hs1, hc, ← hom]
      simp
    · intro x hx
      rcases List.mem_append.1 hx with hx | hx
      · exact hos x hx
      · rw [List.mem_singleton.1 hx]
        exact List.mem_of_getElem? hm
  · rw [i64_succ (by omega)]
    refine Fin.round ⟨i + 1, oa, on, oc, ob, os⟩ ⟨hi', ho, ?_, hos, by dsimp only; omega⟩ envA (fun _ h => h) (by dsimp only; omega)
    dsimp only
    rw [hsn, hc, ← hom]
    simp
  · rw [i64_succ (by omega)]
    refine Fin.round ⟨i + 1, oa, on, oc, ob, os⟩ ⟨hi', ho, ?_, hos, by dsimp only; omega⟩ envA (fun _ h => h) (by dsimp only; omega)
    dsimp only
    rw [hsn, hc, ← hom]
    simp
set_option maxHeartbeats 2000000 in
theorem alike_tr (F : Nat → Option Obj) (ls ks : List Ms) (wa xa : Option Addr) (wn wc xn xc : Nat) (h : MsL F [] ls wa wn wc) (k : MsL F [] ks xa xn xc) (hn : wn ≤ 1000) (he : ls.map (·.g) = ks.map (·.g)) :
    Tr Try.prog 26 [.slice wa wn wc, .slice xa xn xc].toArray F [] (fun v H => v = .bool true ∧ H = []) := by
  refine Tr.enter Try.func26 rfl Try.ntmps26 rfl (fun w0 => ?_)
  have hl := h.len
  have kl := k.len
  have hll := congrArg List.length he
  simp at hll
  have hnx : wn = xn := by omega
  subst hnx
  repeat' (first | refine S1 ?_ | refine SD ?_ | refine SA (fun _ => ?_) | refine WL.g_split rfl rfl (fun hc => ?_) (fun hc => ?_) | refine WD.g_split rfl rfl (fun hc => ?_) (fun hc => ?_) | refine W.cond rfl (fun hc => ?_) (fun hc => ?_))
  · simp at hc
  refine W.loop (G := Nat) (fun i => [(0, .slice wa wn wc), (1, .slice xa wn xc), (5, .int .i64 i)]) (fun _ => []) (fun i => i ≤ wn) (fun i => wn - i) 0 (Nat.zero_le _) envA (fun _ h => h) ?_
  intro i hi
  repeat' (first | refine S1 ?_ | refine SD ?_ | refine SA (fun _ => ?_) | refine WL.g_split rfl rfl (fun hc => ?_) (fun hc => ?_) | refine WD.g_split rfl rfl (fun hc => ?_) (fun hc => ?_) | refine W.cond rfl (fun hc => ?_) (fun hc => ?_))
  rotate_right
  · exact Fin.retW (by exact rfl) resA (fun _ h => h) ⟨rfl, rfl⟩
  have hi' : i < wn := by have := of_decide_eq_true (p := (i : Int) < (wn : Int)) (by assumption); omega
  obtain ⟨m, hm⟩ : ∃ m, ls[i]? = some m := ⟨ls[i]'(by omega), by simp⟩
  obtain ⟨q, hq⟩ : ∃ q, ks[i]? = some q := ⟨ks[i]'(by omega), by simp⟩
  have hg : m.g = q.g := by
    have := congrArg (fun l => l[i]?) he
    simpa [hm, hq] using this
  obtain ⟨lb, lo, rfl, hcan⟩ := h.lst.el (cells := Ms.cells) (fun _ => rfl) hm (by omega)
  obtain ⟨kb, ko, rfl, kcan⟩ := k.lst.el (cells := Ms.cells) (fun _ => rfl) hq (by omega)
  have hia : 0 ≤ (i : Int) ∧ (i : Int) < wn := by omega
  repeat' (first | refine S1 ?_ | refine SD ?_ | refine SA (fun _ => ?_) | refine WL.g_split rfl rfl (fun hc => ?_) (fun hc => ?_) | refine WD.g_split rfl rfl (fun hc => ?_) (fun hc => ?_) | refine W.cond rfl (fun hc => ?_) (fun hc => ?_))
  refine WD.e rfl (Ef.callFR (c := []) (by exact rfl) (.nil _) (fun hd => same_tr _ [] m.g q.g m.bv q.bv rfl rfl ((h.src m (List.mem_of_getElem? hm)).mono (fun _ h => addF_in hd h)) ((k.src q (List.mem_of_getElem? hq)).mono (fun _ h => addF_in hd h)))) ?_
  rintro _ _ ⟨rfl, rfl⟩
  rw [hg, sameMg_self]
  refine ⟨.inr (fun _ h => h), ?_⟩
  repeat' (first | refine S1 ?_ | refine SD ?_ | refine SA (fun _ => ?_) | refine WL.g_split rfl rfl (fun hc => ?_) (fun hc => ?_) | refine WD.g_split rfl rfl (fun hc => ?_) (fun hc => ?_) | refine W.cond rfl (fun hc => ?_) (fun hc => ?_))
  rw [i64_succ (by omega)]
  exact Fin.round (i + 1) hi' envA (fun _ h => h) (by omega)
set_option maxHeartbeats 2000000 in
theorem count_tr (F : Nat → Option Obj) (ls : List Ms) (wa : Option Addr) (wn wc : Nat) (h : MsL F [] ls wa wn wc) (hn : wn ≤ 1000) (q : Ms) (hqs : Src F [] q.bv q.g.bytes.length (q.g.bytes.map B)) :
    Tr Try.prog 37 [.slice wa wn wc, .agg q.cells.toArray].toArray F [] (fun v H => v = .int .i64 (cntM (ls.map (·.g)) q.g) ∧ H = []) := by
  refine Tr.enter Try.func37 rfl Try.ntmps37 rfl (fun w0 => ?_)
  have hl := h.len
  unfold Ms.cells Ms.bv
  repeat' (first | refine S1 ?_ | refine SD ?_ | refine SA (fun _ => ?_) | refine WL.g_split rfl rfl (fun hc => ?_) (fun hc => ?_) | refine WD.g_split rfl rfl (fun hc => ?_) (fun hc => ?_) | refine W.cond rfl (fun hc => ?_) (fun hc => ?_))
  rename_i b3
  refine W.loop (G := Nat) (fun i => [(0, .slice wa wn wc), (3, .pointer (some ⟨b3, 0, none⟩)), (5, .int .i64 (cntM ((ls.map (·.g)).take i) q.g)), (6, .int .i64 i)]) (fun _ => [(b3, .cells [.int .u16 q.g.stream, .bool q.g.ordered, .slice q.sa q.sn q.sc].toArray 40 (0, 0))]) (fun i => i ≤ wn) (fun i => wn - i) 0 (Nat.zero_le _) envA (fun _ h => h) ?_
  intro i hi
  repeat' (first | refine S1 ?_ | refine SD ?_ | refine SA (fun _ => ?_) | refine WL.g_split rfl rfl (fun hc => ?_) (fun hc => ?_) | refine WD.g_split rfl rfl (fun hc => ?_) (fun hc => ?_) | refine W.cond rfl (fun hc => ?_) (fun hc => ?_))
  rotate_right
  · have hin : i = wn := by have := of_decide_eq_false (p := (i : Int) < (wn : Int)) (by assumption); omega
    subst hin
    rw [List.take_of_length_le (by simp; omega)]
    exact Fin.retW (by exact rfl) resA (fun _ h => h.sublist (List.nil_sublist _)) ⟨rfl, rfl⟩
  have hi' : i < wn := by have := of_decide_eq_true (p := (i : Int) < (wn : Int)) (by assumption); omega
  obtain ⟨m, hm⟩ : ∃ m, ls[i]? = some m := ⟨ls[i]'(by omega), by simp⟩
  have hgm : (ls.map (·.g))[i]? = some m.g := by rw [List.getElem?_map, hm]; rfl
  have hct : cntM ((ls.map (·.g)).take (i + 1)) q.g = cntM ((ls.map (·.g)).take i) q.g + if sameMg m.g q.g then 1 else 0 := by
    unfold cntM
    rw [List.take_add_one, hgm, Option.toList_some, List.countP_append]
    simp [List.countP_cons]
  have hcl : cntM ((ls.map (·.g)).take i) q.g ≤ 1000 := by
    refine Nat.le_trans List.countP_le_length ?_
    simp
    omega
  obtain ⟨lb, lo, rfl, hcan⟩ := h.lst.el (cells := Ms.cells) (fun _ => rfl) hm (by omega)
  have hia : 0 ≤ (i : Int) ∧ (i : Int) < wn := by omega
  repeat' (first | refine S1 ?_ | refine SD ?_ | refine SA (fun _ => ?_) | refine WL.g_split rfl rfl (fun hc => ?_) (fun hc => ?_) | refine WD.g_split rfl rfl (fun hc => ?_) (fun hc => ?_) | refine W.cond rfl (fun hc => ?_) (fun hc => ?_))
  refine WD.e rfl (Ef.callFR (c := []) (by exact rfl) (.nil _) (fun hd => same_tr _ [] m.g q.g m.bv q.bv rfl rfl ((h.src m (List.mem_of_getElem? hm)).mono (fun _ h => addF_in hd h)) (hqs.mono (fun _ h => addF_in hd h)))) ?_
  rintro _ _ ⟨rfl, rfl⟩
  refine ⟨.inr (fun _ h => h), ?_⟩
  repeat' (first | refine S1 ?_ | refine SD ?_ | refine SA (fun _ => ?_) | refine WL.g_split rfl rfl (fun hc => ?_) (fun hc => ?_) | refine WD.g_split rfl rfl (fun hc => ?_) (fun hc => ?_) | refine W.cond rfl (fun hc => ?_) (fun hc => ?_))
  · rw [i64_succ (by omega), i64_succ (by omega)]
    exact Fin.round (i + 1) hi' (by rw [hct, if_pos (by assumption)]; exact envA) (fun _ h => h) (by omega)
  · rw [i64_succ (by omega)]
    exact Fin.round (i + 1) hi' (by rw [hct, if_neg (by simp [*]), Nat.add_zero]; exact envA) (fun _ h => h) (by omega)
set_option maxHeartbeats 2000000 in
theorem mixed_tr (F : Nat → Option Obj) (ls ks : List Ms) (wa xa : Option Addr) (wn wc xn xc : Nat) (h : MsL F [] ls wa wn wc) (k : MsL F [] ks xa xn xc) (hn : wn ≤ 1000) (he : (ls.map (·.g)).Perm (ks.map (·.g))) :
    Tr Try.prog 28 [.slice wa wn wc, .slice xa xn xc].toArray F [] (fun v H => v = .bool true ∧ H = []) := by
  refine Tr.enter Try.func28 rfl Try.ntmps28 rfl (fun w0 => ?_)
  have hl := h.len
  have kl := k.len
  have hll := he.length_eq
  simp at hll
  have hnx : wn = xn := by omega
  subst hnx
  repeat' (first | refine S1 ?_ | refine SD ?_ | refine SA (fun _ => ?_) | refine WL.g_split rfl rfl (fun hc => ?_) (fun hc => ?_) | refine WD.g_split rfl rfl (fun hc => ?_) (fun hc => ?_) | refine W.cond rfl (fun hc => ?_) (fun hc => ?_))
  · simp at hc
  refine W.loop (G := Nat) (fun i => [(0, .slice wa wn wc), (1, .slice xa wn xc), (5, .int .i64 i)]) (fun _ => []) (fun i => i ≤ wn) (fun i => wn - i) 0 (Nat.zero_le _) envA (fun _ h => h) ?_
  intro i hi
  repeat' (first | refine S1 ?_ | refine SD ?_ | refine SA (fun _ => ?_) | refine WL.g_split rfl rfl (fun hc => ?_) (fun hc => ?_) | refine WD.g_split rfl rfl (fun hc => ?_) (fun hc => ?_) | refine W.cond rfl (fun hc => ?_) (fun hc => ?_))
  rotate_right
  · exact Fin.retW (by exact rfl) resA (fun _ h => h) ⟨rfl, rfl⟩
  have hi' : i < wn := by have := of_decide_eq_true (p := (i : Int) < (wn : Int)) (by assumption); omega
  obtain ⟨m, hm⟩ : ∃ m, ls[i]? = some m := ⟨ls[i]'(by omega), by simp⟩
  have h1 := h
  obtain ⟨lb, lo, rfl, hcan⟩ := h.lst.el (cells := Ms.cells) (fun _ => rfl) hm (by omega)
  have hia : 0 ≤ (i : Int) ∧ (i : Int) < wn := by omega
  have hms := h1.src m (List.mem_of_getElem? hm)
  have hce : cntM (ls.map (·.g)) m.g = cntM (ks.map (·.g)) m.g := he.countP_eq _
  repeat' (first | refine S1 ?_ | refine SD ?_ | refine SA (fun _ => ?_) | refine WL.g_split rfl rfl (fun hc => ?_) (fun hc => ?_) | refine WD.g_split rfl rfl (fun hc => ?_) (fun hc => ?_) | refine W.cond rfl (fun hc => ?_) (fun hc => ?_))
  refine WD.e rfl (Ef.callFR (c := []) (by exact rfl) (.nil _) (fun hd => count_tr _ ls (some ⟨lb, lo, none⟩) wn wc (h1.mono (fun _ h => addF_in hd h)) hn m (hms.mono (fun _ h => addF_in hd h)))) ?_
  rintro _ _ ⟨rfl, rfl⟩
  refine ⟨.inr (fun _ h => h), ?_⟩
  repeat' (first | refine S1 ?_ | refine SD ?_ | refine SA (fun _ => ?_) | refine WL.g_split rfl rfl (fun hc => ?_) (fun hc => ?_) | refine WD.g_split rfl rfl (fun hc => ?_) (fun hc => ?_) | refine W.cond rfl (fun hc => ?_) (fun hc => ?_))
  refine WD.e rfl (Ef.callFR (c := []) (by exact rfl) (.nil _) (fun hd => count_tr _ ks xa wn xc (k.mono (fun _ h => addF_in hd h)) hn m (hms.mono (fun _ h => addF_in hd h)))) ?_
  rintro _ _ ⟨rfl, rfl⟩
  rw [hce]
  refine ⟨.inr (fun _ h => h), ?_⟩
  repeat' (first | refine S1 ?_ | refine SD ?_ | refine SA (fun _ => ?_) | refine WL.g_split rfl rfl (fun hc => ?_) (fun hc => ?_) | refine WD.g_split rfl rfl (fun hc => ?_) (fun hc => ?_) | refine W.cond rfl (fun hc => ?_) (fun hc => ?_))
  · simp at hc
  rw [i64_succ (by omega)]
  exact Fin.round (i + 1) hi' envA (fun _ h => h) (by omega)
end Go.Proofs.Ytokbkocjddcklaa
