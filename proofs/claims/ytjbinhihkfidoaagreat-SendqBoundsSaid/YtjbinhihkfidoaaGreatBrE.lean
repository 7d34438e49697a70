/- From a row's reading of an argument to what can be read in memory, with the reach: each slice that is read has at most so many elements. No conditions: laws only. -/
import Derived.Test.YtjbinhihkfidoaaGreatBd
import Derived.SizedLaws
namespace Go.Sl
open Go

mutual
/-- as 'rep', and each slice is within the reach -/
def Sh.repS (w : World) : Sh → List Value → Prop
  | .int k, cs => (Sh.int k).rep w cs
  | .bool, cs => Sh.bool.rep w cs
  | .str, cs => Sh.str.rep w cs
  | .slice e, cs => ∃ sa n c, cs = [.slice sa n c] ∧ n ≤ c ∧ c ≤ maxLen ∧ n ≤ reachBytes ∧ (sa = none → n = 0) ∧ ∃ xs : List (List Value), xs.length = n ∧ (∀ x ∈ xs, x.length = e.size ∧ e.repS w x) ∧
      (0 < n → ∃ b off cells T fr, sa = some ⟨b, off, none⟩ ∧ w.heap[b]? = some (.cells cells T fr) ∧ ∀ j u, xs.flatten[j]? = some u → cells[off + j]? = some u)
  | .struct fs, cs => Sh.repSAll w fs cs
def Sh.repSAll (w : World) : List Sh → List Value → Prop
  | [], cs => cs = []
  | s :: r, cs => ∃ c1 c2, cs = c1 ++ c2 ∧ c1.length = s.size ∧ s.repS w c1 ∧ Sh.repSAll w r c2
end
mutual
/-- every slice's elements take a byte at least -/
def Sh.byB (P : Program) : Sh → TypeId → Bool
  | .slice e, t => match P.underlying t with | some (.slice u) => e.byB P u && Nat.blt 0 (P.bytesOf u) | _ => false
  | .struct fs, t => match P.underlying t with | some (.struct a) => Sh.byBAll P fs a.toList | _ => false
  | _, _ => true
def Sh.byBAll (P : Program) : List Sh → List Field → Bool
  | s :: r, f :: fs => s.byB P f.type && Sh.byBAll P r fs
  | _, _ => true
end
section
variable {H : Type} {enc : TypeId × Value → H} {P : Program} {w : World} {base : Nat} {spare : Nat → Bool} {held : Bool}
theorem weights_all {e : TypeId} : ∀ {ds : List (DataW H)} {d : DataW H}, d ∈ ds → ∀ n ∈ d.weights P e, n ∈ DataW.weightsAll P e ds
  | x :: ds, d, hd, n, hn => by
    simp only [DataW.weightsAll, List.mem_append]
    rcases List.mem_cons.1 hd with rfl | hd
    · exact .inl hn
    · exact .inr (weights_all hd n hn)
mutual
theorem Sh.repS_of : ∀ (s : Sh) {t : TypeId} {cs : List Value} {x : DataW H × List MemPlace} {fuel : Nat}, s.fits P t = true → s.byB P t = true → (∀ n ∈ x.1.weights P t, n ≤ reachBytes) → DataW.trod enc P w base spare held fuel t cs = some x → s.repS w cs ∧ cs.length = s.size
  | .int k, t, cs, x, fuel, hf, _, _, h => by
    obtain ⟨h1, h2⟩ := Sh.rep_of _ hf h
    exact ⟨by unfold Sh.repS; exact h1, h2⟩
  | .bool, t, cs, x, fuel, hf, _, _, h => by
    obtain ⟨h1, h2⟩ := Sh.rep_of _ hf h
    exact ⟨by unfold Sh.repS; exact h1, h2⟩
  | .str, t, cs, x, fuel, hf, _, _, h => by
    obtain ⟨h1, h2⟩ := Sh.rep_of _ hf h
    exact ⟨by unfold Sh.repS; exact h1, h2⟩
  | .slice e, t, cs, x, fuel, hf, hby, hw, h => by
    unfold Sh.fits at hf
    unfold Sh.byB at hby
    split at hf
    · rename_i u hu
      rw [hu] at hby
      simp only [Bool.and_eq_true] at hf hby
      have hc := Nat.eq_of_beq_eq_true hf.1.2
      have hpos : 0 < e.size := Nat.le_of_ble_eq_true hf.2
      have hbp : 0 < P.bytesOf u := Nat.le_of_ble_eq_true hby.2
      refine ⟨?_, ?_⟩
      · unfold Sh.repS
        rcases Go.Deep.open_slice hu h with ⟨rfl, _⟩ | ⟨a, len, cap, m, n, D, Pl, rfl, hb, hl, hm, hmm, hxx, hx⟩
        · exact ⟨none, 0, 0, rfl, Nat.le_refl _, by simp [maxLen], Nat.zero_le _, fun _ => rfl, [], rfl, by simp, fun h => by omega⟩
        · have hlm : len ≤ m := by rw [hmm]; split <;> omega
          subst hxx
          have hreach : len ≤ reachBytes := by
            have h1 := hw ((((List.range len).map D).length + ((List.range (m - len)).map fun j => D (len + j)).length) * P.bytesOf u) (by simp only [DataW.weights, hu]; exact List.mem_cons_self ..)
            simp only [List.length_map, List.length_range] at h1
            have h2 : len ≤ (len + (m - len)) * P.bytesOf u := Nat.le_trans (Nat.le_add_right _ _) (Nat.le_mul_of_pos_right _ hbp)
            exact Nat.le_trans h2 h1
          have hel : ∀ i, i < len → ∃ y : List Value, w.cells? base (a.add (i * e.size)) e.size = some y ∧ e.repS w y ∧ y.length = e.size := fun i hi => by
            obtain ⟨y, h1, h2⟩ := hx i (by omega)
            rw [hc] at h1
            refine ⟨y, h1, Sh.repS_of e hf.1.1 hby.1 (fun n hn => ?_) h2⟩
            refine hw n ?_
            simp only [DataW.weights, hu]
            refine List.mem_cons_of_mem _ (List.mem_append_left _ (weights_all (List.mem_map.2 ⟨i, List.mem_range.2 hi, rfl⟩) n hn))
          have hxs : ∃ xs : List (List Value), xs.length = len ∧ ∀ i y, xs[i]? = some y → w.cells? base (a.add (i * e.size)) e.size = some y ∧ e.repS w y ∧ y.length = e.size := by
            clear hx hl hm hmm hlm h hreach hw
            induction len with
            | zero => exact ⟨[], rfl, by simp⟩
            | succ k ih =>
              obtain ⟨xs, h1, h2⟩ := ih (fun i hi => hel i (by omega))
              obtain ⟨y, hy⟩ := hel k (by omega)
              refine ⟨xs ++ [y], by simp [h1], fun i z hz => ?_⟩
              by_cases hi : i < k
              · rw [List.getElem?_append_left (by omega)] at hz
                exact h2 i z hz
              · rw [List.getElem?_append_right (by omega)] at hz
                have hik : i = k := by
                  have := (List.getElem?_eq_some_iff.1 hz).1
                  simp at this
                  omega
                subst hik
                rw [h1] at hz
                simp at hz
                subst hz
                exact hy
          obtain ⟨xs, hxl, hxe⟩ := hxs
          refine ⟨some a, len, cap, rfl, hl, hm, hreach, (fun h => by cases h), xs, hxl, fun y hy => ?_, fun h0 => ?_⟩
          · obtain ⟨i, hi⟩ := List.mem_iff_getElem?.1 hy
            have := hxe i y hi
            exact ⟨this.2.2, this.2.1⟩
          · have hcell : ∀ j u, xs.flatten[j]? = some u → w.cell? (a.add j) = some u := fun j u hu => by
              obtain ⟨i, k, y, h1, h2, h3, rfl⟩ := flatten_get (n := 0) (sz := e.size) xs (fun y hy => by
                obtain ⟨i, hi⟩ := List.mem_iff_getElem?.1 hy
                exact (hxe i y hi).2.2) j u hu
              obtain ⟨_, _, hcs⟩ := World.cells?_some (hxe i y h1).1
              have := hcs k h3
              rw [h2] at this
              rw [← this]
              congr 1
              unfold Addr.add
              by_cases e1 : i * e.size = 0 <;> by_cases e2 : k = 0 <;> simp [e1, e2]
              omega
            obtain ⟨y0, hy0⟩ : ∃ y, xs[0]? = some y := ⟨xs[0]'(by omega), by simp⟩
            have hy0l := (hxe 0 y0 hy0).2.2
            obtain ⟨v0, hv0⟩ : ∃ v, xs.flatten[0]? = some v := by
              cases xs with
              | nil => simp at hy0
              | cons z zs =>
                simp at hy0
                subst hy0
                cases z with
                | nil => simp at hy0l; omega
                | cons v _ => exact ⟨v, by simp⟩
            have h00 := hcell 0 v0 hv0
            have ha0 : a.add 0 = a := by simp [Addr.add]
            rw [ha0] at h00
            obtain ⟨cells, T, fr, hae, hh, _⟩ := cell_spot h00
            refine ⟨a.block, a.off, cells, T, fr, by rw [← hae], hh, fun j u hu => ?_⟩
            have := hcell j u hu
            rw [hae, add_lit, cell_of_row w _ _ _ _ _ hh] at this
            exact this
      · rcases Go.Deep.open_slice hu h with ⟨rfl, _⟩ | ⟨a, len, cap, m, n, D, Pl, rfl, _⟩ <;> simp [Sh.size]
    · cases hf
  | .struct fs, t, cs, x, fuel, hf, hby, hw, h => by
    unfold Sh.fits at hf
    unfold Sh.byB at hby
    split at hf
    · rename_i a hu
      rw [hu] at hby
      simp only [Bool.and_eq_true] at hf
      obtain ⟨xs, n, _, hx0, hl, hxl, hx⟩ := DataW.trod_struct hu h
      have hc := Nat.eq_of_beq_eq_true hf.2
      have := Sh.repSAll_of fs (off := 0) (n := n) (cs := cs) hf.1 hby (fun i f hfm => by
        have h1 := hx i f (by simpa using hfm)
        have hil : i < xs.length := by rw [hxl]; have := (List.getElem?_eq_some_iff.1 hfm).1; simpa using this
        rw [List.getElem?_eq_getElem hil] at h1
        refine ⟨_, h1, fun n hn => hw n ?_⟩
        subst hx0
        simp only [DataW.weights, hu]
        exact DataW.weights_mem_each (j := i) (t := f.type) (d := xs[i].1) (by rw [List.getElem?_map, hfm]; rfl) (by rw [List.getElem?_map, List.getElem?_eq_getElem hil]; rfl) n hn) (by rw [hl, hc]; simp)
      refine ⟨by unfold Sh.repS; simpa using this, by rw [hl, hc]; simp [Sh.size]⟩
    · cases hf
theorem Sh.repSAll_of : ∀ (fs : List Sh) {fields : List Field} {off n : Nat} {cs : List Value}, Sh.fitsAll P fs fields off = true → Sh.byBAll P fs fields = true →
    (∀ (i : Nat) f, fields[i]? = some f → ∃ x, DataW.trod enc P w base spare held n f.type ((cs.drop f.offset).take (P.cellsOf f.type)) = some x ∧ ∀ k ∈ x.1.weights P f.type, k ≤ reachBytes) →
    cs.length = off + Sh.sizes fs → Sh.repSAll w fs (cs.drop off)
  | [], fields, off, n, cs, hf, _, h, hl => by
    unfold Sh.repSAll
    simp [Sh.sizes] at hl
    exact List.drop_eq_nil_of_le (by omega)
  | s :: r, [], off, n, cs, hf, _, h, hl => by simp [Sh.fitsAll] at hf
  | s :: r, f :: fs, off, n, cs, hf, hby, h, hl => by
    unfold Sh.fitsAll at hf
    unfold Sh.byBAll at hby
    simp only [Bool.and_eq_true] at hf hby
    obtain ⟨⟨⟨hfit, hoff⟩, hsz⟩, hrest⟩ := hf
    have hoff := Nat.eq_of_beq_eq_true hoff
    have hsz := Nat.eq_of_beq_eq_true hsz
    obtain ⟨x, hx, hxw⟩ := h 0 f rfl
    rw [hoff, hsz] at hx
    obtain ⟨h1, h2⟩ := Sh.repS_of s hfit hby.1 hxw hx
    unfold Sh.repSAll
    refine ⟨(cs.drop off).take s.size, cs.drop (off + s.size), ?_, h2, h1, Sh.repSAll_of r hrest hby.2 (fun i g hg => h (i + 1) g (by simpa using hg)) (by simp [Sh.sizes] at hl; omega)⟩
    rw [← List.drop_drop, List.take_append_drop]
end
end
mutual
theorem Sh.rep_S {w : World} : ∀ (s : Sh) {cs : List Value}, s.repS w cs → s.rep w cs
  | .int k, cs, h => by unfold Sh.repS at h; exact h
  | .bool, cs, h => by unfold Sh.repS at h; exact h
  | .str, cs, h => by unfold Sh.repS at h; exact h
  | .slice e, cs, h => by
    unfold Sh.repS at h
    obtain ⟨sa, n, c, h1, h2, h3, _, h4, xs, h5, h6, h7⟩ := h
    unfold Sh.rep
    exact ⟨sa, n, c, h1, h2, h3, h4, xs, h5, fun x hx => ⟨(h6 x hx).1, Sh.rep_S e (h6 x hx).2⟩, h7⟩
  | .struct fs, cs, h => by
    unfold Sh.repS at h
    unfold Sh.rep
    exact Sh.rep_SAll fs h
theorem Sh.rep_SAll {w : World} : ∀ (fs : List Sh) {cs : List Value}, Sh.repSAll w fs cs → Sh.repAll w fs cs
  | [], cs, h => by unfold Sh.repSAll at h; unfold Sh.repAll; exact h
  | s :: r, cs, h => by
    unfold Sh.repSAll at h
    unfold Sh.repAll
    obtain ⟨c1, c2, h1, h2, h3, h4⟩ := h
    exact ⟨c1, c2, h1, h2, Sh.rep_S s h3, Sh.rep_SAll r h4⟩
end
/-- all arguments are of their shapes, within the reach -/
def RepsS (w : World) : List Sh → List Value → Prop
  | [], vs => vs = []
  | s :: r, vs => ∃ v vr cs, vs = v :: vr ∧ s.val v cs ∧ s.repS w cs ∧ cs.length = s.size ∧ RepsS w r vr
def byL (P : Program) : List Sh → List TypeId → Bool
  | s :: r, t :: ts => s.byB P t && byL P r ts
  | _, _ => true
section
variable {H : Type} {enc : TypeId × Value → H} {P : Program} {w : World}
theorem RepsS.of {rc : Reach} {base : Nat} : ∀ (shs : List Sh) (ts : List TypeId) (vs : List Value) (ds : List (DataW H)) (ps : List MemPlace), fitsL P shs ts = true → byL P shs ts = true → (∀ n ∈ DataW.weightsEach P ts ds, n ≤ reachBytes) → (∀ (j : Nat) t v, ts[j]? = some t → vs[j]? = some v → Value.okWide P w rc base t v) →
    DataW.TrodAll enc P w 0 (fun _ => true) true ts vs ds ps → RepsS w shs vs
  | [], [], vs, ds, ps, _, _, _, _, h => by
    match vs, ds, h with
    | [], [], _ => rfl
    | [], _ :: _, h => cases h
    | _ :: _, _, h => cases h
  | [], _ :: _, _, _, _, hf, _, _, _, _ => by cases hf
  | _ :: _, [], _, _, _, hf, _, _, _, _ => by cases hf
  | s :: r, t :: ts, vs, ds, ps, hf, hby, hw, hv, h => by
    unfold fitsL at hf
    unfold byL at hby
    rw [Bool.and_eq_true] at hf hby
    match vs, ds, h with
    | v :: vs, d :: ds, ⟨p, q, h1, h2, h3⟩ =>
      obtain ⟨fuel, hfuel⟩ := h1
      simp only [DataW.weightsEach, List.mem_append] at hw
      obtain ⟨hrep, hlen⟩ := Sh.repS_of s hf.1 hby.1 (fun n hn => hw n (.inl hn)) hfuel
      exact ⟨v, vs, _, rfl, s.val_of hf.1 (hv 0 t v rfl rfl), hrep, hlen, RepsS.of r ts vs ds q hf.2 hby.2 (fun n hn => hw n (.inr hn)) (fun j t v h1 h2 => hv (j + 1) t v (by simpa using h1) (by simpa using h2)) h2⟩
    | [], _, h => cases h
    | _ :: _, [], h => cases h
end
theorem lst_decS {α : Type} {w : World} {e : Sh} (cells : α → List Value) (Q : α → Prop) (dec : ∀ x, x.length = e.size → e.repS w x → ∃ a, x = cells a ∧ Q a) : ∀ (xs : List (List Value)), (∀ x ∈ xs, x.length = e.size ∧ e.repS w x) → ∃ l : List α, xs = l.map cells ∧ ∀ a ∈ l, Q a
  | [], _ => ⟨[], rfl, fun _ h => by cases h⟩
  | x :: xs, h => by
    obtain ⟨l, rfl, hl⟩ := lst_decS cells Q dec xs (fun y hy => h y (by simp [hy]))
    obtain ⟨a, rfl, ha⟩ := dec x (h x (by simp)).1 (h x (by simp)).2
    exact ⟨a :: l, rfl, fun b hb => by
      rcases List.mem_cons.1 hb with rfl | hb
      · exact ha
      · exact hl b hb⟩
theorem Sh.lstS {α : Type} {w : World} {e : Sh} (cells : α → List Value) (Q : α → Prop) (dec : ∀ x, x.length = e.size → e.repS w x → ∃ a, x = cells a ∧ Q a) {sa : Option Addr} {n c : Nat} (h : (Sh.slice e).repS w [.slice sa n c]) :
    ∃ l : List α, l.length = n ∧ Lst (heapF w) [] e.size (l.flatMap cells) sa n c ∧ (∀ a ∈ l, Q a) ∧ n ≤ c ∧ c ≤ maxLen ∧ n ≤ reachBytes := by
  simp only [Sh.repS] at h
  obtain ⟨sa', n', c', he, hnc, hm, hr, hnone, xs, hlen, hx, hcan⟩ := h
  cases he
  obtain ⟨l, rfl, hl⟩ := lst_decS cells Q dec xs hx
  have hsz : ∀ a ∈ l, (cells a).length = e.size := fun a ha => (hx (cells a) (List.mem_map.2 ⟨a, ha, rfl⟩)).1
  have hfl : ∀ (l : List α), (∀ a ∈ l, (cells a).length = e.size) → (l.flatMap cells).length = l.length * e.size := fun l => by
    induction l with
    | nil => simp
    | cons a l ih => intro h; rw [List.flatMap_cons, List.length_append, ih (fun b hb => h b (by simp [hb])), h a (by simp), List.length_cons, Nat.succ_mul]; omega
  rw [List.length_map] at hlen
  refine ⟨l, hlen, ⟨by rw [hfl l hsz, hlen], hnc, fun h0 => ?_, hnone⟩, hl, hnc, hm, hr⟩
  obtain ⟨b, off, cs, T, fr, rfl, hb, hj⟩ := hcan h0
  refine ⟨b, off, rfl, Can.fr (F := heapF w) hb ?_⟩
  rw [List.flatten_eq_flatMap, List.flatMap_map] at hj
  exact hj
/-- a slice that is an argument -/
theorem shLS {w : World} {e : Sh} {α : Type} (cells : α → List Value) (Q : α → Prop) (hdec : ∀ x, x.length = e.size → e.repS w x → ∃ a, x = cells a ∧ Q a) {v : Value} {cs : List Value} (hv : (Sh.slice e).val v cs) (h : (Sh.slice e).repS w cs) :
    ∃ sa n c, ∃ l : List α, v = .slice sa n c ∧ Lst (heapF w) [] e.size (l.flatMap cells) sa n c ∧ (∀ a ∈ l, Q a) ∧ n ≤ reachBytes := by
  have h' := h
  simp only [Sh.repS] at h'
  obtain ⟨sa, n, c, rfl, _⟩ := h'
  obtain ⟨l, _, h1, h2, _, _, h3⟩ := Sh.lstS cells Q hdec h
  exact ⟨sa, n, c, l, by simpa [Sh.val] using hv.symm, h1, h2, h3⟩
theorem weights_app {H : Type} {P : Program} : ∀ {ts us : List TypeId} {ds : List (DataW H)} {n : Nat}, n ∈ DataW.weightsEach P ts ds → n ∈ DataW.weightsEach P (ts ++ us) (ds ++ [])
  | [], _, _, _, h => by simp [DataW.weightsEach] at h
  | _ :: _, _, [], _, h => by simp [DataW.weightsEach] at h
  | t :: ts, us, d :: ds, n, h => by
    simp only [List.cons_append, DataW.weightsEach, List.mem_append] at h ⊢
    exact h.imp id weights_app
theorem Sh.bytesS {w : World} {x : List Value} (h : (Sh.slice (.int .u8)).repS w x) : ∃ (bs : List UInt8) (sa : Option Addr) (n c : Nat), x = [.slice sa n c] ∧ bs.length = n ∧ Lst (heapF w) [] 1 (bs.map B) sa n c ∧ n ≤ reachBytes := by
  have h2 := Sh.rep_S _ h
  simp only [Sh.repS] at h
  obtain ⟨sa, n, c, rfl, _, _, h3, _⟩ := h
  obtain ⟨bs, h4, h5, _⟩ := Sh.bytes h2
  exact ⟨bs, sa, n, c, rfl, h4, h5, h3⟩
end Go.Sl
