/- slices.SortFunc in the logic: the library's own contract of it, for a slice that is owned and a comparison that only looks. Conditions: the comparison is a strict weak order. -/
import Derived.Test.YthjglhdjlmjffaaGreatBc
import Derived.Shelf.SlSortCmp.NoneTotal
namespace Go.Sl
open Go Go.Proofs Go.Sort

theorem world_grow {W W' : World} (hi : ∀ (b : Nat) (o : Obj), W.heap[b]? = some o → W'.heap[b]? = some o) (hs : Same W W') : W' = grow (W.drewN (W'.drawn - W.drawn)) (W'.heap.extract W.heap.size W'.heap.size) := by
  have h1 : W'.heap = W.heap ++ W'.heap.extract W.heap.size W'.heap.size := by
    apply Array.ext_getElem?
    intro k
    by_cases hk : k < W.heap.size
    · rw [Array.getElem?_append_left hk]
      have : W.heap[k]? = some W.heap[k] := Array.getElem?_eq_getElem hk
      rw [this]
      exact hi k _ this
    · rw [Array.getElem?_append_right (by omega), Array.getElem?_extract]
      have := hs.size
      by_cases hk2 : k < W'.heap.size
      · rw [if_pos (by omega)]
        congr 1
        omega
      · rw [if_neg (by omega), Array.getElem?_eq_none (by omega)]
  have h2 : W.drawn + (W'.drawn - W.drawn) = W'.drawn := by have := hs.drawn; omega
  have h3 := hs.os
  have h4 := hs.tape
  have h5 := hs.output
  cases W'
  cases W
  simp only [grow, World.drewN] at *
  subst h3 h4 h5
  rw [h2]
  congr 1
theorem Tr.exact {P : Program} {f : FuncId} {args : Array Value} {R : Value → HL → Prop} {W : World} (h : Tr P f args (fun b => W.heap[b]?) [] R) : Calls P f args W fun e w' => ∃ v, e = .returned v ∧ (∃ H, R v H) ∧ ∃ q os, w' = grow (W.drewN q) os :=
  (h W ⟨by simp, (fun _ h => by cases h), fun _ _ h => h, (fun _ h => by cases h)⟩).mono fun _ _ ⟨v, H', he, hR, hi, hs⟩ => ⟨v, he, ⟨H', hR⟩, _, _, world_grow hi.fr hs⟩

section
variable {α : Type} [Inhabited α]
theorem heap_sortWorld_other {enc : α → Value} {w : World} {blk off m k : Nat} {dk : Array α} {os : Array Obj} {o : Obj} (hk : k ≠ blk) (h : w.heap[k]? = some o) : (sortWorld enc w blk off m dk os).heap[k]? = some o := by
  have hlt := (Array.getElem?_eq_some_iff.1 h).1
  unfold sortWorld grow putRow mapBlock Sort.ahead
  dsimp only
  rw [Array.getElem?_append_left (by simpa using hlt), Array.getElem?_modify, if_neg (Ne.symm hk)]
  exact h
theorem heap_sortWorld_same {enc : α → Value} {w : World} {blk off m : Nat} {dk : Array α} {os : Array Obj} {c : Array Value} {E : TypeId} (h : w.heap[blk]? = some (.cells c E (0, 0))) : (sortWorld enc w blk off m dk os).heap[blk]? = some (.cells (putCells enc off dk c) E (0, 0)) := by
  have hlt := (Array.getElem?_eq_some_iff.1 h).1
  unfold sortWorld grow putRow mapBlock Sort.ahead
  dsimp only
  rw [Array.getElem?_append_left (by simpa using hlt), Array.getElem?_modify, if_pos rfl, h]
  rfl
theorem same_sortWorld (enc : α → Value) (w : World) (blk off m : Nat) (dk : Array α) (os : Array Obj) : Same w (sortWorld enc w blk off m dk os) := by
  unfold sortWorld grow putRow mapBlock Sort.ahead
  exact ⟨rfl, rfl, rfl, by simp, Nat.le_add_right _ _⟩
theorem putCells_list (enc : α → Value) (pre xs post : List Value) (ys : List α) (h : ys.length = xs.length) : putCells enc pre.length ys.toArray (pre ++ xs ++ post).toArray = (pre ++ ys.map enc ++ post).toArray := by
  apply Array.ext_getElem?
  intro k
  unfold putCells
  rw [Array.getElem?_mapIdx]
  simp only [List.getElem?_toArray, List.size_toArray]
  by_cases h1 : k < pre.length
  · rw [List.append_assoc, List.append_assoc, List.getElem?_append_left h1, List.getElem?_append_left h1, List.getElem?_eq_getElem h1]
    simp; omega
  · have e1 : (pre ++ xs ++ post)[k]? = (xs ++ post)[k - pre.length]? := by rw [List.append_assoc, List.getElem?_append_right (by omega)]
    have e2 : (pre ++ ys.map enc ++ post)[k]? = (ys.map enc ++ post)[k - pre.length]? := by rw [List.append_assoc, List.getElem?_append_right (by omega)]
    rw [e1, e2]
    by_cases h2 : k - pre.length < xs.length
    · rw [List.getElem?_append_left h2, List.getElem?_append_left (by simpa [h] using h2), List.getElem?_eq_getElem h2, List.getElem?_map, List.getElem?_eq_getElem (by omega)]
      simp
      rw [if_pos (by omega), List.getElem?_eq_getElem (by omega)]
      rfl
    · rw [List.getElem?_append_right (by omega), List.getElem?_append_right (by simp; omega)]
      simp only [List.length_map, h]
      cases post[k - pre.length - xs.length]? with
      | none => rfl
      | some v => simp; omega

/-- slices.SortFunc: a permutation, sorted -/
theorem sortFunc_tr {P : Program} {ρ : Shelf.Ren} (L : SlLaysF.n6 P ρ) (enc : α → Value) (h1 : OneCell enc) (cf : α → α → Int) (hO : SWO (ltOf cf)) (g : Nat) (cb : List Value) (eg : ∀ args w, (callFunc g args).run P w = .ok (.enter g args) w) (F : Nat → Option Obj) (hbc : HL)
    (hcmp : ∀ F', (∀ w, In F' [] w → In F hbc w) → ∀ x y, Tr P g (enc x :: enc y :: cb).toArray F' [] (fun v H => v = .int .i64 (cf x y) ∧ H = []))
    {E : Nat} {xs : List α} {sa : Option Addr} {sn sc : Nat} {hb : HL} (hown : OwnS E 1 (xs.map enc) (.slice sa sn sc) hb) (hmax : sn < 4611686018427387904) :
    Tr P (ρ.f 6) [.slice sa sn sc, .func (.func g) #[] cb.toArray].toArray F (hb ++ hbc) (fun v H => v = .tuple #[] ∧ ∃ (ys : List α) (hb' : HL), ys.Perm xs ∧ ys.Pairwise (fun a b => ltOf cf b a = false) ∧ OwnS E 1 (ys.map enc) (.slice sa sn sc) hb' ∧ H = hb' ++ hbc) := by
  intro w hw
  rcases hown with ⟨he, hx, rfl⟩ | ⟨b, n, cap, pre, spare, post, he, rfl, hl, hc, hsp, hm⟩
  · cases he
    have hnil : xs = [] := by simpa using hx
    subst hnil
    refine (AnyF.slices_SortFunc_none { L with } none 0 _ w).mono ?_
    rintro _ _ ⟨rfl, rfl⟩
    exact ⟨_, _, rfl, ⟨rfl, [], [], .refl _, .nil, .inl ⟨rfl, rfl, rfl⟩, rfl⟩, hw, Same.refl _⟩
  · cases he
    have hbk : w.heap[b]? = some (.cells (pre ++ xs.map enc ++ spare ++ post).toArray E (0, 0)) := hw.own (b, .cells (pre ++ xs.map enc ++ spare ++ post).toArray E (0, 0)) (by simp)
    have hlt := (Array.getElem?_eq_some_iff.1 hbk).1
    have hsz : xs.toArray.size = sn := by simp at hl; simpa using hl
    have hbn : ∀ p ∈ hbc, p.1 ≠ b := fun p hp e => by
      have := hw.nd
      rw [List.map_append, List.nodup_append] at this
      exact this.2.2 b (by simp) p.1 (List.mem_map.2 ⟨p, hp, rfl⟩) e.symm
    have hFb : F b = none := hw.dj (b, .cells (pre ++ xs.map enc ++ spare ++ post).toArray E (0, 0)) (by simp)
    have hH : Holds enc w b pre.length xs.toArray := fun j hj => by
      simp only [List.size_toArray] at hj
      constructor
      · rw [cell_of_row w b _ _ _ _ hbk]
        simp only [List.getElem?_toArray]
        rw [List.append_assoc, List.append_assoc, List.getElem?_append_right (by omega), Nat.add_sub_cancel_left, List.getElem?_append_left (by simpa using hj), List.getElem?_map, List.getElem?_eq_getElem hj, getElem!_pos _ _ (by simpa using hj)]
        simp
      · simp [World.frozen?, hbk]
    have hcl : CmpLays1 P g cb.toArray enc cf b pre.length xs.toArray.size w := fun m os dk _ x y => by
      have ht := hcmp (fun k => (sortWorld enc w b pre.length m dk os).heap[k]?) (fun w' hi => ?_) x y
      · have := Tr.exact ht
        have e : (#[enc x, enc y] ++ cb.toArray) = (enc x :: enc y :: cb).toArray := by simp
        rw [e]
        refine this.mono ?_
        rintro _ _ ⟨v, rfl, ⟨H, rfl, _⟩, q, os', hq⟩
        exact ⟨rfl, q, os', hq⟩
      · have hr := hw.right
        refine ⟨hr.nd, fun p hp => hi.fr p.1 p.2 (heap_sortWorld_other (hbn p hp) (hr.own p hp)), fun k o hk => hi.fr k o (heap_sortWorld_other (fun e => ?_) (hr.fr k o hk)), hr.dj⟩
        rw [e, hFb] at hk
        cases hk
    have hcon := Any.slices_SortFunc L enc h1 cf hO g cb.toArray b pre.length sc xs.toArray w eg hcl hH hlt (by rw [hsz]; exact hmax)
    rw [hsz] at hcon
    refine hcon.mono ?_
    rintro _ _ ⟨rfl, d', q, os, hp, hso, rfl⟩
    obtain ⟨hp1, _, hp3⟩ := hp
    rw [hsz] at hp1
    have hext : ∀ d : Array α, d.size = sn → d.extract 0 sn = d := fun d h => by rw [← h]; simp
    rw [hext _ hp1, hext _ hsz] at hp3
    have hyl : d'.toList.length = (xs.map enc).length := by simp at hl ⊢; omega
    have hnew : (sortWorld enc w b pre.length q d' os).heap[b]? = some (.cells (pre ++ d'.toList.map enc ++ spare ++ post).toArray E (0, 0)) := by
      rw [heap_sortWorld_same hbk]
      have := putCells_list enc pre (xs.map enc) (spare ++ post) d'.toList hyl
      simp only [Array.toArray_toList, ← List.append_assoc] at this
      rw [this]
    refine ⟨_, _, rfl, ⟨rfl, d'.toList, [(b, .cells (pre ++ d'.toList.map enc ++ spare ++ post).toArray E (0, 0))], by simpa using hp3, ?_, .inr ⟨b, sn, sc, pre, spare, post, rfl, rfl, by simp at hl ⊢; omega, hc, hsp, hm⟩, rfl⟩, ?_, same_sortWorld _ _ _ _ _ _ _⟩
    · rw [List.pairwise_iff_getElem]
      intro i j hi hj hij
      have := hso i j (Nat.zero_le _) hij (by simp at hj; omega)
      rw [getElem!_pos _ _ (by simpa using hj), getElem!_pos _ _ (by simpa using hi)] at this
      simpa using this
    · refine ⟨hw.nd, fun p hp => ?_, fun k o hk => heap_sortWorld_other (fun e => ?_) (hw.fr k o hk), fun p hp => ?_⟩
      · rcases List.mem_append.1 hp with hp | hp
        · rw [List.mem_singleton.1 hp]; exact hnew
        · exact heap_sortWorld_other (hbn p hp) (hw.own p (List.mem_append_right _ hp))
      · rw [e, hFb] at hk
        cases hk
      · rcases List.mem_append.1 hp with hp | hp
        · rw [List.mem_singleton.1 hp]; exact hFb
        · exact hw.dj p (List.mem_append_right _ hp)
end
end Go.Sl
