/- A set of numbers beyond a base: 'Last', walked: in whatever order the map gives its keys. Conditions: it is well formed. -/
import Derived.Test.YthjglhdjlmjffaaGreatSpC
namespace Go.Proofs.YthjglhdjlmjffaaGreat
open Go Go.Sl Go.Spn

theorem se_snoc {es : List Se} {p q : Se} {seen : List Nat} (hnd : (es.map (·.born)).Nodup) (hp : p ∈ es) (hq : q ∈ es) (h : q.born ∈ seen ++ [p.born]) : q.born ∈ seen ∨ q = p := by
  rcases List.mem_append.1 h with h1 | h1
  · exact .inl h1
  · rw [List.mem_singleton] at h1
    refine .inr ?_
    clear h
    induction es with
    | nil => cases hp
    | cons a es ih =>
      rw [List.map_cons, List.nodup_cons] at hnd
      rcases List.mem_cons.1 hp with h2 | hp' <;> rcases List.mem_cons.1 hq with h3 | hq'
      · rw [h2, h3]
      · subst h2; exact absurd (List.mem_map.2 ⟨q, hq', h1⟩ : p.born ∈ es.map (·.born)) hnd.1
      · subst h3; exact absurd (List.mem_map.2 ⟨p, hp', h1.symm⟩ : q.born ∈ es.map (·.born)) hnd.1
      · exact ih hnd.2 hp' hq'
theorem nodup_len {l1 l2 : List Nat} (h1 : l1.Nodup) (h : ∀ a ∈ l1, a ∈ l2) : l1.length ≤ l2.length := by
  induction l1 generalizing l2 with
  | nil => exact Nat.zero_le _
  | cons a l1 ih =>
    rw [List.nodup_cons] at h1
    have ha := h a (by simp)
    have := ih (l2 := l2.erase a) h1.2 (fun b hb => (List.mem_erase_of_ne (fun e => h1.1 (by rw [← e]; exact hb))).2 (h b (by simp [hb])))
    rw [List.length_erase_of_mem ha] at this
    have := List.length_pos_of_mem ha
    simp; omega
structure LsG where
  seen : List Nat
  d : Nat
theorem getLast_max {l : List Nat} (h : l.Pairwise (· < ·)) {d : Nat} (hd : d ∈ l) (hmax : ∀ e ∈ l, e ≤ d) : l.getLast? = some d := by
  induction l with
  | nil => cases hd
  | cons a l ih =>
    rw [List.pairwise_cons] at h
    cases l with
    | nil => rcases List.mem_cons.1 hd with rfl | h2; rfl; cases h2
    | cons b l =>
      rw [List.getLast?_cons_cons]
      refine ih h.2 ?_ (fun e he => hmax e (by simp [he]))
      rcases List.mem_cons.1 hd with rfl | h2
      · have h1 := h.1 b (by simp)
        have h2 := hmax b (by simp)
        omega
      · exact h2
end Go.Proofs.YthjglhdjlmjffaaGreat
