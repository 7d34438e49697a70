/- Which TSNs came, in plain Lean: what one would be, what taking one does; many taken hang on which ones alone. No conditions: definitions and laws. -/
import Derived.Test.YtkbdfhfbhgaecaaSpS
namespace Go.Spn
open Go

def look (s : S) (x : Int) : Int := if inW (far s.b x) then (if s.p (far s.b x) then 1 else 0) else if 0 < far s.b x ∧ far s.b x ≤ 2147483647 then 2 else 1
def takeS (s : S) (x : Int) : S := if look s x = 0 then settle (add s x) else s
def takeD (s : S) (ds : List Int) (x : Int) : List Int := if look s x = 1 ∧ ds.length < 64 then ds ++ [x] else ds
theorem look_rng (s : S) (x : Int) : look s x = 0 ∨ look s x = 1 ∨ look s x = 2 := by
  unfold look
  split
  · split <;> simp
  · split <;> simp
theorem look_new {s : S} {x : Int} : look s x = 0 ↔ inW (far s.b x) = true ∧ s.p (far s.b x) = false := by
  unfold look
  cases h1 : inW (far s.b x) with
  | true =>
    rw [if_pos rfl]
    cases h2 : s.p (far s.b x) <;> simp
  | false =>
    rw [if_neg (by simp)]
    split <;> simp
theorem takeS_ok {s : S} (h : s.ok) (x : Int) : (takeS s x).ok := by
  unfold takeS
  split
  · exact settle_ok (add_ok h x)
  · exact h
theorem add_there {s : S} {y : Int} (h : s.p (far s.b y) = true) : add s y = s := by
  unfold add
  split
  · refine S.ext rfl (fun d => ?_)
    dsimp only
    by_cases hd : d = far s.b y
    · rw [hd, h]; simp
    · simp [hd]
  · rfl
theorem far_to {b : Int} (n d : Nat) (hn : n ≤ 100000) (hd : d ≤ 100000) : far (u32 (b + n)) (u32 (b + d)) = if n ≤ d then d - n else 4294967296 - (n - d) := by
  unfold far
  simp only [u32_eq]
  split <;> omega
theorem far_from {b : Int} (d : Nat) (hd : d ≤ 100000) : far b (u32 (b + d)) = d := by
  unfold far
  simp only [u32_eq]
  omega
theorem fol_ge {s : S} (h : s.ok) {n : Nat} (hp : ∀ k, 1 ≤ k → k ≤ n → s.p k = true) : n ≤ fol s := by
  rcases Nat.lt_or_ge (fol s) n with h1 | h1
  · have h2 := hp (fol s + 1) (by omega) (by omega)
    rw [fol_stop h] at h2
    cases h2
  · exact h1
theorem fol_is {s : S} (h : s.ok) {n : Nat} (hp : ∀ k, 1 ≤ k → k ≤ n → s.p k = true) (hs : s.p (n + 1) = false) : fol s = n := by
  have h1 := fol_ge h hp
  rcases Nat.lt_or_ge n (fol s) with h2 | h2
  · have := fol_all (s := s) (k := n + 1) (by omega) (by omega)
    rw [hs] at this; cases this
  · omega
theorem fol_shift_sub {s : S} (h : s.ok) {n : Nat} (hn : n ≤ fol s) : fol (shift s n) = fol s - n := by
  have hle := fol_le s
  refine fol_is (shift_ok h n) (fun k h1 h2 => ?_) ?_
  · show (inW k && s.p (k + n)) = true
    rw [inW_iff.2 (by omega), fol_all (by omega) (by omega)]
    rfl
  · show (inW (fol s - n + 1) && s.p (fol s - n + 1 + n)) = false
    rw [show fol s - n + 1 + n = fol s + 1 by omega, fol_stop h, Bool.and_false]
theorem settle_shift {s : S} (h : s.ok) {n : Nat} (hn : n ≤ fol s) : settle (shift s n) = settle s := by
  unfold settle
  rw [fol_shift_sub h hn, shift_shift h, show n + (fol s - n) = fol s by omega]
theorem add_p {s : S} {d : Nat} (hd : 1 ≤ d ∧ d ≤ 4096) (e : Nat) : (add s (u32 (s.b + d))).p e = (decide (e = d) || s.p e) := by
  unfold add
  rw [far_from d (by omega), if_pos (inW_iff.2 hd)]
theorem add_b (s : S) (x : Int) : (add s x).b = s.b := by
  unfold add
  split <;> rfl
theorem add_shift {s : S} {n d : Nat} (hn : n ≤ 4096) (hp : ∀ k, 1 ≤ k → k ≤ n → s.p k = true) (hd : 1 ≤ d ∧ d ≤ 4096) : add (shift s n) (u32 (s.b + d)) = shift (add s (u32 (s.b + d))) n := by
  have hfar : far (shift s n).b (u32 (s.b + d)) = if n ≤ d then d - n else 4294967296 - (n - d) := far_to n d (by omega) (by omega)
  by_cases hdn : d ≤ n
  · have h1 : inW (far (shift s n).b (u32 (s.b + d))) = false := by
      rw [hfar]
      cases hq : inW (if n ≤ d then d - n else 4294967296 - (n - d)) with
      | false => rfl
      | true =>
        have := inW_iff.1 hq
        split at this <;> omega
    have h2 : add s (u32 (s.b + d)) = s := add_there (by rw [far_from d (by omega)]; exact hp d hd.1 hdn)
    rw [h2]
    unfold add
    rw [h1]
    rfl
  · rw [if_pos (by omega)] at hfar
    refine S.ext ?_ (fun e => ?_)
    · rw [add_b]
      show u32 (s.b + n) = u32 ((add s (u32 (s.b + d))).b + n)
      rw [add_b]
    · have h1 : inW (d - n) = true := inW_iff.2 (by omega)
      have e1 : (add (shift s n) (u32 (s.b + d))).p e = (decide (e = d - n) || (inW e && s.p (e + n))) := by
        unfold add
        rw [hfar, if_pos h1]
        rfl
      rw [e1]
      show _ = (inW e && (add s (u32 (s.b + d))).p (e + n))
      rw [add_p hd]
      by_cases he : e = d - n
      · subst he
        rw [h1, show d - n + n = d by omega]
        simp
      · have : ¬ e + n = d := by omega
        simp [he, this]
/-- what a TSN would be, so far beyond the first base -/
theorem look_settle {s : S} (h : s.ok) {d : Nat} (hd : 1 ≤ d ∧ d ≤ 4096) : look (settle s) (u32 (s.b + d)) = if s.p d then 1 else 0 := by
  have hle := fol_le s
  have hfar : far (settle s).b (u32 (s.b + d)) = if fol s ≤ d then d - fol s else 4294967296 - (fol s - d) := far_to (fol s) d (by omega) (by omega)
  unfold look
  rw [hfar]
  by_cases hdn : d ≤ fol s
  · rw [fol_all hd.1 hdn, if_pos rfl]
    by_cases he : d = fol s
    · rw [if_pos (show fol s ≤ d by omega), show d - fol s = 0 by omega]
      rfl
    · rw [if_neg (show ¬ fol s ≤ d by omega)]
      have : inW (4294967296 - (fol s - d)) = false := by
        cases hq : inW (4294967296 - (fol s - d)) with
        | false => rfl
        | true => have := inW_iff.1 hq; omega
      rw [this, if_neg (by simp), if_neg (by omega)]
  · rw [if_pos (show fol s ≤ d by omega), inW_iff.2 (show 1 ≤ d - fol s ∧ d - fol s ≤ 4096 by omega), if_pos rfl]
    have : (settle s).p (d - fol s) = s.p d := by
      show (inW (d - fol s) && s.p (d - fol s + fol s)) = s.p d
      rw [inW_iff.2 (show 1 ≤ d - fol s ∧ d - fol s ≤ 4096 by omega), show d - fol s + fol s = d by omega]
      rfl
    rw [this]
theorem take_settle {s : S} (h : s.ok) {d : Nat} (hd : 1 ≤ d ∧ d ≤ 4096) : takeS (settle s) (u32 (s.b + d)) = settle (add s (u32 (s.b + d))) := by
  unfold takeS
  rw [look_settle h hd]
  cases hp : s.p d with
  | true =>
    rw [if_neg (by simp), add_there (by rw [far_from d (by omega)]; exact hp)]
  | false =>
    rw [if_pos (by simp)]
    have e1 : add (settle s) (u32 (s.b + d)) = shift (add s (u32 (s.b + d))) (fol s) := add_shift (fol_le s) (fun k h1 h2 => fol_all h1 h2) hd
    rw [e1]
    refine settle_shift (add_ok h _) (fol_ge (add_ok h _) (fun k h1 h2 => ?_))
    rw [add_p hd, fol_all h1 h2, Bool.or_true]
/-- the distances of some TSNs that lie by so much beyond the first one -/
def dl (by_ : List Int) : List Int := by_.map (fun y => y % 4096 + 1)
theorem dl_rng {l : List Int} : ∀ a ∈ dl l, 1 ≤ a ∧ a ≤ 4096 := fun a ha => by
  unfold dl at ha
  obtain ⟨y, _, rfl⟩ := List.mem_map.1 ha
  omega
theorem dl_rng' {l : List Int} : ∀ a ∈ dl l, 0 ≤ a ∧ a < 4294967296 := fun a ha => by have := dl_rng a ha; omega
/-- so many that came -/
def came (b : Int) (l : List Int) : S := settle (fill b (dl l))
theorem fill_b (b : Int) (l : List Int) : (fill b (dl l)).b = b := by rw [fill_eq dl_rng']
theorem fill_one (b : Int) (l : List Int) (y : Int) : fill b (dl (l ++ [y])) = add (fill b (dl l)) (u32 (b + (y % 4096 + 1))) := by
  unfold fill dl
  rw [List.map_append, List.foldl_append]
  rfl
theorem came_nil (b : Int) (hb : 0 ≤ b ∧ b < 4294967296) : came b [] = ⟨b, fun _ => false⟩ := by
  have hok : S.ok ⟨b, fun _ => false⟩ := ⟨hb, fun d hd => by cases hd⟩
  have e : fill b (dl []) = ⟨b, fun _ => false⟩ := rfl
  unfold came settle
  rw [e, show fol ⟨b, fun _ => false⟩ = 0 from fol_is hok (fun k h1 h2 => by omega) rfl, shift_zero hok]
theorem tsn_eq (first y : Int) : u32 (first + u32 (y % 4096)) = u32 (u32 (first - 1) + (y % 4096 + 1)) := by simp only [u32_eq]; omega
/-- one more comes -/
theorem came_step {b : Int} (hb : 0 ≤ b ∧ b < 4294967296) (l : List Int) (y : Int) : takeS (came b l) (u32 (b + (y % 4096 + 1))) = came b (l ++ [y]) ∧ look (came b l) (u32 (b + (y % 4096 + 1))) = if told (dl l) (y % 4096 + 1).toNat then 1 else 0 := by
  have hok := fill_ok hb (dl_rng' (l := l))
  have hd : 1 ≤ (y % 4096 + 1).toNat ∧ (y % 4096 + 1).toNat ≤ 4096 := by omega
  have hn : (((y % 4096 + 1).toNat : Nat) : Int) = y % 4096 + 1 := by omega
  have h1 := take_settle hok hd
  have h2 := look_settle hok hd
  rw [fill_b, hn] at h1 h2
  refine ⟨?_, ?_⟩
  · unfold came
    rw [h1, fill_one]
  · unfold came
    rw [h2, fill_eq dl_rng']
theorem told_in {l : List Int} {y : Int} (h : y ∈ l) : told (dl l) (y % 4096 + 1).toNat = true := by
  unfold told
  rw [inW_iff.2 (show 1 ≤ (y % 4096 + 1).toNat ∧ (y % 4096 + 1).toNat ≤ 4096 by omega), show (((y % 4096 + 1).toNat : Nat) : Int) = y % 4096 + 1 by omega]
  have : y % 4096 + 1 ∈ dl l := List.mem_map.2 ⟨y, h, rfl⟩
  simp [this]
theorem told_mem {l : List Int} {y : Int} : told (dl l) (y % 4096 + 1).toNat = true ↔ y % 4096 + 1 ∈ dl l := by
  unfold told
  rw [inW_iff.2 (show 1 ≤ (y % 4096 + 1).toNat ∧ (y % 4096 + 1).toNat ≤ 4096 by omega), show (((y % 4096 + 1).toNat : Nat) : Int) = y % 4096 + 1 by omega]
  simp
theorem came_ok {b : Int} (hb : 0 ≤ b ∧ b < 4294967296) (l : List Int) : (came b l).ok := settle_ok (fill_ok hb dl_rng')
/-- it hangs on which ones came alone -/
theorem came_ext {b : Int} {l m : List Int} (h : ∀ a, a ∈ l ↔ a ∈ m) : came b l = came b m := by
  unfold came
  rw [fill_eq dl_rng', fill_eq dl_rng']
  have : told (dl l) = told (dl m) := funext (fun d => by
    unfold told
    congr 1
    refine decide_eq_decide.2 ?_
    unfold dl
    rw [List.mem_map, List.mem_map]
    constructor
    · rintro ⟨y, hy, e⟩; exact ⟨y, (h y).1 hy, e⟩
    · rintro ⟨y, hy, e⟩; exact ⟨y, (h y).2 hy, e⟩)
  rw [this]
theorem came_add {b : Int} (hb : 0 ≤ b ∧ b < 4294967296) {l : List Int} {y : Int} (h : told (dl l) (y % 4096 + 1).toNat = true) : came b (l ++ [y]) = came b l := by
  have := (came_step hb l y).1
  rw [← this]
  unfold takeS
  rw [(came_step hb l y).2, h]
  rfl
/-- how many were new -/
theorem count_step {b : Int} (l : List Int) (y : Int) : count (fill b (dl (l ++ [y]))) = count (fill b (dl l)) + if told (dl l) (y % 4096 + 1).toNat then 0 else 1 := by
  have hd : 1 ≤ (y % 4096 + 1).toNat ∧ (y % 4096 + 1).toNat ≤ 4096 := by omega
  have hn : (((y % 4096 + 1).toNat : Nat) : Int) = y % 4096 + 1 := by omega
  have hp : ∀ e, (fill b (dl (l ++ [y]))).p e = (decide (e = (y % 4096 + 1).toNat) || (fill b (dl l)).p e) := fun e => by
    have := add_p (s := fill b (dl l)) hd e
    rw [fill_b, hn] at this
    rw [fill_one, this]
  have hq : (fill b (dl l)).p (y % 4096 + 1).toNat = told (dl l) (y % 4096 + 1).toNat := by rw [fill_eq dl_rng']
  generalize (y % 4096 + 1).toNat = d at *
  cases ht : told (dl l) d with
  | true =>
    rw [ht] at hq
    have : (fill b (dl (l ++ [y]))).p = (fill b (dl l)).p := funext (fun e => by
      rw [hp]
      by_cases he : e = d
      · subst he; rw [hq]; simp
      · simp [he])
    unfold count
    rw [this, if_pos rfl, Nat.add_zero]
  | false =>
    rw [ht] at hq
    unfold count
    rw [if_neg (by simp)]
    have hnd : d ∉ dist (fill b (dl l)).p := fun h => by have := (mem_dist.1 h).2; rw [hq] at this; cases this
    have hperm : (dist (fill b (dl (l ++ [y]))).p).Perm (d :: dist (fill b (dl l)).p) := by
      refine (List.perm_ext_iff_of_nodup (dist_nodup _) (List.nodup_cons.2 ⟨hnd, dist_nodup _⟩)).2 (fun a => ?_)
      rw [List.mem_cons, mem_dist, mem_dist, hp]
      constructor
      · rintro ⟨h1, h2⟩
        simp at h2
        rcases h2 with h2 | h2
        · exact .inl h2
        · exact .inr ⟨h1, h2⟩
      · rintro (rfl | ⟨h1, h2⟩)
        · exact ⟨hd.2, by simp⟩
        · exact ⟨h1, by simp [h2]⟩
    rw [hperm.length_eq, List.length_cons]
theorem count_nil (b : Int) : count (fill b (dl [])) = 0 := by
  have : dist (fill b (dl [])).p = [] := by
    unfold dist
    rw [List.filter_eq_nil_iff]
    intro d _
    show ¬ false = true
    simp
  unfold count
  rw [this]
  rfl
end Go.Spn
