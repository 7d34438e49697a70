/- Words of numbers, lines taken apart and joined, as the library's contracts have them. No conditions: laws in plain Lean. -/
import Derived.Test.YtkelhlffeilakaaGreatDoorBuJ
import Derived.Test.YtkelhlffeilakaaGreatDoorBuD
import Derived.Lib.SplitLaws
import Derived.Lib.ParseIntB
import Derived.Lib.ItoaNum
import Derived.Lib.Join
namespace Go.Scr
open Go Go.Sl

theorem decDigits_digs (n : Nat) : Lib.decDigits n = digs n := by
  induction n using Nat.strongRecOn with
  | _ n ih =>
    rw [Lib.decDigits, digs]
    by_cases h : n < 10
    · rw [dif_pos h, dif_pos h]; rfl
    · rw [dif_neg h, dif_neg h, ih _ (by omega)]; rfl
theorem itoa_num (n : Int) : Lib.itoa n = num n := by
  unfold Lib.itoa num
  split
  · rw [decDigits_digs]
  · rw [decDigits_digs, show n.toNat = n.natAbs by omega]
theorem val_le (l : Str) (a : Nat) : a ≤ val a l := by
  induction l generalizing a with
  | nil => exact Nat.le_refl _
  | cons c l ih =>
    have := ih (10 * a + c.toNat % 16)
    show a ≤ val (10 * a + c.toNat % 16) l
    omega
theorem parseM_val (M : Nat) (hM : M < 18446744073709551616) (l : Str) : ∀ a : Nat, (∀ x ∈ l, 48 ≤ x.toNat ∧ x.toNat < 58) → val a l ≤ M → Lib.parseUintM M a l = .ok (val a l) := by
  induction l with
  | nil => intro a _ _; rfl
  | cons c l ih =>
    intro a hd hv
    have hc := hd c (by simp)
    have hv' : val (10 * a + c.toNat % 16) l ≤ M := hv
    have h1 := val_le l (10 * a + c.toNat % 16)
    have e : c.toNat % 16 = c.toNat - 48 := by omega
    rw [Lib.parseUintM, if_pos ⟨by omega, by omega⟩, if_neg (by omega), if_neg (by omega), show a * 10 + (c.toNat - 48) = 10 * a + c.toNat % 16 by omega, ih _ (fun x hx => hd x (List.mem_cons_of_mem _ hx)) hv']
    rfl
theorem parse_num {v : Int} (h : I64 v) : Lib.parseIntB 64 (num v) = .ok v := by
  obtain ⟨h1, h2⟩ := h
  have key : ∀ n : Nat, n ≤ 9223372036854775808 → Lib.parseUintB 64 (digs n) = .ok n := fun n hn => by
    unfold Lib.parseUintB
    rw [if_neg (digs_ne n), parseM_val _ (by decide) _ _ (fun x hx => dg_mem hx) (by rw [val_digs]; omega), val_digs]
  unfold num
  by_cases hn : v < 0
  · rw [if_pos hn]
    unfold Lib.parseIntB
    dsimp only
    rw [if_pos (.inr (by decide)), key _ (by omega)]
    dsimp only
    rw [if_neg (by intro h; exact h.1 (by decide)), if_neg (by omega), if_pos (by decide)]
    congr 1
    omega
  · rw [if_neg hn]
    cases hd : digs v.natAbs with
    | nil => exact absurd hd (digs_ne _)
    | cons c r =>
      have hc := dg_mem (n := v.natAbs) (x := c) (by rw [hd]; simp)
      have hk := key v.natAbs (by omega)
      rw [hd] at hk
      unfold Lib.parseIntB
      dsimp only
      rw [if_neg (by omega), hk]
      dsimp only
      rw [if_neg (by omega), if_neg (by omega), if_neg (by omega)]
      congr 1
      omega
theorem num_len {v : Int} (h : I64 v) : (num v).length ≤ 20 := by
  unfold num
  have hd := digs_len (n := v.natAbs) (k := 19) (by decide) (by unfold I64 at h; omega)
  split
  · simp; omega
  · omega
/-! lines taken apart -/
theorem split_lib (c : UInt8) : ∀ (n : Nat) (s : Str), s.length ≤ n → Lib.splitK [c] 0 (Lib.count s [c]) s = split c s := by
  intro n
  induction n with
  | zero =>
    intro s hs
    have : s = [] := List.eq_nil_of_length_eq_zero (by omega)
    subst this
    rfl
  | succ n ih =>
    intro s hs
    by_cases h : Lib.index s [c] = -1
    · rw [Lib.count_miss h]
      have hm : c ∉ s := fun hm => by
        obtain ⟨k, hk⟩ := List.getElem?_of_mem hm
        rw [Lib.index_one] at h
        exact Lib.indexByte_none h k hk
      rw [split_one hm]
      rfl
    · have hge := Lib.index_ge s [c]
      obtain ⟨i, hi⟩ : ∃ i : Nat, Lib.index s [c] = i := ⟨(Lib.index s [c]).toNat, by omega⟩
      have hi1 := hi
      rw [Lib.index_one] at hi1
      obtain ⟨h1, h2⟩ := Lib.indexByte_some hi1
      have hlt : i < s.length := (List.getElem?_eq_some_iff.1 h1).1
      rw [Lib.count_hit (by simp) hi, Nat.add_comm, Lib.splitK, if_neg (by rw [hi]; simp), hi]
      have e : s = s.take i ++ c :: s.drop (i + 1) := by
        conv => lhs; rw [← List.take_append_drop i s]
        rw [List.drop_eq_getElem_cons hlt, (List.getElem?_eq_some_iff.1 h1).2]
      have hno : c ∉ s.take i := fun hm => by
        obtain ⟨k, hk⟩ := List.getElem?_of_mem hm
        rw [List.getElem?_take] at hk
        split at hk
        · exact h2 k ‹_› hk
        · cases hk
      show s.take (i + 0) :: Lib.splitK [c] 0 (Lib.count (s.drop (i + 1)) [c]) (s.drop (i + 1)) = _
      rw [ih _ (by simp; omega), Nat.add_zero]
      conv => rhs; rw [e]
      rw [split_app hno]
theorem strB_data (s : Str) : (strB s).data.toList = s := by simp [strB]
theorem of_map_data {l : List ByteArray} {m : List Str} (h : l.map (·.data.toList) = m) : l = m.map strB := by
  subst h
  rw [List.map_map]
  conv => lhs; rw [← List.map_id l]
  exact List.map_congr_left fun x _ => strB_eq x
theorem splitB_split (c : UInt8) (s : Str) : Lib.splitB (strB [c]) 0 (Lib.countB (strB s) (strB [c])) (strB s) = (split c s).map strB := by
  apply of_map_data
  rw [Lib.splitB_data, strB_data, strB_data]
  show Lib.splitK [c] 0 (Lib.count (strB s).data.toList (strB [c]).data.toList) s = _
  rw [strB_data, strB_data]
  exact split_lib c _ s (Nat.le_refl _)
theorem countB_split (c : UInt8) (s : Str) : Lib.countB (strB s) (strB [c]) + 1 = (split c s).length := by
  have := Lib.splitB_all (strB [c]) (by rw [strB_size]; exact Nat.le_refl 1) 0 _ (strB s) rfl
  rw [splitB_split] at this
  simpa using this.symm
/-! lines joined -/
theorem join_lib (c : UInt8) (ws : List Str) : Lib.join ws [c] = join c ws := by
  cases ws with
  | nil => rfl
  | cons w ws =>
    rw [Lib.join_cons]
    induction ws generalizing w with
    | nil => simp [Lib.joinTail, join]
    | cons v ws ih =>
      have := ih v
      simp only [Lib.joinTail, List.map_cons, List.flatten_cons] at this ⊢
      show _ = w ++ c :: join c (v :: ws)
      rw [← this]
      simp
theorem join_len (c : UInt8) (ws : List Str) (m : Nat) (h : ∀ w ∈ ws, w.length ≤ m) : (join c ws).length ≤ ws.length * (m + 1) := by
  induction ws with
  | nil => simp [join]
  | cons w ws ih =>
    have hw := h w (by simp)
    have := ih (fun v hv => h v (List.mem_cons_of_mem _ hv))
    cases ws with
    | nil => simp [join]; omega
    | cons v ws =>
      rw [join_cons _ _ (by simp)]
      simp only [List.length_append, List.length_cons] at this ⊢
      rw [Nat.add_mul]
      omega
end Go.Scr
