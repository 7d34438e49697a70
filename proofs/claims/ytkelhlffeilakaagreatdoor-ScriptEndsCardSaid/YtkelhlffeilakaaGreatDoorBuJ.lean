/- Some texts as one. Words and lines of a script: numbers, answers and bytes as words; words joined and taken apart again. No conditions: definitions and laws in plain Lean. Events, configs and answers as lines, in plain Lean: the line of an event, the event of a line. No conditions: definitions and laws. A script's text taken apart: its lines, its config and its events; lines checked by reckoning. No conditions: definitions and laws in plain Lean. What a line's words might tell, as the document guesses it: numbers, answers, bytes, events. No conditions: definitions and laws in plain Lean. Lines glued to a text, and the number of the first one that is wrong; a field's word exchanged for another one. No conditions: definitions and laws in plain Lean. -/

namespace Go.Scr
abbrev Str := List UInt8

/-! numbers -/
def dg (n : Nat) : UInt8 := UInt8.ofNat (48 + n)
def digs (n : Nat) : Str := if h : n < 10 then [dg n] else digs (n / 10) ++ [dg (n % 10)]
termination_by n
decreasing_by omega
theorem digs_lt {n : Nat} (h : n < 10) : digs n = [dg n] := by rw [digs, dif_pos h]
theorem digs_ge {n : Nat} (h : 10 ≤ n) : digs n = digs (n / 10) ++ [dg (n % 10)] := by rw [digs, dif_neg (by omega)]
def num (n : Int) : Str := if n < 0 then 45 :: digs n.natAbs else digs n.natAbs

theorem dg_toNat {n : Nat} (h : n < 10) : (dg n).toNat = 48 + n := by
  unfold dg; rw [UInt8.toNat_ofNat']; omega
theorem dg_mem {n : Nat} : ∀ {x : UInt8}, x ∈ digs n → 48 ≤ x.toNat ∧ x.toNat < 58 := by
  induction n using Nat.strongRecOn with
  | _ n ih =>
    intro x hx
    by_cases h : n < 10
    · rw [digs_lt h, List.mem_singleton] at hx
      rw [hx, dg_toNat h]; omega
    · rw [digs_ge (by omega), List.mem_append, List.mem_singleton] at hx
      rcases hx with hx | hx
      · exact ih _ (by omega) hx
      · rw [hx, dg_toNat (by omega)]; omega
theorem digs_ne (n : Nat) : digs n ≠ [] := by
  by_cases h : n < 10
  · rw [digs_lt h]; simp
  · rw [digs_ge (by omega)]; simp
/-- what a row of digits tells, behind what was told -/
def val (a : Nat) (s : Str) : Nat := s.foldl (fun x c => 10 * x + c.toNat % 16) a
theorem val_append (a : Nat) (s t : Str) : val a (s ++ t) = val (val a s) t := by simp [val]
theorem val_digs (n : Nat) : val 0 (digs n) = n := by
  induction n using Nat.strongRecOn with
  | _ n ih =>
    by_cases h : n < 10
    · rw [digs_lt h]; simp only [val, List.foldl_cons, List.foldl_nil, dg_toNat h]; omega
    · rw [digs_ge (by omega), val_append, ih _ (by omega)]
      simp only [val, List.foldl_cons, List.foldl_nil, dg_toNat (show n % 10 < 10 by omega)]; omega
theorem digs_inj {m n : Nat} (h : digs m = digs n) : m = n := by rw [← val_digs m, ← val_digs n, h]
theorem digs_len {n k : Nat} (hk : 0 < k) (h : n < 10 ^ k) : (digs n).length ≤ k := by
  induction k generalizing n with
  | zero => omega
  | succ k ih =>
    by_cases h1 : n < 10
    · rw [digs_lt h1]; simp
    · rw [digs_ge (by omega)]
      have hk0 : 0 < k := by
        cases k with
        | zero => simp at h; omega
        | succ k => omega
      have : n / 10 < 10 ^ k := by
        rw [Nat.div_lt_iff_lt_mul (by omega)]
        rw [Nat.pow_succ] at h; exact h
      have := ih hk0 this
      simp; omega
theorem neg_not_digs (n : Nat) (s : Str) : (45 : UInt8) :: s ≠ digs n := fun h => by
  have := (dg_mem (n := n) (x := 45) (by rw [← h]; simp)).1
  exact absurd this (by decide)
theorem num_inj {m n : Int} (h : num m = num n) : m = n := by
  unfold num at h
  by_cases hm : m < 0
  · rw [if_pos hm] at h
    by_cases hn : n < 0
    · rw [if_pos hn] at h
      have := digs_inj (List.cons.inj h).2
      omega
    · rw [if_neg hn] at h; exact absurd h (neg_not_digs _ _)
  · rw [if_neg hm] at h
    by_cases hn : n < 0
    · rw [if_pos hn] at h; exact absurd h.symm (neg_not_digs _ _)
    · rw [if_neg hn] at h
      have := digs_inj h
      omega
theorem num_mem {n : Int} {x : UInt8} (h : x ∈ num n) : 45 ≤ x.toNat ∧ x.toNat < 58 := by
  unfold num at h
  split at h
  · rcases List.mem_cons.1 h with h | h
    · subst h; decide
    · have := dg_mem h; omega
  · have := dg_mem h; omega

/-! bytes -/
def hx (n : Nat) : UInt8 := if n < 10 then UInt8.ofNat (48 + n) else UInt8.ofNat (87 + n)
def hexs : Str → Str
  | [] => []
  | b :: bs => hx (b.toNat / 16) :: hx (b.toNat % 16) :: hexs bs
def oct (b : Str) : Str := if b = [] then [45] else hexs b
/-- the digit's worth -/
def unhx (c : UInt8) : Nat := if 97 ≤ c.toNat then c.toNat - 87 else c.toNat % 16
theorem hx_toNat {n : Nat} (h : n < 16) : (hx n).toNat = if n < 10 then 48 + n else 87 + n := by
  unfold hx; split <;> rw [UInt8.toNat_ofNat'] <;> omega
theorem unhx_hx {n : Nat} (h : n < 16) : unhx (hx n) = n := by
  unfold unhx; rw [hx_toNat h]; split <;> split <;> omega
theorem byte_lt (b : UInt8) : b.toNat < 256 := b.toNat_lt
def unhexs : Str → Str
  | a :: b :: s => UInt8.ofNat (16 * unhx a + unhx b) :: unhexs s
  | _ => []
theorem unhexs_hexs (b : Str) : unhexs (hexs b) = b := by
  induction b with
  | nil => rfl
  | cons x xs ih =>
    have hx1 := byte_lt x
    rw [hexs, unhexs, ih, unhx_hx (by omega), unhx_hx (by omega)]
    congr 1
    apply UInt8.toNat.inj
    rw [UInt8.toNat_ofNat']; omega
theorem hexs_mem {b : Str} {x : UInt8} (h : x ∈ hexs b) : (48 ≤ x.toNat ∧ x.toNat < 58) ∨ (97 ≤ x.toNat ∧ x.toNat < 103) := by
  induction b with
  | nil => simp [hexs] at h
  | cons y ys ih =>
    have hy := byte_lt y
    simp only [hexs, List.mem_cons] at h
    rcases h with h | h | h
    · subst h; rw [hx_toNat (by omega)]; split <;> omega
    · subst h; rw [hx_toNat (by omega)]; split <;> omega
    · exact ih h
theorem hexs_len (b : Str) : (hexs b).length = 2 * b.length := by
  induction b with
  | nil => rfl
  | cons x xs ih => simp [hexs, ih]; omega
theorem hexs_snoc (b : Str) (c : UInt8) : hexs (b ++ [c]) = hexs b ++ [hx (c.toNat / 16)] ++ [hx (c.toNat % 16)] := by
  induction b with
  | nil => rfl
  | cons x xs ih => simp only [List.cons_append, hexs, ih]
theorem hexs_get {b : Str} {c : UInt8} : ∀ {i : Nat}, b[i / 2]? = some c → (hexs b)[i]? = some (hx (if i % 2 = 0 then c.toNat / 16 else c.toNat % 16)) := by
  induction b with
  | nil => intro i h; simp at h
  | cons x xs ih =>
    intro i h
    match i, h with
    | 0, h => simp at h; subst h; rfl
    | 1, h => simp at h; subst h; rfl
    | i + 2, h =>
      have e : (i + 2) / 2 = i / 2 + 1 := by omega
      rw [e, List.getElem?_cons_succ] at h
      have := ih h
      rw [show (i + 2) % 2 = i % 2 by omega]
      exact this
theorem oct_inj {a b : Str} (h : oct a = oct b) : a = b := by
  have key : ∀ c : Str, c ≠ [] → hexs c ≠ [45] := fun c hc he => by
    have := congrArg List.length he
    rw [hexs_len] at this
    simp at this; omega
  unfold oct at h
  split at h <;> split at h
  · simp_all
  · exact absurd h.symm (key b ‹_›)
  · exact absurd h (key a ‹_›)
  · rw [← unhexs_hexs a, ← unhexs_hexs b, h]
theorem oct_mem {b : Str} {x : UInt8} (h : x ∈ oct b) : x.toNat = 45 ∨ (48 ≤ x.toNat ∧ x.toNat < 58) ∨ (97 ≤ x.toNat ∧ x.toNat < 103) := by
  unfold oct at h
  split at h
  · simp at h; subst h; exact .inl rfl
  · exact .inr (hexs_mem h)

/-! answers -/
def yn (b : Bool) : Str := if b then [121, 101, 115] else [110, 111]
theorem yn_inj {a b : Bool} (h : yn a = yn b) : a = b := by revert h; cases a <;> cases b <;> decide

/-! words joined, and lines taken apart -/
def join (c : UInt8) : List Str → Str
  | [] => []
  | [w] => w
  | w :: v :: ws => w ++ c :: join c (v :: ws)
def split (c : UInt8) : Str → List Str
  | [] => [[]]
  | x :: s => if x = c then [] :: split c s else match split c s with | [] => [[x]] | w :: ws => (x :: w) :: ws
theorem join_cons (c : UInt8) (w : Str) {ws : List Str} (h : ws ≠ []) : join c (w :: ws) = w ++ c :: join c ws := by
  cases ws with
  | nil => exact absurd rfl h
  | cons v ws => rfl
theorem join_snoc (c : UInt8) (ws : List Str) (w : Str) (h : ws ≠ []) : join c (ws ++ [w]) = join c ws ++ [c] ++ w := by
  induction ws with
  | nil => exact absurd rfl h
  | cons v ws ih =>
    cases ws with
    | nil => simp [join]
    | cons u ws =>
      have := ih (by simp)
      simp only [List.cons_append, join] at this ⊢
      rw [this]
      simp
theorem split_ne (c : UInt8) (s : Str) : split c s ≠ [] := by
  cases s with
  | nil => simp [split]
  | cons x s =>
    unfold split
    split
    · simp
    · split <;> simp
theorem join_split (c : UInt8) (s : Str) : join c (split c s) = s := by
  induction s with
  | nil => rfl
  | cons x s ih =>
    unfold split
    by_cases h : x = c
    · rw [if_pos h, join_cons _ _ (split_ne c s), ih, h]; rfl
    · rw [if_neg h]
      cases hs : split c s with
      | nil => exact absurd hs (split_ne c s)
      | cons w ws =>
        rw [hs] at ih
        cases ws with
        | nil => simp only [join] at ih ⊢; rw [ih]
        | cons v ws => simp only [join] at ih ⊢; rw [← ih]; rfl
theorem split_app {c : UInt8} {w : Str} (hw : c ∉ w) (s : Str) : split c (w ++ c :: s) = w :: split c s := by
  induction w with
  | nil => simp [split]
  | cons x w ih =>
    have hx : x ≠ c := fun e => hw (by simp [e])
    have := ih (fun h => hw (List.mem_cons_of_mem _ h))
    rw [List.cons_append, split, if_neg hx, this]
theorem split_one {c : UInt8} {w : Str} (hw : c ∉ w) : split c w = [w] := by
  induction w with
  | nil => rfl
  | cons x w ih =>
    have hx : x ≠ c := fun e => hw (by simp [e])
    rw [split, if_neg hx, ih (fun h => hw (List.mem_cons_of_mem _ h))]
theorem split_join {c : UInt8} {ws : List Str} (hn : ws ≠ []) (h : ∀ w ∈ ws, c ∉ w) : split c (join c ws) = ws := by
  induction ws with
  | nil => exact absurd rfl hn
  | cons w ws ih =>
    cases ws with
    | nil => exact split_one (h w (by simp))
    | cons v ws =>
      rw [join_cons _ _ (by simp), split_app (h w (by simp)), ih (by simp) (fun u hu => h u (List.mem_cons_of_mem _ hu))]
theorem join_inj {c : UInt8} {ws vs : List Str} (hw : ws ≠ []) (hv : vs ≠ []) (h1 : ∀ w ∈ ws, c ∉ w) (h2 : ∀ w ∈ vs, c ∉ w) (h : join c ws = join c vs) : ws = vs := by
  rw [← split_join hw h1, ← split_join hv h2, h]

/-! fields -/
inductive FT | u8 | u16 | int | bool | oct deriving DecidableEq
inductive FV | n (x : Int) | b (x : Bool) | o (x : Str) deriving DecidableEq
def fits : FT → FV → Prop
  | .u8, .n x => 0 ≤ x ∧ x < 256
  | .u16, .n x => 0 ≤ x ∧ x < 65536
  | .int, .n x => -9223372036854775808 ≤ x ∧ x < 9223372036854775808
  | .bool, .b _ => True
  | .oct, .o _ => True
  | _, _ => False
def wd : FV → Str
  | .n x => num x
  | .b x => yn x
  | .o x => oct x
theorem wd_inj {t : FT} {u v : FV} (hu : fits t u) (hv : fits t v) (h : wd u = wd v) : u = v := by
  cases t <;> cases u <;> cases v <;> simp only [fits] at hu hv <;> simp only [wd] at h <;> first
    | exact congrArg FV.n (num_inj h)
    | exact congrArg FV.b (yn_inj h)
    | exact congrArg FV.o (oct_inj h)
/-- no blank and no new line stands in a word -/
theorem wd_mem {v : FV} {x : UInt8} (h : x ∈ wd v) : 45 ≤ x.toNat ∧ x.toNat < 122 := by
  cases v with
  | n y => have := num_mem h; omega
  | b y =>
    cases y
    · simp only [wd, yn] at h
      have h : x ∈ [(110 : UInt8), 111] := h
      simp only [List.mem_cons, List.not_mem_nil, or_false] at h
      rcases h with h | h <;> subst h <;> decide
    · simp only [wd, yn] at h
      have h : x ∈ [(121 : UInt8), 101, 115] := h
      simp only [List.mem_cons, List.not_mem_nil, or_false] at h
      rcases h with h | h | h <;> subst h <;> decide
  | o y => have := oct_mem h; omega
end Go.Scr
namespace Go.Scr

/-! words of single values -/
def Wd (t : FT) (w : Str) (v : FV) : Prop := fits t v ∧ wd v = w
theorem Wd.inj {t : FT} {w : Str} {u v : FV} (hu : Wd t w u) (hv : Wd t w v) : u = v := wd_inj hu.1 hv.1 (hu.2.trans hv.2.symm)

/-! events -/
structure Evt where
  kind : Int
  fin : Int
  act : Bool
  ord : Bool
  str : Int
  path : Int
  n : Int
  life : Int
  bytes : Str
deriving DecidableEq
def evt0 : Evt := ⟨0, 0, false, false, 0, 0, 0, 0, []⟩
inductive Fd | fin | act | ord | str | path | n | life | bytes
deriving DecidableEq
def Fd.ft : Fd → FT
  | .fin => .u8
  | .act => .bool
  | .ord => .bool
  | .str => .u16
  | .path => .int
  | .n => .int
  | .life => .int
  | .bytes => .oct
def Evt.get (e : Evt) : Fd → FV
  | .fin => .n e.fin
  | .act => .b e.act
  | .ord => .b e.ord
  | .str => .n e.str
  | .path => .n e.path
  | .n => .n e.n
  | .life => .n e.life
  | .bytes => .o e.bytes
def Evt.set (e : Evt) : Fd → FV → Evt
  | .fin, .n x => { e with fin := x }
  | .act, .b x => { e with act := x }
  | .ord, .b x => { e with ord := x }
  | .str, .n x => { e with str := x }
  | .path, .n x => { e with path := x }
  | .n, .n x => { e with n := x }
  | .life, .n x => { e with life := x }
  | .bytes, .o x => { e with bytes := x }
  | _, _ => e
def Fd.zero : Fd → FV
  | .act => .b false
  | .ord => .b false
  | .bytes => .o []
  | _ => .n 0
def fds (k : Int) : List Fd :=
  if k = 1 then [.fin, .act, .n] else if k = 2 then [.fin, .str, .ord, .life, .bytes] else if k = 3 ∨ k = 4 ∨ k = 5 then [.fin]
  else if k = 6 ∨ k = 7 ∨ k = 8 then [.n] else if k = 9 then [.n, .life] else if k = 10 then [.path, .act] else if k = 11 then [.fin, .path, .bytes] else []
/-- "", "open", "send", "receive", "shutdown", "abort", "tick", "drop", "double", "delay", "cut", "inject" -/
def kwords : List Str := [[], [111, 112, 101, 110], [115, 101, 110, 100], [114, 101, 99, 101, 105, 118, 101], [115, 104, 117, 116, 100, 111, 119, 110], [97, 98, 111, 114, 116], [116, 105, 99, 107], [100, 114, 111, 112], [100, 111, 117, 98, 108, 101], [100, 101, 108, 97, 121], [99, 117, 116], [105, 110, 106, 101, 99, 116]]
def kword (k : Int) : Str := kwords.getD k.toNat []
def Evt.words (e : Evt) : List Str := (fds e.kind).map fun f => wd (e.get f)
/-- the event with the fields of its kind alone -/
def Evt.only (e : Evt) : Evt := (fds e.kind).foldl (fun o f => o.set f (e.get f)) { evt0 with kind := e.kind }
/-- the event without the fields of its kind -/
def Evt.bare (e : Evt) : Evt := (fds e.kind).foldl (fun o f => o.set f f.zero) e
def Evt.line (e : Evt) : Str := join 32 (kword e.kind :: e.words)
def Evt.Form (e : Evt) : Prop := 1 ≤ e.kind ∧ e.kind ≤ 11 ∧ e.only = e
instance (e : Evt) : Decidable e.Form := inferInstanceAs (Decidable (_ ∧ _ ∧ _))
structure Evt.Ok (e : Evt) : Prop where
  kind : 0 ≤ e.kind ∧ e.kind < 256
  fin : 0 ≤ e.fin ∧ e.fin < 256
  str : 0 ≤ e.str ∧ e.str < 65536
  path : -9223372036854775808 ≤ e.path ∧ e.path < 9223372036854775808
  n : -9223372036854775808 ≤ e.n ∧ e.n < 9223372036854775808
  life : -9223372036854775808 ≤ e.life ∧ e.life < 9223372036854775808
theorem Evt.Ok.fits {e : Evt} (h : e.Ok) (f : Fd) : fits f.ft (e.get f) := by
  cases f <;> simp only [Fd.ft, Evt.get, Scr.fits]
  · exact h.fin
  · exact h.str
  · exact h.path
  · exact h.n
  · exact h.life
theorem Evt.Ok.set {e : Evt} (h : e.Ok) (f : Fd) (v : FV) (hv : Scr.fits f.ft v) : (e.set f v).Ok := by
  cases f <;> cases v <;> simp only [Fd.ft, Scr.fits] at hv <;> constructor <;> simp only [Evt.set] <;> first | exact hv | exact h.kind | exact h.fin | exact h.str | exact h.path | exact h.n | exact h.life
/-- the kinds, one by one -/
theorem kind_cases {k : Int} (h1 : 1 ≤ k) (h2 : k ≤ 11) : k = 1 ∨ k = 2 ∨ k = 3 ∨ k = 4 ∨ k = 5 ∨ k = 6 ∨ k = 7 ∨ k = 8 ∨ k = 9 ∨ k = 10 ∨ k = 11 := by omega
theorem kword_inj {k m : Int} (h1 : 1 ≤ k ∧ k ≤ 11) (h2 : 1 ≤ m ∧ m ≤ 11) (h : kword k = kword m) : k = m := by
  rcases kind_cases h1.1 h1.2 with e | e | e | e | e | e | e | e | e | e | e <;> rcases kind_cases h2.1 h2.2 with g | g | g | g | g | g | g | g | g | g | g <;> subst e <;> subst g <;> first | rfl | exact absurd h (by decide)
theorem kword_mem {k : Int} (h1 : 1 ≤ k) (h2 : k ≤ 11) : ∀ x ∈ kword k, 97 ≤ x.toNat := by
  rcases kind_cases h1 h2 with e | e | e | e | e | e | e | e | e | e | e <;> subst e <;> decide
theorem kword_ne {k : Int} (h1 : 1 ≤ k) (h2 : k ≤ 11) : kword k ≠ [] := by
  rcases kind_cases h1 h2 with e | e | e | e | e | e | e | e | e | e | e <;> subst e <;> decide
theorem only_get {e e' : Evt} (hk : e.kind = e'.kind) (h : ∀ f ∈ fds e.kind, e.get f = e'.get f) : e.only = e'.only := by
  have key : ∀ (l : List Fd) (o : Evt), (∀ f ∈ l, e.get f = e'.get f) → l.foldl (fun o f => o.set f (e.get f)) o = l.foldl (fun o f => o.set f (e'.get f)) o := by
    intro l
    induction l with
    | nil => intros; rfl
    | cons f l ih =>
      intro o h
      simp only [List.foldl_cons]
      rw [h f (by simp), ih _ (fun g hg => h g (List.mem_cons_of_mem _ hg))]
  unfold Evt.only
  rw [← hk]
  exact key _ _ h
theorem no_blank {v : FV} : (32 : UInt8) ∉ wd v := fun h => by have := (wd_mem h).1; revert this; decide
theorem no_line {v : FV} : (10 : UInt8) ∉ wd v := fun h => by have := (wd_mem h).1; revert this; decide
theorem words_no_blank (e : Evt) (hf : e.Form) : ∀ w ∈ kword e.kind :: e.words, (32 : UInt8) ∉ w := by
  intro w hw
  rcases List.mem_cons.1 hw with hw | hw
  · subst hw
    intro h
    have := kword_mem hf.1 hf.2.1 _ h
    revert this; decide
  · obtain ⟨f, _, rfl⟩ := List.mem_map.1 hw
    exact no_blank
theorem map_eq_get {α β : Type} {f g : α → β} {l : List α} (h : l.map f = l.map g) : ∀ a ∈ l, f a = g a := by
  induction l with
  | nil => intro a ha; cases ha
  | cons b l ih =>
    simp only [List.map_cons, List.cons.injEq] at h
    intro a ha
    rcases List.mem_cons.1 ha with ha | ha
    · subst ha; exact h.1
    · exact ih h.2 a ha
/-- no two events have one line -/
theorem line_inj {e e' : Evt} (ho : e.Ok) (ho' : e'.Ok) (hf : e.Form) (hf' : e'.Form) (h : e.line = e'.line) : e = e' := by
  have h1 := join_inj (by simp) (by simp) (words_no_blank e hf) (words_no_blank e' hf') h
  simp only [List.cons.injEq] at h1
  have hk := kword_inj ⟨hf.1, hf.2.1⟩ ⟨hf'.1, hf'.2.1⟩ h1.1
  have h2 := h1.2
  unfold Evt.words at h2
  rw [← hk] at h2
  have h3 : e.only = e'.only := only_get hk fun f hm => wd_inj (ho.fits f) (ho'.fits f) (map_eq_get h2 f hm)
  rw [← hf.2.2, ← hf'.2.2, h3]
/-- the event of a line -/
def Reads (s : Str) (e : Evt) : Prop := e.Ok ∧ e.Form ∧ e.line = s
theorem Reads.inj {s : Str} {e e' : Evt} (h : Reads s e) (h' : Reads s e') : e = e' := line_inj h.1 h'.1 h.2.1 h'.2.1 (h.2.2.trans h'.2.2.symm)
/-- what Read answers: the event, else none -/
inductive RdIs (s : Str) : Option Evt → Prop
  | some {e : Evt} (h : Reads s e) : RdIs s (some e)
  | none (h : ∀ e, ¬ Reads s e) : RdIs s none
theorem RdIs.inj {s : Str} {a b : Option Evt} (h : RdIs s a) (k : RdIs s b) : a = b := by
  cases h with
  | some h => cases k with
    | some k => rw [h.inj k]
    | none k => exact absurd h (k _)
  | none h => cases k with
    | some k => exact absurd k (h _)
    | none k => rfl
theorem RdIs.ex (s : Str) : ∃ a, RdIs s a := by
  by_cases h : ∃ e, Reads s e
  · obtain ⟨e, he⟩ := h
    exact ⟨Option.some e, .some he⟩
  · exact ⟨Option.none, .none fun e he => h ⟨e, he⟩⟩
/-- fields set one behind the other, as words say -/
inductive Fills : List Fd → List Str → Evt → Evt → Prop
  | nil (e : Evt) : Fills [] [] e e
  | cons {f : Fd} {fs : List Fd} {w : Str} {ws : List Str} {v : FV} {e e' : Evt} (h : Wd f.ft w v) (r : Fills fs ws (e.set f v) e') : Fills (f :: fs) (w :: ws) e e'
theorem set_kind (e : Evt) (f : Fd) (v : FV) : (e.set f v).kind = e.kind := by cases f <;> cases v <;> rfl
theorem set_get {e : Evt} {f : Fd} {v : FV} (h : fits f.ft v) : (e.set f v).get f = v := by
  cases f <;> cases v <;> simp only [Fd.ft, fits] at h <;> rfl
theorem set_other {e : Evt} {f g : Fd} {v : FV} (hne : f ≠ g) : (e.set f v).get g = e.get g := by
  cases f <;> cases v <;> cases g <;> first | rfl | exact absurd rfl hne
theorem fds_nodup (k : Int) : (fds k).Nodup := by
  unfold fds
  split
  · decide
  split
  · decide
  split
  · decide
  split
  · decide
  split
  · decide
  split
  · decide
  split
  · decide
  · decide
theorem Fills.len {fs : List Fd} {ws : List Str} {e e' : Evt} (h : Fills fs ws e e') : fs.length = ws.length := by
  induction h with
  | nil => rfl
  | cons _ _ ih => simp [ih]
theorem Fills.kind {fs : List Fd} {ws : List Str} {e e' : Evt} (h : Fills fs ws e e') : e'.kind = e.kind := by
  induction h with
  | nil => rfl
  | cons _ _ ih => rw [ih, set_kind]
theorem Fills.ok {fs : List Fd} {ws : List Str} {e e' : Evt} (h : Fills fs ws e e') (ho : e.Ok) : e'.Ok := by
  induction h with
  | nil => exact ho
  | cons h _ ih => exact ih (ho.set _ _ h.1)
theorem Fills.other {fs : List Fd} {ws : List Str} {e e' : Evt} (h : Fills fs ws e e') {g : Fd} (hg : g ∉ fs) : e'.get g = e.get g := by
  induction h with
  | nil => rfl
  | cons _ _ ih =>
    rw [ih (fun h => hg (List.mem_cons_of_mem _ h)), set_other (fun h => hg (by rw [h]; exact List.mem_cons_self))]
theorem Fills.words {fs : List Fd} {ws : List Str} {e e' : Evt} (h : Fills fs ws e e') (hn : fs.Nodup) : fs.map (fun f => wd (e'.get f)) = ws := by
  induction h with
  | nil => rfl
  | @cons f fs w ws v e e' h r ih =>
    rw [List.nodup_cons] at hn
    rw [List.map_cons, ih hn.2, r.other hn.1, set_get h.1, h.2]
theorem Fills.of_get {fs : List Fd} {e0 e : Evt} (ho : e.Ok) : Fills fs (fs.map fun f => wd (e.get f)) e0 (fs.foldl (fun o f => o.set f (e.get f)) e0) := by
  induction fs generalizing e0 with
  | nil => exact .nil _
  | cons f fs ih => exact .cons ⟨ho.fits f, rfl⟩ ih
theorem Fills.inj {fs : List Fd} {ws : List Str} {e a b : Evt} (h : Fills fs ws e a) (k : Fills fs ws e b) : a = b := by
  induction h with
  | nil => cases k; rfl
  | cons h r ih =>
    cases k with
    | cons h' r' =>
      cases h.inj h'
      exact ih r'
theorem evt_ext {e e' : Evt} (hk : e.kind = e'.kind) (h : ∀ f, e.get f = e'.get f) : e = e' := by
  have h1 := h .fin
  have h2 := h .act
  have h3 := h .ord
  have h4 := h .str
  have h5 := h .path
  have h6 := h .n
  have h7 := h .life
  have h8 := h .bytes
  cases e
  cases e'
  simp only [Evt.get, FV.n.injEq, FV.b.injEq, FV.o.injEq] at *
  simp [*]
theorem foldl_get {e : Evt} {g : Fd} : ∀ (l : List Fd) (o : Evt), (o.get g = e.get g ∨ g ∈ l) → (∀ f ∈ l, fits f.ft (e.get f)) → (l.foldl (fun o f => o.set f (e.get f)) o).get g = e.get g := by
  intro l
  induction l with
  | nil => intro o h _; exact h.resolve_right (by simp)
  | cons f l ih =>
    intro o h hf
    rw [List.foldl_cons]
    refine ih _ ?_ (fun g hg => hf g (List.mem_cons_of_mem _ hg))
    by_cases e1 : f = g
    · subst e1; exact .inl (set_get (hf f (by simp)))
    · rcases h with h | h
      · exact .inl (by rw [set_other e1, h])
      · exact .inr ((List.mem_cons.1 h).resolve_left (fun e2 => e1 e2.symm))
theorem only_fills {k : Int} {ws : List Str} {e : Evt} (h : Fills (fds k) ws { evt0 with kind := k } e) : e.only = e := by
  have hk : e.kind = k := h.kind
  have hok : ∀ f ∈ fds k, fits f.ft (e.get f) := by
    have : ∀ {fs : List Fd} {ws : List Str} {a b : Evt}, Fills fs ws a b → fs.Nodup → ∀ f ∈ fs, fits f.ft (b.get f) := by
      intro fs ws a b h
      induction h with
      | nil => intro _ f hf; cases hf
      | @cons f fs w ws v e e' h r ih =>
        intro hn g hg
        rw [List.nodup_cons] at hn
        rcases List.mem_cons.1 hg with hg | hg
        · subst hg; rw [r.other hn.1, set_get h.1]; exact h.1
        · exact ih hn.2 g hg
    exact this h (fds_nodup k)
  unfold Evt.only
  rw [hk]
  refine evt_ext (by
    have : ∀ (l : List Fd) (o : Evt), (l.foldl (fun o f => o.set f (e.get f)) o).kind = o.kind := by
      intro l
      induction l with
      | nil => intro o; rfl
      | cons f l ih => intro o; rw [List.foldl_cons, ih, set_kind]
    rw [this, hk]) fun g => ?_
  by_cases hg : g ∈ fds k
  · exact foldl_get _ _ (.inr hg) hok
  · have h1 : e.get g = ({ evt0 with kind := k } : Evt).get g := h.other hg
    have : ∀ (l : List Fd) (o : Evt), g ∉ l → (l.foldl (fun o f => o.set f (e.get f)) o).get g = o.get g := by
      intro l
      induction l with
      | nil => intro o _; rfl
      | cons f l ih => intro o hn; rw [List.foldl_cons, ih _ (fun h => hn (List.mem_cons_of_mem _ h)), set_other (fun h => hn (by rw [h]; exact List.mem_cons_self))]
    rw [this _ _ hg, h1]
/-- a line that is taken apart, and all of whose words fill their fields -/
theorem reads_of_fills {s : Str} {k : Int} {ws : List Str} {e : Evt} (h1 : 1 ≤ k) (h2 : k ≤ 11) (hs : split 32 s = kword k :: ws) (h : Fills (fds k) ws { evt0 with kind := k } e) : Reads s e := by
  have hk : e.kind = k := h.kind
  refine ⟨h.ok ⟨⟨by show 0 ≤ k; omega, by show k < 256; omega⟩, ⟨by show (0 : Int) ≤ 0; decide, by show (0 : Int) < 256; decide⟩, ⟨by show (0 : Int) ≤ 0; decide, by show (0 : Int) < 65536; decide⟩, ⟨by show _ ≤ (0 : Int); decide, by show (0 : Int) < _; decide⟩, ⟨by show _ ≤ (0 : Int); decide, by show (0 : Int) < _; decide⟩, ⟨by show _ ≤ (0 : Int); decide, by show (0 : Int) < _; decide⟩⟩, ⟨by omega, by omega, only_fills h⟩, ?_⟩
  unfold Evt.line Evt.words
  rw [hk, h.words (fds_nodup k), ← hs, join_split]
theorem fills_of_reads {s : Str} {e : Evt} (h : Reads s e) : split 32 s = kword e.kind :: e.words ∧ Fills (fds e.kind) e.words { evt0 with kind := e.kind } e := by
  obtain ⟨ho, hf, hs⟩ := h
  refine ⟨?_, ?_⟩
  · rw [← hs]; exact split_join (by simp) (words_no_blank e hf)
  · have := Fills.of_get (fs := fds e.kind) (e0 := { evt0 with kind := e.kind }) ho
    rw [show (fds e.kind).foldl (fun o f => o.set f (e.get f)) { evt0 with kind := e.kind } = e from hf.2.2] at this
    exact this
/-- the kind of a word -/
def kindOf (w : Str) : Int := if w = [] then 0 else match kwords.idxOf? w with | some k => k | none => -1
/-! configs -/
def endsW : Str := [101, 110, 100, 115]
/-- the line of a config: its fourteen numbers -/
def head (c : List Int) : Str := join 32 (endsW :: c.map num)
def I64 (x : Int) : Prop := -9223372036854775808 ≤ x ∧ x < 9223372036854775808
theorem head_inj {c d : List Int} (h : head c = head d) : c = d := by
  have hb : ∀ l : List Int, ∀ w ∈ endsW :: l.map num, (32 : UInt8) ∉ w := by
    intro l w hw
    rcases List.mem_cons.1 hw with hw | hw
    · subst hw; decide
    · obtain ⟨x, _, rfl⟩ := List.mem_map.1 hw
      exact no_blank (v := .n x)
  have := join_inj (by simp) (by simp) (hb c) (hb d) h
  simp only [List.cons.injEq, true_and] at this
  have key : ∀ {c d : List Int}, c.map num = d.map num → c = d := by
    intro c
    induction c with
    | nil => intro d h; cases d with
      | nil => rfl
      | cons => simp at h
    | cons x c ih => intro d h; cases d with
      | nil => simp at h
      | cons y d =>
        simp only [List.map_cons, List.cons.injEq] at h
        rw [num_inj h.1, ih h.2]
  exact key this
/-- the config of a line -/
def HeadOf (s : Str) (c : List Int) : Prop := c.length = 14 ∧ (∀ x ∈ c, I64 x) ∧ head c = s
theorem HeadOf.inj {s : Str} {c d : List Int} (h : HeadOf s c) (k : HeadOf s d) : c = d := head_inj (h.2.2.trans k.2.2.symm)
theorem head_split {c : List Int} : split 32 (head c) = endsW :: c.map num := by
  refine split_join (by simp) ?_
  intro w hw
  rcases List.mem_cons.1 hw with hw | hw
  · subst hw; decide
  · obtain ⟨x, _, rfl⟩ := List.mem_map.1 hw
    exact no_blank (v := .n x)
/-! answers -/
structure Tld where
  err : Int
  s0 : Int
  s1 : Int
  now : Int
  stream : Int
  ord : Bool
  bytes : Str
  some : Bool
deriving DecidableEq
def Tld.line (t : Tld) : Str := join 32 [num t.err, num t.s0, num t.s1, num t.now, yn t.some, num t.stream, yn t.ord, oct t.bytes]
end Go.Scr
namespace Go.Scr

/-! numbers, reckoned -/
def digsF : Nat → Nat → Str
  | 0, _ => []
  | k + 1, n => match Nat.blt n 10 with
    | true => [dg n]
    | false => digsF k (n / 10) ++ [dg (n % 10)]
theorem digsF_eq : ∀ (k n : Nat), n < 10 ^ k → 0 < k → digsF k n = digs n
  | 0, _, _, h => absurd h (by omega)
  | k + 1, n, hn, _ => by
    unfold digsF
    by_cases h : n < 10
    · rw [show Nat.blt n 10 = true from Nat.ble_eq_true_of_le h, digs_lt h]
    · have hb : Nat.blt n 10 = false := by
        cases hb : Nat.blt n 10 with
        | false => rfl
        | true => exact absurd (Nat.le_of_ble_eq_true hb) h
      rw [hb, digs_ge (by omega)]
      dsimp only
      have hk : 0 < k := by
        cases k with
        | zero => simp at hn; omega
        | succ k => omega
      rw [digsF_eq k (n / 10) (by rw [Nat.div_lt_iff_lt_mul (by omega)]; rw [Nat.pow_succ] at hn; exact hn) hk]
def numF (n : Int) : Str := if n < 0 then 45 :: digsF 20 n.natAbs else digsF 20 n.natAbs
theorem numF_eq {n : Int} (h : I64 n) : numF n = num n := by
  unfold numF num
  have : n.natAbs < 10 ^ 20 := by unfold I64 at h; omega
  rw [digsF_eq 20 _ this (by decide)]
def i64B (n : Int) : Bool := decide (-9223372036854775808 ≤ n) && decide (n < 9223372036854775808)
theorem i64B_ok {n : Int} (h : i64B n = true) : I64 n := by
  simp only [i64B, Bool.and_eq_true, decide_eq_true_eq] at h
  exact h
def wdF : FV → Str
  | .n x => numF x
  | .b x => yn x
  | .o x => oct x
def Evt.okB (e : Evt) : Bool := ((decide (0 ≤ e.kind) && decide (e.kind < 256)) && (decide (0 ≤ e.fin) && decide (e.fin < 256))) && ((decide (0 ≤ e.str) && decide (e.str < 65536)) && (i64B e.path && (i64B e.n && i64B e.life)))
theorem Evt.okB_ok {e : Evt} (h : e.okB = true) : e.Ok := by
  simp only [Evt.okB, Bool.and_eq_true, decide_eq_true_eq] at h
  exact ⟨h.1.1, h.1.2, h.2.1, i64B_ok h.2.2.1, i64B_ok h.2.2.2.1, i64B_ok h.2.2.2.2⟩
def Evt.lineF (e : Evt) : Str := join 32 (kword e.kind :: (fds e.kind).map fun f => wdF (e.get f))
theorem Evt.lineF_eq {e : Evt} (h : e.Ok) : e.lineF = e.line := by
  unfold Evt.lineF Evt.line Evt.words
  congr 2
  refine List.map_congr_left fun f _ => ?_
  have hf := h.fits f
  cases f <;> simp only [Evt.get, wdF, wd] <;> simp only [Fd.ft, Evt.get, Scr.fits] at hf <;> refine numF_eq ⟨?_, ?_⟩ <;> omega
/-- a line is that event's -/
def readsB (s : Str) (e : Evt) : Bool := (e.okB && decide e.Form) && decide (e.lineF = s)
theorem readsB_ok {s : Str} {e : Evt} (h : readsB s e = true) : Reads s e := by
  simp only [readsB, Bool.and_eq_true, decide_eq_true_eq] at h
  have ho := Evt.okB_ok h.1.1
  exact ⟨ho, h.1.2, by rw [← Evt.lineF_eq ho]; exact h.2⟩
def headF (c : List Int) : Str := join 32 (endsW :: c.map numF)
theorem headF_eq {c : List Int} (h : ∀ x ∈ c, I64 x) : headF c = head c := by
  unfold headF head
  congr 2
  exact List.map_congr_left fun x hx => numF_eq (h x hx)
def headB (s : Str) (c : List Int) : Bool := (Nat.beq c.length 14 && c.all i64B) && decide (headF c = s)
theorem headB_ok {s : Str} {c : List Int} (h : headB s c = true) : HeadOf s c := by
  simp only [headB, Bool.and_eq_true, decide_eq_true_eq, List.all_eq_true] at h
  have hx : ∀ x ∈ c, I64 x := fun x hx => i64B_ok (h.1.2 x hx)
  exact ⟨Nat.eq_of_beq_eq_true h.1.1, hx, by rw [← headF_eq hx]; exact h.2⟩

/-! a text's lines, its config and its events -/
/-- is a line idle? -/
def idle (s : Str) : Bool := match s with
  | [] => true
  | x :: _ => decide (x = 35)
/-- a text's lines: none behind the last sign -/
def lines (t : Str) : List Str := if (split 10 t).getLast? = some [] then (split 10 t).dropLast else split 10 t
/-- what is known behind some lines: the config and its line's number; the events and their lines -/
structure Ps where
  c : Option (Nat × List Int)
  ev : List (Str × Evt)
/-- a line more -/
inductive Pstep (i : Nat) (s : Str) : Ps → Ps → Prop
  | idle {p : Ps} (h : idle s = true) : Pstep i s p p
  | head {p : Ps} {c : List Int} (h : idle s = false) (hp : p.c = none) (hc : HeadOf s c) : Pstep i s p { p with c := some (i, c) }
  | event {p : Ps} {q : Nat × List Int} {e : Evt} (h : idle s = false) (hp : p.c = some q) (he : Reads s e) : Pstep i s p { p with ev := p.ev ++ [(s, e)] }
/-- a line that is nobody's -/
def Pwrong (s : Str) (p : Ps) : Prop := idle s = false ∧ match p.c with
  | none => ∀ c, ¬ HeadOf s c
  | some _ => ∀ e, ¬ Reads s e
/-- behind the first so many lines -/
inductive Pgo : List Str → Ps → Prop
  | nil : Pgo [] ⟨none, []⟩
  | snoc {l : List Str} {s : Str} {p q : Ps} (h : Pgo l p) (hs : Pstep l.length s p q) : Pgo (l ++ [s]) q
theorem Pstep.inj {i : Nat} {s : Str} {p q r : Ps} (h : Pstep i s p q) (k : Pstep i s p r) : q = r := by
  cases h with
  | idle h => cases k with
    | idle k => rfl
    | head k _ _ => rw [h] at k; cases k
    | event k _ _ => rw [h] at k; cases k
  | head h hp hc => cases k with
    | idle k => rw [h] at k; cases k
    | head k kp kc => rw [hc.inj kc]
    | event k kp ke => rw [hp] at kp; cases kp
  | event h hp he => cases k with
    | idle k => rw [h] at k; cases k
    | head k kp kc => rw [hp] at kp; cases kp
    | event k kp ke => rw [he.inj ke]
theorem Pstep.no {i : Nat} {s : Str} {p q : Ps} (h : Pstep i s p q) (k : Pwrong s p) : False := by
  obtain ⟨k1, k2⟩ := k
  cases h with
  | idle h => rw [h] at k1; cases k1
  | head h hp hc => rw [hp] at k2; exact k2 _ hc
  | event h hp he => rw [hp] at k2; exact k2 _ he
theorem Pstep.ex (i : Nat) (s : Str) (p : Ps) : (∃ q, Pstep i s p q) ∨ Pwrong s p := by
  cases hi : Scr.idle s with
  | true => exact .inl ⟨_, .idle hi⟩
  | false =>
    cases hp : p.c with
    | none =>
      by_cases h : ∃ c, HeadOf s c
      · obtain ⟨c, hc⟩ := h
        exact .inl ⟨_, .head hi hp hc⟩
      · exact .inr ⟨hi, by rw [hp]; exact fun c hc => h ⟨c, hc⟩⟩
    | some q =>
      by_cases h : ∃ e, Reads s e
      · obtain ⟨e, he⟩ := h
        exact .inl ⟨_, .event hi hp he⟩
      · exact .inr ⟨hi, by rw [hp]; exact fun e he => h ⟨e, he⟩⟩
theorem Pgo.inv {l : List Str} {q : Ps} (h : Pgo l q) : ∀ {m : List Str} {s : Str}, l = m ++ [s] → ∃ p, Pgo m p ∧ Pstep m.length s p q := by
  intro m s e
  induction h with
  | nil => exact absurd (congrArg List.length e) (by simp)
  | snoc h hs _ =>
    obtain ⟨e1, e2⟩ := List.append_inj' e rfl
    subst e1
    cases e2
    exact ⟨_, h, hs⟩
theorem Pgo.inv0 {l : List Str} {q : Ps} (h : Pgo l q) (e : l = []) : q = ⟨none, []⟩ := by
  induction h with
  | nil => rfl
  | snoc h hs _ => exact absurd (congrArg List.length e) (by simp)
theorem Pgo.inj {l : List Str} {p q : Ps} (h : Pgo l p) : Pgo l q → p = q := by
  induction h generalizing q with
  | nil => exact fun k => (k.inv0 rfl).symm
  | snoc h hs ih =>
    intro k
    obtain ⟨p2, k1, k2⟩ := k.inv rfl
    have := ih k1
    subst this
    exact hs.inj k2
theorem Pgo.uni {l : List Str} {p q : Ps} (h : Pgo l p) (k : Pgo l q) : p = q := h.inj k
/-- the first lines of lines that are all somebody's -/
theorem Pgo.pre {l m : List Str} : ∀ {n : Nat}, m.length ≤ n → ∀ {q : Ps}, Pgo (l ++ m) q → ∃ p, Pgo l p := by
  intro n
  induction n generalizing m with
  | zero =>
    intro hn q h
    have : m = [] := List.eq_nil_of_length_eq_zero (by omega)
    subst this
    exact ⟨q, by simpa using h⟩
  | succ n ih =>
    intro hn q h
    rcases List.eq_nil_or_concat m with e | ⟨m', s, e⟩
    · subst e; exact ⟨q, by simpa using h⟩
    · subst e
      rw [List.concat_eq_append, ← List.append_assoc] at h
      obtain ⟨p, hp, _⟩ := h.inv rfl
      exact ih (by simp at hn ⊢; omega) hp
/-- what a text is: the number of the line that is wrong first, else a config and events -/
inductive Text (t : Str) : Nat ⊕ (Nat × List Int × List (Str × Evt)) → Prop
  | wrong {l m : List Str} {s : Str} {p : Ps} (h : lines t = l ++ s :: m) (hp : Pgo l p) (hs : Pwrong s p) : Text t (.inl l.length)
  | none {p : Ps} (hp : Pgo (lines t) p) (h : p.c = none) : Text t (.inl (lines t).length)
  | some {p : Ps} {q : Nat × List Int} (hp : Pgo (lines t) p) (h : p.c = some q) : Text t (.inr (q.1, q.2, p.ev))
theorem Pgo.stuck {l r : List Str} {s : Str} {p q : Ps} (h : Pgo (l ++ s :: r) q) (hp : Pgo l p) (hw : Pwrong s p) : False := by
  rw [show l ++ s :: r = (l ++ [s]) ++ r by simp] at h
  obtain ⟨p1, h1⟩ := h.pre (Nat.le_refl _)
  obtain ⟨p2, h2, h3⟩ := h1.inv rfl
  have := h2.uni hp
  subst this
  exact h3.no hw
theorem Text.inj {t : Str} {a b : Nat ⊕ (Nat × List Int × List (Str × Evt))} (h : Text t a) (k : Text t b) : a = b := by
  cases h with
  | @wrong l m s p h hp hs =>
    cases k with
    | @wrong l' m' s' p' k kp ks =>
      rw [h] at k
      rcases List.append_eq_append_iff.1 k with ⟨c, e1, e2⟩ | ⟨c, e1, e2⟩
      · cases c with
        | nil => simp at e1; rw [e1]
        | cons x c =>
          simp only [List.cons_append, List.cons.injEq] at e2
          subst e1
          obtain ⟨e3, e4⟩ := e2
          subst e3
          exact absurd (Pgo.stuck kp hp hs) id
      · cases c with
        | nil => simp at e1; rw [e1]
        | cons x c =>
          simp only [List.cons_append, List.cons.injEq] at e2
          subst e1
          obtain ⟨e3, e4⟩ := e2
          subst e3
          exact absurd (Pgo.stuck hp kp ks) id
    | none kp k => rw [h] at kp; exact absurd (Pgo.stuck kp hp hs) id
    | some kp k => rw [h] at kp; exact absurd (Pgo.stuck kp hp hs) id
  | none hp h =>
    cases k with
    | wrong k kp ks => rw [k] at hp; exact absurd (Pgo.stuck hp kp ks) id
    | none kp k => rfl
    | some kp k => rw [hp.uni kp, k] at h; cases h
  | some hp h =>
    cases k with
    | wrong k kp ks => rw [k] at hp; exact absurd (Pgo.stuck hp kp ks) id
    | none kp k => rw [hp.uni kp, k] at h; cases h
    | some kp k =>
      have e := hp.uni kp
      subst e
      rw [h] at k
      cases k
      rfl
/-! answers, reckoned -/
def Tld.lineF (t : Tld) : Str := join 32 [numF t.err, numF t.s0, numF t.s1, numF t.now, yn t.some, numF t.stream, yn t.ord, oct t.bytes]
def Tld.okB (t : Tld) : Bool := (i64B t.err && i64B t.s0) && ((i64B t.s1 && i64B t.now) && i64B t.stream)
theorem Tld.lineF_eq {t : Tld} (h : t.okB = true) : t.lineF = t.line := by
  simp only [Tld.okB, Bool.and_eq_true] at h
  unfold Tld.lineF Tld.line
  rw [numF_eq (i64B_ok h.1.1), numF_eq (i64B_ok h.1.2), numF_eq (i64B_ok h.2.1.1), numF_eq (i64B_ok h.2.1.2), numF_eq (i64B_ok h.2.2)]
end Go.Scr
namespace Go.Scr

def wrap64 (x : Int) : Int := (x + 9223372036854775808) % 18446744073709551616 - 9223372036854775808
theorem wrap64_id {x : Int} (h : I64 x) : wrap64 x = x := by unfold I64 at h; unfold wrap64; omega
/-- the number that a word might tell -/
def valZ : Str → Int
  | [] => 0
  | c :: s => if c = 45 then wrap64 (-(val 0 s : Nat)) else wrap64 ((val 0 (c :: s) : Nat) : Int)
theorem valZ_cons (c : UInt8) (s : Str) : valZ (c :: s) = if c = 45 then wrap64 (-(val 0 s : Nat)) else wrap64 ((val 0 (c :: s) : Nat) : Int) := rfl
theorem valZ_num {n : Int} (h : I64 n) : valZ (num n) = n := by
  unfold num
  by_cases hn : n < 0
  · rw [if_pos hn]
    rw [valZ_cons, if_pos rfl, val_digs, wrap64_id (by unfold I64 at h ⊢; omega)]
    omega
  · rw [if_neg hn]
    cases hd : digs n.natAbs with
    | nil => exact absurd hd (digs_ne _)
    | cons c s =>
      rw [valZ_cons]
      have hc : c ≠ 45 := fun e => by
        have := (dg_mem (n := n.natAbs) (x := c) (by rw [hd]; simp)).1
        rw [e] at this
        exact absurd this (by decide)
      rw [if_neg hc, ← hd, val_digs, wrap64_id (by unfold I64 at h ⊢; omega)]
      omega
/-- the bytes that a word might tell -/
theorem unhexs_oct (b : Str) : unhexs (oct b) = b := by
  unfold oct
  split
  · rename_i h; subst h; rfl
  · exact unhexs_hexs b
def isYes (w : Str) : Bool := decide (w = [121, 101, 115])
theorem isYes_yn (b : Bool) : isYes (yn b) = b := by cases b <;> decide
/-- what a word tells to a field -/
def gv : Fd → Str → FV
  | .fin, w => .n (valZ w % 256)
  | .str, w => .n (valZ w % 65536)
  | .act, w => .b (isYes w)
  | .ord, w => .b (isYes w)
  | .bytes, w => .o (unhexs w)
  | _, w => .n (valZ w)
theorem gv_wd {f : Fd} {w : Str} {v : FV} (h : Wd f.ft w v) : gv f w = v := by
  obtain ⟨h1, h2⟩ := h
  cases f <;> cases v <;> simp only [Fd.ft, fits] at h1 <;> simp only [wd] at h2 <;> subst h2 <;> simp only [gv]
  · rw [valZ_num ⟨by omega, by omega⟩]; congr 1; omega
  · rw [isYes_yn]
  · rw [isYes_yn]
  · rw [valZ_num ⟨by omega, by omega⟩]; congr 1; omega
  · rw [valZ_num h1]
  · rw [valZ_num h1]
  · rw [valZ_num h1]
  · rw [unhexs_oct]
theorem gv_fits (f : Fd) (w : Str) : fits f.ft (gv f w) := by
  have hv : I64 (valZ w) := by
    have hw : ∀ x, I64 (wrap64 x) := fun x => by unfold I64 wrap64; omega
    cases w with
    | nil => exact ⟨by decide, by decide⟩
    | cons c s =>
      rw [valZ_cons]
      split
      · exact hw _
      · exact hw _
  unfold I64 at hv
  cases f <;> simp only [Fd.ft, gv, fits] <;> omega
/-- the kind that a word is, else none -/
def kindZ (w : Str) : Int := if w = kword 1 then 1 else if w = kword 2 then 2 else if w = kword 3 then 3 else if w = kword 4 then 4 else if w = kword 5 then 5 else if w = kword 6 then 6 else if w = kword 7 then 7 else if w = kword 8 then 8 else if w = kword 9 then 9 else if w = kword 10 then 10 else if w = kword 11 then 11 else 0
theorem kindZ_word {k : Int} (h1 : 1 ≤ k) (h2 : k ≤ 11) : kindZ (kword k) = k := by
  rcases kind_cases h1 h2 with e | e | e | e | e | e | e | e | e | e | e <;> subst e <;> decide
/-- the event that words might tell -/
def gz : List Str → Evt
  | [] => evt0
  | w :: ws => if (fds (kindZ w)).length = ws.length then ((fds (kindZ w)).zip ws).foldl (fun o p => o.set p.1 (gv p.1 p.2)) { evt0 with kind := kindZ w } else evt0
theorem gz_cons (w : Str) (ws : List Str) : gz (w :: ws) = if (fds (kindZ w)).length = ws.length then ((fds (kindZ w)).zip ws).foldl (fun o p => o.set p.1 (gv p.1 p.2)) { evt0 with kind := kindZ w } else evt0 := rfl
theorem gz_fills {fs : List Fd} {ws : List Str} {a b : Evt} (h : Fills fs ws a b) : (fs.zip ws).foldl (fun o p => o.set p.1 (gv p.1 p.2)) a = b := by
  induction h with
  | nil => rfl
  | cons h r ih =>
    rw [List.zip_cons_cons, List.foldl_cons]
    dsimp only
    rw [gv_wd h]
    exact ih
theorem gz_reads {s : Str} {e : Evt} (h : Reads s e) : gz (split 32 s) = e := by
  obtain ⟨h1, h2⟩ := fills_of_reads h
  have hk := kindZ_word h.2.1.1 h.2.1.2.1
  rw [h1, gz_cons, hk, if_pos h2.len]
  exact gz_fills h2
theorem gz_ok : ∀ (l : List Str), (gz l).Ok := by
  have h0 : ∀ k : Int, 0 ≤ k ∧ k < 256 → ({ evt0 with kind := k } : Evt).Ok := fun k hk => ⟨hk, ⟨by show (0 : Int) ≤ (0 : Int); decide, by show (0 : Int) < 256; decide⟩, ⟨by show (0 : Int) ≤ (0 : Int); decide, by show (0 : Int) < 65536; decide⟩, ⟨by show _ ≤ (0 : Int); decide, by show (0 : Int) < _; decide⟩, ⟨by show _ ≤ (0 : Int); decide, by show (0 : Int) < _; decide⟩, ⟨by show _ ≤ (0 : Int); decide, by show (0 : Int) < _; decide⟩⟩
  intro l
  cases l with
  | nil => exact h0 0 (by decide)
  | cons w ws =>
    rw [gz_cons]
    split
    · have : ∀ (l : List (Fd × Str)) (o : Evt), o.Ok → (l.foldl (fun o p => o.set p.1 (gv p.1 p.2)) o).Ok := by
        intro l
        induction l with
        | nil => intro o h; exact h
        | cons p l ih => intro o h; exact ih _ (h.set _ _ (gv_fits _ _))
      refine this _ _ (h0 _ ?_)
      unfold kindZ
      (repeat' split) <;> decide
    · exact h0 0 (by decide)
/-! bytes, two digits at a time -/
theorem unhexs_snoc (a b : UInt8) : ∀ (k : Nat) (l : Str), l.length = 2 * k → unhexs (l ++ [a, b]) = unhexs l ++ [UInt8.ofNat (16 * unhx a + unhx b)] := by
  intro k
  induction k with
  | zero => intro l hl; have := List.eq_nil_of_length_eq_zero hl; subst this; rfl
  | succ k ih =>
    intro l hl
    match l, hl with
    | x :: y :: l, hl =>
      have := ih l (by simp at hl; omega)
      simp only [List.cons_append, unhexs, this]
theorem unhexs_end : ∀ (k : Nat) (l r : Str), l.length = 2 * k → r.length ≤ 1 → unhexs (l ++ r) = unhexs l := by
  intro k
  induction k with
  | zero =>
    intro l r hl hr
    have := List.eq_nil_of_length_eq_zero hl
    subst this
    match r, hr with
    | [], _ => rfl
    | [x], _ => rfl
  | succ k ih =>
    intro l r hl hr
    match l, hl with
    | x :: y :: l, hl =>
      have := ih l r (by simp at hl; omega) hr
      simp only [List.cons_append, unhexs, this]
theorem unhexs_len : ∀ (k : Nat) (l : Str), l.length = 2 * k → (unhexs l).length = k := by
  intro k
  induction k with
  | zero => intro l hl; have := List.eq_nil_of_length_eq_zero hl; subst this; rfl
  | succ k ih =>
    intro l hl
    match l, hl with
    | x :: y :: l, hl =>
      have := ih l (by simp at hl; omega)
      simp [unhexs, this]
/-- a byte out of digits -/
def pv (l : Str) : Nat := l.foldl (fun x c => (16 * x + unhx c) % 256) 0
theorem pv_snoc (l : Str) (c : UInt8) : pv (l ++ [c]) = (16 * pv l + unhx c) % 256 := by simp [pv]
theorem pv_lt (l : Str) : pv l < 256 := by
  rcases List.eq_nil_or_concat l with e | ⟨m, c, e⟩
  · subst e; decide
  · subst e; rw [List.concat_eq_append, pv_snoc]; omega
theorem pv_two (a b : UInt8) : UInt8.ofNat (16 * unhx a + unhx b) = UInt8.ofNat (pv [a, b]) := by
  apply UInt8.toNat.inj
  rw [UInt8.toNat_ofNat', UInt8.toNat_ofNat']
  simp [pv]
  omega
end Go.Scr
namespace Go.Scr

/-! lines glued -/
def glue : List Str → Str
  | [] => []
  | l :: ls => l ++ 10 :: glue ls
theorem glue_app (a b : List Str) : glue (a ++ b) = glue a ++ glue b := by
  induction a with
  | nil => rfl
  | cons x a ih => simp only [List.cons_append, glue, ih, List.append_assoc]
theorem glue_snoc (a : List Str) (x : Str) : glue (a ++ [x]) = glue a ++ x ++ [10] := by
  rw [glue_app]; simp [glue]
theorem glue_len (m : Nat) : ∀ (ls : List Str), (∀ l ∈ ls, l.length ≤ m) → (glue ls).length ≤ ls.length * (m + 1)
  | [], _ => by simp [glue]
  | l :: ls, h => by
    have h1 := h l List.mem_cons_self
    have h2 := glue_len m ls (fun x hx => h x (List.mem_cons_of_mem _ hx))
    simp only [glue, List.length_append, List.length_cons, Nat.add_mul]
    omega
theorem join_mem {c x : UInt8} : ∀ {ws : List Str}, x ∈ join c ws → x = c ∨ ∃ w ∈ ws, x ∈ w
  | [], h => by cases h
  | [w], h => .inr ⟨w, List.mem_cons_self, h⟩
  | w :: v :: ws, h => by
    simp only [join, List.mem_append, List.mem_cons] at h
    rcases h with h | h | h
    · exact .inr ⟨w, List.mem_cons_self, h⟩
    · exact .inl h
    · rcases join_mem h with h | ⟨u, hu, hx⟩
      · exact .inl h
      · exact .inr ⟨u, List.mem_cons_of_mem _ hu, hx⟩
theorem head_no (c : List Int) : (10 : UInt8) ∉ head c := fun h => by
  rcases join_mem h with h | ⟨w, hw, hx⟩
  · exact absurd h (by decide)
  · rcases List.mem_cons.1 hw with rfl | hw
    · revert hx; decide
    · obtain ⟨x, _, rfl⟩ := List.mem_map.1 hw
      exact no_line (v := .n x) hx
theorem idle_join {w : Str} {ws : List Str} (hw : w ≠ []) (h : ∀ x ∈ w, 97 ≤ x.toNat) : idle (join 32 (w :: ws)) = false := by
  cases w with
  | nil => exact absurd rfl hw
  | cons x w =>
    have hx := h x List.mem_cons_self
    have hne : ¬ x = 35 := fun e => by rw [e] at hx; revert hx; decide
    cases ws with
    | nil => simp [join, idle, hne]
    | cons v ws => simp [join, idle, hne]
theorem idle_head (c : List Int) : idle (head c) = false := idle_join (by decide) (by decide)
theorem jlen (c : UInt8) (m : Nat) : ∀ (ws : List Str), (∀ w ∈ ws, w.length ≤ m) → (join c ws).length ≤ ws.length * (m + 1)
  | [], _ => by simp [join]
  | [w], h => by have := h w List.mem_cons_self; simp [join]; omega
  | w :: v :: ws, h => by
    have h1 := h w List.mem_cons_self
    have h2 := jlen c m (v :: ws) (fun x hx => h x (List.mem_cons_of_mem _ hx))
    simp only [join, List.length_append, List.length_cons, Nat.add_mul] at h2 ⊢
    omega
theorem head_len {c : List Int} (hl : c.length = 14) (hi : ∀ x ∈ c, I64 x) : (head c).length ≤ 345 := by
  have h1 : ∀ w ∈ endsW :: c.map num, w.length ≤ 22 := by
    intro w hw
    rcases List.mem_cons.1 hw with rfl | hw
    · decide
    · obtain ⟨x, hx, rfl⟩ := List.mem_map.1 hw
      have h := hi x hx
      have hd := digs_len (n := x.natAbs) (k := 20) (by decide) (by unfold I64 at h; omega)
      unfold num
      split
      · simp only [List.length_cons]; omega
      · omega
  have h2 := jlen 32 _ _ h1
  simp only [List.length_cons, List.length_map, hl] at h2
  unfold head
  omega
/-! a field's word exchanged -/
end Go.Scr
