/- A word set into its field, walked. Conditions: the field lies in an owned block; the word's length is within bounds. -/
import Derived.Test.YtkelhlffeilakaaGreatDoorBuD
import Derived.Test.YtkelhlffeilakaaGreatDoorStU
import Derived.Lib.ParseIntBTie
namespace Go.Proofs.YtkelhlffeilakaaGreatDoor
open Go Go.Sl Go.Scr

instance : IfcT Tryz.prog 54 := ⟨by kernel_rfl⟩
/-- a field's cell, and what it owns -/
inductive CellOwn : KT → FV → Value → HL → Prop
  | u8 {x : Int} (h : 0 ≤ x ∧ x < 256) : CellOwn .u8 (.n x) (.int .u8 x) []
  | u16 {x : Int} (h : 0 ≤ x ∧ x < 65536) : CellOwn .u16 (.n x) (.int .u16 x) []
  | int {x : Int} (h : I64 x) : CellOwn .int (.n x) (.int .i64 x) []
  | i64 {x : Int} (h : I64 x) : CellOwn .i64 (.n x) (.int .i64 x) []
  | bool (x : Bool) : CellOwn .bool (.b x) (.bool x) []
  | oct {bs : Str} {ba : Option Addr} {bn bc : Nat} {hb : HL} (h : OwnS 5 1 (bs.map B) (.slice ba bn bc) hb) (h0 : bs = [] → ba = none) (hl : bs.length ≤ 1000000000000) : CellOwn .oct (.o bs) (.slice ba bn bc) hb
theorem CellOwn.is {F : Nat → Option Obj} {H : HL} {k : KT} {v : FV} {c : Value} {hb : HL} (h : CellOwn k v c hb) (hw : ∀ w, In F H w → In F hb w) : CellIs F H k v c := by
  cases h with
  | u8 h => exact .u8 h
  | u16 h => exact .u16 h
  | int h => exact .int h
  | i64 h => exact .i64 h
  | bool b => exact .bool b
  | oct h _ hb => exact .oct (Lst.own h hw) hb
theorem CellOwn.one {k : KT} {v : FV} {c : Value} {hb : HL} (h : CellOwn k v c hb) : c.oneCell' = true := by cases h <;> rfl
theorem splice_set {l : List Value} {n : Nat} (h : n < l.length) (v : Value) : spliceK l n [v] some = some (l.set n v) := by
  rw [spliceK_eq, if_pos (by simp; omega), List.set_eq_take_append_cons_drop, if_pos h]
  simp
theorem can_own {F : Nat → Option Obj} {H : HL} {b off : Nat} {cs : List Value} {T : TypeId} {fr : Nat × Nat} (hm : (b, Obj.cells cs.toArray T fr) ∈ H) {v : Value} (hv : cs[off]? = some v) : Sl.Can F H b off [v] := fun w hi j u hu => by
  cases j with
  | zero =>
    cases hu
    rw [Nat.add_zero, cell_of_row w b off _ _ _ (hi.own _ hm)]
    simpa using hv
  | succ j => cases hu
def SetQ (k : KT) (b off : Nat) (cs : List Value) (T : TypeId) (s : Str) (v : Value) (H' : HL) : Prop :=
  ∃ ok, v = .bool ok ∧ (ok = true → ∃ x c hb, Wd k.ft s x ∧ CellOwn k x c hb ∧ H' = (b, .cells (cs.set off c).toArray T (0, 0)) :: hb) ∧ (ok = false → (∀ x, ¬ Wd k.ft s x) ∧ ∃ c, c.oneCell' = true ∧ H' = [(b, .cells (cs.set off c).toArray T (0, 0))])
theorem u8_num {n m : Int} (h : 0 ≤ m ∧ m < 256) (e : n = m) : IntKind.u8.wrap n = m := by subst e; exact u8_id h
theorem u16_num {n m : Int} (h : 0 ≤ m ∧ m < 65536) (e : n = m) : IntKind.u16.wrap n = m := by
  subst e
  show n % 65536 = n
  omega
theorem u8_rng (n : Int) : 0 ≤ IntKind.u8.wrap n ∧ IntKind.u8.wrap n < 256 := by
  show 0 ≤ n % 256 ∧ n % 256 < 256
  omega
theorem u16_rng (n : Int) : 0 ≤ IntKind.u16.wrap n ∧ IntKind.u16.wrap n < 65536 := by
  show 0 ≤ n % 65536 ∧ n % 65536 < 65536
  omega
theorem parse_got {s : Str} {n m : Int} (hp : Lib.parseIntB 64 s = .ok n) (hm : I64 m) (h : num m = s) : n = m := by
  rw [← h, parse_num hm] at hp
  injection hp with e
  exact e.symm
theorem parse_i64 {s : Str} {n : Int} (hp : Lib.parseIntB 64 s = .ok n) : I64 n := by
  have := Lib.parseIntB_bounds hp
  unfold I64
  simp at this
  omega
theorem no_num {s : Str} {t : FT} (ht : t = .u8 ∨ t = .u16 ∨ t = .int) (hp : ∀ m, Lib.parseIntB 64 s ≠ .ok m) : ∀ x, ¬ Wd t s x := by
  rintro x ⟨h1, h2⟩
  rcases ht with rfl | rfl | rfl <;> cases x <;> simp only [fits] at h1 <;> simp only [wd] at h2
  · exact hp _ (by rw [← h2]; exact parse_num ⟨by omega, by omega⟩)
  · exact hp _ (by rw [← h2]; exact parse_num ⟨by omega, by omega⟩)
  · exact hp _ (by rw [← h2]; exact parse_num h1)
theorem set_fin {k : KT} {b off : Nat} {cs : List Value} {T : TypeId} {s : Str} {x : FV} {c : Value} (hw : fits k.ft x) (hc : CellOwn k x c []) (hu : ∀ y, Wd k.ft s y → y = x) : SetQ k b off cs T s (.bool ((strB (wd x)).toList == (strB s).toList)) [(b, .cells (cs.set off c).toArray T (0, 0))] := by
  rw [eqS_bool]
  refine ⟨_, rfl, fun h => ⟨x, c, [], ⟨hw, of_decide_eq_true h⟩, hc, rfl⟩, fun h => ⟨fun y hy => of_decide_eq_false h ?_, c, hc.one, rfl⟩⟩
  rw [← hu y hy]
  exact hy.2
set_option maxHeartbeats 8000000 in
theorem set_tr (F : Nat → Option Obj) (hG : Gl F) (k : KT) (b off : Nat) (cs : List Value) (T : TypeId) (hoff : off < cs.length) (s : Str) (hs : s.length ≤ 1000000000) :
    Tr Tryz.prog 45 [.iface k.ptr (.pointer (some ⟨b, off, none⟩)), S s].toArray F [(b, .cells cs.toArray T (0, 0))] (SetQ k b off cs T s) := by
  refine Tr.enter Tryz.func45 rfl Tryz.ntmps45 rfl (fun w0 => ?_)
  unfold S
  refine SP ?_; repeat' (first|refine ⟨fun hc=>?_,fun hc=>?_⟩|intro)
  refine WL.e rfl (Ef.lookR (by exact rfl) (fun F' hF => parse_tr F' [] (hG.at hF) s (by omega))) ?_
  rintro _ _ ⟨⟨n, ev, rfl, h⟩, rfl⟩
  have hget : ∀ c, (cs.set off c)[off]? = some c := fun c => by simp [hoff]
  cases k with
  | u8 =>
    have hs1 := splice_set hoff (Value.int .u8 (IntKind.u8.wrap n))
    refine SP ?_; repeat' (first|refine ⟨fun hc=>?_,fun hc=>?_⟩|intro)
    rcases h with ⟨rfl, hp⟩ | ⟨⟨te, pe, rfl⟩, hp⟩
    · refine WL.p rfl (Pu.eqIf rfl (.inl rfl)) ?_
      refine SP ?_; repeat' (first|refine ⟨fun hc=>?_,fun hc=>?_⟩|intro)
      refine WL.e rfl (Ef.lookR (by exact rfl) (fun F' hF => word_tr F' [] (hG.at hF) ⟨.u8, b, off, .n (IntKind.u8.wrap n), .int .u8 (IntKind.u8.wrap n)⟩ ⟨(can_own (.head _) (hget _)).mono hF, .u8 (u8_rng n)⟩)) ?_
      rintro _ _ ⟨rfl, rfl⟩
      refine SP ?_; repeat' (first|refine ⟨fun hc=>?_,fun hc=>?_⟩|intro)
      refine Fin.retW (by exact rfl) resA (fun _ h => h) (set_fin (k := .u8) (x := .n (IntKind.u8.wrap n)) (u8_rng n) (.u8 (u8_rng n)) fun y hy => ?_)
      obtain ⟨h1, h2⟩ := hy
      cases y with
      | n m => exact congrArg FV.n (u8_num h1 (parse_got hp ⟨by simp only [KT.ft, fits] at h1; omega, by simp only [KT.ft, fits] at h1; omega⟩ h2)).symm
      | b m => exact h1.elim
      | o m => exact h1.elim
    · refine WL.p rfl (Pu.eqIf rfl (.inr ⟨te, pe, rfl⟩)) ?_
      refine SP ?_; repeat' (first|refine ⟨fun hc=>?_,fun hc=>?_⟩|intro)
      exact Fin.retW (by exact rfl) resA (H' := [(b, _)]) (fun _ h => h) ⟨false, rfl, fun h => (by cases h), fun _ => ⟨no_num (.inl rfl) hp, _, rfl, rfl⟩⟩
  | u16 =>
    have hs1 := splice_set hoff (Value.int .u16 (IntKind.u16.wrap n))
    refine SP ?_; repeat' (first|refine ⟨fun hc=>?_,fun hc=>?_⟩|intro)
    rcases h with ⟨rfl, hp⟩ | ⟨⟨te, pe, rfl⟩, hp⟩
    · refine WL.p rfl (Pu.eqIf rfl (.inl rfl)) ?_
      refine SP ?_; repeat' (first|refine ⟨fun hc=>?_,fun hc=>?_⟩|intro)
      refine WL.e rfl (Ef.lookR (by exact rfl) (fun F' hF => word_tr F' [] (hG.at hF) ⟨.u16, b, off, .n (IntKind.u16.wrap n), .int .u16 (IntKind.u16.wrap n)⟩ ⟨(can_own (.head _) (hget _)).mono hF, .u16 (u16_rng n)⟩)) ?_
      rintro _ _ ⟨rfl, rfl⟩
      refine SP ?_; repeat' (first|refine ⟨fun hc=>?_,fun hc=>?_⟩|intro)
      refine Fin.retW (by exact rfl) resA (fun _ h => h) (set_fin (k := .u16) (x := .n (IntKind.u16.wrap n)) (u16_rng n) (.u16 (u16_rng n)) fun y hy => ?_)
      obtain ⟨h1, h2⟩ := hy
      cases y with
      | n m => exact congrArg FV.n (u16_num h1 (parse_got hp ⟨by simp only [KT.ft, fits] at h1; omega, by simp only [KT.ft, fits] at h1; omega⟩ h2)).symm
      | b m => exact h1.elim
      | o m => exact h1.elim
    · refine WL.p rfl (Pu.eqIf rfl (.inr ⟨te, pe, rfl⟩)) ?_
      refine SP ?_; repeat' (first|refine ⟨fun hc=>?_,fun hc=>?_⟩|intro)
      exact Fin.retW (by exact rfl) resA (H' := [(b, _)]) (fun _ h => h) ⟨false, rfl, fun h => (by cases h), fun _ => ⟨no_num (.inr (.inl rfl)) hp, _, rfl, rfl⟩⟩
  | int =>
    have hs1 := splice_set hoff (Value.int .i64 n)
    refine SP ?_; repeat' (first|refine ⟨fun hc=>?_,fun hc=>?_⟩|intro)
    rcases h with ⟨rfl, hp⟩ | ⟨⟨te, pe, rfl⟩, hp⟩
    · refine WL.p rfl (Pu.eqIf rfl (.inl rfl)) ?_
      refine SP ?_; repeat' (first|refine ⟨fun hc=>?_,fun hc=>?_⟩|intro)
      refine WL.e rfl (Ef.lookR (by exact rfl) (fun F' hF => word_tr F' [] (hG.at hF) ⟨.int, b, off, .n n, .int .i64 n⟩ ⟨(can_own (.head _) (hget _)).mono hF, .int (parse_i64 hp)⟩)) ?_
      rintro _ _ ⟨rfl, rfl⟩
      refine SP ?_; repeat' (first|refine ⟨fun hc=>?_,fun hc=>?_⟩|intro)
      refine Fin.retW (by exact rfl) resA (fun _ h => h) (set_fin (k := .int) (x := .n n) (parse_i64 hp) (.int (parse_i64 hp)) fun y hy => ?_)
      obtain ⟨h1, h2⟩ := hy
      cases y with
      | n m => exact congrArg FV.n (parse_got hp h1 h2).symm
      | b m => exact h1.elim
      | o m => exact h1.elim
    · refine WL.p rfl (Pu.eqIf rfl (.inr ⟨te, pe, rfl⟩)) ?_
      refine SP ?_; repeat' (first|refine ⟨fun hc=>?_,fun hc=>?_⟩|intro)
      exact Fin.retW (by exact rfl) resA (H' := [(b, _)]) (fun _ h => h) ⟨false, rfl, fun h => (by cases h), fun _ => ⟨no_num (.inr (.inr rfl)) hp, _, rfl, rfl⟩⟩
  | i64 =>
    have hs1 := splice_set hoff (Value.int .i64 n)
    refine SP ?_; repeat' (first|refine ⟨fun hc=>?_,fun hc=>?_⟩|intro)
    rcases h with ⟨rfl, hp⟩ | ⟨⟨te, pe, rfl⟩, hp⟩
    · refine WL.p rfl (Pu.eqIf rfl (.inl rfl)) ?_
      refine SP ?_; repeat' (first|refine ⟨fun hc=>?_,fun hc=>?_⟩|intro)
      refine WL.e rfl (Ef.lookR (by exact rfl) (fun F' hF => word_tr F' [] (hG.at hF) ⟨.i64, b, off, .n n, .int .i64 n⟩ ⟨(can_own (.head _) (hget _)).mono hF, .i64 (parse_i64 hp)⟩)) ?_
      rintro _ _ ⟨rfl, rfl⟩
      refine SP ?_; repeat' (first|refine ⟨fun hc=>?_,fun hc=>?_⟩|intro)
      refine Fin.retW (by exact rfl) resA (fun _ h => h) (set_fin (k := .i64) (x := .n n) (parse_i64 hp) (.i64 (parse_i64 hp)) fun y hy => ?_)
      obtain ⟨h1, h2⟩ := hy
      cases y with
      | n m => exact congrArg FV.n (parse_got hp h1 h2).symm
      | b m => exact h1.elim
      | o m => exact h1.elim
    · refine WL.p rfl (Pu.eqIf rfl (.inr ⟨te, pe, rfl⟩)) ?_
      refine SP ?_; repeat' (first|refine ⟨fun hc=>?_,fun hc=>?_⟩|intro)
      exact Fin.retW (by exact rfl) resA (H' := [(b, _)]) (fun _ h => h) ⟨false, rfl, fun h => (by cases h), fun _ => ⟨no_num (.inr (.inr rfl)) hp, _, rfl, rfl⟩⟩
  | bool =>
    have hs1 := splice_set hoff (Value.bool ((strB s).toList == (ByteArray.mk #[121, 101, 115]).toList))
    refine SP ?_; repeat' (first|refine ⟨fun hc=>?_,fun hc=>?_⟩|intro)
    refine WL.p rfl (Pu.eqIf rfl (.inl rfl)) ?_
    refine SP ?_; repeat' (first|refine ⟨fun hc=>?_,fun hc=>?_⟩|intro)
    refine WL.e rfl (Ef.lookR (by exact rfl) (fun F' hF => word_tr F' [] (hG.at hF) ⟨.bool, b, off, .b _, .bool _⟩ ⟨(can_own (.head _) (hget _)).mono hF, .bool _⟩)) ?_
    rintro _ _ ⟨rfl, rfl⟩
    refine SP ?_; repeat' (first|refine ⟨fun hc=>?_,fun hc=>?_⟩|intro)
    refine Fin.retW (by exact rfl) resA (fun _ h => h) (set_fin (k := .bool) (x := .b _) trivial (.bool _) fun y hy => ?_)
    obtain ⟨h1, h2⟩ := hy
    cases y with
    | n m => exact h1.elim
    | o m => exact h1.elim
    | b m =>
      subst h2
      rw [show (ByteArray.mk #[121, 101, 115]) = strB (yn true) from rfl, eqS_bool]
      cases m <;> rfl
  | oct =>
    refine SP ?_; repeat' (first|refine ⟨fun hc=>?_,fun hc=>?_⟩|intro)
    refine WL.e rfl (Ef.call (c := []) (by exact rfl) (Sub.nil _) (unhex_tr _ [] s (by omega))) ?_
    rintro _ _ ⟨_, ⟨sa, sn, sc, ok, rfl, hy, hn⟩, rfl⟩
    have hs1 := splice_set hoff (Value.slice sa sn sc)
    cases ok with
    | true =>
      obtain ⟨bs, hb, e, hown, hz0, rfl⟩ := hy rfl
      refine SP ?_; repeat' (first|refine ⟨fun hc=>?_,fun hc=>?_⟩|intro)
      refine Fin.retW (by exact rfl) resA (H' := (b, .cells (cs.set off (.slice sa sn sc)).toArray T (0, 0)) :: hb) (fun _ h => ?_) ⟨true, rfl, fun _ => ⟨.o bs, _, hb, ⟨trivial, e⟩, .oct hown hz0 ?_, rfl⟩, fun h => (by cases h)⟩
      · rw [List.append_nil] at h
        exact In.perm List.perm_append_comm h
      · rcases Decidable.em (bs = []) with rfl | hne
        · simp
        · unfold oct at e
          rw [if_neg hne] at e
          have := hexs_len bs
          rw [e] at this
          omega
    | false =>
      obtain ⟨hno, rfl⟩ := hn rfl
      refine SP ?_; repeat' (first|refine ⟨fun hc=>?_,fun hc=>?_⟩|intro)
      refine Fin.retW (by exact rfl) resA (H' := [(b, _)]) (fun _ h => h) ⟨false, rfl, fun h => (by cases h), fun _ => ⟨fun x hx => ?_, _, rfl, rfl⟩⟩
      obtain ⟨h1, h2⟩ := hx
      cases x with
      | n m => exact h1.elim
      | b m => exact h1.elim
      | o m => exact hno _ h2
end Go.Proofs.YtkelhlffeilakaaGreatDoor
