/- The law's 'does' with a sender, walked. Conditions: it is well formed; what the thing done is in memory. -/
import Derived.Test.YtjbinhihkfidoaaGreatSnX
import Derived.Test.YtjbinhihkfidoaaGreatSnZ
import Derived.Test.YtjbinhihkfidoaaGreatSnJ
import Derived.Test.YtjbinhihkfidoaaGreatSnK
import Derived.Test.YtjbinhihkfidoaaGreatSnM
namespace Go.Proofs.YtjbinhihkfidoaaGreat
open Go Go.Sl Go.Pth

def Ov.dg (o : Ov) (bs : List UInt8) (gs : List (Nat × Nat)) : Snd.Dg := ⟨o.kind, o.stream, o.ord, bs, o.life, o.by_, gs, o.rwnd, o.path⟩
/-- what is told, in memory -/
structure ToM where
  o : OuM
  fa : Option Addr
  fn : Nat
  fc : Nat
  fb : HL
  ka : Option Addr
  kn : Nat
  kc : Nat
  kb : HL
def ToM.none : ToM := ⟨⟨[], .none, 0, 0, []⟩, .none, 0, 0, [], .none, 0, 0, []⟩
def ToM.cells (t : ToM) (d : Snd.Dn) : List Value := toldV d.e d.a d.b (.slice t.o.sa t.o.sn t.o.sc) d.fc (.slice t.fa t.fn t.fc) d.is_ (.slice t.ka t.kn t.kc)
def ToM.H (t : ToM) : HL := t.o.hb ++ (t.o.bb ++ (t.fb ++ t.kb))
structure ToM.ok (t : ToM) (d : Snd.Dn) : Prop where
  o : t.o.ok
  l : t.o.L = d.l
  f : OwnS 213 2 (d.fs.flatMap skC) (.slice t.fa t.fn t.fc) t.fb
  k : OwnS 3 1 (d.k.map intC) (.slice t.ka t.kn t.kc) t.kb
theorem ToM.none_ok {d : Snd.Dn} (h1 : d.l = []) (h2 : d.fs = []) (h3 : d.k = []) : ToM.none.ok d := ⟨⟨.inl ⟨rfl, rfl, rfl⟩, fun _ h => by cases h⟩, h1.symm, by rw [h2]; exact .inl ⟨rfl, rfl, rfl⟩, by rw [h3]; exact .inl ⟨rfl, rfl, rfl⟩⟩
def DoesQ (n : Nat) (s : SdM) (d : Snd.Dn) (v : Value) (H : HL) : Prop := ∃ (t : ToM) (s' : SdM), t.ok d ∧ s'.ok (n + 1) ∧ s'.R = s.R ∧ s'.S = d.s ∧ v = .agg (t.cells d).toArray ∧ H = t.H ++ s'.H
theorem SdM.ok.up {n m : Nat} {s : SdM} (h : s.ok n) (hm : n ≤ m) : s.ok m := ⟨h.o, h.f, h.ways, h.lives, h.owed, h.own, h.pl.up hm⟩
structure GDn where
  i : Nat
  M : List DM
  la : Option Addr
  ln : Nat
  lc : Nat
  lb : HL
theorem perm5 {α : Type} (A B P M R : List α) : (A ++ (B ++ (P ++ (M ++ R)))).Perm (P ++ (A ++ ((M ++ B) ++ R))) := by
  classical
  exact List.perm_iff_count.2 (fun a => by simp only [List.count_append]; omega)
structure GBy where
  i : Nat
  xs : List Value
  hb : HL
set_option maxHeartbeats 8000000 in
theorem does_tr (F : Nat → Option Obj) {n : Nat} (s : SdM) (hs : s.ok n) (hn : n < 900000) (o : Ov) (bs : List UInt8) (gs : List (Nat × Nat)) (ho : o.Is F bs gs) (cum now : Int) (hnow : now ≤ 9223372036854775807) (hb : bs.length ≤ 1000000000) (hg : gs.length ≤ 1000) :
    Tr Tryz.prog 24 [ptr s.R, .agg o.cells.toArray, .int .u32 cum, .int .i64 now].toArray F s.H (DoesQ n s (Snd.did s.S (o.dg bs gs) cum now)) := by
  refine Tr.enter Tryz.func24 rfl Tryz.ntmps24 rfl (fun w0 => ?_)
  have hok := Snd.did_ok hs.pl (o.dg bs gs) ho.stream.1 cum now
  unfold Ov.cells
  repeat' (first | refine S2b ?_ | refine SA (fun _ => ?_) | refine WL.g_split rfl rfl (fun hc => ?_) (fun hc => ?_) | refine WD.g_split rfl rfl (fun hc => ?_) (fun hc => ?_) | refine WL.s rfl (Rd.ldC rfl (Sl.Can.mono (by assumption) (fun _ h => h.sublist findA))) ?_ | refine WD.s rfl (Rd.ldC rfl (Sl.Can.mono (by assumption) (fun _ h => h.sublist findA))) ?_ | fail)
  cases h0 : (o.kind == 0) with
  | true =>
    have hk : o.kind = 0 := by simpa using h0
    have hd : Snd.did s.S (o.dg bs gs) cum now = { Snd.Dn.of (Snd.put s.S o.stream o.ord bs o.life now) with e := Snd.putE s.S o.stream bs.length o.life now } := by unfold Snd.did; exact if_pos hk
    rw [hd]
    repeat' (first | refine S2b ?_ | refine SD ?_ | refine SA (fun _ => ?_) | refine WL.g_split rfl rfl (fun hc => ?_) (fun hc => ?_) | refine WD.g_split rfl rfl (fun hc => ?_) (fun hc => ?_) | refine W.cond rfl (fun hc => ?_) (fun hc => ?_) | refine WL.s rfl (Rd.ldC rfl (Sl.Can.mono (by assumption) (fun _ h => h.sublist findA))) ?_ | refine WD.s rfl (Rd.ldC rfl (Sl.Can.mono (by assumption) (fun _ h => h.sublist findA))) ?_ | fail)
    rename_i b1 b2 b3 b4 b5
    have hbn := ho.bn
    refine WL.e rfl (Ef.app (m := bs.length) (news := bs.map B) (hb := [(b5, .cells ([] : List Value).toArray 5 (0, 0))]) (by exact rfl) (by exact rfl) rfl rfl (OwnS.empty _ _ b5) (.one [_] _) (by rw [← hbn]; exact (ho.bytes.src).mono (fun _ h => h.sublist (List.nil_sublist _))) (by simp) (B_one bs) (by simp; omega) (by simp [maxLen]; omega)) ?_
    rintro v' _ ⟨hb', hown, rfl⟩
    rw [List.nil_append] at hown
    obtain ⟨ta, tn, tc, rfl, _, _⟩ := OwnS.shape hown
    have htn : tn = bs.length := by have := hown.len; simp at this; omega
    repeat' (first | refine S2b ?_ | refine SD ?_ | refine SA (fun _ => ?_) | refine WL.g_split rfl rfl (fun hc => ?_) (fun hc => ?_) | refine WD.g_split rfl rfl (fun hc => ?_) (fun hc => ?_) | refine W.cond rfl (fun hc => ?_) (fun hc => ?_) | refine WL.s rfl (Rd.ldC rfl (Sl.Can.mono (by assumption) (fun _ h => h.sublist findA))) ?_ | refine WD.s rfl (Rd.ldC rfl (Sl.Can.mono (by assumption) (fun _ h => h.sublist findA))) ?_ | fail)
    refine WL.e rfl (Ef.callW (c := s.H) (by exact rfl) (.skipL hb' (.skip _ (.skip _ (.skip _ (.skip _ (.all _)))))) (fun F' hF => sput_tr F' s hs (by omega) o.stream ho.stream o.ord bs ta tn tc ((Lst.own (F := F) (H := hb') hown (fun _ h => h)).mono (fun w h => (hF w h).left)) o.life now)) ?_
    rintro _ _ ⟨_, ⟨rfl, s', hs', rfl, hR', hS'⟩, rfl⟩
    repeat' (first | refine S2b ?_ | refine SD ?_ | refine SA (fun _ => ?_) | refine WL.g_split rfl rfl (fun hc => ?_) (fun hc => ?_) | refine WD.g_split rfl rfl (fun hc => ?_) (fun hc => ?_) | refine W.cond rfl (fun hc => ?_) (fun hc => ?_) | refine WL.s rfl (Rd.ldC rfl (Sl.Can.mono (by assumption) (fun _ h => h.sublist findA))) ?_ | refine WD.s rfl (Rd.ldC rfl (Sl.Can.mono (by assumption) (fun _ h => h.sublist findA))) ?_ | fail)
    refine W.loop (G := GBy) (fun g => [(8, ptr b2), (9, ptr b3), (10, ptr b4), (11, .int .i64 g.i)])
      (fun g => g.hb ++ ((b4, .cells [.int .u16 o.stream, .bool o.ord, .slice ta tn tc].toArray 36 (0, 0)) :: (b3, .cells (toldV (Snd.putE s.S o.stream bs.length o.life now) 0 0 nilS 0 nilS false nilS).toArray 72 (0, 0)) :: (b2, .cells (toldV 0 0 0 nilS 0 nilS false nilS).toArray 72 (0, 0)) :: s'.H))
      (fun g => g.i ≤ tn ∧ OwnS 5 1 g.xs (.slice ta tn tc) g.hb) (fun g => tn - g.i) ⟨0, _, hb'⟩ ⟨Nat.zero_le _, hown⟩ envA (fun _ h => In.of_sub (.pickL (L := hb') (.right .here) (.pick (.right .here) (.pick (.right .here) (.pick (.right .here) (.last .here))))) h) ?_
    rintro ⟨i, xs, hb⟩ ⟨hi, hx⟩
    dsimp only at hi hx ⊢
    unfold toldV nilS
    repeat' (first | refine S2b ?_ | refine SD ?_ | refine SA (fun _ => ?_) | refine WL.g_split rfl rfl (fun hc => ?_) (fun hc => ?_) | refine WD.g_split rfl rfl (fun hc => ?_) (fun hc => ?_) | refine W.cond rfl (fun hc => ?_) (fun hc => ?_) | refine WL.s rfl (Rd.ldC rfl (Sl.Can.mono (by assumption) (fun _ h => h.sublist findA))) ?_ | refine WD.s rfl (Rd.ldC rfl (Sl.Can.mono (by assumption) (fun _ h => h.sublist findA))) ?_ | fail)
    · have hi' : i < tn := by simp at hc; omega
      obtain ⟨q, oo, rfl⟩ := hx.addr (by omega)
      have hia : 0 ≤ (i : Int) ∧ (i : Int) < tn := by omega
      obtain ⟨hb', hx', hput⟩ := hx.put i [.int .u8 85] (by have := hx.len; simp at this ⊢; omega)
      repeat' (first | refine S2b ?_ | refine SD ?_ | refine SA (fun _ => ?_) | refine WL.g_split rfl rfl (fun hc => ?_) (fun hc => ?_) | refine WD.g_split rfl rfl (fun hc => ?_) (fun hc => ?_) | refine W.cond rfl (fun hc => ?_) (fun hc => ?_) | refine WL.s rfl (Rd.ldC rfl (Sl.Can.mono (by assumption) (fun _ h => h.sublist findA))) ?_ | refine WD.s rfl (Rd.ldC rfl (Sl.Can.mono (by assumption) (fun _ h => h.sublist findA))) ?_ | fail)
      refine WL.e0 (Ef.st rfl rfl rfl (PutAt.left (by simpa using hput))) ?_
      rintro _ _ ⟨rfl, rfl⟩
      repeat' (first | refine S2b ?_ | refine SD ?_ | refine SA (fun _ => ?_) | refine WL.g_split rfl rfl (fun hc => ?_) (fun hc => ?_) | refine WD.g_split rfl rfl (fun hc => ?_) (fun hc => ?_) | refine W.cond rfl (fun hc => ?_) (fun hc => ?_) | refine WL.s rfl (Rd.ldC rfl (Sl.Can.mono (by assumption) (fun _ h => h.sublist findA))) ?_ | refine WD.s rfl (Rd.ldC rfl (Sl.Can.mono (by assumption) (fun _ h => h.sublist findA))) ?_ | fail)
      rw [i64_succ (by omega)]
      exact Fin.round ⟨i + 1, _, hb'⟩ ⟨hi', hx'⟩ envA (fun _ h => h) (by dsimp only; omega)
    · exact Fin.retW (by exact rfl) resA (H' := ToM.none.H ++ s'.H) (fun _ h => In.of_sub (.last (.right (.there (.there (.there .all))))) h) ⟨ToM.none, s', ToM.none_ok rfl rfl rfl, hs', hR', hS', rfl, rfl⟩
  | false =>
  have k0 : ¬ o.kind = 0 := by simpa using h0
  repeat' (first | refine S2b ?_ | refine SA (fun _ => ?_) | refine WL.g_split rfl rfl (fun hc => ?_) (fun hc => ?_) | refine WD.g_split rfl rfl (fun hc => ?_) (fun hc => ?_) | refine WL.s rfl (Rd.ldC rfl (Sl.Can.mono (by assumption) (fun _ h => h.sublist findA))) ?_ | refine WD.s rfl (Rd.ldC rfl (Sl.Can.mono (by assumption) (fun _ h => h.sublist findA))) ?_ | fail)
  cases h1 : (o.kind == 1) with
  | true =>
    have hk : o.kind = 1 := by simpa using h1
    have hd : Snd.did s.S (o.dg bs gs) cum now = (match Snd.sack s.S (Spn.u32 (cum + o.by_)) o.rwnd gs now with | none => { Snd.Dn.of s.S with e := 1 } | some s' => Snd.Dn.of s') := by unfold Snd.did; exact (if_neg k0).trans (if_pos hk)
    rw [hd]
    repeat' (first | refine S2b ?_ | refine SD ?_ | refine SA (fun _ => ?_) | refine WL.g_split rfl rfl (fun hc => ?_) (fun hc => ?_) | refine WD.g_split rfl rfl (fun hc => ?_) (fun hc => ?_) | refine W.cond rfl (fun hc => ?_) (fun hc => ?_) | refine WL.s rfl (Rd.ldC rfl (Sl.Can.mono (by assumption) (fun _ h => h.sublist findA))) ?_ | refine WD.s rfl (Rd.ldC rfl (Sl.Can.mono (by assumption) (fun _ h => h.sublist findA))) ?_ | fail)
    rename_i b1 b2 b3 b4
    have hkn := ho.kn
    refine WD.e rfl (Ef.app (m := gs.length) (news := gs.flatMap gC) (hb := [(b4, .cells ([] : List Value).toArray 136 (0, 0))]) (by exact rfl) (by exact rfl) rfl rfl (OwnS.empty _ _ b4) (.one [_] _) (by rw [← hkn]; exact (ho.gaps.src).mono (fun _ h => h.sublist (List.nil_sublist _))) (by rw [flat_len' gC 2 gC_len]) (gC_one gs) (by rw [flat_len' gC 2 gC_len]; simp; omega) (by rw [flat_len' gC 2 gC_len]; simp [maxLen]; omega)) ?_
    rintro v' _ ⟨hb', hown, rfl⟩
    rw [List.nil_append] at hown
    obtain ⟨ta, tn, tc, rfl, _, _⟩ := OwnS.shape hown
    refine ⟨.inr (fun _ h => h.right), ?_⟩
    repeat' (first | refine S2b ?_ | refine SD ?_ | refine SA (fun _ => ?_) | refine WL.g_split rfl rfl (fun hc => ?_) (fun hc => ?_) | refine WD.g_split rfl rfl (fun hc => ?_) (fun hc => ?_) | refine W.cond rfl (fun hc => ?_) (fun hc => ?_) | refine WL.s rfl (Rd.ldC rfl (Sl.Can.mono (by assumption) (fun _ h => h.sublist findA))) ?_ | refine WD.s rfl (Rd.ldC rfl (Sl.Can.mono (by assumption) (fun _ h => h.sublist findA))) ?_ | fail)
    refine WD.e rfl (Ef.callW (c := s.H) (by exact rfl) (.skipL hb' (.skip _ (.skip _ (.skip _ (.all _))))) (fun F' hF => ssack_tr F' s hs (Spn.u32 (cum + o.by_)) o.rwnd (Flt.u32_mod _) ho.rwnd.1 gs ta tn tc ((Lst.own (F := F) (H := hb') hown (fun _ h => h)).mono (fun w h => (hF w h).left)) ho.gs16 hg none 0 0 now)) ?_
    rintro _ _ ⟨H1, hq, rfl⟩
    refine ⟨.inl (by kernel_rfl), ?_⟩
    cases hsk : Snd.sack s.S (Spn.u32 (cum + o.by_)) o.rwnd gs now with
    | none =>
      rw [hsk] at hq
      obtain ⟨rfl, rfl⟩ := hq
      repeat' (first | refine S2b ?_ | refine SD ?_ | refine SA (fun _ => ?_) | refine WL.g_split rfl rfl (fun hc => ?_) (fun hc => ?_) | refine WD.g_split rfl rfl (fun hc => ?_) (fun hc => ?_) | refine W.cond rfl (fun hc => ?_) (fun hc => ?_) | refine WL.s rfl (Rd.ldC rfl (Sl.Can.mono (by assumption) (fun _ h => h.sublist findA))) ?_ | refine WD.s rfl (Rd.ldC rfl (Sl.Can.mono (by assumption) (fun _ h => h.sublist findA))) ?_ | fail)
      exact Fin.retW (by exact rfl) resA (H' := ToM.none.H ++ s.H) (fun _ h => h.left) ⟨ToM.none, s, ToM.none_ok rfl rfl rfl, hs.up (Nat.le_succ n), rfl, rfl, rfl, rfl⟩
    | some S' =>
      rw [hsk] at hq
      obtain ⟨rfl, s', hs', rfl, hR', hS'⟩ := hq
      repeat' (first | refine S2b ?_ | refine SD ?_ | refine SA (fun _ => ?_) | refine WL.g_split rfl rfl (fun hc => ?_) (fun hc => ?_) | refine WD.g_split rfl rfl (fun hc => ?_) (fun hc => ?_) | refine W.cond rfl (fun hc => ?_) (fun hc => ?_) | refine WL.s rfl (Rd.ldC rfl (Sl.Can.mono (by assumption) (fun _ h => h.sublist findA))) ?_ | refine WD.s rfl (Rd.ldC rfl (Sl.Can.mono (by assumption) (fun _ h => h.sublist findA))) ?_ | fail)
      exact Fin.retW (by exact rfl) resA (H' := ToM.none.H ++ s'.H) (fun _ h => h.left) ⟨ToM.none, s', ToM.none_ok rfl rfl rfl, hs'.up (Nat.le_succ n), hR', hS', rfl, rfl⟩
  | false =>
  have k1 : ¬ o.kind = 1 := by simpa using h1
  repeat' (first | refine S2b ?_ | refine SA (fun _ => ?_) | refine WL.g_split rfl rfl (fun hc => ?_) (fun hc => ?_) | refine WD.g_split rfl rfl (fun hc => ?_) (fun hc => ?_) | refine WL.s rfl (Rd.ldC rfl (Sl.Can.mono (by assumption) (fun _ h => h.sublist findA))) ?_ | refine WD.s rfl (Rd.ldC rfl (Sl.Can.mono (by assumption) (fun _ h => h.sublist findA))) ?_ | fail)
  cases h2 : (o.kind == 2) with
  | true =>
    have hk : o.kind = 2 := by simpa using h2
    have hd : Snd.did s.S (o.dg bs gs) cum now = Snd.Dn.of (Snd.expire s.S now) := by unfold Snd.did; exact (if_neg k0).trans ((if_neg k1).trans (if_pos hk))
    rw [hd]
    repeat' (first | refine S2b ?_ | refine SD ?_ | refine SA (fun _ => ?_) | refine WL.g_split rfl rfl (fun hc => ?_) (fun hc => ?_) | refine WD.g_split rfl rfl (fun hc => ?_) (fun hc => ?_) | refine W.cond rfl (fun hc => ?_) (fun hc => ?_) | refine WL.s rfl (Rd.ldC rfl (Sl.Can.mono (by assumption) (fun _ h => h.sublist findA))) ?_ | refine WD.s rfl (Rd.ldC rfl (Sl.Can.mono (by assumption) (fun _ h => h.sublist findA))) ?_ | fail)
    refine WL.e rfl (Ef.call (c := s.H) (by exact rfl) (.skip _ (.skip _ (.skip _ (.all _)))) (sexp_tr _ s hs (by omega) now)) ?_
    rintro _ _ ⟨_, ⟨rfl, s', hs', hR', hS', rfl⟩, rfl⟩
    repeat' (first | refine S2b ?_ | refine SD ?_ | refine SA (fun _ => ?_) | refine WL.g_split rfl rfl (fun hc => ?_) (fun hc => ?_) | refine WD.g_split rfl rfl (fun hc => ?_) (fun hc => ?_) | refine W.cond rfl (fun hc => ?_) (fun hc => ?_) | refine WL.s rfl (Rd.ldC rfl (Sl.Can.mono (by assumption) (fun _ h => h.sublist findA))) ?_ | refine WD.s rfl (Rd.ldC rfl (Sl.Can.mono (by assumption) (fun _ h => h.sublist findA))) ?_ | fail)
    exact Fin.retW (by exact rfl) resA (H' := ToM.none.H ++ s'.H) (fun _ h => h.left) ⟨ToM.none, s', ToM.none_ok rfl rfl rfl, hs', hR', hS', rfl, rfl⟩
  | false =>
  have k2 : ¬ o.kind = 2 := by simpa using h2
  repeat' (first | refine S2b ?_ | refine SA (fun _ => ?_) | refine WL.g_split rfl rfl (fun hc => ?_) (fun hc => ?_) | refine WD.g_split rfl rfl (fun hc => ?_) (fun hc => ?_) | refine WL.s rfl (Rd.ldC rfl (Sl.Can.mono (by assumption) (fun _ h => h.sublist findA))) ?_ | refine WD.s rfl (Rd.ldC rfl (Sl.Can.mono (by assumption) (fun _ h => h.sublist findA))) ?_ | fail)
  cases h3 : (o.kind == 3) with
  | true =>
    have hk : o.kind = 3 := by simpa using h3
    have hd : Snd.did s.S (o.dg bs gs) cum now = { Snd.Dn.of (Snd.timeout s.S now).s with a := (Snd.timeout s.S now).late, b := (Snd.timeout s.S now).gone } := by unfold Snd.did; exact (if_neg k0).trans ((if_neg k1).trans ((if_neg k2).trans (if_pos hk)))
    rw [hd]
    repeat' (first | refine S2b ?_ | refine SD ?_ | refine SA (fun _ => ?_) | refine WL.g_split rfl rfl (fun hc => ?_) (fun hc => ?_) | refine WD.g_split rfl rfl (fun hc => ?_) (fun hc => ?_) | refine W.cond rfl (fun hc => ?_) (fun hc => ?_) | refine WL.s rfl (Rd.ldC rfl (Sl.Can.mono (by assumption) (fun _ h => h.sublist findA))) ?_ | refine WD.s rfl (Rd.ldC rfl (Sl.Can.mono (by assumption) (fun _ h => h.sublist findA))) ?_ | fail)
    refine WL.e rfl (Ef.call (c := s.H) (by exact rfl) (.skip _ (.skip _ (.skip _ (.all _)))) (slate_tr _ s hs now)) ?_
    rintro _ _ ⟨_, ⟨rfl, s', hs', hR', hS', rfl⟩, rfl⟩
    dsimp only [tup]
    repeat' (first | refine S2b ?_ | refine SD ?_ | refine SA (fun _ => ?_) | refine WL.g_split rfl rfl (fun hc => ?_) (fun hc => ?_) | refine WD.g_split rfl rfl (fun hc => ?_) (fun hc => ?_) | refine W.cond rfl (fun hc => ?_) (fun hc => ?_) | refine WL.s rfl (Rd.ldC rfl (Sl.Can.mono (by assumption) (fun _ h => h.sublist findA))) ?_ | refine WD.s rfl (Rd.ldC rfl (Sl.Can.mono (by assumption) (fun _ h => h.sublist findA))) ?_ | fail)
    exact Fin.retW (by exact rfl) resA (H' := ToM.none.H ++ s'.H) (fun _ h => h.left) ⟨ToM.none, s', ToM.none_ok rfl rfl rfl, hs'.up (Nat.le_succ n), hR', hS', rfl, rfl⟩
  | false =>
  have k3 : ¬ o.kind = 3 := by simpa using h3
  repeat' (first | refine S2b ?_ | refine SA (fun _ => ?_) | refine WL.g_split rfl rfl (fun hc => ?_) (fun hc => ?_) | refine WD.g_split rfl rfl (fun hc => ?_) (fun hc => ?_) | refine WL.s rfl (Rd.ldC rfl (Sl.Can.mono (by assumption) (fun _ h => h.sublist findA))) ?_ | refine WD.s rfl (Rd.ldC rfl (Sl.Can.mono (by assumption) (fun _ h => h.sublist findA))) ?_ | fail)
  cases h4 : (o.kind == 4) with
  | true =>
    have hk : o.kind = 4 := by simpa using h4
    have hd : Snd.did s.S (o.dg bs gs) cum now = (match Snd.next s.S now with | (s', none) => Snd.Dn.of s' | (s', some (k, l)) => { Snd.Dn.of s' with a := k, l := l, is_ := true }) := by unfold Snd.did; exact (if_neg k0).trans ((if_neg k1).trans ((if_neg k2).trans ((if_neg k3).trans (if_pos hk))))
    rw [hd]
    repeat' (first | refine S2b ?_ | refine SD ?_ | refine SA (fun _ => ?_) | refine WL.g_split rfl rfl (fun hc => ?_) (fun hc => ?_) | refine WD.g_split rfl rfl (fun hc => ?_) (fun hc => ?_) | refine W.cond rfl (fun hc => ?_) (fun hc => ?_) | refine WL.s rfl (Rd.ldC rfl (Sl.Can.mono (by assumption) (fun _ h => h.sublist findA))) ?_ | refine WD.s rfl (Rd.ldC rfl (Sl.Can.mono (by assumption) (fun _ h => h.sublist findA))) ?_ | fail)
    rename_i b1 b2 b3
    refine WL.e rfl (Ef.call (c := s.H) (by exact rfl) (.skip _ (.skip _ (.skip _ (.all _)))) (snx_tr _ s hs now)) ?_
    rintro v _ ⟨H0, hq, rfl⟩
    have huni : ∃ (s' : SdM) (q : OuM) (kk : Int) (fl : Bool), v = tup [.int .i64 kk, .slice q.sa q.sn q.sc, .bool fl] ∧ s'.ok n ∧ s'.R = s.R ∧ q.ok ∧ q.ds.length ≤ 75 ∧ (∀ m ∈ q.ds, m.d.bs.length ≤ 1000000) ∧ H0 = q.hb ++ (q.bb ++ s'.H) ∧ (match Snd.next s.S now with | (s', none) => Snd.Dn.of s' | (s', some (k, l)) => { Snd.Dn.of s' with a := k, l := l, is_ := true }) = { Snd.Dn.of s'.S with a := kk, l := q.L, is_ := fl } := by
      cases hf : Snd.next s.S now with
      | mk S' r =>
      rw [hf] at hq
      cases r with
      | none =>
        obtain ⟨rfl, s', hs', hR', hS', rfl⟩ := hq
        exact ⟨s', ⟨[], none, 0, 0, []⟩, 0, false, rfl, hs', hR', ⟨.inl ⟨rfl, rfl, rfl⟩, fun _ h => by cases h⟩, Nat.zero_le _, (fun _ h => by cases h), rfl, by rw [hS']; rfl⟩
      | some r =>
        obtain ⟨k, l⟩ := r
        obtain ⟨s', q, rfl, hs', hR', hS', hq, hqL, rfl⟩ := hq
        obtain ⟨_, _, hp, _, hl⟩ := Snd.next_pc hs.pl hf
        refine ⟨s', q, k, true, rfl, hs', hR', hq, by rw [← hqL] at hl; simpa [OuM.L] using hl, fun m hm => ?_, rfl, by rw [hS', hqL]⟩
        have := (hp m.d (by rw [← hqL]; exact List.mem_map.2 ⟨m, hm, rfl⟩)).2
        omega
    clear hq
    obtain ⟨s', q, kk, fl, rfl, hs', hR', hq, hq75, hqb, rfl, hu⟩ := huni
    rw [hu]
    clear hu
    dsimp only [tup]
    have hqn := hq.len
    repeat' (first | refine S2b ?_ | refine SD ?_ | refine SA (fun _ => ?_) | refine WL.g_split rfl rfl (fun hc => ?_) (fun hc => ?_) | refine WD.g_split rfl rfl (fun hc => ?_) (fun hc => ?_) | refine W.cond rfl (fun hc => ?_) (fun hc => ?_) | refine WL.s rfl (Rd.ldC rfl (Sl.Can.mono (by assumption) (fun _ h => h.sublist findA))) ?_ | refine WD.s rfl (Rd.ldC rfl (Sl.Can.mono (by assumption) (fun _ h => h.sublist findA))) ?_ | fail)
    refine W.loop (G := GDn) (fun g => [(8, ptr b2), (9, ptr b3), (13, .slice q.sa q.sn q.sc), (15, .int .i64 g.i)])
      (fun g => (b3, .cells (toldV 0 kk 0 (.slice g.la g.ln g.lc) 0 nilS fl nilS).toArray 72 (0, 0)) :: (b2, .cells (toldV 0 0 0 nilS 0 nilS false nilS).toArray 72 (0, 0)) :: (g.lb ++ (g.M.flatMap (·.bb) ++ (q.hb ++ ((q.ds.drop g.i).flatMap (·.bb) ++ s'.H)))))
      (fun g => g.i ≤ q.sn ∧ (∀ m ∈ g.M, m.ok) ∧ g.M.map (·.d) = (q.ds.take g.i).map (·.d) ∧ OwnS 50 7 (g.M.flatMap DM.cells) (.slice g.la g.ln g.lc) g.lb) (fun g => q.sn - g.i) ⟨0, [], none, 0, 0, []⟩ ⟨Nat.zero_le _, (fun _ h => by cases h), rfl, .inl ⟨rfl, rfl, rfl⟩⟩ envA (fun _ h => (h.perm List.perm_append_comm).sublist (.cons_cons _ (.cons_cons _ (.cons _ (.refl _))))) ?_
    rintro ⟨i, M, la, ln, lc, lb⟩ ⟨hi, hM, hMd, hown⟩
    dsimp only at hi hM hMd hown ⊢
    unfold toldV nilS
    have hMl : M.length = i := by have := congrArg List.length hMd; simp at this; omega
    have hln : ln = i := by have := hown.len; rw [flat_len' DM.cells 7 DM.len] at this; omega
    repeat' (first | refine S2b ?_ | refine SD ?_ | refine SA (fun _ => ?_) | refine WL.g_split rfl rfl (fun hc => ?_) (fun hc => ?_) | refine WD.g_split rfl rfl (fun hc => ?_) (fun hc => ?_) | refine W.cond rfl (fun hc => ?_) (fun hc => ?_) | refine WL.s rfl (Rd.ldC rfl (Sl.Can.mono (by assumption) (fun _ h => h.sublist findA))) ?_ | refine WD.s rfl (Rd.ldC rfl (Sl.Can.mono (by assumption) (fun _ h => h.sublist findA))) ?_ | fail)
    · have hi' : i < q.sn := by have := of_decide_eq_true hc; omega
      obtain ⟨m, hm⟩ : ∃ m, q.ds[i]? = some m := ⟨q.ds[i]'(by omega), List.getElem?_eq_getElem _⟩
      obtain ⟨sb, so, hqa, hcan⟩ := (Lst.own (F := F) hq.row (fun _ h => h)).el DM.len hm (by omega)
      have hdrop : q.ds.drop i = m :: q.ds.drop (i + 1) := by rw [List.drop_eq_getElem_cons (by omega), (List.getElem?_eq_some_iff.1 hm).2]
      have hia : 0 ≤ (i : Int) ∧ (i : Int) < q.sn := by omega
      have hmo := hq.own m (List.mem_of_getElem? hm)
      have hml := hqb m (List.mem_of_getElem? hm)
      have hbn : m.bn = m.d.bs.length := by have := OwnS.len hmo; simp at this; omega
      rw [hdrop, List.flatMap_cons, List.append_assoc m.bb, hqa]
      repeat' (first | refine S2b ?_ | refine SD ?_ | refine SA (fun _ => ?_) | refine WL.g_split rfl rfl (fun hc => ?_) (fun hc => ?_) | refine WD.g_split rfl rfl (fun hc => ?_) (fun hc => ?_) | refine W.cond rfl (fun hc => ?_) (fun hc => ?_) | refine WL.s rfl (Rd.ldC rfl (Sl.Can.mono (by assumption) (fun _ h => h.sublist findA))) ?_ | refine WD.s rfl (Rd.ldC rfl (Sl.Can.mono (by assumption) (fun _ h => h.sublist findA))) ?_ | fail)
      refine WL.s rfl (Rd.ldaC rfl (by exact rfl) (hcan.mono (fun _ h => h.sublist findA))) ?_
      unfold DM.cells at hcan ⊢
      repeat' (first | refine S2b ?_ | refine SD ?_ | refine SA (fun _ => ?_) | refine WL.g_split rfl rfl (fun hc => ?_) (fun hc => ?_) | refine WD.g_split rfl rfl (fun hc => ?_) (fun hc => ?_) | refine W.cond rfl (fun hc => ?_) (fun hc => ?_) | refine WL.s rfl (Rd.ldC rfl (Sl.Can.mono (by assumption) (fun _ h => h.sublist findA))) ?_ | refine WD.s rfl (Rd.ldC rfl (Sl.Can.mono (by assumption) (fun _ h => h.sublist findA))) ?_ | fail)
      rename_i b4 b5
      refine WL.s rfl (Rd.ldC rfl ((hcan.sub 6 1).mono (fun _ h => h.sublist findA))) ?_
      repeat' (first | refine S2b ?_ | refine SD ?_ | refine SA (fun _ => ?_) | refine WL.g_split rfl rfl (fun hc => ?_) (fun hc => ?_) | refine WD.g_split rfl rfl (fun hc => ?_) (fun hc => ?_) | refine W.cond rfl (fun hc => ?_) (fun hc => ?_) | refine WL.s rfl (Rd.ldC rfl (Sl.Can.mono (by assumption) (fun _ h => h.sublist findA))) ?_ | refine WD.s rfl (Rd.ldC rfl (Sl.Can.mono (by assumption) (fun _ h => h.sublist findA))) ?_ | fail)
      refine WL.e rfl (Ef.app (m := m.bn) (news := m.d.bs.map B) (hb := [(b5, .cells ([] : List Value).toArray 5 (0, 0))]) (by exact rfl) (by exact rfl) rfl rfl (OwnS.empty _ _ b5) (.one [_] _) ((Lst.own (F := F) (H := m.bb) hmo (fun _ h => h)).src.mono (fun _ h => h.sublist findA)) (by simp [hbn]) (B_one _) (by simp; omega) (by simp [maxLen]; omega)) ?_
      rintro v' _ ⟨hb', hown', rfl⟩
      rw [List.nil_append] at hown'
      obtain ⟨ta, tn, tc, rfl, _, _⟩ := OwnS.shape hown'
      repeat' (first | refine S2b ?_ | refine SD ?_ | refine SA (fun _ => ?_) | refine WL.g_split rfl rfl (fun hc => ?_) (fun hc => ?_) | refine WD.g_split rfl rfl (fun hc => ?_) (fun hc => ?_) | refine W.cond rfl (fun hc => ?_) (fun hc => ?_) | refine WL.s rfl (Rd.ldC rfl (Sl.Can.mono (by assumption) (fun _ h => h.sublist findA))) ?_ | refine WD.s rfl (Rd.ldC rfl (Sl.Can.mono (by assumption) (fun _ h => h.sublist findA))) ?_ | fail)
      rename_i b6
      refine WL.e rfl (Ef.app (m := 1) (news := DM.cells ⟨m.d, ta, tn, tc, hb'⟩) (hb := lb) (by exact rfl) (by exact rfl) rfl rfl hown (.last (.there (.right (.there (.there (.there .here)))))) (Src.own (n := 7) (.here rfl)) rfl (dm_one _) (by rw [flat_len' DM.cells 7 DM.len, DM.len]; omega) (by rw [flat_len' DM.cells 7 DM.len, DM.len]; simp [maxLen]; omega)) ?_
      rintro v' _ ⟨lb', hown2, rfl⟩
      obtain ⟨la', ln', lc', rfl, _, _⟩ := OwnS.shape hown2
      repeat' (first | refine S2b ?_ | refine SD ?_ | refine SA (fun _ => ?_) | refine WL.g_split rfl rfl (fun hc => ?_) (fun hc => ?_) | refine WD.g_split rfl rfl (fun hc => ?_) (fun hc => ?_) | refine W.cond rfl (fun hc => ?_) (fun hc => ?_) | refine WL.s rfl (Rd.ldC rfl (Sl.Can.mono (by assumption) (fun _ h => h.sublist findA))) ?_ | refine WD.s rfl (Rd.ldC rfl (Sl.Can.mono (by assumption) (fun _ h => h.sublist findA))) ?_ | fail)
      refine W.loop (G := GBy) (fun g => [(8, ptr b2), (9, ptr b3), (13, .slice (some ⟨sb, so, Option.none⟩) q.sn q.sc), (15, .int .i64 i), (17, .int .i64 g.i)])
        (fun g => lb' ++ (hb' ++ ((b3, .cells (toldV 0 kk 0 (.slice la' ln' lc') 0 nilS fl nilS).toArray 72 (0, 0)) :: (b2, .cells (toldV 0 0 0 nilS 0 nilS false nilS).toArray 72 (0, 0)) :: (M.flatMap (·.bb) ++ (q.hb ++ (g.hb ++ ((q.ds.drop (i + 1)).flatMap (·.bb) ++ s'.H)))))))
        (fun g => g.i ≤ m.bn ∧ OwnS 5 1 g.xs (.slice m.ba m.bn m.bc) g.hb) (fun g => m.bn - g.i) ⟨0, _, m.bb⟩ ⟨Nat.zero_le _, hmo⟩ envA (fun _ h => h.sublist ((List.Sublist.refl _).append (.cons _ ((List.Sublist.refl _).append (.cons _ (.refl _)))))) ?_
      rintro ⟨j, xs, xb⟩ ⟨hj, hx⟩
      dsimp only at hj hx ⊢
      unfold toldV nilS
      repeat' (first | refine S2b ?_ | refine SD ?_ | refine SA (fun _ => ?_) | refine WL.g_split rfl rfl (fun hc => ?_) (fun hc => ?_) | refine WD.g_split rfl rfl (fun hc => ?_) (fun hc => ?_) | refine W.cond rfl (fun hc => ?_) (fun hc => ?_) | refine WL.s rfl (Rd.ldC rfl (Sl.Can.mono (by assumption) (fun _ h => h.sublist findA))) ?_ | refine WD.s rfl (Rd.ldC rfl (Sl.Can.mono (by assumption) (fun _ h => h.sublist findA))) ?_ | fail)
      refine WL.s rfl (Rd.ldC rfl ((hcan.sub 6 1).mono (fun _ h => h.sublist findA))) ?_
      repeat' (first | refine S2b ?_ | refine SD ?_ | refine SA (fun _ => ?_) | refine WL.g_split rfl rfl (fun hc => ?_) (fun hc => ?_) | refine WD.g_split rfl rfl (fun hc => ?_) (fun hc => ?_) | refine W.cond rfl (fun hc => ?_) (fun hc => ?_) | refine WL.s rfl (Rd.ldC rfl (Sl.Can.mono (by assumption) (fun _ h => h.sublist findA))) ?_ | refine WD.s rfl (Rd.ldC rfl (Sl.Can.mono (by assumption) (fun _ h => h.sublist findA))) ?_ | fail)
      · have hj' : j < m.bn := by have := of_decide_eq_true hc; omega
        refine WL.s rfl (Rd.ldC rfl ((hcan.sub 6 1).mono (fun _ h => h.sublist findA))) ?_
        obtain ⟨p, oo, hma⟩ := hx.addr (by omega)
        rw [hma] at hx ⊢
        have hja : 0 ≤ (j : Int) ∧ (j : Int) < m.bn := by omega
        obtain ⟨xb', hx', hput⟩ := hx.put j [.int .u8 85] (by have := hx.len; simp at this ⊢; omega)
        repeat' (first | refine S2b ?_ | refine SD ?_ | refine SA (fun _ => ?_) | refine WL.g_split rfl rfl (fun hc => ?_) (fun hc => ?_) | refine WD.g_split rfl rfl (fun hc => ?_) (fun hc => ?_) | refine W.cond rfl (fun hc => ?_) (fun hc => ?_) | refine WL.s rfl (Rd.ldC rfl (Sl.Can.mono (by assumption) (fun _ h => h.sublist findA))) ?_ | refine WD.s rfl (Rd.ldC rfl (Sl.Can.mono (by assumption) (fun _ h => h.sublist findA))) ?_ | fail)
        refine WL.e0 (Ef.st rfl rfl rfl (.right (.right (.there (.there (.right (.right (PutAt.left (by simpa using hput))))))))) ?_
        rintro _ _ ⟨rfl, rfl⟩
        repeat' (first | refine S2b ?_ | refine SD ?_ | refine SA (fun _ => ?_) | refine WL.g_split rfl rfl (fun hc => ?_) (fun hc => ?_) | refine WD.g_split rfl rfl (fun hc => ?_) (fun hc => ?_) | refine W.cond rfl (fun hc => ?_) (fun hc => ?_) | refine WL.s rfl (Rd.ldC rfl (Sl.Can.mono (by assumption) (fun _ h => h.sublist findA))) ?_ | refine WD.s rfl (Rd.ldC rfl (Sl.Can.mono (by assumption) (fun _ h => h.sublist findA))) ?_ | fail)
        rw [i64_succ (by omega)]
        exact Fin.round ⟨j + 1, _, xb'⟩ ⟨hj', hx'⟩ envA (fun _ h => h) (by dsimp only; omega)
      · rw [i64_succ (by omega), ← hqa]
        refine Fin.round ⟨i + 1, M ++ [⟨m.d, ta, tn, tc, hb'⟩], la', ln', lc', lb'⟩ ⟨hi', ?_, ?_, ?_⟩ envA (fun _ h => ?_) (by dsimp only; omega)
        · intro z hz
          rcases List.mem_append.1 hz with hz | hz
          · exact hM z hz
          · rw [List.mem_singleton.1 hz]; exact hown'
        · rw [List.map_append, hMd, List.take_add_one, hm]
          simp
        · show OwnS _ 7 ((M ++ [DM.mk m.d ta tn tc hb']).flatMap DM.cells) _ _
          rw [List.flatMap_append, show List.flatMap DM.cells [DM.mk m.d ta tn tc hb'] = DM.cells ⟨m.d, ta, tn, tc, hb'⟩ from List.append_nil _]
          exact hown2
        · have h1 := h.sublist ((List.Sublist.refl lb').append ((List.Sublist.refl hb').append (.cons_cons _ (.cons_cons _ ((List.Sublist.refl (M.flatMap (·.bb))).append ((List.Sublist.refl q.hb).append (List.sublist_append_right xb _)))))))
          have h2 := h1.perm (perm5 lb' hb' [_, _] (M.flatMap (·.bb)) _)
          rw [List.flatMap_append]
          simpa [toldV, nilS] using h2
    · have hi' : i = q.sn := by have := of_decide_eq_false hc; omega
      refine Fin.retW (by exact rfl) resA (H' := ({ ToM.none with o := ⟨M, la, ln, lc, lb⟩ } : ToM).H ++ s'.H) (fun _ h => ?_) ⟨{ ToM.none with o := ⟨M, la, ln, lc, lb⟩ }, s', ⟨⟨hown, hM⟩, ?_, .inl ⟨rfl, rfl, rfl⟩, .inl ⟨rfl, rfl, rfl⟩⟩, hs'.up (Nat.le_succ n), hR', rfl, rfl, rfl⟩
      · have hsub : ((lb ++ M.flatMap (·.bb)) ++ s'.H).Sublist (lb ++ (M.flatMap (·.bb) ++ (q.hb ++ ((q.ds.drop i).flatMap (·.bb) ++ s'.H)))) := by
          rw [List.append_assoc]
          exact (List.Sublist.refl _).append ((List.Sublist.refl _).append ((List.sublist_append_right _ _).trans (List.sublist_append_right _ _)))
        have := h.sublist (.cons _ (.cons _ hsub))
        unfold ToM.H ToM.none OuM.bb
        simpa using this
      · show M.map (·.d) = q.ds.map (·.d)
        rw [hMd, hi', ← hqn, List.take_length]
  | false =>
  have k4 : ¬ o.kind = 4 := by simpa using h4
  repeat' (first | refine S2b ?_ | refine SA (fun _ => ?_) | refine WL.g_split rfl rfl (fun hc => ?_) (fun hc => ?_) | refine WD.g_split rfl rfl (fun hc => ?_) (fun hc => ?_) | refine WL.s rfl (Rd.ldC rfl (Sl.Can.mono (by assumption) (fun _ h => h.sublist findA))) ?_ | refine WD.s rfl (Rd.ldC rfl (Sl.Can.mono (by assumption) (fun _ h => h.sublist findA))) ?_ | fail)
  cases h5 : (o.kind == 5) with
  | true =>
    have hk : o.kind = 5 := by simpa using h5
    have hd : Snd.did s.S (o.dg bs gs) cum now = (match Snd.forward s.S now with | (s', none) => Snd.Dn.of s' | (s', some (y, sk, b)) => { Snd.Dn.of s' with a := b, fc := y, fs := sk, is_ := true }) := by unfold Snd.did; exact (if_neg k0).trans ((if_neg k1).trans ((if_neg k2).trans ((if_neg k3).trans ((if_neg k4).trans (if_pos hk)))))
    rw [hd]
    repeat' (first | refine S2b ?_ | refine SD ?_ | refine SA (fun _ => ?_) | refine WL.g_split rfl rfl (fun hc => ?_) (fun hc => ?_) | refine WD.g_split rfl rfl (fun hc => ?_) (fun hc => ?_) | refine W.cond rfl (fun hc => ?_) (fun hc => ?_) | refine WL.s rfl (Rd.ldC rfl (Sl.Can.mono (by assumption) (fun _ h => h.sublist findA))) ?_ | refine WD.s rfl (Rd.ldC rfl (Sl.Can.mono (by assumption) (fun _ h => h.sublist findA))) ?_ | fail)
    refine WL.e rfl (Ef.call (c := s.H) (by exact rfl) (.skip _ (.skip _ (.skip _ (.all _)))) (fwd_tr _ s hs now)) ?_
    rintro _ _ ⟨_, hq, rfl⟩
    cases hf : Snd.forward s.S now with
    | mk S' r =>
    rw [hf] at hq
    cases r with
    | none =>
      obtain ⟨rfl, s', hs', hR', hS', rfl⟩ := hq
      dsimp only [tup]
      repeat' (first | refine S2b ?_ | refine SD ?_ | refine SA (fun _ => ?_) | refine WL.g_split rfl rfl (fun hc => ?_) (fun hc => ?_) | refine WD.g_split rfl rfl (fun hc => ?_) (fun hc => ?_) | refine W.cond rfl (fun hc => ?_) (fun hc => ?_) | refine WL.s rfl (Rd.ldC rfl (Sl.Can.mono (by assumption) (fun _ h => h.sublist findA))) ?_ | refine WD.s rfl (Rd.ldC rfl (Sl.Can.mono (by assumption) (fun _ h => h.sublist findA))) ?_ | fail)
      exact Fin.retW (by exact rfl) resA (H' := ToM.none.H ++ s'.H) (fun _ h => h.left) ⟨ToM.none, s', ToM.none_ok rfl rfl rfl, hs'.up (Nat.le_succ n), hR', hS', rfl, rfl⟩
    | some r =>
      obtain ⟨y, sk, b⟩ := r
      obtain ⟨ka, kn, kc, kb, s', rfl, hown, hs', hR', hS', rfl⟩ := hq
      dsimp only [tup]
      repeat' (first | refine S2b ?_ | refine SD ?_ | refine SA (fun _ => ?_) | refine WL.g_split rfl rfl (fun hc => ?_) (fun hc => ?_) | refine WD.g_split rfl rfl (fun hc => ?_) (fun hc => ?_) | refine W.cond rfl (fun hc => ?_) (fun hc => ?_) | refine WL.s rfl (Rd.ldC rfl (Sl.Can.mono (by assumption) (fun _ h => h.sublist findA))) ?_ | refine WD.s rfl (Rd.ldC rfl (Sl.Can.mono (by assumption) (fun _ h => h.sublist findA))) ?_ | fail)
      exact Fin.retW (by exact rfl) resA (H' := ({ ToM.none with fa := ka, fn := kn, fc := kc, fb := kb } : ToM).H ++ s'.H) (fun _ h => by unfold ToM.H ToM.none OuM.bb; simpa using h.left) ⟨{ ToM.none with fa := ka, fn := kn, fc := kc, fb := kb }, s', ⟨⟨.inl ⟨rfl, rfl, rfl⟩, fun _ h => by cases h⟩, rfl, hown, .inl ⟨rfl, rfl, rfl⟩⟩, hs'.up (Nat.le_succ n), hR', hS', rfl, rfl⟩
  | false =>
  have k5 : ¬ o.kind = 5 := by simpa using h5
  repeat' (first | refine S2b ?_ | refine SA (fun _ => ?_) | refine WL.g_split rfl rfl (fun hc => ?_) (fun hc => ?_) | refine WD.g_split rfl rfl (fun hc => ?_) (fun hc => ?_) | refine WL.s rfl (Rd.ldC rfl (Sl.Can.mono (by assumption) (fun _ h => h.sublist findA))) ?_ | refine WD.s rfl (Rd.ldC rfl (Sl.Can.mono (by assumption) (fun _ h => h.sublist findA))) ?_ | fail)
  cases h6 : (o.kind == 6) with
  | true =>
    have hk : o.kind = 6 := by simpa using h6
    have hd : Snd.did s.S (o.dg bs gs) cum now = { Snd.Dn.of (Snd.beat s.S now) with k := Snd.beatL s.S now } := by unfold Snd.did; exact (if_neg k0).trans ((if_neg k1).trans ((if_neg k2).trans ((if_neg k3).trans ((if_neg k4).trans ((if_neg k5).trans (if_pos hk))))))
    rw [hd]
    repeat' (first | refine S2b ?_ | refine SD ?_ | refine SA (fun _ => ?_) | refine WL.g_split rfl rfl (fun hc => ?_) (fun hc => ?_) | refine WD.g_split rfl rfl (fun hc => ?_) (fun hc => ?_) | refine W.cond rfl (fun hc => ?_) (fun hc => ?_) | refine WL.s rfl (Rd.ldC rfl (Sl.Can.mono (by assumption) (fun _ h => h.sublist findA))) ?_ | refine WD.s rfl (Rd.ldC rfl (Sl.Can.mono (by assumption) (fun _ h => h.sublist findA))) ?_ | fail)
    refine WL.e rfl (Ef.call (c := s.H) (by exact rfl) (.skip _ (.skip _ (.skip _ (.all _)))) (sbeat_tr _ s hs now)) ?_
    rintro _ _ ⟨_, ⟨ka, kn, kc, kb, s', rfl, hown, hs', hR', hS', rfl⟩, rfl⟩
    repeat' (first | refine S2b ?_ | refine SD ?_ | refine SA (fun _ => ?_) | refine WL.g_split rfl rfl (fun hc => ?_) (fun hc => ?_) | refine WD.g_split rfl rfl (fun hc => ?_) (fun hc => ?_) | refine W.cond rfl (fun hc => ?_) (fun hc => ?_) | refine WL.s rfl (Rd.ldC rfl (Sl.Can.mono (by assumption) (fun _ h => h.sublist findA))) ?_ | refine WD.s rfl (Rd.ldC rfl (Sl.Can.mono (by assumption) (fun _ h => h.sublist findA))) ?_ | fail)
    exact Fin.retW (by exact rfl) resA (H' := ({ ToM.none with ka := ka, kn := kn, kc := kc, kb := kb } : ToM).H ++ s'.H) (fun _ h => by unfold ToM.H ToM.none OuM.bb; simpa using h.left) ⟨{ ToM.none with ka := ka, kn := kn, kc := kc, kb := kb }, s', ⟨⟨.inl ⟨rfl, rfl, rfl⟩, fun _ h => by cases h⟩, rfl, .inl ⟨rfl, rfl, rfl⟩, hown⟩, hs'.up (Nat.le_succ n), hR', hS', rfl, rfl⟩
  | false =>
  have k6 : ¬ o.kind = 6 := by simpa using h6
  repeat' (first | refine S2b ?_ | refine SA (fun _ => ?_) | refine WL.g_split rfl rfl (fun hc => ?_) (fun hc => ?_) | refine WD.g_split rfl rfl (fun hc => ?_) (fun hc => ?_) | refine WL.s rfl (Rd.ldC rfl (Sl.Can.mono (by assumption) (fun _ h => h.sublist findA))) ?_ | refine WD.s rfl (Rd.ldC rfl (Sl.Can.mono (by assumption) (fun _ h => h.sublist findA))) ?_ | fail)
  cases h7 : (o.kind == 7) with
  | true =>
    have hk : o.kind = 7 := by simpa using h7
    have hd : Snd.did s.S (o.dg bs gs) cum now = { Snd.Dn.of (Snd.beaten s.S o.path o.life now) with is_ := Snd.beatenB s.S o.path o.life now } := by unfold Snd.did; exact (if_neg k0).trans ((if_neg k1).trans ((if_neg k2).trans ((if_neg k3).trans ((if_neg k4).trans ((if_neg k5).trans ((if_neg k6).trans (if_pos hk)))))))
    rw [hd]
    repeat' (first | refine S2b ?_ | refine SD ?_ | refine SA (fun _ => ?_) | refine WL.g_split rfl rfl (fun hc => ?_) (fun hc => ?_) | refine WD.g_split rfl rfl (fun hc => ?_) (fun hc => ?_) | refine W.cond rfl (fun hc => ?_) (fun hc => ?_) | refine WL.s rfl (Rd.ldC rfl (Sl.Can.mono (by assumption) (fun _ h => h.sublist findA))) ?_ | refine WD.s rfl (Rd.ldC rfl (Sl.Can.mono (by assumption) (fun _ h => h.sublist findA))) ?_ | fail)
    refine WL.e rfl (Ef.call (c := s.H) (by exact rfl) (.skip _ (.skip _ (.skip _ (.all _)))) (sbeaten_tr _ s hs o.path o.life now hnow)) ?_
    rintro _ _ ⟨_, ⟨rfl, s', hs', hR', hS', rfl⟩, rfl⟩
    repeat' (first | refine S2b ?_ | refine SD ?_ | refine SA (fun _ => ?_) | refine WL.g_split rfl rfl (fun hc => ?_) (fun hc => ?_) | refine WD.g_split rfl rfl (fun hc => ?_) (fun hc => ?_) | refine W.cond rfl (fun hc => ?_) (fun hc => ?_) | refine WL.s rfl (Rd.ldC rfl (Sl.Can.mono (by assumption) (fun _ h => h.sublist findA))) ?_ | refine WD.s rfl (Rd.ldC rfl (Sl.Can.mono (by assumption) (fun _ h => h.sublist findA))) ?_ | fail)
    exact Fin.retW (by exact rfl) resA (H' := ToM.none.H ++ s'.H) (fun _ h => h.left) ⟨ToM.none, s', ToM.none_ok rfl rfl rfl, hs'.up (Nat.le_succ n), hR', hS', rfl, rfl⟩
  | false =>
    have k7 : ¬ o.kind = 7 := by simpa using h7
    have hd : Snd.did s.S (o.dg bs gs) cum now = Snd.Dn.of s.S := by unfold Snd.did; exact (if_neg k0).trans ((if_neg k1).trans ((if_neg k2).trans ((if_neg k3).trans ((if_neg k4).trans ((if_neg k5).trans ((if_neg k6).trans (if_neg k7)))))))
    rw [hd]
    repeat' (first | refine S2b ?_ | refine SD ?_ | refine SA (fun _ => ?_) | refine WL.g_split rfl rfl (fun hc => ?_) (fun hc => ?_) | refine WD.g_split rfl rfl (fun hc => ?_) (fun hc => ?_) | refine W.cond rfl (fun hc => ?_) (fun hc => ?_) | refine WL.s rfl (Rd.ldC rfl (Sl.Can.mono (by assumption) (fun _ h => h.sublist findA))) ?_ | refine WD.s rfl (Rd.ldC rfl (Sl.Can.mono (by assumption) (fun _ h => h.sublist findA))) ?_ | fail)
    exact Fin.retW (by exact rfl) resA (H' := ToM.none.H ++ s.H) (fun _ h => h.sublist (.cons _ (.cons _ (.cons _ (.refl _))))) ⟨ToM.none, s, ToM.none_ok rfl rfl rfl, hs.up (Nat.le_succ n), rfl, rfl, rfl, rfl⟩
end Go.Proofs.YtjbinhihkfidoaaGreat
