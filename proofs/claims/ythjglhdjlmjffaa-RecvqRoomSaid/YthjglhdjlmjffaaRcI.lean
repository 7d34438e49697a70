/- The law RecvqRoom, walked: what is held is never more than the room. Conditions: the things done are in memory. -/
import Derived.Test.YthjglhdjlmjffaaRcH
import Derived.Test.YthjglhdjlmjffaaRcS
import Derived.Test.YthjglhdjlmjffaaBc
namespace Go.Proofs.Ythjglhdjlmjffaa
open Go Go.Sl Go.Rm

structure RoG where
  i : Nat
  r : RcM
structure RoD where
  r : RcM
  b : Nat
  g : Mg
  mv : Value
  is : Bool
  e : Int
  c : Int
  rw : Int
  gv : Value
  dv : Value
theorem doS_room (s : Rcv.S) (o : Ov) (c : Int) (bs : List UInt8) (ks : List Sk) : (doS s o c bs ks).room = s.room := by
  unfold doS Rcv.data Rcv.forward
  repeat (first | rfl | split)
/-- what is held behind a thing done -/
theorem room_facts {r : RcM} (hr : r.ok) {o : Ov} {c : Int} {bs : List UInt8} {ks : List Sk} {F : Nat → Option Obj} (ho : o.Is F bs ks) :
    (o.kind = 3 → Rcv.held (doS r.S o c bs ks) = Rcv.held r.S ∧ doR r.S o = r.room - Rcv.held r.S) ∧
    (o.kind = 0 → doE r.S o c bs = 6 → doI r.S o c bs = false ∧ r.room < (Rcv.held r.S : Int) + bs.length ∧ Rcv.held (doS r.S o c bs ks) = Rcv.held r.S) ∧
    (o.kind = 0 → doI r.S o c bs = true → doE r.S o c bs = 0 → Rcv.held (doS r.S o c bs ks) = Rcv.held r.S + bs.length) := by
  have hg := hr.fine
  have hfew := hr.w.few
  have hbnd := hr.w.bound
  have hlen : r.S.w.L.length + 1 < 2147483000 := by show r.w.L.length + 1 < _; unfold RM.L; rw [List.length_map]; omega
  have hd := Rcv.data_held (s := r.S) (p := o.D c bs) hg ⟨by unfold Ov.D; dsimp only; rw [u32_eq]; omega, by unfold Ov.D; dsimp only; rw [u32_eq]; omega⟩ hlen
  obtain ⟨d1, d2, d3⟩ := hd
  refine ⟨fun hk => ⟨?_, ?_⟩, fun hk he => ?_, fun hk hi he => ?_⟩
  · unfold doS; rw [if_neg (by omega), if_neg (by omega), if_neg (by omega), if_pos hk]; rfl
  · unfold doR Rcv.sRoom
    rw [if_pos hk, u32_eq]
    have h1 := hr.fit
    have h2 := hr.room
    show (r.room - (Rcv.held r.S : Int)) % 4294967296 = _
    omega
  · unfold doE at he
    rw [if_pos hk] at he
    have := d3 he
    have e0 : doS r.S o c bs ks = Rcv.data r.S (o.D c bs) := by unfold doS; rw [if_pos hk]
    refine ⟨by unfold doI; rw [if_pos hk]; exact this.1, this.2, ?_⟩
    rw [e0, d1, if_neg (fun h => by rw [h] at this; cases this.1)]
    rfl
  · unfold doE at he
    unfold doI at hi
    rw [if_pos hk] at he hi
    have e0 : doS r.S o c bs ks = Rcv.data r.S (o.D c bs) := by unfold doS; rw [if_pos hk]
    rw [e0, d1, if_pos (Prod.ext hi he)]
    rfl
theorem Ov.Is.mono {F F' : Nat → Option Obj} {o : Ov} {bs : List UInt8} {ks : List Sk} (h : o.Is F bs ks) (hw : ∀ w, In F' [] w → In F [] w) : o.Is F' bs ks := ⟨h.bytes.mono hw, h.skips.mono hw, h.tsn, h.stream, h.cum, h.sks⟩
theorem vast_len {l : List Ov} (h : vast l = false) : l.length ≤ 80 := by
  unfold vast at h
  simp at h
  omega
theorem vastG_in : ∀ (l : List Ov) (n k : Int), 0 ≤ n → 0 ≤ k → vastG l n k = false → ∀ o ∈ l, o.bn ≤ 32768 ∧ o.kn ≤ 12
  | [], _, _, _, _, _ => fun _ h => by cases h
  | o :: l, n, k, hn, hk, h => by
    rw [vastG] at h
    split at h
    · cases h
    · rename_i hno
      intro p hp
      rcases List.mem_cons.1 hp with rfl | hp
      · omega
      · exact vastG_in l _ _ (by omega) (by omega) h p hp
theorem vast_in {l : List Ov} (h : vast l = false) : ∀ o ∈ l, o.bn ≤ 32768 ∧ o.kn ≤ 12 := by
  refine vastG_in l 0 0 (by omega) (by omega) ?_
  unfold vast at h
  simp at h
  exact h.2
set_option maxHeartbeats 8000000 in
theorem roomLaw_tr (F : Nat → Option Obj) (room : Int) (hroom : 0 ≤ room ∧ room < 65536) (first : Int) (l : List Opm) (ka : Option Addr) (kn kc : Nat) (hl : Lst F [] 11 (l.flatMap Opm.cells) ka kn kc) (hop : ∀ p ∈ l, p.Is F) :
    Tr Try.prog 5 [.int .u16 room, .int .u32 first, .slice ka kn kc].toArray F [] (fun v H => v = .bool true ∧ H = []) := by
  refine Tr.enter Try.func5 rfl Try.ntmps5 rfl (fun w0 => ?_)
  have hkn : kn = l.length := by have := hl.len; rw [flat_len' Opm.cells 11 (fun _ => rfl)] at this; omega
  have hl2 : Lst F [] 11 ((l.map (·.o)).flatMap Ov.cells) ka kn kc := by rw [List.flatMap_map]; exact hl
  repeat' (first | refine S1 ?_ | refine SD ?_ | refine SA (fun _ => ?_) | refine WL.g_split rfl rfl (fun hc => ?_) (fun hc => ?_) | refine WD.g_split rfl rfl (fun hc => ?_) (fun hc => ?_) | refine W.cond rfl (fun hc => ?_) (fun hc => ?_))
  refine WL.e rfl (Ef.callFR (by exact rfl) (.nil _) (fun hd => vast_tr _ [] (l.map (·.o)) ka kn kc (hl2.mono (fun _ h => addF_in hd h)))) ?_
  rintro _ _ ⟨rfl, rfl⟩
  obtain ⟨va, hva⟩ : ∃ va, True ∧ vast (l.map (·.o)) = va := ⟨_, trivial, rfl⟩
  rw [hva.2]
  repeat' (first | refine S1 ?_ | refine SD ?_ | refine SA (fun _ => ?_) | refine WL.g_split rfl rfl (fun hc => ?_) (fun hc => ?_) | refine WD.g_split rfl rfl (fun hc => ?_) (fun hc => ?_) | refine W.cond rfl (fun hc => ?_) (fun hc => ?_))
  · refine WL.e rfl (Ef.callR (by exact rfl) (.nil _) (works_tr _)) ?_
    rintro _ _ ⟨rfl, rfl⟩
    repeat' (first | refine S1 ?_ | refine SD ?_ | refine SA (fun _ => ?_) | refine WL.g_split rfl rfl (fun hc => ?_) (fun hc => ?_) | refine WD.g_split rfl rfl (fun hc => ?_) (fun hc => ?_) | refine W.cond rfl (fun hc => ?_) (fun hc => ?_))
    exact Fin.retW (by exact rfl) resA (fun _ h => h.sublist (List.nil_sublist _)) ⟨rfl, rfl⟩
  have hvf : vast (l.map (·.o)) = false := hva.2.trans hc
  have h80 : kn ≤ 80 := by have := vast_len hvf; rw [List.length_map] at this; omega
  clear hc hva
  refine WL.e rfl (Ef.callR (by exact rfl) (.nil _) (plain_tr _ room hroom)) ?_
  rintro _ _ ⟨rfl, rfl⟩
  unfold Cfg.cells
  repeat' (first | refine S1 ?_ | refine SD ?_ | refine SA (fun _ => ?_) | refine WL.g_split rfl rfl (fun hc => ?_) (fun hc => ?_) | refine WD.g_split rfl rfl (fun hc => ?_) (fun hc => ?_) | refine W.cond rfl (fun hc => ?_) (fun hc => ?_))
  rename_i bc
  refine WL.e rfl (Ef.call (by exact rfl) (.nil _) (rnew_tr _ (plainC room) first)) ?_
  rintro _ _ ⟨_, (⟨hno, _⟩ | ⟨_, r0, hr0, rfl, rfl, hS0, ht0⟩), rfl⟩
  · exact absurd (by unfold Cfg.rcvOk plainC; dsimp only; omega) hno
  dsimp only [tup]
  repeat' (first | refine S1 ?_ | refine SD ?_ | refine SA (fun _ => ?_) | refine WL.g_split rfl rfl (fun hc => ?_) (fun hc => ?_) | refine WD.g_split rfl rfl (fun hc => ?_) (fun hc => ?_) | refine W.cond rfl (fun hc => ?_) (fun hc => ?_))
  obtain ⟨rr, hrr⟩ : ∃ rr, rr = 128 + room % 4096 := ⟨_, rfl⟩
  have hrr2 : (plainC room).rroom = rr := hrr.symm
  have hr0room : r0.room = rr := by have e : r0.S.room = r0.room := rfl; rw [← e, hS0]; exact hrr2
  have hrrb : 128 ≤ rr ∧ rr < 5000 := by omega
  rw [hrr2]
  refine W.loop (G := RoG) (fun g => [(2, .slice ka kn kc), (7, .pointer (some ⟨bc, 0, none⟩)), (8, .pointer (some ⟨r0.R, 0, none⟩)), (10, .int .i64 g.i)])
    (fun g => (bc, .cells [.int .i64 (plainC room).paths, .int .i64 (plainC room).mtu, .int .i64 (plainC room).streams, .int .i64 (plainC room).sroom, .int .i64 rr, .int .i64 (plainC room).cap, .int .i64 (plainC room).ri, .int .i64 (plainC room).rmin, .int .i64 (plainC room).rmax, .int .i64 (plainC room).delay, .int .i64 (plainC room).life, .int .i64 (plainC room).beat, .int .i64 (plainC room).retrans, .int .i64 (plainC room).tries].toArray 30 (0, 0)) :: g.r.H)
    (fun g => g.i ≤ kn ∧ g.r.ok ∧ g.r.R = r0.R ∧ g.r.room = rr ∧ g.r.w.turns ≤ g.i) (fun g => kn - g.i) ⟨0, r0⟩ ⟨Nat.zero_le _, hr0, rfl, hr0room, by rw [ht0]; exact Int.le_refl _⟩ envA (fun _ h => h.perm List.perm_append_comm) ?_
  rintro ⟨i, r⟩ ⟨hi, hr, hR, hrm, hturn⟩
  dsimp only at hi hr hR hrm hturn ⊢
  repeat' (first | refine S1 ?_ | refine SA (fun _ => ?_) | refine WL.g_split rfl rfl (fun hc => ?_) (fun hc => ?_) | refine WD.g_split rfl rfl (fun hc => ?_) (fun hc => ?_) | refine W.cond rfl (fun hc => ?_) (fun hc => ?_))
  rotate_left
  · refine WL.e rfl (Ef.callR (by exact rfl) (.nil _) (works_tr _)) ?_
    rintro _ _ ⟨rfl, rfl⟩
    repeat' (first | refine S1 ?_ | refine SD ?_ | refine SA (fun _ => ?_) | refine WL.g_split rfl rfl (fun hc => ?_) (fun hc => ?_) | refine WD.g_split rfl rfl (fun hc => ?_) (fun hc => ?_) | refine W.cond rfl (fun hc => ?_) (fun hc => ?_))
    exact Fin.retW (by exact rfl) resA (fun _ h => h.sublist (List.nil_sublist _)) ⟨rfl, rfl⟩
  have hi' : i < kn := by simp at hc; omega
  clear hc
  rw [← hR]
  refine WL.e rfl (Ef.callR (c := r.H) (by exact rfl) (.last (.there .all)) (rheld_tr _ r hr)) ?_
  rintro _ _ ⟨rfl, rfl⟩
  repeat' (first | refine S1 ?_ | refine SA (fun _ => ?_) | refine WL.g_split rfl rfl (fun hc => ?_) (fun hc => ?_) | refine WD.g_split rfl rfl (fun hc => ?_) (fun hc => ?_) | refine W.cond rfl (fun hc => ?_) (fun hc => ?_))
  obtain ⟨hh, hhe⟩ : ∃ hh, Rcv.held r.S = hh := ⟨_, rfl⟩
  rw [hhe]
  obtain ⟨p, hp⟩ : ∃ p, l[i]? = some p := ⟨l[i]'(by omega), by simp⟩
  have hpI := hop p (List.mem_of_getElem? hp)
  have hpo : p.o.bn ≤ 32768 ∧ p.o.kn ≤ 12 := vast_in hvf p.o (List.mem_map.2 ⟨p, List.mem_of_getElem? hp, rfl⟩)
  have hpb := hpI.bn
  have hpk := hpI.kn
  obtain ⟨b, off, rfl, hcan⟩ := hl.can (by omega)
  have hsub := hcan.sub (i * 11) 11
  rw [flat_at Opm.cells 11 (fun _ => rfl) l i p hp] at hsub
  have hia : 0 ≤ (i : Int) ∧ (i : Int) < kn := by omega
  have hCk : Sl.Can F [] b (off + (i : Int).toNat * 11 + 0) [.int .i64 p.o.kind] := by have := hsub.one (i := 0) (v := .int .i64 p.o.kind) rfl; simpa using this
  have hCb : Sl.Can F [] b (off + (i : Int).toNat * 11 + 1 + 6) [.slice p.o.ba p.o.bn p.o.bc] := by have := hsub.one (i := 7) (v := .slice p.o.ba p.o.bn p.o.bc) rfl; simpa using this
  have hCo : Sl.Can F [] b (off + (i : Int).toNat * 11) p.o.cells := by have e : p.cells = p.o.cells := rfl; rw [← e]; simpa using hsub
  refine W.cut (G := RoD) (fun g => [(2, .slice (some ⟨b, off, none⟩) kn kc), (7, .pointer (some ⟨bc, 0, none⟩)), (8, .pointer (some ⟨r.R, 0, none⟩)), (10, .int .i64 i), (11, .int .i64 hh), (12, .pointer (some ⟨g.b, 0, none⟩))])
    (fun g => (g.b, .cells (toldV g.g g.mv g.is g.e g.c g.rw g.gv g.dv).toArray 61 (0, 0)) :: (bc, .cells [.int .i64 (plainC room).paths, .int .i64 (plainC room).mtu, .int .i64 (plainC room).streams, .int .i64 (plainC room).sroom, .int .i64 rr, .int .i64 (plainC room).cap, .int .i64 (plainC room).ri, .int .i64 (plainC room).rmin, .int .i64 (plainC room).rmax, .int .i64 (plainC room).delay, .int .i64 (plainC room).life, .int .i64 (plainC room).beat, .int .i64 (plainC room).retrans, .int .i64 (plainC room).tries].toArray 30 (0, 0)) :: g.r.H)
    (fun g => g.r.ok ∧ g.r.R = r.R ∧ g.r.w.turns ≤ i + 1 ∧ g.r.S = doS r.S p.o r.S.m.b p.bs p.ks ∧ g.is = doI r.S p.o r.S.m.b p.bs ∧ g.e = doE r.S p.o r.S.m.b p.bs ∧ g.rw = doR r.S p.o) (fun K' hK _ => ?_) ?_
  · refine W.drawG 8 [] (fun _ h => h.sublist (List.nil_sublist _)) ?_
    repeat' (first
      | refine WF.pA ?_ | refine WF.sA ?_)
    refine WF.e rfl (Ef.callR (c := r.H) (by exact rfl) (.last (.there .all)) (rcum_tr _ r)) ?_ ?_
    · rintro _ _ ⟨rfl, rfl⟩
      refine ⟨.inr (fun _ h => h.sublist (List.nil_sublist _)), ?_⟩
      refine WF.e rfl (Ef.callF (c := r.H) (by exact rfl) (.last (.there .all)) (fun hd => does_tr _ p.o p.bs p.ks (hpI.mono (fun _ h => addF_in hd h)) r.S.m.b r hr (by omega) (by omega) (by omega))) ?_ ?_
      · rintro _ _ ⟨_, ⟨ma, mn, mc, mb, ga, gn, gc, gb, ra, rn, rc, rb, r', rfl, hmo, hgo, hdo, hr', rfl, hR', ht', hS'⟩, rfl⟩
        refine ⟨.inr (fun _ h => h.sublist (List.nil_sublist _)), ?_⟩
        refine WF.nil ?_
        refine WD.aA (fun b12 => ?_) (hk := by intro b; exact .inr (fun _ h => h.sublist (List.nil_sublist _)))
        unfold toldV
        refine WD.e0A ?_ (hk := .inr (fun _ h => h.sublist (List.nil_sublist _)))
        refine WD.nil ?_
        refine Fin.cut hK ⟨r', b12, doM r.S p.o, .slice ma mn mc, doI r.S p.o r.S.m.b p.bs, doE r.S p.o r.S.m.b p.bs, doC r.S p.o, doR r.S p.o, .slice ga gn gc, .slice ra rn rc⟩ ⟨hr', hR', by dsimp only; omega, hS', rfl, rfl, rfl⟩ envA (fun _ h => ?_)
        rw [List.append_assoc] at h
        exact In.of_sub (.pick .here (.pick (.right (.right .here)) (.last (L := r'.H) .here))) h
      · refine WD.aA (fun b12 => ?_) (hk := by intro b; exact .inr (fun _ h => h.sublist (List.nil_sublist _)))
        refine WD.e rfl (Ef.callF (c := r.H) (by exact rfl) (.last (.there (.there .all))) (fun hd => does_tr _ p.o p.bs p.ks (hpI.mono (fun _ h => addF_in hd h)) r.S.m.b r hr (by omega) (by omega) (by omega))) ?_
        rintro _ _ ⟨_, ⟨ma, mn, mc, mb, ga, gn, gc, gb, ra, rn, rc, rb, r', rfl, hmo, hgo, hdo, hr', rfl, hR', ht', hS'⟩, rfl⟩
        refine ⟨.inr (fun _ h => h.sublist (List.nil_sublist _)), ?_⟩
        unfold toldV
        refine WD.e0 (Ef.sta rfl rfl rfl rfl (.right (.here rfl))) ?_
        rintro _ _ ⟨rfl, rfl⟩
        refine ⟨.inr (fun _ h => h.sublist (List.nil_sublist _)), ?_⟩
        refine WD.nil ?_
        refine Fin.cut hK ⟨r', b12, doM r.S p.o, .slice ma mn mc, doI r.S p.o r.S.m.b p.bs, doE r.S p.o r.S.m.b p.bs, doC r.S p.o, doR r.S p.o, .slice ga gn gc, .slice ra rn rc⟩ ⟨hr', hR', by dsimp only; omega, hS', rfl, rfl, rfl⟩ envA (fun _ h => ?_)
        rw [List.append_assoc] at h
        exact In.of_sub (.pick (.right (.right .here)) (.pick (.right (.right .here)) (.last (L := r'.H) .here))) h
    · refine WD.aA (fun b12 => ?_) (hk := by intro b; exact .inr (fun _ h => h.sublist (List.nil_sublist _)))
      refine WD.e rfl (Ef.callR (c := r.H) (by exact rfl) (.last (.there (.there .all))) (rcum_tr _ r)) ?_
      rintro _ _ ⟨rfl, rfl⟩
      refine ⟨.inr (fun _ h => h.sublist (List.nil_sublist _)), ?_⟩
      refine WD.e rfl (Ef.callF (c := r.H) (by exact rfl) (.last (.there (.there .all))) (fun hd => does_tr _ p.o p.bs p.ks (hpI.mono (fun _ h => addF_in hd h)) r.S.m.b r hr (by omega) (by omega) (by omega))) ?_
      rintro _ _ ⟨_, ⟨ma, mn, mc, mb, ga, gn, gc, gb, ra, rn, rc, rb, r', rfl, hmo, hgo, hdo, hr', rfl, hR', ht', hS'⟩, rfl⟩
      refine ⟨.inr (fun _ h => h.sublist (List.nil_sublist _)), ?_⟩
      unfold toldV
      refine WD.e0 (Ef.sta rfl rfl rfl rfl (.right (.here rfl))) ?_
      rintro _ _ ⟨rfl, rfl⟩
      refine ⟨.inr (fun _ h => h.sublist (List.nil_sublist _)), ?_⟩
      refine WD.nil ?_
      refine Fin.cut hK ⟨r', b12, doM r.S p.o, .slice ma mn mc, doI r.S p.o r.S.m.b p.bs, doE r.S p.o r.S.m.b p.bs, doC r.S p.o, doR r.S p.o, .slice ga gn gc, .slice ra rn rc⟩ ⟨hr', hR', by dsimp only; omega, hS', rfl, rfl, rfl⟩ envA (fun _ h => ?_)
      rw [List.append_assoc] at h
      exact In.of_sub (.pick (.right (.right .here)) (.pick (.right (.right .here)) (.last (L := r'.H) .here))) h
  · rintro ⟨r', b12, g, mv, is, e, cc, rw_, gv, dv⟩ ⟨hr', hR', ht', hS', hI, hE, hRw⟩
    dsimp only at hr' hR' ht' hS' hI hE hRw ⊢
    unfold toldV
    obtain ⟨f3, f6, f0⟩ := room_facts (c := r.S.m.b) (ks := p.ks) hr hpI
    rw [← hS', ← hE, ← hI, hhe, hrm] at f6
    rw [← hS', ← hRw, hhe, hrm] at f3
    rw [← hS', ← hE, ← hI, hhe] at f0
    have hrm' : r'.room = rr := by have e : r'.S.room = r'.room := rfl; rw [← e, hS', doS_room]; exact hrm
    have hfit' := hr'.fit
    rw [hrm'] at hfit'
    obtain ⟨h2, hh2⟩ : ∃ h2, Rcv.held r'.S = h2 := ⟨_, rfl⟩
    rw [hh2] at f3 f6 f0 hfit'
    have hro' : r'.R = r0.R := by rw [hR', hR]
    clear hS' hE hI hRw
    rw [← hR']
    repeat' (first | refine S1 ?_ | refine SD ?_ | refine SA (fun _ => ?_) | refine WL.g_split rfl rfl (fun hc => ?_) (fun hc => ?_) | refine WD.g_split rfl rfl (fun hc => ?_) (fun hc => ?_) | refine W.cond rfl (fun hc => ?_) (fun hc => ?_))
    refine WD.e rfl (Ef.callR (c := r'.H) (by exact rfl) (.last (.there (.there .all))) (rheld_tr _ r' hr')) ?_
    rintro _ _ ⟨rfl, rfl⟩
    refine ⟨.inr (fun _ h => h), ?_⟩
    rw [hh2]
    repeat' (first | refine S1 ?_ | refine SD ?_ | refine SA (fun _ => ?_) | refine WL.g_split rfl rfl (fun hc => ?_) (fun hc => ?_) | refine WD.g_split rfl rfl (fun hc => ?_) (fun hc => ?_) | refine W.cond rfl (fun hc => ?_) (fun hc => ?_))
    · exfalso
      have := of_decide_eq_true hc
      omega
    refine WD.e rfl (Ef.callR (c := r'.H) (by exact rfl) (.last (.there (.there .all))) (rheld_tr _ r' hr')) ?_
    rintro _ _ ⟨rfl, rfl⟩
    refine ⟨.inr (fun _ h => h), ?_⟩
    rw [hh2]
    clear hc
    by_cases hk3 : p.o.kind = 3
    · rw [hk3] at hCk
      obtain ⟨e1, e2⟩ := f3 hk3
      repeat' (first | refine S1 ?_ | refine SD ?_ | refine SA (fun _ => ?_) | refine WL.g_split rfl rfl (fun hc => ?_) (fun hc => ?_) | refine WD.g_split rfl rfl (fun hc => ?_) (fun hc => ?_) | refine W.cond rfl (fun hc => ?_) (fun hc => ?_))
      refine WD.e rfl (Ef.callR (c := r'.H) (by exact rfl) (.last (.there (.there .all))) (rheld_tr _ r' hr')) ?_
      rintro _ _ ⟨rfl, rfl⟩
      refine ⟨.inr (fun _ h => h), ?_⟩
      rw [hh2]
      repeat' (first | refine S1 ?_ | refine SD ?_ | refine SA (fun _ => ?_) | refine WL.g_split rfl rfl (fun hc => ?_) (fun hc => ?_) | refine WD.g_split rfl rfl (fun hc => ?_) (fun hc => ?_) | refine W.cond rfl (fun hc => ?_) (fun hc => ?_))
      · exfalso
        rw [e1, e2, i64_id (n := rr - hh) (by omega) (by omega)] at hc
        simp at hc
      rw [i64_succ (by omega)]
      exact Fin.round ⟨i + 1, r'⟩ ⟨hi', hr', rfl, hrm', by dsimp only; omega⟩ envA (fun _ h => h.sublist (.cons _ (.refl _))) (by dsimp only; omega)
    by_cases hk0 : p.o.kind = 0
    · rw [hk0] at hCk
      by_cases he6 : e = 6
      · obtain ⟨g1, g2, g3⟩ := f6 hk0 he6
        subst he6 g1
        have hw : IntKind.i64.wrap ((hh : Int) + (p.o.bn : Int)) = (hh : Int) + (p.o.bn : Int) := i64_id (by omega) (by omega)
        repeat' (first | refine S1 ?_ | refine SD ?_ | refine SA (fun _ => ?_) | refine WL.g_split rfl rfl (fun hc => ?_) (fun hc => ?_) | refine WD.g_split rfl rfl (fun hc => ?_) (fun hc => ?_) | refine W.cond rfl (fun hc => ?_) (fun hc => ?_))
        · exfalso
          rw [hw] at hc
          have := of_decide_eq_true hc
          omega
        clear hc
        refine WD.e rfl (Ef.callR (c := r'.H) (by exact rfl) (.last (.there (.there .all))) (rheld_tr _ r' hr')) ?_
        rintro _ _ ⟨rfl, rfl⟩
        refine ⟨.inr (fun _ h => h), ?_⟩
        rw [hh2]
        repeat' (first | refine S1 ?_ | refine SD ?_ | refine SA (fun _ => ?_) | refine WL.g_split rfl rfl (fun hc => ?_) (fun hc => ?_) | refine WD.g_split rfl rfl (fun hc => ?_) (fun hc => ?_) | refine W.cond rfl (fun hc => ?_) (fun hc => ?_))
        · exfalso
          rw [g3] at hc
          simp at hc
        rw [i64_succ (by omega)]
        exact Fin.round ⟨i + 1, r'⟩ ⟨hi', hr', rfl, hrm', by dsimp only; omega⟩ envA (fun _ h => h.sublist (.cons _ (.refl _))) (by dsimp only; omega)
      · repeat' (first | refine S1 ?_ | refine SD ?_ | refine SA (fun _ => ?_) | (refine WD.g_split rfl rfl (fun hc => ?_) (fun hc => ?_); (exfalso; simp at hc; omega)) | refine WD.g_split rfl rfl (fun hc => ?_) (fun hc => ?_) | refine W.cond rfl (fun hc => ?_) (fun hc => ?_))
        · have h1 : is = true := by assumption
          have h0 : e = 0 := by simpa using hc
          have g := f0 hk0 h1 h0
          have hw : IntKind.i64.wrap ((hh : Int) + (p.o.bn : Int)) = (h2 : Int) := by rw [i64_id (by omega) (by omega), g, hpb]; omega
          refine WD.e rfl (Ef.callR (c := r'.H) (by exact rfl) (.last (.there (.there .all))) (rheld_tr _ r' hr')) ?_
          rintro _ _ ⟨rfl, rfl⟩
          refine ⟨.inr (fun _ h => h), ?_⟩
          rw [hh2]
          repeat' (first | refine S1 ?_ | refine SD ?_ | refine SA (fun _ => ?_) | refine WL.g_split rfl rfl (fun hc => ?_) (fun hc => ?_) | refine WD.g_split rfl rfl (fun hc => ?_) (fun hc => ?_) | refine W.cond rfl (fun hc => ?_) (fun hc => ?_))
          · exfalso
            rw [hw] at hc
            simp at hc
          rw [i64_succ (by omega)]
          exact Fin.round ⟨i + 1, r'⟩ ⟨hi', hr', rfl, hrm', by dsimp only; omega⟩ envA (fun _ h => h.sublist (.cons _ (.refl _))) (by dsimp only; omega)
        all_goals
          rw [i64_succ (by omega)]
          exact Fin.round ⟨i + 1, r'⟩ ⟨hi', hr', rfl, hrm', by dsimp only; omega⟩ envA (fun _ h => h.sublist (.cons _ (.refl _))) (by dsimp only; omega)
    · repeat' (first | refine S1 ?_ | refine SD ?_ | refine SA (fun _ => ?_) | (refine WD.g_split rfl rfl (fun hc => ?_) (fun hc => ?_); (exfalso; simp at hc; omega)))
      rw [i64_succ (by omega)]
      exact Fin.round ⟨i + 1, r'⟩ ⟨hi', hr', rfl, hrm', by dsimp only; omega⟩ envA (fun _ h => h.sublist (.cons _ (.refl _))) (by dsimp only; omega)
end Go.Proofs.Ythjglhdjlmjffaa
