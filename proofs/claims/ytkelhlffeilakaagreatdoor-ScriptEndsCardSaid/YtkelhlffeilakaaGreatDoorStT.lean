/- What the net answers to the events of the script's works, as it was reckoned: the machine over which Run is walked there. Conditions: the globals as the statement lays them. -/
import Derived.Test.YtkelhlffeilakaaGreatDoorStQ
import Derived.Test.YtkelhlffeilakaaGreatDoorBuH
import Derived.Test.YtkelhlffeilakaaGreatDoorKsE
namespace Go.Proofs.YtkelhlffeilakaaGreatDoor
open Go Go.Sl Go.Scr Go.Ev

def evA (e : Evt) (sl : Value) : List Value := [.int .u8 e.kind, .int .u8 e.fin, .bool e.act, .bool e.ord, .int .u16 e.str, .int .i64 e.path, .int .i64 e.n, .int .i64 e.life, sl]
def tlA (t : Tld) (sl : Value) : List Value := [.int .i64 t.err, .int .u8 t.s0, .int .u8 t.s1, .int .i64 t.now, .int .u16 t.stream, .bool t.ord, sl, .bool t.some]
theorem evA_vr {ρ : Ro} {x : Evx} {sl : Value} (h : VR ρ sl (.slice x.ba x.bn x.bc)) : VRs ρ (evA x.e sl) x.cells :=
  .cons (.int _ _) (.cons (.int _ _) (.cons (.bool _) (.cons (.bool _) (.cons (.int _ _) (.cons (.int _ _) (.cons (.int _ _) (.cons (.int _ _) (.cons h .nil))))))))
theorem tlA_inv {ρ : Ro} {t : Tld} {sl : Value} {l : List Value} (h : VRs ρ (tlA t sl) l) : ∃ u, l = tlA t u ∧ VR ρ sl u := by
  cases h with | cons h0 h =>
  cases h with | cons h1 h =>
  cases h with | cons h2 h =>
  cases h with | cons h3 h =>
  cases h with | cons h4 h =>
  cases h with | cons h5 h =>
  cases h with | cons h6 h =>
  cases h with | cons h7 h =>
  cases h
  cases VR.int_inv h0
  cases VR.int_inv h1
  cases VR.int_inv h2
  cases VR.int_inv h3
  cases VR.int_inv h4
  cases VR.bool_inv h5
  cases VR.bool_inv h7
  exact ⟨_, rfl, h6⟩
/-- an answer's numbers are within their kinds -/
def Tld.kB (t : Tld) : Bool := (i64B t.err && i64B t.now) && ((decide (0 ≤ t.s0) && decide (t.s0 < 256)) && ((decide (0 ≤ t.s1) && decide (t.s1 < 256)) && (decide (0 ≤ t.stream) && decide (t.stream < 65536))))
/-- an event as the evaluator is handed it: from what it stood before -/
def inB (e : Evt) (net : Nat) (t : Ent) (a : AS) : Prop :=
  (e.bytes = [] ∧ t.si = a ∧ t.vs = [vp net 0, .agg ⟨evA e s0⟩]) ∨
  (e.bytes ≠ [] ∧ a.nx < 1000000 ∧ a.gn ≤ a.nx ∧ (∀ v ∈ (e.bytes.map B), flatB v = true) ∧ subT t.si.heap (a.heap.put a.nx (.mk false (e.bytes.map B) 0)) = true ∧ t.si.nx = a.nx + 1 ∧ t.si.gn = a.gn ∧ t.vs = [vp net 0, .agg ⟨evA e (vs a.nx 0 e.bytes.length 0)⟩])
/-- an answer as the evaluator has it -/
def outB (y : Tld) (t : Ent) : Prop :=
  (y.bytes = [] ∧ t.v = .agg ⟨tlA y s0⟩) ∨ (∃ β E, y.bytes ≠ [] ∧ t.v = .agg ⟨tlA y (vs β 0 y.bytes.length 0)⟩ ∧ t.so.heap.get β = some (.cells true (y.bytes.map B) E))
theorem mapB_vrs {ρ : Ro} : ∀ {l : Str} {m : List Value}, VRs ρ (l.map B) m → m = l.map B
  | [], m, h => by cases h; rfl
  | c :: l, m, h => by
    cases h with | cons h1 h2 =>
    cases VR.int_inv h1
    rw [mapB_vrs h2]
    rfl
theorem glb_u32 : ∀ p ∈ Ks.glb, ∀ l E, p.2 = AO.mk false l E → ∀ v ∈ l, ∃ n, v = .int .u32 n := by
  intro p hp l E he v hv
  have h : ∀ ns : List Nat, v ∈ n3 ns → ∃ n, v = .int .u32 n := fun ns h => by
    obtain ⟨n, _, rfl⟩ := List.mem_map.1 h
    exact ⟨_, rfl⟩
  simp only [Ks.glb, List.mem_cons, List.not_mem_nil, or_false] at hp
  rcases hp with rfl | rfl
  · cases he; exact h _ hv
  · cases he; exact h _ hv
theorem do_tr {F : Nat → Option Obj} (hGF : GF Ks.glb F) {t : Ent} (he : EntOk Ks.prg t) (hf : t.f = 17) {a : AS} {net : Nat} (x : Evx) (hx : x.Is F) (hz : x.e.bytes = [] → x.ba = none ∧ x.bc = 0) (hin : inB x.e net t a) (y : Tld) (hout : outB y t) (hk : Tld.kB y = true)
    (hgn : t.so.gn = 10) (hro : roB Ks.glb t.so = true) {ρ : Ro} {H : HL} (hfr : Fr Ks.prg Ks.glb 10 a ρ H) {pl : Pl} (hpl : ρ net = some pl) :
    Tr Tryz.prog 17 [.pointer (some ⟨pl.g, pl.sh + 0, none⟩), .agg x.cells.toArray].toArray F H (fun v H' => ∃ ρ' y', v = .agg y'.cells.toArray ∧ y'.t = y ∧ Fr Ks.prg Ks.glb 10 t.so ρ' H' ∧ ρ' net = some pl ∧ ∀ F' G, (∀ w, In F' [] w → In G H' w) → Tlx.Is F' y') := by
  have hGO : gOk Ks.glb 10 = true := by kernel_rfl
  intro w hw
  have hre := Fr.re (x := ⟨Ks.prg, 0, w, F, none, []⟩) hGO hfr hGF hw
  obtain ⟨ρ1, hle1, hre1, hvs1⟩ : ∃ ρ1, Le ρ ρ1 ∧ Re ⟨Ks.prg, 0, w, F, none, []⟩ ρ1 { t.si with env := .e } [] H ∧ VRs ρ1 t.vs [.pointer (some ⟨pl.g, pl.sh + 0, none⟩), .agg ⟨x.cells⟩] := by
    rcases hin with ⟨hb, hsi, hvs⟩ | ⟨hb, hnx, hgx, hfl, hsub, hn1, hn2, hvs⟩
    · refine ⟨ρ, Le.refl ρ, by rw [hsi]; exact hre, ?_⟩
      have hl := hx.bytes
      rw [hb] at hl
      obtain ⟨h0, h2⟩ := hz hb
      have h1 : x.bn = 0 := by have := hl.len; simp at this; omega
      rw [hvs]
      refine .cons (.ptr hpl) (.cons (.agg (evA_vr ?_)) .nil)
      rw [h0, h1, h2]
      exact .sl0
    · have hl := hx.bytes
      have hbl : 0 < x.e.bytes.length := List.length_pos_iff.2 hb
      have h1 : x.bn = x.e.bytes.length := by have := hl.len; simp at this; omega
      obtain ⟨b, o, hba, hcan⟩ := hl.can (by omega)
      obtain ⟨c, cs, hcc⟩ : ∃ c cs, x.e.bytes = c :: cs := by
        cases h : x.e.bytes with
        | nil => exact absurd h hb
        | cons c cs => exact ⟨c, cs, rfl⟩
      have hw0 : In F [] w := hw.sublist (List.nil_sublist _)
      have hcan' := hcan
      rw [hcc] at hcan'
      obtain ⟨ob, hob⟩ := Sl.Can.block hcan' hw0
      have hwb := hw0.fr _ _ hob
      have hcell : ∀ j v, (x.e.bytes.map B)[j]? = some v → w.cell? ⟨b, o + j, none⟩ = some v := hcan w hw0
      obtain ⟨cells, T, fr, hobc⟩ : ∃ cells T fr, ob = Obj.cells cells T fr := by
        have h3 := hcell 0 (B c) (by rw [hcc]; rfl)
        unfold World.cell? at h3
        cases ob with
        | cells cs T fr => exact ⟨_, _, _, rfl⟩
        | _ => simp [hwb] at h3
      subst hobc
      have hget : ∀ j v, (x.e.bytes.map B)[j]? = some v → cells.toList[o + j]? = some v := fun j v hv => by
        have h3 := hcell j v hv
        rw [cell_of_row w b (o + j) _ _ _ hwb] at h3
        simpa using h3
      have hlen : o + x.e.bytes.length ≤ cells.toList.length := by
        have h3 := hget (x.e.bytes.length - 1) (B (x.e.bytes[x.e.bytes.length - 1]'(by omega))) (by rw [List.getElem?_map, List.getElem?_eq_getElem (by omega)]; rfl)
        have := (List.getElem?_eq_some_iff.1 h3).1
        omega
      have hcut : (cells.toList.drop o).take (x.e.bytes.map B).length = x.e.bytes.map B := by
        refine List.ext_getElem? fun j => ?_
        by_cases hj : j < (x.e.bytes.map B).length
        · rw [List.getElem?_take_of_lt hj, List.getElem?_drop]
          have h4 : (x.e.bytes.map B)[j]? = some ((x.e.bytes.map B)[j]'hj) := List.getElem?_eq_getElem hj
          rw [h4]
          exact hget j _ h4
        · rw [List.getElem?_eq_none (by rw [List.length_take]; omega), List.getElem?_eq_none (by omega)]
      have hne : ∀ β ob' pl', a.heap.get β = some ob' → ρ β = some pl' → pl'.g ≠ b := by
        intro β ob' pl' h5 h6 h7
        rcases hfr.heap β ob' h5 with ⟨pl2, ob2, e1, e2, _, _⟩ | hm
        · rw [h6] at e1
          cases e1
          have := hw.dj _ e2
          dsimp only at this
          rw [h7, hob] at this
          cases this
        · obtain ⟨l, E, T', fr', e1, e2⟩ := hGF _ hm
          dsimp only at e1 e2
          have hg8 : β < 10 := by
            have : ∀ p ∈ Ks.glb, p.1 < 10 := by
              intro p hp
              simp only [Ks.glb, List.mem_cons, List.not_mem_nil, or_false] at hp
              rcases hp with rfl | rfl <;> decide
            exact this _ hm
          obtain ⟨pl3, e3, e4, e5⟩ := hfr.gl β hg8
          rw [h6] at e3
          cases e3
          rw [← h7, e4, e2] at hob
          cases hob
          have h8 := hget 0 (B c) (by rw [hcc]; rfl)
          have h9 := List.mem_of_getElem? h8
          obtain ⟨n, h10⟩ := glb_u32 _ hm l E e1 _ (by simpa using h9)
          cases h10
      obtain ⟨ρ1, hle, hn0, hre1⟩ := Re.more (x := ⟨Ks.prg, 0, w, F, none, []⟩) (l := x.e.bytes.map B) (E := 0) (b := b) (o := o) (c := x.bc) (cs := cells.toList) (t := T) (fr := fr) hre hnx (by simpa using hob) (List.all_eq_true.2 hfl) hcut (by omega) hne hgx
      refine ⟨ρ1, hle, hre1.less' (t := t.si) (s := { a with env := .e, heap := a.heap.put a.nx (.mk false (x.e.bytes.map B) 0), nx := a.nx + 1 }) (subT_ok hsub) hn1 hn2, ?_⟩
      rw [hvs]
      refine .cons (.ptr (hle _ _ hpl)) (.cons (.agg (evA_vr ?_)) .nil)
      rw [hba, h1]
      have := VR.sl (ρ := ρ1) (β := a.nx) (o := 0) (n := x.e.bytes.length) (c := x.bc) hn0 (by simp) (by have := hl.cap; omega)
      simpa [vs] using this
  have hT := Ent.tr (x := ⟨Ks.prg, 0, w, F, none, []⟩) he rfl hre1 hvs1
  rw [hf] at hT
  refine (hT w hw).mono ?_
  rintro e w' ⟨v, H', he', ⟨ρ', hle', hv, hre'⟩, hi, hs⟩
  have hfr' := Fr.of (x := ⟨Ks.prg, 0, w, F, none, []⟩) hGO hgn hre' hro
  simp only [Tld.kB, Bool.and_eq_true, decide_eq_true_eq] at hk
  rcases hout with ⟨hb, ht⟩ | ⟨β, E, hb, ht, hg⟩
  · rw [ht] at hv
    obtain ⟨l, rfl, hl⟩ := VR.agg_inv hv
    obtain ⟨u, rfl, hu⟩ := tlA_inv hl
    obtain ⟨rfl, _⟩ := VR.sl0_inv hu
    exact ⟨_, _, he', ⟨ρ', ⟨y, none, 0, 0⟩, rfl, rfl, hfr', hle' _ _ (hle1 _ _ hpl), fun F' G _ => ⟨by rw [hb]; exact Lst.nil, i64B_ok hk.1.1, hk.2.1, hk.2.2.1, i64B_ok hk.1.2, hk.2.2.2⟩⟩, hi, hs⟩
  · rw [ht] at hv
    obtain ⟨l, rfl, hl⟩ := VR.agg_inv hv
    obtain ⟨u, rfl, hu⟩ := tlA_inv hl
    have hbl : 0 < y.bytes.length := List.length_pos_iff.2 hb
    obtain ⟨pl2, hp2, hor⟩ := VR.slG_inv hu
    obtain ⟨c', rfl, hc'⟩ := hor.resolve_right (fun ⟨h0, _⟩ => by omega)
    rcases hfr'.heap β _ hg with ⟨pl3, ob, e1, e2, e3, _⟩ | hm
    · rw [hp2] at e1
      cases e1
      obtain ⟨prc, l', post, rfl, hsh, hvs', _⟩ := e3
      have hl' := mapB_vrs hvs'
      subst hl'
      refine ⟨_, _, he', ⟨ρ', ⟨y, some ⟨pl2.g, pl2.sh + 0, none⟩, y.bytes.length, c'⟩, rfl, rfl, hfr', hle' _ _ (hle1 _ _ hpl), fun F' G hFG => ⟨⟨by simp, hc', fun _ => ⟨pl2.g, pl2.sh + 0, rfl, ?_⟩, fun h => by cases h⟩, i64B_ok hk.1.1, hk.2.1, hk.2.2.1, i64B_ok hk.1.2, hk.2.2.2⟩⟩, hi, hs⟩
      intro w2 hw2 j v hv2
      rw [cell_of_row w2 pl2.g _ _ _ _ ((hFG w2 hw2).own _ e2)]
      have hj : j < (y.bytes.map B).length := (List.getElem?_eq_some_iff.1 hv2).1
      simp only [List.getElem?_toArray]
      rw [List.append_assoc, List.getElem?_append_right (by omega), show pl2.sh + 0 + j - prc.length = j by omega, List.getElem?_append_left hj]
      exact hv2
    · exfalso
      have : ∀ p ∈ Ks.glb, p.2.rw = false := by
        intro p hp
        simp only [Ks.glb, List.mem_cons, List.not_mem_nil, or_false] at hp
        rcases hp with rfl | rfl <;> rfl
      have := this _ hm
      cases this

/-! ### the machine -/
def cfgW : List Int := [1, 128, 1, 1000, 1000, 1000, 10, 5, 50, 0, 100, 50, 2, 4]
def evW : List Evt := [⟨1, 1, false, false, 0, 0, 0, 0, []⟩, ⟨1, 0, true, false, 0, 0, 5, 0, []⟩, ⟨6, 0, false, false, 0, 0, 4, 0, []⟩, ⟨2, 0, false, false, 0, 0, 0, 0, [7]⟩, ⟨6, 0, false, false, 0, 0, 1, 0, []⟩, ⟨3, 1, false, false, 0, 0, 0, 0, []⟩]
def toldW : List Tld := [⟨0, 0, 1, 0, 0, false, [], false⟩, ⟨0, 2, 1, 0, 0, false, [], false⟩, ⟨0, 4, 4, 4, 0, false, [], false⟩, ⟨0, 4, 4, 4, 0, false, [], false⟩, ⟨0, 4, 4, 5, 0, false, [], false⟩, ⟨0, 4, 4, 5, 0, false, [7], true⟩]
noncomputable def stN : Nat → AS
  | 0 => Ks.st1
  | 1 => Ks.st2
  | 2 => Ks.st3
  | 3 => Ks.st9
  | 4 => Ks.st11
  | 5 => Ks.st14
  | _ => Ks.st15
structure WkS where
  i : Nat
  ρ : Ro
  H : HL
  pl : Pl
def WkGood (s : WkS) (l : List Evt) : Prop := l = evW.drop s.i ∧ Fr Ks.prg Ks.glb 10 (stN s.i) s.ρ s.H ∧ s.ρ 11 = some s.pl
theorem ro0 : roB Ks.glb Ks.st1 = true := by kernel_rfl
theorem ro1 : roB Ks.glb Ks.st2 = true := by kernel_rfl
theorem ro2 : roB Ks.glb Ks.st3 = true := by kernel_rfl
theorem ro3 : roB Ks.glb Ks.st9 = true := by kernel_rfl
theorem ro4 : roB Ks.glb Ks.st11 = true := by kernel_rfl
theorem ro5 : roB Ks.glb Ks.st14 = true := by kernel_rfl
theorem ro6 : roB Ks.glb Ks.st15 = true := by kernel_rfl
theorem sub8 : subT Ks.e8.si.heap (Ks.st9.heap.put Ks.st9.nx (.mk false (([7] : Str).map B) 0)) = true := by kernel_rfl
theorem get11 : Ks.st15.heap.get 1998 = some (.cells true (([7] : Str).map B) 5) := by kernel_rfl
theorem done_step {F : Nat → Option Obj} (hGF : GF Ks.glb F) {t : Ent} (he : EntOk Ks.prg t) (hf : t.f = 17) {s : WkS} (x : Evx) (hx : x.Is F) (hz : x.e.bytes = [] → x.ba = none ∧ x.bc = 0) (hin : inB x.e 11 t (stN s.i)) (y : Tld) (hout : outB y t) (hk : Tld.kB y = true)
    (hgn : t.so.gn = 10) (hro : roB Ks.glb t.so = true) (hso : t.so = stN (s.i + 1)) {l : List Evt} (hl : l = evW.drop (s.i + 1)) (hy : toldW[s.i]? = some y) (hln : y.lineF.length ≤ 16000008) (hyk : y.okB = true) (hbl : y.bytes.length ≤ 1000000)
    (hfr : Fr Ks.prg Ks.glb 10 (stN s.i) s.ρ s.H) (hpl : s.ρ 11 = some s.pl) :
    Tr Tryz.prog 17 [.pointer (some ⟨s.pl.g, s.pl.sh + 0, none⟩), .agg x.cells.toArray].toArray F s.H (fun v H' => ∃ (s' : WkS) (y : Tlx) (hb : HL), v = .agg y.cells.toArray ∧ H' = s'.H ++ hb ∧ (⟨s'.pl.g, s'.pl.sh + 0, none⟩ : Addr) = ⟨s.pl.g, s.pl.sh + 0, none⟩ ∧ (s'.i = s.i + 1 ∧ toldW[s.i]? = some y.t) ∧ WkGood s' l ∧ y.t.bytes.length ≤ 1000000 ∧ y.t.line.length ≤ 16000008 ∧ ∀ F' G, (∀ w, In F' [] w → In G (s'.H ++ hb) w) → y.Is F') := by
  refine (do_tr hGF he hf x hx hz hin y hout hk hgn hro hfr hpl).mono ?_
  rintro v H' ⟨ρ', y', rfl, rfl, h1, h2, h3⟩
  refine ⟨⟨s.i + 1, ρ', H', s.pl⟩, y', [], rfl, (List.append_nil _).symm, rfl, ⟨rfl, hy⟩, ⟨hl, by rw [← hso]; exact h1, h2⟩, hbl, by rw [← Tld.lineF_eq hyk]; exact hln, fun F' G hFG => h3 F' G (fun w hw => ?_)⟩
  have := hFG w hw
  rw [List.append_nil] at this
  exact this
noncomputable def wkM (F0 : Nat → Option Obj) (hGF : GF Ks.glb F0) : Mach F0 where
  σ := WkS
  p := fun s => ⟨s.pl.g, s.pl.sh + 0, none⟩
  H := fun s => s.H
  Good := WkGood
  Pre := fun c l => c = cfgW ∧ l = evW
  Start := fun _ s => s.i = 0
  Err := fun _ _ => False
  Step := fun s _ t s' => s'.i = s.i + 1 ∧ toldW[s.i]? = some t
  new := by
    intro F c l hp hpre _ _
    obtain ⟨rfl, rfl⟩ := hpre
    intro w hw
    have hre := start_re (x := ⟨Ks.prg, 0, w, F, none, []⟩) (G := Ks.glb) (gn := 10) (by kernel_rfl) (hGF.mono hp)
    have hT := Ent.tr (x := ⟨Ks.prg, 0, w, F, none, []⟩) (e := Ks.e0) Ks.e0_ok rfl (show Re _ _ { Ks.e0.si with env := .e } [] [] from hre) (us := [.agg ⟨ccells cfgW⟩]) (.cons (.agg (flat_vrs (by decide))) .nil)
    refine (hT w hw).mono ?_
    rintro e w' ⟨v, H', he', ⟨ρ', hle', hv, hre'⟩, hi, hs⟩
    have hv : VR ρ' (.tuple ⟨[vp 11 0, .int .i64 0]⟩) v := hv
    obtain ⟨l', rfl, hl⟩ := VR.tup_inv hv
    cases hl with | cons h0 hl =>
    cases hl with | cons h1 hl =>
    cases hl
    obtain ⟨pl, hpl, rfl⟩ := VR.ptrS_inv h0
    cases VR.int_inv h1
    exact ⟨_, _, he', .inl ⟨⟨0, ρ', H', pl⟩, rfl, rfl, rfl, rfl, Fr.of (x := ⟨Ks.prg, 0, w, F, none, []⟩) (by kernel_rfl) rfl hre' ro0, hpl⟩, hi, hs⟩
  step := by
    intro F s x l hp hg hx hz
    obtain ⟨hl, hfr, hpl⟩ := hg
    have hGF' := hGF.mono hp
    obtain ⟨i, ρ, H, pl⟩ := s
    dsimp only at hl hfr hpl
    match i, hl, hfr with
    | 0, hl, hfr =>
      obtain ⟨h1, h2⟩ := List.cons.inj (show x.e :: l = ⟨1, 1, false, false, 0, 0, 0, 0, []⟩ :: evW.drop 1 from hl)
      exact done_step (s := ⟨0, ρ, H, pl⟩) hGF' Ks.e1_ok rfl x hx hz (.inl ⟨by rw [h1], rfl, by rw [h1]; rfl⟩) ⟨0, 0, 1, 0, 0, false, [], false⟩ (.inl ⟨rfl, rfl⟩) rfl rfl ro1 rfl h2 rfl (Nat.le_of_ble_eq_true (by kernel_rfl)) rfl (Nat.le_of_ble_eq_true (by kernel_rfl)) hfr hpl
    | 1, hl, hfr =>
      obtain ⟨h1, h2⟩ := List.cons.inj (show x.e :: l = ⟨1, 0, true, false, 0, 0, 5, 0, []⟩ :: evW.drop 2 from hl)
      exact done_step (s := ⟨1, ρ, H, pl⟩) hGF' Ks.e2_ok rfl x hx hz (.inl ⟨by rw [h1], rfl, by rw [h1]; rfl⟩) ⟨0, 2, 1, 0, 0, false, [], false⟩ (.inl ⟨rfl, rfl⟩) rfl rfl ro2 rfl h2 rfl (Nat.le_of_ble_eq_true (by kernel_rfl)) rfl (Nat.le_of_ble_eq_true (by kernel_rfl)) hfr hpl
    | 2, hl, hfr =>
      obtain ⟨h1, h2⟩ := List.cons.inj (show x.e :: l = ⟨6, 0, false, false, 0, 0, 4, 0, []⟩ :: evW.drop 3 from hl)
      exact done_step (s := ⟨2, ρ, H, pl⟩) hGF' Ks.e7_ok rfl x hx hz (.inl ⟨by rw [h1], rfl, by rw [h1]; rfl⟩) ⟨0, 4, 4, 4, 0, false, [], false⟩ (.inl ⟨rfl, rfl⟩) rfl rfl ro3 rfl h2 rfl (Nat.le_of_ble_eq_true (by kernel_rfl)) rfl (Nat.le_of_ble_eq_true (by kernel_rfl)) hfr hpl
    | 3, hl, hfr =>
      obtain ⟨h1, h2⟩ := List.cons.inj (show x.e :: l = ⟨2, 0, false, false, 0, 0, 0, 0, [7]⟩ :: evW.drop 4 from hl)
      exact done_step (s := ⟨3, ρ, H, pl⟩) hGF' Ks.e8_ok rfl x hx hz (.inr ⟨by rw [h1]; simp, Nat.le_of_ble_eq_true (by kernel_rfl), Nat.le_of_ble_eq_true (by kernel_rfl), by rw [h1]; exact List.all_eq_true.1 (by kernel_rfl), by rw [h1]; exact sub8, rfl, rfl, by rw [h1]; rfl⟩) ⟨0, 4, 4, 4, 0, false, [], false⟩ (.inl ⟨rfl, rfl⟩) rfl rfl ro4 rfl h2 rfl (Nat.le_of_ble_eq_true (by kernel_rfl)) rfl (Nat.le_of_ble_eq_true (by kernel_rfl)) hfr hpl
    | 4, hl, hfr =>
      obtain ⟨h1, h2⟩ := List.cons.inj (show x.e :: l = ⟨6, 0, false, false, 0, 0, 1, 0, []⟩ :: evW.drop 5 from hl)
      exact done_step (s := ⟨4, ρ, H, pl⟩) hGF' Ks.e10_ok rfl x hx hz (.inl ⟨by rw [h1], rfl, by rw [h1]; rfl⟩) ⟨0, 4, 4, 5, 0, false, [], false⟩ (.inl ⟨rfl, rfl⟩) rfl rfl ro5 rfl h2 rfl (Nat.le_of_ble_eq_true (by kernel_rfl)) rfl (Nat.le_of_ble_eq_true (by kernel_rfl)) hfr hpl
    | 5, hl, hfr =>
      obtain ⟨h1, h2⟩ := List.cons.inj (show x.e :: l = ⟨3, 1, false, false, 0, 0, 0, 0, []⟩ :: evW.drop 6 from hl)
      exact done_step (s := ⟨5, ρ, H, pl⟩) hGF' Ks.e11_ok rfl x hx hz (.inl ⟨by rw [h1], rfl, by rw [h1]; rfl⟩) ⟨0, 4, 4, 5, 0, false, [7], true⟩ (.inr ⟨1998, 5, by simp, rfl, get11⟩) rfl rfl ro6 rfl h2 rfl (Nat.le_of_ble_eq_true (by kernel_rfl)) rfl (Nat.le_of_ble_eq_true (by kernel_rfl)) hfr hpl
    | k + 6, hl, hfr => exact absurd (congrArg List.length hl) (by simp [evW])
theorem runs_told {F0 : Nat → Option Obj} {hGF : GF Ks.glb F0} {s s' : (wkM F0 hGF).σ} {l : List Evt} {ts : List Tld} (h : Runs (wkM F0 hGF) s l ts s') (h0 : WkS.i s = 0) : WkS.i s' = ts.length ∧ ∀ k, k < ts.length → toldW[k]? = ts[k]? := by
  induction h with
  | nil => exact ⟨h0, fun k hk => absurd hk (Nat.not_lt_zero _)⟩
  | @snoc s1 s2 l ts e t h k ih =>
    obtain ⟨h1, h2⟩ := ih
    obtain ⟨h3, h4⟩ : WkS.i s2 = WkS.i s1 + 1 ∧ toldW[WkS.i s1]? = some t := k
    refine ⟨by rw [h3, h1]; simp, fun j hj => ?_⟩
    by_cases hlt : j < ts.length
    · rw [List.getElem?_append_left hlt]
      exact h2 j hlt
    · have : j = ts.length := by simp at hj; omega
      subst this
      rw [h1] at h4
      rw [h4]
      simp
end Go.Proofs.YtkelhlffeilakaaGreatDoor
