/- The package's variables, as the statement has them: what the walks and the reckoned run ask of them. Conditions: none but what the statement gives. -/
import Derived.Test.YtkelhlffeilakaaGreatDoorRows
import Derived.Test.YtkelhlffeilakaaGreatDoorStT
import Derived.Test.YtkelhlffeilakaaGreatDoorBuI
import Derived.ProofKit
import Derived.LaidMore
import Derived.LaidLaws
import Derived.OpenShut
import Derived.Stop.Joined
namespace Go.Proofs.YtkelhlffeilakaaGreatDoor
open Go Go.Sl Go.Scr Go.Ev

theorem laid_at {P : Program} {w : World} : ∀ {laid : List (String × DataW Unit)} {ps : List MemPlace}, DataW.LaidVars P w laid ps → ∀ {k : Nat} {n : String} {d : DataW Unit}, laid[k]? = some (n, d) →
    ∃ g t cs fuel p, P.globalNamed n = some g ∧ (P.globals[g]?).map (·.type) = some t ∧ w.var? P n = some cs ∧ DataW.trod (fun _ => ()) P w 0 (fun _ => true) false fuel t cs.toList = some (d, p) ∧ ∀ m ∈ MemPlace.row ⟨g, 0, none⟩ cs.size, m ∈ ps
  | [], _, _, _, _, _, h => by cases h
  | (n0, d0) :: r, ps, hl, k, n, d, h => by
    obtain ⟨g, t, cs, fuel, p, q, h1, h2, h3, h4, h5, h6⟩ := hl
    cases k with
    | zero =>
      cases h
      exact ⟨g, t, cs, fuel, p, h1, h2, h3, h4, fun m hm => by rw [h6]; exact List.mem_append_left _ (List.mem_append_left _ hm)⟩
    | succ k =>
      obtain ⟨g', t', cs', fuel', p', e1, e2, e3, e4, e5⟩ := laid_at h5 (k := k) (by simpa using h)
      exact ⟨g', t', cs', fuel', p', e1, e2, e3, e4, fun m hm => by rw [h6]; exact List.mem_append_right _ (e5 m hm)⟩
theorem ints_of {H : Type} {enc : TypeId × Value → H} {P : Program} {t e n : Nat} {k : IntKind} {w : World} {base : Nat} {spare : Nat → Bool} {held : Bool} {fuel : Nat} {cs : List Value} {ns : List Nat} {q : List MemPlace} (ht : P.underlying t = some (.array n e)) (he : P.underlying e = some (.int k)) (hc : P.cellsOf e = 1) (hct : P.cellsOf t = n) (hn0 : ns.length = n)
    (h : DataW.trod enc P w base spare held fuel t cs = some (.agg (ns.map (fun i => .lit (.int k (Int.ofNat i)))), q)) : cs = ns.map (fun i => Value.int k (Int.ofNat i)) := by
  obtain ⟨xs, m, rfl, hx, hlen, hn, hel⟩ := DataW.trod_array ht h
  simp only [Prod.mk.injEq, DataW.agg.injEq] at hx
  refine List.ext_getElem? fun i => ?_
  by_cases hi : i < n
  · have h1 := hel i hi
    rw [hc, Nat.mul_one] at h1
    have hxi : i < xs.length := by omega
    rw [List.getElem?_eq_getElem hxi] at h1
    obtain ⟨z, e1, e2, _⟩ := DataW.trod_int he h1
    have h2 := congrArg (fun l => l[i]?) hx.1
    simp only [List.getElem?_map] at h2
    rw [List.getElem?_eq_getElem hxi, List.getElem?_eq_getElem (show i < ns.length by omega), e2] at h2
    simp at h2
    have h3 := congrArg (fun l => l[0]?) e1
    rw [List.getElem?_map, List.getElem?_eq_getElem (show i < ns.length by omega)]
    simp at h3
    rw [h3, ← h2]
    rfl
  · rw [List.getElem?_eq_none (by omega), List.getElem?_eq_none (by rw [List.length_map]; omega)]
def tableN : List Nat := [1116352408,1899447441,3049323471,3921009573,961987163,1508970993,2453635748,2870763221,3624381080,310598401,607225278,1426881987,1925078388,2162078206,2614888103,3248222580,3835390401,4022224774,264347078,604807628,770255983,1249150122,1555081692,1996064986,2554220882,2821834349,2952996808,3210313671,3336571891,3584528711,113926993,338241895,666307205,773529912,1294757372,1396182291,1695183700,1986661051,2177026350,2456956037,2730485921,2820302411,3259730800,3345764771,3516065817,3600352804,4094571909,275423344,430227734,506948616,659060556,883997877,958139571,1322822218,1537002063,1747873779,1955562222,2024104815,2227730452,2361852424,2428436474,2756734187,3204031479,3329325298]
def firstN : List Nat := [1779033703,3144134277,1013904242,2773480762,1359893119,2600822924,528734635,1541459225]
def powN : List Nat := [1,10,100,1000,10000,100000,1000000,10000000,100000000,1000000000,10000000000,100000000000,1000000000000,10000000000000,100000000000000,1000000000000000,10000000000000000,100000000000000000,1000000000000000000,10000000000000000000]
theorem lTab : Rows.scriptEndsRow.laid[2]? = some ("fairlead/sha.table", .agg (tableN.map (fun i => .lit (.int .u32 (Int.ofNat i))))) := by kernel_rfl
theorem lFst : Rows.scriptEndsRow.laid[3]? = some ("fairlead/sha.first", .agg (firstN.map (fun i => .lit (.int .u32 (Int.ofNat i))))) := by kernel_rfl
theorem lPow : Rows.scriptEndsRow.laid[4]? = some ("internal/strconv.uint64pow10", .agg (powN.map (fun i => .lit (.int .u64 (Int.ofNat i))))) := by kernel_rfl
theorem lRng : Rows.scriptEndsRow.laid[6]? = some ("strconv.ErrRange", .iface "*errors.errorString" (.ptr (.agg [.lit (.string [118, 97, 108, 117, 101, 32, 111, 117, 116, 32, 111, 102, 32, 114, 97, 110, 103, 101])]))) := by kernel_rfl
theorem lSyn : Rows.scriptEndsRow.laid[7]? = some ("strconv.ErrSyntax", .iface "*errors.errorString" (.ptr (.agg [.lit (.string [105, 110, 118, 97, 108, 105, 100, 32, 115, 121, 110, 116, 97, 120])]))) := by kernel_rfl
theorem nTab : Tryz.prog.globalNamed "fairlead/sha.table" = some 9 := by kernel_rfl
theorem nFst : Tryz.prog.globalNamed "fairlead/sha.first" = some 8 := by kernel_rfl
theorem nPow : Tryz.prog.globalNamed "internal/strconv.uint64pow10" = some 1 := by kernel_rfl
theorem nRng : Tryz.prog.globalNamed "strconv.ErrRange" = some 5 := by kernel_rfl
theorem nSyn : Tryz.prog.globalNamed "strconv.ErrSyntax" = some 4 := by kernel_rfl
theorem tyTab : (Tryz.prog.globals[9]?).map (·.type) = some 520 := by kernel_rfl
theorem tyFst : (Tryz.prog.globals[8]?).map (·.type) = some 515 := by kernel_rfl
theorem tyPow : (Tryz.prog.globals[1]?).map (·.type) = some 321 := by kernel_rfl
theorem tyRng : (Tryz.prog.globals[5]?).map (·.type) = some 54 := by kernel_rfl
theorem tySyn : (Tryz.prog.globals[4]?).map (·.type) = some 54 := by kernel_rfl
theorem gErr : ∃ ms, Tryz.prog.underlying 54 = some (.interface ms) := ⟨_, Tryz.underlying54⟩
theorem row_mem (g n : Nat) (h : 0 < n) : MemPlace.cell g 0 ∈ MemPlace.row ⟨g, 0, none⟩ n := by
  unfold MemPlace.row
  simp
  first | done | exact h
theorem var_at {P : Program} {w : World} {n : String} {g : Nat} {cs c : Array Value} {t : TypeId} {fr : Nat × Nat} (hg : P.globalNamed n = some g) (h : w.var? P n = some cs) (hh : w.heap[g]? = some (.cells c t fr)) : c = cs := by
  simpa [World.var?, hg, hh] using h
theorem int_of_shape {P : Program} {w : World} {g : Nat} {t : TypeId} {zero : Array Value} (h : w.ShapedOpen P) (hg : g < P.globals.size)
    (h0 : ((begin P (fun _ _ => 0) default).world.heap[g]?).bind Obj.row? = some (zero, t)) (hz : zero.size = 1)
    (hb : P.buildable t = true) (hc : P.cellTypes P.depth t = some [t]) (hu : P.underlying t = some (.int .i64)) : ∃ p, w.cell? ⟨g, 0, none⟩ = some (.int .i64 p) := by
  obtain ⟨cs, hh, hs, hr⟩ := h.1 g zero t hg h0
  obtain ⟨ts, hts, _, hall⟩ := hr hb
  rw [hc] at hts
  cases hts
  have h1 : 0 < cs.size := by omega
  obtain ⟨u, hu', hok⟩ := hall 0 cs[0] (by simp [h1])
  have : u = t := by simpa using hu'.symm
  subst this
  have hcell : w.cell? ⟨g, 0, none⟩ = some cs[0] := by simp [World.cell?, hh, h1]
  rw [hcell]
  unfold Cell.ok at hok
  rw [hu] at hok
  cases hv : cs[0] <;> rw [hv] at hok <;> simp at hok
  rename_i k p
  exact ⟨p, by rw [hok.1]⟩
/-- a variable's block, of numbers -/
theorem block_of {W : World} (h : laidMetH Tryz.prog Rows.scriptEndsRow.laid W) {k g t e m : Nat} {kd : IntKind} {n : String} {ns : List Nat} (hk : Rows.scriptEndsRow.laid[k]? = some (n, .agg (ns.map (fun i => .lit (.int kd (Int.ofNat i)))))) (hg : Tryz.prog.globalNamed n = some g) (ht : (Tryz.prog.globals[g]?).map (·.type) = some t)
    (hu : Tryz.prog.underlying t = some (.array m e)) (he : Tryz.prog.underlying e = some (.int kd)) (hc : Tryz.prog.cellsOf e = 1) (hct : Tryz.prog.cellsOf t = m) (hn : ns.length = m) (hp : 0 < m) :
    ∃ u, W.heap[g]? = some (.cells (ns.map (fun i => Value.int kd (Int.ofNat i))).toArray u (0, 0)) := by
  rw [MakeChecks.laidMetH_plain _ _ _ (by kernel_rfl)] at h
  obtain ⟨ps, hl, _, hm⟩ := h
  obtain ⟨g', t', cs, f, p, h1, h2, h3, h4, h5⟩ := laid_at hl hk
  obtain rfl := Option.some.inj (hg.symm.trans h1)
  obtain rfl := Option.some.inj (ht.symm.trans h2)
  have l1 := ints_of hu he hc hct hn h4
  have s1 : 0 < cs.size := by
    have := congrArg List.length l1
    simp at this
    omega
  obtain ⟨⟨c1, u1, hh⟩, _⟩ := hm g 0 (h5 _ (row_mem g _ s1))
  have e1 := var_at hg h3 hh
  subst e1
  exact ⟨u1, by rw [hh, ← l1]⟩
theorem err_of {W : World} (h : laidMetH Tryz.prog Rows.scriptEndsRow.laid W) {k g : Nat} {n : String} {d : DataW Unit} (hk : Rows.scriptEndsRow.laid[k]? = some (n, .iface "*errors.errorString" d)) (hg : Tryz.prog.globalNamed n = some g) (ht : (Tryz.prog.globals[g]?).map (·.type) = some 54) :
    ∃ u v T, W.heap[g]? = some (.cells #[.iface u v] T (0, 0)) := by
  rw [MakeChecks.laidMetH_plain _ _ _ (by kernel_rfl)] at h
  obtain ⟨ps, hl, _, hm⟩ := h
  obtain ⟨g', t', cs, f, p, h1, h2, h3, h4, h5⟩ := laid_at hl hk
  obtain rfl := Option.some.inj (hg.symm.trans h1)
  obtain rfl := Option.some.inj (ht.symm.trans h2)
  obtain ⟨ms, hms⟩ := gErr
  obtain ⟨_, u, v, hcs, _, _⟩ := iface_of_trod hms h4
  have s1 : 0 < cs.size := by
    have := congrArg List.length hcs
    simp at this
    omega
  obtain ⟨⟨c1, u1, hh⟩, _⟩ := hm g 0 (h5 _ (row_mem g _ s1))
  have e1 := var_at hg h3 hh
  have e2 : cs = #[.iface u v] := Array.ext' hcs
  exact ⟨u, v, u1, by rw [hh, e1, e2]⟩
theorem laid_ok {W : World} (h : laidMetH Tryz.prog Rows.scriptEndsRow.laid W) (hS : W.ShapedOpen Tryz.prog) : Gl (heapF W) ∧ GF Ks.glb (heapF W) := by
  obtain ⟨uT, hT⟩ := block_of h lTab nTab tyTab (m := 64) (e := 67) (by kernel_rfl) (by kernel_rfl) (by kernel_rfl) (by kernel_rfl) rfl (by decide)
  obtain ⟨uF, hF⟩ := block_of h lFst nFst tyFst (m := 8) (e := 67) (by kernel_rfl) (by kernel_rfl) (by kernel_rfl) (by kernel_rfl) rfl (by decide)
  obtain ⟨uP, hP⟩ := block_of h lPow nPow tyPow (m := 20) (e := 80) (by kernel_rfl) (by kernel_rfl) (by kernel_rfl) (by kernel_rfl) rfl (by decide)
  obtain ⟨uR, vR, tR, hR⟩ := err_of h lRng nRng tyRng
  obtain ⟨uS, vS, tS, hSy⟩ := err_of h lSyn nSyn tySyn
  obtain ⟨mx, hmx⟩ := int_of_shape (t := 3) (zero := #[.int .i64 0]) hS (g := 0) (Nat.le_of_ble_eq_true (by kernel_rfl)) (by kernel_rfl) rfl (by kernel_rfl) (by kernel_rfl) (by kernel_rfl)
  refine ⟨fun w hw => ?_, fun p hp => ?_⟩
  · have at_ : ∀ g o, W.heap[g]? = some o → w.heap[g]? = some o := fun g o ho => hw.fr g o ho
    refine ⟨⟨mx, ?_⟩, ?_, ⟨uS, vS, ?_⟩, ⟨uR, vR, ?_⟩⟩
    · rw [show Tryz.lb146_ren.g 1 = 0 by kernel_rfl]
      unfold World.cell? at hmx ⊢
      cases hb : W.heap[0]? with
      | none => simp [hb] at hmx
      | some o => rw [at_ _ _ hb]; simpa [hb] using hmx
    · show World.var? _ _ _ = _
      simp only [World.var?, nPow, Option.bind_some, at_ _ _ hP]
      rfl
    · rw [show Tryz.lb174_ren.g 15 = 4 by kernel_rfl]
      simp [World.cell?, at_ _ _ hSy]
    · rw [show Tryz.lb174_ren.g 16 = 5 by kernel_rfl]
      simp [World.cell?, at_ _ _ hR]
  · have hp : p ∈ [(8, AO.mk false (n3 firstN) 515), (9, AO.mk false (n3 tableN) 520)] := hp
    rcases List.mem_cons.1 hp with rfl | hp
    · exact ⟨_, _, uF, (0, 0), rfl, hF⟩
    · rw [List.mem_singleton] at hp
      subst hp
      exact ⟨_, _, uT, (0, 0), rfl, hT⟩
end Go.Proofs.YtkelhlffeilakaaGreatDoor
