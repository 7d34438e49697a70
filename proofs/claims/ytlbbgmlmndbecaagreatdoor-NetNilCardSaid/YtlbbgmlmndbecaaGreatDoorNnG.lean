/- The package's variables, as the statement has them, and the law's run from them. Conditions: none but what the statement gives. -/
import Derived.Test.YtlbbgmlmndbecaaGreatDoorRows
import Derived.Test.YtlbbgmlmndbecaaGreatDoorNnX
import Derived.Test.YtlbbgmlmndbecaaGreatDoorKnE
import Derived.Test.YtlbbgmlmndbecaaGreatDoorBuH
import Derived.Test.YtlbbgmlmndbecaaGreatDoorBuI
import Derived.ProofKit
import Derived.LaidMore
import Derived.OpenShut
import Derived.Stop.Joined
namespace Go.Proofs.YtlbbgmlmndbecaaGreatDoor
open Go Go.Sl

def tableN : List Nat := [1116352408,1899447441,3049323471,3921009573,961987163,1508970993,2453635748,2870763221,3624381080,310598401,607225278,1426881987,1925078388,2162078206,2614888103,3248222580,3835390401,4022224774,264347078,604807628,770255983,1249150122,1555081692,1996064986,2554220882,2821834349,2952996808,3210313671,3336571891,3584528711,113926993,338241895,666307205,773529912,1294757372,1396182291,1695183700,1986661051,2177026350,2456956037,2730485921,2820302411,3259730800,3345764771,3516065817,3600352804,4094571909,275423344,430227734,506948616,659060556,883997877,958139571,1322822218,1537002063,1747873779,1955562222,2024104815,2227730452,2361852424,2428436474,2756734187,3204031479,3329325298]
def firstN : List Nat := [1779033703,3144134277,1013904242,2773480762,1359893119,2600822924,528734635,1541459225]
theorem ints_of {H : Type} {enc : TypeId × Value → H} {P : Program} {t e n : Nat} {k : IntKind} {w : World} {base : Nat} {spare : Nat → Bool} {held : Bool} {fuel : Nat} {cs : List Value} {ns : List Nat} {q : List MemPlace} (ht : P.underlying t = some (.array n e)) (he : P.underlying e = some (.int k)) (hc : P.cellsOf e = 1) (hct : P.cellsOf t = n) (hn0 : ns.length = n)
    (h : DataW.trod enc P w base spare held fuel t cs = some (.agg (ns.map (fun i => .lit (.int k (Int.ofNat i)))), q)) : cs = ns.map (fun i => Value.int k (Int.ofNat i)) := by
  obtain ⟨xs, m, rfl, hx, hlen, hn, hel⟩ := DataW.trod_array ht h
  simp only [Prod.mk.injEq, DataW.agg.injEq] at hx
  refine List.ext_getElem? fun i => ?_
  by_cases hi : i < n
  · have h1 := hel i hi
    rw [hc, Nat.mul_one] at h1
    have hxi : i < xs.length := by omega
    rw [List.getElem?_eq_getElem hxi] at h1
    obtain ⟨z, e1, e2, _⟩ := DataW.trod_int he h1
    have h2 := congrArg (fun l => l[i]?) hx.1
    simp only [List.getElem?_map] at h2
    rw [List.getElem?_eq_getElem hxi, List.getElem?_eq_getElem (show i < ns.length by omega), e2] at h2
    simp at h2
    have h3 := congrArg (fun l => l[0]?) e1
    rw [List.getElem?_map, List.getElem?_eq_getElem (show i < ns.length by omega)]
    simp at h3
    rw [h3, ← h2]
    rfl
  · rw [List.getElem?_eq_none (by omega), List.getElem?_eq_none (by rw [List.length_map]; omega)]
theorem tTable : (Tryz.prog.globals[1]?).map (·.type) = some 441 := by kernel_rfl
theorem tFirst : (Tryz.prog.globals[0]?).map (·.type) = some 435 := by kernel_rfl
theorem gTable : Tryz.prog.globalNamed "fairlead/sha.table" = some 1 := by kernel_rfl
theorem gFirst : Tryz.prog.globalNamed "fairlead/sha.first" = some 0 := by kernel_rfl
theorem dTable : (Rows.laid_fairlead_sha_table : DataW Unit) = .agg (tableN.map (fun i => .lit (.int .u32 (Int.ofNat i)))) := by kernel_rfl
theorem dFirst : (Rows.laid_fairlead_sha_first : DataW Unit) = .agg (firstN.map (fun i => .lit (.int .u32 (Int.ofNat i)))) := by kernel_rfl
theorem row_mem (g n : Nat) (h : 0 < n) : MemPlace.cell g 0 ∈ MemPlace.row ⟨g, 0, none⟩ n := by
  unfold MemPlace.row
  simp
  first | done | exact h
theorem var_at {P : Program} {w : World} {n : String} {g : Nat} {cs c : Array Value} {t : TypeId} {fr : Nat × Nat} (hg : P.globalNamed n = some g) (h : w.var? P n = some cs) (hh : w.heap[g]? = some (.cells c t fr)) : c = cs := by
  simpa [World.var?, hg, hh] using h
theorem of_laid {W : World} (h : laidMetH Tryz.prog Rows.netNilRow.laid W) : ∃ t0 t1, W.heap[0]? = some (.cells (firstN.map (fun i => Value.int .u32 (Int.ofNat i))).toArray t0 (0, 0)) ∧ W.heap[1]? = some (.cells (tableN.map (fun i => Value.int .u32 (Int.ofNat i))).toArray t1 (0, 0)) := by
  rw [MakeChecks.laidMetH_plain _ _ _ (by kernel_rfl)] at h
  obtain ⟨ps, ⟨g1, t1, cs1, f1, p1, q1, hg1, ht1, hv1, hd1, ⟨g0, t0, cs0, f0, p0, q0, hg0, ht0, hv0, hd0, _, hps0⟩, hps⟩, _, hm⟩ := h
  obtain rfl := Option.some.inj (gTable.symm.trans hg1)
  obtain rfl := Option.some.inj (gFirst.symm.trans hg0)
  obtain rfl := Option.some.inj (tTable.symm.trans ht1)
  obtain rfl := Option.some.inj (tFirst.symm.trans ht0)
  rw [dTable] at hd1
  rw [dFirst] at hd0
  have l1 := ints_of (n := 64) (e := 54) (by kernel_rfl) (by kernel_rfl) (by kernel_rfl) (by kernel_rfl) rfl hd1
  have l0 := ints_of (n := 8) (e := 54) (by kernel_rfl) (by kernel_rfl) (by kernel_rfl) (by kernel_rfl) rfl hd0
  have s1 : 0 < cs1.size := by
    have := congrArg List.length l1
    simp [tableN] at this
    omega
  have s0 : 0 < cs0.size := by
    have := congrArg List.length l0
    simp [firstN] at this
    omega
  obtain ⟨⟨c1, u1, h1⟩, _⟩ := hm 1 0 (by rw [hps]; exact List.mem_append_left _ (List.mem_append_left _ (row_mem 1 _ s1)))
  obtain ⟨⟨c0, u0, h0⟩, _⟩ := hm 0 0 (by rw [hps, hps0]; exact List.mem_append_right _ (List.mem_append_left _ (List.mem_append_left _ (row_mem 0 _ s0))))
  have e1 := var_at gTable hv1 h1
  have e0 := var_at gFirst hv0 h0
  subst e1
  subst e0
  refine ⟨u0, u1, ?_, ?_⟩
  · rw [h0, ← l0]
  · rw [h1, ← l1]
theorem works_ok {W : World} (h : laidMetH Tryz.prog Rows.netNilRow.laid W) : WorksOk (heapF W) := by
  obtain ⟨t0, t1, h0, h1⟩ := of_laid h
  intro Hr hd
  refine Go.Ev.run_tr (P := Tryz.prog) (hk := Go.Ev.Kn.hkm) Go.Ev.Kn.hkm_ok (k := 3000) (f := 11) (gn := 2) (G := Go.Ev.Kn.glb) (by kernel_rfl) Go.Ev.Kn.run_ok ?_
  intro p hp
  have hp : p ∈ [(0, Go.Ev.AO.mk false (Go.Ev.n3 firstN) 435), (1, Go.Ev.AO.mk false (Go.Ev.n3 tableN) 441)] := hp
  rcases List.mem_cons.1 hp with rfl | hp
  · exact ⟨_, _, t0, (0, 0), rfl, addF_ro hd h0⟩
  · rw [List.mem_singleton] at hp
    subst hp
    exact ⟨_, _, t1, (0, 0), rfl, addF_ro hd h1⟩
end Go.Proofs.YtlbbgmlmndbecaaGreatDoor
