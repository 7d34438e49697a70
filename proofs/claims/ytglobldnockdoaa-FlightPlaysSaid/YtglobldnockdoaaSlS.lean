/- A region that draws its order and in which a variable is made anew without an edge to the acts: what stays chosen. No conditions: laws only. -/
import Derived.Test.YtglobldnockdoaaSlO
import Derived.Test.YtglobldnockdoaaSlQ
namespace Go.Sl
open Go
section
variable {x : Cx} {K : Post} {env : Env} {H Hc : HL} {ops : Array Oper} {f : Tg} {l2 rest : List Tg}
theorem W.drawG {id : Nat} {l : List Oper} (k : Nat) (Hc : HL) (hc : ∀ w, In x.F H w → In x.F Hc w) (h : WF x Hc K l.toArray ((tags l)[k]?.getD ⟨.p, 0, ⟨none, .nilCheck (.tmp 0), 0, "", #[], none⟩, false⟩) ((tags l).drop (k + 1)) ((tags l).take k) env H) (hk : Nat.blt k (tags l).length = true := by kernel_rfl) (hfs : isAlloc ((tags l)[k]?.getD ⟨.p, 0, ⟨none, .nilCheck (.tmp 0), 0, "", #[], none⟩, false⟩).o.op = true := by kernel_rfl)
    (hm : x.P.follows .mixedOrders = true := by kernel_rfl) (hB : mixF k l = true := by kernel_rfl) : W x K (.region id l.toArray true) env H :=
  ⟨fun a w s => by
    have hlt : k < (tags l).length := Nat.le_of_ble_eq_true hk
    have hf : (tags l)[k]? = some ((tags l)[k]?.getD ⟨.p, 0, ⟨none, .nilCheck (.tmp 0), 0, "", #[], none⟩, false⟩) := by rw [List.getElem?_eq_getElem hlt]; rfl
    have hM : CC x H { w with drawn := w.drawn + 1 } := ⟨⟨s.hin.nd, s.hin.own, s.hin.fr, s.hin.dj⟩, ⟨s.same.os, s.same.tape, s.same.output, s.same.size, Nat.le_succ_of_le s.same.drawn⟩⟩
    exact wp_region_flo k hf hm hB (fun w h => ⟨hc w h.1, h.2⟩) (M := CC x H) hM (fun hfl hfk => h.run hfl hfk (fun cs b he => by rw [he] at hfs; cases hfs) a s.ev ⟨_, hM⟩)⟩
end
end Go.Sl
