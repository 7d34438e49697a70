/- The arguments of chapter 18's laws on orders: messages that were sent, as they lie in memory. No conditions. -/
import Derived.Test.YtokbkocjddcklaaRmX
import Derived.Test.YtokbkocjddcklaaBrE
namespace Go.Proofs.Ytokbkocjddcklaa
open Go Go.Sl Go.Rm

def snSh : Sh := .struct [.int .u8, .bool, .slice (.slice (.int .u8))]
def sentSh : List Sh := [.int .u32, .slice snSh, .slice (.int .u8)]
theorem pt_flat (l : List Pt) : l.flatMap (fun q => [ptC q]) = l.map ptC := by
  induction l with
  | nil => rfl
  | cons a l ih => simp [ih]
theorem sn_dec {w : World} (x : List Value) (_ : x.length = snSh.size) (h : snSh.repS w x) : ∃ m : Sn, x = snC m ∧ SnIs (heapF w) m := by
  simp only [snSh, Sh.repS, Sh.repSAll] at h
  obtain ⟨_, _, rfl, _, hst, _, _, rfl, _, hun, y, _, rfl, _, hps, rfl⟩ := h
  simp only [Sh.rep] at hst hun
  obtain ⟨st, rfl, h1, h2⟩ := hst
  obtain ⟨un, rfl⟩ := hun
  have hps' : (Sh.slice (.slice (.int .u8))).repS w y := by simp only [Sh.repS]; exact hps
  obtain ⟨pa, pn, pc, rfl, _⟩ := hps
  obtain ⟨l, hl, hL, hq, _, _, hr⟩ := Sh.lstS (fun q : Pt => [ptC q]) (fun q => Lst (heapF w) [] 1 (q.bs.map B) q.ba q.bn q.bc ∧ q.bs.length ≤ reachBytes) (fun y _ hy => by
    obtain ⟨bs, sa, n, c, rfl, h3, h4, h5⟩ := Sh.bytesS hy
    exact ⟨⟨bs, sa, n, c⟩, rfl, h4, by rw [h3]; exact h5⟩) hps'
  rw [pt_flat] at hL
  have hu := rgU8 h1 h2
  exact ⟨⟨st, un, pa, pn, pc, l⟩, rfl, hu, hL, fun q hq' => (hq q hq').1, fun q hq' => (hq q hq').2, by show l.length ≤ _; rw [hl]; exact hr⟩
theorem sent_of {w : World} {al : List Value} (h : RepsS w sentSh al) : ∃ (first : Int) (l : List Sn) (ka : Option Addr) (kn kc : Nat) (order : List UInt8) (sa : Option Addr) (sn sc : Nat), al = [.int .u32 first, .slice ka kn kc, .slice sa sn sc] ∧
    Lst (heapF w) [] 3 (l.flatMap snC) ka kn kc ∧ (∀ m ∈ l, SnIs (heapF w) m) ∧ Lst (heapF w) [] 1 (order.map B) sa sn sc := by
  obtain ⟨v0, _, _, rfl, e0, h0, _, v1, _, _, rfl, e1, h1, _, v2, _, _, rfl, e2, h2, _, rfl⟩ := h
  obtain ⟨b, rfl, hb⟩ := shI e0 (Sh.rep_S _ h0)
  obtain ⟨ka, kn, kc, l, rfl, hl, hop, _⟩ := shLS snC _ sn_dec e1 h1
  obtain ⟨bs, sa, n, c, rfl, hs⟩ := shBy e2 (Sh.rep_S _ h2)
  exact ⟨b, l, ka, kn, kc, bs, sa, n, c, rfl, hl, hop, hs⟩
end Go.Proofs.Ytokbkocjddcklaa
