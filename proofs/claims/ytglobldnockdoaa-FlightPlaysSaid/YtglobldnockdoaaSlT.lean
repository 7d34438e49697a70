/- Joining ways: what holds behind a piece of code is said once, whichever way was taken. No conditions: laws only. -/
import Derived.Test.YtglobldnockdoaaSlS
namespace Go.Sl
open Go
section
variable {x : Cx} {K : Post} {env : Env} {H : HL} {c : Code}
theorem Fin.weak {e : Exit} {env' : Env} {H' : HL} (he : ∀ t v, look env' t = some v → look env t = some v) (hH : ∀ w, In x.F H w → In x.F H' w) (h : Fin x K e env' H') : Fin x K e env H :=
  ⟨fun a w s => h.run a w ⟨s.ev.sub he, hH w s.hin, s.same⟩⟩
/-- what lies behind a piece of code is walked once; the piece is walked with the rest out of sight -/
theorem W.cut {G : Type} (E : G → Env) (Hp : G → HL) (ok : G → Prop) (h1 : ∀ K' : Post, (∀ g, ok g → Fin x K' .normal (E g) (Hp g)) → (∀ e env H, e ≠ .normal → Fin x K e env H → Fin x K' e env H) → W x K' c env H)
    (h2 : ∀ g, ok g → Fin x K .normal (E g) (Hp g)) : W x K c env H := h1 K h2 (fun _ _ _ _ h => h)
theorem Fin.cut {K' : Post} {G : Type} {E : G → Env} {Hp : G → HL} {ok : G → Prop} (hK : ∀ g, ok g → Fin x K' .normal (E g) (Hp g)) (g : G) (h0 : ok g) (he : ∀ t v, look (E g) t = some v → look env t = some v) (hH : ∀ w, In x.F H w → In x.F (Hp g) w) : Fin x K' .normal env H :=
  Fin.weak he hH (hK g h0)
end
end Go.Sl
