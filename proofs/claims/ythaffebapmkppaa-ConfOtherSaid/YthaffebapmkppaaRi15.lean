/- RingWhole. -/
import Derived.Test.YthaffebapmkppaaRi14
import Derived.Test.YthaffebapmkppaaRg2

namespace Go.Proofs.Ythaffebapmkppaa
open Go Go.Eng Go.Sort

theorem byteN {x : Int} (h : 0 ≤ x ∧ x < 256) : ∃ y : Nat, x = (y : Int) ∧ y < 256 := ⟨x.toNat, by omega, by omega⟩

end Go.Proofs.Ythaffebapmkppaa
