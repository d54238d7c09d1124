/- RingMoves. -/
import Derived.Test.YthaffebapmkppaaRi13
import Derived.Test.YthaffebapmkppaaRp1

namespace Go.Proofs.Ythaffebapmkppaa
open Go Go.Eng Go.Sort

theorem ofL_perm (d : Array Int) (key : Int) : (ofL d key).Perm (keepL (ringP d) key 3) := by
  unfold ofL
  exact srtA_perm _
end Go.Proofs.Ythaffebapmkppaa
