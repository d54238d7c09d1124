/- The symbolic executor, part 32: regions that draw their order, of which two orders are gone through. -/
import Derived.Test.YthaffebapmkppaaRg2

namespace Go.Eng
open Go

/-- the orders that are gone through -/
inductive STree where
  | nil
  | q (i : Nat) (blk : List Nat) (r : STree)
  | one (i : Nat) (r : STree)
  | two (i j : Nat) (x y : STree)

end Go.Eng
