/- The reference's keepers. -/
import Derived.Test.YthaffebapmkppaaRb2

namespace Go.Proofs.Ythaffebapmkppaa
open Go Go.Eng Go.Sort

theorem foldl_take {α β : Type} [Inhabited α] (f : β → α → β) (b : β) {L : List α} {k : Nat} (h : k < L.length) : (L.take (k + 1)).foldl f b = f ((L.take k).foldl f b) L[k]! := by
  rw [List.take_add_one, List.getElem?_eq_getElem h, Option.toList_some, List.foldl_append, getElem!_pos L k h]
  rfl

end Go.Proofs.Ythaffebapmkppaa
