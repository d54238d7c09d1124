/- RingWhole. -/
import Derived.Test.YthaffebapmkppaaRi14
import Derived.Test.YthaffebapmkppaaRg2

namespace Go.Proofs.Ythaffebapmkppaa
open Go Go.Eng Go.Sort

theorem dd_snoc (x : Int) : ∀ (l out : List Int), dd (l ++ [x]) out = if x ∈ dd l out then dd l out else dd l out ++ [x]
  | [], out => rfl
  | y :: l, out => by
    rw [List.cons_append, dd, dd_snoc x l]
    rfl

theorem take_snoc {l : List Int} {i : Nat} (h : i < l.length) : l.take (i + 1) = l.take i ++ [l[i]!] := by
  rw [List.take_add_one, List.getElem?_eq_getElem h, getElem!_pos l i h]
  rfl
theorem byteN {x : Int} (h : 0 ≤ x ∧ x < 256) : ∃ y : Nat, x = (y : Int) ∧ y < 256 := ⟨x.toNat, by omega, by omega⟩

end Go.Proofs.Ythaffebapmkppaa
