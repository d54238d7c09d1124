/- SectorAll: whatever the arguments. -/
import Derived.Test.YtkjhpaeminegoaaSe19
import Derived.Test.YtkjhpaeminegoaaLaw

namespace Go.Proofs.Ytkjhpaeminegoaa
open Go.Eng Go.ChangeShapes Go.WideShapes Go.ChangeAt Go.RowKit

set_option maxRecDepth 100000 in
theorem sectorAll_calls (W : World) (args : Array Value) (hn : args.size = 3) (ha : ∀ (j : Nat) t v, Try.f4.params[j]? = some t → args[j]? = some v → ArgOk Try.prog W t v) :
    Calls Try.prog 4 args W fun e w' => e = .returned (.bool true) ∧ Chg (fun _ _ => False) W w' := by
  obtain ⟨a, b, c, rfl⟩ : ∃ a b c, args = #[a, b, c] := ⟨args[0], args[1], args[2], by apply Array.ext (by simp [hn]); intro i h1 h2; match i, h1 with | 0, _ | 1, _ | 2, _ => rfl⟩
  obtain ⟨size, rfl, _⟩ := (ha 0 3 a rfl rfl).int Try.underlying3
  obtain ⟨count, rfl, _⟩ := (ha 1 3 b rfl rfl).int Try.underlying3
  obtain ⟨po, n, cp, f, b, x, rfl, hl⟩ := steps_of ((ha 2 22 c rfl rfl).slice Try.underlying22)
  by_cases hs : smallS size count n f
  · obtain ⟨s, hs1⟩ : ∃ s : Nat, size = s := ⟨size.toNat, by have := hs.1; omega⟩
    obtain ⟨c, hc1⟩ : ∃ c : Nat, count = c := ⟨count.toNat, by have := hs.2.2.1; omega⟩
    subst hs1; subst hc1
    exact secAll_in s c po n cp b x f W hl hs
  · exact secAll_far size count po n cp b x f W hl hs

end Go.Proofs.Ytkjhpaeminegoaa
