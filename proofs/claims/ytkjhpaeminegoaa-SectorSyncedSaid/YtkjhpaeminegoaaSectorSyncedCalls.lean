/- SectorSynced: whatever the arguments. -/
import Derived.Test.YtkjhpaeminegoaaSe24
import Derived.Test.YtkjhpaeminegoaaLaw

namespace Go.Proofs.Ytkjhpaeminegoaa
open Go.Eng Go.ChangeShapes Go.WideShapes Go.ChangeAt Go.RowKit

set_option maxRecDepth 100000 in
theorem sectorSynced_calls (W : World) (args : Array Value) (hn : args.size = 6) (ha : ∀ (j : Nat) t v, Try.f3.params[j]? = some t → args[j]? = some v → ArgOk Try.prog W t v) :
    Calls Try.prog 3 args W fun e w' => e = .returned (.bool true) ∧ Chg (fun _ _ => False) W w' := by
  obtain ⟨a, b, c, d, e, g, rfl⟩ : ∃ a b c d e g, args = #[a, b, c, d, e, g] := ⟨args[0], args[1], args[2], args[3], args[4], args[5], by apply Array.ext (by simp [hn]); intro i h1 h2; match i, h1 with | 0, _ | 1, _ | 2, _ | 3, _ | 4, _ | 5, _ => rfl⟩
  obtain ⟨size, rfl, _⟩ := (ha 0 3 a rfl rfl).int Try.underlying3
  obtain ⟨count, rfl, _⟩ := (ha 1 3 b rfl rfl).int Try.underlying3
  obtain ⟨po, n, cp, f, b, x, rfl, hl⟩ := steps_of ((ha 2 22 c rfl rfl).slice Try.underlying22)
  obtain ⟨po2, n2, cp2, f2, b2, x2, rfl, hl2⟩ := steps_of ((ha 3 22 d rfl rfl).slice Try.underlying22)
  obtain ⟨keep, rfl, _⟩ := (ha 4 3 e rfl rfl).int Try.underlying3
  obtain ⟨torn, rfl⟩ := (ha 5 4 g rfl rfl).bool Try.underlying4
  by_cases hs : smallS size count n f ∧ smallS size count n2 f2
  · obtain ⟨s, hs1⟩ : ∃ s : Nat, size = s := ⟨size.toNat, by have := hs.1.1; omega⟩
    obtain ⟨c, hc1⟩ : ∃ c : Nat, count = c := ⟨count.toNat, by have := hs.1.2.2.1; omega⟩
    subst hs1; subst hc1
    exact secSyn_in s c keep torn po po2 n cp b x n2 cp2 b2 x2 f f2 W hl hl2 hs.1 hs.2
  · exact secSyn_far size count keep torn po po2 n cp b x n2 cp2 b2 x2 f f2 W hl hl2 hs

end Go.Proofs.Ytkjhpaeminegoaa
