/- SectorNew: whatever the arguments. -/
import Derived.Test.YtcfghkiokdbhjaaSe14
import Derived.Test.YtcfghkiokdbhjaaLaw

namespace Go.Proofs.Ytcfghkiokdbhjaa
open Go.Eng Go.ChangeShapes Go.WideShapes Go.ChangeAt Go.RowKit

set_option maxRecDepth 100000 in
theorem sectorNew_calls (W : World) (args : Array Value) (hn : args.size = 5) (ha : ∀ (j : Nat) t v, Try.f13.params[j]? = some t → args[j]? = some v → ArgOk Try.prog W t v) :
    Calls Try.prog 13 args W fun e w' => e = .returned (.bool true) ∧ Chg (fun _ _ => False) W w' := by
  obtain ⟨a, b, c, d, x, rfl⟩ : ∃ a b c d x, args = #[a, b, c, d, x] := ⟨args[0], args[1], args[2], args[3], args[4], by apply Array.ext (by simp [hn]); intro i h1 h2; match i, h1 with | 0, _ | 1, _ | 2, _ | 3, _ | 4, _ => rfl⟩
  obtain ⟨size, rfl, _⟩ := (ha 0 3 a rfl rfl).int Try.underlying3
  obtain ⟨count, rfl, _⟩ := (ha 1 3 b rfl rfl).int Try.underlying3
  obtain ⟨i, rfl, _⟩ := (ha 2 3 c rfl rfl).int Try.underlying3
  obtain ⟨⟨r, b0, h1⟩, _⟩ := ha 3 101 d rfl rfl
  obtain ⟨po, n, cp, rfl⟩ := okWide_slice Try.underlying101 h1
  obtain ⟨torn, rfl⟩ := (ha 4 4 x rfl rfl).bool Try.underlying4
  exact secNew_ok size count i po n cp torn W

end Go.Proofs.Ytcfghkiokdbhjaa
