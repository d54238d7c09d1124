/- RingBuilds: whatever the arguments. -/
import Derived.Test.YthaffebapmkppaaRb5

namespace Go.Proofs.Ythaffebapmkppaa
open Go Go.Eng

theorem ringBuilds_calls (W : World) (args : Array Value) (hn : args.size = 3) (ha : ∀ (j : Nat) t v, Try.f6.params[j]? = some t → args[j]? = some v → ArgOk Try.prog W t v) :
    Calls Try.prog 6 args W fun e w' => e = .returned (.bool true) ∧ Chg (fun _ _ => False) W w' := by
  obtain ⟨a, b, c, rfl⟩ : ∃ a b c, args = #[a, b, c] := ⟨args[0], args[1], args[2], by apply Array.ext (by simp [hn]); intro i h1 h2; match i, h1 with | 0, _ | 1, _ | 2, _ => rfl⟩
  obtain ⟨po, n, cp, d, rfl, hA, _, hd⟩ := bytes_of ((ha 0 22 a rfl rfl).slice Try.underlying22)
  obtain ⟨key, rfl, _⟩ := (ha 1 5 b rfl rfl).int Try.underlying5
  obtain ⟨many, rfl, _⟩ := (ha 2 3 c rfl rfl).int Try.underlying3
  exact builds_ok po n cp d key many W hA hd

end Go.Proofs.Ythaffebapmkppaa
