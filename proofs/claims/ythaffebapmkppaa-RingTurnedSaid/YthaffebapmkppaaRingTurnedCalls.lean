/- RingTurned: whatever the arguments. -/
import Derived.Test.YthaffebapmkppaaRi13

namespace Go.Proofs.Ythaffebapmkppaa
open Go Go.Eng

theorem ringTurned_calls (W : World) (args : Array Value) (hn : args.size = 3) (ha : ∀ (j : Nat) t v, Try.f5.params[j]? = some t → args[j]? = some v → ArgOk Try.prog W t v) :
    Calls Try.prog 5 args W fun e w' => e = .returned (.bool true) ∧ Chg (fun _ _ => False) W w' := by
  obtain ⟨a, b, c, rfl⟩ : ∃ a b c, args = #[a, b, c] := ⟨args[0], args[1], args[2], by apply Array.ext (by simp [hn]); intro i h1 h2; match i, h1 with | 0, _ | 1, _ | 2, _ => rfl⟩
  obtain ⟨po, n, cp, d, rfl, hA, hc, hd⟩ := bytes_of ((ha 0 22 a rfl rfl).slice Try.underlying22)
  obtain ⟨x, rfl, hx⟩ := (ha 1 5 b rfl rfl).int Try.underlying5
  obtain ⟨key, rfl, _⟩ := (ha 2 5 c rfl rfl).int Try.underlying5
  have hx := byte_wf hx
  obtain ⟨bv, rfl⟩ : ∃ bv : Nat, x = bv := ⟨x.toNat, by omega⟩
  exact turned_ok po n cp bv d key W hA hc hd (by omega)

end Go.Proofs.Ythaffebapmkppaa
