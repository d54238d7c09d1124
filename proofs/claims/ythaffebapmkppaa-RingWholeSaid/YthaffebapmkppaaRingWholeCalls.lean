/- RingWhole: whatever the arguments. -/
import Derived.Test.YthaffebapmkppaaRi16

namespace Go.Proofs.Ythaffebapmkppaa
open Go Go.Eng

theorem ringWhole_calls (W : World) (args : Array Value) (hn : args.size = 3) (ha : ∀ (j : Nat) t v, Try.f4.params[j]? = some t → args[j]? = some v → ArgOk Try.prog W t v) :
    Calls Try.prog 4 args W fun e w' => e = .returned (.bool true) ∧ Chg (fun _ _ => False) W w' := by
  obtain ⟨a, b, c, rfl⟩ : ∃ a b c, args = #[a, b, c] := ⟨args[0], args[1], args[2], by apply Array.ext (by simp [hn]); intro i h1 h2; match i, h1 with | 0, _ | 1, _ | 2, _ => rfl⟩
  obtain ⟨po, n, cp, d, rfl, hA, hc, hd⟩ := bytes_of ((ha 0 22 a rfl rfl).slice Try.underlying22)
  obtain ⟨key, rfl, _⟩ := (ha 1 5 b rfl rfl).int Try.underlying5
  obtain ⟨x, rfl, hx⟩ := (ha 2 5 c rfl rfl).int Try.underlying5
  obtain ⟨mv, rfl, hm⟩ := byteN (byte_wf hx)
  exact whole_ok po n cp mv d key W hA hc hd hm

end Go.Proofs.Ythaffebapmkppaa
