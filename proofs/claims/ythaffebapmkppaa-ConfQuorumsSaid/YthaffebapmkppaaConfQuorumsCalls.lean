/- ConfQuorums: whatever the arguments. -/
import Derived.Test.YthaffebapmkppaaCf10

namespace Go.Proofs.Ythaffebapmkppaa
open Go Go.Eng

theorem confQuorums_calls (W : World) (args : Array Value) (hn : args.size = 3) (ha : ∀ (j : Nat) t v, Try.f7.params[j]? = some t → args[j]? = some v → ArgOk Try.prog W t v) :
    Calls Try.prog 7 args W fun e w' => e = .returned (.bool true) ∧ Chg (fun _ _ => False) W w' := by
  obtain ⟨a, b, c, rfl⟩ : ∃ a b c, args = #[a, b, c] := ⟨args[0], args[1], args[2], by apply Array.ext (by simp [hn]); intro i h1 h2; match i, h1 with | 0, _ | 1, _ | 2, _ => rfl⟩
  obtain ⟨C, po, pn, no, nn, co, cn, o, n, rfl, ho, hIn, hbo, hbn⟩ := conf_of (ha 0 35 a rfl rfl)
  obtain ⟨key, rfl, _⟩ := (ha 1 5 b rfl rfl).int Try.underlying5
  obtain ⟨z, rfl, hz⟩ := (ha 2 33 c rfl rfl).int Try.underlying33
  obtain ⟨s, rfl, hs⟩ := nat_wf hz
  exact quorums_ok C s po pn no nn co cn o n key W hs ho hIn hbo hbn

end Go.Proofs.Ythaffebapmkppaa
