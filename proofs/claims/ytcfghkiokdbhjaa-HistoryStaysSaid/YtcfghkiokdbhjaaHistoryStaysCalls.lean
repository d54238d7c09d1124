/- HistoryStays: whatever the arguments. -/
import Derived.Test.YtcfghkiokdbhjaaHiStays
import Derived.Test.YtcfghkiokdbhjaaHiA

namespace Go.Proofs.Ytcfghkiokdbhjaa
open Go.Eng

theorem historyStays_calls (W : World) (args : Array Value) (hn : args.size = 1) (ha : ∀ (j : Nat) t v, Try.f9.params[j]? = some t → args[j]? = some v → ArgOk Try.prog W t v) :
    Calls Try.prog 9 args W fun e w' => e = .returned (.bool true) ∧ Chg (fun _ _ => False) W w' := by
  obtain ⟨a, rfl⟩ : ∃ a, args = #[a] := ⟨args[0], by apply Array.ext (by simp [hn]); intro i h1 h2; match i, h1 with | 0, _ => rfl⟩
  obtain ⟨po, n, cp, rfl, hl⟩ := hacts_of ((ha 0 67 a rfl rfl).slice Try.underlying67)
  exact stays_ok po n cp W hl

end Go.Proofs.Ytcfghkiokdbhjaa
