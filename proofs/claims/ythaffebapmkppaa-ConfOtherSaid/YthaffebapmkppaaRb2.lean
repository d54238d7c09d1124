/- The reference's ring: each point is put in its place. -/
import Derived.Test.YthaffebapmkppaaRb1
import Derived.Test.YthaffebapmkppaaRg3
import Derived.Test.YthaffebapmkppaaRi15

namespace Go.Proofs.Ythaffebapmkppaa
open Go Go.Eng Go.Sort

theorem bytL_frr {l : List Int} {a b : Nat} : (bytL l).all (SV.frr a b) = true := List.all_eq_true.2 fun c hc => by
  obtain ⟨x, _, rfl⟩ := List.mem_map.1 hc; rfl
theorem bytL_one {l : List Int} : (bytL l).all SV.one = true := List.all_eq_true.2 fun c hc => by
  obtain ⟨x, _, rfl⟩ := List.mem_map.1 hc; rfl
/-- a row of one's own is handed back, that began as a literal without elements: to be read -/
def RoR (cs : List SV) (n : Nat) (w : World) (e : Ending) (w' : World) : Prop :=
  ∃ b o c, e = .returned (.slice (some ⟨b, o, none⟩) n c) ∧ (0 < cs.length → w.heap.size ≤ b) ∧ b < w'.heap.size ∧ (∀ (j : Nat) (c : SV), cs[j]? = some c → ∃ v, (∀ N, c.den N = some v) ∧ w'.cell? ⟨b, o + j, none⟩ = some v) ∧ Chg (fun _ _ => False) w w'
end Go.Proofs.Ythaffebapmkppaa
