/- The reference's hash. -/
import Derived.Test.YthaffebapmkppaaRi11
import Derived.Test.YthaffebapmkppaaRg2

namespace Go.Proofs.Ythaffebapmkppaa
open Go Go.Eng

theorem wrap64 (z : Int) : IntKind.u64.wrap z = z % 18446744073709551616 := by
  simp [IntKind.wrap, IntKind.bits, IntKind.signed]
/-- a row of one's own, handed in -/
theorem inB_own {E : Env} {N : Nums} {rg : List Rg} {w : World} (hS : Sat E N rg w) {r n : Nat} {ow : Bool} {x : Array Int} {xs : List SV} {p : Num} (hg : rg[r]? = some ⟨ow, xs, none⟩) (hp : N[r]? = some p) (hn : x.size = n) (hx : ∀ j, j < n → ∃ e, xs[j]? = some (.int .u8 e) ∧ e.den = x[j]!) : InB (some ⟨p.b, p.o + 0, none⟩) n x w :=
  ⟨hn, fun _ => ⟨p.b, p.o, rfl, fun j hj => by
    obtain ⟨e, h1, h2⟩ := hx j (by omega)
    obtain ⟨v, h3, h4⟩ := hS.cell r _ p hg hp j _ h1
    simp only [SV.den, h2, Option.some.injEq] at h3
    rw [h4, ← h3]⟩⟩

end Go.Proofs.Ythaffebapmkppaa
