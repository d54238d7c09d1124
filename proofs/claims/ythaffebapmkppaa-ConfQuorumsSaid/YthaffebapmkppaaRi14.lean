/- RingMoves. -/
import Derived.Test.YthaffebapmkppaaRi13
import Derived.Test.YthaffebapmkppaaRp1

namespace Go.Proofs.Ythaffebapmkppaa
open Go Go.Eng Go.Sort

/-- all regions given up -/
theorem X.noRegs {E : Ctx} {k : List It} {f : Fr} (f' : Fr) {rg : List Rg} (h0 : E.N0 = []) (hs : ∀ N : Nums, N.length = rg.length → Sh N [] f f') (h : X E k ⟨f', []⟩) : X E k ⟨f, rg⟩ := by
  refine X.conv fun N a w hN hf hS => ⟨E, ⟨f', []⟩, rfl, rfl, rfl, rfl, ⟨[], by rw [h0]; exact nil_le _, hf.sh (hs N hS.len), ?_⟩, h⟩
  exact { hS with
    len := rfl
    lt := fun r q hq => by simp at hq
    cell := fun r g q hg hq => by simp at hg
    ext := fun r g q hg hq => by simp at hg
    room := fun r g q hg hq => by simp at hg
    disj := fun r r' g g' q q' hg hq => by simp at hg
    obj := fun r g q ob hg hq => by simp at hg
    odisj := fun r r' g g' q q' hg hq => by simp at hg
    imd := fun r g q hg hq => by simp at hg
    dd := fun r g q hg hq => by simp at hg
    foot := fun r g q hg hq => by simp at hg }

theorem ofL_perm (d : Array Int) (key : Int) : (ofL d key).Perm (keepL (ringP d) key 3) := by
  unfold ofL
  exact srtA_perm _
theorem ofL_len (d : Array Int) (key : Int) (h : d.size ≤ 100) : (ofL d key).length ≤ 1000 := by
  rw [(ofL_perm d key).length_eq]
  have h1 := keepL_len (ringP d) key 3
  have h2 := ringP_len d
  omega

end Go.Proofs.Ythaffebapmkppaa
