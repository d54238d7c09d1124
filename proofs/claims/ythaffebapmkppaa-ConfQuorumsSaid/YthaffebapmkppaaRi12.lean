/- RingTurned. -/
import Derived.Test.YthaffebapmkppaaRi11

namespace Go.Proofs.Ythaffebapmkppaa
open Go Go.Eng Go.Sort

/-- what is known becomes a region that is only read -/
theorem X.addRo {P : Program} {fn : Func} {Q : Ending → World → Prop} {W : World} {O D : Nat → Nat → Prop} {Rr : World → Prop} {im : Mem} {B : SchT} {k : List It} {f : Fr} (f' : Fr) (b y : Nat) {cs : List SV} (h0 : 0 < cs.length) (hc : ∀ (j : Nat) (c : SV), cs[j]? = some c → ∃ v, (∀ N, c.den N = some v) ∧ im b (y + j) = some v)
    (hs : Sh [] [⟨b, y, cs.length⟩] f f') (h : X (mkE P fn Q W O im D Rr [] B) k ⟨f', [⟨false, cs, none⟩]⟩) : X (mkE P fn Q W O im D Rr [] B) k ⟨f, []⟩ := by
  refine X.conv fun N a w hN hf hS => ?_
  have hN0 : N = [] := List.eq_nil_of_length_eq_zero hS.len
  subst hN0
  refine ⟨mkE P fn Q W O im D Rr [] B, ⟨f', [⟨false, cs, none⟩]⟩, rfl, rfl, rfl, rfl, ⟨[⟨b, y, cs.length⟩], nil_le _, hf.sh hs, ?_⟩, h⟩
  have own0 : ∀ {r : Nat} {g : Rg}, ([⟨false, cs, none⟩] : List Rg)[r]? = some g → g = ⟨false, cs, none⟩ := fun {r g} h => by
    match r, h with
    | 0, h => exact (Option.some.inj h).symm
  have num0 : ∀ {r : Nat} {q : Num}, ([⟨b, y, cs.length⟩] : Nums)[r]? = some q → q = ⟨b, y, cs.length⟩ := fun {r q} h => by
    match r, h with
    | 0, h => exact (Option.some.inj h).symm
  have cell : ∀ (j : Nat) (c : SV), cs[j]? = some c → ∃ v, c.den [⟨b, y, cs.length⟩] = some v ∧ w.cell? ⟨b, y + j, none⟩ = some v := fun j c hj => by
    obtain ⟨v, h1, h2⟩ := hc j c hj
    exact ⟨v, h1 _, hS.imm _ _ _ h2⟩
  exact { hS with
    len := rfl
    lt := fun r q hq => by
      rw [num0 hq]
      obtain ⟨v, _, h2⟩ := cell 0 _ (List.getElem?_eq_getElem h0)
      exact World.block_lt_of_cell? _ _ h2
    cell := fun r g q hg hq j c hj => by
      rw [num0 hq]
      rw [own0 hg] at hj
      exact cell j c hj
    ext := fun r g q hg hq ho => by rw [own0 hg] at ho; cases ho
    room := fun r g q hg hq ho => by rw [own0 hg] at ho; cases ho
    disj := fun r r' g g' q q' hg hq hg' hq' ho => by rw [own0 hg] at ho; cases ho
    obj := fun r g q ob hg hq ho => by rw [own0 hg] at ho; cases ho
    odisj := fun r r' g g' q q' hg hq hg' hq' ho => by rw [own0 hg] at ho; cases ho
    imd := fun r g q hg hq ho => by rw [own0 hg] at ho; cases ho
    dd := fun r g q hg hq ho => by rw [own0 hg] at ho; cases ho
    foot := fun r g q hg hq ho => by rw [own0 hg] at ho; cases ho }

theorem num_of {E : Env} {N : Nums} {rg : List Rg} {w : World} (hS : Sat E N rg w) {r : Nat} {g : Rg} (hg : rg[r]? = some g) : ∃ p, N[r]? = some p := ⟨_, List.getElem?_eq_getElem (by rw [hS.len]; exact (List.getElem?_eq_some_iff.1 hg).1)⟩

def sndC : Code → Code
  | .seq _ b => b
  | c => c

end Go.Proofs.Ythaffebapmkppaa
