/- The sector's functions: two disks side by side. -/
import Derived.Test.YtkjhpaeminegoaaSe17

namespace Go.Proofs.Ytkjhpaeminegoaa
open Go.Eng

def pairD (c d : Dk) (k o : Nat) : Prop := c.D k o ∨ d.D k o

structure PairAt (c d : Dk) (w : World) : Prop where
  c : DiskAt c w
  d : DiskAt d w

def Apart (c d : Dk) : Prop := ∀ k o, c.D k o → ¬ d.D k o

theorem PairAt.loc {c d : Dk} : Eng.Loc (pairD c d) (PairAt c d) := fun w w' hs hl h => ⟨DiskAt.loc w w' (fun k o hd => hs k o (.inl hd)) hl h.c, DiskAt.loc w w' (fun k o hd => hs k o (.inr hd)) hl h.d⟩

theorem PairAt.there {c d : Dk} {w : World} (h : PairAt c d w) {k o : Nat} (hd : pairD c d k o) : There w k o := hd.elim h.c.there h.d.there

theorem To.fst {B size count : Nat} {st : Int → Nat → Int} {l : Wl} {c c' d : Dk} {w w' : World} (h : To B size count st l c c' w w') (hP : PairAt c d w) (ha : Apart c d) :
    PairAt c' d w' ∧ Apart c' d ∧ Chg (pairD c d) w w' ∧ ∀ k o, pairD c' d k o → (pairD c d k o ∨ w.heap.size ≤ k) ∧ There w' k o := by
  have h1 : PairAt c' d w' := ⟨h.at', hP.d.away h.chg fun k o hd hc => ha k o hc hd⟩
  refine ⟨h1, fun k o hc hd => ?_, h.chg.mono fun k o _ h => .inl h, fun k o hk => ⟨?_, h1.there hk⟩⟩
  · rcases h.inD k o hc with h | h
    · exact ha k o h hd
    · have := (hP.d.there hd).lt; omega
  · rcases hk with hk | hk
    · exact (h.inD k o hk).imp .inl id
    · exact .inl (.inr hk)

theorem To.snd {B size count : Nat} {st : Int → Nat → Int} {l : Wl} {c d d' : Dk} {w w' : World} (h : To B size count st l d d' w w') (hP : PairAt c d w) (ha : Apart c d) :
    PairAt c d' w' ∧ Apart c d' ∧ Chg (pairD c d) w w' ∧ ∀ k o, pairD c d' k o → (pairD c d k o ∨ w.heap.size ≤ k) ∧ There w' k o := by
  have h1 : PairAt c d' w' := ⟨hP.c.away h.chg fun k o hc hd => ha k o hc hd, h.at'⟩
  refine ⟨h1, fun k o hc hd => ?_, h.chg.mono fun k o _ h => .inr h, fun k o hk => ⟨?_, h1.there hk⟩⟩
  · rcases h.inD k o hd with h | h
    · exact ha k o hc h
    · have := (hP.c.there hc).lt; omega
  · rcases hk with hk | hk
    · exact .inl (.inl hk)
    · exact (h.inD k o hk).imp .inr id

end Go.Proofs.Ytkjhpaeminegoaa
