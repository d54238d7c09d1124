/- RingBuilds. -/
import Derived.Test.YthaffebapmkppaaRb4

namespace Go.Proofs.Ythaffebapmkppaa
open Go Go.Eng Go.Sort

/-- a row that was made since, only read; of no cells: wherever -/
theorem Sat.addRoW {E : Env} {N : Nums} {rg : List Rg} {w : World} (h : Sat E N rg w) {b o x s0 : Nat} {cs : List SV} (hN : ∀ (r : Nat) (p : Num), N[r]? = some p → p.b < s0) (hs0 : 0 < cs.length → s0 ≤ b) (hb : b < w.heap.size)
    (hcs : ∀ (j : Nat) (c : SV), cs[j]? = some c → ∃ v, c.den N = some v ∧ w.cell? ⟨b, o + j, none⟩ = some v) : Sat E (N ++ [⟨b, o, x⟩]) (rg ++ [⟨false, cs, none⟩]) w := by
  rcases Nat.eq_zero_or_pos cs.length with h0 | h0
  · obtain rfl : cs = [] := List.eq_nil_of_length_eq_zero h0
    have hle : N.le (N ++ [⟨b, o, x⟩]) := Nums.le_append _ _
    refine ⟨by simp [h.len], ?_, ?_, ?_, ?_, ?_, ?_, ?_, h.imm, ?_, ?_, h.dlt, h.loc, h.res, h.chg, ?_⟩
    · intro i q hq
      rcases Nat.lt_or_ge i N.length with hi | hi
      · rw [List.getElem?_append_left hi] at hq; exact h.lt i q hq
      · rw [List.getElem?_append_right hi] at hq
        have hz : i - N.length = 0 := by
          have := (List.getElem?_eq_some_iff.1 hq).1
          simp at this; omega
        rw [hz] at hq; simp at hq; subst hq; exact hb
    · intro i g q hg hq j d hj
      rcases get_snoc h.len hg hq with ⟨a, b⟩ | ⟨_, rfl, rfl⟩
      · obtain ⟨v, h1, h2⟩ := h.cell i g q a b j d hj
        exact ⟨v, SV.den_mono hle d h1, h2⟩
      · simp at hj
    · intro i g q hg hq ho
      rcases get_snoc h.len hg hq with ⟨a, b⟩ | ⟨_, rfl, rfl⟩
      · exact h.ext i g q a b ho
      · cases ho
    · intro i g q hg hq ho
      rcases get_snoc h.len hg hq with ⟨a, b⟩ | ⟨_, rfl, rfl⟩
      · exact h.room i g q a b ho
      · cases ho
    · intro i i' g g' q q' hg hq hg' hq' ho hne j hj hb'
      rcases get_snoc h.len hg hq with ⟨a1, a2⟩ | ⟨a0, rfl, rfl⟩
      · rcases get_snoc h.len hg' hq' with ⟨b1, b2⟩ | ⟨b0, rfl, rfl⟩
        · exact h.disj i i' g g' q q' a1 a2 b1 b2 ho hne j hj hb'
        · exact absurd hj (Nat.not_lt_zero j)
      · cases ho
    · intro i g q ob hg hq ho
      rcases get_snoc h.len hg hq with ⟨a, b⟩ | ⟨_, rfl, rfl⟩
      · obtain ⟨⟨o', k1, k2⟩, k3⟩ := h.obj i g q ob a b ho
        exact ⟨⟨o', Ob.den_mono hle ob k1, k2⟩, k3⟩
      · simp at ho
    · intro i i' g g' q q' hg hq hg' hq' ho ho' hne
      rcases get_snoc h.len hg hq with ⟨a1, a2⟩ | ⟨a0, rfl, rfl⟩
      · rcases get_snoc h.len hg' hq' with ⟨b1, b2⟩ | ⟨b0, rfl, rfl⟩
        · exact h.odisj i i' g g' q q' a1 a2 b1 b2 ho ho' hne
        · simp at ho'
      · simp at ho
    · intro i g q hg hq ho
      rcases get_snoc h.len hg hq with ⟨a, b⟩ | ⟨_, rfl, rfl⟩
      · exact h.imd i g q a b ho
      · cases ho
    · intro i g q hg hq ho
      rcases get_snoc h.len hg hq with ⟨a, b⟩ | ⟨_, rfl, rfl⟩
      · exact h.dd i g q a b ho
      · cases ho
    · intro i g q hg hq ho
      rcases get_snoc h.len hg hq with ⟨a, b⟩ | ⟨_, rfl, rfl⟩
      · exact h.foot i g q a b ho
      · cases ho
  · exact Sat.addRo h hN (hs0 h0) hb hcs

theorem RoR.sat {E : Env} {N : Nums} {rg : List Rg} {w w' : World} {cs : List SV} {n sz : Nat} {e : Ending} (hz : 0 < sz) (hf : RoR cs n w e w') (h : Sat E N rg w) :
    ∃ N' v, e = .returned v ∧ N.le N' ∧ (SV.osl rg.length 0 n sz none).den N' = some v ∧ Sat E N' (rg ++ [⟨false, cs, none⟩]) w' := by
  obtain ⟨b, o, c, he, h1, h2, h3, hc⟩ := hf
  have hget : (N ++ [⟨b, o, sz * c⟩] : Nums)[rg.length]? = some ⟨b, o, sz * c⟩ := by rw [← h.len]; simp
  refine ⟨N ++ [⟨b, o, sz * c⟩], _, he, Nums.le_append _ _, by simp only [SV.den, hget, Num.cap, Nat.add_zero, Nat.sub_zero, Nat.mul_div_cancel_left _ hz], ?_⟩
  exact Sat.addRoW (h.after0 hc) (s0 := w.heap.size) (fun r p hp => h.lt r p hp) h1 h2 (fun j c hj => by
    obtain ⟨v, k1, k2⟩ := h3 j c hj
    exact ⟨v, k1 N, k2⟩)
theorem Goes.ro {E : Ctx} {N : Nums} {k : List It} {s : St} {d : Option Nat} {e : Ending} {w w' : World} {cs : List SV} {n sz : Nat} (hN : E.N0.le N) (h : Sat E.toEnv N s.rg w) (hz : 0 < sz) (hf : RoR cs n w e w') {f' : Fr} (hp : putO E.n s.fr d (.val (.osl s.rg.length 0 n sz none)) = some f')
    (hx : X E k ⟨f', s.rg ++ [⟨false, cs, none⟩]⟩) : ∃ v, e = .returned v ∧ Goes E N k s.fr d v w' := by
  obtain ⟨N', v, h1, h2, h3, h4⟩ := hf.sat hz h
  exact ⟨v, h1, E, N', _, _, f', rfl, rfl, rfl, rfl, h2, hN.trans h2, h4, h3, hp, hx⟩

end Go.Proofs.Ythaffebapmkppaa
