/- RingTurned: parts of a slice; what order plays no part. -/
import Derived.Test.YthaffebapmkppaaRi10
import Derived.Test.YthaffebapmkppaaRg1

namespace Go.Proofs.Ythaffebapmkppaa
open Go Go.Eng Go.Sort

theorem appV_none {rg : List Rg} {te : TI} {r n : Nat} {cs : List SV} (hr : nth rg r = some ⟨true, cs, none⟩) (hcs : cs.length = n * te.size) (hok : appV.appOk te [] n 0 = true) :
    appV rg te (.osl r 0 n te.size none) [] 0 = some (.osl r 0 n te.size none, rg) := by
  have e2 : Nat.ble (0 + n * te.size) cs.length = true := by rw [hcs]; exact Nat.ble_eq_true_of_le (by omega)
  simp only [appV, hr, hok, e2, Nat.beq_refl, Bool.and_self, cond_true]

/-- a row that was made since, only read -/
theorem Sat.addRo {E : Env} {N : Nums} {rg : List Rg} {w : World} (h : Sat E N rg w) {b o x s0 : Nat} {cs : List SV} (hN : ∀ (r : Nat) (p : Num), N[r]? = some p → p.b < s0) (hs0 : s0 ≤ b) (hb : b < w.heap.size)
    (hcs : ∀ (j : Nat) (c : SV), cs[j]? = some c → ∃ v, c.den N = some v ∧ w.cell? ⟨b, o + j, none⟩ = some v) : Sat E (N ++ [⟨b, o, x⟩]) (rg ++ [⟨false, cs, none⟩]) w := by
  have hle : N.le (N ++ [⟨b, o, x⟩]) := Nums.le_append _ _
  refine ⟨by simp [h.len], ?_, ?_, ?_, ?_, ?_, ?_, ?_, h.imm, ?_, ?_, h.dlt, h.loc, h.res, h.chg, ?_⟩
  · intro i q hq
    rcases Nat.lt_or_ge i N.length with hi | hi
    · rw [List.getElem?_append_left hi] at hq; exact h.lt i q hq
    · rw [List.getElem?_append_right hi] at hq
      have hz : i - N.length = 0 := by
        have := (List.getElem?_eq_some_iff.1 hq).1
        simp at this; omega
      rw [hz] at hq; simp at hq; subst hq; exact hb
  · intro i g q hg hq j d hj
    rcases get_snoc h.len hg hq with ⟨a, b⟩ | ⟨_, rfl, rfl⟩
    · obtain ⟨v, h1, h2⟩ := h.cell i g q a b j d hj
      exact ⟨v, SV.den_mono hle d h1, h2⟩
    · obtain ⟨v, h1, h2⟩ := hcs j d hj
      exact ⟨v, SV.den_mono hle d h1, h2⟩
  · intro i g q hg hq ho
    rcases get_snoc h.len hg hq with ⟨a, b⟩ | ⟨_, rfl, rfl⟩
    · exact h.ext i g q a b ho
    · cases ho
  · intro i g q hg hq ho
    rcases get_snoc h.len hg hq with ⟨a, b⟩ | ⟨_, rfl, rfl⟩
    · exact h.room i g q a b ho
    · cases ho
  · intro i i' g g' q q' hg hq hg' hq' ho hne j hj hb'
    rcases get_snoc h.len hg hq with ⟨a1, a2⟩ | ⟨a0, rfl, rfl⟩
    · rcases get_snoc h.len hg' hq' with ⟨b1, b2⟩ | ⟨b0, rfl, rfl⟩
      · exact h.disj i i' g g' q q' a1 a2 b1 b2 ho hne j hj hb'
      · have := hN i q a2; simp at hb'; omega
    · cases ho
  · intro i g q ob hg hq ho
    rcases get_snoc h.len hg hq with ⟨a, b⟩ | ⟨_, rfl, rfl⟩
    · obtain ⟨⟨o', k1, k2⟩, k3⟩ := h.obj i g q ob a b ho
      exact ⟨⟨o', Ob.den_mono hle ob k1, k2⟩, k3⟩
    · simp at ho
  · intro i i' g g' q q' hg hq hg' hq' ho ho' hne
    rcases get_snoc h.len hg hq with ⟨a1, a2⟩ | ⟨a0, rfl, rfl⟩
    · rcases get_snoc h.len hg' hq' with ⟨b1, b2⟩ | ⟨b0, rfl, rfl⟩
      · exact h.odisj i i' g g' q q' a1 a2 b1 b2 ho ho' hne
      · simp at ho'
    · simp at ho
  · intro i g q hg hq ho
    rcases get_snoc h.len hg hq with ⟨a, b⟩ | ⟨_, rfl, rfl⟩
    · exact h.imd i g q a b ho
    · cases ho
  · intro i g q hg hq ho
    rcases get_snoc h.len hg hq with ⟨a, b⟩ | ⟨_, rfl, rfl⟩
    · exact h.dd i g q a b ho
    · cases ho
  · intro i g q hg hq ho
    rcases get_snoc h.len hg hq with ⟨a, b⟩ | ⟨_, rfl, rfl⟩
    · exact h.foot i g q a b ho
    · cases ho

/-- a row that is new, to be read -/
def RoRet (cs : List SV) (n : Nat) (w : World) (e : Ending) (w' : World) : Prop :=
  ∃ b o c, e = .returned (.slice (some ⟨b, o, none⟩) n c) ∧ w.heap.size ≤ b ∧ b < w'.heap.size ∧ (∀ (j : Nat) (c : SV), cs[j]? = some c → ∃ v, (∀ N, c.den N = some v) ∧ w'.cell? ⟨b, o + j, none⟩ = some v) ∧ Chg (fun _ _ => False) w w'
theorem RoRet.sat {E : Env} {N : Nums} {rg : List Rg} {w w' : World} {cs : List SV} {n sz : Nat} {e : Ending} (hz : 0 < sz) (hf : RoRet cs n w e w') (h : Sat E N rg w) :
    ∃ N' v, e = .returned v ∧ N.le N' ∧ (SV.osl rg.length 0 n sz none).den N' = some v ∧ Sat E N' (rg ++ [⟨false, cs, none⟩]) w' := by
  obtain ⟨b, o, c, he, h1, h2, h3, hc⟩ := hf
  have hget : (N ++ [⟨b, o, sz * c⟩] : Nums)[rg.length]? = some ⟨b, o, sz * c⟩ := by rw [← h.len]; simp
  refine ⟨N ++ [⟨b, o, sz * c⟩], _, he, Nums.le_append _ _, by simp only [SV.den, hget, Num.cap, Nat.add_zero, Nat.sub_zero, Nat.mul_div_cancel_left _ hz], ?_⟩
  exact Sat.addRo (h.after0 hc) (s0 := w.heap.size) (fun r p hp => h.lt r p hp) h1 h2 (fun j c hj => by
    obtain ⟨v, k1, k2⟩ := h3 j c hj
    exact ⟨v, k1 N, k2⟩)

theorem PtsRet.ro {L : List (Int × Int)} {w : World} {e : Ending} {w' : World} (h : PtsRet L w e w') (hL : L ≠ []) : RoRet (ptsL L) L.length w e w' := by
  obtain ⟨p, c, he, hr, hc⟩ := h
  rcases hr with h | ⟨b, o, rfl, h2, h3⟩
  · exact absurd h hL
  · have h0 : 0 < L.length := List.length_pos_iff.2 hL
    refine ⟨b, o, c, he, h2, World.block_lt_of_cell? _ _ (h3 0 (by rw [size_flatK]; simp; omega)).1, fun j x hj => ?_, hc⟩
    have hj2 : j < L.length * 2 := by rw [← ptsL_len]; exact (List.getElem?_eq_some_iff.1 hj).1
    obtain ⟨x', k1, k2⟩ := ptsL_get L j hj2
    rw [hj] at k1
    cases k1
    exact ⟨_, k2, (h3 j (by rw [size_flatK]; simpa using hj2)).1⟩
theorem BytRet.ro {l : List Int} {w : World} {e : Ending} {w' : World} (h : BytRet l w e w') (hl : l ≠ []) : RoRet (bytL l) l.length w e w' := by
  obtain ⟨p, c, he, _, hr, hc⟩ := h
  rcases hr with ⟨h, _⟩ | ⟨_, b, o, rfl, h2, h3⟩
  · exact absurd h hl
  · have h0 : 0 < l.length := List.length_pos_iff.2 hl
    refine ⟨b, o, c, he, h2, World.block_lt_of_cell? _ _ (h3 0 (by simpa using h0)).1, fun j x hj => ?_, hc⟩
    have hj2 : j < l.length := by rw [← bytL_len]; exact (List.getElem?_eq_some_iff.1 hj).1
    obtain ⟨z, k1, rfl⟩ : ∃ z, l[j]? = some z ∧ x = .int .u8 (.v z) := by
      unfold bytL at hj
      rw [List.getElem?_map] at hj
      obtain ⟨z, k1, k2⟩ := Option.map_eq_some_iff.1 hj
      exact ⟨z, k1, k2.symm⟩
    refine ⟨_, fun _ => rfl, ?_⟩
    have := (h3 j (by simpa using hj2)).1
    rw [this]
    have hz : l[j] = z := by rw [List.getElem?_eq_getElem hj2] at k1; exact Option.some.inj k1
    simp [SI.den, hj2, hz]

theorem ascA_pos {d : Array Int} (h : 0 < d.size) : 0 < (ascA d).size := by
  have h0 : (0 : Nat) ∈ (List.range d.size).filter (Go.Lib.keeps (srtA d)) := List.mem_filter.2 ⟨List.mem_range.2 h, Go.Lib.keeps_lt_one _ 0 (by omega)⟩
  simp only [ascA, Go.Lib.compactUpTo, List.size_toArray, List.length_map]
  exact List.length_pos_of_mem h0
theorem ringP_pos {d : Array Int} (h : 0 < d.size) : ringP d ≠ [] := fun e => by
  have h1 := (ringP_perm d).length_eq
  rw [e, ← ringTo_all, ringTo_len _ _ (Nat.le_refl _)] at h1
  have := ascA_pos h
  simp at h1
  omega
theorem keepGo_ge (R : Nat → Int) (many : Int) : ∀ (k i : Nat) (out : List Int), out.length ≤ (keepGo R many k i out).length
  | 0, _, out => Nat.le_refl _
  | k + 1, i, out => by
    unfold keepGo
    split
    · exact Nat.le_refl _
    · have h1 := keepGo_ge R many k (i + 1) (if R i ∈ out then out else out ++ [R i])
      have h2 : out.length ≤ (if R i ∈ out then out else out ++ [R i]).length := by split <;> simp
      omega
theorem ofL_pos {d : Array Int} {key : Int} (h : 0 < d.size) : ofL d key ≠ [] := fun e => by
  have h1 : (keepL (ringP d) key 3).length = 0 := by
    have := congrArg List.length e
    simp only [ofL, Array.length_toList, srtA_size, List.size_toArray, List.length_nil] at this
    exact this
  have hL : 0 < (ringP d).length := List.length_pos_iff.2 (ringP_pos h)
  obtain ⟨q, hq⟩ : ∃ q, (ringP d).length = q + 1 := ⟨(ringP d).length - 1, by omega⟩
  unfold keepL at h1
  rw [hq, keepGo, if_neg (by simp), if_neg (by simp)] at h1
  have := keepGo_ge (nodeAt (ringP d) (atP (ringP d) (keyZ key))) 3 q (0 + 1) ([] ++ [nodeAt (ringP d) (atP (ringP d) (keyZ key)) 0])
  rw [h1] at this
  simp at this

end Go.Proofs.Ythaffebapmkppaa
