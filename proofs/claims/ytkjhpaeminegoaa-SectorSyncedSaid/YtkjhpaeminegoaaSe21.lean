/- The sector's functions: Back, whatever stays, told plainly. -/
import Derived.Test.YtkjhpaeminegoaaSe20

namespace Go.Proofs.Ytkjhpaeminegoaa
open Go.Eng

/-- the writes that stay, the last one torn -/
def tornL (size : Nat) (st : Int → Nat → Int) (l : Wl) (z : Nat) : Wl := l.take (z - 1) ++ (match l[z - 1]? with
  | some x => [(x.1, tornF size x.2 (foldW st (l.take (z - 1)) x.1))]
  | none => [])

/-- what stays behind a fall -/
def backSt (size : Nat) (st : Int → Nat → Int) (l : Wl) (z : Nat) (torn : Bool) : Int → Nat → Int := foldW st (bif torn && Nat.blt 0 z then tornL size st l z else l.take z)

theorem foldW_st {st st' : Int → Nat → Int} (h : ∀ i, st i = st' i) (l : Wl) (i : Int) : foldW st l i = foldW st' l i := by
  unfold foldW; rw [h i]

theorem backSt_other {size : Nat} {st : Int → Nat → Int} {l : Wl} {z : Nat} {torn : Bool} {i : Int} (h : ∀ x ∈ l, x.1 ≠ i) : backSt size st l z torn i = st i := by
  unfold backSt
  cases hc : (torn && Nat.blt 0 z) with
  | false => exact foldW_other fun x hx => h x (List.mem_of_mem_take hx)
  | true =>
    refine foldW_other fun x hx => ?_
    simp only [cond_true, tornL, List.mem_append] at hx
    rcases hx with hx | hx
    · exact h x (List.mem_of_mem_take hx)
    · split at hx
      · rename_i y hy
        simp only [List.mem_singleton] at hx
        rw [hx]
        exact h y (List.mem_of_getElem? hy)
      · simp at hx

theorem keepN_le (keep : Int) (n : Nat) : keepN keep n ≤ n := Nat.min_le_right _ _

theorem Dk.log_at (d : Dk) {i n : Nat} (h : i < n) : (d.log n)[i]? = some ((d.ws i).1, (d.ws i).2.f) := by
  simp [Dk.log, List.getElem?_range h]

theorem Dk.log_rewr (d : Dk) (i : Nat) (f : Nat → Int) : (d.rewr i f).log (i + 1) = d.log i ++ [((d.ws i).1, f)] := by
  rw [Dk.log_succ]
  have e1 : (d.rewr i f).log i = d.log i := by
    unfold Dk.log
    exact List.map_congr_left fun q hq => by rw [show (d.rewr i f).ws q = d.ws q from updA_ne _ _ (by have := List.mem_range.1 hq; omega)]
  have e2 : (d.rewr i f).ws i = ((d.ws i).1, { (d.ws i).2 with f := f }) := updA_at _ _ _
  rw [e1, e2]

theorem p_back_any {B size count : Nat} {st : Int → Nat → Int} {l : Wl} {d : Dk} (h : Plain B size count st l d) (keep : Int) (torn : Bool) (w : World) (hD : DiskAt d w) :
    Calls Try.prog 16 #[.pointer (some ⟨d.b, d.y, none⟩), .int .i64 keep, .bool torn] w fun e w' => e = .returned (.tuple #[]) ∧ ∃ d', To B size count (backSt size st l (keepN keep l.length) torn) [] d d' w w' := by
  obtain ⟨z, hz⟩ : ∃ z, z = keepN keep l.length := ⟨_, rfl⟩
  rw [← hz]
  by_cases hc : torn = true ∧ 0 < z
  · obtain ⟨rfl, h0⟩ := hc
    obtain ⟨i, rfl⟩ : ∃ i, z = i + 1 := ⟨z - 1, by omega⟩
    have hl := h.len
    have hin : i < d.h.n := by have := keepN_le keep l.length; omega
    have e0 : backSt size st l (i + 1) true = foldW st (tornL size st l (i + 1)) := rfl
    rw [e0]
    refine (back_torn d keep w hD h.ok i (i + 1) rfl (by rw [hz, hl])).mono fun e w' ⟨he, k1, k2, k3, k4⟩ => ?_
    obtain ⟨e1, e2, e3, e4, e5, e6⟩ := d.h.backed_same
    have hst : ∀ q, (d.settled 0 i).st q = foldW st (l.take i) q := fun q => by
      show stK (settleK d.kept d.ws 0 i) q = _
      rw [stK_settle, ← h.log, Dk.log_take d (by omega)]
      exact foldW_st h.st _ _
    refine ⟨he, ((d.rewr i (d.tornB i)).settled 0 (i + 1)).withH d.h.backed, rfl, rfl, ⟨k2, rfl, rfl, e1.trans h.size, e2.trans h.count, fun k o hk => h.far k o (k4 k o hk), fun q => ?_, ?_⟩, k1, k3, fun k o hk => .inl (k4 k o hk)⟩
    · show stK (settleK (d.rewr i (d.tornB i)).kept (d.rewr i (d.tornB i)).ws 0 (i + 1)) q = _
      rw [stK_settle, Dk.log_rewr]
      show foldW (stK d.kept) _ q = _
      rw [foldW_st h.st]
      unfold tornL
      rw [Nat.add_sub_cancel, ← h.log, Dk.log_at d hin, Dk.log_take d (by omega)]
      simp only [Dk.tornB]
      rw [hst, ← h.log, Dk.log_take d (by omega), h.size]
    · show Dk.log _ d.h.backed.n = []
      rw [e4]; rfl
  · have e0 : backSt size st l z torn = foldW st (l.take z) := by
      unfold backSt
      have : (torn && Nat.blt 0 z) = false := by
        cases torn with
        | false => rfl
        | true =>
          cases hb : Nat.blt 0 z with
          | false => rfl
          | true => exact absurd ⟨rfl, Nat.lt_of_lt_of_le Nat.zero_lt_one (by simpa [Nat.blt] using hb)⟩ hc
      rw [this]; rfl
    rw [e0]
    refine p_back h keep torn w hD z hz ?_
    cases torn with
    | false => exact .inl rfl
    | true => exact .inr (by have : ¬ 0 < z := fun h0 => hc ⟨rfl, h0⟩; omega)

end Go.Proofs.Ytkjhpaeminegoaa
