/- The ring's laws: what is handed in. -/
import Derived.Test.YthaffebapmkppaaRi12
import Derived.Test.YthaffebapmkppaaLaw

namespace Go.Proofs.Ythaffebapmkppaa
open Go Go.Eng Go.ChangeShapes Go.WideShapes Go.ChangeAt Go.RowKit

theorem byte_wf {z : Int} (h : (Lit.int .u8 z).wf = true) : 0 ≤ z ∧ z < 256 := by
  simp [Lit.wf, IntKind.min, IntKind.max, IntKind.bits, IntKind.signed] at h
  omega

set_option maxRecDepth 100000 in
theorem kinds_u8 : kindsOf Try.prog 8 5 = some [.int .u8] := by kernel_rfl
set_option maxRecDepth 100000 in
theorem cells_u8 : Try.prog.cellsOf 5 = 1 := by kernel_rfl

theorem rd_cells {W : World} {b y e : Nat} {ks : List CK} (h : RdAt Try.prog W 0 b y e) (hk : kindsOf Try.prog 8 e = some ks) : ∃ cs, CellsOk Try.prog W 0 ks cs ∧ ∀ (j : Nat) (v : Value), cs[j]? = some v → W.cell? ⟨b, y + j, none⟩ = some v := by
  obtain ⟨_, cs, _, h2, h3⟩ := h
  exact ⟨cs, kindsOf_sound 8 e ks cs hk h3, h2⟩

theorem bytes_of {W : World} {v : Value} (h : CellOk Try.prog W 0 (.slice 5) v) : ∃ po n cp d, v = .slice po n cp ∧ InB po n d W ∧ n ≤ cp ∧ ∀ x ∈ d.toList, 0 ≤ x ∧ x < 256 := by
  obtain ⟨po, n, cp, rfl, hc, _, hr⟩ := h
  by_cases h0 : n = 0
  · subst h0
    exact ⟨po, 0, cp, #[], rfl, ⟨rfl, fun h => absurd h (Nat.lt_irrefl 0)⟩, hc, fun x hx => by simp at hx⟩
  · obtain ⟨b, y, hpo, hr⟩ := hr (by rw [cells_u8]; omega) (by omega)
    have cell : ∀ i, i < n → ∃ z : Int, W.cell? ⟨b, y + i, none⟩ = some (.int .u8 z) ∧ 0 ≤ z ∧ z < 256 := fun i hi => by
      have hr := hr i hi
      rw [cells_u8, Nat.mul_one] at hr
      obtain ⟨cs, hcs, hcell⟩ := rd_cells hr kinds_u8
      obtain ⟨v0, r0, rfl, h0, hcs⟩ := CellsOk.cons hcs
      obtain ⟨z, rfl, hz⟩ := h0
      exact ⟨z, by have := hcell 0 _ rfl; rwa [Nat.add_zero] at this, byte_wf hz⟩
    obtain ⟨d, hd1, hd2⟩ : ∃ d : Array Int, d.size = n ∧ ∀ i, i < n → W.cell? ⟨b, y + i, none⟩ = some (.int .u8 d[i]!) ∧ 0 ≤ d[i]! ∧ d[i]! < 256 := by
      refine ⟨((List.range n).map fun i => if h : i < n then (cell i h).choose else 0).toArray, by simp, fun i hi => ?_⟩
      have e : (((List.range n).map fun i => if h : i < n then (cell i h).choose else 0).toArray)[i]! = (cell i hi).choose := by simp [hi]
      rw [e]
      exact (cell i hi).choose_spec
    refine ⟨po, n, cp, d, rfl, ⟨hd1, fun _ => ⟨b, y, hpo, fun j hj => (hd2 j (by omega)).1⟩⟩, hc, fun x hx => ?_⟩
    obtain ⟨i, hi⟩ := List.mem_iff_getElem?.1 hx
    have hin : i < d.size := by simpa using (List.getElem?_eq_some_iff.1 hi).1
    have := hd2 i (by omega)
    rw [getElem!_pos d i hin] at this
    have hx2 : d[i] = x := by simpa [hin] using hi
    rw [hx2] at this
    exact this.2

end Go.Proofs.Ythaffebapmkppaa
