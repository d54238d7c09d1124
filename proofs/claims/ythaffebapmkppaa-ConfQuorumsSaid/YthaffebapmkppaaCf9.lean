/- Configurations: a quorum's others, and its like: the law ConfOther. -/
import Derived.Test.YthaffebapmkppaaCf8

namespace Go.Proofs.Ythaffebapmkppaa
open Go Go.Eng Go.Sort

/-! ### what is handed in -/
theorem kinds_conf : kindsOf Try.prog 8 35 = some [.int .u64, .slice 5, .slice 5] := by kernel_rfl
theorem nat_wf {z : Int} (h : (Lit.int .u64 z).wf = true) : ∃ n : Nat, z = n ∧ n < 2 ^ 64 := by
  have h : (decide (0 ≤ z) && decide (z ≤ 18446744073709551615)) = true := h
  simp only [Bool.and_eq_true, decide_eq_true_eq] at h
  exact ⟨z.toNat, by omega, by omega⟩
theorem conf_of {W : World} {v : Value} (h : ArgOk Try.prog W 35 v) : ∃ (C : Nat) (po pn : Option Addr) (no nn co cn : Nat) (o n : Array Int), v = .agg #[.int .u64 C, .slice po no co, .slice pn nn cn] ∧ InB po no o W ∧ InB pn nn n W ∧ (∀ x ∈ o.toList, 0 ≤ x ∧ x < 256) ∧ ∀ x ∈ n.toList, 0 ≤ x ∧ x < 256 := by
  obtain ⟨cs, rfl, hc⟩ := h.struct Try.underlying35 kinds_conf
  obtain ⟨v0, r0, rfl, h0, hc⟩ := CellsOk.cons hc
  obtain ⟨v1, r1, rfl, h1, hc⟩ := CellsOk.cons hc
  obtain ⟨v2, r2, rfl, h2, hc⟩ := CellsOk.cons hc
  have oend := CellsOk.nil hc; subst oend
  obtain ⟨z, rfl, hz⟩ := h0
  obtain ⟨C, rfl, _⟩ := nat_wf hz
  obtain ⟨po, no, co, o, rfl, ho, _, hbo⟩ := bytes_of h1
  obtain ⟨pn, nn, cn, n, rfl, hn, _, hbn⟩ := bytes_of h2
  exact ⟨C, po, pn, no, nn, co, cn, o, n, rfl, ho, hn, hbo, hbn⟩

end Go.Proofs.Ythaffebapmkppaa
