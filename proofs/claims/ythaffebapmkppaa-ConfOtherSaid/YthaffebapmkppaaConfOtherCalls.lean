/- ConfOther: whatever the arguments. -/
import Derived.Test.YthaffebapmkppaaCf9

namespace Go.Proofs.Ythaffebapmkppaa
open Go Go.Eng

theorem kinds_conf : kindsOf Try.prog 8 35 = some [.int .u64, .slice 5, .slice 5] := by kernel_rfl
theorem nat_wf {z : Int} (h : (Lit.int .u64 z).wf = true) : ∃ n : Nat, z = n ∧ n < 2 ^ 64 := by
  have h : (decide (0 ≤ z) && decide (z ≤ 18446744073709551615)) = true := h
  simp only [Bool.and_eq_true, decide_eq_true_eq] at h
  exact ⟨z.toNat, by omega, by omega⟩
theorem conf_of {W : World} {v : Value} (h : ArgOk Try.prog W 35 v) : ∃ (C : Nat) (po pn : Option Addr) (no nn co cn : Nat) (o n : Array Int), v = .agg #[.int .u64 C, .slice po no co, .slice pn nn cn] ∧ InB po no o W ∧ InB pn nn n W ∧ (∀ x ∈ o.toList, 0 ≤ x ∧ x < 256) ∧ ∀ x ∈ n.toList, 0 ≤ x ∧ x < 256 := by
  obtain ⟨cs, rfl, hc⟩ := h.struct Try.underlying35 kinds_conf
  obtain ⟨v0, r0, rfl, h0, hc⟩ := CellsOk.cons hc
  obtain ⟨v1, r1, rfl, h1, hc⟩ := CellsOk.cons hc
  obtain ⟨v2, r2, rfl, h2, hc⟩ := CellsOk.cons hc
  have oend := CellsOk.nil hc; subst oend
  obtain ⟨z, rfl, hz⟩ := h0
  obtain ⟨C, rfl, _⟩ := nat_wf hz
  obtain ⟨po, no, co, o, rfl, ho, _, hbo⟩ := bytes_of h1
  obtain ⟨pn, nn, cn, n, rfl, hn, _, hbn⟩ := bytes_of h2
  exact ⟨C, po, pn, no, nn, co, cn, o, n, rfl, ho, hn, hbo, hbn⟩

theorem confOther_calls (W : World) (args : Array Value) (hn : args.size = 4) (ha : ∀ (j : Nat) t v, Try.f8.params[j]? = some t → args[j]? = some v → ArgOk Try.prog W t v) :
    Calls Try.prog 8 args W fun e w' => e = .returned (.bool true) ∧ Chg (fun _ _ => False) W w' := by
  obtain ⟨a, b, c, d, rfl⟩ : ∃ a b c d, args = #[a, b, c, d] := ⟨args[0], args[1], args[2], args[3], by apply Array.ext (by simp [hn]); intro i h1 h2; match i, h1 with | 0, _ | 1, _ | 2, _ | 3, _ => rfl⟩
  obtain ⟨C, po, pn, no, nn, co, cn, o, n, rfl, ho, hIn, hbo, hbn⟩ := conf_of (ha 0 35 a rfl rfl)
  obtain ⟨key, rfl, _⟩ := (ha 1 5 b rfl rfl).int Try.underlying5
  obtain ⟨z, rfl, hz⟩ := (ha 2 33 c rfl rfl).int Try.underlying33
  obtain ⟨s, rfl, hs⟩ := nat_wf hz
  obtain ⟨z, rfl, hz⟩ := (ha 3 33 d rfl rfl).int Try.underlying33
  obtain ⟨m, rfl, hm⟩ := nat_wf hz
  exact other_ok C s m po pn no nn co cn o n key W hs hm ho hIn hbo hbn

end Go.Proofs.Ythaffebapmkppaa
