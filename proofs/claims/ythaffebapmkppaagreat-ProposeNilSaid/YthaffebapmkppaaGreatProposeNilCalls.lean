/- Configurations: rings; quorums. Configurations: rows joined (slices.Grow, slices.Concat). Configurations: all keepers. Configurations: all keepers; the law's helpers. Configurations: a quorum's others, and its like: the law ConfOther. ProposeNil: whatever the arguments. -/
import Derived.Test.YthaffebapmkppaaGreatCf4
import Derived.Test.YthaffebapmkppaaGreatPn2

namespace Go.Proofs.YthaffebapmkppaaGreat
open Go Go.Eng Go.Sort

/-- bytes that are new, in that memory -/
def BytNew (l : List Int) (s0 : Nat) (M : Mem) (p : Option Addr) (c : Nat) : Prop := l.length ≤ c ∧ (l = [] ∧ p = none ∧ c = 0 ∨ l ≠ [] ∧ ∃ b y, p = some ⟨b, y, none⟩ ∧ s0 ≤ b ∧ ∀ j, j < l.length → M b (y + j) = some (.int .u8 l[j]!))
theorem BytNew.mono {l : List Int} {s0 s1 : Nat} {M M' : Mem} {p : Option Addr} {c : Nat} (h : BytNew l s0 M p c) (hs : s1 ≤ s0) (hM : ∀ k o v, s0 ≤ k → M k o = some v → M' k o = some v) : BytNew l s1 M' p c := ⟨h.1, h.2.imp id fun ⟨hne, b, y, h1, h2, h3⟩ => ⟨hne, b, y, h1, Nat.le_trans hs h2, fun j hj => hM _ _ _ h2 (h3 j hj)⟩⟩
theorem BytRet.new {l : List Int} {w w' : World} {e : Ending} (h : BytRet l w e w') : ∃ p c, e = .returned (.slice p l.length c) ∧ BytNew l w.heap.size (wm w') p c ∧ Chg (fun _ _ => False) w w' := by
  obtain ⟨p, c, he, hc, hr, hch⟩ := h
  refine ⟨p, c, he, ⟨hc, ?_⟩, hch⟩
  rcases hr with h | ⟨hne, b, o, h1, h2, h3⟩
  · exact .inl h
  · refine .inr ⟨hne, b, o, h1, h2, fun j hj => ?_⟩
    have := (h3 j (by simpa using hj)).1
    simpa [wm, hj] using this
end Go.Proofs.YthaffebapmkppaaGreat

namespace Go.Proofs.YthaffebapmkppaaGreat
open Go Go.Eng Go.Sort

end Go.Proofs.YthaffebapmkppaaGreat

namespace Go.Proofs.YthaffebapmkppaaGreat
open Go Go.Eng Go.Sort

end Go.Proofs.YthaffebapmkppaaGreat

namespace Go.Proofs.YthaffebapmkppaaGreat
open Go Go.Eng Go.Sort

end Go.Proofs.YthaffebapmkppaaGreat

namespace Go.Proofs.YthaffebapmkppaaGreat
open Go Go.Eng Go.Sort

/-! ### what is handed in -/
theorem kinds_conf : kindsOf Tryz.prog 8 25 = some [.int .u64, .slice 5, .slice 5] := by kernel_rfl
theorem nat_wf {z : Int} (h : (Lit.int .u64 z).wf = true) : ∃ n : Nat, z = n ∧ n < 2 ^ 64 := by
  have h : (decide (0 ≤ z) && decide (z ≤ 18446744073709551615)) = true := h
  simp only [Bool.and_eq_true, decide_eq_true_eq] at h
  exact ⟨z.toNat, by omega, by omega⟩
theorem conf_of {W : World} {v : Value} (h : ArgOk Tryz.prog W 25 v) : ∃ (C : Nat) (po pn : Option Addr) (no nn co cn : Nat) (o n : Array Int), v = .agg #[.int .u64 C, .slice po no co, .slice pn nn cn] ∧ InB po no o W ∧ InB pn nn n W ∧ (∀ x ∈ o.toList, 0 ≤ x ∧ x < 256) ∧ ∀ x ∈ n.toList, 0 ≤ x ∧ x < 256 := by
  obtain ⟨cs, rfl, hc⟩ := h.struct Tryz.underlying25 kinds_conf
  obtain ⟨v0, r0, rfl, h0, hc⟩ := CellsOk.cons hc
  obtain ⟨v1, r1, rfl, h1, hc⟩ := CellsOk.cons hc
  obtain ⟨v2, r2, rfl, h2, hc⟩ := CellsOk.cons hc
  have oend := CellsOk.nil hc; subst oend
  obtain ⟨z, rfl, hz⟩ := h0
  obtain ⟨C, rfl, _⟩ := nat_wf hz
  obtain ⟨po, no, co, o, rfl, ho, _, hbo⟩ := bytes_of h1
  obtain ⟨pn, nn, cn, n, rfl, hn, _, hbn⟩ := bytes_of h2
  exact ⟨C, po, pn, no, nn, co, cn, o, n, rfl, ho, hn, hbo, hbn⟩

end Go.Proofs.YthaffebapmkppaaGreat

namespace Go.Proofs.YthaffebapmkppaaGreat
open Go Go.Eng

theorem proposeNil_calls (W : World) (args : Array Value) (hn : args.size = 4) (ha : ∀ (j : Nat) t v, Tryz.f6.params[j]? = some t → args[j]? = some v → ArgOk Tryz.prog W t v) :
    Calls Tryz.prog 6 args W fun e w' => e = .returned (.bool true) ∧ Chg (fun _ _ => False) W w' := by
  obtain ⟨a, b, c, d, rfl⟩ : ∃ a b c d, args = #[a, b, c, d] := ⟨args[0], args[1], args[2], args[3], by apply Array.ext (by simp [hn]); intro i h1 h2; match i, h1 with | 0, _ | 1, _ | 2, _ | 3, _ => rfl⟩
  obtain ⟨o, rfl⟩ := arg_op (ha 0 73 a rfl rfl)
  obtain ⟨C, po, pn, no, nn, co, cn, _, _, rfl, _⟩ := conf_of (ha 1 25 b rfl rfl)
  obtain ⟨key, rfl, _⟩ := (ha 2 5 c rfl rfl).int Tryz.underlying5
  obtain ⟨x, vs, rfl, hx⟩ := arg_msg (ha 3 56 d rfl rfl)
  obtain ⟨m, rfl, hm⟩ := MsgP.cells hx
  exact proposeNil_ok o C po pn no nn co cn key x m W hm

end Go.Proofs.YthaffebapmkppaaGreat
