/- The sector's functions: New. -/
import Derived.Test.YtkjhpaeminegoaaSe11

namespace Go.Proofs.Ytkjhpaeminegoaa
open Go.Eng

/-- a new disk -/
def newH (size count m : Nat) : Hd := ⟨size, count, m, none, 0, 0, false, 0, false, 0⟩
def newDk (b y size count m : Nat) : Dk := ⟨b, y, newH size count m, 0, 0, fun _ => (0, ⟨0, 0, 0, fun _ => 0⟩), fun _ => none⟩

theorem newDk_ok {b y size count m : Nat} (hs : 64 ≤ size ∧ size ≤ 512) (hc : 1 ≤ count ∧ count ≤ 4096) : (newDk b y size count m).Ok := by
  have nr : ∀ k o, ¬ (newDk b y size count m).rowD k o := fun k o ⟨_, h2, h3⟩ => by
    have h3 : o < 0 + 0 * 2 := h3
    omega
  exact ⟨⟨hs, hc, Nat.zero_le _, .inl ⟨rfl, rfl, rfl⟩, fun i hi => absurd hi (Nat.not_lt_zero _), fun k o _ h => nr k o h, fun i hi => absurd hi (Nat.not_lt_zero _), fun q u hq => (by cases hq), fun i _ hi => absurd hi (Nat.not_lt_zero _)⟩, fun i _ _ hi => absurd hi (Nat.not_lt_zero _)⟩

theorem newDk_D {b y size count m k o : Nat} (h : (newDk b y size count m).D k o) : k = b ∨ k = m := by
  rcases h with h | h | ⟨_, h2, h3⟩ | ⟨i, hi, h⟩ | ⟨q, u, hq, h⟩
  · exact .inl h.1
  · exact .inr h
  · have h3 : o < 0 + 0 * 2 := h3
    omega
  · exact absurd hi (Nat.not_lt_zero _)
  · cases hq

def sizesOk (size count : Int) : Prop := 64 ≤ size ∧ size ≤ 512 ∧ 1 ≤ count ∧ count ≤ 4096

set_option maxHeartbeats 8000000 in
set_option maxRecDepth 100000 in
set_option cbv.maxSteps 100000000 in
theorem new_bad (size count : Int) (w : World) (hz : ¬ sizesOk size count) :
    Calls Try.prog 12 #[.int .i64 size, .int .i64 count] w fun e w' => e = .returned (.tuple #[.pointer none, .int .i64 1]) ∧ Chg (fun _ _ => False) w w' := by
  refine X.begin (rg := []) (N := []) (ss := [.int .i64 (.v size), .int .i64 (.v count)]) Try.func12 rfl B12_ok rfl rfl Sat.std0 ?_
  refine X.go T12_ok 400 _ rfl Try.results12 ?_
  conv => arg 2; cbv
  refine X.cond rfl (fun _ => ?_) (fun hc => ?_)
  · refine X.go T12_ok 400 _ rfl Try.results12 ?_
    conv => arg 2; cbv
    refine X.done T12_ok rfl (fun N w' v hN hS hv => ?_)
    cases hv
    exact ⟨rfl, hS.chg.mono fun k o _ h => inR_nil h⟩
  · exfalso
    simp only [SB.F, SI.den] at hc
    unfold sizesOk at hz
    omega

set_option maxHeartbeats 8000000 in
set_option maxRecDepth 100000 in
set_option cbv.maxSteps 100000000 in
theorem new_good (size count : Nat) (w : World) (hz : sizesOk size count) :
    Calls Try.prog 12 #[.int .i64 (size : Int), .int .i64 (count : Int)] w fun e w' => ∃ b y m, e = .returned (.tuple #[.pointer (some ⟨b, y, none⟩), .int .i64 0]) ∧ w.heap.size ≤ b ∧ w.heap.size ≤ m ∧ DiskAt (newDk b y size count m) w' ∧ Chg (fun _ _ => False) w w' := by
  obtain ⟨Q, hQ⟩ : ∃ Q : Ending → World → Prop, Q = fun e w' => ∃ b y m, e = .returned (.tuple #[.pointer (some ⟨b, y, none⟩), .int .i64 0]) ∧ w.heap.size ≤ b ∧ w.heap.size ≤ m ∧ DiskAt (newDk b y size count m) w' ∧ Chg (fun _ _ => False) w w' := ⟨_, rfl⟩
  rw [← hQ]
  refine X.begin (rg := []) (N := []) (ss := [.int .i64 (.nat size), .int .i64 (.nat count)]) Try.func12 rfl B12_ok rfl rfl Sat.std0 ?_
  refine X.go T12_ok 400 _ rfl Try.results12 ?_
  conv => arg 2; cbv
  refine X.cond rfl (fun hc => ?_) (fun _ => ?_)
  · exfalso
    simp only [SB.T, SI.den] at hc
    unfold sizesOk at hz
    omega
  refine X.go T12_ok 400 _ rfl Try.results12 ?_
  conv => arg 2; cbv
  refine X.newR (.map #[] 0) trivial (fun b => .map (some b)) (fun _ => rfl) rfl rfl (fun N a w1 hN hf hS => rfl) (fun b => rfl) (fun m hm hmi hmD => ?_)
  show X (mkE Try.prog Try.f12 Q w (InR [] []) (elsewhere [] [] w) (fun k o => False ∨ k = m) (fun w => True ∧ objAt w m = some (.map #[] 0)) [] B12) _ _
  refine X.go T12_ok 400 _ rfl Try.results12 ?_
  conv => arg 2; cbv
  refine X.done T12_ok rfl (fun N w' v hN hS hv => ?_)
  have hS0 := hS
  obtain ⟨p, hp⟩ : ∃ p, N[0]? = some p := ⟨_, List.getElem?_eq_getElem (by rw [hS.len]; simp)⟩
  have hv' : Value.tuple #[.pointer (some ⟨p.b, p.o, none⟩), .int .i64 0] = v := by simpa [resV, SV.den, SV.denL, hp, SI.den] using hv
  subst hv'
  rw [hQ]
  have hx := hS.ext 0 _ p rfl hp rfl
  have hro := hS.room 0 _ p rfl hp rfl
  have hfr : w.heap.size ≤ p.b := by
    rcases hS.foot 0 _ p rfl hp rfl with h | h
    · exact h
    · exact absurd (h 0 (by simp at hx; omega)) inR_nil
  refine ⟨p.b, p.o, m, rfl, hfr, hm, ⟨Nat.le_refl _, fun j v hj => ?_, fun j hj => ?_, ?_, fun o ho => ?_, fun i hi => absurd hi (Nat.not_lt_zero _), fun i hi => absurd hi (Nat.not_lt_zero _), fun q u hq => (by cases hq)⟩, hS.chg.mono fun k o _ h => inR_nil h⟩
  · exact hS.row (vs := (newH size count m).vals) rfl hp rfl j v hj
  · exact (hro j (by simp at hx; omega)).2
  · obtain ⟨_, h⟩ := hS.res
    exact ⟨#[], 0, heap_objAt h, by simp [IntKeys], fun i => rfl⟩
  · exact absurd ho (by show ¬ o < 0 * 2; omega)

end Go.Proofs.Ytkjhpaeminegoaa
