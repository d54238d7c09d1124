/- The history's functions: Undo. -/
import Derived.Test.YtcfghkiokdbhjaaHi7

namespace Go.Proofs.Ytcfghkiokdbhjaa
open Go.Eng

theorem hwrapsub (n : Nat) (h : n < 1000000) : IntKind.i64.wrap ((n : Int) - 1) = (n : Int) - 1 := by
  simp [IntKind.wrap, IntKind.bits, IntKind.signed]; omega

set_option maxHeartbeats 40000000 in
set_option maxRecDepth 100000 in
set_option cbv.maxSteps 100000000 in
theorem undo_out (hb hy : Nat) (po : Option Addr) (n cp : Nat) (i : Int) (w : World) (hn : n ≤ 1000) (hh : w.cell? ⟨hb, hy, none⟩ = some (.slice po n cp)) (hi : n = 0 ∨ i ≠ (n : Int) - 1) :
    Calls Try.prog 30 #[.pointer (some ⟨hb, hy, none⟩), .int .i64 i] w fun e w' => e = .returned (.tuple #[]) ∧ Chg (fun _ _ => False) w w' := by
  refine X.begin (rg := [⟨false, [.slv po n cp], none⟩]) (N := [⟨hb, hy, 1⟩]) (ss := [.own 0 0, .int .i64 (.v i)]) Try.func30 rfl B30_ok rfl rfl
    (Sat.std1 false (World.block_lt_of_cell? _ _ hh) (fun j c hj => ?_) (fun h => by cases h)) ?_
  · cases j with
    | zero => simp at hj; subst hj; exact ⟨_, rfl, hh⟩
    | succ j => simp at hj
  refine X.go T30_ok 400 _ rfl Try.results30 ?_
  conv => arg 2; cbv
  refine X.lit 24 rfl (fun _ => ?_) (fun hc => ?_)
  · refine X.go T30_ok 400 _ rfl Try.results30 ?_
    conv => arg 2; cbv
    refine X.done T30_ok rfl (fun N w' v hN hS hv => ?_)
    cases (show some (Value.tuple #[]) = some v from hv)
    exact ⟨rfl, hS.chg.ro1⟩
  · exfalso
    simp only [SB.F, SI.den, SB.den, hwrapsub n (by omega)] at hc
    omega

set_option maxHeartbeats 40000000 in
set_option maxRecDepth 100000 in
set_option cbv.maxSteps 100000000 in
theorem undo_shut (hb hy : Nat) (po : Option Addr) (n cp eb ey : Nat) (j : Nat) (e0 : Ent) (w : World) (hn : n ≤ 1000) (hh : w.cell? ⟨hb, hy, none⟩ = some (.slice po n cp)) (hj : j + 1 = n) (hpo : po = some ⟨eb, ey, none⟩)
    (he : ∀ (q : Nat) (v : Value), e0.vals[q]? = some v → w.cell? ⟨eb, ey + j * 18 + q, none⟩ = some v) (hst : e0.st ≠ 0) :
    Calls Try.prog 30 #[.pointer (some ⟨hb, hy, none⟩), .int .i64 (j : Nat)] w fun e w' => e = .returned (.tuple #[]) ∧ Chg (fun _ _ => False) w w' := by
  obtain ⟨z, hz⟩ : ∃ z, z = ey + j * 18 := ⟨_, rfl⟩
  rw [← hz] at he
  refine X.begin (rg := [⟨false, [.slv po n cp], none⟩, ⟨false, e0.sv, none⟩]) (N := [⟨hb, hy, 1⟩, ⟨eb, z, 18⟩]) (ss := [.own 0 0, .int .i64 (.nat j)]) Try.func30 rfl B30_ok rfl rfl
    (Sat.stdL ⟨⟨World.block_lt_of_cell? _ _ hh, rfl, fun j c hj => ?_, (fun h => by cases h), (fun h => by cases h)⟩, ⟨World.block_lt_of_cell? _ _ (he 0 _ rfl), rfl, fun j c hj => ?_, (fun h => by cases h), (fun h => by cases h)⟩, trivial⟩ ⟨⟨sep_ro rfl rfl, trivial⟩, trivial, trivial⟩) ?_
  · cases j with
    | zero => simp at hj; subst hj; exact ⟨_, rfl, hh⟩
    | succ j => simp at hj
  · obtain ⟨v, h1, h2⟩ := Ent.get e0 j c hj [⟨hb, hy, 1⟩, ⟨eb, z, 18⟩]
    exact ⟨v, h1, he j v h2⟩
  refine X.go T30_ok 400 _ rfl Try.results30 ?_
  conv => arg 2; cbv
  refine X.lit 24 rfl (fun hc => ?_) (fun _ => ?_)
  · exfalso
    simp only [SB.T, SI.den, SB.den, hwrapsub n (by omega)] at hc
    omega
  refine X.go T30_ok 400 _ rfl Try.results30 ?_
  conv => arg 2; cbv
  refine X.bare rfl rfl ?_
  refine X.idxBy j (.own 1 0) rfl rfl rfl rfl rfl rfl (good_slv Try.underlying71 Try.sizeOf93 hpo (by omega) fun N hN => ?_) rfl ?_
  · have := hN 1 _ rfl
    simp only [SV.den, this, hz, Nat.add_zero]
  refine X.go T30_ok 400 _ rfl Try.results30 ?_
  conv => arg 2; cbv
  refine X.cond rfl (fun _ => ?_) (fun hc => ?_)
  · refine X.go T30_ok 400 _ rfl Try.results30 ?_
    conv => arg 2; cbv
    refine X.done T30_ok rfl (fun N w' v hN hS hv => ?_)
    cases (show some (Value.tuple #[]) = some v from hv)
    refine ⟨rfl, hS.chg.mono fun k o _ h => ?_⟩
    rcases inR_cons h with ⟨h, _⟩ | h
    · cases h
    · rcases inR_cons h with ⟨h, _⟩ | h
      · cases h
      · exact inR_nil h
  · exfalso
    simp only [SB.F, SI.den, SB.den] at hc
    exact hst (by omega)

set_option maxHeartbeats 40000000 in
set_option maxRecDepth 100000 in
set_option cbv.maxSteps 100000000 in
theorem undo_open (hb hy : Nat) (po : Option Addr) (n cp eb ey : Nat) (j c : Nat) (s : Int) (e0 : Ent) (w : World) (hn : n ≤ 1000) (hh : w.cell? ⟨hb, hy, none⟩ = some (.slice po n cp)) (hj : j + 1 = n) (hcp : n ≤ cp) (hpo : po = some ⟨eb, ey, none⟩)
    (he : ∀ (q : Nat) (v : Value), e0.vals[q]? = some v → w.cell? ⟨eb, ey + j * 18 + q, none⟩ = some v) (hst : e0.st = 0) (hc : e0.c = (c : Nat)) (hc9 : c < 9) (hs : w.cell? ⟨hb, hy + 1 + c, none⟩ = some (.int .u64 s))
    (hfz : w.frozen? ⟨hb, hy, none⟩ = false) (hfz2 : w.frozen? ⟨hb, hy + 1 + c, none⟩ = false) (hap : ∀ q, q < 18 → ¬ (hb = eb ∧ hy = ey + j * 18 + q)) (hap2 : ∀ q, q < 18 → ¬ (hb = eb ∧ hy + 1 + c = ey + j * 18 + q)) :
    Calls Try.prog 30 #[.pointer (some ⟨hb, hy, none⟩), .int .i64 (j : Nat)] w fun e w' => (e = .returned (.tuple #[]) ∧ w'.cell? ⟨hb, hy, none⟩ = some (.slice po j cp) ∧ w'.cell? ⟨hb, hy + 1 + c, none⟩ = some (.int .u64 (IntKind.u64.wrap (s - 1)))) ∧
      Chg (fun k o => (k = hb ∧ o = hy) ∨ (k = hb ∧ o = hy + 1 + c)) w w' := by
  obtain ⟨z, hz⟩ : ∃ z, z = ey + j * 18 := ⟨_, rfl⟩
  rw [← hz] at he hap hap2
  obtain ⟨y, hy1⟩ : ∃ y, y = hy + 1 + c := ⟨_, rfl⟩
  rw [← hy1] at hs hfz2 hap2 ⊢
  obtain ⟨Q, hQ⟩ : ∃ Q : Ending → World → Prop, Q = fun e w' => (e = .returned (.tuple #[]) ∧ w'.cell? ⟨hb, hy, none⟩ = some (.slice po j cp) ∧ w'.cell? ⟨hb, y, none⟩ = some (.int .u64 (IntKind.u64.wrap (s - 1)))) ∧
      Chg (fun k o => (k = hb ∧ o = hy) ∨ (k = hb ∧ o = y)) w w' := ⟨_, rfl⟩
  rw [← hQ]
  have hlt : ∀ k o, InR [⟨hb, hy, 1⟩, ⟨hb, y, 1⟩, ⟨eb, z, 18⟩] [⟨true, [.slv po n cp], none⟩, ⟨true, [.int .u64 (.v s)], none⟩, ⟨false, e0.sv, none⟩] k o → (k = hb ∧ o = hy) ∨ (k = hb ∧ o = y) := fun k o h => by
    rcases inR_cons h with ⟨_, h1, h2, h3⟩ | h
    · simp only at h1 h2 h3; exact .inl ⟨h1, by omega⟩
    · rcases inR_cons h with ⟨_, h1, h2, h3⟩ | h
      · simp only at h1 h2 h3; exact .inr ⟨h1, by omega⟩
      · rcases inR_cons h with ⟨h, _⟩ | h
        · cases h
        · exact absurd h inR_nil
  refine X.begin (rg := [⟨true, [.slv po n cp], none⟩, ⟨true, [.int .u64 (.v s)], none⟩, ⟨false, e0.sv, none⟩]) (N := [⟨hb, hy, 1⟩, ⟨hb, y, 1⟩, ⟨eb, z, 18⟩]) (ss := [.own 0 0, .int .i64 (.nat j)]) Try.func30 rfl B30_ok rfl rfl
    (Sat.stdL ⟨⟨World.block_lt_of_cell? _ _ hh, rfl, fun j c hj => ?_, fun _ => Nat.le_refl _, fun _ j hj => ?_⟩, ⟨World.block_lt_of_cell? _ _ hs, rfl, fun j c hj => ?_, fun _ => Nat.le_refl _, fun _ j hj => ?_⟩, ⟨World.block_lt_of_cell? _ _ (he 0 _ rfl), rfl, fun j c hj => ?_, (fun h => by cases h), (fun h => by cases h)⟩, trivial⟩
      ⟨⟨fun _ j j' hj hj' h => ?_, fun _ j j' hj hj' h => ?_, trivial⟩, ⟨fun _ j j' hj hj' h => ?_, trivial⟩, trivial, trivial⟩) ?_
  · cases j with
    | zero => simp at hj; subst hj; exact ⟨_, rfl, hh⟩
    | succ j => simp at hj
  · have hj : j < 1 := hj
    obtain rfl : j = 0 := by omega
    simp only [Nat.add_zero]
    exact ⟨by rw [hh]; rfl, hfz⟩
  · cases j with
    | zero => simp at hj; subst hj; exact ⟨_, rfl, hs⟩
    | succ j => simp at hj
  · have hj : j < 1 := hj
    obtain rfl : j = 0 := by omega
    simp only [Nat.add_zero]
    exact ⟨by rw [hs]; rfl, hfz2⟩
  · obtain ⟨v, h1, h2⟩ := Ent.get e0 j c hj [⟨hb, hy, 1⟩, ⟨hb, y, 1⟩, ⟨eb, z, 18⟩]
    exact ⟨v, h1, he j v h2⟩
  · have hj : j < 1 := hj
    have hj' : j' < 1 := hj'
    simp only at h
    omega
  · have hj : j < 1 := hj
    have hj' : j' < 18 := hj'
    simp only at h
    exact hap j' hj' ⟨h.1, by omega⟩
  · have hj : j < 1 := hj
    have hj' : j' < 18 := hj'
    simp only at h
    exact hap2 j' hj' ⟨h.1, by omega⟩
  refine X.go T30_ok 400 _ rfl Try.results30 ?_
  conv => arg 2; cbv
  refine X.lit 24 rfl (fun hc => ?_) (fun _ => ?_)
  · exfalso
    simp only [SB.T, SI.den, SB.den, hwrapsub n (by omega)] at hc
    omega
  refine X.go T30_ok 400 _ rfl Try.results30 ?_
  conv => arg 2; cbv
  refine X.bare rfl rfl ?_
  refine X.idxBy j (.own 2 0) rfl rfl rfl rfl rfl rfl (good_slv Try.underlying71 Try.sizeOf93 hpo (by omega) fun N hN => ?_) rfl ?_
  · have := hN 2 _ rfl
    simp only [SV.den, this, hz, Nat.add_zero]
  refine X.go T30_ok 400 _ rfl Try.results30 ?_
  conv => arg 2; cbv
  refine X.cond rfl (fun hc => ?_) (fun _ => ?_)
  · exfalso
    simp only [SB.T, SI.den, SB.den] at hc
    exact hc hst
  refine X.go T30_ok 400 _ rfl Try.results30 ?_
  conv => arg 2; cbv
  refine X.drawnO T30_ok noCall (idxG 62 [⟨6, 39, 40, 41, 71, j, .slv po n cp, .own 2 0⟩, ⟨12, 46, 44, 47, 137, c, .own 0 1, .own 1 0⟩, ⟨17, 51, 44, 52, 137, c, .own 0 1, .own 1 0⟩]) rfl noCall_ok (idxG_ok _ rfl (fun q hq => ?_)) 62 rfl ?_
  · have hr : ∀ N : Nums, Nums.le [⟨hb, hy, 1⟩, ⟨hb, y, 1⟩, ⟨eb, z, 18⟩] N → (SV.own 2 0).den N = some (.pointer (some ⟨eb, ey + j * 18, none⟩)) := fun N hN => by
      have := hN 2 _ rfl
      simp only [SV.den, this, hz, Nat.add_zero]
    have hr1 : ∀ N : Nums, Nums.le [⟨hb, hy, 1⟩, ⟨hb, y, 1⟩, ⟨eb, z, 18⟩] N → (SV.own 0 1).den N = some (.pointer (some ⟨hb, hy + 1, none⟩)) := fun N hN => by
      have := hN 0 _ rfl
      simp only [SV.den, this]
    have hr2 : ∀ N : Nums, Nums.le [⟨hb, hy, 1⟩, ⟨hb, y, 1⟩, ⟨eb, z, 18⟩] N → (SV.own 1 0).den N = some (.pointer (some ⟨hb, hy + 1 + c * 1, none⟩)) := fun N hN => by
      have := hN 1 _ rfl
      simp only [SV.den, this, hy1, Nat.add_zero, Nat.mul_one]
    simp only [List.mem_cons, List.mem_nil_iff, or_false] at hq
    rcases hq with rfl | rfl | rfl
    · exact good_slv Try.underlying71 Try.sizeOf93 hpo (by omega) hr
    · exact good_arr Try.underlying137 Try.sizeOf27 hc9 hr1 hr2
    · exact good_arr Try.underlying137 Try.sizeOf27 hc9 hr1 hr2
  generalize hfin : (fun s' => X (std Try.prog Try.f30 Q w [⟨hb, hy, 1⟩, ⟨hb, y, 1⟩, ⟨eb, z, 18⟩] [⟨true, [.slv po n cp], none⟩, ⟨true, [.int .u64 (.v s)], none⟩, ⟨false, e0.sv, none⟩] B30) _ s') = fin
  conv => cbv
  repeat (first | refine ⟨rfl, ?_⟩ | refine ⟨⟨_, _, rfl, rfl⟩, ?_⟩ | refine ⟨⟨_, _, rfl, hc⟩, ?_⟩)
  subst hfin
  show X _ _ _
  refine X.go T30_ok 400 _ rfl Try.results30 ?_
  conv => arg 2; cbv
  refine X.cut rfl rfl rfl rfl rfl Try.underlying71 Try.sizeOf93 (z := j) rfl (by omega) eb ey hpo rfl ?_
  refine X.go T30_ok 400 _ rfl Try.results30 ?_
  conv => arg 2; cbv
  refine X.over T30_ok rfl (fun N w' v hN hS hv => ?_)
  cases (show some (Value.tuple #[]) = some v from hv)
  rw [hQ]
  refine ⟨⟨rfl, ?_, ?_⟩, hS.chg.mono fun k o _ h => hlt k o h⟩
  · exact hS.row (r := 0) rfl (hN 0 _ rfl) rfl 0 _ rfl
  · exact hS.row (r := 1) rfl (hN 1 _ rfl) rfl 0 _ rfl

end Go.Proofs.Ytcfghkiokdbhjaa
