/- The document's history: Open, Undo. -/
import Derived.Test.YtcfghkiokdbhjaaHi12

namespace Go.Eng

/-- of a slice, whatever it is held as -/
theorem good_any {P : Program} {N0 : Nums} {j x ix d t e z m c sz b y : Nat} {sx r : SV} (hu : P.underlying t = some (.slice e)) (hq : ∀ w, (sizeOf e).run P w = .ok sz w) (hlt : z < m) (hs : ∀ N, N0.le N → sx.den N = some (.slice (some ⟨b, y, none⟩) m c)) (hr : ∀ N, N0.le N → r.den N = some (.pointer (some ⟨b, y + z * sz, none⟩))) :
    IdxG.good P N0 ⟨j, x, ix, d, t, z, sx, r⟩ := fun N hN => ⟨_, _, hs N hN, hr N hN, fun kd w => by
  simp [Instr.indexAt, asIntOf, run_underlying hu, Result.andThen, hlt, hq, addr_add]⟩

end Go.Eng

namespace Go.Proofs.Ytcfghkiokdbhjaa
open Go.Eng

theorem firstIs_one {n : Nat} {f : Nat → Ent} {cl r r' : Int} (h : FirstIs n f cl r) (h' : FirstIs n f cl r') : r = r' := by
  rcases h with ⟨rfl, h⟩ | ⟨i, hi, rfl, h1, h2⟩ <;> rcases h' with ⟨rfl, h'⟩ | ⟨i', hi', rfl, h1', h2'⟩
  · rfl
  · exact absurd h1' (h _ hi')
  · exact absurd h1 (h' _ hi)
  · rcases Nat.lt_trichotomy i i' with e | e | e
    · exact absurd h1 (h2' _ e)
    · rw [e]
    · exact absurd h1' (h2 _ e)

theorem firstIs_like {n : Nat} {f f' : Nat → Ent} {cl r : Int} (hl : ∀ i, i < n → (f i).like (f' i)) (h : FirstIs n f cl r) : FirstIs n f' cl r := by
  have hiff : ∀ i, i < n → ((f i).is cl ↔ (f' i).is cl) := fun i hi => by
    obtain ⟨p, c, e⟩ := hl i hi
    rw [e]; exact Iff.rfl
  rcases h with ⟨rfl, h⟩ | ⟨i, hi, rfl, h1, h2⟩
  · exact .inl ⟨rfl, fun i hi h' => h i hi ((hiff i hi).2 h')⟩
  · exact .inr ⟨i, hi, rfl, (hiff i hi).1 h1, fun j hj h' => h2 j hj ((hiff j (by omega)).2 h')⟩

set_option maxHeartbeats 40000000 in
set_option maxRecDepth 100000 in
set_option cbv.maxSteps 100000000 in
theorem ropen_ok (po : Option Addr) (n cp : Nat) (cl : Int) (f : Nat → Ent) (w : World) (hn : n ≤ 1000) (hE : EntsIn po n f w) :
    Calls Try.prog 37 #[.slice po n cp, .int .u8 cl] w fun e w' => (∃ r : Int, e = .returned (.int .i64 r) ∧ FirstIs n f cl r) ∧ Chg (fun _ _ => False) w w' := by
  refine X.begin (rg := []) (N := []) (ss := [.slv po n cp, .int .u8 (.v cl)]) Try.func37 rfl B37_ok rfl rfl Sat.std0 ?_
  refine X.go T37_ok 400 _ rfl Try.results37 ?_
  conv => arg 2; cbv
  refine X.loop1 (fun (i : {i : Nat // i ≤ n ∧ ∀ j, j < i → ¬ (f j).is cl}) => ⟨[(0, .val (.slv po n cp)), (1, .val (.int .u8 (.v cl))), (7, .val (.int .i64 (.nat n))), (8, .val (.int .i64 (.nat i.1)))], []⟩) (fun i => n - i.1) (fun N a w' hN hf hS => ⟨⟨0, Nat.zero_le _, fun j hj => absurd hj (Nat.not_lt_zero _)⟩, ?_⟩) (fun i q hq => ?_)
  · exact At.same hN hf hS (Nat.zero_le _) ⟨⟨_, rfl, .inl ⟨rfl, rfl⟩⟩, ⟨_, rfl, .inl ⟨rfl, rfl⟩⟩, ⟨_, rfl, .inl ⟨rfl, rfl⟩⟩, ⟨_, rfl, .inr ⟨_, rfl, rfl⟩⟩, trivial⟩ trivial
  obtain ⟨i, hi, hno⟩ := i
  refine X.go T37_ok 400 _ rfl Try.results37 ?_
  conv => arg 2; cbv
  refine X.cond rfl (fun hlt => ?_) (fun hge => ?_)
  · simp only [SB.T, SI.den] at hlt
    have hlt : i < n := by omega
    obtain ⟨b, y, z, hpo, hz, hcell⟩ := hE i hlt
    generalize he : f i = e at hcell
    have hno1 : ¬ e.is cl → ∀ j, j < i + 1 → ¬ (f j).is cl := fun h j hj => by
      by_cases ej : j = i
      · subst ej; rw [he]; exact h
      · exact hno j (by omega)
    refine X.see b z e.sv (fun j d hj => ?_) (by show 0 < 18; omega) (fun N _ hN => ?_)
    · obtain ⟨v, h1, h2⟩ := (SV.denL_get _ (e.den [])).2 j d hj
      exact ⟨v, h1, by show elsewhere [] [] w b (z + j) = _; rw [else0]; exact hcell j v h2⟩
    obtain rfl : N = [] := List.length_eq_zero_iff.1 hN
    have hr : ∀ N : Nums, Nums.le [⟨b, z, 0⟩] N → (SV.own 0 0).den N = some (.pointer (some ⟨b, y + i * 18, none⟩)) := fun N hN => by
      have := hN 0 _ rfl
      simp only [SV.den, this, hz, Nat.add_zero]
    show X (mkE Try.prog Try.f37 _ w (InR [] []) (elsewhere [] [] w) (fun _ _ => False) (fun _ => True) [⟨b, z, 0⟩] B37) _ _
    refine X.go T37_ok 400 _ rfl Try.results37 ?_
    conv => arg 2; cbv
    refine X.idxBy i (.own 0 0) rfl rfl rfl rfl rfl rfl (good_slv Try.underlying71 Try.sizeOf93 hpo hlt hr) rfl ?_
    refine X.go T37_ok 400 _ rfl Try.results37 ?_
    conv => arg 2; cbv
    refine X.lit 19 rfl (fun hc => ?_) (fun hc => ?_)
    · have hc : e.c = cl := hc
      refine X.bare rfl rfl ?_
      refine X.idxBy i (.own 0 0) rfl rfl rfl rfl rfl rfl (good_slv Try.underlying71 Try.sizeOf93 hpo hlt hr) rfl ?_
      refine X.go T37_ok 400 _ rfl Try.results37 ?_
      conv => arg 2; cbv
      refine X.cond rfl (fun hst => ?_) (fun hst => ?_)
      · have hst : e.st = 0 := hst
        refine X.go T37_ok 400 _ rfl Try.results37 ?_
        conv => arg 2; cbv
        refine X.done T37_ok rfl (fun N w' v hN hS hv => ?_)
        simp [resV, SV.den, SI.den] at hv
        exact ⟨⟨_, by rw [← hv], .inr ⟨i, hlt, rfl, by rw [he]; exact ⟨hc, hst⟩, hno⟩⟩, hS.chg.none⟩
      · have hst : ¬ e.st = 0 := hst
        refine X.go T37_ok 400 _ rfl Try.results37 ?_
        conv => arg 2; cbv
        refine X.back (fun N a w' hN hf hS => hq ⟨i + 1, by omega, hno1 fun h => hst h.2⟩ a w' (by show n - (i + 1) < n - i; omega) ?_)
        exact At.same (nil_le N) hf hS (Nat.zero_le _) ⟨⟨_, rfl, .inl ⟨rfl, rfl⟩⟩, ⟨_, rfl, .inl ⟨rfl, rfl⟩⟩, ⟨_, rfl, .inl ⟨rfl, rfl⟩⟩, ⟨_, rfl, .inr ⟨_, rfl, by simp [SV.den, SI.den, hwrap64s i (by omega)]⟩⟩, trivial⟩ trivial
    · have hc : ¬ e.c = cl := hc
      refine X.go T37_ok 400 _ rfl Try.results37 ?_
      conv => arg 2; cbv
      refine X.back (fun N a w' hN hf hS => hq ⟨i + 1, by omega, hno1 fun h => hc h.1⟩ a w' (by show n - (i + 1) < n - i; omega) ?_)
      exact At.same (nil_le N) hf hS (Nat.zero_le _) ⟨⟨_, rfl, .inl ⟨rfl, rfl⟩⟩, ⟨_, rfl, .inl ⟨rfl, rfl⟩⟩, ⟨_, rfl, .inl ⟨rfl, rfl⟩⟩, ⟨_, rfl, .inr ⟨_, rfl, by simp [SV.den, SI.den, hwrap64s i (by omega)]⟩⟩, trivial⟩ trivial
  · simp only [SB.F, SI.den] at hge
    have hin : i = n := by omega
    subst hin
    refine X.go T37_ok 400 _ rfl Try.results37 ?_
    conv => arg 2; cbv
    refine X.done T37_ok rfl (fun N w' v hN hS hv => ?_)
    simp [resV, SV.den, SI.den] at hv
    exact ⟨⟨_, by rw [← hv], .inl ⟨rfl, hno⟩⟩, hS.chg.none⟩

set_option maxHeartbeats 40000000 in
set_option maxRecDepth 100000 in
set_option cbv.maxSteps 100000000 in
theorem rundo_ok (po : Option Addr) (n cp : Nat) (i : Int) (f : Nat → Ent) (w : World) (hn : n ≤ 1000) (hcp : n ≤ cp) (hE : EntsIn po n f w) :
    Calls Try.prog 31 #[.slice po n cp, .int .i64 i] w fun e w' => (∃ n', e = .returned (.slice po n' cp) ∧ ((n' = n ∧ (n = 0 ∨ i ≠ (n : Int) - 1 ∨ ∃ j, j + 1 = n ∧ (f j).st ≠ 0)) ∨ (n' + 1 = n ∧ i = (n : Int) - 1 ∧ (f n').st = 0))) ∧ Chg (fun _ _ => False) w w' := by
  refine X.begin (rg := []) (N := []) (ss := [.slv po n cp, .int .i64 (.v i)]) Try.func31 rfl B31_ok rfl rfl Sat.std0 ?_
  refine X.go T31_ok 400 _ rfl Try.results31 ?_
  conv => arg 2; cbv
  refine X.lit 15 rfl (fun h => ?_) (fun h => ?_)
  · simp only [SB.T, SI.den, SB.den, hwrapsub n (by omega)] at h
    obtain ⟨j, hj⟩ : ∃ j, j + 1 = n := ⟨n - 1, by omega⟩
    have hij : i = (j : Nat) := by omega
    have hjn : j < n := by omega
    obtain ⟨b, y, z, hpo, hz, hcell⟩ := hE j hjn
    generalize he : f j = e at hcell
    refine X.see b z e.sv (fun j d hj => ?_) (by show 0 < 18; omega) (fun N _ hN => ?_)
    · obtain ⟨v, h1, h2⟩ := (SV.denL_get _ (e.den [])).2 j d hj
      exact ⟨v, h1, by show elsewhere [] [] w b (z + j) = _; rw [else0]; exact hcell j v h2⟩
    obtain rfl : N = [] := List.length_eq_zero_iff.1 hN
    have hr : ∀ N : Nums, Nums.le [⟨b, z, 0⟩] N → (SV.own 0 0).den N = some (.pointer (some ⟨b, y + j * 18, none⟩)) := fun N hN => by
      have := hN 0 _ rfl
      simp only [SV.den, this, hz, Nat.add_zero]
    show X (mkE Try.prog Try.f31 _ w (InR [] []) (elsewhere [] [] w) (fun _ _ => False) (fun _ => True) [⟨b, z, 0⟩] B31) _ _
    refine X.bare rfl rfl ?_
    refine X.idxBy j (.own 0 0) rfl rfl rfl rfl rfl hij (good_slv Try.underlying71 Try.sizeOf93 hpo hjn hr) rfl ?_
    refine X.go T31_ok 400 _ rfl Try.results31 ?_
    conv => arg 2; cbv
    refine X.cond rfl (fun hst => ?_) (fun hst => ?_)
    · have hst : e.st = 0 := hst
      refine X.go T31_ok 400 _ rfl Try.results31 ?_
      conv => arg 2; cbv
      refine X.cut rfl rfl rfl rfl rfl Try.underlying71 Try.sizeOf93 (z := j) hij (by omega) b y hpo rfl ?_
      refine X.go T31_ok 400 _ rfl Try.results31 ?_
      conv => arg 2; cbv
      refine X.done T31_ok rfl (fun N w' v hN hS hv => ?_)
      simp only [resV, SV.den, Option.some.injEq] at hv
      exact ⟨⟨j, by rw [← hv], .inr ⟨hj, by omega, by rw [he]; exact hst⟩⟩, hS.chg.none⟩
    · have hst : ¬ e.st = 0 := hst
      refine X.go T31_ok 400 _ rfl Try.results31 ?_
      conv => arg 2; cbv
      refine X.done T31_ok rfl (fun N w' v hN hS hv => ?_)
      simp only [resV, SV.den, Option.some.injEq] at hv
      exact ⟨⟨n, by rw [← hv], .inl ⟨rfl, .inr (.inr ⟨j, hj, by rw [he]; exact hst⟩)⟩⟩, hS.chg.none⟩
  · simp only [SB.F, SI.den, SB.den, hwrapsub n (by omega)] at h
    refine X.go T31_ok 400 _ rfl Try.results31 ?_
    conv => arg 2; cbv
    refine X.done T31_ok rfl (fun N w' v hN hS hv => ?_)
    simp only [resV, SV.den, Option.some.injEq] at hv
    exact ⟨⟨n, by rw [← hv], .inl ⟨rfl, by omega⟩⟩, hS.chg.none⟩

end Go.Proofs.Ytcfghkiokdbhjaa
