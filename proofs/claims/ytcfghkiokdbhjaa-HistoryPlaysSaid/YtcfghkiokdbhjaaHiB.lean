/- The history's acts: great, awake; New. -/
import Derived.Test.YtcfghkiokdbhjaaHiA
import Derived.Test.YtcfghkiokdbhjaaHi4
import Derived.Test.YtcfghkiokdbhjaaEngK

namespace Go.Proofs.Ytcfghkiokdbhjaa
open Go.Eng

set_option maxHeartbeats 40000000 in
theorem awake_ok (w : World) : Calls Try.prog 26 #[] w fun e w' => e = .returned (.bool true) ∧ Chg (fun _ _ => False) w w' :=
  runA FALL_ok F26_ok 1000 true [] rfl rfl (by kernel_rfl) w

set_option maxHeartbeats 4000000 in
set_option maxRecDepth 100000 in
set_option cbv.maxSteps 100000000 in
theorem hnew_ok (f : Nat → Ent) (w : World) : Calls Try.prog 27 #[] w fun e w' => (∃ b y, e = .returned (.pointer (some ⟨b, y, none⟩)) ∧ w.heap.size ≤ b ∧ HistAt ⟨b, y, true, b, y, 0, 0, fun _ => 0, f⟩ w') ∧ Chg (fun _ _ => False) w w' := by
  refine X.begin (rg := []) (N := []) (ss := []) Try.func27 rfl B27_ok rfl rfl Sat.std0 ?_
  refine X.go T27_ok 300 _ rfl Try.results27 ?_
  conv => arg 2; cbv
  refine X.done T27_ok rfl (fun N w' v hN hS hv => ?_)
  obtain ⟨p, hp⟩ : ∃ p, N[0]? = some p := ⟨_, List.getElem?_eq_getElem (by rw [hS.len]; exact Nat.zero_lt_one)⟩
  have hv : v = .pointer (some ⟨p.b, p.o, none⟩) := by
    have : SV.den N (.own 0 0) = some v := hv
    simp [SV.den, hp] at this
    exact this.symm
  have hx : 10 ≤ p.x := hS.ext 0 _ p rfl hp rfl
  refine ⟨⟨p.b, p.o, by rw [hv], ?_, ⟨?_, fun c hc => ?_, fun j hj => (hS.room 0 _ p rfl hp rfl j (by omega)).2, fun j hj => by simp only at hj; omega, fun s hs => by simp only at hs; omega⟩⟩, hS.chg.none⟩
  · rcases hS.foot 0 _ p rfl hp rfl with h | h
    · exact h
    · obtain ⟨r, g, q, h1, _⟩ := h 0 (by omega)
      simp at h1
  · exact hS.at hp (j := 0) rfl rfl rfl
  · have hz : ∀ j, j < 10 → 1 ≤ j → w'.cell? ⟨p.b, p.o + j, none⟩ = some (.int .u64 0) := fun j hj h1 =>
      match j, h1 with
      | 1, _ => hS.at hp (j := 1) rfl rfl rfl
      | 2, _ => hS.at hp (j := 2) rfl rfl rfl
      | 3, _ => hS.at hp (j := 3) rfl rfl rfl
      | 4, _ => hS.at hp (j := 4) rfl rfl rfl
      | 5, _ => hS.at hp (j := 5) rfl rfl rfl
      | 6, _ => hS.at hp (j := 6) rfl rfl rfl
      | 7, _ => hS.at hp (j := 7) rfl rfl rfl
      | 8, _ => hS.at hp (j := 8) rfl rfl rfl
      | 9, _ => hS.at hp (j := 9) rfl rfl rfl
    have := hz (1 + c) (by omega) (by omega)
    rwa [← Nat.add_assoc] at this

set_option maxRecDepth 100000 in
set_option cbv.maxSteps 100000000 in
theorem hgreat_ok (po : Option Addr) (n cp : Nat) (w : World) (hl : HActsAt po n w) :
    Calls Try.prog 25 #[.slice po n cp] w fun e w' => (∃ b, e = .returned (.bool b) ∧ (b = false → n ≤ 60 ∧ ∀ i, i < n → ∃ (b x z : Nat) (e : HAct), po = some ⟨b, x, none⟩ ∧ z = x + i * 18 ∧ 0 ≤ e.c ∧
      (∀ (j : Nat) (v : Value), e.vals[j]? = some v → w.cell? ⟨b, z + j, none⟩ = some v) ∧ (∃ g, IntsIn e.vp e.vn g w) ∧ e.vn ≤ 50)) ∧ Chg (fun _ _ => False) w w' := by
  refine X.begin (rg := []) (N := []) (ss := [.slv po n cp]) Try.func25 rfl B25_ok rfl rfl Sat.std0 ?_
  refine X.go T25_ok 1000 _ rfl Try.results25 ?_
  conv => arg 2; cbv
  refine X.cond rfl (fun hc => ?_) (fun hc => ?_)
  · refine X.go T25_ok 1000 _ rfl Try.results25 ?_
    conv => arg 2; cbv
    refine X.done T25_ok rfl (fun N w' v hN hS hv => ?_)
    simp [resV, SV.den, SB.den] at hv
    exact ⟨⟨true, by rw [← hv], by simp⟩, hS.chg.none⟩
  · refine X.go T25_ok 1000 _ rfl Try.results25 ?_
    conv => arg 2; cbv
    simp only [SB.F, SI.den] at hc
    refine X.loop1 (fun (i : {i : Nat // i ≤ n ∧ ∀ j, j < i → ∃ (b x z : Nat) (e : HAct), po = some ⟨b, x, none⟩ ∧ z = x + j * 18 ∧ 0 ≤ e.c ∧
      (∀ (q : Nat) (v : Value), e.vals[q]? = some v → w.cell? ⟨b, z + q, none⟩ = some v) ∧ (∃ g, IntsIn e.vp e.vn g w) ∧ e.vn ≤ 50}) => ⟨[(0, .val (.slv po n cp)), (3, .val (.int .i64 (.nat i.1)))], []⟩) (fun i => n - i.1) (fun N a w' hN hf hS => ⟨⟨0, Nat.zero_le _, fun j hj => by omega⟩, ?_⟩) (fun i q hq => ?_)
    · exact At.same hN hf hS (Nat.zero_le _) ⟨⟨_, rfl, .inl ⟨rfl, rfl⟩⟩, ⟨_, rfl, .inr ⟨_, rfl, rfl⟩⟩, trivial⟩ trivial
    obtain ⟨i, hi, hall⟩ := i
    refine X.go T25_ok 1000 _ rfl Try.results25 ?_
    conv => arg 2; cbv
    refine X.cond rfl (fun hlt => ?_) (fun hge => ?_)
    · simp only [SB.T, SI.den] at hlt
      obtain ⟨b, x, y, e, hpo, hy, h0, hcell, hg⟩ := hl i (by omega)
      refine X.go T25_ok 1000 _ rfl Try.results25 ?_
      conv => arg 2; cbv
      refine X.idxSlv rfl rfl rfl rfl rfl Try.underlying67 Try.sizeOf73 i rfl (by omega) b x y hpo hy rfl ?_
      refine X.go T25_ok 1000 _ rfl Try.results25 ?_
      conv => arg 2; cbv
      refine X.load1 T25_ok (r := .slv e.vp e.vn e.vc) rfl rfl rfl rfl rfl rfl (fun N _ => ⟨_, rfl, by show elsewhere [] [] w b (y + 17) = _; rw [else0]; exact hcell 17 _ rfl⟩) rfl ?_
      refine X.go T25_ok 1000 _ rfl Try.results25 ?_
      conv => arg 2; cbv
      refine X.cond rfl (fun h50 => ?_) (fun h50 => ?_)
      · refine X.go T25_ok 1000 _ rfl Try.results25 ?_
        conv => arg 2; cbv
        refine X.done T25_ok rfl (fun N w' v hN hS hv => ?_)
        simp [resV, SV.den, SB.den] at hv
        exact ⟨⟨true, by rw [← hv], by simp⟩, hS.chg.none⟩
      · refine X.go T25_ok 1000 _ rfl Try.results25 ?_
        conv => arg 2; cbv
        simp only [SB.F, SI.den] at h50
        refine X.back (fun N a w' hN hf hS => hq ⟨i + 1, by omega, fun j hj => ?_⟩ a w' (by show n - (i + 1) < n - i; omega) ?_)
        · by_cases ej : j = i
          · subst ej; exact ⟨b, x, y, e, hpo, hy, h0, hcell, hg, by first | exact Int.ofNat_le.1 h50 | exact Int.ofNat_le.1 (Int.not_lt.1 h50)⟩
          · exact hall j (by omega)
        · exact At.same hN hf hS (Nat.zero_le _) ⟨⟨_, rfl, .inl ⟨rfl, rfl⟩⟩, ⟨_, rfl, .inr ⟨_, rfl, by simp [SV.den, SI.den, hwrap64s i (by omega)]⟩⟩, trivial⟩ trivial
    · simp only [SB.F, SI.den] at hge
      refine X.go T25_ok 1000 _ rfl Try.results25 ?_
      conv => arg 2; cbv
      refine X.done T25_ok rfl (fun N w' v hN hS hv => ?_)
      simp [resV, SV.den, SB.den] at hv
      exact ⟨⟨false, by rw [← hv], fun _ => ⟨by omega, fun j hj => hall j (by omega)⟩⟩, hS.chg.none⟩

end Go.Proofs.Ytcfghkiokdbhjaa
