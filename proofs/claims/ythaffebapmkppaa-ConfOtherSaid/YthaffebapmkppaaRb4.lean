/- The reference's Of; whether nodes may be. -/
import Derived.Test.YthaffebapmkppaaRb3

namespace Go.Proofs.Ythaffebapmkppaa
open Go Go.Eng Go.Sort

theorem keepL_nodup {L : List (Int × Int)} (h : Rise L) (key many : Int) : (keepL L key many).Nodup := by
  rw [keepL_eq h]
  exact (dd_nodup _ _ List.nodup_nil).sublist (List.take_sublist _ _)
theorem ofL_lt (d : Array Int) (key : Int) : (ofL d key).Pairwise (· < ·) := by
  have hnd : (ofL d key).Nodup := (ofL_perm d key).nodup_iff.2 (keepL_nodup (ringP_rise d) key 3)
  obtain ⟨a, ha⟩ : ∃ a, a = srtA (keepL (ringP d) key 3).toArray := ⟨_, rfl⟩
  have hle := srtA_le (keepL (ringP d) key 3).toArray
  have e : ofL d key = a.toList := by rw [ha]; rfl
  rw [← ha] at hle
  rw [e] at hnd ⊢
  refine List.pairwise_iff_getElem.2 fun i j hi hj hij => ?_
  have h1 := hle i j (by omega) (by simpa using hj)
  rw [getElem!_pos a i (by simpa using hi), getElem!_pos a j (by simpa using hj)] at h1
  have h2 := List.pairwise_iff_getElem.1 hnd i j hi hj hij
  simp only [Array.getElem_toList] at h2 ⊢
  omega
/-! ### may nodes be? -/
def mayP (d : Array Int) (k : Nat) : Prop := ∀ i, i < k → d[i]! < 64 ∧ (0 < i → d[i - 1]! < d[i]!)
theorem mayP_succ {d : Array Int} {k : Nat} : mayP d (k + 1) ↔ mayP d k ∧ d[k]! < 64 ∧ (0 < k → d[k - 1]! < d[k]!) := by
  constructor
  · exact fun h => ⟨fun i hi => h i (by omega), h k (by omega)⟩
  · rintro ⟨h1, h2⟩ i hi
    rcases Nat.lt_or_ge i k with h | h
    · exact h1 i h
    · have : i = k := by omega
      subst this
      exact h2
theorem mayP_mono {d : Array Int} {j k : Nat} (h : mayP d k) (hj : j ≤ k) : mayP d j := fun i hi => h i (by omega)

set_option maxHeartbeats 8000000 in
set_option maxRecDepth 100000 in
set_option cbv.maxSteps 100000000 in
theorem may_ok (p : Option Addr) (n c : Nat) (d : Array Int) (w : World) (hle : n ≤ 100000) (hA : InB p n d w) : Calls Try.prog 19 #[.slice p n c] w fun e w' => e = .returned (.bool (B (mayP d n))) ∧ Chg (fun _ _ => False) w w' := by
  have hn := hA.1
  obtain ⟨Q, hQ⟩ : ∃ Q : Ending → World → Prop, Q = fun e w' => e = .returned (.bool (B (mayP d n))) ∧ Chg (fun _ _ => False) w w' := ⟨_, rfl⟩
  rw [← hQ]
  refine X.begin (rg := []) (N := []) (ss := [.slv p n c]) Try.func19 rfl B19_ok rfl rfl Sat.std0 ?_
  refine X.go T19_ok 400 _ rfl Try.results19 ?_
  conv => arg 2; cbv
  refine X.loop (fun _ : {i : Nat // i ≤ n ∧ mayP d i} => mkE Try.prog Try.f19 Q w (InR [] []) (elsewhere [] [] w) (fun _ _ => False) (fun _ => True) [] B19)
    (fun g => ⟨[(0, .val (.slv p n c)), (5, .val (.slv p n c)), (6, .val (.int .i64 (.nat n))), (7, .val (.int .i64 (.nat g.1)))], []⟩) (fun g => n - g.1) (fun _ => ⟨rfl, rfl, rfl, rfl⟩) (fun N ac w' hN hf hS => ⟨⟨0, Nat.zero_le _, fun i hi => absurd hi (Nat.not_lt_zero i)⟩, ?_⟩) (fun g q hq => ?_)
  · exact At.again hf hS (by repeat first | exact trivial | refine ⟨⟨_, rfl, .inl ⟨rfl, rfl⟩⟩, ?_⟩ | refine ⟨⟨_, rfl, .inr ⟨_, rfl, rfl⟩⟩, ?_⟩ | refine ⟨⟨_, rfl, .inr ⟨_, rfl, by simp (disch := omega) [SV.den, SI.den, wrapU, wrapD] <;> omega⟩⟩, ?_⟩) trivial
  obtain ⟨i, hi, hmay⟩ := g
  show X (mkE Try.prog Try.f19 Q w (InR [] []) (elsewhere [] [] w) (fun _ _ => False) (fun _ => True) [] B19) _ ⟨[(0, .val (.slv p n c)), (5, .val (.slv p n c)), (6, .val (.int .i64 (.nat n))), (7, .val (.int .i64 (.nat i)))], []⟩
  refine X.go T19_ok 400 _ rfl Try.results19 ?_
  conv => arg 2; cbv
  refine X.cond rfl (fun hlt => ?_) (fun hge => ?_)
  · simp only [SB.T, SI.den] at hlt
    have hlt : i < n := by omega
    obtain ⟨b, y, hp, hd⟩ := hA.2 (by omega)
    obtain ⟨x, hx⟩ : ∃ x, x = d[i]! := ⟨_, rfl⟩
    obtain ⟨oi, hoi⟩ : ∃ o, o = y + i := ⟨_, rfl⟩
    obtain ⟨j, hj⟩ : ∃ j, j = i - 1 := ⟨_, rfl⟩
    obtain ⟨x', hx'⟩ : ∃ x, x = d[j]! := ⟨_, rfl⟩
    obtain ⟨oj, hoj⟩ : ∃ o, o = y + j := ⟨_, rfl⟩
    have hix : elsewhere [] [] w b (oi + 0) = some (.int .u8 x) := by rw [Nat.add_zero, els_old, hoi, hx]; exact hd i (by omega)
    have hjx : elsewhere [] [] w b (oj + 0) = some (.int .u8 x') := by rw [Nat.add_zero, els_old, hoj, hx']; exact hd j (by omega)
    have hms := mayP_succ (d := d) (k := i)
    rw [← hj, ← hx, ← hx'] at hms
    have hjz : ∀ s : SB, s.den = true → s = .gt (.nat i) (.lit 0) → IntKind.i64.wrap ((i : Int) - 1) = (j : Int) := fun s h1 h2 => by
      subst h2
      have : 0 < i := by have := (SB.TF _).1.1 h1; simp only [SB.T, SI.den] at this; omega
      rw [wrapN _ (by omega) (by omega)]
      omega
    refine X.goP ([(10, .ext b oi 0), (11, .int .u8 (.v x)), (22, .ext b oj 0), (23, .int .u8 (.v x'))]) T19_ok 400 _ rfl Try.results19 (fun pr fin hpr hfin => ?_)
    conv => cbv
    refine ⟨hpr _ (ValOk.im1 rfl Try.isAgg5 (fun _ => rfl) fun _ => hjx), hpr _ (ValOk.at (z := j) rfl rfl (fun hT => by exact hjz _ hT rfl) Try.underlying22 Try.sizeOf5 (fun _ => by omega) hp (by omega)), hpr _ (ValOk.im1 rfl Try.isAgg5 (fun _ => rfl) fun _ => hix), hpr _ (ValOk.at (z := i) rfl rfl (fun _ => rfl) Try.underlying22 Try.sizeOf5 (fun _ => hlt) hp (by omega)), hfin _ _ ?_⟩
    refine X.cond rfl (fun hT => ?_) (fun hF => ?_)
    · simp only [SB.T, SB.F, SI.den] at hT
      have hno : ¬ mayP d n := fun h => by
        have h1 := hms.1 (mayP_mono h hlt)
        rcases hT with h2 | ⟨h2, h3⟩
        · omega
        · have := h1.2.2 (by omega)
          omega
      refine X.go T19_ok 400 _ rfl Try.results19 ?_
      conv => arg 2; cbv
      refine X.done T19_ok rfl (fun N w' v hN hS hv => ?_)
      rw [hQ]
      exact ⟨fin_bool hv (by rw [B_neg hno]; rfl), hS.chg.none⟩
    · simp only [SB.T, SB.F, SI.den] at hF
      have hyes : mayP d (i + 1) := hms.2 ⟨hmay, by omega, fun h => by rcases hF.2 with h2 | h2 <;> omega⟩
      refine X.go T19_ok 400 _ rfl Try.results19 ?_
      conv => arg 2; cbv
      refine X.back (fun N ac w' hN hf hS => hq ⟨i + 1, hlt, hyes⟩ ac w' (by simp only; omega) ?_)
      exact At.again hf hS (by repeat first | exact trivial | refine ⟨⟨_, rfl, .inl ⟨rfl, rfl⟩⟩, ?_⟩ | refine ⟨⟨_, rfl, .inr ⟨_, rfl, rfl⟩⟩, ?_⟩ | refine ⟨⟨_, rfl, .inr ⟨_, rfl, by simp (disch := omega) [SV.den, SI.den, wrapU, wrapD] <;> omega⟩⟩, ?_⟩) trivial
  · simp only [SB.F, SI.den] at hge
    have hin : i = n := by omega
    subst hin
    refine X.go T19_ok 400 _ rfl Try.results19 ?_
    conv => arg 2; cbv
    refine X.done T19_ok rfl (fun N w' v hN hS hv => ?_)
    rw [hQ]
    exact ⟨fin_bool hv (by rw [B_pos hmay]; rfl), hS.chg.none⟩

end Go.Proofs.Ythaffebapmkppaa
