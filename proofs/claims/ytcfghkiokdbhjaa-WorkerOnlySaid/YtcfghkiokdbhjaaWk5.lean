/- Reset; New. -/
import Derived.Test.YtcfghkiokdbhjaaWk4

namespace Go.Proofs.Ytcfghkiokdbhjaa
open Go.Eng

open Classical in
noncomputable def resetJ (j : Job) : Job := if j.p = 3 then j else Job.z

/-- the jobs, of which the first i were reset -/
noncomputable def resetK (J : Nat → Job) (i : Nat) : Nat → Job := fun k => if k < i then resetJ (J k) else J k

theorem resetK_succ (J : Nat → Job) (i : Nat) : updA (resetK J i) i (resetJ (J i)) = resetK J (i + 1) := by
  funext k
  unfold updA resetK
  by_cases e : k = i
  · subst e; simp
  · by_cases h : k < i
    · simp [e, h, show k < i + 1 by omega]
    · simp [e, h, show ¬ k < i + 1 by omega]

theorem resetK_at (J : Nat → Job) (i : Nat) : resetK J i i = J i := by simp [resetK]

theorem fl_den {fl : List SV} {J : Nat → Job} (h : fl = flatL (fun k => (J k).sv) 16) {N : Nums} : (SV.agg fl).den N = some (.agg (flatL (fun k => (J k).vals) 16).toArray) := by
  have : SV.denL N fl = some (flatL (fun k => (J k).vals) 16) := by rw [h]; exact flatL_den 16 (fun s _ => rfl)
  simp only [SV.den, this]

set_option maxRecDepth 100000 in
set_option cbv.maxSteps 100000000 in
theorem reset_ok (b y : Nat) (w : World) (J : Nat → Job) (hJ : JobsAt b y J w) :
    Calls Try.prog 22 #[.pointer (some ⟨b, y, none⟩)] w fun e w' => ∃ (J' : Nat → Job), e = .returned (.tuple #[]) ∧ JobsAt b y J' w' ∧ Chg (jobD b y) w w' ∧
      ∀ k, k < 16 → J' k = resetJ (J k) := by
  obtain ⟨fl, hfl⟩ : ∃ fl, fl = flatL (fun k => (J k).sv) 16 := ⟨_, rfl⟩
  have hl : fl.length = 112 := by rw [hfl, flatL_length (sz := 7) 16 (fun s _ => rfl)]
  refine X.beginR (jobD b y) (JobsAt b y J) (ss := [.ext b y 0]) Try.func22 rfl B22_ok rfl rfl (hJ.there (by omega)) ArrAt.loc hJ ?_
  refine X.go T22_ok 300 _ rfl Try.results22 ?_
  conv => arg 2; cbv
  refine X.loadNR T22_ok (rs := fl) rfl rfl rfl rfl rfl rfl hl (fun N w1 hN hR => ⟨flatL (fun k => (J k).vals) 16, by rw [hfl]; exact flatL_den 16 (fun s _ => rfl), fun j v hj => ?_⟩) rfl ?_
  · rw [Nat.add_zero]; exact ArrAt.flat hR (by omega) j v hj
  refine X.go T22_ok 300 _ rfl Try.results22 ?_
  conv => arg 2; cbv
  refine X.loop (fun (i : {i : Nat // i ≤ 16}) => stdR Try.prog Try.f22 _ w (jobD b y) (JobsAt b y (resetK J i.1)) B22) (fun i => ⟨[(0, .val (.ext b y 0)), (9, .val (.agg fl)), (10, .val (.int .i64 (.nat i.1)))], []⟩) (fun i => 16 - i.1) (fun _ => ⟨rfl, rfl, rfl, rfl⟩)
    (fun N a' w1 hN hf hS => ⟨⟨0, by omega⟩, ?_⟩) (fun i q hq => ?_)
  · have h0 : resetK J 0 = J := by funext k; simp [resetK]
    exact At.mk hN hf hS (Nat.zero_le _) ⟨⟨_, rfl, .inl ⟨rfl, rfl⟩⟩, ⟨_, rfl, .inr ⟨_, fl_den hfl, fl_den hfl⟩⟩, ⟨_, rfl, .inr ⟨_, rfl, rfl⟩⟩, trivial⟩ trivial (fun _ _ _ h => h) ArrAt.loc (by show JobsAt b y (resetK J 0) w1; rw [h0]; exact hS.res)
  obtain ⟨i, hi⟩ := i
  refine X.go T22_ok 300 _ rfl Try.results22 ?_
  conv => arg 2; cbv
  refine X.cond rfl (fun hlt => ?_) (fun hge => ?_)
  · simp only [SB.T, SI.den] at hlt
    have hi' : i < 16 := by omega
    refine X.focusArr i hi' (by omega) rfl (cs := (J i).sv) (by show _ = some ((resetK J i i).vals); rw [resetK_at]; rfl) jobs_O jobs_im (by simp) (fun N0 hN0 hlen => ?_)
    refine X.go T22_ok 300 _ rfl Try.results22 ?_
    conv => arg 2; cbv
    refine X.idxVal rfl rfl rfl rfl rfl Try.underlying54 Try.sizeOf31 (fun w => (T22_ok.ok _ _ (show lookT T22 31 = some ti31 from rfl)).agg w) i rfl hi' (J i).sv ?_ (by rw [hl]; omega) rfl ?_
    · rw [hfl]
      have := flatL_row (f := fun k => (J k).sv) (sz := 7) 16 (fun s _ => rfl) i hi'
      exact this
    refine X.go T22_ok 300 _ rfl Try.results22 ?_
    conv => arg 2; cbv
    refine X.cond rfl (fun hp => ?_) (fun hp => ?_)
    · have hp' : (J i).p ≠ 3 := hp
      have hr : resetJ (J i) = Job.z := by simp [resetJ, hp']
      refine X.go T22_ok 300 _ rfl Try.results22 ?_
      conv => arg 2; cbv
      refine X.idxArr rfl rfl rfl rfl rfl Try.underlying54 Try.sizeOf31 i rfl hi' (.own 0 0) (fun N hN => by simp [SV.den, own0 hlen hN]) rfl ?_
      refine X.go T22_ok 300 _ rfl Try.results22 ?_
      conv => arg 2; cbv
      refine X.back (fun N a' w1 hN hf hS => hq ⟨i + 1, by omega⟩ a' w1 (by show 16 - (i + 1) < 16 - i; omega) ?_)
      refine jobs_again (r := 0) (j := resetJ (J i)) hlen hi' hN hf hS rfl rfl (by rw [hr]; rfl) (resetK_succ J i) ?_ trivial
      exact ⟨⟨_, rfl, .inl ⟨rfl, rfl⟩⟩, ⟨_, rfl, .inr ⟨_, fl_den hfl, fl_den hfl⟩⟩, ⟨_, rfl, .inr ⟨_, rfl, by simp [SV.den, SI.den, wrap64s i (by omega)]⟩⟩, trivial⟩
    · have hp' : (J i).p = 3 := hp
      have hr : resetJ (J i) = J i := by simp [resetJ, hp']
      refine X.go T22_ok 300 _ rfl Try.results22 ?_
      conv => arg 2; cbv
      refine X.back (fun N a' w1 hN hf hS => hq ⟨i + 1, by omega⟩ a' w1 (by show 16 - (i + 1) < 16 - i; omega) ?_)
      refine jobs_again (r := 0) (j := resetJ (J i)) hlen hi' hN hf hS rfl rfl (by rw [hr]; rfl) (resetK_succ J i) ?_ trivial
      exact ⟨⟨_, rfl, .inl ⟨rfl, rfl⟩⟩, ⟨_, rfl, .inr ⟨_, fl_den hfl, fl_den hfl⟩⟩, ⟨_, rfl, .inr ⟨_, rfl, by simp [SV.den, SI.den, wrap64s i (by omega)]⟩⟩, trivial⟩
  · simp only [SB.F, SI.den] at hge
    refine X.go T22_ok 300 _ rfl Try.results22 ?_
    conv => arg 2; cbv
    refine X.over T22_ok rfl (fun N w' v hN hS hv => ?_)
    simp [resV, SV.den, SV.denL] at hv
    exact ⟨resetK J i, by rw [← hv], hS.res, hS.chg, fun k hk => by simp [resetK, show k < i by omega]⟩

end Go.Proofs.Ytcfghkiokdbhjaa
