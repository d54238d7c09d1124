/- The history's functions: which operations may be. -/
import Derived.Test.YtcfghkiokdbhjaaHi1

namespace Go.Proofs.Ytcfghkiokdbhjaa
open Go.Eng

set_option maxHeartbeats 40000000 in
set_option maxRecDepth 100000 in
set_option cbv.maxSteps 100000000 in
theorem may_ok (k y c s a p r u i l : Int) (w : World) :
    Calls Try.prog 66 #[.agg #[.int .u8 k, .int .u8 y, .int .u8 c, .int .u64 s, .int .i64 a, .int .i64 p, .int .i64 r, .int .u8 u, .int .u64 i, .int .u64 l]] w
      fun e w' => (∃ b, e = .returned (.bool b) ∧ (b = true → c ≤ 8)) ∧ Chg (fun _ _ => False) w w' := by
  refine X.begin (rg := []) (N := []) (ss := [.agg [.int .u8 (.v k), .int .u8 (.v y), .int .u8 (.v c), .int .u64 (.v s), .int .i64 (.v a), .int .i64 (.v p), .int .i64 (.v r), .int .u8 (.v u), .int .u64 (.v i), .int .u64 (.v l)]]) Try.func66 rfl B66_ok rfl rfl Sat.std0 ?_
  refine X.goC FALL_ok false T66_ok 400 _ rfl Try.results66 ?_
  conv => arg 2; cbv
  refine X.lit 25 rfl (fun h1 => ?_) (fun h1 => ?_)
  · refine X.goC FALL_ok false T66_ok 400 _ rfl Try.results66 ?_
    conv => arg 2; cbv
    refine X.done T66_ok rfl (fun N w' v hN hS hv => ?_)
    simp [resV, SV.den, SB.den] at hv
    exact ⟨⟨_, by rw [← hv], fun h => by cases h⟩, hS.chg.none⟩
  · refine X.goC FALL_ok false T66_ok 400 _ rfl Try.results66 ?_
    conv => arg 2; cbv
    have hc : c ≤ 8 := by
      simp only [SB.F, SB.T, SI.den, SB.den] at h1
      omega
    refine X.lit 31 rfl (fun _ => ?_) (fun _ => ?_) <;> (refine X.goC FALL_ok false T66_ok 400 _ rfl Try.results66 ?_; conv => arg 2; cbv)
    all_goals iterate 8
      all_goals first
        | (refine X.done T66_ok rfl (fun N w' v hN hS hv => ?_)
           simp only [resV, SV.den, Option.some.injEq] at hv
           exact ⟨⟨_, by rw [← hv], fun _ => hc⟩, hS.chg.none⟩)
        | (refine X.cond rfl (fun _ => ?_) (fun _ => ?_) <;> (refine X.goC FALL_ok false T66_ok 400 _ rfl Try.results66 ?_; conv => arg 2; cbv))
        | skip

end Go.Proofs.Ytcfghkiokdbhjaa
