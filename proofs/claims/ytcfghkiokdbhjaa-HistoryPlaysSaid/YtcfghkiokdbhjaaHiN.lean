/- Which operations may be: the document's word. -/
import Derived.Test.YtcfghkiokdbhjaaHiM

namespace Go.Proofs.Ytcfghkiokdbhjaa
open Go.Eng

set_option maxHeartbeats 40000000 in
set_option maxRecDepth 100000 in
set_option cbv.maxSteps 100000000 in
theorem rmay_eq (k y c a p r u i l : Int) (w : World) (hc : 1 ≤ c) :
    Calls Try.prog 67 #[.agg #[.int .u8 k, .int .u8 y, .int .u8 c, .int .u64 1, .int .i64 a, .int .i64 p, .int .i64 r, .int .u8 u, .int .u64 i, .int .u64 l]] w
      fun e w' => (∃ b, e = .returned (.bool b) ∧ (b = true ↔ MayP k y c a p u)) ∧ Chg (fun _ _ => False) w w' := by
  refine X.begin (rg := []) (N := []) (ss := [.agg [.int .u8 (.v k), .int .u8 (.v y), .int .u8 (.v c), .int .u64 (.lit 1), .int .i64 (.v a), .int .i64 (.v p), .int .i64 (.v r), .int .u8 (.v u), .int .u64 (.v i), .int .u64 (.v l)]]) Try.func67 rfl B67_ok rfl rfl Sat.std0 ?_
  refine X.go T67_ok 400 _ rfl Try.results67 ?_
  conv => arg 2; cbv
  iterate 5
    all_goals first
      | (refine X.done T67_ok rfl (fun N w' v hN hS hv => ?_)
         simp only [resV, SV.den, Option.some.injEq] at hv
         refine ⟨⟨_, by rw [← hv], ?_⟩, hS.chg.none⟩
         refine Iff.trans (SB.TF _).1 ?_
         clear hS hN hv
         unfold MayP
         simp [SB.F, SB.T, SI.den, SB.den] at *
         have hcb : (c != 0) = true := by rw [bne_iff_ne]; omega
         try simp only [hcb] at *
         first
           | omega
           | (by_cases hk4 : k ≤ 4 <;> simp [hk4] at hq <;> omega))
      | (refine X.cond rfl (fun hq => ?_) (fun hq => ?_) <;> (refine X.go T67_ok 400 _ rfl Try.results67 ?_; conv => arg 2; cbv))
      | skip

end Go.Proofs.Ytcfghkiokdbhjaa
