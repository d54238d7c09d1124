/- try: awake -/
import Derived.Test.YtcfghkiokdbhjaaTab

namespace Go.Proofs.Ytcfghkiokdbhjaa
open Go.Eng

noncomputable def FW : FT := [(58, FI.of Try.f58 T58 B58), (16, FI.of Try.f16 T16 B16), (23, FI.of Try.f23 T23 B23),
  (20, FI.of Try.f20 T20 B20), (24, FI.of Try.f24 T24 B24), (64, FI.of Try.f64 T64 B64),
  (65, FI.of Try.f65 T65 B65), (17, FI.of Try.f17 T17 B17), (21, FI.of Try.f21 T21 B21)]
theorem FW_ok : FTok Try.prog FW := .cons F58_ok <| .cons F16_ok <| .cons F23_ok <| .cons F20_ok <| .cons F24_ok <| .cons F64_ok <|
  .cons F65_ok <| .cons F17_ok <| .cons F21_ok .nil

set_option maxRecDepth 100000 in
set_option cbv.maxSteps 100000000 in
theorem awake_ok (w : World) : Calls Try.prog 15 #[] w fun e w' => e = .returned (.bool true) ∧ Chg (fun _ _ => False) w w' := by
  refine X.begin (rg := []) (N := []) (ss := []) Try.func15 rfl B15_ok rfl rfl Sat.std0 ?_
  refine X.goC FW_ok true T15_ok 1000 _ rfl Try.results15 ?_
  conv => arg 2; cbv
  refine X.done T15_ok rfl (fun N w' v hN hS hv => ?_)
  simp [resV, SV.den, SB.den] at hv
  exact ⟨by rw [← hv], hS.chg.none⟩

end Go.Proofs.Ytcfghkiokdbhjaa
