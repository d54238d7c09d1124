/- SectorSynced: the walk. -/
import Derived.Test.YtkjhpaeminegoaaSe22

namespace Go.Proofs.Ytkjhpaeminegoaa
open Go.Eng

set_option maxHeartbeats 8000000 in
set_option maxRecDepth 100000 in
set_option cbv.maxSteps 100000000 in
theorem secSyn_far (size count keep : Int) (torn : Bool) (po po2 : Option Addr) (n cp b x n2 cp2 b2 x2 : Nat) (f f2 : Nat → SStep) (w : World) (hl : StepsAt po n f b x w) (hl2 : StepsAt po2 n2 f2 b2 x2 w) (hs : ¬ (smallS size count n f ∧ smallS size count n2 f2)) :
    Calls Try.prog 3 #[.int .i64 size, .int .i64 count, .slice po n cp, .slice po2 n2 cp2, .int .i64 keep, .bool torn] w fun e w' => e = .returned (.bool true) ∧ Chg (fun _ _ => False) w w' := by
  refine X.begin (rg := []) (N := []) (ss := [.int .i64 (.v size), .int .i64 (.v count), .slv po n cp, .slv po2 n2 cp2, .int .i64 (.v keep), .bool (.v torn)]) Try.func3 rfl B3_ok rfl rfl Sat.std0 ?_
  refine X.go T3_ok 400 _ rfl Try.results3 ?_
  conv => arg 2; cbv
  refine X.call rfl rfl rfl rfl Try.call10 (fun N w1 args hN hS ha => ?_)
  obtain rfl : [Value.int .i64 size, .int .i64 count, .slice po n cp] = args := Option.some.inj ha
  refine (great12_ok size count po n cp b x f w1 (hl.chg (hS.chg.mono fun k o _ h => inR_nil h))).mono fun e w2 ⟨g, he, hg, hc⟩ => ⟨_, he, ?_⟩
  cases g with
  | true =>
    refine Goes.same (r := .bool (.lit true)) hN hS hc rfl rfl ?_
    clear ha he hc hS hN
    refine X.go T3_ok 400 _ rfl Try.results3 ?_
    conv => arg 2; cbv
    refine X.call rfl rfl rfl rfl Try.call11 (fun N w1 args hN hS ha => ?_)
    obtain rfl : ([] : List Value) = args := Option.some.inj ha
    refine (awake12_ok w1).mono fun e w2 ⟨he, hc⟩ => ⟨_, he, Goes.same (r := .bool (.lit true)) hN hS hc rfl rfl ?_⟩
    refine X.go T3_ok 400 _ rfl Try.results3 ?_
    conv => arg 2; cbv
    refine X.done T3_ok rfl (fun N w' v hN hS hv => ?_)
    refine ⟨?_, hS.chg.mono fun k o _ h => inR_nil h⟩
    simp [resV, SV.den, SB.den] at hv
    rw [← hv]
  | false =>
    refine Goes.same (r := .bool (.lit false)) hN hS hc rfl rfl ?_
    clear ha he hc hS hN
    refine X.go T3_ok 400 _ rfl Try.results3 ?_
    conv => arg 2; cbv
    refine X.bare rfl rfl ?_
    refine X.call rfl rfl rfl rfl Try.call10 (fun N w1 args hN hS ha => ?_)
    obtain rfl : [Value.int .i64 size, .int .i64 count, .slice po2 n2 cp2] = args := Option.some.inj ha
    refine (great12_ok size count po2 n2 cp2 b2 x2 f2 w1 (hl2.chg (hS.chg.mono fun k o _ h => inR_nil h))).mono fun e w2 ⟨g, he, hg2, hc⟩ => ⟨_, he, ?_⟩
    obtain rfl : g = true := by
      cases g with
      | true => rfl
      | false => exact absurd ⟨hg rfl, hg2 rfl⟩ hs
    refine Goes.same (r := .bool (.lit true)) hN hS hc rfl rfl ?_
    clear ha he hc hS hN
    refine X.go T3_ok 400 _ rfl Try.results3 ?_
    conv => arg 2; cbv
    refine X.call rfl rfl rfl rfl Try.call11 (fun N w1 args hN hS ha => ?_)
    obtain rfl : ([] : List Value) = args := Option.some.inj ha
    refine (awake12_ok w1).mono fun e w2 ⟨he, hc⟩ => ⟨_, he, Goes.same (r := .bool (.lit true)) hN hS hc rfl rfl ?_⟩
    refine X.go T3_ok 400 _ rfl Try.results3 ?_
    conv => arg 2; cbv
    refine X.done T3_ok rfl (fun N w' v hN hS hv => ?_)
    refine ⟨?_, hS.chg.mono fun k o _ h => inR_nil h⟩
    simp [resV, SV.den, SB.den] at hv
    rw [← hv]

end Go.Proofs.Ytkjhpaeminegoaa
