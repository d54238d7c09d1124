/- SectorNew: the walk. -/
import Derived.Test.YtkjhpaeminegoaaSe13

namespace Go.Proofs.Ytkjhpaeminegoaa
open Go.Eng

set_option maxHeartbeats 8000000 in
set_option maxRecDepth 100000 in
set_option cbv.maxSteps 100000000 in
theorem secNew_bad (size count i : Int) (po : Option Addr) (n cp : Nat) (torn : Bool) (w : World) (hn : n ≤ 600) (hz : ¬ sizesOk size count) :
    Calls Try.prog 6 #[.int .i64 size, .int .i64 count, .int .i64 i, .slice po n cp, .bool torn] w fun e w' => e = .returned (.bool true) ∧ Chg (fun _ _ => False) w w' := by
  refine X.begin (rg := []) (N := []) (ss := [.int .i64 (.v size), .int .i64 (.v count), .int .i64 (.v i), .slv po n cp, .bool (.v torn)]) Try.func6 rfl B6_ok rfl rfl Sat.std0 ?_
  refine X.go T6_ok 400 _ rfl Try.results6 ?_
  conv => arg 2; cbv
  refine X.cond rfl (fun hc => ?_) (fun _ => ?_)
  · exfalso
    simp only [SB.T, SI.den] at hc
    omega
  refine X.go T6_ok 400 _ rfl Try.results6 ?_
  conv => arg 2; cbv
  refine X.call rfl rfl rfl rfl Try.call12 (fun N w1 args hN hS ha => ?_)
  obtain rfl : [Value.int .i64 size, .int .i64 count] = args := Option.some.inj ha
  refine (new_bad size count w1 hz).mono fun e w2 ⟨he, hc⟩ => ⟨_, he, Goes.same (r := .tup [.raw (.pointer none), .int .i64 (.lit 1)]) hN hS hc rfl rfl ?_⟩
  clear ha he hc hS hN
  refine X.go T6_ok 400 _ rfl Try.results6 ?_
  conv => arg 2; cbv
  refine X.cond rfl (fun _ => ?_) (fun hc => ?_)
  case _ => 
    refine X.goC FALL_ok false T6_ok 4000 _ rfl Try.results6 ?_
    conv => arg 2; cbv
    refine X.bare rfl rfl ?_
    refine X.call rfl rfl rfl rfl Try.call11 (fun N w1 args hN hS ha => ?_)
    obtain rfl : ([] : List Value) = args := Option.some.inj ha
    refine (awake12_ok w1).mono fun e w2 ⟨he, hc⟩ => ⟨_, he, Goes.same (r := .bool (.lit true)) hN hS hc rfl rfl ?_⟩
    refine X.go T6_ok 400 _ rfl Try.results6 ?_
    conv => arg 2; cbv
    refine X.done T6_ok rfl (fun N w' v hN hS hv => ?_)
    refine ⟨?_, hS.chg.mono fun k o _ h => inR_nil h⟩
    simp [resV, SV.den, SB.den, SI.den] at hv
    rw [← hv]
  · exfalso
    simp only [SB.F, SI.den] at hc
    unfold sizesOk at hz
    omega

set_option maxHeartbeats 8000000 in
set_option maxRecDepth 100000 in
set_option cbv.maxSteps 100000000 in
theorem secNew_good (size count : Nat) (i : Int) (po : Option Addr) (n cp : Nat) (torn : Bool) (w : World) (hn : n ≤ 600) (hz : sizesOk size count) :
    Calls Try.prog 6 #[.int .i64 (size : Int), .int .i64 (count : Int), .int .i64 i, .slice po n cp, .bool torn] w fun e w' => e = .returned (.bool true) ∧ Chg (fun _ _ => False) w w' := by
  obtain ⟨Q, hQ⟩ : ∃ Q : Ending → World → Prop, Q = fun e w' => e = .returned (.bool true) ∧ Chg (fun _ _ => False) w w' := ⟨_, rfl⟩
  rw [← hQ]
  refine X.begin (rg := []) (N := []) (ss := [.int .i64 (.nat size), .int .i64 (.nat count), .int .i64 (.v i), .slv po n cp, .bool (.v torn)]) Try.func6 rfl B6_ok rfl rfl Sat.std0 ?_
  refine X.go T6_ok 400 _ rfl Try.results6 ?_
  conv => arg 2; cbv
  refine X.cond rfl (fun hc => ?_) (fun _ => ?_)
  · exfalso
    simp only [SB.T, SI.den] at hc
    omega
  refine X.go T6_ok 400 _ rfl Try.results6 ?_
  conv => arg 2; cbv
  refine X.call rfl rfl rfl rfl Try.call12 (fun N w1 args hN hS ha => ?_)
  obtain rfl : [Value.int .i64 (size : Int), .int .i64 (count : Int)] = args := Option.some.inj ha
  refine (new_good size count w1 hz).mono fun e w2 ⟨b, y, m, he, hb, hm, hd, hc⟩ => ⟨_, he, ?_⟩
  obtain ⟨d, hde⟩ : ∃ d, d = newDk b y size count m := ⟨_, rfl⟩
  have hdb : d.b = b := by rw [hde]; rfl
  have hdy : d.y = y := by rw [hde]; rfl
  have hdh : d.h = newH size count m := by rw [hde]; rfl
  have hDn : ∀ k o, d.D k o → k = b ∨ k = m := fun k o h => newDk_D (by rw [hde] at h; exact h)
  rw [← hde] at hd
  refine Goes.turn (r := .tup [.ext b y 0, .int .i64 (.lit 0)]) d.D (DiskAt d) hN hS (hc.mono fun _ _ _ h => h.elim) (fun _ _ h => h.elim) (fun _ _ h => h.elim) (fun g hg => by simp at hg) (fun k o hk => ⟨.inr ?_, hd.there hk⟩) DiskAt.loc hd rfl rfl ?_
  · rcases hDn k o hk with rfl | rfl <;> assumption
  clear ha he hc hS hN hd
  show X (mkE Try.prog Try.f6 Q w (InR [] []) (elsewhere [] [] w) d.D (DiskAt d) [] B6) _ _
  refine X.go T6_ok 400 _ rfl Try.results6 ?_
  conv => arg 2; cbv
  refine X.cond rfl (fun hc => ?_) (fun _ => ?_)
  · exfalso
    simp only [SB.T, SI.den] at hc
    unfold sizesOk at hz
    omega
  refine X.go T6_ok 400 _ rfl Try.results6 ?_
  conv => arg 2; cbv
  refine X.bare rfl rfl ?_
  refine X.call rfl rfl rfl rfl Try.call21 (fun N w1 args hN hS ha => ?_)
  obtain rfl := args_eq (vs := [.pointer (some ⟨d.b, d.y, none⟩)]) (by rw [hdb, hdy]; rfl) ha
  refine (ison_ok d.b d.y d.h w1 hS.res.hd).mono fun e w2 ⟨he, hc⟩ => ⟨_, he, Goes.same (r := .bool (.lit true)) hN hS hc (by rw [hdh]; rfl) rfl ?_⟩
  clear ha he hc hS hN
  refine X.go T6_ok 400 _ rfl Try.results6 ?_
  conv => arg 2; cbv
  refine X.bare rfl rfl ?_
  refine X.call rfl rfl rfl rfl Try.call22 (fun N w1 args hN hS ha => ?_)
  obtain rfl := args_eq (vs := [.pointer (some ⟨d.b, d.y, none⟩)]) (by rw [hdb, hdy]; rfl) ha
  refine (falls_ok d.b d.y d.h w1 hS.res.hd).mono fun e w2 ⟨he, hc⟩ => ⟨_, he, Goes.same (r := .int .u64 (.lit 0)) hN hS hc (by rw [hdh]; rfl) rfl ?_⟩
  clear ha he hc hS hN
  refine X.go T6_ok 400 _ rfl Try.results6 ?_
  conv => arg 2; cbv
  refine X.bare rfl rfl ?_
  refine X.call rfl rfl rfl rfl Try.call23 (fun N w1 args hN hS ha => ?_)
  obtain rfl := args_eq (vs := [.pointer (some ⟨d.b, d.y, none⟩)]) (by rw [hdb, hdy]; rfl) ha
  refine (waits_ok d.b d.y d.h w1 hS.res.hd).mono fun e w2 ⟨he, hc⟩ => ⟨_, he, Goes.same (r := .int .i64 (.lit 0)) hN hS hc (by rw [hdh]; rfl) rfl ?_⟩
  clear ha he hc hS hN
  refine X.goC FALL_ok false T6_ok 4000 _ rfl Try.results6 ?_
  conv => arg 2; cbv
  refine X.bare rfl rfl ?_
  refine X.call rfl rfl rfl rfl Try.call11 (fun N w1 args hN hS ha => ?_)
  obtain rfl : ([] : List Value) = args := Option.some.inj ha
  refine (awake12_ok w1).mono fun e w2 ⟨he, hc⟩ => ⟨_, he, Goes.same (r := .bool (.lit true)) hN hS hc rfl rfl ?_⟩
  refine X.go T6_ok 400 _ rfl Try.results6 ?_
  conv => arg 2; cbv
  refine X.done T6_ok rfl (fun N w' v hN hS hv => ?_)
  rw [hQ]
  refine ⟨?_, hS.chg.mono fun k o _ h => inR_nil h⟩
  simp [resV, SV.den, SB.den, SI.den] at hv
  rw [← hv]

set_option maxHeartbeats 8000000 in
set_option maxRecDepth 100000 in
set_option cbv.maxSteps 100000000 in
theorem secNew_far (size count i : Int) (po : Option Addr) (n cp : Nat) (torn : Bool) (w : World) (hn : 600 < n) :
    Calls Try.prog 6 #[.int .i64 size, .int .i64 count, .int .i64 i, .slice po n cp, .bool torn] w fun e w' => e = .returned (.bool true) ∧ Chg (fun _ _ => False) w w' := by
  refine X.begin (rg := []) (N := []) (ss := [.int .i64 (.v size), .int .i64 (.v count), .int .i64 (.v i), .slv po n cp, .bool (.v torn)]) Try.func6 rfl B6_ok rfl rfl Sat.std0 ?_
  refine X.go T6_ok 400 _ rfl Try.results6 ?_
  conv => arg 2; cbv
  refine X.cond rfl (fun _ => ?_) (fun hc => ?_)
  · refine X.go T6_ok 400 _ rfl Try.results6 ?_
    conv => arg 2; cbv
    refine X.call rfl rfl rfl rfl Try.call11 (fun N w1 args hN hS ha => ?_)
    obtain rfl : ([] : List Value) = args := Option.some.inj ha
    refine (awake12_ok w1).mono fun e w2 ⟨he, hc⟩ => ⟨_, he, Goes.same (r := .bool (.lit true)) hN hS hc rfl rfl ?_⟩
    refine X.go T6_ok 400 _ rfl Try.results6 ?_
    conv => arg 2; cbv
    refine X.done T6_ok rfl (fun N w' v hN hS hv => ?_)
    refine ⟨?_, hS.chg.mono fun k o _ h => inR_nil h⟩
    simp [resV, SV.den, SB.den, SI.den] at hv
    rw [← hv]
  · exfalso
    simp only [SB.F, SI.den] at hc
    omega

theorem secNew_ok (size count i : Int) (po : Option Addr) (n cp : Nat) (torn : Bool) (w : World) :
    Calls Try.prog 6 #[.int .i64 size, .int .i64 count, .int .i64 i, .slice po n cp, .bool torn] w fun e w' => e = .returned (.bool true) ∧ Chg (fun _ _ => False) w w' := by
  rcases Nat.lt_or_ge 600 n with h | h
  · exact secNew_far size count i po n cp torn w h
  by_cases hz : sizesOk size count
  · obtain ⟨a, ha⟩ : ∃ a : Nat, size = a := ⟨size.toNat, by have := hz.1; omega⟩
    obtain ⟨c, hc⟩ : ∃ c : Nat, count = c := ⟨count.toNat, by have := hz.2.2.1; omega⟩
    subst ha; subst hc
    exact secNew_good a c i po n cp torn w h hz
  · exact secNew_bad size count i po n cp torn w h hz

end Go.Proofs.Ytkjhpaeminegoaa
