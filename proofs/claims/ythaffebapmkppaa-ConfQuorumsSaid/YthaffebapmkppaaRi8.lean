/- The ring: of no node. -/
import Derived.Test.YthaffebapmkppaaRi7

namespace Go.Proofs.Ythaffebapmkppaa
open Go Go.Eng Go.Sort

set_option maxHeartbeats 4000000 in
set_option maxRecDepth 100000 in
set_option cbv.maxSteps 100000000 in
theorem pdq8_nil (k : Nat) (w : World) : Calls Try.prog 58 #[.slice none 0 0, .int .i64 0, .int .i64 0, .int .i64 k] w fun e w' => e = .returned (.tuple #[]) ∧ Chg (fun _ _ => False) w w' := by
  refine X.begin (rg := []) (N := []) (ss := [.raw (.slice none 0 0), .int .i64 (.lit 0), .int .i64 (.lit 0), .int .i64 (.nat k)]) Try.func58 rfl B58_ok rfl rfl Sat.std0 ?_
  refine X.goC FALL_ok true T58_ok 4000 _ rfl Try.results58 ?_
  conv => arg 2; cbv
  refine X.done T58_ok rfl (fun N w' v hN hS hv => ?_)
  simp only [resV, SV.den, SV.denL, Option.some.injEq] at hv
  exact ⟨by rw [← hv], hS.chg.none⟩

set_option maxHeartbeats 4000000 in
set_option maxRecDepth 100000 in
set_option cbv.maxSteps 100000000 in
theorem sort8_nil (w : World) : Calls Try.prog 35 #[.slice none 0 0] w fun e w' => e = .returned (.tuple #[]) ∧ Chg (fun _ _ => False) w w' := by
  refine X.begin (rg := []) (N := []) (ss := [.raw (.slice none 0 0)]) Try.func35 rfl B35_ok rfl rfl Sat.std0 ?_
  refine X.go T35_ok 400 _ rfl Try.results35 ?_
  conv => arg 2; cbv
  refine X.call rfl rfl rfl rfl Try.call59 (fun N w1 args hN hS ha => ?_)
  have ha : args = [.int .u64 ((0 : Nat) : Int)] := (Option.some.inj ha).symm
  rw [ha]
  refine Calls.mono (len_ok 0 (by omega) w1) fun e w' ⟨k, hk, he, hw⟩ => ⟨_, he, ?_⟩
  subst hw
  refine Goes.same hN hS (Chg.refl _ _) (r := .int .i64 (.nat k)) rfl rfl ?_
  refine X.go T35_ok 400 _ rfl Try.results35 ?_
  conv => arg 2; cbv
  refine X.call rfl rfl rfl rfl Try.call58 (fun N w1 args hN hS ha => ?_)
  have ha : args = [.slice none 0 0, .int .i64 0, .int .i64 0, .int .i64 k] := (Option.some.inj ha).symm
  rw [ha]
  refine (pdq8_nil k w1).mono fun e w2 ⟨he, hc⟩ => ⟨_, he, Goes.same hN hS hc (r := .tup []) rfl rfl ?_⟩
  refine X.go T35_ok 400 _ rfl Try.results35 ?_
  conv => arg 2; cbv
  refine X.over T35_ok rfl (fun N w' v hN hS hv => ?_)
  simp only [resV, SV.den, SV.denL, Option.some.injEq] at hv
  exact ⟨by rw [← hv], hS.chg.none⟩

set_option maxHeartbeats 4000000 in
set_option maxRecDepth 100000 in
set_option cbv.maxSteps 100000000 in
theorem build_nil (cp : Nat) (w : World) : Calls Try.prog 13 #[.slice none 0 cp] w (PtsRet [] w) := by
  refine X.begin (rg := []) (N := []) (ss := [.slv none 0 cp]) Try.func13 rfl B13_ok rfl rfl Sat.std0 ?_
  refine X.go T13_ok 400 _ rfl Try.results13 ?_
  conv => arg 2; cbv
  refine X.call rfl rfl rfl rfl Try.call36 (fun N w1 args hN hS ha => ?_)
  have ha : args = [.slice none 0 cp] := (Option.some.inj ha).symm
  rw [ha]
  refine (clone8_nil cp w1).mono fun e w2 ⟨he, hc⟩ => ⟨_, he, Goes.same hN hS hc (r := .raw (.slice none 0 0)) rfl rfl ?_⟩
  refine X.go T13_ok 400 _ rfl Try.results13 ?_
  conv => arg 2; cbv
  refine X.call rfl rfl rfl rfl Try.call35 (fun N w1 args hN hS ha => ?_)
  have ha : args = [.slice none 0 0] := (Option.some.inj ha).symm
  rw [ha]
  refine (sort8_nil w1).mono fun e w2 ⟨he, hc⟩ => ⟨_, he, Goes.same hN hS hc (r := .tup []) rfl rfl ?_⟩
  refine X.goC FALL_ok true T13_ok 4000 _ rfl Try.results13 ?_
  conv => arg 2; cbv
  refine X.call rfl rfl rfl rfl Try.call39 (fun N w1 args hN hS ha => ?_)
  have ha : args = [.slice none 0 0, .func (.func 40) #[] #[]] := (Option.some.inj ha).symm
  rw [ha]
  have key := AnyF.slices_SortFunc_none (P := Try.prog) { Try.sortL with } none 0 (.func (.func 40) #[] #[]) w1
  refine Calls.mono key fun e w2 ⟨he, hw⟩ => ⟨_, he, ?_⟩
  subst hw
  refine Goes.same hN hS (Chg.refl _ _) (r := .tup []) rfl rfl ?_
  refine X.go T13_ok 400 _ rfl Try.results13 ?_
  conv => arg 2; cbv
  refine X.done T13_ok rfl (fun N w' v hN hS hv => ?_)
  simp [resV, SV.den, one?] at hv
  exact ⟨none, 0, by rw [← hv]; rfl, .inl rfl, hS.chg.none⟩

end Go.Proofs.Ythaffebapmkppaa
