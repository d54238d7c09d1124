/- WorkerOnly: the walk. (Printed by genO2.py.) -/
import Derived.Test.YtcfghkiokdbhjaaWkO1

namespace Go.Proofs.Ytcfghkiokdbhjaa
open Go.Eng

set_option maxHeartbeats 400000000 in
set_option maxRecDepth 100000 in
set_option cbv.maxSteps 100000000 in
theorem only_ok (po : Option Addr) (n cp : Nat) (W : World) (hl : ActsAt po n W) :
    Calls Try.prog 3 #[.slice po n cp] W fun e w' => e = .returned (.bool true) ∧ Chg (fun _ _ => False) W w' := by
  refine X.begin (rg := []) (N := []) (ss := [.slv po n cp]) Try.func3 rfl B3_ok rfl rfl Sat.std0 ?_
  refine X.go T3_ok 400 _ rfl Try.results3 ?_
  conv => arg 2; cbv
  refine X.call rfl rfl rfl rfl Try.call14 (fun N w1 args hN hS ha => ?_)
  have ha' : [Value.slice po n cp] = args := Option.some.inj (ha ▸ rfl : some _ = some args)
  subst ha'
  have hl1 : ActsAt po n w1 := acts_old hl hS.imm
  refine (greatl_ok po n cp w1 hl1).mono fun e w' ⟨⟨r, he, hr60⟩, hc⟩ => ⟨_, he, Goes.same (r := .bool (.v r)) hN hS hc rfl rfl ?_⟩
  refine X.go T3_ok 400 _ rfl Try.results3 ?_
  conv => arg 2; cbv
  refine X.cond rfl (fun hr => ?_) (fun hr => ?_)
  · skip
    refine X.go T3_ok 400 _ rfl Try.results3 ?_
    conv => arg 2; cbv
    refine X.call rfl rfl rfl rfl Try.call15 (fun N w1 args hN hS ha => ?_)
    have ha' : [] = args := Option.some.inj (ha ▸ rfl : some _ = some args)
    subst ha'
    refine (awake_ok w1).mono fun e w' ⟨he, hc⟩ => ⟨_, he, Goes.same (r := .bool (.lit true)) hN hS hc rfl rfl ?_⟩
    refine X.go T3_ok 400 _ rfl Try.results3 ?_
    conv => arg 2; cbv
    refine X.done T3_ok rfl (fun N w' v hN hS hv => ?_)
    simp [resV, SV.den, SB.den] at hv
    exact ⟨by rw [← hv], hS.chg.none⟩
  have hl60 : n ≤ 60 := hr60 (by simpa [SB.F, SB.den] using hr)
  clear hr hl1 hr60
  refine X.go T3_ok 400 _ rfl Try.results3 ?_
  conv => arg 2; cbv
  refine X.call rfl rfl rfl rfl Try.call16 (fun N w1 args hN hS ha => ?_)
  have ha' : [] = args := Option.some.inj (ha ▸ rfl : some _ = some args)
  subst ha'
  refine (new_ok w1).mono fun e w' ⟨b, y, he, hb1, hJ, hc⟩ => ⟨_, he, Goes.turn (jobD b y) (JobsAt b y (fun _ => Job.z)) hN hS (hc.mono fun _ _ _ h => h.elim) (fun _ _ h => False.elim h) (fun _ _ h => False.elim h) (all_own rfl) (fun q z h => ⟨.inr (h.1 ▸ hb1), hJ.there (by omega) q z h⟩) ArrAt.loc hJ (r := .ext b y 0) rfl rfl ?_⟩
  have hb : W.heap.size ≤ b := Nat.le_trans hS.chg.size hb1
  clear hc hJ he hS hN ha
  show X (mkE Try.prog Try.f3 (fun e w' => e = .returned (.bool true) ∧ Chg (fun _ _ => False) W w') W (InR [] []) (elsewhere [] [] W) (jobD b y) (JobsAt b y fun _ => Job.z) [] B3) _ _
  refine X.go T3_ok 400 _ rfl Try.results3 ?_
  conv => arg 2; cbv
  refine X.loop (fun (i : {i : Nat // i ≤ n} × (Nat → Job)) => mkE Try.prog Try.f3 (fun e w' => e = .returned (.bool true) ∧ Chg (fun _ _ => False) W w') W (InR [] []) (elsewhere [] [] W) (jobD b y) (JobsAt b y i.2) [] B3)
    (fun i => ⟨[(0, .val (.slv po n cp)), (3, .val (.ext b y 0)), (4, .val (.int .i64 (.nat i.1.1)))], []⟩) (fun i => n - i.1.1) (fun i => ⟨rfl, rfl, rfl, rfl⟩) (fun N a w' hN hf hS => ⟨(⟨0, Nat.zero_le _⟩, fun _ => Job.z), ?_⟩) (fun i q hq => ?_)
  · exact At.same hN hf hS (Nat.zero_le _) ⟨⟨_, rfl, .inl ⟨rfl, rfl⟩⟩, ⟨_, rfl, .inl ⟨rfl, rfl⟩⟩, ⟨_, rfl, .inr ⟨_, rfl, rfl⟩⟩, trivial⟩ trivial
  obtain ⟨⟨i, hi⟩, J⟩ := i
  refine X.go T3_ok 400 _ rfl Try.results3 ?_
  conv => arg 2; cbv
  refine X.cond rfl (fun hlt => ?_) (fun hge => ?_)
  rotate_left
  · skip
    refine X.go T3_ok 400 _ rfl Try.results3 ?_
    conv => arg 2; cbv
    refine X.call rfl rfl rfl rfl Try.call15 (fun N w1 args hN hS ha => ?_)
    have ha' : [] = args := Option.some.inj (ha ▸ rfl : some _ = some args)
    subst ha'
    refine (awake_ok w1).mono fun e w' ⟨he, hc⟩ => ⟨_, he, Goes.same (r := .bool (.lit true)) hN hS hc rfl rfl ?_⟩
    refine X.go T3_ok 400 _ rfl Try.results3 ?_
    conv => arg 2; cbv
    refine X.done T3_ok rfl (fun N w' v hN hS hv => ?_)
    simp [resV, SV.den, SB.den] at hv
    exact ⟨by rw [← hv], hS.chg.none⟩
  simp only [SB.T, SI.den] at hlt
  obtain ⟨lb, x, z, k, s, c, a, hpo, hz, hs, hcell, ho, hd⟩ := hl i (by omega)
  refine X.goC .nil true T3_ok 400 _ rfl Try.results3 ?_
  conv => arg 2; cbv
  refine X.call rfl rfl rfl rfl Try.call17 (fun N w1 args hN hS ha => ?_)
  have ha' : [Value.pointer (some ⟨b, y, none⟩), .int .u8 (0 : Nat)] = args := Option.some.inj (ha ▸ rfl : some _ = some args)
  subst ha'
  refine (job_ok b y 0 w1 J (by omega) hS.res).mono fun e w' ⟨he, hc⟩ => ⟨_, he, Goes.same (r := .agg (J 0).sv) hN hS hc rfl rfl ?_⟩
  clear hc he hS hN ha
  refine X.goC .nil true T3_ok 400 _ rfl Try.results3 ?_
  conv => arg 2; cbv
  refine X.call rfl rfl rfl rfl Try.call17 (fun N w1 args hN hS ha => ?_)
  have ha' : [Value.pointer (some ⟨b, y, none⟩), .int .u8 (1 : Nat)] = args := Option.some.inj (ha ▸ rfl : some _ = some args)
  subst ha'
  refine (job_ok b y 1 w1 J (by omega) hS.res).mono fun e w' ⟨he, hc⟩ => ⟨_, he, Goes.same (r := .agg (J 1).sv) hN hS hc rfl rfl ?_⟩
  clear hc he hS hN ha
  refine X.goC .nil true T3_ok 400 _ rfl Try.results3 ?_
  conv => arg 2; cbv
  refine X.call rfl rfl rfl rfl Try.call17 (fun N w1 args hN hS ha => ?_)
  have ha' : [Value.pointer (some ⟨b, y, none⟩), .int .u8 (2 : Nat)] = args := Option.some.inj (ha ▸ rfl : some _ = some args)
  subst ha'
  refine (job_ok b y 2 w1 J (by omega) hS.res).mono fun e w' ⟨he, hc⟩ => ⟨_, he, Goes.same (r := .agg (J 2).sv) hN hS hc rfl rfl ?_⟩
  clear hc he hS hN ha
  refine X.goC .nil true T3_ok 400 _ rfl Try.results3 ?_
  conv => arg 2; cbv
  refine X.call rfl rfl rfl rfl Try.call17 (fun N w1 args hN hS ha => ?_)
  have ha' : [Value.pointer (some ⟨b, y, none⟩), .int .u8 (3 : Nat)] = args := Option.some.inj (ha ▸ rfl : some _ = some args)
  subst ha'
  refine (job_ok b y 3 w1 J (by omega) hS.res).mono fun e w' ⟨he, hc⟩ => ⟨_, he, Goes.same (r := .agg (J 3).sv) hN hS hc rfl rfl ?_⟩
  clear hc he hS hN ha
  refine X.goC .nil true T3_ok 400 _ rfl Try.results3 ?_
  conv => arg 2; cbv
  refine X.call rfl rfl rfl rfl Try.call17 (fun N w1 args hN hS ha => ?_)
  have ha' : [Value.pointer (some ⟨b, y, none⟩), .int .u8 (4 : Nat)] = args := Option.some.inj (ha ▸ rfl : some _ = some args)
  subst ha'
  refine (job_ok b y 4 w1 J (by omega) hS.res).mono fun e w' ⟨he, hc⟩ => ⟨_, he, Goes.same (r := .agg (J 4).sv) hN hS hc rfl rfl ?_⟩
  clear hc he hS hN ha
  refine X.goC .nil true T3_ok 400 _ rfl Try.results3 ?_
  conv => arg 2; cbv
  refine X.call rfl rfl rfl rfl Try.call17 (fun N w1 args hN hS ha => ?_)
  have ha' : [Value.pointer (some ⟨b, y, none⟩), .int .u8 (5 : Nat)] = args := Option.some.inj (ha ▸ rfl : some _ = some args)
  subst ha'
  refine (job_ok b y 5 w1 J (by omega) hS.res).mono fun e w' ⟨he, hc⟩ => ⟨_, he, Goes.same (r := .agg (J 5).sv) hN hS hc rfl rfl ?_⟩
  clear hc he hS hN ha
  refine X.goC .nil true T3_ok 400 _ rfl Try.results3 ?_
  conv => arg 2; cbv
  refine X.call rfl rfl rfl rfl Try.call17 (fun N w1 args hN hS ha => ?_)
  have ha' : [Value.pointer (some ⟨b, y, none⟩), .int .u8 (6 : Nat)] = args := Option.some.inj (ha ▸ rfl : some _ = some args)
  subst ha'
  refine (job_ok b y 6 w1 J (by omega) hS.res).mono fun e w' ⟨he, hc⟩ => ⟨_, he, Goes.same (r := .agg (J 6).sv) hN hS hc rfl rfl ?_⟩
  clear hc he hS hN ha
  refine X.goC .nil true T3_ok 400 _ rfl Try.results3 ?_
  conv => arg 2; cbv
  refine X.call rfl rfl rfl rfl Try.call17 (fun N w1 args hN hS ha => ?_)
  have ha' : [Value.pointer (some ⟨b, y, none⟩), .int .u8 (7 : Nat)] = args := Option.some.inj (ha ▸ rfl : some _ = some args)
  subst ha'
  refine (job_ok b y 7 w1 J (by omega) hS.res).mono fun e w' ⟨he, hc⟩ => ⟨_, he, Goes.same (r := .agg (J 7).sv) hN hS hc rfl rfl ?_⟩
  clear hc he hS hN ha
  refine X.goC .nil true T3_ok 400 _ rfl Try.results3 ?_
  conv => arg 2; cbv
  refine X.call rfl rfl rfl rfl Try.call17 (fun N w1 args hN hS ha => ?_)
  have ha' : [Value.pointer (some ⟨b, y, none⟩), .int .u8 (8 : Nat)] = args := Option.some.inj (ha ▸ rfl : some _ = some args)
  subst ha'
  refine (job_ok b y 8 w1 J (by omega) hS.res).mono fun e w' ⟨he, hc⟩ => ⟨_, he, Goes.same (r := .agg (J 8).sv) hN hS hc rfl rfl ?_⟩
  clear hc he hS hN ha
  refine X.goC .nil true T3_ok 400 _ rfl Try.results3 ?_
  conv => arg 2; cbv
  refine X.call rfl rfl rfl rfl Try.call17 (fun N w1 args hN hS ha => ?_)
  have ha' : [Value.pointer (some ⟨b, y, none⟩), .int .u8 (9 : Nat)] = args := Option.some.inj (ha ▸ rfl : some _ = some args)
  subst ha'
  refine (job_ok b y 9 w1 J (by omega) hS.res).mono fun e w' ⟨he, hc⟩ => ⟨_, he, Goes.same (r := .agg (J 9).sv) hN hS hc rfl rfl ?_⟩
  clear hc he hS hN ha
  refine X.goC .nil true T3_ok 400 _ rfl Try.results3 ?_
  conv => arg 2; cbv
  refine X.call rfl rfl rfl rfl Try.call17 (fun N w1 args hN hS ha => ?_)
  have ha' : [Value.pointer (some ⟨b, y, none⟩), .int .u8 (10 : Nat)] = args := Option.some.inj (ha ▸ rfl : some _ = some args)
  subst ha'
  refine (job_ok b y 10 w1 J (by omega) hS.res).mono fun e w' ⟨he, hc⟩ => ⟨_, he, Goes.same (r := .agg (J 10).sv) hN hS hc rfl rfl ?_⟩
  clear hc he hS hN ha
  refine X.goC .nil true T3_ok 400 _ rfl Try.results3 ?_
  conv => arg 2; cbv
  refine X.call rfl rfl rfl rfl Try.call17 (fun N w1 args hN hS ha => ?_)
  have ha' : [Value.pointer (some ⟨b, y, none⟩), .int .u8 (11 : Nat)] = args := Option.some.inj (ha ▸ rfl : some _ = some args)
  subst ha'
  refine (job_ok b y 11 w1 J (by omega) hS.res).mono fun e w' ⟨he, hc⟩ => ⟨_, he, Goes.same (r := .agg (J 11).sv) hN hS hc rfl rfl ?_⟩
  clear hc he hS hN ha
  refine X.goC .nil true T3_ok 400 _ rfl Try.results3 ?_
  conv => arg 2; cbv
  refine X.call rfl rfl rfl rfl Try.call17 (fun N w1 args hN hS ha => ?_)
  have ha' : [Value.pointer (some ⟨b, y, none⟩), .int .u8 (12 : Nat)] = args := Option.some.inj (ha ▸ rfl : some _ = some args)
  subst ha'
  refine (job_ok b y 12 w1 J (by omega) hS.res).mono fun e w' ⟨he, hc⟩ => ⟨_, he, Goes.same (r := .agg (J 12).sv) hN hS hc rfl rfl ?_⟩
  clear hc he hS hN ha
  refine X.goC .nil true T3_ok 400 _ rfl Try.results3 ?_
  conv => arg 2; cbv
  refine X.call rfl rfl rfl rfl Try.call17 (fun N w1 args hN hS ha => ?_)
  have ha' : [Value.pointer (some ⟨b, y, none⟩), .int .u8 (13 : Nat)] = args := Option.some.inj (ha ▸ rfl : some _ = some args)
  subst ha'
  refine (job_ok b y 13 w1 J (by omega) hS.res).mono fun e w' ⟨he, hc⟩ => ⟨_, he, Goes.same (r := .agg (J 13).sv) hN hS hc rfl rfl ?_⟩
  clear hc he hS hN ha
  refine X.goC .nil true T3_ok 400 _ rfl Try.results3 ?_
  conv => arg 2; cbv
  refine X.call rfl rfl rfl rfl Try.call17 (fun N w1 args hN hS ha => ?_)
  have ha' : [Value.pointer (some ⟨b, y, none⟩), .int .u8 (14 : Nat)] = args := Option.some.inj (ha ▸ rfl : some _ = some args)
  subst ha'
  refine (job_ok b y 14 w1 J (by omega) hS.res).mono fun e w' ⟨he, hc⟩ => ⟨_, he, Goes.same (r := .agg (J 14).sv) hN hS hc rfl rfl ?_⟩
  clear hc he hS hN ha
  refine X.goC .nil true T3_ok 400 _ rfl Try.results3 ?_
  conv => arg 2; cbv
  refine X.call rfl rfl rfl rfl Try.call17 (fun N w1 args hN hS ha => ?_)
  have ha' : [Value.pointer (some ⟨b, y, none⟩), .int .u8 (15 : Nat)] = args := Option.some.inj (ha ▸ rfl : some _ = some args)
  subst ha'
  refine (job_ok b y 15 w1 J (by omega) hS.res).mono fun e w' ⟨he, hc⟩ => ⟨_, he, Goes.same (r := .agg (J 15).sv) hN hS hc rfl rfl ?_⟩
  clear hc he hS hN ha
  refine X.goC .nil true T3_ok 400 _ rfl Try.results3 ?_
  conv => arg 2; cbv
  refine X.call rfl rfl rfl rfl Try.call17 (fun N w1 args hN hS ha => ?_)
  have ha' : [Value.pointer (some ⟨b, y, none⟩), .int .u8 (16 : Nat)] = args := Option.some.inj (ha ▸ rfl : some _ = some args)
  subst ha'
  refine (job_no b y 16 w1 (by omega)).mono fun e w' ⟨he, hc⟩ => ⟨_, he, Goes.same (r := .agg [.int .u8 (.lit 0), .int .u64 (.lit 0), .int .u64 (.lit 0), .int .u64 (.lit 0), .int .u8 (.lit 0), .int .i64 (.lit 0), .int .i64 (.lit 0)]) hN hS hc rfl rfl ?_⟩
  clear hc he hS hN ha
  refine X.goC .nil true T3_ok 400 _ rfl Try.results3 ?_
  conv => arg 2; cbv
  refine X.call rfl rfl rfl rfl Try.call17 (fun N w1 args hN hS ha => ?_)
  have ha' : [Value.pointer (some ⟨b, y, none⟩), .int .u8 (17 : Nat)] = args := Option.some.inj (ha ▸ rfl : some _ = some args)
  subst ha'
  refine (job_no b y 17 w1 (by omega)).mono fun e w' ⟨he, hc⟩ => ⟨_, he, Goes.same (r := .agg [.int .u8 (.lit 0), .int .u64 (.lit 0), .int .u64 (.lit 0), .int .u64 (.lit 0), .int .u8 (.lit 0), .int .i64 (.lit 0), .int .i64 (.lit 0)]) hN hS hc rfl rfl ?_⟩
  clear hc he hS hN ha
  refine X.goC .nil true T3_ok 400 _ rfl Try.results3 ?_
  conv => arg 2; cbv
  refine X.call rfl rfl rfl rfl Try.call17 (fun N w1 args hN hS ha => ?_)
  have ha' : [Value.pointer (some ⟨b, y, none⟩), .int .u8 (18 : Nat)] = args := Option.some.inj (ha ▸ rfl : some _ = some args)
  subst ha'
  refine (job_no b y 18 w1 (by omega)).mono fun e w' ⟨he, hc⟩ => ⟨_, he, Goes.same (r := .agg [.int .u8 (.lit 0), .int .u64 (.lit 0), .int .u64 (.lit 0), .int .u64 (.lit 0), .int .u8 (.lit 0), .int .i64 (.lit 0), .int .i64 (.lit 0)]) hN hS hc rfl rfl ?_⟩
  clear hc he hS hN ha
  refine X.goC .nil true T3_ok 400 _ rfl Try.results3 ?_
  conv => arg 2; cbv
  refine X.call rfl rfl rfl rfl Try.call17 (fun N w1 args hN hS ha => ?_)
  have ha' : [Value.pointer (some ⟨b, y, none⟩), .int .u8 (19 : Nat)] = args := Option.some.inj (ha ▸ rfl : some _ = some args)
  subst ha'
  refine (job_no b y 19 w1 (by omega)).mono fun e w' ⟨he, hc⟩ => ⟨_, he, Goes.same (r := .agg [.int .u8 (.lit 0), .int .u64 (.lit 0), .int .u64 (.lit 0), .int .u64 (.lit 0), .int .u8 (.lit 0), .int .i64 (.lit 0), .int .i64 (.lit 0)]) hN hS hc rfl rfl ?_⟩
  clear hc he hS hN ha
  refine X.goC .nil true T3_ok 400 _ rfl Try.results3 ?_
  conv => arg 2; cbv
  refine X.idxSlv rfl rfl rfl rfl rfl Try.underlying22 Try.sizeOf51 i rfl (by omega) lb x z hpo hz rfl ?_
  refine X.go T3_ok 400 _ rfl Try.results3 ?_
  conv => arg 2; cbv
  refine X.loadN T3_ok (rs := actSv k s c a) rfl rfl rfl rfl rfl rfl rfl (fun N _ => ⟨actVals k s c a, rfl, fun j v hj => by
    show elsewhere [] [] W lb (z + 0 + j) = _
    rw [elsewhere_nil, Nat.add_zero]; exact hcell j v hj⟩) rfl ?_
  refine X.go T3_ok 400 _ rfl Try.results3 ?_
  conv => arg 2; cbv
  refine X.cond2 rfl (fun (t : {t : Int × Ans // 0 ≤ t.1 ∧ t.1 ≤ 4 ∧ OutAt t.2 W}) => ⟨[(0, .val (.slv po n cp)), (3, .val (.ext b y 0)), (4, .val (.int .i64 (.nat i))), (5, .val (.own 0 0)), (7, .val (.own 1 0))], [⟨true, [.int .u8 (.v (J 0).p), .int .u64 (.v (J 0).c), .int .u64 (.v (J 0).i), .int .u64 (.v (J 0).n), .int .u8 (.v (J 0).t), .int .i64 (.v (J 0).a), .int .i64 (.v (J 0).g), .int .u8 (.v (J 1).p), .int .u64 (.v (J 1).c), .int .u64 (.v (J 1).i), .int .u64 (.v (J 1).n), .int .u8 (.v (J 1).t), .int .i64 (.v (J 1).a), .int .i64 (.v (J 1).g), .int .u8 (.v (J 2).p), .int .u64 (.v (J 2).c), .int .u64 (.v (J 2).i), .int .u64 (.v (J 2).n), .int .u8 (.v (J 2).t), .int .i64 (.v (J 2).a), .int .i64 (.v (J 2).g), .int .u8 (.v (J 3).p), .int .u64 (.v (J 3).c), .int .u64 (.v (J 3).i), .int .u64 (.v (J 3).n), .int .u8 (.v (J 3).t), .int .i64 (.v (J 3).a), .int .i64 (.v (J 3).g), .int .u8 (.v (J 4).p), .int .u64 (.v (J 4).c), .int .u64 (.v (J 4).i), .int .u64 (.v (J 4).n), .int .u8 (.v (J 4).t), .int .i64 (.v (J 4).a), .int .i64 (.v (J 4).g), .int .u8 (.v (J 5).p), .int .u64 (.v (J 5).c), .int .u64 (.v (J 5).i), .int .u64 (.v (J 5).n), .int .u8 (.v (J 5).t), .int .i64 (.v (J 5).a), .int .i64 (.v (J 5).g), .int .u8 (.v (J 6).p), .int .u64 (.v (J 6).c), .int .u64 (.v (J 6).i), .int .u64 (.v (J 6).n), .int .u8 (.v (J 6).t), .int .i64 (.v (J 6).a), .int .i64 (.v (J 6).g), .int .u8 (.v (J 7).p), .int .u64 (.v (J 7).c), .int .u64 (.v (J 7).i), .int .u64 (.v (J 7).n), .int .u8 (.v (J 7).t), .int .i64 (.v (J 7).a), .int .i64 (.v (J 7).g), .int .u8 (.v (J 8).p), .int .u64 (.v (J 8).c), .int .u64 (.v (J 8).i), .int .u64 (.v (J 8).n), .int .u8 (.v (J 8).t), .int .i64 (.v (J 8).a), .int .i64 (.v (J 8).g), .int .u8 (.v (J 9).p), .int .u64 (.v (J 9).c), .int .u64 (.v (J 9).i), .int .u64 (.v (J 9).n), .int .u8 (.v (J 9).t), .int .i64 (.v (J 9).a), .int .i64 (.v (J 9).g), .int .u8 (.v (J 10).p), .int .u64 (.v (J 10).c), .int .u64 (.v (J 10).i), .int .u64 (.v (J 10).n), .int .u8 (.v (J 10).t), .int .i64 (.v (J 10).a), .int .i64 (.v (J 10).g), .int .u8 (.v (J 11).p), .int .u64 (.v (J 11).c), .int .u64 (.v (J 11).i), .int .u64 (.v (J 11).n), .int .u8 (.v (J 11).t), .int .i64 (.v (J 11).a), .int .i64 (.v (J 11).g), .int .u8 (.v (J 12).p), .int .u64 (.v (J 12).c), .int .u64 (.v (J 12).i), .int .u64 (.v (J 12).n), .int .u8 (.v (J 12).t), .int .i64 (.v (J 12).a), .int .i64 (.v (J 12).g), .int .u8 (.v (J 13).p), .int .u64 (.v (J 13).c), .int .u64 (.v (J 13).i), .int .u64 (.v (J 13).n), .int .u8 (.v (J 13).t), .int .i64 (.v (J 13).a), .int .i64 (.v (J 13).g), .int .u8 (.v (J 14).p), .int .u64 (.v (J 14).c), .int .u64 (.v (J 14).i), .int .u64 (.v (J 14).n), .int .u8 (.v (J 14).t), .int .i64 (.v (J 14).a), .int .i64 (.v (J 14).g), .int .u8 (.v (J 15).p), .int .u64 (.v (J 15).c), .int .u64 (.v (J 15).i), .int .u64 (.v (J 15).n), .int .u8 (.v (J 15).t), .int .i64 (.v (J 15).a), .int .i64 (.v (J 15).g), .int .u8 (.lit 0), .int .u64 (.lit 0), .int .u64 (.lit 0), .int .u64 (.lit 0), .int .u8 (.lit 0), .int .i64 (.lit 0), .int .i64 (.lit 0), .int .u8 (.lit 0), .int .u64 (.lit 0), .int .u64 (.lit 0), .int .u64 (.lit 0), .int .u8 (.lit 0), .int .i64 (.lit 0), .int .i64 (.lit 0), .int .u8 (.lit 0), .int .u64 (.lit 0), .int .u64 (.lit 0), .int .u64 (.lit 0), .int .u8 (.lit 0), .int .i64 (.lit 0), .int .i64 (.lit 0), .int .u8 (.lit 0), .int .u64 (.lit 0), .int .u64 (.lit 0), .int .u64 (.lit 0), .int .u8 (.lit 0), .int .i64 (.lit 0), .int .i64 (.lit 0)], none⟩, ⟨true, actSv t.1.1 s c t.1.2, none⟩]⟩) (fun hk tail => ?_) (fun hk tail => ?_) (fun t => ?_)
  · refine X.goC .nil true T3_ok 400 _ rfl Try.results3 ?_
    conv => arg 2; cbv
    refine X.call rfl rfl rfl rfl Try.call17 (fun N w1 args hN hS ha => ?_)
    have ha' : [Value.pointer (some ⟨b, y, none⟩), .int .u8 s] = args := Option.some.inj (ha ▸ rfl : some _ = some args)
    subst ha'
    refine (job_any b y s w1 J hS.res).mono fun e w' ⟨j, he, hc⟩ => ⟨_, he, Goes.same (r := .agg j.sv) hN hS hc rfl rfl ?_⟩
    clear hc he hS hN ha
    refine X.goC .nil true T3_ok 5 _ rfl Try.results3 ?_
    conv => arg 2; cbv
    have tl := tail ⟨(3, { a with i0 := j.c }), ⟨by show (0 : Int) ≤ 3; omega, by show (3 : Int) ≤ 4; omega, outAt_same ho⟩⟩
    refine X.conv fun N a' w hN hf hS => ⟨_, _, rfl, rfl, rfl, rfl, ?_, tl⟩
    exact At.same hN hf hS (Nat.zero_le _) ⟨⟨_, rfl, .inl ⟨rfl, rfl⟩⟩, ⟨_, rfl, .inl ⟨rfl, rfl⟩⟩, ⟨_, rfl, .inl ⟨rfl, rfl⟩⟩, ⟨_, rfl, .inl ⟨rfl, rfl⟩⟩, ⟨_, rfl, .inl ⟨rfl, rfl⟩⟩, trivial⟩ ⟨fun _ => rfl, SubC.refl rfl, rfl, fun _ => rfl, ⟨.inr ⟨_, rfl, rfl⟩, SubC.refl rfl⟩, rfl, trivial⟩
  · refine X.goC .nil true T3_ok 1 _ rfl Try.results3 ?_
    conv => arg 2; cbv
    have hk : ¬ (4 < k ∨ k < 0) := by simpa [SB.F, SI.den] using hk
    have tl := tail ⟨(k, a), ⟨by show 0 ≤ k; omega, by show k ≤ 4; omega, ho⟩⟩
    refine X.conv fun N a' w hN hf hS => ⟨_, _, rfl, rfl, rfl, rfl, ?_, tl⟩
    exact At.same hN hf hS (Nat.zero_le _) ⟨⟨_, rfl, .inl ⟨rfl, rfl⟩⟩, ⟨_, rfl, .inl ⟨rfl, rfl⟩⟩, ⟨_, rfl, .inl ⟨rfl, rfl⟩⟩, ⟨_, rfl, .inl ⟨rfl, rfl⟩⟩, ⟨_, rfl, .inl ⟨rfl, rfl⟩⟩, trivial⟩ ⟨fun _ => rfl, SubC.refl rfl, rfl, fun _ => rfl, SubC.refl rfl, rfl, trivial⟩
  obtain ⟨⟨k', a'⟩, hk0, hk4, ho'⟩ := t
  clear hd ho hcell
  refine X.go T3_ok 400 _ rfl Try.results3 ?_
  conv => arg 2; cbv
  refine X.call rfl rfl rfl rfl Try.call18 (fun N w1 args hN hS ha => ?_)
  have ha' : [Value.pointer (some ⟨b, y, none⟩), .agg zWv.toArray, .agg (actVals k' s c a').toArray] = args := Option.some.inj (does_args.symm.trans ha)
  subst ha'
  refine (does_ok b y k' s hs c a' w1 J hS.res (outAt_old ho' hS.imm) (outAt_far ho' hb)).mono fun e w' ⟨bv, o, M, J', he, hJ', hc, hrel⟩ => ⟨_, he, Goes.turn (jobD b y) (JobsAt b y J') hN hS hc (fun k o h => .inl (h.1 ▸ hb)) (fun k o h => by rw [h.1]; exact old_none hb o) (all_own rfl) (fun q z h => ⟨.inl h, hJ'.there (by omega) q z h⟩) ArrAt.loc hJ' (r := .tup [.bool (.v bv), .agg o.sv, .agg (flatL (fun k => (M k).sv) 16)]) three_den rfl ?_⟩
  show X (mkE Try.prog Try.f3 (fun e w' => e = .returned (.bool true) ∧ Chg (fun _ _ => False) W w') W (InR [] []) (elsewhere [] [] W) (jobD b y) (JobsAt b y J') [] B3) _ _
  have hrel : ∀ i, i < 16 → RelP k' a' (J i) (J' i) := fun i hi => hrel i hi hk0 hk4
  clear hc he hS hN ha hJ'
  refine X.go T3_ok 400 _ rfl Try.results3 ?_
  conv => arg 2; cbv
  refine X.loop (fun (_ : {m : Nat // m ≤ 20}) => chkE b y W J') (fun m => chkS po n cp b y i k' s c a' J m.1) (fun m => 20 - m.1) (fun i => ⟨rfl, rfl, rfl, rfl⟩) (fun N a w' hN hf hS => ⟨⟨0, Nat.zero_le _⟩, ?_⟩) (fun m q2 hq2 => ?_)
  · exact At.same hN hf hS (Nat.zero_le _) ⟨⟨_, rfl, .inl ⟨rfl, rfl⟩⟩, ⟨_, rfl, .inl ⟨rfl, rfl⟩⟩, ⟨_, rfl, .inl ⟨rfl, rfl⟩⟩, ⟨_, rfl, .inl ⟨rfl, rfl⟩⟩, ⟨_, rfl, .inl ⟨rfl, rfl⟩⟩, ⟨_, rfl, .inl ⟨rfl, rfl⟩⟩, trivial⟩ ⟨fun _ => rfl, SubC.refl rfl, rfl, fun _ => rfl, SubC.refl rfl, rfl, trivial⟩
  obtain ⟨m, hm⟩ := m
  by_cases hm20 : m < 20
  · exact chk_all po n cp b y i k' s c a' J J' W hrel _ q2 m hm20 fun a1 w h => hq2 ⟨m + 1, by omega⟩ a1 w (by show 20 - (m + 1) < 20 - m; omega) h
  obtain rfl : m = 20 := by omega
  unfold chkE chkS
  refine X.go T3_ok 400 _ rfl Try.results3 ?_
  conv => arg 2; cbv
  refine X.back (fun N a w' hN hf hS => hq (⟨i + 1, by omega⟩, J') a w' (by show n - (i + 1) < n - i; omega) ?_)
  exact At.same hN hf hS (Nat.zero_le _) ⟨⟨_, rfl, .inl ⟨rfl, rfl⟩⟩, ⟨_, rfl, .inl ⟨rfl, rfl⟩⟩, ⟨_, rfl, .inr ⟨_, rfl, by simp [SV.den, SI.den, wrap64s i (by have := hl60; omega)]⟩⟩, trivial⟩ trivial

end Go.Proofs.Ytcfghkiokdbhjaa
