/- WorkerResets: the walk. (Printed by genR.py.) -/
import Derived.Test.YtcfghkiokdbhjaaWk7
import Derived.Test.YtcfghkiokdbhjaaWk9

namespace Go.Proofs.Ytcfghkiokdbhjaa
open Go.Eng

theorem old_none {W : World} {b : Nat} (hb : W.heap.size ≤ b) (o : Nat) : elsewhere [] [] W b o = none := by
  rw [elsewhere_nil]
  cases h : W.cell? ⟨b, o, none⟩ with
  | none => rfl
  | some v => exact absurd (World.block_lt_of_cell? _ _ h) (by show ¬ b < _; omega)

theorem outAt_old {a : Ans} {W w : World} (ho : OutAt a W) (him : ∀ k o v, elsewhere [] [] W k o = some v → w.cell? ⟨k, o, none⟩ = some v) : OutAt a w := fun hn => by
  obtain ⟨b, x, c0, c1, c2, c3, h1, h2⟩ := ho hn
  exact ⟨b, x, c0, c1, c2, c3, h1, fun j v hj => him _ _ _ (by rw [elsewhere_nil]; exact h2 j v hj)⟩
theorem outAt_far {a : Ans} {W : World} (ho : OutAt a W) {b : Nat} (hb : W.heap.size ≤ b) : 0 < a.no → ∀ x, a.po = some x → x.block ≠ b := fun hn x hx e => by
  obtain ⟨k, x', c0, c1, c2, c3, h1, h2⟩ := ho hn
  rw [h1] at hx; cases hx
  have := World.block_lt_of_cell? _ _ (h2 0 _ rfl)
  have : k < W.heap.size := this
  have e : k = b := e
  omega

theorem does_args {N : Nums} {b y : Nat} {k : Int} {s : Nat} {c : Int} {a : Ans} : SV.denL N [.ext b y 0, .agg zW, .agg (actSv k s c a)] = some [.pointer (some ⟨b, y, none⟩), .agg zWv.toArray, .agg (actVals k s c a).toArray] := by
  simp only [SV.denL, SV.den, zW_den]; rfl

theorem reset_good {j j' : Job} (h : j' = resetJ j) : ¬ (((SB.eq (SI.v j.1) (SI.lit 3)).and ((SB.eq (SI.v j'.1) (SI.v j.1)).and ((SB.eq (SI.v j'.2) (SI.v j.2)).and ((SB.eq (SI.v j'.3) (SI.v j.3)).and ((SB.eq (SI.v j'.4) (SI.v j.4)).and ((SB.eq (SI.v j'.5) (SI.v j.5)).and ((SB.eq (SI.v j'.6) (SI.v j.6)).and (SB.eq (SI.v j'.7) (SI.v j.7)))))))).not).or
    ((SB.ne (SI.v j.1) (SI.lit 3)).and ((SB.eq (SI.v j'.1) (SI.lit 0)).and ((SB.eq (SI.v j'.2) (SI.lit 0)).and ((SB.eq (SI.v j'.3) (SI.lit 0)).and ((SB.eq (SI.v j'.4) (SI.lit 0)).and ((SB.eq (SI.v j'.5) (SI.lit 0)).and ((SB.eq (SI.v j'.6) (SI.lit 0)).and (SB.eq (SI.v j'.7) (SI.lit 0)))))))).not)).T := by
  unfold resetJ at h
  split at h
  · subst h
    rename_i hp
    simp [SB.T, SB.F, SI.den, hp]
  · subst h
    rename_i hp
    simp [SB.T, SB.F, SI.den, hp, Job.z]

set_option maxHeartbeats 40000000 in
set_option maxRecDepth 100000 in
set_option cbv.maxSteps 100000000 in
theorem resets_ok (po : Option Addr) (n cp : Nat) (W : World) (hl : ActsAt po n W) :
    Calls Try.prog 5 #[.slice po n cp] W fun e w' => e = .returned (.bool true) ∧ Chg (fun _ _ => False) W w' := by
  refine X.begin (rg := []) (N := []) (ss := [.slv po n cp]) Try.func5 rfl B5_ok rfl rfl Sat.std0 ?_
  refine X.go T5_ok 400 _ rfl Try.results5 ?_
  conv => arg 2; cbv
  refine X.call rfl rfl rfl rfl Try.call14 (fun N w1 args hN hS ha => ?_)
  have ha' : [Value.slice po n cp] = args := Option.some.inj (ha ▸ rfl : some _ = some args)
  subst ha'
  have hl1 : ActsAt po n w1 := acts_old hl hS.imm
  refine (greatl_ok po n cp w1 hl1).mono fun e w' ⟨⟨r, he, hr60⟩, hc⟩ => ⟨_, he, Goes.same (r := .bool (.v r)) hN hS hc rfl rfl ?_⟩
  refine X.go T5_ok 400 _ rfl Try.results5 ?_
  conv => arg 2; cbv
  refine X.cond rfl (fun hr => ?_) (fun hr => ?_)
  · skip
    refine X.go T5_ok 400 _ rfl Try.results5 ?_
    conv => arg 2; cbv
    refine X.call rfl rfl rfl rfl Try.call15 (fun N w1 args hN hS ha => ?_)
    have ha' : [] = args := Option.some.inj (ha ▸ rfl : some _ = some args)
    subst ha'
    refine (awake_ok w1).mono fun e w' ⟨he, hc⟩ => ⟨_, he, Goes.same (r := .bool (.lit true)) hN hS hc rfl rfl ?_⟩
    refine X.go T5_ok 400 _ rfl Try.results5 ?_
    conv => arg 2; cbv
    refine X.done T5_ok rfl (fun N w' v hN hS hv => ?_)
    simp [resV, SV.den, SB.den] at hv
    exact ⟨by rw [← hv], hS.chg.none⟩
  have hl60 : n ≤ 60 := hr60 (by simpa [SB.F, SB.den] using hr)
  clear hr hl1 hr60
  refine X.go T5_ok 400 _ rfl Try.results5 ?_
  conv => arg 2; cbv
  refine X.call rfl rfl rfl rfl Try.call16 (fun N w1 args hN hS ha => ?_)
  have ha' : [] = args := Option.some.inj (ha ▸ rfl : some _ = some args)
  subst ha'
  refine (new_ok w1).mono fun e w' ⟨b, y, he, hb1, hJ, hc⟩ => ⟨_, he, Goes.turn (jobD b y) (JobsAt b y (fun _ => Job.z)) hN hS (hc.mono fun _ _ _ h => h.elim) (fun _ _ h => False.elim h) (fun _ _ h => False.elim h) (all_own rfl) (fun q z h => ⟨.inr (h.1 ▸ hb1), hJ.there (by omega) q z h⟩) ArrAt.loc hJ (r := .ext b y 0) rfl rfl ?_⟩
  have hb : W.heap.size ≤ b := Nat.le_trans hS.chg.size hb1
  clear hc hJ he hS hN ha
  show X (mkE Try.prog Try.f5 (fun e w' => e = .returned (.bool true) ∧ Chg (fun _ _ => False) W w') W (InR [] []) (elsewhere [] [] W) (jobD b y) (JobsAt b y fun _ => Job.z) [] B5) _ _
  refine X.go T5_ok 400 _ rfl Try.results5 ?_
  conv => arg 2; cbv
  refine X.loop (fun (i : {i : Nat // i ≤ n} × (Nat → Job)) => mkE Try.prog Try.f5 (fun e w' => e = .returned (.bool true) ∧ Chg (fun _ _ => False) W w') W (InR [] []) (elsewhere [] [] W) (jobD b y) (JobsAt b y i.2) [] B5)
    (fun i => ⟨[(0, .val (.slv po n cp)), (3, .val (.ext b y 0)), (4, .val (.int .i64 (.nat i.1.1)))], []⟩) (fun i => n - i.1.1) (fun i => ⟨rfl, rfl, rfl, rfl⟩) (fun N a w' hN hf hS => ⟨(⟨0, Nat.zero_le _⟩, fun _ => Job.z), ?_⟩) (fun i q hq => ?_)
  · exact At.same hN hf hS (Nat.zero_le _) ⟨⟨_, rfl, .inl ⟨rfl, rfl⟩⟩, ⟨_, rfl, .inl ⟨rfl, rfl⟩⟩, ⟨_, rfl, .inr ⟨_, rfl, rfl⟩⟩, trivial⟩ trivial
  obtain ⟨⟨i, hi⟩, J⟩ := i
  refine X.go T5_ok 400 _ rfl Try.results5 ?_
  conv => arg 2; cbv
  refine X.cond rfl (fun hlt => ?_) (fun hge => ?_)
  · simp only [SB.T, SI.den] at hlt
    obtain ⟨lb, x, z, k, s, c, a, hpo, hz, hs, hcell, ho, hd⟩ := hl i (by omega)
    refine X.go T5_ok 400 _ rfl Try.results5 ?_
    conv => arg 2; cbv
    refine X.idxSlv rfl rfl rfl rfl rfl Try.underlying22 Try.sizeOf51 i rfl (by omega) lb x z hpo hz rfl ?_
    refine X.go T5_ok 400 _ rfl Try.results5 ?_
    conv => arg 2; cbv
    refine X.loadN T5_ok (rs := actSv k s c a) rfl rfl rfl rfl rfl rfl rfl (fun N _ => ⟨actVals k s c a, rfl, fun j v hj => by
      show elsewhere [] [] W lb (z + 0 + j) = _
      rw [elsewhere_nil, Nat.add_zero]; exact hcell j v hj⟩) rfl ?_
    refine X.go T5_ok 400 _ rfl Try.results5 ?_
    conv => arg 2; cbv
    refine X.call rfl rfl rfl rfl Try.call18 (fun N w1 args hN hS ha => ?_)
    have ha' : [Value.pointer (some ⟨b, y, none⟩), .agg zWv.toArray, .agg (actVals k s c a).toArray] = args := Option.some.inj (does_args.symm.trans ha)
    subst ha'
    refine (does_ok b y k s hs c a w1 J hS.res (outAt_old ho hS.imm) (outAt_far ho hb)).mono fun e w' ⟨bv, o, M, J', he, hJ', hc, _⟩ => ⟨_, he, Goes.turn (jobD b y) (JobsAt b y J') hN hS hc (fun k o h => .inl (h.1 ▸ hb)) (fun k o h => by rw [h.1]; exact old_none hb o) (all_own rfl) (fun q z h => ⟨.inl h, hJ'.there (by omega) q z h⟩) ArrAt.loc hJ' (r := .tup [.bool (.v bv), .agg o.sv, .agg (flatL (fun k => (M k).sv) 16)]) three_den rfl ?_⟩
    show X (mkE Try.prog Try.f5 (fun e w' => e = .returned (.bool true) ∧ Chg (fun _ _ => False) W w') W (InR [] []) (elsewhere [] [] W) (jobD b y) (JobsAt b y J') [] B5) _ _
    refine X.go T5_ok 400 _ rfl Try.results5 ?_
    conv => arg 2; cbv
    refine X.back (fun N a w' hN hf hS => hq (⟨i + 1, by omega⟩, J') a w' (by show n - (i + 1) < n - i; omega) ?_)
    exact At.same hN hf hS (Nat.zero_le _) ⟨⟨_, rfl, .inl ⟨rfl, rfl⟩⟩, ⟨_, rfl, .inl ⟨rfl, rfl⟩⟩, ⟨_, rfl, .inr ⟨_, rfl, by simp [SV.den, SI.den, wrap64s i (by have := hl60; omega)]⟩⟩, trivial⟩ trivial
  clear hge
  refine X.goC .nil true T5_ok 400 _ rfl Try.results5 ?_
  conv => arg 2; cbv
  refine X.call rfl rfl rfl rfl Try.call17 (fun N w1 args hN hS ha => ?_)
  have ha' : [Value.pointer (some ⟨b, y, none⟩), .int .u8 (0 : Nat)] = args := Option.some.inj (ha ▸ rfl : some _ = some args)
  subst ha'
  refine (job_ok b y 0 w1 J (by omega) hS.res).mono fun e w' ⟨he, hc⟩ => ⟨_, he, Goes.same (r := .agg (J 0).sv) hN hS hc rfl rfl ?_⟩
  clear hc he hS hN ha
  refine X.goC .nil true T5_ok 400 _ rfl Try.results5 ?_
  conv => arg 2; cbv
  refine X.call rfl rfl rfl rfl Try.call17 (fun N w1 args hN hS ha => ?_)
  have ha' : [Value.pointer (some ⟨b, y, none⟩), .int .u8 (1 : Nat)] = args := Option.some.inj (ha ▸ rfl : some _ = some args)
  subst ha'
  refine (job_ok b y 1 w1 J (by omega) hS.res).mono fun e w' ⟨he, hc⟩ => ⟨_, he, Goes.same (r := .agg (J 1).sv) hN hS hc rfl rfl ?_⟩
  clear hc he hS hN ha
  refine X.goC .nil true T5_ok 400 _ rfl Try.results5 ?_
  conv => arg 2; cbv
  refine X.call rfl rfl rfl rfl Try.call17 (fun N w1 args hN hS ha => ?_)
  have ha' : [Value.pointer (some ⟨b, y, none⟩), .int .u8 (2 : Nat)] = args := Option.some.inj (ha ▸ rfl : some _ = some args)
  subst ha'
  refine (job_ok b y 2 w1 J (by omega) hS.res).mono fun e w' ⟨he, hc⟩ => ⟨_, he, Goes.same (r := .agg (J 2).sv) hN hS hc rfl rfl ?_⟩
  clear hc he hS hN ha
  refine X.goC .nil true T5_ok 400 _ rfl Try.results5 ?_
  conv => arg 2; cbv
  refine X.call rfl rfl rfl rfl Try.call17 (fun N w1 args hN hS ha => ?_)
  have ha' : [Value.pointer (some ⟨b, y, none⟩), .int .u8 (3 : Nat)] = args := Option.some.inj (ha ▸ rfl : some _ = some args)
  subst ha'
  refine (job_ok b y 3 w1 J (by omega) hS.res).mono fun e w' ⟨he, hc⟩ => ⟨_, he, Goes.same (r := .agg (J 3).sv) hN hS hc rfl rfl ?_⟩
  clear hc he hS hN ha
  refine X.goC .nil true T5_ok 400 _ rfl Try.results5 ?_
  conv => arg 2; cbv
  refine X.call rfl rfl rfl rfl Try.call17 (fun N w1 args hN hS ha => ?_)
  have ha' : [Value.pointer (some ⟨b, y, none⟩), .int .u8 (4 : Nat)] = args := Option.some.inj (ha ▸ rfl : some _ = some args)
  subst ha'
  refine (job_ok b y 4 w1 J (by omega) hS.res).mono fun e w' ⟨he, hc⟩ => ⟨_, he, Goes.same (r := .agg (J 4).sv) hN hS hc rfl rfl ?_⟩
  clear hc he hS hN ha
  refine X.goC .nil true T5_ok 400 _ rfl Try.results5 ?_
  conv => arg 2; cbv
  refine X.call rfl rfl rfl rfl Try.call17 (fun N w1 args hN hS ha => ?_)
  have ha' : [Value.pointer (some ⟨b, y, none⟩), .int .u8 (5 : Nat)] = args := Option.some.inj (ha ▸ rfl : some _ = some args)
  subst ha'
  refine (job_ok b y 5 w1 J (by omega) hS.res).mono fun e w' ⟨he, hc⟩ => ⟨_, he, Goes.same (r := .agg (J 5).sv) hN hS hc rfl rfl ?_⟩
  clear hc he hS hN ha
  refine X.goC .nil true T5_ok 400 _ rfl Try.results5 ?_
  conv => arg 2; cbv
  refine X.call rfl rfl rfl rfl Try.call17 (fun N w1 args hN hS ha => ?_)
  have ha' : [Value.pointer (some ⟨b, y, none⟩), .int .u8 (6 : Nat)] = args := Option.some.inj (ha ▸ rfl : some _ = some args)
  subst ha'
  refine (job_ok b y 6 w1 J (by omega) hS.res).mono fun e w' ⟨he, hc⟩ => ⟨_, he, Goes.same (r := .agg (J 6).sv) hN hS hc rfl rfl ?_⟩
  clear hc he hS hN ha
  refine X.goC .nil true T5_ok 400 _ rfl Try.results5 ?_
  conv => arg 2; cbv
  refine X.call rfl rfl rfl rfl Try.call17 (fun N w1 args hN hS ha => ?_)
  have ha' : [Value.pointer (some ⟨b, y, none⟩), .int .u8 (7 : Nat)] = args := Option.some.inj (ha ▸ rfl : some _ = some args)
  subst ha'
  refine (job_ok b y 7 w1 J (by omega) hS.res).mono fun e w' ⟨he, hc⟩ => ⟨_, he, Goes.same (r := .agg (J 7).sv) hN hS hc rfl rfl ?_⟩
  clear hc he hS hN ha
  refine X.goC .nil true T5_ok 400 _ rfl Try.results5 ?_
  conv => arg 2; cbv
  refine X.call rfl rfl rfl rfl Try.call17 (fun N w1 args hN hS ha => ?_)
  have ha' : [Value.pointer (some ⟨b, y, none⟩), .int .u8 (8 : Nat)] = args := Option.some.inj (ha ▸ rfl : some _ = some args)
  subst ha'
  refine (job_ok b y 8 w1 J (by omega) hS.res).mono fun e w' ⟨he, hc⟩ => ⟨_, he, Goes.same (r := .agg (J 8).sv) hN hS hc rfl rfl ?_⟩
  clear hc he hS hN ha
  refine X.goC .nil true T5_ok 400 _ rfl Try.results5 ?_
  conv => arg 2; cbv
  refine X.call rfl rfl rfl rfl Try.call17 (fun N w1 args hN hS ha => ?_)
  have ha' : [Value.pointer (some ⟨b, y, none⟩), .int .u8 (9 : Nat)] = args := Option.some.inj (ha ▸ rfl : some _ = some args)
  subst ha'
  refine (job_ok b y 9 w1 J (by omega) hS.res).mono fun e w' ⟨he, hc⟩ => ⟨_, he, Goes.same (r := .agg (J 9).sv) hN hS hc rfl rfl ?_⟩
  clear hc he hS hN ha
  refine X.goC .nil true T5_ok 400 _ rfl Try.results5 ?_
  conv => arg 2; cbv
  refine X.call rfl rfl rfl rfl Try.call17 (fun N w1 args hN hS ha => ?_)
  have ha' : [Value.pointer (some ⟨b, y, none⟩), .int .u8 (10 : Nat)] = args := Option.some.inj (ha ▸ rfl : some _ = some args)
  subst ha'
  refine (job_ok b y 10 w1 J (by omega) hS.res).mono fun e w' ⟨he, hc⟩ => ⟨_, he, Goes.same (r := .agg (J 10).sv) hN hS hc rfl rfl ?_⟩
  clear hc he hS hN ha
  refine X.goC .nil true T5_ok 400 _ rfl Try.results5 ?_
  conv => arg 2; cbv
  refine X.call rfl rfl rfl rfl Try.call17 (fun N w1 args hN hS ha => ?_)
  have ha' : [Value.pointer (some ⟨b, y, none⟩), .int .u8 (11 : Nat)] = args := Option.some.inj (ha ▸ rfl : some _ = some args)
  subst ha'
  refine (job_ok b y 11 w1 J (by omega) hS.res).mono fun e w' ⟨he, hc⟩ => ⟨_, he, Goes.same (r := .agg (J 11).sv) hN hS hc rfl rfl ?_⟩
  clear hc he hS hN ha
  refine X.goC .nil true T5_ok 400 _ rfl Try.results5 ?_
  conv => arg 2; cbv
  refine X.call rfl rfl rfl rfl Try.call17 (fun N w1 args hN hS ha => ?_)
  have ha' : [Value.pointer (some ⟨b, y, none⟩), .int .u8 (12 : Nat)] = args := Option.some.inj (ha ▸ rfl : some _ = some args)
  subst ha'
  refine (job_ok b y 12 w1 J (by omega) hS.res).mono fun e w' ⟨he, hc⟩ => ⟨_, he, Goes.same (r := .agg (J 12).sv) hN hS hc rfl rfl ?_⟩
  clear hc he hS hN ha
  refine X.goC .nil true T5_ok 400 _ rfl Try.results5 ?_
  conv => arg 2; cbv
  refine X.call rfl rfl rfl rfl Try.call17 (fun N w1 args hN hS ha => ?_)
  have ha' : [Value.pointer (some ⟨b, y, none⟩), .int .u8 (13 : Nat)] = args := Option.some.inj (ha ▸ rfl : some _ = some args)
  subst ha'
  refine (job_ok b y 13 w1 J (by omega) hS.res).mono fun e w' ⟨he, hc⟩ => ⟨_, he, Goes.same (r := .agg (J 13).sv) hN hS hc rfl rfl ?_⟩
  clear hc he hS hN ha
  refine X.goC .nil true T5_ok 400 _ rfl Try.results5 ?_
  conv => arg 2; cbv
  refine X.call rfl rfl rfl rfl Try.call17 (fun N w1 args hN hS ha => ?_)
  have ha' : [Value.pointer (some ⟨b, y, none⟩), .int .u8 (14 : Nat)] = args := Option.some.inj (ha ▸ rfl : some _ = some args)
  subst ha'
  refine (job_ok b y 14 w1 J (by omega) hS.res).mono fun e w' ⟨he, hc⟩ => ⟨_, he, Goes.same (r := .agg (J 14).sv) hN hS hc rfl rfl ?_⟩
  clear hc he hS hN ha
  refine X.goC .nil true T5_ok 400 _ rfl Try.results5 ?_
  conv => arg 2; cbv
  refine X.call rfl rfl rfl rfl Try.call17 (fun N w1 args hN hS ha => ?_)
  have ha' : [Value.pointer (some ⟨b, y, none⟩), .int .u8 (15 : Nat)] = args := Option.some.inj (ha ▸ rfl : some _ = some args)
  subst ha'
  refine (job_ok b y 15 w1 J (by omega) hS.res).mono fun e w' ⟨he, hc⟩ => ⟨_, he, Goes.same (r := .agg (J 15).sv) hN hS hc rfl rfl ?_⟩
  clear hc he hS hN ha
  refine X.goC .nil true T5_ok 400 _ rfl Try.results5 ?_
  conv => arg 2; cbv
  refine X.call rfl rfl rfl rfl Try.call22 (fun N w1 args hN hS ha => ?_)
  have ha' : [Value.pointer (some ⟨b, y, none⟩)] = args := Option.some.inj (ha ▸ rfl : some _ = some args)
  subst ha'
  refine (reset_ok b y w1 J hS.res).mono fun e w' ⟨J', he, hJ', hc, hrel⟩ => ⟨_, he, Goes.turn (jobD b y) (JobsAt b y J') hN hS hc (fun k o h => .inl (h.1 ▸ hb)) (fun k o h => by rw [h.1]; exact old_none hb o) (all_own rfl) (fun q z h => ⟨.inl h, hJ'.there (by omega) q z h⟩) ArrAt.loc hJ' (r := .tup []) rfl rfl ?_⟩
  clear hc he hS hN ha hJ'
  show X (mkE Try.prog Try.f5 (fun e w' => e = .returned (.bool true) ∧ Chg (fun _ _ => False) W w') W (InR [] []) (elsewhere [] [] W) (jobD b y) (JobsAt b y J') [] B5) _ _
  refine X.goC .nil true T5_ok 400 _ rfl Try.results5 ?_
  conv => arg 2; cbv
  refine X.call rfl rfl rfl rfl Try.call17 (fun N w1 args hN hS ha => ?_)
  have ha' : [Value.pointer (some ⟨b, y, none⟩), .int .u8 (0 : Nat)] = args := Option.some.inj (ha ▸ rfl : some _ = some args)
  subst ha'
  refine (job_ok b y 0 w1 J' (by omega) hS.res).mono fun e w' ⟨he, hc⟩ => ⟨_, he, Goes.same (r := .agg (J' 0).sv) hN hS hc rfl rfl ?_⟩
  clear hc he hS hN ha
  refine X.goC .nil true T5_ok 400 _ rfl Try.results5 ?_
  conv => arg 2; cbv
  refine X.cond rfl (fun hbad => absurd hbad (reset_good (hrel 0 (by omega)))) (fun _ => ?_)
  refine X.goC .nil true T5_ok 400 _ rfl Try.results5 ?_
  conv => arg 2; cbv
  refine X.call rfl rfl rfl rfl Try.call17 (fun N w1 args hN hS ha => ?_)
  have ha' : [Value.pointer (some ⟨b, y, none⟩), .int .u8 (1 : Nat)] = args := Option.some.inj (ha ▸ rfl : some _ = some args)
  subst ha'
  refine (job_ok b y 1 w1 J' (by omega) hS.res).mono fun e w' ⟨he, hc⟩ => ⟨_, he, Goes.same (r := .agg (J' 1).sv) hN hS hc rfl rfl ?_⟩
  clear hc he hS hN ha
  refine X.goC .nil true T5_ok 400 _ rfl Try.results5 ?_
  conv => arg 2; cbv
  refine X.cond rfl (fun hbad => absurd hbad (reset_good (hrel 1 (by omega)))) (fun _ => ?_)
  refine X.goC .nil true T5_ok 400 _ rfl Try.results5 ?_
  conv => arg 2; cbv
  refine X.call rfl rfl rfl rfl Try.call17 (fun N w1 args hN hS ha => ?_)
  have ha' : [Value.pointer (some ⟨b, y, none⟩), .int .u8 (2 : Nat)] = args := Option.some.inj (ha ▸ rfl : some _ = some args)
  subst ha'
  refine (job_ok b y 2 w1 J' (by omega) hS.res).mono fun e w' ⟨he, hc⟩ => ⟨_, he, Goes.same (r := .agg (J' 2).sv) hN hS hc rfl rfl ?_⟩
  clear hc he hS hN ha
  refine X.goC .nil true T5_ok 400 _ rfl Try.results5 ?_
  conv => arg 2; cbv
  refine X.cond rfl (fun hbad => absurd hbad (reset_good (hrel 2 (by omega)))) (fun _ => ?_)
  refine X.goC .nil true T5_ok 400 _ rfl Try.results5 ?_
  conv => arg 2; cbv
  refine X.call rfl rfl rfl rfl Try.call17 (fun N w1 args hN hS ha => ?_)
  have ha' : [Value.pointer (some ⟨b, y, none⟩), .int .u8 (3 : Nat)] = args := Option.some.inj (ha ▸ rfl : some _ = some args)
  subst ha'
  refine (job_ok b y 3 w1 J' (by omega) hS.res).mono fun e w' ⟨he, hc⟩ => ⟨_, he, Goes.same (r := .agg (J' 3).sv) hN hS hc rfl rfl ?_⟩
  clear hc he hS hN ha
  refine X.goC .nil true T5_ok 400 _ rfl Try.results5 ?_
  conv => arg 2; cbv
  refine X.cond rfl (fun hbad => absurd hbad (reset_good (hrel 3 (by omega)))) (fun _ => ?_)
  refine X.goC .nil true T5_ok 400 _ rfl Try.results5 ?_
  conv => arg 2; cbv
  refine X.call rfl rfl rfl rfl Try.call17 (fun N w1 args hN hS ha => ?_)
  have ha' : [Value.pointer (some ⟨b, y, none⟩), .int .u8 (4 : Nat)] = args := Option.some.inj (ha ▸ rfl : some _ = some args)
  subst ha'
  refine (job_ok b y 4 w1 J' (by omega) hS.res).mono fun e w' ⟨he, hc⟩ => ⟨_, he, Goes.same (r := .agg (J' 4).sv) hN hS hc rfl rfl ?_⟩
  clear hc he hS hN ha
  refine X.goC .nil true T5_ok 400 _ rfl Try.results5 ?_
  conv => arg 2; cbv
  refine X.cond rfl (fun hbad => absurd hbad (reset_good (hrel 4 (by omega)))) (fun _ => ?_)
  refine X.goC .nil true T5_ok 400 _ rfl Try.results5 ?_
  conv => arg 2; cbv
  refine X.call rfl rfl rfl rfl Try.call17 (fun N w1 args hN hS ha => ?_)
  have ha' : [Value.pointer (some ⟨b, y, none⟩), .int .u8 (5 : Nat)] = args := Option.some.inj (ha ▸ rfl : some _ = some args)
  subst ha'
  refine (job_ok b y 5 w1 J' (by omega) hS.res).mono fun e w' ⟨he, hc⟩ => ⟨_, he, Goes.same (r := .agg (J' 5).sv) hN hS hc rfl rfl ?_⟩
  clear hc he hS hN ha
  refine X.goC .nil true T5_ok 400 _ rfl Try.results5 ?_
  conv => arg 2; cbv
  refine X.cond rfl (fun hbad => absurd hbad (reset_good (hrel 5 (by omega)))) (fun _ => ?_)
  refine X.goC .nil true T5_ok 400 _ rfl Try.results5 ?_
  conv => arg 2; cbv
  refine X.call rfl rfl rfl rfl Try.call17 (fun N w1 args hN hS ha => ?_)
  have ha' : [Value.pointer (some ⟨b, y, none⟩), .int .u8 (6 : Nat)] = args := Option.some.inj (ha ▸ rfl : some _ = some args)
  subst ha'
  refine (job_ok b y 6 w1 J' (by omega) hS.res).mono fun e w' ⟨he, hc⟩ => ⟨_, he, Goes.same (r := .agg (J' 6).sv) hN hS hc rfl rfl ?_⟩
  clear hc he hS hN ha
  refine X.goC .nil true T5_ok 400 _ rfl Try.results5 ?_
  conv => arg 2; cbv
  refine X.cond rfl (fun hbad => absurd hbad (reset_good (hrel 6 (by omega)))) (fun _ => ?_)
  refine X.goC .nil true T5_ok 400 _ rfl Try.results5 ?_
  conv => arg 2; cbv
  refine X.call rfl rfl rfl rfl Try.call17 (fun N w1 args hN hS ha => ?_)
  have ha' : [Value.pointer (some ⟨b, y, none⟩), .int .u8 (7 : Nat)] = args := Option.some.inj (ha ▸ rfl : some _ = some args)
  subst ha'
  refine (job_ok b y 7 w1 J' (by omega) hS.res).mono fun e w' ⟨he, hc⟩ => ⟨_, he, Goes.same (r := .agg (J' 7).sv) hN hS hc rfl rfl ?_⟩
  clear hc he hS hN ha
  refine X.goC .nil true T5_ok 400 _ rfl Try.results5 ?_
  conv => arg 2; cbv
  refine X.cond rfl (fun hbad => absurd hbad (reset_good (hrel 7 (by omega)))) (fun _ => ?_)
  refine X.goC .nil true T5_ok 400 _ rfl Try.results5 ?_
  conv => arg 2; cbv
  refine X.call rfl rfl rfl rfl Try.call17 (fun N w1 args hN hS ha => ?_)
  have ha' : [Value.pointer (some ⟨b, y, none⟩), .int .u8 (8 : Nat)] = args := Option.some.inj (ha ▸ rfl : some _ = some args)
  subst ha'
  refine (job_ok b y 8 w1 J' (by omega) hS.res).mono fun e w' ⟨he, hc⟩ => ⟨_, he, Goes.same (r := .agg (J' 8).sv) hN hS hc rfl rfl ?_⟩
  clear hc he hS hN ha
  refine X.goC .nil true T5_ok 400 _ rfl Try.results5 ?_
  conv => arg 2; cbv
  refine X.cond rfl (fun hbad => absurd hbad (reset_good (hrel 8 (by omega)))) (fun _ => ?_)
  refine X.goC .nil true T5_ok 400 _ rfl Try.results5 ?_
  conv => arg 2; cbv
  refine X.call rfl rfl rfl rfl Try.call17 (fun N w1 args hN hS ha => ?_)
  have ha' : [Value.pointer (some ⟨b, y, none⟩), .int .u8 (9 : Nat)] = args := Option.some.inj (ha ▸ rfl : some _ = some args)
  subst ha'
  refine (job_ok b y 9 w1 J' (by omega) hS.res).mono fun e w' ⟨he, hc⟩ => ⟨_, he, Goes.same (r := .agg (J' 9).sv) hN hS hc rfl rfl ?_⟩
  clear hc he hS hN ha
  refine X.goC .nil true T5_ok 400 _ rfl Try.results5 ?_
  conv => arg 2; cbv
  refine X.cond rfl (fun hbad => absurd hbad (reset_good (hrel 9 (by omega)))) (fun _ => ?_)
  refine X.goC .nil true T5_ok 400 _ rfl Try.results5 ?_
  conv => arg 2; cbv
  refine X.call rfl rfl rfl rfl Try.call17 (fun N w1 args hN hS ha => ?_)
  have ha' : [Value.pointer (some ⟨b, y, none⟩), .int .u8 (10 : Nat)] = args := Option.some.inj (ha ▸ rfl : some _ = some args)
  subst ha'
  refine (job_ok b y 10 w1 J' (by omega) hS.res).mono fun e w' ⟨he, hc⟩ => ⟨_, he, Goes.same (r := .agg (J' 10).sv) hN hS hc rfl rfl ?_⟩
  clear hc he hS hN ha
  refine X.goC .nil true T5_ok 400 _ rfl Try.results5 ?_
  conv => arg 2; cbv
  refine X.cond rfl (fun hbad => absurd hbad (reset_good (hrel 10 (by omega)))) (fun _ => ?_)
  refine X.goC .nil true T5_ok 400 _ rfl Try.results5 ?_
  conv => arg 2; cbv
  refine X.call rfl rfl rfl rfl Try.call17 (fun N w1 args hN hS ha => ?_)
  have ha' : [Value.pointer (some ⟨b, y, none⟩), .int .u8 (11 : Nat)] = args := Option.some.inj (ha ▸ rfl : some _ = some args)
  subst ha'
  refine (job_ok b y 11 w1 J' (by omega) hS.res).mono fun e w' ⟨he, hc⟩ => ⟨_, he, Goes.same (r := .agg (J' 11).sv) hN hS hc rfl rfl ?_⟩
  clear hc he hS hN ha
  refine X.goC .nil true T5_ok 400 _ rfl Try.results5 ?_
  conv => arg 2; cbv
  refine X.cond rfl (fun hbad => absurd hbad (reset_good (hrel 11 (by omega)))) (fun _ => ?_)
  refine X.goC .nil true T5_ok 400 _ rfl Try.results5 ?_
  conv => arg 2; cbv
  refine X.call rfl rfl rfl rfl Try.call17 (fun N w1 args hN hS ha => ?_)
  have ha' : [Value.pointer (some ⟨b, y, none⟩), .int .u8 (12 : Nat)] = args := Option.some.inj (ha ▸ rfl : some _ = some args)
  subst ha'
  refine (job_ok b y 12 w1 J' (by omega) hS.res).mono fun e w' ⟨he, hc⟩ => ⟨_, he, Goes.same (r := .agg (J' 12).sv) hN hS hc rfl rfl ?_⟩
  clear hc he hS hN ha
  refine X.goC .nil true T5_ok 400 _ rfl Try.results5 ?_
  conv => arg 2; cbv
  refine X.cond rfl (fun hbad => absurd hbad (reset_good (hrel 12 (by omega)))) (fun _ => ?_)
  refine X.goC .nil true T5_ok 400 _ rfl Try.results5 ?_
  conv => arg 2; cbv
  refine X.call rfl rfl rfl rfl Try.call17 (fun N w1 args hN hS ha => ?_)
  have ha' : [Value.pointer (some ⟨b, y, none⟩), .int .u8 (13 : Nat)] = args := Option.some.inj (ha ▸ rfl : some _ = some args)
  subst ha'
  refine (job_ok b y 13 w1 J' (by omega) hS.res).mono fun e w' ⟨he, hc⟩ => ⟨_, he, Goes.same (r := .agg (J' 13).sv) hN hS hc rfl rfl ?_⟩
  clear hc he hS hN ha
  refine X.goC .nil true T5_ok 400 _ rfl Try.results5 ?_
  conv => arg 2; cbv
  refine X.cond rfl (fun hbad => absurd hbad (reset_good (hrel 13 (by omega)))) (fun _ => ?_)
  refine X.goC .nil true T5_ok 400 _ rfl Try.results5 ?_
  conv => arg 2; cbv
  refine X.call rfl rfl rfl rfl Try.call17 (fun N w1 args hN hS ha => ?_)
  have ha' : [Value.pointer (some ⟨b, y, none⟩), .int .u8 (14 : Nat)] = args := Option.some.inj (ha ▸ rfl : some _ = some args)
  subst ha'
  refine (job_ok b y 14 w1 J' (by omega) hS.res).mono fun e w' ⟨he, hc⟩ => ⟨_, he, Goes.same (r := .agg (J' 14).sv) hN hS hc rfl rfl ?_⟩
  clear hc he hS hN ha
  refine X.goC .nil true T5_ok 400 _ rfl Try.results5 ?_
  conv => arg 2; cbv
  refine X.cond rfl (fun hbad => absurd hbad (reset_good (hrel 14 (by omega)))) (fun _ => ?_)
  refine X.goC .nil true T5_ok 400 _ rfl Try.results5 ?_
  conv => arg 2; cbv
  refine X.call rfl rfl rfl rfl Try.call17 (fun N w1 args hN hS ha => ?_)
  have ha' : [Value.pointer (some ⟨b, y, none⟩), .int .u8 (15 : Nat)] = args := Option.some.inj (ha ▸ rfl : some _ = some args)
  subst ha'
  refine (job_ok b y 15 w1 J' (by omega) hS.res).mono fun e w' ⟨he, hc⟩ => ⟨_, he, Goes.same (r := .agg (J' 15).sv) hN hS hc rfl rfl ?_⟩
  clear hc he hS hN ha
  refine X.goC .nil true T5_ok 400 _ rfl Try.results5 ?_
  conv => arg 2; cbv
  refine X.cond rfl (fun hbad => absurd hbad (reset_good (hrel 15 (by omega)))) (fun _ => ?_)
  refine X.goC .nil true T5_ok 400 _ rfl Try.results5 ?_
  conv => arg 2; cbv
  refine X.go T5_ok 400 _ rfl Try.results5 ?_
  conv => arg 2; cbv
  refine X.call rfl rfl rfl rfl Try.call15 (fun N w1 args hN hS ha => ?_)
  have ha' : [] = args := Option.some.inj (ha ▸ rfl : some _ = some args)
  subst ha'
  refine (awake_ok w1).mono fun e w' ⟨he, hc⟩ => ⟨_, he, Goes.same (r := .bool (.lit true)) hN hS hc rfl rfl ?_⟩
  refine X.go T5_ok 400 _ rfl Try.results5 ?_
  conv => arg 2; cbv
  refine X.done T5_ok rfl (fun N w' v hN hS hv => ?_)
  simp [resV, SV.den, SB.den] at hv
  exact ⟨by rw [← hv], hS.chg.none⟩

end Go.Proofs.Ytcfghkiokdbhjaa
