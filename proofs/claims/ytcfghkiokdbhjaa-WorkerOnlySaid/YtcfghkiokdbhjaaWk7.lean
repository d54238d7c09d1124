/- An act of a worker, and of the document's. -/
import Derived.Test.YtcfghkiokdbhjaaWk6
import Derived.Test.YtcfghkiokdbhjaaWk8

namespace Go.Proofs.Ytcfghkiokdbhjaa
open Go.Eng

theorem chg_jobs {b y : Nat} {w w' : World} (h : Chg (fun _ _ => False) w w') : Chg (jobD b y) w w' := h.mono (fun _ _ _ h => h.elim)

theorem start_any (b y s : Nat) (w : World) (J : Nat → Job) (hJ : JobsAt b y J w) :
    Calls Try.prog 23 #[.pointer (some ⟨b, y, none⟩), .int .u8 s] w fun e w' => ∃ (op : Opn) (more : Bool) (J' : Nat → Job), e = .returned (.tuple #[.agg op.vals.toArray, .bool more]) ∧ JobsAt b y J' w' ∧ Chg (jobD b y) w w' ∧
      ∀ k, J' k = J k ∨ ((J k).p = 0 ∧ J' k = { J k with p := 1 }) := by
  by_cases hs : s < 16
  · exact start_ok b y s w J hs hJ
  · exact (start_no b y s w (by omega)).mono fun e w' ⟨he, hc⟩ => ⟨Opn.z, false, J, he, ArrAt.stays hJ hc, chg_jobs hc, fun _ => .inl rfl⟩
theorem began_any (b y s : Nat) (c : Int) (w : World) (J : Nat → Job) (hJ : JobsAt b y J w) :
    Calls Try.prog 20 #[.pointer (some ⟨b, y, none⟩), .int .u8 s, .int .u64 c] w fun e w' => ∃ (J' : Nat → Job), e = .returned (.tuple #[]) ∧ JobsAt b y J' w' ∧ Chg (jobD b y) w w' ∧
      ∀ k, J' k = J k ∨ J' k = { J k with c := c } := by
  by_cases hs : s < 16
  · exact began_ok b y s c w J hs hJ
  · exact (began_no b y s c w (by omega)).mono fun e w' ⟨he, hc⟩ => ⟨J, he, ArrAt.stays hJ hc, chg_jobs hc, fun _ => .inl rfl⟩
theorem failed_any (b y s : Nat) (w : World) (J : Nat → Job) (hJ : JobsAt b y J w) :
    Calls Try.prog 21 #[.pointer (some ⟨b, y, none⟩), .int .u8 s] w fun e w' => ∃ (J' : Nat → Job), e = .returned (.tuple #[]) ∧ JobsAt b y J' w' ∧ Chg (jobD b y) w w' ∧
      ∀ k, J' k = J k ∨ J' k = Job.z := by
  by_cases hs : s < 16
  · exact failed_ok b y s w J hs hJ
  · exact (failed_no b y s w (by omega)).mono fun e w' ⟨he, hc⟩ => ⟨J, he, ArrAt.stays hJ hc, chg_jobs hc, fun _ => .inl rfl⟩
theorem job_any (b y s : Nat) (w : World) (J : Nat → Job) (hJ : JobsAt b y J w) :
    Calls Try.prog 17 #[.pointer (some ⟨b, y, none⟩), .int .u8 s] w fun e w' => ∃ j : Job, e = .returned (.agg j.vals.toArray) ∧ Chg (fun _ _ => False) w w' := by
  by_cases hs : s < 16
  · exact (job_ok b y s w J hs hJ).mono fun e w' ⟨he, hc⟩ => ⟨_, he, hc⟩
  · exact (job_no b y s w (by omega)).mono fun e w' ⟨he, hc⟩ => ⟨_, he, hc⟩

def DoesRel (k : Int) (a : Ans) (j j' : Job) : Prop := 0 ≤ k → k ≤ 4 →
  (j'.p = 3 → j.p = 3 ∨ (j.p = 2 ∧ k = 3 ∧ a.i0 = j.c ∧ j'.i = j.i ∧ j'.n = j.n ∧ j'.t = j.t ∧ j'.a = j.a ∧ j'.g = j.g ∧ a.er ≠ 17)) ∧ (j'.p = 2 → j.p = 2 ∨ j.p = 1)

abbrev RelP (k : Int) (a : Ans) (j j' : Job) : Prop := (j'.p = 3 → j.p = 3 ∨ (j.p = 2 ∧ k = 3 ∧ a.i0 = j.c ∧ j'.i = j.i ∧ j'.n = j.n ∧ j'.t = j.t ∧ j'.a = j.a ∧ j'.g = j.g ∧ a.er ≠ 17)) ∧ (j'.p = 2 → j.p = 2 ∨ j.p = 1)
theorem rel_start {k : Int} {a : Ans} {j j' : Job} (h : j' = j ∨ (j.p = 0 ∧ j' = { j with p := 1 })) : RelP k a j j' := by
  rcases h with rfl | ⟨_, rfl⟩
  · exact ⟨.inl, .inl⟩
  · exact ⟨fun h => by simp at h, fun h => by simp at h⟩
theorem rel_began {k c : Int} {a : Ans} {j j' : Job} (h : j' = j ∨ j' = { j with c := c }) : RelP k a j j' := by
  rcases h with rfl | rfl
  · exact ⟨.inl, .inl⟩
  · exact ⟨.inl, .inl⟩
theorem rel_failed {k : Int} {a : Ans} {j j' : Job} (h : j' = j ∨ j' = Job.z) : RelP k a j j' := by
  rcases h with rfl | rfl
  · exact ⟨.inl, .inl⟩
  · exact ⟨fun h => by simp [Job.z] at h, fun h => by simp [Job.z] at h⟩
theorem rel_reset {k : Int} {a : Ans} {j j' : Job} (h : j' = resetJ j) : RelP k a j j' := by
  unfold resetJ at h
  split at h
  · exact rel_failed (.inl h)
  · exact rel_failed (.inr h)
theorem rel_told {k : Int} {a : Ans} {j j' : Job} (hk : k = 3) (h : ToldRel a j j') : RelP k a j j' := by
  rcases h with rfl | rfl | ⟨h1, h2⟩ | ⟨h1, h2, rfl, h3⟩
  · exact ⟨.inl, .inl⟩
  · exact ⟨fun h => by simp [Job.z] at h, fun h => by simp [Job.z] at h⟩
  · exact ⟨fun h => by omega, fun _ => .inr h1⟩
  · exact ⟨fun _ => .inr ⟨h1, hk, h2.symm, rfl, rfl, rfl, rfl, rfl, h3⟩, fun h => by simp at h⟩

theorem flat_den (M : Nat → Job) (N : Nums) : (SV.agg (flatL (fun k => (M k).sv) 16)).den N = some (.agg (flatL (fun k => (M k).vals) 16).toArray) := by
  have : SV.denL N (flatL (fun k => (M k).sv) 16) = some (flatL (fun k => (M k).vals) 16) := flatL_den 16 (fun s _ => rfl)
  simp only [SV.den, this]
theorem two_den (o : Oout) (M : Nat → Job) (N : Nums) : (SV.tup [.agg o.sv, .agg (flatL (fun k => (M k).sv) 16)]).den N = some (.tuple #[.agg o.vals.toArray, .agg (flatL (fun k => (M k).vals) 16).toArray]) := by
  have h1 : (SV.agg o.sv).den N = some (.agg o.vals.toArray) := rfl
  simp only [SV.den, SV.denL] at h1 ⊢
  have h2 : SV.denL N (flatL (fun k => (M k).sv) 16) = some (flatL (fun k => (M k).vals) 16) := flatL_den 16 (fun s _ => rfl)
  rw [h2]
  simp only
  have h3 : SV.denL N o.sv = some o.vals := rfl
  rw [h3]
theorem three_den {N : Nums} {c : SB} {o : Oout} {M : Nat → Job} : (SV.tup [.bool c, .agg o.sv, .agg (flatL (fun k => (M k).sv) 16)]).den N = some (.tuple #[.bool c.den, .agg o.vals.toArray, .agg (flatL (fun k => (M k).vals) 16).toArray]) := by
  simp only [SV.den, SV.denL]
  have h2 : SV.denL N (flatL (fun k => (M k).sv) 16) = some (flatL (fun k => (M k).vals) 16) := flatL_den 16 (fun s _ => rfl)
  rw [h2]
  simp only
  have h3 : SV.denL N o.sv = some o.vals := rfl
  rw [h3]

/-- the twelve cells of nothing to be called -/
def outZ : List SV := [.int .u8 (.lit 0), .int .u8 (.lit 0), .int .u8 (.lit 0), .int .u8 (.lit 0), .int .u64 (.lit 0), .int .i64 (.lit 0), .int .i64 (.lit 0), .int .i64 (.lit 0), .int .u8 (.lit 0), .int .u64 (.lit 0), .int .u64 (.lit 0), .bool (.lit false)]
theorem outZ_den {N : Nums} : SV.denL N outZ = some (Oout.vals ⟨0, Opn.z, false⟩) := rfl
theorem three_den0 {N : Nums} {c : SB} {M : Nat → Job} : (SV.tup [.bool c, .agg outZ, .agg (flatL (fun k => (M k).sv) 16)]).den N = some (.tuple #[.bool c.den, .agg (Oout.vals ⟨0, Opn.z, false⟩).toArray, .agg (flatL (fun k => (M k).vals) 16).toArray]) := by
  simp only [SV.den, SV.denL]
  have h2 : SV.denL N (flatL (fun k => (M k).sv) 16) = some (flatL (fun k => (M k).vals) 16) := flatL_den 16 (fun s _ => rfl)
  rw [h2]
  simp only [outZ_den]

theorem all_own {rg : List Rg} (h : (rg.all fun g => g.own || g.cells.isEmpty) = true) : ∀ g ∈ rg, g.own = true ∨ g.cells = [] := fun g hg => by
  have := List.all_eq_true.1 h g hg
  simpa using this

theorem fin3 {N : Nums} {x : SV} {u v : Value} (hv : x.den N = some v) (h : x.den N = some u) : Ending.returned v = .returned u := by
  rw [hv] at h; cases h; rfl

abbrev DoesPost (b y : Nat) (k : Int) (a : Ans) (w : World) (J : Nat → Job) : Ending → World → Prop := fun e w' =>
  ∃ (bv : Bool) (o : Oout) (M J' : Nat → Job), e = .returned (.tuple #[.bool bv, .agg o.vals.toArray, .agg (flatL (fun k => (M k).vals) 16).toArray]) ∧ JobsAt b y J' w' ∧ Chg (jobD b y) w w' ∧ ∀ i, i < 16 → DoesRel k a (J i) (J' i)

set_option maxHeartbeats 40000000 in
set_option maxRecDepth 100000 in
set_option cbv.maxSteps 100000000 in
theorem does_ok (b y : Nat) (k : Int) (s : Nat) (hs : s < 256) (c : Int) (a : Ans) (w : World) (J : Nat → Job) (hJ : JobsAt b y J w) (ho : OutAt a w) (hb : 0 < a.no → ∀ x, a.po = some x → x.block ≠ b) :
    Calls Try.prog 18 #[.pointer (some ⟨b, y, none⟩), .agg zWv.toArray, .agg (actVals k s c a).toArray] w (DoesPost b y k a w J) := by
  refine X.beginR (jobD b y) (JobsAt b y J) (ss := [.ext b y 0, .agg zW, .agg (actSv k s c a)]) Try.func18 rfl B18_ok rfl (by simp only [SV.denL, SV.den, zW_den]; rfl) (hJ.there (by omega)) ArrAt.loc hJ ?_
  refine X.go T18_ok 400 _ rfl Try.results18 ?_
  conv => arg 2; cbv
  refine X.cond rfl (fun hk => ?_) (fun hk0 => ?_)
  · have hk : k = 0 := hk
    refine X.go T18_ok 400 _ rfl Try.results18 ?_
    conv => arg 2; cbv
    refine X.call rfl rfl rfl rfl Try.call23 (fun N w1 args hN hS ha => ?_)
    have ha' : [Value.pointer (some ⟨b, y, none⟩), .int .u8 s] = args := Option.some.inj (ha ▸ rfl : some _ = some args)
    subst ha'
    refine (start_any b y s w1 J hS.res).mono fun e w' ⟨op, more, J', he, hJ', hc, hrel⟩ => ⟨_, he, Goes.turn (jobD b y) (JobsAt b y J') hN hS hc (fun _ _ h => .inr h) (fun _ _ h => outside_in h) (all_own rfl) (fun q z h => ⟨.inl h, hJ'.there (by omega) q z h⟩) ArrAt.loc hJ' (r := .tup [.agg op.sv, .bool (.v more)]) rfl rfl ?_⟩
    refine X.go T18_ok 400 _ rfl Try.results18 ?_
    conv => arg 2; cbv
    refine X.call rfl rfl rfl rfl Try.call59 (fun N w1 args hN hS ha => ?_)
    have ha' : [Value.agg zWv.toArray, .int .u8 s] = args := Option.some.inj (ha ▸ rfl : some _ = some args)
    subst ha'
    refine (rstart_ok s hs w1).mono fun e w' ⟨o, M, he, hc⟩ => ⟨_, he, Goes.same (r := .tup [.agg o.sv, .agg (flatL (fun k => (M k).sv) 16)]) hN hS hc (two_den o M _) rfl ?_⟩
    refine X.go T18_ok 400 _ rfl Try.results18 ?_
    conv => arg 2; cbv
    refine X.done T18_ok rfl (fun N w' v hN hS hv => ?_)
    exact ⟨_, o, M, J', fin3 hv three_den, hS.res, hS.chg, fun i hi => fun _ _ => rel_start (hrel i)⟩
  · have hk0 : k ≠ 0 := hk0
    refine X.go T18_ok 400 _ rfl Try.results18 ?_
    conv => arg 2; cbv
    refine X.cond rfl (fun hk => ?_) (fun hk1 => ?_)
    · have hk : k = 1 := hk
      refine X.go T18_ok 400 _ rfl Try.results18 ?_
      conv => arg 2; cbv
      refine X.call rfl rfl rfl rfl Try.call20 (fun N w1 args hN hS ha => ?_)
      have ha' : [Value.pointer (some ⟨b, y, none⟩), .int .u8 s, .int .u64 c] = args := Option.some.inj (ha ▸ rfl : some _ = some args)
      subst ha'
      refine (began_any b y s c w1 J hS.res).mono fun e w' ⟨J', he, hJ', hc, hrel⟩ => ⟨_, he, Goes.turn (jobD b y) (JobsAt b y J') hN hS hc (fun _ _ h => .inr h) (fun _ _ h => outside_in h) (all_own rfl) (fun q z h => ⟨.inl h, hJ'.there (by omega) q z h⟩) ArrAt.loc hJ' (r := .tup []) rfl rfl ?_⟩
      refine X.go T18_ok 400 _ rfl Try.results18 ?_
      conv => arg 2; cbv
      refine X.call rfl rfl rfl rfl Try.call60 (fun N w1 args hN hS ha => ?_)
      have ha' : [Value.agg zWv.toArray, .int .u8 s, .int .u64 c] = args := Option.some.inj (ha ▸ rfl : some _ = some args)
      subst ha'
      refine (rbegan_ok c s hs w1).mono fun e w' ⟨M, he, hc⟩ => ⟨_, he, Goes.same (r := .agg (flatL (fun k => (M k).sv) 16)) hN hS hc (flat_den M _) rfl ?_⟩
      refine X.go T18_ok 400 _ rfl Try.results18 ?_
      conv => arg 2; cbv
      refine X.done T18_ok rfl (fun N w' v hN hS hv => ?_)
      exact ⟨_, ⟨0, Opn.z, false⟩, M, J', fin3 hv three_den0, hS.res, hS.chg, fun i hi => fun _ _ => rel_began (hrel i)⟩
    · have hk1 : k ≠ 1 := hk1
      refine X.go T18_ok 400 _ rfl Try.results18 ?_
      conv => arg 2; cbv
      refine X.cond rfl (fun hk => ?_) (fun hk2 => ?_)
      · have hk : k = 2 := hk
        refine X.go T18_ok 400 _ rfl Try.results18 ?_
        conv => arg 2; cbv
        refine X.call rfl rfl rfl rfl Try.call21 (fun N w1 args hN hS ha => ?_)
        have ha' : [Value.pointer (some ⟨b, y, none⟩), .int .u8 s] = args := Option.some.inj (ha ▸ rfl : some _ = some args)
        subst ha'
        refine (failed_any b y s w1 J hS.res).mono fun e w' ⟨J', he, hJ', hc, hrel⟩ => ⟨_, he, Goes.turn (jobD b y) (JobsAt b y J') hN hS hc (fun _ _ h => .inr h) (fun _ _ h => outside_in h) (all_own rfl) (fun q z h => ⟨.inl h, hJ'.there (by omega) q z h⟩) ArrAt.loc hJ' (r := .tup []) rfl rfl ?_⟩
        refine X.go T18_ok 400 _ rfl Try.results18 ?_
        conv => arg 2; cbv
        refine X.call rfl rfl rfl rfl Try.call61 (fun N w1 args hN hS ha => ?_)
        have ha' : [Value.agg zWv.toArray, .int .u8 s] = args := Option.some.inj (ha ▸ rfl : some _ = some args)
        subst ha'
        refine (rfailed_ok s hs w1).mono fun e w' ⟨M, he, hc⟩ => ⟨_, he, Goes.same (r := .agg (flatL (fun k => (M k).sv) 16)) hN hS hc (flat_den M _) rfl ?_⟩
        refine X.go T18_ok 400 _ rfl Try.results18 ?_
        conv => arg 2; cbv
        refine X.done T18_ok rfl (fun N w' v hN hS hv => ?_)
        exact ⟨_, ⟨0, Opn.z, false⟩, M, J', fin3 hv three_den0, hS.res, hS.chg, fun i hi => fun _ _ => rel_failed (hrel i)⟩
      · have hk2 : k ≠ 2 := hk2
        refine X.go T18_ok 400 _ rfl Try.results18 ?_
        conv => arg 2; cbv
        refine X.cond rfl (fun hk => ?_) (fun hk4 => ?_)
        · have hk : k = 4 := hk
          refine X.go T18_ok 400 _ rfl Try.results18 ?_
          conv => arg 2; cbv
          refine X.call rfl rfl rfl rfl Try.call22 (fun N w1 args hN hS ha => ?_)
          have ha' : [Value.pointer (some ⟨b, y, none⟩)] = args := Option.some.inj (ha ▸ rfl : some _ = some args)
          subst ha'
          refine (reset_ok b y w1 J hS.res).mono fun e w' ⟨J', he, hJ', hc, hrel⟩ => ⟨_, he, Goes.turn (jobD b y) (JobsAt b y J') hN hS hc (fun _ _ h => .inr h) (fun _ _ h => outside_in h) (all_own rfl) (fun q z h => ⟨.inl h, hJ'.there (by omega) q z h⟩) ArrAt.loc hJ' (r := .tup []) rfl rfl ?_⟩
          refine X.go T18_ok 400 _ rfl Try.results18 ?_
          conv => arg 2; cbv
          refine X.call rfl rfl rfl rfl Try.call62 (fun N w1 args hN hS ha => ?_)
          have ha' : [Value.agg zWv.toArray] = args := Option.some.inj (ha ▸ rfl : some _ = some args)
          subst ha'
          refine (rreset_ok w1).mono fun e w' ⟨M, he, hc⟩ => ⟨_, he, Goes.same (r := .agg (flatL (fun k => (M k).sv) 16)) hN hS hc (flat_den M _) rfl ?_⟩
          refine X.go T18_ok 400 _ rfl Try.results18 ?_
          conv => arg 2; cbv
          refine X.done T18_ok rfl (fun N w' v hN hS hv => ?_)
          exact ⟨_, ⟨0, Opn.z, false⟩, M, J', fin3 hv three_den0, hS.res, hS.chg, fun i hi => fun _ _ => rel_reset (hrel i hi)⟩
        · have hk4 : k ≠ 4 := hk4
          refine X.go T18_ok 400 _ rfl Try.results18 ?_
          conv => arg 2; cbv
          refine X.cond rfl (fun hk3 => ?_) (fun hk => ?_)
          · have hk3 : k ≠ 3 := hk3
            refine X.go T18_ok 400 _ rfl Try.results18 ?_
            conv => arg 2; cbv
            refine X.call rfl rfl rfl rfl Try.call17 (fun N w1 args hN hS ha => ?_)
            have ha' : [Value.pointer (some ⟨b, y, none⟩), .int .u8 s] = args := Option.some.inj (ha ▸ rfl : some _ = some args)
            subst ha'
            refine (job_any b y s w1 J hS.res).mono fun e w' ⟨j, he, hc⟩ => ⟨_, he, Goes.same (r := .agg j.sv) hN hS hc rfl rfl ?_⟩
            refine X.go T18_ok 400 _ rfl Try.results18 ?_
            conv => arg 2; cbv
            refine X.call rfl rfl rfl rfl Try.call24 (fun N w1 args hN hS ha => ?_)
            have ha' : [Value.pointer (some ⟨b, y, none⟩), .agg (Ans.vals { a with i0 := j.c }).toArray] = args := Option.some.inj (ha ▸ rfl : some _ = some args)
            subst ha'
            refine (told_ok b y { a with i0 := j.c } w1 J hS.res (outAt_stays (a := { a with i0 := j.c }) ho (fun hn x hx o hd => hb hn x hx hd.1) hS.imm) hb).mono fun e w' ⟨src, op, more, J', he, hJ', hc, hrel⟩ => ⟨_, he, Goes.turn (jobD b y) (JobsAt b y J') hN hS hc (fun _ _ h => .inr h) (fun _ _ h => outside_in h) (all_own rfl) (fun q z h => ⟨.inl h, hJ'.there (by omega) q z h⟩) ArrAt.loc hJ' (r := .tup [.int .u8 (.v src), .agg op.sv, .bool (.v more)]) rfl rfl ?_⟩
            refine X.go T18_ok 400 _ rfl Try.results18 ?_
            conv => arg 2; cbv
            refine X.call rfl rfl rfl rfl Try.call63 (fun N w1 args hN hS ha => ?_)
            have ha' : [Value.agg zWv.toArray, .agg (Ans.vals { a with i0 := j.c }).toArray] = args := Option.some.inj (ha ▸ rfl : some _ = some args)
            subst ha'
            refine (rtold_ok { a with i0 := j.c } w1).mono fun e w' ⟨o, M, he, hc⟩ => ⟨_, he, Goes.same (r := .tup [.agg o.sv, .agg (flatL (fun k => (M k).sv) 16)]) hN hS hc (two_den o M _) rfl ?_⟩
            refine X.go T18_ok 400 _ rfl Try.results18 ?_
            conv => arg 2; cbv
            refine X.done T18_ok rfl (fun N w' v hN hS hv => ?_)
            exact ⟨_, o, M, J', fin3 hv three_den, hS.res, hS.chg, fun i hi => fun _ _ => by omega⟩
          · have hk : k = 3 := hk
            refine X.go T18_ok 400 _ rfl Try.results18 ?_
            conv => arg 2; cbv
            refine X.call rfl rfl rfl rfl Try.call24 (fun N w1 args hN hS ha => ?_)
            have ha' : [Value.pointer (some ⟨b, y, none⟩), .agg a.vals.toArray] = args := Option.some.inj (ha ▸ rfl : some _ = some args)
            subst ha'
            refine (told_ok b y a w1 J hS.res (outAt_stays ho (fun hn x hx o hd => hb hn x hx hd.1) hS.imm) hb).mono fun e w' ⟨src, op, more, J', he, hJ', hc, hrel⟩ => ⟨_, he, Goes.turn (jobD b y) (JobsAt b y J') hN hS hc (fun _ _ h => .inr h) (fun _ _ h => outside_in h) (all_own rfl) (fun q z h => ⟨.inl h, hJ'.there (by omega) q z h⟩) ArrAt.loc hJ' (r := .tup [.int .u8 (.v src), .agg op.sv, .bool (.v more)]) rfl rfl ?_⟩
            refine X.go T18_ok 400 _ rfl Try.results18 ?_
            conv => arg 2; cbv
            refine X.call rfl rfl rfl rfl Try.call63 (fun N w1 args hN hS ha => ?_)
            have ha' : [Value.agg zWv.toArray, .agg a.vals.toArray] = args := Option.some.inj (ha ▸ rfl : some _ = some args)
            subst ha'
            refine (rtold_ok a w1).mono fun e w' ⟨o, M, he, hc⟩ => ⟨_, he, Goes.same (r := .tup [.agg o.sv, .agg (flatL (fun k => (M k).sv) 16)]) hN hS hc (two_den o M _) rfl ?_⟩
            refine X.go T18_ok 400 _ rfl Try.results18 ?_
            conv => arg 2; cbv
            refine X.done T18_ok rfl (fun N w' v hN hS hv => ?_)
            exact ⟨_, o, M, J', fin3 hv three_den, hS.res, hS.chg, fun i hi => fun _ _ => rel_told hk (hrel i)⟩
end Go.Proofs.Ytcfghkiokdbhjaa
