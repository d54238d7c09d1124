/- The worker's functions, part 2: an answer; reads, hands. -/
import Derived.Test.YtcfghkiokdbhjaaWk2

namespace Go.Proofs.Ytcfghkiokdbhjaa
open Go.Eng

/-- an answer -/
structure Ans where
  (i0 i1 i2 i3 i4 i5 i6 i7 i8 i9 i10 er i12 i13 kd inc st nx i23 i24 i25 : Int)
  (pr pv pd po pm : Option Addr)
  (nr cr nv cv nd cd no co nm cm : Nat)

def Ans.sv (a : Ans) : List SV := [.int .u64 (.v a.i0), .int .u8 (.v a.i1), .int .u8 (.v a.i2), .int .u8 (.v a.i3), .int .u64 (.v a.i4), .int .i64 (.v a.i5), .int .i64 (.v a.i6), .int .i64 (.v a.i7), .int .u8 (.v a.i8), .int .u64 (.v a.i9), .int .u64 (.v a.i10), .int .i64 (.v a.er), .int .u64 (.v a.i12), .int .i64 (.v a.i13), .slv a.pr a.nr a.cr, .int .u8 (.v a.kd), .int .u64 (.v a.inc), .int .i64 (.v a.st), .slv a.pv a.nv a.cv, .slv a.pd a.nd a.cd, .slv a.po a.no a.co, .int .u64 (.v a.nx), .slv a.pm a.nm a.cm, .int .u64 (.v a.i23), .int .u8 (.v a.i24), .int .u32 (.v a.i25)]
def Ans.vals (a : Ans) : List Value := [.int .u64 a.i0, .int .u8 a.i1, .int .u8 a.i2, .int .u8 a.i3, .int .u64 a.i4, .int .i64 a.i5, .int .i64 a.i6, .int .i64 a.i7, .int .u8 a.i8, .int .u64 a.i9, .int .u64 a.i10, .int .i64 a.er, .int .u64 a.i12, .int .i64 a.i13, .slice a.pr a.nr a.cr, .int .u8 a.kd, .int .u64 a.inc, .int .i64 a.st, .slice a.pv a.nv a.cv, .slice a.pd a.nd a.cd, .slice a.po a.no a.co, .int .u64 a.nx, .slice a.pm a.nm a.cm, .int .u64 a.i23, .int .u8 a.i24, .int .u32 a.i25]
theorem Ans.den (a : Ans) (N : Nums) : SV.denL N a.sv = some a.vals := rfl

/-- its first cell, if it has any, lies in memory -/
def OutAt (a : Ans) (w : World) : Prop := 0 < a.no → ∃ (b x : Nat) (c0 c1 c2 c3 : Int), a.po = some ⟨b, x, none⟩ ∧
  ∀ (j : Nat) (v : Value), [Value.int .u64 c0, .int .u8 c1, .int .i64 c2, .int .i64 c3][j]? = some v → w.cell? ⟨b, x + j, none⟩ = some v

theorem elsewhere_nil (w : World) (k o : Nat) : elsewhere [] [] w k o = w.cell? ⟨k, o, none⟩ := by
  unfold elsewhere
  rw [if_neg]
  rintro ⟨r, g, p, hg, _⟩
  simp at hg

set_option maxRecDepth 100000 in
set_option cbv.maxSteps 100000000 in
theorem reads_ok (s : Int) (a : Ans) (w : World) (ho : OutAt a w) :
    Calls Try.prog 64 #[.int .u8 s, .agg a.vals.toArray] w fun e w' => ∃ (j : Job) (op : Opn) (more : Bool), e = .returned (.tuple #[.agg j.vals.toArray, .agg op.vals.toArray, .bool more]) ∧ Chg (fun _ _ => False) w w' ∧ (j = Job.z ∨ j.p = 2) := by
  refine X.begin (rg := []) (N := []) (ss := [.int .u8 (.v s), .agg a.sv]) Try.func64 rfl B64_ok rfl rfl Sat.std0 ?_
  refine X.go T64_ok 300 _ rfl Try.results64 ?_
  conv => arg 2; cbv
  refine X.cond rfl (fun hc => ?_) (fun hc => ?_)
  · refine X.go T64_ok 300 _ rfl Try.results64 ?_
    conv => arg 2; cbv
    refine X.done T64_ok rfl (fun N w' v hN hS hv => ?_)
    simp [resV, SV.den, SV.denL, SI.den, SB.den] at hv
    exact ⟨Job.z, Opn.z, false, by rw [← hv]; rfl, hS.chg.none, .inl rfl⟩
  · refine X.go T64_ok 300 _ rfl Try.results64 ?_
    conv => arg 2; cbv
    simp only [SB.F, SI.den] at hc
    have hno : (a.no : Int) ≠ 0 := hc.2
    obtain ⟨b, x, c0, c1, c2, c3, hpo, hcell⟩ := ho (by omega)
    refine X.idxSlv rfl rfl rfl rfl rfl Try.underlying41 Try.sizeOf29 0 rfl (show 0 < a.no by omega) b x x hpo (by omega) rfl ?_
    refine X.go T64_ok 300 _ rfl Try.results64 ?_
    conv => arg 2; cbv
    refine X.loadN T64_ok (rs := [.int .u64 (.v c0), .int .u8 (.v c1), .int .i64 (.v c2), .int .i64 (.v c3)]) rfl rfl rfl rfl rfl rfl rfl (fun N _ => ⟨_, rfl, fun j v hj => by show elsewhere [] [] w b (x + 0 + j) = _; rw [elsewhere_nil, Nat.add_zero]; exact hcell j v hj⟩) rfl ?_
    refine X.go T64_ok 300 _ rfl Try.results64 ?_
    conv => arg 2; cbv
    refine X.done T64_ok rfl (fun N w' v hN hS hv => ?_)
    simp [resV, SV.den, SV.denL, SI.den, SB.den] at hv
    exact ⟨⟨2, 0, a.inc, c0, c1, c2, c3⟩, ⟨5, c1, 0, 0, c2, 0, c3, s, a.inc, c0⟩, true, by rw [← hv]; rfl, hS.chg.none, .inr rfl⟩

/-- what becomes of a job that hands over -/
def handsC (e : Int) : Bool := e == 17 || e == 1 || e == 15
def handsJ (j : Job) (e : Int) : Job := bif handsC e then Job.z else ⟨3, 0, j.i, j.n, j.t, j.a, j.g⟩
def handsO (s : Int) (j : Job) (e : Int) : Opn := bif handsC e then Opn.z else ⟨6, s, 0, 0, 0, 0, 0, 0, j.i, j.n⟩

set_option maxRecDepth 100000 in
set_option cbv.maxSteps 100000000 in
theorem hands_ok (s : Int) (j : Job) (a : Ans) (w : World) :
    Calls Try.prog 65 #[.int .u8 s, .agg j.vals.toArray, .agg a.vals.toArray] w fun e w' => e = .returned (.tuple #[.agg (handsJ j a.er).vals.toArray, .agg (handsO s j a.er).vals.toArray, .bool (!handsC a.er)]) ∧ Chg (fun _ _ => False) w w' := by
  refine X.begin (rg := []) (N := []) (ss := [.int .u8 (.v s), .agg j.sv, .agg a.sv]) Try.func65 rfl B65_ok rfl rfl Sat.std0 ?_
  refine X.go T65_ok 300 _ rfl Try.results65 ?_
  conv => arg 2; cbv
  refine X.cond rfl (fun h1 => ?_) (fun h1 => ?_)
  · refine X.go T65_ok 300 _ rfl Try.results65 ?_
    conv => arg 2; cbv
    refine X.cond rfl (fun h4 => ?_) (fun h4 => ?_)
    · refine X.go T65_ok 300 _ rfl Try.results65 ?_
      conv => arg 2; cbv
      refine X.done T65_ok rfl (fun N w' v hN hS hv => ?_)
      simp [resV, SV.den, SV.denL, SI.den, SB.den] at hv
      simp only [SB.T, SI.den] at h1
      have hh : handsC a.er = true := by simp [handsC, h1]
      exact ⟨by rw [← hv]; simp [handsJ, handsO, hh, Job.z, Job.vals, Opn.z, Opn.vals], hS.chg.none⟩
    · simp only [SB.T, SB.F, SI.den] at h1 h4; exact absurd h1 h4
  · refine X.go T65_ok 300 _ rfl Try.results65 ?_
    conv => arg 2; cbv
    refine X.cond rfl (fun h2 => ?_) (fun h2 => ?_)
    · refine X.go T65_ok 300 _ rfl Try.results65 ?_
      conv => arg 2; cbv
      refine X.cond rfl (fun h4 => ?_) (fun h4 => ?_)
      · refine X.go T65_ok 300 _ rfl Try.results65 ?_
        conv => arg 2; cbv
        refine X.done T65_ok rfl (fun N w' v hN hS hv => ?_)
        simp [resV, SV.den, SV.denL, SI.den, SB.den] at hv
        simp only [SB.T, SI.den] at h2
        have hh : handsC a.er = true := by simp [handsC, h2]
        exact ⟨by rw [← hv]; simp [handsJ, handsO, hh, Job.z, Job.vals, Opn.z, Opn.vals], hS.chg.none⟩
      · simp only [SB.T, SB.F, SI.den] at h2 h4; exact absurd h2 h4
    · refine X.go T65_ok 300 _ rfl Try.results65 ?_
      conv => arg 2; cbv
      refine X.cond rfl (fun h4 => ?_) (fun h4 => ?_)
      · refine X.go T65_ok 300 _ rfl Try.results65 ?_
        conv => arg 2; cbv
        refine X.done T65_ok rfl (fun N w' v hN hS hv => ?_)
        simp [resV, SV.den, SV.denL, SI.den, SB.den] at hv
        simp only [SB.T, SI.den] at h4
        have hh : handsC a.er = true := by simp [handsC, h4]
        exact ⟨by rw [← hv]; simp [handsJ, handsO, hh, Job.z, Job.vals, Opn.z, Opn.vals], hS.chg.none⟩
      · refine X.go T65_ok 300 _ rfl Try.results65 ?_
        conv => arg 2; cbv
        refine X.done T65_ok rfl (fun N w' v hN hS hv => ?_)
        simp [resV, SV.den, SV.denL, SI.den, SB.den] at hv
        simp only [SB.F, SI.den] at h1 h2 h4
        have hh : handsC a.er = false := by simp [handsC, h1, h2, h4]
        exact ⟨by rw [← hv]; simp [handsJ, handsO, hh, Job.vals, Opn.vals], hS.chg.none⟩

end Go.Proofs.Ytcfghkiokdbhjaa
