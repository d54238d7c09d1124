/- WorkerNil: the walk. -/
import Derived.Test.YtcfghkiokdbhjaaWk0
import Derived.Test.YtcfghkiokdbhjaaGreat

namespace Go.Proofs.Ytcfghkiokdbhjaa
open Go.Eng

noncomputable def FW2 : FT := (15, FI.of Try.f15 T15 B15) :: (22, FI.of Try.f22 T22 B22) :: FW
theorem FW2_ok : FTok Try.prog FW2 := .cons F15_ok <| .cons F22_ok FW_ok

set_option maxRecDepth 100000 in
set_option cbv.maxSteps 100000000 in
theorem workerNil_ok (s c : Int) (i0 i1 i2 i3 i4 i5 i6 i7 i8 i9 i10 i11 i12 i13 kd inc st nx i23 i24 i25 : Int) (pr pv pd po pm : Option Addr) (nr cr nv cv nd cd no co nm cm : Nat) (w : World)
    (hd : ∀ i, i < nd → ∃ b x y z p n c, pd = some ⟨b, x, none⟩ ∧ y = x + i * 6 ∧ z = y + 5 ∧ w.cell? ⟨b, z, none⟩ = some (.slice p n c)) :
    Calls Try.prog 4 #[.int .u8 s, .int .u64 c, .agg #[.int .u64 i0, .int .u8 i1, .int .u8 i2, .int .u8 i3, .int .u64 i4, .int .i64 i5, .int .i64 i6, .int .i64 i7, .int .u8 i8, .int .u64 i9, .int .u64 i10,
      .int .i64 i11, .int .u64 i12, .int .i64 i13, .slice pr nr cr, .int .u8 kd, .int .u64 inc, .int .i64 st, .slice pv nv cv, .slice pd nd cd, .slice po no co, .int .u64 nx, .slice pm nm cm, .int .u64 i23, .int .u8 i24, .int .u32 i25]] w
      fun e w' => e = .returned (.bool true) ∧ Chg (fun _ _ => False) w w' := by
  refine X.begin (rg := []) (N := []) (ss := [.int .u8 (.v s), .int .u64 (.v c), .agg [.int .u64 (.v i0), .int .u8 (.v i1), .int .u8 (.v i2), .int .u8 (.v i3), .int .u64 (.v i4), .int .i64 (.v i5), .int .i64 (.v i6), .int .i64 (.v i7), .int .u8 (.v i8), .int .u64 (.v i9), .int .u64 (.v i10),
      .int .i64 (.v i11), .int .u64 (.v i12), .int .i64 (.v i13), .slv pr nr cr, .int .u8 (.v kd), .int .u64 (.v inc), .int .i64 (.v st), .slv pv nv cv, .slv pd nd cd, .slv po no co, .int .u64 (.v nx), .slv pm nm cm, .int .u64 (.v i23), .int .u8 (.v i24), .int .u32 (.v i25)]])
    Try.func4 rfl B4_ok rfl rfl Sat.std0 ?_
  refine X.go T4_ok 1000 _ rfl Try.results4 ?_
  conv => arg 2; cbv
  refine X.call rfl rfl rfl rfl Try.call19 (fun N w1 args hN hS ha => ?_)
  simp [SV.denL, SV.den, SI.den] at ha
  subst ha
  refine (great_ok kd inc st nx pv pd po pm nv cv nd cd no co nm cm w1 (fun i hi => ?_)).mono fun e w' ⟨⟨b, he⟩, hc⟩ => ⟨_, he, Goes.same (r := .bool (.v b)) hN hS hc rfl rfl ?_⟩
  · obtain ⟨b, x, y, z, p, n, c, h1, h2, h3, h4⟩ := hd i hi
    exact ⟨b, x, y, z, p, n, c, h1, h2, h3, hS.imm b z _ (by show elsewhere [] [] w b z = _; rw [elsewhere_nil]; exact h4)⟩
  refine X.go T4_ok 1000 _ rfl Try.results4 ?_
  conv => arg 2; cbv
  refine X.cond rfl (fun _ => ?_) (fun _ => ?_)
  · refine X.goC FW2_ok true T4_ok 1000 _ rfl Try.results4 ?_
    conv => arg 2; cbv
    refine X.done T4_ok rfl (fun N w' v hN hS hv => ?_)
    simp [resV, SV.den, SB.den] at hv
    exact ⟨by rw [← hv], hS.chg.none⟩
  · refine X.goC FW2_ok true T4_ok 1000 _ rfl Try.results4 ?_
    conv => arg 2; cbv
    refine X.done T4_ok rfl (fun N w' v hN hS hv => ?_)
    simp [resV, SV.den, SB.den] at hv
    exact ⟨by rw [← hv], hS.chg.none⟩
end Go.Proofs.Ytcfghkiokdbhjaa
