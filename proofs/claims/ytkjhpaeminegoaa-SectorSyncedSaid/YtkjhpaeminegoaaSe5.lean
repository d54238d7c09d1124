/- The sector's functions: Write. -/
import Derived.Test.YtkjhpaeminegoaaSe4

namespace Go.Proofs.Ytkjhpaeminegoaa
open Go.Eng

def Hd.has (h : Hd) (i : Int) : Prop := 0 ≤ i ∧ i < h.count
instance (h : Hd) (i : Int) : Decidable (h.has i) := by unfold Hd.has; infer_instance

/-- why nothing is written -/
def Hd.wr (h : Hd) (i : Int) (n : Nat) : Int := if h.off then 8 else if h.has i then (if n = h.size then 0 else 3) else 6

set_option maxRecDepth 100000 in
set_option cbv.maxSteps 100000000 in
theorem write_err (b y : Nat) (h : Hd) (i : Int) (po : Option Addr) (n cp : Nat) (w : World) (hh : HdAt b y h w) (he : h.wr i n ≠ 0) :
    Calls Try.prog 13 #[.pointer (some ⟨b, y, none⟩), .int .i64 i, .slice po n cp] w fun e w' => e = .returned (.int .i64 (h.wr i n)) ∧ Chg (fun _ _ => False) w w' := by
  refine X.begin (rg := [⟨false, h.sv, none⟩]) (N := [⟨b, y, 8⟩]) (ss := [.own 0 0, .int .i64 (.v i), .slv po n cp]) Try.func13 rfl B13_ok rfl rfl (Sat.std1 false hh.lt (hh.cells _) (fun h => by cases h)) ?_
  obtain ⟨size, count, m, po', n', cp', off, falls, fused, fuse⟩ := h
  obtain ⟨r, hr⟩ : ∃ r, r = Hd.wr ⟨size, count, m, po', n', cp', off, falls, fused, fuse⟩ i n := ⟨_, rfl⟩
  rw [← hr] at he ⊢
  cases off with
  | true =>
    refine X.goC FALL_ok false T13_ok 400 _ rfl Try.results13 ?_
    conv => arg 2; cbv
    refine X.done T13_ok rfl (fun N w' v hN hS hv => ?_)
    simp [resV, SV.den, SI.den] at hv
    exact ⟨by rw [hr, ← hv]; rfl, hS.chg.ro1⟩
  | false =>
    refine X.goC FALL_ok false T13_ok 400 _ rfl Try.results13 ?_
    conv => arg 2; cbv
    refine X.cond rfl (fun hc => ?_) (fun hc => ?_)
    · refine X.goC FALL_ok false T13_ok 400 _ rfl Try.results13 ?_
      conv => arg 2; cbv
      refine X.done T13_ok rfl (fun N w' v hN hS hv => ?_)
      simp [resV, SV.den, SI.den] at hv
      have hno : ¬ Hd.has ⟨size, count, m, po', n', cp', false, falls, fused, fuse⟩ i := fun hh => by
        simp only [SB.T, SB.F, SI.den] at hc
        unfold Hd.has at hh
        simp only at hh
        omega
      refine ⟨?_, hS.chg.ro1⟩
      rw [hr, ← hv]
      simp [Hd.wr, hno]
    · refine X.goC FALL_ok false T13_ok 400 _ rfl Try.results13 ?_
      conv => arg 2; cbv
      have hyes : Hd.has ⟨size, count, m, po', n', cp', false, falls, fused, fuse⟩ i := by
        simp only [SB.T, SB.F, SI.den] at hc
        unfold Hd.has
        simp only
        omega
      refine X.cond rfl (fun hc2 => ?_) (fun hc2 => ?_)
      · refine X.goC FALL_ok false T13_ok 400 _ rfl Try.results13 ?_
        conv => arg 2; cbv
        refine X.done T13_ok rfl (fun N w' v hN hS hv => ?_)
        simp [resV, SV.den, SI.den] at hv
        refine ⟨?_, hS.chg.ro1⟩
        simp only [SB.T, SI.den] at hc2
        rw [hr, ← hv]
        have : ¬ n = size := by omega
        simp [Hd.wr, hyes, this]
      · exfalso
        simp only [SB.F, SI.den] at hc2
        refine he ?_
        rw [hr]
        have : n = size := by omega
        simp [Hd.wr, hyes, this]

end Go.Proofs.Ytkjhpaeminegoaa
