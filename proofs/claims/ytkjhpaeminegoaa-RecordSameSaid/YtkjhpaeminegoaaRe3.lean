/- The records' functions: ballots, replies. -/
import Derived.Test.YtkjhpaeminegoaaRe2

namespace Go.Proofs.Ytkjhpaeminegoaa
open Go.Eng

def BalP.none (b : BalP) : Bool := b.count == 0 && (b.node == 0 && b.life == 0)
def BalP.less (a b : BalP) : Bool := if a.count ≠ b.count then decide (a.count < b.count) else if a.node ≠ b.node then decide (a.node < b.node) else decide (a.life < b.life)
def RepP.may (r : RepP) : Bool := decide (0 ≤ r.err) && (decide (r.err ≤ 99) && (decide (0 ≤ r.state) && (decide (r.state < 32) && decide (r.vars.length ≤ 8))))

def BalP.vals (b : BalP) : List Value := [.int .u64 b.count, .int .u8 b.node, .int .u32 b.life]
def BalP.svs (b : BalP) : List SV := [.int .u64 (.v b.count), .int .u8 (.v b.node), .int .u32 (.v b.life)]

set_option maxHeartbeats 4000000 in
set_option maxRecDepth 100000 in
set_option cbv.maxSteps 100000000 in
theorem none14_ok (b : BalP) (w : World) : Calls Try.prog 60 #[.agg b.vals.toArray] w fun e w' => e = .returned (.bool b.none) ∧ Chg (fun _ _ => False) w w' := by
  obtain ⟨c, n, l⟩ := b
  refine X.begin (rg := []) (N := []) (ss := [.agg [.int .u64 (.v c), .int .u8 (.v n), .int .u32 (.v l)]]) Try.func60 rfl B60_ok rfl rfl Sat.std0 ?_
  refine X.go T60_ok 400 _ rfl Try.results60 ?_
  conv => arg 2; cbv
  refine X.done T60_ok rfl (fun N w' v hN hS hv => ⟨fin_bool hv ?_, hS.chg.mono fun k o _ h => inR_nil h⟩)
  simp [SB.den, SI.den, BalP.none, Bool.and_assoc]

set_option maxHeartbeats 4000000 in
set_option maxRecDepth 100000 in
set_option cbv.maxSteps 100000000 in
theorem less_ok (a b : BalP) (w : World) : Calls Try.prog 62 #[.agg a.vals.toArray, .agg b.vals.toArray] w fun e w' => e = .returned (.bool (a.less b)) ∧ Chg (fun _ _ => False) w w' := by
  obtain ⟨c, n, l⟩ := a
  obtain ⟨c2, n2, l2⟩ := b
  obtain ⟨q, hq⟩ : ∃ q, q = BalP.less ⟨c, n, l⟩ ⟨c2, n2, l2⟩ := ⟨_, rfl⟩
  rw [← hq]
  refine X.begin (rg := []) (N := []) (ss := [.agg [.int .u64 (.v c), .int .u8 (.v n), .int .u32 (.v l)], .agg [.int .u64 (.v c2), .int .u8 (.v n2), .int .u32 (.v l2)]]) Try.func62 rfl B62_ok rfl rfl Sat.std0 ?_
  refine X.go T62_ok 400 _ rfl Try.results62 ?_
  conv => arg 2; cbv
  refine X.cond rfl (fun hc => ?_) (fun hc => ?_)
  · refine X.go T62_ok 400 _ rfl Try.results62 ?_
    conv => arg 2; cbv
    refine X.done T62_ok rfl (fun N w' v hN hS hv => ⟨fin_bool hv ?_, hS.chg.mono fun k o _ h => inR_nil h⟩)
    simp only [SB.T, SB.F, SI.den] at hc
    simp only [SB.den, SI.den, hq, BalP.less, ne_eq, hc, not_false_eq_true, if_true]
    exact decide_eq_decide.2 Iff.rfl
  refine X.go T62_ok 400 _ rfl Try.results62 ?_
  conv => arg 2; cbv
  refine X.cond rfl (fun hd => ?_) (fun hd => ?_)
  · refine X.go T62_ok 400 _ rfl Try.results62 ?_
    conv => arg 2; cbv
    refine X.done T62_ok rfl (fun N w' v hN hS hv => ⟨fin_bool hv ?_, hS.chg.mono fun k o _ h => inR_nil h⟩)
    simp only [SB.T, SB.F, SI.den] at hc hd
    simp only [SB.den, SI.den, hq, BalP.less, ne_eq, hc, hd, not_false_eq_true, not_true_eq_false, if_true, if_false]
    exact decide_eq_decide.2 Iff.rfl
  refine X.go T62_ok 400 _ rfl Try.results62 ?_
  conv => arg 2; cbv
  refine X.done T62_ok rfl (fun N w' v hN hS hv => ⟨fin_bool hv ?_, hS.chg.mono fun k o _ h => inR_nil h⟩)
  simp only [SB.T, SB.F, SI.den] at hc hd
  simp only [SB.den, SI.den, hq, BalP.less, ne_eq, hc, hd, not_false_eq_true, not_true_eq_false, if_true, if_false]
  exact decide_eq_decide.2 Iff.rfl

set_option maxHeartbeats 4000000 in
set_option maxRecDepth 100000 in
set_option cbv.maxSteps 100000000 in
theorem reply06_ok (r : RepP) (p : Option Addr) (c : Nat) (w : World) : Calls Try.prog 106 #[.agg #[.int .i64 r.err, .int .u64 r.inc, .int .i64 r.state, .slice p r.vars.length c]] w fun e w' => e = .returned (.bool r.may) ∧ Chg (fun _ _ => False) w w' := by
  obtain ⟨e, i, s, l⟩ := r
  obtain ⟨n, hn⟩ : ∃ n, n = l.length := ⟨_, rfl⟩
  simp only [← hn]
  refine X.begin (rg := []) (N := []) (ss := [.agg [.int .i64 (.v e), .int .u64 (.v i), .int .i64 (.v s), .slv p n c]]) Try.func106 rfl B106_ok rfl rfl Sat.std0 ?_
  refine X.go T106_ok 400 _ rfl Try.results106 ?_
  conv => arg 2; cbv
  refine X.done T106_ok rfl (fun N w' v hN hS hv => ⟨fin_bool hv ?_, hS.chg.mono fun k o _ h => inR_nil h⟩)
  (refine den_of ?_; simp only [SB.T, SB.F, SI.den, Bool.and_eq_true, Bool.or_eq_true, decide_eq_true_eq, decide_eq_false_iff_not, beq_iff_eq, Bool.not_eq_true', RepP.may, ← hn]; omega)

end Go.Proofs.Ytkjhpaeminegoaa
