/- The records' functions: may a register, a configuration be? -/
import Derived.Test.YtkjhpaeminegoaaRe10

namespace Go.Proofs.Ytkjhpaeminegoaa
open Go Go.Eng

def RegP.may (r : RegP) : Prop := (r.kind = 0 → r.inc = 0 ∧ r.state = 0 ∧ r.last = 0 ∧ r.vars.length = 0 ∧ r.done.length = 0 ∧ r.out.length = 0 ∧ r.marks.length = 0) ∧
  (r.kind ≠ 0 → r.kind ≤ 2 ∧ (r.kind = 2 → r.state = 0 ∧ r.vars.length = 0 ∧ r.out.length = 0) ∧ r.inc ≠ 0 ∧ 0 ≤ r.state ∧ r.state < 32 ∧ r.lists)
def ConfP.may (c : ConfP) : Prop := c.new.length ≠ 0 ∧ mayNP c.new ∧ (c.c.tmod 2 = 0 → c.old.length = 0) ∧ (c.c.tmod 2 ≠ 0 → 0 < c.old.length ∧ mayNP c.old ∧ othersN c.old c.new c.old.length + othersN c.new c.old c.new.length = 1)

set_option maxHeartbeats 8000000 in
set_option maxRecDepth 100000 in
set_option cbv.maxSteps 100000000 in
theorem may06_ok (a : RegP) (va : List Value) (w : World) (ha : RepL (wm w) a.toD va) :
    Calls Try.prog 63 #[.agg va.toArray] w fun e w' => e = .returned (.bool (B a.may)) ∧ Chg (fun _ _ => False) w w' := by
  have e1 := fun (w1 : World) hi1 => lists_ok a va w1 (ha.later (im := elsewhere [] [] w) rfl hi1)
  obtain ⟨p1, c1, p2, c2, p3, c3, p4, c4, rfl, _⟩ := RegP.open ha
  clear ha
  obtain ⟨h, hh⟩ : ∃ h, h = B a.lists := ⟨_, rfl⟩
  rw [← hh] at e1
  obtain ⟨k1, i1, s1, v1, o1, u1, l1, m1⟩ := a
  simp only at e1 ⊢
  obtain ⟨q, hq⟩ : ∃ q : Bool, q = B (RegP.may ⟨k1, i1, s1, v1, o1, u1, l1, m1⟩) := ⟨_, rfl⟩
  rw [← hq]
  obtain ⟨n1, hn1⟩ : ∃ n, n = v1.length := ⟨_, rfl⟩
  obtain ⟨n2, hn2⟩ : ∃ n, n = o1.length := ⟨_, rfl⟩
  obtain ⟨n3, hn3⟩ : ∃ n, n = u1.length := ⟨_, rfl⟩
  obtain ⟨n4, hn4⟩ : ∃ n, n = m1.length := ⟨_, rfl⟩
  rw [← hn1, ← hn2, ← hn3, ← hn4] at e1 ⊢
  refine X.begin (rg := []) (N := []) (ss := [.agg [.int .u8 (.v k1), .int .u64 (.v i1), .int .i64 (.v s1), .slv p1 n1 c1, .slv p2 n2 c2, .slv p3 n3 c3, .int .u64 (.v l1), .slv p4 n4 c4]]) Try.func63 rfl B63_ok rfl rfl Sat.std0 ?_
  obtain ⟨im, hime⟩ : ∃ im, im = elsewhere [] [] w := ⟨_, rfl⟩
  show X (mkE Try.prog Try.f63 _ w (InR [] []) (elsewhere [] [] w) (fun _ _ => False) (fun _ => True) [] B63) _ _
  rw [← hime] at e1 ⊢
  refine X.go T63_ok 400 _ rfl Try.results63 ?_
  conv => arg 2; cbv
  refine X.cond rfl (fun hc => ?_) (fun hc => ?_)
  · refine X.go T63_ok 400 _ rfl Try.results63 ?_
    conv => arg 2; cbv
    refine X.done T63_ok rfl (fun N w' v hN hS hv => ⟨fin_bool hv ?_, hS.chg.mono fun k o _ h => inR_nil h⟩)
    refine den_of ?_
    simp only [SB.T, SB.F, SI.den] at hc ⊢
    rw [hq, B_iff]
    simp only [RegP.may, ← hn1, ← hn2, ← hn3, ← hn4]
    omega
  refine X.go T63_ok 400 _ rfl Try.results63 ?_
  conv => arg 2; cbv
  simp only [SB.T, SB.F, SI.den] at hc
  refine X.cond rfl (fun hc2 => ?_) (fun hc2 => ?_)
  · refine X.go T63_ok 400 _ rfl Try.results63 ?_
    conv => arg 2; cbv
    refine X.done T63_ok rfl (fun N w' v hN hS hv => ⟨fin_bool hv ?_, hS.chg.mono fun k o _ h => inR_nil h⟩)
    simp only [SB.T, SB.F, SI.den] at hc2
    rw [hq]
    refine (B_neg fun h => ?_).symm
    have := h.2 hc
    simp only [← hn1, ← hn2, ← hn3, ← hn4] at this
    omega
  simp only [SB.T, SB.F, SI.den] at hc2
  refine X.goP ([(83, .bool (.v h))]) T63_ok 400 _ rfl Try.results63 (fun pr fin hpr hfin => ?_)
  conv => cbv
  refine ⟨hpr _ (.of Try.call91 [.agg _] (.bool h) (fun _ => rfl) (fun _ => rfl) fun _ w1 hi1 => e1 w1 hi1), hfin _ _ ?_⟩
  refine X.done T63_ok rfl (fun N w' v hN hS hv => ⟨fin_bool hv ?_, hS.chg.mono fun k o _ h => inR_nil h⟩)
  refine den_of ?_
  simp only [SB.T, SB.F, SI.den]
  rw [hq, B_iff, hh, B_iff]
  simp only [RegP.may, ← hn1, ← hn2, ← hn3, ← hn4]
  constructor
  · intro h
    exact ⟨fun h0 => absurd h0 hc, fun _ => ⟨by omega, fun _ => by omega, by omega, by omega, by omega, h.2⟩⟩
  · intro h
    obtain ⟨h1, h2, h3, h4, h5, h6⟩ := h.2 hc
    exact ⟨by omega, h6⟩

set_option maxHeartbeats 8000000 in
set_option maxRecDepth 100000 in
set_option cbv.maxSteps 100000000 in
theorem may10_ok (a : ConfP) (va : List Value) (w : World) (ha : RepL (wm w) a.toD va) :
    Calls Try.prog 64 #[.agg va.toArray] w fun e w' => e = .returned (.bool (B a.may)) ∧ Chg (fun _ _ => False) w w' := by
  obtain ⟨p1, c1, p2, c2, rfl, sa1, sa2⟩ := ConfP.open ha
  clear ha
  obtain ⟨k1, o1, m1⟩ := a
  simp only at sa1 sa2 ⊢
  obtain ⟨q, hq⟩ : ∃ q : Bool, q = B (ConfP.may ⟨k1, o1, m1⟩) := ⟨_, rfl⟩
  rw [← hq]
  obtain ⟨n1, hn1⟩ : ∃ n, n = o1.length := ⟨_, rfl⟩
  obtain ⟨n2, hn2⟩ : ∃ n, n = m1.length := ⟨_, rfl⟩
  obtain ⟨h1, hh1⟩ : ∃ h, h = B (mayNP o1) := ⟨_, rfl⟩
  obtain ⟨h2, hh2⟩ : ∃ h, h = B (mayNP m1) := ⟨_, rfl⟩
  obtain ⟨x1, hx1⟩ : ∃ h, h = othersN o1 m1 n1 := ⟨_, rfl⟩
  obtain ⟨x2, hx2⟩ : ∃ h, h = othersN m1 o1 n2 := ⟨_, rfl⟩
  have hm := maxLen_le
  have hl1 : n1 ≤ maxLen := by rw [hn1]; exact sa1.len
  have hl2 : n2 ≤ maxLen := by rw [hn2]; exact sa2.len
  have hy1 := othersN_le o1 m1 n1
  have hy2 := othersN_le m1 o1 n2
  rw [← hx1] at hy1
  rw [← hx2] at hy2
  have e1 := fun (w1 : World) hi1 => may09_ok o1 p1 c1 w1 (sa1.later (im := elsewhere [] [] w) rfl hi1)
  have e2 := fun (w1 : World) hi1 => may09_ok m1 p2 c2 w1 (sa2.later (im := elsewhere [] [] w) rfl hi1)
  have e3 := fun (w1 : World) hi1 => others_ok o1 m1 p1 p2 c1 c2 w1 (sa1.later (im := elsewhere [] [] w) rfl hi1) (sa2.later (im := elsewhere [] [] w) rfl hi1)
  have e4 := fun (w1 : World) hi1 => others_ok m1 o1 p2 p1 c2 c1 w1 (sa2.later (im := elsewhere [] [] w) rfl hi1) (sa1.later (im := elsewhere [] [] w) rfl hi1)
  rw [← hn1, ← hh1] at e1
  rw [← hn2, ← hh2] at e2
  rw [← hn1, ← hn2, ← hx1] at e3
  rw [← hn1, ← hn2, ← hx2] at e4
  rw [← hn1, ← hn2]
  refine X.begin (rg := []) (N := []) (ss := [.agg [.int .u64 (.v k1), .slv p1 n1 c1, .slv p2 n2 c2]]) Try.func64 rfl B64_ok rfl rfl Sat.std0 ?_
  obtain ⟨im, hime⟩ : ∃ im, im = elsewhere [] [] w := ⟨_, rfl⟩
  show X (mkE Try.prog Try.f64 _ w (InR [] []) (elsewhere [] [] w) (fun _ _ => False) (fun _ => True) [] B64) _ _
  rw [← hime] at e1 e2 e3 e4 ⊢
  refine X.goP ([(10, .bool (.v h2))]) T64_ok 400 _ rfl Try.results64 (fun pr fin hpr hfin => ?_)
  conv => cbv
  refine ⟨hpr _ (.of Try.call92 [.slice _ _ _] (.bool h2) (fun _ => rfl) (fun _ => rfl) fun _ w1 hi1 => e2 w1 hi1), hfin _ _ ?_⟩
  refine X.cond rfl (fun hc => ?_) (fun hc => ?_)
  · refine X.go T64_ok 400 _ rfl Try.results64 ?_
    conv => arg 2; cbv
    refine X.done T64_ok rfl (fun N w' v hN hS hv => ⟨fin_bool hv ?_, hS.chg.mono fun k o _ h => inR_nil h⟩)
    simp only [SB.T, SB.F, SI.den] at hc
    rw [hq]
    refine (B_neg fun h => ?_).symm
    obtain ⟨g1, g2, _⟩ := h
    simp only [← hn2] at g1
    have g3 : h2 = true := by rw [hh2]; exact B_pos g2
    subst g3
    simp at hc
    omega
  simp only [SB.T, SB.F, SI.den] at hc
  refine X.go T64_ok 400 _ rfl Try.results64 ?_
  conv => arg 2; cbv
  refine X.cond rfl (fun hc2 => ?_) (fun hc2 => ?_)
  · refine X.go T64_ok 400 _ rfl Try.results64 ?_
    conv => arg 2; cbv
    refine X.done T64_ok rfl (fun N w' v hN hS hv => ⟨fin_bool hv ?_, hS.chg.mono fun k o _ h => inR_nil h⟩)
    refine den_of ?_
    simp only [SB.T, SB.F, SI.den] at hc2 ⊢
    rw [hq, B_iff]
    rw [hh2, B_iff] at hc
    simp only [ConfP.may, ← hn1, ← hn2]
    exact ⟨fun h => ⟨by omega, hc.2, fun _ => by omega, fun h0 => absurd hc2 h0⟩, fun h => by have := h.2.2.1 hc2; omega⟩
  simp only [SB.T, SB.F, SI.den] at hc2
  refine X.goP ([(28, .bool (.v h1)), (35, .int .i64 (.nat x1)), (40, .int .i64 (.nat x2))]) T64_ok 400 _ rfl Try.results64 (fun pr fin hpr hfin => ?_)
  conv => cbv
  refine ⟨hpr _ (.of Try.call93 [.slice _ _ _, .slice _ _ _] (.int .i64 x2) (fun _ => rfl) (fun _ => rfl) fun _ w1 hi1 => e4 w1 hi1), hpr _ (.of Try.call93 [.slice _ _ _, .slice _ _ _] (.int .i64 x1) (fun _ => rfl) (fun _ => rfl) fun _ w1 hi1 => e3 w1 hi1), hpr _ (.of Try.call92 [.slice _ _ _] (.bool h1) (fun _ => rfl) (fun _ => rfl) fun _ w1 hi1 => e1 w1 hi1), hfin _ _ ?_⟩
  refine X.done T64_ok rfl (fun N w' v hN hS hv => ⟨fin_bool hv ?_, hS.chg.mono fun k o _ h => inR_nil h⟩)
  refine den_of ?_
  simp only [SB.T, SB.F, SI.den]
  rw [hq, B_iff, hh1, B_iff]
  rw [hh2, B_iff] at hc
  simp only [ConfP.may, ← hn1, ← hn2, ← hx1, ← hx2]
  have hw : IntKind.i64.wrap ((x1 : Int) + x2) = 1 ↔ x1 + x2 = 1 := by
    simp [IntKind.wrap, IntKind.bits, IntKind.signed]
    omega
  rw [hw]
  exact ⟨fun h => ⟨by omega, hc.2, fun h0 => absurd h0 hc2, fun _ => ⟨by omega, h.1.2, h.2⟩⟩, fun h => by obtain ⟨g1, g2, g3⟩ := h.2.2.2 hc2; exact ⟨⟨by omega, g2⟩, g3⟩⟩

end Go.Proofs.Ytkjhpaeminegoaa
