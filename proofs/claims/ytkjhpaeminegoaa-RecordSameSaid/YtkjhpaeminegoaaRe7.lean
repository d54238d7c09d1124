/- The records' functions: registers and configurations held against each other, by the program. -/
import Derived.Test.YtkjhpaeminegoaaRe6

namespace Go.Proofs.Ytkjhpaeminegoaa
open Go.Eng

set_option maxHeartbeats 4000000 in
set_option maxRecDepth 100000 in
set_option cbv.maxSteps 100000000 in
theorem regSame_ok (a b : RegP) (va vb : List Value) (w : World) (ha : RepL (wm w) a.toD va) (hb : RepL (wm w) b.toD vb) :
    Calls Try.prog 53 #[.agg va.toArray, .agg vb.toArray] w fun e w' => e = .returned (.bool (B (a = b))) ∧ Chg (fun _ _ => False) w w' := by
  obtain ⟨p1, c1, p2, c2, p3, c3, p4, c4, rfl, sa1, sa2, sa3, sa4⟩ := RegP.open ha
  obtain ⟨r1, d1, r2, d2, r3, d3, r4, d4, rfl, sb1, sb2, sb3, sb4⟩ := RegP.open hb
  clear ha hb
  obtain ⟨k1, i1, s1, v1, o1, u1, l1, m1⟩ := a
  obtain ⟨k2, i2, s2, v2, o2, u2, l2, m2⟩ := b
  simp only at sa1 sa2 sa3 sa4 sb1 sb2 sb3 sb4 ⊢
  obtain ⟨q, hq⟩ : ∃ q : Bool, q = B ((⟨k1, i1, s1, v1, o1, u1, l1, m1⟩ : RegP) = ⟨k2, i2, s2, v2, o2, u2, l2, m2⟩) := ⟨_, rfl⟩
  rw [← hq]
  obtain ⟨n1, hn1⟩ : ∃ n, n = v1.length := ⟨_, rfl⟩
  obtain ⟨n2, hn2⟩ : ∃ n, n = o1.length := ⟨_, rfl⟩
  obtain ⟨n3, hn3⟩ : ∃ n, n = u1.length := ⟨_, rfl⟩
  obtain ⟨n4, hn4⟩ : ∃ n, n = m1.length := ⟨_, rfl⟩
  obtain ⟨t1, ht1⟩ : ∃ n, n = v2.length := ⟨_, rfl⟩
  obtain ⟨t2, ht2⟩ : ∃ n, n = o2.length := ⟨_, rfl⟩
  obtain ⟨t3, ht3⟩ : ∃ n, n = u2.length := ⟨_, rfl⟩
  obtain ⟨t4, ht4⟩ : ∃ n, n = m2.length := ⟨_, rfl⟩
  obtain ⟨h1, hh1⟩ : ∃ h, h = B (v1 = v2) := ⟨_, rfl⟩
  obtain ⟨h2, hh2⟩ : ∃ h, h = B (o1 = o2) := ⟨_, rfl⟩
  obtain ⟨h3, hh3⟩ : ∃ h, h = B (u1 = u2) := ⟨_, rfl⟩
  obtain ⟨h4, hh4⟩ : ∃ h, h = B (m1 = m2) := ⟨_, rfl⟩
  have e1 := fun (w1 : World) hi1 => eqI64_ok v1 v2 p1 r1 c1 d1 w1 (sa1.later (im := elsewhere [] [] w) rfl hi1) (sb1.later rfl hi1)
  have e2 := fun (w1 : World) hi1 => eqDone_ok o1 o2 p2 r2 c2 d2 w1 (sa2.later (im := elsewhere [] [] w) rfl hi1) (sb2.later rfl hi1)
  have e3 := fun (w1 : World) hi1 => eqCell_ok u1 u2 p3 r3 c3 d3 w1 (sa3.later (im := elsewhere [] [] w) rfl hi1) (sb3.later rfl hi1)
  have e4 := fun (w1 : World) hi1 => eqMark_ok m1 m2 p4 r4 c4 d4 w1 (sa4.later (im := elsewhere [] [] w) rfl hi1) (sb4.later rfl hi1)
  rw [← hn1, ← ht1, ← hh1] at e1
  rw [← hn2, ← ht2, ← hh2] at e2
  rw [← hn3, ← ht3, ← hh3] at e3
  rw [← hn4, ← ht4, ← hh4] at e4
  rw [← hn1, ← hn2, ← hn3, ← hn4, ← ht1, ← ht2, ← ht3, ← ht4]
  clear sa1 sa2 sa3 sa4 sb1 sb2 sb3 sb4
  refine X.begin (rg := []) (N := []) (ss := [.agg [.int .u8 (.v k1), .int .u64 (.v i1), .int .i64 (.v s1), .slv p1 n1 c1, .slv p2 n2 c2, .slv p3 n3 c3, .int .u64 (.v l1), .slv p4 n4 c4], .agg [.int .u8 (.v k2), .int .u64 (.v i2), .int .i64 (.v s2), .slv r1 t1 d1, .slv r2 t2 d2, .slv r3 t3 d3, .int .u64 (.v l2), .slv r4 t4 d4]]) Try.func53 rfl B53_ok rfl rfl Sat.std0 ?_
  obtain ⟨im, hime⟩ : ∃ im, im = elsewhere [] [] w := ⟨_, rfl⟩
  show X (mkE Try.prog Try.f53 _ w (InR [] []) (elsewhere [] [] w) (fun _ _ => False) (fun _ => True) [] B53) _ _
  rw [← hime] at e1 e2 e3 e4 ⊢
  refine X.goP ([(37, .bool (.v h1)), (45, .bool (.v h2)), (52, .bool (.v h3)), (59, .bool (.v h4))]) T53_ok 400 _ rfl Try.results53 (fun pr fin hpr hfin => ?_)
  conv => cbv
  refine ⟨hpr _ (.of Try.call76 [.slice _ _ _, .slice _ _ _] (.bool h4) (fun _ => rfl) (fun _ => rfl) fun _ w1 hi1 => e4 w1 hi1), hpr _ (.of Try.call75 [.slice _ _ _, .slice _ _ _] (.bool h3) (fun _ => rfl) (fun _ => rfl) fun _ w1 hi1 => e3 w1 hi1), hpr _ (.of Try.call74 [.slice _ _ _, .slice _ _ _, .func _ _ _] (.bool h2) (fun _ => rfl) (fun _ => rfl) fun _ w1 hi1 => e2 w1 hi1), hpr _ (.of Try.call73 [.slice _ _ _, .slice _ _ _] (.bool h1) (fun _ => rfl) (fun _ => rfl) fun _ w1 hi1 => e1 w1 hi1), hfin _ _ ?_⟩
  refine X.done T53_ok rfl (fun N w' v hN hS hv => ⟨fin_bool hv ?_, hS.chg.mono fun k o _ h => inR_nil h⟩)
  refine den_of ?_
  subst hh1 hh2 hh3 hh4 hq
  simp only [SB.T, SI.den, B_iff, RegP.mk.injEq, and_assoc]
  exact ⟨fun ⟨a, b, c, d, e, f, g, h⟩ => ⟨a, b, c, e, f, g, d, h⟩, fun ⟨a, b, c, e, f, g, d, h⟩ => ⟨a, b, c, d, e, f, g, h⟩⟩

set_option maxHeartbeats 4000000 in
set_option maxRecDepth 100000 in
set_option cbv.maxSteps 100000000 in
theorem confSame_ok (a b : ConfP) (va vb : List Value) (w : World) (ha : RepL (wm w) a.toD va) (hb : RepL (wm w) b.toD vb) :
    Calls Try.prog 54 #[.agg va.toArray, .agg vb.toArray] w fun e w' => e = .returned (.bool (B (a = b))) ∧ Chg (fun _ _ => False) w w' := by
  obtain ⟨p1, c1, p2, c2, rfl, sa1, sa2⟩ := ConfP.open ha
  obtain ⟨r1, d1, r2, d2, rfl, sb1, sb2⟩ := ConfP.open hb
  clear ha hb
  obtain ⟨k1, o1, m1⟩ := a
  obtain ⟨k2, o2, m2⟩ := b
  simp only at sa1 sa2 sb1 sb2 ⊢
  obtain ⟨q, hq⟩ : ∃ q : Bool, q = B ((⟨k1, o1, m1⟩ : ConfP) = ⟨k2, o2, m2⟩) := ⟨_, rfl⟩
  rw [← hq]
  obtain ⟨n1, hn1⟩ : ∃ n, n = o1.length := ⟨_, rfl⟩
  obtain ⟨n2, hn2⟩ : ∃ n, n = m1.length := ⟨_, rfl⟩
  obtain ⟨t1, ht1⟩ : ∃ n, n = o2.length := ⟨_, rfl⟩
  obtain ⟨t2, ht2⟩ : ∃ n, n = m2.length := ⟨_, rfl⟩
  obtain ⟨h1, hh1⟩ : ∃ h, h = B (o1 = o2) := ⟨_, rfl⟩
  obtain ⟨h2, hh2⟩ : ∃ h, h = B (m1 = m2) := ⟨_, rfl⟩
  have e1 := fun (w1 : World) hi1 => eqU8_ok o1 o2 p1 r1 c1 d1 w1 (sa1.later (im := elsewhere [] [] w) rfl hi1) (sb1.later rfl hi1)
  have e2 := fun (w1 : World) hi1 => eqU8_ok m1 m2 p2 r2 c2 d2 w1 (sa2.later (im := elsewhere [] [] w) rfl hi1) (sb2.later rfl hi1)
  rw [← hn1, ← ht1, ← hh1] at e1
  rw [← hn2, ← ht2, ← hh2] at e2
  rw [← hn1, ← hn2, ← ht1, ← ht2]
  clear sa1 sa2 sb1 sb2
  refine X.begin (rg := []) (N := []) (ss := [.agg [.int .u64 (.v k1), .slv p1 n1 c1, .slv p2 n2 c2], .agg [.int .u64 (.v k2), .slv r1 t1 d1, .slv r2 t2 d2]]) Try.func54 rfl B54_ok rfl rfl Sat.std0 ?_
  obtain ⟨im, hime⟩ : ∃ im, im = elsewhere [] [] w := ⟨_, rfl⟩
  show X (mkE Try.prog Try.f54 _ w (InR [] []) (elsewhere [] [] w) (fun _ _ => False) (fun _ => True) [] B54) _ _
  rw [← hime] at e1 e2 ⊢
  refine X.goP ([(15, .bool (.v h1)), (22, .bool (.v h2))]) T54_ok 400 _ rfl Try.results54 (fun pr fin hpr hfin => ?_)
  conv => cbv
  refine ⟨hpr _ (.of Try.call77 [.slice _ _ _, .slice _ _ _] (.bool h2) (fun _ => rfl) (fun _ => rfl) fun _ w1 hi1 => e2 w1 hi1), hpr _ (.of Try.call77 [.slice _ _ _, .slice _ _ _] (.bool h1) (fun _ => rfl) (fun _ => rfl) fun _ w1 hi1 => e1 w1 hi1), hfin _ _ ?_⟩
  refine X.done T54_ok rfl (fun N w' v hN hS hv => ⟨fin_bool hv ?_, hS.chg.mono fun k o _ h => inR_nil h⟩)
  refine den_of ?_
  subst hh1 hh2 hq
  simp only [SB.T, SI.den, B_iff, ConfP.mk.injEq, and_assoc]

end Go.Proofs.Ytkjhpaeminegoaa
