/- The records' functions: replies. -/
import Derived.Test.YtkjhpaeminegoaaRe1

namespace Go.Proofs.Ytkjhpaeminegoaa
open Go.Eng

set_option maxHeartbeats 4000000 in
set_option maxRecDepth 100000 in
set_option cbv.maxSteps 100000000 in
theorem sameReply_ok (a b : RepP) (va vb : List Value) (w : World) (ha : RepL (wm w) a.toD va) (hb : RepL (wm w) b.toD vb) :
    Calls Try.prog 90 #[.agg va.toArray, .agg vb.toArray] w fun e w' => e = .returned (.bool (decide (a = b))) ∧ Chg (fun _ _ => False) w w' := by
  obtain ⟨pa, ca, rfl, sa⟩ := RepP.open ha
  obtain ⟨pb, cb, rfl, sb⟩ := RepP.open hb
  clear ha hb
  obtain ⟨e1, i1, s1, l1⟩ := a
  obtain ⟨e2, i2, s2, l2⟩ := b
  obtain ⟨n1, hn1⟩ : ∃ n, n = l1.length := ⟨_, rfl⟩
  obtain ⟨n2, hn2⟩ : ∃ n, n = l2.length := ⟨_, rfl⟩
  obtain ⟨q, hq⟩ : ∃ q : Bool, q = decide ((⟨e1, i1, s1, l1⟩ : RepP) = ⟨e2, i2, s2, l2⟩) := ⟨_, rfl⟩
  have hm := maxLen_le
  have hl1 : n1 ≤ maxLen := by rw [hn1]; exact sa.len
  simp only [← hn1, ← hn2, ← hq]
  refine X.begin (rg := []) (N := []) (ss := [.agg [.int .i64 (.v e1), .int .u64 (.v i1), .int .i64 (.v s1), .slv pa n1 ca], .agg [.int .i64 (.v e2), .int .u64 (.v i2), .int .i64 (.v s2), .slv pb n2 cb]]) Try.func90 rfl B90_ok rfl rfl Sat.std0 ?_
  obtain ⟨im, hime⟩ : ∃ im, im = elsewhere [] [] w := ⟨_, rfl⟩
  show X (mkE Try.prog Try.f90 _ w (InR [] []) (elsewhere [] [] w) (fun _ _ => False) (fun _ => True) [] B90) _ _
  rw [← hime]
  refine X.go T90_ok 400 _ rfl Try.results90 ?_
  conv => arg 2; cbv
  refine X.cond rfl (fun hc => ?_) (fun hc => ?_)
  · refine X.go T90_ok 400 _ rfl Try.results90 ?_
    conv => arg 2; cbv
    refine X.done T90_ok rfl (fun N w' v hN hS hv => ⟨fin_bool hv ?_, hS.chg.mono fun k o _ h => inR_nil h⟩)
    simp only [SB.T, SB.F, SI.den] at hc
    rw [hq]; symm
    refine decide_eq_false fun h => ?_
    cases h
    omega
  simp only [SB.T, SB.F, SI.den] at hc
  obtain ⟨⟨⟨rfl, rfl⟩, rfl⟩, hnn⟩ := hc
  obtain rfl : n1 = n2 := by omega
  refine X.go T90_ok 400 _ rfl Try.results90 ?_
  conv => arg 2; cbv
  refine X.loop1 (fun i : {i : Nat // i ≤ n1 ∧ l1.take i = l2.take i} => ⟨[(2, .val (.own 0 0)), (3, .val (.own 1 0)), (36, .val (.int .i64 (.nat n1))), (37, .val (.int .i64 (.nat i.1)))], [⟨true, [.int .i64 (.v e1), .int .u64 (.v i1), .int .i64 (.v s1), .slv pa n1 ca], none⟩, ⟨true, [.int .i64 (.v e1), .int .u64 (.v i1), .int .i64 (.v s1), .slv pb n1 cb], none⟩]⟩) (fun i => n1 - i.1) (fun N a w' hN hf hS => ⟨⟨0, Nat.zero_le _, rfl⟩, ?_⟩) (fun i q' hq' => ?_)
  · exact At.again hf hS (by repeat first | exact trivial | refine ⟨⟨_, rfl, .inl ⟨rfl, rfl⟩⟩, ?_⟩ | refine ⟨⟨_, rfl, .inr ⟨_, rfl, rfl⟩⟩, ?_⟩ | refine ⟨⟨_, rfl, .inr ⟨_, rfl, by simp (disch := omega) [SV.den, SI.den, wrapU]⟩⟩, ?_⟩) (by repeat first | exact trivial | refine ⟨fun h => h, SubC.refl rfl, rfl, ?_⟩)
  obtain ⟨i, hi, htk⟩ := i
  refine X.go T90_ok 400 _ rfl Try.results90 ?_
  conv => arg 2; cbv
  refine X.cond rfl (fun hlt => ?_) (fun hge => ?_)
  · simp only [SB.T, SI.den] at hlt
    have hlt : i < n1 := by omega
    refine X.go T90_ok 400 _ rfl Try.results90 ?_
    conv => arg 2; cbv
    obtain ⟨x1, hx1⟩ : ∃ x, l1[i]? = some x := ⟨_, List.getElem?_eq_getElem (by omega)⟩
    obtain ⟨x2, hx2⟩ : ∃ x, l2[i]? = some x := ⟨_, List.getElem?_eq_getElem (by omega)⟩
    obtain ⟨b1, y1, _, hp1, hr1, hm1⟩ := sa.his hx1
    obtain ⟨b2, y2, _, hp2, hr2, hm2⟩ := sb.his hx2
    rw [i64D.open hr1, ← hime] at hm1
    rw [i64D.open hr2, ← hime] at hm2
    refine X.see b1 (y1 + i * 1) [.int .i64 (.v x1)] (one_see (hm1 0 _ rfl)) Nat.zero_lt_one (fun N1 hN1 hNl1 => ?_)
    refine X.see b2 (y2 + i * 1) [.int .i64 (.v x2)] (one_see (hm2 0 _ rfl)) Nat.zero_lt_one (fun N2 hN2 hNl2 => ?_)
    have hg3 : (N2 ++ [(⟨b2, y2 + i * 1, 0⟩ : Num)])[3]? = some ⟨b2, y2 + i * 1, 0⟩ := num_last hNl2
    have hg2 : (N2 ++ [(⟨b2, y2 + i * 1, 0⟩ : Num)])[2]? = some ⟨b1, y1 + i * 1, 0⟩ := num_old (hN2 2 _ (num_last hNl1))
    refine X.goP ([(43, .own 2 0), (48, .own 3 0)]) T90_ok 400 _ rfl Try.results90 (fun pr fin hpr hfin => ?_)
    conv => cbv
    refine ⟨hpr _ (ValOk.row rfl rfl (fun _ => rfl) Try.underlying58 Try.sizeOf2 hlt hp2 hg3 rfl rfl), hpr _ (ValOk.row rfl rfl (fun _ => rfl) Try.underlying58 Try.sizeOf2 hlt hp1 hg2 rfl rfl), hfin _ _ ?_⟩
    refine X.cond rfl (fun hne => ?_) (fun heq => ?_)
    · simp only [SB.T, SI.den] at hne
      refine X.go T90_ok 400 _ rfl Try.results90 ?_
      conv => arg 2; cbv
      refine X.done T90_ok rfl (fun N w' v hN hS hv => ⟨fin_bool hv ?_, hS.chg.mono fun k o _ h => inR_nil h⟩)
      rw [hq]; symm
      refine decide_eq_false fun h => hne ?_
      cases h
      rw [hx1] at hx2
      exact Option.some.inj hx2
    · simp only [SB.F, SI.den] at heq
      subst heq
      refine X.go T90_ok 400 _ rfl Try.results90 ?_
      conv => arg 2; cbv
      refine X.back (fun N a w' hN hf hS => hq' ⟨i + 1, by omega, take_next htk hx1 hx2⟩ a w' (by simp only; omega) ?_)
      exact At.again hf hS (by repeat first | exact trivial | refine ⟨⟨_, rfl, .inl ⟨rfl, rfl⟩⟩, ?_⟩ | refine ⟨⟨_, rfl, .inr ⟨_, rfl, rfl⟩⟩, ?_⟩ | refine ⟨⟨_, rfl, .inr ⟨_, rfl, by simp (disch := omega) [SV.den, SI.den, wrapU]⟩⟩, ?_⟩) (by repeat first | exact trivial | refine ⟨fun h => h, SubC.refl rfl, rfl, ?_⟩)
  simp only [SB.F, SI.den] at hge
  obtain rfl : i = n1 := by omega
  refine X.go T90_ok 400 _ rfl Try.results90 ?_
  conv => arg 2; cbv
  refine X.done T90_ok rfl (fun N w' v hN hS hv => ⟨fin_bool hv ?_, hS.chg.mono fun k o _ h => inR_nil h⟩)
  rw [hq]; symm
  refine decide_eq_true ?_
  rw [take_all htk hn1 hn2]

end Go.Proofs.Ytkjhpaeminegoaa
