/- The records' functions: registers held against each other, by the document. -/
import Derived.Test.YtkjhpaeminegoaaRe7

namespace Go.Proofs.Ytkjhpaeminegoaa
open Go.Eng

set_option maxHeartbeats 8000000 in
set_option maxRecDepth 100000 in
set_option cbv.maxSteps 100000000 in
theorem regSameR_ok (a b : RegP) (va vb : List Value) (w : World) (ha : RepL (wm w) a.toD va) (hb : RepL (wm w) b.toD vb) :
    Calls Try.prog 61 #[.agg va.toArray, .agg vb.toArray] w fun e w' => e = .returned (.bool (B (a = b))) ∧ Chg (fun _ _ => False) w w' := by
  obtain ⟨p1, c1, p2, c2, p3, c3, p4, c4, rfl, sa1, sa2, sa3, sa4⟩ := RegP.open ha
  obtain ⟨r1, d1, r2, d2, r3, d3, r4, d4, rfl, sb1, sb2, sb3, sb4⟩ := RegP.open hb
  clear ha hb
  obtain ⟨k1, i1, s1, v1, o1, u1, l1, m1⟩ := a
  obtain ⟨k2, i2, s2, v2, o2, u2, l2, m2⟩ := b
  simp only at sa1 sa2 sa3 sa4 sb1 sb2 sb3 sb4 ⊢
  obtain ⟨q, hq⟩ : ∃ q : Bool, q = B ((⟨k1, i1, s1, v1, o1, u1, l1, m1⟩ : RegP) = ⟨k2, i2, s2, v2, o2, u2, l2, m2⟩) := ⟨_, rfl⟩
  rw [← hq]
  obtain ⟨n1, hn1⟩ : ∃ n, n = v1.length := ⟨_, rfl⟩
  obtain ⟨n2, hn2⟩ : ∃ n, n = o1.length := ⟨_, rfl⟩
  obtain ⟨n3, hn3⟩ : ∃ n, n = u1.length := ⟨_, rfl⟩
  obtain ⟨n4, hn4⟩ : ∃ n, n = m1.length := ⟨_, rfl⟩
  obtain ⟨t1, ht1⟩ : ∃ n, n = v2.length := ⟨_, rfl⟩
  obtain ⟨t2, ht2⟩ : ∃ n, n = o2.length := ⟨_, rfl⟩
  obtain ⟨t3, ht3⟩ : ∃ n, n = u2.length := ⟨_, rfl⟩
  obtain ⟨t4, ht4⟩ : ∃ n, n = m2.length := ⟨_, rfl⟩
  have hm := maxLen_le
  have hl2 : n2 ≤ maxLen := by rw [hn2]; exact sa2.len
  have hl3 : n3 ≤ maxLen := by rw [hn3]; exact sa3.len
  have hl4 : n4 ≤ maxLen := by rw [hn4]; exact sa4.len
  obtain ⟨h1, hh1⟩ : ∃ h, h = B (v1 = v2) := ⟨_, rfl⟩
  have hv0 : ∀ {M : Mem} {v : List Int} {p : Option Addr} {c : Nat}, SlR M p c 1 (v.map i64D) → RepL M (RepP.toD ⟨0, 0, 0, v⟩) [.int .i64 0, .int .u64 0, .int .i64 0, .slice p v.length c] := fun hs => by
    refine ⟨_, _, rfl, rfl, ?_⟩
    refine ⟨_, _, rfl, rfl, ?_⟩
    refine ⟨_, _, rfl, rfl, ?_⟩
    exact ⟨_, _, rfl, RepC.mk (List.length_map ..).symm sz_i64 hs, rfl⟩
  have e1 := fun (w1 : World) hi1 => sameReply_ok ⟨0, 0, 0, v1⟩ ⟨0, 0, 0, v2⟩ _ _ w1 (hv0 (sa1.later (im := elsewhere [] [] w) rfl hi1)) (hv0 (sb1.later rfl hi1))
  rw [B_dec, show B ((⟨0, 0, 0, v1⟩ : RepP) = ⟨0, 0, 0, v2⟩) = h1 by rw [hh1]; exact B_congr (by simp), ← hn1, ← ht1] at e1
  rw [← hn1, ← hn2, ← hn3, ← hn4, ← ht1, ← ht2, ← ht3, ← ht4]
  refine X.begin (rg := []) (N := []) (ss := [.agg [.int .u8 (.v k1), .int .u64 (.v i1), .int .i64 (.v s1), .slv p1 n1 c1, .slv p2 n2 c2, .slv p3 n3 c3, .int .u64 (.v l1), .slv p4 n4 c4], .agg [.int .u8 (.v k2), .int .u64 (.v i2), .int .i64 (.v s2), .slv r1 t1 d1, .slv r2 t2 d2, .slv r3 t3 d3, .int .u64 (.v l2), .slv r4 t4 d4]]) Try.func61 rfl B61_ok rfl rfl Sat.std0 ?_
  obtain ⟨im, hime⟩ : ∃ im, im = elsewhere [] [] w := ⟨_, rfl⟩
  show X (mkE Try.prog Try.f61 _ w (InR [] []) (elsewhere [] [] w) (fun _ _ => False) (fun _ => True) [] B61) _ _
  rw [← hime] at e1 ⊢
  refine X.goP ([(68, .bool (.v h1))]) T61_ok 400 _ rfl Try.results61 (fun pr fin hpr hfin => ?_)
  conv => cbv
  refine ⟨hpr _ (.of Try.call90 [.agg _, .agg _] (.bool h1) (fun _ => rfl) (fun _ => rfl) fun _ w1 hi1 => e1 w1 hi1), hfin _ _ ?_⟩
  refine X.cond rfl (fun hc => ?_) (fun hc => ?_)
  · refine X.go T61_ok 400 _ rfl Try.results61 ?_
    conv => arg 2; cbv
    refine X.done T61_ok rfl (fun N w' v hN hS hv => ⟨fin_bool hv ?_, hS.chg.mono fun k o _ h => inR_nil h⟩)
    simp only [SB.T, SB.F, SI.den] at hc
    rw [hq]
    refine (B_neg fun h => ?_).symm
    cases h
    rw [B_pos rfl] at hh1
    subst hh1
    simp only [hn2, ht2, hn3, ht3, hn4, ht4] at hc
    simp at hc
  simp only [SB.T, SB.F, SI.den] at hc
  obtain ⟨⟨⟨⟨⟨⟨⟨rfl, rfl⟩, rfl⟩, rfl⟩, hcn2⟩, hcn3⟩, hcn4⟩, hcv⟩ := hc
  rw [hh1, B_iff] at hcv
  subst hcv
  obtain rfl : n2 = t2 := by omega
  obtain rfl : n3 = t3 := by omega
  obtain rfl : n4 = t4 := by omega
  refine X.go T61_ok 400 _ rfl Try.results61 ?_
  conv => arg 2; cbv
  refine X.loop1 (fun i : {i : Nat // i ≤ n2 ∧ o1.take i = o2.take i} => ⟨[(2, .val (.own 0 0)), (3, .val (.own 1 0)), (73, .val (.int .i64 (.nat n2))), (74, .val (.int .i64 (.nat i.1)))], [⟨true, [.int .u8 (.v k1), .int .u64 (.v i1), .int .i64 (.v s1), .slv p1 n1 c1, .slv p2 n2 c2, .slv p3 n3 c3, .int .u64 (.v l1), .slv p4 n4 c4], none⟩, ⟨true, [.int .u8 (.v k1), .int .u64 (.v i1), .int .i64 (.v s1), .slv r1 t1 d1, .slv r2 n2 d2, .slv r3 n3 d3, .int .u64 (.v l1), .slv r4 n4 d4], none⟩]⟩) (fun i => n2 - i.1) (fun N a w' hN hf hS => ⟨⟨0, Nat.zero_le _, rfl⟩, ?_⟩) (fun i q' hq' => ?_)
  · exact At.again hf hS (by repeat first | exact trivial | refine ⟨⟨_, rfl, .inl ⟨rfl, rfl⟩⟩, ?_⟩ | refine ⟨⟨_, rfl, .inr ⟨_, rfl, rfl⟩⟩, ?_⟩ | refine ⟨⟨_, rfl, .inr ⟨_, rfl, by simp (disch := omega) [SV.den, SI.den, wrapU]⟩⟩, ?_⟩) (by repeat first | exact trivial | refine ⟨fun h => h, SubC.refl rfl, rfl, ?_⟩)
  obtain ⟨i, hi, htk⟩ := i
  refine X.go T61_ok 400 _ rfl Try.results61 ?_
  conv => arg 2; cbv
  refine X.cond rfl (fun hlt => ?_) (fun hge => ?_)
  · simp only [SB.T, SI.den] at hlt
    have hlt : i < n2 := by omega
    obtain ⟨x1, hx1⟩ : ∃ x, o1[i]? = some x := ⟨_, List.getElem?_eq_getElem (by omega)⟩
    obtain ⟨x2, hx2⟩ : ∃ x, o2[i]? = some x := ⟨_, List.getElem?_eq_getElem (by omega)⟩
    obtain ⟨b1, y1, w1, hp1, hr1, hm1⟩ := sa2.his hx1
    obtain ⟨b2, y2, w2, hp2, hr2, hm2⟩ := sb2.his hx2
    rw [← hime] at hm1 hm2
    obtain ⟨h, hh⟩ : ∃ h, h = B (x1.reply = x2.reply) := ⟨_, rfl⟩
    obtain ⟨_, _, rfl, ha0, ga1⟩ := RepL.cons hr1
    obtain ⟨_, _, rfl, ha1, sa⟩ := RepL.cons ga1
    obtain ⟨_, _, rfl, hb0, gb1⟩ := RepL.cons hr2
    obtain ⟨_, _, rfl, hb1, sb⟩ := RepL.cons gb1
    cases RepC.int' ha0; cases RepC.int' ha1; cases RepC.int' hb0; cases RepC.int' hb1
    clear hr1 hr2 ga1 gb1 ha0 ha1 hb0 hb1
    have hc := fun (w1 : World) hi1 => sameReply_ok x1.reply x2.reply _ _ w1 (sa.later hime hi1) (sb.later hime hi1)
    rw [B_dec, ← hh] at hc
    obtain ⟨pa, ca, rfl, _⟩ := RepP.open sa
    obtain ⟨pb, cb, rfl, _⟩ := RepP.open sb
    clear sa sb
    obtain ⟨na, hna⟩ : ∃ n, n = x1.reply.vars.length := ⟨_, rfl⟩
    obtain ⟨nb, hnb⟩ : ∃ n, n = x2.reply.vars.length := ⟨_, rfl⟩
    rw [← hna] at hm1 hc
    rw [← hnb] at hm2 hc
    refine X.see b1 (y1 + i * 6) [.int .u8 (.v x1.client), .int .u64 (.v x1.seq), .int .i64 (.v x1.reply.err), .int .u64 (.v x1.reply.inc), .int .i64 (.v x1.reply.state), .slv pa na ca] (see_of hm1 rfl) (by simp) (fun N1 hN1 hNl1 => ?_)
    refine X.see b2 (y2 + i * 6) [.int .u8 (.v x2.client), .int .u64 (.v x2.seq), .int .i64 (.v x2.reply.err), .int .u64 (.v x2.reply.inc), .int .i64 (.v x2.reply.state), .slv pb nb cb] (see_of hm2 rfl) (by simp) (fun N2 hN2 hNl2 => ?_)
    have hg1 : (N2 ++ [(⟨b2, y2 + i * 6, 0⟩ : Num)])[3]? = some ⟨b2, y2 + i * 6, 0⟩ := num_last hNl2
    have hg0 : (N2 ++ [(⟨b2, y2 + i * 6, 0⟩ : Num)])[2]? = some ⟨b1, y1 + i * 6, 0⟩ := num_old (hN2 2 _ (num_last hNl1))
    refine X.goP ([(80, .own 2 0), (86, .own 3 0), (94, .own 2 0), (100, .own 3 0), (109, .own 2 0), (115, .own 3 0), (118, .bool (.v h))]) T61_ok 400 _ rfl Try.results61 (fun pr fin hpr hfin => ?_)
    conv => cbv
    have vo1 : ∀ {E : Env} {N0 : Nums} {rg : List Rg} {f : Fr} {g : GK} {x ix : Operand} {kd : IntKind} {s : SI}, evK f g x = some (.slv p2 n2 c2) → evK f g ix = some (.int kd s) → E.P = Try.prog → N0 = (N2 ++ [(⟨b2, y2 + i * 6, 0⟩ : Num)]) → s = .nat i → ValOk E N0 rg f g (.indexAddr 59 x ix) (.own 2 0) := fun k1 k2 k3 k4 k5 => by subst k4 k5; exact ValOk.row k1 k2 (fun _ => rfl) (by rw [k3]; exact Try.underlying59) (by rw [k3]; exact Try.sizeOf120) hlt hp1 hg0 rfl rfl
    have vo2 : ∀ {E : Env} {N0 : Nums} {rg : List Rg} {f : Fr} {g : GK} {x ix : Operand} {kd : IntKind} {s : SI}, evK f g x = some (.slv r2 n2 d2) → evK f g ix = some (.int kd s) → E.P = Try.prog → N0 = (N2 ++ [(⟨b2, y2 + i * 6, 0⟩ : Num)]) → s = .nat i → ValOk E N0 rg f g (.indexAddr 59 x ix) (.own 3 0) := fun k1 k2 k3 k4 k5 => by subst k4 k5; exact ValOk.row k1 k2 (fun _ => rfl) (by rw [k3]; exact Try.underlying59) (by rw [k3]; exact Try.sizeOf120) hlt hp2 hg1 rfl rfl
    refine ⟨hpr _ (.of Try.call90 [.agg _, .agg _] (.bool h) (fun _ => rfl) (fun _ => rfl) fun _ w1 hi1 => hc w1 hi1), hpr _ (vo2 rfl rfl rfl rfl rfl), hpr _ (vo1 rfl rfl rfl rfl rfl), hpr _ (vo2 rfl rfl rfl rfl rfl), hpr _ (vo1 rfl rfl rfl rfl rfl), hpr _ (vo2 rfl rfl rfl rfl rfl), hpr _ (vo1 rfl rfl rfl rfl rfl), hfin _ _ ?_⟩
    refine X.cond rfl (fun hne => ?_) (fun heq => ?_)
    · simp only [SB.T, SB.F, SI.den] at hne
      refine X.go T61_ok 400 _ rfl Try.results61 ?_
      conv => arg 2; cbv
      refine X.done T61_ok rfl (fun N w' v hN hS hv => ⟨fin_bool hv ?_, hS.chg.mono fun k o _ h => inR_nil h⟩)
      rw [hq]
      refine (B_neg fun e => ?_).symm
      cases e
      rw [hx1] at hx2
      have := Option.some.inj hx2
      subst this
      rw [B_pos rfl] at hh
      simp_all
    · simp only [SB.T, SB.F, SI.den] at heq
      obtain ⟨⟨e1, e2⟩, e3⟩ := heq
      rw [hh, B_iff] at e3
      have hxx : x1 = x2 := by
        cases x1; cases x2
        simp_all
      subst hxx
      refine X.go T61_ok 400 _ rfl Try.results61 ?_
      conv => arg 2; cbv
      refine X.back (fun N a w' hN hf hS => hq' ⟨i + 1, by omega, take_next htk hx1 hx2⟩ a w' (by simp only; omega) ?_)
      exact At.again hf hS (by repeat first | exact trivial | refine ⟨⟨_, rfl, .inl ⟨rfl, rfl⟩⟩, ?_⟩ | refine ⟨⟨_, rfl, .inr ⟨_, rfl, rfl⟩⟩, ?_⟩ | refine ⟨⟨_, rfl, .inr ⟨_, rfl, by simp (disch := omega) [SV.den, SI.den, wrapU]⟩⟩, ?_⟩) (by repeat first | exact trivial | refine ⟨fun h => h, SubC.refl rfl, rfl, ?_⟩)
  simp only [SB.F, SI.den] at hge
  obtain rfl : n2 = i := by omega
  have halln2 := take_all htk hn2 ht2
  clear htk hi hge hq'
  refine X.go T61_ok 400 _ rfl Try.results61 ?_
  conv => arg 2; cbv
  refine X.loop1 (fun i : {i : Nat // i ≤ n3 ∧ u1.take i = u2.take i} => ⟨[(2, .val (.own 0 0)), (3, .val (.own 1 0)), (124, .val (.int .i64 (.nat n3))), (125, .val (.int .i64 (.nat i.1)))], [⟨true, [.int .u8 (.v k1), .int .u64 (.v i1), .int .i64 (.v s1), .slv p1 n1 c1, .slv p2 n2 c2, .slv p3 n3 c3, .int .u64 (.v l1), .slv p4 n4 c4], none⟩, ⟨true, [.int .u8 (.v k1), .int .u64 (.v i1), .int .i64 (.v s1), .slv r1 t1 d1, .slv r2 n2 d2, .slv r3 n3 d3, .int .u64 (.v l1), .slv r4 n4 d4], none⟩]⟩) (fun i => n3 - i.1) (fun N a w' hN hf hS => ⟨⟨0, Nat.zero_le _, rfl⟩, ?_⟩) (fun i q' hq' => ?_)
  · exact At.again hf hS (by repeat first | exact trivial | refine ⟨⟨_, rfl, .inl ⟨rfl, rfl⟩⟩, ?_⟩ | refine ⟨⟨_, rfl, .inr ⟨_, rfl, rfl⟩⟩, ?_⟩ | refine ⟨⟨_, rfl, .inr ⟨_, rfl, by simp (disch := omega) [SV.den, SI.den, wrapU]⟩⟩, ?_⟩) (by repeat first | exact trivial | refine ⟨fun h => h, SubC.refl rfl, rfl, ?_⟩)
  obtain ⟨i, hi, htk⟩ := i
  refine X.go T61_ok 400 _ rfl Try.results61 ?_
  conv => arg 2; cbv
  refine X.cond rfl (fun hlt => ?_) (fun hge => ?_)
  · simp only [SB.T, SI.den] at hlt
    have hlt : i < n3 := by omega
    obtain ⟨x1, hx1⟩ : ∃ x, u1[i]? = some x := ⟨_, List.getElem?_eq_getElem (by omega)⟩
    obtain ⟨x2, hx2⟩ : ∃ x, u2[i]? = some x := ⟨_, List.getElem?_eq_getElem (by omega)⟩
    obtain ⟨b1, y1, w1, hp1, hr1, hm1⟩ := sa3.his hx1
    obtain ⟨b2, y2, w2, hp2, hr2, hm2⟩ := sb3.his hx2
    rw [← hime] at hm1 hm2
    rw [CellP.open hr1] at hm1
    rw [CellP.open hr2] at hm2
    obtain ⟨xa1, xb1, xc1, xd1⟩ := x1
    obtain ⟨xa2, xb2, xc2, xd2⟩ := x2
    refine X.see b1 (y1 + i * 4) [.int .u64 (.v xa1), .int .u8 (.v xb1), .int .i64 (.v xc1), .int .i64 (.v xd1)] (see_of hm1 rfl) (by simp) (fun N1 hN1 hNl1 => ?_)
    refine X.see b2 (y2 + i * 4) [.int .u64 (.v xa2), .int .u8 (.v xb2), .int .i64 (.v xc2), .int .i64 (.v xd2)] (see_of hm2 rfl) (by simp) (fun N2 hN2 hNl2 => ?_)
    have hg1 : (N2 ++ [(⟨b2, y2 + i * 4, 0⟩ : Num)])[3]? = some ⟨b2, y2 + i * 4, 0⟩ := num_last hNl2
    have hg0 : (N2 ++ [(⟨b2, y2 + i * 4, 0⟩ : Num)])[2]? = some ⟨b1, y1 + i * 4, 0⟩ := num_old (hN2 2 _ (num_last hNl1))
    refine X.goP ([(131, .own 2 0), (136, .own 3 0)]) T61_ok 400 _ rfl Try.results61 (fun pr fin hpr hfin => ?_)
    conv => cbv
    refine ⟨hpr _ (ValOk.row rfl rfl (fun _ => rfl) Try.underlying60 Try.sizeOf131 hlt hp2 hg1 rfl rfl), hpr _ (ValOk.row rfl rfl (fun _ => rfl) Try.underlying60 Try.sizeOf131 hlt hp1 hg0 rfl rfl), hfin _ _ ?_⟩
    refine X.cond rfl (fun hne => ?_) (fun heq => ?_)
    · simp only [SB.T, SB.F, SI.den] at hne
      refine X.go T61_ok 400 _ rfl Try.results61 ?_
      conv => arg 2; cbv
      refine X.done T61_ok rfl (fun N w' v hN hS hv => ⟨fin_bool hv ?_, hS.chg.mono fun k o _ h => inR_nil h⟩)
      rw [hq]
      refine (B_neg fun h => ?_).symm
      cases h
      rw [hx1] at hx2
      have := Option.some.inj hx2
      simp_all
    · simp only [SB.T, SB.F, SI.den] at heq
      obtain ⟨rfl, rfl, rfl, rfl⟩ := heq
      refine X.go T61_ok 400 _ rfl Try.results61 ?_
      conv => arg 2; cbv
      refine X.back (fun N a w' hN hf hS => hq' ⟨i + 1, by omega, take_next htk hx1 hx2⟩ a w' (by simp only; omega) ?_)
      exact At.again hf hS (by repeat first | exact trivial | refine ⟨⟨_, rfl, .inl ⟨rfl, rfl⟩⟩, ?_⟩ | refine ⟨⟨_, rfl, .inr ⟨_, rfl, rfl⟩⟩, ?_⟩ | refine ⟨⟨_, rfl, .inr ⟨_, rfl, by simp (disch := omega) [SV.den, SI.den, wrapU]⟩⟩, ?_⟩) (by repeat first | exact trivial | refine ⟨fun h => h, SubC.refl rfl, rfl, ?_⟩)
  simp only [SB.F, SI.den] at hge
  obtain rfl : n3 = i := by omega
  have halln3 := take_all htk hn3 ht3
  clear htk hi hge hq'
  refine X.go T61_ok 400 _ rfl Try.results61 ?_
  conv => arg 2; cbv
  refine X.loop1 (fun i : {i : Nat // i ≤ n4 ∧ m1.take i = m2.take i} => ⟨[(2, .val (.own 0 0)), (3, .val (.own 1 0)), (142, .val (.int .i64 (.nat n4))), (143, .val (.int .i64 (.nat i.1)))], [⟨true, [.int .u8 (.v k1), .int .u64 (.v i1), .int .i64 (.v s1), .slv p1 n1 c1, .slv p2 n2 c2, .slv p3 n3 c3, .int .u64 (.v l1), .slv p4 n4 c4], none⟩, ⟨true, [.int .u8 (.v k1), .int .u64 (.v i1), .int .i64 (.v s1), .slv r1 t1 d1, .slv r2 n2 d2, .slv r3 n3 d3, .int .u64 (.v l1), .slv r4 n4 d4], none⟩]⟩) (fun i => n4 - i.1) (fun N a w' hN hf hS => ⟨⟨0, Nat.zero_le _, rfl⟩, ?_⟩) (fun i q' hq' => ?_)
  · exact At.again hf hS (by repeat first | exact trivial | refine ⟨⟨_, rfl, .inl ⟨rfl, rfl⟩⟩, ?_⟩ | refine ⟨⟨_, rfl, .inr ⟨_, rfl, rfl⟩⟩, ?_⟩ | refine ⟨⟨_, rfl, .inr ⟨_, rfl, by simp (disch := omega) [SV.den, SI.den, wrapU]⟩⟩, ?_⟩) (by repeat first | exact trivial | refine ⟨fun h => h, SubC.refl rfl, rfl, ?_⟩)
  obtain ⟨i, hi, htk⟩ := i
  refine X.go T61_ok 400 _ rfl Try.results61 ?_
  conv => arg 2; cbv
  refine X.cond rfl (fun hlt => ?_) (fun hge => ?_)
  · simp only [SB.T, SI.den] at hlt
    have hlt : i < n4 := by omega
    obtain ⟨x1, hx1⟩ : ∃ x, m1[i]? = some x := ⟨_, List.getElem?_eq_getElem (by omega)⟩
    obtain ⟨x2, hx2⟩ : ∃ x, m2[i]? = some x := ⟨_, List.getElem?_eq_getElem (by omega)⟩
    obtain ⟨b1, y1, w1, hp1, hr1, hm1⟩ := sa4.his hx1
    obtain ⟨b2, y2, w2, hp2, hr2, hm2⟩ := sb4.his hx2
    rw [← hime] at hm1 hm2
    rw [MarkP.open hr1] at hm1
    rw [MarkP.open hr2] at hm2
    obtain ⟨xa1, xb1, xc1⟩ := x1
    obtain ⟨xa2, xb2, xc2⟩ := x2
    refine X.see b1 (y1 + i * 3) [.int .u8 (.v xa1), .int .u64 (.v xb1), .int .u64 (.v xc1)] (see_of hm1 rfl) (by simp) (fun N1 hN1 hNl1 => ?_)
    refine X.see b2 (y2 + i * 3) [.int .u8 (.v xa2), .int .u64 (.v xb2), .int .u64 (.v xc2)] (see_of hm2 rfl) (by simp) (fun N2 hN2 hNl2 => ?_)
    have hg1 : (N2 ++ [(⟨b2, y2 + i * 3, 0⟩ : Num)])[3]? = some ⟨b2, y2 + i * 3, 0⟩ := num_last hNl2
    have hg0 : (N2 ++ [(⟨b2, y2 + i * 3, 0⟩ : Num)])[2]? = some ⟨b1, y1 + i * 3, 0⟩ := num_old (hN2 2 _ (num_last hNl1))
    refine X.goP ([(149, .own 2 0), (154, .own 3 0)]) T61_ok 400 _ rfl Try.results61 (fun pr fin hpr hfin => ?_)
    conv => cbv
    refine ⟨hpr _ (ValOk.row rfl rfl (fun _ => rfl) Try.underlying61 Try.sizeOf134 hlt hp2 hg1 rfl rfl), hpr _ (ValOk.row rfl rfl (fun _ => rfl) Try.underlying61 Try.sizeOf134 hlt hp1 hg0 rfl rfl), hfin _ _ ?_⟩
    refine X.cond rfl (fun hne => ?_) (fun heq => ?_)
    · simp only [SB.T, SB.F, SI.den] at hne
      refine X.go T61_ok 400 _ rfl Try.results61 ?_
      conv => arg 2; cbv
      refine X.done T61_ok rfl (fun N w' v hN hS hv => ⟨fin_bool hv ?_, hS.chg.mono fun k o _ h => inR_nil h⟩)
      rw [hq]
      refine (B_neg fun h => ?_).symm
      cases h
      rw [hx1] at hx2
      have := Option.some.inj hx2
      simp_all
    · simp only [SB.T, SB.F, SI.den] at heq
      obtain ⟨rfl, rfl, rfl⟩ := heq
      refine X.go T61_ok 400 _ rfl Try.results61 ?_
      conv => arg 2; cbv
      refine X.back (fun N a w' hN hf hS => hq' ⟨i + 1, by omega, take_next htk hx1 hx2⟩ a w' (by simp only; omega) ?_)
      exact At.again hf hS (by repeat first | exact trivial | refine ⟨⟨_, rfl, .inl ⟨rfl, rfl⟩⟩, ?_⟩ | refine ⟨⟨_, rfl, .inr ⟨_, rfl, rfl⟩⟩, ?_⟩ | refine ⟨⟨_, rfl, .inr ⟨_, rfl, by simp (disch := omega) [SV.den, SI.den, wrapU]⟩⟩, ?_⟩) (by repeat first | exact trivial | refine ⟨fun h => h, SubC.refl rfl, rfl, ?_⟩)
  simp only [SB.F, SI.den] at hge
  obtain rfl : n4 = i := by omega
  have halln4 := take_all htk hn4 ht4
  clear htk hi hge hq'
  refine X.go T61_ok 400 _ rfl Try.results61 ?_
  conv => arg 2; cbv
  refine X.done T61_ok rfl (fun N w' v hN hS hv => ⟨fin_bool hv ?_, hS.chg.mono fun k o _ h => inR_nil h⟩)
  rw [hq]
  subst halln2 halln3 halln4
  exact (B_pos rfl).symm

end Go.Proofs.Ytkjhpaeminegoaa

