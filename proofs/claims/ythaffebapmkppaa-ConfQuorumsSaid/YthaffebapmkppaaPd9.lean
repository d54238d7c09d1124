/- Rows of bytes: patterns broken. Printed by genBrk.py. -/
import Derived.Test.YthaffebapmkppaaPd8
import Derived.Test.YthaffebapmkppaaLy

namespace Go.Proofs.Ythaffebapmkppaa
open Go Go.Eng Go.Sort

theorem Chg.drewN {w : World} (k : Nat) : Chg (fun _ _ => False) w (w.drewN k) := ⟨rfl, rfl, rfl, Nat.le_refl _, Nat.le_add_right _ _, fun _ _ _ => rfl, fun _ c _ _ h => ⟨c, h, rfl, fun _ _ => rfl⟩⟩

theorem npow_ok (n : Nat) (hn : n < 4611686018427387904) (w : World) : Calls Try.prog 97 #[.int .i64 n] w fun e w' => e = .returned (.int .u64 ((1 <<< bitsLen n : Nat) : Int)) ∧ w' = w :=
  AnyF.nextPowerOfTwo Try.npowL n hn w

theorem next_ok (rb ro X : Nat) (hX : X < 18446744073709551616) (w : World) (hc : w.cell? ⟨rb, ro, none⟩ = some (.int .u64 X)) (hf : w.frozen? ⟨rb, ro, none⟩ = false) :
    Calls Try.prog 98 #[.pointer (some ⟨rb, ro, none⟩)] w fun e w' => ∃ r : Nat, r < 18446744073709551616 ∧ e = .returned (.int .u64 r) ∧ w'.cell? ⟨rb, ro, none⟩ = some (.int .u64 r) ∧ Chg (fun k i => k = rb ∧ ro ≤ i ∧ i < ro + 1) w w' := by
  refine Calls.mono (AnyF.xorshift_Next Try.xorL rb ro X hX w hc hf) fun e w' ⟨h1, h2⟩ => ⟨xorNextN X, ?_, h1, ?_, ?_⟩
  · exact xorNextN_lt X hX
  · rw [h2]; exact World.cell?_setCell_same _ _ _ hc
  · rw [h2]; exact ((Chg.refl _ w).setCell (.inr ⟨rfl, Nat.le_refl _, by omega⟩) _).trans ((Chg.drewN 3).mono (fun _ _ _ h => h.elim)) (fun _ _ _ h => h)

theorem wrapM (z : Int) (h : 0 ≤ z) (h2 : z < 18446744073709551616) : IntKind.u64.wrap z = z := by
  simp [IntKind.wrap, IntKind.bits, IntKind.signed]; omega

theorem and_small (x : Int) (m : Nat) (hm : m < 4611686018427387904) : ∃ o : Nat, o ≤ m ∧ bitsI .and .u64 x (m : Int) = (o : Int) := by
  refine ⟨(BitVec.ofInt 64 x &&& BitVec.ofInt 64 (m : Int)).toNat, ?_, ?_⟩
  · rw [BitVec.toNat_and]
    refine Nat.le_trans Nat.and_le_right ?_
    simp [BitVec.ofInt, BitVec.toNat_ofNat]
    omega
  · have h : (BitVec.ofInt 64 x &&& BitVec.ofInt 64 (m : Int)).toNat < 18446744073709551616 := (BitVec.ofInt 64 x &&& BitVec.ofInt 64 (m : Int)).isLt
    show IntKind.u64.wrap ((BitVec.ofInt 64 x &&& BitVec.ofInt 64 (m : Int)).toNat : Int) = _
    exact wrapM _ (Int.natCast_nonneg _) (by omega)

set_option maxHeartbeats 8000000 in
set_option maxRecDepth 100000 in
set_option cbv.maxSteps 100000000 in
theorem brk8_ok (b y n c a e : Nat) (d : Array Int) (w : World) (hA : AtA w b y d) (hn : d.size = n) (hae : a ≤ e) (hen : e ≤ n) (hbig : n < 2305843009213693952) :
    Calls Try.prog 76 #[.slice (some ⟨b, y, none⟩) n c, .int .i64 a, .int .i64 e] w fun en w' => ∃ d', PermIn a e d d' ∧ PostA b y n w d' en w' := by
  obtain ⟨p, hp⟩ : ∃ p, p = some (Addr.mk b y none) := ⟨_, rfl⟩
  obtain ⟨l, hl⟩ : ∃ l, l = e - a := ⟨_, rfl⟩
  rw [← hp]
  have sd := hn
  refine X.beginA hA hn (ss := [.slv p n c, .int .i64 (.nat a), .int .i64 (.nat e)]) Try.func76 rfl B76_ok rfl rfl ?_
  refine X.go T76_ok 400 _ rfl Try.results76 ?_
  conv => arg 2; cbv
  refine X.reval 6 (.int .i64 (.nat l)) rfl (fun N _ v hv => by rw [← hv]; simp (disch := omega) only [SV.den, SI.den, wrapN, Int.tdiv_eq_ediv_of_nonneg, Option.some.injEq, Value.int.injEq, true_and] <;> omega) ?_
  refine X.cond rfl (fun h8 => ?_) (fun h8 => ?_)
  · simp (disch := omega) only [SB.T, SI.den, wrapN] at h8
    refine X.go T76_ok 400 _ rfl Try.results76 ?_
    conv => arg 2; cbv
    refine X.call rfl rfl rfl rfl Try.call97 (fun N w1 args hN hS ha => ?_)
    have ha : args = [.int .i64 l] := (Option.some.inj ha).symm
    rw [ha]
    obtain ⟨M, hM⟩ : ∃ M, M = 1 <<< bitsLen l := ⟨_, rfl⟩
    have hM1 : 1 ≤ M := by rw [hM, Nat.one_shiftLeft]; exact Nat.one_le_two_pow
    have hM2 : M ≤ 2 * l := by rw [hM, Nat.one_shiftLeft]; exact two_pow_bitsLen_le (by omega)
    have key := npow_ok l (by omega) w1
    rw [← hM] at key
    refine Calls.mono key fun en w' ⟨he, hw⟩ => ⟨_, he, ?_⟩
    subst hw
    refine Goes.same hN hS (Chg.refl _ _) (r := .int .u64 (.nat M)) rfl rfl ?_
    refine X.recell1 0 0 (.int .u64 (.nat l)) rfl rfl (fun N _ v hv => by rw [← hv]; simp (disch := omega) only [SV.den, SI.den, wrapN, wrapM]) ?_
    clear hM key
    refine X.go T76_ok 400 _ rfl Try.results76 ?_
    conv => arg 2; cbv
    refine X.loop (fun g : {g : (Nat × Nat) × Array Int // g.2.size = n ∧ (a + l / 4 * 2 - 1 ≤ g.1.1 ∧ g.1.1 ≤ a + l / 4 * 2 + 2 ∧ g.1.2 < 18446744073709551616) ∧ PermIn a e d g.2} => aE Try.prog Try.f76 _ w b y n (wm w) g.1.2 [] B76) (fun g => ⟨[(0, .val (.slv p n c)), (1, .val (.int .i64 (.nat a))), (6, .val (.int .i64 (.nat l))), (7, .val (.own 0 0)), (8, .val (.int .u64 (.nat M))), (9, .val (.int .i64 (.nat g.1.1.1)))], [⟨true, [.int .u64 (.nat g.1.1.2)], none⟩]⟩) (fun g => a + l / 4 * 2 + 2 - g.1.1.1) (fun _ => ⟨rfl, rfl, rfl, rfl⟩) (fun N ac w' hN hf hS => ⟨⟨((a + l / 4 * 2 - 1, l), d), hn, by simp only; omega, permIn_refl d a e⟩, ?_⟩) (fun g q hq => ?_)
    · refine At.again hf hS (by repeat first | exact trivial | refine ⟨⟨_, rfl, .inl ⟨rfl, rfl⟩⟩, ?_⟩ | refine ⟨⟨_, rfl, .inr ⟨_, rfl, rfl⟩⟩, ?_⟩ | refine ⟨⟨_, rfl, .inr ⟨_, rfl, (by simp (disch := omega) only [SV.den, SI.den, wrapN, Int.tdiv_eq_ediv_of_nonneg, Option.some.injEq, Value.int.injEq, true_and]; omega)⟩⟩, ?_⟩) (by repeat first | exact trivial | refine ⟨fun h => h, SubC.refl rfl, rfl, ?_⟩)
    obtain ⟨⟨⟨i, r⟩, d1⟩, sd1, ⟨hi1, hi2, hr⟩, hP1⟩ := g
    simp only at sd1 hi1 hi2 hr hP1
    show X (aE Try.prog Try.f76 _ w b y n (wm w) d1 [] B76) _ ⟨[(0, .val (.slv p n c)), (1, .val (.int .i64 (.nat a))), (6, .val (.int .i64 (.nat l))), (7, .val (.own 0 0)), (8, .val (.int .u64 (.nat M))), (9, .val (.int .i64 (.nat i)))], [⟨true, [.int .u64 (.nat r)], none⟩]⟩
    refine X.namesP (fun N => ∃ pn : Num, N[0]? = some pn ∧ 1 ≤ pn.x) (fun N w1 _ hS => ?_) (fun N1 _ hNl hP => ?_)
    · obtain ⟨pn, hpn⟩ : ∃ pn, N[0]? = some pn := ⟨_, List.getElem?_eq_getElem (by rw [hS.len]; simp)⟩
      exact ⟨pn, hpn, hS.ext 0 _ pn rfl hpn rfl⟩
    obtain ⟨pn, hpA, hx1⟩ := hP
    refine X.go T76_ok 400 _ rfl Try.results76 ?_
    conv => arg 2; cbv
    refine X.cond rfl (fun hle => ?_) (fun hgt => ?_)
    · simp (disch := omega) only [SB.T, SI.den, wrapN, Int.tdiv_eq_ediv_of_nonneg] at hle
      refine X.go T76_ok 400 _ rfl Try.results76 ?_
      conv => arg 2; cbv
      refine X.call rfl rfl rfl rfl Try.call98 (fun N w1 args hN hS ha => ?_)
      have hp0 : N[0]? = some pn := hN 0 _ hpA
      have cell0 : w1.cell? ⟨pn.b, pn.o, none⟩ = some (.int .u64 r) := by
        obtain ⟨v0, k1, k2⟩ := hS.cell 0 _ _ rfl hp0 0 _ rfl
        simp only [SV.den, SI.den, Option.some.injEq] at k1
        subst k1
        exact k2
      have hz1 : w1.frozen? ⟨pn.b, pn.o, none⟩ = false := (hS.room 0 _ _ rfl hp0 rfl 0 hx1).2
      simp only [SV.denL, SV.den, hp0, SI.den, Option.some.injEq] at ha
      subst ha
      refine Calls.mono (next_ok pn.b pn.o r hr w1 cell0 hz1) fun en w' ⟨r', hr', he, hcell, hc'⟩ => ⟨_, he, Goes.cells (r := 0) hN hS rfl hp0 rfl (hc'.mono fun k o _ ⟨e1, e2, e3⟩ => ⟨e1, e2, by omega⟩) [.int .u64 (.nat r')] hx1 (fun q c hq => by cases q with
        | zero => simp at hq; subst hq; exact ⟨_, rfl, hcell⟩
        | succ q => simp at hq) (rv := .int .u64 (.nat r')) rfl rfl ?_⟩
      refine X.go T76_ok 400 _ rfl Try.results76 ?_
      conv => arg 2; cbv
      obtain ⟨o, ho1, ho2⟩ := and_small (r' : Int) (M - 1) (by omega)
      refine X.reval 10 (.int .i64 (.nat o)) rfl (fun N _ v hv => by rw [← hv]; simp (disch := omega) only [SV.den, SI.den, wrapM, show (M : Int) - 1 = ((M - 1 : Nat) : Int) by omega, ho2, wrapN]) ?_
      refine X.cond rfl (fun hol => ?_) (fun hol => ?_)
      · simp (disch := omega) only [SB.T, SI.den, wrapM, show (M : Int) - 1 = ((M - 1 : Nat) : Int) by omega, ho2, wrapN] at hol
        obtain ⟨o2, ho3⟩ : ∃ k, k = o - l := ⟨_, rfl⟩
        refine X.go T76_ok 5 _ rfl Try.results76 ?_
        conv => arg 2; cbv
        refine X.reval 10 (.int .i64 (.nat o2)) rfl (fun N _ v hv => by rw [← hv]; simp (disch := omega) only [SV.den, SI.den, wrapN, Int.tdiv_eq_ediv_of_nonneg, Option.some.injEq, Value.int.injEq, true_and] <;> omega) ?_
        obtain ⟨xi, hxi⟩ : ∃ x, d1[i]! = x := ⟨_, rfl⟩
        obtain ⟨xj, hxj⟩ : ∃ x, d1[a + o2]! = x := ⟨_, rfl⟩
        have hps : PermIn a e d1 (swp d1 i (a + o2)) := swp_permIn d1 a e i (a + o2) (by omega) (by omega) (by omega) (by omega) (by omega)
        by_cases hij : i = a + o2
        · refine X.take1 hA hn sd1 (i := i) (by omega) hxi (by simp) (fun N2 hN2 hl2 => ?_)
          have g0 : (N2 ++ [⟨b, y + i, 1⟩] : Nums)[1]? = some ⟨b, y + i, 1⟩ := num_last hl2
          refine X.goP ([(57, .own 1 0), (61, .own 1 0), (63, .own 1 0), (64, .own 1 0)]) T76_ok 400 _ rfl Try.results76 (fun pr fin hpr hfin => ?_)
          conv => cbv
          refine ⟨hpr _ (ValOk.row (z := i) rfl rfl (fun _ => by first | rfl | (simp (disch := omega) only [SB.den, SI.den, wrapN] <;> omega)) Try.underlying22 Try.sizeOf5 (by omega) hp g0 rfl (by simp)), hpr _ (ValOk.row (z := i) rfl rfl (fun _ => by first | rfl | (simp (disch := omega) only [SB.den, SI.den, wrapN] <;> omega)) Try.underlying22 Try.sizeOf5 (by omega) hp g0 rfl (by simp)), hpr _ (ValOk.row (z := i) rfl rfl (fun _ => by first | rfl | (simp (disch := omega) only [SB.den, SI.den, wrapN] <;> omega)) Try.underlying22 Try.sizeOf5 (by omega) hp g0 rfl (by simp)), hpr _ (ValOk.row (z := i) rfl rfl (fun _ => by first | rfl | (simp (disch := omega) only [SB.den, SI.den, wrapN] <;> omega)) Try.underlying22 Try.sizeOf5 (by omega) hp g0 rfl (by simp)), hfin _ _ ?_⟩
          refine X.give1 (i := i) (r := 1) sd1 (by omega) hxi rfl g0 ?_
          refine X.back (fun N ac w' hN hf hS => hq ⟨((i + 1, r'), swp d1 i (a + o2)), by rw [swpZ_size]; exact sd1, by simp only; omega, permIn_trans _ _ _ a e hP1 hps⟩ ac w' (by simp only; omega) ?_)
          show At (aE Try.prog Try.f76 _ w b y n (wm w) (swp d1 i (a + o2)) [] B76) ⟨[(0, .val (.slv p n c)), (1, .val (.int .i64 (.nat a))), (6, .val (.int .i64 (.nat l))), (7, .val (.own 0 0)), (8, .val (.int .u64 (.nat M))), (9, .val (.int .i64 (.nat (i + 1))))], [⟨true, [.int .u64 (.nat r')], none⟩]⟩ ac w'
          rw [← hij, swpZ_self (by omega)]
          exact At.again hf hS (by repeat first | exact trivial | refine ⟨⟨_, rfl, .inl ⟨rfl, rfl⟩⟩, ?_⟩ | refine ⟨⟨_, rfl, .inr ⟨_, rfl, rfl⟩⟩, ?_⟩ | refine ⟨⟨_, rfl, .inr ⟨_, rfl, (by first | (simp (disch := omega) only [SV.den, SI.den, wrapN, Option.some.injEq, Value.int.injEq, true_and]; done) | (simp (disch := omega) only [SV.den, SI.den, wrapN, Option.some.injEq, Value.int.injEq, true_and]; omega))⟩⟩, ?_⟩) (by repeat first | exact trivial | refine ⟨fun h => h, SubC.refl rfl, rfl, ?_⟩)
        · refine X.take2 hA hn sd1 (i := i) (j := a + o2) hij (by omega) (by omega) hxi hxj (by simp) (fun N2 hN2 hl2 => ?_)
          have g0 : ((N2 ++ [⟨b, y + i, 1⟩]) ++ [⟨b, y + (a + o2), 1⟩] : Nums)[1]? = some ⟨b, y + i, 1⟩ := num_old (num_last hl2)
          have g1 : ((N2 ++ [⟨b, y + i, 1⟩]) ++ [⟨b, y + (a + o2), 1⟩] : Nums)[2]? = some ⟨b, y + (a + o2), 1⟩ := num_last (by simp [hl2])
          refine X.goP ([(57, .own 2 0), (61, .own 1 0), (63, .own 1 0), (64, .own 2 0)]) T76_ok 400 _ rfl Try.results76 (fun pr fin hpr hfin => ?_)
          conv => cbv
          refine ⟨hpr _ (ValOk.row (z := a+o2) rfl rfl (fun _ => by first | rfl | (simp (disch := omega) only [SB.den, SI.den, wrapN] <;> omega)) Try.underlying22 Try.sizeOf5 (by omega) hp g1 rfl (by simp)), hpr _ (ValOk.row (z := i) rfl rfl (fun _ => by first | rfl | (simp (disch := omega) only [SB.den, SI.den, wrapN] <;> omega)) Try.underlying22 Try.sizeOf5 (by omega) hp g0 rfl (by simp)), hpr _ (ValOk.row (z := i) rfl rfl (fun _ => by first | rfl | (simp (disch := omega) only [SB.den, SI.den, wrapN] <;> omega)) Try.underlying22 Try.sizeOf5 (by omega) hp g0 rfl (by simp)), hpr _ (ValOk.row (z := a+o2) rfl rfl (fun _ => by first | rfl | (simp (disch := omega) only [SB.den, SI.den, wrapN] <;> omega)) Try.underlying22 Try.sizeOf5 (by omega) hp g1 rfl (by simp)), hfin _ _ ?_⟩
          refine X.give2 (i := i) (j := a + o2) (r := 1) sd1 hij (by omega) (by omega) hxi hxj rfl rfl g0 g1 ?_
          refine X.back (fun N ac w' hN hf hS => hq ⟨((i + 1, r'), swp d1 i (a + o2)), by rw [swpZ_size]; exact sd1, by simp only; omega, permIn_trans _ _ _ a e hP1 hps⟩ ac w' (by simp only; omega) ?_)
          show At (aE Try.prog Try.f76 _ w b y n (wm w) (swp d1 i (a + o2)) [] B76) ⟨[(0, .val (.slv p n c)), (1, .val (.int .i64 (.nat a))), (6, .val (.int .i64 (.nat l))), (7, .val (.own 0 0)), (8, .val (.int .u64 (.nat M))), (9, .val (.int .i64 (.nat (i + 1))))], [⟨true, [.int .u64 (.nat r')], none⟩]⟩ ac w'
          exact At.again hf hS (by repeat first | exact trivial | refine ⟨⟨_, rfl, .inl ⟨rfl, rfl⟩⟩, ?_⟩ | refine ⟨⟨_, rfl, .inr ⟨_, rfl, rfl⟩⟩, ?_⟩ | refine ⟨⟨_, rfl, .inr ⟨_, rfl, (by first | (simp (disch := omega) only [SV.den, SI.den, wrapN, Option.some.injEq, Value.int.injEq, true_and]; done) | (simp (disch := omega) only [SV.den, SI.den, wrapN, Option.some.injEq, Value.int.injEq, true_and]; omega))⟩⟩, ?_⟩) (by repeat first | exact trivial | refine ⟨fun h => h, SubC.refl rfl, rfl, ?_⟩)
      · simp (disch := omega) only [SB.F, SI.den, wrapM, show (M : Int) - 1 = ((M - 1 : Nat) : Int) by omega, ho2, wrapN] at hol
        obtain ⟨xi, hxi⟩ : ∃ x, d1[i]! = x := ⟨_, rfl⟩
        obtain ⟨xj, hxj⟩ : ∃ x, d1[a + o]! = x := ⟨_, rfl⟩
        have hps : PermIn a e d1 (swp d1 i (a + o)) := swp_permIn d1 a e i (a + o) (by omega) (by omega) (by omega) (by omega) (by omega)
        by_cases hij : i = a + o
        · refine X.take1 hA hn sd1 (i := i) (by omega) hxi (by simp) (fun N2 hN2 hl2 => ?_)
          have g0 : (N2 ++ [⟨b, y + i, 1⟩] : Nums)[1]? = some ⟨b, y + i, 1⟩ := num_last hl2
          refine X.goP ([(57, .own 1 0), (61, .own 1 0), (63, .own 1 0), (64, .own 1 0)]) T76_ok 400 _ rfl Try.results76 (fun pr fin hpr hfin => ?_)
          conv => cbv
          refine ⟨hpr _ (ValOk.row (z := i) rfl rfl (fun _ => by first | rfl | (simp (disch := omega) only [SB.den, SI.den, wrapN] <;> omega)) Try.underlying22 Try.sizeOf5 (by omega) hp g0 rfl (by simp)), hpr _ (ValOk.row (z := i) rfl rfl (fun _ => by first | rfl | (simp (disch := omega) only [SB.den, SI.den, wrapN] <;> omega)) Try.underlying22 Try.sizeOf5 (by omega) hp g0 rfl (by simp)), hpr _ (ValOk.row (z := i) rfl rfl (fun _ => by first | rfl | (simp (disch := omega) only [SB.den, SI.den, wrapN] <;> omega)) Try.underlying22 Try.sizeOf5 (by omega) hp g0 rfl (by simp)), hpr _ (ValOk.row (z := i) rfl rfl (fun _ => by first | rfl | (simp (disch := omega) only [SB.den, SI.den, wrapN] <;> omega)) Try.underlying22 Try.sizeOf5 (by omega) hp g0 rfl (by simp)), hfin _ _ ?_⟩
          refine X.give1 (i := i) (r := 1) sd1 (by omega) hxi rfl g0 ?_
          refine X.back (fun N ac w' hN hf hS => hq ⟨((i + 1, r'), swp d1 i (a + o)), by rw [swpZ_size]; exact sd1, by simp only; omega, permIn_trans _ _ _ a e hP1 hps⟩ ac w' (by simp only; omega) ?_)
          show At (aE Try.prog Try.f76 _ w b y n (wm w) (swp d1 i (a + o)) [] B76) ⟨[(0, .val (.slv p n c)), (1, .val (.int .i64 (.nat a))), (6, .val (.int .i64 (.nat l))), (7, .val (.own 0 0)), (8, .val (.int .u64 (.nat M))), (9, .val (.int .i64 (.nat (i + 1))))], [⟨true, [.int .u64 (.nat r')], none⟩]⟩ ac w'
          rw [← hij, swpZ_self (by omega)]
          exact At.again hf hS (by repeat first | exact trivial | refine ⟨⟨_, rfl, .inl ⟨rfl, rfl⟩⟩, ?_⟩ | refine ⟨⟨_, rfl, .inr ⟨_, rfl, rfl⟩⟩, ?_⟩ | refine ⟨⟨_, rfl, .inr ⟨_, rfl, (by first | (simp (disch := omega) only [SV.den, SI.den, wrapN, Option.some.injEq, Value.int.injEq, true_and]; done) | (simp (disch := omega) only [SV.den, SI.den, wrapN, Option.some.injEq, Value.int.injEq, true_and]; omega))⟩⟩, ?_⟩) (by repeat first | exact trivial | refine ⟨fun h => h, SubC.refl rfl, rfl, ?_⟩)
        · refine X.take2 hA hn sd1 (i := i) (j := a + o) hij (by omega) (by omega) hxi hxj (by simp) (fun N2 hN2 hl2 => ?_)
          have g0 : ((N2 ++ [⟨b, y + i, 1⟩]) ++ [⟨b, y + (a + o), 1⟩] : Nums)[1]? = some ⟨b, y + i, 1⟩ := num_old (num_last hl2)
          have g1 : ((N2 ++ [⟨b, y + i, 1⟩]) ++ [⟨b, y + (a + o), 1⟩] : Nums)[2]? = some ⟨b, y + (a + o), 1⟩ := num_last (by simp [hl2])
          refine X.goP ([(57, .own 2 0), (61, .own 1 0), (63, .own 1 0), (64, .own 2 0)]) T76_ok 400 _ rfl Try.results76 (fun pr fin hpr hfin => ?_)
          conv => cbv
          refine ⟨hpr _ (ValOk.row (z := a+o) rfl rfl (fun _ => by first | rfl | (simp (disch := omega) only [SB.den, SI.den, wrapN] <;> omega)) Try.underlying22 Try.sizeOf5 (by omega) hp g1 rfl (by simp)), hpr _ (ValOk.row (z := i) rfl rfl (fun _ => by first | rfl | (simp (disch := omega) only [SB.den, SI.den, wrapN] <;> omega)) Try.underlying22 Try.sizeOf5 (by omega) hp g0 rfl (by simp)), hpr _ (ValOk.row (z := i) rfl rfl (fun _ => by first | rfl | (simp (disch := omega) only [SB.den, SI.den, wrapN] <;> omega)) Try.underlying22 Try.sizeOf5 (by omega) hp g0 rfl (by simp)), hpr _ (ValOk.row (z := a+o) rfl rfl (fun _ => by first | rfl | (simp (disch := omega) only [SB.den, SI.den, wrapN] <;> omega)) Try.underlying22 Try.sizeOf5 (by omega) hp g1 rfl (by simp)), hfin _ _ ?_⟩
          refine X.give2 (i := i) (j := a + o) (r := 1) sd1 hij (by omega) (by omega) hxi hxj rfl rfl g0 g1 ?_
          refine X.back (fun N ac w' hN hf hS => hq ⟨((i + 1, r'), swp d1 i (a + o)), by rw [swpZ_size]; exact sd1, by simp only; omega, permIn_trans _ _ _ a e hP1 hps⟩ ac w' (by simp only; omega) ?_)
          show At (aE Try.prog Try.f76 _ w b y n (wm w) (swp d1 i (a + o)) [] B76) ⟨[(0, .val (.slv p n c)), (1, .val (.int .i64 (.nat a))), (6, .val (.int .i64 (.nat l))), (7, .val (.own 0 0)), (8, .val (.int .u64 (.nat M))), (9, .val (.int .i64 (.nat (i + 1))))], [⟨true, [.int .u64 (.nat r')], none⟩]⟩ ac w'
          exact At.again hf hS (by repeat first | exact trivial | refine ⟨⟨_, rfl, .inl ⟨rfl, rfl⟩⟩, ?_⟩ | refine ⟨⟨_, rfl, .inr ⟨_, rfl, rfl⟩⟩, ?_⟩ | refine ⟨⟨_, rfl, .inr ⟨_, rfl, (by first | (simp (disch := omega) only [SV.den, SI.den, wrapN, Option.some.injEq, Value.int.injEq, true_and]; done) | (simp (disch := omega) only [SV.den, SI.den, wrapN, Option.some.injEq, Value.int.injEq, true_and]; omega))⟩⟩, ?_⟩) (by repeat first | exact trivial | refine ⟨fun h => h, SubC.refl rfl, rfl, ?_⟩)
    · refine X.go T76_ok 400 _ rfl Try.results76 ?_
      conv => arg 2; cbv
      refine X.over T76_ok rfl (fun N w' v hN hS hv => ⟨d1, hP1, ?_, ?_⟩)
      · simp only [resV, SV.den, SV.denL, Option.some.injEq] at hv
        rw [← hv]
      · exact Sat.arr hS hA hn sd1
  · refine X.go T76_ok 400 _ rfl Try.results76 ?_
    conv => arg 2; cbv
    refine X.over T76_ok rfl (fun N w' v hN hS hv => ⟨d, permIn_refl d a e, ?_, ?_⟩)
    · simp only [resV, SV.den, SV.denL, Option.some.injEq] at hv
      rw [← hv]
    · exact Sat.arr hS hA hn hn

end Go.Proofs.Ythaffebapmkppaa
