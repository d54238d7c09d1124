/- Rows of bytes: a few insertions. Printed by genPI.py. -/
import Derived.Test.YthaffebapmkppaaPd7

namespace Go.Proofs.Ythaffebapmkppaa
open Go Go.Eng Go.Sort

theorem shiftDown_size : ∀ (j : Nat) (d : Array Int), (shiftDown ltInt j d).size = d.size
  | 0, d => rfl
  | j + 1, d => by rw [shiftDown]; split; rfl; rw [shiftDown_size j, swpZ_size]
theorem shiftUp_size (e : Nat) : ∀ (k j : Nat) (d : Array Int), e - j ≤ k → (shiftUp ltInt e j d).size = d.size
  | 0, j, d, h => by rw [shiftUp, if_neg (by omega)]
  | k + 1, j, d, h => by
    rw [shiftUp]
    split
    · split
      · rfl
      · rw [shiftUp_size e k _ _ (by omega), swpZ_size]
    · rfl

set_option maxHeartbeats 8000000 in
set_option maxRecDepth 100000 in
set_option cbv.maxSteps 100000000 in
theorem partIns8_ok (b y n c a e : Nat) (d : Array Int) (w : World) (hA : AtA w b y d) (hn : d.size = n) (hae : a < e) (hen : e ≤ n) (hbig : n < 4611686018427387904) :
    Calls Try.prog 79 #[.slice (some ⟨b, y, none⟩) n c, .int .i64 a, .int .i64 e] w fun en w' => en = .returned (.bool (partialInsertionSort ltInt d a e).2) ∧ AtA w' b y (partialInsertionSort ltInt d a e).1 ∧ Chg (arrD b y n) w w' := by
  obtain ⟨R, hR⟩ : ∃ R, R = partialInsertionSort ltInt d a e := ⟨_, rfl⟩
  rw [← hR]
  obtain ⟨p, hp⟩ : ∃ p, p = some (Addr.mk b y none) := ⟨_, rfl⟩
  rw [← hp]
  unfold partialInsertionSort at hR
  have sd := hn
  refine X.beginA hA hn (ss := [.slv p n c, .int .i64 (.nat a), .int .i64 (.nat e)]) Try.func79 rfl B79_ok rfl rfl ?_
  refine X.go T79_ok 400 _ rfl Try.results79 ?_
  conv => arg 2; cbv
  refine X.loop (fun g : {g : (Nat × Nat) × Array Int // g.2.size = n ∧ (a + 1 ≤ g.1.2 ∧ g.1.2 ≤ e ∧ g.1.1 ≤ 5) ∧ partialIns ltInt a e (5 - g.1.1) g.1.2 g.2 = R} => aE Try.prog Try.f79 _ w b y n (wm w) g.1.2 [] B79) (fun g => ⟨[(0, .val (.slv p n c)), (1, .val (.int .i64 (.nat a))), (2, .val (.int .i64 (.nat e))), (7, .val (.int .i64 (.nat g.1.1.2))), (8, .val (.int .i64 (.nat g.1.1.1)))], []⟩) (fun g => 5 - g.1.1.1) (fun _ => ⟨rfl, rfl, rfl, rfl⟩) (fun N ac w' hN hf hS => ⟨⟨((0, a + 1), d), hn, by simp only; omega, hR.symm⟩, ?_⟩) (fun g qm hqm => ?_)
  · exact At.again hf hS (by repeat first | exact trivial | refine ⟨⟨_, rfl, .inl ⟨rfl, rfl⟩⟩, ?_⟩ | refine ⟨⟨_, rfl, .inr ⟨_, rfl, rfl⟩⟩, ?_⟩ | refine ⟨⟨_, rfl, .inr ⟨_, rfl, (by first | (simp (disch := omega) only [SV.den, SI.den, wrapN, Option.some.injEq, Value.int.injEq, true_and]; done) | (simp (disch := omega) only [SV.den, SI.den, wrapN, Option.some.injEq, Value.int.injEq, true_and]; omega))⟩⟩, ?_⟩) trivial
  obtain ⟨⟨⟨cnt, i⟩, d1⟩, sd1, ⟨hg1, hg2, hg3⟩, hFi⟩ := g
  simp only at sd1 hg1 hg2 hg3 hFi
  show X (aE Try.prog Try.f79 _ w b y n (wm w) d1 [] B79) _ ⟨[(0, .val (.slv p n c)), (1, .val (.int .i64 (.nat a))), (2, .val (.int .i64 (.nat e))), (7, .val (.int .i64 (.nat i))), (8, .val (.int .i64 (.nat cnt)))], []⟩
  refine X.go T79_ok 400 _ rfl Try.results79 ?_
  conv => arg 2; cbv
  refine X.cond rfl (fun hc5 => ?_) (fun hc5 => ?_)
  · simp only [SB.T, SI.den] at hc5
    rw [show 5 - cnt = (4 - cnt) + 1 by omega, partialIns] at hFi
    refine X.go T79_ok 400 _ rfl Try.results79 ?_
    conv => arg 2; cbv
    obtain ⟨i20, hi2⟩ : ∃ k, k = scanSorted ltInt d1 e i := ⟨_, rfl⟩
    simp only [← hi2] at hFi
    refine X.loop (fun _ => aE Try.prog Try.f79 _ w b y n (wm w) d1 [] B79) (fun g : {g : Nat // i ≤ g ∧ g ≤ e ∧ scanSorted ltInt d1 e g = i20} => ⟨[(0, .val (.slv p n c)), (1, .val (.int .i64 (.nat a))), (2, .val (.int .i64 (.nat e))), (7, .val (.int .i64 (.nat g.1))), (8, .val (.int .i64 (.nat cnt)))], []⟩) (fun g => e - g.1) (fun _ => ⟨rfl, rfl, rfl, rfl⟩) (fun N ac w' hN hf hS => ⟨⟨i, by omega, by omega, hi2.symm⟩, ?_⟩) (fun g q hq => ?_)
    · exact At.again hf hS (by repeat first | exact trivial | refine ⟨⟨_, rfl, .inl ⟨rfl, rfl⟩⟩, ?_⟩ | refine ⟨⟨_, rfl, .inr ⟨_, rfl, rfl⟩⟩, ?_⟩ | refine ⟨⟨_, rfl, .inr ⟨_, rfl, (by first | (simp (disch := omega) only [SV.den, SI.den, wrapN, Option.some.injEq, Value.int.injEq, true_and]; done) | (simp (disch := omega) only [SV.den, SI.den, wrapN, Option.some.injEq, Value.int.injEq, true_and]; omega))⟩⟩, ?_⟩) trivial
    obtain ⟨i2, hu1, hu2, hu3⟩ := g
    obtain ⟨m, hm⟩ : ∃ m, m = i2 - 1 := ⟨_, rfl⟩
    obtain ⟨xu, hxu⟩ : ∃ x, d1[i2]! = x := ⟨_, rfl⟩
    obtain ⟨xm, hxm⟩ : ∃ x, d1[m]! = x := ⟨_, rfl⟩
    obtain ⟨t, ht⟩ : ∃ t, t = ltInt xu xm := ⟨_, rfl⟩
    obtain ⟨ou, hou⟩ : ∃ o, o = y + i2 := ⟨_, rfl⟩
    obtain ⟨om, hom⟩ : ∃ o, o = y + m := ⟨_, rfl⟩
    show X (aE Try.prog Try.f79 _ w b y n (wm w) d1 [] B79) _ ⟨[(0, .val (.slv p n c)), (1, .val (.int .i64 (.nat a))), (2, .val (.int .i64 (.nat e))), (7, .val (.int .i64 (.nat i2))), (8, .val (.int .i64 (.nat cnt)))], []⟩
    refine X.goP ([(23, .ext b ou 0), (24, .int .u8 (.v xu)), (28, .ext b om 0), (29, .int .u8 (.v xm)), (30, .bool (.v t))]) T79_ok 400 _ rfl Try.results79 (fun pr fin hpr hfin => ?_)
    conv => cbv
    refine ⟨hpr _ (less_call rfl ht), hpr _ (ValOk.im1 rfl Try.isAgg5 (fun _ => rfl) fun hT => (by have hT : _ = true := hT; simp [SB.den, SI.den] at hT; (try replace hT := of_decide_eq_true hT); (try simp (disch := omega) only [SI.den, wrapN] at hT); rw [← hxm, hom]; exact arrM_in (by omega))), hpr _ (ValOk.im1 rfl Try.isAgg5 (fun _ => rfl) fun hT => (by have hT : _ = true := hT; simp [SB.den, SI.den] at hT; (try replace hT := of_decide_eq_true hT); (try simp (disch := omega) only [SI.den, wrapN] at hT); rw [← hxu, hou]; exact arrM_in (by omega))), hpr _ (ValOk.at (z := m) rfl rfl (fun hT => by have hT : _ = true := hT; simp [SB.den, SI.den] at hT; (try replace hT := of_decide_eq_true hT); (try simp (disch := omega) only [SI.den, wrapN] at hT); first | omega | (simp (disch := omega) only [SI.den, wrapN] <;> omega)) Try.underlying22 Try.sizeOf5 (fun hT => by have hT : _ = true := hT; simp [SB.den, SI.den] at hT; (try replace hT := of_decide_eq_true hT); (try simp (disch := omega) only [SI.den, wrapN] at hT); first | omega | (simp (disch := omega) only [SI.den, wrapN] <;> omega)) hp (by omega)), hpr _ (ValOk.at (z := i2) rfl rfl (fun hT => by have hT : _ = true := hT; simp [SB.den, SI.den] at hT; (try replace hT := of_decide_eq_true hT); (try simp (disch := omega) only [SI.den, wrapN] at hT); first | omega | (simp (disch := omega) only [SI.den, wrapN] <;> omega)) Try.underlying22 Try.sizeOf5 (fun hT => by have hT : _ = true := hT; simp [SB.den, SI.den] at hT; (try replace hT := of_decide_eq_true hT); (try simp (disch := omega) only [SI.den, wrapN] at hT); first | omega | (simp (disch := omega) only [SI.den, wrapN] <;> omega)) hp (by omega)), hfin _ _ ?_⟩
    refine X.cond rfl (fun hc => ?_) (fun hc => ?_)
    · simp only [SB.T, SB.F, SI.den] at hc
      obtain ⟨hc1, hc2⟩ := hc
      refine X.go T79_ok 400 _ rfl Try.results79 ?_
      conv => arg 2; cbv
      refine X.back (fun N ac w' hN hf hS => hq ⟨i2 + 1, by omega, by omega, ?_⟩ ac w' (by simp only; omega) ?_)
      · rw [← hu3]; conv => rhs; rw [scanSorted, if_pos (by rw [← hm, hxu, hxm, ← ht, hc2]; simp; omega)]
      · exact At.again hf hS (by repeat first | exact trivial | refine ⟨⟨_, rfl, .inl ⟨rfl, rfl⟩⟩, ?_⟩ | refine ⟨⟨_, rfl, .inr ⟨_, rfl, rfl⟩⟩, ?_⟩ | refine ⟨⟨_, rfl, .inr ⟨_, rfl, (by first | (simp (disch := omega) only [SV.den, SI.den, wrapN, Option.some.injEq, Value.int.injEq, true_and]; done) | (simp (disch := omega) only [SV.den, SI.den, wrapN, Option.some.injEq, Value.int.injEq, true_and]; omega))⟩⟩, ?_⟩) trivial
    simp only [SB.T, SB.F, SI.den] at hc
    rw [scanSorted, if_neg (by rw [← hm, hxu, hxm, ← ht]; rcases hc with h | h; simp; omega; simp [h])] at hu3
    subst hu3
    clear hc hxu hxm ht hou hom hq
    refine X.go T79_ok 400 _ rfl Try.results79 ?_
    conv => arg 2; cbv
    refine X.cond rfl (fun hie => ?_) (fun hie => ?_)
    · simp only [SB.T, SI.den] at hie
      rw [if_pos (by omega)] at hFi
      refine X.go T79_ok 400 _ rfl Try.results79 ?_
      conv => arg 2; cbv
      refine X.done T79_ok rfl (fun N w' v hN hS hv => ⟨?_, ?_⟩)
      · simp only [resV, SV.den, SV.denL, SI.den, SB.den, Option.some.injEq] at hv
        rw [← hv, ← hFi]
      · rw [← hFi]
        exact Sat.arr hS hA hn sd1
    simp only [SB.F, SI.den] at hie
    rw [if_neg (by omega)] at hFi
    refine X.go T79_ok 400 _ rfl Try.results79 ?_
    conv => arg 2; cbv
    refine X.cond rfl (fun h50 => ?_) (fun h50 => ?_)
    · simp (disch := omega) only [SB.T, SI.den, wrapN] at h50
      rw [if_pos (by omega)] at hFi
      refine X.go T79_ok 400 _ rfl Try.results79 ?_
      conv => arg 2; cbv
      refine X.done T79_ok rfl (fun N w' v hN hS hv => ⟨?_, ?_⟩)
      · simp only [resV, SV.den, SV.denL, SI.den, SB.den, Option.some.injEq] at hv
        rw [← hv, ← hFi]
      · rw [← hFi]
        exact Sat.arr hS hA hn sd1
    simp (disch := omega) only [SB.F, SI.den, wrapN] at h50
    rw [if_neg (by omega), ← hm] at hFi
    refine X.go T79_ok 400 _ rfl Try.results79 ?_
    conv => arg 2; cbv
    obtain ⟨d2, hd2⟩ : ∃ x, x = swp d1 i2 m := ⟨_, rfl⟩
    have sd2 : d2.size = n := by rw [hd2, swpZ_size]; exact sd1
    refine X.join (ι := Unit) (fun _ => aE Try.prog Try.f79 _ w b y n (wm w) d2 [] B79) (fun _ => ⟨[(0, .val (.slv p n c)), (1, .val (.int .i64 (.nat a))), (2, .val (.int .i64 (.nat e))), (7, .val (.int .i64 (.nat i2))), (8, .val (.int .i64 (.nat cnt)))], []⟩) (fun _ => ⟨rfl, rfl, rfl⟩) (fun qj hqj => ?_) (fun _ => ?_)
    · obtain ⟨xi, hxi⟩ : ∃ x, d1[i2]! = x := ⟨_, rfl⟩
      obtain ⟨xj, hxj⟩ : ∃ x, d1[m]! = x := ⟨_, rfl⟩
      by_cases hij : i2 = m
      · refine X.take1 hA hn sd1 (i := i2) (by omega) hxi (by simp) (fun N1 _ hN1 => ?_)
        have g0 : (N1 ++ [⟨b, y + i2, 1⟩] : Nums)[0]? = some ⟨b, y + i2, 1⟩ := num_last hN1
        refine X.goP ([(50, .own 0 0), (54, .own 0 0), (56, .own 0 0), (57, .own 0 0)]) T79_ok 400 _ rfl Try.results79 (fun pr fin hpr hfin => ?_)
        conv => cbv
        refine ⟨hpr _ (ValOk.row (z := i2) rfl rfl (fun _ => by first | rfl | (simp (disch := omega) only [SB.den, SI.den, wrapN] <;> omega)) Try.underlying22 Try.sizeOf5 (by omega) hp g0 rfl (by simp)), hpr _ (ValOk.row (z := i2) rfl rfl (fun _ => by first | rfl | (simp (disch := omega) only [SB.den, SI.den, wrapN] <;> omega)) Try.underlying22 Try.sizeOf5 (by omega) hp g0 rfl (by simp)), hpr _ (ValOk.row (z := i2) rfl rfl (fun _ => by first | rfl | (simp (disch := omega) only [SB.den, SI.den, wrapN] <;> omega)) Try.underlying22 Try.sizeOf5 (by omega) hp g0 rfl (by simp)), hpr _ (ValOk.row (z := i2) rfl rfl (fun _ => by first | rfl | (simp (disch := omega) only [SB.den, SI.den, wrapN] <;> omega)) Try.underlying22 Try.sizeOf5 (by omega) hp g0 rfl (by simp)), hfin _ _ ?_⟩
        refine X.give1 (i := i2) (r := 0) sd1 (by omega) hxi rfl g0 ?_
        refine X.back (fun N ac w' hN hf hS => hqj () ac w' ?_)
        rw [hd2, ← hij, swpZ_self (by omega)]
        exact At.again hf hS (by repeat first | exact trivial | refine ⟨⟨_, rfl, .inl ⟨rfl, rfl⟩⟩, ?_⟩ | refine ⟨⟨_, rfl, .inr ⟨_, rfl, rfl⟩⟩, ?_⟩ | refine ⟨⟨_, rfl, .inr ⟨_, rfl, (by first | (simp (disch := omega) only [SV.den, SI.den, wrapN, Option.some.injEq, Value.int.injEq, true_and]; done) | (simp (disch := omega) only [SV.den, SI.den, wrapN, Option.some.injEq, Value.int.injEq, true_and]; omega))⟩⟩, ?_⟩) trivial
      · refine X.take2 hA hn sd1 (i := i2) (j := m) hij (by omega) (by omega) hxi hxj (by simp) (fun N1 _ hN1 => ?_)
        have g0 : ((N1 ++ [⟨b, y + i2, 1⟩]) ++ [⟨b, y + m, 1⟩] : Nums)[0]? = some ⟨b, y + i2, 1⟩ := num_old (num_last hN1)
        have g1 : ((N1 ++ [⟨b, y + i2, 1⟩]) ++ [⟨b, y + m, 1⟩] : Nums)[1]? = some ⟨b, y + m, 1⟩ := num_last (by simp [hN1])
        refine X.goP ([(50, .own 1 0), (54, .own 0 0), (56, .own 0 0), (57, .own 1 0)]) T79_ok 400 _ rfl Try.results79 (fun pr fin hpr hfin => ?_)
        conv => cbv
        refine ⟨hpr _ (ValOk.row (z := m) rfl rfl (fun _ => by first | rfl | (simp (disch := omega) only [SB.den, SI.den, wrapN] <;> omega)) Try.underlying22 Try.sizeOf5 (by omega) hp g1 rfl (by simp)), hpr _ (ValOk.row (z := i2) rfl rfl (fun _ => by first | rfl | (simp (disch := omega) only [SB.den, SI.den, wrapN] <;> omega)) Try.underlying22 Try.sizeOf5 (by omega) hp g0 rfl (by simp)), hpr _ (ValOk.row (z := i2) rfl rfl (fun _ => by first | rfl | (simp (disch := omega) only [SB.den, SI.den, wrapN] <;> omega)) Try.underlying22 Try.sizeOf5 (by omega) hp g0 rfl (by simp)), hpr _ (ValOk.row (z := m) rfl rfl (fun _ => by first | rfl | (simp (disch := omega) only [SB.den, SI.den, wrapN] <;> omega)) Try.underlying22 Try.sizeOf5 (by omega) hp g1 rfl (by simp)), hfin _ _ ?_⟩
        refine X.give2 (i := i2) (j := m) (r := 0) sd1 hij (by omega) (by omega) hxi hxj rfl rfl g0 g1 ?_
        refine X.back (fun N ac w' hN hf hS => hqj () ac w' ?_)
        rw [hd2]
        exact At.again hf hS (by repeat first | exact trivial | refine ⟨⟨_, rfl, .inl ⟨rfl, rfl⟩⟩, ?_⟩ | refine ⟨⟨_, rfl, .inr ⟨_, rfl, rfl⟩⟩, ?_⟩ | refine ⟨⟨_, rfl, .inr ⟨_, rfl, (by first | (simp (disch := omega) only [SV.den, SI.den, wrapN, Option.some.injEq, Value.int.injEq, true_and]; done) | (simp (disch := omega) only [SV.den, SI.den, wrapN, Option.some.injEq, Value.int.injEq, true_and]; omega))⟩⟩, ?_⟩) trivial
    rw [← hd2] at hFi
    refine X.go T79_ok 1 _ rfl Try.results79 ?_
    conv => arg 2; cbv
    obtain ⟨d3, hd3⟩ : ∃ x, x = (if i2 - a ≥ 2 then shiftDown ltInt m d2 else d2) := ⟨_, rfl⟩
    have sd3 : d3.size = n := by rw [hd3]; split; rw [shiftDown_size]; exact sd2; exact sd2
    rw [← hd3] at hFi
    refine X.join (ι := Unit) (fun _ => aE Try.prog Try.f79 _ w b y n (wm w) d3 [] B79) (fun _ => ⟨[(0, .val (.slv p n c)), (1, .val (.int .i64 (.nat a))), (2, .val (.int .i64 (.nat e))), (7, .val (.int .i64 (.nat i2))), (8, .val (.int .i64 (.nat cnt)))], []⟩) (fun _ => ⟨rfl, rfl, rfl⟩) (fun qj hqj => ?_) (fun _ => ?_)
    · refine X.go T79_ok 400 _ rfl Try.results79 ?_
      conv => arg 2; cbv
      refine X.cond rfl (fun h2 => ?_) (fun h2 => ?_)
      · simp (disch := omega) only [SB.T, SI.den, wrapN] at h2
        rw [if_pos (by omega)] at hd3
        refine X.go T79_ok 400 _ rfl Try.results79 ?_
        conv => arg 2; cbv
        refine X.loop (fun g : {g : Nat × Array Int // g.2.size = n ∧ g.1 ≤ m ∧ shiftDown ltInt g.1 g.2 = d3} => aE Try.prog Try.f79 _ w b y n (wm w) g.1.2 [] B79) (fun g => ⟨[(0, .val (.slv p n c)), (1, .val (.int .i64 (.nat a))), (2, .val (.int .i64 (.nat e))), (7, .val (.int .i64 (.nat i2))), (8, .val (.int .i64 (.nat cnt))), (9, .val (.int .i64 (.nat g.1.1)))], []⟩) (fun g => g.1.1) (fun _ => ⟨rfl, rfl, rfl, rfl⟩) (fun N ac w' hN hf hS => ⟨⟨(m, d2), sd2, Nat.le_refl _, hd3.symm⟩, ?_⟩) (fun g q hq => ?_)
        · exact At.again hf hS (by repeat first | exact trivial | refine ⟨⟨_, rfl, .inl ⟨rfl, rfl⟩⟩, ?_⟩ | refine ⟨⟨_, rfl, .inr ⟨_, rfl, rfl⟩⟩, ?_⟩ | refine ⟨⟨_, rfl, .inr ⟨_, rfl, (by first | (simp (disch := omega) only [SV.den, SI.den, wrapN, Option.some.injEq, Value.int.injEq, true_and]; done) | (simp (disch := omega) only [SV.den, SI.den, wrapN, Option.some.injEq, Value.int.injEq, true_and]; omega))⟩⟩, ?_⟩) trivial
        obtain ⟨⟨j, dj⟩, sdj, hj1, hFj⟩ := g
        simp only at sdj hj1 hFj
        show X (aE Try.prog Try.f79 _ w b y n (wm w) dj [] B79) _ ⟨[(0, .val (.slv p n c)), (1, .val (.int .i64 (.nat a))), (2, .val (.int .i64 (.nat e))), (7, .val (.int .i64 (.nat i2))), (8, .val (.int .i64 (.nat cnt))), (9, .val (.int .i64 (.nat j)))], []⟩
        refine X.go T79_ok 400 _ rfl Try.results79 ?_
        conv => arg 2; cbv
        refine X.cond rfl (fun hj => ?_) (fun hj => ?_)
        · simp only [SB.T, SI.den] at hj
          obtain ⟨k, hjk⟩ : ∃ k, j = k + 1 := ⟨j - 1, by omega⟩
          obtain ⟨xj, hxj⟩ : ∃ x, dj[j]! = x := ⟨_, rfl⟩
          obtain ⟨xk, hxk⟩ : ∃ x, dj[k]! = x := ⟨_, rfl⟩
          obtain ⟨t, ht⟩ : ∃ t, t = ltInt xj xk := ⟨_, rfl⟩
          obtain ⟨oj, hoj⟩ : ∃ o, o = y + j := ⟨_, rfl⟩
          obtain ⟨ok, hok⟩ : ∃ o, o = y + k := ⟨_, rfl⟩
          refine X.goP ([(70, .ext b oj 0), (71, .int .u8 (.v xj)), (75, .ext b ok 0), (76, .int .u8 (.v xk)), (77, .bool (.v t))]) T79_ok 400 _ rfl Try.results79 (fun pr fin hpr hfin => ?_)
          conv => cbv
          refine ⟨hpr _ (less_call rfl ht), hpr _ (ValOk.im1 rfl Try.isAgg5 (fun _ => rfl) fun _ => (by rw [← hxk, hok]; exact arrM_in (by omega))), hpr _ (ValOk.im1 rfl Try.isAgg5 (fun _ => rfl) fun _ => (by rw [← hxj, hoj]; exact arrM_in (by omega))), hpr _ (ValOk.at (z := k) rfl rfl (fun _ => by first | rfl | (simp (disch := omega) only [SB.den, SI.den, wrapN] <;> omega)) Try.underlying22 Try.sizeOf5 (fun _ => by omega) hp (by omega)), hpr _ (ValOk.at (z := j) rfl rfl (fun _ => by first | rfl | (simp (disch := omega) only [SB.den, SI.den, wrapN] <;> omega)) Try.underlying22 Try.sizeOf5 (fun _ => by omega) hp (by omega)), hfin _ _ ?_⟩
          refine X.cond rfl (fun hb => ?_) (fun hb => ?_)
          · simp only [SB.T, SB.F] at hb
            refine X.go T79_ok 400 _ rfl Try.results79 ?_
            conv => arg 2; cbv
            refine X.back (fun N ac w' hN hf hS => hqj () ac w' ?_)
            rw [hjk, shiftDown, ← hjk, hxj, hxk, ← ht, hb, if_pos (by simp)] at hFj
            rw [← hFj]
            exact At.again hf hS (by repeat first | exact trivial | refine ⟨⟨_, rfl, .inl ⟨rfl, rfl⟩⟩, ?_⟩ | refine ⟨⟨_, rfl, .inr ⟨_, rfl, rfl⟩⟩, ?_⟩ | refine ⟨⟨_, rfl, .inr ⟨_, rfl, (by first | (simp (disch := omega) only [SV.den, SI.den, wrapN, Option.some.injEq, Value.int.injEq, true_and]; done) | (simp (disch := omega) only [SV.den, SI.den, wrapN, Option.some.injEq, Value.int.injEq, true_and]; omega))⟩⟩, ?_⟩) trivial
          · simp only [SB.T, SB.F] at hb
            refine X.take2 hA hn sdj (i := j) (j := k) (by omega) (by omega) (by omega) hxj hxk (by simp) (fun N1 _ hN1 => ?_)
            have g0 : ((N1 ++ [⟨b, y + j, 1⟩]) ++ [⟨b, y + k, 1⟩] : Nums)[0]? = some ⟨b, y + j, 1⟩ := num_old (num_last hN1)
            have g1 : ((N1 ++ [⟨b, y + j, 1⟩]) ++ [⟨b, y + k, 1⟩] : Nums)[1]? = some ⟨b, y + k, 1⟩ := num_last (by simp [hN1])
            refine X.goP ([(87, .own 1 0), (91, .own 0 0), (93, .own 0 0), (94, .own 1 0)]) T79_ok 400 _ rfl Try.results79 (fun pr fin hpr hfin => ?_)
            conv => cbv
            refine ⟨hpr _ (ValOk.row (z := k) rfl rfl (fun _ => by first | rfl | (simp (disch := omega) only [SB.den, SI.den, wrapN] <;> omega)) Try.underlying22 Try.sizeOf5 (by omega) hp g1 rfl (by simp)), hpr _ (ValOk.row (z := j) rfl rfl (fun _ => by first | rfl | (simp (disch := omega) only [SB.den, SI.den, wrapN] <;> omega)) Try.underlying22 Try.sizeOf5 (by omega) hp g0 rfl (by simp)), hpr _ (ValOk.row (z := j) rfl rfl (fun _ => by first | rfl | (simp (disch := omega) only [SB.den, SI.den, wrapN] <;> omega)) Try.underlying22 Try.sizeOf5 (by omega) hp g0 rfl (by simp)), hpr _ (ValOk.row (z := k) rfl rfl (fun _ => by first | rfl | (simp (disch := omega) only [SB.den, SI.den, wrapN] <;> omega)) Try.underlying22 Try.sizeOf5 (by omega) hp g1 rfl (by simp)), hfin _ _ ?_⟩
            refine X.give2 (i := j) (j := k) (r := 0) sdj (by omega) (by omega) (by omega) hxj hxk rfl rfl g0 g1 ?_
            refine X.back (fun N ac w' hN hf hS => hq ⟨(k, swp dj j k), by rw [swpZ_size]; exact sdj, by simp only; omega, ?_⟩ ac w' (by simp only; omega) ?_)
            · rw [← hFj]; conv => rhs; rw [hjk, shiftDown, ← hjk, hxj, hxk, ← ht, hb, if_neg (by simp)]
            · exact At.again hf hS (by repeat first | exact trivial | refine ⟨⟨_, rfl, .inl ⟨rfl, rfl⟩⟩, ?_⟩ | refine ⟨⟨_, rfl, .inr ⟨_, rfl, rfl⟩⟩, ?_⟩ | refine ⟨⟨_, rfl, .inr ⟨_, rfl, (by first | (simp (disch := omega) only [SV.den, SI.den, wrapN, Option.some.injEq, Value.int.injEq, true_and]; done) | (simp (disch := omega) only [SV.den, SI.den, wrapN, Option.some.injEq, Value.int.injEq, true_and]; omega))⟩⟩, ?_⟩) trivial
        · simp only [SB.F, SI.den] at hj
          obtain rfl : j = 0 := by omega
          refine X.go T79_ok 400 _ rfl Try.results79 ?_
          conv => arg 2; cbv
          refine X.back (fun N ac w' hN hf hS => hqj () ac w' ?_)
          have hFj : dj = d3 := hFj
          rw [← hFj]
          exact At.again hf hS (by repeat first | exact trivial | refine ⟨⟨_, rfl, .inl ⟨rfl, rfl⟩⟩, ?_⟩ | refine ⟨⟨_, rfl, .inr ⟨_, rfl, rfl⟩⟩, ?_⟩ | refine ⟨⟨_, rfl, .inr ⟨_, rfl, (by first | (simp (disch := omega) only [SV.den, SI.den, wrapN, Option.some.injEq, Value.int.injEq, true_and]; done) | (simp (disch := omega) only [SV.den, SI.den, wrapN, Option.some.injEq, Value.int.injEq, true_and]; omega))⟩⟩, ?_⟩) trivial
      · simp (disch := omega) only [SB.F, SI.den, wrapN] at h2
        rw [if_neg (by omega)] at hd3
        refine X.go T79_ok 400 _ rfl Try.results79 ?_
        conv => arg 2; cbv
        refine X.back (fun N ac w' hN hf hS => hqj () ac w' ?_)
        rw [hd3]
        exact At.again hf hS (by repeat first | exact trivial | refine ⟨⟨_, rfl, .inl ⟨rfl, rfl⟩⟩, ?_⟩ | refine ⟨⟨_, rfl, .inr ⟨_, rfl, rfl⟩⟩, ?_⟩ | refine ⟨⟨_, rfl, .inr ⟨_, rfl, (by first | (simp (disch := omega) only [SV.den, SI.den, wrapN, Option.some.injEq, Value.int.injEq, true_and]; done) | (simp (disch := omega) only [SV.den, SI.den, wrapN, Option.some.injEq, Value.int.injEq, true_and]; omega))⟩⟩, ?_⟩) trivial
    refine X.go T79_ok 400 _ rfl Try.results79 ?_
    conv => arg 2; cbv
    obtain ⟨d4, hd4⟩ : ∃ x, x = (if e - i2 ≥ 2 then shiftUp ltInt e (i2 + 1) d3 else d3) := ⟨_, rfl⟩
    have sd4 : d4.size = n := by rw [hd4]; split; rw [shiftUp_size e _ _ _ (Nat.le_refl _)]; exact sd3; exact sd3
    rw [← hd4] at hFi
    refine X.cond rfl (fun h2 => ?_) (fun h2 => ?_)
    · simp (disch := omega) only [SB.T, SI.den, wrapN] at h2
      rw [if_pos (by omega)] at hd4
      refine X.go T79_ok 400 _ rfl Try.results79 ?_
      conv => arg 2; cbv
      refine X.loop (fun g : {g : Nat × Array Int // g.2.size = n ∧ (i2 + 1 ≤ g.1 ∧ g.1 ≤ e) ∧ shiftUp ltInt e g.1 g.2 = d4} => aE Try.prog Try.f79 _ w b y n (wm w) g.1.2 [] B79) (fun g => ⟨[(0, .val (.slv p n c)), (1, .val (.int .i64 (.nat a))), (2, .val (.int .i64 (.nat e))), (7, .val (.int .i64 (.nat i2))), (8, .val (.int .i64 (.nat cnt))), (10, .val (.int .i64 (.nat g.1.1)))], []⟩) (fun g => e - g.1.1) (fun _ => ⟨rfl, rfl, rfl, rfl⟩) (fun N ac w' hN hf hS => ⟨⟨(i2 + 1, d3), sd3, by simp only; omega, hd4.symm⟩, ?_⟩) (fun g q hq => ?_)
      · exact At.again hf hS (by repeat first | exact trivial | refine ⟨⟨_, rfl, .inl ⟨rfl, rfl⟩⟩, ?_⟩ | refine ⟨⟨_, rfl, .inr ⟨_, rfl, rfl⟩⟩, ?_⟩ | refine ⟨⟨_, rfl, .inr ⟨_, rfl, (by first | (simp (disch := omega) only [SV.den, SI.den, wrapN, Option.some.injEq, Value.int.injEq, true_and]; done) | (simp (disch := omega) only [SV.den, SI.den, wrapN, Option.some.injEq, Value.int.injEq, true_and]; omega))⟩⟩, ?_⟩) trivial
      obtain ⟨⟨j, dj⟩, sdj, ⟨hj1, hj2⟩, hFj⟩ := g
      simp only at sdj hj1 hj2 hFj
      show X (aE Try.prog Try.f79 _ w b y n (wm w) dj [] B79) _ ⟨[(0, .val (.slv p n c)), (1, .val (.int .i64 (.nat a))), (2, .val (.int .i64 (.nat e))), (7, .val (.int .i64 (.nat i2))), (8, .val (.int .i64 (.nat cnt))), (10, .val (.int .i64 (.nat j)))], []⟩
      refine X.go T79_ok 400 _ rfl Try.results79 ?_
      conv => arg 2; cbv
      refine X.cond rfl (fun hj => ?_) (fun hj => ?_)
      · simp only [SB.T, SI.den] at hj
        rw [shiftUp, if_pos (by omega)] at hFj
        obtain ⟨k, hk⟩ : ∃ k, k = j - 1 := ⟨_, rfl⟩
        obtain ⟨xj, hxj⟩ : ∃ x, dj[j]! = x := ⟨_, rfl⟩
        obtain ⟨xk, hxk⟩ : ∃ x, dj[k]! = x := ⟨_, rfl⟩
        obtain ⟨t, ht⟩ : ∃ t, t = ltInt xj xk := ⟨_, rfl⟩
        obtain ⟨oj, hoj⟩ : ∃ o, o = y + j := ⟨_, rfl⟩
        obtain ⟨ok, hok⟩ : ∃ o, o = y + k := ⟨_, rfl⟩
        rw [← hk, hxj, hxk, ← ht] at hFj
        refine X.goP ([(108, .ext b oj 0), (109, .int .u8 (.v xj)), (113, .ext b ok 0), (114, .int .u8 (.v xk)), (115, .bool (.v t))]) T79_ok 400 _ rfl Try.results79 (fun pr fin hpr hfin => ?_)
        conv => cbv
        refine ⟨hpr _ (less_call rfl ht), hpr _ (ValOk.im1 rfl Try.isAgg5 (fun _ => rfl) fun _ => (by rw [← hxk, hok]; exact arrM_in (by omega))), hpr _ (ValOk.im1 rfl Try.isAgg5 (fun _ => rfl) fun _ => (by rw [← hxj, hoj]; exact arrM_in (by omega))), hpr _ (ValOk.at (z := k) rfl rfl (fun _ => by first | rfl | (simp (disch := omega) only [SB.den, SI.den, wrapN] <;> omega)) Try.underlying22 Try.sizeOf5 (fun _ => by omega) hp (by omega)), hpr _ (ValOk.at (z := j) rfl rfl (fun _ => by first | rfl | (simp (disch := omega) only [SB.den, SI.den, wrapN] <;> omega)) Try.underlying22 Try.sizeOf5 (fun _ => by omega) hp (by omega)), hfin _ _ ?_⟩
        refine X.cond rfl (fun hb => ?_) (fun hb => ?_)
        · simp only [SB.T, SB.F] at hb
          refine X.go T79_ok 400 _ rfl Try.results79 ?_
          conv => arg 2; cbv
          refine X.back (fun N ac w' hN hf hS => hqm ⟨((cnt + 1, i2), d4), sd4, by simp only; omega, by rw [← hFi]; show partialIns ltInt a e (5 - (cnt + 1)) i2 d4 = _; rw [show 5 - (cnt + 1) = 4 - cnt by omega]⟩ ac w' (by simp only; omega) ?_)
          rw [hb, if_pos (by simp)] at hFj
          show At (aE Try.prog Try.f79 _ w b y n (wm w) d4 [] B79) ⟨[(0, .val (.slv p n c)), (1, .val (.int .i64 (.nat a))), (2, .val (.int .i64 (.nat e))), (7, .val (.int .i64 (.nat i2))), (8, .val (.int .i64 (.nat (cnt + 1))))], []⟩ ac w'
          rw [← hFj]
          exact At.again hf hS (by repeat first | exact trivial | refine ⟨⟨_, rfl, .inl ⟨rfl, rfl⟩⟩, ?_⟩ | refine ⟨⟨_, rfl, .inr ⟨_, rfl, rfl⟩⟩, ?_⟩ | refine ⟨⟨_, rfl, .inr ⟨_, rfl, (by first | (simp (disch := omega) only [SV.den, SI.den, wrapN, Option.some.injEq, Value.int.injEq, true_and]; done) | (simp (disch := omega) only [SV.den, SI.den, wrapN, Option.some.injEq, Value.int.injEq, true_and]; omega))⟩⟩, ?_⟩) trivial
        · simp only [SB.T, SB.F] at hb
          refine X.take2 hA hn sdj (i := j) (j := k) (by omega) (by omega) (by omega) hxj hxk (by simp) (fun N1 _ hN1 => ?_)
          have g0 : ((N1 ++ [⟨b, y + j, 1⟩]) ++ [⟨b, y + k, 1⟩] : Nums)[0]? = some ⟨b, y + j, 1⟩ := num_old (num_last hN1)
          have g1 : ((N1 ++ [⟨b, y + j, 1⟩]) ++ [⟨b, y + k, 1⟩] : Nums)[1]? = some ⟨b, y + k, 1⟩ := num_last (by simp [hN1])
          refine X.goP ([(125, .own 1 0), (129, .own 0 0), (131, .own 0 0), (132, .own 1 0)]) T79_ok 400 _ rfl Try.results79 (fun pr fin hpr hfin => ?_)
          conv => cbv
          refine ⟨hpr _ (ValOk.row (z := k) rfl rfl (fun _ => by first | rfl | (simp (disch := omega) only [SB.den, SI.den, wrapN] <;> omega)) Try.underlying22 Try.sizeOf5 (by omega) hp g1 rfl (by simp)), hpr _ (ValOk.row (z := j) rfl rfl (fun _ => by first | rfl | (simp (disch := omega) only [SB.den, SI.den, wrapN] <;> omega)) Try.underlying22 Try.sizeOf5 (by omega) hp g0 rfl (by simp)), hpr _ (ValOk.row (z := j) rfl rfl (fun _ => by first | rfl | (simp (disch := omega) only [SB.den, SI.den, wrapN] <;> omega)) Try.underlying22 Try.sizeOf5 (by omega) hp g0 rfl (by simp)), hpr _ (ValOk.row (z := k) rfl rfl (fun _ => by first | rfl | (simp (disch := omega) only [SB.den, SI.den, wrapN] <;> omega)) Try.underlying22 Try.sizeOf5 (by omega) hp g1 rfl (by simp)), hfin _ _ ?_⟩
          refine X.give2 (i := j) (j := k) (r := 0) sdj (by omega) (by omega) (by omega) hxj hxk rfl rfl g0 g1 ?_
          refine X.back (fun N ac w' hN hf hS => hq ⟨(j + 1, swp dj j k), by rw [swpZ_size]; exact sdj, by simp only; omega, ?_⟩ ac w' (by simp only; omega) ?_)
          · rw [← hFj, hb, if_neg (by simp)]
          · exact At.again hf hS (by repeat first | exact trivial | refine ⟨⟨_, rfl, .inl ⟨rfl, rfl⟩⟩, ?_⟩ | refine ⟨⟨_, rfl, .inr ⟨_, rfl, rfl⟩⟩, ?_⟩ | refine ⟨⟨_, rfl, .inr ⟨_, rfl, (by first | (simp (disch := omega) only [SV.den, SI.den, wrapN, Option.some.injEq, Value.int.injEq, true_and]; done) | (simp (disch := omega) only [SV.den, SI.den, wrapN, Option.some.injEq, Value.int.injEq, true_and]; omega))⟩⟩, ?_⟩) trivial
      · simp only [SB.F, SI.den] at hj
        rw [shiftUp, if_neg (by omega)] at hFj
        refine X.go T79_ok 400 _ rfl Try.results79 ?_
        conv => arg 2; cbv
        refine X.back (fun N ac w' hN hf hS => hqm ⟨((cnt + 1, i2), d4), sd4, by simp only; omega, by rw [← hFi]; show partialIns ltInt a e (5 - (cnt + 1)) i2 d4 = _; rw [show 5 - (cnt + 1) = 4 - cnt by omega]⟩ ac w' (by simp only; omega) ?_)
        show At (aE Try.prog Try.f79 _ w b y n (wm w) d4 [] B79) ⟨[(0, .val (.slv p n c)), (1, .val (.int .i64 (.nat a))), (2, .val (.int .i64 (.nat e))), (7, .val (.int .i64 (.nat i2))), (8, .val (.int .i64 (.nat (cnt + 1))))], []⟩ ac w'
        rw [← hFj]
        exact At.again hf hS (by repeat first | exact trivial | refine ⟨⟨_, rfl, .inl ⟨rfl, rfl⟩⟩, ?_⟩ | refine ⟨⟨_, rfl, .inr ⟨_, rfl, rfl⟩⟩, ?_⟩ | refine ⟨⟨_, rfl, .inr ⟨_, rfl, (by first | (simp (disch := omega) only [SV.den, SI.den, wrapN, Option.some.injEq, Value.int.injEq, true_and]; done) | (simp (disch := omega) only [SV.den, SI.den, wrapN, Option.some.injEq, Value.int.injEq, true_and]; omega))⟩⟩, ?_⟩) trivial
    · simp (disch := omega) only [SB.F, SI.den, wrapN] at h2
      rw [if_neg (by omega)] at hd4
      refine X.go T79_ok 400 _ rfl Try.results79 ?_
      conv => arg 2; cbv
      refine X.back (fun N ac w' hN hf hS => hqm ⟨((cnt + 1, i2), d4), sd4, by simp only; omega, by rw [← hFi]; show partialIns ltInt a e (5 - (cnt + 1)) i2 d4 = _; rw [show 5 - (cnt + 1) = 4 - cnt by omega]⟩ ac w' (by simp only; omega) ?_)
      show At (aE Try.prog Try.f79 _ w b y n (wm w) d4 [] B79) ⟨[(0, .val (.slv p n c)), (1, .val (.int .i64 (.nat a))), (2, .val (.int .i64 (.nat e))), (7, .val (.int .i64 (.nat i2))), (8, .val (.int .i64 (.nat (cnt + 1))))], []⟩ ac w'
      rw [hd4]
      exact At.again hf hS (by repeat first | exact trivial | refine ⟨⟨_, rfl, .inl ⟨rfl, rfl⟩⟩, ?_⟩ | refine ⟨⟨_, rfl, .inr ⟨_, rfl, rfl⟩⟩, ?_⟩ | refine ⟨⟨_, rfl, .inr ⟨_, rfl, (by first | (simp (disch := omega) only [SV.den, SI.den, wrapN, Option.some.injEq, Value.int.injEq, true_and]; done) | (simp (disch := omega) only [SV.den, SI.den, wrapN, Option.some.injEq, Value.int.injEq, true_and]; omega))⟩⟩, ?_⟩) trivial
  simp only [SB.F, SI.den] at hc5
  obtain rfl : cnt = 5 := by omega
  have hFi : (d1, false) = R := hFi
  refine X.go T79_ok 400 _ rfl Try.results79 ?_
  conv => arg 2; cbv
  refine X.done T79_ok rfl (fun N w' v hN hS hv => ⟨?_, ?_⟩)
  · simp only [resV, SV.den, SV.denL, SI.den, SB.den, Option.some.injEq] at hv
    rw [← hv, ← hFi]
  · rw [← hFi]
    exact Sat.arr hS hA hn sd1

end Go.Proofs.Ythaffebapmkppaa
