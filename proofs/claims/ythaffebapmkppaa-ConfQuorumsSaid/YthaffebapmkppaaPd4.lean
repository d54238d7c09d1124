/- Rows of bytes: sorting by a heap. -/
import Derived.Test.YthaffebapmkppaaPd3
import Derived.Sort.AssemblyPlain
import Derived.Sort.WalkB3

namespace Go.Proofs.Ythaffebapmkppaa
open Go Go.Eng Go.Sort

set_option maxHeartbeats 4000000 in
set_option maxRecDepth 100000 in
set_option cbv.maxSteps 100000000 in
theorem heap8_ok (b y n c a e : Nat) (d : Array Int) (w : World) (hA : AtA w b y d) (hn : d.size = n) (hae : a ≤ e) (hen : e ≤ n) (hbig : n < 4611686018427387904) :
    Calls Try.prog 75 #[.slice (some ⟨b, y, none⟩) n c, .int .i64 a, .int .i64 e] w (PostA b y n w (heapSort ltInt d a e)) := by
  obtain ⟨F, hF⟩ : ∃ F, F = heapSort ltInt d a e := ⟨_, rfl⟩
  rw [← hF]
  unfold heapSort at hF
  obtain ⟨p, hp⟩ : ∃ p, p = some (Addr.mk b y none) := ⟨_, rfl⟩
  obtain ⟨hi, hhi⟩ : ∃ h, h = e - a := ⟨_, rfl⟩
  rw [← hhi] at hF
  rw [← hp]
  refine X.beginA hA hn (ss := [.slv p n c, .int .i64 (.nat a), .int .i64 (.nat e)]) Try.func75 rfl B75_ok rfl rfl ?_
  refine X.go T75_ok 400 _ rfl Try.results75 ?_
  conv => arg 2; cbv
  refine X.reval 8 (.int .i64 (.nat hi)) rfl (fun N _ v hv => by rw [← hv]; simp (disch := omega) only [SV.den, SI.den, wrapN, Int.tdiv_eq_ediv_of_nonneg, Option.some.injEq, Value.int.injEq, true_and] <;> omega) ?_
  have hh := half_start (a := a) (b := e) hae
  rw [← hhi] at hh
  refine X.reval 9 (.int .i64 (.v ((((hi - 1) / 2 + 1 : Nat) : Int) - 1))) rfl (fun N _ v hv => by rw [← hv]; simp (disch := omega) only [SV.den, SI.den, wrapN]; rw [hh]) ?_
  refine X.loop (fun g : {g : Nat × Array Int // g.2.size = n ∧ g.1 ≤ n + 1 ∧ heapPop ltInt a hi (heapBuild ltInt hi a g.1 g.2) = F} => aE Try.prog Try.f75 _ w b y n (wm w) g.1.2 [] B75)
    (fun g => ⟨[(0, .val (.slv p n c)), (6, .val (.int .i64 (.nat a))), (7, .val (.int .i64 (.lit 0))), (8, .val (.int .i64 (.nat hi))), (9, .val (.int .i64 (.v ((g.1.1 : Int) - 1))))], []⟩) (fun g => g.1.1) (fun _ => ⟨rfl, rfl, rfl, rfl⟩)
    (fun N ac w' hN hf hS => ⟨⟨((hi - 1) / 2 + 1, d), hn, by simp only; omega, hF.symm⟩, ?_⟩) (fun g q hq => ?_)
  · exact At.again hf hS (by repeat first | exact trivial | refine ⟨⟨_, rfl, .inl ⟨rfl, rfl⟩⟩, ?_⟩ | refine ⟨⟨_, rfl, .inr ⟨_, rfl, rfl⟩⟩, ?_⟩ | refine ⟨⟨_, rfl, .inr ⟨_, rfl, (by first | (simp (disch := omega) only [SV.den, SI.den, wrapN, Option.some.injEq, Value.int.injEq, true_and]; done) | (simp (disch := omega) only [SV.den, SI.den, wrapN, Option.some.injEq, Value.int.injEq, true_and]; omega))⟩⟩, ?_⟩) trivial
  obtain ⟨⟨k, d1⟩, hd1, hk, hFi⟩ := g
  simp only at hd1 hk hFi
  obtain ⟨z, hz⟩ : ∃ z, z = (k : Int) - 1 := ⟨_, rfl⟩
  show X (aE Try.prog Try.f75 _ w b y n (wm w) d1 [] B75) _ ⟨[(0, .val (.slv p n c)), (6, .val (.int .i64 (.nat a))), (7, .val (.int .i64 (.lit 0))), (8, .val (.int .i64 (.nat hi))), (9, .val (.int .i64 (.v ((k : Int) - 1))))], []⟩
  rw [← hz]
  refine X.go T75_ok 400 _ rfl Try.results75 ?_
  conv => arg 2; cbv
  refine X.cond rfl (fun hge => ?_) (fun hlt => ?_)
  · simp only [SB.T, SI.den] at hge
    obtain ⟨m, rfl⟩ : ∃ m, k = m + 1 := ⟨k - 1, by omega⟩
    refine X.go T75_ok 400 _ rfl Try.results75 ?_
    conv => arg 2; cbv
    refine X.call rfl rfl rfl rfl Try.call96 (fun N w1 args hN hS ha => ?_)
    have ha : args = [.slice p n c, .int .i64 z, .int .i64 hi, .int .i64 a] := (Option.some.inj ha).symm
    rw [ha]
    have key := sift8_ok b y n c m hi a d1 w1 (Sat.arr hS hA hn hd1).1 hd1 (by omega) (by omega) hbig
    rw [← hp, ← (show z = (m : Int) by omega)] at key
    refine Calls.mono key fun e w' ⟨he, hA', hc'⟩ => ⟨_, he, Goes.arr hN hS hd1 (by rw [size_siftDown _ _ _ hi _ _ (by omega)]; exact hd1) hA' hc' (by simp) (r := .tup []) rfl rfl ?_⟩
    refine X.go T75_ok 400 _ rfl Try.results75 ?_
    conv => arg 2; cbv
    refine X.back (fun N ac w' hN hf hS => hq ⟨(m, siftDown ltInt hi a m d1), by simp only; rw [size_siftDown _ _ _ hi _ _ (by omega)]; exact hd1, by simp only; omega, by rw [← hFi]; rfl⟩ ac w' (by simp only; omega) ?_)
    exact At.again hf hS (by repeat first | exact trivial | refine ⟨⟨_, rfl, .inl ⟨rfl, rfl⟩⟩, ?_⟩ | refine ⟨⟨_, rfl, .inr ⟨_, rfl, rfl⟩⟩, ?_⟩ | refine ⟨⟨_, rfl, .inr ⟨_, rfl, (by first | (simp (disch := omega) only [SV.den, SI.den, wrapN, Option.some.injEq, Value.int.injEq, true_and]; done) | (simp (disch := omega) only [SV.den, SI.den, wrapN, Option.some.injEq, Value.int.injEq, true_and]; omega))⟩⟩, ?_⟩) trivial
  simp only [SB.F, SI.den] at hlt
  obtain rfl : k = 0 := by omega
  refine X.go T75_ok 400 _ rfl Try.results75 ?_
  conv => arg 2; cbv
  have hFi : heapPop ltInt a hi d1 = F := hFi
  refine X.loop (fun g : {g : Nat × Array Int // g.2.size = n ∧ g.1 ≤ hi ∧ heapPop ltInt a g.1 g.2 = F} => aE Try.prog Try.f75 _ w b y n (wm w) g.1.2 [] B75)
    (fun g => ⟨[(0, .val (.slv p n c)), (6, .val (.int .i64 (.nat a))), (7, .val (.int .i64 (.lit 0))), (10, .val (.int .i64 (.v ((g.1.1 : Int) - 1))))], []⟩) (fun g => g.1.1) (fun _ => ⟨rfl, rfl, rfl, rfl⟩)
    (fun N ac w' hN hf hS => ⟨⟨(hi, d1), hd1, Nat.le_refl _, hFi⟩, ?_⟩) (fun g q hq => ?_)
  · exact At.again hf hS (by repeat first | exact trivial | refine ⟨⟨_, rfl, .inl ⟨rfl, rfl⟩⟩, ?_⟩ | refine ⟨⟨_, rfl, .inr ⟨_, rfl, rfl⟩⟩, ?_⟩ | refine ⟨⟨_, rfl, .inr ⟨_, rfl, (by first | (simp (disch := omega) only [SV.den, SI.den, wrapN, Option.some.injEq, Value.int.injEq, true_and]; done) | (simp (disch := omega) only [SV.den, SI.den, wrapN, Option.some.injEq, Value.int.injEq, true_and]; omega))⟩⟩, ?_⟩) trivial
  obtain ⟨⟨k, d2⟩, hd2, hk2, hFj⟩ := g
  simp only at hd2 hk2 hFj
  obtain ⟨z2, hz2⟩ : ∃ z, z = (k : Int) - 1 := ⟨_, rfl⟩
  show X (aE Try.prog Try.f75 _ w b y n (wm w) d2 [] B75) _ ⟨[(0, .val (.slv p n c)), (6, .val (.int .i64 (.nat a))), (7, .val (.int .i64 (.lit 0))), (10, .val (.int .i64 (.v ((k : Int) - 1))))], []⟩
  rw [← hz2]
  refine X.go T75_ok 400 _ rfl Try.results75 ?_
  conv => arg 2; cbv
  refine X.cond rfl (fun hge => ?_) (fun hlt2 => ?_)
  · simp only [SB.T, SI.den] at hge
    obtain ⟨m, rfl⟩ : ∃ m, k = m + 1 := ⟨k - 1, by omega⟩
    obtain ⟨xi, hxi⟩ : ∃ x, d2[a]! = x := ⟨_, rfl⟩
    obtain ⟨xj, hxj⟩ : ∃ x, d2[a + m]! = x := ⟨_, rfl⟩
    by_cases hm : m = 0
    · refine X.take1 hA hn hd2 (i := a) (by omega) hxi (by simp) (fun N1 _ hN1 => ?_)
      have g0 : (N1 ++ [⟨b, y + a, 1⟩] : Nums)[0]? = some ⟨b, y + a, 1⟩ := num_last hN1
      refine X.goP ([(43, .own 0 0), (47, .own 0 0), (49, .own 0 0), (50, .own 0 0)]) T75_ok 400 _ rfl Try.results75 (fun pr fin hpr hfin => ?_)
      conv => cbv
      refine ⟨hpr _ (ValOk.row (z := a) rfl rfl (fun _ => by first | rfl | (simp (disch := omega) only [SB.den, SI.den, wrapN] <;> omega)) Try.underlying22 Try.sizeOf5 (by omega) hp g0 rfl (by simp)), hpr _ (ValOk.row (z := a) rfl rfl (fun _ => by first | rfl | (simp (disch := omega) only [SB.den, SI.den, wrapN] <;> omega)) Try.underlying22 Try.sizeOf5 (by omega) hp g0 rfl (by simp)), hpr _ (ValOk.row (z := a) rfl rfl (fun _ => by first | rfl | (simp (disch := omega) only [SB.den, SI.den, wrapN] <;> omega)) Try.underlying22 Try.sizeOf5 (by omega) hp g0 rfl (by simp)), hpr _ (ValOk.row (z := a) rfl rfl (fun _ => by first | rfl | (simp (disch := omega) only [SB.den, SI.den, wrapN] <;> omega)) Try.underlying22 Try.sizeOf5 (by omega) hp g0 rfl (by simp)), hfin _ _ ?_⟩
      refine X.give1 (i := a) (r := 0) hd2 (by omega) hxi rfl g0 ?_
      refine X.call rfl rfl rfl rfl Try.call96 (fun N w1 args hN hS ha => ?_)
      have ha : args = [.slice p n c, .int .i64 0, .int .i64 z2, .int .i64 a] := (Option.some.inj ha).symm
      rw [ha]
      have hsf : swp d2 a (a + m) = d2 := by rw [hm]; exact swpZ_self (by omega)
      have key := sift8_ok b y n c 0 m a d2 w1 (Sat.arr hS hA hn hd2).1 hd2 (by omega) (by omega) hbig
      rw [← hp, ← (show z2 = (m : Int) by omega)] at key
      refine Calls.mono key fun e w' ⟨he, hA', hc'⟩ => ⟨_, he, Goes.arr hN hS hd2 (by rw [size_siftDown _ _ _ m _ _ (by omega)]; exact hd2) hA' hc' (by simp) (r := .tup []) rfl rfl ?_⟩
      refine X.go T75_ok 400 _ rfl Try.results75 ?_
      conv => arg 2; cbv
      refine X.back (fun N ac w' hN hf hS => hq ⟨(m, siftDown ltInt m a 0 d2), by simp only; rw [size_siftDown _ _ _ m _ _ (by omega)]; exact hd2, by simp only; omega, by rw [← hFj]; show heapPop ltInt a m (siftDown ltInt m a 0 d2) = _; conv => rhs; rw [heapPop, hsf]⟩ ac w' (by simp only; omega) ?_)
      exact At.again hf hS (by repeat first | exact trivial | refine ⟨⟨_, rfl, .inl ⟨rfl, rfl⟩⟩, ?_⟩ | refine ⟨⟨_, rfl, .inr ⟨_, rfl, rfl⟩⟩, ?_⟩ | refine ⟨⟨_, rfl, .inr ⟨_, rfl, (by first | (simp (disch := omega) only [SV.den, SI.den, wrapN, Option.some.injEq, Value.int.injEq, true_and]; done) | (simp (disch := omega) only [SV.den, SI.den, wrapN, Option.some.injEq, Value.int.injEq, true_and]; omega))⟩⟩, ?_⟩) trivial
    · refine X.take2 hA hn hd2 (i := a) (j := a + m) (by omega) (by omega) (by omega) hxi hxj (by simp) (fun N1 _ hN1 => ?_)
      have g0 : ((N1 ++ [⟨b, y + a, 1⟩]) ++ [⟨b, y + (a + m), 1⟩] : Nums)[0]? = some ⟨b, y + a, 1⟩ := num_old (num_last hN1)
      have g1 : ((N1 ++ [⟨b, y + a, 1⟩]) ++ [⟨b, y + (a + m), 1⟩] : Nums)[1]? = some ⟨b, y + (a + m), 1⟩ := num_last (by simp [hN1])
      refine X.goP ([(43, .own 1 0), (47, .own 0 0), (49, .own 0 0), (50, .own 1 0)]) T75_ok 400 _ rfl Try.results75 (fun pr fin hpr hfin => ?_)
      conv => cbv
      refine ⟨hpr _ (ValOk.row (z := a+m) rfl rfl (fun _ => by first | rfl | (simp (disch := omega) only [SB.den, SI.den, wrapN] <;> omega)) Try.underlying22 Try.sizeOf5 (by omega) hp g1 rfl (by simp)), hpr _ (ValOk.row (z := a) rfl rfl (fun _ => by first | rfl | (simp (disch := omega) only [SB.den, SI.den, wrapN] <;> omega)) Try.underlying22 Try.sizeOf5 (by omega) hp g0 rfl (by simp)), hpr _ (ValOk.row (z := a) rfl rfl (fun _ => by first | rfl | (simp (disch := omega) only [SB.den, SI.den, wrapN] <;> omega)) Try.underlying22 Try.sizeOf5 (by omega) hp g0 rfl (by simp)), hpr _ (ValOk.row (z := a+m) rfl rfl (fun _ => by first | rfl | (simp (disch := omega) only [SB.den, SI.den, wrapN] <;> omega)) Try.underlying22 Try.sizeOf5 (by omega) hp g1 rfl (by simp)), hfin _ _ ?_⟩
      refine X.give2 (i := a) (j := a + m) (r := 0) hd2 (by omega) (by omega) (by omega) hxi hxj rfl rfl g0 g1 ?_
      refine X.call rfl rfl rfl rfl Try.call96 (fun N w1 args hN hS ha => ?_)
      have ha : args = [.slice p n c, .int .i64 0, .int .i64 z2, .int .i64 a] := (Option.some.inj ha).symm
      rw [ha]
      have hd3 : (swp d2 a (a + m)).size = n := by rw [swpZ_size]; exact hd2
      have key := sift8_ok b y n c 0 m a (swp d2 a (a + m)) w1 (Sat.arr hS hA hn hd3).1 hd3 (by omega) (by omega) hbig
      rw [← hp, ← (show z2 = (m : Int) by omega)] at key
      refine Calls.mono key fun e w' ⟨he, hA', hc'⟩ => ⟨_, he, Goes.arr hN hS hd3 (by rw [size_siftDown _ _ _ m _ _ (by omega)]; exact hd3) hA' hc' (by simp) (r := .tup []) rfl rfl ?_⟩
      refine X.go T75_ok 400 _ rfl Try.results75 ?_
      conv => arg 2; cbv
      refine X.back (fun N ac w' hN hf hS => hq ⟨(m, siftDown ltInt m a 0 (swp d2 a (a + m))), by simp only; rw [size_siftDown _ _ _ m _ _ (by omega)]; exact hd3, by simp only; omega, by rw [← hFj, heapPop]⟩ ac w' (by simp only; omega) ?_)
      exact At.again hf hS (by repeat first | exact trivial | refine ⟨⟨_, rfl, .inl ⟨rfl, rfl⟩⟩, ?_⟩ | refine ⟨⟨_, rfl, .inr ⟨_, rfl, rfl⟩⟩, ?_⟩ | refine ⟨⟨_, rfl, .inr ⟨_, rfl, (by first | (simp (disch := omega) only [SV.den, SI.den, wrapN, Option.some.injEq, Value.int.injEq, true_and]; done) | (simp (disch := omega) only [SV.den, SI.den, wrapN, Option.some.injEq, Value.int.injEq, true_and]; omega))⟩⟩, ?_⟩) trivial
  simp only [SB.F, SI.den] at hlt2
  obtain rfl : k = 0 := by omega
  refine X.go T75_ok 400 _ rfl Try.results75 ?_
  conv => arg 2; cbv
  refine X.over T75_ok rfl (fun N w' v hN hS hv => ⟨?_, ?_⟩)
  · simp only [resV, SV.den, SV.denL, Option.some.injEq] at hv
    rw [← hv]
  · have hFj : d2 = F := hFj
    rw [← hFj]
    exact Sat.arr hS hA hn hd2

end Go.Proofs.Ythaffebapmkppaa
