/- Rows of bytes: turned round; a heap's sifting. -/
import Derived.Test.YthaffebapmkppaaPd2

namespace Go.Proofs.Ythaffebapmkppaa
open Go Go.Eng Go.Sort

set_option maxHeartbeats 4000000 in
set_option maxRecDepth 100000 in
set_option cbv.maxSteps 100000000 in
theorem rev8_ok (b y n c a e : Nat) (d : Array Int) (w : World) (hA : AtA w b y d) (hn : d.size = n) (han : a ≤ n) (hen : e ≤ n) (he1 : 1 ≤ e) (hbig : n < 4611686018427387904) :
    Calls Try.prog 78 #[.slice (some ⟨b, y, none⟩) n c, .int .i64 a, .int .i64 e] w (PostA b y n w (reverseRange d a e)) := by
  obtain ⟨F, hF⟩ : ∃ F, F = reverseRange d a e := ⟨_, rfl⟩
  rw [← hF]
  obtain ⟨p, hp⟩ : ∃ p, p = some (Addr.mk b y none) := ⟨_, rfl⟩
  rw [← hp]
  refine X.beginA hA hn (ss := [.slv p n c, .int .i64 (.nat a), .int .i64 (.nat e)]) Try.func78 rfl B78_ok rfl rfl ?_
  refine X.go T78_ok 400 _ rfl Try.results78 ?_
  conv => arg 2; cbv
  refine X.loop (fun g : {g : (Nat × Nat) × Array Int // g.2.size = n ∧ g.1.1 ≤ n ∧ g.1.2 < n ∧ reverseLoop g.1.1 g.1.2 g.2 = F} => aE Try.prog Try.f78 _ w b y n (wm w) g.1.2 [] B78)
    (fun g => ⟨[(0, .val (.slv p n c)), (6, .val (.int .i64 (.nat g.1.1.1))), (7, .val (.int .i64 (.nat g.1.1.2)))], []⟩) (fun g => n - g.1.1.1) (fun _ => ⟨rfl, rfl, rfl, rfl⟩)
    (fun N ac w' hN hf hS => ⟨⟨((a, e - 1), d), hn, han, by simp only; omega, hF.symm⟩, ?_⟩) (fun g q hq => ?_)
  · exact At.again hf hS (by repeat first | exact trivial | refine ⟨⟨_, rfl, .inl ⟨rfl, rfl⟩⟩, ?_⟩ | refine ⟨⟨_, rfl, .inr ⟨_, rfl, rfl⟩⟩, ?_⟩ | refine ⟨⟨_, rfl, .inr ⟨_, rfl, by simp (disch := omega) [SV.den, SI.den, wrapU, wrapD] <;> omega⟩⟩, ?_⟩) trivial
  obtain ⟨⟨⟨i, j⟩, d1⟩, hd1, hi, hj, hFi⟩ := g
  simp only at hd1 hi hj hFi
  obtain ⟨xi, hxi⟩ : ∃ x, d1[i]! = x := ⟨_, rfl⟩
  obtain ⟨xj, hxj⟩ : ∃ x, d1[j]! = x := ⟨_, rfl⟩
  show X (aE Try.prog Try.f78 _ w b y n (wm w) d1 [] B78) _ ⟨[(0, .val (.slv p n c)), (6, .val (.int .i64 (.nat i))), (7, .val (.int .i64 (.nat j)))], []⟩
  refine X.go T78_ok 400 _ rfl Try.results78 ?_
  conv => arg 2; cbv
  refine X.cond rfl (fun hlt => ?_) (fun hge => ?_)
  · simp only [SB.T, SI.den] at hlt
    have hlt : i < j := by omega
    refine X.take2 hA hn hd1 (i := i) (j := j) (by omega) (by omega) (by omega) hxi hxj (by simp) (fun N1 _ hN1 => ?_)
    have g0 : ((N1 ++ [⟨b, y + i, 1⟩]) ++ [⟨b, y + j, 1⟩] : Nums)[0]? = some ⟨b, y + i, 1⟩ := num_old (num_last hN1)
    have g1 : ((N1 ++ [⟨b, y + i, 1⟩]) ++ [⟨b, y + j, 1⟩] : Nums)[1]? = some ⟨b, y + j, 1⟩ := num_last (by simp [hN1])
    refine X.goP ([(20, .own 1 0), (24, .own 0 0), (26, .own 0 0), (27, .own 1 0)]) T78_ok 400 _ rfl Try.results78 (fun pr fin hpr hfin => ?_)
    conv => cbv
    refine ⟨hpr _ (ValOk.row (z := j) rfl rfl (fun _ => by first | rfl | (simp (disch := omega) only [SB.den, SI.den, wrapN] <;> omega)) Try.underlying22 Try.sizeOf5 (by omega) hp g1 rfl (by simp)), hpr _ (ValOk.row (z := i) rfl rfl (fun _ => by first | rfl | (simp (disch := omega) only [SB.den, SI.den, wrapN] <;> omega)) Try.underlying22 Try.sizeOf5 (by omega) hp g0 rfl (by simp)), hpr _ (ValOk.row (z := i) rfl rfl (fun _ => by first | rfl | (simp (disch := omega) only [SB.den, SI.den, wrapN] <;> omega)) Try.underlying22 Try.sizeOf5 (by omega) hp g0 rfl (by simp)), hpr _ (ValOk.row (z := j) rfl rfl (fun _ => by first | rfl | (simp (disch := omega) only [SB.den, SI.den, wrapN] <;> omega)) Try.underlying22 Try.sizeOf5 (by omega) hp g1 rfl (by simp)), hfin _ _ ?_⟩
    refine X.give2 (i := i) (j := j) (r := 0) hd1 (by omega) (by omega) (by omega) hxi hxj rfl rfl g0 g1 ?_
    refine X.back (fun N ac w' hN hf hS => hq ⟨((i + 1, j - 1), swp d1 i j), by rw [swpZ_size]; exact hd1, by simp only; omega, by simp only; omega, ?_⟩ ac w' (by simp only; omega) ?_)
    · rw [← hFi]; conv => rhs; rw [reverseLoop, if_pos hlt]
    · exact At.again hf hS (by repeat first | exact trivial | refine ⟨⟨_, rfl, .inl ⟨rfl, rfl⟩⟩, ?_⟩ | refine ⟨⟨_, rfl, .inr ⟨_, rfl, rfl⟩⟩, ?_⟩ | refine ⟨⟨_, rfl, .inr ⟨_, rfl, by simp (disch := omega) [SV.den, SI.den, wrapU, wrapD] <;> omega⟩⟩, ?_⟩) trivial
  simp only [SB.F, SI.den] at hge
  refine X.go T78_ok 400 _ rfl Try.results78 ?_
  conv => arg 2; cbv
  refine X.over T78_ok rfl (fun N w' v hN hS hv => ⟨?_, ?_⟩)
  · simp only [resV, SV.den, SV.denL, Option.some.injEq] at hv
    rw [← hv]
  · rw [reverseLoop, if_neg (by omega)] at hFi
    rw [← hFi]
    exact Sat.arr hS hA hn hd1

set_option maxHeartbeats 4000000 in
set_option maxRecDepth 100000 in
set_option cbv.maxSteps 100000000 in
theorem sift8_ok (b y n c r0 hi f : Nat) (d : Array Int) (w : World) (hA : AtA w b y d) (hn : d.size = n) (hr0 : r0 ≤ n) (hfh : f + hi ≤ n) (hbig : n < 4611686018427387904) :
    Calls Try.prog 96 #[.slice (some ⟨b, y, none⟩) n c, .int .i64 r0, .int .i64 hi, .int .i64 f] w (PostA b y n w (siftDown ltInt hi f r0 d)) := by
  obtain ⟨F, hF⟩ : ∃ F, F = siftDown ltInt hi f r0 d := ⟨_, rfl⟩
  rw [← hF]
  obtain ⟨p, hp⟩ : ∃ p, p = some (Addr.mk b y none) := ⟨_, rfl⟩
  rw [← hp]
  refine X.beginA hA hn (ss := [.slv p n c, .int .i64 (.nat r0), .int .i64 (.nat hi), .int .i64 (.nat f)]) Try.func96 rfl B96_ok rfl rfl ?_
  refine X.go T96_ok 400 _ rfl Try.results96 ?_
  conv => arg 2; cbv
  refine X.loop (fun g : {g : Nat × Array Int // g.2.size = n ∧ g.1 ≤ n ∧ siftDown ltInt hi f g.1 g.2 = F} => aE Try.prog Try.f96 _ w b y n (wm w) g.1.2 [] B96)
    (fun g => ⟨[(0, .val (.slv p n c)), (2, .val (.int .i64 (.nat hi))), (3, .val (.int .i64 (.nat f))), (8, .val (.int .i64 (.nat g.1.1)))], []⟩) (fun g => n - g.1.1) (fun _ => ⟨rfl, rfl, rfl, rfl⟩)
    (fun N ac w' hN hf hS => ⟨⟨(r0, d), hn, hr0, hF.symm⟩, ?_⟩) (fun g q hq => ?_)
  · exact At.again hf hS (by repeat first | exact trivial | refine ⟨⟨_, rfl, .inl ⟨rfl, rfl⟩⟩, ?_⟩ | refine ⟨⟨_, rfl, .inr ⟨_, rfl, rfl⟩⟩, ?_⟩ | refine ⟨⟨_, rfl, .inr ⟨_, rfl, by simp (disch := omega) [SV.den, SI.den, wrapU, wrapD] <;> omega⟩⟩, ?_⟩) trivial
  obtain ⟨⟨root, d1⟩, hd1, hroot, hFi⟩ := g
  simp only at hd1 hroot hFi
  show X (aE Try.prog Try.f96 _ w b y n (wm w) d1 [] B96) _ ⟨[(0, .val (.slv p n c)), (2, .val (.int .i64 (.nat hi))), (3, .val (.int .i64 (.nat f))), (8, .val (.int .i64 (.nat root)))], []⟩
  refine X.go T96_ok 400 _ rfl Try.results96 ?_
  conv => arg 2; cbv
  obtain ⟨ch, hch⟩ : ∃ k, k = 2 * root + 1 := ⟨_, rfl⟩
  refine X.reval 9 (.int .i64 (.nat ch)) rfl (fun N _ v hv => by rw [← hv]; simp (disch := omega) only [SV.den, SI.den, wrapN, Int.tdiv_eq_ediv_of_nonneg, Option.some.injEq, Value.int.injEq, true_and] <;> omega) ?_
  rw [siftDown, ← hch] at hFi
  refine X.cond rfl (fun hge => ?_) (fun hlt => ?_)
  · simp (disch := omega) only [SB.T, SI.den, wrapN] at hge
    refine X.go T96_ok 400 _ rfl Try.results96 ?_
    conv => arg 2; cbv
    refine X.over T96_ok rfl (fun N w' v hN hS hv => ⟨?_, ?_⟩)
    · simp only [resV, SV.den, SV.denL, Option.some.injEq] at hv
      rw [← hv]
    · rw [dif_pos (by omega)] at hFi
      rw [← hFi]
      exact Sat.arr hS hA hn hd1
  simp (disch := omega) only [SB.F, SI.den, wrapN] at hlt
  have hlt : ch < hi := by omega
  rw [dif_neg (by omega)] at hFi
  obtain ⟨x1, hx1⟩ : ∃ x, d1[f + ch]! = x := ⟨_, rfl⟩
  obtain ⟨x2, hx2⟩ : ∃ x, d1[f + ch + 1]! = x := ⟨_, rfl⟩
  obtain ⟨t, ht⟩ : ∃ t, t = ltInt x1 x2 := ⟨_, rfl⟩
  obtain ⟨o1, ho1⟩ : ∃ o, o = y + (f + ch) := ⟨_, rfl⟩
  obtain ⟨o2, ho2⟩ : ∃ o, o = y + (f + ch + 1) := ⟨_, rfl⟩
  refine X.goP ([(26, .ext b o1 0), (27, .int .u8 (.v x1)), (33, .ext b o2 0), (34, .int .u8 (.v x2)), (35, .bool (.v t))]) T96_ok 400 _ rfl Try.results96 (fun pr fin hpr hfin => ?_)
  conv => cbv
  refine ⟨hpr _ (less_call rfl ht), hpr _ (ValOk.im1 rfl Try.isAgg5 (fun _ => rfl) fun hT => (by have hT : _ = true := hT; simp [SB.den, SI.den] at hT; (try replace hT := of_decide_eq_true hT); (try simp (disch := omega) only [SI.den, wrapN] at hT); rw [← hx2, ho2]; exact arrM_in (by omega))), hpr _ (ValOk.im1 rfl Try.isAgg5 (fun _ => rfl) fun hT => (by have hT : _ = true := hT; simp [SB.den, SI.den] at hT; (try replace hT := of_decide_eq_true hT); (try simp (disch := omega) only [SI.den, wrapN] at hT); rw [← hx1, ho1]; exact arrM_in (by omega))), hpr _ (ValOk.at (z := f+ch+1) rfl rfl (fun hT => by have hT : _ = true := hT; simp [SB.den, SI.den] at hT; (try replace hT := of_decide_eq_true hT); (try simp (disch := omega) only [SI.den, wrapN] at hT); first | omega | (simp (disch := omega) only [SI.den, wrapN] <;> omega)) Try.underlying22 Try.sizeOf5 (fun hT => by have hT : _ = true := hT; simp [SB.den, SI.den] at hT; (try replace hT := of_decide_eq_true hT); (try simp (disch := omega) only [SI.den, wrapN] at hT); first | omega | (simp (disch := omega) only [SI.den, wrapN] <;> omega)) hp (by omega)), hpr _ (ValOk.at (z := f+ch) rfl rfl (fun hT => by have hT : _ = true := hT; simp [SB.den, SI.den] at hT; (try replace hT := of_decide_eq_true hT); (try simp (disch := omega) only [SI.den, wrapN] at hT); first | omega | (simp (disch := omega) only [SI.den, wrapN] <;> omega)) Try.underlying22 Try.sizeOf5 (fun hT => by have hT : _ = true := hT; simp [SB.den, SI.den] at hT; (try replace hT := of_decide_eq_true hT); (try simp (disch := omega) only [SI.den, wrapN] at hT); first | omega | (simp (disch := omega) only [SI.den, wrapN] <;> omega)) hp (by omega)), hfin _ _ ?_⟩
  refine X.cond rfl (fun hc => ?_) (fun hc => ?_)
  · simp (disch := omega) only [SB.T, SI.den, wrapN] at hc
    obtain ⟨hc1, hc2⟩ := hc
    rw [hx1, hx2, ← ht, hc2, if_pos (by simp; omega), show 2 * root + 2 = ch + 1 by omega] at hFi
    have hFc : (if (!ltInt d1[f + root]! d1[f + (ch + 1)]!) = true then d1 else siftDown ltInt hi f (ch + 1) (swp d1 (f + root) (f + (ch + 1)))) = F := by
      rw [← hFi]
      split
      · rfl
      · rw [dif_pos (by omega)]
    obtain ⟨c1, hc1'⟩ : ∃ k, k = ch + 1 := ⟨_, rfl⟩
    rw [← hc1'] at hFc
    refine X.go T96_ok 4 _ rfl Try.results96 ?_
    conv => arg 2; cbv
    refine X.reval 9 (.int .i64 (.nat c1)) rfl (fun N _ v hv => by rw [← hv]; simp (disch := omega) only [SV.den, SI.den, wrapN, Int.tdiv_eq_ediv_of_nonneg, Option.some.injEq, Value.int.injEq, true_and] <;> omega) ?_
    obtain ⟨xr, hxr⟩ : ∃ x, d1[f + root]! = x := ⟨_, rfl⟩
    obtain ⟨xc, hxc⟩ : ∃ x, d1[f + c1]! = x := ⟨_, rfl⟩
    obtain ⟨t2, ht2⟩ : ∃ t, t = ltInt xr xc := ⟨_, rfl⟩
    obtain ⟨or, hor⟩ : ∃ o, o = y + (f + root) := ⟨_, rfl⟩
    obtain ⟨oc, hoc⟩ : ∃ o, o = y + (f + c1) := ⟨_, rfl⟩
    refine X.goP ([(43, .ext b or 0), (44, .int .u8 (.v xr)), (49, .ext b oc 0), (50, .int .u8 (.v xc)), (51, .bool (.v t2))]) T96_ok 400 _ rfl Try.results96 (fun pr fin hpr hfin => ?_)
    conv => cbv
    refine ⟨hpr _ (less_call rfl ht2), hpr _ (ValOk.im1 rfl Try.isAgg5 (fun _ => rfl) fun _ => (by rw [← hxc, hoc]; exact arrM_in (by omega))), hpr _ (ValOk.im1 rfl Try.isAgg5 (fun _ => rfl) fun _ => (by rw [← hxr, hor]; exact arrM_in (by omega))), hpr _ (ValOk.at (z := f+c1) rfl rfl (fun _ => by first | rfl | (simp (disch := omega) only [SB.den, SI.den, wrapN] <;> omega)) Try.underlying22 Try.sizeOf5 (fun _ => by omega) hp (by omega)), hpr _ (ValOk.at (z := f+root) rfl rfl (fun _ => by first | rfl | (simp (disch := omega) only [SB.den, SI.den, wrapN] <;> omega)) Try.underlying22 Try.sizeOf5 (fun _ => by omega) hp (by omega)), hfin _ _ ?_⟩
    refine X.cond rfl (fun hr => ?_) (fun hr => ?_)
    · simp only [SB.T, SB.F] at hr
      subst hr
      refine X.go T96_ok 400 _ rfl Try.results96 ?_
      conv => arg 2; cbv
      refine X.done T96_ok rfl (fun N w' v hN hS hv => ⟨?_, ?_⟩)
      · simp only [resV, SV.den, SV.denL, Option.some.injEq] at hv
        rw [← hv]
      · rw [hxr, hxc, ← ht2] at hFc
        simp only [Bool.not_false, if_true] at hFc
        rw [← hFc]
        exact Sat.arr hS hA hn hd1
    · simp only [SB.T, SB.F] at hr
      subst hr
      refine X.take2 hA hn hd1 (i := f + root) (j := f + c1) (by omega) (by omega) (by omega) hxr hxc (by simp) (fun N1 _ hN1 => ?_)
      have g0 : ((N1 ++ [⟨b, y + (f + root), 1⟩]) ++ [⟨b, y + (f + c1), 1⟩] : Nums)[0]? = some ⟨b, y + (f + root), 1⟩ := num_old (num_last hN1)
      have g1 : ((N1 ++ [⟨b, y + (f + root), 1⟩]) ++ [⟨b, y + (f + c1), 1⟩] : Nums)[1]? = some ⟨b, y + (f + c1), 1⟩ := num_last (by simp [hN1])
      refine X.goP ([(65, .own 1 0), (71, .own 0 0), (73, .own 0 0), (74, .own 1 0)]) T96_ok 400 _ rfl Try.results96 (fun pr fin hpr hfin => ?_)
      conv => cbv
      refine ⟨hpr _ (ValOk.row (z := f+c1) rfl rfl (fun _ => by first | rfl | (simp (disch := omega) only [SB.den, SI.den, wrapN] <;> omega)) Try.underlying22 Try.sizeOf5 (by omega) hp g1 rfl (by simp)), hpr _ (ValOk.row (z := f+root) rfl rfl (fun _ => by first | rfl | (simp (disch := omega) only [SB.den, SI.den, wrapN] <;> omega)) Try.underlying22 Try.sizeOf5 (by omega) hp g0 rfl (by simp)), hpr _ (ValOk.row (z := f+root) rfl rfl (fun _ => by first | rfl | (simp (disch := omega) only [SB.den, SI.den, wrapN] <;> omega)) Try.underlying22 Try.sizeOf5 (by omega) hp g0 rfl (by simp)), hpr _ (ValOk.row (z := f+c1) rfl rfl (fun _ => by first | rfl | (simp (disch := omega) only [SB.den, SI.den, wrapN] <;> omega)) Try.underlying22 Try.sizeOf5 (by omega) hp g1 rfl (by simp)), hfin _ _ ?_⟩
      refine X.give2 (i := f + root) (j := f + c1) (r := 0) hd1 (by omega) (by omega) (by omega) hxr hxc rfl rfl g0 g1 ?_
      refine X.back (fun N ac w' hN hf hS => hq ⟨(c1, swp d1 (f + root) (f + c1)), by rw [swpZ_size]; exact hd1, by simp only; omega, ?_⟩ ac w' (by simp only; omega) ?_)
      · rw [hxr, hxc, ← ht2] at hFc
        simp only [Bool.not_true, Bool.false_eq_true, if_false] at hFc
        exact hFc
      · exact At.again hf hS (by repeat first | exact trivial | refine ⟨⟨_, rfl, .inl ⟨rfl, rfl⟩⟩, ?_⟩ | refine ⟨⟨_, rfl, .inr ⟨_, rfl, rfl⟩⟩, ?_⟩ | refine ⟨⟨_, rfl, .inr ⟨_, rfl, by simp (disch := omega) [SV.den, SI.den, wrapU, wrapD] <;> omega⟩⟩, ?_⟩) trivial
  · simp (disch := omega) only [SB.F, SI.den, wrapN] at hc
    rw [hx1, hx2, ← ht, if_neg (by rcases hc with h | h; simp; omega; simp [h])] at hFi
    have hFc : (if (!ltInt d1[f + root]! d1[f + ch]!) = true then d1 else siftDown ltInt hi f ch (swp d1 (f + root) (f + ch))) = F := by
      rw [hx1]; exact hFi
    obtain ⟨xr, hxr⟩ : ∃ x, d1[f + root]! = x := ⟨_, rfl⟩
    obtain ⟨xc, hxc⟩ : ∃ x, d1[f + ch]! = x := ⟨_, rfl⟩
    obtain ⟨t2, ht2⟩ : ∃ t, t = ltInt xr xc := ⟨_, rfl⟩
    obtain ⟨or, hor⟩ : ∃ o, o = y + (f + root) := ⟨_, rfl⟩
    obtain ⟨oc, hoc⟩ : ∃ o, o = y + (f + ch) := ⟨_, rfl⟩
    refine X.goP ([(43, .ext b or 0), (44, .int .u8 (.v xr)), (49, .ext b oc 0), (50, .int .u8 (.v xc)), (51, .bool (.v t2))]) T96_ok 400 _ rfl Try.results96 (fun pr fin hpr hfin => ?_)
    conv => cbv
    refine ⟨hpr _ (less_call rfl ht2), hpr _ (ValOk.im1 rfl Try.isAgg5 (fun _ => rfl) fun _ => (by rw [← hxc, hoc]; exact arrM_in (by omega))), hpr _ (ValOk.im1 rfl Try.isAgg5 (fun _ => rfl) fun _ => (by rw [← hxr, hor]; exact arrM_in (by omega))), hpr _ (ValOk.at (z := f+ch) rfl rfl (fun _ => by first | rfl | (simp (disch := omega) only [SB.den, SI.den, wrapN] <;> omega)) Try.underlying22 Try.sizeOf5 (fun _ => by omega) hp (by omega)), hpr _ (ValOk.at (z := f+root) rfl rfl (fun _ => by first | rfl | (simp (disch := omega) only [SB.den, SI.den, wrapN] <;> omega)) Try.underlying22 Try.sizeOf5 (fun _ => by omega) hp (by omega)), hfin _ _ ?_⟩
    refine X.cond rfl (fun hr => ?_) (fun hr => ?_)
    · simp only [SB.T, SB.F] at hr
      subst hr
      refine X.go T96_ok 400 _ rfl Try.results96 ?_
      conv => arg 2; cbv
      refine X.done T96_ok rfl (fun N w' v hN hS hv => ⟨?_, ?_⟩)
      · simp only [resV, SV.den, SV.denL, Option.some.injEq] at hv
        rw [← hv]
      · rw [hxr, hxc, ← ht2] at hFc
        simp only [Bool.not_false, if_true] at hFc
        rw [← hFc]
        exact Sat.arr hS hA hn hd1
    · simp only [SB.T, SB.F] at hr
      subst hr
      refine X.take2 hA hn hd1 (i := f + root) (j := f + ch) (by omega) (by omega) (by omega) hxr hxc (by simp) (fun N1 _ hN1 => ?_)
      have g0 : ((N1 ++ [⟨b, y + (f + root), 1⟩]) ++ [⟨b, y + (f + ch), 1⟩] : Nums)[0]? = some ⟨b, y + (f + root), 1⟩ := num_old (num_last hN1)
      have g1 : ((N1 ++ [⟨b, y + (f + root), 1⟩]) ++ [⟨b, y + (f + ch), 1⟩] : Nums)[1]? = some ⟨b, y + (f + ch), 1⟩ := num_last (by simp [hN1])
      refine X.goP ([(65, .own 1 0), (71, .own 0 0), (73, .own 0 0), (74, .own 1 0)]) T96_ok 400 _ rfl Try.results96 (fun pr fin hpr hfin => ?_)
      conv => cbv
      refine ⟨hpr _ (ValOk.row (z := f+ch) rfl rfl (fun _ => by first | rfl | (simp (disch := omega) only [SB.den, SI.den, wrapN] <;> omega)) Try.underlying22 Try.sizeOf5 (by omega) hp g1 rfl (by simp)), hpr _ (ValOk.row (z := f+root) rfl rfl (fun _ => by first | rfl | (simp (disch := omega) only [SB.den, SI.den, wrapN] <;> omega)) Try.underlying22 Try.sizeOf5 (by omega) hp g0 rfl (by simp)), hpr _ (ValOk.row (z := f+root) rfl rfl (fun _ => by first | rfl | (simp (disch := omega) only [SB.den, SI.den, wrapN] <;> omega)) Try.underlying22 Try.sizeOf5 (by omega) hp g0 rfl (by simp)), hpr _ (ValOk.row (z := f+ch) rfl rfl (fun _ => by first | rfl | (simp (disch := omega) only [SB.den, SI.den, wrapN] <;> omega)) Try.underlying22 Try.sizeOf5 (by omega) hp g1 rfl (by simp)), hfin _ _ ?_⟩
      refine X.give2 (i := f + root) (j := f + ch) (r := 0) hd1 (by omega) (by omega) (by omega) hxr hxc rfl rfl g0 g1 ?_
      refine X.back (fun N ac w' hN hf hS => hq ⟨(ch, swp d1 (f + root) (f + ch)), by rw [swpZ_size]; exact hd1, by simp only; omega, ?_⟩ ac w' (by simp only; omega) ?_)
      · rw [hxr, hxc, ← ht2] at hFc
        simp only [Bool.not_true, Bool.false_eq_true, if_false] at hFc
        exact hFc
      · exact At.again hf hS (by repeat first | exact trivial | refine ⟨⟨_, rfl, .inl ⟨rfl, rfl⟩⟩, ?_⟩ | refine ⟨⟨_, rfl, .inr ⟨_, rfl, rfl⟩⟩, ?_⟩ | refine ⟨⟨_, rfl, .inr ⟨_, rfl, by simp (disch := omega) [SV.den, SI.den, wrapU, wrapD] <;> omega⟩⟩, ?_⟩) trivial

end Go.Proofs.Ythaffebapmkppaa
