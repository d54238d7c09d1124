/- Rows of bytes: less; sorting by insertion. -/
import Derived.Test.YthaffebapmkppaaPd1

namespace Go.Proofs.Ythaffebapmkppaa
open Go Go.Eng Go.Sort

set_option maxRecDepth 100000 in
set_option cbv.maxSteps 100000000 in
theorem nan8_ok (x : Int) (w : World) : Calls Try.prog 93 #[.int .u8 x] w fun e w' => e = .returned (.bool false) ∧ Chg (fun _ _ => False) w w' := by
  refine X.begin (rg := []) (N := []) (ss := [.int .u8 (.v x)]) Try.func93 rfl B93_ok rfl rfl Sat.std0 ?_
  refine X.go T93_ok 400 _ rfl Try.results93 ?_
  conv => arg 2; cbv
  refine X.done T93_ok rfl (fun N w' v hN hS hv => ⟨fin_bool hv ?_, hS.chg.mono fun k o _ h => inR_nil h⟩)
  simp [SB.den, SI.den]

set_option maxRecDepth 100000 in
set_option cbv.maxSteps 100000000 in
theorem less8_ok (x y : Int) (w : World) : Calls Try.prog 70 #[.int .u8 x, .int .u8 y] w fun e w' => e = .returned (.bool (ltInt x y)) ∧ Chg (fun _ _ => False) w w' := by
  refine X.begin (rg := []) (N := []) (ss := [.int .u8 (.v x), .int .u8 (.v y)]) Try.func70 rfl B70_ok rfl rfl Sat.std0 ?_
  refine X.goP ([(6, .bool (.lit false))]) T70_ok 400 _ rfl Try.results70 (fun pr fin hpr hfin => ?_)
  conv => cbv
  refine ⟨hpr _ (.of Try.call93 [.int .u8 x] (.bool false) (fun _ => rfl) (fun _ => rfl) fun _ w1 _ => nan8_ok x w1), hfin _ _ ?_⟩
  refine X.done T70_ok rfl (fun N w' v hN hS hv => ⟨fin_bool hv ?_, hS.chg.mono fun k o _ h => inR_nil h⟩)
  simp only [SB.den, SI.den, ltInt]
  exact decide_eq_decide.2 Iff.rfl

/-- less, called -/
theorem less_call {E : Env} (hE : E.P = Try.prog) {N0 : Nums} {rg : List Rg} {k : GK} {x y : Int} {q : Bool} (hq : q = ltInt x y) : CallOk E N0 rg k 70 [.int .u8 (.v x), .int .u8 (.v y)] (.bool (.v q)) := by
  refine .of (by rw [hE]; exact Try.call70) [.int .u8 x, .int .u8 y] (.bool q) (fun _ => rfl) (fun _ => rfl) fun _ w1 _ => ?_
  rw [hE, hq]
  exact less8_ok x y w1

set_option maxHeartbeats 4000000 in
set_option maxRecDepth 100000 in
set_option cbv.maxSteps 100000000 in
theorem ins8_ok (b y n c a e : Nat) (d : Array Int) (w : World) (hA : AtA w b y d) (hn : d.size = n) (han : a ≤ n) (hen : e ≤ n) (hbig : n < 4611686018427387904) :
    Calls Try.prog 74 #[.slice (some ⟨b, y, none⟩) n c, .int .i64 a, .int .i64 e] w (PostA b y n w (insertionSort ltInt d a e)) := by
  obtain ⟨F, hF⟩ : ∃ F, F = insertionSort ltInt d a e := ⟨_, rfl⟩
  rw [← hF]
  obtain ⟨p, hp⟩ : ∃ p, p = some (Addr.mk b y none) := ⟨_, rfl⟩
  rw [← hp]
  refine X.beginA hA hn (ss := [.slv p n c, .int .i64 (.nat a), .int .i64 (.nat e)]) Try.func74 rfl B74_ok rfl rfl ?_
  refine X.go T74_ok 400 _ rfl Try.results74 ?_
  conv => arg 2; cbv
  refine X.loop (fun g : {g : Nat × Array Int // g.2.size = n ∧ a + 1 ≤ g.1 ∧ g.1 ≤ n + 1 ∧ insOuter ltInt a e g.1 g.2 = F} => aE Try.prog Try.f74 _ w b y n (wm w) g.1.2 [] B74)
    (fun g => ⟨[(0, .val (.slv p n c)), (1, .val (.int .i64 (.nat a))), (2, .val (.int .i64 (.nat e))), (6, .val (.int .i64 (.nat g.1.1)))], []⟩) (fun g => n + 1 - g.1.1) (fun _ => ⟨rfl, rfl, rfl, rfl⟩)
    (fun N ac w' hN hf hS => ⟨⟨(a + 1, d), hn, Nat.le_refl _, by omega, hF.symm⟩, ?_⟩) (fun g q' hq' => ?_)
  · exact At.again hf hS (by repeat first | exact trivial | refine ⟨⟨_, rfl, .inl ⟨rfl, rfl⟩⟩, ?_⟩ | refine ⟨⟨_, rfl, .inr ⟨_, rfl, rfl⟩⟩, ?_⟩ | refine ⟨⟨_, rfl, .inr ⟨_, rfl, by simp (disch := omega) [SV.den, SI.den, wrapU, wrapD] <;> omega⟩⟩, ?_⟩) trivial
  obtain ⟨⟨i, d1⟩, hd1, hi1, hi2, hFi⟩ := g
  simp only at hd1 hi1 hi2 hFi
  show X (aE Try.prog Try.f74 _ w b y n (wm w) d1 [] B74) _ ⟨[(0, .val (.slv p n c)), (1, .val (.int .i64 (.nat a))), (2, .val (.int .i64 (.nat e))), (6, .val (.int .i64 (.nat i)))], []⟩
  refine X.go T74_ok 400 _ rfl Try.results74 ?_
  conv => arg 2; cbv
  refine X.cond rfl (fun hlt => ?_) (fun hge => ?_)
  · simp only [SB.T, SI.den] at hlt
    have hlt : i < e := by omega
    refine X.go T74_ok 400 _ rfl Try.results74 ?_
    conv => arg 2; cbv
    rw [insOuter, if_pos hlt] at hFi
    refine X.loop (fun g : {g : Nat × Array Int // g.2.size = n ∧ g.1 ≤ i ∧ insOuter ltInt a e (i + 1) (insInner ltInt a g.1 g.2) = F} => aE Try.prog Try.f74 _ w b y n (wm w) g.1.2 [] B74)
      (fun g => ⟨[(0, .val (.slv p n c)), (1, .val (.int .i64 (.nat a))), (2, .val (.int .i64 (.nat e))), (6, .val (.int .i64 (.nat i))), (7, .val (.int .i64 (.nat g.1.1)))], []⟩) (fun g => g.1.1) (fun _ => ⟨rfl, rfl, rfl, rfl⟩)
      (fun N ac w' hN hf hS => ⟨⟨(i, d1), hd1, Nat.le_refl _, hFi⟩, ?_⟩) (fun g q2 hq2 => ?_)
    · exact At.again hf hS (by repeat first | exact trivial | refine ⟨⟨_, rfl, .inl ⟨rfl, rfl⟩⟩, ?_⟩ | refine ⟨⟨_, rfl, .inr ⟨_, rfl, rfl⟩⟩, ?_⟩ | refine ⟨⟨_, rfl, .inr ⟨_, rfl, by simp (disch := omega) [SV.den, SI.den, wrapU, wrapD] <;> omega⟩⟩, ?_⟩) trivial
    obtain ⟨⟨j, d2⟩, hd2, hji, hFj⟩ := g
    simp only at hd2 hji hFj
    obtain ⟨m, hm⟩ : ∃ m, m = j - 1 := ⟨_, rfl⟩
    obtain ⟨xj, hxj⟩ : ∃ x, d2[j]! = x := ⟨_, rfl⟩
    obtain ⟨xm, hxm⟩ : ∃ x, d2[m]! = x := ⟨_, rfl⟩
    obtain ⟨t, ht⟩ : ∃ t, t = ltInt xj xm := ⟨_, rfl⟩
    obtain ⟨oj, hoj⟩ : ∃ o, o = y + j := ⟨_, rfl⟩
    obtain ⟨om, hom⟩ : ∃ o, o = y + m := ⟨_, rfl⟩
    show X (aE Try.prog Try.f74 _ w b y n (wm w) d2 [] B74) _ ⟨[(0, .val (.slv p n c)), (1, .val (.int .i64 (.nat a))), (2, .val (.int .i64 (.nat e))), (6, .val (.int .i64 (.nat i))), (7, .val (.int .i64 (.nat j)))], []⟩
    refine X.goP ([(22, .ext b oj 0), (23, .int .u8 (.v xj)), (27, .ext b om 0), (28, .int .u8 (.v xm)), (29, .bool (.v t))]) T74_ok 400 _ rfl Try.results74 (fun pr fin hpr hfin => ?_)
    conv => cbv
    refine ⟨hpr _ (less_call rfl ht), hpr _ (ValOk.im1 rfl Try.isAgg5 (fun _ => rfl) fun hT => (by have hT : _ = true := hT; simp [SB.den, SI.den] at hT; (try replace hT := of_decide_eq_true hT); (try simp (disch := omega) only [SI.den, wrapN] at hT); rw [← hxm, hom]; exact arrM_in (by omega))), hpr _ (ValOk.im1 rfl Try.isAgg5 (fun _ => rfl) fun hT => (by have hT : _ = true := hT; simp [SB.den, SI.den] at hT; (try replace hT := of_decide_eq_true hT); (try simp (disch := omega) only [SI.den, wrapN] at hT); rw [← hxj, hoj]; exact arrM_in (by omega))), hpr _ (ValOk.at (z := m) rfl rfl (fun hT => by have hT : _ = true := hT; simp [SB.den, SI.den] at hT; (try replace hT := of_decide_eq_true hT); (try simp (disch := omega) only [SI.den, wrapN] at hT); first | omega | (simp (disch := omega) only [SI.den, wrapN] <;> omega)) Try.underlying22 Try.sizeOf5 (fun hT => by have hT : _ = true := hT; simp [SB.den, SI.den] at hT; (try replace hT := of_decide_eq_true hT); (try simp (disch := omega) only [SI.den, wrapN] at hT); first | omega | (simp (disch := omega) only [SI.den, wrapN] <;> omega)) hp (by omega)), hpr _ (ValOk.at (z := j) rfl rfl (fun hT => by have hT : _ = true := hT; simp [SB.den, SI.den] at hT; (try replace hT := of_decide_eq_true hT); (try simp (disch := omega) only [SI.den, wrapN] at hT); first | omega | (simp (disch := omega) only [SI.den, wrapN] <;> omega)) Try.underlying22 Try.sizeOf5 (fun hT => by have hT : _ = true := hT; simp [SB.den, SI.den] at hT; (try replace hT := of_decide_eq_true hT); (try simp (disch := omega) only [SI.den, wrapN] at hT); first | omega | (simp (disch := omega) only [SI.den, wrapN] <;> omega)) hp (by omega)), hfin _ _ ?_⟩
    refine X.cond rfl (fun hlt2 => ?_) (fun hge2 => ?_)
    · simp only [SB.T, SI.den] at hlt2
      obtain ⟨hja, htt⟩ := hlt2
      have hjm : j = m + 1 := by omega
      refine X.take2 hA hn hd2 (i := j) (j := m) (by omega) (by omega) (by omega) hxj hxm (by simp) (fun N1 _ hN1 => ?_)
      have g0 : ((N1 ++ [⟨b, y + j, 1⟩]) ++ [⟨b, y + m, 1⟩] : Nums)[0]? = some ⟨b, y + j, 1⟩ := num_old (num_last hN1)
      have g1 : ((N1 ++ [⟨b, y + j, 1⟩]) ++ [⟨b, y + m, 1⟩] : Nums)[1]? = some ⟨b, y + m, 1⟩ := num_last (by simp [hN1])
      refine X.goP ([(41, .own 1 0), (45, .own 0 0), (47, .own 0 0), (48, .own 1 0)]) T74_ok 400 _ rfl Try.results74 (fun pr fin hpr hfin => ?_)
      conv => cbv
      refine ⟨hpr _ (ValOk.row (z := m) rfl rfl (fun _ => by first | rfl | (simp (disch := omega) only [SB.den, SI.den, wrapN] <;> omega)) Try.underlying22 Try.sizeOf5 (by omega) hp g1 rfl (by simp)), hpr _ (ValOk.row (z := j) rfl rfl (fun _ => by first | rfl | (simp (disch := omega) only [SB.den, SI.den, wrapN] <;> omega)) Try.underlying22 Try.sizeOf5 (by omega) hp g0 rfl (by simp)), hpr _ (ValOk.row (z := j) rfl rfl (fun _ => by first | rfl | (simp (disch := omega) only [SB.den, SI.den, wrapN] <;> omega)) Try.underlying22 Try.sizeOf5 (by omega) hp g0 rfl (by simp)), hpr _ (ValOk.row (z := m) rfl rfl (fun _ => by first | rfl | (simp (disch := omega) only [SB.den, SI.den, wrapN] <;> omega)) Try.underlying22 Try.sizeOf5 (by omega) hp g1 rfl (by simp)), hfin _ _ ?_⟩
      refine X.give2 (i := j) (j := m) (r := 0) hd2 (by omega) (by omega) (by omega) hxj hxm rfl rfl g0 g1 ?_
      refine X.back (fun N ac w' hN hf hS => hq2 ⟨(m, swp d2 j m), by rw [swpZ_size]; exact hd2, by omega, ?_⟩ ac w' (by simp only; omega) ?_)
      · rw [← hFj, hjm, insInner, if_pos ?_]
        rw [← hjm, hxj, hxm, ← ht, htt]
        simp; omega
      · exact At.again hf hS (by repeat first | exact trivial | refine ⟨⟨_, rfl, .inl ⟨rfl, rfl⟩⟩, ?_⟩ | refine ⟨⟨_, rfl, .inr ⟨_, rfl, rfl⟩⟩, ?_⟩ | refine ⟨⟨_, rfl, .inr ⟨_, rfl, by simp (disch := omega) [SV.den, SI.den, wrapU, wrapD] <;> omega⟩⟩, ?_⟩) trivial
    · refine X.go T74_ok 400 _ rfl Try.results74 ?_
      conv => arg 2; cbv
      refine X.back (fun N ac w' hN hf hS => hq' ⟨(i + 1, d2), hd2, by omega, by omega, ?_⟩ ac w' (by simp only; omega) ?_)
      · simp only [SB.F, SI.den] at hge2
        rw [← hFj]
        cases j with
        | zero => rw [insInner]
        | succ j =>
          rw [insInner, if_neg ?_]
          obtain rfl : m = j := by omega
          rw [hxj, hxm, ← ht]
          rcases hge2 with h | h
          · simp; omega
          · simp [h]
      · exact At.again hf hS (by repeat first | exact trivial | refine ⟨⟨_, rfl, .inl ⟨rfl, rfl⟩⟩, ?_⟩ | refine ⟨⟨_, rfl, .inr ⟨_, rfl, rfl⟩⟩, ?_⟩ | refine ⟨⟨_, rfl, .inr ⟨_, rfl, by simp (disch := omega) [SV.den, SI.den, wrapU, wrapD] <;> omega⟩⟩, ?_⟩) trivial
  simp only [SB.F, SI.den] at hge
  refine X.go T74_ok 400 _ rfl Try.results74 ?_
  conv => arg 2; cbv
  refine X.over T74_ok rfl (fun N w' v hN hS hv => ⟨?_, ?_⟩)
  · simp only [resV, SV.den, SV.denL, Option.some.injEq] at hv
    rw [← hv]
  · rw [insOuter, if_neg (by omega)] at hFi
    rw [← hFi]
    exact Sat.arr hS hA hn hd1

end Go.Proofs.Ythaffebapmkppaa
