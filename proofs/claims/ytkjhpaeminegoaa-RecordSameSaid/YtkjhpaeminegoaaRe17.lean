/- States held against each other. -/
import Derived.Test.YtkjhpaeminegoaaRe15

namespace Go.Proofs.Ytkjhpaeminegoaa
open Go Go.Eng

structure StP where
  (slots : Nat → SlotP) (fence life : Int) (conf : ConfP)
def StP.same (x y : StP) : Prop := (∀ i, i < 16 → x.slots i = y.slots i) ∧ x.fence = y.fence ∧ x.life = y.life ∧ x.conf = y.conf
def StRep (M : Mem) (s : StateC) (x : StP) : Prop := (∀ i, i < 16 → RepL M (x.slots i).toD (s.slots i).vals) ∧ s.fence = x.fence ∧ s.life = x.life ∧ RepL M x.conf.toD s.cf.vals

set_option maxHeartbeats 8000000 in
set_option maxRecDepth 100000 in
set_option cbv.maxSteps 100000000 in
theorem same14_ok (s1 s2 : StateC) (x y : StP) (w : World) (ha : StRep (wm w) s1 x) (hb : StRep (wm w) s2 y) (u1 : U8 x.conf.old) (u2 : U8 x.conf.new) (u3 : U8 y.conf.old) (u4 : U8 y.conf.new) :
    Calls Try.prog 32 #[.agg s1.vals.toArray, .agg s2.vals.toArray] w fun e w' => e = .returned (.bool (B (x.same y))) ∧ Chg (fun _ _ => False) w w' := by
  obtain ⟨ha1, ha2, ha3, ha4⟩ := ha
  obtain ⟨hb1, hb2, hb3, hb4⟩ := hb
  obtain ⟨q, hq⟩ : ∃ q, q = B (x.same y) := ⟨_, rfl⟩
  obtain ⟨h2, hh2⟩ : ∃ h, h = B (x.conf = y.conf) := ⟨_, rfl⟩
  have hcf := fun (w1 : World) hi1 => confSameR_ok x.conf y.conf _ _ w1 (ha4.later (im := elsewhere [] [] w) rfl hi1) (hb4.later rfl hi1) u1 u2 u3 u4
  rw [← hh2] at hcf
  rw [← hq]
  refine X.begin (rg := []) (N := []) (ss := [.agg (StateC.svs s1), .agg (StateC.svs s2)]) Try.func32 rfl B32_ok rfl rfl Sat.std0 ?_
  obtain ⟨im, hime⟩ : ∃ im, im = elsewhere [] [] w := ⟨_, rfl⟩
  show X (mkE Try.prog Try.f32 _ w (InR [] []) (elsewhere [] [] w) (fun _ _ => False) (fun _ => True) [] B32) _ _
  rw [← hime] at hcf ⊢
  refine X.go T32_ok 400 _ rfl Try.results32 ?_
  conv => arg 2; cbv
  refine X.loop1 (fun i : {i : Nat // i ≤ 16 ∧ ∀ j, j < i → x.slots j = y.slots j} => ⟨[(2, .val (.own 0 0)), (3, .val (.own 1 0)), (6, .val (.int .i64 (.nat i.1)))], [⟨true, StateC.svs s1, none⟩, ⟨true, StateC.svs s2, none⟩]⟩) (fun i => 16 - i.1) (fun N a w' hN hf hS => ⟨⟨0, Nat.zero_le _, fun j hj => by omega⟩, ?_⟩) (fun i q' hq' => ?_)
  · exact At.again hf hS (by repeat first | exact trivial | refine ⟨⟨_, rfl, .inl ⟨rfl, rfl⟩⟩, ?_⟩ | refine ⟨⟨_, rfl, .inr ⟨_, rfl, rfl⟩⟩, ?_⟩ | refine ⟨⟨_, rfl, .inr ⟨_, rfl, by simp (disch := omega) [SV.den, SI.den, wrapU]⟩⟩, ?_⟩) (by repeat first | exact trivial | refine ⟨fun h => h, SubC.refl rfl, rfl, ?_⟩)
  obtain ⟨i, hi, hno⟩ := i
  refine X.go T32_ok 400 _ rfl Try.results32 ?_
  conv => arg 2; cbv
  refine X.cond rfl (fun hlt => ?_) (fun hge => ?_)
  · simp only [SB.T, SI.den] at hlt
    have hlt : i < 16 := by omega
    obtain ⟨h, hh⟩ : ∃ h, h = B (x.slots i = y.slots i) := ⟨_, rfl⟩
    have hc := fun (w1 : World) hi1 => sameSlot_ok (s1.slots i) (s2.slots i) (x.slots i) (y.slots i) w1 ((ha1 i hlt).later hime hi1) ((hb1 i hlt).later hime hi1)
    rw [← hh] at hc
    obtain ⟨c0, hc0⟩ : ∃ c, c = i * 15 := ⟨_, rfl⟩
    have k1 := s1.svs_row hlt
    have k2 := s2.svs_row hlt
    have l1 := s1.svs_len
    have l2 := s2.svs_len
    rw [← hc0] at k1 k2
    refine X.goP ([(11, .own 0 c0), (12, .agg (SlotC.svs (s1.slots i))), (15, .own 1 c0), (16, .agg (SlotC.svs (s2.slots i))), (17, .bool (.v h))]) T32_ok 400 _ rfl Try.results32 (fun pr fin hpr hfin => ?_)
    conv => cbv
    refine ⟨hpr _ (.of Try.call55 [.agg _, .agg _] (.bool h) (fun _ => rfl) (fun _ => rfl) fun _ w1 hi1 => hc w1 hi1),
      hpr _ (ValOk.loadOwn (gg := ⟨true, StateC.svs s2, none⟩) T32_ok rfl rfl rfl rfl (by show c0 + 15 ≤ (StateC.svs s2).length; omega) k2), hpr _ (ValOk.loadOwn (gg := ⟨true, StateC.svs s1, none⟩) T32_ok rfl rfl rfl rfl (by show c0 + 15 ≤ (StateC.svs s1).length; omega) k1),
      hpr _ (ValOk.arrOwn (z := i) rfl rfl (fun _ => rfl) Try.underlying66 Try.sizeOf65 hlt (by rw [hc0, Nat.zero_add]) (Nat.succ_lt_succ (Nat.zero_lt_succ _))), hpr _ (ValOk.arrOwn (z := i) rfl rfl (fun _ => rfl) Try.underlying66 Try.sizeOf65 hlt (by rw [hc0, Nat.zero_add]) (Nat.zero_lt_succ _)), hfin _ _ ?_⟩
    refine X.cond rfl (fun hne => ?_) (fun heq => ?_)
    · simp only [SB.T, SB.F] at hne
      refine X.go T32_ok 400 _ rfl Try.results32 ?_
      conv => arg 2; cbv
      refine X.done T32_ok rfl (fun N w' v hN hS hv => ⟨fin_bool hv ?_, hS.chg.mono fun k o _ h => inR_nil h⟩)
      rw [hq]
      refine (B_neg fun e => ?_).symm
      rw [hh, B_pos (e.1 i hlt)] at hne
      cases hne
    · simp only [SB.T, SB.F] at heq
      rw [hh, B_iff] at heq
      refine X.go T32_ok 400 _ rfl Try.results32 ?_
      conv => arg 2; cbv
      refine X.back (fun N a w' hN hf hS => hq' ⟨i + 1, by omega, fun j hj => ?_⟩ a w' (by simp only; omega) ?_)
      · by_cases e : j = i
        · rw [e]; exact heq
        · exact hno j (by omega)
      exact At.again hf hS (by repeat first | exact trivial | refine ⟨⟨_, rfl, .inl ⟨rfl, rfl⟩⟩, ?_⟩ | refine ⟨⟨_, rfl, .inr ⟨_, rfl, rfl⟩⟩, ?_⟩ | refine ⟨⟨_, rfl, .inr ⟨_, rfl, by simp (disch := omega) [SV.den, SI.den, wrapU]⟩⟩, ?_⟩) (by repeat first | exact trivial | refine ⟨fun h => h, SubC.refl rfl, rfl, ?_⟩)
  simp only [SB.F, SI.den] at hge
  obtain rfl : i = 16 := by omega
  refine X.goP ([(37, .bool (.v h2))]) T32_ok 400 _ rfl Try.results32 (fun pr fin hpr hfin => ?_)
  conv => cbv
  refine ⟨hpr _ (.of Try.call56 [.agg _, .agg _] (.bool h2) (fun _ => rfl) (fun _ => rfl) fun _ w1 hi1 => hcf w1 hi1), hfin _ _ ?_⟩
  refine X.done T32_ok rfl (fun N w' v hN hS hv => ⟨fin_bool hv ?_, hS.chg.mono fun k o _ h => inR_nil h⟩)
  refine den_of ?_
  simp only [SB.T, SI.den, SB.den]
  rw [hq, B_iff, hh2, B_iff]
  unfold StP.same
  show (s1.fence = s2.fence ∧ s1.life = s2.life) ∧ _ ↔ _
  rw [ha2, hb2, ha3, hb3]
  exact ⟨fun h => ⟨fun j hj => hno j hj, h.1.1, h.1.2, h.2⟩, fun h => ⟨⟨h.2.1, h.2.2.1⟩, h.2.2.2⟩⟩

set_option maxHeartbeats 8000000 in
set_option maxRecDepth 100000 in
set_option cbv.maxSteps 100000000 in
theorem recSame_ok (s1 s2 : StateC) (x y : StP) (w : World) (ha : StRep (wm w) s1 x) (hb : StRep (wm w) s2 y) :
    Calls Try.prog 31 #[.agg s1.vals.toArray, .agg s2.vals.toArray] w fun e w' => e = .returned (.bool (B (x.same y))) ∧ Chg (fun _ _ => False) w w' := by
  obtain ⟨ha1, ha2, ha3, ha4⟩ := ha
  obtain ⟨hb1, hb2, hb3, hb4⟩ := hb
  obtain ⟨q, hq⟩ : ∃ q, q = B (x.same y) := ⟨_, rfl⟩
  obtain ⟨h2, hh2⟩ : ∃ h, h = B (x.conf = y.conf) := ⟨_, rfl⟩
  have hcf := fun (w1 : World) hi1 => confSame_ok x.conf y.conf _ _ w1 (ha4.later (im := elsewhere [] [] w) rfl hi1) (hb4.later rfl hi1)
  rw [← hh2] at hcf
  rw [← hq]
  refine X.begin (rg := []) (N := []) (ss := [.agg (StateC.svs s1), .agg (StateC.svs s2)]) Try.func31 rfl B31_ok rfl rfl Sat.std0 ?_
  obtain ⟨im, hime⟩ : ∃ im, im = elsewhere [] [] w := ⟨_, rfl⟩
  show X (mkE Try.prog Try.f31 _ w (InR [] []) (elsewhere [] [] w) (fun _ _ => False) (fun _ => True) [] B31) _ _
  rw [← hime] at hcf ⊢
  refine X.go T31_ok 400 _ rfl Try.results31 ?_
  conv => arg 2; cbv
  refine X.loop1 (fun i : {i : Nat // i ≤ 16 ∧ ∀ j, j < i → x.slots j = y.slots j} => ⟨[(2, .val (.own 0 0)), (3, .val (.own 1 0)), (9, .val (.agg (cat (fun i => (s1.slots i).svs) 0 16))), (10, .val (.int .i64 (.nat i.1)))], [⟨true, StateC.svs s1, none⟩, ⟨true, StateC.svs s2, none⟩]⟩) (fun i => 16 - i.1) (fun N a w' hN hf hS => ⟨⟨0, Nat.zero_le _, fun j hj => by omega⟩, ?_⟩) (fun i q' hq' => ?_)
  · exact At.again hf hS (by repeat first | exact trivial | refine ⟨⟨_, rfl, .inl ⟨rfl, rfl⟩⟩, ?_⟩ | refine ⟨⟨_, rfl, .inr ⟨_, rfl, rfl⟩⟩, ?_⟩ | refine ⟨⟨_, rfl, .inr ⟨_, rfl, by simp (disch := omega) [SV.den, SI.den, wrapU]⟩⟩, ?_⟩) (by repeat first | exact trivial | refine ⟨fun h => h, SubC.refl rfl, rfl, ?_⟩)
  obtain ⟨i, hi, hno⟩ := i
  refine X.go T31_ok 400 _ rfl Try.results31 ?_
  conv => arg 2; cbv
  refine X.cond rfl (fun hlt => ?_) (fun hge => ?_)
  · simp only [SB.T, SI.den] at hlt
    have hlt : i < 16 := by omega
    obtain ⟨a1, a2, a3, a4, a5, a6, a7, har⟩ := SlotP.cells (ha1 i hlt)
    obtain ⟨b1, b2, b3, b4, b5, b6, b7, hbr⟩ := SlotP.cells (hb1 i hlt)
    obtain ⟨h, hh⟩ : ∃ h, h = B ((x.slots i).reg = (y.slots i).reg) := ⟨_, rfl⟩
    have hc := fun (w1 : World) hi1 => regSame_ok (x.slots i).reg (y.slots i).reg _ _ w1 (har.later hime hi1) (hbr.later hime hi1)
    rw [← hh] at hc
    clear har hbr
    obtain ⟨c0, hc0⟩ : ∃ c, c = i * 15 := ⟨_, rfl⟩
    have k1 := s1.arr_row hlt
    have k2 := s2.svs_row hlt
    have l1 := cat_length (f := fun i => (s1.slots i).svs) (q := 15) (fun _ => rfl) 16 0
    have l2 := s2.svs_len
    rw [← hc0] at k2
    obtain ⟨t1, ht1⟩ : ∃ t, t = s1.slots i := ⟨_, rfl⟩
    obtain ⟨t2, ht2⟩ : ∃ t, t = s2.slots i := ⟨_, rfl⟩
    rw [← ht1] at a1 a2 a3 a4 a5 a6 a7 k1 hc
    rw [← ht2] at b1 b2 b3 b4 b5 b6 b7 k2 hc
    obtain ⟨q1, q2, q3, q4, q5, q6, q7, q8, q9, q10, q11, q12, q13, q14, q15, q16, q17, q18, q19, q20, q21, q22, q23⟩ := t1
    obtain ⟨r1, r2, r3, r4, r5, r6, r7, r8, r9, r10, r11, r12, r13, r14, r15, r16, r17, r18, r19, r20, r21, r22, r23⟩ := t2
    refine X.goP ([(13, .agg (SlotC.svs ⟨q1, q2, q3, q4, q5, q6, q7, q8, q9, q10, q11, q12, q13, q14, q15, q16, q17, q18, q19, q20, q21, q22, q23⟩)), (16, .own 1 c0), (17, .agg (SlotC.svs ⟨r1, r2, r3, r4, r5, r6, r7, r8, r9, r10, r11, r12, r13, r14, r15, r16, r17, r18, r19, r20, r21, r22, r23⟩)), (42, .bool (.v h))]) T31_ok 400 _ rfl Try.results31 (fun pr fin hpr hfin => ?_)
    conv => cbv
    refine ⟨hpr _ (.of Try.call53 [.agg _, .agg _] (.bool h) (fun _ => rfl) (fun _ => rfl) fun _ w1 hi1 => hc w1 hi1),
      hpr _ (ValOk.loadOwn (gg := ⟨true, StateC.svs s2, none⟩) T31_ok rfl rfl rfl rfl (by show c0 + 15 ≤ (StateC.svs s2).length; omega) k2), hpr _ (ValOk.arrOwn (z := i) rfl rfl (fun _ => rfl) Try.underlying66 Try.sizeOf65 hlt (by rw [hc0, Nat.zero_add]) (Nat.succ_lt_succ (Nat.zero_lt_succ _))),
      hpr _ (ValOk.idxAgg (cs := cat (fun i => (s1.slots i).svs) 0 16) (z := i) rfl rfl (fun _ => rfl) Try.underlying66 Try.sizeOf65 (T31_ok.ok 65 _ rfl).agg hlt (by omega) k1), hfin _ _ ?_⟩
    have hxy : x.slots i = y.slots i ↔ ((((((q1 = r1 ∧ q2 = r2) ∧ q3 = r3) ∧ q4 = r4) ∧ q5 = r5) ∧ q6 = r6) ∧ q7 = r7) ∧ h = true := by
      rw [hh, B_iff]
      simp only at a1 a2 a3 a4 a5 a6 a7 b1 b2 b3 b4 b5 b6 b7
      subst a1 a2 a3 a4 a5 a6 a7 b1 b2 b3 b4 b5 b6 b7
      cases x.slots i with | mk h1 p1 c1 g1 => cases y.slots i with | mk h2 p2 c2 g2 => cases p1; cases p2; cases c1; cases c2; simp [and_assoc]
    refine X.cond rfl (fun hne => ?_) (fun heq => ?_)
    · simp only [SB.T, SB.F, SI.den, SB.den] at hne
      refine X.go T31_ok 400 _ rfl Try.results31 ?_
      conv => arg 2; cbv
      refine X.done T31_ok rfl (fun N w' v hN hS hv => ⟨fin_bool hv ?_, hS.chg.mono fun k o _ h => inR_nil h⟩)
      rw [hq]
      refine (B_neg fun e => ?_).symm
      have := hxy.1 (e.1 i hlt)
      grind
    · simp only [SB.T, SB.F, SI.den, SB.den] at heq
      refine X.go T31_ok 400 _ rfl Try.results31 ?_
      conv => arg 2; cbv
      refine X.back (fun N a w' hN hf hS => hq' ⟨i + 1, by omega, fun j hj => ?_⟩ a w' (by simp only; omega) ?_)
      · by_cases e : j = i
        · rw [e]; refine hxy.2 ?_
          grind
        · exact hno j (by omega)
      exact At.again hf hS (by repeat first | exact trivial | refine ⟨⟨_, rfl, .inl ⟨rfl, rfl⟩⟩, ?_⟩ | refine ⟨⟨_, rfl, .inr ⟨_, rfl, rfl⟩⟩, ?_⟩ | refine ⟨⟨_, rfl, .inr ⟨_, rfl, by simp (disch := omega) [SV.den, SI.den, wrapU]⟩⟩, ?_⟩) (by repeat first | exact trivial | refine ⟨fun h => h, SubC.refl rfl, rfl, ?_⟩)
  simp only [SB.F, SI.den] at hge
  obtain rfl : i = 16 := by omega
  refine X.goP ([(63, .bool (.v h2))]) T31_ok 400 _ rfl Try.results31 (fun pr fin hpr hfin => ?_)
  conv => cbv
  refine ⟨hpr _ (.of Try.call54 [.agg _, .agg _] (.bool h2) (fun _ => rfl) (fun _ => rfl) fun _ w1 hi1 => hcf w1 hi1), hfin _ _ ?_⟩
  refine X.done T31_ok rfl (fun N w' v hN hS hv => ⟨fin_bool hv ?_, hS.chg.mono fun k o _ h => inR_nil h⟩)
  refine den_of ?_
  simp only [SB.T, SI.den, SB.den]
  rw [hq, B_iff, hh2, B_iff]
  unfold StP.same
  show (s1.fence = s2.fence ∧ s1.life = s2.life) ∧ _ ↔ _
  rw [ha2, hb2, ha3, hb3]
  exact ⟨fun h => ⟨fun j hj => hno j hj, h.1.1, h.1.2, h.2⟩, fun h => ⟨⟨h.2.1, h.2.2.1⟩, h.2.2.2⟩⟩

end Go.Proofs.Ytkjhpaeminegoaa
