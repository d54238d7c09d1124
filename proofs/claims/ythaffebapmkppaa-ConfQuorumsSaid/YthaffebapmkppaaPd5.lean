/- Rows of bytes: which one parts them. -/
import Derived.Test.YthaffebapmkppaaPd4

namespace Go.Proofs.Ythaffebapmkppaa
open Go Go.Eng Go.Sort

/-- such bytes lie there still -/
theorem AtA.chg {w w' : World} {b y : Nat} {d : Array Int} {O : Nat → Nat → Prop} (h : AtA w b y d) (hc : Chg O w w') (hO : ∀ q, q < d.size → ¬ O b (y + q)) : AtA w' b y d := fun k hk => by
  obtain ⟨h1, h2⟩ := h k hk
  exact ⟨cell_of_chg hc (hO k hk) h1, by rw [frozen_of_chg hc _ (by rw [h1]; rfl)]; exact h2⟩

/-- one cell of one's own, elsewhere -/
theorem im_arr {w : World} {b y bs os q : Nat} {d : Array Int} {cs : List SV} (hA : AtA w b y d) (hb : bs ≠ b) (hq : q < d.size) : elsewhere [⟨bs, os, 1⟩] [⟨true, cs, none⟩] w b (y + q) = some (.int .u8 d[q]!) := by
  rw [elsewhere_not (fun ⟨r, g, p, hg, hp, _, h1, _⟩ => by
    cases r with
    | zero => simp at hp; subst hp; exact hb h1.symm
    | succ r => simp at hg)]
  exact (hA q hq).1

/-- what a function that counts in such a cell leaves -/
def PostC (bs os s : Nat) (w : World) (v : Value) : Ending → World → Prop := fun e w' => e = .returned v ∧ w'.cell? ⟨bs, os, none⟩ = some (.int .i64 s) ∧ Chg (fun k i => k = bs ∧ os ≤ i ∧ i < os + 1) w w'

theorem order2_lt {d : Array Int} {i j s n : Nat} (hi : i < n) (hj : j < n) : (order2 ltInt d i j s).1 < n ∧ (order2 ltInt d i j s).2.1 < n ∧ (order2 ltInt d i j s).2.2 ≤ s + 1 := by
  unfold order2
  split <;> exact ⟨by assumption, by assumption, by simp⟩

set_option maxHeartbeats 4000000 in
set_option maxRecDepth 100000 in
set_option cbv.maxSteps 100000000 in
theorem order8_ok (b y n c i j bs os s : Nat) (d : Array Int) (w : World) (hA : AtA w b y d) (hn : d.size = n) (hi : i < n) (hj : j < n) (hbig : n < 4611686018427387904) (hb : bs ≠ b) (hs : s < 1000) (h1 : w.cell? ⟨bs, os, none⟩ = some (.int .i64 s)) (h2 : w.frozen? ⟨bs, os, none⟩ = false) :
    Calls Try.prog 105 #[.slice (some ⟨b, y, none⟩) n c, .int .i64 i, .int .i64 j, .pointer (some ⟨bs, os, none⟩)] w (PostC bs os (order2 ltInt d i j s).2.2 w (.tuple #[.int .i64 (order2 ltInt d i j s).1, .int .i64 (order2 ltInt d i j s).2.1])) := by
  obtain ⟨p, hp⟩ : ∃ p, p = some (Addr.mk b y none) := ⟨_, rfl⟩
  rw [← hp]
  refine X.begin (rg := [⟨true, [.int .i64 (.nat s)], none⟩]) (N := [⟨bs, os, 1⟩]) (ss := [.slv p n c, .int .i64 (.nat i), .int .i64 (.nat j), .own 0 0]) Try.func105 rfl B105_ok rfl rfl (Sat.std1 true (World.block_lt_of_cell? _ _ h1) (fun q c hq => by cases q with
    | zero => simp at hq; subst hq; exact ⟨_, rfl, h1⟩
    | succ q => simp at hq) (fun _ q hq => by simp at hq; subst hq; exact h2)) ?_
  obtain ⟨im, hime⟩ : ∃ im, im = elsewhere [⟨bs, os, 1⟩] [⟨true, [.int .i64 (.nat s)], none⟩] w := ⟨_, rfl⟩
  have him : ∀ q, q < d.size → im b (y + q) = some (.int .u8 d[q]!) := fun q hq => by rw [hime]; exact im_arr hA hb hq
  show X (mkE Try.prog Try.f105 _ w (InR [⟨bs, os, 1⟩] [⟨true, [.int .i64 (.nat s)], none⟩]) (elsewhere [⟨bs, os, 1⟩] [⟨true, [.int .i64 (.nat s)], none⟩] w) (fun _ _ => False) (fun _ => True) _ B105) _ _
  rw [← hime]
  obtain ⟨xi, hxi⟩ : ∃ x, d[i]! = x := ⟨_, rfl⟩
  obtain ⟨xj, hxj⟩ : ∃ x, d[j]! = x := ⟨_, rfl⟩
  obtain ⟨t, ht⟩ : ∃ t, t = ltInt xj xi := ⟨_, rfl⟩
  obtain ⟨oi, hoi⟩ : ∃ o, o = y + i := ⟨_, rfl⟩
  obtain ⟨oj, hoj⟩ : ∃ o, o = y + j := ⟨_, rfl⟩
  refine X.goP ([(12, .ext b oj 0), (13, .int .u8 (.v xj)), (16, .ext b oi 0), (17, .int .u8 (.v xi)), (18, .bool (.v t))]) T105_ok 400 _ rfl Try.results105 (fun pr fin hpr hfin => ?_)
  conv => cbv
  refine ⟨hpr _ (less_call rfl ht), hpr _ (ValOk.im1 rfl Try.isAgg5 (fun _ => rfl) fun _ => (by rw [← hxi, hoi]; exact him _ (by omega))), hpr _ (ValOk.im1 rfl Try.isAgg5 (fun _ => rfl) fun _ => (by rw [← hxj, hoj]; exact him _ (by omega))), hpr _ (ValOk.at (z := i) rfl rfl (fun _ => by first | rfl | (simp (disch := omega) only [SB.den, SI.den, wrapN] <;> omega)) Try.underlying22 Try.sizeOf5 (fun _ => by omega) hp (by omega)), hpr _ (ValOk.at (z := j) rfl rfl (fun _ => by first | rfl | (simp (disch := omega) only [SB.den, SI.den, wrapN] <;> omega)) Try.underlying22 Try.sizeOf5 (fun _ => by omega) hp (by omega)), hfin _ _ ?_⟩
  have ho : order2 ltInt d i j s = if t = true then (j, i, s + 1) else (i, j, s) := by unfold order2; rw [hxi, hxj, ← ht]
  refine X.cond rfl (fun hT => ?_) (fun hT => ?_)
  · simp only [SB.T] at hT
    rw [if_pos hT] at ho
    rw [ho]
    refine X.go T105_ok 400 _ rfl Try.results105 ?_
    conv => arg 2; cbv
    refine X.done T105_ok rfl (fun N w' v hN hS hv => ⟨?_, ?_, hS.chg.rw1⟩)
    · simp only [resV, SV.den, SV.denL, SI.den, Option.some.injEq] at hv
      rw [← hv]
    · obtain ⟨v0, k1, k2⟩ := hS.cell 0 _ _ rfl (hN 0 _ rfl) 0 _ rfl
      simp (disch := omega) only [SV.den, SI.den, wrapN, Option.some.injEq] at k1
      subst k1
      exact k2
  · simp only [SB.F] at hT
    rw [if_neg (by rw [hT]; simp)] at ho
    rw [ho]
    refine X.go T105_ok 400 _ rfl Try.results105 ?_
    conv => arg 2; cbv
    refine X.done T105_ok rfl (fun N w' v hN hS hv => ⟨?_, ?_, hS.chg.rw1⟩)
    · simp only [resV, SV.den, SV.denL, SI.den, Option.some.injEq] at hv
      rw [← hv]
    · obtain ⟨v0, k1, k2⟩ := hS.cell 0 _ _ rfl (hN 0 _ rfl) 0 _ rfl
      simp only [SV.den, SI.den, Option.some.injEq] at k1
      subst k1
      exact k2

set_option maxHeartbeats 4000000 in
set_option maxRecDepth 100000 in
set_option cbv.maxSteps 100000000 in
theorem median8_ok (b y n c i j k bs os s : Nat) (d : Array Int) (w : World) (hA : AtA w b y d) (hn : d.size = n) (hi : i < n) (hj : j < n) (hk : k < n) (hbig : n < 4611686018427387904) (hb : bs ≠ b) (hs : s < 900) (h1 : w.cell? ⟨bs, os, none⟩ = some (.int .i64 s)) (h2 : w.frozen? ⟨bs, os, none⟩ = false) :
    Calls Try.prog 100 #[.slice (some ⟨b, y, none⟩) n c, .int .i64 i, .int .i64 j, .int .i64 k, .pointer (some ⟨bs, os, none⟩)] w (PostC bs os (median ltInt d i j k s).2 w (.int .i64 (median ltInt d i j k s).1)) := by
  obtain ⟨p, hp⟩ : ∃ p, p = some (Addr.mk b y none) := ⟨_, rfl⟩
  obtain ⟨r1, hr1⟩ : ∃ r, r = order2 ltInt d i j s := ⟨_, rfl⟩
  obtain ⟨r2, hr2⟩ : ∃ r, r = order2 ltInt d r1.2.1 k r1.2.2 := ⟨_, rfl⟩
  obtain ⟨r3, hr3⟩ : ∃ r, r = order2 ltInt d r1.1 r2.1 r2.2.2 := ⟨_, rfl⟩
  have hm : median ltInt d i j k s = (r3.2.1, r3.2.2) := by unfold median; simp only [← hr1, ← hr2, ← hr3]
  have b1 := order2_lt (d := d) (s := s) hi hj
  rw [← hr1] at b1
  have b2 := order2_lt (d := d) (s := r1.2.2) b1.2.1 hk
  rw [← hr2] at b2
  have b3 := order2_lt (d := d) (s := r2.2.2) b1.1 b2.1
  rw [← hr3] at b3
  have c1 : ∀ w1, AtA w1 b y d → _ := fun w1 hA1 => order8_ok b y n c i j bs os s d w1 hA1 hn hi hj hbig hb (by omega)
  have c2 : ∀ w1, AtA w1 b y d → _ := fun w1 hA1 => order8_ok b y n c r1.2.1 k bs os r1.2.2 d w1 hA1 hn b1.2.1 hk hbig hb (by omega)
  have c3 : ∀ w1, AtA w1 b y d → _ := fun w1 hA1 => order8_ok b y n c r1.1 r2.1 bs os r2.2.2 d w1 hA1 hn b1.1 b2.1 hbig hb (by omega)
  rw [← hr1] at c1
  rw [← hr2] at c2
  rw [← hr3] at c3
  rw [← hp] at c1 c2 c3
  rw [hm, ← hp]
  clear hm hr1 hr2 hr3
  obtain ⟨i1, j1, s1⟩ := r1
  obtain ⟨i2, j2, s2⟩ := r2
  obtain ⟨i3, j3, s3⟩ := r3
  simp only at b1 b2 b3 c1 c2 c3 ⊢
  refine X.begin (rg := [⟨true, [.int .i64 (.nat s)], none⟩]) (N := [⟨bs, os, 1⟩]) (ss := [.slv p n c, .int .i64 (.nat i), .int .i64 (.nat j), .int .i64 (.nat k), .own 0 0]) Try.func100 rfl B100_ok rfl rfl (Sat.std1 true (World.block_lt_of_cell? _ _ h1) (fun q c hq => by cases q with
    | zero => simp at hq; subst hq; exact ⟨_, rfl, h1⟩
    | succ q => simp at hq) (fun _ q hq => by simp at hq; subst hq; exact h2)) ?_
  have inv : ∀ {N : Nums} {rg : List Rg} {w1 : World} {im : Mem}, Sat (mkE Try.prog Try.f100 (PostC bs os s3 w (.int .i64 j3)) w (InR [⟨bs, os, 1⟩] [⟨true, [.int .i64 (.nat s)], none⟩]) im (fun _ _ => False) (fun _ => True) [⟨bs, os, 1⟩] B100).toEnv N rg w1 → AtA w1 b y d ∧ w1.frozen? ⟨bs, os, none⟩ = false := fun hS => ⟨hA.chg hS.chg.rw1 (fun q _ h => hb h.1.symm), frozen_stays hS.chg (by rw [h1]; rfl) h2⟩
  refine X.go T100_ok 400 _ rfl Try.results100 ?_
  conv => arg 2; cbv
  refine X.call rfl rfl rfl rfl Try.call105 (fun N w1 args hN hS ha => ?_)
  have hp0 : N[0]? = some ⟨bs, os, 1⟩ := hN 0 _ rfl
  have cell0 : w1.cell? ⟨bs, os, none⟩ = some (.int .i64 s) := by
    obtain ⟨v0, k1, k2⟩ := hS.cell 0 _ _ rfl hp0 0 _ rfl
    simp only [SV.den, SI.den, Option.some.injEq] at k1
    subst k1
    exact k2
  simp only [SV.denL, SV.den, hp0, SI.den, Option.some.injEq] at ha
  subst ha
  obtain ⟨hA1, hz1⟩ := inv hS
  refine Calls.mono (c1 w1 hA1 cell0 hz1) fun e w' ⟨he, hcell, hc'⟩ => ⟨_, he, Goes.cells (r := 0) hN hS rfl hp0 rfl hc' [.int .i64 (.nat s1)] (by simp) (fun q c hq => by cases q with
    | zero => simp at hq; subst hq; exact ⟨_, rfl, hcell⟩
    | succ q => simp at hq) (rv := .tup [.int .i64 (.nat i1), .int .i64 (.nat j1)]) rfl rfl ?_⟩
  refine X.go T100_ok 400 _ rfl Try.results100 ?_
  conv => arg 2; cbv
  refine X.call rfl rfl rfl rfl Try.call105 (fun N w1 args hN hS ha => ?_)
  have hp0 : N[0]? = some ⟨bs, os, 1⟩ := hN 0 _ rfl
  have cell0 : w1.cell? ⟨bs, os, none⟩ = some (.int .i64 s1) := by
    obtain ⟨v0, k1, k2⟩ := hS.cell 0 _ _ rfl hp0 0 _ rfl
    simp only [SV.den, SI.den, Option.some.injEq] at k1
    subst k1
    exact k2
  simp only [SV.denL, SV.den, hp0, SI.den, Option.some.injEq] at ha
  subst ha
  obtain ⟨hA1, hz1⟩ := inv hS
  refine Calls.mono (c2 w1 hA1 cell0 hz1) fun e w' ⟨he, hcell, hc'⟩ => ⟨_, he, Goes.cells (r := 0) hN hS rfl hp0 rfl hc' [.int .i64 (.nat s2)] (by simp) (fun q c hq => by cases q with
    | zero => simp at hq; subst hq; exact ⟨_, rfl, hcell⟩
    | succ q => simp at hq) (rv := .tup [.int .i64 (.nat i2), .int .i64 (.nat j2)]) rfl rfl ?_⟩
  refine X.go T100_ok 400 _ rfl Try.results100 ?_
  conv => arg 2; cbv
  refine X.call rfl rfl rfl rfl Try.call105 (fun N w1 args hN hS ha => ?_)
  have hp0 : N[0]? = some ⟨bs, os, 1⟩ := hN 0 _ rfl
  have cell0 : w1.cell? ⟨bs, os, none⟩ = some (.int .i64 s2) := by
    obtain ⟨v0, k1, k2⟩ := hS.cell 0 _ _ rfl hp0 0 _ rfl
    simp only [SV.den, SI.den, Option.some.injEq] at k1
    subst k1
    exact k2
  simp only [SV.denL, SV.den, hp0, SI.den, Option.some.injEq] at ha
  subst ha
  obtain ⟨hA1, hz1⟩ := inv hS
  refine Calls.mono (c3 w1 hA1 cell0 hz1) fun e w' ⟨he, hcell, hc'⟩ => ⟨_, he, Goes.cells (r := 0) hN hS rfl hp0 rfl hc' [.int .i64 (.nat s3)] (by simp) (fun q c hq => by cases q with
    | zero => simp at hq; subst hq; exact ⟨_, rfl, hcell⟩
    | succ q => simp at hq) (rv := .tup [.int .i64 (.nat i3), .int .i64 (.nat j3)]) rfl rfl ?_⟩
  refine X.go T100_ok 400 _ rfl Try.results100 ?_
  conv => arg 2; cbv
  refine X.done T100_ok rfl (fun N w' v hN hS hv => ⟨?_, ?_, hS.chg.rw1⟩)
  · simp only [resV, SV.den, SV.denL, SI.den, Option.some.injEq] at hv
    rw [← hv]
  · obtain ⟨v0, k1, k2⟩ := hS.cell 0 _ _ rfl (hN 0 _ rfl) 0 _ rfl
    simp only [SV.den, SI.den, Option.some.injEq] at k1
    subst k1
    exact k2

end Go.Proofs.Ythaffebapmkppaa
