/- Rows of bytes: the pivot. -/
import Derived.Test.YthaffebapmkppaaPd5

namespace Go.Proofs.Ythaffebapmkppaa
open Go Go.Eng Go.Sort

set_option maxHeartbeats 4000000 in
set_option maxRecDepth 100000 in
set_option cbv.maxSteps 100000000 in
theorem adj8_ok (b y n c i bs os s : Nat) (d : Array Int) (w : World) (hA : AtA w b y d) (hn : d.size = n) (hi1 : 1 ≤ i) (hi : i + 1 < n) (hbig : n < 4611686018427387904) (hb : bs ≠ b) (hs : s < 900) (h1 : w.cell? ⟨bs, os, none⟩ = some (.int .i64 s)) (h2 : w.frozen? ⟨bs, os, none⟩ = false) :
    Calls Try.prog 99 #[.slice (some ⟨b, y, none⟩) n c, .int .i64 i, .pointer (some ⟨bs, os, none⟩)] w (PostC bs os (medianAdjacent ltInt d i s).2 w (.int .i64 (medianAdjacent ltInt d i s).1)) := by
  obtain ⟨p, hp⟩ : ∃ p, p = some (Addr.mk b y none) := ⟨_, rfl⟩
  obtain ⟨r1, hr1⟩ : ∃ r, r = medianAdjacent ltInt d i s := ⟨_, rfl⟩
  obtain ⟨i0, hi0⟩ : ∃ r, r = i - 1 := ⟨_, rfl⟩
  obtain ⟨i2, hi2⟩ : ∃ r, r = i + 1 := ⟨_, rfl⟩
  have c1 : ∀ w1, AtA w1 b y d → _ := fun w1 hA1 => median8_ok b y n c i0 i i2 bs os s d w1 hA1 hn (by omega) (by omega) (by omega) hbig hb (by omega)
  rw [← hr1]
  unfold medianAdjacent at hr1
  rw [← hi0, ← hi2] at hr1
  rw [← hr1, ← hp] at c1
  rw [← hp]
  clear hr1
  obtain ⟨m1, s1⟩ := r1
  simp only at c1 ⊢
  refine X.begin (rg := [⟨true, [.int .i64 (.nat s)], none⟩]) (N := [⟨bs, os, 1⟩]) (ss := [.slv p n c, .int .i64 (.nat i), .own 0 0]) Try.func99 rfl B99_ok rfl rfl (Sat.std1 true (World.block_lt_of_cell? _ _ h1) (fun q c hq => by cases q with
    | zero => simp at hq; subst hq; exact ⟨_, rfl, h1⟩
    | succ q => simp at hq) (fun _ q hq => by simp at hq; subst hq; exact h2)) ?_
  refine X.go T99_ok 400 _ rfl Try.results99 ?_
  conv => arg 2; cbv
  refine X.reval 9 (.int .i64 (.nat i0)) rfl (fun N _ v hv => by rw [← hv]; simp (disch := omega) only [SV.den, SI.den, wrapN, Int.tdiv_eq_ediv_of_nonneg, Option.some.injEq, Value.int.injEq, true_and] <;> omega) ?_
  refine X.reval 12 (.int .i64 (.nat i2)) rfl (fun N _ v hv => by rw [← hv]; simp (disch := omega) only [SV.den, SI.den, wrapN, Int.tdiv_eq_ediv_of_nonneg, Option.some.injEq, Value.int.injEq, true_and] <;> omega) ?_
  refine X.call rfl rfl rfl rfl Try.call100 (fun N w1 args hN hS ha => ?_)
  have hp0 : N[0]? = some ⟨bs, os, 1⟩ := hN 0 _ rfl
  have cell0 : w1.cell? ⟨bs, os, none⟩ = some (.int .i64 s) := by
    obtain ⟨v0, k1, k2⟩ := hS.cell 0 _ _ rfl hp0 0 _ rfl
    simp only [SV.den, SI.den, Option.some.injEq] at k1
    subst k1
    exact k2
  simp only [SV.denL, SV.den, hp0, SI.den, Option.some.injEq] at ha
  subst ha
  have hA1 := hA.chg hS.chg.rw1 (fun q _ h => hb h.1.symm)
  have hz1 : w1.frozen? ⟨bs, os, none⟩ = false := frozen_stays hS.chg (by rw [h1]; rfl) h2
  refine Calls.mono (c1 w1 hA1 cell0 hz1) fun e w' ⟨he, hcell, hc'⟩ => ⟨_, he, Goes.cells (r := 0) hN hS rfl hp0 rfl hc' [.int .i64 (.nat s1)] (by simp) (fun q c hq => by cases q with
    | zero => simp at hq; subst hq; exact ⟨_, rfl, hcell⟩
    | succ q => simp at hq) (rv := .int .i64 (.nat m1)) rfl rfl ?_⟩
  refine X.go T99_ok 400 _ rfl Try.results99 ?_
  conv => arg 2; cbv
  refine X.done T99_ok rfl (fun N w' v hN hS hv => ⟨?_, ?_, hS.chg.rw1⟩)
  · simp only [resV, SV.den, SV.denL, SI.den, Option.some.injEq] at hv
    rw [← hv]
  · obtain ⟨v0, k1, k2⟩ := hS.cell 0 _ _ rfl (hN 0 _ rfl) 0 _ rfl
    simp only [SV.den, SI.den, Option.some.injEq] at k1
    subst k1
    exact k2

theorem median_lt {d : Array Int} {i j k s n : Nat} (hi : i < n) (hj : j < n) (hk : k < n) : (median ltInt d i j k s).1 < n ∧ (median ltInt d i j k s).2 ≤ s + 3 := by
  have b1 := order2_lt (d := d) (s := s) hi hj
  have b2 := order2_lt (d := d) (s := (order2 ltInt d i j s).2.2) b1.2.1 hk
  have b3 := order2_lt (d := d) (s := (order2 ltInt d (order2 ltInt d i j s).2.1 k (order2 ltInt d i j s).2.2).2.2) b1.1 b2.1
  unfold median
  exact ⟨b3.2.1, Nat.le_trans b3.2.2 (Nat.le_trans (Nat.succ_le_succ b2.2.2) (Nat.succ_le_succ (Nat.succ_le_succ b1.2.2)))⟩

def hintZ : Hint → Int
  | .unknown => 0
  | .increasing => 1
  | .decreasing => 2

set_option maxHeartbeats 4000000 in
set_option maxRecDepth 100000 in
set_option cbv.maxSteps 100000000 in
theorem pivot8_ok (b y n c a e : Nat) (d : Array Int) (w : World) (hA : AtA w b y d) (hn : d.size = n) (hae : a < e) (hen : e ≤ n) (hbig : n < 4611686018427387904) :
    Calls Try.prog 77 #[.slice (some ⟨b, y, none⟩) n c, .int .i64 a, .int .i64 e] w fun en w' => en = .returned (.tuple #[.int .i64 (choosePivot ltInt d a e).1, .int .i64 (hintZ (choosePivot ltInt d a e).2)]) ∧ Chg (fun _ _ => False) w w' := by
  obtain ⟨p, hp⟩ : ∃ p, p = some (Addr.mk b y none) := ⟨_, rfl⟩
  obtain ⟨l, hl⟩ : ∃ l, l = e - a := ⟨_, rfl⟩
  obtain ⟨i0, hi0⟩ : ∃ r, r = a + l / 4 * 1 := ⟨_, rfl⟩
  obtain ⟨j0, hj0⟩ : ∃ r, r = a + l / 4 * 2 := ⟨_, rfl⟩
  obtain ⟨k0, hk0⟩ : ∃ r, r = a + l / 4 * 3 := ⟨_, rfl⟩
  have hbw : b < w.heap.size := World.block_lt_of_cell? _ _ (hA 0 (by omega)).1
  unfold choosePivot
  simp only [← hl, ← hi0, ← hj0, ← hk0]
  rw [← hp]
  obtain ⟨Q, hQ⟩ : ∃ Q : Ending → World → Prop, Q = fun en w' => en = .returned (.tuple #[.int .i64 (if l ≥ 8 then if l ≥ 50 then median ltInt d (medianAdjacent ltInt d i0 0).1 (medianAdjacent ltInt d j0 (medianAdjacent ltInt d i0 0).2).1 (medianAdjacent ltInt d k0 (medianAdjacent ltInt d j0 (medianAdjacent ltInt d i0 0).2).2).1 (medianAdjacent ltInt d k0 (medianAdjacent ltInt d j0 (medianAdjacent ltInt d i0 0).2).2).2 else median ltInt d i0 j0 k0 0 else (j0, 0)).1,
    .int .i64 (hintZ (if (if l ≥ 8 then if l ≥ 50 then median ltInt d (medianAdjacent ltInt d i0 0).1 (medianAdjacent ltInt d j0 (medianAdjacent ltInt d i0 0).2).1 (medianAdjacent ltInt d k0 (medianAdjacent ltInt d j0 (medianAdjacent ltInt d i0 0).2).2).1 (medianAdjacent ltInt d k0 (medianAdjacent ltInt d j0 (medianAdjacent ltInt d i0 0).2).2).2 else median ltInt d i0 j0 k0 0 else (j0, 0)).2 = 0 then .increasing else if (if l ≥ 8 then if l ≥ 50 then median ltInt d (medianAdjacent ltInt d i0 0).1 (medianAdjacent ltInt d j0 (medianAdjacent ltInt d i0 0).2).1 (medianAdjacent ltInt d k0 (medianAdjacent ltInt d j0 (medianAdjacent ltInt d i0 0).2).2).1 (medianAdjacent ltInt d k0 (medianAdjacent ltInt d j0 (medianAdjacent ltInt d i0 0).2).2).2 else median ltInt d i0 j0 k0 0 else (j0, 0)).2 = 12 then .decreasing else .unknown))]) ∧ Chg (fun _ _ => False) w w' := ⟨_, rfl⟩
  suffices hs : Calls Try.prog 77 #[.slice p n c, .int .i64 a, .int .i64 e] w Q by rw [hQ] at hs; exact hs
  have fin : ∀ (m s : Nat), (if l ≥ 8 then if l ≥ 50 then median ltInt d (medianAdjacent ltInt d i0 0).1 (medianAdjacent ltInt d j0 (medianAdjacent ltInt d i0 0).2).1 (medianAdjacent ltInt d k0 (medianAdjacent ltInt d j0 (medianAdjacent ltInt d i0 0).2).2).1 (medianAdjacent ltInt d k0 (medianAdjacent ltInt d j0 (medianAdjacent ltInt d i0 0).2).2).2 else median ltInt d i0 j0 k0 0 else (j0, 0)) = (m, s) → Q = fun en w' => en = .returned (.tuple #[.int .i64 m, .int .i64 (hintZ (if s = 0 then .increasing else if s = 12 then .decreasing else .unknown))]) ∧ Chg (fun _ _ => False) w w' := fun m s h => by rw [hQ, h]
  clear hQ
  refine X.begin (rg := []) (N := []) (ss := [.slv p n c, .int .i64 (.nat a), .int .i64 (.nat e)]) Try.func77 rfl B77_ok rfl rfl Sat.std0 ?_
  refine X.go T77_ok 400 _ rfl Try.results77 ?_
  conv => arg 2; cbv
  refine X.reval 8 (.int .i64 (.nat l)) rfl (fun N _ v hv => by rw [← hv]; simp (disch := omega) only [SV.den, SI.den, wrapN, Int.tdiv_eq_ediv_of_nonneg, Option.some.injEq, Value.int.injEq, true_and] <;> omega) ?_
  refine X.reval 10 (.int .i64 (.nat i0)) rfl (fun N _ v hv => by rw [← hv]; simp (disch := omega) only [SV.den, SI.den, wrapN, Int.tdiv_eq_ediv_of_nonneg, Option.some.injEq, Value.int.injEq, true_and] <;> omega) ?_
  refine X.reval 11 (.int .i64 (.nat j0)) rfl (fun N _ v hv => by rw [← hv]; simp (disch := omega) only [SV.den, SI.den, wrapN, Int.tdiv_eq_ediv_of_nonneg, Option.some.injEq, Value.int.injEq, true_and] <;> omega) ?_
  refine X.reval 12 (.int .i64 (.nat k0)) rfl (fun N _ v hv => by rw [← hv]; simp (disch := omega) only [SV.den, SI.den, wrapN, Int.tdiv_eq_ediv_of_nonneg, Option.some.injEq, Value.int.injEq, true_and] <;> omega) ?_
  refine X.namesP (fun N => ∃ pn : Num, N[0]? = some pn ∧ pn.b ≠ b ∧ 1 ≤ pn.x) (fun N w1 _ hS => ?_) (fun N1 _ _ hP => ?_)
  · obtain ⟨pn, hpn⟩ : ∃ pn, N[0]? = some pn := ⟨_, List.getElem?_eq_getElem (by rw [hS.len]; simp)⟩
    refine ⟨pn, hpn, ?_, hS.ext 0 _ pn rfl hpn rfl⟩
    rcases hS.foot 0 _ pn rfl hpn rfl with h | h
    · intro e
      have h : w.heap.size ≤ pn.b := h
      omega
    · exact (inR_nil (h 0 (hS.ext 0 _ pn rfl hpn rfl))).elim
  obtain ⟨pn, hpA, hpb, hx1⟩ := hP
  refine X.cond rfl (fun h8 => ?_) (fun h8 => ?_)
  · simp (disch := omega) only [SB.T, SI.den, wrapN] at h8
    refine X.go T77_ok 400 _ rfl Try.results77 ?_
    conv => arg 2; cbv
    refine X.cond rfl (fun h50 => ?_) (fun h50 => ?_)
    · simp (disch := omega) only [SB.T, SI.den, wrapN] at h50
      have c1 : ∀ w1, AtA w1 b y d → _ := fun w1 hA1 => adj8_ok b y n c i0 pn.b pn.o 0 d w1 hA1 hn (by omega) (by omega) hbig hpb (by omega)
      obtain ⟨r1, hr1⟩ : ∃ r, r = medianAdjacent ltInt d i0 0 := ⟨_, rfl⟩
      have b1 : r1.1 < n ∧ r1.2 ≤ 0 + 3 := by rw [hr1]; exact median_lt (by omega) (by omega) (by omega)
      have c2 : ∀ w1, AtA w1 b y d → _ := fun w1 hA1 => adj8_ok b y n c j0 pn.b pn.o r1.2 d w1 hA1 hn (by omega) (by omega) hbig hpb (by omega)
      obtain ⟨r2, hr2⟩ : ∃ r, r = medianAdjacent ltInt d j0 r1.2 := ⟨_, rfl⟩
      have b2 : r2.1 < n ∧ r2.2 ≤ r1.2 + 3 := by rw [hr2]; exact median_lt (by omega) (by omega) (by omega)
      have c3 : ∀ w1, AtA w1 b y d → _ := fun w1 hA1 => adj8_ok b y n c k0 pn.b pn.o r2.2 d w1 hA1 hn (by omega) (by omega) hbig hpb (by omega)
      obtain ⟨r3, hr3⟩ : ∃ r, r = medianAdjacent ltInt d k0 r2.2 := ⟨_, rfl⟩
      have b3 : r3.1 < n ∧ r3.2 ≤ r2.2 + 3 := by rw [hr3]; exact median_lt (by omega) (by omega) (by omega)
      have c4 : ∀ w1, AtA w1 b y d → _ := fun w1 hA1 => median8_ok b y n c r1.1 r2.1 r3.1 pn.b pn.o r3.2 d w1 hA1 hn b1.1 b2.1 b3.1 hbig hpb (by omega)
      obtain ⟨r4, hr4⟩ : ∃ r, r = median ltInt d r1.1 r2.1 r3.1 r3.2 := ⟨_, rfl⟩
      rw [← hr1, ← hp] at c1
      rw [← hr2, ← hp] at c2
      rw [← hr3, ← hp] at c3
      rw [← hr4, ← hp] at c4
      have fin := fin r4.1 r4.2 (by rw [if_pos (by omega), if_pos (by omega), ← hr1, ← hr2, ← hr3, ← hr4])
      clear hr1 hr2 hr3 hr4
      obtain ⟨m1, s1⟩ := r1
      obtain ⟨m2, s2⟩ := r2
      obtain ⟨m3, s3⟩ := r3
      obtain ⟨m4, s4⟩ := r4
      simp only at c1 c2 c3 c4 fin b1 b2 b3
      rw [fin]
      refine X.go T77_ok 400 _ rfl Try.results77 ?_
      conv => arg 2; cbv
      refine X.call rfl rfl rfl rfl Try.call99 (fun N w1 args hN hS ha => ?_)
      have hp0 : N[0]? = some pn := hN 0 _ hpA
      have cell0 : w1.cell? ⟨pn.b, pn.o, none⟩ = some (.int .i64 ((0 : Nat) : Int)) := by
        obtain ⟨v0, k1, k2⟩ := hS.cell 0 _ _ rfl hp0 0 _ rfl
        simp only [SV.den, SI.den, Option.some.injEq] at k1
        subst k1
        exact k2
      have hz1 : w1.frozen? ⟨pn.b, pn.o, none⟩ = false := (hS.room 0 _ _ rfl hp0 rfl 0 hx1).2
      simp only [SV.denL, SV.den, hp0, SI.den, Option.some.injEq] at ha
      subst ha
      have hA1 := hA.chg hS.chg (fun q _ h => inR_nil h)
      refine Calls.mono (c1 w1 hA1 cell0 hz1) fun e w' ⟨he, hcell, hc'⟩ => ⟨_, he, Goes.cells (r := 0) hN hS rfl hp0 rfl (hc'.mono fun k o _ ⟨e1, e2, e3⟩ => ⟨e1, e2, by omega⟩) [.int .i64 (.nat s1)] hx1 (fun q c hq => by cases q with
        | zero => simp at hq; subst hq; exact ⟨_, rfl, hcell⟩
        | succ q => simp at hq) (rv := .int .i64 (.nat m1)) rfl rfl ?_⟩
      refine X.go T77_ok 400 _ rfl Try.results77 ?_
      conv => arg 2; cbv
      refine X.call rfl rfl rfl rfl Try.call99 (fun N w1 args hN hS ha => ?_)
      have hp0 : N[0]? = some pn := hN 0 _ hpA
      have cell0 : w1.cell? ⟨pn.b, pn.o, none⟩ = some (.int .i64 s1) := by
        obtain ⟨v0, k1, k2⟩ := hS.cell 0 _ _ rfl hp0 0 _ rfl
        simp only [SV.den, SI.den, Option.some.injEq] at k1
        subst k1
        exact k2
      have hz1 : w1.frozen? ⟨pn.b, pn.o, none⟩ = false := (hS.room 0 _ _ rfl hp0 rfl 0 hx1).2
      simp only [SV.denL, SV.den, hp0, SI.den, Option.some.injEq] at ha
      subst ha
      have hA1 := hA.chg hS.chg (fun q _ h => inR_nil h)
      refine Calls.mono (c2 w1 hA1 cell0 hz1) fun e w' ⟨he, hcell, hc'⟩ => ⟨_, he, Goes.cells (r := 0) hN hS rfl hp0 rfl (hc'.mono fun k o _ ⟨e1, e2, e3⟩ => ⟨e1, e2, by omega⟩) [.int .i64 (.nat s2)] hx1 (fun q c hq => by cases q with
        | zero => simp at hq; subst hq; exact ⟨_, rfl, hcell⟩
        | succ q => simp at hq) (rv := .int .i64 (.nat m2)) rfl rfl ?_⟩
      refine X.go T77_ok 400 _ rfl Try.results77 ?_
      conv => arg 2; cbv
      refine X.call rfl rfl rfl rfl Try.call99 (fun N w1 args hN hS ha => ?_)
      have hp0 : N[0]? = some pn := hN 0 _ hpA
      have cell0 : w1.cell? ⟨pn.b, pn.o, none⟩ = some (.int .i64 s2) := by
        obtain ⟨v0, k1, k2⟩ := hS.cell 0 _ _ rfl hp0 0 _ rfl
        simp only [SV.den, SI.den, Option.some.injEq] at k1
        subst k1
        exact k2
      have hz1 : w1.frozen? ⟨pn.b, pn.o, none⟩ = false := (hS.room 0 _ _ rfl hp0 rfl 0 hx1).2
      simp only [SV.denL, SV.den, hp0, SI.den, Option.some.injEq] at ha
      subst ha
      have hA1 := hA.chg hS.chg (fun q _ h => inR_nil h)
      refine Calls.mono (c3 w1 hA1 cell0 hz1) fun e w' ⟨he, hcell, hc'⟩ => ⟨_, he, Goes.cells (r := 0) hN hS rfl hp0 rfl (hc'.mono fun k o _ ⟨e1, e2, e3⟩ => ⟨e1, e2, by omega⟩) [.int .i64 (.nat s3)] hx1 (fun q c hq => by cases q with
        | zero => simp at hq; subst hq; exact ⟨_, rfl, hcell⟩
        | succ q => simp at hq) (rv := .int .i64 (.nat m3)) rfl rfl ?_⟩
      refine X.go T77_ok 400 _ rfl Try.results77 ?_
      conv => arg 2; cbv
      refine X.call rfl rfl rfl rfl Try.call100 (fun N w1 args hN hS ha => ?_)
      have hp0 : N[0]? = some pn := hN 0 _ hpA
      have cell0 : w1.cell? ⟨pn.b, pn.o, none⟩ = some (.int .i64 s3) := by
        obtain ⟨v0, k1, k2⟩ := hS.cell 0 _ _ rfl hp0 0 _ rfl
        simp only [SV.den, SI.den, Option.some.injEq] at k1
        subst k1
        exact k2
      have hz1 : w1.frozen? ⟨pn.b, pn.o, none⟩ = false := (hS.room 0 _ _ rfl hp0 rfl 0 hx1).2
      simp only [SV.denL, SV.den, hp0, SI.den, Option.some.injEq] at ha
      subst ha
      have hA1 := hA.chg hS.chg (fun q _ h => inR_nil h)
      refine Calls.mono (c4 w1 hA1 cell0 hz1) fun e w' ⟨he, hcell, hc'⟩ => ⟨_, he, Goes.cells (r := 0) hN hS rfl hp0 rfl (hc'.mono fun k o _ ⟨e1, e2, e3⟩ => ⟨e1, e2, by omega⟩) [.int .i64 (.nat s4)] hx1 (fun q c hq => by cases q with
        | zero => simp at hq; subst hq; exact ⟨_, rfl, hcell⟩
        | succ q => simp at hq) (rv := .int .i64 (.nat m4)) rfl rfl ?_⟩
      refine X.go T77_ok 400 _ rfl Try.results77 ?_
      conv => arg 2; cbv
      refine X.cond rfl (fun hT => ?_) (fun hT => ?_)
      · simp only [SB.T, SI.den] at hT
        refine X.go T77_ok 400 _ rfl Try.results77 ?_
        conv => arg 2; cbv
        refine X.done T77_ok rfl (fun N w' v hN hS hv => ⟨?_, hS.chg.mono fun k o _ h => inR_nil h⟩)
        simp only [resV, SV.den, SV.denL, SI.den, Option.some.injEq] at hv
        rw [← hv, if_pos (by omega)]
        rfl
      refine X.go T77_ok 400 _ rfl Try.results77 ?_
      conv => arg 2; cbv
      refine X.cond rfl (fun hU => ?_) (fun hU => ?_)
      · simp only [SB.T, SB.F, SI.den] at hT hU
        refine X.go T77_ok 400 _ rfl Try.results77 ?_
        conv => arg 2; cbv
        refine X.done T77_ok rfl (fun N w' v hN hS hv => ⟨?_, hS.chg.mono fun k o _ h => inR_nil h⟩)
        simp only [resV, SV.den, SV.denL, SI.den, Option.some.injEq] at hv
        rw [← hv, if_neg (by omega), if_pos (by omega)]
        rfl
      · simp only [SB.F, SI.den] at hT hU
        refine X.go T77_ok 400 _ rfl Try.results77 ?_
        conv => arg 2; cbv
        refine X.done T77_ok rfl (fun N w' v hN hS hv => ⟨?_, hS.chg.mono fun k o _ h => inR_nil h⟩)
        simp only [resV, SV.den, SV.denL, SI.den, Option.some.injEq] at hv
        rw [← hv, if_neg (by omega), if_neg (by omega)]
        rfl
    · simp (disch := omega) only [SB.F, SI.den, wrapN] at h50
      have c4 : ∀ w1, AtA w1 b y d → _ := fun w1 hA1 => median8_ok b y n c i0 j0 k0 pn.b pn.o 0 d w1 hA1 hn (by omega) (by omega) (by omega) hbig hpb (by omega)
      obtain ⟨r4, hr4⟩ : ∃ r, r = median ltInt d i0 j0 k0 0 := ⟨_, rfl⟩
      rw [← hr4, ← hp] at c4
      have fin := fin r4.1 r4.2 (by rw [if_pos (by omega), if_neg (by omega), ← hr4])
      clear hr4
      obtain ⟨m4, s4⟩ := r4
      simp only at c4 fin
      rw [fin]
      refine X.go T77_ok 400 _ rfl Try.results77 ?_
      conv => arg 2; cbv
      refine X.call rfl rfl rfl rfl Try.call100 (fun N w1 args hN hS ha => ?_)
      have hp0 : N[0]? = some pn := hN 0 _ hpA
      have cell0 : w1.cell? ⟨pn.b, pn.o, none⟩ = some (.int .i64 ((0 : Nat) : Int)) := by
        obtain ⟨v0, k1, k2⟩ := hS.cell 0 _ _ rfl hp0 0 _ rfl
        simp only [SV.den, SI.den, Option.some.injEq] at k1
        subst k1
        exact k2
      have hz1 : w1.frozen? ⟨pn.b, pn.o, none⟩ = false := (hS.room 0 _ _ rfl hp0 rfl 0 hx1).2
      simp only [SV.denL, SV.den, hp0, SI.den, Option.some.injEq] at ha
      subst ha
      have hA1 := hA.chg hS.chg (fun q _ h => inR_nil h)
      refine Calls.mono (c4 w1 hA1 cell0 hz1) fun e w' ⟨he, hcell, hc'⟩ => ⟨_, he, Goes.cells (r := 0) hN hS rfl hp0 rfl (hc'.mono fun k o _ ⟨e1, e2, e3⟩ => ⟨e1, e2, by omega⟩) [.int .i64 (.nat s4)] hx1 (fun q c hq => by cases q with
        | zero => simp at hq; subst hq; exact ⟨_, rfl, hcell⟩
        | succ q => simp at hq) (rv := .int .i64 (.nat m4)) rfl rfl ?_⟩
      refine X.go T77_ok 400 _ rfl Try.results77 ?_
      conv => arg 2; cbv
      refine X.cond rfl (fun hT => ?_) (fun hT => ?_)
      · simp only [SB.T, SI.den] at hT
        refine X.go T77_ok 400 _ rfl Try.results77 ?_
        conv => arg 2; cbv
        refine X.done T77_ok rfl (fun N w' v hN hS hv => ⟨?_, hS.chg.mono fun k o _ h => inR_nil h⟩)
        simp only [resV, SV.den, SV.denL, SI.den, Option.some.injEq] at hv
        rw [← hv, if_pos (by omega)]
        rfl
      refine X.go T77_ok 400 _ rfl Try.results77 ?_
      conv => arg 2; cbv
      refine X.cond rfl (fun hU => ?_) (fun hU => ?_)
      · simp only [SB.T, SB.F, SI.den] at hT hU
        refine X.go T77_ok 400 _ rfl Try.results77 ?_
        conv => arg 2; cbv
        refine X.done T77_ok rfl (fun N w' v hN hS hv => ⟨?_, hS.chg.mono fun k o _ h => inR_nil h⟩)
        simp only [resV, SV.den, SV.denL, SI.den, Option.some.injEq] at hv
        rw [← hv, if_neg (by omega), if_pos (by omega)]
        rfl
      · simp only [SB.F, SI.den] at hT hU
        refine X.go T77_ok 400 _ rfl Try.results77 ?_
        conv => arg 2; cbv
        refine X.done T77_ok rfl (fun N w' v hN hS hv => ⟨?_, hS.chg.mono fun k o _ h => inR_nil h⟩)
        simp only [resV, SV.den, SV.denL, SI.den, Option.some.injEq] at hv
        rw [← hv, if_neg (by omega), if_neg (by omega)]
        rfl
  · simp (disch := omega) only [SB.F, SI.den, wrapN] at h8
    rw [fin j0 0 (by rw [if_neg (by omega)])]
    refine X.go T77_ok 400 _ rfl Try.results77 ?_
    conv => arg 2; cbv
    refine X.done T77_ok rfl (fun N w' v hN hS hv => ⟨?_, hS.chg.mono fun k o _ h => inR_nil h⟩)
    simp only [resV, SV.den, SV.denL, SI.den, Option.some.injEq] at hv
    rw [← hv, if_pos rfl]
    rfl

end Go.Proofs.Ythaffebapmkppaa
