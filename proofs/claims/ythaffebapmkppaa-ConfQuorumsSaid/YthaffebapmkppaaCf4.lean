/- Configurations: what the counts come to; may one be? -/
import Derived.Test.YthaffebapmkppaaCf3

namespace Go.Proofs.Ythaffebapmkppaa
open Go Go.Eng Go.Sort

theorem pop_count : ∀ (n x : Nat), popN n x = (List.range n).countP fun i => x.testBit i
  | 0, _ => rfl
  | n + 1, x => by
    rw [popN, pop_count n (x / 2), List.range_succ_eq_map, List.countP_cons, List.countP_map]
    have e : ((fun i => x.testBit i) ∘ Nat.succ) = fun i => (x / 2).testBit i := by
      funext i
      exact Nat.testBit_succ x i
    rw [e]
    congr 1
    rw [Nat.testBit_zero]
    by_cases h : x % 2 = 1
    · simp [h]
    · have : x % 2 = 0 := by omega
      simp [this]
theorem setN_bit {i : Nat} (hi : i < 64) : ∀ (l : List Int) (s : Nat), (∀ x ∈ l, 0 ≤ x) → (l.foldl setS s).testBit i = (s.testBit i || decide ((i : Int) ∈ l))
  | [], s, _ => by simp
  | x :: l, s, h => by
    rw [List.foldl_cons, setN_bit hi l _ fun y hy => h y (List.mem_cons_of_mem _ hy)]
    have hx := h x (by simp)
    have e : (setS s x).testBit i = (s.testBit i || decide ((i : Int) = x)) := by
      unfold setS
      split
      · rw [Nat.testBit_or, Nat.testBit_two_pow]
        congr 1
        exact decide_eq_decide.2 (by omega)
      · have : ¬ (i : Int) = x := by omega
        simp [this]
    rw [e, Bool.or_assoc]
    congr 1
    rw [Bool.eq_iff_iff]
    simp
theorem countP_range {l : List Int} (hnd : l.Nodup) (hl : ∀ x ∈ l, 0 ≤ x ∧ x < 64) (P : Nat → Bool) : (l.countP fun x => P x.toNat) = (List.range 64).countP fun i : Nat => decide ((i : Int) ∈ l) && P i := by
  have hp : (((List.range 64).filter fun i : Nat => decide ((i : Int) ∈ l)).map fun i : Nat => (i : Int)).Perm l := by
    refine (List.perm_ext_iff_of_nodup ?_ hnd).2 fun y => ?_
    · refine List.Pairwise.imp (R := (· < ·)) (fun h => by omega) (List.pairwise_map.2 (List.Pairwise.filter _ ?_))
      exact List.pairwise_lt_range.imp fun h => by omega
    · simp only [List.mem_map, List.mem_filter, List.mem_range, decide_eq_true_eq]
      constructor
      · rintro ⟨a, ⟨_, h⟩, rfl⟩
        exact h
      · intro h
        have := hl y h
        exact ⟨y.toNat, ⟨by omega, by rw [Int.toNat_of_nonneg this.1]; exact h⟩, Int.toNat_of_nonneg this.1⟩
  rw [← hp.countP_eq, List.countP_map, List.countP_filter]
  refine List.countP_congr fun i _ => ?_
  simp [And.comm]
theorem pop_and {l : List Int} (hnd : l.Nodup) (hl : ∀ x ∈ l, 0 ≤ x ∧ x < 64) (s : Nat) : popN 64 (setN l &&& s) = cntN l s := by
  unfold cntN
  rw [pop_count, countP_range hnd hl fun i => s.testBit i]
  refine List.countP_congr fun i hi => ?_
  rw [Nat.testBit_and, setN, setN_bit (List.mem_range.1 hi) l 0 fun x hx => (hl x hx).1]
  simp
theorem countP_xor {α : Type} (p q : α → Bool) : ∀ l : List α, (l.countP fun a => p a ^^ q a) = (l.countP fun a => p a && !q a) + l.countP fun a => q a && !p a
  | [] => rfl
  | a :: l => by
    rw [List.countP_cons, List.countP_cons, List.countP_cons, countP_xor p q l]
    cases p a <;> cases q a <;> simp <;> omega
theorem oth_range {o n : List Int} (ho : o.Nodup) (ho2 : ∀ x ∈ o, 0 ≤ x ∧ x < 64) : othN o n = (List.range 64).countP fun i : Nat => decide ((i : Int) ∈ o) && !decide ((i : Int) ∈ n) := by
  have e : othN o n = o.countP fun x => (fun i : Nat => !decide ((i : Int) ∈ n)) x.toNat := by
    unfold othN
    refine List.countP_congr fun x hx => ?_
    simp only [Int.toNat_of_nonneg (ho2 x hx).1]
    simp
  rw [e, countP_range ho ho2 fun i : Nat => !decide ((i : Int) ∈ n)]
theorem pop_xor {o n : List Int} (ho : o.Nodup) (ho2 : ∀ x ∈ o, 0 ≤ x ∧ x < 64) (hn : n.Nodup) (hn2 : ∀ x ∈ n, 0 ≤ x ∧ x < 64) : popN 64 (setN o ^^^ setN n) = othN o n + othN n o := by
  rw [oth_range ho ho2, oth_range hn hn2, ← countP_xor, pop_count]
  refine List.countP_congr fun i hi => ?_
  rw [Nat.testBit_xor, setN, setN, setN_bit (List.mem_range.1 hi) o 0 fun x hx => (ho2 x hx).1, setN_bit (List.mem_range.1 hi) n 0 fun x hx => (hn2 x hx).1]
  simp
theorem mayP_lt {d : Array Int} (h : mayP d d.size) : d.toList.Pairwise (· < ·) := by
  have key : ∀ j, j < d.size → ∀ i, i < j → d[i]! < d[j]! := fun j => by
    induction j with
    | zero => intro _ i hi; omega
    | succ j ih =>
      intro hj i hi
      have h1 := (h (j + 1) hj).2 (by omega)
      simp only [Nat.add_sub_cancel] at h1
      rcases Nat.lt_or_ge i j with h2 | h2
      · have := ih (by omega) i h2
        omega
      · have : i = j := by omega
        subst this
        exact h1
  refine List.pairwise_iff_getElem.2 fun i j hi hj hij => ?_
  have := key j (by simpa using hj) i hij
  rw [getElem!_pos d i (by simpa using hi), getElem!_pos d j (by simpa using hj)] at this
  simpa using this
theorem mayP_64 {d : Array Int} (h : mayP d d.size) (hb : ∀ x ∈ d.toList, 0 ≤ x ∧ x < 256) : ∀ x ∈ d.toList, 0 ≤ x ∧ x < 64 := fun x hx => by
  obtain ⟨i, hi, rfl⟩ := List.getElem_of_mem hx
  have hi : i < d.size := by simpa using hi
  have := (h i hi).1
  rw [getElem!_pos d i hi] at this
  exact ⟨(hb _ hx).1, by simpa using this⟩

/-- may a configuration be? -/
def mayC (C : Nat) (o n : Array Int) : Prop := 0 < n.size ∧ mayP n n.size ∧ if C % 2 = 1 then 0 < o.size ∧ mayP o o.size ∧ othN o.toList n.toList + othN n.toList o.toList = 1 else o.size = 0

theorem InB.im {p : Option Addr} {n : Nat} {d : Array Int} {w w1 : World} (h : InB p n d w) (him : ∀ k o v, elsewhere [] [] w k o = some v → w1.cell? ⟨k, o, none⟩ = some v) : InB p n d w1 := ⟨h.1, fun h0 => by
  obtain ⟨b, y, h1, h2⟩ := h.2 h0
  exact ⟨b, y, h1, fun j hj => him _ _ _ (by rw [els_old]; exact h2 j hj)⟩⟩
set_option maxHeartbeats 4000000 in
set_option maxRecDepth 100000 in
set_option cbv.maxSteps 100000000 in
theorem between_ok (C : Nat) (a b : Value) (ha : one? a = true) (hb : one? b = true) (w : World) : Calls Try.prog 25 #[.agg #[.int .u64 C, a, b]] w fun e w' => e = .returned (.bool (decide (C % 2 = 1))) ∧ Chg (fun _ _ => False) w w' := by
  refine X.begin (rg := []) (N := []) (ss := [.agg [.int .u64 (.nat C), .raw a, .raw b]]) Try.func25 rfl B25_ok rfl (by simp [SV.denL, SV.den, ha, hb, SI.den]) Sat.std0 ?_
  refine X.go T25_ok 400 _ rfl Try.results25 ?_
  conv => arg 2; cbv
  refine X.done T25_ok rfl (fun N w' v hN hS hv => ⟨fin_bool hv ?_, hS.chg.none⟩)
  refine den_of ?_
  simp only [SB.T, SI.den, decide_eq_true_eq]
  rw [Int.tmod_eq_emod_of_nonneg (by omega)]
  omega

set_option maxHeartbeats 8000000 in
set_option maxRecDepth 100000 in
set_option cbv.maxSteps 100000000 in
theorem cmay_ok (C : Nat) (po pn : Option Addr) (no nn co cn : Nat) (o n : Array Int) (w : World) (hno : no ≤ 100000) (hnn : nn ≤ 100000) (ho : InB po no o w) (hn : InB pn nn n w) (hbo : ∀ x ∈ o.toList, 0 ≤ x ∧ x < 256) (hbn : ∀ x ∈ n.toList, 0 ≤ x ∧ x < 256) :
    Calls Try.prog 23 #[.agg #[.int .u64 C, .slice po no co, .slice pn nn cn]] w fun e w' => e = .returned (.bool (B (mayC C o n))) ∧ Chg (fun _ _ => False) w w' := by
  have hos := ho.1
  have hns := hn.1
  obtain ⟨Q, hQ⟩ : ∃ Q : Ending → World → Prop, Q = fun e w' => e = .returned (.bool (B (mayC C o n))) ∧ Chg (fun _ _ => False) w w' := ⟨_, rfl⟩
  rw [← hQ]
  refine X.begin (rg := []) (N := []) (ss := [.agg [.int .u64 (.nat C), .slv po no co, .slv pn nn cn]]) Try.func23 rfl B23_ok rfl rfl Sat.std0 ?_
  obtain ⟨m1, hm1⟩ : ∃ b, b = B (mayP n nn) := ⟨_, rfl⟩
  obtain ⟨m2, hm2⟩ : ∃ b, b = B (mayP o no) := ⟨_, rfl⟩
  obtain ⟨bt, hbt⟩ : ∃ b, b = decide (C % 2 = 1) := ⟨_, rfl⟩
  refine X.goP ([(5, .bool (.v m1))]) T23_ok 400 _ rfl Try.results23 (fun pr fin hpr hfin => ?_)
  conv => cbv
  refine ⟨hpr _ (.of Try.call19 [.slice pn nn cn] (.bool m1) (fun _ => rfl) (fun _ => rfl) fun _ w1 him => by rw [hm1]; exact may_ok pn nn cn n w1 hnn (hn.im him)), hfin _ _ ?_⟩
  refine X.cond rfl (fun hT => ?_) (fun hF => ?_)
  · simp only [SB.T, SB.F, SI.den] at hT
    have hno' : ¬ mayC C o n := fun ⟨h1, h2, _⟩ => by
      rcases hT with h | h
      · rw [hm1, ← hns, B_pos h2] at h; cases h
      · omega
    refine X.go T23_ok 400 _ rfl Try.results23 ?_
    conv => arg 2; cbv
    refine X.done T23_ok rfl (fun N w' v hN hS hv => ?_)
    rw [hQ]
    exact ⟨fin_bool hv (by rw [B_neg hno']; rfl), hS.chg.none⟩
  · simp only [SB.T, SB.F, SI.den] at hF
    have hmn : mayP n n.size := by rw [hns]; exact B_iff.1 (by rw [← hm1]; exact hF.1)
    have h0n : 0 < n.size := by omega
    refine X.goP ([(14, .bool (.v bt))]) T23_ok 400 _ rfl Try.results23 (fun pr fin hpr hfin => ?_)
    conv => cbv
    refine ⟨hpr _ (.of Try.call25 [.agg #[.int .u64 C, .slice po no co, .slice pn nn cn]] (.bool bt) (fun _ => rfl) (fun _ => rfl) fun _ w1 him => by rw [hbt]; exact between_ok C _ _ rfl rfl w1), hfin _ _ ?_⟩
    refine X.cond rfl (fun hT => ?_) (fun hF => ?_)
    · simp only [SB.T, SB.F] at hT
      have hc : ¬ C % 2 = 1 := by rw [hbt] at hT; exact of_decide_eq_false hT
      refine X.go T23_ok 400 _ rfl Try.results23 ?_
      conv => arg 2; cbv
      refine X.done T23_ok rfl (fun N w' v hN hS hv => ?_)
      rw [hQ]
      refine ⟨fin_bool hv (den_of ?_), hS.chg.none⟩
      rw [B_iff]
      unfold mayC
      rw [if_neg hc]
      simp only [SB.T, SI.den]
      exact ⟨fun h => ⟨h0n, hmn, by omega⟩, fun h => by omega⟩
    · simp only [SB.T, SB.F] at hF
      have hc : C % 2 = 1 := by rw [hbt] at hF; exact of_decide_eq_true hF
      obtain ⟨so, hso⟩ : ∃ s, s = setN o.toList := ⟨_, rfl⟩
      obtain ⟨sn, hsn⟩ : ∃ s, s = setN n.toList := ⟨_, rfl⟩
      have hso8 : so < 2 ^ 64 := by rw [hso]; exact setN_lt _ 0 (by decide)
      have hsn8 : sn < 2 ^ 64 := by rw [hsn]; exact setN_lt _ 0 (by decide)
      have hxor := bits_xor so sn hso8 hsn8
      obtain ⟨pk, hpk⟩ : ∃ p, p = popN 64 (so ^^^ sn) := ⟨_, rfl⟩
      refine X.goP ([(22, .bool (.v m2)), (32, .int .u64 (.nat so)), (35, .int .u64 (.nat sn)), (37, .int .i64 (.nat pk))]) T23_ok 400 _ rfl Try.results23 (fun pr fin hpr hfin => ?_)
      conv => cbv
      refine ⟨hpr _ (.of Try.call48 [.int .u64 ((so ^^^ sn : Nat) : Int)] (.int .i64 pk) (fun _ => by simp only [SV.denL, SV.den, SI.den, hxor]) (fun _ => rfl) fun _ w1 _ => by rw [hpk]; exact ones_ok _ w1 (Nat.xor_lt_two_pow hso8 hsn8)),
        hpr _ (.of Try.call49 [.slice pn nn cn] (.int .u64 sn) (fun _ => rfl) (fun _ => rfl) fun _ w1 him => by rw [hsn]; exact set_ok pn nn cn n w1 hnn (hn.im him) hbn),
        hpr _ (.of Try.call49 [.slice po no co] (.int .u64 so) (fun _ => rfl) (fun _ => rfl) fun _ w1 him => by rw [hso]; exact set_ok po no co o w1 hno (ho.im him) hbo),
        hpr _ (.of Try.call19 [.slice po no co] (.bool m2) (fun _ => rfl) (fun _ => rfl) fun _ w1 him => by rw [hm2]; exact may_ok po no co o w1 hno (ho.im him)), hfin _ _ ?_⟩
      refine X.done T23_ok rfl (fun N w' v hN hS hv => ?_)
      rw [hQ]
      refine ⟨fin_bool hv (den_of ?_), hS.chg.none⟩
      rw [B_iff]
      unfold mayC
      rw [if_pos hc]
      simp only [SB.T, SI.den]
      have hb2 : m2 = true ↔ mayP o o.size := by rw [hm2, B_iff, hos]
      constructor
      · rintro ⟨⟨h1, h2⟩, h3⟩
        have hmo := hb2.1 h1
        refine ⟨h0n, hmn, by omega, hmo, ?_⟩
        rw [← pop_xor ((mayP_lt hmo).imp fun h => by omega) (mayP_64 hmo hbo) ((mayP_lt hmn).imp fun h => by omega) (mayP_64 hmn hbn), ← hso, ← hsn, ← hpk]
        omega
      · rintro ⟨_, _, h1, hmo, h3⟩
        refine ⟨⟨hb2.2 hmo, by omega⟩, ?_⟩
        rw [← pop_xor ((mayP_lt hmo).imp fun h => by omega) (mayP_64 hmo hbo) ((mayP_lt hmn).imp fun h => by omega) (mayP_64 hmn hbn), ← hso, ← hsn, ← hpk] at h3
        omega

set_option maxHeartbeats 8000000 in
set_option maxRecDepth 100000 in
set_option cbv.maxSteps 100000000 in
theorem cmay10_ok (C : Nat) (po pn : Option Addr) (no nn co cn : Nat) (o n : Array Int) (w : World) (hno : no ≤ 100000) (hnn : nn ≤ 100000) (ho : InB po no o w) (hn : InB pn nn n w) :
    Calls Try.prog 24 #[.agg #[.int .u64 C, .slice po no co, .slice pn nn cn]] w fun e w' => e = .returned (.bool (B (mayC C o n))) ∧ Chg (fun _ _ => False) w w' := by
  have hos := ho.1
  have hns := hn.1
  obtain ⟨Q, hQ⟩ : ∃ Q : Ending → World → Prop, Q = fun e w' => e = .returned (.bool (B (mayC C o n))) ∧ Chg (fun _ _ => False) w w' := ⟨_, rfl⟩
  rw [← hQ]
  refine X.begin (rg := []) (N := []) (ss := [.agg [.int .u64 (.nat C), .slv po no co, .slv pn nn cn]]) Try.func24 rfl B24_ok rfl rfl Sat.std0 ?_
  obtain ⟨m1, hm1⟩ : ∃ b, b = B (mayP n nn) := ⟨_, rfl⟩
  obtain ⟨m2, hm2⟩ : ∃ b, b = B (mayP o no) := ⟨_, rfl⟩
  refine X.goP ([(10, .bool (.v m1))]) T24_ok 400 _ rfl Try.results24 (fun pr fin hpr hfin => ?_)
  conv => cbv
  refine ⟨hpr _ (.of Try.call20 [.slice pn nn cn] (.bool m1) (fun _ => rfl) (fun _ => rfl) fun _ w1 him => by rw [hm1]; exact may9_ok pn nn cn n w1 hnn (hn.im him)), hfin _ _ ?_⟩
  refine X.cond rfl (fun hT => ?_) (fun hF => ?_)
  · simp only [SB.T, SB.F, SI.den] at hT
    have hno' : ¬ mayC C o n := fun ⟨h1, h2, _⟩ => by
      rcases hT with h | h
      · omega
      · rw [hm1, ← hns, B_pos h2] at h; cases h
    refine X.go T24_ok 400 _ rfl Try.results24 ?_
    conv => arg 2; cbv
    refine X.done T24_ok rfl (fun N w' v hN hS hv => ?_)
    rw [hQ]
    exact ⟨fin_bool hv (by rw [B_neg hno']; rfl), hS.chg.none⟩
  · simp only [SB.T, SB.F, SI.den] at hF
    have hmn : mayP n n.size := by rw [hns]; exact B_iff.1 (by rw [← hm1]; exact hF.2)
    have h0n : 0 < n.size := by omega
    refine X.go T24_ok 400 _ rfl Try.results24 ?_
    conv => arg 2; cbv
    refine X.cond rfl (fun hT => ?_) (fun hF => ?_)
    · simp only [SB.T, SB.F, SI.den] at hT
      have hc : ¬ C % 2 = 1 := by rw [Int.tmod_eq_emod_of_nonneg (by omega)] at hT; omega
      refine X.go T24_ok 400 _ rfl Try.results24 ?_
      conv => arg 2; cbv
      refine X.done T24_ok rfl (fun N w' v hN hS hv => ?_)
      rw [hQ]
      refine ⟨fin_bool hv (den_of ?_), hS.chg.none⟩
      rw [B_iff]
      unfold mayC
      rw [if_neg hc]
      simp only [SB.T, SI.den]
      exact ⟨fun h => ⟨h0n, hmn, by omega⟩, fun h => by omega⟩
    · simp only [SB.T, SB.F, SI.den] at hF
      have hc : C % 2 = 1 := by rw [Int.tmod_eq_emod_of_nonneg (by omega)] at hF; omega
      obtain ⟨k1, hk1⟩ : ∃ k, k = othN o.toList n.toList := ⟨_, rfl⟩
      obtain ⟨k2, hk2⟩ : ∃ k, k = othN n.toList o.toList := ⟨_, rfl⟩
      have hk18 : k1 ≤ 100000 := by rw [hk1]; exact Nat.le_trans List.countP_le_length (by simp; omega)
      have hk28 : k2 ≤ 100000 := by rw [hk2]; exact Nat.le_trans List.countP_le_length (by simp; omega)
      refine X.goP ([(28, .bool (.v m2)), (35, .int .i64 (.nat k1)), (40, .int .i64 (.nat k2))]) T24_ok 400 _ rfl Try.results24 (fun pr fin hpr hfin => ?_)
      conv => cbv
      refine ⟨hpr _ (.of Try.call50 [.slice pn nn cn, .slice po no co] (.int .i64 k2) (fun _ => rfl) (fun _ => rfl) fun _ w1 him => by rw [hk2]; exact others_ok pn po nn cn no co n o w1 hnn hno (hn.im him) (ho.im him)),
        hpr _ (.of Try.call50 [.slice po no co, .slice pn nn cn] (.int .i64 k1) (fun _ => rfl) (fun _ => rfl) fun _ w1 him => by rw [hk1]; exact others_ok po pn no co nn cn o n w1 hno hnn (ho.im him) (hn.im him)),
        hpr _ (.of Try.call20 [.slice po no co] (.bool m2) (fun _ => rfl) (fun _ => rfl) fun _ w1 him => by rw [hm2]; exact may9_ok po no co o w1 hno (ho.im him)), hfin _ _ ?_⟩
      refine X.done T24_ok rfl (fun N w' v hN hS hv => ?_)
      rw [hQ]
      refine ⟨fin_bool hv (den_of ?_), hS.chg.none⟩
      rw [B_iff]
      unfold mayC
      rw [if_pos hc, ← hk1, ← hk2]
      simp only [SB.T, SI.den, wrapN ((k1 : Int) + (k2 : Int)) (by omega) (by omega)]
      have hb2 : m2 = true ↔ mayP o o.size := by rw [hm2, B_iff, hos]
      constructor
      · rintro ⟨⟨h1, h2⟩, h3⟩
        exact ⟨h0n, hmn, by omega, hb2.1 h2, by omega⟩
      · rintro ⟨_, _, h1, hmo, h3⟩
        exact ⟨⟨by omega, hb2.2 hmo⟩, by omega⟩

end Go.Proofs.Ythaffebapmkppaa
