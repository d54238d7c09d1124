/- Configurations: all keepers; the law's helpers. -/
import Derived.Test.YthaffebapmkppaaCf7

namespace Go.Proofs.Ythaffebapmkppaa
open Go Go.Eng Go.Sort

theorem RoR.inB {l : List Int} {b o q : Nat} {w w' : World} (h2 : 0 < l.length → w.heap.size ≤ b) (h4 : ∀ j, j < l.length → w'.cell? ⟨b, o + j, none⟩ = some (.int .u8 l[j]!)) (hq : q = l.length) {im : Mem} (hnew : ∀ k o v, w.heap.size ≤ k → w'.cell? ⟨k, o, none⟩ = some v → im k o = some v) : ∀ w2 : World, (∀ k o v, im k o = some v → w2.cell? ⟨k, o, none⟩ = some v) → InB (some ⟨b, o, none⟩) q l.toArray w2 := fun w2 h => ⟨by simp [hq], fun h0 => ⟨b, o, rfl, fun j hj => by
  have hj : j < l.length := by simpa using hj
  have := h _ _ _ (hnew _ _ _ (h2 (by omega)) (h4 j hj))
  simpa [hj] using this⟩⟩

set_option maxHeartbeats 8000000 in
set_option maxRecDepth 100000 in
set_option cbv.maxSteps 100000000 in
theorem ckeepers10_ok (C : Nat) (po pn : Option Addr) (no nn co cn : Nat) (o n : Array Int) (key : Int) (w : World) (hno : no ≤ 100) (hnn : nn ≤ 100) (ho : InB po no o w) (hn : InB pn nn n w) (hbo : ∀ x ∈ o.toList, 0 ≤ x ∧ x < 256) (hbn : ∀ x ∈ n.toList, 0 ≤ x ∧ x < 256) :
    Calls Try.prog 31 #[.agg #[.int .u64 C, .slice po no co, .slice pn nn cn], .int .u8 key] w (RoR (bytL (keepC C o n key)) (keepC C o n key).length w) := by
  obtain ⟨F, hF⟩ : ∃ F, F = keepC C o n key := ⟨_, rfl⟩
  have hFa : asc (ringsL C o n key).flatten 256 = F := by rw [hF]; exact keepC_asc hbo hbn
  obtain ⟨Q, hQ⟩ : ∃ Q : Ending → World → Prop, Q = RoR (bytL F) F.length w := ⟨_, rfl⟩
  rw [← hF, ← hQ]
  refine X.begin (rg := []) (N := []) (ss := [.agg [.int .u64 (.nat C), .slv po no co, .slv pn nn cn], .int .u8 (.v key)]) Try.func31 rfl B31_ok rfl rfl Sat.std0 ?_
  refine X.go T31_ok 400 _ rfl Try.results31 ?_
  conv => arg 2; cbv
  refine X.call rfl rfl rfl rfl Try.call18 (fun N w1 args hN hS ha => ?_)
  have ha : args = [.slice pn nn cn, .int .u8 key] := (Option.some.inj ha).symm
  rw [ha]
  refine (of9_ok pn nn cn n key w1 hnn (hn.stays hS.chg.none) hbn).mono fun e w2 hr => ?_
  obtain ⟨b1, y1, c1, he, hfr, hcell, hch⟩ := hr.byt
  have hl3 := ofL_3 n key
  obtain ⟨l1, hl1⟩ : ∃ l, l = ofL n key := ⟨_, rfl⟩
  obtain ⟨q1, hq1⟩ : ∃ q, q = l1.length := ⟨_, rfl⟩
  rw [← hl1] at hfr hcell he hl3
  rw [← hq1] at he
  refine ⟨_, he, Goes.newMem hN hS hch (r := .slv (some ⟨b1, y1, none⟩) q1 c1) rfl rfl (fun hold hnew => ?_)⟩
  obtain ⟨im, him⟩ : ∃ im, im = imNew (elsewhere [] [] w) w1 w2 := ⟨_, rfl⟩
  have hB1 := RoR.inB hfr hcell hq1 (im := im) (by rw [him]; exact hnew)
  have hoM : ∀ w' : World, (∀ k o v, im k o = some v → w'.cell? ⟨k, o, none⟩ = some v) → InB po no o w' := fun w' h => ho.im fun k o v hv => h _ _ _ (by rw [him]; exact hold _ _ _ hv)
  obtain ⟨p1, hp1⟩ : ∃ p, p = some (Addr.mk b1 y1 none) := ⟨_, rfl⟩
  show X (mkE Try.prog Try.f31 Q w (InR [] []) (imNew (elsewhere [] [] w) w1 w2) (fun _ _ => False) (fun _ => True) [] B31) _ _
  rw [← hp1] at hB1
  rw [← him, ← hp1]
  clear him hold hnew hr hch he ha hS hN hcell hfr
  refine X.go T31_ok 400 _ rfl Try.results31 ?_
  conv => arg 2; cbv
  refine X.cond rfl (fun hT => ?_) (fun hF' => ?_)
  · simp only [SB.T, SI.den] at hT
    have hc : C % 2 = 1 := by rw [Int.tmod_eq_emod_of_nonneg (by omega)] at hT; omega
    have hrl : (ringsL C o n key).flatten = l1 ++ ofL o key := by rw [ringsL, if_pos hc, hl1]; simp
    rw [hrl] at hFa
    refine X.go T31_ok 400 _ rfl Try.results31 ?_
    conv => arg 2; cbv
    refine X.call rfl rfl rfl rfl Try.call18 (fun N w3 args hN hS ha => ?_)
    have ha : args = [.slice po no co, .int .u8 key] := (Option.some.inj ha).symm
    rw [ha]
    refine (of9_ok po no co o key w3 hno (hoM w3 hS.imm) hbo).mono fun e w4 hr => ?_
    obtain ⟨b2, y2, c2, he, hfr, hcell, hch⟩ := hr.byt
    have hl3' := ofL_3 o key
    obtain ⟨l2, hl2⟩ : ∃ l, l = ofL o key := ⟨_, rfl⟩
    obtain ⟨q2, hq2⟩ : ∃ q, q = l2.length := ⟨_, rfl⟩
    rw [← hl2] at hfr hcell he hl3' hFa
    rw [← hq2] at he
    refine ⟨_, he, Goes.newMem hN hS hch (r := .slv (some ⟨b2, y2, none⟩) q2 c2) rfl rfl (fun hold hnew => ?_)⟩
    obtain ⟨im2, him2⟩ : ∃ im2, im2 = imNew im w3 w4 := ⟨_, rfl⟩
    have hB2 := RoR.inB hfr hcell hq2 (im := im2) (by rw [him2]; exact hnew)
    have hold2 : ∀ k o v, im k o = some v → im2 k o = some v := by rw [him2]; exact hold
    obtain ⟨p2, hp2⟩ : ∃ p, p = some (Addr.mk b2 y2 none) := ⟨_, rfl⟩
    show X (mkE Try.prog Try.f31 Q w (InR [] []) (imNew im w3 w4) (fun _ _ => False) (fun _ => True) [] B31) _ _
    rw [← hp2] at hB2
    rw [← him2, ← hp2]
    clear him2 hold hnew hr hch he ha hS hN hcell hfr
    refine X.go T31_ok 2 _ rfl Try.results31 ?_
    conv => arg 2; cbv
    refine X.less [5, 6] ?_
    exact keep10_loop p1 q1 c1 q2 l1 l2 F (.slv p2 q2 c2) w im2 Q hQ hq1 hq2 (by omega) (by omega) (fun w' h => hB1 w' fun k o v hv => h _ _ _ (hold2 _ _ _ hv)) (fun N v hv => ⟨p2, c2, (Option.some.inj hv).symm, hB2⟩) rfl rfl [.int .u64 (.nat C), .slv po no co, .slv pn nn cn] rfl rfl hFa
  · simp only [SB.F, SI.den] at hF'
    have hc : ¬ C % 2 = 1 := by rw [Int.tmod_eq_emod_of_nonneg (by omega)] at hF'; omega
    have hrl : (ringsL C o n key).flatten = l1 ++ [] := by rw [ringsL, if_neg hc, hl1]; simp
    rw [hrl] at hFa
    refine X.go T31_ok 1 _ rfl Try.results31 ?_
    conv => arg 2; cbv
    refine X.less [5, 6] ?_
    refine keep10_loop p1 q1 c1 0 l1 [] F (.osl 1 0 0 1 (some 0)) w im Q hQ hq1 rfl (by omega) (by omega) hB1 (fun N v hv => ?_) rfl rfl [.int .u64 (.nat C), .slv po no co, .slv pn nn cn] rfl rfl hFa
    simp only [SV.den] at hv
    split at hv
    · rename_i p hp
      exact ⟨_, _, (Option.some.inj hv).symm, fun w' _ => ⟨rfl, fun h => absurd h (Nat.lt_irrefl 0)⟩⟩
    · cases hv

/-! ### all keepers -/
def allC (C : Nat) (o n : Array Int) (key : Int) (s : Nat) : Prop := mayC C o n ∧ ∀ x ∈ keepC C o n key, s.testBit x.toNat = true
theorem andNot_zero (a b : Nat) (ha : a < 2 ^ 64) (hb : b < 2 ^ 64) : bitsI .andNot .u64 a b = 0 ↔ ∀ i, i < 64 → a.testBit i = true → b.testBit i = true := by
  show IntKind.u64.wrap (((BitVec.ofInt 64 (a : Int) &&& ~~~ BitVec.ofInt 64 (b : Int)).toNat : Nat) : Int) = 0 ↔ _
  have e1 : (BitVec.ofInt 64 (a : Int)) = BitVec.ofNat 64 a := by simp
  have e2 : (BitVec.ofInt 64 (b : Int)) = BitVec.ofNat 64 b := by simp
  rw [e1, e2]
  obtain ⟨v, hv⟩ : ∃ v, v = (BitVec.ofNat 64 a &&& ~~~ BitVec.ofNat 64 b) := ⟨_, rfl⟩
  rw [← hv, wrapU64 _ v.isLt]
  have h0 : ((v.toNat : Nat) : Int) = 0 ↔ v = 0#64 := by
    rw [← BitVec.toNat_inj]
    simp
  rw [h0]
  constructor
  · intro h i hi h1
    have := congrArg (fun v : BitVec 64 => v.getLsbD i) (hv.symm.trans h)
    simp only [BitVec.getLsbD_and, BitVec.getLsbD_not, BitVec.getLsbD_ofNat, hi, decide_true, Bool.true_and, BitVec.getLsbD_zero, h1] at this
    simpa using this
  · intro h
    rw [hv]
    refine BitVec.eq_of_getLsbD_eq fun i hi => ?_
    have := h i hi
    simp only [BitVec.getLsbD_and, BitVec.getLsbD_not, BitVec.getLsbD_ofNat, hi, decide_true, Bool.true_and, BitVec.getLsbD_zero]
    cases ha' : a.testBit i with
    | false => simp
    | true => simp [this ha']
theorem all_law {C : Nat} {o n : Array Int} {key : Int} {s : Nat} (hs : s < 2 ^ 64) (h : mayC C o n) (hbo : ∀ x ∈ o.toList, 0 ≤ x ∧ x < 256) (hbn : ∀ x ∈ n.toList, 0 ≤ x ∧ x < 256) : bitsI .andNot .u64 (setN (keepC C o n key) : Nat) s = 0 ↔ allC C o n key s := by
  have hk := keepC_64 (key := key) h hbo hbn
  rw [andNot_zero (setN (keepC C o n key)) s (by unfold setN; exact setN_lt _ 0 (by decide)) hs]
  constructor
  · intro h1
    refine ⟨h, fun x hx => ?_⟩
    have := hk x hx
    refine h1 x.toNat (by omega) ?_
    unfold setN
    rw [setN_bit (by omega) _ 0 fun y hy => (hk y hy).1]
    simp [Int.toNat_of_nonneg this.1, hx]
  · rintro ⟨_, h1⟩ i hi h2
    unfold setN at h2
    rw [setN_bit hi _ 0 fun y hy => (hk y hy).1] at h2
    simp at h2
    have := h1 _ h2
    simpa using this

set_option maxHeartbeats 8000000 in
set_option maxRecDepth 100000 in
set_option cbv.maxSteps 100000000 in
theorem all_ok (C s : Nat) (po pn : Option Addr) (no nn co cn : Nat) (o n : Array Int) (key : Int) (w : World) (hno : no ≤ 100) (hnn : nn ≤ 100) (hs : s < 2 ^ 64) (ho : InB po no o w) (hn : InB pn nn n w) (hbo : ∀ x ∈ o.toList, 0 ≤ x ∧ x < 256) (hbn : ∀ x ∈ n.toList, 0 ≤ x ∧ x < 256) :
    Calls Try.prog 28 #[.agg #[.int .u64 C, .slice po no co, .slice pn nn cn], .int .u8 key, .int .u64 s] w fun e w' => e = .returned (.bool (B (allC C o n key s))) ∧ Chg (fun _ _ => False) w w' := by
  obtain ⟨Q, hQ⟩ : ∃ Q : Ending → World → Prop, Q = fun e w' => e = .returned (.bool (B (allC C o n key s))) ∧ Chg (fun _ _ => False) w w' := ⟨_, rfl⟩
  rw [← hQ]
  refine X.begin (rg := []) (N := []) (ss := [.agg [.int .u64 (.nat C), .slv po no co, .slv pn nn cn], .int .u8 (.v key), .int .u64 (.nat s)]) Try.func28 rfl B28_ok rfl rfl Sat.std0 ?_
  by_cases hmay : mayC C o n
  · skip
    refine X.goP ([(8, .bool (.lit true))]) T28_ok 10 _ rfl Try.results28 (fun pr fin hpr hfin => ?_)
    conv => cbv
    refine ⟨hpr _ (.of Try.call23 [.agg #[.int .u64 C, .slice po no co, .slice pn nn cn]] (.bool true) (fun _ => rfl) (fun _ => rfl) fun _ w1 him => by rw [← B_pos hmay]; exact cmay_ok C po pn no nn co cn o n w1 (by omega) (by omega) (ho.im him) (hn.im him) hbo hbn), hfin _ _ ?_⟩
    refine X.go T28_ok 400 _ rfl Try.results28 ?_
    conv => arg 2; cbv
    refine X.callG rfl rfl rfl rfl Try.call30 (fun N w1 args hN hS ha => ?_)
    have ha : args = [.agg #[.int .u64 C, .slice po no co, .slice pn nn cn], .int .u8 key] := (Option.some.inj ha).symm
    rw [ha]
    refine (ckeepers_ok C po pn no nn co cn o n key w1 hno hnn (ho.stays hS.chg.none) (hn.stays hS.chg.none) hbo hbn).mono fun e w2 hr => ?_
    obtain ⟨p1, c1, he, hb1, hch⟩ := hr.new
    have hk6 := keepC_len C o n key
    have hkb := keepC_byte (C := C) (key := key) hbo hbn
    have hlaw := all_law (key := key) hs hmay hbo hbn
    obtain ⟨l1, hl1⟩ : ∃ l, l = keepC C o n key := ⟨_, rfl⟩
    obtain ⟨q1, hq1⟩ : ∃ q, q = l1.length := ⟨_, rfl⟩
    rw [← hl1] at hb1 he hk6 hkb hlaw
    rw [← hq1] at he
    refine ⟨_, he, Goes.newMem hN hS hch (r := .slv p1 q1 c1) rfl rfl (fun hold hnew => ?_)⟩
    obtain ⟨im, him⟩ : ∃ im, im = imNew (elsewhere [] [] w) w1 w2 := ⟨_, rfl⟩
    have hb1 : BytNew l1 0 im p1 c1 := hb1.mono (Nat.zero_le _) fun k o v hk hv => by rw [him]; exact hnew _ _ _ hk hv
    show X (mkE Try.prog Try.f28 Q w (InR [] []) (imNew (elsewhere [] [] w) w1 w2) (fun _ _ => False) (fun _ => True) [] B28) _ _
    rw [← him]
    clear him hold hnew hr hch he ha hS hN
    obtain ⟨sl, hsl⟩ : ∃ t, t = setN l1 := ⟨_, rfl⟩
    refine X.goP ([(13, .int .u64 (.nat sl))]) T28_ok 400 _ rfl Try.results28 (fun pr fin hpr hfin => ?_)
    conv => cbv
    refine ⟨hpr _ (.of Try.call49 [.slice p1 q1 c1] (.int .u64 sl) (fun _ => rfl) (fun _ => rfl) fun _ w1 him => by rw [hsl, hq1]; exact set_ok p1 l1.length c1 l1.toArray w1 (by omega) (hb1.inB him) (fun x hx => hkb x (by simpa using hx))), hfin _ _ ?_⟩
    refine X.done T28_ok rfl (fun N w' v hN hS hv => ?_)
    rw [hQ]
    refine ⟨fin_bool hv (den_of ?_), hS.chg.none⟩
    rw [B_iff, ← hlaw, ← hsl]
    simp [SB.T, SI.den]
  · refine X.goP ([(8, .bool (.lit false))]) T28_ok 400 _ rfl Try.results28 (fun pr fin hpr hfin => ?_)
    conv => cbv
    refine ⟨hpr _ (.of Try.call23 [.agg #[.int .u64 C, .slice po no co, .slice pn nn cn]] (.bool false) (fun _ => rfl) (fun _ => rfl) fun _ w1 him => by rw [← B_neg hmay]; exact cmay_ok C po pn no nn co cn o n w1 (by omega) (by omega) (ho.im him) (hn.im him) hbo hbn), hfin _ _ ?_⟩
    refine X.done T28_ok rfl (fun N w' v hN hS hv => ?_)
    rw [hQ]
    exact ⟨fin_bool hv (by rw [B_neg fun h => hmay h.1]; rfl), hS.chg.none⟩

set_option maxHeartbeats 8000000 in
set_option maxRecDepth 100000 in
set_option cbv.maxSteps 100000000 in
theorem all10_ok (C s : Nat) (po pn : Option Addr) (no nn co cn : Nat) (o n : Array Int) (key : Int) (w : World) (hno : no ≤ 100) (hnn : nn ≤ 100) (hs : s < 2 ^ 64) (ho : InB po no o w) (hn : InB pn nn n w) (hbo : ∀ x ∈ o.toList, 0 ≤ x ∧ x < 256) (hbn : ∀ x ∈ n.toList, 0 ≤ x ∧ x < 256) :
    Calls Try.prog 29 #[.agg #[.int .u64 C, .slice po no co, .slice pn nn cn], .int .u8 key, .int .u64 s] w fun e w' => e = .returned (.bool (B (allC C o n key s))) ∧ Chg (fun _ _ => False) w w' := by
  obtain ⟨Q, hQ⟩ : ∃ Q : Ending → World → Prop, Q = fun e w' => e = .returned (.bool (B (allC C o n key s))) ∧ Chg (fun _ _ => False) w w' := ⟨_, rfl⟩
  rw [← hQ]
  refine X.begin (rg := []) (N := []) (ss := [.agg [.int .u64 (.nat C), .slv po no co, .slv pn nn cn], .int .u8 (.v key), .int .u64 (.nat s)]) Try.func29 rfl B29_ok rfl rfl Sat.std0 ?_
  refine X.go T29_ok 400 _ rfl Try.results29 ?_
  conv => arg 2; cbv
  refine X.call rfl rfl rfl rfl Try.call31 (fun N w1 args hN hS ha => ?_)
  have ha : args = [.agg #[.int .u64 C, .slice po no co, .slice pn nn cn], .int .u8 key] := (Option.some.inj ha).symm
  rw [ha]
  refine (ckeepers10_ok C po pn no nn co cn o n key w1 hno hnn (ho.stays hS.chg.none) (hn.stays hS.chg.none) hbo hbn).mono fun e w2 hr => ?_
  obtain ⟨b1, y1, c1, he, hfr, hcell, hch⟩ := hr.byt
  have hk6 := keepC_len C o n key
  have hkb := keepC_byte (C := C) (key := key) hbo hbn
  obtain ⟨l1, hl1⟩ : ∃ l, l = keepC C o n key := ⟨_, rfl⟩
  obtain ⟨q1, hq1⟩ : ∃ q, q = l1.length := ⟨_, rfl⟩
  rw [← hl1] at hfr hcell he hk6 hkb
  rw [← hq1] at he
  refine ⟨_, he, Goes.newMem hN hS hch (r := .slv (some ⟨b1, y1, none⟩) q1 c1) rfl rfl (fun hold hnew => ?_)⟩
  obtain ⟨im, him⟩ : ∃ im, im = imNew (elsewhere [] [] w) w1 w2 := ⟨_, rfl⟩
  have hB1 := RoR.inB hfr hcell hq1 (im := im) (by rw [him]; exact hnew)
  have hoM : ∀ w' : World, (∀ k o v, im k o = some v → w'.cell? ⟨k, o, none⟩ = some v) → InB po no o w' := fun w' h => ho.im fun k o v hv => h _ _ _ (by rw [him]; exact hold _ _ _ hv)
  have hnM : ∀ w' : World, (∀ k o v, im k o = some v → w'.cell? ⟨k, o, none⟩ = some v) → InB pn nn n w' := fun w' h => hn.im fun k o v hv => h _ _ _ (by rw [him]; exact hold _ _ _ hv)
  obtain ⟨p1, hp1⟩ : ∃ p, p = some (Addr.mk b1 y1 none) := ⟨_, rfl⟩
  show X (mkE Try.prog Try.f29 Q w (InR [] []) (imNew (elsewhere [] [] w) w1 w2) (fun _ _ => False) (fun _ => True) [] B29) _ _
  rw [← hp1] at hB1
  rw [← him, ← hp1]
  clear him hold hnew hr hch he ha hS hN hcell hfr
  obtain ⟨mc, hmc⟩ : ∃ b, b = B (mayC C o n) := ⟨_, rfl⟩
  obtain ⟨k, hk⟩ : ∃ k, k = cntN l1 s := ⟨_, rfl⟩
  refine X.goP ([(12, .bool (.v mc)), (16, .int .i64 (.nat k))]) T29_ok 400 _ rfl Try.results29 (fun pr fin hpr hfin => ?_)
  conv => cbv
  refine ⟨hpr _ (.of Try.call52 [.slice p1 q1 c1, .int .u64 s] (.int .i64 k) (fun _ => rfl) (fun _ => rfl) fun _ w1 him => by rw [hk]; exact count_ok p1 q1 c1 s l1.toArray w1 (by omega) hs (hB1 w1 him) (fun x hx => hkb x (by simpa using hx))),
    hpr _ (.of Try.call24 [.agg #[.int .u64 C, .slice po no co, .slice pn nn cn]] (.bool mc) (fun _ => rfl) (fun _ => rfl) fun _ w1 him => by rw [hmc]; exact cmay10_ok C po pn no nn co cn o n w1 (by omega) (by omega) (hoM w1 him) (hnM w1 him)), hfin _ _ ?_⟩
  refine X.done T29_ok rfl (fun N w' v hN hS hv => ?_)
  rw [hQ]
  refine ⟨fin_bool hv (den_of ?_), hS.chg.none⟩
  rw [B_iff]
  simp only [SB.T, SI.den]
  unfold allC
  rw [← hl1, hmc, B_iff]
  refine and_congr Iff.rfl ?_
  have : k = q1 ↔ ∀ x ∈ l1, s.testBit x.toNat = true := by rw [hk, hq1]; exact List.countP_eq_length
  rw [← this]
  omega

set_option maxHeartbeats 4000000 in
set_option maxRecDepth 100000 in
set_option cbv.maxSteps 100000000 in
theorem great10_ok (C : Nat) (po pn : Option Addr) (no nn co cn : Nat) (w : World) :
    Calls Try.prog 21 #[.agg #[.int .u64 C, .slice po no co, .slice pn nn cn]] w fun e w' => e = .returned (.bool (decide (80 < no ∨ 80 < nn))) ∧ Chg (fun _ _ => False) w w' := by
  refine X.begin (rg := []) (N := []) (ss := [.agg [.int .u64 (.nat C), .slv po no co, .slv pn nn cn]]) Try.func21 rfl B21_ok rfl rfl Sat.std0 ?_
  refine X.go T21_ok 400 _ rfl Try.results21 ?_
  conv => arg 2; cbv
  refine X.done T21_ok rfl (fun N w' v hN hS hv => ⟨fin_bool hv (den_of ?_), hS.chg.none⟩)
  simp only [SB.T, SI.den, decide_eq_true_eq]
  omega

/-! ### one node alone -/
theorem ofL_one (x key : Int) : ofL #[x] key = [x] := by
  have h1 : ofL #[x] key ≠ [] := ofL_pos (by simp)
  have h2 : ∀ y ∈ ofL #[x] key, y = x := fun y hy => by simpa using ofL_sub hy
  have h3 := ofL_lt #[x] key
  cases hl : ofL #[x] key with
  | nil => exact absurd hl h1
  | cons a t =>
    rw [hl] at h2 h3
    have ha := h2 a (by simp)
    cases t with
    | nil => rw [ha]
    | cons b t =>
      have hb := h2 b (by simp)
      have := (List.pairwise_cons.1 h3).1 b (by simp)
      omega
theorem mayC_one : mayC 0 #[] #[3] := ⟨by simp, fun i hi => by
  have : i = 0 := by simp at hi; omega
  subst this
  exact ⟨by decide, fun h => absurd h (by decide)⟩, by simp⟩
theorem keepC_one : keepC 0 #[] #[3] 1 = [3] := by
  have h : ringsL 0 #[] #[3] 1 = [[3]] := by rw [ringsL, if_neg (by decide), ofL_one]
  rw [keepC, h]
  refine lt_eq (ascA_lt _) (by simp) fun y => ?_
  rw [ascA_iff]
  simp
theorem quoC_8 : quoC 0 #[] #[3] 1 8 := ⟨mayC_one, by rw [ofL_one]; unfold maj; decide, fun h => absurd h (by decide)⟩
theorem quoC_7 : ¬ quoC 0 #[] #[3] 1 7 := fun h => by
  have := h.2.1
  rw [ofL_one] at this
  exact absurd this (by unfold maj; decide)
theorem allC_8 : allC 0 #[] #[3] 1 8 := ⟨mayC_one, fun x hx => by
  rw [keepC_one] at hx
  obtain rfl : x = 3 := by simpa using hx
  decide⟩

theorem awake_args {E : Env} {N : Nums} {rg : List Rg} {w1 : World} (hS : Sat E N rg w1) {ow : Bool} {xs : List SV} (hg : rg[0]? = some ⟨ow, xs, none⟩) (hx : xs[0]? = some (.int .u8 (.lit 3))) {s : SI} {args : List Value} (ha : SV.denL N [.agg [.int .u64 (.lit 0), .raw (.slice none 0 0), .osl 0 0 1 1 (some 1)], .int .u8 (.lit 1), .int .u64 s] = some args) : ∃ p c, args = [.agg #[.int .u64 (0 : Nat), .slice none 0 0, .slice p 1 c], .int .u8 1, .int .u64 s.den] ∧ InB p 1 #[3] w1 := by
  obtain ⟨p, hp⟩ := num_of hS hg
  have h : InB (some ⟨p.b, p.o + 0, none⟩) 1 #[3] w1 := inB_own hS hg hp rfl fun j hj => by
    obtain rfl : j = 0 := by omega
    exact ⟨_, hx, rfl⟩
  simp only [SV.denL, SV.den, hp, SI.den] at ha
  exact ⟨_, _, (Option.some.inj ha).symm, h⟩

set_option maxHeartbeats 8000000 in
set_option maxRecDepth 100000 in
set_option cbv.maxSteps 100000000 in
theorem awake10_ok (w : World) : Calls Try.prog 22 #[] w fun e w' => e = .returned (.bool true) ∧ Chg (fun _ _ => False) w w' := by
  refine X.begin (rg := []) (N := []) (ss := []) Try.func22 rfl B22_ok rfl rfl Sat.std0 ?_
  have hb0 : ∀ x ∈ (#[] : Array Int).toList, 0 ≤ x ∧ x < 256 := fun x hx => by simp at hx
  have hb3 : ∀ x ∈ (#[3] : Array Int).toList, 0 ≤ x ∧ x < 256 := fun x hx => by
    obtain rfl : x = 3 := by simpa using hx
    decide
  refine X.goP ([(5, .bool (.lit true)), (8, .bool (.lit true)), (12, .bool (.lit false))]) T22_ok 400 _ rfl Try.results22 (fun pr fin hpr hfin => ?_)
  conv => cbv
  have hin : ∀ w1 : World, InB none 0 #[] w1 := fun w1 => ⟨rfl, fun h => absurd h (Nat.lt_irrefl 0)⟩
  refine ⟨hpr _ fun _ => ⟨Try.call26, fun N w1 args _ hS ha => ?_⟩, hpr _ fun _ => ⟨Try.call28, fun N w1 args _ hS ha => ?_⟩, hpr _ fun _ => ⟨Try.call26, fun N w1 args _ hS ha => ?_⟩, hfin _ _ ?_⟩
  · obtain ⟨p, c, rfl, h3⟩ := awake_args hS rfl rfl ha
    refine (quorum_ok 0 7 none p 0 1 0 c #[] #[3] 1 w1 (by decide) (by decide) (by decide) (hin w1) h3 hb0 hb3).mono fun e w' ⟨he, hc⟩ => ⟨_, he, by rw [B_neg quoC_7]; rfl, hc⟩
  · obtain ⟨p, c, rfl, h3⟩ := awake_args hS rfl rfl ha
    refine (all_ok 0 8 none p 0 1 0 c #[] #[3] 1 w1 (by decide) (by decide) (by decide) (hin w1) h3 hb0 hb3).mono fun e w' ⟨he, hc⟩ => ⟨_, he, by rw [B_pos allC_8]; rfl, hc⟩
  · obtain ⟨p, c, rfl, h3⟩ := awake_args hS rfl rfl ha
    refine (quorum_ok 0 8 none p 0 1 0 c #[] #[3] 1 w1 (by decide) (by decide) (by decide) (hin w1) h3 hb0 hb3).mono fun e w' ⟨he, hc⟩ => ⟨_, he, by rw [B_pos quoC_8]; rfl, hc⟩
  · refine X.done T22_ok rfl (fun N w' v hN hS hv => ?_)
    exact ⟨fin_bool hv rfl, hS.chg.none⟩

end Go.Proofs.Ythaffebapmkppaa
