/- Configurations: a quorum's others, and its like: the law ConfOther. -/
import Derived.Test.YthaffebapmkppaaCf8

namespace Go.Proofs.Ythaffebapmkppaa
open Go Go.Eng Go.Sort

/-! ### laws of majorities -/
theorem cnt_compl {l : List Int} (hl : ∀ x ∈ l, 0 ≤ x ∧ x < 64) (s : Nat) : cntN l s + cntN l (18446744073709551615 ^^^ s) = l.length := by
  unfold cntN
  rw [List.length_eq_countP_add_countP (p := fun x : Int => s.testBit x.toNat)]
  congr 1
  refine List.countP_congr fun x hx => ?_
  have := hl x hx
  have h64 : x.toNat < 64 := by omega
  have e : (18446744073709551615 : Nat) = 2 ^ 64 - 1 := rfl
  rw [Nat.testBit_xor, e, Nat.testBit_two_pow_sub_one, decide_eq_true h64]
  simp
theorem maj_compl {l : List Int} (hl : ∀ x ∈ l, 0 ≤ x ∧ x < 64) {s : Nat} (h : maj l s) : ¬ maj l (18446744073709551615 ^^^ s) := by
  have := cnt_compl hl s
  unfold maj at h ⊢
  omega
theorem maj_or {l : List Int} {s : Nat} (h : maj l s) (m : Nat) : maj l (s ||| m) := by
  have : cntN l s ≤ cntN l (s ||| m) := List.countP_mono_left fun x _ h => by
    rw [Nat.testBit_or, h]; rfl
  unfold maj at h ⊢
  omega
theorem ofL_64 {C : Nat} {o n : Array Int} (h : mayC C o n) (hbn : ∀ x ∈ n.toList, 0 ≤ x ∧ x < 256) (key : Int) : ∀ x ∈ ofL n key, 0 ≤ x ∧ x < 64 := fun x hx => mayP_64 h.2.1 hbn x (ofL_sub hx)
theorem quoC_compl {C : Nat} {o n : Array Int} {key : Int} {s : Nat} (hbn : ∀ x ∈ n.toList, 0 ≤ x ∧ x < 256) (h : quoC C o n key s) : ¬ quoC C o n key (18446744073709551615 ^^^ s) := fun h2 => maj_compl (ofL_64 h.1 hbn key) h.2.1 h2.2.1
theorem quoC_or {C : Nat} {o n : Array Int} {key : Int} {s : Nat} (h : quoC C o n key s) (m : Nat) : quoC C o n key (s ||| m) := ⟨h.1, maj_or h.2.1 m, fun hc => maj_or (h.2.2 hc) m⟩
theorem maj_all {l : List Int} (h0 : l ≠ []) {s : Nat} (h : ∀ x ∈ l, s.testBit x.toNat = true) : maj l s := by
  have : cntN l s = l.length := List.countP_eq_length.2 h
  have := List.length_pos_iff.2 h0
  unfold maj
  omega
theorem allC_quoC {C : Nat} {o n : Array Int} {key : Int} {s : Nat} (h : allC C o n key s) : quoC C o n key s := by
  have hsub : ∀ x, x ∈ (ringsL C o n key).flatten → s.testBit x.toNat = true := fun x hx => h.2 x (keepC_mem.2 hx)
  refine ⟨h.1, maj_all (ofL_pos h.1.1) fun x hx => hsub x ?_, fun hc => maj_all (ofL_pos ?_) fun x hx => hsub x ?_⟩
  · rw [ringsL]; split <;> simp [hx]
  · have := h.1.2.2
    rw [if_pos hc] at this
    exact this.1
  · rw [ringsL, if_pos hc]; simp [hx]

set_option maxHeartbeats 8000000 in
set_option maxRecDepth 100000 in
set_option cbv.maxSteps 100000000 in
theorem other_ok (C s m : Nat) (po pn : Option Addr) (no nn co cn : Nat) (o n : Array Int) (key : Int) (w : World) (hs : s < 2 ^ 64) (hm : m < 2 ^ 64) (ho : InB po no o w) (hn : InB pn nn n w) (hbo : ∀ x ∈ o.toList, 0 ≤ x ∧ x < 256) (hbn : ∀ x ∈ n.toList, 0 ≤ x ∧ x < 256) :
    Calls Try.prog 8 #[.agg #[.int .u64 C, .slice po no co, .slice pn nn cn], .int .u8 key, .int .u64 s, .int .u64 m] w fun e w' => e = .returned (.bool true) ∧ Chg (fun _ _ => False) w w' := by
  refine X.begin (rg := []) (N := []) (ss := [.agg [.int .u64 (.nat C), .slv po no co, .slv pn nn cn], .int .u8 (.v key), .int .u64 (.nat s), .int .u64 (.nat m)]) Try.func8 rfl B8_ok rfl rfl Sat.std0 ?_
  by_cases hg : 80 < no ∨ 80 < nn
  · skip
    refine X.goP ([(10, .bool (.lit true)), (11, .bool (.lit true))]) T8_ok 400 _ rfl Try.results8 (fun pr fin hpr hfin => ?_)
    conv => cbv
    refine ⟨hpr _ (.of Try.call22 [] (.bool true) (fun _ => rfl) (fun _ => rfl) fun _ w1 him => awake10_ok w1), hpr _ (.of Try.call21 [.agg #[.int .u64 C, .slice po no co, .slice pn nn cn]] (.bool true) (fun _ => rfl) (fun _ => rfl) fun _ w1 him => by rw [← decide_eq_true hg]; exact great10_ok C po pn no nn co cn w1), hfin _ _ ?_⟩
    exact X.done T8_ok rfl (fun N w' v hN hS hv => ⟨fin_bool hv rfl, hS.chg.none⟩)
  have hno : no ≤ 100 := by omega
  have hnn : nn ≤ 100 := by omega
  by_cases hq : quoC C o n key s
  · skip
    refine X.goP ([(10, .bool (.lit false)), (15, .bool (.lit true)), (29, .bool (.lit false)), (37, .bool (.lit true)), (40, .bool (.lit true))]) T8_ok 400 _ rfl Try.results8 (fun pr fin hpr hfin => ?_)
    conv => cbv
    refine ⟨hpr _ (.of Try.call22 [] (.bool true) (fun _ => rfl) (fun _ => rfl) fun _ w1 him => awake10_ok w1),
      hpr _ (.of Try.call26 [.agg #[.int .u64 C, .slice po no co, .slice pn nn cn], .int .u8 key, .int .u64 (bitsI .or .u64 s m)] (.bool true) (fun _ => rfl) (fun _ => rfl) fun _ w1 him => by rw [bits_or s m hs hm, ← B_pos (quoC_or hq m)]; exact quorum_ok C (s ||| m) po pn no nn co cn o n key w1 hno hnn (Nat.or_lt_two_pow hs hm) (ho.im him) (hn.im him) hbo hbn),
      hpr _ (.of Try.call26 [.agg #[.int .u64 C, .slice po no co, .slice pn nn cn], .int .u8 key, .int .u64 (bitsI .xor .u64 ((18446744073709551615 : Nat) : Int) s)] (.bool false) (fun _ => rfl) (fun _ => rfl) fun _ w1 him => by rw [bits_xor 18446744073709551615 s (by decide) hs, ← B_neg (quoC_compl hbn hq)]; exact quorum_ok C (18446744073709551615 ^^^ s) po pn no nn co cn o n key w1 hno hnn (Nat.xor_lt_two_pow (by decide) hs) (ho.im him) (hn.im him) hbo hbn),
      hpr _ (.of Try.call26 [.agg #[.int .u64 C, .slice po no co, .slice pn nn cn], .int .u8 key, .int .u64 s] (.bool true) (fun _ => rfl) (fun _ => rfl) fun _ w1 him => by rw [← B_pos hq]; exact quorum_ok C s po pn no nn co cn o n key w1 hno hnn hs (ho.im him) (hn.im him) hbo hbn),
      hpr _ (.of Try.call21 [.agg #[.int .u64 C, .slice po no co, .slice pn nn cn]] (.bool false) (fun _ => rfl) (fun _ => rfl) fun _ w1 him => by rw [← decide_eq_false hg]; exact great10_ok C po pn no nn co cn w1), hfin _ _ ?_⟩
    exact X.done T8_ok rfl (fun N w' v hN hS hv => ⟨fin_bool hv rfl, hS.chg.none⟩)
  · skip
    refine X.goP ([(10, .bool (.lit false)), (15, .bool (.lit false)), (20, .bool (.lit false)), (23, .bool (.lit true))]) T8_ok 400 _ rfl Try.results8 (fun pr fin hpr hfin => ?_)
    conv => cbv
    refine ⟨hpr _ (.of Try.call22 [] (.bool true) (fun _ => rfl) (fun _ => rfl) fun _ w1 him => awake10_ok w1),
      hpr _ (.of Try.call28 [.agg #[.int .u64 C, .slice po no co, .slice pn nn cn], .int .u8 key, .int .u64 s] (.bool false) (fun _ => rfl) (fun _ => rfl) fun _ w1 him => by rw [← B_neg fun h => hq (allC_quoC h)]; exact all_ok C s po pn no nn co cn o n key w1 hno hnn hs (ho.im him) (hn.im him) hbo hbn),
      hpr _ (.of Try.call26 [.agg #[.int .u64 C, .slice po no co, .slice pn nn cn], .int .u8 key, .int .u64 s] (.bool false) (fun _ => rfl) (fun _ => rfl) fun _ w1 him => by rw [← B_neg hq]; exact quorum_ok C s po pn no nn co cn o n key w1 hno hnn hs (ho.im him) (hn.im him) hbo hbn),
      hpr _ (.of Try.call21 [.agg #[.int .u64 C, .slice po no co, .slice pn nn cn]] (.bool false) (fun _ => rfl) (fun _ => rfl) fun _ w1 him => by rw [← decide_eq_false hg]; exact great10_ok C po pn no nn co cn w1), hfin _ _ ?_⟩
    exact X.done T8_ok rfl (fun N w' v hN hS hv => ⟨fin_bool hv rfl, hS.chg.none⟩)

end Go.Proofs.Ythaffebapmkppaa
