/- Configurations: sets of nodes, counted. -/
import Derived.Test.YthaffebapmkppaaCf1
import Derived.Test.YthaffebapmkppaaRb5

namespace Go.Proofs.Ythaffebapmkppaa
open Go Go.Eng Go.Sort

theorem bits_and (a b : Nat) (ha : a < 2 ^ 64) (hb : b < 2 ^ 64) : bitsI .and .u64 a b = ((a &&& b : Nat) : Int) := by
  have h1 : a &&& b < 2 ^ 64 := Nat.lt_of_le_of_lt Nat.and_le_left ha
  show IntKind.u64.wrap (((BitVec.ofInt 64 (a : Int) &&& BitVec.ofInt 64 (b : Int)).toNat : Nat) : Int) = _
  have e1 : (BitVec.ofInt 64 (a : Int)) = BitVec.ofNat 64 a := by simp
  have e2 : (BitVec.ofInt 64 (b : Int)) = BitVec.ofNat 64 b := by simp
  rw [wrap64, e1, e2, BitVec.toNat_and, BitVec.toNat_ofNat, BitVec.toNat_ofNat, Nat.mod_eq_of_lt ha, Nat.mod_eq_of_lt hb]
  omega
theorem bits_or (a b : Nat) (ha : a < 2 ^ 64) (hb : b < 2 ^ 64) : bitsI .or .u64 a b = ((a ||| b : Nat) : Int) := by
  have h1 : a ||| b < 2 ^ 64 := Nat.or_lt_two_pow ha hb
  show IntKind.u64.wrap (((BitVec.ofInt 64 (a : Int) ||| BitVec.ofInt 64 (b : Int)).toNat : Nat) : Int) = _
  have e1 : (BitVec.ofInt 64 (a : Int)) = BitVec.ofNat 64 a := by simp
  have e2 : (BitVec.ofInt 64 (b : Int)) = BitVec.ofNat 64 b := by simp
  rw [wrap64, e1, e2, BitVec.toNat_or, BitVec.toNat_ofNat, BitVec.toNat_ofNat, Nat.mod_eq_of_lt ha, Nat.mod_eq_of_lt hb]
  omega
theorem bits_xor (a b : Nat) (ha : a < 2 ^ 64) (hb : b < 2 ^ 64) : bitsI .xor .u64 a b = ((a ^^^ b : Nat) : Int) := by
  have h1 : a ^^^ b < 2 ^ 64 := Nat.xor_lt_two_pow ha hb
  show IntKind.u64.wrap (((BitVec.ofInt 64 (a : Int) ^^^ BitVec.ofInt 64 (b : Int)).toNat : Nat) : Int) = _
  have e1 : (BitVec.ofInt 64 (a : Int)) = BitVec.ofNat 64 a := by simp
  have e2 : (BitVec.ofInt 64 (b : Int)) = BitVec.ofNat 64 b := by simp
  rw [wrap64, e1, e2, BitVec.toNat_xor, BitVec.toNat_ofNat, BitVec.toNat_ofNat, Nat.mod_eq_of_lt ha, Nat.mod_eq_of_lt hb]
  omega
theorem shr_nat (x k : Nat) : (x : Int).fdiv (2 ^ k) = ((x / 2 ^ k : Nat) : Int) := by
  have h : (0 : Int) ≤ 2 ^ k := by exact_mod_cast Nat.zero_le (2 ^ k)
  rw [Int.fdiv_eq_ediv_of_nonneg _ h]
  have : ((2 : Int) ^ k) = ((2 ^ k : Nat) : Int) := by simp
  rw [this]
  exact (Int.natCast_ediv _ _).symm
theorem wrapU64 (n : Nat) (h : n < 18446744073709551616) : IntKind.u64.wrap (n : Int) = n := by
  rw [wrap64]
  omega
theorem and127 (y : Nat) (h : y < 9223372036854775808) : bitsI .and .i64 (y : Int) 127 = ((y % 128 : Nat) : Int) := by
  have h1 : y &&& 127 = y % 128 := Nat.and_two_pow_sub_one_eq_mod y 7
  show IntKind.i64.wrap (((BitVec.ofInt 64 (y : Int) &&& BitVec.ofInt 64 ((127 : Nat) : Int)).toNat : Nat) : Int) = _
  have e1 : (BitVec.ofInt 64 (y : Int)) = BitVec.ofNat 64 y := by simp
  have e2 : (BitVec.ofInt 64 ((127 : Nat) : Int)) = BitVec.ofNat 64 127 := by simp
  rw [e1, e2, BitVec.toNat_and, BitVec.toNat_ofNat, BitVec.toNat_ofNat, Nat.mod_eq_of_lt (by omega), Nat.mod_eq_of_lt (show 127 < 2 ^ 64 by decide), h1]
  exact wrapN _ (by omega) (by omega)

set_option maxHeartbeats 4000000 in
set_option maxRecDepth 100000 in
set_option cbv.maxSteps 100000000 in
theorem ones_ok (x : Nat) (w : World) (hx : x < 2 ^ 64) : Calls Try.prog 48 #[.int .u64 x] w fun e w' => e = .returned (.int .i64 (popN 64 x)) ∧ Chg (fun _ _ => False) w w' := by
  refine X.begin (rg := []) (N := []) (ss := [.int .u64 (.nat x)]) Try.func48 rfl B48_ok rfl rfl Sat.std0 ?_
  refine X.go T48_ok 400 _ rfl Try.results48 ?_
  conv => arg 2; cbv
  refine X.done T48_ok rfl (fun N w' v hN hS hv => ⟨fin_int hv ?_, hS.chg.none⟩)
  obtain ⟨a, ha⟩ : ∃ a, a = (x / 2 &&& 6148914691236517205) + (x &&& 6148914691236517205) := ⟨_, rfl⟩
  obtain ⟨b, hb⟩ : ∃ b, b = (a / 4 &&& 3689348814741910323) + (a &&& 3689348814741910323) := ⟨_, rfl⟩
  obtain ⟨c, hc⟩ : ∃ c, c = (b / 16 + b) &&& 1085102592571150095 := ⟨_, rfl⟩
  obtain ⟨d, hd⟩ : ∃ d, d = c + c / 256 := ⟨_, rfl⟩
  obtain ⟨e, he⟩ : ∃ e, e = d + d / 65536 := ⟨_, rfl⟩
  obtain ⟨⟨k1, k2, k3, k4, k5, k6⟩, k7⟩ := ones_law x hx a b c d e ha hb hc hd he
  have L1 : (6148914691236517205 : Int) = ((6148914691236517205 : Nat) : Int) := rfl
  have L2 : (3689348814741910323 : Int) = ((3689348814741910323 : Nat) : Int) := rfl
  have L3 : (1085102592571150095 : Int) = ((1085102592571150095 : Nat) : Int) := rfl
  have A : IntKind.u64.wrap (bitsI .and .u64 ((x : Int).fdiv (2 ^ 1)) 6148914691236517205 + bitsI .and .u64 x 6148914691236517205) = (a : Int) := by
    rw [shr_nat, L1, bits_and _ _ (by omega) (by decide), bits_and _ _ hx (by decide), ← Int.natCast_add, ← ha, wrapU64 a k1]
  have Bb : IntKind.u64.wrap (bitsI .and .u64 ((a : Int).fdiv (2 ^ 2)) 3689348814741910323 + bitsI .and .u64 a 3689348814741910323) = (b : Int) := by
    rw [shr_nat, L2, bits_and _ _ (by omega) (by decide), bits_and _ _ k1 (by decide), ← Int.natCast_add, ← hb, wrapU64 b k2]
  have C : bitsI .and .u64 (IntKind.u64.wrap ((b : Int).fdiv (2 ^ 4) + b)) 1085102592571150095 = (c : Int) := by
    rw [shr_nat, ← Int.natCast_add, wrapU64 _ k3, L3, bits_and _ _ k3 (by decide), ← hc]
  have Dd : IntKind.u64.wrap ((c : Int) + (c : Int).fdiv (2 ^ 8)) = (d : Int) := by
    rw [shr_nat, ← Int.natCast_add, ← hd, wrapU64 d k4]
  have Ee : IntKind.u64.wrap ((d : Int) + (d : Int).fdiv (2 ^ 16)) = (e : Int) := by
    rw [shr_nat, ← Int.natCast_add, ← he, wrapU64 e k5]
  have Ff : IntKind.u64.wrap ((e : Int) + (e : Int).fdiv (2 ^ 32)) = ((e + e / 4294967296 : Nat) : Int) := by
    rw [shr_nat, ← Int.natCast_add, wrapU64 _ (by omega)]
  simp only [SI.den, A, Bb, C, Dd, Ee, Ff]
  rw [wrapN _ (by omega) (by omega), and127 _ k6, k7]

end Go.Proofs.Ythaffebapmkppaa
