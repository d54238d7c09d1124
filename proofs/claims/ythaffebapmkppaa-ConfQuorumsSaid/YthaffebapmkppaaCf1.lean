/- bits.OnesCount64. -/
import Derived.Test.YthaffebapmkppaaRb4

namespace Go.Proofs.Ythaffebapmkppaa
open Go Go.Eng

/-- how many bits are set, of so many -/
def popN : Nat → Nat → Nat
  | 0, _ => 0
  | n + 1, x => popN n (x / 2) + x % 2

/-- a byte, so many times -/
def repB (c : Nat) : Nat → Nat
  | 0 => 0
  | n + 1 => repB c n * 256 + c
/-- each byte turned -/
def mapB (f : Nat → Nat) : Nat → Nat → Nat
  | 0, _ => 0
  | n + 1, x => mapB f n (x / 256) * 256 + f (x % 256)
theorem and_split (a b c d : Nat) (hb : b < 256) (hd : d < 256) : (a * 256 + b) &&& (c * 256 + d) = (a &&& c) * 256 + (b &&& d) := by
  have h1 : ∀ i, ((a * 256 + b) &&& (c * 256 + d)).testBit i = ((a &&& c) * 256 + (b &&& d)).testBit i := fun i => by
    have e : (256 : Nat) = 2 ^ 8 := by decide
    have hbd : b &&& d < 2 ^ 8 := by rw [← e]; exact Nat.lt_of_le_of_lt Nat.and_le_left hb
    rw [Nat.testBit_and, Nat.mul_comm a, Nat.mul_comm c, Nat.mul_comm (a &&& c), e]
    rw [Nat.testBit_two_pow_mul_add _ (by rw [← e]; exact hb), Nat.testBit_two_pow_mul_add _ (by rw [← e]; exact hd), Nat.testBit_two_pow_mul_add _ hbd]
    split
    · rw [Nat.testBit_and]
    · rw [Nat.testBit_and]
  exact Nat.eq_of_testBit_eq h1

def s1 (b : Nat) : Nat := (b / 2 &&& 85) + (b &&& 85)
def s2 (b : Nat) : Nat := (b / 4 &&& 51) + (b &&& 51)
def s3 (b : Nat) : Nat := (b / 16 + b) &&& 15
theorem step1 : ∀ (n x : Nat), (x / 2 &&& repB 85 n) + (x &&& repB 85 n) = mapB s1 n x
  | 0, x => by simp [repB, mapB]
  | n + 1, x => by
    have ih := step1 n (x / 256)
    have hlo : ∀ h : Fin 2, ∀ l : Fin 256, (h.1 * 128 + l.1 / 2) &&& 85 = l.1 / 2 &&& 85 := by decide +kernel
    have e1 : x / 2 = (x / 256 / 2) * 256 + ((x / 256 % 2) * 128 + x % 256 / 2) := by omega
    have e2 : x = x / 256 * 256 + x % 256 := by omega
    have h1 := hlo ⟨x / 256 % 2, by omega⟩ ⟨x % 256, by omega⟩
    simp only at h1
    have h2 : x / 2 &&& repB 85 (n + 1) = (x / 256 / 2 &&& repB 85 n) * 256 + (x % 256 / 2 &&& 85) := by
      rw [repB]
      conv => lhs; rw [e1]
      rw [and_split _ _ _ _ (by omega) (by decide), h1]
    have h3 : x &&& repB 85 (n + 1) = (x / 256 &&& repB 85 n) * 256 + (x % 256 &&& 85) := by
      rw [repB]
      conv => lhs; rw [e2]
      rw [and_split _ _ _ _ (by omega) (by decide)]
    rw [h2, h3, mapB, ← ih, s1]
    omega
theorem step2 : ∀ (n x : Nat), (x / 4 &&& repB 51 n) + (x &&& repB 51 n) = mapB s2 n x
  | 0, x => by simp [repB, mapB]
  | n + 1, x => by
    have ih := step2 n (x / 256)
    have hlo : ∀ h : Fin 4, ∀ l : Fin 256, (h.1 * 64 + l.1 / 4) &&& 51 = l.1 / 4 &&& 51 := by decide +kernel
    have e1 : x / 4 = (x / 256 / 4) * 256 + ((x / 256 % 4) * 64 + x % 256 / 4) := by omega
    have e2 : x = x / 256 * 256 + x % 256 := by omega
    have h1 := hlo ⟨x / 256 % 4, by omega⟩ ⟨x % 256, by omega⟩
    simp only at h1
    have h2 : x / 4 &&& repB 51 (n + 1) = (x / 256 / 4 &&& repB 51 n) * 256 + (x % 256 / 4 &&& 51) := by
      rw [repB]
      conv => lhs; rw [e1]
      rw [and_split _ _ _ _ (by omega) (by decide), h1]
    have h3 : x &&& repB 51 (n + 1) = (x / 256 &&& repB 51 n) * 256 + (x % 256 &&& 51) := by
      rw [repB]
      conv => lhs; rw [e2]
      rw [and_split _ _ _ _ (by omega) (by decide)]
    rw [h2, h3, mapB, ← ih, s2]
    omega

theorem s12_le : ∀ l : Fin 256, s2 (s1 l.1) % 16 ≤ 4 ∧ s2 (s1 l.1) / 16 ≤ 4 ∧ s1 l.1 < 256 ∧ s3 (s2 (s1 l.1)) = popN 8 l.1 ∧ s2 (s1 l.1) < 256 := by decide +kernel
/-- nibbles up to 4 -/
def nib : Nat → Nat → Prop
  | 0, x => x = 0
  | n + 1, x => x % 16 ≤ 4 ∧ x % 256 / 16 ≤ 4 ∧ nib n (x / 256)
theorem step3 : ∀ (n x : Nat), nib n x → (x / 16 + x) &&& repB 15 n = mapB s3 n x
  | 0, x, _ => by simp [repB, mapB]
  | n + 1, x, ⟨h1, h2, h3⟩ => by
    have ih := step3 n (x / 256) h3
    have hlo : ∀ h : Fin 5, ∀ l : Fin 5, ∀ m : Fin 5, (((m.1 + h.1) * 16 + (h.1 + l.1)) &&& 15) = (((h.1 * 16 + l.1) / 16 + (h.1 * 16 + l.1)) &&& 15) := by decide +kernel
    have hm : x / 256 % 16 ≤ 4 := by
      cases n with
      | zero => have : x / 256 = 0 := h3; omega
      | succ n => exact h3.1
    have e1 : x / 16 + x = (x / 256 / 16 + x / 256) * 256 + ((x / 256 % 16 + x % 256 / 16) * 16 + (x % 256 / 16 + x % 16)) := by omega
    have k := hlo ⟨x % 256 / 16, by omega⟩ ⟨x % 16, by omega⟩ ⟨x / 256 % 16, by omega⟩
    simp only at k
    rw [repB, e1, and_split _ _ _ _ (by omega) (by decide), ih, mapB, k, s3]
    congr 2
    omega

theorem mapB_comp (f g : Nat → Nat) (hf : ∀ l, l < 256 → f l < 256) : ∀ (n x : Nat), mapB g n (mapB f n x) = mapB (fun b => g (f b)) n x
  | 0, _ => rfl
  | n + 1, x => by
    have h := hf (x % 256) (by omega)
    rw [mapB, mapB, mapB, ← mapB_comp f g hf n (x / 256)]
    congr 2
    · congr 1; omega
    · congr 1; omega
theorem nib_of : ∀ (n x : Nat), nib n (mapB (fun b => s2 (s1 b)) n x)
  | 0, x => rfl
  | n + 1, x => by
    obtain ⟨h1, h2, _, _, h5⟩ := s12_le ⟨x % 256, by omega⟩
    simp only at h1 h2 h5
    rw [mapB]
    refine ⟨by omega, by omega, ?_⟩
    have := nib_of n (x / 256)
    rwa [show (mapB (fun b => s2 (s1 b)) n (x / 256) * 256 + s2 (s1 (x % 256))) / 256 = mapB (fun b => s2 (s1 b)) n (x / 256) by omega]

theorem popN_add : ∀ (a b x : Nat), popN (a + b) x = popN a (x / 2 ^ b) + popN b x
  | a, 0, x => by simp [popN]
  | a, b + 1, x => by
    rw [← Nat.add_assoc, popN, popN_add a b (x / 2), popN]
    rw [Nat.div_div_eq_div_mul, Nat.pow_succ, Nat.mul_comm 2, Nat.add_assoc]
theorem popN_mod : ∀ (b x : Nat), popN b (x % 2 ^ b) = popN b x
  | 0, _ => rfl
  | b + 1, x => by
    rw [popN, popN, Nat.pow_succ, show x % (2 ^ b * 2) / 2 = x / 2 % 2 ^ b by rw [Nat.mul_comm]; exact Nat.mod_mul_right_div_self _ _ _, popN_mod b (x / 2)]
    congr 1
    exact Nat.mod_mul_left_mod _ _ _
/-- the sum of the bytes' counts -/
theorem pop_bytes (x : Nat) (hx : x < 2 ^ 64) : popN 64 x = popN 8 (x / 256 / 256 / 256 / 256 / 256 / 256 / 256 % 256) + popN 8 (x / 256 / 256 / 256 / 256 / 256 / 256 % 256) + popN 8 (x / 256 / 256 / 256 / 256 / 256 % 256) + popN 8 (x / 256 / 256 / 256 / 256 % 256) + popN 8 (x / 256 / 256 / 256 % 256) + popN 8 (x / 256 / 256 % 256) + popN 8 (x / 256 % 256) + popN 8 (x % 256) := by
  have h : ∀ n y, popN (n + 8) y = popN n (y / 256) + popN 8 (y % 256) := fun n y => by
    rw [popN_add n 8 y]
    congr 1
    exact (popN_mod 8 y).symm
  rw [h 56, h 48, h 40, h 32, h 24, h 16, h 8]
  have : popN 8 (x / 256 / 256 / 256 / 256 / 256 / 256 / 256) = popN 8 (x / 256 / 256 / 256 / 256 / 256 / 256 / 256 % 256) := (popN_mod 8 _).symm
  omega
theorem pop8_le : ∀ l : Fin 256, popN 8 l.1 ≤ 8 := by decide +kernel

set_option maxRecDepth 100000 in
theorem fold_bytes (c0 c1 c2 c3 c4 c5 c6 c7 c d e : Nat) (q0 : c0 ≤ 8) (q1 : c1 ≤ 8) (q2 : c2 ≤ 8) (q3 : c3 ≤ 8) (q4 : c4 ≤ 8) (q5 : c5 ≤ 8) (q6 : c6 ≤ 8) (q7 : c7 ≤ 8) (hc : c = ((((((c7 * 256 + c6) * 256 + c5) * 256 + c4) * 256 + c3) * 256 + c2) * 256 + c1) * 256 + c0)
    (hd : d = c + c / 256) (he : e = d + d / 65536) : (d < 18446744073709551616 ∧ e < 18446744073709551616 ∧ e + e / 4294967296 < 9223372036854775808) ∧ (e + e / 4294967296) % 128 = c7 + c6 + c5 + c4 + c3 + c2 + c1 + c0 := by
  have hd2 : c / 256 = ((((((c7 * 256 + c6) * 256 + c5) * 256 + c4) * 256 + c3) * 256 + c2) * 256 + c1) := by clear hd he; omega
  rw [hd2, hc] at hd
  clear hd2 hc
  have hd3 : d / 65536 = (((((c7 * 256 + (c6 + c7)) * 256 + (c5 + c6)) * 256 + (c4 + c5)) * 256 + (c3 + c4)) * 256 + (c2 + c3)) := by
    clear he
    obtain ⟨t, ht⟩ : ∃ t, t = (((((c7 * 256 + (c6 + c7)) * 256 + (c5 + c6)) * 256 + (c4 + c5)) * 256 + (c3 + c4)) * 256 + (c2 + c3)) := ⟨_, rfl⟩
    have : d = t * 65536 + ((c1 + c2) * 256 + (c0 + c1)) := by omega
    rw [← ht]
    clear hd ht
    omega
  rw [hd3] at he
  have he2 : e = (((((((c7 * 256 + (c6 + c7)) * 256 + (c5 + c6 + c7)) * 256 + (c4 + c5 + c6 + c7)) * 256 + (c3 + c4 + c5 + c6)) * 256 + (c2 + c3 + c4 + c5)) * 256 + (c1 + c2 + c3 + c4)) * 256 + (c0 + c1 + c2 + c3)) := by
    clear hd3
    omega
  have hd8 : d < 18446744073709551616 := by clear hd3 he he2; omega
  clear hd3 he hd
  have he3 : e / 4294967296 = (((c7 * 256 + (c6 + c7)) * 256 + (c5 + c6 + c7)) * 256 + (c4 + c5 + c6 + c7)) := by
    obtain ⟨t, ht⟩ : ∃ t, t = (((c7 * 256 + (c6 + c7)) * 256 + (c5 + c6 + c7)) * 256 + (c4 + c5 + c6 + c7)) := ⟨_, rfl⟩
    have : e = t * 4294967296 + ((((c3 + c4 + c5 + c6) * 256 + (c2 + c3 + c4 + c5)) * 256 + (c1 + c2 + c3 + c4)) * 256 + (c0 + c1 + c2 + c3)) := by omega
    rw [← ht]
    clear he2 ht hd8
    omega
  rw [he3]
  have hs : e + ((((c7 * 256 + (c6 + c7)) * 256 + (c5 + c6 + c7)) * 256 + (c4 + c5 + c6 + c7))) = 128 * (2 * ((((((c7 * 256 + (c6 + c7)) * 256 + (c5 + c6 + c7)) * 256 + (c4 + c5 + c6 + c7)) * 256 + (c3 + c4 + c5 + c6 + c7)) * 256 + (c2 + c3 + c4 + c5 + c6 + c7)) * 256 + (c1 + c2 + c3 + c4 + c5 + c6 + c7))) + (c7 + c6 + c5 + c4 + c3 + c2 + c1 + c0) := by
    clear he3 hd8
    omega
  have h1 : e < 18446744073709551616 := by clear he3 hs hd8; omega
  have h2 : e + ((((c7 * 256 + (c6 + c7)) * 256 + (c5 + c6 + c7)) * 256 + (c4 + c5 + c6 + c7))) < 9223372036854775808 := by clear he3 hs hd8 h1; omega
  refine ⟨⟨hd8, h1, h2⟩, ?_⟩
  rw [hs, Nat.mul_add_mod]
  exact Nat.mod_eq_of_lt (by clear hs h1 h2 he2 he3 hd8; omega)

set_option maxRecDepth 100000 in
theorem ones_law (x : Nat) (hx : x < 2 ^ 64) (a b c d e : Nat) (ha : a = (x / 2 &&& 6148914691236517205) + (x &&& 6148914691236517205)) (hb : b = (a / 4 &&& 3689348814741910323) + (a &&& 3689348814741910323)) (hc : c = (b / 16 + b) &&& 1085102592571150095) (hd : d = c + c / 256) (he : e = d + d / 65536) :
    (a < 18446744073709551616 ∧ b < 18446744073709551616 ∧ b / 16 + b < 18446744073709551616 ∧ d < 18446744073709551616 ∧ e < 18446744073709551616 ∧ e + e / 4294967296 < 9223372036854775808) ∧ (e + e / 4294967296) % 128 = popN 64 x := by
  have r1 : repB 85 8 = 6148914691236517205 := by decide
  have r2 : repB 51 8 = 3689348814741910323 := by decide
  have r3 : repB 15 8 = 1085102592571150095 := by decide
  have ha : a = mapB s1 8 x := by rw [ha, ← step1 8 x, r1]
  have hb : b = mapB (fun b => s2 (s1 b)) 8 x := by
    have := step2 8 a
    rw [r2, ← hb, ha, mapB_comp s1 s2 (fun l hl => (s12_le ⟨l, hl⟩).2.2.1)] at this
    exact this
  have hc : c = mapB (fun l => s3 (s2 (s1 l))) 8 x := by
    have := step3 8 b (by rw [hb]; exact nib_of 8 x)
    rw [r3, ← hc, hb, mapB_comp _ s3 (fun l hl => (s12_le ⟨l, hl⟩).2.2.2.2)] at this
    exact this
  have hp : ∀ y, s3 (s2 (s1 (y % 256))) = popN 8 (y % 256) := fun y => (s12_le ⟨y % 256, by omega⟩).2.2.2.1
  have hq : ∀ y, popN 8 (y % 256) ≤ 8 := fun y => pop8_le ⟨y % 256, by omega⟩
  have mapB_le : ∀ (f : Nat → Nat) (m : Nat), (∀ l, l < 256 → f l ≤ m) → ∀ n x, mapB f n x ≤ repB m n := fun f m hf n => by
    induction n with
    | zero => intro x; exact Nat.le_refl _
    | succ n ih =>
      intro x
      have h1 := ih (x / 256)
      have h2 := hf (x % 256) (by omega)
      rw [mapB, repB]
      omega
  have ha8 : a ≤ 18446744073709551615 := by
    rw [ha]
    exact mapB_le s1 255 (fun l hl => by have := (s12_le ⟨l, hl⟩).2.2.1; simp only at this; omega) 8 x
  have hb8 : b ≤ 4919131752989213764 := by
    rw [hb]
    exact mapB_le _ 68 (fun l hl => by have h1 := (s12_le ⟨l, hl⟩).1; have h2 := (s12_le ⟨l, hl⟩).2.1; simp only at h1 h2; omega) 8 x
  rw [pop_bytes x hx]
  simp only [mapB, hp] at hc
  have key := fold_bytes _ _ _ _ _ _ _ _ c d e (hq x) (hq (x / 256)) (hq (x / 256 / 256)) (hq (x / 256 / 256 / 256)) (hq (x / 256 / 256 / 256 / 256)) (hq (x / 256 / 256 / 256 / 256 / 256)) (hq (x / 256 / 256 / 256 / 256 / 256 / 256)) (hq (x / 256 / 256 / 256 / 256 / 256 / 256 / 256)) (by rw [hc, Nat.zero_mul, Nat.zero_add]) hd he
  exact ⟨⟨by clear key hc hb8; omega, by clear key hc ha8; omega, by clear key hc ha8; omega, key.1⟩, key.2⟩

end Go.Proofs.Ythaffebapmkppaa
