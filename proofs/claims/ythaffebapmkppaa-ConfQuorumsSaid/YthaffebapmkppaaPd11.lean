/- Rows of bytes: slices.Sort. -/
import Derived.Test.YthaffebapmkppaaPd10

namespace Go.Proofs.Ythaffebapmkppaa
open Go Go.Eng Go.Sort

theorem pdq8_ok (b y n c : Nat) (hbig : n < 2305843009213693952) : ∀ (m a e lim : Nat) (d : Array Int) (w : World), e - a < m → AtA w b y d → d.size = n → a ≤ e → e ≤ n → lim < 4611686018427387904 → Below ltInt a e d →
    Calls Try.prog 58 #[.slice (some ⟨b, y, none⟩) n c, .int .i64 a, .int .i64 e, .int .i64 lim] w (SortedPost b y n a e d w)
  | 0, _, _, _, _, _, h, _, _, _, _, _, _ => absurd h (Nat.not_lt_zero _)
  | m + 1, a, e, lim, d, w, h, hA, hn, hae, hen, hl, hB => pdq8_step b y n c m hbig (fun a e lim d w h => pdq8_ok b y n c hbig m a e lim d w h) a e lim d w (Nat.le_of_lt_succ h) hA hn hae hen hl hB

theorem len_ok (n : Nat) (hn : n < 4611686018427387904) (w : World) : Calls Try.prog 59 #[.int .u64 n] w fun e w' => ∃ k : Nat, k ≤ 62 ∧ e = .returned (.int .i64 k) ∧ w' = w := by
  have h := Any.bits_Len (SlLaysF0.n15.bits Try.lenL) (n : Int) w (by omega) (by omega)
  refine Calls.mono h fun e w' ⟨h1, h2⟩ => ⟨_, ?_, h1, h2⟩
  rw [Int.toNat_natCast, bitLen_eq _ (by omega)]
  exact (bitsLen_le_iff n 62).2 (by omega)

set_option maxHeartbeats 4000000 in
set_option maxRecDepth 100000 in
set_option cbv.maxSteps 100000000 in
theorem sort8_ok (b y n c : Nat) (d : Array Int) (w : World) (hA : AtA w b y d) (hn : d.size = n) (hbig : n < 2305843009213693952) :
    Calls Try.prog 35 #[.slice (some ⟨b, y, none⟩) n c] w (SortedPost b y n 0 n d w) := by
  obtain ⟨p, hp⟩ : ∃ p, p = some (Addr.mk b y none) := ⟨_, rfl⟩
  rw [← hp]
  refine X.beginA hA hn (ss := [.slv p n c]) Try.func35 rfl B35_ok rfl rfl ?_
  refine X.go T35_ok 400 _ rfl Try.results35 ?_
  conv => arg 2; cbv
  refine X.call rfl rfl rfl rfl Try.call59 (fun N w1 args hN hS ha => ?_)
  have ha : args = [.int .u64 (IntKind.u64.wrap n)] := (Option.some.inj ha).symm
  rw [wrapM _ (by omega) (by omega)] at ha
  rw [ha]
  refine Calls.mono (len_ok n (by omega) w1) fun e w' ⟨k, hk, he, hw⟩ => ⟨_, he, ?_⟩
  subst hw
  refine Goes.same hN hS (Chg.refl _ _) (r := .int .i64 (.nat k)) rfl rfl ?_
  refine X.go T35_ok 400 _ rfl Try.results35 ?_
  conv => arg 2; cbv
  refine X.call rfl rfl rfl rfl Try.call58 (fun N w1 args hN hS ha => ?_)
  have ha : args = [.slice p n c, .int .i64 ((0 : Nat) : Int), .int .i64 n, .int .i64 k] := (Option.some.inj ha).symm
  rw [ha]
  have key := pdq8_ok b y n c hbig (n + 1) 0 n k d w1 (by omega) (Sat.arr hS hA hn hn).1 hn (by omega) (Nat.le_refl _) (by omega) (.inl rfl)
  rw [← hp] at key
  refine Calls.mono key fun en w' ⟨L, ⟨h1, h2⟩, he, hA', hc'⟩ => ⟨_, he, Goes.arr hN hS hn (h1.1.trans hn) hA' hc' (by simp) (r := .tup []) rfl rfl ?_⟩
  refine X.go T35_ok 400 _ rfl Try.results35 ?_
  conv => arg 2; cbv
  refine X.over T35_ok rfl (fun N w' v hN hS hv => ⟨L, ⟨h1, h2⟩, ?_, ?_⟩)
  · simp only [resV, SV.den, SV.denL, Option.some.injEq] at hv
    rw [← hv]
  · exact Sat.arr hS hA hn (h1.1.trans hn)

end Go.Proofs.Ythaffebapmkppaa
