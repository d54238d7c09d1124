/- The reference's hash. -/
import Derived.Test.YthaffebapmkppaaRi11
import Derived.Test.YthaffebapmkppaaRg2

namespace Go.Proofs.Ythaffebapmkppaa
open Go Go.Eng

theorem wrap64 (z : Int) : IntKind.u64.wrap z = z % 18446744073709551616 := by
  simp [IntKind.wrap, IntKind.bits, IntKind.signed]
theorem times_law (a b : Int) (ha : 0 ≤ a) (hb : 0 ≤ b) :
    ((a % 4294967296) * (b % 4294967296) % 18446744073709551616 + (((a % 4294967296) * (b / 4294967296) % 18446744073709551616 + (a / 4294967296) * (b % 4294967296) % 18446744073709551616) % 18446744073709551616 % 4294967296) * 4294967296 % 18446744073709551616) % 18446744073709551616 = a * b % 18446744073709551616 := by
  obtain ⟨al, hal⟩ : ∃ x, x = a % 4294967296 := ⟨_, rfl⟩
  obtain ⟨ah, hah⟩ : ∃ x, x = a / 4294967296 := ⟨_, rfl⟩
  obtain ⟨bl, hbl⟩ : ∃ x, x = b % 4294967296 := ⟨_, rfl⟩
  obtain ⟨bh, hbh⟩ : ∃ x, x = b / 4294967296 := ⟨_, rfl⟩
  have e1 : a = al + 4294967296 * ah := by omega
  have e2 : b = bl + 4294967296 * bh := by omega
  rw [← hal, ← hah, ← hbl, ← hbh, e1, e2, Int.add_mul, Int.mul_add, Int.mul_add]
  have e3 : al * (4294967296 * bh) = 4294967296 * (al * bh) := by rw [Int.mul_left_comm]
  have e4 : 4294967296 * ah * bl = 4294967296 * (ah * bl) := by rw [Int.mul_assoc]
  have e5 : 4294967296 * ah * (4294967296 * bh) = 18446744073709551616 * (ah * bh) := by rw [Int.mul_assoc, Int.mul_left_comm ah, ← Int.mul_assoc]; rfl
  rw [e3, e4, e5]
  generalize al * bl = x1
  generalize al * bh = x2
  generalize ah * bl = x3
  generalize ah * bh = x4
  omega

def inU (a : Int) : Prop := 0 ≤ a ∧ a < 18446744073709551616
theorem mulU_in (a b : Int) : inU (mulU a b) := by
  unfold mulU inU
  rw [wrap64]
  omega
theorem xorU_in (a b : Int) : inU (xorU a b) := by
  unfold xorU bitsI inU
  simp only [wrap64]
  omega

set_option maxHeartbeats 4000000 in
set_option maxRecDepth 100000 in
set_option cbv.maxSteps 100000000 in
theorem times_ok (a b : Int) (w : World) (ha : inU a) (hb : inU b) : Calls Try.prog 94 #[.int .u64 a, .int .u64 b] w fun e w' => e = .returned (.int .u64 (mulU a b)) ∧ Chg (fun _ _ => False) w w' := by
  refine X.begin (rg := []) (N := []) (ss := [.int .u64 (.v a), .int .u64 (.v b)]) Try.func94 rfl B94_ok rfl rfl Sat.std0 ?_
  refine X.go T94_ok 400 _ rfl Try.results94 ?_
  conv => arg 2; cbv
  refine X.done T94_ok rfl (fun N w' v hN hS hv => ⟨fin_int hv ?_, hS.chg.none⟩)
  simp only [SI.den, wrap64, mulU, Int.tdiv_eq_ediv_of_nonneg ha.1, Int.tdiv_eq_ediv_of_nonneg hb.1, Int.tmod_eq_emod_of_nonneg ha.1, Int.tmod_eq_emod_of_nonneg hb.1]
  rw [Int.tmod_eq_emod_of_nonneg (by omega)]
  have h2 : b % 4294967296 % 18446744073709551616 = b % 4294967296 := by omega
  have h3 : a / 4294967296 % 18446744073709551616 = a / 4294967296 := by have := ha.1; have := ha.2; omega
  have h4 : b / 4294967296 % 18446744073709551616 = b / 4294967296 := by have := hb.1; have := hb.2; omega
  simp only [h2, h3, h4]
  rw [← times_law a b ha.1 hb.1]

set_option maxHeartbeats 4000000 in
set_option maxRecDepth 100000 in
set_option cbv.maxSteps 100000000 in
theorem stir8_ok (h : Int) (w : World) (hh : inU h) : Calls Try.prog 66 #[.int .u64 h] w fun e w' => e = .returned (.int .u64 (stirZ h)) ∧ Chg (fun _ _ => False) w w' := by
  refine X.begin (rg := []) (N := []) (ss := [.int .u64 (.v h)]) Try.func66 rfl B66_ok rfl rfl Sat.std0 ?_
  obtain ⟨x, hx⟩ : ∃ x, x = mulU (xorU h (h.fdiv (2 ^ 32))) 14029467366897019727 := ⟨_, rfl⟩
  have hxi : inU x := by rw [hx]; exact mulU_in _ _
  have wr : ∀ y z : Int, inU y → 0 < z → IntKind.u64.wrap (y.tdiv z) = y.fdiv z := fun y z hy hz => by
    rw [Int.tdiv_eq_ediv_of_nonneg hy.1, Int.fdiv_eq_ediv_of_nonneg _ (by omega), wrap64]
    have h1 : 0 ≤ y / z := Int.ediv_nonneg hy.1 (by omega)
    have h2 : y / z ≤ y := Int.ediv_le_self _ hy.1
    have := hy.2
    omega
  refine X.go T66_ok 400 _ rfl Try.results66 ?_
  conv => arg 2; cbv
  refine X.call0 (.int .u64 (.v x)) rfl rfl rfl rfl Try.call94 rfl (fun N w1 args hN hS ha => ?_) ?_
  · have ha : args = [.int .u64 (xorU h (IntKind.u64.wrap (h.tdiv 4294967296))), .int .u64 14029467366897019727] := (Option.some.inj ha).symm
    rw [ha, wr h 4294967296 hh (by decide)]
    refine (times_ok _ _ w1 (xorU_in _ _) (by unfold inU; omega)).mono fun e w' ⟨he, hc⟩ => ⟨_, he, by rw [hx]; rfl, hc⟩
  refine X.go T66_ok 400 _ rfl Try.results66 ?_
  conv => arg 2; cbv
  refine X.done T66_ok rfl (fun N w' v hN hS hv => ⟨fin_int hv ?_, hS.chg.none⟩)
  unfold stirZ
  rw [← hx]
  show xorU x (IntKind.u64.wrap (x.tdiv 536870912)) = _
  rw [wr x 536870912 hxi (by decide)]
  rfl

theorem ofZ_in (l : List Int) : inU (ofZ l) := by
  rcases List.eq_nil_or_concat l with h | ⟨m, x, h⟩
  · subst h; unfold ofZ inU; simp
  · subst h
    unfold ofZ
    rw [List.concat_eq_append, List.foldl_append]
    exact mulU_in _ _
theorem ofZ_snoc (l : List Int) (x : Int) : ofZ (l ++ [x]) = mulU (xorU (ofZ l) (IntKind.u64.wrap x)) 1099511628211 := by
  unfold ofZ
  rw [List.foldl_append]
  rfl

set_option maxHeartbeats 4000000 in
set_option maxRecDepth 100000 in
set_option cbv.maxSteps 100000000 in
theorem of8_ok (p : Option Addr) (n c : Nat) (d : Array Int) (w : World) (hle : n ≤ 1000) (hA : InB p n d w) : Calls Try.prog 67 #[.slice p n c] w fun e w' => e = .returned (.int .u64 (ofZ d.toList)) ∧ Chg (fun _ _ => False) w w' := by
  have hn := hA.1
  obtain ⟨Q, hQ⟩ : ∃ Q : Ending → World → Prop, Q = fun e w' => e = .returned (.int .u64 (ofZ d.toList)) ∧ Chg (fun _ _ => False) w w' := ⟨_, rfl⟩
  rw [← hQ]
  refine X.begin (rg := []) (N := []) (ss := [.slv p n c]) Try.func67 rfl B67_ok rfl rfl Sat.std0 ?_
  refine X.go T67_ok 400 _ rfl Try.results67 ?_
  conv => arg 2; cbv
  refine X.loop (fun _ : {i : Nat // i ≤ n} => mkE Try.prog Try.f67 Q w (InR [] []) (elsewhere [] [] w) (fun _ _ => False) (fun _ => True) [] B67)
    (fun g => ⟨[(0, .val (.slv p n c)), (3, .val (.int .u64 (.v (ofZ (d.toList.take g.1))))), (6, .val (.int .i64 (.nat n))), (7, .val (.int .i64 (.nat g.1)))], []⟩) (fun g => n - g.1) (fun _ => ⟨rfl, rfl, rfl, rfl⟩) (fun N ac w' hN hf hS => ⟨⟨0, Nat.zero_le _⟩, ?_⟩) (fun g q hq => ?_)
  · exact At.again hf hS (by repeat first | exact trivial | refine ⟨⟨_, rfl, .inl ⟨rfl, rfl⟩⟩, ?_⟩ | refine ⟨⟨_, rfl, .inr ⟨_, rfl, rfl⟩⟩, ?_⟩ | refine ⟨⟨_, rfl, .inr ⟨_, rfl, by simp (disch := omega) [SV.den, SI.den, wrapU, wrapD] <;> omega⟩⟩, ?_⟩) trivial
  obtain ⟨i, hi⟩ := g
  obtain ⟨h, hh⟩ : ∃ h, h = ofZ (d.toList.take i) := ⟨_, rfl⟩
  have hhi : inU h := by rw [hh]; exact ofZ_in _
  show X (mkE Try.prog Try.f67 Q w (InR [] []) (elsewhere [] [] w) (fun _ _ => False) (fun _ => True) [] B67) _ ⟨[(0, .val (.slv p n c)), (3, .val (.int .u64 (.v (ofZ (d.toList.take i))))), (6, .val (.int .i64 (.nat n))), (7, .val (.int .i64 (.nat i)))], []⟩
  rw [← hh]
  refine X.go T67_ok 400 _ rfl Try.results67 ?_
  conv => arg 2; cbv
  refine X.cond rfl (fun hlt => ?_) (fun hge => ?_)
  · simp only [SB.T, SI.den] at hlt
    have hlt : i < n := by omega
    obtain ⟨b, y, hp, hd⟩ := hA.2 (by omega)
    obtain ⟨x, hx⟩ : ∃ x, x = d[i]! := ⟨_, rfl⟩
    obtain ⟨oi, hoi⟩ : ∃ o, o = y + i := ⟨_, rfl⟩
    have hix : elsewhere [] [] w b (oi + 0) = some (.int .u8 x) := by rw [Nat.add_zero, els_old, hoi, hx]; exact hd i (by omega)
    obtain ⟨z, hz⟩ : ∃ z, z = mulU (xorU h (IntKind.u64.wrap x)) 1099511628211 := ⟨_, rfl⟩
    have hzs : ofZ (d.toList.take (i + 1)) = z := by
      have : d.toList.take (i + 1) = d.toList.take i ++ [x] := by
        rw [List.take_add_one, List.getElem?_eq_getElem (by simp; omega), hx, getElem!_pos d i (by omega)]
        simp
      rw [this, ofZ_snoc, ← hh, hz]
    refine X.goP ([(13, .ext b oi 0), (14, .int .u8 (.v x)), (17, .int .u64 (.v z))]) T67_ok 400 _ rfl Try.results67 (fun pr fin hpr hfin => ?_)
    conv => cbv
    refine ⟨hpr _ (.of Try.call94 [.int .u64 (xorU h (IntKind.u64.wrap x)), .int .u64 1099511628211] (.int .u64 z) (fun _ => rfl) (fun _ => rfl) fun _ w1 _ => by rw [hz]; exact times_ok _ _ w1 (xorU_in _ _) (by unfold inU; omega)), hpr _ (ValOk.im1 rfl Try.isAgg5 (fun _ => rfl) fun _ => hix), hpr _ (ValOk.at (z := i) rfl rfl (fun _ => rfl) Try.underlying22 Try.sizeOf5 (fun _ => hlt) hp (by omega)), hfin _ _ ?_⟩
    refine X.back (fun N ac w' hN hf hS => hq ⟨i + 1, hlt⟩ ac w' (by simp only; omega) ?_)
    show At (mkE Try.prog Try.f67 Q w (InR [] []) (elsewhere [] [] w) (fun _ _ => False) (fun _ => True) [] B67) ⟨[(0, .val (.slv p n c)), (3, .val (.int .u64 (.v (ofZ (d.toList.take (i + 1)))))), (6, .val (.int .i64 (.nat n))), (7, .val (.int .i64 (.nat (i + 1))))], []⟩ ac w'
    rw [hzs]
    exact At.again hf hS (by repeat first | exact trivial | refine ⟨⟨_, rfl, .inl ⟨rfl, rfl⟩⟩, ?_⟩ | refine ⟨⟨_, rfl, .inr ⟨_, rfl, rfl⟩⟩, ?_⟩ | refine ⟨⟨_, rfl, .inr ⟨_, rfl, by simp (disch := omega) [SV.den, SI.den, wrapU, wrapD] <;> omega⟩⟩, ?_⟩) trivial
  · simp only [SB.F, SI.den] at hge
    have hall : d.toList.take i = d.toList := List.take_of_length_le (by simp; omega)
    refine X.go T67_ok 400 _ rfl Try.results67 ?_
    conv => arg 2; cbv
    refine X.done T67_ok rfl (fun N w' v hN hS hv => ?_)
    rw [hQ]
    exact ⟨fin_int hv (by rw [← hall]; exact hh), hS.chg.none⟩

/-- a row of one's own, handed in -/
theorem inB_own {E : Env} {N : Nums} {rg : List Rg} {w : World} (hS : Sat E N rg w) {r n : Nat} {ow : Bool} {x : Array Int} {xs : List SV} {p : Num} (hg : rg[r]? = some ⟨ow, xs, none⟩) (hp : N[r]? = some p) (hn : x.size = n) (hx : ∀ j, j < n → ∃ e, xs[j]? = some (.int .u8 e) ∧ e.den = x[j]!) : InB (some ⟨p.b, p.o + 0, none⟩) n x w :=
  ⟨hn, fun _ => ⟨p.b, p.o, rfl, fun j hj => by
    obtain ⟨e, h1, h2⟩ := hx j (by omega)
    obtain ⟨v, h3, h4⟩ := hS.cell r _ p hg hp j _ h1
    simp only [SV.den, h2, Option.some.injEq] at h3
    rw [h4, ← h3]⟩⟩

set_option maxHeartbeats 4000000 in
set_option maxRecDepth 100000 in
set_option cbv.maxSteps 100000000 in
theorem place8_ok (n v : Int) (w : World) : Calls Try.prog 45 #[.int .u8 n, .int .u8 v] w fun e w' => e = .returned (.int .u64 (placeZ n v)) ∧ Chg (fun _ _ => False) w w' := by
  refine X.begin (rg := []) (N := []) (ss := [.int .u8 (.v n), .int .u8 (.v v)]) Try.func45 rfl B45_ok rfl rfl Sat.std0 ?_
  obtain ⟨x, hx⟩ : ∃ x, x = ofZ [110, n, v] := ⟨_, rfl⟩
  obtain ⟨z, hz⟩ : ∃ z, z = placeZ n v := ⟨_, rfl⟩
  refine X.go T45_ok 400 _ rfl Try.results45 ?_
  conv => arg 2; cbv
  refine X.call0 (.int .u64 (.v x)) rfl rfl rfl rfl Try.call67 rfl (fun N w1 args hN hS ha => ?_) ?_
  · obtain ⟨p, hp⟩ : ∃ p, N[0]? = some p := ⟨_, List.getElem?_eq_getElem (by rw [hS.len]; simp)⟩
    obtain ⟨c, ha⟩ : ∃ c, args = [.slice (some ⟨p.b, p.o + 0, none⟩) 3 c] := by
      simp only [SV.denL, SV.den, hp] at ha
      exact ⟨_, (Option.some.inj ha).symm⟩
    rw [ha]
    refine (of8_ok _ 3 c #[110, n, v] w1 (by decide) (inB_own hS rfl hp rfl (fun j hj => ?_))).mono fun e w' ⟨he, hc⟩ => ⟨_, he, by rw [hx]; rfl, hc⟩
    match j, hj with
    | 0, _ | 1, _ | 2, _ => exact ⟨_, rfl, rfl⟩
  refine X.goP ([(9, .int .u64 (.v z))]) T45_ok 400 _ rfl Try.results45 (fun pr fin hpr hfin => ?_)
  conv => cbv
  refine ⟨hpr _ (.of Try.call66 [.int .u64 x] (.int .u64 z) (fun _ => rfl) (fun _ => rfl) fun _ w1 _ => by rw [hz, placeZ, ← hx]; exact stir8_ok x w1 (by rw [hx]; exact ofZ_in _)), hfin _ _ ?_⟩
  refine X.done T45_ok rfl (fun N w' v hN hS hv => ⟨fin_int hv hz, hS.chg.none⟩)

set_option maxHeartbeats 4000000 in
set_option maxRecDepth 100000 in
set_option cbv.maxSteps 100000000 in
theorem key8_ok (k : Int) (w : World) : Calls Try.prog 47 #[.int .u8 k] w fun e w' => e = .returned (.int .u64 (keyZ k)) ∧ Chg (fun _ _ => False) w w' := by
  refine X.begin (rg := []) (N := []) (ss := [.int .u8 (.v k)]) Try.func47 rfl B47_ok rfl rfl Sat.std0 ?_
  obtain ⟨x, hx⟩ : ∃ x, x = ofZ [107, k] := ⟨_, rfl⟩
  obtain ⟨z, hz⟩ : ∃ z, z = keyZ k := ⟨_, rfl⟩
  refine X.go T47_ok 400 _ rfl Try.results47 ?_
  conv => arg 2; cbv
  refine X.call0 (.int .u64 (.v x)) rfl rfl rfl rfl Try.call67 rfl (fun N w1 args hN hS ha => ?_) ?_
  · obtain ⟨p, hp⟩ : ∃ p, N[0]? = some p := ⟨_, List.getElem?_eq_getElem (by rw [hS.len]; simp)⟩
    obtain ⟨c, ha⟩ : ∃ c, args = [.slice (some ⟨p.b, p.o + 0, none⟩) 2 c] := by
      simp only [SV.denL, SV.den, hp] at ha
      exact ⟨_, (Option.some.inj ha).symm⟩
    rw [ha]
    refine (of8_ok _ 2 c #[107, k] w1 (by decide) (inB_own hS rfl hp rfl (fun j hj => ?_))).mono fun e w' ⟨he, hc⟩ => ⟨_, he, by rw [hx]; rfl, hc⟩
    match j, hj with
    | 0, _ | 1, _ => exact ⟨_, rfl, rfl⟩
  refine X.goP ([(6, .int .u64 (.v z))]) T47_ok 400 _ rfl Try.results47 (fun pr fin hpr hfin => ?_)
  conv => cbv
  refine ⟨hpr _ (.of Try.call66 [.int .u64 x] (.int .u64 z) (fun _ => rfl) (fun _ => rfl) fun _ w1 _ => by rw [hz, keyZ, ← hx]; exact stir8_ok x w1 (by rw [hx]; exact ofZ_in _)), hfin _ _ ?_⟩
  refine X.done T47_ok rfl (fun N w' v hN hS hv => ⟨fin_int hv hz, hS.chg.none⟩)

set_option maxHeartbeats 4000000 in
set_option maxRecDepth 100000 in
set_option cbv.maxSteps 100000000 in
theorem has9_ok (p : Option Addr) (n c : Nat) (d : Array Int) (z : Int) (w : World) (hle : n ≤ 100000) (hA : InB p n d w) : Calls Try.prog 44 #[.slice p n c, .int .u8 z] w fun e w' => e = .returned (.bool (decide (z ∈ d.toList))) ∧ Chg (fun _ _ => False) w w' := by
  have hn := hA.1
  obtain ⟨Q, hQ⟩ : ∃ Q : Ending → World → Prop, Q = fun e w' => e = .returned (.bool (decide (z ∈ d.toList))) ∧ Chg (fun _ _ => False) w w' := ⟨_, rfl⟩
  rw [← hQ]
  refine X.begin (rg := []) (N := []) (ss := [.slv p n c, .int .u8 (.v z)]) Try.func44 rfl B44_ok rfl rfl Sat.std0 ?_
  refine X.go T44_ok 400 _ rfl Try.results44 ?_
  conv => arg 2; cbv
  refine X.loop (fun _ : {i : Nat // i ≤ n ∧ ¬ z ∈ d.toList.take i} => mkE Try.prog Try.f44 Q w (InR [] []) (elsewhere [] [] w) (fun _ _ => False) (fun _ => True) [] B44)
    (fun g => ⟨[(0, .val (.slv p n c)), (1, .val (.int .u8 (.v z))), (7, .val (.int .i64 (.nat n))), (8, .val (.int .i64 (.nat g.1)))], []⟩) (fun g => n - g.1) (fun _ => ⟨rfl, rfl, rfl, rfl⟩) (fun N ac w' hN hf hS => ⟨⟨0, Nat.zero_le _, by simp⟩, ?_⟩) (fun g q hq => ?_)
  · exact At.again hf hS (by repeat first | exact trivial | refine ⟨⟨_, rfl, .inl ⟨rfl, rfl⟩⟩, ?_⟩ | refine ⟨⟨_, rfl, .inr ⟨_, rfl, rfl⟩⟩, ?_⟩ | refine ⟨⟨_, rfl, .inr ⟨_, rfl, by simp (disch := omega) [SV.den, SI.den, wrapU, wrapD] <;> omega⟩⟩, ?_⟩) trivial
  obtain ⟨i, hi, hnz⟩ := g
  show X (mkE Try.prog Try.f44 Q w (InR [] []) (elsewhere [] [] w) (fun _ _ => False) (fun _ => True) [] B44) _ ⟨[(0, .val (.slv p n c)), (1, .val (.int .u8 (.v z))), (7, .val (.int .i64 (.nat n))), (8, .val (.int .i64 (.nat i)))], []⟩
  refine X.go T44_ok 400 _ rfl Try.results44 ?_
  conv => arg 2; cbv
  refine X.cond rfl (fun hlt => ?_) (fun hge => ?_)
  · simp only [SB.T, SI.den] at hlt
    have hlt : i < n := by omega
    obtain ⟨b, y, hp, hd⟩ := hA.2 (by omega)
    obtain ⟨x, hx⟩ : ∃ x, x = d[i]! := ⟨_, rfl⟩
    obtain ⟨oi, hoi⟩ : ∃ o, o = y + i := ⟨_, rfl⟩
    have hix : elsewhere [] [] w b (oi + 0) = some (.int .u8 x) := by rw [Nat.add_zero, els_old, hoi, hx]; exact hd i (by omega)
    have hsn : d.toList.take (i + 1) = d.toList.take i ++ [x] := by
      rw [List.take_add_one, List.getElem?_eq_getElem (by simp; omega), hx, getElem!_pos d i (by omega)]
      simp
    refine X.goP ([(13, .ext b oi 0), (14, .int .u8 (.v x))]) T44_ok 400 _ rfl Try.results44 (fun pr fin hpr hfin => ?_)
    conv => cbv
    refine ⟨hpr _ (ValOk.im1 rfl Try.isAgg5 (fun _ => rfl) fun _ => hix), hpr _ (ValOk.at (z := i) rfl rfl (fun _ => rfl) Try.underlying22 Try.sizeOf5 (fun _ => hlt) hp (by omega)), hfin _ _ ?_⟩
    refine X.cond rfl (fun he => ?_) (fun he => ?_)
    · simp only [SB.T, SI.den] at he
      have hm : z ∈ d.toList := by
        have : z ∈ d.toList.take (i + 1) := by rw [hsn]; simp [he]
        exact List.mem_of_mem_take this
      refine X.go T44_ok 400 _ rfl Try.results44 ?_
      conv => arg 2; cbv
      refine X.done T44_ok rfl (fun N w' v hN hS hv => ?_)
      rw [hQ]
      exact ⟨fin_bool hv (by simp [SB.den, hm]), hS.chg.none⟩
    · simp only [SB.F, SI.den] at he
      refine X.go T44_ok 400 _ rfl Try.results44 ?_
      conv => arg 2; cbv
      refine X.back (fun N ac w' hN hf hS => hq ⟨i + 1, hlt, by rw [hsn]; simp [hnz, Ne.symm he]⟩ ac w' (by simp only; omega) ?_)
      exact At.again hf hS (by repeat first | exact trivial | refine ⟨⟨_, rfl, .inl ⟨rfl, rfl⟩⟩, ?_⟩ | refine ⟨⟨_, rfl, .inr ⟨_, rfl, rfl⟩⟩, ?_⟩ | refine ⟨⟨_, rfl, .inr ⟨_, rfl, by simp (disch := omega) [SV.den, SI.den, wrapU, wrapD] <;> omega⟩⟩, ?_⟩) trivial
  · simp only [SB.F, SI.den] at hge
    have hm : ¬ z ∈ d.toList := by
      rw [List.take_of_length_le (by simp; omega)] at hnz
      exact hnz
    refine X.go T44_ok 400 _ rfl Try.results44 ?_
    conv => arg 2; cbv
    refine X.done T44_ok rfl (fun N w' v hN hS hv => ?_)
    rw [hQ]
    exact ⟨fin_bool hv (by simp [SB.den, hm]), hS.chg.none⟩

set_option maxHeartbeats 4000000 in
set_option maxRecDepth 100000 in
set_option cbv.maxSteps 100000000 in
theorem less9_ok (x y : Int × Int) (w : World) : Calls Try.prog 46 #[.agg #[.int .u64 x.1, .int .u8 x.2], .agg #[.int .u64 y.1, .int .u8 y.2]] w fun e w' => e = .returned (.bool (ltOf cfP x y)) ∧ Chg (fun _ _ => False) w w' := by
  obtain ⟨x1, x2⟩ := x
  obtain ⟨y1, y2⟩ := y
  refine X.begin (rg := []) (N := []) (ss := [.agg [.int .u64 (.v x1), .int .u8 (.v x2)], .agg [.int .u64 (.v y1), .int .u8 (.v y2)]]) Try.func46 rfl B46_ok rfl rfl Sat.std0 ?_
  refine X.go T46_ok 400 _ rfl Try.results46 ?_
  conv => arg 2; cbv
  refine X.done T46_ok rfl (fun N w' v hN hS hv => ⟨fin_bool hv ?_, hS.chg.none⟩)
  rw [ltP]
  exact den_of (by simp only [SB.T, SI.den]; exact decide_eq_true_iff.symm)

end Go.Proofs.Ythaffebapmkppaa
