/- Configurations: sets and counts of nodes. -/
import Derived.Test.YthaffebapmkppaaCf2

namespace Go.Proofs.Ythaffebapmkppaa
open Go Go.Eng Go.Sort

/-- nodes, as bits -/
def setS (s : Nat) (x : Int) : Nat := if x < 64 then s ||| 2 ^ x.toNat else s
def setN (l : List Int) : Nat := l.foldl setS 0
theorem setN_lt : ∀ (l : List Int) (s : Nat), s < 2 ^ 64 → l.foldl setS s < 2 ^ 64
  | [], _, h => h
  | x :: l, s, h => by
    rw [List.foldl_cons]
    refine setN_lt l _ ?_
    unfold setS
    split
    · exact Nat.or_lt_two_pow h (Nat.pow_lt_pow_right (by decide) (by omega))
    · exact h
def othN (l m : List Int) : Nat := l.countP fun x => decide (x ∉ m)
def cntN (l : List Int) (s : Nat) : Nat := l.countP fun x => s.testBit x.toNat
theorem countP_take {p : Int → Bool} {l : List Int} {i : Nat} (h : i < l.length) : (l.take (i + 1)).countP p = (l.take i).countP p + if p l[i]! then 1 else 0 := by
  rw [take_snoc h, List.countP_append, List.countP_cons]
  simp
theorem vk_shl1 {E : Env} {N0 : Nums} {rg : List Rg} {f : Fr} {g : GK} {t ty : TypeId} {x y : Operand} {ka kb : IntKind} {a b : SI} {n : Nat} (hx : evK f g x = some (.int ka a)) (hy : evK f g y = some (.int kb b)) (ha : a.den = 1) (hk : ka = .u64) (hz : g.T → b.den = (n : Int)) (hn : n < 64) : ValOk E N0 rg f g (.binOp .shl t x y ty) (.int .u64 (.nat (2 ^ n))) := by
  intro ht N ρ o w hN0 hop hρ hV
  have h1 := hρ _ _ hx
  have h2 := hρ _ _ hy
  simp only [SV.den, Option.some.injEq] at h1 h2
  subst hk
  have hb := hz ht
  rw [ha] at h1
  rw [hb] at h2
  refine ⟨.int .u64 ((2 ^ n : Nat) : Int), rfl, fun w' _ => ?_⟩
  have h3 : (do eqGuard .shl t x y (ρ x) (ρ y); binOp .shl t (ρ x) (ρ y) : Sem Value).run E.P w' = .ok (.int .u64 ((2 ^ n : Nat) : Int)) w' := by
    rw [← h1, ← h2]
    simp only [Sem.run_bind]
    rw [eqGuard_none _ _ _ _ (by simp) (by simp)]
    have hw : IntKind.u64.wrap (1 * 2 ^ min (n : Int).toNat IntKind.u64.bits) = ((2 ^ n : Nat) : Int) := by
      have e : min (n : Int).toNat IntKind.u64.bits = n := by simp [IntKind.bits]; omega
      rw [e, Int.one_mul, show ((2 : Int) ^ n) = ((2 ^ n : Nat) : Int) by simp]
      exact wrapU64 _ (by have := Nat.pow_lt_pow_right (a := 2) (by decide) hn; simpa using this)
    have hnn : ¬ (n : Int) < 0 := by omega
    simp only [Result.andThen, binOp, Op.shift]
    rw [if_neg hnn, hw]
    rfl
  simp only [execOp, hop]
  rw [Sem.run_bind, h3]
  rfl

set_option maxHeartbeats 8000000 in
set_option maxRecDepth 100000 in
set_option cbv.maxSteps 100000000 in
theorem set_ok (p : Option Addr) (n c : Nat) (d : Array Int) (w : World) (hle : n ≤ 100000) (hA : InB p n d w) (hb : ∀ x ∈ d.toList, 0 ≤ x ∧ x < 256) : Calls Try.prog 49 #[.slice p n c] w fun e w' => e = .returned (.int .u64 (setN d.toList)) ∧ Chg (fun _ _ => False) w w' := by
  have hn := hA.1
  obtain ⟨Q, hQ⟩ : ∃ Q : Ending → World → Prop, Q = fun e w' => e = .returned (.int .u64 (setN d.toList)) ∧ Chg (fun _ _ => False) w w' := ⟨_, rfl⟩
  rw [← hQ]
  refine X.begin (rg := []) (N := []) (ss := [.slv p n c]) Try.func49 rfl B49_ok rfl rfl Sat.std0 ?_
  refine X.go T49_ok 400 _ rfl Try.results49 ?_
  conv => arg 2; cbv
  refine X.loop (fun _ : {i : Nat // i ≤ n} => mkE Try.prog Try.f49 Q w (InR [] []) (elsewhere [] [] w) (fun _ _ => False) (fun _ => True) [] B49)
    (fun g => ⟨[(3, .val (.int .u64 (.nat (setN (d.toList.take g.1))))), (6, .val (.slv p n c)), (7, .val (.int .i64 (.nat n))), (8, .val (.int .i64 (.nat g.1)))], []⟩) (fun g => n - g.1) (fun _ => ⟨rfl, rfl, rfl, rfl⟩) (fun N ac w' hN hf hS => ⟨⟨0, Nat.zero_le _⟩, ?_⟩) (fun g q hq => ?_)
  · exact At.again hf hS (by repeat first | exact trivial | refine ⟨⟨_, rfl, .inl ⟨rfl, rfl⟩⟩, ?_⟩ | refine ⟨⟨_, rfl, .inr ⟨_, rfl, rfl⟩⟩, ?_⟩ | refine ⟨⟨_, rfl, .inr ⟨_, rfl, by simp (disch := omega) [SV.den, SI.den, wrapU, wrapD] <;> omega⟩⟩, ?_⟩) trivial
  obtain ⟨i, hi⟩ := g
  show X (mkE Try.prog Try.f49 Q w (InR [] []) (elsewhere [] [] w) (fun _ _ => False) (fun _ => True) [] B49) _ ⟨[(3, .val (.int .u64 (.nat (setN (d.toList.take i))))), (6, .val (.slv p n c)), (7, .val (.int .i64 (.nat n))), (8, .val (.int .i64 (.nat i)))], []⟩
  obtain ⟨s, hs⟩ : ∃ s, s = setN (d.toList.take i) := ⟨_, rfl⟩
  have hs8 : s < 2 ^ 64 := by rw [hs]; exact setN_lt _ 0 (by decide)
  rw [← hs]
  refine X.go T49_ok 400 _ rfl Try.results49 ?_
  conv => arg 2; cbv
  refine X.cond rfl (fun hlt => ?_) (fun hge => ?_)
  · simp only [SB.T, SI.den] at hlt
    have hlt : i < n := by omega
    obtain ⟨b, y, hp, hd⟩ := hA.2 (by omega)
    obtain ⟨x, hx⟩ : ∃ x, x = d[i]! := ⟨_, rfl⟩
    have hxl : d.toList[i]! = x := by rw [hx, getElem!_pos d i (by omega), getElem!_pos d.toList i (by simp; omega)]; simp
    obtain ⟨oi, hoi⟩ : ∃ o, o = y + i := ⟨_, rfl⟩
    have hix : elsewhere [] [] w b (oi + 0) = some (.int .u8 x) := by rw [Nat.add_zero, els_old, hoi, hx]; exact hd i (by omega)
    have hxm : x ∈ d.toList := by rw [← hxl, getElem!_pos d.toList i (by simp; omega)]; exact List.getElem_mem _
    have hst : setN (d.toList.take (i + 1)) = setS s x := by unfold setN; rw [foldl_take _ _ (by simp; omega), hxl, hs]; rfl
    refine X.goP ([(10, .ext b oi 0), (11, .int .u8 (.v x))]) T49_ok 400 _ rfl Try.results49 (fun pr fin hpr hfin => ?_)
    conv => cbv
    refine ⟨hpr _ (ValOk.im1 rfl Try.isAgg5 (fun _ => rfl) fun _ => hix), hpr _ (ValOk.at (z := i) rfl rfl (fun _ => rfl) Try.underlying22 Try.sizeOf5 (fun _ => hlt) hp (by omega)), hfin _ _ ?_⟩
    refine X.cond rfl (fun hT => ?_) (fun hF => ?_)
    · simp only [SB.T, SI.den] at hT
      obtain ⟨xn, hxn, _⟩ := byteN (hb x hxm)
      have hx64 : xn < 64 := by omega
      have hp2 : 2 ^ xn < 2 ^ 64 := Nat.pow_lt_pow_right (by decide) hx64
      obtain ⟨t2, ht2⟩ : ∃ t, t = 2 ^ xn := ⟨_, rfl⟩
      have hst2 : setS s x = s ||| t2 := by unfold setS; rw [if_pos hT, hxn, ht2]; simp
      have hor := bits_or s t2 hs8 (by rw [ht2]; exact hp2)
      refine X.goP ([(16, .int .u64 (.nat t2))]) T49_ok 400 _ rfl Try.results49 (fun pr fin hpr hfin => ?_)
      conv => cbv
      refine ⟨hpr _ (by rw [ht2]; exact vk_shl1 rfl rfl rfl rfl (fun _ => hxn) hx64), hfin _ _ ?_⟩
      refine X.reval 3 (.int .u64 (.nat (s ||| t2))) rfl (fun N _ v hv => by rw [← hv]; simp only [SV.den, SI.den, hor]) ?_
      refine X.back (fun N ac w' hN hf hS => hq ⟨i + 1, hlt⟩ ac w' (by simp only; omega) ?_)
      show At (mkE Try.prog Try.f49 Q w (InR [] []) (elsewhere [] [] w) (fun _ _ => False) (fun _ => True) [] B49) ⟨[(3, .val (.int .u64 (.nat (setN (d.toList.take (i + 1)))))), (6, .val (.slv p n c)), (7, .val (.int .i64 (.nat n))), (8, .val (.int .i64 (.nat (i + 1))))], []⟩ ac w'
      rw [hst, hst2]
      exact At.again hf hS (by repeat first | exact trivial | refine ⟨⟨_, rfl, .inl ⟨rfl, rfl⟩⟩, ?_⟩ | refine ⟨⟨_, rfl, .inr ⟨_, rfl, rfl⟩⟩, ?_⟩ | refine ⟨⟨_, rfl, .inr ⟨_, rfl, by simp (disch := omega) [SV.den, SI.den, wrapU, wrapD] <;> omega⟩⟩, ?_⟩) trivial
    · simp only [SB.F, SI.den] at hF
      have hst2 : setS s x = s := by unfold setS; rw [if_neg (by omega)]
      refine X.go T49_ok 400 _ rfl Try.results49 ?_
      conv => arg 2; cbv
      refine X.back (fun N ac w' hN hf hS => hq ⟨i + 1, hlt⟩ ac w' (by simp only; omega) ?_)
      show At (mkE Try.prog Try.f49 Q w (InR [] []) (elsewhere [] [] w) (fun _ _ => False) (fun _ => True) [] B49) ⟨[(3, .val (.int .u64 (.nat (setN (d.toList.take (i + 1)))))), (6, .val (.slv p n c)), (7, .val (.int .i64 (.nat n))), (8, .val (.int .i64 (.nat (i + 1))))], []⟩ ac w'
      rw [hst, hst2]
      exact At.again hf hS (by repeat first | exact trivial | refine ⟨⟨_, rfl, .inl ⟨rfl, rfl⟩⟩, ?_⟩ | refine ⟨⟨_, rfl, .inr ⟨_, rfl, rfl⟩⟩, ?_⟩ | refine ⟨⟨_, rfl, .inr ⟨_, rfl, by simp (disch := omega) [SV.den, SI.den, wrapU, wrapD] <;> omega⟩⟩, ?_⟩) trivial
  · simp only [SB.F, SI.den] at hge
    have hall : d.toList.take i = d.toList := List.take_of_length_le (by simp; omega)
    refine X.go T49_ok 400 _ rfl Try.results49 ?_
    conv => arg 2; cbv
    refine X.done T49_ok rfl (fun N w' v hN hS hv => ?_)
    rw [hQ]
    exact ⟨fin_int hv (by rw [← hall, ← hs]; rfl), hS.chg.none⟩

set_option maxHeartbeats 8000000 in
set_option maxRecDepth 100000 in
set_option cbv.maxSteps 100000000 in
theorem has10_ok (p : Option Addr) (n c : Nat) (d : Array Int) (z : Int) (w : World) (hle : n ≤ 100000) (hA : InB p n d w) : Calls Try.prog 54 #[.slice p n c, .int .u8 z] w fun e w' => e = .returned (.bool (decide (z ∈ d.toList))) ∧ Chg (fun _ _ => False) w w' := by
  have hn := hA.1
  obtain ⟨Q, hQ⟩ : ∃ Q : Ending → World → Prop, Q = fun e w' => e = .returned (.bool (decide (z ∈ d.toList))) ∧ Chg (fun _ _ => False) w w' := ⟨_, rfl⟩
  rw [← hQ]
  refine X.begin (rg := []) (N := []) (ss := [.slv p n c, .int .u8 (.v z)]) Try.func54 rfl B54_ok rfl rfl Sat.std0 ?_
  refine X.go T54_ok 400 _ rfl Try.results54 ?_
  conv => arg 2; cbv
  refine X.loop (fun _ : {i : Nat // i ≤ n ∧ ¬ z ∈ d.toList.take i} => mkE Try.prog Try.f54 Q w (InR [] []) (elsewhere [] [] w) (fun _ _ => False) (fun _ => True) [] B54)
    (fun g => ⟨[(0, .val (.slv p n c)), (1, .val (.int .u8 (.v z))), (7, .val (.int .i64 (.nat n))), (8, .val (.int .i64 (.nat g.1)))], []⟩) (fun g => n - g.1) (fun _ => ⟨rfl, rfl, rfl, rfl⟩) (fun N ac w' hN hf hS => ⟨⟨0, Nat.zero_le _, by simp⟩, ?_⟩) (fun g q hq => ?_)
  · exact At.again hf hS (by repeat first | exact trivial | refine ⟨⟨_, rfl, .inl ⟨rfl, rfl⟩⟩, ?_⟩ | refine ⟨⟨_, rfl, .inr ⟨_, rfl, rfl⟩⟩, ?_⟩ | refine ⟨⟨_, rfl, .inr ⟨_, rfl, by simp (disch := omega) [SV.den, SI.den, wrapU, wrapD] <;> omega⟩⟩, ?_⟩) trivial
  obtain ⟨i, hi, hex⟩ := g
  show X (mkE Try.prog Try.f54 Q w (InR [] []) (elsewhere [] [] w) (fun _ _ => False) (fun _ => True) [] B54) _ ⟨[(0, .val (.slv p n c)), (1, .val (.int .u8 (.v z))), (7, .val (.int .i64 (.nat n))), (8, .val (.int .i64 (.nat i)))], []⟩
  refine X.go T54_ok 400 _ rfl Try.results54 ?_
  conv => arg 2; cbv
  refine X.cond rfl (fun hlt => ?_) (fun hge => ?_)
  · simp only [SB.T, SI.den] at hlt
    have hlt : i < n := by omega
    obtain ⟨b, y, hp, hd⟩ := hA.2 (by omega)
    obtain ⟨x, hx⟩ : ∃ x, x = d[i]! := ⟨_, rfl⟩
    have hxl : d.toList[i]! = x := by rw [hx, getElem!_pos d i (by omega), getElem!_pos d.toList i (by simp; omega)]; simp
    obtain ⟨oi, hoi⟩ : ∃ o, o = y + i := ⟨_, rfl⟩
    have hix : elsewhere [] [] w b (oi + 0) = some (.int .u8 x) := by rw [Nat.add_zero, els_old, hoi, hx]; exact hd i (by omega)
    have hxm : x ∈ d.toList := by rw [← hxl, getElem!_pos d.toList i (by simp; omega)]; exact List.getElem_mem _
    have hsn := take_snoc (l := d.toList) (i := i) (by simp; omega)
    rw [hxl] at hsn
    refine X.goP ([(13, .ext b oi 0), (14, .int .u8 (.v x))]) T54_ok 400 _ rfl Try.results54 (fun pr fin hpr hfin => ?_)
    conv => cbv
    refine ⟨hpr _ (ValOk.im1 rfl Try.isAgg5 (fun _ => rfl) fun _ => hix), hpr _ (ValOk.at (z := i) rfl rfl (fun _ => rfl) Try.underlying22 Try.sizeOf5 (fun _ => hlt) hp (by omega)), hfin _ _ ?_⟩
    refine X.cond rfl (fun he => ?_) (fun he => ?_)
    · simp only [SB.T, SI.den] at he
      have hm : z ∈ d.toList := by rw [← he]; exact hxm
      refine X.go T54_ok 400 _ rfl Try.results54 ?_
      conv => arg 2; cbv
      refine X.done T54_ok rfl (fun N w' v hN hS hv => ?_)
      rw [hQ]
      exact ⟨fin_bool hv (by simp [SB.den, hm]), hS.chg.none⟩
    · simp only [SB.F, SI.den] at he
      refine X.go T54_ok 400 _ rfl Try.results54 ?_
      conv => arg 2; cbv
      refine X.back (fun N ac w' hN hf hS => hq ⟨i + 1, hlt, by rw [hsn]; simp [hex, Ne.symm he]⟩ ac w' (by simp only; omega) ?_)
      show At (mkE Try.prog Try.f54 Q w (InR [] []) (elsewhere [] [] w) (fun _ _ => False) (fun _ => True) [] B54) ⟨[(0, .val (.slv p n c)), (1, .val (.int .u8 (.v z))), (7, .val (.int .i64 (.nat n))), (8, .val (.int .i64 (.nat (i + 1))))], []⟩ ac w'
      exact At.again hf hS (by repeat first | exact trivial | refine ⟨⟨_, rfl, .inl ⟨rfl, rfl⟩⟩, ?_⟩ | refine ⟨⟨_, rfl, .inr ⟨_, rfl, rfl⟩⟩, ?_⟩ | refine ⟨⟨_, rfl, .inr ⟨_, rfl, by simp (disch := omega) [SV.den, SI.den, wrapU, wrapD] <;> omega⟩⟩, ?_⟩) trivial
  · simp only [SB.F, SI.den] at hge
    have hm : ¬ z ∈ d.toList := by rw [List.take_of_length_le (by simp; omega)] at hex; exact hex
    refine X.go T54_ok 400 _ rfl Try.results54 ?_
    conv => arg 2; cbv
    refine X.done T54_ok rfl (fun N w' v hN hS hv => ?_)
    rw [hQ]
    exact ⟨fin_bool hv (by simp [SB.den, hm]), hS.chg.none⟩

set_option maxHeartbeats 8000000 in
set_option maxRecDepth 100000 in
set_option cbv.maxSteps 100000000 in
theorem bit_ok (s n : Nat) (w : World) (hs : s < 2 ^ 64) (hn : n < 256) : Calls Try.prog 68 #[.int .u64 s, .int .u8 n] w fun e w' => e = .returned (.bool (s.testBit n)) ∧ Chg (fun _ _ => False) w w' := by
  obtain ⟨Q, hQ⟩ : ∃ Q : Ending → World → Prop, Q = fun e w' => e = .returned (.bool (s.testBit n)) ∧ Chg (fun _ _ => False) w w' := ⟨_, rfl⟩
  rw [← hQ]
  refine X.begin (rg := []) (N := []) (ss := [.int .u64 (.nat s), .int .u8 (.nat n)]) Try.func68 rfl B68_ok rfl rfl Sat.std0 ?_
  have hs0 : s / 2 ^ 0 = s := by simp
  refine X.go T68_ok 400 _ rfl Try.results68 ?_
  conv => arg 2; cbv
  refine X.loop (fun _ : {i : Nat // i ≤ n} => mkE Try.prog Try.f68 Q w (InR [] []) (elsewhere [] [] w) (fun _ _ => False) (fun _ => True) [] B68)
    (fun g => ⟨[(0, .val (.int .u64 (.nat (s / 2 ^ g.1)))), (1, .val (.int .u8 (.nat n))), (5, .val (.int .u8 (.nat g.1)))], []⟩) (fun g => n - g.1) (fun _ => ⟨rfl, rfl, rfl, rfl⟩) (fun N ac w' hN hf hS => ⟨⟨0, Nat.zero_le _⟩, ?_⟩) (fun g q hq => ?_)
  · show At (mkE Try.prog Try.f68 Q w (InR [] []) (elsewhere [] [] w) (fun _ _ => False) (fun _ => True) [] B68) ⟨[(0, .val (.int .u64 (.nat (s / 2 ^ 0)))), (1, .val (.int .u8 (.nat n))), (5, .val (.int .u8 (.nat 0)))], []⟩ ac w'
    rw [hs0]
    exact At.again hf hS (by repeat first | exact trivial | refine ⟨⟨_, rfl, .inl ⟨rfl, rfl⟩⟩, ?_⟩ | refine ⟨⟨_, rfl, .inr ⟨_, rfl, rfl⟩⟩, ?_⟩ | refine ⟨⟨_, rfl, .inr ⟨_, rfl, by simp (disch := omega) [SV.den, SI.den, wrapU, wrapD] <;> omega⟩⟩, ?_⟩) trivial
  obtain ⟨i, hi⟩ := g
  show X (mkE Try.prog Try.f68 Q w (InR [] []) (elsewhere [] [] w) (fun _ _ => False) (fun _ => True) [] B68) _ ⟨[(0, .val (.int .u64 (.nat (s / 2 ^ i)))), (1, .val (.int .u8 (.nat n))), (5, .val (.int .u8 (.nat i)))], []⟩
  obtain ⟨y, hy⟩ : ∃ y, y = s / 2 ^ i := ⟨_, rfl⟩
  have hy8 : y < 2 ^ 64 := by rw [hy]; exact Nat.lt_of_le_of_lt (Nat.div_le_self _ _) hs
  rw [← hy]
  refine X.go T68_ok 400 _ rfl Try.results68 ?_
  conv => arg 2; cbv
  refine X.cond rfl (fun hlt => ?_) (fun hge => ?_)
  · simp only [SB.T, SI.den] at hlt
    have hlt : i < n := by omega
    have hyn : s / 2 ^ (i + 1) = y / 2 := by rw [hy, Nat.pow_succ, Nat.div_div_eq_div_mul]
    have hw : IntKind.u64.wrap ((y : Int).tdiv 2) = ((y / 2 : Nat) : Int) := by rw [Int.tdiv_eq_ediv_of_nonneg (by omega), wrap64]; omega
    have hw2 : IntKind.u8.wrap ((i : Int) + 1) = ((i + 1 : Nat) : Int) := wrapP (v := i + 1) (by omega)
    refine X.go T68_ok 400 _ rfl Try.results68 ?_
    conv => arg 2; cbv
    refine X.reval 0 (.int .u64 (.nat (y / 2))) rfl (fun N _ v hv => by rw [← hv]; simp only [SV.den, SI.den, hw]) ?_
    refine X.reval 5 (.int .u8 (.nat (i + 1))) rfl (fun N _ v hv => by rw [← hv]; simp only [SV.den, SI.den, hw2]) ?_
    refine X.back (fun N ac w' hN hf hS => hq ⟨i + 1, hlt⟩ ac w' (by simp only; omega) ?_)
    show At (mkE Try.prog Try.f68 Q w (InR [] []) (elsewhere [] [] w) (fun _ _ => False) (fun _ => True) [] B68) ⟨[(0, .val (.int .u64 (.nat (s / 2 ^ (i + 1))))), (1, .val (.int .u8 (.nat n))), (5, .val (.int .u8 (.nat (i + 1))))], []⟩ ac w'
    rw [hyn]
    exact At.again hf hS (by repeat first | exact trivial | refine ⟨⟨_, rfl, .inl ⟨rfl, rfl⟩⟩, ?_⟩ | refine ⟨⟨_, rfl, .inr ⟨_, rfl, rfl⟩⟩, ?_⟩ | refine ⟨⟨_, rfl, .inr ⟨_, rfl, by simp (disch := omega) [SV.den, SI.den, wrapU, wrapD] <;> omega⟩⟩, ?_⟩) trivial
  · simp only [SB.F, SI.den] at hge
    have hin : i = n := by omega
    refine X.go T68_ok 400 _ rfl Try.results68 ?_
    conv => arg 2; cbv
    refine X.done T68_ok rfl (fun N w' v hN hS hv => ?_)
    rw [hQ]
    refine ⟨fin_bool hv ?_, hS.chg.none⟩
    have h1 : s.testBit n = decide (y % 2 = 1) := by rw [Nat.testBit_eq_decide_div_mod_eq, hy, hin]
    rw [h1]
    refine den_of ?_
    simp only [SB.T, SI.den, decide_eq_true_eq]
    rw [Int.tmod_eq_emod_of_nonneg (by omega)]
    omega

set_option maxHeartbeats 8000000 in
set_option maxRecDepth 100000 in
set_option cbv.maxSteps 100000000 in
theorem others_ok (p p2 : Option Addr) (n c n2 c2 : Nat) (d d2 : Array Int) (w : World) (hle : n ≤ 100000) (hle2 : n2 ≤ 100000) (hA : InB p n d w) (hA2 : InB p2 n2 d2 w) : Calls Try.prog 50 #[.slice p n c, .slice p2 n2 c2] w fun e w' => e = .returned (.int .i64 (othN d.toList d2.toList)) ∧ Chg (fun _ _ => False) w w' := by
  have hn := hA.1
  obtain ⟨Q, hQ⟩ : ∃ Q : Ending → World → Prop, Q = fun e w' => e = .returned (.int .i64 (othN d.toList d2.toList)) ∧ Chg (fun _ _ => False) w w' := ⟨_, rfl⟩
  rw [← hQ]
  refine X.begin (rg := []) (N := []) (ss := [.slv p n c, .slv p2 n2 c2]) Try.func50 rfl B50_ok rfl rfl Sat.std0 ?_
  refine X.go T50_ok 400 _ rfl Try.results50 ?_
  conv => arg 2; cbv
  refine X.loop (fun _ : {i : Nat // i ≤ n} => mkE Try.prog Try.f50 Q w (InR [] []) (elsewhere [] [] w) (fun _ _ => False) (fun _ => True) [] B50)
    (fun g => ⟨[(0, .val (.slv p n c)), (1, .val (.slv p2 n2 c2)), (5, .val (.int .i64 (.nat (othN (d.toList.take g.1) d2.toList)))), (8, .val (.int .i64 (.nat n))), (9, .val (.int .i64 (.nat g.1)))], []⟩) (fun g => n - g.1) (fun _ => ⟨rfl, rfl, rfl, rfl⟩) (fun N ac w' hN hf hS => ⟨⟨0, Nat.zero_le _⟩, ?_⟩) (fun g q hq => ?_)
  · exact At.again hf hS (by repeat first | exact trivial | refine ⟨⟨_, rfl, .inl ⟨rfl, rfl⟩⟩, ?_⟩ | refine ⟨⟨_, rfl, .inr ⟨_, rfl, rfl⟩⟩, ?_⟩ | refine ⟨⟨_, rfl, .inr ⟨_, rfl, by simp (disch := omega) [SV.den, SI.den, wrapU, wrapD] <;> omega⟩⟩, ?_⟩) trivial
  obtain ⟨i, hi⟩ := g
  show X (mkE Try.prog Try.f50 Q w (InR [] []) (elsewhere [] [] w) (fun _ _ => False) (fun _ => True) [] B50) _ ⟨[(0, .val (.slv p n c)), (1, .val (.slv p2 n2 c2)), (5, .val (.int .i64 (.nat (othN (d.toList.take i) d2.toList)))), (8, .val (.int .i64 (.nat n))), (9, .val (.int .i64 (.nat i)))], []⟩
  obtain ⟨k, hk⟩ : ∃ k, k = othN (d.toList.take i) d2.toList := ⟨_, rfl⟩
  have hk8 : k ≤ 100000 := by rw [hk]; exact Nat.le_trans List.countP_le_length (by simp; omega)
  rw [← hk]
  refine X.go T50_ok 400 _ rfl Try.results50 ?_
  conv => arg 2; cbv
  refine X.cond rfl (fun hlt => ?_) (fun hge => ?_)
  · simp only [SB.T, SI.den] at hlt
    have hlt : i < n := by omega
    obtain ⟨b, y, hp, hd⟩ := hA.2 (by omega)
    obtain ⟨x, hx⟩ : ∃ x, x = d[i]! := ⟨_, rfl⟩
    have hxl : d.toList[i]! = x := by rw [hx, getElem!_pos d i (by omega), getElem!_pos d.toList i (by simp; omega)]; simp
    obtain ⟨oi, hoi⟩ : ∃ o, o = y + i := ⟨_, rfl⟩
    have hix : elsewhere [] [] w b (oi + 0) = some (.int .u8 x) := by rw [Nat.add_zero, els_old, hoi, hx]; exact hd i (by omega)
    have hxm : x ∈ d.toList := by rw [← hxl, getElem!_pos d.toList i (by simp; omega)]; exact List.getElem_mem _
    have hst : othN (d.toList.take (i + 1)) d2.toList = k + if decide (x ∉ d2.toList) = true then 1 else 0 := by unfold othN; rw [countP_take (by simp; omega), hxl, hk]; rfl
    obtain ⟨hb, hhb⟩ : ∃ b : Bool, b = (decide (x ∈ d2.toList)) := ⟨_, rfl⟩
    refine X.goP ([(15, .ext b oi 0), (16, .int .u8 (.v x)), (17, .bool (.v hb))]) T50_ok 400 _ rfl Try.results50 (fun pr fin hpr hfin => ?_)
    conv => cbv
    refine ⟨hpr _ (.of Try.call54 [.slice p2 n2 c2, .int .u8 x] (.bool hb) (fun _ => rfl) (fun _ => rfl) fun _ w1 him => by rw [hhb]; exact has10_ok p2 n2 c2 d2 x w1 hle2 ⟨hA2.1, fun h0 => by obtain ⟨b', y', h1, h2⟩ := hA2.2 h0; exact ⟨b', y', h1, fun j hj => him _ _ _ (by show elsewhere [] [] w b' (y' + j) = _; rw [els_old]; exact h2 j hj)⟩⟩), hpr _ (ValOk.im1 rfl Try.isAgg5 (fun _ => rfl) fun _ => hix), hpr _ (ValOk.at (z := i) rfl rfl (fun _ => rfl) Try.underlying22 Try.sizeOf5 (fun _ => hlt) hp (by omega)), hfin _ _ ?_⟩
    refine X.cond rfl (fun hT => ?_) (fun hF => ?_)
    · simp only [SB.T, SB.F] at hT
      rw [if_pos (by rw [hhb] at hT; simpa using hT)] at hst
      refine X.go T50_ok 400 _ rfl Try.results50 ?_
      conv => arg 2; cbv
      refine X.back (fun N ac w' hN hf hS => hq ⟨i + 1, hlt⟩ ac w' (by simp only; omega) ?_)
      show At (mkE Try.prog Try.f50 Q w (InR [] []) (elsewhere [] [] w) (fun _ _ => False) (fun _ => True) [] B50) ⟨[(0, .val (.slv p n c)), (1, .val (.slv p2 n2 c2)), (5, .val (.int .i64 (.nat (othN (d.toList.take (i + 1)) d2.toList)))), (8, .val (.int .i64 (.nat n))), (9, .val (.int .i64 (.nat (i + 1))))], []⟩ ac w'
      rw [hst]
      exact At.again hf hS (by repeat first | exact trivial | refine ⟨⟨_, rfl, .inl ⟨rfl, rfl⟩⟩, ?_⟩ | refine ⟨⟨_, rfl, .inr ⟨_, rfl, rfl⟩⟩, ?_⟩ | refine ⟨⟨_, rfl, .inr ⟨_, rfl, by simp (disch := omega) [SV.den, SI.den, wrapU, wrapD] <;> omega⟩⟩, ?_⟩) trivial
    · simp only [SB.T, SB.F] at hF
      rw [if_neg (by rw [hhb] at hF; simpa using hF), Nat.add_zero] at hst
      refine X.go T50_ok 400 _ rfl Try.results50 ?_
      conv => arg 2; cbv
      refine X.back (fun N ac w' hN hf hS => hq ⟨i + 1, hlt⟩ ac w' (by simp only; omega) ?_)
      show At (mkE Try.prog Try.f50 Q w (InR [] []) (elsewhere [] [] w) (fun _ _ => False) (fun _ => True) [] B50) ⟨[(0, .val (.slv p n c)), (1, .val (.slv p2 n2 c2)), (5, .val (.int .i64 (.nat (othN (d.toList.take (i + 1)) d2.toList)))), (8, .val (.int .i64 (.nat n))), (9, .val (.int .i64 (.nat (i + 1))))], []⟩ ac w'
      rw [hst]
      exact At.again hf hS (by repeat first | exact trivial | refine ⟨⟨_, rfl, .inl ⟨rfl, rfl⟩⟩, ?_⟩ | refine ⟨⟨_, rfl, .inr ⟨_, rfl, rfl⟩⟩, ?_⟩ | refine ⟨⟨_, rfl, .inr ⟨_, rfl, by simp (disch := omega) [SV.den, SI.den, wrapU, wrapD] <;> omega⟩⟩, ?_⟩) trivial
  · simp only [SB.F, SI.den] at hge
    have hall : d.toList.take i = d.toList := List.take_of_length_le (by simp; omega)
    refine X.go T50_ok 400 _ rfl Try.results50 ?_
    conv => arg 2; cbv
    refine X.done T50_ok rfl (fun N w' v hN hS hv => ?_)
    rw [hQ]
    exact ⟨fin_int hv (by rw [hall] at hk; rw [← hk]; rfl), hS.chg.none⟩

set_option maxHeartbeats 8000000 in
set_option maxRecDepth 100000 in
set_option cbv.maxSteps 100000000 in
theorem count_ok (p : Option Addr) (n c s : Nat) (d : Array Int) (w : World) (hle : n ≤ 100000) (hs : s < 2 ^ 64) (hA : InB p n d w) (hb8 : ∀ x ∈ d.toList, 0 ≤ x ∧ x < 256) : Calls Try.prog 52 #[.slice p n c, .int .u64 s] w fun e w' => e = .returned (.int .i64 (cntN d.toList s)) ∧ Chg (fun _ _ => False) w w' := by
  have hn := hA.1
  obtain ⟨Q, hQ⟩ : ∃ Q : Ending → World → Prop, Q = fun e w' => e = .returned (.int .i64 (cntN d.toList s)) ∧ Chg (fun _ _ => False) w w' := ⟨_, rfl⟩
  rw [← hQ]
  refine X.begin (rg := []) (N := []) (ss := [.slv p n c, .int .u64 (.nat s)]) Try.func52 rfl B52_ok rfl rfl Sat.std0 ?_
  refine X.go T52_ok 400 _ rfl Try.results52 ?_
  conv => arg 2; cbv
  refine X.loop (fun _ : {i : Nat // i ≤ n} => mkE Try.prog Try.f52 Q w (InR [] []) (elsewhere [] [] w) (fun _ _ => False) (fun _ => True) [] B52)
    (fun g => ⟨[(0, .val (.slv p n c)), (1, .val (.int .u64 (.nat s))), (5, .val (.int .i64 (.nat (cntN (d.toList.take g.1) s)))), (8, .val (.int .i64 (.nat n))), (9, .val (.int .i64 (.nat g.1)))], []⟩) (fun g => n - g.1) (fun _ => ⟨rfl, rfl, rfl, rfl⟩) (fun N ac w' hN hf hS => ⟨⟨0, Nat.zero_le _⟩, ?_⟩) (fun g q hq => ?_)
  · exact At.again hf hS (by repeat first | exact trivial | refine ⟨⟨_, rfl, .inl ⟨rfl, rfl⟩⟩, ?_⟩ | refine ⟨⟨_, rfl, .inr ⟨_, rfl, rfl⟩⟩, ?_⟩ | refine ⟨⟨_, rfl, .inr ⟨_, rfl, by simp (disch := omega) [SV.den, SI.den, wrapU, wrapD] <;> omega⟩⟩, ?_⟩) trivial
  obtain ⟨i, hi⟩ := g
  show X (mkE Try.prog Try.f52 Q w (InR [] []) (elsewhere [] [] w) (fun _ _ => False) (fun _ => True) [] B52) _ ⟨[(0, .val (.slv p n c)), (1, .val (.int .u64 (.nat s))), (5, .val (.int .i64 (.nat (cntN (d.toList.take i) s)))), (8, .val (.int .i64 (.nat n))), (9, .val (.int .i64 (.nat i)))], []⟩
  obtain ⟨k, hk⟩ : ∃ k, k = cntN (d.toList.take i) s := ⟨_, rfl⟩
  have hk8 : k ≤ 100000 := by rw [hk]; exact Nat.le_trans List.countP_le_length (by simp; omega)
  rw [← hk]
  refine X.go T52_ok 400 _ rfl Try.results52 ?_
  conv => arg 2; cbv
  refine X.cond rfl (fun hlt => ?_) (fun hge => ?_)
  · simp only [SB.T, SI.den] at hlt
    have hlt : i < n := by omega
    obtain ⟨b, y, hp, hd⟩ := hA.2 (by omega)
    obtain ⟨x, hx⟩ : ∃ x, x = d[i]! := ⟨_, rfl⟩
    have hxl : d.toList[i]! = x := by rw [hx, getElem!_pos d i (by omega), getElem!_pos d.toList i (by simp; omega)]; simp
    obtain ⟨oi, hoi⟩ : ∃ o, o = y + i := ⟨_, rfl⟩
    have hix : elsewhere [] [] w b (oi + 0) = some (.int .u8 x) := by rw [Nat.add_zero, els_old, hoi, hx]; exact hd i (by omega)
    have hxm : x ∈ d.toList := by rw [← hxl, getElem!_pos d.toList i (by simp; omega)]; exact List.getElem_mem _
    have hst : cntN (d.toList.take (i + 1)) s = k + if s.testBit x.toNat = true then 1 else 0 := by unfold cntN; rw [countP_take (by simp; omega), hxl, hk]; rfl
    obtain ⟨hb, hhb⟩ : ∃ b : Bool, b = (s.testBit x.toNat) := ⟨_, rfl⟩
    refine X.goP ([(15, .ext b oi 0), (16, .int .u8 (.v x)), (17, .bool (.v hb))]) T52_ok 400 _ rfl Try.results52 (fun pr fin hpr hfin => ?_)
    conv => cbv
    refine ⟨hpr _ (.of Try.call68 [.int .u64 s, .int .u8 x] (.bool hb) (fun _ => rfl) (fun _ => rfl) fun _ w1 _ => by obtain ⟨xn, hxn, hx8⟩ := byteN (hb8 x hxm); rw [hhb, hxn]; exact bit_ok s xn w1 hs hx8), hpr _ (ValOk.im1 rfl Try.isAgg5 (fun _ => rfl) fun _ => hix), hpr _ (ValOk.at (z := i) rfl rfl (fun _ => rfl) Try.underlying22 Try.sizeOf5 (fun _ => hlt) hp (by omega)), hfin _ _ ?_⟩
    refine X.cond rfl (fun hT => ?_) (fun hF => ?_)
    · simp only [SB.T, SB.F] at hT
      rw [if_pos (by rw [hhb] at hT; exact hT)] at hst
      refine X.go T52_ok 400 _ rfl Try.results52 ?_
      conv => arg 2; cbv
      refine X.back (fun N ac w' hN hf hS => hq ⟨i + 1, hlt⟩ ac w' (by simp only; omega) ?_)
      show At (mkE Try.prog Try.f52 Q w (InR [] []) (elsewhere [] [] w) (fun _ _ => False) (fun _ => True) [] B52) ⟨[(0, .val (.slv p n c)), (1, .val (.int .u64 (.nat s))), (5, .val (.int .i64 (.nat (cntN (d.toList.take (i + 1)) s)))), (8, .val (.int .i64 (.nat n))), (9, .val (.int .i64 (.nat (i + 1))))], []⟩ ac w'
      rw [hst]
      exact At.again hf hS (by repeat first | exact trivial | refine ⟨⟨_, rfl, .inl ⟨rfl, rfl⟩⟩, ?_⟩ | refine ⟨⟨_, rfl, .inr ⟨_, rfl, rfl⟩⟩, ?_⟩ | refine ⟨⟨_, rfl, .inr ⟨_, rfl, by simp (disch := omega) [SV.den, SI.den, wrapU, wrapD] <;> omega⟩⟩, ?_⟩) trivial
    · simp only [SB.T, SB.F] at hF
      rw [if_neg (by rw [hhb] at hF; simpa using hF), Nat.add_zero] at hst
      refine X.go T52_ok 400 _ rfl Try.results52 ?_
      conv => arg 2; cbv
      refine X.back (fun N ac w' hN hf hS => hq ⟨i + 1, hlt⟩ ac w' (by simp only; omega) ?_)
      show At (mkE Try.prog Try.f52 Q w (InR [] []) (elsewhere [] [] w) (fun _ _ => False) (fun _ => True) [] B52) ⟨[(0, .val (.slv p n c)), (1, .val (.int .u64 (.nat s))), (5, .val (.int .i64 (.nat (cntN (d.toList.take (i + 1)) s)))), (8, .val (.int .i64 (.nat n))), (9, .val (.int .i64 (.nat (i + 1))))], []⟩ ac w'
      rw [hst]
      exact At.again hf hS (by repeat first | exact trivial | refine ⟨⟨_, rfl, .inl ⟨rfl, rfl⟩⟩, ?_⟩ | refine ⟨⟨_, rfl, .inr ⟨_, rfl, rfl⟩⟩, ?_⟩ | refine ⟨⟨_, rfl, .inr ⟨_, rfl, by simp (disch := omega) [SV.den, SI.den, wrapU, wrapD] <;> omega⟩⟩, ?_⟩) trivial
  · simp only [SB.F, SI.den] at hge
    have hall : d.toList.take i = d.toList := List.take_of_length_le (by simp; omega)
    refine X.go T52_ok 400 _ rfl Try.results52 ?_
    conv => arg 2; cbv
    refine X.done T52_ok rfl (fun N w' v hN hS hv => ?_)
    rw [hQ]
    exact ⟨fin_int hv (by rw [hall] at hk; rw [← hk]; rfl), hS.chg.none⟩

end Go.Proofs.Ythaffebapmkppaa
