/- Configurations: sets and counts of nodes. -/
import Derived.Test.YthaffebapmkppaaCf2

namespace Go.Proofs.Ythaffebapmkppaa
open Go Go.Eng Go.Sort

/-- nodes, as bits -/
def setS (s : Nat) (x : Int) : Nat := if x < 64 then s ||| 2 ^ x.toNat else s
def setN (l : List Int) : Nat := l.foldl setS 0
theorem setN_lt : ∀ (l : List Int) (s : Nat), s < 2 ^ 64 → l.foldl setS s < 2 ^ 64
  | [], _, h => h
  | x :: l, s, h => by
    rw [List.foldl_cons]
    refine setN_lt l _ ?_
    unfold setS
    split
    · exact Nat.or_lt_two_pow h (Nat.pow_lt_pow_right (by decide) (by omega))
    · exact h
def othN (l m : List Int) : Nat := l.countP fun x => decide (x ∉ m)
def cntN (l : List Int) (s : Nat) : Nat := l.countP fun x => s.testBit x.toNat
theorem vk_shl1 {E : Env} {N0 : Nums} {rg : List Rg} {f : Fr} {g : GK} {t ty : TypeId} {x y : Operand} {ka kb : IntKind} {a b : SI} {n : Nat} (hx : evK f g x = some (.int ka a)) (hy : evK f g y = some (.int kb b)) (ha : a.den = 1) (hk : ka = .u64) (hz : g.T → b.den = (n : Int)) (hn : n < 64) : ValOk E N0 rg f g (.binOp .shl t x y ty) (.int .u64 (.nat (2 ^ n))) := by
  intro ht N ρ o w hN0 hop hρ hV
  have h1 := hρ _ _ hx
  have h2 := hρ _ _ hy
  simp only [SV.den, Option.some.injEq] at h1 h2
  subst hk
  have hb := hz ht
  rw [ha] at h1
  rw [hb] at h2
  refine ⟨.int .u64 ((2 ^ n : Nat) : Int), rfl, fun w' _ => ?_⟩
  have h3 : (do eqGuard .shl t x y (ρ x) (ρ y); binOp .shl t (ρ x) (ρ y) : Sem Value).run E.P w' = .ok (.int .u64 ((2 ^ n : Nat) : Int)) w' := by
    rw [← h1, ← h2]
    simp only [Sem.run_bind]
    rw [eqGuard_none _ _ _ _ (by simp) (by simp)]
    have hw : IntKind.u64.wrap (1 * 2 ^ min (n : Int).toNat IntKind.u64.bits) = ((2 ^ n : Nat) : Int) := by
      have e : min (n : Int).toNat IntKind.u64.bits = n := by simp [IntKind.bits]; omega
      rw [e, Int.one_mul, show ((2 : Int) ^ n) = ((2 ^ n : Nat) : Int) by simp]
      exact wrapU64 _ (by have := Nat.pow_lt_pow_right (a := 2) (by decide) hn; simpa using this)
    have hnn : ¬ (n : Int) < 0 := by omega
    simp only [Result.andThen, binOp, Op.shift]
    rw [if_neg hnn, hw]
    rfl
  simp only [execOp, hop]
  rw [Sem.run_bind, h3]
  rfl

set_option maxHeartbeats 8000000 in
set_option maxRecDepth 100000 in
set_option cbv.maxSteps 100000000 in
theorem set_ok (p : Option Addr) (n c : Nat) (d : Array Int) (w : World) (hle : n ≤ 100000) (hA : InB p n d w) (hb : ∀ x ∈ d.toList, 0 ≤ x ∧ x < 256) : Calls Try.prog 49 #[.slice p n c] w fun e w' => e = .returned (.int .u64 (setN d.toList)) ∧ Chg (fun _ _ => False) w w' := by
  have hn := hA.1
  obtain ⟨Q, hQ⟩ : ∃ Q : Ending → World → Prop, Q = fun e w' => e = .returned (.int .u64 (setN d.toList)) ∧ Chg (fun _ _ => False) w w' := ⟨_, rfl⟩
  rw [← hQ]
  refine X.begin (rg := []) (N := []) (ss := [.slv p n c]) Try.func49 rfl B49_ok rfl rfl Sat.std0 ?_
  refine X.go T49_ok 400 _ rfl Try.results49 ?_
  conv => arg 2; cbv
  refine X.loop (fun _ : {i : Nat // i ≤ n} => mkE Try.prog Try.f49 Q w (InR [] []) (elsewhere [] [] w) (fun _ _ => False) (fun _ => True) [] B49)
    (fun g => ⟨[(3, .val (.int .u64 (.nat (setN (d.toList.take g.1))))), (6, .val (.slv p n c)), (7, .val (.int .i64 (.nat n))), (8, .val (.int .i64 (.nat g.1)))], []⟩) (fun g => n - g.1) (fun _ => ⟨rfl, rfl, rfl, rfl⟩) (fun N ac w' hN hf hS => ⟨⟨0, Nat.zero_le _⟩, ?_⟩) (fun g q hq => ?_)
  · exact At.again hf hS (by repeat first | exact trivial | refine ⟨⟨_, rfl, .inl ⟨rfl, rfl⟩⟩, ?_⟩ | refine ⟨⟨_, rfl, .inr ⟨_, rfl, rfl⟩⟩, ?_⟩ | refine ⟨⟨_, rfl, .inr ⟨_, rfl, by simp (disch := omega) [SV.den, SI.den, wrapU, wrapD] <;> omega⟩⟩, ?_⟩) trivial
  obtain ⟨i, hi⟩ := g
  show X (mkE Try.prog Try.f49 Q w (InR [] []) (elsewhere [] [] w) (fun _ _ => False) (fun _ => True) [] B49) _ ⟨[(3, .val (.int .u64 (.nat (setN (d.toList.take i))))), (6, .val (.slv p n c)), (7, .val (.int .i64 (.nat n))), (8, .val (.int .i64 (.nat i)))], []⟩
  obtain ⟨s, hs⟩ : ∃ s, s = setN (d.toList.take i) := ⟨_, rfl⟩
  have hs8 : s < 2 ^ 64 := by rw [hs]; exact setN_lt _ 0 (by decide)
  rw [← hs]
  refine X.go T49_ok 400 _ rfl Try.results49 ?_
  conv => arg 2; cbv
  refine X.cond rfl (fun hlt => ?_) (fun hge => ?_)
  · simp only [SB.T, SI.den] at hlt
    have hlt : i < n := by omega
    obtain ⟨b, y, hp, hd⟩ := hA.2 (by omega)
    obtain ⟨x, hx⟩ : ∃ x, x = d[i]! := ⟨_, rfl⟩
    have hxl : d.toList[i]! = x := by rw [hx, getElem!_pos d i (by omega), getElem!_pos d.toList i (by simp; omega)]; simp
    obtain ⟨oi, hoi⟩ : ∃ o, o = y + i := ⟨_, rfl⟩
    have hix : elsewhere [] [] w b (oi + 0) = some (.int .u8 x) := by rw [Nat.add_zero, els_old, hoi, hx]; exact hd i (by omega)
    have hxm : x ∈ d.toList := by rw [← hxl, getElem!_pos d.toList i (by simp; omega)]; exact List.getElem_mem _
    have hst : setN (d.toList.take (i + 1)) = setS s x := by unfold setN; rw [foldl_take _ _ (by simp; omega), hxl, hs]; rfl
    refine X.goP ([(10, .ext b oi 0), (11, .int .u8 (.v x))]) T49_ok 400 _ rfl Try.results49 (fun pr fin hpr hfin => ?_)
    conv => cbv
    refine ⟨hpr _ (ValOk.im1 rfl Try.isAgg5 (fun _ => rfl) fun _ => hix), hpr _ (ValOk.at (z := i) rfl rfl (fun _ => rfl) Try.underlying22 Try.sizeOf5 (fun _ => hlt) hp (by omega)), hfin _ _ ?_⟩
    refine X.cond rfl (fun hT => ?_) (fun hF => ?_)
    · simp only [SB.T, SI.den] at hT
      obtain ⟨xn, hxn, _⟩ := byteN (hb x hxm)
      have hx64 : xn < 64 := by omega
      have hp2 : 2 ^ xn < 2 ^ 64 := Nat.pow_lt_pow_right (by decide) hx64
      obtain ⟨t2, ht2⟩ : ∃ t, t = 2 ^ xn := ⟨_, rfl⟩
      have hst2 : setS s x = s ||| t2 := by unfold setS; rw [if_pos hT, hxn, ht2]; simp
      have hor := bits_or s t2 hs8 (by rw [ht2]; exact hp2)
      refine X.goP ([(16, .int .u64 (.nat t2))]) T49_ok 400 _ rfl Try.results49 (fun pr fin hpr hfin => ?_)
      conv => cbv
      refine ⟨hpr _ (by rw [ht2]; exact vk_shl1 rfl rfl rfl rfl (fun _ => hxn) hx64), hfin _ _ ?_⟩
      refine X.reval 3 (.int .u64 (.nat (s ||| t2))) rfl (fun N _ v hv => by rw [← hv]; simp only [SV.den, SI.den, hor]) ?_
      refine X.back (fun N ac w' hN hf hS => hq ⟨i + 1, hlt⟩ ac w' (by simp only; omega) ?_)
      show At (mkE Try.prog Try.f49 Q w (InR [] []) (elsewhere [] [] w) (fun _ _ => False) (fun _ => True) [] B49) ⟨[(3, .val (.int .u64 (.nat (setN (d.toList.take (i + 1)))))), (6, .val (.slv p n c)), (7, .val (.int .i64 (.nat n))), (8, .val (.int .i64 (.nat (i + 1))))], []⟩ ac w'
      rw [hst, hst2]
      exact At.again hf hS (by repeat first | exact trivial | refine ⟨⟨_, rfl, .inl ⟨rfl, rfl⟩⟩, ?_⟩ | refine ⟨⟨_, rfl, .inr ⟨_, rfl, rfl⟩⟩, ?_⟩ | refine ⟨⟨_, rfl, .inr ⟨_, rfl, by simp (disch := omega) [SV.den, SI.den, wrapU, wrapD] <;> omega⟩⟩, ?_⟩) trivial
    · simp only [SB.F, SI.den] at hF
      have hst2 : setS s x = s := by unfold setS; rw [if_neg (by omega)]
      refine X.go T49_ok 400 _ rfl Try.results49 ?_
      conv => arg 2; cbv
      refine X.back (fun N ac w' hN hf hS => hq ⟨i + 1, hlt⟩ ac w' (by simp only; omega) ?_)
      show At (mkE Try.prog Try.f49 Q w (InR [] []) (elsewhere [] [] w) (fun _ _ => False) (fun _ => True) [] B49) ⟨[(3, .val (.int .u64 (.nat (setN (d.toList.take (i + 1)))))), (6, .val (.slv p n c)), (7, .val (.int .i64 (.nat n))), (8, .val (.int .i64 (.nat (i + 1))))], []⟩ ac w'
      rw [hst, hst2]
      exact At.again hf hS (by repeat first | exact trivial | refine ⟨⟨_, rfl, .inl ⟨rfl, rfl⟩⟩, ?_⟩ | refine ⟨⟨_, rfl, .inr ⟨_, rfl, rfl⟩⟩, ?_⟩ | refine ⟨⟨_, rfl, .inr ⟨_, rfl, by simp (disch := omega) [SV.den, SI.den, wrapU, wrapD] <;> omega⟩⟩, ?_⟩) trivial
  · simp only [SB.F, SI.den] at hge
    have hall : d.toList.take i = d.toList := List.take_of_length_le (by simp; omega)
    refine X.go T49_ok 400 _ rfl Try.results49 ?_
    conv => arg 2; cbv
    refine X.done T49_ok rfl (fun N w' v hN hS hv => ?_)
    rw [hQ]
    exact ⟨fin_int hv (by rw [← hall, ← hs]; rfl), hS.chg.none⟩

end Go.Proofs.Ythaffebapmkppaa
