/- Configurations: the law ConfQuorums. -/
import Derived.Test.YthaffebapmkppaaCf9

namespace Go.Proofs.Ythaffebapmkppaa
open Go Go.Eng Go.Sort

theorem goodR_eqb2 {P : Program} {n : Nat} {ops : Array Oper} {N0 : Nums} {j d x y t : Nat} {u : Bool} {sb : SB} (hop : ∀ o, nth ops.toList j = some o → o.op = .binOp .eql t (.tmp x) (.tmp y) t) (hu : P.underlying t = some .bool) (hd : sb.den = u) :
    ValR.good P n ops N0 ⟨j, d, .bool (.lit true), fun _ f => ev f (.tmp x) = some (.bool (.v u)) ∧ ev f (.tmp y) = some (.bool sb)⟩ := by
  intro rg f ⟨hx, hy⟩ N a o w hN ho hfr hV
  refine ⟨_, rfl, fun w' _ => ?_⟩
  have h1 := ev_sound hfr hx
  have h2 := ev_sound hfr hy
  simp only [SV.den, hd, Option.some.injEq] at h2
  simp only [SV.den, SB.den, Option.some.injEq] at h1
  have hb' : ∀ w', (binOp .eql t (.bool u) (.bool u)).run P w' = .ok (.bool true) w' := fun w' => by
    have e2 : (Op.equal t (.bool u) (.bool u)).run P w' = .ok true w' := run_equalIn_bool 9999 hu u
    simp [binOp, e2, Result.andThen]
  simp [execOp, hop o ho, ← h1, ← h2, Result.andThen, eqGuard_none, hb', SB.den]

set_option maxHeartbeats 8000000 in
set_option maxRecDepth 100000 in
set_option cbv.maxSteps 100000000 in
theorem quorums_ok (C s : Nat) (po pn : Option Addr) (no nn co cn : Nat) (o n : Array Int) (key : Int) (w : World) (hs : s < 2 ^ 64) (ho : InB po no o w) (hn : InB pn nn n w) (hbo : ∀ x ∈ o.toList, 0 ≤ x ∧ x < 256) (hbn : ∀ x ∈ n.toList, 0 ≤ x ∧ x < 256) :
    Calls Try.prog 7 #[.agg #[.int .u64 C, .slice po no co, .slice pn nn cn], .int .u8 key, .int .u64 s] w fun e w' => e = .returned (.bool true) ∧ Chg (fun _ _ => False) w w' := by
  refine X.begin (rg := []) (N := []) (ss := [.agg [.int .u64 (.nat C), .slv po no co, .slv pn nn cn], .int .u8 (.v key), .int .u64 (.nat s)]) Try.func7 rfl B7_ok rfl rfl Sat.std0 ?_
  by_cases hg : 80 < no ∨ 80 < nn
  · skip
    refine X.goP ([(8, .bool (.lit true)), (9, .bool (.lit true))]) T7_ok 400 _ rfl Try.results7 (fun pr fin hpr hfin => ?_)
    conv => cbv
    refine ⟨hpr _ (.of Try.call22 [] (.bool true) (fun _ => rfl) (fun _ => rfl) fun _ w1 him => awake10_ok w1), hpr _ (.of Try.call21 [.agg #[.int .u64 C, .slice po no co, .slice pn nn cn]] (.bool true) (fun _ => rfl) (fun _ => rfl) fun _ w1 him => by rw [← decide_eq_true hg]; exact great10_ok C po pn no nn co cn w1), hfin _ _ ?_⟩
    exact X.done T7_ok rfl (fun N w' v hN hS hv => ⟨fin_bool hv rfl, hS.chg.none⟩)
  have hno : no ≤ 100 := by omega
  have hnn : nn ≤ 100 := by omega
  refine X.goP ([(8, .bool (.lit false))]) T7_ok 14 _ rfl Try.results7 (fun pr fin hpr hfin => ?_)
  conv => cbv
  refine ⟨hpr _ (.of Try.call21 [.agg #[.int .u64 C, .slice po no co, .slice pn nn cn]] (.bool false) (fun _ => rfl) (fun _ => rfl) fun _ w1 him => by rw [← decide_eq_false hg]; exact great10_ok C po pn no nn co cn w1), hfin _ _ ?_⟩
  clear hpr hfin
  obtain ⟨Q, hQ⟩ : ∃ Q : Ending → World → Prop, Q = fun e w' => e = .returned (.bool true) ∧ Chg (fun _ _ => False) w w' := ⟨_, rfl⟩
  obtain ⟨im, him0⟩ : ∃ im, im = elsewhere [] [] w := ⟨_, rfl⟩
  show X (mkE Try.prog Try.f7 (fun e w' => e = .returned (.bool true) ∧ Chg (fun _ _ => False) w w') w (InR [] []) (elsewhere [] [] w) (fun _ _ => False) (fun _ => True) [] B7) _ _
  rw [← hQ, ← him0]
  have hoM : ∀ w' : World, (∀ k o v, im k o = some v → w'.cell? ⟨k, o, none⟩ = some v) → InB po no o w' := fun w' h => ho.im fun k o v hv => h _ _ _ (by rw [him0]; exact hv)
  have hnM : ∀ w' : World, (∀ k o v, im k o = some v → w'.cell? ⟨k, o, none⟩ = some v) → InB pn nn n w' := fun w' h => hn.im fun k o v hv => h _ _ _ (by rw [him0]; exact hv)
  obtain ⟨K, hK⟩ : ∃ K, K = keepC C o n key := ⟨_, rfl⟩
  obtain ⟨q, hq⟩ : ∃ q, q = K.length := ⟨_, rfl⟩
  obtain ⟨ck, hck⟩ : ∃ c, c = bytL K := ⟨_, rfl⟩
  obtain ⟨vk, hvk⟩ : ∃ v, v = gV 1 q 1 := ⟨_, rfl⟩
  obtain ⟨sk, hsk⟩ : ∃ s, s = strOfNums K := ⟨_, rfl⟩
  obtain ⟨mb, hmb⟩ : ∃ b, b = B (mayC C o n) := ⟨_, rfl⟩
  obtain ⟨bt, hbt⟩ : ∃ b, b = decide (C % 2 = 1) := ⟨_, rfl⟩
  obtain ⟨qb, hqb⟩ : ∃ b, b = B (quoC C o n key s) := ⟨_, rfl⟩
  obtain ⟨ab, hab⟩ : ∃ b, b = B (allC C o n key s) := ⟨_, rfl⟩
  refine X.drawnD (fn := Try.f7) T7_ok
    (orC (callAny 1 23 60 _ (fun _ => .bool (.v mb)) [] (fun s x => x = [.agg [.int .u64 (.nat C), .slv po no co, .slv pn nn cn]]))
    (orC (callAny 3 24 60 _ (fun _ => .bool (.v mb)) [] (fun s x => x = [.agg [.int .u64 (.nat C), .slv po no co, .slv pn nn cn]]))
    (orC (callAny 7 25 60 _ (fun _ => .bool (.v bt)) [] (fun s x => x = [.agg [.int .u64 (.nat C), .slv po no co, .slv pn nn cn]]))
    (orC (callAny 18 26 60 _ (fun _ => .bool (.v qb)) [] (fun _ x => x = [.agg [.int .u64 (.nat C), .slv po no co, .slv pn nn cn], .int .u8 (.v key), .int .u64 (.nat s)]))
    (orC (callAny 22 27 60 _ (fun _ => .bool (.v qb)) [] (fun _ x => x = [.agg [.int .u64 (.nat C), .slv po no co, .slv pn nn cn], .int .u8 (.v key), .int .u64 (.nat s)]))
    (orC (callAny 29 28 60 _ (fun _ => .bool (.v ab)) [] (fun _ x => x = [.agg [.int .u64 (.nat C), .slv po no co, .slv pn nn cn], .int .u8 (.v key), .int .u64 (.nat s)]))
    (orC (callAny 33 29 60 _ (fun _ => .bool (.v ab)) [] (fun _ x => x = [.agg [.int .u64 (.nat C), .slv po no co, .slv pn nn cn], .int .u8 (.v key), .int .u64 (.nat s)]))
    (orC (callAny 39 30 60 _ (fun _ => vk) [⟨false, ck, none⟩] (fun s x => x = [.agg [.int .u64 (.nat C), .slv po no co, .slv pn nn cn], .int .u8 (.v key)] ∧ s.rg.length = 1))
    (orC (callAny 43 31 60 _ (fun r => .osl r 0 q 1 none) [⟨false, ck, none⟩] (fun s x => x = [.agg [.int .u64 (.nat C), .slv po no co, .slv pn nn cn], .int .u8 (.v key)]))
    (callAny 48 22 60 _ (fun _ => .bool (.lit true)) [] (fun _ x => x = [])))))))))))
    (valR 60 _ [⟨4, 14, .bool (.lit true), fun _ f => ev f (.tmp 11) = some (.bool (.v mb)) ∧ ev f (.tmp 13) = some (.bool (.v mb))⟩,
      ⟨12, 22, .bool (.lit true), fun _ f => ev f (.tmp 17) = some (.bool (.v bt)) ∧ ev f (.tmp 21) = some (.bool (.eq (.rem (.nat C) (.lit 2)) (.lit 1)))⟩,
      ⟨23, 33, .bool (.lit true), fun _ f => ev f (.tmp 28) = some (.bool (.v qb)) ∧ ev f (.tmp 32) = some (.bool (.v qb))⟩,
      ⟨34, 44, .bool (.lit true), fun _ f => ev f (.tmp 39) = some (.bool (.v ab)) ∧ ev f (.tmp 43) = some (.bool (.v ab))⟩,
      ⟨40, 50, .raw (.string sk), fun rg f => ev f (.tmp 49) = some vk ∧ nth rg 1 = some ⟨false, ck, none⟩⟩,
      ⟨44, 54, .raw (.string sk), fun rg f => ev f (.tmp 53) = some (.osl 2 0 q 1 none) ∧ nth rg 2 = some ⟨false, ck, none⟩⟩,
      ⟨45, 55, .bool (.lit true), fun _ f => ev f (.tmp 50) = some (.raw (.string sk)) ∧ ev f (.tmp 54) = some (.raw (.string sk))⟩]) rfl
    (orC_ok (callAny_ok Try.call23 (fun s x hp E N w1 args hP _ him hS ha => ?_)) (orC_ok (callAny_ok Try.call24 (fun s x hp E N w1 args hP _ him hS ha => ?_)) (orC_ok (callAny_ok Try.call25 (fun s x hp E N w1 args hP _ him hS ha => ?_))
      (orC_ok (callAny_ok Try.call26 (fun _ x hp E N w1 args hP _ him hS ha => ?_)) (orC_ok (callAny_ok Try.call27 (fun _ x hp E N w1 args hP _ him hS ha => ?_)) (orC_ok (callAny_ok Try.call28 (fun _ x hp E N w1 args hP _ him hS ha => ?_)) (orC_ok (callAny_ok Try.call29 (fun _ x hp E N w1 args hP _ him hS ha => ?_))
      (orC_ok (callAny_ok Try.call30 (fun s x hp E N w1 args hP _ him hS ha => ?_)) (orC_ok (callAny_ok Try.call31 (fun s x hp E N w1 args hP _ him hS ha => ?_)) (callAny_ok Try.call22 (fun s x hp E N w1 args hP _ him hS ha => ?_)))))))))))
    (valR_ok _ (by kernel_rfl) (fun q' hq' => ?_)) 60 rfl ?_
  · subst hp
    have ha : args = [.agg #[.int .u64 C, .slice po no co, .slice pn nn cn]] := (Option.some.inj ha).symm
    rw [ha]
    refine (cmay_ok C po pn no nn co cn o n w1 (by omega) (by omega) (hoM w1 (by rw [← him]; exact hS.imm)) (hnM w1 (by rw [← him]; exact hS.imm)) hbo hbn).mono fun e w' ⟨he, hch⟩ => ⟨N, _, he, Nums.le.refl N, by rw [hmb]; rfl, ?_⟩
    rw [List.append_nil]
    exact hS.after0 hch
  · subst hp
    have ha : args = [.agg #[.int .u64 C, .slice po no co, .slice pn nn cn]] := (Option.some.inj ha).symm
    rw [ha]
    refine (cmay10_ok C po pn no nn co cn o n w1 (by omega) (by omega) (hoM w1 (by rw [← him]; exact hS.imm)) (hnM w1 (by rw [← him]; exact hS.imm))).mono fun e w' ⟨he, hch⟩ => ⟨N, _, he, Nums.le.refl N, by rw [hmb]; rfl, ?_⟩
    rw [List.append_nil]
    exact hS.after0 hch
  · subst hp
    have ha : args = [.agg #[.int .u64 C, .slice po no co, .slice pn nn cn]] := (Option.some.inj ha).symm
    rw [ha]
    refine (between_ok C _ _ rfl rfl w1).mono fun e w' ⟨he, hch⟩ => ⟨N, _, he, Nums.le.refl N, by rw [hbt]; rfl, ?_⟩
    rw [List.append_nil]
    exact hS.after0 hch
  · subst hp
    have ha : args = [.agg #[.int .u64 C, .slice po no co, .slice pn nn cn], .int .u8 key, .int .u64 s] := (Option.some.inj ha).symm
    rw [ha]
    refine (quorum_ok C s po pn no nn co cn o n key w1 hno hnn hs (hoM w1 (by rw [← him]; exact hS.imm)) (hnM w1 (by rw [← him]; exact hS.imm)) hbo hbn).mono fun e w' ⟨he, hch⟩ => ⟨N, _, he, Nums.le.refl N, by rw [hqb]; rfl, ?_⟩
    rw [List.append_nil]
    exact hS.after0 hch
  · subst hp
    have ha : args = [.agg #[.int .u64 C, .slice po no co, .slice pn nn cn], .int .u8 key, .int .u64 s] := (Option.some.inj ha).symm
    rw [ha]
    refine (quorum10_ok C s po pn no nn co cn o n key w1 hno hnn hs (hoM w1 (by rw [← him]; exact hS.imm)) (hnM w1 (by rw [← him]; exact hS.imm)) hbo hbn).mono fun e w' ⟨he, hch⟩ => ⟨N, _, he, Nums.le.refl N, by rw [hqb]; rfl, ?_⟩
    rw [List.append_nil]
    exact hS.after0 hch
  · subst hp
    have ha : args = [.agg #[.int .u64 C, .slice po no co, .slice pn nn cn], .int .u8 key, .int .u64 s] := (Option.some.inj ha).symm
    rw [ha]
    refine (all_ok C s po pn no nn co cn o n key w1 hno hnn hs (hoM w1 (by rw [← him]; exact hS.imm)) (hnM w1 (by rw [← him]; exact hS.imm)) hbo hbn).mono fun e w' ⟨he, hch⟩ => ⟨N, _, he, Nums.le.refl N, by rw [hab]; rfl, ?_⟩
    rw [List.append_nil]
    exact hS.after0 hch
  · subst hp
    have ha : args = [.agg #[.int .u64 C, .slice po no co, .slice pn nn cn], .int .u8 key, .int .u64 s] := (Option.some.inj ha).symm
    rw [ha]
    refine (all10_ok C s po pn no nn co cn o n key w1 hno hnn hs (hoM w1 (by rw [← him]; exact hS.imm)) (hnM w1 (by rw [← him]; exact hS.imm)) hbo hbn).mono fun e w' ⟨he, hch⟩ => ⟨N, _, he, Nums.le.refl N, by rw [hab]; rfl, ?_⟩
    rw [List.append_nil]
    exact hS.after0 hch
  · obtain ⟨rfl, h2⟩ := hp
    have ha : args = [.agg #[.int .u64 C, .slice po no co, .slice pn nn cn], .int .u8 key] := (Option.some.inj ha).symm
    rw [ha]
    refine (ckeepers_ok C po pn no nn co cn o n key w1 hno hnn (hoM w1 (by rw [← him]; exact hS.imm)) (hnM w1 (by rw [← him]; exact hS.imm)) hbo hbn).mono fun e w' hr => ?_
    rw [← hK] at hr
    have := hr.gsat hS (by omega)
    rw [h2, ← hq, ← hvk, ← hck] at this
    exact this
  · subst hp
    have ha : args = [.agg #[.int .u64 C, .slice po no co, .slice pn nn cn], .int .u8 key] := (Option.some.inj ha).symm
    rw [ha]
    refine (ckeepers10_ok C po pn no nn co cn o n key w1 hno hnn (hoM w1 (by rw [← him]; exact hS.imm)) (hnM w1 (by rw [← him]; exact hS.imm)) hbo hbn).mono fun e w' hr => ?_
    rw [← hK, ← hq, ← hck] at hr
    exact hr.sat (by decide) hS
  · subst hp
    have ha : args = [] := (Option.some.inj ha).symm
    rw [ha]
    refine (awake10_ok w1).mono fun e w' ⟨he, hch⟩ => ⟨N, _, he, Nums.le.refl N, rfl, ?_⟩
    rw [List.append_nil]
    exact hS.after0 hch
  · simp only [List.mem_cons, List.not_mem_nil, or_false] at hq'
    rcases hq' with rfl | rfl | rfl | rfl | rfl | rfl | rfl
    · exact goodR_eqb (fun o ho => by cases ho; rfl) Try.underlying4
    · exact goodR_eqb2 (fun o ho => by cases ho; rfl) Try.underlying4 (by rw [hbt]; simp only [SB.den, SI.den, Int.tmod_eq_emod_of_nonneg (show (0:Int) ≤ C by omega)]; exact decide_eq_decide.2 (by omega))
    · exact goodR_eqb (fun o ho => by cases ho; rfl) Try.underlying4
    · exact goodR_eqb (fun o ho => by cases ho; rfl) Try.underlying4
    · exact goodR_strG (fun o ho => by cases ho; rfl) Try.underlying22 Try.underlying5 Try.underlying9 ck hck hq.symm hsk hvk
    · exact goodR_str1 (fun o ho => by cases ho; rfl) Try.underlying22 Try.underlying5 Try.underlying9 ck hck hq.symm hsk
    · exact goodR_eq1 (fun o ho => by cases ho; rfl)
  generalize hfin : (fun s' => X (mkE Try.prog Try.f7 Q w (InR [] []) im (fun _ _ => False) (fun _ => True) [] B7) _ s') = fin
  conv => cbv
  refine ⟨rfl, ?_⟩
  subst hfin
  show X (mkE Try.prog Try.f7 Q w (InR [] []) im (fun _ _ => False) (fun _ => True) [] B7) _ _
  refine X.go T7_ok 400 _ rfl Try.results7 ?_
  conv => arg 2; cbv
  refine X.done T7_ok rfl (fun N w' v hN hS hv => ?_)
  rw [hQ]
  exact ⟨fin_bool hv rfl, hS.chg.none⟩

end Go.Proofs.Ythaffebapmkppaa
