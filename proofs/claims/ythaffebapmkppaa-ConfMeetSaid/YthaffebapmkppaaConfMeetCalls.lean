/- Configurations: conf.Step. ConfMeet: whatever the arguments. -/
import Derived.Test.YthaffebapmkppaaRg9
import Derived.Test.YthaffebapmkppaaCf18

namespace Go.Proofs.Ythaffebapmkppaa
open Go Go.Eng Go.Sort

/-- a row made since is handed back -/
theorem own_inM {P : Program} {fn : Func} {Q : Ending → World → Prop} {w w' : World} {im : Mem} {D : Nat → Nat → Prop} {Rr : World → Prop} {N0 N : Nums} {B : SchT} {rg : List Rg} {r : Nat} {p : Num} {l : List Int} {M : Mem} {m : Nat} (hS : Sat (mkE P fn Q w (InR [] []) im D Rr N0 B).toEnv N rg w') (hr : rg[r]? = some ⟨true, bytL l, none⟩) (hp : N[r]? = some p) (hm : m = l.length)
    (hM : ∀ k o v, w.heap.size ≤ k → w'.cell? ⟨k, o, none⟩ = some v → M k o = some v) : InM (some ⟨p.b, p.o, none⟩) m l M := ⟨hm, fun h0 => ⟨p.b, p.o, rfl, fun j hj => by
  have hx := hS.ext r _ _ hr hp rfl
  simp only [bytL_len] at hx
  have hb : w.heap.size ≤ p.b := by
    rcases hS.foot r _ _ hr hp rfl with h | h
    · exact h
    · exact absurd (h 0 (by omega)) inR_nil
  have hjl : j < l.length := by omega
  obtain ⟨v, h1, h2⟩ := hS.cell r _ _ hr hp j (.int .u8 (.v l[j]!)) (by simp [bytL, hjl])
  simp only [SV.den, SI.den, Option.some.injEq] at h1
  rw [hM _ _ _ hb h2, ← h1]⟩⟩

set_option maxHeartbeats 8000000 in
set_option maxRecDepth 100000 in
set_option cbv.maxSteps 100000000 in
theorem step_ok (C : Nat) (po pn : Option Addr) (no nn co cn : Nat) (o n : Array Int) (x : Int) (w : World) (hno : no ≤ 100) (hnn : nn ≤ 100) (hx0 : 0 ≤ x) (ho : InB po no o w) (hn : InB pn nn n w) (hbo : ∀ x ∈ o.toList, 0 ≤ x ∧ x < 256) (hbn : ∀ x ∈ n.toList, 0 ≤ x ∧ x < 256) :
    Calls Try.prog 32 #[.agg #[.int .u64 C, .slice po no co, .slice pn nn cn], .int .u8 x] w (StepR pn nn n.toList (stepO C o n x) w) := by
  obtain ⟨Q, hQ⟩ : ∃ Q : Ending → World → Prop, Q = StepR pn nn n.toList (stepO C o n x) w := ⟨_, rfl⟩
  rw [← hQ]
  refine X.begin (rg := []) (N := []) (ss := [.agg [.int .u64 (.nat C), .slv po no co, .slv pn nn cn], .int .u8 (.v x)]) Try.func32 rfl B32_ok rfl rfl Sat.std0 ?_
  obtain ⟨mb, hmb⟩ : ∃ b, b = B (mayC C o n) := ⟨_, rfl⟩
  obtain ⟨ob, hob⟩ : ∃ b, b = decide (C % 2 = 1) := ⟨_, rfl⟩
  refine X.goX ([(10, .bool (.v mb)), (14, .bool (.v ob))]) ([]) T32_ok 400 _ rfl Try.results32 (fun pr pe fin hpr hpe hfin => ?_)
  conv => cbv
  refine ⟨hpr _ (.of Try.call23 [.agg #[.int .u64 C, .slice po no co, .slice pn nn cn]] (.bool mb) (fun _ => rfl) (fun _ => rfl) fun _ w1 him => by rw [hmb]; exact cmay_ok C po pn no nn co cn o n w1 (by omega) (by omega) (ho.im him) (hn.im him) hbo hbn),
    hpr _ (.of Try.call25 [.agg #[.int .u64 C, .slice po no co, .slice pn nn cn]] (.bool ob) (fun _ => rfl) (fun _ => rfl) fun _ w1 him => by rw [hob]; exact between_ok C _ _ rfl rfl w1), hfin _ _ ?_⟩
  clear hpr hpe hfin
  refine X.cond rfl (fun hT => ?_) (fun hF => ?_)
  · simp only [SB.T, SB.F, SI.den] at hT
    have hr : stepO C o n x = (1, 0, [], []) := by
      rw [stepO, if_neg]
      rintro ⟨h1, h2⟩
      rcases hT with h | ⟨h3, h4⟩
      · rw [hmb, B_pos h1] at h; cases h
      · rw [hob] at h3
        have h3 := of_decide_eq_false h3
        exact h2 ⟨by omega, by omega⟩
    refine X.go T32_ok 400 _ rfl Try.results32 ?_
    conv => arg 2; cbv
    refine X.done T32_ok rfl (fun N w' v hN hS hv => ?_)
    rw [hQ, hr]
    exact stepR_err hv hS.chg.none
  simp only [SB.T, SB.F, SI.den] at hF
  have hmay : mayC C o n := B_iff.1 (by rw [← hmb]; exact hF.1)
  have hpre : mayC C o n ∧ ¬ (C % 2 = 0 ∧ 63 < x) := ⟨hmay, fun ⟨h1, h2⟩ => by
    rcases hF.2 with h | h
    · rw [hob] at h
      have h := of_decide_eq_true h
      omega
    · omega⟩
  have hst : stepO C o n x = if C % 2 = 1 then (if 9223372036854775808 ≤ C then (7, 0, [], []) else (0, C + 1, [], n.toList)) else if stT n.toList x 64 = [] then (1, 0, [], []) else if 9223372036854775808 ≤ C then (7, 0, [], []) else (0, C + 1, n.toList, stT n.toList x 64) := by
    rw [stepO, if_pos hpre]
  clear hF
  have hnn0 : 0 < nn := by have := hmay.1; have := hn.1; omega
  obtain ⟨b, y, hpn, hA⟩ := hn.2 hnn0
  obtain ⟨cl, hcl⟩ : ∃ c, c = bytL n.toList := ⟨_, rfl⟩
  have hcl8 : ∀ m, cl.all (bd m) = true := fun m => by rw [hcl]; exact bytL_bd
  have hclone : ∀ (w1 : World) , (∀ k o v, elsewhere [] [] w k o = some v → w1.cell? ⟨k, o, none⟩ = some v) → Calls Try.prog 36 #[.slice pn nn cn] w1 (FreshRet cl nn 1 w1) := fun w1 him => by
    obtain ⟨h1, h2⟩ := hn.im him
    obtain ⟨b', y', e1, h3⟩ := h2 hnn0
    rw [e1, hcl]
    refine cloneF_ok b' y' nn cn n.toList w1 (by simp [h1]) (by omega) (by omega) fun j hj => ?_
    rw [h3 j (by omega), getElem!_pos n j (by omega), getElem!_pos n.toList j (by simp; omega)]
    simp
  refine X.go T32_ok 30 _ rfl Try.results32 ?_
  conv => arg 2; cbv
  refine X.less [1, 2, 4, 5] ?_
  show X (mkE Try.prog Try.f32 Q w (InR [] []) (elsewhere [] [] w) (fun _ _ => False) (fun _ => True) [] B32) _ ⟨[(5, .val (.int .i64 (.lit 0))), (4, .val (.own 1 0)), (2, .val (.own 0 0)), (1, .val (.int .u8 (.v x)))], [⟨true, [.int .u64 (.nat C), .slv po no co, .slv pn nn cn], none⟩, ⟨true, [.int .u64 (.lit 0), .raw (.slice none 0 0), .raw (.slice none 0 0)], none⟩]⟩
  have heff : ∀ {rg : List Rg} {f : Fr} {t : Nat}, ev f (.tmp t) = some (.slv pn nn cn) → EffOk (mkE Try.prog Try.f32 Q w (InR [] []) (elsewhere [] [] w) (fun _ _ => False) (fun _ => True) [] B32).toEnv [] rg f (.call { callee := .value (.func 36), args := #[.tmp t], argTypes := #[22] }) (.osl rg.length 0 nn 1 none) (rg ++ [⟨true, cl, none⟩]) := fun h =>
    EffOk.fresh (l := [.slv pn nn cn]) (by simp [evL, h]) Try.call36 fun N w1 args hN hS ha => by
      simp only [SV.denL, SV.den, Option.some.injEq] at ha
      rw [← ha]
      exact hclone w1 hS.imm
  refine (fun (h : ∀ k, X (mkE Try.prog Try.f32 Q w (InR [] []) (elsewhere [] [] w) (fun _ _ => False) (fun _ => True) [] B32) k ⟨[(6, .val (.own 3 0)), (5, .val (.int .i64 (.lit 0))), (4, .val (.own 1 0)), (2, .val (.own 0 0)), (1, .val (.int .u8 (.v x)))], [⟨true, [.int .u64 (.nat C), .slv po no co, .slv pn nn cn], none⟩, ⟨true, [.int .u64 (.lit 0), .raw (.slice none 0 0), .raw (.slice none 0 0)], none⟩, ⟨true, cl, none⟩, ⟨true, [.int .u64 (.wrap .u64 (.add (.nat C) (.lit 1))), .raw (.slice none 0 0), .osl 2 0 nn 1 none], none⟩]⟩ → X (mkE Try.prog Try.f32 Q w (InR [] []) (elsewhere [] [] w) (fun _ _ => False) (fun _ => True) [] B32) (It.code _ :: k) _) => h _ ?_) (fun k hk => ?_)
  rotate_left
  · skip
    refine X.goTX ([]) ([(27, ⟨fun rg => .osl rg.length 0 nn 1 none, [], [⟨true, cl, none⟩]⟩)]) T32_ok (.q 0 [3, 4, 5, 7] (.q 3 [0, 1, 2, 7] (.q 1 [0, 3, 4, 5, 7] (.q 2 [0, 1, 3, 4, 5, 7] (.q 4 [0, 1, 2, 3, 7] (.two 5 7 (.q 6 [0, 1, 2, 3, 4, 5, 7] (.one 7 (.one 8 (.nil)))) (.one 5 (.q 6 [0, 1, 2, 3, 4, 5, 7] (.one 8 (.nil)))))))))) _ rfl (by kernel_rfl) (by kernel_rfl) (fun pr pe fin hpr hpe hfin => ?_)
    conv => cbv
    refine ⟨⟨hpe _ _ _ _ _ (heff rfl), rfl, rfl, hfin _ ?_⟩, rfl, hpe _ _ _ _ _ (heff rfl), rfl, hfin _ ?_⟩
    · exact X.less [6, 5, 4, 2, 1] hk
    · refine X.less [6, 5, 4, 2, 1] ?_
      refine X.flip (a' := ⟨true, [.int .u64 (.wrap .u64 (.add (.nat C) (.lit 1))), .raw (.slice none 0 0), .osl 2 0 nn 1 none], none⟩) (b' := ⟨true, cl, none⟩) rfl (fun n0 n1 n2 n3 => ?_) ⟨rfl, rfl, rfl, rfl⟩ ⟨rfl, rfl⟩ (fun n0 n1 n2 n3 => ⟨?_, ?_, ?_, ?_⟩) hk
      · exact ⟨rfl, fun _ h => h, rfl, fun _ h => h, rfl, fun _ h => h, rfl, fun _ h => h, rfl, fun _ h => h, trivial⟩
      · exact ⟨fun _ h => h, fun _ h => h, fun _ h => h, trivial⟩
      · exact ⟨fun _ h => h, fun _ h => h, fun _ h => h, trivial⟩
      · exact ⟨fun _ h => h, fun _ h => h, fun _ h => h, trivial⟩
      · exact CellsTo.same fun c hc v h => by rw [hcl] at hc; exact bytL_den hc h
  have hbt : ∀ {rg : List Rg}, CallOk (mkE Try.prog Try.f32 Q w (InR [] []) (elsewhere [] [] w) (fun _ _ => False) (fun _ => True) [] B32).toEnv [] rg .yes 25 [.agg [.int .u64 (.nat C), .slv po no co, .slv pn nn cn]] (.bool (.v ob)) := fun {rg} =>
    .of Try.call25 [.agg #[.int .u64 C, .slice po no co, .slice pn nn cn]] (.bool ob) (fun _ => rfl) (fun _ => rfl) fun _ w1 him => by rw [hob]; exact between_ok C _ _ rfl rfl w1
  have hnl : n.toList.length = nn := by simp [hn.1]
  have hwrap : C < 9223372036854775808 → IntKind.u64.wrap ((C : Int) + 1) = ((C + 1 : Nat) : Int) := fun h => wrapU64 (C + 1) (by omega)
  refine X.goX ([(30, .bool (.v ob))]) ([]) T32_ok 400 _ rfl Try.results32 (fun pr pe fin hpr hpe hfin => ?_)
  conv => cbv
  refine ⟨hpr _ hbt, hfin _ _ ?_⟩
  clear hpr hpe hfin
  refine X.cond rfl (fun hT => ?_) (fun hF => ?_)
  rotate_left
  · -- it is between
    simp only [SB.T, SB.F, SI.den] at hF
    have hc : C % 2 = 1 := by rw [hob] at hF; exact of_decide_eq_true hF
    refine X.goX ([(61, .int .i64 (.nat nn))]) ([]) T32_ok 400 _ rfl Try.results32 (fun pr pe fin hpr hpe hfin => ?_)
    conv => cbv
    refine ⟨hpr _ (vk_lenO rfl (by simp) Try.underlying22), hfin _ _ ?_⟩
    refine X.cond rfl (fun hT2 => ?_) (fun _ => ?_)
    · simp only [SB.T, SI.den] at hT2
      omega
    refine X.go T32_ok 400 _ rfl Try.results32 ?_
    conv => arg 2; cbv
    refine X.cond rfl (fun hT2 => ?_) (fun hF2 => ?_)
    · simp only [SB.T, SI.den] at hT2
      have hr : stepO C o n x = (7, 0, [], []) := by rw [hst, if_pos hc, if_pos (by omega)]
      refine X.go T32_ok 400 _ rfl Try.results32 ?_
      conv => arg 2; cbv
      refine X.done T32_ok rfl (fun N w' v hN hS hv => ?_)
      rw [hQ, hr]
      exact stepR_err hv hS.chg.none
    · simp only [SB.F, SI.den] at hF2
      have hr : stepO C o n x = (0, C + 1, [], n.toList) := by rw [hst, if_pos hc, if_neg (by omega)]
      refine X.go T32_ok 400 _ rfl Try.results32 ?_
      conv => arg 2; cbv
      refine X.done T32_ok rfl (fun N w' v hN hS hv => ?_)
      rw [hQ, hr]
      obtain ⟨p, hp⟩ : ∃ p, N[2]? = some p := ⟨_, List.getElem?_eq_getElem (by rw [hS.len]; show 2 < 4; omega)⟩
      simp only [resV, SV.den, SV.denL, SI.den, hp, one?, if_true, Num.cap, hwrap (by omega), Nat.add_zero, Option.some.injEq] at hv
      refine ⟨⟨none, 0, 0, some ⟨p.b, p.o, none⟩, nn, _, congrArg Ending.returned hv.symm, fun M hM => ⟨InM.nil _ _, ?_⟩⟩, hS.chg.none⟩
      exact own_inM hS (r := 2) (by rw [← hcl]; rfl) hp hnl.symm hM.2
  simp only [SB.T, SB.F, SI.den] at hT
  have hc : ¬ C % 2 = 1 := by rw [hob] at hT; exact of_decide_eq_false hT
  refine X.goX ([]) ([(34, ⟨fun rg => .osl rg.length 0 nn 1 none, [], [⟨true, cl, none⟩]⟩)]) T32_ok 400 _ rfl Try.results32 (fun pr pe fin hpr hpe hfin => ?_)
  conv => cbv
  refine ⟨hpe _ _ _ _ _ (heff rfl), hfin _ _ ?_⟩
  clear hpr hpe hfin
  have hlt := mayP_lt hmay.2.1
  have h64 := mayP_64 hmay.2.1 hbn
  have hx64 : x < 64 := by
    rcases Int.lt_or_le 63 x with h | h
    · exact absurd ⟨by omega, h⟩ hpre.2
    · omega
  have hsort : ∀ i j, i ≤ j → j < nn → n[i]! ≤ n[j]! := fun i j hij hj => by
    have hs := hn.1
    rcases Nat.eq_or_lt_of_le hij with rfl | hij
    · exact Int.le_refl _
    · have := List.pairwise_iff_getElem.1 hlt i j (by simp; omega) (by simp; omega) hij
      rw [getElem!_pos n i (by omega), getElem!_pos n j (by omega)]
      simp at this
      omega
  have hcells : ∀ {N : Nums} {w1 : World} {rg : List Rg} {q : Num}, Sat (mkE Try.prog Try.f32 Q w (InR [] []) (elsewhere [] [] w) (fun _ _ => False) (fun _ => True) [] B32).toEnv N rg w1 → rg[2]? = some ⟨true, cl, none⟩ → N[2]? = some q → ∀ j, j < nn → w1.cell? ⟨q.b, q.o + j, none⟩ = some (.int .u8 n.toList[j]!) := fun {N w1 rg q} hS hr hp j hj => by
    obtain ⟨v, h1, h2⟩ := hS.cell 2 _ _ hr hp j (.int .u8 (.v n.toList[j]!)) (by
      have hjl : j < n.toList.length := by omega
      rw [hcl]; simp only [bytL, List.getElem?_map]
      rw [List.getElem?_eq_getElem hjl, getElem!_pos n.toList j hjl]; rfl)
    simp only [SV.den, SI.den, Option.some.injEq] at h1
    rw [h2, ← h1]
  refine X.call rfl rfl rfl rfl Try.call55 (fun N w1 args hN hS ha => ?_)
  obtain ⟨q, hq⟩ : ∃ q, N[2]? = some q := ⟨_, List.getElem?_eq_getElem (by rw [hS.len]; show 2 < 5; omega)⟩
  have ha : args = [.slice (some ⟨q.b, q.o, none⟩) nn q.x, .int .u8 x] := by
    simp only [SV.denL, SV.den, SI.den, hq, Num.cap, Nat.add_zero, Nat.sub_zero, Nat.div_one, Option.some.injEq] at ha
    exact ha.symm
  rw [ha]
  refine (search8_ok (some ⟨q.b, q.o, none⟩) nn q.x n x w1 (by omega) ⟨hn.1, fun _ => ⟨q.b, q.o, rfl, fun j hj => ?_⟩⟩ hsort).mono fun e w2 hR => ?_
  · rw [hcells hS rfl hq j (by have := hn.1; omega), getElem!_pos n.toList j (by simpa using hj), getElem!_pos n j hj]
    simp
  obtain ⟨⟨r, he, hslot⟩, hch⟩ := hR
  obtain ⟨bb, hbb⟩ : ∃ b, b = decide (r < nn ∧ n[r]! = x) := ⟨_, rfl⟩
  rw [← hbb] at he
  refine ⟨_, he, Goes.same hN hS hch (r := .tup [.int .i64 (.nat r), .bool (.v bb)]) rfl rfl ?_⟩
  clear he hch ha hq hS hN
  have hslot' : SlotP n.toList.toArray x r := by simpa using hslot
  have hr8 : r ≤ nn := by have := hslot.1; have := hn.1; omega
  obtain ⟨r1, hr1⟩ : ∃ r1, r1 = r + 1 := ⟨_, rfl⟩
  obtain ⟨n0, hn0⟩ : ∃ m, m = nn - 1 := ⟨_, rfl⟩
  obtain ⟨n2, hn2⟩ : ∃ m, m = nn + 1 := ⟨_, rfl⟩
  obtain ⟨cd, hcd⟩ : ∃ c, c = bytL (delL n.toList r) := ⟨_, rfl⟩
  obtain ⟨ci, hci⟩ : ∃ c, c = bytL (insL n.toList r x) := ⟨_, rfl⟩
  refine X.goX ([]) ([]) T32_ok 400 _ rfl Try.results32 (fun pr pe fin hpr hpe hfin => ?_)
  conv => cbv
  refine hfin _ _ ?_
  clear hpr hpe hfin
  refine X.cond rfl (fun hT => ?_) (fun hF => ?_)
  · -- it is taken out
    simp only [SB.T] at hT
    rw [hbb] at hT
    obtain ⟨hrn, hrx⟩ := of_decide_eq_true hT
    have hlst : stT n.toList x 64 = delL n.toList r := step_del hlt h64 (by omega) (by rw [getElem!_pos n.toList r (by omega)]; rw [getElem!_pos n r (by have := hn.1; omega)] at hrx; simpa using hrx)
    have hlen2 : (delL n.toList r).length = n0 := by
      unfold delL; rw [List.length_append, List.length_take, List.length_drop]; omega
    refine X.goX ([(48, .int .i64 (.nat r1)), (61, .int .i64 (.nat n0))]) ([(49, ⟨fun rg => .osl rg.length 0 n0 1 none, [(2, ⟨false, [], none⟩)], [⟨true, cd, none⟩]⟩)]) T32_ok 400 _ rfl Try.results32 (fun pr pe fin hpr hpe hfin => ?_)
    conv => cbv
    refine ⟨hpr _ (vk_addN (m1 := r) (m2 := 1) rfl rfl (fun _ => rfl) (fun _ => rfl) hr1 (by omega) rfl), hpe _ _ _ _ _ ?_, hpr _ (vk_lenO rfl (by simp) Try.underlying22), hfin _ _ ?_⟩
    · refine EffOk.turn (r := 2) (gg := ⟨true, cl, none⟩) (l := [.osl 2 0 nn 1 none, .int .i64 (.nat r), .int .i64 (.nat r1)]) rfl Try.call56 rfl rfl rfl fun N w1 args q hN hS ha hq => ?_
      have ha : args = [.slice (some ⟨q.b, q.o, none⟩) nn q.x, .int .i64 r, .int .i64 (r + 1 : Nat)] := by
        simp only [SV.denL, SV.den, SI.den, hq, Num.cap, Nat.add_zero, Nat.sub_zero, Nat.div_one, Option.some.injEq] at ha
        rw [← ha, hr1]
      rw [ha, hcd, hn0]
      have hx := hS.ext 2 _ _ rfl hq rfl
      simp only [hcl, bytL_len, hnl] at hx
      exact delete8_ok q.b q.o nn q.x r n.toList w1 hnl hrn hx (by omega) (hcells hS rfl hq) (hS.room 2 _ _ rfl hq rfl)
    clear hpr hpe hfin
    refine X.cond rfl (fun hT2 => ?_) (fun hF2 => ?_)
    · simp only [SB.T, SI.den] at hT2
      have hr : stepO C o n x = (1, 0, [], []) := by rw [hst, if_neg hc, if_pos (List.eq_nil_of_length_eq_zero (by rw [hlst, hlen2]; omega))]
      refine X.go T32_ok 400 _ rfl Try.results32 ?_
      conv => arg 2; cbv
      refine X.done T32_ok rfl (fun N w' v hN hS hv => ?_)
      rw [hQ, hr]
      exact stepR_err hv hS.chg.none
    simp only [SB.F, SI.den] at hF2
    have hne : ¬ stT n.toList x 64 = [] := fun e => by rw [hlst] at e; have := hlen2; rw [e] at this; simp at this; omega
    refine X.go T32_ok 400 _ rfl Try.results32 ?_
    conv => arg 2; cbv
    refine X.cond rfl (fun hT3 => ?_) (fun hF3 => ?_)
    · simp only [SB.T, SI.den] at hT3
      have hr : stepO C o n x = (7, 0, [], []) := by rw [hst, if_neg hc, if_neg hne, if_pos (by omega)]
      refine X.go T32_ok 400 _ rfl Try.results32 ?_
      conv => arg 2; cbv
      refine X.done T32_ok rfl (fun N w' v hN hS hv => ?_)
      rw [hQ, hr]
      exact stepR_err hv hS.chg.none
    · simp only [SB.F, SI.den] at hF3
      have hr : stepO C o n x = (0, C + 1, n.toList, delL n.toList r) := by rw [hst, if_neg hc, if_neg hne, if_neg (by omega), hlst]
      refine X.go T32_ok 400 _ rfl Try.results32 ?_
      conv => arg 2; cbv
      refine X.done T32_ok rfl (fun N w' v hN hS hv => ?_)
      rw [hQ, hr]
      obtain ⟨p4, hp4⟩ : ∃ p, N[4]? = some p := ⟨_, List.getElem?_eq_getElem (by rw [hS.len]; show 4 < 6; omega)⟩
      obtain ⟨p5, hp5⟩ : ∃ p, N[5]? = some p := ⟨_, List.getElem?_eq_getElem (by rw [hS.len]; show 5 < 6; omega)⟩
      simp only [resV, SV.den, SV.denL, SI.den, hp4, hp5, Num.cap, hwrap (by omega), Nat.add_zero, Option.some.injEq] at hv
      refine ⟨⟨some ⟨p4.b, p4.o, none⟩, nn, _, some ⟨p5.b, p5.o, none⟩, n0, _, congrArg Ending.returned hv.symm, fun M hM => ⟨?_, ?_⟩⟩, hS.chg.none⟩
      · exact own_inM hS (r := 4) (by rw [← hcl]; rfl) hp4 hnl.symm hM.2
      · exact own_inM hS (r := 5) (by rw [← hcd]; rfl) hp5 hlen2.symm hM.2
  · -- it is put in
    simp only [SB.F] at hF
    rw [hbb] at hF
    have hnin := of_decide_eq_false hF
    have hxn : x ∉ n.toList := fun hmem => by
      obtain ⟨i, hi, he⟩ := List.getElem_of_mem hmem
      have hs := hn.1
      have hi' : i < n.size := by simpa using hi
      have he' : n[i]! = x := by rw [getElem!_pos n i hi']; simpa using he
      rcases Nat.lt_or_ge i r with h | h
      · have := hslot.2.1 i h; omega
      · have hrn : r < nn := by omega
        have h1 := hslot.2.2 r (Nat.le_refl _) (by omega)
        have h2 := hsort r i h (by omega)
        exact hnin ⟨hrn, by omega⟩
    have hlst : stT n.toList x 64 = insL n.toList r x := step_ins hslot' hlt h64 ⟨hx0, hx64⟩ hxn
    have hlen2 : (insL n.toList r x).length = n2 := by
      unfold insL; rw [List.length_append, List.length_cons, List.length_take, List.length_drop]; omega
    refine X.goX ([]) ([]) T32_ok 5 _ rfl Try.results32 (fun pr pe fin hpr hpe hfin => ?_)
    conv => cbv
    refine hfin _ _ ?_
    clear hpr hpe hfin
    refine X.rowCall (te := ti5) (r := .osl 6 0 n2 1 none) (rg' := [⟨true, [.int .u64 (.nat C), .slv po no co, .slv pn nn cn], none⟩, ⟨true, [.int .u64 (.lit 0), .raw (.slice none 0 0), .raw (.slice none 0 0)], none⟩, ⟨false, [], none⟩, ⟨true, [.int .u64 (.wrap .u64 (.add (.nat C) (.lit 1))), .osl 4 0 nn 1 none, .osl 2 0 nn 1 none], none⟩, ⟨true, cl, none⟩, ⟨true, [.int .u8 (.v x)], none⟩, ⟨true, ci, none⟩]) (cs := [.int .u8 (.v x)]) T32_ok rfl rfl rfl rfl rfl rfl rfl rfl rfl rfl rfl rfl rfl rfl rfl Try.call57 rfl (fun N w1 args bv hN hS ha hbv hblt hshp hfrz => ?_) ?_
    · obtain ⟨q, hq⟩ : ∃ q, N[2]? = some q := ⟨_, List.getElem?_eq_getElem (by rw [hS.len]; show 2 < 6; omega)⟩
      have hbv : N[5]? = some ⟨bv, 0, 1⟩ := hbv
      have ha : args = [.slice (some ⟨q.b, q.o, none⟩) nn q.x, .int .i64 r, .slice (some ⟨bv, 0, none⟩) 1 1] := by
        have ha : SV.denL N [.osl 2 0 nn 1 none, .int .i64 (.nat r), .osl 5 0 1 1 (some 1)] = some args := ha
        simp only [SV.denL, SV.den, SI.den, hq, hbv, Num.cap, Nat.add_zero, Nat.sub_zero, Nat.div_one, Option.some.injEq] at ha
        exact ha.symm
      rw [ha]
      have hx := hS.ext 2 _ _ rfl hq rfl
      simp only [hcl, bytL_len, hnl] at hx
      have hv0 := hS.at hbv (g := ⟨true, [.int .u8 (.v x)], none⟩) rfl (j := 0) rfl rfl
      refine (insert8_ok q.b q.o nn q.x r bv 0 n.toList x w1 hnl hr8 hx (by omega) (by omega) (hcells hS rfl hq) (hS.room 2 _ _ rfl hq rfl) hv0 (by have := hblt 2 q (by show 2 < 5; omega) hq; omega) (hfrz 0) ⟨_, 1, hshp, hfrz 1⟩).mono fun e w2 hR => ?_
      rw [← hn2, ← hci] at hR
      obtain ⟨v, N', h1, h2, h3, h4⟩ := TurnRet.sat hS (r := 2) (g := ⟨true, cl, none⟩) rfl hq rfl rfl hR
      exact ⟨v, h1, N', h2, h3, h4⟩
    refine X.goX ([(61, .int .i64 (.nat n2))]) ([]) T32_ok 400 _ rfl Try.results32 (fun pr pe fin hpr hpe hfin => ?_)
    conv => cbv
    refine ⟨hpr _ (vk_lenO rfl (by simp) Try.underlying22), hfin _ _ ?_⟩
    clear hpr hpe hfin
    refine X.cond rfl (fun hT2 => ?_) (fun hF2 => ?_)
    · simp only [SB.T, SI.den] at hT2
      have hr : stepO C o n x = (1, 0, [], []) := by rw [hst, if_neg hc, if_pos (List.eq_nil_of_length_eq_zero (by rw [hlst, hlen2]; omega))]
      refine X.go T32_ok 400 _ rfl Try.results32 ?_
      conv => arg 2; cbv
      refine X.done T32_ok rfl (fun N w' v hN hS hv => ?_)
      rw [hQ, hr]
      exact stepR_err hv hS.chg.none
    simp only [SB.F, SI.den] at hF2
    have hne : ¬ stT n.toList x 64 = [] := fun e => by rw [hlst] at e; have := hlen2; rw [e] at this; simp at this; omega
    refine X.go T32_ok 400 _ rfl Try.results32 ?_
    conv => arg 2; cbv
    refine X.cond rfl (fun hT3 => ?_) (fun hF3 => ?_)
    · simp only [SB.T, SI.den] at hT3
      have hr : stepO C o n x = (7, 0, [], []) := by rw [hst, if_neg hc, if_neg hne, if_pos (by omega)]
      refine X.go T32_ok 400 _ rfl Try.results32 ?_
      conv => arg 2; cbv
      refine X.done T32_ok rfl (fun N w' v hN hS hv => ?_)
      rw [hQ, hr]
      exact stepR_err hv hS.chg.none
    · simp only [SB.F, SI.den] at hF3
      have hr : stepO C o n x = (0, C + 1, n.toList, insL n.toList r x) := by rw [hst, if_neg hc, if_neg hne, if_neg (by omega), hlst]
      refine X.go T32_ok 400 _ rfl Try.results32 ?_
      conv => arg 2; cbv
      refine X.done T32_ok rfl (fun N w' v hN hS hv => ?_)
      rw [hQ, hr]
      obtain ⟨p4, hp4⟩ : ∃ p, N[4]? = some p := ⟨_, List.getElem?_eq_getElem (by rw [hS.len]; show 4 < 7; omega)⟩
      obtain ⟨p5, hp5⟩ : ∃ p, N[6]? = some p := ⟨_, List.getElem?_eq_getElem (by rw [hS.len]; show 6 < 7; omega)⟩
      simp only [resV, SV.den, SV.denL, SI.den, hp4, hp5, Num.cap, hwrap (by omega), Nat.add_zero, Option.some.injEq] at hv
      refine ⟨⟨some ⟨p4.b, p4.o, none⟩, nn, _, some ⟨p5.b, p5.o, none⟩, n2, _, congrArg Ending.returned hv.symm, fun M hM => ⟨?_, ?_⟩⟩, hS.chg.none⟩
      · exact own_inM hS (r := 4) (by rw [← hcl]; rfl) hp4 hnl.symm hM.2
      · exact own_inM hS (r := 6) (by rw [← hci]; rfl) hp5 hlen2.symm hM.2

end Go.Proofs.Ythaffebapmkppaa

namespace Go.Proofs.Ythaffebapmkppaa
open Go Go.Eng

theorem confMeet_calls (W : World) (args : Array Value) (hn : args.size = 5) (ha : ∀ (j : Nat) t v, Try.f9.params[j]? = some t → args[j]? = some v → ArgOk Try.prog W t v) :
    Calls Try.prog 9 args W fun e w' => e = .returned (.bool true) ∧ Chg (fun _ _ => False) W w' := by
  obtain ⟨a, b, c, d, e, rfl⟩ : ∃ a b c d e, args = #[a, b, c, d, e] := ⟨args[0], args[1], args[2], args[3], args[4], by apply Array.ext (by simp [hn]); intro i h1 h2; match i, h1 with | 0, _ | 1, _ | 2, _ | 3, _ | 4, _ => rfl⟩
  obtain ⟨C, po, pn, no, nn, co, cn, o, n, rfl, ho, hIn, hbo, hbn⟩ := conf_of (ha 0 35 a rfl rfl)
  obtain ⟨x, rfl, hx⟩ := (ha 1 5 b rfl rfl).int Try.underlying5
  obtain ⟨key, rfl, _⟩ := (ha 2 5 c rfl rfl).int Try.underlying5
  obtain ⟨z, rfl, hz⟩ := (ha 3 33 d rfl rfl).int Try.underlying33
  obtain ⟨s, rfl, hs⟩ := nat_wf hz
  obtain ⟨z, rfl, hz⟩ := (ha 4 33 e rfl rfl).int Try.underlying33
  obtain ⟨m, rfl, hm⟩ := nat_wf hz
  have hx0 := (byte_wf hx).1
  exact meet_of C s m po pn no nn co cn o n x key W hs hm hx0 ho hIn hbo hbn fun w1 h1 h2 h3 h4 => step_ok C po pn no nn co cn o n x w1 h1 h2 hx0 h3 h4 hbo hbn

end Go.Proofs.Ythaffebapmkppaa
