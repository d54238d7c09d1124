import Derived.Test.YthaffebapmkppaaGreatCf6
import Derived.Test.YthaffebapmkppaaGreatPd3
import Derived.Lib.Overlaps

namespace Go.Proofs.YthaffebapmkppaaGreat
open Go Go.Eng Go.Sort
def tailD : Nat → Code → Code
  | 0, c => c
  | n + 1, c => tailD n (sndC c)
def keepC (C : Nat) (o n : Array Int) (key : Int) : List Int := (ascA (ringsL C o n key).flatten.toArray).toList
theorem ofL_3 (d : Array Int) (key : Int) : (ofL d key).length ≤ 3 := by
  rw [(ofL_perm d key).length_eq, keepL_eq (ringP_rise d)]
  simp
  omega
theorem rings_flat (C : Nat) (o n : Array Int) (key : Int) : (ringsL C o n key).flatten.length ≤ 6 := by
  have h1 := ofL_3 n key
  have h2 := ofL_3 o key
  unfold ringsL
  split <;> simp <;> omega
theorem keepC_mem {C : Nat} {o n : Array Int} {key x : Int} : x ∈ keepC C o n key ↔ x ∈ (ringsL C o n key).flatten := ascA_iff _ x
theorem keepC_asc {C : Nat} {o n : Array Int} {key : Int} (hbo : ∀ x ∈ o.toList, 0 ≤ x ∧ x < 256) (hbn : ∀ x ∈ n.toList, 0 ≤ x ∧ x < 256) : asc (ringsL C o n key).flatten 256 = keepC C o n key := by
  have hb : ∀ x ∈ (ringsL C o n key).flatten, 0 ≤ x ∧ x < 256 := fun x hx => by
    unfold ringsL at hx
    split at hx
    · simp only [List.flatten_cons, List.flatten_nil, List.append_nil, List.mem_append] at hx
      rcases hx with h | h
      · exact hbn x (ofL_sub h)
      · exact hbo x (ofL_sub h)
    · simp only [List.flatten_cons, List.flatten_nil, List.append_nil] at hx
      exact hbn x (ofL_sub hx)
  refine lt_eq (asc_lt _ _) (ascA_lt _) fun y => ?_
  rw [asc_mem hb, keepC_mem]
theorem keepC_64 {C : Nat} {o n : Array Int} {key : Int} (h : mayC C o n) (hbo : ∀ x ∈ o.toList, 0 ≤ x ∧ x < 256) (hbn : ∀ x ∈ n.toList, 0 ≤ x ∧ x < 256) : ∀ x ∈ keepC C o n key, 0 ≤ x ∧ x < 64 := fun x hx => by
  rw [keepC_mem] at hx
  obtain ⟨l, hl, hx⟩ := List.mem_flatten.1 hx
  obtain ⟨j, hj, rfl⟩ := List.getElem_of_mem hl
  have := (rings_64 h hbo hbn j hj).2 x (by rw [getElem!_pos _ j hj]; exact hx)
  exact this
theorem keepC_len (C : Nat) (o n : Array Int) (key : Int) : (keepC C o n key).length ≤ 6 := by
  have h1 : (ascA (ringsL C o n key).flatten.toArray).size ≤ (ringsL C o n key).flatten.length := ascA_size _
  exact Nat.le_trans (by unfold keepC; rw [Array.length_toList]; exact h1) (rings_flat C o n key)
theorem keepC_byte {C : Nat} {o n : Array Int} {key : Int} (hbo : ∀ x ∈ o.toList, 0 ≤ x ∧ x < 256) (hbn : ∀ x ∈ n.toList, 0 ≤ x ∧ x < 256) : ∀ x ∈ keepC C o n key, 0 ≤ x ∧ x < 256 := fun x hx => by
  rw [keepC_mem] at hx
  unfold ringsL at hx
  split at hx
  · simp only [List.flatten_cons, List.flatten_nil, List.append_nil, List.mem_append] at hx
    rcases hx with h | h
    · exact hbn x (ofL_sub h)
    · exact hbo x (ofL_sub h)
  · simp only [List.flatten_cons, List.flatten_nil, List.append_nil] at hx
    exact hbn x (ofL_sub hx)
set_option maxHeartbeats 8000000 in
set_option maxRecDepth 100000 in
set_option cbv.maxSteps 100000000 in
theorem ckeepers_ok (C : Nat) (po pn : Option Addr) (no nn co cn : Nat) (o n : Array Int) (key : Int) (w : World) (hno : no ≤ 100) (hnn : nn ≤ 100) (ho : InB po no o w) (hn : InB pn nn n w) (hbo : ∀ x ∈ o.toList, 0 ≤ x ∧ x < 256) (hbn : ∀ x ∈ n.toList, 0 ≤ x ∧ x < 256) :
    Calls Tryz.prog 67 #[.agg #[.int .u64 C, .slice po no co, .slice pn nn cn], .int .u8 key] w (BytRet (keepC C o n key) w) := by
  have hos := ho.1
  have hns := hn.1
  obtain ⟨F, hF⟩ : ∃ F, F = keepC C o n key := ⟨_, rfl⟩
  rw [← hF]
  refine X.begin (rg := []) (N := []) (ss := [.agg [.int .u64 (.nat C), .slv po no co, .slv pn nn cn], .int .u8 (.v key)]) Tryz.func67 rfl B67_ok rfl rfl Sat.std0 ?_
  refine X.go T67_ok 400 _ rfl Tryz.results67 ?_
  conv => arg 2; cbv
  refine X.call rfl rfl rfl rfl Tryz.call68 (fun N w1 args hN hS ha => ?_)
  have ha : args = [.agg #[.int .u64 C, .slice po no co, .slice pn nn cn], .int .u8 key] := (Option.some.inj ha).symm
  rw [ha]
  refine (rings_ok C po pn no nn co cn o n key w1 (by omega) (by omega) (ho.stays hS.chg.none) (hn.stays hS.chg.none) hbo hbn).mono fun e w2 ⟨b, y, c, he, hfr, hcell, hch⟩ => ?_
  obtain ⟨hl2, hl3⟩ := rings_len (C := C) (key := key) (show o.size ≤ 100 by omega) (show n.size ≤ 100 by omega)
  have hfl := rings_flat C o n key
  obtain ⟨ls, hls⟩ : ∃ l, l = ringsL C o n key := ⟨_, rfl⟩
  obtain ⟨m, hm⟩ : ∃ m, m = ls.length := ⟨_, rfl⟩
  have hFa : F = (ascA ls.flatten.toArray).toList := by rw [hF, hls]; rfl
  rw [← hls] at hl2 hl3 he hcell hfl
  rw [← hm] at hl2 hl3 he hcell
  refine ⟨_, he, Goes.newMem hN hS hch (r := .slv (some ⟨b, y, none⟩) m c) rfl rfl (fun hold hnew => ?_)⟩
  obtain ⟨im, him⟩ : ∃ im, im = imNew (elsewhere [] [] w) w1 w2 := ⟨_, rfl⟩
  have himw : ∀ k o, w.heap.size ≤ k → w2.heap.size ≤ k → im k o = none := fun k o h1 h2 => by
    rw [him]
    unfold imNew
    rw [els_new h1]
    simp only
    split
    · simp [World.cell?, Array.getElem?_eq_none h2]
    · rfl
  have hcell : ∀ j, j < m → ∃ p c, im b (y + j) = some (.slice p ls[j]!.length c) ∧ BytNew ls[j]! 0 im p c := fun j hj => by
    obtain ⟨p, c, h1, h2⟩ := hcell j hj
    exact ⟨p, c, by rw [him]; exact hnew _ _ _ hfr h1, h2.mono (Nat.zero_le _) fun k o v hk hv => by rw [him]; exact hnew _ _ _ hk hv⟩
  obtain ⟨pz, hpz⟩ : ∃ p, p = some (Addr.mk b y none) := ⟨_, rfl⟩
  show X (mkE Tryz.prog Tryz.f67 (BytRet F w) w (InR [] []) (imNew (elsewhere [] [] w) w1 w2) (fun _ _ => False) (fun _ => True) [] B67) _ _
  rw [← him, ← hpz]
  clear him hold hnew hch he ha hS hN himw
  refine X.less [8] ?_
  refine X.noRegs [(8, .val (.slv pz m c))] rfl (fun N hN => ⟨rfl, fun _ h => h, trivial⟩) ?_
  refine X.call rfl rfl rfl rfl Tryz.call97 (fun N w3 args hN hS ha => ?_)
  have ha : args = [.slice pz m c] := (Option.some.inj ha).symm
  rw [ha, hpz]
  refine (concat_ok ls b y m c w3 hm hfl (by omega) (fun j hj => by
    obtain ⟨p, c, h1, h2⟩ := hcell j hj
    exact ⟨p, c, hS.imm _ _ _ h1, h2.mono (Nat.le_refl _) fun k o v _ hv => hS.imm _ _ _ hv⟩)).mono fun e w4 ⟨p2, c2, he, hc2, hr, hch⟩ => ⟨_, he, ?_⟩
  obtain ⟨out, hout⟩ : ∃ l, l = ls.flatten := ⟨_, rfl⟩
  obtain ⟨ll, hll⟩ : ∃ q, q = out.length := ⟨_, rfl⟩
  have hll6 : ll ≤ 6 := by rw [hll, hout]; exact hfl
  rw [← hout] at hr hc2
  rw [← hout, ← hll]
  rw [← hout] at hFa
  rcases hr with ⟨h1, h2, h3⟩ | ⟨hne, b2, o2, h1, h2, h3⟩
  · subst h2 h3
    have hl0 : ll = 0 := by rw [hll, h1]; rfl
    subst hl0
    have hFn : F = [] := by
      have h := ascA_size out.toArray
      rw [h1] at h
      rw [hFa, h1]
      exact List.eq_nil_of_length_eq_zero (by simpa using h)
    refine Goes.same hN hS hch (r := .raw (.slice none 0 0)) rfl rfl ?_
    refine X.go T67_ok 400 _ rfl Tryz.results67 ?_
    conv => arg 2; cbv
    refine X.call rfl rfl rfl rfl Tryz.call98 (fun N w5 args hN hS ha => ?_)
    have ha : args = [.slice none 0 0] := (Option.some.inj ha).symm
    rw [ha]
    refine (sort8_nil w5).mono fun e w6 ⟨he, hc⟩ => ⟨_, he, Goes.same hN hS hc (r := .tup []) rfl rfl ?_⟩
    refine X.goC FALL_ok true T67_ok 4000 _ rfl Tryz.results67 ?_
    conv => arg 2; cbv
    refine X.done T67_ok rfl (fun N w' v hN hS hv => ?_)
    simp [resV, SV.den, one?] at hv
    exact ⟨none, 0, by rw [← hv, hFn]; rfl, by rw [hFn]; exact Nat.le_refl _, .inl ⟨hFn, rfl, rfl⟩, hS.chg.none⟩
  · have hsz : out.toArray.size = ll := by rw [hll]; simp
    have hbw : w.heap.size ≤ b2 := Nat.le_trans hS.chg.size h2
    have hdw : ∀ k o, arrD b2 o2 ll k o → w.heap.size ≤ k := fun k o ⟨e1, _, _⟩ => by rw [e1]; exact hbw
    have hdi : ∀ k o, arrD b2 o2 ll k o → im k o = none := fun k o ⟨e1, _, _⟩ => im_new hS (by rw [e1]; exact h2)
    refine Goes.turn (r := .slv p2 ll c2) (arrD b2 o2 ll) (fun w => AtA w b2 o2 out.toArray) hN hS hch (fun _ _ h => h.elim) (fun _ _ h => h.elim) (by simp) (fun k o hk => ⟨.inr (by obtain ⟨e1, e2, e3⟩ := hk; rw [e1]; exact h2), h3.there (by omega) hk⟩) (AtA.loc (by omega)) h3 rfl rfl ?_
    clear h3 hch he ha hS hN
    show X (mkE Tryz.prog Tryz.f67 (BytRet F w) w (InR [] []) im (arrD b2 o2 ll) (fun w => AtA w b2 o2 out.toArray) [] B67) _ _
    refine X.go T67_ok 400 _ rfl Tryz.results67 ?_
    conv => arg 2; cbv
    refine X.call rfl rfl rfl rfl Tryz.call98 (fun N w5 args hN hS ha => ?_)
    have ha : args = [.slice p2 ll c2] := (Option.some.inj ha).symm
    rw [ha, h1]
    refine (sort8_ok b2 o2 ll c2 out.toArray w5 hS.res hsz (by omega)).mono fun e w6 ⟨S, ⟨g1, g2⟩, he, hA1, hch⟩ => ⟨_, he, ?_⟩
    have hSr := srtA_of hsz g1 g2
    subst hSr
    have hsn : (srtA out.toArray).size = ll := by rw [srtA_size, hsz]
    refine Goes.turn (r := .tup []) (arrD b2 o2 ll) (fun w => AtA w b2 o2 (srtA out.toArray)) hN hS hch (fun k o h => .inl (hdw k o h)) hdi (by simp) (fun k o hk => ⟨.inl hk, hA1.there (by omega) hk⟩) (AtA.loc (by omega)) hA1 rfl rfl ?_
    clear hA1 hch he ha hS hN g1 g2
    show X (mkE Tryz.prog Tryz.f67 (BytRet F w) w (InR [] []) im (arrD b2 o2 ll) (fun w => AtA w b2 o2 (srtA out.toArray)) [] B67) _ _
    refine X.go T67_ok 400 _ rfl Tryz.results67 ?_
    conv => arg 2; cbv
    refine X.call rfl rfl rfl rfl Tryz.call99 (fun N w7 args hN hS ha => ?_)
    have ha : args = [.slice (some ⟨b2, o2, none⟩) ll c2] := (Option.some.inj ha).symm
    rw [ha]
    have hAs : AtA w7 b2 o2 (srtA out.toArray) := hS.res
    refine (compact8_ok b2 o2 ll c2 (srtA out.toArray) w7 hAs hsn (by omega) (by omega)).mono fun e w8 ⟨he, hA1, hch⟩ => ⟨_, he, ?_⟩
    obtain ⟨a, ha⟩ : ∃ a, a = ascA out.toArray := ⟨_, rfl⟩
    rw [show (Go.Lib.compactUpTo (srtA out.toArray) ll).toArray = a by rw [ha, ascA, hsz]] at hA1
    obtain ⟨q, hq⟩ : ∃ q, q = a.size := ⟨_, rfl⟩
    rw [show (Go.Lib.compactUpTo (srtA out.toArray) ll).length = q by rw [hq, ha, ascA, hsz]; simp]
    have hql : q ≤ ll := by rw [hq, ha, ← hsz]; exact ascA_size _
    have hq0 : 0 < q := by rw [hq, ha]; exact ascA_pos (by rw [hsz, hll]; exact List.length_pos_iff.2 hne)
    refine Goes.turn (r := .slv (some ⟨b2, o2, none⟩) q c2) (arrD b2 o2 ll) (fun w => AtA w b2 o2 a) hN hS hch (fun k o h => .inl (hdw k o h)) hdi (by simp) (fun k o hk => ⟨.inl hk, ?_⟩) (AtA.loc (by omega)) hA1 rfl rfl ?_
    · obtain ⟨rfl, k2, k3⟩ := hk
      have := (hAs (o - o2) (by omega)).1
      rw [show o2 + (o - o2) = o by omega] at this
      exact .inl (some_of_chg hch o (by rw [this]; rfl))
    clear hA1 hch he hS hN hAs
    show X (mkE Tryz.prog Tryz.f67 (BytRet F w) w (InR [] []) im (arrD b2 o2 ll) (fun w => AtA w b2 o2 a) [] B67) _ _
    refine X.go T67_ok 400 _ rfl Tryz.results67 ?_
    conv => arg 2; cbv
    refine X.done T67_ok rfl (fun N w' v hN hS hv => ?_)
    simp only [resV, SV.den, Option.some.injEq] at hv
    have hFq : F = a.toList := by rw [hFa, ha]
    have hFl : F.length = q := by rw [hFq, hq]; simp
    exact ⟨some ⟨b2, o2, none⟩, c2, by rw [← hv, hFl], by omega, .inr ⟨fun h => by rw [h] at hFl; simp at hFl; omega, b2, o2, rfl, hbw, by rw [hFq]; exact hS.res⟩, hS.chg.none⟩
set_option maxHeartbeats 8000000 in
set_option maxRecDepth 100000 in
set_option cbv.maxSteps 100000000 in
theorem keep10_loop (p1 : Option Addr) (q1 c1 q2 : Nat) (l1 l2 F : List Int) (v6 : SV) (w : World) (im : Mem) (Q : Ending → World → Prop) (hQ : Q = RoR (bytL F) F.length w) (hq1 : q1 = l1.length) (hq2 : q2 = l2.length) (hq18 : q1 ≤ 1000) (hq28 : q2 ≤ 1000)
    (h1 : ∀ w' : World, (∀ k o v, im k o = some v → w'.cell? ⟨k, o, none⟩ = some v) → InB p1 q1 l1.toArray w')
    (h6 : ∀ (N : Nums) (v : Value), v6.den N = some v → ∃ p c, v = .slice p q2 c ∧ ∀ w' : World, (∀ k o v, im k o = some v → w'.cell? ⟨k, o, none⟩ = some v) → InB p q2 l2.toArray w')
    (h6b : bd 3 v6 = true) (h6f : v6.frr 4 2 = true) (cbx : List SV) (hcb : cbx.all (bd 3) = true) (hcf : cbx.all (SV.frr 4 2) = true) (hF : asc (l1 ++ l2) 256 = F) :
    X (mkE Tryz.prog Tryz.f35 Q w (InR [] []) im (fun _ _ => False) (fun _ => True) [] B35) [It.code (tailD 4 (Tryz.f35.body.getD .skip))] ⟨[(6, .val v6), (5, .val (.slv p1 q1 c1))], [⟨true, cbx, none⟩, ⟨true, [], none⟩]⟩ := by
  refine X.go T35_ok 400 _ rfl Tryz.results35 ?_
  conv => arg 2; cbv
  refine X.loop (fun _ : {k : Nat // k ≤ 256} => mkE Tryz.prog Tryz.f35 Q w (InR [] []) im (fun _ _ => False) (fun _ => True) [] B35)
    (fun g => ⟨[(5, .val (.slv p1 q1 c1)), (6, .val v6), (7, .val (eV 2 (asc (l1 ++ l2) g.1).length 1)), (8, .val (.int .i64 (.nat g.1)))], [⟨true, cbx, none⟩, ⟨true, [], none⟩, ⟨true, bytL (asc (l1 ++ l2) g.1), none⟩]⟩) (fun g => 256 - g.1) (fun _ => ⟨rfl, rfl, rfl, rfl⟩) (fun N ac w' hN hf hS => ⟨⟨0, Nat.zero_le _⟩, ?_⟩) (fun g qq hqq => ?_)
  · exact At.again hf hS (by repeat first | exact trivial | refine ⟨⟨_, rfl, .inl ⟨rfl, by first | rfl | assumption⟩⟩, ?_⟩ | refine ⟨⟨_, rfl, .inr ⟨_, rfl, rfl⟩⟩, ?_⟩ | refine ⟨⟨_, rfl, .inr ⟨_, rfl, by simp (disch := omega) [SV.den, SI.den, wrapU, wrapD] <;> omega⟩⟩, ?_⟩ | refine ⟨⟨_, rfl, .inr ⟨_, rfl, by simp [SV.den, SI.den, IntKind.wrap, IntKind.bits, IntKind.signed] <;> omega⟩⟩, ?_⟩) ⟨fun h => h, SubC.refl hcb, rfl, fun h => h, trivial, rfl, fun h => h, trivial, rfl, trivial⟩
  obtain ⟨k, hk⟩ := g
  obtain ⟨A, hA⟩ : ∃ A, A = asc (l1 ++ l2) k := ⟨_, rfl⟩
  obtain ⟨la, hla⟩ : ∃ m, m = A.length := ⟨_, rfl⟩
  have hla8 : la ≤ 256 := by have := asc_len (l1 ++ l2) k; rw [← hA, ← hla] at this; omega
  obtain ⟨va, hva⟩ : ∃ v, v = eV 2 la 1 := ⟨_, rfl⟩
  obtain ⟨ca, hca⟩ : ∃ v, v = bytL A := ⟨_, rfl⟩
  have hvab : bd 3 va = true := by rw [hva]; exact eV_bd (by decide)
  have hcab : ∀ m, ca.all (bd m) = true := fun m => by rw [hca]; exact bytL_bd
  show X (mkE Tryz.prog Tryz.f35 Q w (InR [] []) im (fun _ _ => False) (fun _ => True) [] B35) _ ⟨[(5, .val (.slv p1 q1 c1)), (6, .val v6), (7, .val (eV 2 (asc (l1 ++ l2) k).length 1)), (8, .val (.int .i64 (.nat k)))], [⟨true, cbx, none⟩, ⟨true, [], none⟩, ⟨true, bytL (asc (l1 ++ l2) k), none⟩]⟩
  rw [← hA, ← hla, ← hva, ← hca]
  refine X.go T35_ok 400 _ rfl Tryz.results35 ?_
  conv => arg 2; cbv
  refine X.cond rfl (fun hlt => ?_) (fun hge => ?_)
  · simp only [SB.T, SI.den] at hlt
    have hlt : k < 256 := by omega
    obtain ⟨b1, hb1⟩ : ∃ b, b = decide ((k : Int) ∈ l1) := ⟨_, rfl⟩
    obtain ⟨b2, hb2⟩ : ∃ b, b = decide ((k : Int) ∈ l2) := ⟨_, rfl⟩
    have hsn := asc_succ (l1 ++ l2) k
    rw [← hA] at hsn
    refine X.goP ([(30, .bool (.v b1)), (35, .bool (.v b2))]) T35_ok 400 _ rfl Tryz.results35 (fun pr fin hpr hfin => ?_)
    conv => cbv
    refine ⟨hpr _ (fun _ => ⟨Tryz.call59, fun N w1 args _ hS ha => ?_⟩), hpr _ (.of Tryz.call59 [.slice p1 q1 c1, .int .u8 k] (.bool b1) (fun _ => by simp only [SV.denL, SV.den, SI.den, wrapP hlt]) (fun _ => rfl) fun _ w1 him => by
      have := has10_ok p1 q1 c1 l1.toArray k w1 (by omega) (h1 w1 him)
      rw [hb1]
      exact this), hfin _ _ ?_⟩
    · obtain ⟨v, ls1, rfl, hv, ha⟩ := denL_cons ha
      obtain ⟨v2, ls2, rfl, hv2, ha⟩ := denL_cons ha
      obtain rfl := denL_nil ha
      obtain ⟨p, c, rfl, hp⟩ := h6 _ _ hv
      simp only [SV.den, SI.den, wrapP hlt, Option.some.injEq] at hv2
      subst hv2
      refine (has10_ok p q2 c l2.toArray k w1 (by omega) (hp w1 hS.imm)).mono fun e w' ⟨he, hc⟩ => ⟨_, he, by rw [hb2]; rfl, hc⟩
    refine X.cond rfl (fun hT => ?_) (fun hF' => ?_)
    · simp only [SB.T] at hT
      have hm : (k : Int) ∈ l1 ++ l2 := by
        rw [List.mem_append]
        rcases hT with h | h
        · exact .inl (by rw [hb1] at h; exact of_decide_eq_true h)
        · exact .inr (by rw [hb2] at h; exact of_decide_eq_true h)
      rw [if_pos hm] at hsn
      refine X.go T35_ok 5 _ rfl Tryz.results35 ?_
      conv => arg 2; cbv
      refine X.appG (T := T35) (te := ti5) (r := 2) (n := la) (m := 1) (cs := ca) (new := [.int .u8 (.wrap .u8 (.nat k))]) T35_ok rfl [5, 6, 8, 41] rfl rfl rfl rfl rfl rfl rfl rfl (.inr (.inl hva)) rfl (by rw [hca, bytL_len, ← hla]; exact (Nat.mul_one _).symm) (by decide) (appSrc_row (g := ⟨true, [.int .u8 (.wrap .u8 (.nat k))], none⟩) rfl rfl rfl rfl) (appOk_ok (by decide) rfl rfl rfl (by show (2 * (la + 1) + 256) * 1 ≤ _; omega) (by omega)) rfl rfl rfl (by repeat first | exact trivial | refine ⟨rfl, ?_⟩ | refine ⟨by assumption, ?_⟩) ⟨.inr hcf, .inr rfl, .inl rfl, .inr rfl, trivial⟩ (by rw [List.all_append, hca, bytL_frr]; rfl) rfl ?_
      refine X.recell 2 ⟨true, ca ++ [.int .u8 (.wrap .u8 (.nat k))], none⟩ (bytL (A ++ [(k : Int)])) rfl (by rw [hca, bytL_snoc]; simp) (fun N _ j x x' h1 h2 v hv => ?_) ?_
      · rw [bytL_snoc, ← hca] at h2
        simp only at h1
        rcases Nat.lt_or_ge j ca.length with hj | hj
        · rw [List.getElem?_append_left hj] at h1 h2
          rw [h1] at h2
          cases h2
          exact hv
        · rw [List.getElem?_append_right hj] at h1 h2
          obtain ⟨z, hz⟩ : ∃ z, z = j - ca.length := ⟨_, rfl⟩
          rw [← hz] at h1 h2
          match z, h1, h2 with
          | 0, h1, h2 =>
            obtain rfl := (Option.some.inj h1).symm
            obtain rfl := (Option.some.inj h2).symm
            rw [← hv]
            simp only [SV.den, SI.den, wrapP hlt]
          | z + 1, h1, h2 => simp at h1
      obtain ⟨c3, hc3⟩ : ∃ c, c = bytL (A ++ [(k : Int)]) := ⟨_, rfl⟩
      have hc3d : ∀ m, c3.all (bd m) = true := fun m => by rw [hc3]; exact bytL_bd
      show X (mkE Tryz.prog Tryz.f35 Q w (InR [] []) im (fun _ _ => False) (fun _ => True) [] B35) _ ⟨_, [⟨true, cbx, none⟩, ⟨true, [], none⟩, ⟨true, bytL (A ++ [(k : Int)]), none⟩, ⟨true, [.int .u8 (.wrap .u8 (.nat k))], none⟩]⟩
      rw [← hc3]
      refine X.go T35_ok 400 _ rfl Tryz.results35 ?_
      conv => arg 2; cbv
      refine X.back (fun N ac w' hN hf hS => hqq ⟨k + 1, hlt⟩ ac w' (by simp only; omega) ?_)
      show Eng.At (mkE Tryz.prog Tryz.f35 Q w (InR [] []) im (fun _ _ => False) (fun _ => True) [] B35) ⟨[(5, .val (.slv p1 q1 c1)), (6, .val v6), (7, .val (eV 2 (asc (l1 ++ l2) (k + 1)).length 1)), (8, .val (.int .i64 (.nat (k + 1))))], [⟨true, cbx, none⟩, ⟨true, [], none⟩, ⟨true, bytL (asc (l1 ++ l2) (k + 1)), none⟩]⟩ ac w'
      rw [hsn, ← hc3, List.length_append, ← hla]
      exact At.again hf hS (by repeat first | exact trivial | refine ⟨⟨_, rfl, .inl ⟨rfl, by first | rfl | assumption⟩⟩, ?_⟩ | refine ⟨⟨_, rfl, .inr ⟨_, rfl, rfl⟩⟩, ?_⟩ | refine ⟨⟨_, rfl, .inr ⟨_, rfl, by simp (disch := omega) [SV.den, SI.den, wrapU, wrapD] <;> omega⟩⟩, ?_⟩ | refine ⟨⟨_, rfl, .inr ⟨_, rfl, by simp [SV.den, SI.den, IntKind.wrap, IntKind.bits, IntKind.signed] <;> omega⟩⟩, ?_⟩) ⟨fun h => h, SubC.refl hcb, rfl, fun h => h, trivial, rfl, fun h => h, SubC.refl (hc3d _), rfl, trivial⟩
    · simp only [SB.F] at hF'
      have hm : ¬ (k : Int) ∈ l1 ++ l2 := by
        rw [List.mem_append]
        rintro (h | h)
        · rw [hb1, decide_eq_true h] at hF'; exact absurd hF'.1 (by decide)
        · rw [hb2, decide_eq_true h] at hF'; exact absurd hF'.2 (by decide)
      rw [if_neg hm] at hsn
      refine X.go T35_ok 400 _ rfl Tryz.results35 ?_
      conv => arg 2; cbv
      refine X.back (fun N ac w' hN hf hS => hqq ⟨k + 1, hlt⟩ ac w' (by simp only; omega) ?_)
      show Eng.At (mkE Tryz.prog Tryz.f35 Q w (InR [] []) im (fun _ _ => False) (fun _ => True) [] B35) ⟨[(5, .val (.slv p1 q1 c1)), (6, .val v6), (7, .val (eV 2 (asc (l1 ++ l2) (k + 1)).length 1)), (8, .val (.int .i64 (.nat (k + 1))))], [⟨true, cbx, none⟩, ⟨true, [], none⟩, ⟨true, bytL (asc (l1 ++ l2) (k + 1)), none⟩]⟩ ac w'
      rw [hsn, ← hla, ← hva, ← hca]
      exact At.again hf hS (by repeat first | exact trivial | refine ⟨⟨_, rfl, .inl ⟨rfl, by first | rfl | assumption⟩⟩, ?_⟩ | refine ⟨⟨_, rfl, .inr ⟨_, rfl, rfl⟩⟩, ?_⟩ | refine ⟨⟨_, rfl, .inr ⟨_, rfl, by simp (disch := omega) [SV.den, SI.den, wrapU, wrapD] <;> omega⟩⟩, ?_⟩ | refine ⟨⟨_, rfl, .inr ⟨_, rfl, by simp [SV.den, SI.den, IntKind.wrap, IntKind.bits, IntKind.signed] <;> omega⟩⟩, ?_⟩) ⟨fun h => h, SubC.refl hcb, rfl, fun h => h, trivial, rfl, fun h => h, SubC.refl (hcab _), rfl, trivial⟩
  · simp only [SB.F, SI.den] at hge
    have hk2 : k = 256 := by omega
    have hAF : A = F := by rw [hA, hk2, hF]
    refine X.go T35_ok 400 _ rfl Tryz.results35 ?_
    conv => arg 2; cbv
    refine X.done T35_ok rfl (fun N w' v hN hS hv => ?_)
    rw [hQ, ← hAF, ← hca]
    exact roR_of hS (r := 2) (z := 1) rfl (fun c hc N N' v h => bytL_den (by rw [← hca]; exact hc) h) (by rw [← hla, ← hva]; exact hv)
end Go.Proofs.YthaffebapmkppaaGreat

namespace Go.Proofs.YthaffebapmkppaaGreat
open Go Go.Eng Go.Sort
theorem RoR.inB {l : List Int} {b o q : Nat} {w w' : World} (h2 : 0 < l.length → w.heap.size ≤ b) (h4 : ∀ j, j < l.length → w'.cell? ⟨b, o + j, none⟩ = some (.int .u8 l[j]!)) (hq : q = l.length) {im : Mem} (hnew : ∀ k o v, w.heap.size ≤ k → w'.cell? ⟨k, o, none⟩ = some v → im k o = some v) : ∀ w2 : World, (∀ k o v, im k o = some v → w2.cell? ⟨k, o, none⟩ = some v) → InB (some ⟨b, o, none⟩) q l.toArray w2 := fun w2 h => ⟨by simp [hq], fun h0 => ⟨b, o, rfl, fun j hj => by
  have hj : j < l.length := by simpa using hj
  have := h _ _ _ (hnew _ _ _ (h2 (by omega)) (h4 j hj))
  simpa [hj] using this⟩⟩
set_option maxHeartbeats 8000000 in
set_option maxRecDepth 100000 in
set_option cbv.maxSteps 100000000 in
theorem ckeepers10_ok (C : Nat) (po pn : Option Addr) (no nn co cn : Nat) (o n : Array Int) (key : Int) (w : World) (hno : no ≤ 100) (hnn : nn ≤ 100) (ho : InB po no o w) (hn : InB pn nn n w) (hbo : ∀ x ∈ o.toList, 0 ≤ x ∧ x < 256) (hbn : ∀ x ∈ n.toList, 0 ≤ x ∧ x < 256) :
    Calls Tryz.prog 35 #[.agg #[.int .u64 C, .slice po no co, .slice pn nn cn], .int .u8 key] w (RoR (bytL (keepC C o n key)) (keepC C o n key).length w) := by
  obtain ⟨F, hF⟩ : ∃ F, F = keepC C o n key := ⟨_, rfl⟩
  have hFa : asc (ringsL C o n key).flatten 256 = F := by rw [hF]; exact keepC_asc hbo hbn
  obtain ⟨Q, hQ⟩ : ∃ Q : Ending → World → Prop, Q = RoR (bytL F) F.length w := ⟨_, rfl⟩
  rw [← hF, ← hQ]
  refine X.begin (rg := []) (N := []) (ss := [.agg [.int .u64 (.nat C), .slv po no co, .slv pn nn cn], .int .u8 (.v key)]) Tryz.func35 rfl B35_ok rfl rfl Sat.std0 ?_
  refine X.go T35_ok 400 _ rfl Tryz.results35 ?_
  conv => arg 2; cbv
  refine X.call rfl rfl rfl rfl Tryz.call64 (fun N w1 args hN hS ha => ?_)
  have ha : args = [.slice pn nn cn, .int .u8 key] := (Option.some.inj ha).symm
  rw [ha]
  refine (of9_ok pn nn cn n key w1 hnn (hn.stays hS.chg.none) hbn).mono fun e w2 hr => ?_
  obtain ⟨b1, y1, c1, he, hfr, hcell, hch⟩ := hr.byt
  have hl3 := ofL_3 n key
  obtain ⟨l1, hl1⟩ : ∃ l, l = ofL n key := ⟨_, rfl⟩
  obtain ⟨q1, hq1⟩ : ∃ q, q = l1.length := ⟨_, rfl⟩
  rw [← hl1] at hfr hcell he hl3
  rw [← hq1] at he
  refine ⟨_, he, Goes.newMem hN hS hch (r := .slv (some ⟨b1, y1, none⟩) q1 c1) rfl rfl (fun hold hnew => ?_)⟩
  obtain ⟨im, him⟩ : ∃ im, im = imNew (elsewhere [] [] w) w1 w2 := ⟨_, rfl⟩
  have hB1 := RoR.inB hfr hcell hq1 (im := im) (by rw [him]; exact hnew)
  have hoM : ∀ w' : World, (∀ k o v, im k o = some v → w'.cell? ⟨k, o, none⟩ = some v) → InB po no o w' := fun w' h => ho.im fun k o v hv => h _ _ _ (by rw [him]; exact hold _ _ _ hv)
  obtain ⟨p1, hp1⟩ : ∃ p, p = some (Addr.mk b1 y1 none) := ⟨_, rfl⟩
  show X (mkE Tryz.prog Tryz.f35 Q w (InR [] []) (imNew (elsewhere [] [] w) w1 w2) (fun _ _ => False) (fun _ => True) [] B35) _ _
  rw [← hp1] at hB1
  rw [← him, ← hp1]
  clear him hold hnew hr hch he ha hS hN hcell hfr
  refine X.go T35_ok 400 _ rfl Tryz.results35 ?_
  conv => arg 2; cbv
  refine X.cond rfl (fun hT => ?_) (fun hF' => ?_)
  · simp only [SB.T, SI.den] at hT
    have hc : C % 2 = 1 := by rw [Int.tmod_eq_emod_of_nonneg (by omega)] at hT; omega
    have hrl : (ringsL C o n key).flatten = l1 ++ ofL o key := by rw [ringsL, if_pos hc, hl1]; simp
    rw [hrl] at hFa
    refine X.go T35_ok 400 _ rfl Tryz.results35 ?_
    conv => arg 2; cbv
    refine X.call rfl rfl rfl rfl Tryz.call64 (fun N w3 args hN hS ha => ?_)
    have ha : args = [.slice po no co, .int .u8 key] := (Option.some.inj ha).symm
    rw [ha]
    refine (of9_ok po no co o key w3 hno (hoM w3 hS.imm) hbo).mono fun e w4 hr => ?_
    obtain ⟨b2, y2, c2, he, hfr, hcell, hch⟩ := hr.byt
    have hl3' := ofL_3 o key
    obtain ⟨l2, hl2⟩ : ∃ l, l = ofL o key := ⟨_, rfl⟩
    obtain ⟨q2, hq2⟩ : ∃ q, q = l2.length := ⟨_, rfl⟩
    rw [← hl2] at hfr hcell he hl3' hFa
    rw [← hq2] at he
    refine ⟨_, he, Goes.newMem hN hS hch (r := .slv (some ⟨b2, y2, none⟩) q2 c2) rfl rfl (fun hold hnew => ?_)⟩
    obtain ⟨im2, him2⟩ : ∃ im2, im2 = imNew im w3 w4 := ⟨_, rfl⟩
    have hB2 := RoR.inB hfr hcell hq2 (im := im2) (by rw [him2]; exact hnew)
    have hold2 : ∀ k o v, im k o = some v → im2 k o = some v := by rw [him2]; exact hold
    obtain ⟨p2, hp2⟩ : ∃ p, p = some (Addr.mk b2 y2 none) := ⟨_, rfl⟩
    show X (mkE Tryz.prog Tryz.f35 Q w (InR [] []) (imNew im w3 w4) (fun _ _ => False) (fun _ => True) [] B35) _ _
    rw [← hp2] at hB2
    rw [← him2, ← hp2]
    clear him2 hold hnew hr hch he ha hS hN hcell hfr
    refine X.go T35_ok 2 _ rfl Tryz.results35 ?_
    conv => arg 2; cbv
    refine X.less [5, 6] ?_
    exact keep10_loop p1 q1 c1 q2 l1 l2 F (.slv p2 q2 c2) w im2 Q hQ hq1 hq2 (by omega) (by omega) (fun w' h => hB1 w' fun k o v hv => h _ _ _ (hold2 _ _ _ hv)) (fun N v hv => ⟨p2, c2, (Option.some.inj hv).symm, hB2⟩) rfl rfl [.int .u64 (.nat C), .slv po no co, .slv pn nn cn] rfl rfl hFa
  · simp only [SB.F, SI.den] at hF'
    have hc : ¬ C % 2 = 1 := by rw [Int.tmod_eq_emod_of_nonneg (by omega)] at hF'; omega
    have hrl : (ringsL C o n key).flatten = l1 ++ [] := by rw [ringsL, if_neg hc, hl1]; simp
    rw [hrl] at hFa
    refine X.go T35_ok 1 _ rfl Tryz.results35 ?_
    conv => arg 2; cbv
    refine X.less [5, 6] ?_
    refine keep10_loop p1 q1 c1 0 l1 [] F (.osl 1 0 0 1 (some 0)) w im Q hQ hq1 rfl (by omega) (by omega) hB1 (fun N v hv => ?_) rfl rfl [.int .u64 (.nat C), .slv po no co, .slv pn nn cn] rfl rfl hFa
    simp only [SV.den] at hv
    split at hv
    · rename_i p hp
      exact ⟨_, _, (Option.some.inj hv).symm, fun w' _ => ⟨rfl, fun h => absurd h (Nat.lt_irrefl 0)⟩⟩
    · cases hv
def allC (C : Nat) (o n : Array Int) (key : Int) (s : Nat) : Prop := mayC C o n ∧ ∀ x ∈ keepC C o n key, s.testBit x.toNat = true
theorem andNot_zero (a b : Nat) (ha : a < 2 ^ 64) (hb : b < 2 ^ 64) : bitsI .andNot .u64 a b = 0 ↔ ∀ i, i < 64 → a.testBit i = true → b.testBit i = true := by
  show IntKind.u64.wrap (((BitVec.ofInt 64 (a : Int) &&& ~~~ BitVec.ofInt 64 (b : Int)).toNat : Nat) : Int) = 0 ↔ _
  have e1 : (BitVec.ofInt 64 (a : Int)) = BitVec.ofNat 64 a := by simp
  have e2 : (BitVec.ofInt 64 (b : Int)) = BitVec.ofNat 64 b := by simp
  rw [e1, e2]
  obtain ⟨v, hv⟩ : ∃ v, v = (BitVec.ofNat 64 a &&& ~~~ BitVec.ofNat 64 b) := ⟨_, rfl⟩
  rw [← hv, wrapU64 _ v.isLt]
  have h0 : ((v.toNat : Nat) : Int) = 0 ↔ v = 0#64 := by
    rw [← BitVec.toNat_inj]
    simp
  rw [h0]
  constructor
  · intro h i hi h1
    have := congrArg (fun v : BitVec 64 => v.getLsbD i) (hv.symm.trans h)
    simp only [BitVec.getLsbD_and, BitVec.getLsbD_not, BitVec.getLsbD_ofNat, hi, decide_true, Bool.true_and, BitVec.getLsbD_zero, h1] at this
    simpa using this
  · intro h
    rw [hv]
    refine BitVec.eq_of_getLsbD_eq fun i hi => ?_
    have := h i hi
    simp only [BitVec.getLsbD_and, BitVec.getLsbD_not, BitVec.getLsbD_ofNat, hi, decide_true, Bool.true_and, BitVec.getLsbD_zero]
    cases ha' : a.testBit i with
    | false => simp
    | true => simp [this ha']
theorem all_law {C : Nat} {o n : Array Int} {key : Int} {s : Nat} (hs : s < 2 ^ 64) (h : mayC C o n) (hbo : ∀ x ∈ o.toList, 0 ≤ x ∧ x < 256) (hbn : ∀ x ∈ n.toList, 0 ≤ x ∧ x < 256) : bitsI .andNot .u64 (setN (keepC C o n key) : Nat) s = 0 ↔ allC C o n key s := by
  have hk := keepC_64 (key := key) h hbo hbn
  rw [andNot_zero (setN (keepC C o n key)) s (by unfold setN; exact setN_lt _ 0 (by decide)) hs]
  constructor
  · intro h1
    refine ⟨h, fun x hx => ?_⟩
    have := hk x hx
    refine h1 x.toNat (by omega) ?_
    unfold setN
    rw [setN_bit (by omega) _ 0 fun y hy => (hk y hy).1]
    simp [Int.toNat_of_nonneg this.1, hx]
  · rintro ⟨_, h1⟩ i hi h2
    unfold setN at h2
    rw [setN_bit hi _ 0 fun y hy => (hk y hy).1] at h2
    simp at h2
    have := h1 _ h2
    simpa using this
set_option maxHeartbeats 8000000 in
set_option maxRecDepth 100000 in
set_option cbv.maxSteps 100000000 in
theorem all_ok (C s : Nat) (po pn : Option Addr) (no nn co cn : Nat) (o n : Array Int) (key : Int) (w : World) (hno : no ≤ 100) (hnn : nn ≤ 100) (hs : s < 2 ^ 64) (ho : InB po no o w) (hn : InB pn nn n w) (hbo : ∀ x ∈ o.toList, 0 ≤ x ∧ x < 256) (hbn : ∀ x ∈ n.toList, 0 ≤ x ∧ x < 256) :
    Calls Tryz.prog 39 #[.agg #[.int .u64 C, .slice po no co, .slice pn nn cn], .int .u8 key, .int .u64 s] w fun e w' => e = .returned (.bool (B (allC C o n key s))) ∧ Chg (fun _ _ => False) w w' := by
  obtain ⟨Q, hQ⟩ : ∃ Q : Ending → World → Prop, Q = fun e w' => e = .returned (.bool (B (allC C o n key s))) ∧ Chg (fun _ _ => False) w w' := ⟨_, rfl⟩
  rw [← hQ]
  refine X.begin (rg := []) (N := []) (ss := [.agg [.int .u64 (.nat C), .slv po no co, .slv pn nn cn], .int .u8 (.v key), .int .u64 (.nat s)]) Tryz.func39 rfl B39_ok rfl rfl Sat.std0 ?_
  by_cases hmay : mayC C o n
  · skip
    refine X.goP ([(8, .bool (.lit true))]) T39_ok 10 _ rfl Tryz.results39 (fun pr fin hpr hfin => ?_)
    conv => cbv
    refine ⟨hpr _ (.of Tryz.call32 [.agg #[.int .u64 C, .slice po no co, .slice pn nn cn]] (.bool true) (fun _ => rfl) (fun _ => rfl) fun _ w1 him => by rw [← B_pos hmay]; exact cmay_ok C po pn no nn co cn o n w1 (by omega) (by omega) (ho.im him) (hn.im him) hbo hbn), hfin _ _ ?_⟩
    refine X.go T39_ok 400 _ rfl Tryz.results39 ?_
    conv => arg 2; cbv
    refine X.callG rfl rfl rfl rfl Tryz.call67 (fun N w1 args hN hS ha => ?_)
    have ha : args = [.agg #[.int .u64 C, .slice po no co, .slice pn nn cn], .int .u8 key] := (Option.some.inj ha).symm
    rw [ha]
    refine (ckeepers_ok C po pn no nn co cn o n key w1 hno hnn (ho.stays hS.chg.none) (hn.stays hS.chg.none) hbo hbn).mono fun e w2 hr => ?_
    obtain ⟨p1, c1, he, hb1, hch⟩ := hr.new
    have hk6 := keepC_len C o n key
    have hkb := keepC_byte (C := C) (key := key) hbo hbn
    have hlaw := all_law (key := key) hs hmay hbo hbn
    obtain ⟨l1, hl1⟩ : ∃ l, l = keepC C o n key := ⟨_, rfl⟩
    obtain ⟨q1, hq1⟩ : ∃ q, q = l1.length := ⟨_, rfl⟩
    rw [← hl1] at hb1 he hk6 hkb hlaw
    rw [← hq1] at he
    refine ⟨_, he, Goes.newMem hN hS hch (r := .slv p1 q1 c1) rfl rfl (fun hold hnew => ?_)⟩
    obtain ⟨im, him⟩ : ∃ im, im = imNew (elsewhere [] [] w) w1 w2 := ⟨_, rfl⟩
    have hb1 : BytNew l1 0 im p1 c1 := hb1.mono (Nat.zero_le _) fun k o v hk hv => by rw [him]; exact hnew _ _ _ hk hv
    show X (mkE Tryz.prog Tryz.f39 Q w (InR [] []) (imNew (elsewhere [] [] w) w1 w2) (fun _ _ => False) (fun _ => True) [] B39) _ _
    rw [← him]
    clear him hold hnew hr hch he ha hS hN
    obtain ⟨sl, hsl⟩ : ∃ t, t = setN l1 := ⟨_, rfl⟩
    refine X.goP ([(13, .int .u64 (.nat sl))]) T39_ok 400 _ rfl Tryz.results39 (fun pr fin hpr hfin => ?_)
    conv => cbv
    refine ⟨hpr _ (.of Tryz.call63 [.slice p1 q1 c1] (.int .u64 sl) (fun _ => rfl) (fun _ => rfl) fun _ w1 him => by rw [hsl, hq1]; exact set_ok p1 l1.length c1 l1.toArray w1 (by omega) (hb1.inB him) (fun x hx => hkb x (by simpa using hx))), hfin _ _ ?_⟩
    refine X.done T39_ok rfl (fun N w' v hN hS hv => ?_)
    rw [hQ]
    refine ⟨fin_bool hv (den_of ?_), hS.chg.none⟩
    rw [B_iff, ← hlaw, ← hsl]
    simp [SB.T, SI.den]
  · refine X.goP ([(8, .bool (.lit false))]) T39_ok 400 _ rfl Tryz.results39 (fun pr fin hpr hfin => ?_)
    conv => cbv
    refine ⟨hpr _ (.of Tryz.call32 [.agg #[.int .u64 C, .slice po no co, .slice pn nn cn]] (.bool false) (fun _ => rfl) (fun _ => rfl) fun _ w1 him => by rw [← B_neg hmay]; exact cmay_ok C po pn no nn co cn o n w1 (by omega) (by omega) (ho.im him) (hn.im him) hbo hbn), hfin _ _ ?_⟩
    refine X.done T39_ok rfl (fun N w' v hN hS hv => ?_)
    rw [hQ]
    exact ⟨fin_bool hv (by rw [B_neg fun h => hmay h.1]; rfl), hS.chg.none⟩
set_option maxHeartbeats 8000000 in
set_option maxRecDepth 100000 in
set_option cbv.maxSteps 100000000 in
theorem all10_ok (C s : Nat) (po pn : Option Addr) (no nn co cn : Nat) (o n : Array Int) (key : Int) (w : World) (hno : no ≤ 100) (hnn : nn ≤ 100) (hs : s < 2 ^ 64) (ho : InB po no o w) (hn : InB pn nn n w) (hbo : ∀ x ∈ o.toList, 0 ≤ x ∧ x < 256) (hbn : ∀ x ∈ n.toList, 0 ≤ x ∧ x < 256) :
    Calls Tryz.prog 20 #[.agg #[.int .u64 C, .slice po no co, .slice pn nn cn], .int .u8 key, .int .u64 s] w fun e w' => e = .returned (.bool (B (allC C o n key s))) ∧ Chg (fun _ _ => False) w w' := by
  obtain ⟨Q, hQ⟩ : ∃ Q : Ending → World → Prop, Q = fun e w' => e = .returned (.bool (B (allC C o n key s))) ∧ Chg (fun _ _ => False) w w' := ⟨_, rfl⟩
  rw [← hQ]
  refine X.begin (rg := []) (N := []) (ss := [.agg [.int .u64 (.nat C), .slv po no co, .slv pn nn cn], .int .u8 (.v key), .int .u64 (.nat s)]) Tryz.func20 rfl B20_ok rfl rfl Sat.std0 ?_
  refine X.go T20_ok 400 _ rfl Tryz.results20 ?_
  conv => arg 2; cbv
  refine X.call rfl rfl rfl rfl Tryz.call35 (fun N w1 args hN hS ha => ?_)
  have ha : args = [.agg #[.int .u64 C, .slice po no co, .slice pn nn cn], .int .u8 key] := (Option.some.inj ha).symm
  rw [ha]
  refine (ckeepers10_ok C po pn no nn co cn o n key w1 hno hnn (ho.stays hS.chg.none) (hn.stays hS.chg.none) hbo hbn).mono fun e w2 hr => ?_
  obtain ⟨b1, y1, c1, he, hfr, hcell, hch⟩ := hr.byt
  have hk6 := keepC_len C o n key
  have hkb := keepC_byte (C := C) (key := key) hbo hbn
  obtain ⟨l1, hl1⟩ : ∃ l, l = keepC C o n key := ⟨_, rfl⟩
  obtain ⟨q1, hq1⟩ : ∃ q, q = l1.length := ⟨_, rfl⟩
  rw [← hl1] at hfr hcell he hk6 hkb
  rw [← hq1] at he
  refine ⟨_, he, Goes.newMem hN hS hch (r := .slv (some ⟨b1, y1, none⟩) q1 c1) rfl rfl (fun hold hnew => ?_)⟩
  obtain ⟨im, him⟩ : ∃ im, im = imNew (elsewhere [] [] w) w1 w2 := ⟨_, rfl⟩
  have hB1 := RoR.inB hfr hcell hq1 (im := im) (by rw [him]; exact hnew)
  have hoM : ∀ w' : World, (∀ k o v, im k o = some v → w'.cell? ⟨k, o, none⟩ = some v) → InB po no o w' := fun w' h => ho.im fun k o v hv => h _ _ _ (by rw [him]; exact hold _ _ _ hv)
  have hnM : ∀ w' : World, (∀ k o v, im k o = some v → w'.cell? ⟨k, o, none⟩ = some v) → InB pn nn n w' := fun w' h => hn.im fun k o v hv => h _ _ _ (by rw [him]; exact hold _ _ _ hv)
  obtain ⟨p1, hp1⟩ : ∃ p, p = some (Addr.mk b1 y1 none) := ⟨_, rfl⟩
  show X (mkE Tryz.prog Tryz.f20 Q w (InR [] []) (imNew (elsewhere [] [] w) w1 w2) (fun _ _ => False) (fun _ => True) [] B20) _ _
  rw [← hp1] at hB1
  rw [← him, ← hp1]
  clear him hold hnew hr hch he ha hS hN hcell hfr
  obtain ⟨mc, hmc⟩ : ∃ b, b = B (mayC C o n) := ⟨_, rfl⟩
  obtain ⟨k, hk⟩ : ∃ k, k = cntN l1 s := ⟨_, rfl⟩
  refine X.goP ([(12, .bool (.v mc)), (16, .int .i64 (.nat k))]) T20_ok 400 _ rfl Tryz.results20 (fun pr fin hpr hfin => ?_)
  conv => cbv
  refine ⟨hpr _ (.of Tryz.call50 [.slice p1 q1 c1, .int .u64 s] (.int .i64 k) (fun _ => rfl) (fun _ => rfl) fun _ w1 him => by rw [hk]; exact count_ok p1 q1 c1 s l1.toArray w1 (by omega) hs (hB1 w1 him) (fun x hx => hkb x (by simpa using hx))),
    hpr _ (.of Tryz.call7 [.agg #[.int .u64 C, .slice po no co, .slice pn nn cn]] (.bool mc) (fun _ => rfl) (fun _ => rfl) fun _ w1 him => by rw [hmc]; exact cmay10_ok C po pn no nn co cn o n w1 (by omega) (by omega) (hoM w1 him) (hnM w1 him)), hfin _ _ ?_⟩
  refine X.done T20_ok rfl (fun N w' v hN hS hv => ?_)
  rw [hQ]
  refine ⟨fin_bool hv (den_of ?_), hS.chg.none⟩
  rw [B_iff]
  simp only [SB.T, SI.den]
  unfold allC
  rw [← hl1, hmc, B_iff]
  refine and_congr Iff.rfl ?_
  have : k = q1 ↔ ∀ x ∈ l1, s.testBit x.toNat = true := by rw [hk, hq1]; exact List.countP_eq_length
  rw [← this]
  omega
theorem ofL_one (x key : Int) : ofL #[x] key = [x] := by
  have h1 : ofL #[x] key ≠ [] := ofL_pos (by simp)
  have h2 : ∀ y ∈ ofL #[x] key, y = x := fun y hy => by simpa using ofL_sub hy
  have h3 := ofL_lt #[x] key
  cases hl : ofL #[x] key with
  | nil => exact absurd hl h1
  | cons a t =>
    rw [hl] at h2 h3
    have ha := h2 a (by simp)
    cases t with
    | nil => rw [ha]
    | cons b t =>
      have hb := h2 b (by simp)
      have := (List.pairwise_cons.1 h3).1 b (by simp)
      omega
theorem mayC_one : mayC 0 #[] #[3] := ⟨by simp, fun i hi => by
  have : i = 0 := by simp at hi; omega
  subst this
  exact ⟨by decide, fun h => absurd h (by decide)⟩, by simp⟩
theorem keepC_one : keepC 0 #[] #[3] 1 = [3] := by
  have h : ringsL 0 #[] #[3] 1 = [[3]] := by rw [ringsL, if_neg (by decide), ofL_one]
  rw [keepC, h]
  refine lt_eq (ascA_lt _) (by simp) fun y => ?_
  rw [ascA_iff]
  simp
theorem quoC_8 : quoC 0 #[] #[3] 1 8 := ⟨mayC_one, by rw [ofL_one]; unfold maj; decide, fun h => absurd h (by decide)⟩
end Go.Proofs.YthaffebapmkppaaGreat

namespace Go.Proofs.YthaffebapmkppaaGreat
open Go Go.Eng Go.Sort
theorem kinds_conf : kindsOf Tryz.prog 8 25 = some [.int .u64, .slice 5, .slice 5] := by kernel_rfl
theorem nat_wf {z : Int} (h : (Lit.int .u64 z).wf = true) : ∃ n : Nat, z = n ∧ n < 2 ^ 64 := by
  have h : (decide (0 ≤ z) && decide (z ≤ 18446744073709551615)) = true := h
  simp only [Bool.and_eq_true, decide_eq_true_eq] at h
  exact ⟨z.toNat, by omega, by omega⟩
theorem conf_of {W : World} {v : Value} (h : ArgOk Tryz.prog W 25 v) : ∃ (C : Nat) (po pn : Option Addr) (no nn co cn : Nat) (o n : Array Int), v = .agg #[.int .u64 C, .slice po no co, .slice pn nn cn] ∧ InB po no o W ∧ InB pn nn n W ∧ (∀ x ∈ o.toList, 0 ≤ x ∧ x < 256) ∧ ∀ x ∈ n.toList, 0 ≤ x ∧ x < 256 := by
  obtain ⟨cs, rfl, hc⟩ := h.struct Tryz.underlying25 kinds_conf
  obtain ⟨v0, r0, rfl, h0, hc⟩ := CellsOk.cons hc
  obtain ⟨v1, r1, rfl, h1, hc⟩ := CellsOk.cons hc
  obtain ⟨v2, r2, rfl, h2, hc⟩ := CellsOk.cons hc
  have oend := CellsOk.nil hc; subst oend
  obtain ⟨z, rfl, hz⟩ := h0
  obtain ⟨C, rfl, _⟩ := nat_wf hz
  obtain ⟨po, no, co, o, rfl, ho, _, hbo⟩ := bytes_of h1
  obtain ⟨pn, nn, cn, n, rfl, hn, _, hbn⟩ := bytes_of h2
  exact ⟨C, po, pn, no, nn, co, cn, o, n, rfl, ho, hn, hbo, hbn⟩
end Go.Proofs.YthaffebapmkppaaGreat

namespace Go.Proofs.YthaffebapmkppaaGreat
open Go Go.Eng Go.Sort
set_option maxHeartbeats 4000000 in
set_option maxRecDepth 100000 in
set_option cbv.maxSteps 100000000 in
theorem none_ok (a b c : Int) (w : World) : Calls Tryz.prog 33 #[.agg #[.int .u64 a, .int .u8 b, .int .u32 c]] w fun e w' => e = .returned (.bool (decide (a = 0 ∧ b = 0 ∧ c = 0))) ∧ Chg (fun _ _ => False) w w' := by
  refine X.begin (rg := []) (N := []) (ss := [.agg [.int .u64 (.v a), .int .u8 (.v b), .int .u32 (.v c)]]) Tryz.func33 rfl B33_ok rfl rfl Sat.std0 ?_
  refine X.go T33_ok 400 _ rfl Tryz.results33 ?_
  conv => arg 2; cbv
  refine X.done T33_ok rfl (fun N w' v hN hS hv => ⟨fin_bool hv ?_, hS.chg.mono fun k o _ h => inR_nil h⟩)
  simp only [SB.den, SI.den]
  by_cases h1 : a = 0 <;> by_cases h2 : b = 0 <;> by_cases h3 : c = 0 <;> simp [h1, h2, h3]
set_option maxHeartbeats 8000000 in
set_option maxRecDepth 100000 in
set_option cbv.maxSteps 100000000 in
theorem index8_ok (p : Option Addr) (n c : Nat) (d : Array Int) (z : Int) (w : World) (hle : n ≤ 100000) (hA : InB p n d w) : Calls Tryz.prog 96 #[.slice p n c, .int .u8 z] w fun e w' => (∃ r : Int, e = .returned (.int .i64 r) ∧ (0 ≤ r ↔ z ∈ d.toList)) ∧ Chg (fun _ _ => False) w w' := by
  have hn := hA.1
  obtain ⟨Q, hQ⟩ : ∃ Q : Ending → World → Prop, Q = fun e w' => (∃ r : Int, e = .returned (.int .i64 r) ∧ (0 ≤ r ↔ z ∈ d.toList)) ∧ Chg (fun _ _ => False) w w' := ⟨_, rfl⟩
  rw [← hQ]
  refine X.begin (rg := []) (N := []) (ss := [.slv p n c, .int .u8 (.v z)]) Tryz.func96 rfl B96_ok rfl rfl Sat.std0 ?_
  refine X.go T96_ok 400 _ rfl Tryz.results96 ?_
  conv => arg 2; cbv
  refine X.loop (fun _ : {i : Nat // i ≤ n ∧ ¬ z ∈ d.toList.take i} => mkE Tryz.prog Tryz.f96 Q w (InR [] []) (elsewhere [] [] w) (fun _ _ => False) (fun _ => True) [] B96)
    (fun g => ⟨[(0, .val (.slv p n c)), (1, .val (.int .u8 (.v z))), (7, .val (.int .i64 (.nat n))), (8, .val (.int .i64 (.nat g.1)))], []⟩) (fun g => n - g.1) (fun _ => ⟨rfl, rfl, rfl, rfl⟩) (fun N ac w' hN hf hS => ⟨⟨0, Nat.zero_le _, by simp⟩, ?_⟩) (fun g q hq => ?_)
  · exact At.again hf hS (by repeat first | exact trivial | refine ⟨⟨_, rfl, .inl ⟨rfl, rfl⟩⟩, ?_⟩ | refine ⟨⟨_, rfl, .inr ⟨_, rfl, rfl⟩⟩, ?_⟩ | refine ⟨⟨_, rfl, .inr ⟨_, rfl, by simp (disch := omega) [SV.den, SI.den, wrapU, wrapD] <;> omega⟩⟩, ?_⟩) trivial
  obtain ⟨i, hi, hex⟩ := g
  show X (mkE Tryz.prog Tryz.f96 Q w (InR [] []) (elsewhere [] [] w) (fun _ _ => False) (fun _ => True) [] B96) _ ⟨[(0, .val (.slv p n c)), (1, .val (.int .u8 (.v z))), (7, .val (.int .i64 (.nat n))), (8, .val (.int .i64 (.nat i)))], []⟩
  refine X.go T96_ok 400 _ rfl Tryz.results96 ?_
  conv => arg 2; cbv
  refine X.cond rfl (fun hlt => ?_) (fun hge => ?_)
  · simp only [SB.T, SI.den] at hlt
    have hlt : i < n := by omega
    obtain ⟨b, y, hp, hd⟩ := hA.2 (by omega)
    obtain ⟨x, hx⟩ : ∃ x, x = d[i]! := ⟨_, rfl⟩
    have hxl : d.toList[i]! = x := by rw [hx, getElem!_pos d i (by omega), getElem!_pos d.toList i (by simp; omega)]; simp
    obtain ⟨oi, hoi⟩ : ∃ o, o = y + i := ⟨_, rfl⟩
    have hix : elsewhere [] [] w b (oi + 0) = some (.int .u8 x) := by rw [Nat.add_zero, els_old, hoi, hx]; exact hd i (by omega)
    have hxm : x ∈ d.toList := by rw [← hxl, getElem!_pos d.toList i (by simp; omega)]; exact List.getElem_mem _
    have hsn := take_snoc (l := d.toList) (i := i) (by simp; omega)
    rw [hxl] at hsn
    refine X.goP ([(14, .ext b oi 0), (15, .int .u8 (.v x))]) T96_ok 400 _ rfl Tryz.results96 (fun pr fin hpr hfin => ?_)
    conv => cbv
    refine ⟨hpr _ (ValOk.im1 rfl Tryz.isAgg5 (fun _ => rfl) fun _ => hix), hpr _ (ValOk.at (z := i) rfl rfl (fun _ => rfl) Tryz.underlying23 Tryz.sizeOf5 (fun _ => hlt) hp (by omega)), hfin _ _ ?_⟩
    refine X.cond rfl (fun he => ?_) (fun he => ?_)
    · simp only [SB.T, SI.den] at he
      have hm : z ∈ d.toList := by rw [he]; exact hxm
      refine X.go T96_ok 400 _ rfl Tryz.results96 ?_
      conv => arg 2; cbv
      refine X.done T96_ok rfl (fun N w' v hN hS hv => ?_)
      rw [hQ]
      exact ⟨⟨(i : Int), by rw [← (Option.some.inj hv : _ = v)]; rfl, by simp [hm]⟩, hS.chg.none⟩
    · simp only [SB.F, SI.den] at he
      refine X.go T96_ok 400 _ rfl Tryz.results96 ?_
      conv => arg 2; cbv
      refine X.back (fun N ac w' hN hf hS => hq ⟨i + 1, hlt, by rw [hsn]; simp [hex, he]⟩ ac w' (by simp only; omega) ?_)
      show At (mkE Tryz.prog Tryz.f96 Q w (InR [] []) (elsewhere [] [] w) (fun _ _ => False) (fun _ => True) [] B96) ⟨[(0, .val (.slv p n c)), (1, .val (.int .u8 (.v z))), (7, .val (.int .i64 (.nat n))), (8, .val (.int .i64 (.nat (i + 1))))], []⟩ ac w'
      exact At.again hf hS (by repeat first | exact trivial | refine ⟨⟨_, rfl, .inl ⟨rfl, rfl⟩⟩, ?_⟩ | refine ⟨⟨_, rfl, .inr ⟨_, rfl, rfl⟩⟩, ?_⟩ | refine ⟨⟨_, rfl, .inr ⟨_, rfl, by simp (disch := omega) [SV.den, SI.den, wrapU, wrapD] <;> omega⟩⟩, ?_⟩) trivial
  · simp only [SB.F, SI.den] at hge
    have hm : ¬ z ∈ d.toList := by rw [List.take_of_length_le (by simp; omega)] at hex; exact hex
    refine X.go T96_ok 400 _ rfl Tryz.results96 ?_
    conv => arg 2; cbv
    refine X.done T96_ok rfl (fun N w' v hN hS hv => ?_)
    rw [hQ]
    exact ⟨⟨-1, by rw [← (Option.some.inj hv : _ = v)]; rfl, by simp [hm]⟩, hS.chg.none⟩
set_option maxHeartbeats 4000000 in
set_option maxRecDepth 100000 in
set_option cbv.maxSteps 100000000 in
theorem contains8_ok (p : Option Addr) (n c : Nat) (d : Array Int) (z : Int) (w : World) (hle : n ≤ 100000) (hA : InB p n d w) : Calls Tryz.prog 66 #[.slice p n c, .int .u8 z] w fun e w' => e = .returned (.bool (decide (z ∈ d.toList))) ∧ Chg (fun _ _ => False) w w' := by
  refine X.begin (rg := []) (N := []) (ss := [.slv p n c, .int .u8 (.v z)]) Tryz.func66 rfl B66_ok rfl rfl Sat.std0 ?_
  refine X.go T66_ok 400 _ rfl Tryz.results66 ?_
  conv => arg 2; cbv
  refine X.call rfl rfl rfl rfl Tryz.call96 (fun N w1 args hN hS ha => ?_)
  have ha : args = [.slice p n c, .int .u8 z] := (Option.some.inj ha).symm
  rw [ha]
  refine (index8_ok p n c d z w1 hle (hA.stays hS.chg.none)).mono fun e w2 hR => ?_
  obtain ⟨⟨r, he, hr⟩, hch⟩ := hR
  refine ⟨_, he, Goes.same hN hS hch (r := .int .i64 (.v r)) rfl rfl ?_⟩
  refine X.go T66_ok 400 _ rfl Tryz.results66 ?_
  conv => arg 2; cbv
  refine X.done T66_ok rfl (fun N w' v hN hS hv => ⟨fin_bool hv ?_, hS.chg.mono fun k o _ h => inR_nil h⟩)
  simp only [SB.den, SI.den]
  exact (decide_eq_decide.2 hr)
def regZ : List SV := ti34.zero
def regZV : Value := .agg #[.int .u8 0, .int .u64 0, .int .i64 0, .slice none 0 0, .slice none 0 0, .slice none 0 0, .int .u64 0, .slice none 0 0]
set_option maxRecDepth 1000000 in
theorem mayZ_ok (w : World) : Calls Tryz.prog 49 #[regZV] w fun e w' => e = .returned (.bool true) ∧ Chg (fun _ _ => False) w w' :=
  told_run FALL_ok F49_ok 400 [.agg regZ] rfl rfl (l := [.bool (.lit true)]) (fun _ => rfl) (by kernel_rfl) w
set_option maxRecDepth 1000000 in
theorem cloneZ_ok (w : World) : Calls Tryz.prog 42 #[regZV] w fun e w' => e = .returned regZV ∧ Chg (fun _ _ => False) w w' :=
  told_run FALL_ok F42_ok 400 [.agg regZ] rfl rfl (l := [.agg regZ]) (fun _ => rfl) (by kernel_rfl) w
set_option maxRecDepth 1000000 in
theorem zeroZ_ok (w : World) : Calls Tryz.prog 77 #[regZV] w fun e w' => e = .returned (.bool true) ∧ Chg (fun _ _ => False) w w' :=
  told_run FALL_ok F77_ok 400 [.agg regZ] rfl rfl (l := [.bool (.lit true)]) (fun _ => rfl) (by kernel_rfl) w
def balZ : List SV := [.int .u64 (.lit 0), .int .u8 (.lit 0), .int .u32 (.lit 0)]
def balZV : Value := .agg #[.int .u64 0, .int .u8 0, .int .u32 0]
set_option maxRecDepth 1000000 in
theorem noneZ_ok (w : World) : Calls Tryz.prog 33 #[balZV] w fun e w' => e = .returned (.bool true) ∧ Chg (fun _ _ => False) w w' :=
  told_run FALL_ok F33_ok 400 [.agg balZ] rfl rfl (l := [.bool (.lit true)]) (fun _ => rfl) (by kernel_rfl) w
set_option maxRecDepth 1000000 in
theorem nextZ_ok (a b c : Int) (w : World) : Calls Tryz.prog 78 #[.agg #[.int .u64 a, .int .u8 b, .int .u32 c], balZV] w fun e w' => e = .returned (.bool true) ∧ Chg (fun _ _ => False) w w' :=
  told_run FALL_ok F78_ok 400 [.agg [.int .u64 (.v a), .int .u8 (.v b), .int .u32 (.v c)], .agg balZ] rfl rfl (l := [.bool (.lit true)]) (fun _ => rfl) (by kernel_rfl) w
end Go.Proofs.YthaffebapmkppaaGreat

namespace Go.Proofs.YthaffebapmkppaaGreat
open Go Go.Eng Go.Sort
def msgS (kind fr to key : SI) (C : Nat) (b1 b2 b3 : Int) (ok : Bool) : SV := .agg [.int .u8 kind, .int .u8 fr, .int .u8 to, .int .u8 key, .int .u64 (.nat C), .int .u64 (.v b1), .int .u8 (.v b2), .int .u32 (.v b3), .bool (.lit ok), .int .u64 (.lit 0), .int .u8 (.lit 0), .int .u32 (.lit 0),
  .int .u8 (.lit 0), .int .u64 (.lit 0), .int .i64 (.lit 0), .raw (.slice none 0 0), .raw (.slice none 0 0), .raw (.slice none 0 0), .int .u64 (.lit 0), .raw (.slice none 0 0), .int .u64 (.lit 0), .int .u8 (.lit 0), .int .u32 (.lit 0), .int .u64 (.lit 0)]
def msgV (kind fr to key : Int) (C : Nat) (b1 b2 b3 : Int) (ok : Bool) : Value := .agg #[.int .u8 kind, .int .u8 fr, .int .u8 to, .int .u8 key, .int .u64 C, .int .u64 b1, .int .u8 b2, .int .u32 b3, .bool ok, .int .u64 0, .int .u8 0, .int .u32 0,
  .int .u8 0, .int .u64 0, .int .i64 0, .slice none 0 0, .slice none 0 0, .slice none 0 0, .int .u64 0, .slice none 0 0, .int .u64 0, .int .u8 0, .int .u32 0, .int .u64 0]
set_option maxHeartbeats 8000000 in
set_option maxRecDepth 100000 in
set_option cbv.maxSteps 100000000 in
theorem may4_ok (fr to key : Int) (C : Nat) (b1 b2 b3 : Int) (w : World) : Calls Tryz.prog 43 #[msgV 4 fr to key C b1 b2 b3 true] w fun e w' => e = .returned (.bool (decide (fr < 64 ∧ to < 64 ∧ key < 16 ∧ ¬(b1 = 0 ∧ b2 = 0 ∧ b3 = 0)))) ∧ Chg (fun _ _ => False) w w' := by
  obtain ⟨rr, hrr⟩ : ∃ r, r = decide (fr < 64 ∧ to < 64 ∧ key < 16 ∧ ¬(b1 = 0 ∧ b2 = 0 ∧ b3 = 0)) := ⟨_, rfl⟩
  rw [← hrr]
  refine X.begin (rg := []) (N := []) (ss := [msgS (.lit 4) (.v fr) (.v to) (.v key) C b1 b2 b3 true]) Tryz.func43 rfl B43_ok rfl rfl Sat.std0 ?_
  obtain ⟨nb, hnb⟩ : ∃ b, b = decide (b1 = 0 ∧ b2 = 0 ∧ b3 = 0) := ⟨_, rfl⟩
  refine X.goX ([(19, .bool (.v nb))]) ([]) T43_ok 400 _ rfl Tryz.results43 (fun pr pe fin hpr hpe hfin => ?_)
  conv => cbv
  refine ⟨hpr _ (.of Tryz.call33 [.agg #[.int .u64 b1, .int .u8 b2, .int .u32 b3]] (.bool nb) (fun _ => rfl) (fun _ => rfl) fun _ w1 him => by rw [hnb]; exact none_ok b1 b2 b3 w1), hfin _ _ ?_⟩
  clear hpr hpe hfin
  refine X.cond rfl (fun hT => ?_) (fun hF => ?_)
  · simp only [SB.T, SB.F, SI.den] at hT
    refine X.go T43_ok 400 _ rfl Tryz.results43 ?_
    conv => arg 2; cbv
    refine X.done T43_ok rfl (fun N w' v hN hS hv => ⟨fin_bool hv ?_, hS.chg.mono fun k o _ h => inR_nil h⟩)
    show false = rr
    rw [hrr]
    refine (decide_eq_false ?_).symm
    rintro ⟨h1, h2, h3, h4⟩
    rw [hnb] at hT
    simp only [decide_eq_true_eq] at hT
    omega
  · simp only [SB.T, SB.F, SI.den] at hF
    refine X.goX ([(127, .bool (.lit true)), (132, .bool (.lit true)), (137, .bool (.lit true))]) ([]) T43_ok 400 _ rfl Tryz.results43 (fun pr pe fin hpr hpe hfin => ?_)
    conv => cbv
    refine ⟨hpr _ (.of Tryz.call33 [balZV] (.bool true) (fun _ => rfl) (fun _ => rfl) fun _ w1 him => noneZ_ok w1), hpr _ (.of Tryz.call33 [balZV] (.bool true) (fun _ => rfl) (fun _ => rfl) fun _ w1 him => noneZ_ok w1),
      hpr _ (.of Tryz.call77 [regZV] (.bool true) (fun _ => rfl) (fun _ => rfl) fun _ w1 him => zeroZ_ok w1), hfin _ _ ?_⟩
    refine X.done T43_ok rfl (fun N w' v hN hS hv => ⟨fin_bool hv ?_, hS.chg.mono fun k o _ h => inR_nil h⟩)
    show true = rr
    rw [hrr]
    refine (decide_eq_true ?_).symm
    rw [hnb] at hF
    simp only [decide_eq_false_iff_not] at hF
    exact ⟨by omega, by omega, by omega, by omega⟩
set_option maxHeartbeats 8000000 in
set_option maxRecDepth 100000 in
set_option cbv.maxSteps 100000000 in
theorem may3_ok (key : Int) (C : Nat) (b1 b2 b3 : Int) (w : World) (hk : key < 16) (hb2 : b2 < 64) (hb : ¬(b1 = 0 ∧ b2 = 0 ∧ b3 = 0)) : Calls Tryz.prog 43 #[msgV 3 b2 0 key C b1 b2 b3 false] w fun e w' => e = .returned (.bool true) ∧ Chg (fun _ _ => False) w w' := by
  refine X.begin (rg := []) (N := []) (ss := [msgS (.lit 3) (.v b2) (.lit 0) (.v key) C b1 b2 b3 false]) Tryz.func43 rfl B43_ok rfl rfl Sat.std0 ?_
  refine X.goX ([(19, .bool (.lit false))]) ([]) T43_ok 400 _ rfl Tryz.results43 (fun pr pe fin hpr hpe hfin => ?_)
  conv => cbv
  refine ⟨hpr _ (.of Tryz.call33 [.agg #[.int .u64 b1, .int .u8 b2, .int .u32 b3]] (.bool false) (fun _ => rfl) (fun _ => rfl) fun _ w1 him => by rw [← decide_eq_false hb]; exact none_ok b1 b2 b3 w1), hfin _ _ ?_⟩
  clear hpr hpe hfin
  refine X.cond rfl (fun hT => ?_) (fun hF => ?_)
  · simp only [SB.T, SB.F, SI.den] at hT
    omega
  · refine X.goX ([(107, .bool (.lit true)), (112, .bool (.lit true)), (119, .bool (.lit true))]) ([]) T43_ok 400 _ rfl Tryz.results43 (fun pr pe fin hpr hpe hfin => ?_)
    conv => cbv
    refine ⟨hpr _ (.of Tryz.call33 [balZV] (.bool true) (fun _ => rfl) (fun _ => rfl) fun _ w1 him => noneZ_ok w1), hpr _ (.of Tryz.call49 [regZV] (.bool true) (fun _ => rfl) (fun _ => rfl) fun _ w1 him => mayZ_ok w1),
      hpr _ (.of Tryz.call78 [.agg #[.int .u64 b1, .int .u8 b2, .int .u32 b3], balZV] (.bool true) (fun _ => rfl) (fun _ => rfl) fun _ w1 him => nextZ_ok b1 b2 b3 w1), hfin _ _ ?_⟩
    refine X.done T43_ok rfl (fun N w' v hN hS hv => ⟨fin_bool hv ?_, hS.chg.mono fun k o _ h => inR_nil h⟩)
    rfl
def rndS (key : Int) (C : Nat) (p1 : Option Addr) (n1 c1 : Nat) (p2 : Option Addr) (n2 c2 : Nat) (b1 b2 b3 : Int) (ph : Int) (got : Nat) : List SV := [.int .u8 (.v key), .int .u64 (.nat C), .slv p1 n1 c1, .slv p2 n2 c2, .int .u64 (.v b1), .int .u8 (.v b2), .int .u32 (.v b3), .bool (.lit true), .int .u8 (.lit ph), .int .u64 (.nat got),
  .int .u64 (.lit 0), .int .u8 (.lit 0), .int .u32 (.lit 0), .int .u8 (.lit 0), .int .u64 (.lit 0), .int .i64 (.lit 0), .raw (.slice none 0 0), .raw (.slice none 0 0), .raw (.slice none 0 0), .int .u64 (.lit 0), .raw (.slice none 0 0), .int .u64 (.lit 0), .int .u8 (.lit 0), .int .u32 (.lit 0), .int .u64 (.lit 0)]
def rndV (key : Int) (C : Nat) (p1 : Option Addr) (n1 c1 : Nat) (p2 : Option Addr) (n2 c2 : Nat) (b1 b2 b3 : Int) (ph : Int) (got : Nat) : Value := .agg #[.int .u8 key, .int .u64 C, .slice p1 n1 c1, .slice p2 n2 c2, .int .u64 b1, .int .u8 b2, .int .u32 b3, .bool true, .int .u8 ph, .int .u64 got,
  .int .u64 0, .int .u8 0, .int .u32 0, .int .u8 0, .int .u64 0, .int .i64 0, .slice none 0 0, .slice none 0 0, .slice none 0 0, .int .u64 0, .slice none 0 0, .int .u64 0, .int .u8 0, .int .u32 0, .int .u64 0]
set_option maxHeartbeats 8000000 in
set_option maxRecDepth 100000 in
set_option cbv.maxSteps 100000000 in
theorem message3_ok (key : Int) (C : Nat) (p1 : Option Addr) (n1 c1 : Nat) (p2 : Option Addr) (n2 c2 : Nat) (b1 b2 b3 : Int) (w : World) : Calls Tryz.prog 44 #[rndV key C p1 n1 c1 p2 n2 c2 b1 b2 b3 3 0, .int .u8 3, .int .u8 0] w fun e w' => e = .returned (msgV 3 b2 0 key C b1 b2 b3 false) ∧ Chg (fun _ _ => False) w w' := by
  refine X.begin (rg := []) (N := []) (ss := [.agg (rndS key C p1 n1 c1 p2 n2 c2 b1 b2 b3 3 0), .int .u8 (.lit 3), .int .u8 (.lit 0)]) Tryz.func44 rfl B44_ok rfl rfl Sat.std0 ?_
  refine X.goX ([(25, .agg regZ)]) ([]) T44_ok 400 _ rfl Tryz.results44 (fun pr pe fin hpr hpe hfin => ?_)
  conv => cbv
  refine ⟨hpr _ (.of Tryz.call42 [regZV] regZV (fun _ => rfl) (fun _ => rfl) fun _ w1 him => cloneZ_ok w1), rfl, rfl, hfin _ _ ?_⟩
  refine X.done T44_ok rfl (fun N w' v hN hS hv => ⟨?_, hS.chg.none⟩)
  rw [← (Option.some.inj hv : _ = v)]
  rfl
theorem keep_ne {C : Nat} {o n : Array Int} {key : Int} (h : mayC C o n) : keepC C o n key ≠ [] := fun e => by
  have h1 : ofL n key ≠ [] := ofL_pos h.1
  obtain ⟨x, l, hx⟩ := List.exists_cons_of_ne_nil h1
  have h2 : x ∈ keepC C o n key := keepC_mem.2 (by
    have hm : x ∈ ofL n key := by rw [hx]; exact List.mem_cons_self
    unfold ringsL
    split <;> simp [hm])
  rw [e] at h2
  cases h2
end Go.Proofs.YthaffebapmkppaaGreat

namespace Go.Eng
open Go
theorem vk_binT {E : Env} {N0 : Nums} {rg : List Rg} {f : Fr} {g : GK} {T : Tab} (hT : TabOk E.P T) {op : BinOp} {t ty : TypeId} {x y : Operand} {sx sy r r0 : SV} (hx : evK f g x = some sx) (hy : evK f g y = some sy) (h : binV T op t sx sy = some r0) (hd : g.T → ∀ N v, r0.den N = some v → r.den N = some v) : ValOk E N0 rg f g (.binOp op t x y ty) r := by
  intro ht N ρ o w hN0 hop hρ hV
  have h1 := hρ _ _ hx
  have h2 := hρ _ _ hy
  obtain ⟨v, hv, _⟩ := binV_sound (w := w) hT.ok h1 h2 h x y
  refine ⟨v, hd ht N v hv, fun w' _ => ?_⟩
  obtain ⟨v', hv', hrun⟩ := binV_sound (w := w') hT.ok h1 h2 h x y
  rw [hv] at hv'; cases hv'
  have h3 : ((do eqGuard op t x y (ρ x) (ρ y); binOp op t (ρ x) (ρ y)) : Sem Value).run E.P w' = .ok v w' := hrun
  simp only [execOp, hop]
  rw [Sem.run_bind, h3]
  rfl
theorem vk_eqI {E : Env} {N0 : Nums} {rg : List Rg} {f : Fr} {g : GK} {t ty : TypeId} {x y : Operand} {kd : IntKind} {s1 s2 : SI} (hx : evK f g x = some (.int kd s1)) (hy : evK f g y = some (.int kd s2)) (h : s1.den = s2.den) : ValOk E N0 rg f g (.binOp .eql t x y ty) (.bool (.lit true)) :=
  vk_bin hx hy rfl fun ht N v hv => by
    rw [← hv]
    simp [SV.den, SB.den, SI.den, eqI, h]
end Go.Eng
namespace Go.Proofs.YthaffebapmkppaaGreat
open Go Go.Eng Go.Sort
set_option maxHeartbeats 8000000 in
set_option maxRecDepth 100000 in
set_option cbv.maxSteps 100000000 in
theorem belongs3_ok (key fr : Int) (C : Nat) (p1 : Option Addr) (n1 c1 : Nat) (p2 : Option Addr) (n2 c2 : Nat) (o n : Array Int) (b1 b2 b3 : Int) (got : Nat) (w : World) (hk : key < 16) (hb2 : b2 < 64) (hb : ¬(b1 = 0 ∧ b2 = 0 ∧ b3 = 0)) (hn1 : n1 ≤ 100) (hn2 : n2 ≤ 100) (ho : InB p1 n1 o w) (hn : InB p2 n2 n w) (hbo : ∀ x ∈ o.toList, 0 ≤ x ∧ x < 256) (hbn : ∀ x ∈ n.toList, 0 ≤ x ∧ x < 256) (hmay : mayC C o n) :
    Calls Tryz.prog 38 #[rndV key C p1 n1 c1 p2 n2 c2 b1 b2 b3 3 got, msgV 4 fr b2 key C b1 b2 b3 true] w fun e w' => e = .returned (.bool (decide (fr ∈ keepC C o n key))) ∧ Chg (fun _ _ => False) w w' := by
  have hK64 := keepC_64 (key := key) hmay hbo hbn
  have hKne := keep_ne (key := key) hmay
  have hK6 := keepC_len C o n key
  obtain ⟨K, hK⟩ : ∃ K, K = keepC C o n key := ⟨_, rfl⟩
  rw [← hK] at hK64 hKne hK6 ⊢
  obtain ⟨nk, hnk⟩ : ∃ m, m = K.length := ⟨_, rfl⟩
  obtain ⟨kb, hkb⟩ : ∃ b, b = decide (fr ∈ K) := ⟨_, rfl⟩
  obtain ⟨mb, hmb⟩ : ∃ b, b = decide (fr < 64) := ⟨_, rfl⟩
  obtain ⟨cs, hcs⟩ : ∃ cs, cs = bytL K := ⟨_, rfl⟩
  rw [← hkb]
  have hm4 : ∀ w1 : World, Calls Tryz.prog 43 #[msgV 4 fr b2 key C b1 b2 b3 true] w1 fun e w' => e = .returned (.bool mb) ∧ Chg (fun _ _ => False) w1 w' := fun w1 => by
    have h := may4_ok fr b2 key C b1 b2 b3 w1
    rw [show decide (fr < 64 ∧ b2 < 64 ∧ key < 16 ∧ ¬(b1 = 0 ∧ b2 = 0 ∧ b3 = 0)) = mb from by
      rw [hmb]
      exact decide_eq_decide.2 ⟨fun h => h.1, fun h => ⟨h, hb2, hk, hb⟩⟩] at h
    exact h
  refine X.begin (rg := []) (N := []) (ss := [.agg (rndS key C p1 n1 c1 p2 n2 c2 b1 b2 b3 3 got), msgS (.lit 4) (.v fr) (.v b2) (.v key) C b1 b2 b3 true]) Tryz.func38 rfl B38_ok rfl rfl Sat.std0 ?_
  by_cases hf : fr < 64
  · rw [decide_eq_true hf] at hmb
    subst hmb
    refine X.goX ([(27, .bool (.lit true)), (34, .bool (.lit true)), (41, .bool (.lit true)), (49, .bool (.lit true)), (71, .bool (.lit true)), (59, .bool (.v kb))]) ([(56, ⟨fun rg => .osl rg.length 0 nk 1 none, [], [⟨false, cs, none⟩]⟩)]) T38_ok 400 _ rfl Tryz.results38 (fun pr pe fin hpr hpe hfin => ?_)
    conv => cbv
    refine ⟨hpr _ (.of Tryz.call43 [msgV 4 fr b2 key C b1 b2 b3 true] (.bool true) (fun _ => rfl) (fun _ => rfl) fun _ w1 him => hm4 w1), hpr _ (vk_eqI rfl rfl rfl), hpr _ (vk_binT T38_ok rfl rfl rfl fun _ N v hv => ?_), hpr _ (vk_eqI rfl rfl rfl), hpe _ _ _ _ _ ?_, hpr _ ?_, hpr _ (vk_eqI rfl rfl rfl), hfin _ _ ?_⟩
    · rw [← hv]
      simp [SV.den, SB.den, SI.den, andB, eqI]
    · refine EffOk.call (l := [.agg [.int .u64 (.nat C), .slv p1 n1 c1, .slv p2 n2 c2], .int .u8 (.v key)]) rfl Tryz.call67 fun N w1 args hN hS ha => ?_
      have ha : args = [.agg #[.int .u64 C, .slice p1 n1 c1, .slice p2 n2 c2], .int .u8 key] := (Option.some.inj ha).symm
      rw [ha]
      refine (ckeepers_ok C p1 p2 n1 n2 c1 c2 o n key w1 hn1 hn2 (ho.im hS.imm) (hn.im hS.imm) hbo hbn).mono fun e w' hr => ?_
      rw [← hK] at hr
      obtain ⟨N', v, h1, h2, h3, h4⟩ := (hr.ro hKne).sat Nat.one_pos hS
      exact ⟨v, h1, N', h2, by rw [hnk]; exact h3, by rw [hcs]; exact h4⟩
    · refine fun _ => ⟨Tryz.call66, fun N w1 args hN hS ha => ?_⟩
      obtain ⟨q, hq⟩ : ∃ p, N[2]? = some p := ⟨_, List.getElem?_eq_getElem (by rw [hS.len]; show 2 < 3; omega)⟩
      have ha : args = [.slice (some ⟨q.b, q.o, none⟩) nk q.x, .int .u8 fr] := by
        simp only [SV.denL, SV.den, SI.den, hq, Num.cap, Nat.add_zero, Nat.sub_zero, Nat.div_one, Option.some.injEq] at ha
        exact ha.symm
      rw [ha]
      refine (contains8_ok (some ⟨q.b, q.o, none⟩) nk q.x K.toArray fr w1 (by omega) ⟨by simp [hnk], fun h0 => ⟨q.b, q.o, rfl, fun j hj => ?_⟩⟩).mono fun e w' ⟨he, hch⟩ => ⟨_, he, by rw [hkb]; rfl, hch⟩
      have hj : j < K.length := by simpa using hj
      obtain ⟨v, h1, h2⟩ := hS.cell 2 _ _ rfl hq j (.int .u8 (.v K[j]!)) (by rw [hcs]; simp [bytL, hj])
      simp only [SV.den, SI.den, Option.some.injEq] at h1
      rw [h2, ← h1]
      simp [hj]
    · refine X.done T38_ok rfl (fun N w' v hN hS hv => ⟨fin_bool hv ?_, hS.chg.mono fun k o _ h => inR_nil h⟩)
      rfl
  · rw [decide_eq_false hf] at hmb
    subst hmb
    have hkf : kb = false := by
      rw [hkb]
      exact decide_eq_false fun h => hf (hK64 fr h).2
    subst hkf
    refine X.goX ([(27, .bool (.lit false))]) ([]) T38_ok 400 _ rfl Tryz.results38 (fun pr pe fin hpr hpe hfin => ?_)
    conv => cbv
    refine ⟨hpr _ (.of Tryz.call43 [msgV 4 fr b2 key C b1 b2 b3 true] (.bool false) (fun _ => rfl) (fun _ => rfl) fun _ w1 him => hm4 w1), hfin _ _ ?_⟩
    refine X.done T38_ok rfl (fun N w' v hN hS hv => ⟨fin_bool hv ?_, hS.chg.mono fun k o _ h => inR_nil h⟩)
    rfl
set_option maxHeartbeats 8000000 in
set_option maxRecDepth 100000 in
set_option cbv.maxSteps 100000000 in
theorem belongs4_ok (key fr : Int) (C : Nat) (p1 : Option Addr) (n1 c1 : Nat) (p2 : Option Addr) (n2 c2 : Nat) (b1 b2 b3 : Int) (got : Nat) (w : World) :
    Calls Tryz.prog 38 #[rndV key C p1 n1 c1 p2 n2 c2 b1 b2 b3 4 got, msgV 4 fr b2 key C b1 b2 b3 true] w fun e w' => e = .returned (.bool false) ∧ Chg (fun _ _ => False) w w' := by
  refine X.begin (rg := []) (N := []) (ss := [.agg (rndS key C p1 n1 c1 p2 n2 c2 b1 b2 b3 4 got), msgS (.lit 4) (.v fr) (.v b2) (.v key) C b1 b2 b3 true]) Tryz.func38 rfl B38_ok rfl rfl Sat.std0 ?_
  refine X.go T38_ok 400 _ rfl Tryz.results38 ?_
  conv => arg 2; cbv
  refine X.done T38_ok rfl (fun N w' v hN hS hv => ⟨fin_bool hv ?_, hS.chg.mono fun k o _ h => inR_nil h⟩)
  rfl
end Go.Proofs.YthaffebapmkppaaGreat

namespace Go.Proofs.YthaffebapmkppaaGreat
open Go Go.Eng Go.Sort
set_option maxHeartbeats 1000000 in
set_option maxRecDepth 100000 in
set_option cbv.maxSteps 100000000 in
theorem told3_ok (key fr : Int) (C : Nat) (p1 : Option Addr) (n1 c1 : Nat) (p2 : Option Addr) (n2 c2 : Nat) (o n : Array Int) (b1 b2 b3 : Int) (got : Nat) (w : World) (hk : key < 16) (hb2 : b2 < 64) (hb : ¬(b1 = 0 ∧ b2 = 0 ∧ b3 = 0)) (hn1 : n1 ≤ 100) (hn2 : n2 ≤ 100) (ho : InB p1 n1 o w) (hn : InB p2 n2 n w) (hbo : ∀ x ∈ o.toList, 0 ≤ x ∧ x < 256) (hbn : ∀ x ∈ n.toList, 0 ≤ x ∧ x < 256) (hmay : mayC C o n) (hgot : got < 2 ^ 64) :
    Calls Tryz.prog 14 #[rndV key C p1 n1 c1 p2 n2 c2 b1 b2 b3 3 got, msgV 4 fr b2 key C b1 b2 b3 true] w fun e w' =>
      (fr ∈ keepC C o n key ∧ e = .returned (rndV key C p1 n1 c1 p2 n2 c2 b1 b2 b3 (bif B (allC C o n key (got ||| 2 ^ fr.toNat)) then 4 else 3) (got ||| 2 ^ fr.toNat)) ∨ fr ∉ keepC C o n key ∧ e = .returned (rndV key C p1 n1 c1 p2 n2 c2 b1 b2 b3 3 got)) ∧ Chg (fun _ _ => False) w w' := by
  obtain ⟨Q, hQ⟩ : ∃ Q : Ending → World → Prop, Q = fun e w' =>
      (fr ∈ keepC C o n key ∧ e = .returned (rndV key C p1 n1 c1 p2 n2 c2 b1 b2 b3 (bif B (allC C o n key (got ||| 2 ^ fr.toNat)) then 4 else 3) (got ||| 2 ^ fr.toNat)) ∨ fr ∉ keepC C o n key ∧ e = .returned (rndV key C p1 n1 c1 p2 n2 c2 b1 b2 b3 3 got)) ∧ Chg (fun _ _ => False) w w' := ⟨_, rfl⟩
  rw [← hQ]
  have hK64 := keepC_64 (key := key) hmay hbo hbn
  have hbel : ∀ w1 : World, (∀ k o v, elsewhere [] [] w k o = some v → w1.cell? ⟨k, o, none⟩ = some v) → Calls Tryz.prog 38 #[rndV key C p1 n1 c1 p2 n2 c2 b1 b2 b3 3 got, msgV 4 fr b2 key C b1 b2 b3 true] w1 fun e w' => e = .returned (.bool (decide (fr ∈ keepC C o n key))) ∧ Chg (fun _ _ => False) w1 w' := fun w1 him => belongs3_ok key fr C p1 n1 c1 p2 n2 c2 o n b1 b2 b3 got w1 hk hb2 hb hn1 hn2 (ho.im him) (hn.im him) hbo hbn hmay
  refine X.begin (rg := []) (N := []) (ss := [.agg (rndS key C p1 n1 c1 p2 n2 c2 b1 b2 b3 3 got), msgS (.lit 4) (.v fr) (.v b2) (.v key) C b1 b2 b3 true]) Tryz.func14 rfl B14_ok rfl rfl Sat.std0 ?_
  by_cases hfr : fr ∈ keepC C o n key
  · have h64 := hK64 fr hfr
    obtain ⟨t2, ht2⟩ : ∃ t, t = 2 ^ fr.toNat := ⟨_, rfl⟩
    have ht64 : t2 < 2 ^ 64 := by rw [ht2]; exact Nat.pow_lt_pow_right (by decide) (by omega)
    have hor := bits_or got t2 hgot ht64
    obtain ⟨g2, hg2⟩ : ∃ g, g = got ||| t2 := ⟨_, rfl⟩
    have hg64 : g2 < 2 ^ 64 := by rw [hg2]; exact Nat.or_lt_two_pow hgot ht64
    rw [← ht2, ← hg2] at hQ
    rw [← hg2] at hor
    obtain ⟨ab, hab⟩ : ∃ b, b = B (allC C o n key g2) := ⟨_, rfl⟩
    rw [← hab] at hQ
    cases ab
    · skip
      refine X.goX ([(7, .bool (.lit true)), (22, .int .u64 (.nat t2)), (23, .int .u64 (.nat g2)), (37, .bool (.lit false))]) ([]) T14_ok 400 _ rfl Tryz.results14 (fun pr pe fin hpr hpe hfin => ?_)
      conv => cbv
      refine ⟨hpr _ ?_, hpr _ ?_, hpr _ ?_, hpr _ ?_, hfin _ _ ?_⟩
      · refine .of Tryz.call38 [rndV key C p1 n1 c1 p2 n2 c2 b1 b2 b3 3 got, msgV 4 fr b2 key C b1 b2 b3 true] (.bool true) (fun _ => rfl) (fun _ => rfl) fun _ w1 him => ?_
        have h := hbel w1 him
        rw [decide_eq_true hfr] at h
        exact h
      · rw [ht2]
        exact vk_shl1 rfl rfl rfl rfl (fun _ => by show fr = _; omega) (by omega)
      · refine vk_bin rfl rfl rfl fun _ N v hv => ?_
        rw [← hv]
        show some (Value.int .u64 (g2 : Nat)) = some (Value.int .u64 (bitsI .or .u64 got t2))
        rw [hor]
      · refine .of Tryz.call39 [.agg #[.int .u64 C, .slice p1 n1 c1, .slice p2 n2 c2], .int .u8 key, .int .u64 g2] (.bool false) (fun _ => rfl) (fun _ => rfl) fun _ w1 him => ?_
        rw [hab]
        exact all_ok C g2 p1 p2 n1 n2 c1 c2 o n key w1 hn1 hn2 hg64 (ho.im him) (hn.im him) hbo hbn
      refine X.done T14_ok rfl (fun N w' v hN hS hv => ?_)
      rw [hQ]
      refine ⟨.inl ⟨hfr, ?_⟩, hS.chg.none⟩
      rw [← (Option.some.inj hv : _ = v)]
      rfl
    · skip
      refine X.goX ([(7, .bool (.lit true)), (22, .int .u64 (.nat t2)), (23, .int .u64 (.nat g2)), (37, .bool (.lit true))]) ([]) T14_ok 400 _ rfl Tryz.results14 (fun pr pe fin hpr hpe hfin => ?_)
      conv => cbv
      refine ⟨hpr _ ?_, hpr _ ?_, hpr _ ?_, hpr _ ?_, hfin _ _ ?_⟩
      · refine .of Tryz.call38 [rndV key C p1 n1 c1 p2 n2 c2 b1 b2 b3 3 got, msgV 4 fr b2 key C b1 b2 b3 true] (.bool true) (fun _ => rfl) (fun _ => rfl) fun _ w1 him => ?_
        have h := hbel w1 him
        rw [decide_eq_true hfr] at h
        exact h
      · rw [ht2]
        exact vk_shl1 rfl rfl rfl rfl (fun _ => by show fr = _; omega) (by omega)
      · refine vk_bin rfl rfl rfl fun _ N v hv => ?_
        rw [← hv]
        show some (Value.int .u64 (g2 : Nat)) = some (Value.int .u64 (bitsI .or .u64 got t2))
        rw [hor]
      · refine .of Tryz.call39 [.agg #[.int .u64 C, .slice p1 n1 c1, .slice p2 n2 c2], .int .u8 key, .int .u64 g2] (.bool true) (fun _ => rfl) (fun _ => rfl) fun _ w1 him => ?_
        rw [hab]
        exact all_ok C g2 p1 p2 n1 n2 c1 c2 o n key w1 hn1 hn2 hg64 (ho.im him) (hn.im him) hbo hbn
      refine X.done T14_ok rfl (fun N w' v hN hS hv => ?_)
      rw [hQ]
      refine ⟨.inl ⟨hfr, ?_⟩, hS.chg.none⟩
      rw [← (Option.some.inj hv : _ = v)]
      rfl
  · refine X.goX ([(7, .bool (.lit false))]) ([]) T14_ok 400 _ rfl Tryz.results14 (fun pr pe fin hpr hpe hfin => ?_)
    conv => cbv
    refine ⟨hpr _ ?_, hfin _ _ ?_⟩
    · refine .of Tryz.call38 [rndV key C p1 n1 c1 p2 n2 c2 b1 b2 b3 3 got, msgV 4 fr b2 key C b1 b2 b3 true] (.bool false) (fun _ => rfl) (fun _ => rfl) fun _ w1 him => ?_
      have h := hbel w1 him
      rw [decide_eq_false hfr] at h
      exact h
    refine X.done T14_ok rfl (fun N w' v hN hS hv => ?_)
    rw [hQ]
    refine ⟨.inr ⟨hfr, ?_⟩, hS.chg.none⟩
    rw [← (Option.some.inj hv : _ = v)]
    rfl
set_option maxHeartbeats 1000000 in
set_option maxRecDepth 100000 in
set_option cbv.maxSteps 100000000 in
theorem told4_ok (key fr : Int) (C : Nat) (p1 : Option Addr) (n1 c1 : Nat) (p2 : Option Addr) (n2 c2 : Nat) (b1 b2 b3 : Int) (got : Nat) (w : World) :
    Calls Tryz.prog 14 #[rndV key C p1 n1 c1 p2 n2 c2 b1 b2 b3 4 got, msgV 4 fr b2 key C b1 b2 b3 true] w fun e w' => e = .returned (rndV key C p1 n1 c1 p2 n2 c2 b1 b2 b3 4 got) ∧ Chg (fun _ _ => False) w w' := by
  refine X.begin (rg := []) (N := []) (ss := [.agg (rndS key C p1 n1 c1 p2 n2 c2 b1 b2 b3 4 got), msgS (.lit 4) (.v fr) (.v b2) (.v key) C b1 b2 b3 true]) Tryz.func14 rfl B14_ok rfl rfl Sat.std0 ?_
  refine X.goX ([(7, .bool (.lit false))]) ([]) T14_ok 400 _ rfl Tryz.results14 (fun pr pe fin hpr hpe hfin => ?_)
  conv => cbv
  refine ⟨hpr _ (.of Tryz.call38 [rndV key C p1 n1 c1 p2 n2 c2 b1 b2 b3 4 got, msgV 4 fr b2 key C b1 b2 b3 true] (.bool false) (fun _ => rfl) (fun _ => rfl) fun _ w1 him => belongs4_ok key fr C p1 n1 c1 p2 n2 c2 b1 b2 b3 got w1), hfin _ _ ?_⟩
  refine X.done T14_ok rfl (fun N w' v hN hS hv => ?_)
  refine ⟨?_, hS.chg.none⟩
  rw [← (Option.some.inj hv : _ = v)]
  rfl
set_option maxHeartbeats 1000000 in
set_option maxRecDepth 100000 in
set_option cbv.maxSteps 100000000 in
theorem write_ok (key : Int) (C : Nat) (p1 : Option Addr) (n1 c1 : Nat) (p2 : Option Addr) (n2 c2 : Nat) (b1 b2 b3 : Int) (w : World) (hk : key < 16) (hb2 : b2 < 64) (hb : ¬(b1 = 0 ∧ b2 = 0 ∧ b3 = 0)) :
    Calls Tryz.prog 15 #[rndV key C p1 n1 c1 p2 n2 c2 b1 b2 b3 2 0, regZV, balZV] w fun e w' => e = .returned (.tuple #[rndV key C p1 n1 c1 p2 n2 c2 b1 b2 b3 3 0, .int .i64 0]) ∧ Chg (fun _ _ => False) w w' := by
  refine X.begin (rg := []) (N := []) (ss := [.agg (rndS key C p1 n1 c1 p2 n2 c2 b1 b2 b3 2 0), .agg regZ, .agg balZ]) Tryz.func15 rfl B15_ok rfl rfl Sat.std0 ?_
  refine X.goX ([(21, msgS (.lit 3) (.v b2) (.lit 0) (.v key) C b1 b2 b3 false), (22, .bool (.lit true)), (26, .agg regZ)]) ([]) T15_ok 400 _ rfl Tryz.results15 (fun pr pe fin hpr hpe hfin => ?_)
  conv => cbv
  refine ⟨rfl, rfl, rfl, rfl, hpr _ ?_, hpr _ ?_, hpr _ ?_, hfin _ _ ?_⟩
  · refine .of Tryz.call44 [rndV key C p1 n1 c1 p2 n2 c2 b1 b2 b3 3 0, .int .u8 3, .int .u8 0] (msgV 3 b2 0 key C b1 b2 b3 false) (fun _ => rfl) (fun _ => rfl) fun _ w1 him => ?_
    exact message3_ok key C p1 n1 c1 p2 n2 c2 b1 b2 b3 w1
  · refine .of Tryz.call43 [msgV 3 b2 0 key C b1 b2 b3 false] (.bool true) (fun _ => rfl) (fun _ => rfl) fun _ w1 him => ?_
    exact may3_ok key C b1 b2 b3 w1 hk hb2 hb
  · refine .of Tryz.call42 [regZV] regZV (fun _ => rfl) (fun _ => rfl) fun _ w1 him => ?_
    exact cloneZ_ok w1
  refine X.done T15_ok rfl (fun N w' v hN hS hv => ⟨?_, hS.chg.none⟩)
  rw [← (Option.some.inj hv : _ = v)]
  rfl
end Go.Proofs.YthaffebapmkppaaGreat

namespace Go.Proofs.YthaffebapmkppaaGreat
open Go Go.Eng Go.Sort
end Go.Proofs.YthaffebapmkppaaGreat

namespace Go.Proofs.YthaffebapmkppaaGreat
open Go Go.Eng Go.Sort
end Go.Proofs.YthaffebapmkppaaGreat

namespace Go.Proofs.YthaffebapmkppaaGreat
open Go Go.Eng Go.Sort
def InM (p : Option Addr) (n : Nat) (l : List Int) (M : Mem) : Prop := n = l.length ∧ (0 < n → ∃ b y, p = some ⟨b, y, none⟩ ∧ ∀ j, j < n → M b (y + j) = some (.int .u8 l[j]!))
theorem InM.nil (p : Option Addr) (M : Mem) : InM p 0 [] M := ⟨rfl, fun h => absurd h (Nat.lt_irrefl 0)⟩
theorem InB.inM {p : Option Addr} {n : Nat} {d : Array Int} {w : World} {M : Mem} (h : InB p n d w) (hM : ∀ k o v, elsewhere [] [] w k o = some v → M k o = some v) : InM p n d.toList M := ⟨by rw [← h.1]; simp, fun h0 => by
  obtain ⟨b, y, h1, h2⟩ := h.2 h0
  have hn := h.1
  refine ⟨b, y, h1, fun j hj => hM _ _ _ ?_⟩
  rw [els_old, h2 j (by omega), getElem!_pos d j (by omega), getElem!_pos d.toList j (by simp; omega)]
  simp⟩
theorem InM.inB {p : Option Addr} {n : Nat} {l : List Int} {M : Mem} (h : InM p n l M) {w : World} (hM : ∀ k o v, M k o = some v → w.cell? ⟨k, o, none⟩ = some v) : InB p n l.toArray w := ⟨by simp [h.1], fun h0 => by
  obtain ⟨b, y, h1, h2⟩ := h.2 h0
  refine ⟨b, y, h1, fun j hj => ?_⟩
  have hj : j < n := by have := h.1; simpa [this] using hj
  rw [hM _ _ _ (h2 j hj)]
  simp [← h.1, hj]⟩
theorem InM.mono {p : Option Addr} {n : Nat} {l : List Int} {M M' : Mem} (h : InM p n l M) (hM : ∀ k o v, M k o = some v → M' k o = some v) : InM p n l M' := ⟨h.1, fun h0 => by
  obtain ⟨b, y, h1, h2⟩ := h.2 h0
  exact ⟨b, y, h1, fun j hj => hM _ _ _ (h2 j hj)⟩⟩
end Go.Proofs.YthaffebapmkppaaGreat

namespace Go.Proofs.YthaffebapmkppaaGreat
open Go Go.Eng Go.Sort
end Go.Proofs.YthaffebapmkppaaGreat

namespace Go.Proofs.YthaffebapmkppaaGreat
open Go Go.Eng Go.Sort
end Go.Proofs.YthaffebapmkppaaGreat

namespace Go.Proofs.YthaffebapmkppaaGreat
open Go Go.Eng Go.Sort
end Go.Proofs.YthaffebapmkppaaGreat

namespace Go.Proofs.YthaffebapmkppaaGreat
open Go Go.Eng Go.Sort
end Go.Proofs.YthaffebapmkppaaGreat

namespace Go.Proofs.YthaffebapmkppaaGreat
open Go Go.Eng Go.Sort
end Go.Proofs.YthaffebapmkppaaGreat

namespace Go.Proofs.YthaffebapmkppaaGreat
open Go Go.Eng Go.Sort
set_option maxHeartbeats 4000000 in
set_option maxRecDepth 100000 in
set_option cbv.maxSteps 100000000 in
theorem cloneF_ok (b y n cp : Nat) (l : List Int) (w : World) (hn : l.length = n) (h0 : n ≠ 0) (hle : n ≤ 1000) (hA : ∀ j, j < n → w.cell? ⟨b, y + j, none⟩ = some (.int .u8 l[j]!)) :
    Calls Tryz.prog 34 #[.slice (some ⟨b, y, none⟩) n cp] w (FreshRet (bytL l) n 1 w) := by
  obtain ⟨cs, hcs⟩ : ∃ cs, cs = bytL l := ⟨_, rfl⟩
  have hlen : cs.length = n := by rw [hcs, bytL_len, hn]
  rw [← hcs]
  refine X.begin (rg := []) (N := []) (ss := [.slv (some ⟨b, y, none⟩) n cp]) Tryz.func34 rfl B34_ok rfl rfl Sat.std0 ?_
  refine X.addIm [(0, .val (.osl 0 0 n 1 (some cp)))] b y (cs := cs) (by omega) (fun j x hj => ?_) (fun N hN => ?_) ?_
  · rw [hcs] at hj
    have hjl : j < l.length := by have := (List.getElem?_eq_some_iff.1 hj).1; rwa [bytL_len] at this
    obtain rfl : x = .int .u8 (.v l[j]!) := by simpa [bytL, hjl] using hj.symm
    exact ⟨_, fun _ => rfl, by show elsewhere [] [] w b (y + j) = _; rw [els_old]; exact hA j (by omega)⟩
  · obtain rfl : N = [] := List.eq_nil_of_length_eq_zero hN
    refine ⟨rfl, fun x h => ?_, trivial⟩
    simpa [SV.den, Num.cap] using h
  refine X.go T34_ok 16 _ rfl Tryz.results34 ?_
  conv => arg 2; cbv
  apply X.opEq (T := T34) T34_ok
  · exact opE_append (te := ti5) (new := cs) (m := n) rfl rfl rfl rfl rfl rfl rfl rfl (appSrc_row (g := ⟨false, cs, none⟩) rfl rfl rfl (by show cs.length = n * 1; omega))
      (appV_new (te := ti5) rfl h0 (appOk_ok (by decide) rfl (by show cs.length = n * 1; omega) (by rw [hcs]; exact bytL_one) (by show (2 * (0 + n) + 256) * 1 ≤ _; omega) (by omega))) rfl
  refine X.go T34_ok 400 _ rfl Tryz.results34 ?_
  conv => arg 2; cbv
  refine X.done T34_ok rfl (fun N w' v hN hS hv => ?_)
  exact freshRet_of hS (r := 2) rfl (by rw [hlen]; omega) (List.prefix_refl _) (fun c hc N N' v h => bytL_den (by rw [← hcs]; exact hc) h) hv
end Go.Proofs.YthaffebapmkppaaGreat

namespace Go.Proofs.YthaffebapmkppaaGreat
open Go Go.Eng Go.Sort
section
variable {P : Program} {fn : Func} {Q : Ending → World → Prop} {w w' : World} {im : Mem} {D : Nat → Nat → Prop} {Rr : World → Prop} {B : SchT} {N : Nums} {rg rg0 : List Rg} {p1 : Num} {g0 g1 : Rg} {b y K n r : Nat} {cs cs' : List SV} {v : Value}
end
end Go.Proofs.YthaffebapmkppaaGreat

namespace Go.Proofs.YthaffebapmkppaaGreat
open Go Go.Eng Go.Sort
theorem TurnRet.pre {b y K n sz : Nat} {cs cs' : List SV} {w w' : World} {e : Ending} (h : TurnRet b y K cs n sz w e w') (hp : cs' <+: cs) : TurnRet b y K cs' n sz w e w' := by
  obtain ⟨b', y', x', h1, h2, h3, h4, h5, h6, h7⟩ := h
  refine ⟨b', y', x', h1, h2, Nat.le_trans hp.length_le h3, h4, fun j c hj => h5 j c ?_, h6, h7⟩
  obtain ⟨t, rfl⟩ := hp
  rw [List.getElem?_append_left (List.getElem?_eq_some_iff.1 hj).1]
  exact hj
end Go.Proofs.YthaffebapmkppaaGreat

namespace Go.Proofs.YthaffebapmkppaaGreat
open Go Go.Eng Go.Sort
theorem own_inM {P : Program} {fn : Func} {Q : Ending → World → Prop} {w w' : World} {im : Mem} {D : Nat → Nat → Prop} {Rr : World → Prop} {N0 N : Nums} {B : SchT} {rg : List Rg} {r : Nat} {p : Num} {l : List Int} {M : Mem} {m : Nat} (hS : Sat (mkE P fn Q w (InR [] []) im D Rr N0 B).toEnv N rg w') (hr : rg[r]? = some ⟨true, bytL l, none⟩) (hp : N[r]? = some p) (hm : m = l.length)
    (hM : ∀ k o v, w.heap.size ≤ k → w'.cell? ⟨k, o, none⟩ = some v → M k o = some v) : InM (some ⟨p.b, p.o, none⟩) m l M := ⟨hm, fun h0 => ⟨p.b, p.o, rfl, fun j hj => by
  have hx := hS.ext r _ _ hr hp rfl
  simp only [bytL_len] at hx
  have hb : w.heap.size ≤ p.b := by
    rcases hS.foot r _ _ hr hp rfl with h | h
    · exact h
    · exact absurd (h 0 (by omega)) inR_nil
  have hjl : j < l.length := by omega
  obtain ⟨v, h1, h2⟩ := hS.cell r _ _ hr hp j (.int .u8 (.v l[j]!)) (by simp [bytL, hjl])
  simp only [SV.den, SI.den, Option.some.injEq] at h1
  rw [hM _ _ _ hb h2, ← h1]⟩⟩
end Go.Proofs.YthaffebapmkppaaGreat

namespace Go.Proofs.YthaffebapmkppaaGreat
open Go Go.Eng Go.Sort
def rndZV : Value := .agg #[.int .u8 0, .int .u64 0, .slice none 0 0, .slice none 0 0, .int .u64 0, .int .u8 0, .int .u32 0, .bool false, .int .u8 0, .int .u64 0,
  .int .u64 0, .int .u8 0, .int .u32 0, .int .u8 0, .int .u64 0, .int .i64 0, .slice none 0 0, .slice none 0 0, .slice none 0 0, .int .u64 0, .slice none 0 0, .int .u64 0, .int .u8 0, .int .u32 0, .int .u64 0]
def rndZS : List SV := [.int .u8 (.lit 0), .int .u64 (.lit 0), .raw (.slice none 0 0), .raw (.slice none 0 0), .int .u64 (.lit 0), .int .u8 (.lit 0), .int .u32 (.lit 0), .bool (.lit false), .int .u8 (.lit 0), .int .u64 (.lit 0),
  .int .u64 (.lit 0), .int .u8 (.lit 0), .int .u32 (.lit 0), .int .u8 (.lit 0), .int .u64 (.lit 0), .int .i64 (.lit 0), .raw (.slice none 0 0), .raw (.slice none 0 0), .raw (.slice none 0 0), .int .u64 (.lit 0), .raw (.slice none 0 0), .int .u64 (.lit 0), .int .u8 (.lit 0), .int .u32 (.lit 0), .int .u64 (.lit 0)]
def rndAV (al : Bool) (key : Int) (C : Nat) (p1 : Option Addr) (n1 c1 : Nat) (p2 : Option Addr) (n2 c2 : Nat) (b1 b2 b3 : Int) (ph : Int) (got : Nat) : Value := .agg #[.int .u8 key, .int .u64 C, .slice p1 n1 c1, .slice p2 n2 c2, .int .u64 b1, .int .u8 b2, .int .u32 b3, .bool al, .int .u8 ph, .int .u64 got,
  .int .u64 0, .int .u8 0, .int .u32 0, .int .u8 0, .int .u64 0, .int .i64 0, .slice none 0 0, .slice none 0 0, .slice none 0 0, .int .u64 0, .slice none 0 0, .int .u64 0, .int .u8 0, .int .u32 0, .int .u64 0]
def begP (C : Nat) (o n : Array Int) (key b1 b2 b3 : Int) : Prop := mayC C o n ∧ key < 16 ∧ ¬(b1 = 0 ∧ b2 = 0 ∧ b3 = 0) ∧ b2 < 64
def BegR (al : Bool) (C : Nat) (o n : Array Int) (key b1 b2 b3 : Int) (ph : Int) (w : World) : Ending → World → Prop := fun e w' =>
  (begP C o n key b1 b2 b3 ∧ (∃ p1 n1 c1 p2 n2 c2, e = .returned (.tuple #[rndAV al key C p1 n1 c1 p2 n2 c2 b1 b2 b3 ph 0, .int .i64 0]) ∧ ∀ M : Mem, (∀ k o v, w.heap.size ≤ k → w'.cell? ⟨k, o, none⟩ = some v → M k o = some v) → InM p1 n1 o.toList M ∧ InM p2 n2 n.toList M) ∨
    ¬ begP C o n key b1 b2 b3 ∧ e = .returned (.tuple #[rndZV, .int .i64 1])) ∧ Chg (fun _ _ => False) w w'
set_option maxHeartbeats 4000000 in
set_option maxRecDepth 100000 in
set_option cbv.maxSteps 100000000 in
theorem cloneE_ok (a : Addr) (cp : Nat) (w : World) : Calls Tryz.prog 34 #[.slice (some a) 0 cp] w (RoR [] 0 w) := by
  refine X.begin (rg := []) (N := []) (ss := [.slv (some a) 0 cp]) Tryz.func34 rfl B34_ok rfl rfl Sat.std0 ?_
  refine X.go T34_ok 400 _ rfl Tryz.results34 ?_
  conv => arg 2; cbv
  refine X.eqNil false rfl rfl rfl rfl Tryz.underlying23 (fun N _ _ => ⟨_, _, _, rfl, rfl⟩) rfl ?_
  refine X.go T34_ok 400 _ rfl Tryz.results34 ?_
  conv => arg 2; cbv
  refine X.app0 T34_ok rfl rfl rfl rfl rfl rfl rfl rfl rfl rfl (by decide) rfl (by decide) rfl ?_
  refine X.go T34_ok 400 _ rfl Tryz.results34 ?_
  conv => arg 2; cbv
  refine X.done T34_ok rfl (fun N w' v hN hS hv => ?_)
  obtain ⟨p, hp⟩ : ∃ p, N[0]? = some p := ⟨_, List.getElem?_eq_getElem (by rw [hS.len]; simp)⟩
  simp only [resV, SV.den, hp, Num.cap, Option.some.injEq] at hv
  exact ⟨p.b, p.o + 0, _, by rw [← hv], fun h => absurd h (Nat.lt_irrefl 0), hS.lt 0 p hp, fun j c hj => by simp at hj, hS.chg.none⟩
theorem clone_eff {E : Env} {N0 : Nums} {rg : List Rg} {f : Fr} {po : Option Addr} {no co : Nat} {o : Array Int} {t : Nat} {cl : List SV} (hP : E.P = Tryz.prog) (hcl : cl = bytL o.toList) (hp : po ≠ none) (hle : no ≤ 1000) (hno : o.size = no) (hA : 0 < no → ∃ b y, po = some ⟨b, y, none⟩ ∧ ∀ w : World, (∀ k o v, E.im k o = some v → w.cell? ⟨k, o, none⟩ = some v) → ∀ j, j < no → w.cell? ⟨b, y + j, none⟩ = some (.int .u8 o.toList[j]!)) (hev : ev f (.tmp t) = some (.slv po no co)) :
    EffOk E N0 rg f (.call { callee := .value (.func 34), args := #[.tmp t], argTypes := #[23] }) (.osl rg.length 0 no 1 none) (rg ++ [⟨decide (no ≠ 0), cl, none⟩]) := by
  by_cases h0 : no = 0
  · subst h0
    have ho : o = #[] := Array.size_eq_zero_iff.1 hno
    subst ho
    obtain rfl : cl = [] := hcl
    refine EffOk.call (l := [.slv po 0 co]) (by simp [evL, hev]) (by rw [hP]; exact Tryz.call34) fun N w1 args hN hS ha => ?_
    simp only [SV.denL, SV.den, Option.some.injEq] at ha
    rw [← ha, hP]
    cases po with
    | none => exact absurd rfl hp
    | some a =>
      refine (cloneE_ok a co w1).mono fun e w' hr => ?_
      obtain ⟨N', v, h1, h2, h3, h4⟩ := hr.sat Nat.one_pos hS
      exact ⟨v, h1, N', h2, h3, h4⟩
  · rw [decide_eq_true h0]
    obtain ⟨b, y, rfl, hB⟩ := hA (by omega)
    refine EffOk.fresh (l := [.slv (some ⟨b, y, none⟩) no co]) (by simp [evL, hev]) (by rw [hP]; exact Tryz.call34) fun N w1 args hN hS ha => ?_
    simp only [SV.denL, SV.den, Option.some.injEq] at ha
    rw [← ha, hP, hcl]
    exact cloneF_ok b y no co o.toList w1 (by simp [hno]) h0 hle (hB w1 hS.imm)
def rndO (al : Bool) (key : Int) (C : Nat) (s1 s2 : SV) (b1 b2 b3 : Int) (ph : Int) : List SV := [.int .u8 (.v key), .int .u64 (.nat C), s1, s2, .int .u64 (.v b1), .int .u8 (.v b2), .int .u32 (.v b3), .bool (.lit al), .int .u8 (.lit ph), .int .u64 (.lit 0),
  .int .u64 (.lit 0), .int .u8 (.lit 0), .int .u32 (.lit 0), .int .u8 (.lit 0), .int .u64 (.lit 0), .int .i64 (.lit 0), .raw (.slice none 0 0), .raw (.slice none 0 0), .raw (.slice none 0 0), .int .u64 (.lit 0), .raw (.slice none 0 0), .int .u64 (.lit 0), .int .u8 (.lit 0), .int .u32 (.lit 0), .int .u64 (.lit 0)]
set_option maxHeartbeats 8000000 in
set_option maxRecDepth 100000 in
set_option cbv.maxSteps 100000000 in
theorem begin_ok (al : Bool) (key : Int) (C : Nat) (po pn : Option Addr) (no nn co cn : Nat) (o n : Array Int) (b1 b2 b3 : Int) (w : World) (hno : no ≤ 100) (hnn : nn ≤ 100) (ho : InB po no o w) (hn : InB pn nn n w) (hbo : ∀ x ∈ o.toList, 0 ≤ x ∧ x < 256) (hbn : ∀ x ∈ n.toList, 0 ≤ x ∧ x < 256) :
    Calls Tryz.prog 11 #[.agg #[.int .u64 C, .slice po no co, .slice pn nn cn], .int .u8 key, .agg #[.int .u64 b1, .int .u8 b2, .int .u32 b3], .bool al] w (BegR al C o n key b1 b2 b3 1 w) := by
  obtain ⟨Q, hQ⟩ : ∃ Q : Ending → World → Prop, Q = BegR al C o n key b1 b2 b3 1 w := ⟨_, rfl⟩
  rw [← hQ]
  refine X.begin (rg := []) (N := []) (ss := [.agg [.int .u64 (.nat C), .slv po no co, .slv pn nn cn], .int .u8 (.v key), .agg [.int .u64 (.v b1), .int .u8 (.v b2), .int .u32 (.v b3)], .bool (.lit al)]) Tryz.func11 rfl B11_ok rfl rfl Sat.std0 ?_
  obtain ⟨mb, hmb⟩ : ∃ b, b = B (mayC C o n) := ⟨_, rfl⟩
  obtain ⟨nb, hnb⟩ : ∃ b, b = decide (b1 = 0 ∧ b2 = 0 ∧ b3 = 0) := ⟨_, rfl⟩
  have hmc : ∀ w1 : World, (∀ k o v, elsewhere [] [] w k o = some v → w1.cell? ⟨k, o, none⟩ = some v) → Calls Tryz.prog 32 #[.agg #[.int .u64 C, .slice po no co, .slice pn nn cn]] w1 fun e w' => e = .returned (.bool mb) ∧ Chg (fun _ _ => False) w1 w' := fun w1 him => by
    rw [hmb]; exact cmay_ok C po pn no nn co cn o n w1 (by omega) (by omega) (ho.im him) (hn.im him) hbo hbn
  cases mb
  · skip
    refine X.goX ([(12, .bool (.lit false))]) ([]) T11_ok 400 _ rfl Tryz.results11 (fun pr pe fin hpr hpe hfin => ?_)
    conv => cbv
    refine ⟨hpr _ ?_, hfin _ _ ?_⟩
    · exact .of Tryz.call32 [.agg #[.int .u64 C, .slice po no co, .slice pn nn cn]] (.bool false) (fun _ => rfl) (fun _ => rfl) fun _ w1 him => hmc w1 him
    refine X.done T11_ok rfl (fun N w' v hN hS hv => ?_)
    rw [hQ]
    refine ⟨.inr ⟨fun h => ?_, ?_⟩, hS.chg.none⟩
    · rw [B_pos h.1] at hmb; cases hmb
    · rw [← (Option.some.inj hv : _ = v)]
      rfl
  have hmay : mayC C o n := B_iff.1 hmb.symm
  refine X.goX ([(12, .bool (.lit true)), (20, .bool (.v nb))]) ([]) T11_ok 400 _ rfl Tryz.results11 (fun pr pe fin hpr hpe hfin => ?_)
  conv => cbv
  refine ⟨hpr _ ?_, hpr _ ?_, hfin _ _ ?_⟩
  · exact .of Tryz.call32 [.agg #[.int .u64 C, .slice po no co, .slice pn nn cn]] (.bool true) (fun _ => rfl) (fun _ => rfl) fun _ w1 him => hmc w1 him
  · refine .of Tryz.call33 [.agg #[.int .u64 b1, .int .u8 b2, .int .u32 b3]] (.bool nb) (fun _ => rfl) (fun _ => rfl) fun _ w1 him => ?_
    rw [hnb]
    exact none_ok b1 b2 b3 w1
  clear hpr hpe hfin
  refine X.cond rfl (fun hT => ?_) (fun hF => ?_)
  · simp only [SB.T, SB.F, SI.den] at hT
    refine X.go T11_ok 400 _ rfl Tryz.results11 ?_
    conv => arg 2; cbv
    refine X.done T11_ok rfl (fun N w' v hN hS hv => ?_)
    rw [hQ]
    refine ⟨.inr ⟨fun ⟨_, h2, h3, h4⟩ => ?_, ?_⟩, hS.chg.none⟩
    · rcases hT with (h | h) | h
      · omega
      · rw [hnb] at h; exact h3 (of_decide_eq_true h)
      · omega
    · rw [← (Option.some.inj hv : _ = v)]
      rfl
  simp only [SB.T, SB.F, SI.den] at hF
  have hgood : begP C o n key b1 b2 b3 := ⟨hmay, hF.1.1, by have h := hF.1.2; rw [hnb] at h; exact of_decide_eq_false h, hF.2⟩
  clear hF
  have hnn0 : 0 < nn := by have := hmay.1; have := hn.1; omega
  obtain ⟨c1, hc1⟩ : ∃ c, c = bytL o.toList := ⟨_, rfl⟩
  obtain ⟨c2, hc2⟩ : ∃ c, c = bytL n.toList := ⟨_, rfl⟩
  obtain ⟨ow, how⟩ : ∃ b, b = decide (no ≠ 0) := ⟨_, rfl⟩
  have hw1 : decide (nn ≠ 0) = true := decide_eq_true (by omega)
  have hA : ∀ {po no d}, InB po no d w → 0 < no → ∃ b y, po = some ⟨b, y, none⟩ ∧ ∀ w' : World, (∀ k o v, elsewhere [] [] w k o = some v → w'.cell? ⟨k, o, none⟩ = some v) → ∀ j, j < no → w'.cell? ⟨b, y + j, none⟩ = some (.int .u8 d.toList[j]!) := fun {po no d} hd h0 => by
    obtain ⟨b, y, h1, h2⟩ := hd.2 h0
    refine ⟨b, y, h1, fun w' him j hj => ?_⟩
    obtain ⟨b', y', h3, h4⟩ := (hd.im him).2 h0
    rw [h1] at h3; cases h3
    have hs := hd.1
    rw [h4 j (by omega), getElem!_pos d j (by omega), getElem!_pos d.toList j (by simp; omega)]
    simp
  have heff1 : po ≠ none → ∀ {rg : List Rg} {f : Fr} {t : Nat}, ev f (.tmp t) = some (.slv po no co) → EffOk (mkE Tryz.prog Tryz.f11 Q w (InR [] []) (elsewhere [] [] w) (fun _ _ => False) (fun _ => True) [] B11).toEnv [] rg f (.call { callee := .value (.func 34), args := #[.tmp t], argTypes := #[23] }) (.osl rg.length 0 no 1 none) (rg ++ [⟨ow, c1, none⟩]) := fun hp _ _ _ h => by
    rw [how]; exact clone_eff rfl hc1 hp (by omega) ho.1 (hA ho) h
  have hpn : pn ≠ none := by obtain ⟨b, y, h, _⟩ := hn.2 hnn0; rw [h]; simp
  have heff2 : ∀ {rg : List Rg} {f : Fr} {t : Nat}, ev f (.tmp t) = some (.slv pn nn cn) → EffOk (mkE Tryz.prog Tryz.f11 Q w (InR [] []) (elsewhere [] [] w) (fun _ _ => False) (fun _ => True) [] B11).toEnv [] rg f (.call { callee := .value (.func 34), args := #[.tmp t], argTypes := #[23] }) (.osl rg.length 0 nn 1 none) (rg ++ [⟨true, c2, none⟩]) := fun h => by
    rw [← hw1]; exact clone_eff rfl hc2 hpn (by omega) hn.1 (hA hn) h
  have hend : ∀ {N : Nums} {w' : World} {v : Value} {rg : List Rg} (r1 r2 : Nat), Sat (mkE Tryz.prog Tryz.f11 Q w (InR [] []) (elsewhere [] [] w) (fun _ _ => False) (fun _ => True) [] B11).toEnv N rg w' → rg[r1]? = some ⟨ow, c1, none⟩ → rg[r2]? = some ⟨true, c2, none⟩ →
      (resV [.agg (rndO al key C (.osl r1 0 no 1 none) (.osl r2 0 nn 1 none) b1 b2 b3 1), .int .i64 (.lit 0)]).den N = some v → Q (.returned v) w' := fun {N w' v rg} r1 r2 hS h1 h2 hv => by
    obtain ⟨p1, hp1⟩ : ∃ p, N[r1]? = some p := ⟨_, List.getElem?_eq_getElem (by rw [hS.len]; exact (List.getElem?_eq_some_iff.1 h1).1)⟩
    obtain ⟨p2, hp2⟩ : ∃ p, N[r2]? = some p := ⟨_, List.getElem?_eq_getElem (by rw [hS.len]; exact (List.getElem?_eq_some_iff.1 h2).1)⟩
    simp only [resV, rndO, SV.den, SV.denL, SI.den, SB.den, hp1, hp2, one?, if_true, Num.cap, Nat.add_zero, Option.some.injEq] at hv
    rw [hQ]
    refine ⟨.inl ⟨hgood, some ⟨p1.b, p1.o, none⟩, no, _, some ⟨p2.b, p2.o, none⟩, nn, _, congrArg Ending.returned hv.symm, fun M hM => ⟨?_, ?_⟩⟩, hS.chg.none⟩
    · by_cases h0 : no = 0
      · have hs := ho.1
        have : o = #[] := Array.size_eq_zero_iff.1 (by omega)
        subst this
        subst h0
        exact InM.nil _ _
      · refine own_inM hS (r := r1) ?_ hp1 (by simp [ho.1]) hM
        rw [h1, how, decide_eq_true h0, hc1]
    · exact own_inM hS (r := r2) (by rw [h2, hc2]) hp2 (by simp [hn.1]) hM
  have hend0 : o = #[] → ∀ {N : Nums} {w' : World} {v : Value} {rg : List Rg} (r2 : Nat), Sat (mkE Tryz.prog Tryz.f11 Q w (InR [] []) (elsewhere [] [] w) (fun _ _ => False) (fun _ => True) [] B11).toEnv N rg w' → rg[r2]? = some ⟨true, c2, none⟩ →
      (resV [.agg (rndO al key C (.raw (.slice none 0 0)) (.osl r2 0 nn 1 none) b1 b2 b3 1), .int .i64 (.lit 0)]).den N = some v → Q (.returned v) w' := fun h0 {N w' v rg} r2 hS h2 hv => by
    obtain ⟨p2, hp2⟩ : ∃ p, N[r2]? = some p := ⟨_, List.getElem?_eq_getElem (by rw [hS.len]; exact (List.getElem?_eq_some_iff.1 h2).1)⟩
    simp only [resV, rndO, SV.den, SV.denL, SI.den, SB.den, hp2, one?, if_true, Num.cap, Nat.add_zero, Option.some.injEq] at hv
    rw [hQ]
    refine ⟨.inl ⟨hgood, none, 0, 0, some ⟨p2.b, p2.o, none⟩, nn, _, congrArg Ending.returned hv.symm, fun M hM => ⟨?_, ?_⟩⟩, hS.chg.none⟩
    · rw [h0]; exact InM.nil _ _
    · exact own_inM hS (r := r2) (by rw [h2, hc2]) hp2 (by simp [hn.1]) hM
  refine X.go T11_ok 400 _ rfl Tryz.results11 ?_
  conv => arg 2; cbv
  by_cases hpo : po = none
  · have hno0 : no = 0 := by
      rcases Nat.eq_zero_or_pos no with h | h
      · exact h
      · obtain ⟨b, y, h, _⟩ := ho.2 h
        rw [hpo] at h; cases h
    have ho0 : o = #[] := Array.size_eq_zero_iff.1 (by rw [ho.1]; exact hno0)
    subst hpo hno0
    refine X.goTX ([(32, .raw (.slice none 0 0))]) ([(35, ⟨fun rg => .osl rg.length 0 nn 1 none, [], [⟨true, c2, none⟩]⟩)]) T11_ok (.q 0 [2, 3, 4, 5, 6, 7, 9] (.q 2 [0, 1, 5, 6, 9] (.q 5 [0, 1, 2, 3, 4, 9] (.q 1 [0, 2, 3, 4, 5, 6, 7, 9] (.q 3 [0, 1, 2, 5, 6, 9] (.q 6 [0, 1, 2, 3, 4, 5, 9] (.two 4 9 (.two 7 9 (.q 8 [0, 1, 2, 3, 4, 5, 6, 7, 9] (.one 9 (.one 10 (.nil)))) (.one 7 (.q 8 [0, 1, 2, 3, 4, 5, 6, 7, 9] (.one 10 (.nil))))) (.one 4 (.one 7 (.q 8 [0, 1, 2, 3, 4, 5, 6, 7, 9] (.one 10 (.nil)))))))))))) _ rfl (by kernel_rfl) (by kernel_rfl) (fun pr pe fin hpr hpe hfin => ?_)
    conv => cbv
    have hcl : ∀ {rg : List Rg}, CallOk (mkE Tryz.prog Tryz.f11 Q w (InR [] []) (elsewhere [] [] w) (fun _ _ => False) (fun _ => True) [] B11).toEnv [] rg .yes 34 [.slv none 0 co] (.raw (.slice none 0 0)) := fun {rg} =>
      .of Tryz.call34 [.slice none 0 co] (.slice none 0 0) (fun _ => rfl) (fun _ => rfl) fun _ w1 him => clone8_nil co w1
    refine ⟨⟨hpr _ hcl, ⟨hpe _ _ _ _ _ (heff2 rfl), rfl, rfl, hfin _ ?_⟩, rfl, hpe _ _ _ _ _ (heff2 rfl), rfl, hfin _ ?_⟩, rfl, hpr _ hcl, hpe _ _ _ _ _ (heff2 rfl), rfl, hfin _ ?_⟩
    · skip
      refine X.go T11_ok 400 _ rfl Tryz.results11 ?_
      conv => arg 2; cbv
      exact X.done T11_ok rfl (fun N w' v hN hS hv => hend0 ho0 3 hS rfl hv)
    · skip
      refine X.go T11_ok 400 _ rfl Tryz.results11 ?_
      conv => arg 2; cbv
      exact X.done T11_ok rfl (fun N w' v hN hS hv => hend0 ho0 4 hS rfl hv)
    · skip
      refine X.go T11_ok 400 _ rfl Tryz.results11 ?_
      conv => arg 2; cbv
      exact X.done T11_ok rfl (fun N w' v hN hS hv => hend0 ho0 4 hS rfl hv)
  · skip
    refine X.goTX ([]) ([(32, ⟨fun rg => .osl rg.length 0 no 1 none, [], [⟨ow, c1, none⟩]⟩), (35, ⟨fun rg => .osl rg.length 0 nn 1 none, [], [⟨true, c2, none⟩]⟩)]) T11_ok (.q 0 [2, 3, 4, 5, 6, 7, 9] (.q 2 [0, 1, 5, 6, 9] (.q 5 [0, 1, 2, 3, 4, 9] (.q 1 [0, 2, 3, 4, 5, 6, 7, 9] (.q 3 [0, 1, 2, 5, 6, 9] (.q 6 [0, 1, 2, 3, 4, 5, 9] (.two 4 9 (.two 7 9 (.q 8 [0, 1, 2, 3, 4, 5, 6, 7, 9] (.one 9 (.one 10 (.nil)))) (.one 7 (.q 8 [0, 1, 2, 3, 4, 5, 6, 7, 9] (.one 10 (.nil))))) (.one 4 (.one 7 (.q 8 [0, 1, 2, 3, 4, 5, 6, 7, 9] (.one 10 (.nil)))))))))))) _ rfl (by kernel_rfl) (by kernel_rfl) (fun pr pe fin hpr hpe hfin => ?_)
    conv => cbv
    refine ⟨⟨hpe _ _ _ _ _ (heff1 hpo rfl), ⟨hpe _ _ _ _ _ (heff2 rfl), rfl, rfl, hfin _ ?_⟩, rfl, hpe _ _ _ _ _ (heff2 rfl), rfl, hfin _ ?_⟩, rfl, hpe _ _ _ _ _ (heff1 hpo rfl), hpe _ _ _ _ _ (heff2 rfl), rfl, hfin _ ?_⟩
    · skip
      refine X.go T11_ok 400 _ rfl Tryz.results11 ?_
      conv => arg 2; cbv
      exact X.done T11_ok rfl (fun N w' v hN hS hv => hend 3 4 hS rfl rfl hv)
    · skip
      refine X.go T11_ok 400 _ rfl Tryz.results11 ?_
      conv => arg 2; cbv
      exact X.done T11_ok rfl (fun N w' v hN hS hv => hend 3 5 hS rfl rfl hv)
    · skip
      refine X.go T11_ok 400 _ rfl Tryz.results11 ?_
      conv => arg 2; cbv
      exact X.done T11_ok rfl (fun N w' v hN hS hv => hend 4 5 hS rfl rfl hv)
set_option maxHeartbeats 8000000 in
set_option maxRecDepth 100000 in
set_option cbv.maxSteps 100000000 in
theorem known_ok (key : Int) (C : Nat) (po pn : Option Addr) (no nn co cn : Nat) (o n : Array Int) (b1 b2 b3 : Int) (w : World) (hno : no ≤ 100) (hnn : nn ≤ 100) (ho : InB po no o w) (hn : InB pn nn n w) (hbo : ∀ x ∈ o.toList, 0 ≤ x ∧ x < 256) (hbn : ∀ x ∈ n.toList, 0 ≤ x ∧ x < 256) :
    Calls Tryz.prog 19 #[.agg #[.int .u64 C, .slice po no co, .slice pn nn cn], .int .u8 key, .agg #[.int .u64 b1, .int .u8 b2, .int .u32 b3], regZV, .bool true] w (BegR true C o n key b1 b2 b3 2 w) := by
  obtain ⟨Q, hQ⟩ : ∃ Q : Ending → World → Prop, Q = BegR true C o n key b1 b2 b3 2 w := ⟨_, rfl⟩
  rw [← hQ]
  refine X.begin (rg := []) (N := []) (ss := [.agg [.int .u64 (.nat C), .slv po no co, .slv pn nn cn], .int .u8 (.v key), .agg [.int .u64 (.v b1), .int .u8 (.v b2), .int .u32 (.v b3)], .agg regZ, .bool (.lit true)]) Tryz.func19 rfl B19_ok rfl rfl Sat.std0 ?_
  refine X.go T19_ok 400 _ rfl Tryz.results19 ?_
  conv => arg 2; cbv
  refine X.call rfl rfl rfl rfl Tryz.call11 (fun N w1 args hN hS ha => ?_)
  have ha : args = [.agg #[.int .u64 C, .slice po no co, .slice pn nn cn], .int .u8 key, .agg #[.int .u64 b1, .int .u8 b2, .int .u32 b3], .bool true] := (Option.some.inj ha).symm
  rw [ha]
  refine (begin_ok true key C po pn no nn co cn o n b1 b2 b3 w1 hno hnn (ho.stays hS.chg.none) (hn.stays hS.chg.none) hbo hbn).mono fun e w2 hR => ?_
  obtain ⟨⟨hgood, p1, n1, c1, p2, n2, c2, he, hmem⟩ | ⟨hbad, he⟩, hch⟩ := hR
  · refine ⟨_, he, Goes.newMem hN hS hch (r := .tup [.agg (rndS key C p1 n1 c1 p2 n2 c2 b1 b2 b3 1 0), .int .i64 (.lit 0)]) rfl rfl (fun hold hnew => ?_)⟩
    obtain ⟨im, him⟩ : ∃ im, im = imNew (elsewhere [] [] w) w1 w2 := ⟨_, rfl⟩
    obtain ⟨M', hM'⟩ : ∃ M' : Mem, M' = fun k o => if w1.heap.size ≤ k then w2.cell? ⟨k, o, none⟩ else none := ⟨_, rfl⟩
    have hin := hmem M' fun k o v hk h => by rw [hM']; simp [hk, h]
    have hMim : ∀ k o v, M' k o = some v → w.heap.size ≤ k ∧ im k o = some v := fun k o v h => by
      rw [hM'] at h
      by_cases hk : w1.heap.size ≤ k
      · simp only [hk, if_true] at h
        exact ⟨Nat.le_trans hS.chg.size hk, by rw [him]; exact hnew _ _ _ hk h⟩
      · simp [hk] at h
    show X (mkE Tryz.prog Tryz.f19 Q w (InR [] []) (imNew (elsewhere [] [] w) w1 w2) (fun _ _ => False) (fun _ => True) [] B19) _ _
    rw [← him]
    clear him hold hnew hch he ha hS hN hmem hM'
    refine X.goX ([(26, .bool (.lit true)), (31, .agg regZ)]) ([]) T19_ok 400 _ rfl Tryz.results19 (fun pr pe fin hpr hpe hfin => ?_)
    conv => cbv
    refine ⟨hpr _ (.of Tryz.call49 [regZV] (.bool true) (fun _ => rfl) (fun _ => rfl) fun _ w1 him => mayZ_ok w1), hpr _ (.of Tryz.call42 [regZV] regZV (fun _ => rfl) (fun _ => rfl) fun _ w1 him => cloneZ_ok w1), hfin _ _ ?_⟩
    refine X.done T19_ok rfl (fun N w' v hN hS hv => ?_)
    rw [hQ]
    refine ⟨.inl ⟨hgood, p1, n1, c1, p2, n2, c2, ?_, fun M hM => ?_⟩, hS.chg.none⟩
    · rw [← (Option.some.inj hv : _ = v)]
      rfl
    · have hmm : ∀ k o v, M' k o = some v → M k o = some v := fun k o v h => hM k o v (hMim k o v h).1 (hS.imm _ _ _ (hMim k o v h).2)
      exact ⟨hin.1.mono hmm, hin.2.mono hmm⟩
  · refine ⟨_, he, Goes.same hN hS hch (r := .tup [.agg rndZS, .int .i64 (.lit 1)]) rfl rfl ?_⟩
    clear hch he ha hS hN
    refine X.go T19_ok 400 _ rfl Tryz.results19 ?_
    conv => arg 2; cbv
    refine X.done T19_ok rfl (fun N w' v hN hS hv => ?_)
    rw [hQ]
    refine ⟨.inr ⟨hbad, ?_⟩, hS.chg.none⟩
    rw [← (Option.some.inj hv : _ = v)]
    rfl
end Go.Proofs.YthaffebapmkppaaGreat

namespace Go.Proofs.YthaffebapmkppaaGreat
open Go Go.Eng Go.Sort
def msg2S : List SV := [.int .u8 (.lit 2), .int .u8 (.lit 3), .int .u8 (.lit 2), .int .u8 (.lit 1), .int .u64 (.lit 0), .int .u64 (.lit 1), .int .u8 (.lit 2), .int .u32 (.lit 0), .bool (.lit true), .int .u64 (.lit 0), .int .u8 (.lit 0), .int .u32 (.lit 0),
  .int .u8 (.lit 0), .int .u64 (.lit 0), .int .i64 (.lit 0), .raw (.slice none 0 0), .raw (.slice none 0 0), .raw (.slice none 0 0), .int .u64 (.lit 0), .raw (.slice none 0 0), .int .u64 (.lit 0), .int .u8 (.lit 0), .int .u32 (.lit 0), .int .u64 (.lit 0)]
def rnd2S (p1 : Option Addr) (n1 c1 : Nat) (p2 : Option Addr) (n2 c2 : Nat) (ph got : Int) : List SV := [.int .u8 (.lit 1), .int .u64 (.lit 0), .slv p1 n1 c1, .slv p2 n2 c2, .int .u64 (.lit 1), .int .u8 (.lit 2), .int .u32 (.lit 0), .bool (.lit false), .int .u8 (.lit ph), .int .u64 (.lit got),
  .int .u64 (.lit 0), .int .u8 (.lit 0), .int .u32 (.lit 0), .int .u8 (.lit 0), .int .u64 (.lit 0), .int .i64 (.lit 0), .raw (.slice none 0 0), .raw (.slice none 0 0), .raw (.slice none 0 0), .int .u64 (.lit 0), .raw (.slice none 0 0), .int .u64 (.lit 0), .int .u8 (.lit 0), .int .u32 (.lit 0), .int .u64 (.lit 0)]
set_option maxRecDepth 1000000 in
theorem may2_ok (w : World) : Calls Tryz.prog 43 #[msgV 2 3 2 1 0 1 2 0 true] w fun e w' => e = .returned (.bool true) ∧ Chg (fun _ _ => False) w w' :=
  told_run FALL_ok F43_ok 400 [.agg msg2S] rfl rfl (l := [.bool (.lit true)]) (fun _ => rfl) (by kernel_rfl) w
set_option maxRecDepth 1000000 in
theorem compareZ_ok (w : World) : Calls Tryz.prog 41 #[balZV, balZV] w fun e w' => e = .returned (.int .i64 0) ∧ Chg (fun _ _ => False) w w' :=
  told_run FALL_ok F41_ok 400 [.agg balZ, .agg balZ] rfl rfl (l := [.int .i64 (.lit 0)]) (fun _ => rfl) (by kernel_rfl) w
set_option maxHeartbeats 8000000 in
set_option maxRecDepth 100000 in
set_option cbv.maxSteps 100000000 in
theorem belongs2_ok (p1 : Option Addr) (n1 c1 : Nat) (p2 : Option Addr) (n2 c2 : Nat) (w : World) (ho : InB p1 n1 #[] w) (hn : InB p2 n2 #[3] w) :
    Calls Tryz.prog 38 #[rndAV false 1 0 p1 n1 c1 p2 n2 c2 1 2 0 1 0, msgV 2 3 2 1 0 1 2 0 true] w fun e w' => e = .returned (.bool true) ∧ Chg (fun _ _ => False) w w' := by
  have hb0 : ∀ x ∈ (#[] : Array Int).toList, 0 ≤ x ∧ x < 256 := fun x hx => by simp at hx
  have hb3 : ∀ x ∈ (#[3] : Array Int).toList, 0 ≤ x ∧ x < 256 := fun x hx => by
    obtain rfl : x = 3 := by simpa using hx
    decide
  have hs1 : n1 = 0 := ho.1.symm
  have hs2 : n2 = 1 := hn.1.symm
  refine X.begin (rg := []) (N := []) (ss := [.agg (rnd2S p1 n1 c1 p2 n2 c2 1 0), .agg msg2S]) Tryz.func38 rfl B38_ok rfl rfl Sat.std0 ?_
  refine X.goX ([(27, .bool (.lit true)), (59, .bool (.lit true))]) ([(56, ⟨fun rg => .osl rg.length 0 1 1 none, [], [⟨false, [.int .u8 (.v 3)], none⟩]⟩)]) T38_ok 400 _ rfl Tryz.results38 (fun pr pe fin hpr hpe hfin => ?_)
  conv => cbv
  refine ⟨hpr _ (.of Tryz.call43 [msgV 2 3 2 1 0 1 2 0 true] (.bool true) (fun _ => rfl) (fun _ => rfl) fun _ w1 him => may2_ok w1), hpe _ _ _ _ _ ?_, hpr _ ?_, hfin _ _ ?_⟩
  · refine EffOk.call (l := [.agg [.int .u64 (.lit 0), .slv p1 n1 c1, .slv p2 n2 c2], .int .u8 (.lit 1)]) rfl Tryz.call67 fun N w1 args hN hS ha => ?_
    have ha : args = [.agg #[.int .u64 (0 : Nat), .slice p1 n1 c1, .slice p2 n2 c2], .int .u8 1] := (Option.some.inj ha).symm
    rw [ha]
    refine (ckeepers_ok 0 p1 p2 n1 n2 c1 c2 #[] #[3] 1 w1 (by omega) (by omega) (ho.im hS.imm) (hn.im hS.imm) hb0 hb3).mono fun e w' hr => ?_
    rw [keepC_one] at hr
    obtain ⟨N', v, h1, h2, h3, h4⟩ := (hr.ro (by simp)).sat Nat.one_pos hS
    exact ⟨v, h1, N', h2, h3, h4⟩
  · refine fun _ => ⟨Tryz.call66, fun N w1 args hN hS ha => ?_⟩
    obtain ⟨q, hq⟩ : ∃ p, N[2]? = some p := ⟨_, List.getElem?_eq_getElem (by rw [hS.len]; show 2 < 3; omega)⟩
    have ha : args = [.slice (some ⟨q.b, q.o, none⟩) 1 q.x, .int .u8 3] := by
      simp only [SV.denL, SV.den, SI.den, hq, Num.cap, Nat.add_zero, Nat.sub_zero, Nat.div_one, Option.some.injEq] at ha
      exact ha.symm
    rw [ha]
    refine (contains8_ok (some ⟨q.b, q.o, none⟩) 1 q.x #[3] 3 w1 (by omega) ⟨rfl, fun h0 => ⟨q.b, q.o, rfl, fun j hj => ?_⟩⟩).mono fun e w' ⟨he, hch⟩ => ⟨_, he, rfl, hch⟩
    have hj : j < 1 := hj
    obtain rfl : j = 0 := by omega
    obtain ⟨v, h1, h2⟩ := hS.cell 2 _ _ rfl hq 0 (.int .u8 (.v 3)) rfl
    simp only [SV.den, SI.den, Option.some.injEq] at h1
    rw [h2, ← h1]
    rfl
  · refine X.done T38_ok rfl (fun N w' v hN hS hv => ⟨fin_bool hv ?_, hS.chg.mono fun k o _ h => inR_nil h⟩)
    rfl
set_option maxHeartbeats 8000000 in
set_option maxRecDepth 100000 in
set_option cbv.maxSteps 100000000 in
theorem told2_ok (p1 : Option Addr) (n1 c1 : Nat) (p2 : Option Addr) (n2 c2 : Nat) (w : World) (ho : InB p1 n1 #[] w) (hn : InB p2 n2 #[3] w) :
    Calls Tryz.prog 14 #[rndAV false 1 0 p1 n1 c1 p2 n2 c2 1 2 0 1 0, msgV 2 3 2 1 0 1 2 0 true] w fun e w' => e = .returned (rndAV false 1 0 p1 n1 c1 p2 n2 c2 1 2 0 2 8) ∧ Chg (fun _ _ => False) w w' := by
  have hb0 : ∀ x ∈ (#[] : Array Int).toList, 0 ≤ x ∧ x < 256 := fun x hx => by simp at hx
  have hb3 : ∀ x ∈ (#[3] : Array Int).toList, 0 ≤ x ∧ x < 256 := fun x hx => by
    obtain rfl : x = 3 := by simpa using hx
    decide
  have hs1 : n1 = 0 := ho.1.symm
  have hs2 : n2 = 1 := hn.1.symm
  refine X.begin (rg := []) (N := []) (ss := [.agg (rnd2S p1 n1 c1 p2 n2 c2 1 0), .agg msg2S]) Tryz.func14 rfl B14_ok rfl rfl Sat.std0 ?_
  refine X.goX ([(7, .bool (.lit true)), (23, .int .u64 (.lit 8)), (59, .int .i64 (.lit 0)), (74, .bool (.lit true))]) ([]) T14_ok 400 _ rfl Tryz.results14 (fun pr pe fin hpr hpe hfin => ?_)
  conv => cbv
  refine ⟨hpr _ (.of Tryz.call38 [rndAV false 1 0 p1 n1 c1 p2 n2 c2 1 2 0 1 0, msgV 2 3 2 1 0 1 2 0 true] (.bool true) (fun _ => rfl) (fun _ => rfl) fun _ w1 him => belongs2_ok p1 n1 c1 p2 n2 c2 w1 (ho.im him) (hn.im him)), hpr _ ?_, hpr _ ?_, hpr _ ?_, hfin _ _ ?_⟩
  · refine vk_bin rfl rfl rfl fun _ N v hv => ?_
    rw [← hv]
    rfl
  · exact .of Tryz.call41 [balZV, balZV] (.int .i64 0) (fun _ => rfl) (fun _ => rfl) fun _ w1 him => compareZ_ok w1
  · refine .of Tryz.call40 [.agg #[.int .u64 (0 : Nat), .slice p1 n1 c1, .slice p2 n2 c2], .int .u8 1, .int .u64 (8 : Nat)] (.bool true) (fun _ => rfl) (fun _ => rfl) fun _ w1 him => ?_
    have h := quorum_ok 0 8 p1 p2 n1 n2 c1 c2 #[] #[3] 1 w1 (by omega) (by omega) (by decide) (ho.im him) (hn.im him) hb0 hb3
    rw [B_pos quoC_8] at h
    exact h
  refine X.done T14_ok rfl (fun N w' v hN hS hv => ⟨?_, hS.chg.none⟩)
  rw [← (Option.some.inj hv : _ = v)]
  rfl
set_option maxHeartbeats 8000000 in
set_option maxRecDepth 100000 in
set_option cbv.maxSteps 100000000 in
theorem awake17_ok (w : World) : Calls Tryz.prog 10 #[] w fun e w' => e = .returned (.bool true) ∧ Chg (fun _ _ => False) w w' := by
  have hb0 : ∀ x ∈ (#[] : Array Int).toList, 0 ≤ x ∧ x < 256 := fun x hx => by simp at hx
  have hb3 : ∀ x ∈ (#[3] : Array Int).toList, 0 ≤ x ∧ x < 256 := fun x hx => by
    obtain rfl : x = 3 := by simpa using hx
    decide
  have hin : ∀ w1 : World, InB none 0 #[] w1 := fun w1 => ⟨rfl, fun h => absurd h (Nat.lt_irrefl 0)⟩
  obtain ⟨Q, hQ⟩ : ∃ Q : Ending → World → Prop, Q = fun e w' => e = .returned (.bool true) ∧ Chg (fun _ _ => False) w w' := ⟨_, rfl⟩
  rw [← hQ]
  refine X.begin (rg := []) (N := []) (ss := []) Tryz.func10 rfl B10_ok rfl rfl Sat.std0 ?_
  refine X.go T10_ok 400 _ rfl Tryz.results10 ?_
  conv => arg 2; cbv
  refine X.call rfl rfl rfl rfl Tryz.call11 (fun N w1 args hN hS ha => ?_)
  obtain ⟨p, hp⟩ := num_of hS (r := 0) rfl
  have h3 : InB (some ⟨p.b, p.o + 0, none⟩) 1 #[3] w1 := inB_own hS (r := 0) rfl hp rfl fun j hj => by
    obtain rfl : j = 0 := by omega
    exact ⟨_, rfl, rfl⟩
  have ha : args = [.agg #[.int .u64 (0 : Nat), .slice none 0 0, .slice (some ⟨p.b, p.o + 0, none⟩) 1 1], .int .u8 1, .agg #[.int .u64 1, .int .u8 2, .int .u32 0], .bool false] := by
    simp only [SV.denL, SV.den, SI.den, SB.den, hp] at ha
    exact (Option.some.inj ha).symm
  rw [ha]
  refine (begin_ok false 1 0 none (some ⟨p.b, p.o + 0, none⟩) 0 1 0 1 #[] #[3] 1 2 0 w1 (by decide) (by decide) (hin w1) h3 hb0 hb3).mono fun e w2 hR => ?_
  obtain ⟨⟨hgood, p1, n1, c1, p2, n2, c2, he, hmem⟩ | ⟨hbad, he⟩, hch⟩ := hR
  rotate_left
  · exact absurd ⟨mayC_one, by decide, by decide, by decide⟩ hbad
  refine ⟨_, he, Goes.newMem hN hS hch (r := .tup [.agg (rnd2S p1 n1 c1 p2 n2 c2 1 0), .int .i64 (.lit 0)]) rfl rfl (fun hold hnew => ?_)⟩
  obtain ⟨im, him⟩ : ∃ im, im = imNew (elsewhere [] [] w) w1 w2 := ⟨_, rfl⟩
  obtain ⟨h1, h2⟩ := hmem im fun k o v hk h => by rw [him]; exact hnew _ _ _ hk h
  show X (mkE Tryz.prog Tryz.f10 Q w (InR [] []) (imNew (elsewhere [] [] w) w1 w2) (fun _ _ => False) (fun _ => True) [] B10) _ _
  rw [← him]
  clear him hold hnew hch he ha hS hN hmem
  refine X.goX ([(13, .agg (rnd2S p1 n1 c1 p2 n2 c2 2 8))]) ([]) T10_ok 400 _ rfl Tryz.results10 (fun pr pe fin hpr hpe hfin => ?_)
  conv => cbv
  refine ⟨hpr _ (.of Tryz.call14 [rndAV false 1 0 p1 n1 c1 p2 n2 c2 1 2 0 1 0, msgV 2 3 2 1 0 1 2 0 true] (rndAV false 1 0 p1 n1 c1 p2 n2 c2 1 2 0 2 8) (fun _ => rfl) (fun _ => rfl) fun _ w1 him => told2_ok p1 n1 c1 p2 n2 c2 w1 (h1.inB him) (h2.inB him)), hfin _ _ ?_⟩
  refine X.done T10_ok rfl (fun N w' v hN hS hv => ?_)
  rw [hQ]
  exact ⟨fin_bool hv rfl, hS.chg.none⟩
end Go.Proofs.YthaffebapmkppaaGreat
