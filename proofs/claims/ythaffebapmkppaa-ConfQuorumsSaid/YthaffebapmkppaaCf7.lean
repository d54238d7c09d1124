/- Configurations: all keepers. -/
import Derived.Test.YthaffebapmkppaaCf6

namespace Go.Proofs.Ythaffebapmkppaa
open Go Go.Eng Go.Sort

def tailD : Nat → Code → Code
  | 0, c => c
  | n + 1, c => tailD n (sndC c)

/-- all keepers of a key, rising -/
def keepC (C : Nat) (o n : Array Int) (key : Int) : List Int := (ascA (ringsL C o n key).flatten.toArray).toList
theorem ofL_3 (d : Array Int) (key : Int) : (ofL d key).length ≤ 3 := by
  rw [(ofL_perm d key).length_eq, keepL_eq (ringP_rise d)]
  simp
  omega
theorem rings_flat (C : Nat) (o n : Array Int) (key : Int) : (ringsL C o n key).flatten.length ≤ 6 := by
  have h1 := ofL_3 n key
  have h2 := ofL_3 o key
  unfold ringsL
  split <;> simp <;> omega
theorem keepC_mem {C : Nat} {o n : Array Int} {key x : Int} : x ∈ keepC C o n key ↔ x ∈ (ringsL C o n key).flatten := ascA_iff _ x
theorem keepC_asc {C : Nat} {o n : Array Int} {key : Int} (hbo : ∀ x ∈ o.toList, 0 ≤ x ∧ x < 256) (hbn : ∀ x ∈ n.toList, 0 ≤ x ∧ x < 256) : asc (ringsL C o n key).flatten 256 = keepC C o n key := by
  have hb : ∀ x ∈ (ringsL C o n key).flatten, 0 ≤ x ∧ x < 256 := fun x hx => by
    unfold ringsL at hx
    split at hx
    · simp only [List.flatten_cons, List.flatten_nil, List.append_nil, List.mem_append] at hx
      rcases hx with h | h
      · exact hbn x (ofL_sub h)
      · exact hbo x (ofL_sub h)
    · simp only [List.flatten_cons, List.flatten_nil, List.append_nil] at hx
      exact hbn x (ofL_sub hx)
  refine lt_eq (asc_lt _ _) (ascA_lt _) fun y => ?_
  rw [asc_mem hb, keepC_mem]
theorem keepC_64 {C : Nat} {o n : Array Int} {key : Int} (h : mayC C o n) (hbo : ∀ x ∈ o.toList, 0 ≤ x ∧ x < 256) (hbn : ∀ x ∈ n.toList, 0 ≤ x ∧ x < 256) : ∀ x ∈ keepC C o n key, 0 ≤ x ∧ x < 64 := fun x hx => by
  rw [keepC_mem] at hx
  obtain ⟨l, hl, hx⟩ := List.mem_flatten.1 hx
  obtain ⟨j, hj, rfl⟩ := List.getElem_of_mem hl
  have := (rings_64 h hbo hbn j hj).2 x (by rw [getElem!_pos _ j hj]; exact hx)
  exact this
theorem keepC_len (C : Nat) (o n : Array Int) (key : Int) : (keepC C o n key).length ≤ 6 := by
  have h1 : (ascA (ringsL C o n key).flatten.toArray).size ≤ (ringsL C o n key).flatten.length := ascA_size _
  exact Nat.le_trans (by unfold keepC; rw [Array.length_toList]; exact h1) (rings_flat C o n key)
theorem keepC_byte {C : Nat} {o n : Array Int} {key : Int} (hbo : ∀ x ∈ o.toList, 0 ≤ x ∧ x < 256) (hbn : ∀ x ∈ n.toList, 0 ≤ x ∧ x < 256) : ∀ x ∈ keepC C o n key, 0 ≤ x ∧ x < 256 := fun x hx => by
  rw [keepC_mem] at hx
  unfold ringsL at hx
  split at hx
  · simp only [List.flatten_cons, List.flatten_nil, List.append_nil, List.mem_append] at hx
    rcases hx with h | h
    · exact hbn x (ofL_sub h)
    · exact hbo x (ofL_sub h)
  · simp only [List.flatten_cons, List.flatten_nil, List.append_nil] at hx
    exact hbn x (ofL_sub hx)

set_option maxHeartbeats 8000000 in
set_option maxRecDepth 100000 in
set_option cbv.maxSteps 100000000 in
theorem ckeepers_ok (C : Nat) (po pn : Option Addr) (no nn co cn : Nat) (o n : Array Int) (key : Int) (w : World) (hno : no ≤ 100) (hnn : nn ≤ 100) (ho : InB po no o w) (hn : InB pn nn n w) (hbo : ∀ x ∈ o.toList, 0 ≤ x ∧ x < 256) (hbn : ∀ x ∈ n.toList, 0 ≤ x ∧ x < 256) :
    Calls Try.prog 30 #[.agg #[.int .u64 C, .slice po no co, .slice pn nn cn], .int .u8 key] w (BytRet (keepC C o n key) w) := by
  have hos := ho.1
  have hns := hn.1
  obtain ⟨F, hF⟩ : ∃ F, F = keepC C o n key := ⟨_, rfl⟩
  rw [← hF]
  refine X.begin (rg := []) (N := []) (ss := [.agg [.int .u64 (.nat C), .slv po no co, .slv pn nn cn], .int .u8 (.v key)]) Try.func30 rfl B30_ok rfl rfl Sat.std0 ?_
  refine X.go T30_ok 400 _ rfl Try.results30 ?_
  conv => arg 2; cbv
  refine X.call rfl rfl rfl rfl Try.call51 (fun N w1 args hN hS ha => ?_)
  have ha : args = [.agg #[.int .u64 C, .slice po no co, .slice pn nn cn], .int .u8 key] := (Option.some.inj ha).symm
  rw [ha]
  refine (rings_ok C po pn no nn co cn o n key w1 (by omega) (by omega) (ho.stays hS.chg.none) (hn.stays hS.chg.none) hbo hbn).mono fun e w2 ⟨b, y, c, he, hfr, hcell, hch⟩ => ?_
  obtain ⟨hl2, hl3⟩ := rings_len (C := C) (key := key) (show o.size ≤ 100 by omega) (show n.size ≤ 100 by omega)
  have hfl := rings_flat C o n key
  obtain ⟨ls, hls⟩ : ∃ l, l = ringsL C o n key := ⟨_, rfl⟩
  obtain ⟨m, hm⟩ : ∃ m, m = ls.length := ⟨_, rfl⟩
  have hFa : F = (ascA ls.flatten.toArray).toList := by rw [hF, hls]; rfl
  rw [← hls] at hl2 hl3 he hcell hfl
  rw [← hm] at hl2 hl3 he hcell
  refine ⟨_, he, Goes.newMem hN hS hch (r := .slv (some ⟨b, y, none⟩) m c) rfl rfl (fun hold hnew => ?_)⟩
  obtain ⟨im, him⟩ : ∃ im, im = imNew (elsewhere [] [] w) w1 w2 := ⟨_, rfl⟩
  have himw : ∀ k o, w.heap.size ≤ k → w2.heap.size ≤ k → im k o = none := fun k o h1 h2 => by
    rw [him]
    unfold imNew
    rw [els_new h1]
    simp only
    split
    · simp [World.cell?, Array.getElem?_eq_none h2]
    · rfl
  have hcell : ∀ j, j < m → ∃ p c, im b (y + j) = some (.slice p ls[j]!.length c) ∧ BytNew ls[j]! 0 im p c := fun j hj => by
    obtain ⟨p, c, h1, h2⟩ := hcell j hj
    exact ⟨p, c, by rw [him]; exact hnew _ _ _ hfr h1, h2.mono (Nat.zero_le _) fun k o v hk hv => by rw [him]; exact hnew _ _ _ hk hv⟩
  obtain ⟨pz, hpz⟩ : ∃ p, p = some (Addr.mk b y none) := ⟨_, rfl⟩
  show X (mkE Try.prog Try.f30 (BytRet F w) w (InR [] []) (imNew (elsewhere [] [] w) w1 w2) (fun _ _ => False) (fun _ => True) [] B30) _ _
  rw [← him, ← hpz]
  clear him hold hnew hch he ha hS hN himw
  refine X.less [8] ?_
  refine X.noRegs [(8, .val (.slv pz m c))] rfl (fun N hN => ⟨rfl, fun _ h => h, trivial⟩) ?_
  refine X.call rfl rfl rfl rfl Try.call53 (fun N w3 args hN hS ha => ?_)
  have ha : args = [.slice pz m c] := (Option.some.inj ha).symm
  rw [ha, hpz]
  refine (concat_ok ls b y m c w3 hm hfl (by omega) (fun j hj => by
    obtain ⟨p, c, h1, h2⟩ := hcell j hj
    exact ⟨p, c, hS.imm _ _ _ h1, h2.mono (Nat.le_refl _) fun k o v _ hv => hS.imm _ _ _ hv⟩)).mono fun e w4 ⟨p2, c2, he, hc2, hr, hch⟩ => ⟨_, he, ?_⟩
  obtain ⟨out, hout⟩ : ∃ l, l = ls.flatten := ⟨_, rfl⟩
  obtain ⟨ll, hll⟩ : ∃ q, q = out.length := ⟨_, rfl⟩
  have hll6 : ll ≤ 6 := by rw [hll, hout]; exact hfl
  rw [← hout] at hr hc2
  rw [← hout, ← hll]
  rw [← hout] at hFa
  rcases hr with ⟨h1, h2, h3⟩ | ⟨hne, b2, o2, h1, h2, h3⟩
  · subst h2 h3
    have hl0 : ll = 0 := by rw [hll, h1]; rfl
    subst hl0
    have hFn : F = [] := by
      have h := ascA_size out.toArray
      rw [h1] at h
      rw [hFa, h1]
      exact List.eq_nil_of_length_eq_zero (by simpa using h)
    refine Goes.same hN hS hch (r := .raw (.slice none 0 0)) rfl rfl ?_
    refine X.go T30_ok 400 _ rfl Try.results30 ?_
    conv => arg 2; cbv
    refine X.call rfl rfl rfl rfl Try.call35 (fun N w5 args hN hS ha => ?_)
    have ha : args = [.slice none 0 0] := (Option.some.inj ha).symm
    rw [ha]
    refine (sort8_nil w5).mono fun e w6 ⟨he, hc⟩ => ⟨_, he, Goes.same hN hS hc (r := .tup []) rfl rfl ?_⟩
    refine X.goC FALL_ok true T30_ok 4000 _ rfl Try.results30 ?_
    conv => arg 2; cbv
    refine X.done T30_ok rfl (fun N w' v hN hS hv => ?_)
    simp [resV, SV.den, one?] at hv
    exact ⟨none, 0, by rw [← hv, hFn]; rfl, by rw [hFn]; exact Nat.le_refl _, .inl ⟨hFn, rfl, rfl⟩, hS.chg.none⟩
  · have hsz : out.toArray.size = ll := by rw [hll]; simp
    have hbw : w.heap.size ≤ b2 := Nat.le_trans hS.chg.size h2
    have hdw : ∀ k o, arrD b2 o2 ll k o → w.heap.size ≤ k := fun k o ⟨e1, _, _⟩ => by rw [e1]; exact hbw
    have hdi : ∀ k o, arrD b2 o2 ll k o → im k o = none := fun k o ⟨e1, _, _⟩ => im_new hS (by rw [e1]; exact h2)
    refine Goes.turn (r := .slv p2 ll c2) (arrD b2 o2 ll) (fun w => AtA w b2 o2 out.toArray) hN hS hch (fun _ _ h => h.elim) (fun _ _ h => h.elim) (by simp) (fun k o hk => ⟨.inr (by obtain ⟨e1, e2, e3⟩ := hk; rw [e1]; exact h2), h3.there (by omega) hk⟩) (AtA.loc (by omega)) h3 rfl rfl ?_
    clear h3 hch he ha hS hN
    show X (mkE Try.prog Try.f30 (BytRet F w) w (InR [] []) im (arrD b2 o2 ll) (fun w => AtA w b2 o2 out.toArray) [] B30) _ _
    refine X.go T30_ok 400 _ rfl Try.results30 ?_
    conv => arg 2; cbv
    refine X.call rfl rfl rfl rfl Try.call35 (fun N w5 args hN hS ha => ?_)
    have ha : args = [.slice p2 ll c2] := (Option.some.inj ha).symm
    rw [ha, h1]
    refine (sort8_ok b2 o2 ll c2 out.toArray w5 hS.res hsz (by omega)).mono fun e w6 ⟨S, ⟨g1, g2⟩, he, hA1, hch⟩ => ⟨_, he, ?_⟩
    have hSr := srtA_of hsz g1 g2
    subst hSr
    have hsn : (srtA out.toArray).size = ll := by rw [srtA_size, hsz]
    refine Goes.turn (r := .tup []) (arrD b2 o2 ll) (fun w => AtA w b2 o2 (srtA out.toArray)) hN hS hch (fun k o h => .inl (hdw k o h)) hdi (by simp) (fun k o hk => ⟨.inl hk, hA1.there (by omega) hk⟩) (AtA.loc (by omega)) hA1 rfl rfl ?_
    clear hA1 hch he ha hS hN g1 g2
    show X (mkE Try.prog Try.f30 (BytRet F w) w (InR [] []) im (arrD b2 o2 ll) (fun w => AtA w b2 o2 (srtA out.toArray)) [] B30) _ _
    refine X.go T30_ok 400 _ rfl Try.results30 ?_
    conv => arg 2; cbv
    refine X.call rfl rfl rfl rfl Try.call37 (fun N w7 args hN hS ha => ?_)
    have ha : args = [.slice (some ⟨b2, o2, none⟩) ll c2] := (Option.some.inj ha).symm
    rw [ha]
    have hAs : AtA w7 b2 o2 (srtA out.toArray) := hS.res
    refine (compact8_ok b2 o2 ll c2 (srtA out.toArray) w7 hAs hsn (by omega) (by omega)).mono fun e w8 ⟨he, hA1, hch⟩ => ⟨_, he, ?_⟩
    obtain ⟨a, ha⟩ : ∃ a, a = ascA out.toArray := ⟨_, rfl⟩
    rw [show (Go.Lib.compactUpTo (srtA out.toArray) ll).toArray = a by rw [ha, ascA, hsz]] at hA1
    obtain ⟨q, hq⟩ : ∃ q, q = a.size := ⟨_, rfl⟩
    rw [show (Go.Lib.compactUpTo (srtA out.toArray) ll).length = q by rw [hq, ha, ascA, hsz]; simp]
    have hql : q ≤ ll := by rw [hq, ha, ← hsz]; exact ascA_size _
    have hq0 : 0 < q := by rw [hq, ha]; exact ascA_pos (by rw [hsz, hll]; exact List.length_pos_iff.2 hne)
    refine Goes.turn (r := .slv (some ⟨b2, o2, none⟩) q c2) (arrD b2 o2 ll) (fun w => AtA w b2 o2 a) hN hS hch (fun k o h => .inl (hdw k o h)) hdi (by simp) (fun k o hk => ⟨.inl hk, ?_⟩) (AtA.loc (by omega)) hA1 rfl rfl ?_
    · obtain ⟨rfl, k2, k3⟩ := hk
      have := (hAs (o - o2) (by omega)).1
      rw [show o2 + (o - o2) = o by omega] at this
      exact .inl (some_of_chg hch o (by rw [this]; rfl))
    clear hA1 hch he hS hN hAs
    show X (mkE Try.prog Try.f30 (BytRet F w) w (InR [] []) im (arrD b2 o2 ll) (fun w => AtA w b2 o2 a) [] B30) _ _
    refine X.go T30_ok 400 _ rfl Try.results30 ?_
    conv => arg 2; cbv
    refine X.done T30_ok rfl (fun N w' v hN hS hv => ?_)
    simp only [resV, SV.den, Option.some.injEq] at hv
    have hFq : F = a.toList := by rw [hFa, ha]
    have hFl : F.length = q := by rw [hFq, hq]; simp
    exact ⟨some ⟨b2, o2, none⟩, c2, by rw [← hv, hFl], by omega, .inr ⟨fun h => by rw [h] at hFl; simp at hFl; omega, b2, o2, rfl, hbw, by rw [hFq]; exact hS.res⟩, hS.chg.none⟩

set_option maxHeartbeats 8000000 in
set_option maxRecDepth 100000 in
set_option cbv.maxSteps 100000000 in
theorem keep10_loop (p1 : Option Addr) (q1 c1 q2 : Nat) (l1 l2 F : List Int) (v6 : SV) (w : World) (im : Mem) (Q : Ending → World → Prop) (hQ : Q = RoR (bytL F) F.length w) (hq1 : q1 = l1.length) (hq2 : q2 = l2.length) (hq18 : q1 ≤ 1000) (hq28 : q2 ≤ 1000)
    (h1 : ∀ w' : World, (∀ k o v, im k o = some v → w'.cell? ⟨k, o, none⟩ = some v) → InB p1 q1 l1.toArray w')
    (h6 : ∀ (N : Nums) (v : Value), v6.den N = some v → ∃ p c, v = .slice p q2 c ∧ ∀ w' : World, (∀ k o v, im k o = some v → w'.cell? ⟨k, o, none⟩ = some v) → InB p q2 l2.toArray w')
    (h6b : bd 3 v6 = true) (h6f : v6.frr 4 2 = true) (cbx : List SV) (hcb : cbx.all (bd 3) = true) (hcf : cbx.all (SV.frr 4 2) = true) (hF : asc (l1 ++ l2) 256 = F) :
    X (mkE Try.prog Try.f31 Q w (InR [] []) im (fun _ _ => False) (fun _ => True) [] B31) [It.code (tailD 4 (Try.f31.body.getD .skip))] ⟨[(6, .val v6), (5, .val (.slv p1 q1 c1))], [⟨true, cbx, none⟩, ⟨true, [], none⟩]⟩ := by
  refine X.go T31_ok 400 _ rfl Try.results31 ?_
  conv => arg 2; cbv
  refine X.loop (fun _ : {k : Nat // k ≤ 256} => mkE Try.prog Try.f31 Q w (InR [] []) im (fun _ _ => False) (fun _ => True) [] B31)
    (fun g => ⟨[(5, .val (.slv p1 q1 c1)), (6, .val v6), (7, .val (eV 2 (asc (l1 ++ l2) g.1).length 1)), (8, .val (.int .i64 (.nat g.1)))], [⟨true, cbx, none⟩, ⟨true, [], none⟩, ⟨true, bytL (asc (l1 ++ l2) g.1), none⟩]⟩) (fun g => 256 - g.1) (fun _ => ⟨rfl, rfl, rfl, rfl⟩) (fun N ac w' hN hf hS => ⟨⟨0, Nat.zero_le _⟩, ?_⟩) (fun g qq hqq => ?_)
  · exact At.again hf hS (by repeat first | exact trivial | refine ⟨⟨_, rfl, .inl ⟨rfl, by first | rfl | assumption⟩⟩, ?_⟩ | refine ⟨⟨_, rfl, .inr ⟨_, rfl, rfl⟩⟩, ?_⟩ | refine ⟨⟨_, rfl, .inr ⟨_, rfl, by simp (disch := omega) [SV.den, SI.den, wrapU, wrapD] <;> omega⟩⟩, ?_⟩ | refine ⟨⟨_, rfl, .inr ⟨_, rfl, by simp [SV.den, SI.den, IntKind.wrap, IntKind.bits, IntKind.signed] <;> omega⟩⟩, ?_⟩) ⟨fun h => h, SubC.refl hcb, rfl, fun h => h, trivial, rfl, fun h => h, trivial, rfl, trivial⟩
  obtain ⟨k, hk⟩ := g
  obtain ⟨A, hA⟩ : ∃ A, A = asc (l1 ++ l2) k := ⟨_, rfl⟩
  obtain ⟨la, hla⟩ : ∃ m, m = A.length := ⟨_, rfl⟩
  have hla8 : la ≤ 256 := by have := asc_len (l1 ++ l2) k; rw [← hA, ← hla] at this; omega
  obtain ⟨va, hva⟩ : ∃ v, v = eV 2 la 1 := ⟨_, rfl⟩
  obtain ⟨ca, hca⟩ : ∃ v, v = bytL A := ⟨_, rfl⟩
  have hvab : bd 3 va = true := by rw [hva]; exact eV_bd (by decide)
  have hcab : ∀ m, ca.all (bd m) = true := fun m => by rw [hca]; exact bytL_bd
  show X (mkE Try.prog Try.f31 Q w (InR [] []) im (fun _ _ => False) (fun _ => True) [] B31) _ ⟨[(5, .val (.slv p1 q1 c1)), (6, .val v6), (7, .val (eV 2 (asc (l1 ++ l2) k).length 1)), (8, .val (.int .i64 (.nat k)))], [⟨true, cbx, none⟩, ⟨true, [], none⟩, ⟨true, bytL (asc (l1 ++ l2) k), none⟩]⟩
  rw [← hA, ← hla, ← hva, ← hca]
  refine X.go T31_ok 400 _ rfl Try.results31 ?_
  conv => arg 2; cbv
  refine X.cond rfl (fun hlt => ?_) (fun hge => ?_)
  · simp only [SB.T, SI.den] at hlt
    have hlt : k < 256 := by omega
    obtain ⟨b1, hb1⟩ : ∃ b, b = decide ((k : Int) ∈ l1) := ⟨_, rfl⟩
    obtain ⟨b2, hb2⟩ : ∃ b, b = decide ((k : Int) ∈ l2) := ⟨_, rfl⟩
    have hsn := asc_succ (l1 ++ l2) k
    rw [← hA] at hsn
    refine X.goP ([(30, .bool (.v b1)), (35, .bool (.v b2))]) T31_ok 400 _ rfl Try.results31 (fun pr fin hpr hfin => ?_)
    conv => cbv
    refine ⟨hpr _ (fun _ => ⟨Try.call54, fun N w1 args _ hS ha => ?_⟩), hpr _ (.of Try.call54 [.slice p1 q1 c1, .int .u8 k] (.bool b1) (fun _ => by simp only [SV.denL, SV.den, SI.den, wrapP hlt]) (fun _ => rfl) fun _ w1 him => by
      have := has10_ok p1 q1 c1 l1.toArray k w1 (by omega) (h1 w1 him)
      rw [hb1]
      exact this), hfin _ _ ?_⟩
    · obtain ⟨v, ls1, rfl, hv, ha⟩ := denL_cons ha
      obtain ⟨v2, ls2, rfl, hv2, ha⟩ := denL_cons ha
      obtain rfl := denL_nil ha
      obtain ⟨p, c, rfl, hp⟩ := h6 _ _ hv
      simp only [SV.den, SI.den, wrapP hlt, Option.some.injEq] at hv2
      subst hv2
      refine (has10_ok p q2 c l2.toArray k w1 (by omega) (hp w1 hS.imm)).mono fun e w' ⟨he, hc⟩ => ⟨_, he, by rw [hb2]; rfl, hc⟩
    refine X.cond rfl (fun hT => ?_) (fun hF' => ?_)
    · simp only [SB.T] at hT
      have hm : (k : Int) ∈ l1 ++ l2 := by
        rw [List.mem_append]
        rcases hT with h | h
        · exact .inl (by rw [hb1] at h; exact of_decide_eq_true h)
        · exact .inr (by rw [hb2] at h; exact of_decide_eq_true h)
      rw [if_pos hm] at hsn
      refine X.go T31_ok 5 _ rfl Try.results31 ?_
      conv => arg 2; cbv
      refine X.appG (T := T31) (te := ti5) (r := 2) (n := la) (m := 1) (cs := ca) (new := [.int .u8 (.wrap .u8 (.nat k))]) T31_ok rfl [5, 6, 8, 41] rfl rfl rfl rfl rfl rfl rfl rfl (.inr (.inl hva)) rfl (by rw [hca, bytL_len, ← hla]; exact (Nat.mul_one _).symm) (by decide) (appSrc_row (g := ⟨true, [.int .u8 (.wrap .u8 (.nat k))], none⟩) rfl rfl rfl rfl) (appOk_ok (by decide) rfl rfl rfl (by show (2 * (la + 1) + 256) * 1 ≤ _; omega) (by omega)) rfl rfl rfl (by repeat first | exact trivial | refine ⟨rfl, ?_⟩ | refine ⟨by assumption, ?_⟩) ⟨.inr hcf, .inr rfl, .inl rfl, .inr rfl, trivial⟩ (by rw [List.all_append, hca, bytL_frr]; rfl) rfl ?_
      refine X.recell 2 ⟨true, ca ++ [.int .u8 (.wrap .u8 (.nat k))], none⟩ (bytL (A ++ [(k : Int)])) rfl (by rw [hca, bytL_snoc]; simp) (fun N _ j x x' h1 h2 v hv => ?_) ?_
      · rw [bytL_snoc, ← hca] at h2
        simp only at h1
        rcases Nat.lt_or_ge j ca.length with hj | hj
        · rw [List.getElem?_append_left hj] at h1 h2
          rw [h1] at h2
          cases h2
          exact hv
        · rw [List.getElem?_append_right hj] at h1 h2
          obtain ⟨z, hz⟩ : ∃ z, z = j - ca.length := ⟨_, rfl⟩
          rw [← hz] at h1 h2
          match z, h1, h2 with
          | 0, h1, h2 =>
            obtain rfl := (Option.some.inj h1).symm
            obtain rfl := (Option.some.inj h2).symm
            rw [← hv]
            simp only [SV.den, SI.den, wrapP hlt]
          | z + 1, h1, h2 => simp at h1
      obtain ⟨c3, hc3⟩ : ∃ c, c = bytL (A ++ [(k : Int)]) := ⟨_, rfl⟩
      have hc3d : ∀ m, c3.all (bd m) = true := fun m => by rw [hc3]; exact bytL_bd
      show X (mkE Try.prog Try.f31 Q w (InR [] []) im (fun _ _ => False) (fun _ => True) [] B31) _ ⟨_, [⟨true, cbx, none⟩, ⟨true, [], none⟩, ⟨true, bytL (A ++ [(k : Int)]), none⟩, ⟨true, [.int .u8 (.wrap .u8 (.nat k))], none⟩]⟩
      rw [← hc3]
      refine X.go T31_ok 400 _ rfl Try.results31 ?_
      conv => arg 2; cbv
      refine X.back (fun N ac w' hN hf hS => hqq ⟨k + 1, hlt⟩ ac w' (by simp only; omega) ?_)
      show Eng.At (mkE Try.prog Try.f31 Q w (InR [] []) im (fun _ _ => False) (fun _ => True) [] B31) ⟨[(5, .val (.slv p1 q1 c1)), (6, .val v6), (7, .val (eV 2 (asc (l1 ++ l2) (k + 1)).length 1)), (8, .val (.int .i64 (.nat (k + 1))))], [⟨true, cbx, none⟩, ⟨true, [], none⟩, ⟨true, bytL (asc (l1 ++ l2) (k + 1)), none⟩]⟩ ac w'
      rw [hsn, ← hc3, List.length_append, ← hla]
      exact At.again hf hS (by repeat first | exact trivial | refine ⟨⟨_, rfl, .inl ⟨rfl, by first | rfl | assumption⟩⟩, ?_⟩ | refine ⟨⟨_, rfl, .inr ⟨_, rfl, rfl⟩⟩, ?_⟩ | refine ⟨⟨_, rfl, .inr ⟨_, rfl, by simp (disch := omega) [SV.den, SI.den, wrapU, wrapD] <;> omega⟩⟩, ?_⟩ | refine ⟨⟨_, rfl, .inr ⟨_, rfl, by simp [SV.den, SI.den, IntKind.wrap, IntKind.bits, IntKind.signed] <;> omega⟩⟩, ?_⟩) ⟨fun h => h, SubC.refl hcb, rfl, fun h => h, trivial, rfl, fun h => h, SubC.refl (hc3d _), rfl, trivial⟩
    · simp only [SB.F] at hF'
      have hm : ¬ (k : Int) ∈ l1 ++ l2 := by
        rw [List.mem_append]
        rintro (h | h)
        · rw [hb1, decide_eq_true h] at hF'; exact absurd hF'.1 (by decide)
        · rw [hb2, decide_eq_true h] at hF'; exact absurd hF'.2 (by decide)
      rw [if_neg hm] at hsn
      refine X.go T31_ok 400 _ rfl Try.results31 ?_
      conv => arg 2; cbv
      refine X.back (fun N ac w' hN hf hS => hqq ⟨k + 1, hlt⟩ ac w' (by simp only; omega) ?_)
      show Eng.At (mkE Try.prog Try.f31 Q w (InR [] []) im (fun _ _ => False) (fun _ => True) [] B31) ⟨[(5, .val (.slv p1 q1 c1)), (6, .val v6), (7, .val (eV 2 (asc (l1 ++ l2) (k + 1)).length 1)), (8, .val (.int .i64 (.nat (k + 1))))], [⟨true, cbx, none⟩, ⟨true, [], none⟩, ⟨true, bytL (asc (l1 ++ l2) (k + 1)), none⟩]⟩ ac w'
      rw [hsn, ← hla, ← hva, ← hca]
      exact At.again hf hS (by repeat first | exact trivial | refine ⟨⟨_, rfl, .inl ⟨rfl, by first | rfl | assumption⟩⟩, ?_⟩ | refine ⟨⟨_, rfl, .inr ⟨_, rfl, rfl⟩⟩, ?_⟩ | refine ⟨⟨_, rfl, .inr ⟨_, rfl, by simp (disch := omega) [SV.den, SI.den, wrapU, wrapD] <;> omega⟩⟩, ?_⟩ | refine ⟨⟨_, rfl, .inr ⟨_, rfl, by simp [SV.den, SI.den, IntKind.wrap, IntKind.bits, IntKind.signed] <;> omega⟩⟩, ?_⟩) ⟨fun h => h, SubC.refl hcb, rfl, fun h => h, trivial, rfl, fun h => h, SubC.refl (hcab _), rfl, trivial⟩
  · simp only [SB.F, SI.den] at hge
    have hk2 : k = 256 := by omega
    have hAF : A = F := by rw [hA, hk2, hF]
    refine X.go T31_ok 400 _ rfl Try.results31 ?_
    conv => arg 2; cbv
    refine X.done T31_ok rfl (fun N w' v hN hS hv => ?_)
    rw [hQ, ← hAF, ← hca]
    exact roR_of hS (r := 2) (z := 1) rfl (fun c hc N N' v h => bytL_den (by rw [← hca]; exact hc) h) (by rw [← hla, ← hva]; exact hv)

end Go.Proofs.Ythaffebapmkppaa
