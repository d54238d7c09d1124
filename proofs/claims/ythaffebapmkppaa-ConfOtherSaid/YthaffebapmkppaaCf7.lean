/- Configurations: all keepers. -/
import Derived.Test.YthaffebapmkppaaCf6

namespace Go.Proofs.Ythaffebapmkppaa
open Go Go.Eng Go.Sort

/-- all keepers of a key, rising -/
def keepC (C : Nat) (o n : Array Int) (key : Int) : List Int := (ascA (ringsL C o n key).flatten.toArray).toList
theorem ofL_3 (d : Array Int) (key : Int) : (ofL d key).length ≤ 3 := by
  rw [(ofL_perm d key).length_eq, keepL_eq (ringP_rise d)]
  simp
  omega
theorem rings_flat (C : Nat) (o n : Array Int) (key : Int) : (ringsL C o n key).flatten.length ≤ 6 := by
  have h1 := ofL_3 n key
  have h2 := ofL_3 o key
  unfold ringsL
  split <;> simp <;> omega
theorem keepC_mem {C : Nat} {o n : Array Int} {key x : Int} : x ∈ keepC C o n key ↔ x ∈ (ringsL C o n key).flatten := ascA_iff _ x
theorem keepC_64 {C : Nat} {o n : Array Int} {key : Int} (h : mayC C o n) (hbo : ∀ x ∈ o.toList, 0 ≤ x ∧ x < 256) (hbn : ∀ x ∈ n.toList, 0 ≤ x ∧ x < 256) : ∀ x ∈ keepC C o n key, 0 ≤ x ∧ x < 64 := fun x hx => by
  rw [keepC_mem] at hx
  obtain ⟨l, hl, hx⟩ := List.mem_flatten.1 hx
  obtain ⟨j, hj, rfl⟩ := List.getElem_of_mem hl
  have := (rings_64 h hbo hbn j hj).2 x (by rw [getElem!_pos _ j hj]; exact hx)
  exact this
theorem keepC_len (C : Nat) (o n : Array Int) (key : Int) : (keepC C o n key).length ≤ 6 := by
  have h1 : (ascA (ringsL C o n key).flatten.toArray).size ≤ (ringsL C o n key).flatten.length := ascA_size _
  exact Nat.le_trans (by unfold keepC; rw [Array.length_toList]; exact h1) (rings_flat C o n key)
theorem keepC_byte {C : Nat} {o n : Array Int} {key : Int} (hbo : ∀ x ∈ o.toList, 0 ≤ x ∧ x < 256) (hbn : ∀ x ∈ n.toList, 0 ≤ x ∧ x < 256) : ∀ x ∈ keepC C o n key, 0 ≤ x ∧ x < 256 := fun x hx => by
  rw [keepC_mem] at hx
  unfold ringsL at hx
  split at hx
  · simp only [List.flatten_cons, List.flatten_nil, List.append_nil, List.mem_append] at hx
    rcases hx with h | h
    · exact hbn x (ofL_sub h)
    · exact hbo x (ofL_sub h)
  · simp only [List.flatten_cons, List.flatten_nil, List.append_nil] at hx
    exact hbn x (ofL_sub hx)

set_option maxHeartbeats 8000000 in
set_option maxRecDepth 100000 in
set_option cbv.maxSteps 100000000 in
theorem ckeepers_ok (C : Nat) (po pn : Option Addr) (no nn co cn : Nat) (o n : Array Int) (key : Int) (w : World) (hno : no ≤ 100) (hnn : nn ≤ 100) (ho : InB po no o w) (hn : InB pn nn n w) (hbo : ∀ x ∈ o.toList, 0 ≤ x ∧ x < 256) (hbn : ∀ x ∈ n.toList, 0 ≤ x ∧ x < 256) :
    Calls Try.prog 30 #[.agg #[.int .u64 C, .slice po no co, .slice pn nn cn], .int .u8 key] w (BytRet (keepC C o n key) w) := by
  have hos := ho.1
  have hns := hn.1
  obtain ⟨F, hF⟩ : ∃ F, F = keepC C o n key := ⟨_, rfl⟩
  rw [← hF]
  refine X.begin (rg := []) (N := []) (ss := [.agg [.int .u64 (.nat C), .slv po no co, .slv pn nn cn], .int .u8 (.v key)]) Try.func30 rfl B30_ok rfl rfl Sat.std0 ?_
  refine X.go T30_ok 400 _ rfl Try.results30 ?_
  conv => arg 2; cbv
  refine X.call rfl rfl rfl rfl Try.call51 (fun N w1 args hN hS ha => ?_)
  have ha : args = [.agg #[.int .u64 C, .slice po no co, .slice pn nn cn], .int .u8 key] := (Option.some.inj ha).symm
  rw [ha]
  refine (rings_ok C po pn no nn co cn o n key w1 (by omega) (by omega) (ho.stays hS.chg.none) (hn.stays hS.chg.none) hbo hbn).mono fun e w2 ⟨b, y, c, he, hfr, hcell, hch⟩ => ?_
  obtain ⟨hl2, hl3⟩ := rings_len (C := C) (key := key) (show o.size ≤ 100 by omega) (show n.size ≤ 100 by omega)
  have hfl := rings_flat C o n key
  obtain ⟨ls, hls⟩ : ∃ l, l = ringsL C o n key := ⟨_, rfl⟩
  obtain ⟨m, hm⟩ : ∃ m, m = ls.length := ⟨_, rfl⟩
  have hFa : F = (ascA ls.flatten.toArray).toList := by rw [hF, hls]; rfl
  rw [← hls] at hl2 hl3 he hcell hfl
  rw [← hm] at hl2 hl3 he hcell
  refine ⟨_, he, Goes.newMem hN hS hch (r := .slv (some ⟨b, y, none⟩) m c) rfl rfl (fun hold hnew => ?_)⟩
  obtain ⟨im, him⟩ : ∃ im, im = imNew (elsewhere [] [] w) w1 w2 := ⟨_, rfl⟩
  have himw : ∀ k o, w.heap.size ≤ k → w2.heap.size ≤ k → im k o = none := fun k o h1 h2 => by
    rw [him]
    unfold imNew
    rw [els_new h1]
    simp only
    split
    · simp [World.cell?, Array.getElem?_eq_none h2]
    · rfl
  have hcell : ∀ j, j < m → ∃ p c, im b (y + j) = some (.slice p ls[j]!.length c) ∧ BytNew ls[j]! 0 im p c := fun j hj => by
    obtain ⟨p, c, h1, h2⟩ := hcell j hj
    exact ⟨p, c, by rw [him]; exact hnew _ _ _ hfr h1, h2.mono (Nat.zero_le _) fun k o v hk hv => by rw [him]; exact hnew _ _ _ hk hv⟩
  obtain ⟨pz, hpz⟩ : ∃ p, p = some (Addr.mk b y none) := ⟨_, rfl⟩
  show X (mkE Try.prog Try.f30 (BytRet F w) w (InR [] []) (imNew (elsewhere [] [] w) w1 w2) (fun _ _ => False) (fun _ => True) [] B30) _ _
  rw [← him, ← hpz]
  clear him hold hnew hch he ha hS hN himw
  refine X.less [8] ?_
  refine X.noRegs [(8, .val (.slv pz m c))] rfl (fun N hN => ⟨rfl, fun _ h => h, trivial⟩) ?_
  refine X.call rfl rfl rfl rfl Try.call53 (fun N w3 args hN hS ha => ?_)
  have ha : args = [.slice pz m c] := (Option.some.inj ha).symm
  rw [ha, hpz]
  refine (concat_ok ls b y m c w3 hm hfl (by omega) (fun j hj => by
    obtain ⟨p, c, h1, h2⟩ := hcell j hj
    exact ⟨p, c, hS.imm _ _ _ h1, h2.mono (Nat.le_refl _) fun k o v _ hv => hS.imm _ _ _ hv⟩)).mono fun e w4 ⟨p2, c2, he, hc2, hr, hch⟩ => ⟨_, he, ?_⟩
  obtain ⟨out, hout⟩ : ∃ l, l = ls.flatten := ⟨_, rfl⟩
  obtain ⟨ll, hll⟩ : ∃ q, q = out.length := ⟨_, rfl⟩
  have hll6 : ll ≤ 6 := by rw [hll, hout]; exact hfl
  rw [← hout] at hr hc2
  rw [← hout, ← hll]
  rw [← hout] at hFa
  rcases hr with ⟨h1, h2, h3⟩ | ⟨hne, b2, o2, h1, h2, h3⟩
  · subst h2 h3
    have hl0 : ll = 0 := by rw [hll, h1]; rfl
    subst hl0
    have hFn : F = [] := by
      have h := ascA_size out.toArray
      rw [h1] at h
      rw [hFa, h1]
      exact List.eq_nil_of_length_eq_zero (by simpa using h)
    refine Goes.same hN hS hch (r := .raw (.slice none 0 0)) rfl rfl ?_
    refine X.go T30_ok 400 _ rfl Try.results30 ?_
    conv => arg 2; cbv
    refine X.call rfl rfl rfl rfl Try.call35 (fun N w5 args hN hS ha => ?_)
    have ha : args = [.slice none 0 0] := (Option.some.inj ha).symm
    rw [ha]
    refine (sort8_nil w5).mono fun e w6 ⟨he, hc⟩ => ⟨_, he, Goes.same hN hS hc (r := .tup []) rfl rfl ?_⟩
    refine X.goC FALL_ok true T30_ok 4000 _ rfl Try.results30 ?_
    conv => arg 2; cbv
    refine X.done T30_ok rfl (fun N w' v hN hS hv => ?_)
    simp [resV, SV.den, one?] at hv
    exact ⟨none, 0, by rw [← hv, hFn]; rfl, by rw [hFn]; exact Nat.le_refl _, .inl ⟨hFn, rfl, rfl⟩, hS.chg.none⟩
  · have hsz : out.toArray.size = ll := by rw [hll]; simp
    have hbw : w.heap.size ≤ b2 := Nat.le_trans hS.chg.size h2
    have hdw : ∀ k o, arrD b2 o2 ll k o → w.heap.size ≤ k := fun k o ⟨e1, _, _⟩ => by rw [e1]; exact hbw
    have hdi : ∀ k o, arrD b2 o2 ll k o → im k o = none := fun k o ⟨e1, _, _⟩ => im_new hS (by rw [e1]; exact h2)
    refine Goes.turn (r := .slv p2 ll c2) (arrD b2 o2 ll) (fun w => AtA w b2 o2 out.toArray) hN hS hch (fun _ _ h => h.elim) (fun _ _ h => h.elim) (by simp) (fun k o hk => ⟨.inr (by obtain ⟨e1, e2, e3⟩ := hk; rw [e1]; exact h2), h3.there (by omega) hk⟩) (AtA.loc (by omega)) h3 rfl rfl ?_
    clear h3 hch he ha hS hN
    show X (mkE Try.prog Try.f30 (BytRet F w) w (InR [] []) im (arrD b2 o2 ll) (fun w => AtA w b2 o2 out.toArray) [] B30) _ _
    refine X.go T30_ok 400 _ rfl Try.results30 ?_
    conv => arg 2; cbv
    refine X.call rfl rfl rfl rfl Try.call35 (fun N w5 args hN hS ha => ?_)
    have ha : args = [.slice p2 ll c2] := (Option.some.inj ha).symm
    rw [ha, h1]
    refine (sort8_ok b2 o2 ll c2 out.toArray w5 hS.res hsz (by omega)).mono fun e w6 ⟨S, ⟨g1, g2⟩, he, hA1, hch⟩ => ⟨_, he, ?_⟩
    have hSr := srtA_of hsz g1 g2
    subst hSr
    have hsn : (srtA out.toArray).size = ll := by rw [srtA_size, hsz]
    refine Goes.turn (r := .tup []) (arrD b2 o2 ll) (fun w => AtA w b2 o2 (srtA out.toArray)) hN hS hch (fun k o h => .inl (hdw k o h)) hdi (by simp) (fun k o hk => ⟨.inl hk, hA1.there (by omega) hk⟩) (AtA.loc (by omega)) hA1 rfl rfl ?_
    clear hA1 hch he ha hS hN g1 g2
    show X (mkE Try.prog Try.f30 (BytRet F w) w (InR [] []) im (arrD b2 o2 ll) (fun w => AtA w b2 o2 (srtA out.toArray)) [] B30) _ _
    refine X.go T30_ok 400 _ rfl Try.results30 ?_
    conv => arg 2; cbv
    refine X.call rfl rfl rfl rfl Try.call37 (fun N w7 args hN hS ha => ?_)
    have ha : args = [.slice (some ⟨b2, o2, none⟩) ll c2] := (Option.some.inj ha).symm
    rw [ha]
    have hAs : AtA w7 b2 o2 (srtA out.toArray) := hS.res
    refine (compact8_ok b2 o2 ll c2 (srtA out.toArray) w7 hAs hsn (by omega) (by omega)).mono fun e w8 ⟨he, hA1, hch⟩ => ⟨_, he, ?_⟩
    obtain ⟨a, ha⟩ : ∃ a, a = ascA out.toArray := ⟨_, rfl⟩
    rw [show (Go.Lib.compactUpTo (srtA out.toArray) ll).toArray = a by rw [ha, ascA, hsz]] at hA1
    obtain ⟨q, hq⟩ : ∃ q, q = a.size := ⟨_, rfl⟩
    rw [show (Go.Lib.compactUpTo (srtA out.toArray) ll).length = q by rw [hq, ha, ascA, hsz]; simp]
    have hql : q ≤ ll := by rw [hq, ha, ← hsz]; exact ascA_size _
    have hq0 : 0 < q := by rw [hq, ha]; exact ascA_pos (by rw [hsz, hll]; exact List.length_pos_iff.2 hne)
    refine Goes.turn (r := .slv (some ⟨b2, o2, none⟩) q c2) (arrD b2 o2 ll) (fun w => AtA w b2 o2 a) hN hS hch (fun k o h => .inl (hdw k o h)) hdi (by simp) (fun k o hk => ⟨.inl hk, ?_⟩) (AtA.loc (by omega)) hA1 rfl rfl ?_
    · obtain ⟨rfl, k2, k3⟩ := hk
      have := (hAs (o - o2) (by omega)).1
      rw [show o2 + (o - o2) = o by omega] at this
      exact .inl (some_of_chg hch o (by rw [this]; rfl))
    clear hA1 hch he hS hN hAs
    show X (mkE Try.prog Try.f30 (BytRet F w) w (InR [] []) im (arrD b2 o2 ll) (fun w => AtA w b2 o2 a) [] B30) _ _
    refine X.go T30_ok 400 _ rfl Try.results30 ?_
    conv => arg 2; cbv
    refine X.done T30_ok rfl (fun N w' v hN hS hv => ?_)
    simp only [resV, SV.den, Option.some.injEq] at hv
    have hFq : F = a.toList := by rw [hFa, ha]
    have hFl : F.length = q := by rw [hFq, hq]; simp
    exact ⟨some ⟨b2, o2, none⟩, c2, by rw [← hv, hFl], by omega, .inr ⟨fun h => by rw [h] at hFl; simp at hFl; omega, b2, o2, rfl, hbw, by rw [hFq]; exact hS.res⟩, hS.chg.none⟩

end Go.Proofs.Ythaffebapmkppaa
