/- The ring: what is known of it; the keepers of a key, rising. -/
import Derived.Test.YthaffebapmkppaaRi8

namespace Go.Proofs.Ythaffebapmkppaa
open Go Go.Eng Go.Sort

theorem ringP_nil : ringP #[] = [] := by simp [ringP, ringU, ascA, srtA, Go.Lib.compactUpTo]

theorem build_ok (po : Option Addr) (n cp : Nat) (d : Array Int) (w : World) (hle : n ≤ 1000) (hA : InB po n d w) :
    Calls Try.prog 13 #[.slice po n cp] w (PtsRet (ringP d) w) := by
  cases po with
  | none =>
    have h0 : n = 0 := by
      rcases Nat.eq_zero_or_pos n with h | h
      · exact h
      · obtain ⟨b, y, h1, _⟩ := hA.2 h
        cases h1
    subst h0
    have : d = #[] := Array.size_eq_zero_iff.1 hA.1
    subst this
    rw [ringP_nil]
    exact build_nil cp w
  | some a => exact build_pos (some a) n cp d w (by simp) hle hA

theorem ringP_perm (d : Array Int) : (ringP d).Perm (ringU (ascA d)) := List.mergeSort_perm _ _
theorem ringP_len (d : Array Int) : (ringP d).length ≤ 8 * d.size := by
  rw [(ringP_perm d).length_eq, ← ringTo_all, ringTo_len _ _ (Nat.le_refl _)]
  have := ascA_size d
  omega
theorem srtA_perm (d : Array Int) : (srtA d).toList.Perm d.toList := by
  show (d.toList.mergeSort _).Perm _
  exact List.mergeSort_perm _ _
theorem ascA_mem {d : Array Int} {x : Int} (h : x ∈ (ascA d).toList) : x ∈ d.toList := by
  simp only [ascA, Go.Lib.compactUpTo, List.mem_map, List.mem_filter, List.mem_range] at h
  obtain ⟨k, ⟨hk, _⟩, rfl⟩ := h
  refine (srtA_perm d).mem_iff.1 ?_
  have hk' : k < (srtA d).size := by rw [srtA_size]; exact hk
  rw [getElem!_pos _ k hk']
  exact Array.getElem_mem_toList hk'
theorem ringP_node {d : Array Int} {y : Int × Int} (h : y ∈ ringP d) : y.2 ∈ d.toList := by
  have h := (ringP_perm d).mem_iff.1 h
  obtain ⟨n, hn, h⟩ := List.mem_flatMap.1 h
  obtain ⟨v, _, rfl⟩ := List.mem_map.1 h
  exact ascA_mem hn
theorem ringP_byte {d : Array Int} (hd : ∀ x ∈ d.toList, 0 ≤ x ∧ x < 256) : ∀ y ∈ ringP d, 0 ≤ y.2 ∧ y.2 < 256 := fun _ hy => hd _ (ringP_node hy)
theorem ringP_rise (d : Array Int) : Rise (ringP d) := fun a b hab hb => by
  have hs : (ringP d).Pairwise (fun x y => (!ltOf cfP y x) = true) := List.pairwise_mergeSort (fun x y z h1 h2 => by
    simp only [ltP, Bool.not_eq_true', decide_eq_false_iff_not] at h1 h2 ⊢
    omega) (fun x y => by
    simp only [ltP, Bool.or_eq_true, Bool.not_eq_true', decide_eq_false_iff_not]
    omega) _
  rcases Nat.lt_or_ge a b with h | h
  · have := List.pairwise_iff_getElem.1 hs a b (by omega) hb h
    rw [getElem!_pos _ a (by omega), getElem!_pos _ b hb]
    simp only [ltP, Bool.not_eq_true', decide_eq_false_iff_not] at this
    omega
  · have : a = b := by omega
    subst this
    exact Int.le_refl _

theorem im_new {E : Env} {N : Nums} {rg : List Rg} {w : World} (h : Sat E N rg w) {k o : Nat} (hk : w.heap.size ≤ k) : E.im k o = none := by
  cases hv : E.im k o with
  | none => rfl
  | some v =>
    have := h.imm k o v hv
    simp [World.cell?, Array.getElem?_eq_none hk] at this

theorem keepGo_len (R : Nat → Int) (many : Int) : ∀ (k i : Nat) (out : List Int), (keepGo R many k i out).length ≤ out.length + k
  | 0, _, out => Nat.le_refl _
  | k + 1, i, out => by
    unfold keepGo
    split
    · omega
    · have := keepGo_len R many k (i + 1) (if R i ∈ out then out else out ++ [R i])
      have h2 : (if R i ∈ out then out else out ++ [R i]).length ≤ out.length + 1 := by split <;> simp
      omega
theorem keepL_len (L : List (Int × Int)) (key many : Int) : (keepL L key many).length ≤ L.length := by
  have := keepGo_len (nodeAt L (atP L (keyZ key))) many L.length 0 []
  simpa [keepL] using this

def ofL (d : Array Int) (key : Int) : List Int := (srtA (keepL (ringP d) key 3).toArray).toList

set_option maxHeartbeats 8000000 in
set_option maxRecDepth 100000 in
set_option cbv.maxSteps 100000000 in
theorem of_ok (po : Option Addr) (n cp : Nat) (d : Array Int) (key : Int) (w : World) (hle : n ≤ 1000) (hA : InB po n d w) (hd : ∀ x ∈ d.toList, 0 ≤ x ∧ x < 256) :
    Calls Try.prog 12 #[.slice po n cp, .int .u8 key] w (BytRet (ofL d key) w) := by
  obtain ⟨F, hF⟩ : ∃ F, F = ofL d key := ⟨_, rfl⟩
  rw [← hF]
  refine X.begin (rg := []) (N := []) (ss := [.slv po n cp, .int .u8 (.v key)]) Try.func12 rfl B12_ok rfl rfl Sat.std0 ?_
  refine X.go T12_ok 400 _ rfl Try.results12 ?_
  conv => arg 2; cbv
  refine X.call rfl rfl rfl rfl Try.call13 (fun N w1 args hN hS ha => ?_)
  have ha : args = [.slice po n cp] := (Option.some.inj ha).symm
  rw [ha]
  refine (build_ok po n cp d w1 hle (hA.stays hS.chg.none)).mono fun e w2 ⟨p, c, he, hr, hch⟩ => ⟨_, he, ?_⟩
  obtain ⟨L, hL⟩ : ∃ L, L = ringP d := ⟨_, rfl⟩
  obtain ⟨m, hm⟩ : ∃ m, m = L.length := ⟨_, rfl⟩
  have hm8 : m ≤ 8000 := by rw [hm, hL]; have := ringP_len d; have := hA.1; omega
  rw [← hL] at hr
  rw [← hL, ← hm]
  refine Goes.newMem hN hS hch (r := .slv p m c) rfl rfl (fun hold hnew => ?_)
  obtain ⟨im, him⟩ : ∃ im, im = imNew (elsewhere [] [] w) w1 w2 := ⟨_, rfl⟩
  have hpt : 0 < m → ∃ b o, p = some ⟨b, o, none⟩ ∧ ∀ j, j < L.length → im b (o + j * 2) = some (.int .u64 L[j]!.1) ∧ im b (o + j * 2 + 1) = some (.int .u8 L[j]!.2) := fun h0 => by
    rcases hr with h | ⟨b, o, h1, h2, h3⟩
    · rw [h] at hm; simp at hm; omega
    · refine ⟨b, o, h1, fun j hj => ?_⟩
      have := PtIn.of h3 j hj
      rw [him]
      exact ⟨hnew _ _ _ h2 this.1, hnew _ _ _ h2 this.2⟩
  show X (mkE Try.prog Try.f12 (BytRet F w) w (InR [] []) (imNew (elsewhere [] [] w) w1 w2) (fun _ _ => False) (fun _ => True) [] B12) _ _
  rw [← him]
  clear him hold hnew hr hch he ha hS hN
  refine X.go T12_ok 400 _ rfl Try.results12 ?_
  conv => arg 2; cbv
  refine X.call rfl rfl rfl rfl Try.call14 (fun N w3 args hN hS ha => ?_)
  have ha : args = [.slice p m c, .int .u8 key, .int .i64 3] := (Option.some.inj ha).symm
  rw [ha]
  obtain ⟨b, o, hp, hpi⟩ : ∃ b o, (0 < m → p = some ⟨b, o, none⟩) ∧ PtIn b o L w3 := by
    rcases Nat.eq_zero_or_pos m with h | h
    · exact ⟨0, 0, fun h2 => by omega, fun j hj => by omega⟩
    · obtain ⟨b, o, h1, h2⟩ := hpt h
      exact ⟨b, o, fun _ => h1, fun j hj => ⟨hS.imm _ _ _ (h2 j hj).1, hS.imm _ _ _ (h2 j hj).2⟩⟩
  refine (keepers_ok b o m c p L key 3 w3 hp hm.symm hm8 hpi (by rw [hL]; exact ringP_rise d) (by rw [hL]; exact ringP_byte hd)).mono fun e w4 ⟨p2, c2, he, hc2, hr, hch⟩ => ⟨_, he, ?_⟩
  obtain ⟨out, hout⟩ : ∃ l, l = keepL L key 3 := ⟨_, rfl⟩
  obtain ⟨ll, hll⟩ : ∃ q, q = out.length := ⟨_, rfl⟩
  rw [← hout] at hr hc2
  rw [← hout, ← hll]
  have hFo : F = (srtA out.toArray).toList := by rw [hF, ofL, ← hL, ← hout]
  rcases hr with ⟨h1, h2, h3⟩ | ⟨hne, b2, o2, h1, h2, h3⟩
  · subst h2 h3
    have hl0 : ll = 0 := by rw [hll, h1]; rfl
    subst hl0
    have hFn : F = [] := by rw [hFo, h1]; simp [srtA]
    refine Goes.same hN hS hch (r := .raw (.slice none 0 0)) rfl rfl ?_
    refine X.go T12_ok 400 _ rfl Try.results12 ?_
    conv => arg 2; cbv
    refine X.call rfl rfl rfl rfl Try.call35 (fun N w5 args hN hS ha => ?_)
    have ha : args = [.slice none 0 0] := (Option.some.inj ha).symm
    rw [ha]
    refine (sort8_nil w5).mono fun e w6 ⟨he, hc⟩ => ⟨_, he, Goes.same hN hS hc (r := .tup []) rfl rfl ?_⟩
    refine X.go T12_ok 400 _ rfl Try.results12 ?_
    conv => arg 2; cbv
    refine X.done T12_ok rfl (fun N w' v hN hS hv => ?_)
    simp [resV, SV.den, one?] at hv
    exact ⟨none, 0, by rw [← hv, hFn]; rfl, by rw [hFn]; exact Nat.le_refl _, .inl ⟨hFn, rfl, rfl⟩, hS.chg.none⟩
  · have hsz : out.toArray.size = ll := by rw [hll]; simp
    have hbw : w.heap.size ≤ b2 := Nat.le_trans hS.chg.size h2
    have hdw : ∀ k o, arrD b2 o2 ll k o → w.heap.size ≤ k := fun k o ⟨e1, _, _⟩ => by rw [e1]; exact hbw
    have hdi : ∀ k o, arrD b2 o2 ll k o → im k o = none := fun k o ⟨e1, _, _⟩ => im_new hS (by rw [e1]; exact h2)
    refine Goes.turn (r := .slv p2 ll c2) (arrD b2 o2 ll) (fun w => AtA w b2 o2 out.toArray) hN hS hch (fun _ _ h => h.elim) (fun _ _ h => h.elim) (by simp) (fun k o hk => ⟨.inr (by obtain ⟨e1, e2, e3⟩ := hk; rw [e1]; exact h2), h3.there (by omega) hk⟩) (AtA.loc (by omega)) h3 rfl rfl ?_
    clear h3 hch he ha hS hN
    show X (mkE Try.prog Try.f12 (BytRet F w) w (InR [] []) im (arrD b2 o2 ll) (fun w => AtA w b2 o2 out.toArray) [] B12) _ _
    refine X.go T12_ok 400 _ rfl Try.results12 ?_
    conv => arg 2; cbv
    refine X.call rfl rfl rfl rfl Try.call35 (fun N w5 args hN hS ha => ?_)
    have ha : args = [.slice p2 ll c2] := (Option.some.inj ha).symm
    rw [ha, h1]
    have hll8 : ll ≤ 8000 := by have := keepL_len L key 3; rw [← hout] at this; omega
    refine (sort8_ok b2 o2 ll c2 out.toArray w5 hS.res hsz (by omega)).mono fun e w6 ⟨S, ⟨g1, g2⟩, he, hA1, hch⟩ => ⟨_, he, ?_⟩
    have hSr := srtA_of hsz g1 g2
    subst hSr
    have hsn : (srtA out.toArray).size = ll := by rw [srtA_size, hsz]
    refine Goes.turn (r := .tup []) (arrD b2 o2 ll) (fun w => AtA w b2 o2 (srtA out.toArray)) hN hS hch (fun k o h => .inl (hdw k o h)) hdi (by simp) (fun k o hk => ⟨.inl hk, hA1.there (by omega) hk⟩) (AtA.loc (by omega)) hA1 rfl rfl ?_
    clear hA1 hch he ha hS hN g1 g2
    show X (mkE Try.prog Try.f12 (BytRet F w) w (InR [] []) im (arrD b2 o2 ll) (fun w => AtA w b2 o2 (srtA out.toArray)) [] B12) _ _
    refine X.go T12_ok 400 _ rfl Try.results12 ?_
    conv => arg 2; cbv
    refine X.done T12_ok rfl (fun N w' v hN hS hv => ?_)
    simp only [resV, SV.den, Option.some.injEq] at hv
    have hFl : F.length = ll := by rw [hFo]; simpa using hsn
    exact ⟨some ⟨b2, o2, none⟩, c2, by rw [← hv, hFl], by rw [hFl, hll]; exact hc2, .inr ⟨fun h => hne (List.eq_nil_of_length_eq_zero (by rw [← hll, ← hFl, h]; rfl)), b2, o2, rfl, hbw, by rw [hFo]; exact hS.res⟩, hS.chg.none⟩

end Go.Proofs.Ythaffebapmkppaa
