/- The reference's Of; whether nodes may be. -/
import Derived.Test.YthaffebapmkppaaRb3

namespace Go.Proofs.Ythaffebapmkppaa
open Go Go.Eng Go.Sort

theorem RoR.pts {L : List (Int × Int)} {n : Nat} {w w' : World} {e : Ending} (h : RoR (ptsL L) n w e w') : ∃ b o c, e = .returned (.slice (some ⟨b, o, none⟩) n c) ∧ (0 < L.length → w.heap.size ≤ b) ∧ PtIn b o L w' ∧ Chg (fun _ _ => False) w w' := by
  obtain ⟨b, o, c, h1, h2, _, h4, h5⟩ := h
  refine ⟨b, o, c, h1, fun h0 => h2 (by rw [ptsL_len]; omega), fun j hj => ?_, h5⟩
  obtain ⟨r1, r2⟩ := ptsL_row L j hj
  obtain ⟨v1, a1, a2⟩ := h4 _ _ r1
  obtain ⟨v2, b1, b2⟩ := h4 _ _ r2
  have a1 := a1 []
  have b1 := b1 []
  simp only [SV.den, SI.den, Option.some.injEq] at a1 b1
  exact ⟨by rw [a2, ← a1], by rw [Nat.add_assoc, b2, ← b1]⟩
theorem RoR.byt {l : List Int} {n : Nat} {w w' : World} {e : Ending} (h : RoR (bytL l) n w e w') : ∃ b o c, e = .returned (.slice (some ⟨b, o, none⟩) n c) ∧ (0 < l.length → w.heap.size ≤ b) ∧ (∀ j, j < l.length → w'.cell? ⟨b, o + j, none⟩ = some (.int .u8 l[j]!)) ∧ Chg (fun _ _ => False) w w' := by
  obtain ⟨b, o, c, h1, h2, _, h4, h5⟩ := h
  refine ⟨b, o, c, h1, fun h0 => h2 (by rw [bytL_len]; omega), fun j hj => ?_, h5⟩
  obtain ⟨v1, a1, a2⟩ := h4 j (.int .u8 (.v l[j]!)) (by simp [bytL, hj])
  have a1 := a1 []
  simp only [SV.den, SI.den, Option.some.injEq] at a1
  rw [a2, ← a1]

/-! ### rising -/
def asc (l : List Int) (k : Nat) : List Int := ((List.range k).filter fun x : Nat => decide ((x : Int) ∈ l)).map fun x : Nat => (x : Int)
theorem asc_succ (l : List Int) (k : Nat) : asc l (k + 1) = if (k : Int) ∈ l then asc l k ++ [(k : Int)] else asc l k := by
  unfold asc
  rw [List.range_succ, List.filter_append, List.map_append]
  by_cases h : (k : Int) ∈ l
  · rw [if_pos h]
    simp [h]
  · rw [if_neg h]
    simp [h]
theorem asc_len (l : List Int) (k : Nat) : (asc l k).length ≤ k := by
  unfold asc
  rw [List.length_map]
  exact Nat.le_trans (List.length_filter_le _ _) (by simp)
theorem asc_lt (l : List Int) (k : Nat) : (asc l k).Pairwise (· < ·) := by
  unfold asc
  refine List.pairwise_map.2 (List.Pairwise.filter _ ?_)
  exact List.pairwise_lt_range.imp fun h => by omega
theorem asc_mem {l : List Int} (hl : ∀ x ∈ l, 0 ≤ x ∧ x < 256) (y : Int) : y ∈ asc l 256 ↔ y ∈ l := by
  unfold asc
  simp only [List.mem_map, List.mem_filter, List.mem_range, decide_eq_true_eq]
  constructor
  · rintro ⟨a, ⟨_, h⟩, rfl⟩
    exact h
  · intro h
    have := hl y h
    exact ⟨y.toNat, ⟨by omega, by rw [Int.toNat_of_nonneg this.1]; exact h⟩, Int.toNat_of_nonneg this.1⟩
theorem keepL_nodup {L : List (Int × Int)} (h : Rise L) (key many : Int) : (keepL L key many).Nodup := by
  rw [keepL_eq h]
  exact (dd_nodup _ _ List.nodup_nil).sublist (List.take_sublist _ _)
theorem ofL_lt (d : Array Int) (key : Int) : (ofL d key).Pairwise (· < ·) := by
  have hnd : (ofL d key).Nodup := (ofL_perm d key).nodup_iff.2 (keepL_nodup (ringP_rise d) key 3)
  obtain ⟨a, ha⟩ : ∃ a, a = srtA (keepL (ringP d) key 3).toArray := ⟨_, rfl⟩
  have hle := srtA_le (keepL (ringP d) key 3).toArray
  have e : ofL d key = a.toList := by rw [ha]; rfl
  rw [← ha] at hle
  rw [e] at hnd ⊢
  refine List.pairwise_iff_getElem.2 fun i j hi hj hij => ?_
  have h1 := hle i j (by omega) (by simpa using hj)
  rw [getElem!_pos a i (by simpa using hi), getElem!_pos a j (by simpa using hj)] at h1
  have h2 := List.pairwise_iff_getElem.1 hnd i j hi hj hij
  simp only [Array.getElem_toList] at h2 ⊢
  omega
theorem asc_ofL {d : Array Int} (hd : ∀ x ∈ d.toList, 0 ≤ x ∧ x < 256) (key : Int) : asc (keepL (ringP d) key 3) 256 = ofL d key := by
  have hb : ∀ x ∈ keepL (ringP d) key 3, 0 ≤ x ∧ x < 256 := fun x hx => by
    rw [keepL_eq (ringP_rise d)] at hx
    have := List.mem_of_mem_take hx
    rw [dd_mem] at this
    rcases this with h | h
    · cases h
    · exact hd x ((nodes_mem d _ x).1 h)
  refine lt_eq (asc_lt _ _) (ofL_lt d key) fun y => ?_
  rw [asc_mem hb, (ofL_perm d key).mem_iff]

set_option maxHeartbeats 8000000 in
set_option maxRecDepth 100000 in
set_option cbv.maxSteps 100000000 in
theorem of9_ok (po : Option Addr) (n cp : Nat) (d : Array Int) (key : Int) (w : World) (hle : n ≤ 100) (hIn : InB po n d w) (hd : ∀ x ∈ d.toList, 0 ≤ x ∧ x < 256) :
    Calls Try.prog 18 #[.slice po n cp, .int .u8 key] w (RoR (bytL (ofL d key)) (ofL d key).length w) := by
  have hn := hIn.1
  obtain ⟨F, hF⟩ : ∃ F, F = ofL d key := ⟨_, rfl⟩
  obtain ⟨Q, hQ⟩ : ∃ Q : Ending → World → Prop, Q = RoR (bytL F) F.length w := ⟨_, rfl⟩
  rw [← hF, ← hQ]
  refine X.begin (rg := []) (N := []) (ss := [.slv po n cp, .int .u8 (.v key)]) Try.func18 rfl B18_ok rfl rfl Sat.std0 ?_
  refine X.go T18_ok 400 _ rfl Try.results18 ?_
  conv => arg 2; cbv
  refine X.call rfl rfl rfl rfl Try.call16 (fun N w1 args hN hS ha => ?_)
  have ha : args = [.slice po n cp] := (Option.some.inj ha).symm
  rw [ha]
  refine (build9_ok po n cp d w1 hle (hIn.stays hS.chg.none)).mono fun e w2 hr => ?_
  obtain ⟨b1, o1, c1, he, hfr, hpt, hch⟩ := hr.pts
  obtain ⟨L, hL⟩ : ∃ L, L = ringP d := ⟨_, rfl⟩
  obtain ⟨m, hm⟩ : ∃ m, m = L.length := ⟨_, rfl⟩
  have hm8 : m ≤ 8000 := by rw [hm, hL]; have := ringP_len d; omega
  rw [← hL] at hfr hpt he
  rw [← hm] at he hfr
  obtain ⟨p1, hp1⟩ : ∃ p, p = some (Addr.mk b1 o1 none) := ⟨_, rfl⟩
  rw [← hp1] at he
  refine ⟨_, he, Goes.newMem hN hS hch (r := .slv p1 m c1) rfl rfl (fun hold hnew => ?_)⟩
  obtain ⟨im, him⟩ : ∃ im, im = imNew (elsewhere [] [] w) w1 w2 := ⟨_, rfl⟩
  have hpi : ∀ j, j < L.length → im b1 (o1 + j * 2) = some (.int .u64 L[j]!.1) ∧ im b1 (o1 + j * 2 + 1) = some (.int .u8 L[j]!.2) := fun j hj => by
    rw [him]
    exact ⟨hnew _ _ _ (hfr (by omega)) (hpt j hj).1, hnew _ _ _ (hfr (by omega)) (hpt j hj).2⟩
  show X (mkE Try.prog Try.f18 Q w (InR [] []) (imNew (elsewhere [] [] w) w1 w2) (fun _ _ => False) (fun _ => True) [] B18) _ _
  rw [← him]
  clear him hold hnew hr hch he ha hS hN hpt hfr
  refine X.go T18_ok 400 _ rfl Try.results18 ?_
  conv => arg 2; cbv
  refine X.call rfl rfl rfl rfl Try.call17 (fun N w3 args hN hS ha => ?_)
  have ha : args = [.slice p1 m c1, .int .u8 key, .int .i64 3] := (Option.some.inj ha).symm
  rw [ha]
  refine (keepers9_ok b1 o1 m c1 p1 L key 3 w3 (fun _ => hp1) hm.symm hm8 (fun j hj => ⟨hS.imm _ _ _ (hpi j hj).1, hS.imm _ _ _ (hpi j hj).2⟩) (by rw [hL]; exact ringP_rise d)).mono fun e w4 hr => ?_
  obtain ⟨b2, o2, c2, he, hfr, hpt, hch⟩ := hr.byt
  obtain ⟨l, hl⟩ : ∃ l, l = keepL L key 3 := ⟨_, rfl⟩
  obtain ⟨q, hq⟩ : ∃ q, q = l.length := ⟨_, rfl⟩
  have hq8 : q ≤ 8000 := by have := keepL_len L key 3; rw [← hl] at this; omega
  rw [← hl] at hfr hpt he
  rw [← hq] at he hfr
  obtain ⟨p2, hp2⟩ : ∃ p, p = some (Addr.mk b2 o2 none) := ⟨_, rfl⟩
  rw [← hp2] at he
  refine ⟨_, he, Goes.newMem hN hS hch (r := .slv p2 q c2) rfl rfl (fun hold hnew => ?_)⟩
  obtain ⟨im2, him2⟩ : ∃ im2, im2 = imNew im w3 w4 := ⟨_, rfl⟩
  have hli : ∀ j, j < l.length → im2 b2 (o2 + j) = some (.int .u8 l[j]!) := fun j hj => by
    rw [him2]
    exact hnew _ _ _ (hfr (by omega)) (hpt j hj)
  have hFa : asc l 256 = F := by rw [hl, hL, hF]; exact asc_ofL hd key
  show X (mkE Try.prog Try.f18 Q w (InR [] []) (imNew im w3 w4) (fun _ _ => False) (fun _ => True) [] B18) _ _
  rw [← him2]
  clear him2 hold hnew hr hch he ha hS hN hpt hfr
  refine X.go T18_ok 400 _ rfl Try.results18 ?_
  conv => arg 2; cbv
  refine X.loop (fun _ : {k : Nat // k ≤ 256} => mkE Try.prog Try.f18 Q w (InR [] []) im2 (fun _ _ => False) (fun _ => True) [] B18)
    (fun g => ⟨[(5, .val (.slv p2 q c2)), (6, .val (eV 0 (asc l g.1).length 1)), (7, .val (.int .i64 (.nat g.1)))], [⟨true, bytL (asc l g.1), none⟩]⟩) (fun g => 256 - g.1) (fun _ => ⟨rfl, rfl, rfl, rfl⟩) (fun N ac w' hN hf hS => ⟨⟨0, Nat.zero_le _⟩, ?_⟩) (fun g qq hqq => ?_)
  · exact At.again hf hS (by repeat first | exact trivial | refine ⟨⟨_, rfl, .inl ⟨rfl, by first | rfl | assumption⟩⟩, ?_⟩ | refine ⟨⟨_, rfl, .inr ⟨_, rfl, rfl⟩⟩, ?_⟩ | refine ⟨⟨_, rfl, .inr ⟨_, rfl, by simp (disch := omega) [SV.den, SI.den, wrapU, wrapD] <;> omega⟩⟩, ?_⟩ | refine ⟨⟨_, rfl, .inr ⟨_, rfl, by simp [SV.den, SI.den, IntKind.wrap, IntKind.bits, IntKind.signed] <;> omega⟩⟩, ?_⟩) ⟨fun h => h, trivial, rfl, trivial⟩
  obtain ⟨k, hk⟩ := g
  obtain ⟨A, hA⟩ : ∃ A, A = asc l k := ⟨_, rfl⟩
  obtain ⟨la, hla⟩ : ∃ m, m = A.length := ⟨_, rfl⟩
  have hla8 : la ≤ 256 := by have := asc_len l k; rw [← hA, ← hla] at this; omega
  obtain ⟨va, hva⟩ : ∃ v, v = eV 0 la 1 := ⟨_, rfl⟩
  obtain ⟨ca, hca⟩ : ∃ v, v = bytL A := ⟨_, rfl⟩
  have hvab : bd 1 va = true := by rw [hva]; exact eV_bd (by decide)
  have hcab : ∀ m, ca.all (bd m) = true := fun m => by rw [hca]; exact bytL_bd
  show X (mkE Try.prog Try.f18 Q w (InR [] []) im2 (fun _ _ => False) (fun _ => True) [] B18) _ ⟨[(5, .val (.slv p2 q c2)), (6, .val (eV 0 (asc l k).length 1)), (7, .val (.int .i64 (.nat k)))], [⟨true, bytL (asc l k), none⟩]⟩
  rw [← hA, ← hla, ← hva, ← hca]
  refine X.go T18_ok 400 _ rfl Try.results18 ?_
  conv => arg 2; cbv
  refine X.cond rfl (fun hlt => ?_) (fun hge => ?_)
  · simp only [SB.T, SI.den] at hlt
    have hlt : k < 256 := by omega
    obtain ⟨hb, hhb⟩ : ∃ b, b = decide ((k : Int) ∈ l) := ⟨_, rfl⟩
    have hsn := asc_succ l k
    rw [← hA] at hsn
    refine X.goP ([(20, .bool (.v hb))]) T18_ok 400 _ rfl Try.results18 (fun pr fin hpr hfin => ?_)
    conv => cbv
    refine ⟨hpr _ (.of Try.call44 [.slice p2 q c2, .int .u8 k] (.bool hb) (fun _ => by simp only [SV.denL, SV.den, SI.den, wrapP hlt]) (fun _ => rfl) fun _ w1 him => by
      rw [hhb]
      exact has9_ok p2 q c2 l.toArray k w1 (by omega) ⟨by simp [hq], fun _ => ⟨b2, o2, hp2, fun j hj => by
        have := him _ _ _ (hli j (by simpa using hj))
        simpa [show j < l.length by simpa using hj] using this⟩⟩), hfin _ _ ?_⟩
    refine X.cond rfl (fun hT => ?_) (fun hF' => ?_)
    · simp only [SB.T] at hT
      have hm : (k : Int) ∈ l := by rw [hhb] at hT; exact of_decide_eq_true hT
      rw [if_pos hm] at hsn
      refine X.go T18_ok 5 _ rfl Try.results18 ?_
      conv => arg 2; cbv
      refine X.appG (T := T18) (te := ti5) (r := 0) (n := la) (m := 1) (cs := ca) (new := [.int .u8 (.wrap .u8 (.nat k))]) T18_ok rfl [5, 7, 25] rfl rfl rfl rfl rfl rfl rfl rfl (.inr (.inl hva)) rfl (by rw [hca, bytL_len, ← hla]; exact (Nat.mul_one _).symm) (by decide) (appSrc_row (g := ⟨true, [.int .u8 (.wrap .u8 (.nat k))], none⟩) rfl rfl rfl rfl) (appOk_ok (by decide) rfl rfl rfl (by show (2 * (la + 1) + 256) * 1 ≤ _; omega) (by omega)) rfl rfl rfl (by repeat first | exact trivial | refine ⟨rfl, ?_⟩ | refine ⟨by assumption, ?_⟩) ⟨.inl rfl, .inr rfl, trivial⟩ (by rw [List.all_append, hca, bytL_frr]; rfl) rfl ?_
      refine X.recell 0 ⟨true, ca ++ [.int .u8 (.wrap .u8 (.nat k))], none⟩ (bytL (A ++ [(k : Int)])) rfl (by rw [hca, bytL_snoc]; simp) (fun N _ j x x' h1 h2 v hv => ?_) ?_
      · rw [bytL_snoc, ← hca] at h2
        simp only at h1
        rcases Nat.lt_or_ge j ca.length with hj | hj
        · rw [List.getElem?_append_left hj] at h1 h2
          rw [h1] at h2
          cases h2
          exact hv
        · rw [List.getElem?_append_right hj] at h1 h2
          obtain ⟨z, hz⟩ : ∃ z, z = j - ca.length := ⟨_, rfl⟩
          rw [← hz] at h1 h2
          match z, h1, h2 with
          | 0, h1, h2 =>
            obtain rfl := (Option.some.inj h1).symm
            obtain rfl := (Option.some.inj h2).symm
            rw [← hv]
            simp only [SV.den, SI.den, wrapP hlt]
          | z + 1, h1, h2 => simp at h1
      obtain ⟨c3, hc3⟩ : ∃ c, c = bytL (A ++ [(k : Int)]) := ⟨_, rfl⟩
      have hc3d : ∀ m, c3.all (bd m) = true := fun m => by rw [hc3]; exact bytL_bd
      show X (mkE Try.prog Try.f18 Q w (InR [] []) im2 (fun _ _ => False) (fun _ => True) [] B18) _ ⟨_, [⟨true, bytL (A ++ [(k : Int)]), none⟩, ⟨true, [.int .u8 (.wrap .u8 (.nat k))], none⟩]⟩
      rw [← hc3]
      refine X.go T18_ok 400 _ rfl Try.results18 ?_
      conv => arg 2; cbv
      refine X.back (fun N ac w' hN hf hS => hqq ⟨k + 1, hlt⟩ ac w' (by simp only; omega) ?_)
      show At (mkE Try.prog Try.f18 Q w (InR [] []) im2 (fun _ _ => False) (fun _ => True) [] B18) ⟨[(5, .val (.slv p2 q c2)), (6, .val (eV 0 (asc l (k + 1)).length 1)), (7, .val (.int .i64 (.nat (k + 1))))], [⟨true, bytL (asc l (k + 1)), none⟩]⟩ ac w'
      rw [hsn, ← hc3, List.length_append, ← hla]
      exact At.again hf hS (by repeat first | exact trivial | refine ⟨⟨_, rfl, .inl ⟨rfl, by first | rfl | assumption⟩⟩, ?_⟩ | refine ⟨⟨_, rfl, .inr ⟨_, rfl, rfl⟩⟩, ?_⟩ | refine ⟨⟨_, rfl, .inr ⟨_, rfl, by simp (disch := omega) [SV.den, SI.den, wrapU, wrapD] <;> omega⟩⟩, ?_⟩ | refine ⟨⟨_, rfl, .inr ⟨_, rfl, by simp [SV.den, SI.den, IntKind.wrap, IntKind.bits, IntKind.signed] <;> omega⟩⟩, ?_⟩) ⟨fun h => h, SubC.refl (hc3d _), rfl, trivial⟩
    · simp only [SB.F] at hF'
      have hm : ¬ (k : Int) ∈ l := by rw [hhb] at hF'; exact of_decide_eq_false hF'
      rw [if_neg hm] at hsn
      refine X.go T18_ok 400 _ rfl Try.results18 ?_
      conv => arg 2; cbv
      refine X.back (fun N ac w' hN hf hS => hqq ⟨k + 1, hlt⟩ ac w' (by simp only; omega) ?_)
      show At (mkE Try.prog Try.f18 Q w (InR [] []) im2 (fun _ _ => False) (fun _ => True) [] B18) ⟨[(5, .val (.slv p2 q c2)), (6, .val (eV 0 (asc l (k + 1)).length 1)), (7, .val (.int .i64 (.nat (k + 1))))], [⟨true, bytL (asc l (k + 1)), none⟩]⟩ ac w'
      rw [hsn, ← hla, ← hva, ← hca]
      exact At.again hf hS (by repeat first | exact trivial | refine ⟨⟨_, rfl, .inl ⟨rfl, by first | rfl | assumption⟩⟩, ?_⟩ | refine ⟨⟨_, rfl, .inr ⟨_, rfl, rfl⟩⟩, ?_⟩ | refine ⟨⟨_, rfl, .inr ⟨_, rfl, by simp (disch := omega) [SV.den, SI.den, wrapU, wrapD] <;> omega⟩⟩, ?_⟩ | refine ⟨⟨_, rfl, .inr ⟨_, rfl, by simp [SV.den, SI.den, IntKind.wrap, IntKind.bits, IntKind.signed] <;> omega⟩⟩, ?_⟩) ⟨fun h => h, SubC.refl (hcab _), rfl, trivial⟩
  · simp only [SB.F, SI.den] at hge
    have hk2 : k = 256 := by omega
    have hAF : A = F := by rw [hA, hk2, hFa]
    refine X.go T18_ok 400 _ rfl Try.results18 ?_
    conv => arg 2; cbv
    refine X.done T18_ok rfl (fun N w' v hN hS hv => ?_)
    rw [hQ, ← hAF, ← hca]
    exact roR_of hS (r := 0) (z := 1) rfl (fun c hc N N' v h => bytL_den (by rw [← hca]; exact hc) h) (by rw [← hla, ← hva]; exact hv)

/-! ### may nodes be? -/
def mayP (d : Array Int) (k : Nat) : Prop := ∀ i, i < k → d[i]! < 64 ∧ (0 < i → d[i - 1]! < d[i]!)
theorem mayP_succ {d : Array Int} {k : Nat} : mayP d (k + 1) ↔ mayP d k ∧ d[k]! < 64 ∧ (0 < k → d[k - 1]! < d[k]!) := by
  constructor
  · exact fun h => ⟨fun i hi => h i (by omega), h k (by omega)⟩
  · rintro ⟨h1, h2⟩ i hi
    rcases Nat.lt_or_ge i k with h | h
    · exact h1 i h
    · have : i = k := by omega
      subst this
      exact h2
theorem mayP_mono {d : Array Int} {j k : Nat} (h : mayP d k) (hj : j ≤ k) : mayP d j := fun i hi => h i (by omega)

set_option maxHeartbeats 8000000 in
set_option maxRecDepth 100000 in
set_option cbv.maxSteps 100000000 in
theorem may_ok (p : Option Addr) (n c : Nat) (d : Array Int) (w : World) (hle : n ≤ 100000) (hA : InB p n d w) : Calls Try.prog 19 #[.slice p n c] w fun e w' => e = .returned (.bool (B (mayP d n))) ∧ Chg (fun _ _ => False) w w' := by
  have hn := hA.1
  obtain ⟨Q, hQ⟩ : ∃ Q : Ending → World → Prop, Q = fun e w' => e = .returned (.bool (B (mayP d n))) ∧ Chg (fun _ _ => False) w w' := ⟨_, rfl⟩
  rw [← hQ]
  refine X.begin (rg := []) (N := []) (ss := [.slv p n c]) Try.func19 rfl B19_ok rfl rfl Sat.std0 ?_
  refine X.go T19_ok 400 _ rfl Try.results19 ?_
  conv => arg 2; cbv
  refine X.loop (fun _ : {i : Nat // i ≤ n ∧ mayP d i} => mkE Try.prog Try.f19 Q w (InR [] []) (elsewhere [] [] w) (fun _ _ => False) (fun _ => True) [] B19)
    (fun g => ⟨[(0, .val (.slv p n c)), (5, .val (.slv p n c)), (6, .val (.int .i64 (.nat n))), (7, .val (.int .i64 (.nat g.1)))], []⟩) (fun g => n - g.1) (fun _ => ⟨rfl, rfl, rfl, rfl⟩) (fun N ac w' hN hf hS => ⟨⟨0, Nat.zero_le _, fun i hi => absurd hi (Nat.not_lt_zero i)⟩, ?_⟩) (fun g q hq => ?_)
  · exact At.again hf hS (by repeat first | exact trivial | refine ⟨⟨_, rfl, .inl ⟨rfl, rfl⟩⟩, ?_⟩ | refine ⟨⟨_, rfl, .inr ⟨_, rfl, rfl⟩⟩, ?_⟩ | refine ⟨⟨_, rfl, .inr ⟨_, rfl, by simp (disch := omega) [SV.den, SI.den, wrapU, wrapD] <;> omega⟩⟩, ?_⟩) trivial
  obtain ⟨i, hi, hmay⟩ := g
  show X (mkE Try.prog Try.f19 Q w (InR [] []) (elsewhere [] [] w) (fun _ _ => False) (fun _ => True) [] B19) _ ⟨[(0, .val (.slv p n c)), (5, .val (.slv p n c)), (6, .val (.int .i64 (.nat n))), (7, .val (.int .i64 (.nat i)))], []⟩
  refine X.go T19_ok 400 _ rfl Try.results19 ?_
  conv => arg 2; cbv
  refine X.cond rfl (fun hlt => ?_) (fun hge => ?_)
  · simp only [SB.T, SI.den] at hlt
    have hlt : i < n := by omega
    obtain ⟨b, y, hp, hd⟩ := hA.2 (by omega)
    obtain ⟨x, hx⟩ : ∃ x, x = d[i]! := ⟨_, rfl⟩
    obtain ⟨oi, hoi⟩ : ∃ o, o = y + i := ⟨_, rfl⟩
    obtain ⟨j, hj⟩ : ∃ j, j = i - 1 := ⟨_, rfl⟩
    obtain ⟨x', hx'⟩ : ∃ x, x = d[j]! := ⟨_, rfl⟩
    obtain ⟨oj, hoj⟩ : ∃ o, o = y + j := ⟨_, rfl⟩
    have hix : elsewhere [] [] w b (oi + 0) = some (.int .u8 x) := by rw [Nat.add_zero, els_old, hoi, hx]; exact hd i (by omega)
    have hjx : elsewhere [] [] w b (oj + 0) = some (.int .u8 x') := by rw [Nat.add_zero, els_old, hoj, hx']; exact hd j (by omega)
    have hms := mayP_succ (d := d) (k := i)
    rw [← hj, ← hx, ← hx'] at hms
    have hjz : ∀ s : SB, s.den = true → s = .gt (.nat i) (.lit 0) → IntKind.i64.wrap ((i : Int) - 1) = (j : Int) := fun s h1 h2 => by
      subst h2
      have : 0 < i := by have := (SB.TF _).1.1 h1; simp only [SB.T, SI.den] at this; omega
      rw [wrapN _ (by omega) (by omega)]
      omega
    refine X.goP ([(10, .ext b oi 0), (11, .int .u8 (.v x)), (22, .ext b oj 0), (23, .int .u8 (.v x'))]) T19_ok 400 _ rfl Try.results19 (fun pr fin hpr hfin => ?_)
    conv => cbv
    refine ⟨hpr _ (ValOk.im1 rfl Try.isAgg5 (fun _ => rfl) fun _ => hjx), hpr _ (ValOk.at (z := j) rfl rfl (fun hT => by exact hjz _ hT rfl) Try.underlying22 Try.sizeOf5 (fun _ => by omega) hp (by omega)), hpr _ (ValOk.im1 rfl Try.isAgg5 (fun _ => rfl) fun _ => hix), hpr _ (ValOk.at (z := i) rfl rfl (fun _ => rfl) Try.underlying22 Try.sizeOf5 (fun _ => hlt) hp (by omega)), hfin _ _ ?_⟩
    refine X.cond rfl (fun hT => ?_) (fun hF => ?_)
    · simp only [SB.T, SB.F, SI.den] at hT
      have hno : ¬ mayP d n := fun h => by
        have h1 := hms.1 (mayP_mono h hlt)
        rcases hT with h2 | ⟨h2, h3⟩
        · omega
        · have := h1.2.2 (by omega)
          omega
      refine X.go T19_ok 400 _ rfl Try.results19 ?_
      conv => arg 2; cbv
      refine X.done T19_ok rfl (fun N w' v hN hS hv => ?_)
      rw [hQ]
      exact ⟨fin_bool hv (by rw [B_neg hno]; rfl), hS.chg.none⟩
    · simp only [SB.T, SB.F, SI.den] at hF
      have hyes : mayP d (i + 1) := hms.2 ⟨hmay, by omega, fun h => by rcases hF.2 with h2 | h2 <;> omega⟩
      refine X.go T19_ok 400 _ rfl Try.results19 ?_
      conv => arg 2; cbv
      refine X.back (fun N ac w' hN hf hS => hq ⟨i + 1, hlt, hyes⟩ ac w' (by simp only; omega) ?_)
      exact At.again hf hS (by repeat first | exact trivial | refine ⟨⟨_, rfl, .inl ⟨rfl, rfl⟩⟩, ?_⟩ | refine ⟨⟨_, rfl, .inr ⟨_, rfl, rfl⟩⟩, ?_⟩ | refine ⟨⟨_, rfl, .inr ⟨_, rfl, by simp (disch := omega) [SV.den, SI.den, wrapU, wrapD] <;> omega⟩⟩, ?_⟩) trivial
  · simp only [SB.F, SI.den] at hge
    have hin : i = n := by omega
    subst hin
    refine X.go T19_ok 400 _ rfl Try.results19 ?_
    conv => arg 2; cbv
    refine X.done T19_ok rfl (fun N w' v hN hS hv => ?_)
    rw [hQ]
    exact ⟨fin_bool hv (by rw [B_pos hmay]; rfl), hS.chg.none⟩

set_option maxHeartbeats 8000000 in
set_option maxRecDepth 100000 in
set_option cbv.maxSteps 100000000 in
theorem may9_ok (p : Option Addr) (n c : Nat) (d : Array Int) (w : World) (hle : n ≤ 100000) (hA : InB p n d w) : Calls Try.prog 20 #[.slice p n c] w fun e w' => e = .returned (.bool (B (mayP d n))) ∧ Chg (fun _ _ => False) w w' := by
  have hn := hA.1
  obtain ⟨Q, hQ⟩ : ∃ Q : Ending → World → Prop, Q = fun e w' => e = .returned (.bool (B (mayP d n))) ∧ Chg (fun _ _ => False) w w' := ⟨_, rfl⟩
  rw [← hQ]
  refine X.begin (rg := []) (N := []) (ss := [.slv p n c]) Try.func20 rfl B20_ok rfl rfl Sat.std0 ?_
  refine X.go T20_ok 400 _ rfl Try.results20 ?_
  conv => arg 2; cbv
  refine X.loop (fun _ : {i : Nat // i ≤ n ∧ mayP d i} => mkE Try.prog Try.f20 Q w (InR [] []) (elsewhere [] [] w) (fun _ _ => False) (fun _ => True) [] B20)
    (fun g => ⟨[(0, .val (.slv p n c)), (5, .val (.int .i64 (.nat n))), (6, .val (.int .i64 (.nat g.1)))], []⟩) (fun g => n - g.1) (fun _ => ⟨rfl, rfl, rfl, rfl⟩) (fun N ac w' hN hf hS => ⟨⟨0, Nat.zero_le _, fun i hi => absurd hi (Nat.not_lt_zero i)⟩, ?_⟩) (fun g q hq => ?_)
  · exact At.again hf hS (by repeat first | exact trivial | refine ⟨⟨_, rfl, .inl ⟨rfl, rfl⟩⟩, ?_⟩ | refine ⟨⟨_, rfl, .inr ⟨_, rfl, rfl⟩⟩, ?_⟩ | refine ⟨⟨_, rfl, .inr ⟨_, rfl, by simp (disch := omega) [SV.den, SI.den, wrapU, wrapD] <;> omega⟩⟩, ?_⟩) trivial
  obtain ⟨i, hi, hmay⟩ := g
  show X (mkE Try.prog Try.f20 Q w (InR [] []) (elsewhere [] [] w) (fun _ _ => False) (fun _ => True) [] B20) _ ⟨[(0, .val (.slv p n c)), (5, .val (.int .i64 (.nat n))), (6, .val (.int .i64 (.nat i)))], []⟩
  refine X.go T20_ok 400 _ rfl Try.results20 ?_
  conv => arg 2; cbv
  refine X.cond rfl (fun hlt => ?_) (fun hge => ?_)
  · simp only [SB.T, SI.den] at hlt
    have hlt : i < n := by omega
    obtain ⟨b, y, hp, hd⟩ := hA.2 (by omega)
    obtain ⟨x, hx⟩ : ∃ x, x = d[i]! := ⟨_, rfl⟩
    obtain ⟨oi, hoi⟩ : ∃ o, o = y + i := ⟨_, rfl⟩
    obtain ⟨j, hj⟩ : ∃ j, j = i - 1 := ⟨_, rfl⟩
    obtain ⟨x', hx'⟩ : ∃ x, x = d[j]! := ⟨_, rfl⟩
    obtain ⟨oj, hoj⟩ : ∃ o, o = y + j := ⟨_, rfl⟩
    have hix : elsewhere [] [] w b (oi + 0) = some (.int .u8 x) := by rw [Nat.add_zero, els_old, hoi, hx]; exact hd i (by omega)
    have hjx : elsewhere [] [] w b (oj + 0) = some (.int .u8 x') := by rw [Nat.add_zero, els_old, hoj, hx']; exact hd j (by omega)
    have hms := mayP_succ (d := d) (k := i)
    rw [← hj, ← hx, ← hx'] at hms
    have hjz : ∀ s : SB, s.den = true → s = .gt (.nat i) (.lit 0) → IntKind.i64.wrap ((i : Int) - 1) = (j : Int) := fun s h1 h2 => by
      subst h2
      have : 0 < i := by have := (SB.TF _).1.1 h1; simp only [SB.T, SI.den] at this; omega
      rw [wrapN _ (by omega) (by omega)]
      omega
    refine X.goP ([(11, .ext b oi 0), (12, .int .u8 (.v x)), (21, .ext b oj 0), (22, .int .u8 (.v x')), (25, .ext b oi 0), (26, .int .u8 (.v x))]) T20_ok 400 _ rfl Try.results20 (fun pr fin hpr hfin => ?_)
    conv => cbv
    refine ⟨hpr _ (ValOk.im1 rfl Try.isAgg5 (fun _ => rfl) fun _ => hix), hpr _ (ValOk.im1 rfl Try.isAgg5 (fun _ => rfl) fun _ => hjx), hpr _ (ValOk.at (z := i) rfl rfl (fun _ => rfl) Try.underlying22 Try.sizeOf5 (fun _ => hlt) hp (by omega)), hpr _ (ValOk.at (z := j) rfl rfl (fun hT => by exact hjz _ hT rfl) Try.underlying22 Try.sizeOf5 (fun _ => by omega) hp (by omega)), hpr _ (ValOk.im1 rfl Try.isAgg5 (fun _ => rfl) fun _ => hix), hpr _ (ValOk.at (z := i) rfl rfl (fun _ => rfl) Try.underlying22 Try.sizeOf5 (fun _ => hlt) hp (by omega)), hfin _ _ ?_⟩
    refine X.cond rfl (fun hT => ?_) (fun hF => ?_)
    · simp only [SB.T, SB.F, SI.den] at hT
      have hno : ¬ mayP d n := fun h => by
        have h1 := hms.1 (mayP_mono h hlt)
        rcases hT with h2 | ⟨h2, h3⟩
        · omega
        · have := h1.2.2 (by omega)
          omega
      refine X.go T20_ok 400 _ rfl Try.results20 ?_
      conv => arg 2; cbv
      refine X.done T20_ok rfl (fun N w' v hN hS hv => ?_)
      rw [hQ]
      exact ⟨fin_bool hv (by rw [B_neg hno]; rfl), hS.chg.none⟩
    · simp only [SB.T, SB.F, SI.den] at hF
      have hyes : mayP d (i + 1) := hms.2 ⟨hmay, by omega, fun h => by rcases hF.2 with h2 | h2 <;> omega⟩
      refine X.go T20_ok 400 _ rfl Try.results20 ?_
      conv => arg 2; cbv
      refine X.back (fun N ac w' hN hf hS => hq ⟨i + 1, hlt, hyes⟩ ac w' (by simp only; omega) ?_)
      exact At.again hf hS (by repeat first | exact trivial | refine ⟨⟨_, rfl, .inl ⟨rfl, rfl⟩⟩, ?_⟩ | refine ⟨⟨_, rfl, .inr ⟨_, rfl, rfl⟩⟩, ?_⟩ | refine ⟨⟨_, rfl, .inr ⟨_, rfl, by simp (disch := omega) [SV.den, SI.den, wrapU, wrapD] <;> omega⟩⟩, ?_⟩) trivial
  · simp only [SB.F, SI.den] at hge
    have hin : i = n := by omega
    subst hin
    refine X.go T20_ok 400 _ rfl Try.results20 ?_
    conv => arg 2; cbv
    refine X.done T20_ok rfl (fun N w' v hN hS hv => ?_)
    rw [hQ]
    exact ⟨fin_bool hv (by rw [B_pos hmay]; rfl), hS.chg.none⟩

end Go.Proofs.Ythaffebapmkppaa
