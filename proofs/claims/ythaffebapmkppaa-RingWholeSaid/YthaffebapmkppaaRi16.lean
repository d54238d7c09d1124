/- RingWhole: the keepers. -/
import Derived.Test.YthaffebapmkppaaRi15

namespace Go.Proofs.Ythaffebapmkppaa
open Go Go.Eng Go.Sort

/-- the tail of a body, so many statements on -/
def tailC : Nat → Code → Code
  | 0, c => c
  | n + 1, c => tailC n (sndC c)

set_option maxHeartbeats 8000000 in
set_option maxRecDepth 100000 in
set_option cbv.maxSteps 100000000 in
theorem whole_keep (pa pb : Option Addr) (qa ca qb cb ct mv : Nat) (a b d : List Int) (w : World) (im : Mem) (Q : Ending → World → Prop) (hQ : Q = fun e w' => e = .returned (.bool true) ∧ Chg (fun _ _ => False) w w')
    (hqa : a.length = qa) (hqb : b.length = qb) (hle : qa ≤ 1000) (hca : qa ≤ ca) (hct : qa = ct) (hba : b = a.take mv) (hmv : mv < 256) (hnd : a.Nodup) (hmem : ∀ y ∈ a, y ∈ d ∧ 0 ≤ y ∧ y < 256)
    (hpa : (a = [] ∧ pa = none ∧ ca = 0) ∨ ∃ ba ya, pa = some ⟨ba, ya, none⟩ ∧ ∀ j, j < qa → im ba (ya + j) = some (.int .u8 a[j]!))
    (hpb : (b = [] ∧ pb = none ∧ cb = 0) ∨ ∃ bb yb, pb = some ⟨bb, yb, none⟩ ∧ ∀ j, j < qb → im bb (yb + j) = some (.int .u8 b[j]!)) :
    X (mkE Try.prog Try.f4 Q w (InR [] []) im (fun _ _ => False) (fun _ => True) [] B4) [It.code (tailC 7 (Try.f4.body.getD .skip))] ⟨[(12, .val (.slv pb qb cb)), (11, .val (.slv pa qa ca)), (2, .val (.int .u8 (.nat mv))), (7, .val (.own 0 0)), (8, .val (.int .i64 (.nat ct)))], [⟨true, fnL 256 (hadJ [] d), none⟩]⟩ := by
  obtain ⟨cs0, hcs0⟩ : ∃ c, c = fnL 256 (hadJ (a.take 0) d) := ⟨_, rfl⟩
  have hbd0 : ∀ m, cs0.all (bd m) = true := fun m => by rw [hcs0]; exact fnL_bd
  rw [show fnL 256 (hadJ [] d) = cs0 from hcs0.symm]
  refine X.go T4_ok 400 _ rfl Try.results4 ?_
  conv => arg 2; cbv
  refine X.loop (fun _ : {i : Nat // i ≤ qa} => mkE Try.prog Try.f4 Q w (InR [] []) im (fun _ _ => False) (fun _ => True) [] B4)
    (fun g => ⟨[(12, .val (.slv pb qb cb)), (11, .val (.slv pa qa ca)), (2, .val (.int .u8 (.nat mv))), (7, .val (.own 0 0)), (8, .val (.int .i64 (.nat ct))), (13, .val (.int .i64 (.nat g.1)))], [⟨true, fnL 256 (hadJ (a.take g.1) d), none⟩]⟩) (fun g => qa - g.1) (fun _ => ⟨rfl, rfl, rfl, rfl⟩) (fun N ac w' hN hf hS => ⟨⟨0, Nat.zero_le _⟩, ?_⟩) (fun g q hq => ?_)
  · show At _ ⟨[(12, .val (.slv pb qb cb)), (11, .val (.slv pa qa ca)), (2, .val (.int .u8 (.nat mv))), (7, .val (.own 0 0)), (8, .val (.int .i64 (.nat ct))), (13, .val (.int .i64 (.nat 0)))], [⟨true, fnL 256 (hadJ (a.take 0) d), none⟩]⟩ ac w'
    rw [← hcs0]
    exact At.again hf hS (by repeat first | exact trivial | refine ⟨⟨_, rfl, .inl ⟨rfl, rfl⟩⟩, ?_⟩ | refine ⟨⟨_, rfl, .inr ⟨_, rfl, rfl⟩⟩, ?_⟩ | refine ⟨⟨_, rfl, .inr ⟨_, rfl, by simp (disch := omega) [SV.den, SI.den, wrapU, wrapD] <;> omega⟩⟩, ?_⟩) ⟨fun h => h, SubC.refl (hbd0 _), rfl, trivial⟩
  obtain ⟨i, hi⟩ := g
  show X (mkE Try.prog Try.f4 Q w (InR [] []) im (fun _ _ => False) (fun _ => True) [] B4) _ ⟨[(12, .val (.slv pb qb cb)), (11, .val (.slv pa qa ca)), (2, .val (.int .u8 (.nat mv))), (7, .val (.own 0 0)), (8, .val (.int .i64 (.nat ct))), (13, .val (.int .i64 (.nat i)))], [⟨true, fnL 256 (hadJ (a.take i) d), none⟩]⟩
  obtain ⟨hf, hhf⟩ : ∃ h, h = hadJ (a.take i) d := ⟨_, rfl⟩
  obtain ⟨cs, hcs⟩ : ∃ h, h = fnL 256 hf := ⟨_, rfl⟩
  rw [← hhf, ← hcs]
  refine X.go T4_ok 400 _ rfl Try.results4 ?_
  conv => arg 2; cbv
  refine X.cond rfl (fun hlt => ?_) (fun hge => ?_)
  · simp only [SB.T, SI.den] at hlt
    have hlt : i < qa := by omega
    obtain ⟨ba, ya, hpa, hai⟩ : ∃ ba ya, pa = some ⟨ba, ya, none⟩ ∧ ∀ j, j < qa → im ba (ya + j) = some (.int .u8 a[j]!) := by
      rcases hpa with ⟨h, _⟩ | h
      · rw [h] at hqa; simp at hqa; omega
      · exact h
    obtain ⟨x, hx⟩ : ∃ z, z = a[i]! := ⟨_, rfl⟩
    have hxe : a[i] = x := by rw [hx, getElem!_pos a i (by omega)]
    have hxm : x ∈ a := by rw [← hxe]; exact List.getElem_mem _
    obtain ⟨hxd, hx0⟩ := hmem x hxm
    obtain ⟨xz, hxz, hx8⟩ := byteN hx0
    obtain ⟨oi, hoi⟩ : ∃ o, o = ya + i := ⟨_, rfl⟩
    have hix : im ba (oi + 0) = some (.int .u8 x) := by rw [Nat.add_zero, hoi, hx]; exact hai i hlt
    have hsn := take_snoc (l := a) (i := i) (by omega)
    rw [← hx] at hsn
    have hnew : ¬ x ∈ a.take i := fun h => by
      have h2 : (a.take (i + 1)).Nodup := hnd.sublist (List.take_sublist _ _)
      rw [hsn] at h2
      exact (List.nodup_append.1 h2).2.2 x h x (by simp) rfl
    have hcx : cs[xz]? = some (.int .i64 (.v 1)) := by
      rw [hcs, fnL_at _ hx8, hhf, hadJ, if_neg (by rw [← hxz]; exact hnew), hadI, if_pos (by rw [← hxz]; exact hxd)]
    refine X.goP ([(57, .ext ba oi 0), (58, .int .u8 (.v x)), (59, .own 0 xz), (60, .int .i64 (.v 1))]) T4_ok 400 _ rfl Try.results4 (fun pr fin hpr hfin => ?_)
    conv => cbv
    refine ⟨hpr _ (vk_load1 rfl Try.isAgg3 rfl hcx), hpr _ (vk_arr (z := xz) rfl rfl (fun _ => hxz) Try.underlying26 Try.sizeOf3 hx8 (by omega) (Nat.lt_of_sub_eq_succ rfl)), hpr _ (ValOk.im1 rfl Try.isAgg5 (fun _ => rfl) fun _ => hix), hpr _ (ValOk.at (z := i) rfl rfl (fun _ => rfl) Try.underlying22 Try.sizeOf5 (fun _ => hlt) hpa (by omega)), hfin _ _ ?_⟩
    refine X.cond rfl (fun hz => ?_) (fun hz => ?_)
    · exact absurd hz (by simp [SB.T, SI.den])
    · skip
      refine X.goP ([(64, .ext ba oi 0), (65, .int .u8 (.v x)), (66, .own 0 xz)]) T4_ok 7 _ rfl Try.results4 (fun pr fin hpr hfin => ?_)
      conv => cbv
      refine ⟨hpr _ (vk_arr (z := xz) rfl rfl (fun _ => hxz) Try.underlying26 Try.sizeOf3 hx8 (by omega) (Nat.lt_of_sub_eq_succ rfl)), hpr _ (ValOk.im1 rfl Try.isAgg5 (fun _ => rfl) fun _ => hix), hpr _ (ValOk.at (z := i) rfl rfl (fun _ => rfl) Try.underlying22 Try.sizeOf5 (fun _ => hlt) hpa (by omega)), hfin _ _ ?_⟩
      have hcl : cs.length = 256 := by rw [hcs]; exact fnL_len _ _
      refine X.opEq T4_ok (oe_store (v := .int .i64 (.lit 2)) (g := ⟨true, cs, none⟩) (cs' := setRow cs xz [.int .i64 (.lit 2)]) rfl rfl rfl rfl rfl rfl rfl rfl rfl rfl (by show xz + 1 ≤ cs.length; omega) rfl rfl) ?_
      refine X.recell 0 ⟨true, setRow cs xz [.int .i64 (.lit 2)], none⟩ (fnL 256 (hadJ (a.take (i + 1)) d)) rfl (by rw [fnL_len, setRow_length _ _ _ (by omega)]; show 256 = max cs.length (xz + 1); omega) (fun N _ j c c' h1 h2 v hv => ?_) ?_
      · subst hcs
        refine fnL_put (f := hf) hx8 ?_ (fun z hz => ?_) N j c c' h1 h2 v hv
        · rw [hadJ, if_pos (by rw [← hxz, hsn]; simp)]
        · rw [hhf, hadJ, hadJ, hsn]
          have : ¬ (z : Int) = x := by omega
          simp [this]
      obtain ⟨cs2, hcs2⟩ : ∃ c, c = fnL 256 (hadJ (a.take (i + 1)) d) := ⟨_, rfl⟩
      have hbd2 : ∀ m, cs2.all (bd m) = true := fun m => by rw [hcs2]; exact fnL_bd
      rw [← hcs2]
      show X (mkE Try.prog Try.f4 Q w (InR [] []) im (fun _ _ => False) (fun _ => True) [] B4) _ ⟨_, [⟨true, cs2, none⟩]⟩
      refine X.go T4_ok 400 _ rfl Try.results4 ?_
      conv => arg 2; cbv
      refine X.back (fun N ac w' hN hf hS => hq ⟨i + 1, hlt⟩ ac w' (by simp only; omega) ?_)
      show At (mkE Try.prog Try.f4 Q w (InR [] []) im (fun _ _ => False) (fun _ => True) [] B4) ⟨[(12, .val (.slv pb qb cb)), (11, .val (.slv pa qa ca)), (2, .val (.int .u8 (.nat mv))), (7, .val (.own 0 0)), (8, .val (.int .i64 (.nat ct))), (13, .val (.int .i64 (.nat (i + 1))))], [⟨true, fnL 256 (hadJ (a.take (i + 1)) d), none⟩]⟩ ac w'
      rw [← hcs2]
      exact At.again hf hS (by repeat first | exact trivial | refine ⟨⟨_, rfl, .inl ⟨rfl, rfl⟩⟩, ?_⟩ | refine ⟨⟨_, rfl, .inr ⟨_, rfl, rfl⟩⟩, ?_⟩ | refine ⟨⟨_, rfl, .inr ⟨_, rfl, by simp (disch := omega) [SV.den, SI.den, wrapU, wrapD] <;> omega⟩⟩, ?_⟩) ⟨fun h => h, SubC.refl (hbd2 _), rfl, trivial⟩
  · simp only [SB.F, SI.den] at hge
    have hbl : qb = min ct mv := by rw [← hqb, hba, List.length_take, hqa, hct, Nat.min_comm]
    obtain ⟨S, hS0⟩ : ∃ S, S = strOfNums b := ⟨_, rfl⟩
    refine X.goP ([(84, .slv pa qb ca), (85, .raw (.string S)), (87, .raw (.string S)), (88, .bool (.lit true)), (91, .bool (.lit true))]) T4_ok 400 _ rfl Try.results4 (fun pr fin hpr hfin => ?_)
    conv => cbv
    have hsa : ∀ ba ya, (∀ j, j < qa → im ba (ya + j) = some (.int .u8 a[j]!)) → ∀ j, j < qb → im ba (ya + j) = some (.int .u8 b[j]!) := fun ba ya h j hj => by
      rw [h j (by omega), hba, getElem!_pos a j (by omega), getElem!_pos (a.take mv) j (by rw [← hba]; omega)]
      simp
    refine ⟨hpr _ (.of Try.call11 [] (.bool true) (fun _ => rfl) (fun _ => rfl) fun _ w1 _ => awake_ok w1), hpr _ (vk_eqs rfl rfl rfl), ?_, ?_, hpr _ (vk_slvHi (z := qb) rfl rfl (fun _ => rfl) Try.underlying22 Try.sizeOf5 (fun _ => by omega) hca), hfin _ _ ?_⟩
    · rw [hS0]
      refine hpr _ (vk_str rfl hqb Try.underlying22 Try.underlying5 Try.underlying9 ?_)
      rcases hpb with ⟨h1, h2, h3⟩ | ⟨bb, yb, h1, h2⟩
      · exact .inl ⟨h2, h3, by rw [← hqb, h1]; rfl⟩
      · exact .inr ⟨bb, yb, h1, h2⟩
    · rw [hS0]
      refine hpr _ (vk_str rfl hqb Try.underlying22 Try.underlying5 Try.underlying9 ?_)
      rcases hpa with ⟨h1, h2, h3⟩ | ⟨ba, ya, h1, h2⟩
      · exact .inl ⟨h2, h3, by rw [← hqb, hba, h1]; simp⟩
      · exact .inr ⟨ba, ya, h1, hsa ba ya h2⟩
    refine X.done T4_ok rfl (fun N w' v hN hS hv => ?_)
    rw [hQ]
    refine ⟨fin_bool hv ?_, hS.chg.none⟩
    rw [den_of (q := true)]
    simp only [SB.T, SI.den, wrapN (mv : Int) (by omega) (by omega)]
    have : (qb : Int) = if (mv : Int) < (ct : Int) then (mv : Int) else (ct : Int) := by split <;> omega
    exact ⟨fun _ => trivial, fun _ => ⟨by omega, this⟩⟩

theorem BytRet.at {l : List Int} {w w' : World} {im : Mem} {p : Option Addr} {c : Nat} (h : l = [] ∧ p = none ∧ c = 0 ∨ l ≠ [] ∧ ∃ b o, p = some ⟨b, o, none⟩ ∧ w.heap.size ≤ b ∧ AtA w' b o l.toArray) (hm : ∀ k o v, w.heap.size ≤ k → w'.cell? ⟨k, o, none⟩ = some v → im k o = some v) :
    (l = [] ∧ p = none ∧ c = 0) ∨ ∃ b y, p = some ⟨b, y, none⟩ ∧ ∀ j, j < l.length → im b (y + j) = some (.int .u8 l[j]!) := by
  rcases h with h | ⟨_, b, o, h1, h2, h3⟩
  · exact .inl h
  · refine .inr ⟨b, o, h1, fun j hj => ?_⟩
    have := hm _ _ _ h2 (h3 j (by simpa using hj)).1
    simpa [hj] using this

set_option maxHeartbeats 8000000 in
set_option maxRecDepth 100000 in
set_option cbv.maxSteps 100000000 in
theorem whole_mid (p : Option Addr) (n cp mv ct : Nat) (d : Array Int) (key : Int) (w : World) (Q : Ending → World → Prop) (hQ : Q = fun e w' => e = .returned (.bool true) ∧ Chg (fun _ _ => False) w w')
    (h80 : n ≤ 80) (hIn : InB p n d w) (hd : ∀ x ∈ d.toList, 0 ≤ x ∧ x < 256) (hmv : mv < 256) (hct : ct = (dd d.toList []).length) :
    X (mkE Try.prog Try.f4 Q w (InR [] []) (elsewhere [] [] w) (fun _ _ => False) (fun _ => True) [] B4) [It.code (tailC 5 (Try.f4.body.getD .skip))] ⟨[(0, .val (.slv p n cp)), (1, .val (.int .u8 (.v key))), (2, .val (.int .u8 (.nat mv))), (7, .val (.own 0 0)), (8, .val (.int .i64 (.nat ct)))], [⟨true, fnL 256 (hadI d.toList), none⟩]⟩ := by
  have hn := hIn.1
  obtain ⟨cs, hcs⟩ : ∃ c, c = fnL 256 (hadI d.toList) := ⟨_, rfl⟩
  rw [← hcs]
  refine X.go T4_ok 400 _ rfl Try.results4 ?_
  conv => arg 2; cbv
  refine X.call rfl rfl rfl rfl Try.call13 (fun N w1 args hN hS ha => ?_)
  have ha : args = [.slice p n cp] := (Option.some.inj ha).symm
  rw [ha]
  refine (build_ok p n cp d w1 (by omega) (hIn.stays hS.chg.none)).mono fun e w2 ⟨p1, c1, he, hr, hch⟩ => ⟨_, he, ?_⟩
  obtain ⟨L, hL⟩ : ∃ L, L = ringP d := ⟨_, rfl⟩
  obtain ⟨m, hm⟩ : ∃ m, m = L.length := ⟨_, rfl⟩
  have hm8 : m ≤ 8000 := by rw [hm, hL]; have := ringP_len d; omega
  rw [← hL] at hr
  rw [← hL, ← hm]
  refine Goes.newMem hN hS hch (r := .slv p1 m c1) rfl rfl (fun hold hnew => ?_)
  obtain ⟨im, him⟩ : ∃ im, im = imNew (elsewhere [] [] w) w1 w2 := ⟨_, rfl⟩
  have hpt : 0 < m → ∃ b o, p1 = some ⟨b, o, none⟩ ∧ ∀ j, j < L.length → im b (o + j * 2) = some (.int .u64 L[j]!.1) ∧ im b (o + j * 2 + 1) = some (.int .u8 L[j]!.2) := fun h0 => by
    rcases hr with h | ⟨b, o, h1, h2, h3⟩
    · rw [h] at hm; simp at hm; omega
    · refine ⟨b, o, h1, fun j hj => ?_⟩
      have := PtIn.of h3 j hj
      rw [him]
      exact ⟨hnew _ _ _ h2 this.1, hnew _ _ _ h2 this.2⟩
  show X (mkE Try.prog Try.f4 Q w (InR [] []) (imNew (elsewhere [] [] w) w1 w2) (fun _ _ => False) (fun _ => True) [] B4) _ _
  rw [← him]
  clear him hold hnew hr hch he ha hS hN
  refine X.go T4_ok 400 _ rfl Try.results4 ?_
  conv => arg 2; cbv
  refine X.call rfl rfl rfl rfl Try.call14 (fun N w3 args hN hS ha => ?_)
  have ha : args = [.slice p1 m c1, .int .u8 key, .int .i64 300] := (Option.some.inj ha).symm
  rw [ha]
  have hpi : ∀ w3 : World, (∀ k o v, im k o = some v → w3.cell? ⟨k, o, none⟩ = some v) → ∃ b o, (0 < m → p1 = some ⟨b, o, none⟩) ∧ PtIn b o L w3 := fun w3 hS => by
    rcases Nat.eq_zero_or_pos m with h | h
    · exact ⟨0, 0, fun h2 => by omega, fun j hj => by omega⟩
    · obtain ⟨b, o, h1, h2⟩ := hpt h
      exact ⟨b, o, fun _ => h1, fun j hj => ⟨hS _ _ _ (h2 j hj).1, hS _ _ _ (h2 j hj).2⟩⟩
  obtain ⟨b, o, hp, hpi1⟩ := hpi w3 hS.imm
  obtain ⟨k1, k2, k3, k4⟩ := keep_whole (d := d) (by omega) key
  refine (keepers_ok b o m c1 p1 L key 300 w3 hp hm.symm hm8 hpi1 (by rw [hL]; exact ringP_rise d) (by rw [hL]; exact ringP_byte hd)).mono fun e w4 ⟨pa, ca, he, hca, hr, hch⟩ => ⟨_, he, ?_⟩
  obtain ⟨a, ha1⟩ : ∃ l, l = keepL L key 300 := ⟨_, rfl⟩
  obtain ⟨qa, hqa⟩ : ∃ q, q = a.length := ⟨_, rfl⟩
  rw [← hL, ← ha1] at k1 k2 k3 k4
  rw [← ha1] at hr hca
  rw [← ha1, ← hqa]
  refine Goes.newMem hN hS hch (r := .slv pa qa ca) rfl rfl (fun hold hnew => ?_)
  obtain ⟨im2, him2⟩ : ∃ im2, im2 = imNew im w3 w4 := ⟨_, rfl⟩
  have hpa := BytRet.at (im := im2) hr (by rw [him2]; exact hnew)
  have hold2 : ∀ k o u, im k o = some u → im2 k o = some u := by rw [him2]; exact hold
  show X (mkE Try.prog Try.f4 Q w (InR [] []) (imNew im w3 w4) (fun _ _ => False) (fun _ => True) [] B4) _ _
  rw [← him2]
  clear him2 hold hnew hr hch he ha hS hN hp hpi1
  refine X.go T4_ok 400 _ rfl Try.results4 ?_
  conv => arg 2; cbv
  refine X.call rfl rfl rfl rfl Try.call14 (fun N w5 args hN hS ha => ?_)
  have ha : args = [.slice p1 m c1, .int .u8 key, .int .i64 mv] := by
    have := (Option.some.inj ha).symm
    simpa [SI.den, wrapN (mv : Int) (by omega) (by omega)] using this
  rw [ha]
  obtain ⟨b, o, hp, hpi1⟩ := hpi w5 (fun k o v h => hS.imm k o v (hold2 k o v h))
  refine (keepers_ok b o m c1 p1 L key mv w5 hp hm.symm hm8 hpi1 (by rw [hL]; exact ringP_rise d) (by rw [hL]; exact ringP_byte hd)).mono fun e w6 ⟨pb, cb, he, hcb, hr, hch⟩ => ⟨_, he, ?_⟩
  obtain ⟨l, hl1⟩ : ∃ l, l = keepL L key mv := ⟨_, rfl⟩
  obtain ⟨qb, hqb⟩ : ∃ q, q = l.length := ⟨_, rfl⟩
  have hlt : l = a.take mv := by rw [hl1, k4]
  rw [← hl1] at hr hcb
  rw [← hl1, ← hqb]
  refine Goes.newMem hN hS hch (r := .slv pb qb cb) rfl rfl (fun hold hnew => ?_)
  obtain ⟨im3, him3⟩ : ∃ im3, im3 = imNew im2 w5 w6 := ⟨_, rfl⟩
  have hpb := BytRet.at (im := im3) hr (by rw [him3]; exact hnew)
  have hpa3 : (a = [] ∧ pa = none ∧ ca = 0) ∨ ∃ b y, pa = some ⟨b, y, none⟩ ∧ ∀ j, j < a.length → im3 b (y + j) = some (.int .u8 a[j]!) := by
    rcases hpa with h | ⟨b, y, h1, h2⟩
    · exact .inl h
    · exact .inr ⟨b, y, h1, fun j hj => by rw [him3]; exact hold _ _ _ (h2 j hj)⟩
  show X (mkE Try.prog Try.f4 Q w (InR [] []) (imNew im2 w5 w6) (fun _ _ => False) (fun _ => True) [] B4) _ _
  rw [← him3]
  clear him3 hold hnew hr hch he ha hS hN hp hpi1
  refine X.go T4_ok 2 _ rfl Try.results4 ?_
  conv => arg 2; cbv
  refine X.less [2, 7, 8, 11, 12] ?_
  subst hcs
  rw [← hqa] at hpa3
  rw [← hqb] at hpb
  exact whole_keep pa pb qa ca qb cb ct mv a l d.toList w im3 Q hQ hqa.symm hqb.symm (by rw [hqa, k3]; have := dd_len d.toList []; simp at this; omega) (by omega) (by rw [hqa, k3, hct]) hlt hmv k1 (fun y hy => ⟨(k2 y).1 hy, hd y ((k2 y).1 hy)⟩) hpa3 hpb

set_option maxHeartbeats 8000000 in
set_option maxRecDepth 100000 in
set_option cbv.maxSteps 100000000 in
theorem whole_ok (p : Option Addr) (n cp mv : Nat) (d : Array Int) (key : Int) (w : World) (hIn : InB p n d w) (hc : n ≤ cp) (hd : ∀ x ∈ d.toList, 0 ≤ x ∧ x < 256) (hmv : mv < 256) :
    Calls Try.prog 4 #[.slice p n cp, .int .u8 key, .int .u8 mv] w fun e w' => e = .returned (.bool true) ∧ Chg (fun _ _ => False) w w' := by
  have hn := hIn.1
  obtain ⟨Q, hQ⟩ : ∃ Q : Ending → World → Prop, Q = fun e w' => e = .returned (.bool true) ∧ Chg (fun _ _ => False) w w' := ⟨_, rfl⟩
  rw [← hQ]
  refine X.begin (rg := []) (N := []) (ss := [.slv p n cp, .int .u8 (.v key), .int .u8 (.nat mv)]) Try.func4 rfl B4_ok rfl rfl Sat.std0 ?_
  refine X.go T4_ok 400 _ rfl Try.results4 ?_
  conv => arg 2; cbv
  refine X.cond rfl (fun h => ?_) (fun h => ?_)
  · skip
    refine X.go T4_ok 400 _ rfl Try.results4 ?_
    conv => arg 2; cbv
    refine X.call rfl rfl rfl rfl Try.call11 (fun N w1 args hN hS ha => ?_)
    have ha : args = [] := (Option.some.inj ha).symm
    rw [ha]
    refine (awake_ok w1).mono fun e w2 ⟨he, hch⟩ => ⟨_, he, Goes.same hN hS hch (r := .bool (.lit true)) rfl rfl ?_⟩
    refine X.go T4_ok 400 _ rfl Try.results4 ?_
    conv => arg 2; cbv
    refine X.done T4_ok rfl (fun N w' v hN hS hv => ?_)
    rw [hQ]
    exact ⟨fin_bool hv rfl, hS.chg.none⟩
  · simp only [SB.F, SI.den] at h
    have h80 : n ≤ 80 := by omega
    refine X.go T4_ok 1 _ rfl Try.results4 ?_
    conv => arg 2; cbv
    refine X.less [0, 1, 2] ?_
    obtain ⟨b, y, hp, hdi⟩ : ∃ b y, (0 < n → p = some ⟨b, y, none⟩) ∧ ∀ j, j < n → elsewhere [] [] w b (y + j) = some (.int .u8 d.toList[j]!) := by
      rcases Nat.eq_zero_or_pos n with h0 | h0
      · exact ⟨0, 0, fun h => by omega, fun j hj => by omega⟩
      · obtain ⟨b, y, h1, h2⟩ := hIn.2 h0
        refine ⟨b, y, fun _ => h1, fun j hj => ?_⟩
        rw [els_old, h2 j (by omega), getElem!_pos d j (by omega), getElem!_pos d.toList j (by simp; omega)]
        simp
    exact whole_had p n cp b y mv d.toList key w _ Q (by simpa using hn) (by omega) hp hdi hd hc (whole_mid p n cp mv _ d key w Q hQ h80 hIn hd hmv rfl)

end Go.Proofs.Ythaffebapmkppaa
