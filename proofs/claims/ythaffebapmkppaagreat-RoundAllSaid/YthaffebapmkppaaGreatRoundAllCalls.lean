import Derived.Test.YthaffebapmkppaaGreatRn6

namespace Go.Proofs.YthaffebapmkppaaGreat
open Go Go.Eng Go.Sort
def RaI (C : Nat) (o n : Array Int) (key : Int) (ph : Int) (got set : Nat) : Prop := got < 2 ^ 64 ∧ set < 2 ^ 64 ∧
  (ph = 3 ∧ ¬ allC C o n key set ∧ (∀ x ∈ keepC C o n key, got.testBit x.toNat = set.testBit x.toNat) ∨ ph = 4 ∧ allC C o n key set)
theorem ra_start {C : Nat} {o n : Array Int} {key : Int} (hmay : mayC C o n) : RaI C o n key 3 0 0 :=
  ⟨by decide, by decide, .inl ⟨rfl, fun h => by
    obtain ⟨x, l, hx⟩ := List.exists_cons_of_ne_nil (keep_ne (key := key) hmay)
    have := h.2 x (by rw [hx]; exact List.mem_cons_self)
    simp at this, fun _ _ => rfl⟩⟩
theorem ra_step {C : Nat} {o n : Array Int} {key : Int} {ph : Int} {got set : Nat} (hK : ∀ x ∈ keepC C o n key, 0 ≤ x ∧ x < 64) (h : RaI C o n key ph got set) (fr : Int) (hfr : 0 ≤ fr) :
    ∃ (ph' : Int) (got' set' : Nat), set' = (if fr < 64 then set ||| 2 ^ fr.toNat else set) ∧ RaI C o n key ph' got' set' ∧
      (ph = 3 ∧ fr ∈ keepC C o n key ∧ got' = got ||| 2 ^ fr.toNat ∧ ph' = (bif B (allC C o n key got') then 4 else 3) ∨ ph = 3 ∧ fr ∉ keepC C o n key ∧ got' = got ∧ ph' = 3 ∨ ph = 4 ∧ ph' = 4 ∧ got' = got) := by
  have hp : fr < 64 → 2 ^ fr.toNat < 2 ^ 64 := fun h => Nat.pow_lt_pow_right (by decide) (by omega)
  obtain ⟨hg, hs, ⟨rfl, hna, hag⟩ | ⟨rfl, ha⟩⟩ := h
  · by_cases hf : fr ∈ keepC C o n key
    · have h64 := (hK fr hf).2
      have hag' : ∀ x ∈ keepC C o n key, (got ||| 2 ^ fr.toNat).testBit x.toNat = (set ||| 2 ^ fr.toNat).testBit x.toNat := fun x hx => by
        rw [Nat.testBit_or, Nat.testBit_or, hag x hx]
      have hiff : allC C o n key (got ||| 2 ^ fr.toNat) ↔ allC C o n key (set ||| 2 ^ fr.toNat) :=
        ⟨fun h => ⟨h.1, fun x hx => by rw [← hag' x hx]; exact h.2 x hx⟩, fun h => ⟨h.1, fun x hx => by rw [hag' x hx]; exact h.2 x hx⟩⟩
      have hg' := Nat.or_lt_two_pow hg (hp h64)
      have hs' := Nat.or_lt_two_pow hs (hp h64)
      by_cases hall : allC C o n key (set ||| 2 ^ fr.toNat)
      · exact ⟨4, _, _, by rw [if_pos h64], ⟨hg', hs', .inr ⟨rfl, hall⟩⟩, .inl ⟨rfl, hf, rfl, by rw [B_pos (hiff.2 hall)]; rfl⟩⟩
      · exact ⟨3, _, _, by rw [if_pos h64], ⟨hg', hs', .inl ⟨rfl, hall, hag'⟩⟩, .inl ⟨rfl, hf, rfl, by rw [B_neg fun h => hall (hiff.1 h)]; rfl⟩⟩
    · have hsame : fr < 64 → ∀ x ∈ keepC C o n key, (set ||| 2 ^ fr.toNat).testBit x.toNat = set.testBit x.toNat := fun h64 x hx => by
        have hne : x ≠ fr := fun e => hf (by rw [← e]; exact hx)
        have h0 := (hK x hx).1
        rw [Nat.testBit_or, Nat.testBit_two_pow, decide_eq_false (by omega), Bool.or_false]
      by_cases h64 : fr < 64
      · exact ⟨3, got, set ||| 2 ^ fr.toNat, by rw [if_pos h64], ⟨hg, Nat.or_lt_two_pow hs (hp h64), .inl ⟨rfl, fun h => hna ⟨h.1, fun x hx => by rw [← hsame h64 x hx]; exact h.2 x hx⟩, fun x hx => by rw [hsame h64 x hx]; exact hag x hx⟩⟩, .inr (.inl ⟨rfl, hf, rfl, rfl⟩)⟩
      · exact ⟨3, got, set, by rw [if_neg h64], ⟨hg, hs, .inl ⟨rfl, hna, hag⟩⟩, .inr (.inl ⟨rfl, hf, rfl, rfl⟩)⟩
  · by_cases h64 : fr < 64
    · exact ⟨4, got, set ||| 2 ^ fr.toNat, by rw [if_pos h64], ⟨hg, Nat.or_lt_two_pow hs (hp h64), .inr ⟨rfl, ha.1, fun x hx => by rw [Nat.testBit_or, ha.2 x hx, Bool.true_or]⟩⟩, .inr (.inr ⟨rfl, rfl, rfl⟩)⟩
    · exact ⟨4, got, set, by rw [if_neg h64], ⟨hg, hs, .inr ⟨rfl, ha⟩⟩, .inr (.inr ⟨rfl, rfl, rfl⟩)⟩
def rnd5S (key : Int) (C : Nat) (p1 : Option Addr) (n1 c1 : Nat) (p2 : Option Addr) (n2 c2 : Nat) (b1 b2 b3 : Int) (ph : Int) (got : Nat) : List SV := [.int .u8 (.v key), .int .u64 (.nat C), .slv p1 n1 c1, .slv p2 n2 c2, .int .u64 (.v b1), .int .u8 (.v b2), .int .u32 (.v b3), .bool (.lit true), .int .u8 (.v ph), .int .u64 (.nat got),
  .int .u64 (.lit 0), .int .u8 (.lit 0), .int .u32 (.lit 0), .int .u8 (.lit 0), .int .u64 (.lit 0), .int .i64 (.lit 0), .raw (.slice none 0 0), .raw (.slice none 0 0), .raw (.slice none 0 0), .int .u64 (.lit 0), .raw (.slice none 0 0), .int .u64 (.lit 0), .int .u8 (.lit 0), .int .u32 (.lit 0), .int .u64 (.lit 0)]
set_option maxHeartbeats 8000000 in
set_option maxRecDepth 100000 in
set_option cbv.maxSteps 100000000 in
theorem roundAll_ok (key : Int) (C : Nat) (po pn pl : Option Addr) (no nn nl co cn cl : Nat) (o n l : Array Int) (b1 b2 b3 : Int) (w : World) (ho : InB po no o w) (hn : InB pn nn n w) (hl : InB pl nl l w) (hbo : ∀ x ∈ o.toList, 0 ≤ x ∧ x < 256) (hbn : ∀ x ∈ n.toList, 0 ≤ x ∧ x < 256) (hbl : ∀ x ∈ l.toList, 0 ≤ x ∧ x < 256) :
    Calls Tryz.prog 5 #[.agg #[.int .u64 C, .slice po no co, .slice pn nn cn], .int .u8 key, .agg #[.int .u64 b1, .int .u8 b2, .int .u32 b3], .slice pl nl cl] w fun e w' => e = .returned (.bool true) ∧ Chg (fun _ _ => False) w w' := by
  obtain ⟨Q, hQ⟩ : ∃ Q : Ending → World → Prop, Q = fun e w' => e = .returned (.bool true) ∧ Chg (fun _ _ => False) w w' := ⟨_, rfl⟩
  rw [← hQ]
  refine X.begin (rg := []) (N := []) (ss := [.agg [.int .u64 (.nat C), .slv po no co, .slv pn nn cn], .int .u8 (.v key), .agg [.int .u64 (.v b1), .int .u8 (.v b2), .int .u32 (.v b3)], .slv pl nl cl]) Tryz.func5 rfl B5_ok rfl rfl Sat.std0 ?_
  refine X.go T5_ok 400 _ rfl Tryz.results5 ?_
  conv => arg 2; cbv
  refine X.cond rfl (fun hT => ?_) (fun hF => ?_)
  · clear hT
    refine X.goX ([(28, .bool (.lit true))]) ([]) T5_ok 400 _ rfl Tryz.results5 (fun pr pe fin hpr hpe hfin => ?_)
    conv => cbv
    refine ⟨hpr _ (.of Tryz.call10 [] (.bool true) (fun _ => rfl) (fun _ => rfl) fun _ w1 him => awake17_ok w1), hfin _ _ ?_⟩
    exact X.done T5_ok rfl (fun N w' v hN hS hv => by rw [hQ]; exact ⟨fin_bool hv rfl, hS.chg.none⟩)
  simp only [SB.T, SB.F, SI.den] at hF
  obtain ⟨hno, hnn, hnl⟩ : no ≤ 80 ∧ nn ≤ 80 ∧ nl ≤ 40 := by omega
  clear hF
  refine X.go T5_ok 400 _ rfl Tryz.results5 ?_
  conv => arg 2; cbv
  refine X.call rfl rfl rfl rfl Tryz.call19 (fun N w1 args hN hS ha => ?_)
  have ha : args = [.agg #[.int .u64 C, .slice po no co, .slice pn nn cn], .int .u8 key, .agg #[.int .u64 b1, .int .u8 b2, .int .u32 b3], regZV, .bool true] := (Option.some.inj ha).symm
  rw [ha]
  refine (known_ok key C po pn no nn co cn o n b1 b2 b3 w1 (by omega) (by omega) (ho.stays hS.chg.none) (hn.stays hS.chg.none) hbo hbn).mono fun e w2 hR => ?_
  obtain ⟨⟨hgood, p1, n1, c1, p2, n2, c2, he, hmem⟩ | ⟨hbad, he⟩, hch⟩ := hR
  rotate_left
  · refine ⟨_, he, Goes.same hN hS hch (r := .tup [.agg rndZS, .int .i64 (.lit 1)]) rfl rfl ?_⟩
    clear hch he ha hS hN
    refine X.goX ([(39, .bool (.lit true))]) ([]) T5_ok 400 _ rfl Tryz.results5 (fun pr pe fin hpr hpe hfin => ?_)
    conv => cbv
    refine ⟨hpr _ (.of Tryz.call10 [] (.bool true) (fun _ => rfl) (fun _ => rfl) fun _ w1 him => awake17_ok w1), hfin _ _ ?_⟩
    exact X.done T5_ok rfl (fun N w' v hN hS hv => by rw [hQ]; exact ⟨fin_bool hv rfl, hS.chg.none⟩)
  obtain ⟨hmay, hk16, hbn0, hb64⟩ := hgood
  refine ⟨_, he, Goes.newMem hN hS hch (r := .tup [.agg (rnd5S key C p1 n1 c1 p2 n2 c2 b1 b2 b3 2 0), .int .i64 (.lit 0)]) rfl rfl (fun hold hnew => ?_)⟩
  obtain ⟨im, him⟩ : ∃ im, im = imNew (elsewhere [] [] w) w1 w2 := ⟨_, rfl⟩
  have hold' : ∀ k o v, elsewhere [] [] w k o = some v → im k o = some v := by rw [him]; exact hold
  obtain ⟨h1, h2⟩ := hmem im fun k o v hk h => by rw [him]; exact hnew _ _ _ hk h
  have hoM : InM po no o.toList im := ho.inM hold'
  have hnM : InM pn nn n.toList im := hn.inM hold'
  have hlM : InM pl nl l.toList im := hl.inM hold'
  show X (mkE Tryz.prog Tryz.f5 Q w (InR [] []) (imNew (elsewhere [] [] w) w1 w2) (fun _ _ => False) (fun _ => True) [] B5) _ _
  rw [← him]
  clear him hold hold' hnew hch he ha hS hN hmem
  refine X.goX ([(44, .tup [.agg (rnd5S key C p1 n1 c1 p2 n2 c2 b1 b2 b3 3 0), .int .i64 (.lit 0)])]) ([]) T5_ok 400 _ rfl Tryz.results5 (fun pr pe fin hpr hpe hfin => ?_)
  conv => cbv
  refine ⟨hpr _ (.of Tryz.call15 [rndV key C p1 n1 c1 p2 n2 c2 b1 b2 b3 2 0, regZV, balZV] (.tuple #[rndV key C p1 n1 c1 p2 n2 c2 b1 b2 b3 3 0, .int .i64 0]) (fun _ => rfl) (fun _ => rfl) fun _ w1 him => write_ok key C p1 n1 c1 p2 n2 c2 b1 b2 b3 w1 hk16 hb64 hbn0), hfin _ _ ?_⟩
  clear hpr hpe hfin
  have hK64 := keepC_64 (key := key) hmay hbo hbn
  refine X.loop (fun _ : {g : Nat × Int × Nat × Nat // g.1 ≤ nl ∧ RaI C o n key g.2.1 g.2.2.1 g.2.2.2} => mkE Tryz.prog Tryz.f5 Q w (InR [] []) im (fun _ _ => False) (fun _ => True) [] B5)
    (fun g => ⟨[(1, .val (.int .u8 (.v key))), (3, .val (.slv pl nl cl)), (4, .val (.own 0 0)), (6, .val (.own 1 0)), (9, .val (.own 2 0)), (11, .val (.int .u64 (.nat g.1.2.2.2))), (12, .val (.int .i64 (.nat g.1.1)))], [⟨true, [.int .u64 (.nat C), .slv po no co, .slv pn nn cn], none⟩, ⟨true, [.int .u64 (.v b1), .int .u8 (.v b2), .int .u32 (.v b3)], none⟩, ⟨true, rnd5S key C p1 n1 c1 p2 n2 c2 b1 b2 b3 g.1.2.1 g.1.2.2.1, none⟩]⟩) (fun g => nl - g.1.1) (fun _ => ⟨rfl, rfl, rfl, rfl⟩) (fun N ac w' hN hf hS => ⟨⟨(0, 3, 0, 0), Nat.zero_le _, ra_start hmay⟩, ?_⟩) (fun g q hq => ?_)
  · exact At.again hf hS (by repeat first | exact trivial | refine ⟨⟨_, rfl, .inl ⟨rfl, rfl⟩⟩, ?_⟩ | refine ⟨⟨_, rfl, .inr ⟨_, rfl, rfl⟩⟩, ?_⟩ | refine ⟨⟨_, rfl, .inr ⟨_, rfl, by simp (disch := omega) [SV.den, SI.den, wrapU, wrapD] <;> omega⟩⟩, ?_⟩) (by repeat first | exact trivial | refine ⟨fun h => h, SubC.refl rfl, rfl, ?_⟩)
  obtain ⟨⟨i, ph, got, set⟩, hi, hI⟩ := g
  simp only at hi hI
  show X (mkE Tryz.prog Tryz.f5 Q w (InR [] []) im (fun _ _ => False) (fun _ => True) [] B5) _ ⟨[(1, .val (.int .u8 (.v key))), (3, .val (.slv pl nl cl)), (4, .val (.own 0 0)), (6, .val (.own 1 0)), (9, .val (.own 2 0)), (11, .val (.int .u64 (.nat set))), (12, .val (.int .i64 (.nat i)))], [⟨true, [.int .u64 (.nat C), .slv po no co, .slv pn nn cn], none⟩, ⟨true, [.int .u64 (.v b1), .int .u8 (.v b2), .int .u32 (.v b3)], none⟩, ⟨true, rnd5S key C p1 n1 c1 p2 n2 c2 b1 b2 b3 ph got, none⟩]⟩
  refine X.go T5_ok 400 _ rfl Tryz.results5 ?_
  conv => arg 2; cbv
  refine X.cond rfl (fun hlt => ?_) (fun hge => ?_)
  · simp only [SB.T, SI.den] at hlt
    have hlt : i < nl := by omega
    obtain ⟨b, y, hp, hd⟩ := hlM.2 (by omega)
    have hln := hl.1
    obtain ⟨x, hx⟩ : ∃ x, x = l.toList[i]! := ⟨_, rfl⟩
    obtain ⟨oi, hoi⟩ : ∃ o, o = y + i := ⟨_, rfl⟩
    have hix : im b (oi + 0) = some (.int .u8 x) := by rw [Nat.add_zero, hoi, hx]; exact hd i hlt
    have hxm : x ∈ l.toList := by rw [hx, getElem!_pos l.toList i (by simp; omega)]; exact List.getElem_mem _
    obtain ⟨ph', got', set', hset, hI', hcase⟩ := ra_step hK64 hI x (hbl x hxm).1
    have htold : ∀ w1 : World, (∀ k o v, im k o = some v → w1.cell? ⟨k, o, none⟩ = some v) → Calls Tryz.prog 14 #[rndV key C p1 n1 c1 p2 n2 c2 b1 b2 b3 ph got, msgV 4 x b2 key C b1 b2 b3 true] w1 fun e w' => e = .returned (rndV key C p1 n1 c1 p2 n2 c2 b1 b2 b3 ph' got') ∧ Chg (fun _ _ => False) w1 w' := fun w1 him => by
      have hb1 : n1 ≤ 100 := by have := h1.1; have := ho.1; simp at *; omega
      have hb2 : n2 ≤ 100 := by have := h2.1; have := hn.1; simp at *; omega
      have ht3 := told3_ok key x C p1 n1 c1 p2 n2 c2 o n b1 b2 b3 got w1 hk16 hb64 hbn0 hb1 hb2 (by simpa using h1.inB him) (by simpa using h2.inB him) hbo hbn hmay hI.1
      rcases hcase with ⟨rfl, hf, rfl, rfl⟩ | ⟨rfl, hf, rfl, rfl⟩ | ⟨rfl, rfl, rfl⟩
      · refine ht3.mono fun e w' ⟨h, hc⟩ => ⟨?_, hc⟩
        rcases h with ⟨_, h⟩ | ⟨h, _⟩
        · exact h
        · exact absurd hf h
      · refine ht3.mono fun e w' ⟨h, hc⟩ => ⟨?_, hc⟩
        rcases h with ⟨h, _⟩ | ⟨_, h⟩
        · exact absurd h hf
        · exact h
      · exact told4_ok key x C p1 n1 c1 p2 n2 c2 b1 b2 b3 _ w1
    have hall : ∀ w1 : World, (∀ k o v, im k o = some v → w1.cell? ⟨k, o, none⟩ = some v) → Calls Tryz.prog 20 #[.agg #[.int .u64 C, .slice po no co, .slice pn nn cn], .int .u8 key, .int .u64 set'] w1 fun e w' => e = .returned (.bool (B (allC C o n key set'))) ∧ Chg (fun _ _ => False) w1 w' := fun w1 him =>
      all10_ok C set' po pn no nn co cn o n key w1 (by omega) (by omega) hI'.2.1 (by simpa using hoM.inB him) (by simpa using hnM.inB him) hbo hbn
    obtain ⟨ab, hab⟩ : ∃ b, b = B (allC C o n key set') := ⟨_, rfl⟩
    rw [← hab] at hall
    have hsame : decide (ph' = 4) = ab := by
      rw [hab]
      rcases hI'.2.2 with ⟨rfl, h, _⟩ | ⟨rfl, h⟩
      · rw [B_neg h]; rfl
      · rw [B_pos h]; rfl
    have hat : ∀ {rg : List Rg} {f : Fr} {g : GK} {u v : Operand}, evK f g u = some (.slv pl nl cl) → evK f g v = some (.int .i64 (.nat i)) → ValOk (mkE Tryz.prog Tryz.f5 Q w (InR [] []) im (fun _ _ => False) (fun _ => True) [] B5).toEnv [] rg f g (.indexAddr 23 u v) (.ext b oi 0) := fun h1 h2 =>
      ValOk.at (z := i) h1 h2 (fun _ => rfl) Tryz.underlying23 Tryz.sizeOf5 (fun _ => hlt) hp (by omega)
    have hld : ∀ {rg : List Rg} {f : Fr} {g : GK} {u : Operand}, evK f g u = some (.ext b oi 0) → ValOk (mkE Tryz.prog Tryz.f5 Q w (InR [] []) im (fun _ _ => False) (fun _ => True) [] B5).toEnv [] rg f g (.load 5 u) (.int .u8 (.v x)) := fun h1 =>
      ValOk.im1 h1 Tryz.isAgg5 (fun _ => rfl) fun _ => hix
    refine X.goX ([(56, .ext b oi 0), (57, .int .u8 (.v x)), (65, .agg (rnd5S key C p1 n1 c1 p2 n2 c2 b1 b2 b3 ph' got')), (68, .ext b oi 0), (69, .int .u8 (.v x))]) ([]) T5_ok 400 _ rfl Tryz.results5 (fun pr pe fin hpr hpe hfin => ?_)
    conv => cbv
    refine ⟨hpr _ (hat rfl rfl), hpr _ (hld rfl), hpr _ ?_, rfl, hpr _ (hat rfl rfl), hpr _ (hld rfl), hfin _ _ ?_⟩
    · exact .of Tryz.call14 [rndV key C p1 n1 c1 p2 n2 c2 b1 b2 b3 ph got, msgV 4 x b2 key C b1 b2 b3 true] (rndV key C p1 n1 c1 p2 n2 c2 b1 b2 b3 ph' got') (fun _ => rfl) (fun _ => rfl) fun _ w1 him => htold w1 him
    clear hpr hpe hfin
    have hcall : ∀ {rg : List Rg}, CallOk (mkE Tryz.prog Tryz.f5 Q w (InR [] []) im (fun _ _ => False) (fun _ => True) [] B5).toEnv [] rg .yes 20 [.agg [.int .u64 (.nat C), .slv po no co, .slv pn nn cn], .int .u8 (.v key), .int .u64 (.nat set')] (.bool (.v ab)) := fun {rg} =>
      .of Tryz.call20 [.agg #[.int .u64 C, .slice po no co, .slice pn nn cn], .int .u8 key, .int .u64 set'] (.bool ab) (fun _ => rfl) (fun _ => rfl) fun _ w1 him => hall w1 him
    refine X.cond rfl (fun hT => ?_) (fun hF => ?_)
    · simp only [SB.T, SI.den] at hT
      rw [if_pos hT] at hset
      obtain ⟨t2, ht2⟩ : ∃ t, t = 2 ^ x.toNat := ⟨_, rfl⟩
      have hx0 := (hbl x hxm).1
      have ht64 : t2 < 2 ^ 64 := by rw [ht2]; exact Nat.pow_lt_pow_right (by decide) (by omega)
      have hor := bits_or set t2 hI.2.1 ht64
      rw [← ht2] at hset
      rw [← hset] at hor
      refine X.goX ([(74, .ext b oi 0), (75, .int .u8 (.v x)), (76, .int .u64 (.nat t2)), (77, .int .u64 (.nat set')), (84, .bool (.v ab))]) ([]) T5_ok 400 _ rfl Tryz.results5 (fun pr pe fin hpr hpe hfin => ?_)
      conv => cbv
      refine ⟨hpr _ (hat rfl rfl), hpr _ (hld rfl), hpr _ ?_, hpr _ ?_, hpr _ hcall, hfin _ _ ?_⟩
      · rw [ht2]
        exact vk_shl1 rfl rfl rfl rfl (fun _ => by show x = _; omega) (by omega)
      · refine vk_bin rfl rfl rfl fun _ N v hv => ?_
        rw [← hv]
        show some (Value.int .u64 (set' : Nat)) = some (Value.int .u64 (bitsI .or .u64 set t2))
        rw [hor]
      clear hpr hpe hfin
      refine X.cond rfl (fun hT2 => ?_) (fun hF2 => ?_)
      · simp only [SB.T, SB.F, SB.den, SI.den] at hT2
        exact absurd (by rw [← hsame, Bool.eq_iff_iff]; simp) hT2
      · clear hF2
        refine X.go T5_ok 400 _ rfl Tryz.results5 ?_
        conv => arg 2; cbv
        refine X.back (fun N ac w' hN hf hS => hq ⟨(i + 1, ph', got', set'), hlt, hI'⟩ ac w' (by simp only; omega) ?_)
        show At (mkE Tryz.prog Tryz.f5 Q w (InR [] []) im (fun _ _ => False) (fun _ => True) [] B5) ⟨[(1, .val (.int .u8 (.v key))), (3, .val (.slv pl nl cl)), (4, .val (.own 0 0)), (6, .val (.own 1 0)), (9, .val (.own 2 0)), (11, .val (.int .u64 (.nat set'))), (12, .val (.int .i64 (.nat (i + 1))))], [⟨true, [.int .u64 (.nat C), .slv po no co, .slv pn nn cn], none⟩, ⟨true, [.int .u64 (.v b1), .int .u8 (.v b2), .int .u32 (.v b3)], none⟩, ⟨true, rnd5S key C p1 n1 c1 p2 n2 c2 b1 b2 b3 ph' got', none⟩]⟩ ac w'
        exact At.again hf hS (by repeat first | exact trivial | refine ⟨⟨_, rfl, .inl ⟨rfl, rfl⟩⟩, ?_⟩ | refine ⟨⟨_, rfl, .inr ⟨_, rfl, rfl⟩⟩, ?_⟩ | refine ⟨⟨_, rfl, .inr ⟨_, rfl, by simp (disch := omega) [SV.den, SI.den, wrapU, wrapD] <;> omega⟩⟩, ?_⟩) (by repeat first | exact trivial | refine ⟨fun h => h, SubC.refl rfl, rfl, ?_⟩)
    · simp only [SB.F, SI.den] at hF
      rw [if_neg (by omega)] at hset
      subst hset
      refine X.goX ([(84, .bool (.v ab))]) ([]) T5_ok 400 _ rfl Tryz.results5 (fun pr pe fin hpr hpe hfin => ?_)
      conv => cbv
      refine ⟨hpr _ hcall, hfin _ _ ?_⟩
      clear hpr hpe hfin
      refine X.cond rfl (fun hT2 => ?_) (fun hF2 => ?_)
      · simp only [SB.T, SB.F, SB.den, SI.den] at hT2
        exact absurd (by rw [← hsame, Bool.eq_iff_iff]; simp) hT2
      · clear hF2
        refine X.go T5_ok 400 _ rfl Tryz.results5 ?_
        conv => arg 2; cbv
        refine X.back (fun N ac w' hN hf hS => hq ⟨(i + 1, ph', got', set'), hlt, hI'⟩ ac w' (by simp only; omega) ?_)
        show At (mkE Tryz.prog Tryz.f5 Q w (InR [] []) im (fun _ _ => False) (fun _ => True) [] B5) ⟨[(1, .val (.int .u8 (.v key))), (3, .val (.slv pl nl cl)), (4, .val (.own 0 0)), (6, .val (.own 1 0)), (9, .val (.own 2 0)), (11, .val (.int .u64 (.nat set'))), (12, .val (.int .i64 (.nat (i + 1))))], [⟨true, [.int .u64 (.nat C), .slv po no co, .slv pn nn cn], none⟩, ⟨true, [.int .u64 (.v b1), .int .u8 (.v b2), .int .u32 (.v b3)], none⟩, ⟨true, rnd5S key C p1 n1 c1 p2 n2 c2 b1 b2 b3 ph' got', none⟩]⟩ ac w'
        exact At.again hf hS (by repeat first | exact trivial | refine ⟨⟨_, rfl, .inl ⟨rfl, rfl⟩⟩, ?_⟩ | refine ⟨⟨_, rfl, .inr ⟨_, rfl, rfl⟩⟩, ?_⟩ | refine ⟨⟨_, rfl, .inr ⟨_, rfl, by simp (disch := omega) [SV.den, SI.den, wrapU, wrapD] <;> omega⟩⟩, ?_⟩) (by repeat first | exact trivial | refine ⟨fun h => h, SubC.refl rfl, rfl, ?_⟩)
  · simp only [SB.F, SI.den] at hge
    refine X.goX ([(86, .bool (.lit true))]) ([]) T5_ok 400 _ rfl Tryz.results5 (fun pr pe fin hpr hpe hfin => ?_)
    conv => cbv
    refine ⟨hpr _ (.of Tryz.call10 [] (.bool true) (fun _ => rfl) (fun _ => rfl) fun _ w1 him => awake17_ok w1), hfin _ _ ?_⟩
    exact X.done T5_ok rfl (fun N w' v hN hS hv => by rw [hQ]; exact ⟨fin_bool hv rfl, hS.chg.none⟩)
end Go.Proofs.YthaffebapmkppaaGreat

namespace Go.Proofs.YthaffebapmkppaaGreat
open Go Go.Eng
theorem kinds_bal : kindsOf Tryz.prog 8 28 = some [.int .u64, .int .u8, .int .u32] := by kernel_rfl
theorem bal_of {W : World} {v : Value} (h : ArgOk Tryz.prog W 28 v) : ∃ b1 b2 b3 : Int, v = .agg #[.int .u64 b1, .int .u8 b2, .int .u32 b3] := by
  obtain ⟨cs, rfl, hc⟩ := h.struct Tryz.underlying28 kinds_bal
  obtain ⟨v0, r0, rfl, h0, hc⟩ := CellsOk.cons hc
  obtain ⟨v1, r1, rfl, h1, hc⟩ := CellsOk.cons hc
  obtain ⟨v2, r2, rfl, h2, hc⟩ := CellsOk.cons hc
  have oend := CellsOk.nil hc; subst oend
  obtain ⟨x, rfl, _⟩ := h0
  obtain ⟨y, rfl, _⟩ := h1
  obtain ⟨z, rfl, _⟩ := h2
  exact ⟨x, y, z, rfl⟩
theorem roundAll_calls (W : World) (args : Array Value) (hn : args.size = 4) (ha : ∀ (j : Nat) t v, Tryz.f5.params[j]? = some t → args[j]? = some v → ArgOk Tryz.prog W t v) :
    Calls Tryz.prog 5 args W fun e w' => e = .returned (.bool true) ∧ Chg (fun _ _ => False) W w' := by
  obtain ⟨a, b, c, d, rfl⟩ : ∃ a b c d, args = #[a, b, c, d] := ⟨args[0], args[1], args[2], args[3], by apply Array.ext (by simp [hn]); intro i h1 h2; match i, h1 with | 0, _ | 1, _ | 2, _ | 3, _ => rfl⟩
  obtain ⟨C, po, pn, no, nn, co, cn, o, n, rfl, ho, hIn, hbo, hbn⟩ := conf_of (ha 0 25 a rfl rfl)
  obtain ⟨key, rfl, _⟩ := (ha 1 5 b rfl rfl).int Tryz.underlying5
  obtain ⟨b1, b2, b3, rfl⟩ := bal_of (ha 2 28 c rfl rfl)
  obtain ⟨pl, nl, cl, l, rfl, hl, _, hbl⟩ := bytes_of ((ha 3 23 d rfl rfl).slice Tryz.underlying23)
  exact roundAll_ok key C po pn pl no nn nl co cn cl o n l b1 b2 b3 W ho hIn hl hbo hbn hbl
end Go.Proofs.YthaffebapmkppaaGreat
