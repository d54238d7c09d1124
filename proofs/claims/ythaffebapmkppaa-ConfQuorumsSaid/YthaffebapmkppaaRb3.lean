/- The reference's keepers. -/
import Derived.Test.YthaffebapmkppaaRb2

namespace Go.Proofs.Ythaffebapmkppaa
open Go Go.Eng Go.Sort

def kst (many : Int) (out : List Int) (x : Int) : List Int := if decide ((out.length : Int) < many) && !decide (x ∈ out) then out ++ [x] else out
def kstep (kh many : Int) (tb : Bool) (out : List Int) (y : Int × Int) : List Int := if decide (kh ≤ y.1) == tb then kst many out y.2 else out
theorem kst_dd (many : Int) : ∀ (T out : List Int), out.length ≤ many.toNat → T.foldl (kst many) out = (dd T out).take many.toNat
  | [], out, h => by simp [dd, List.take_of_length_le h]
  | x :: T, out, h => by
    rw [List.foldl_cons, dd]
    by_cases hm : (out.length : Int) < many
    · by_cases hx : x ∈ out
      · have : kst many out x = out := by simp [kst, hx]
        rw [this, if_pos hx, kst_dd many T out h]
      · have : kst many out x = out ++ [x] := by simp [kst, hx, hm]
        rw [this, if_neg hx, kst_dd many T (out ++ [x]) (by simp; omega)]
    · have : kst many out x = out := by simp [kst, hm]
      rw [this, kst_dd many T out h, take_pre (dd_pre _ _) (by omega)]
      have hp : out <+: dd T (if x ∈ out then out else out ++ [x]) := by
        refine List.IsPrefix.trans ?_ (dd_pre _ _)
        split
        · exact List.prefix_refl _
        · exact List.prefix_append _ _
      rw [take_pre hp (by omega)]
theorem kstep_fold (kh many : Int) (tb : Bool) : ∀ (L : List (Int × Int)) (out : List Int), L.foldl (kstep kh many tb) out = ((L.filter fun y => decide (kh ≤ y.1) == tb).map (·.2)).foldl (kst many) out
  | [], _ => rfl
  | y :: L, out => by
    rw [List.foldl_cons, kstep_fold kh many tb L]
    unfold kstep
    by_cases h : (decide (kh ≤ y.1) == tb) = true
    · rw [if_pos h, List.filter_cons_of_pos (p := fun y : Int × Int => decide (kh ≤ y.1) == tb) h]
      rfl
    · rw [if_neg h, List.filter_cons_of_neg (p := fun y : Int × Int => decide (kh ≤ y.1) == tb) h]
/-- the keepers, behind so many turns -/
def kturn (L : List (Int × Int)) (kh many : Int) : Nat → List Int
  | 0 => []
  | 1 => L.foldl (kstep kh many true) []
  | _ => L.foldl (kstep kh many false) (L.foldl (kstep kh many true) [])
theorem kturn_keep {L : List (Int × Int)} (h : Rise L) (key many : Int) : kturn L (keyZ key) many 2 = keepL L key many := by
  rw [keepL_eq h]
  show List.foldl (kstep (keyZ key) many false) (List.foldl (kstep (keyZ key) many true) [] L) L = _
  rw [kstep_fold, kstep_fold, ← List.foldl_append, ← List.map_append, kst_dd _ _ _ (by simp)]
  have e1 : (fun y : Int × Int => decide (keyZ key ≤ y.1) == true) = fun y => decide (keyZ key ≤ y.1) := by funext y; simp
  have e2 : (fun y : Int × Int => decide (keyZ key ≤ y.1) == false) = fun y => !decide (keyZ key ≤ y.1) := by funext y; simp
  rw [e1, e2]
  rfl
theorem kst_len (many : Int) (out : List Int) (x : Int) : (kst many out x).length ≤ out.length + 1 := by unfold kst; split <;> simp
theorem kstep_len (kh many : Int) (tb : Bool) : ∀ (L : List (Int × Int)) (out : List Int), (L.foldl (kstep kh many tb) out).length ≤ out.length + L.length
  | [], _ => Nat.le_refl _
  | y :: L, out => by
    rw [List.foldl_cons]
    have h1 := kstep_len kh many tb L (kstep kh many tb out y)
    have h2 : (kstep kh many tb out y).length ≤ out.length + 1 := by
      unfold kstep
      split
      · exact kst_len _ _ _
      · omega
    simp only [List.length_cons]
    omega
theorem kturn_len (L : List (Int × Int)) (kh many : Int) (t : Nat) : (kturn L kh many t).length ≤ 2 * L.length := by
  match t with
  | 0 => simp [kturn]
  | 1 => have := kstep_len kh many true L []; simp [kturn] at this ⊢; omega
  | t + 2 =>
    have h1 := kstep_len kh many false L (L.foldl (kstep kh many true) [])
    have h2 := kstep_len kh many true L []
    simp [kturn] at h1 h2 ⊢
    omega
theorem foldl_take {α β : Type} [Inhabited α] (f : β → α → β) (b : β) {L : List α} {k : Nat} (h : k < L.length) : (L.take (k + 1)).foldl f b = f ((L.take k).foldl f b) L[k]! := by
  rw [List.take_add_one, List.getElem?_eq_getElem h, Option.toList_some, List.foldl_append, getElem!_pos L k h]
  rfl

set_option maxHeartbeats 8000000 in
set_option maxRecDepth 100000 in
set_option cbv.maxSteps 100000000 in
theorem keepers9_ok (b o m c : Nat) (p : Option Addr) (L : List (Int × Int)) (key many : Int) (w : World) (hp : 0 < m → p = some ⟨b, o, none⟩) (hm : L.length = m) (hle : m ≤ 8000) (hL : PtIn b o L w) (hR : Rise L) :
    Calls Try.prog 17 #[.slice p m c, .int .u8 key, .int .i64 many] w (RoR (bytL (keepL L key many)) (keepL L key many).length w) := by
  obtain ⟨kh, hkh⟩ : ∃ k, k = keyZ key := ⟨_, rfl⟩
  obtain ⟨F, hF⟩ : ∃ F, F = keepL L key many := ⟨_, rfl⟩
  have hFk : kturn L kh many 2 = F := by rw [hkh, hF]; exact kturn_keep hR key many
  obtain ⟨Q, hQ⟩ : ∃ Q : Ending → World → Prop, Q = RoR (bytL F) F.length w := ⟨_, rfl⟩
  rw [← hF, ← hQ]
  refine X.begin (rg := []) (N := []) (ss := [.slv p m c, .int .u8 (.v key), .int .i64 (.v many)]) Try.func17 rfl B17_ok rfl rfl Sat.std0 ?_
  refine X.goP ([(12, .int .u64 (.v kh))]) T17_ok 400 _ rfl Try.results17 (fun pr fin hpr hfin => ?_)
  conv => cbv
  refine ⟨hpr _ (.of Try.call47 [.int .u8 key] (.int .u64 kh) (fun _ => rfl) (fun _ => rfl) fun _ w1 _ => by rw [hkh]; exact key8_ok key w1), hfin _ _ ?_⟩
  refine X.loop (fun _ : {t : Nat // t ≤ 2} => mkE Try.prog Try.f17 Q w (InR [] []) (elsewhere [] [] w) (fun _ _ => False) (fun _ => True) [] B17)
    (fun g => ⟨[(0, .val (.slv p m c)), (2, .val (.int .i64 (.v many))), (7, .val (.int .u64 (.v kh))), (8, .val (eV 0 (kturn L kh many g.1).length 1)), (9, .val (.int .i64 (.nat g.1)))], [⟨true, bytL (kturn L kh many g.1), none⟩]⟩) (fun g => 2 - g.1) (fun _ => ⟨rfl, rfl, rfl, rfl⟩) (fun N ac w' hN hf hS => ⟨⟨0, Nat.zero_le _⟩, ?_⟩) (fun g q hq => ?_)
  · exact At.again hf hS (by repeat first | exact trivial | refine ⟨⟨_, rfl, .inl ⟨rfl, by first | rfl | assumption⟩⟩, ?_⟩ | refine ⟨⟨_, rfl, .inr ⟨_, rfl, rfl⟩⟩, ?_⟩ | refine ⟨⟨_, rfl, .inr ⟨_, rfl, by simp (disch := omega) [SV.den, SI.den, wrapU, wrapD] <;> omega⟩⟩, ?_⟩ | refine ⟨⟨_, rfl, .inr ⟨_, rfl, by simp [SV.den, SI.den, IntKind.wrap, IntKind.bits, IntKind.signed] <;> omega⟩⟩, ?_⟩) ⟨fun h => h, trivial, rfl, trivial⟩
  obtain ⟨t, ht⟩ := g
  obtain ⟨O0, hO0⟩ : ∃ O, O = kturn L kh many t := ⟨_, rfl⟩
  show X (mkE Try.prog Try.f17 Q w (InR [] []) (elsewhere [] [] w) (fun _ _ => False) (fun _ => True) [] B17) _ ⟨[(0, .val (.slv p m c)), (2, .val (.int .i64 (.v many))), (7, .val (.int .u64 (.v kh))), (8, .val (eV 0 (kturn L kh many t).length 1)), (9, .val (.int .i64 (.nat t)))], [⟨true, bytL (kturn L kh many t), none⟩]⟩
  rw [← hO0]
  have hO0l : O0.length ≤ 2 * m := by rw [hO0, ← hm]; exact kturn_len _ _ _ _
  obtain ⟨v0, hv0⟩ : ∃ v, v = eV 0 O0.length 1 := ⟨_, rfl⟩
  obtain ⟨c0, hc0⟩ : ∃ v, v = bytL O0 := ⟨_, rfl⟩
  have hv0b : bd 1 v0 = true := by rw [hv0]; exact eV_bd (by decide)
  rw [← hv0, ← hc0]
  refine X.go T17_ok 400 _ rfl Try.results17 ?_
  conv => arg 2; cbv
  refine X.cond rfl (fun hlt => ?_) (fun hge => ?_)
  · simp only [SB.T, SI.den] at hlt
    have hlt : t < 2 := by omega
    obtain ⟨tb, htb⟩ : ∃ b, b = decide (t = 0) := ⟨_, rfl⟩
    have hnext : L.foldl (kstep kh many tb) O0 = kturn L kh many (t + 1) := by
      rw [hO0, htb]
      match t, hlt with
      | 0, _ => rfl
      | 1, _ => rfl
    refine X.go T17_ok 400 _ rfl Try.results17 ?_
    conv => arg 2; cbv
    refine X.loop (fun _ : {i : Nat // i ≤ m} => mkE Try.prog Try.f17 Q w (InR [] []) (elsewhere [] [] w) (fun _ _ => False) (fun _ => True) [] B17)
      (fun g => ⟨[(0, .val (.slv p m c)), (2, .val (.int .i64 (.v many))), (7, .val (.int .u64 (.v kh))), (8, .val (eV 0 ((L.take g.1).foldl (kstep kh many tb) O0).length 1)), (9, .val (.int .i64 (.nat t))), (19, .val (.int .i64 (.nat m))), (20, .val (.int .i64 (.nat g.1)))], [⟨true, bytL ((L.take g.1).foldl (kstep kh many tb) O0), none⟩]⟩) (fun g => m - g.1) (fun _ => ⟨rfl, rfl, rfl, rfl⟩) (fun N ac w' hN hf hS => ⟨⟨0, Nat.zero_le _⟩, ?_⟩) (fun g q2 hq2 => ?_)
    · show At _ ⟨[(0, .val (.slv p m c)), (2, .val (.int .i64 (.v many))), (7, .val (.int .u64 (.v kh))), (8, .val (eV 0 O0.length 1)), (9, .val (.int .i64 (.nat t))), (19, .val (.int .i64 (.nat m))), (20, .val (.int .i64 (.nat 0)))], [⟨true, bytL O0, none⟩]⟩ ac w'
      rw [← hv0, ← hc0]
      exact At.again hf hS (by repeat first | exact trivial | refine ⟨⟨_, rfl, .inl ⟨rfl, by first | rfl | assumption⟩⟩, ?_⟩ | refine ⟨⟨_, rfl, .inr ⟨_, rfl, rfl⟩⟩, ?_⟩ | refine ⟨⟨_, rfl, .inr ⟨_, rfl, by simp (disch := omega) [SV.den, SI.den, wrapU, wrapD] <;> omega⟩⟩, ?_⟩ | refine ⟨⟨_, rfl, .inr ⟨_, rfl, by simp [SV.den, SI.den, IntKind.wrap, IntKind.bits, IntKind.signed] <;> omega⟩⟩, ?_⟩) ⟨fun h => h, SubC.refl (by rw [hc0]; exact bytL_bd), rfl, trivial⟩
    obtain ⟨i, hi⟩ := g
    show X (mkE Try.prog Try.f17 Q w (InR [] []) (elsewhere [] [] w) (fun _ _ => False) (fun _ => True) [] B17) _ ⟨[(0, .val (.slv p m c)), (2, .val (.int .i64 (.v many))), (7, .val (.int .u64 (.v kh))), (8, .val (eV 0 ((L.take i).foldl (kstep kh many tb) O0).length 1)), (9, .val (.int .i64 (.nat t))), (19, .val (.int .i64 (.nat m))), (20, .val (.int .i64 (.nat i)))], [⟨true, bytL ((L.take i).foldl (kstep kh many tb) O0), none⟩]⟩
    obtain ⟨O1, hO1⟩ : ∃ O, O = (L.take i).foldl (kstep kh many tb) O0 := ⟨_, rfl⟩
    obtain ⟨l1, hl1⟩ : ∃ l, l = O1.length := ⟨_, rfl⟩
    have hl18 : l1 ≤ 3 * m := by
      have := kstep_len kh many tb (L.take i) O0
      rw [← hO1, ← hl1] at this
      simp at this
      omega
    obtain ⟨v1, hv1⟩ : ∃ v, v = eV 0 l1 1 := ⟨_, rfl⟩
    obtain ⟨c1, hc1⟩ : ∃ v, v = bytL O1 := ⟨_, rfl⟩
    have hv1b : bd 1 v1 = true := by rw [hv1]; exact eV_bd (by decide)
    have hc1b : ∀ m, c1.all (bd m) = true := fun m => by rw [hc1]; exact bytL_bd
    rw [← hO1, ← hl1, ← hv1, ← hc1]
    refine X.go T17_ok 400 _ rfl Try.results17 ?_
    conv => arg 2; cbv
    refine X.cond rfl (fun hlti => ?_) (fun hgei => ?_)
    · simp only [SB.T, SI.den] at hlti
      have hlti : i < m := by omega
      have hp := hp (by omega)
      obtain ⟨y, hy⟩ : ∃ y, y = L[i]! := ⟨_, rfl⟩
      obtain ⟨h1, hh1⟩ : ∃ z, z = y.1 := ⟨_, rfl⟩
      obtain ⟨x, hx⟩ : ∃ z, z = y.2 := ⟨_, rfl⟩
      obtain ⟨oz, hoz⟩ : ∃ q, q = o + i * 2 := ⟨_, rfl⟩
      have hi1 : elsewhere [] [] w b (oz + 0) = some (.int .u64 h1) := by rw [Nat.add_zero, els_old, hoz, hh1, hy]; exact (hL i (by omega)).1
      have hi2 : elsewhere [] [] w b (oz + 1) = some (.int .u8 x) := by rw [els_old, hoz, hx, hy]; exact (hL i (by omega)).2
      obtain ⟨hb, hhb⟩ : ∃ b, b = decide (x ∈ O1) := ⟨_, rfl⟩
      have hst : (L.take (i + 1)).foldl (kstep kh many tb) O0 = kstep kh many tb O1 y := by rw [foldl_take _ _ (by omega), ← hO1, ← hy]
      refine X.goP ([(25, .ext b oz 0), (27, .int .u64 (.v h1)), (35, .int .i64 (.nat l1)), (43, .ext b oz 0), (45, .int .u8 (.v x)), (46, .bool (.v hb))]) T17_ok 400 _ rfl Try.results17 (fun pr fin hpr hfin => ?_)
      conv => cbv
      refine ⟨hpr _ (fun _ => ⟨Try.call44, fun N w1 args _ hS ha => ?_⟩), hpr _ (ValOk.im1 rfl Try.isAgg5 (fun _ => rfl) fun _ => hi2), hpr _ (ValOk.at (z := i) rfl rfl (fun _ => rfl) Try.underlying27 Try.sizeOf52 (fun _ => hlti) hp (by omega)), hpr _ (vk_len rfl (.inr hv1) Try.underlying22 (Nat.lt_of_sub_eq_succ rfl)), hpr _ (ValOk.im1 rfl Try.isAgg33 (fun _ => rfl) fun _ => hi1), hpr _ (ValOk.at (z := i) rfl rfl (fun _ => rfl) Try.underlying27 Try.sizeOf52 (fun _ => hlti) hp (by omega)), hfin _ _ ?_⟩
      · obtain ⟨v, ls1, rfl, hv, ha⟩ := denL_cons ha
        obtain ⟨v2, ls2, rfl, hv2, ha⟩ := denL_cons ha
        obtain rfl := denL_nil ha
        obtain ⟨pq, hpq⟩ := num_of hS (r := 0) rfl
        rw [hv1] at hv
        obtain ⟨cc, rfl⟩ := eV_den hpq hv
        simp only [SV.den, SI.den, Option.some.injEq] at hv2
        subst hv2
        refine (has9_ok _ l1 cc O1.toArray x w1 (by omega) (inB_own hS (r := 0) rfl hpq (by simp [hl1]) (fun j hj => ⟨.v O1[j]!, by rw [hc1]; simp [bytL, show j < O1.length by omega], by simp [SI.den]⟩))).mono fun e w' ⟨he, hc⟩ => ⟨_, he, by rw [hhb]; rfl, hc⟩
      refine X.cond rfl (fun hT => ?_) (fun hF => ?_)
      · simp only [SB.T, SB.F, SB.den, SI.den] at hT
        have hstp : kstep kh many tb O1 y = O1 ++ [x] := by
          obtain ⟨⟨g1, g2⟩, g3⟩ := hT
          have g1' : kh ≤ h1 ↔ t = 0 := (decide_eq_true_iff.symm.trans (Iff.of_eq (congrArg (fun b => b = true) g1))).trans (by simp)
          have g4 : (decide (kh ≤ y.1) == tb) = true := by rw [htb, ← hh1, beq_iff_eq]; exact decide_eq_decide.2 g1'
          have g5 : ¬ x ∈ O1 := by rw [hhb] at g3; simpa using g3
          unfold kstep kst
          rw [if_pos g4, ← hx, if_pos (by simp [g5]; omega)]
        refine X.goP ([(52, .ext b oz 0), (54, .int .u8 (.v x))]) T17_ok 8 _ rfl Try.results17 (fun pr fin hpr hfin => ?_)
        conv => cbv
        refine ⟨hpr _ (ValOk.im1 rfl Try.isAgg5 (fun _ => rfl) fun _ => hi2), hpr _ (ValOk.at (z := i) rfl rfl (fun _ => rfl) Try.underlying27 Try.sizeOf52 (fun _ => hlti) hp (by omega)), hfin _ _ ?_⟩
        refine X.appG (T := T17) (te := ti5) (r := 0) (n := l1) (m := 1) (cs := c1) (new := [.int .u8 (.v x)]) T17_ok rfl [0, 2, 7, 9, 19, 20, 56] rfl rfl rfl rfl rfl rfl rfl rfl (.inr (.inl hv1)) rfl (by rw [hc1, bytL_len, ← hl1]; exact (Nat.mul_one _).symm) (by decide) (appSrc_row (g := ⟨true, [.int .u8 (.v x)], none⟩) rfl rfl rfl rfl) (appOk_ok (by decide) rfl rfl rfl (by show (2 * (l1 + 1) + 256) * 1 ≤ _; omega) (by omega)) rfl rfl rfl (by repeat first | exact trivial | refine ⟨rfl, ?_⟩ | refine ⟨by assumption, ?_⟩) ⟨.inl rfl, .inr rfl, trivial⟩ (by rw [hc1, ← bytL_snoc]; exact bytL_frr) rfl ?_
        obtain ⟨c2, hc2⟩ : ∃ c, c = c1 ++ [.int .u8 (.v x)] := ⟨_, rfl⟩
        have hc2b : c2 = bytL (O1 ++ [x]) := by rw [hc2, hc1, bytL_snoc]
        have hc2d : ∀ m, c2.all (bd m) = true := fun m => by rw [hc2b]; exact bytL_bd
        show X (mkE Try.prog Try.f17 Q w (InR [] []) (elsewhere [] [] w) (fun _ _ => False) (fun _ => True) [] B17) _ ⟨_, [⟨true, c1 ++ [.int .u8 (.v x)], none⟩, ⟨true, [.int .u8 (.v x)], none⟩]⟩
        rw [← hc2]
        refine X.go T17_ok 400 _ rfl Try.results17 ?_
        conv => arg 2; cbv
        refine X.back (fun N ac w' hN hf hS => hq2 ⟨i + 1, hlti⟩ ac w' (by simp only; omega) ?_)
        show At (mkE Try.prog Try.f17 Q w (InR [] []) (elsewhere [] [] w) (fun _ _ => False) (fun _ => True) [] B17) ⟨[(0, .val (.slv p m c)), (2, .val (.int .i64 (.v many))), (7, .val (.int .u64 (.v kh))), (8, .val (eV 0 ((L.take (i + 1)).foldl (kstep kh many tb) O0).length 1)), (9, .val (.int .i64 (.nat t))), (19, .val (.int .i64 (.nat m))), (20, .val (.int .i64 (.nat (i + 1))))], [⟨true, bytL ((L.take (i + 1)).foldl (kstep kh many tb) O0), none⟩]⟩ ac w'
        rw [hst, hstp, ← hc2b, List.length_append, ← hl1]
        exact At.again hf hS (by repeat first | exact trivial | refine ⟨⟨_, rfl, .inl ⟨rfl, by first | rfl | assumption⟩⟩, ?_⟩ | refine ⟨⟨_, rfl, .inr ⟨_, rfl, rfl⟩⟩, ?_⟩ | refine ⟨⟨_, rfl, .inr ⟨_, rfl, by simp (disch := omega) [SV.den, SI.den, wrapU, wrapD] <;> omega⟩⟩, ?_⟩ | refine ⟨⟨_, rfl, .inr ⟨_, rfl, by simp [SV.den, SI.den, IntKind.wrap, IntKind.bits, IntKind.signed] <;> omega⟩⟩, ?_⟩) ⟨fun h => h, SubC.refl (hc2d _), rfl, trivial⟩
      · simp only [SB.T, SB.F, SB.den, SI.den] at hF
        have hstp : kstep kh many tb O1 y = O1 := by
          unfold kstep kst
          rw [← hh1, ← hx]
          rcases hF with (h | h) | h
          · have h' : ¬ (kh ≤ h1 ↔ t = 0) := fun e => h (Bool.eq_iff_iff.2 (decide_eq_true_iff.trans (e.trans (by simp))))
            rw [if_neg (by rw [htb, beq_iff_eq]; exact fun e => h' (decide_eq_decide.1 e))]
          · rw [if_neg (c := (decide ((O1.length : Int) < many) && !decide (x ∈ O1)) = true) (by simp; omega)]
            split <;> rfl
          · rw [if_neg (c := (decide ((O1.length : Int) < many) && !decide (x ∈ O1)) = true) (by rw [hhb] at h; simp at h; simp [h])]
            split <;> rfl
        refine X.go T17_ok 400 _ rfl Try.results17 ?_
        conv => arg 2; cbv
        refine X.back (fun N ac w' hN hf hS => hq2 ⟨i + 1, hlti⟩ ac w' (by simp only; omega) ?_)
        show At (mkE Try.prog Try.f17 Q w (InR [] []) (elsewhere [] [] w) (fun _ _ => False) (fun _ => True) [] B17) ⟨[(0, .val (.slv p m c)), (2, .val (.int .i64 (.v many))), (7, .val (.int .u64 (.v kh))), (8, .val (eV 0 ((L.take (i + 1)).foldl (kstep kh many tb) O0).length 1)), (9, .val (.int .i64 (.nat t))), (19, .val (.int .i64 (.nat m))), (20, .val (.int .i64 (.nat (i + 1))))], [⟨true, bytL ((L.take (i + 1)).foldl (kstep kh many tb) O0), none⟩]⟩ ac w'
        rw [hst, hstp, ← hl1, ← hv1, ← hc1]
        exact At.again hf hS (by repeat first | exact trivial | refine ⟨⟨_, rfl, .inl ⟨rfl, by first | rfl | assumption⟩⟩, ?_⟩ | refine ⟨⟨_, rfl, .inr ⟨_, rfl, rfl⟩⟩, ?_⟩ | refine ⟨⟨_, rfl, .inr ⟨_, rfl, by simp (disch := omega) [SV.den, SI.den, wrapU, wrapD] <;> omega⟩⟩, ?_⟩ | refine ⟨⟨_, rfl, .inr ⟨_, rfl, by simp [SV.den, SI.den, IntKind.wrap, IntKind.bits, IntKind.signed] <;> omega⟩⟩, ?_⟩) ⟨fun h => h, SubC.refl (hc1b _), rfl, trivial⟩
    · simp only [SB.F, SI.den] at hgei
      have hall : L.take i = L := List.take_of_length_le (by omega)
      refine X.go T17_ok 400 _ rfl Try.results17 ?_
      conv => arg 2; cbv
      refine X.back (fun N ac w' hN hf hS => hq ⟨t + 1, by omega⟩ ac w' (by simp only; omega) ?_)
      show At (mkE Try.prog Try.f17 Q w (InR [] []) (elsewhere [] [] w) (fun _ _ => False) (fun _ => True) [] B17) ⟨[(0, .val (.slv p m c)), (2, .val (.int .i64 (.v many))), (7, .val (.int .u64 (.v kh))), (8, .val (eV 0 (kturn L kh many (t + 1)).length 1)), (9, .val (.int .i64 (.nat (t + 1))))], [⟨true, bytL (kturn L kh many (t + 1)), none⟩]⟩ ac w'
      rw [← hnext, ← hall, ← hO1, ← hl1, ← hv1, ← hc1]
      exact At.again hf hS (by repeat first | exact trivial | refine ⟨⟨_, rfl, .inl ⟨rfl, by first | rfl | assumption⟩⟩, ?_⟩ | refine ⟨⟨_, rfl, .inr ⟨_, rfl, rfl⟩⟩, ?_⟩ | refine ⟨⟨_, rfl, .inr ⟨_, rfl, by simp (disch := omega) [SV.den, SI.den, wrapU, wrapD] <;> omega⟩⟩, ?_⟩ | refine ⟨⟨_, rfl, .inr ⟨_, rfl, by simp [SV.den, SI.den, IntKind.wrap, IntKind.bits, IntKind.signed] <;> omega⟩⟩, ?_⟩) ⟨fun h => h, SubC.refl (hc1b _), rfl, trivial⟩
  · simp only [SB.F, SI.den] at hge
    have ht2 : t = 2 := by omega
    have hOF : O0 = F := by rw [hO0, ht2, hFk]
    refine X.go T17_ok 400 _ rfl Try.results17 ?_
    conv => arg 2; cbv
    refine X.done T17_ok rfl (fun N w' v hN hS hv => ?_)
    rw [hQ, ← hOF, ← hc0]
    exact roR_of hS (r := 0) (z := 1) rfl (fun c hc N N' v h => bytL_den (by rw [← hc0]; exact hc) h) (by rw [← hv0]; exact hv)

end Go.Proofs.Ythaffebapmkppaa
