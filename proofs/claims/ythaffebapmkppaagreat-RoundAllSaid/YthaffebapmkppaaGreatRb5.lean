import Derived.Test.YthaffebapmkppaaGreatRi15
import Derived.Test.YthaffebapmkppaaGreatPd3

namespace Go.Proofs.YthaffebapmkppaaGreat
open Go Go.Eng Go.Sort
theorem ptsL_frr {L : List (Int × Int)} {a b : Nat} : (ptsL L).all (SV.frr a b) = true := List.all_eq_true.2 fun c hc => by
  obtain ⟨k, z, rfl⟩ := ptsL_mem hc; rfl
theorem bytL_frr {l : List Int} {a b : Nat} : (bytL l).all (SV.frr a b) = true := List.all_eq_true.2 fun c hc => by
  obtain ⟨x, _, rfl⟩ := List.mem_map.1 hc; rfl
theorem bytL_one {l : List Int} : (bytL l).all SV.one = true := List.all_eq_true.2 fun c hc => by
  obtain ⟨x, _, rfl⟩ := List.mem_map.1 hc; rfl
theorem bytL_snoc (l : List Int) (x : Int) : bytL (l ++ [x]) = bytL l ++ [.int .u8 (.v x)] := by simp [bytL]
def RoR (cs : List SV) (n : Nat) (w : World) (e : Ending) (w' : World) : Prop :=
  ∃ b o c, e = .returned (.slice (some ⟨b, o, none⟩) n c) ∧ (0 < cs.length → w.heap.size ≤ b) ∧ b < w'.heap.size ∧ (∀ (j : Nat) (c : SV), cs[j]? = some c → ∃ v, (∀ N, c.den N = some v) ∧ w'.cell? ⟨b, o + j, none⟩ = some v) ∧ Chg (fun _ _ => False) w w'
theorem roR_of {P : Program} {fn : Func} {Q : Ending → World → Prop} {W : World} {im : Mem} {D : Nat → Nat → Prop} {Rr : World → Prop} {N0 : Nums} {B : SchT} {N : Nums} {rg : List Rg} {w' : World} {r n z : Nat} {cs : List SV} {v : Value} (hS : Sat (mkE P fn Q W (InR [] []) im D Rr N0 B).toEnv N rg w') (hr : rg[r]? = some ⟨true, cs, none⟩) (hc : ∀ c ∈ cs, ∀ (N N' : Nums) (v : Value), c.den N = some v → c.den N' = some v)
    (hv : (eV r n z).den N = some v) : RoR cs n W (.returned v) w' := by
  obtain ⟨p, hp⟩ : ∃ p, N[r]? = some p := ⟨_, List.getElem?_eq_getElem (by rw [hS.len]; exact (List.getElem?_eq_some_iff.1 hr).1)⟩
  obtain ⟨c, rfl⟩ := eV_den hp hv
  refine ⟨p.b, p.o, c, rfl, fun h0 => ?_, hS.lt r p hp, fun j x hj => ?_, hS.chg.none⟩
  · have hx := hS.ext r _ p hr hp rfl
    rcases hS.foot r _ p hr hp rfl with h | h
    · exact h
    · exact absurd (h 0 (by simp only at hx; omega)) (fun h => inR_nil h)
  · obtain ⟨v, h1, h2⟩ := hS.cell r _ p hr hp j x hj
    exact ⟨v, fun N' => hc x (List.mem_of_getElem? hj) _ _ v h1, h2⟩
theorem ptsL_row : ∀ (L : List (Int × Int)) (k : Nat), k < L.length → (ptsL L)[k * 2]? = some (.int .u64 (.v L[k]!.1)) ∧ (ptsL L)[k * 2 + 1]? = some (.int .u8 (.v L[k]!.2))
  | [], _, h => absurd h (by simp)
  | x :: L, 0, _ => ⟨rfl, rfl⟩
  | x :: L, k + 1, h => by
    obtain ⟨h1, h2⟩ := ptsL_row L k (by simpa using h)
    have e : ptsL (x :: L) = .int .u64 (.v x.1) :: .int .u8 (.v x.2) :: ptsL L := rfl
    rw [e, show (k + 1) * 2 = k * 2 + 1 + 1 by omega, show k * 2 + 1 + 1 + 1 = (k * 2 + 1) + 1 + 1 by omega]
    simp only [List.getElem?_cons_succ]
    refine ⟨by rw [h1]; simp, by rw [h2]; simp⟩
theorem ptsL_rowAt {L : List (Int × Int)} {cs : List SV} {k o : Nat} {y : Int × Int} (hc : cs = ptsL L) (hk : k < L.length) (hy : y = L[k]!) (ho : o = k * 2) (j : Nat) (d : SV) (hj : [SV.int .u64 (.v y.1), SV.int .u8 (.v y.2)][j]? = some d) : cs[o + j]? = some d := by
  obtain ⟨h1, h2⟩ := ptsL_row L k hk
  subst hc ho hy
  match j, hj with
  | 0, hj => rw [Nat.add_zero, h1]; simpa using hj
  | 1, hj => rw [h2]; simpa using hj
  | j + 2, hj => simp at hj
def insP (p : Int × Int) : List (Int × Int) → List (Int × Int)
  | [] => [p]
  | x :: l => if ltOf cfP p x then p :: x :: l else x :: insP p l
theorem insP_perm (p : Int × Int) : ∀ l, (insP p l).Perm (p :: l)
  | [] => List.Perm.refl _
  | x :: l => by
    unfold insP
    split
    · exact List.Perm.refl _
    · exact ((insP_perm p l).cons x).trans (List.Perm.swap p x l)
theorem insP_sorted (p : Int × Int) : ∀ l, l.Pairwise (fun x y => (!ltOf cfP y x) = true) → (insP p l).Pairwise (fun x y => (!ltOf cfP y x) = true)
  | [], _ => by simp [insP]
  | x :: l, h => by
    obtain ⟨h1, h2⟩ := List.pairwise_cons.1 h
    unfold insP
    split
    · rename_i hp
      refine List.pairwise_cons.2 ⟨fun y hy => ?_, h⟩
      rw [ltP, decide_eq_true_eq] at hp
      rcases List.mem_cons.1 hy with rfl | hy
      · rw [ltP]
        simp only [Bool.not_eq_true', decide_eq_false_iff_not]
        omega
      · have := h1 y hy
        rw [ltP] at this ⊢
        simp only [Bool.not_eq_true', decide_eq_false_iff_not] at this ⊢
        omega
    · rename_i hp
      refine List.pairwise_cons.2 ⟨fun y hy => ?_, insP_sorted p l h2⟩
      rcases List.mem_cons.1 ((insP_perm p l).mem_iff.1 hy) with rfl | hy
      · simpa using hp
      · exact h1 y hy
def stP (p : Int × Int) (s : Bool × List (Int × Int)) (x : Int × Int) : Bool × List (Int × Int) := if !s.1 && ltOf cfP p x then (true, s.2 ++ [p] ++ [x]) else (s.1, s.2 ++ [x])
theorem stP_end (p : Int × Int) : ∀ (l : List (Int × Int)) (b : Bool) (acc : List (Int × Int)), let s := l.foldl (stP p) (b, acc)
    (if s.1 then s.2 else s.2 ++ [p]) = acc ++ (if b then l else insP p l)
  | [], b, acc => by cases b <;> simp [insP]
  | x :: l, b, acc => by
    rw [List.foldl_cons]
    have h1 := stP_end p l true (acc ++ [p] ++ [x])
    have h2 := stP_end p l b (acc ++ [x])
    cases b with
    | true =>
      rw [show stP p (true, acc) x = (true, acc ++ [x]) from rfl]
      simpa using h2
    | false =>
      unfold insP
      by_cases hp : ltOf cfP p x = true
      · rw [show stP p (false, acc) x = (true, acc ++ [p] ++ [x]) by simp [stP, hp]]
        simpa [hp] using h1
      · simp only [Bool.not_eq_true] at hp
        rw [show stP p (false, acc) x = (false, acc ++ [x]) by simp [stP, hp]]
        simpa [hp] using h2
theorem stP_len (p : Int × Int) : ∀ (l : List (Int × Int)) (b : Bool) (acc : List (Int × Int)), (l.foldl (stP p) (b, acc)).2.length ≤ acc.length + 2 * l.length
  | [], b, acc => Nat.le_refl _
  | x :: l, b, acc => by
    rw [List.foldl_cons]
    have h1 := stP_len p l (stP p (b, acc) x).1 (stP p (b, acc) x).2
    have h2 : (stP p (b, acc) x).2.length ≤ acc.length + 2 := by unfold stP; split <;> simp
    simp only [List.length_cons]
    have e : ((stP p (b, acc) x).1, (stP p (b, acc) x).2) = stP p (b, acc) x := rfl
    rw [e] at h1
    omega
def insAll (l : List (Int × Int)) : List (Int × Int) := l.foldl (fun r p => insP p r) []
theorem insAll_snoc (l : List (Int × Int)) (p : Int × Int) : insAll (l ++ [p]) = insP p (insAll l) := by simp [insAll]
theorem insAll_ok (l : List (Int × Int)) : (insAll l).Perm l ∧ (insAll l).Pairwise (fun x y => (!ltOf cfP y x) = true) := by
  have key : ∀ (l r : List (Int × Int)), r.Pairwise (fun x y => (!ltOf cfP y x) = true) → (l.foldl (fun r p => insP p r) r).Perm (r ++ l) ∧ (l.foldl (fun r p => insP p r) r).Pairwise (fun x y => (!ltOf cfP y x) = true) := fun l => by
    induction l with
    | nil => intro r h; exact ⟨by simp, h⟩
    | cons x l ih =>
      intro r h
      rw [List.foldl_cons]
      obtain ⟨h1, h2⟩ := ih (insP x r) (insP_sorted x r h)
      refine ⟨h1.trans ?_, h2⟩
      refine ((insP_perm x r).append_right l).trans ?_
      rw [List.cons_append]
      exact List.perm_middle.symm
  have := key l [] List.Pairwise.nil
  simpa [insAll] using this
theorem insAll_len (l : List (Int × Int)) : (insAll l).length = l.length := (insAll_ok l).1.length_eq
theorem insAll_ring (d : Array Int) : insAll ((dd d.toList []).flatMap ptsOf) = ringP d := by
  refine sorted_eq (insAll_ok _).2 (ringP_sorted d) ((insAll_ok _).1.trans (List.Perm.trans ?_ (ringP_perm d).symm))
  unfold ringU
  refine List.Perm.flatMap_right _ ((List.perm_ext_iff_of_nodup (dd_nodup _ _ List.nodup_nil) ((ascA_lt d).imp fun h => by omega)).2 fun y => ?_)
  rw [dd_mem, ascA_iff]
  simp
set_option maxHeartbeats 8000000 in
set_option maxRecDepth 100000 in
set_option cbv.maxSteps 100000000 in
theorem build9_ok (p : Option Addr) (n cp : Nat) (d : Array Int) (w : World) (hle : n ≤ 100) (hIn : InB p n d w) :
    Calls Tryz.prog 94 #[.slice p n cp] w (RoR (ptsL (ringP d)) (ringP d).length w) := by
  have hn := hIn.1
  obtain ⟨Q, hQ⟩ : ∃ Q : Ending → World → Prop, Q = RoR (ptsL (ringP d)) (ringP d).length w := ⟨_, rfl⟩
  rw [← hQ]
  refine X.begin (rg := []) (N := []) (ss := [.slv p n cp]) Tryz.func94 rfl B94_ok rfl rfl Sat.std0 ?_
  refine X.go T94_ok 400 _ rfl Tryz.results94 ?_
  conv => arg 2; cbv
  refine X.loop (fun _ : {i : Nat // i ≤ n} => mkE Tryz.prog Tryz.f94 Q w (InR [] []) (elsewhere [] [] w) (fun _ _ => False) (fun _ => True) [] B94)
    (fun g => ⟨[(0, .val (.slv p n cp)), (3, .val (eV 0 (insAll ((dd (d.toList.take g.1) []).flatMap ptsOf)).length 2)), (4, .val (eV 1 (dd (d.toList.take g.1) []).length 1)), (14, .val (.int .i64 (.nat n))), (15, .val (.int .i64 (.nat g.1)))], [⟨true, ptsL (insAll ((dd (d.toList.take g.1) []).flatMap ptsOf)), none⟩, ⟨true, bytL (dd (d.toList.take g.1) []), none⟩]⟩) (fun g => n - g.1) (fun _ => ⟨rfl, rfl, rfl, rfl⟩) (fun N ac w' hN hf hS => ⟨⟨0, Nat.zero_le _⟩, ?_⟩) (fun g q hq => ?_)
  · show At (mkE Tryz.prog Tryz.f94 Q w (InR [] []) (elsewhere [] [] w) (fun _ _ => False) (fun _ => True) [] B94) ⟨[(0, .val (.slv p n cp)), (3, .val (.osl 0 0 0 2 (some 0))), (4, .val (.osl 1 0 0 1 (some 0))), (14, .val (.int .i64 (.nat n))), (15, .val (.int .i64 (.nat 0)))], [⟨true, [], none⟩, ⟨true, [], none⟩]⟩ ac w'
    exact At.again hf hS (by repeat first | exact trivial | refine ⟨⟨_, rfl, .inl ⟨rfl, rfl⟩⟩, ?_⟩ | refine ⟨⟨_, rfl, .inr ⟨_, rfl, rfl⟩⟩, ?_⟩ | refine ⟨⟨_, rfl, .inr ⟨_, rfl, by simp (disch := omega) [SV.den, SI.den, wrapU, wrapD] <;> omega⟩⟩, ?_⟩) ⟨fun h => h, trivial, rfl, fun h => h, trivial, rfl, trivial⟩
  obtain ⟨i, hi⟩ := g
  show X (mkE Tryz.prog Tryz.f94 Q w (InR [] []) (elsewhere [] [] w) (fun _ _ => False) (fun _ => True) [] B94) _ ⟨[(0, .val (.slv p n cp)), (3, .val (eV 0 (insAll ((dd (d.toList.take i) []).flatMap ptsOf)).length 2)), (4, .val (eV 1 (dd (d.toList.take i) []).length 1)), (14, .val (.int .i64 (.nat n))), (15, .val (.int .i64 (.nat i)))], [⟨true, ptsL (insAll ((dd (d.toList.take i) []).flatMap ptsOf)), none⟩, ⟨true, bytL (dd (d.toList.take i) []), none⟩]⟩
  obtain ⟨D, hD⟩ : ∃ D, D = dd (d.toList.take i) [] := ⟨_, rfl⟩
  obtain ⟨R, hR⟩ : ∃ R, R = insAll (D.flatMap ptsOf) := ⟨_, rfl⟩
  rw [← hD, ← hR]
  have hDl : D.length ≤ 100 := by
    have := dd_len (d.toList.take i) []
    rw [← hD] at this
    simp at this
    omega
  have fl8 : ∀ l : List Int, (l.flatMap ptsOf).length = 8 * l.length := fun l => by
    induction l with
    | nil => rfl
    | cons x l ih => rw [List.flatMap_cons, List.length_append, ih, ptsOf, ptsTo_len]; simp; omega
  obtain ⟨mr, hmr⟩ : ∃ m, m = R.length := ⟨_, rfl⟩
  obtain ⟨md, hmd⟩ : ∃ m, m = D.length := ⟨_, rfl⟩
  have hmr8 : mr = 8 * md := by rw [hmr, hR, insAll_len, fl8, hmd]
  rw [← hmr, ← hmd]
  obtain ⟨vr, hvr⟩ : ∃ v, v = eV 0 mr 2 := ⟨_, rfl⟩
  obtain ⟨vd, hvd⟩ : ∃ v, v = eV 1 md 1 := ⟨_, rfl⟩
  obtain ⟨cr, hcr⟩ : ∃ c, c = ptsL R := ⟨_, rfl⟩
  obtain ⟨cd, hcd⟩ : ∃ c, c = bytL D := ⟨_, rfl⟩
  have hbr2 : bd 2 vr = true := by rw [hvr]; exact eV_bd (by decide)
  have hbd2 : bd 2 vd = true := by rw [hvd]; exact eV_bd (by decide)
  rw [← hvr, ← hvd, ← hcr, ← hcd]
  refine X.go T94_ok 400 _ rfl Tryz.results94 ?_
  conv => arg 2; cbv
  refine X.cond rfl (fun hlt => ?_) (fun hge => ?_)
  · simp only [SB.T, SI.den] at hlt
    have hlt : i < n := by omega
    obtain ⟨b, y, hp, hdi⟩ := hIn.2 (by omega)
    obtain ⟨x, hx⟩ : ∃ x, x = d[i]! := ⟨_, rfl⟩
    obtain ⟨oi, hoi⟩ : ∃ o, o = y + i := ⟨_, rfl⟩
    have hix : elsewhere [] [] w b (oi + 0) = some (.int .u8 x) := by rw [Nat.add_zero, els_old, hoi, hx]; exact hdi i (by omega)
    have hsn : dd (d.toList.take (i + 1)) [] = if x ∈ D then D else D ++ [x] := by
      have := take_snoc (l := d.toList) (i := i) (by simp; omega)
      rw [this, dd_snoc, ← hD, hx, getElem!_pos d i (by omega), getElem!_pos d.toList i (by simp; omega)]
      simp
    obtain ⟨hb, hhb⟩ : ∃ b, b = decide (x ∈ D) := ⟨_, rfl⟩
    refine X.goP ([(21, .ext b oi 0), (22, .int .u8 (.v x)), (23, .bool (.v hb))]) T94_ok 400 _ rfl Tryz.results94 (fun pr fin hpr hfin => ?_)
    conv => cbv
    refine ⟨hpr _ (fun _ => ⟨Tryz.call95, fun N w1 args _ hS ha => ?_⟩), hpr _ (ValOk.im1 rfl Tryz.isAgg5 (fun _ => rfl) fun _ => hix), hpr _ (ValOk.at (z := i) rfl rfl (fun _ => rfl) Tryz.underlying23 Tryz.sizeOf5 (fun _ => hlt) hp (by omega)), hfin _ _ ?_⟩
    · obtain ⟨v, l1, rfl, hv, ha⟩ := denL_cons ha
      obtain ⟨v2, l2, rfl, hv2, ha⟩ := denL_cons ha
      obtain rfl := denL_nil ha
      obtain ⟨pq, hpq⟩ := num_of hS (r := 1) rfl
      rw [hvd] at hv
      obtain ⟨c1, rfl⟩ := eV_den hpq hv
      simp only [SV.den, SI.den, Option.some.injEq] at hv2
      subst hv2
      refine (has9_ok _ md c1 D.toArray x w1 (by omega) (inB_own hS (r := 1) rfl hpq (by simp [hmd]) (fun j hj => ⟨.v D[j]!, by rw [hcd]; simp [bytL, show j < D.length by omega], by simp [SI.den]⟩))).mono fun e w' ⟨he, hc⟩ => ⟨_, he, by rw [hhb]; rfl, hc⟩
    refine X.cond rfl (fun hz => ?_) (fun hz => ?_)
    · simp only [SB.T, SB.den] at hz
      have hz : x ∈ D := by rw [hhb] at hz; exact of_decide_eq_true hz
      rw [if_pos hz] at hsn
      refine X.go T94_ok 400 _ rfl Tryz.results94 ?_
      conv => arg 2; cbv
      refine X.back (fun N ac w' hN hf hS => hq ⟨i + 1, hlt⟩ ac w' (by simp only; omega) ?_)
      show At (mkE Tryz.prog Tryz.f94 Q w (InR [] []) (elsewhere [] [] w) (fun _ _ => False) (fun _ => True) [] B94) ⟨[(0, .val (.slv p n cp)), (3, .val (eV 0 (insAll ((dd (d.toList.take (i + 1)) []).flatMap ptsOf)).length 2)), (4, .val (eV 1 (dd (d.toList.take (i + 1)) []).length 1)), (14, .val (.int .i64 (.nat n))), (15, .val (.int .i64 (.nat (i + 1))))], [⟨true, ptsL (insAll ((dd (d.toList.take (i + 1)) []).flatMap ptsOf)), none⟩, ⟨true, bytL (dd (d.toList.take (i + 1)) []), none⟩]⟩ ac w'
      rw [hsn, ← hR, ← hmr, ← hmd, ← hvr, ← hvd, ← hcr, ← hcd]
      exact At.again hf hS (by repeat first | exact trivial | refine ⟨⟨_, rfl, .inl ⟨rfl, by first | rfl | assumption⟩⟩, ?_⟩ | refine ⟨⟨_, rfl, .inr ⟨_, rfl, rfl⟩⟩, ?_⟩ | refine ⟨⟨_, rfl, .inr ⟨_, rfl, by simp (disch := omega) [SV.den, SI.den, wrapU, wrapD] <;> omega⟩⟩, ?_⟩ | refine ⟨⟨_, rfl, .inr ⟨_, rfl, by simp [SV.den, SI.den, IntKind.wrap, IntKind.bits, IntKind.signed] <;> omega⟩⟩, ?_⟩) ⟨fun h => h, SubC.refl (by rw [hcr]; exact ptsL_bd), rfl, fun h => h, SubC.refl (by rw [hcd]; exact bytL_bd), rfl, trivial⟩
    · simp only [SB.F, SB.den] at hz
      have hz : ¬ x ∈ D := by rw [hhb] at hz; exact of_decide_eq_false hz
      rw [if_neg hz] at hsn
      refine X.goP ([(27, .ext b oi 0), (28, .int .u8 (.v x))]) T94_ok 9 _ rfl Tryz.results94 (fun pr fin hpr hfin => ?_)
      conv => cbv
      refine ⟨hpr _ (ValOk.im1 rfl Tryz.isAgg5 (fun _ => rfl) fun _ => hix), hpr _ (ValOk.at (z := i) rfl rfl (fun _ => rfl) Tryz.underlying23 Tryz.sizeOf5 (fun _ => hlt) hp (by omega)), hfin _ _ ?_⟩
      have hvrf : vr.frr 3 1 = true := by rw [hvr]; exact eV_frr (by decide) (by decide)
      refine X.appG (T := T94) (te := ti5) (r := 1) (n := md) (m := 1) (cs := cd) (new := [.int .u8 (.v x)]) T94_ok rfl [0, 3, 5, 14, 15, 30] rfl rfl rfl rfl rfl rfl rfl rfl (.inr (.inl hvd)) rfl (by rw [hcd, bytL_len, ← hmd]; exact (Nat.mul_one _).symm) (by decide) (appSrc_row (g := ⟨true, [.int .u8 (.v x)], none⟩) rfl rfl rfl rfl) (appOk_ok (by decide) rfl rfl rfl (by show (2 * (md + 1) + 256) * 1 ≤ _; omega) (by omega)) rfl rfl rfl (by repeat first | exact trivial | refine ⟨rfl, ?_⟩ | refine ⟨by assumption, ?_⟩) ⟨.inr (by rw [hcr]; exact ptsL_frr), .inl rfl, .inr rfl, trivial⟩ (by rw [hcd, ← bytL_snoc]; exact bytL_frr) rfl ?_
      obtain ⟨cd2, hcd2⟩ : ∃ c, c = cd ++ [.int .u8 (.v x)] := ⟨_, rfl⟩
      have hcd2b : cd2 = bytL (D ++ [x]) := by rw [hcd2, hcd, bytL_snoc]
      show X (mkE Tryz.prog Tryz.f94 Q w (InR [] []) (elsewhere [] [] w) (fun _ _ => False) (fun _ => True) [] B94) _ ⟨_, [⟨true, cr, none⟩, ⟨true, cd ++ [.int .u8 (.v x)], none⟩, ⟨true, [.int .u8 (.v x)], none⟩]⟩
      rw [← hcd2]
      have hR0 : insAll (D.flatMap ptsOf ++ ptsTo x 0) = R := by rw [show ptsTo x 0 = [] from rfl, List.append_nil, hR]
      refine X.go T94_ok 400 _ rfl Tryz.results94 ?_
      conv => arg 2; cbv
      have hcd2d : ∀ m, cd2.all (bd m) = true := fun m => by rw [hcd2b]; exact bytL_bd
      refine X.loop (fun _ : {v : Nat // v ≤ 8} => mkE Tryz.prog Tryz.f94 Q w (InR [] []) (elsewhere [] [] w) (fun _ _ => False) (fun _ => True) [] B94)
        (fun g => ⟨[(0, .val (.slv p n cp)), (3, .val (eV 0 (mr + g.1) 2)), (4, .val (.osl 1 0 (md + 1) 1 none)), (5, .val (.int .i64 (.nat i))), (6, .val (.int .u8 (.nat g.1))), (14, .val (.int .i64 (.nat n))), (15, .val (.int .i64 (.nat i)))], [⟨true, ptsL (insAll (D.flatMap ptsOf ++ ptsTo x g.1)), none⟩, ⟨true, cd2, none⟩]⟩) (fun g => 8 - g.1) (fun _ => ⟨rfl, rfl, rfl, rfl⟩) (fun N ac w' hN hf hS => ⟨⟨0, Nat.zero_le _⟩, ?_⟩) (fun g q2 hq2 => ?_)
      · show At (mkE Tryz.prog Tryz.f94 Q w (InR [] []) (elsewhere [] [] w) (fun _ _ => False) (fun _ => True) [] B94) ⟨[(0, .val (.slv p n cp)), (3, .val (eV 0 (mr + 0) 2)), (4, .val (.osl 1 0 (md + 1) 1 none)), (5, .val (.int .i64 (.nat i))), (6, .val (.int .u8 (.nat 0))), (14, .val (.int .i64 (.nat n))), (15, .val (.int .i64 (.nat i)))], [⟨true, ptsL (insAll (D.flatMap ptsOf ++ ptsTo x 0)), none⟩, ⟨true, cd2, none⟩]⟩ ac w'
        rw [hR0, Nat.add_zero, ← hvr, ← hcr]
        exact At.again hf hS (by repeat first | exact trivial | refine ⟨⟨_, rfl, .inl ⟨rfl, by first | rfl | assumption⟩⟩, ?_⟩ | refine ⟨⟨_, rfl, .inr ⟨_, rfl, rfl⟩⟩, ?_⟩ | refine ⟨⟨_, rfl, .inr ⟨_, rfl, by simp (disch := omega) [SV.den, SI.den, wrapU, wrapD] <;> omega⟩⟩, ?_⟩ | refine ⟨⟨_, rfl, .inr ⟨_, rfl, by simp [SV.den, SI.den, IntKind.wrap, IntKind.bits, IntKind.signed] <;> omega⟩⟩, ?_⟩) ⟨fun h => h, SubC.refl (by rw [hcr]; exact ptsL_bd), rfl, fun h => h, SubC.refl (hcd2d _), rfl, trivial⟩
      obtain ⟨v, hv⟩ := g
      show X (mkE Tryz.prog Tryz.f94 Q w (InR [] []) (elsewhere [] [] w) (fun _ _ => False) (fun _ => True) [] B94) _ ⟨[(0, .val (.slv p n cp)), (3, .val (eV 0 (mr + v) 2)), (4, .val (.osl 1 0 (md + 1) 1 none)), (5, .val (.int .i64 (.nat i))), (6, .val (.int .u8 (.nat v))), (14, .val (.int .i64 (.nat n))), (15, .val (.int .i64 (.nat i)))], [⟨true, ptsL (insAll (D.flatMap ptsOf ++ ptsTo x v)), none⟩, ⟨true, cd2, none⟩]⟩
      clear hvr hbr2 hvrf hcr
      obtain ⟨R1, hR1⟩ : ∃ R1, R1 = insAll (D.flatMap ptsOf ++ ptsTo x v) := ⟨_, rfl⟩
      obtain ⟨m1, hm1⟩ : ∃ m, m = mr + v := ⟨_, rfl⟩
      have hR1l : R1.length = m1 := by rw [hR1, insAll_len, List.length_append, fl8, ptsTo_len, ← hmd, hm1, hmr8]
      obtain ⟨v1, hv1⟩ : ∃ v, v = eV 0 m1 2 := ⟨_, rfl⟩
      obtain ⟨c1, hc1⟩ : ∃ c, c = ptsL R1 := ⟨_, rfl⟩
      have hv1b : bd 2 v1 = true := by rw [hv1]; exact eV_bd (by decide)
      rw [← hR1, ← hm1, ← hv1, ← hc1]
      refine X.go T94_ok 400 _ rfl Tryz.results94 ?_
      conv => arg 2; cbv
      refine X.cond rfl (fun hlt8 => ?_) (fun hge8 => ?_)
      · simp only [SB.T, SI.den] at hlt8
        have hlt8 : v < 8 := by omega
        obtain ⟨hz, hhz⟩ : ∃ z, z = placeZ x v := ⟨_, rfl⟩
        refine X.go T94_ok 400 _ rfl Tryz.results94 ?_
        conv => arg 2; cbv
        refine X.less [0, 3, 4, 5, 6, 14, 15] ?_
        refine X.goT ([(37, .ext b oi 0), (38, .int .u8 (.v x)), (40, .int .u64 (.v hz)), (43, .ext b oi 0), (44, .int .u8 (.v x))]) T94_ok (.q 0 [1, 4, 6, 7, 8, 9, 11] (.q 1 [0, 4, 6, 7, 8, 9, 11] (.q 2 [0, 1, 4, 6, 7, 8, 9, 11] (.q 4 [0, 1, 2, 3, 6, 7, 8, 9, 11] (.q 6 [0, 1, 2, 3, 4, 5, 7, 11] (.q 7 [0, 1, 2, 3, 4, 5, 6, 11] (.q 8 [0, 1, 2, 3, 4, 5, 6, 7, 11] (.q 3 [0, 1, 2, 4, 6, 7, 8, 9, 11] (.q 9 [0, 1, 2, 3, 4, 5, 6, 7, 8, 11] (.two 5 11 (.q 10 [0, 1, 2, 3, 4, 5, 6, 7, 8, 9, 11] (.one 11 (.one 12 (.nil)))) (.one 5 (.q 10 [0, 1, 2, 3, 4, 5, 6, 7, 8, 9, 11] (.one 12 (.nil)))))))))))))) _ rfl (by kernel_rfl) (by kernel_rfl) (fun pr fin hpr hfin => ?_)
        conv => cbv
        refine ⟨hpr _ (ValOk.at (z := i) rfl rfl (fun _ => rfl) Tryz.underlying23 Tryz.sizeOf5 (fun _ => hlt) hp (by omega)), hpr _ (ValOk.at (z := i) rfl rfl (fun _ => rfl) Tryz.underlying23 Tryz.sizeOf5 (fun _ => hlt) hp (by omega)), hpr _ (ValOk.im1 rfl Tryz.isAgg5 (fun _ => rfl) fun _ => hix), hpr _ (ValOk.im1 rfl Tryz.isAgg5 (fun _ => rfl) fun _ => hix), ⟨hpr _ (.of Tryz.call125 [.int .u8 x, .int .u8 v] (.int .u64 hz) (fun _ => rfl) (fun _ => rfl) fun _ w1 _ => by rw [hhz]; exact place8_ok x v w1), rfl, rfl, hfin _ (X.less [0, 3, 4, 5, 6, 7, 14, 15] ?key)⟩, rfl, hpr _ (.of Tryz.call125 [.int .u8 x, .int .u8 v] (.int .u64 hz) (fun _ => rfl) (fun _ => rfl) fun _ w1 _ => by rw [hhz]; exact place8_ok x v w1), rfl, hfin _ (X.less [0, 3, 4, 5, 6, 7, 14, 15] ?key)⟩
        show X (mkE Tryz.prog Tryz.f94 Q w (InR [] []) (elsewhere [] [] w) (fun _ _ => False) (fun _ => True) [] B94) _ ⟨[(7, .val (.own 2 0)), (0, .val (.slv p n cp)), (3, .val v1), (4, .val (.osl 1 0 (md + 1) 1 none)), (5, .val (.int .i64 (.nat i))), (6, .val (.int .u8 (.nat v))), (14, .val (.int .i64 (.nat n))), (15, .val (.int .i64 (.nat i)))], [⟨true, c1, none⟩, ⟨true, cd2, none⟩, ⟨true, [.int .u64 (.v hz), .int .u8 (.v x)], none⟩]⟩
        refine X.goP ([(48, .int .i64 (.nat m1))]) T94_ok 400 _ rfl Tryz.results94 (fun pr fin hpr hfin => ?_)
        conv => cbv
        refine ⟨hpr _ (vk_len rfl (.inr hv1) Tryz.underlying170 (Nat.lt_of_sub_eq_succ rfl)), hfin _ _ ?_⟩
        have hv1c : bd 4 v1 = true := by rw [hv1]; exact eV_bd (by decide)
        have hc1b : ∀ m, c1.all (bd m) = true := fun m => by rw [hc1]; exact ptsL_bd
        refine X.loop (fun _ : {k : Nat // k ≤ m1} => mkE Tryz.prog Tryz.f94 Q w (InR [] []) (elsewhere [] [] w) (fun _ _ => False) (fun _ => True) [] B94)
          (fun g => ⟨[(0, .val (.slv p n cp)), (3, .val v1), (4, .val (.osl 1 0 (md + 1) 1 none)), (5, .val (.int .i64 (.nat i))), (6, .val (.int .u8 (.nat v))), (7, .val (.own 2 0)), (8, .val (eV 3 ((R1.take g.1).foldl (stP (hz, x)) (false, [])).2.length 2)), (9, .val (.bool (.v ((R1.take g.1).foldl (stP (hz, x)) (false, [])).1))), (14, .val (.int .i64 (.nat n))), (15, .val (.int .i64 (.nat i))), (48, .val (.int .i64 (.nat m1))), (49, .val (.int .i64 (.nat g.1)))], [⟨true, c1, none⟩, ⟨true, cd2, none⟩, ⟨true, [.int .u64 (.v hz), .int .u8 (.v x)], none⟩, ⟨true, ptsL ((R1.take g.1).foldl (stP (hz, x)) (false, [])).2, none⟩]⟩) (fun g => m1 - g.1) (fun _ => ⟨rfl, rfl, rfl, rfl⟩) (fun N ac w' hN hf hS => ⟨⟨0, Nat.zero_le _⟩, ?_⟩) (fun g q3 hq3 => ?_)
        · exact At.again hf hS (by repeat first | exact trivial | refine ⟨⟨_, rfl, .inl ⟨rfl, by first | rfl | assumption⟩⟩, ?_⟩ | refine ⟨⟨_, rfl, .inr ⟨_, rfl, rfl⟩⟩, ?_⟩ | refine ⟨⟨_, rfl, .inr ⟨_, rfl, by simp (disch := omega) [SV.den, SI.den, wrapU, wrapD] <;> omega⟩⟩, ?_⟩ | refine ⟨⟨_, rfl, .inr ⟨_, rfl, by simp [SV.den, SI.den, IntKind.wrap, IntKind.bits, IntKind.signed] <;> omega⟩⟩, ?_⟩) ⟨fun h => h, SubC.refl (hc1b _), rfl, fun h => h, SubC.refl (hcd2d _), rfl, fun h => h, SubC.refl rfl, rfl, fun h => h, trivial, rfl, trivial⟩
        obtain ⟨k, hk⟩ := g
        show X (mkE Tryz.prog Tryz.f94 Q w (InR [] []) (elsewhere [] [] w) (fun _ _ => False) (fun _ => True) [] B94) _ ⟨[(0, .val (.slv p n cp)), (3, .val v1), (4, .val (.osl 1 0 (md + 1) 1 none)), (5, .val (.int .i64 (.nat i))), (6, .val (.int .u8 (.nat v))), (7, .val (.own 2 0)), (8, .val (eV 3 ((R1.take k).foldl (stP (hz, x)) (false, [])).2.length 2)), (9, .val (.bool (.v ((R1.take k).foldl (stP (hz, x)) (false, [])).1))), (14, .val (.int .i64 (.nat n))), (15, .val (.int .i64 (.nat i))), (48, .val (.int .i64 (.nat m1))), (49, .val (.int .i64 (.nat k)))], [⟨true, c1, none⟩, ⟨true, cd2, none⟩, ⟨true, [.int .u64 (.v hz), .int .u8 (.v x)], none⟩, ⟨true, ptsL ((R1.take k).foldl (stP (hz, x)) (false, [])).2, none⟩]⟩
        obtain ⟨pt, hpt⟩ : ∃ b, b = ((R1.take k).foldl (stP (hz, x)) (false, [])).1 := ⟨_, rfl⟩
        obtain ⟨R2, hR2⟩ : ∃ r, r = ((R1.take k).foldl (stP (hz, x)) (false, [])).2 := ⟨_, rfl⟩
        obtain ⟨m2, hm2⟩ : ∃ m, m = R2.length := ⟨_, rfl⟩
        have hm28 : m2 ≤ 2 * k := by
          have := stP_len (hz, x) (R1.take k) false []
          rw [← hR2, ← hm2] at this
          simp at this
          omega
        obtain ⟨v2, hv2⟩ : ∃ v, v = eV 3 m2 2 := ⟨_, rfl⟩
        obtain ⟨c2, hc2⟩ : ∃ c, c = ptsL R2 := ⟨_, rfl⟩
        have hv2b : bd 4 v2 = true := by rw [hv2]; exact eV_bd (by decide)
        have hc2b : ∀ m, c2.all (bd m) = true := fun m => by rw [hc2]; exact ptsL_bd
        have hc1f : ∀ a b, c1.all (SV.frr a b) = true := fun a b => by rw [hc1]; exact ptsL_frr
        have hcd2f : ∀ a b, cd2.all (SV.frr a b) = true := fun a b => by rw [hcd2b]; exact bytL_frr
        rw [← hpt, ← hR2, ← hm2, ← hv2, ← hc2]
        refine X.go T94_ok 400 _ rfl Tryz.results94 ?_
        conv => arg 2; cbv
        refine X.cond rfl (fun hltk => ?_) (fun hgek => ?_)
        · simp only [SB.T, SI.den] at hltk
          have hltk : k < m1 := by omega
          obtain ⟨y1, hy1⟩ : ∃ y, y = R1[k]! := ⟨_, rfl⟩
          obtain ⟨ok, hok⟩ : ∃ o, o = k * 2 := ⟨_, rfl⟩
          obtain ⟨ls, hls⟩ : ∃ b, b = ltOf cfP (hz, x) y1 := ⟨_, rfl⟩
          have hfold : (R1.take (k + 1)).foldl (stP (hz, x)) (false, []) = stP (hz, x) (pt, R2) y1 := by
            rw [List.take_add_one, List.getElem?_eq_getElem (by omega), Option.toList_some, List.foldl_append, hpt, hR2, hy1, getElem!_pos R1 k (by omega)]
            rfl
          have hPr := ptsL_rowAt hc1 (show k < R1.length by omega) hy1 hok
          refine X.goP ([(58, .own 0 ok), (59, .agg [.int .u64 (.v y1.1), .int .u8 (.v y1.2)]), (60, .bool (.v ls))]) T94_ok 400 _ rfl Tryz.results94 (fun pr fin hpr hfin => ?_)
          conv => cbv
          refine ⟨hpr _ (.of Tryz.call126 [.agg #[.int .u64 hz, .int .u8 x], .agg #[.int .u64 y1.1, .int .u8 y1.2]] (.bool ls) (fun _ => rfl) (fun _ => rfl) fun _ w1 _ => by rw [hls]; exact less9_ok (hz, x) y1 w1), hpr _ (vk_loadRow (z := 2) (row := [.int .u64 (.v y1.1), .int .u8 (.v y1.2)]) rfl Tryz.isAgg205 Tryz.sizeOf205 rfl rfl hPr), hpr _ (vk_osl (z := k) rfl (.inr (.inl hv1)) rfl (fun _ => rfl) Tryz.underlying170 Tryz.sizeOf205 (fun _ => hltk) (by omega) (Nat.lt_of_sub_eq_succ rfl)), hfin _ _ ?_⟩
          have hv1f : v1.frr 5 3 = true := by rw [hv1]; exact eV_frr (by decide) (by decide)
          have hv1f6 : v1.frr 6 3 = true := by rw [hv1]; exact eV_frr (by decide) (by decide)
          refine X.cond rfl (fun hput => ?_) (fun hput => ?_)
          · simp only [SB.T, SB.F] at hput
            have hst : stP (hz, x) (pt, R2) y1 = (true, R2 ++ [(hz, x)] ++ [y1]) := by simp [stP, hput.1, ← hls, hput.2]
            refine X.go T94_ok 5 _ rfl Tryz.results94 ?_
            conv => arg 2; cbv
            refine X.appG (T := T94) (te := ti205) (r := 3) (n := m2) (m := 1) (cs := c2) (new := [.int .u64 (.v hz), .int .u8 (.v x)]) T94_ok rfl [0, 3, 4, 5, 6, 7, 10, 14, 15, 48, 49, 65] rfl rfl rfl rfl rfl rfl rfl rfl (.inr (.inl hv2)) rfl (by rw [hc2, ptsL_len]; show _ = _ * 2; first | omega | (simp only [List.length_append, List.length_singleton]; omega)) (by decide) (appSrc_row (g := ⟨true, [.int .u64 (.v hz), .int .u8 (.v x)], none⟩) rfl rfl rfl rfl) (appOk_ok (by decide) rfl rfl rfl (by show (2 * (m2 + 1) + 256) * _ ≤ _; simp only [ti205]; omega) (by omega)) rfl rfl rfl (by repeat first | exact trivial | refine ⟨rfl, ?_⟩ | refine ⟨by assumption, ?_⟩) ⟨.inr (hc1f _ _), .inr (hcd2f _ _), .inr rfl, .inl rfl, .inr rfl, trivial⟩ (by rw [hc2, show ([.int .u64 (.v hz), .int .u8 (.v x)] : List SV) = ptS (hz, x) from rfl, ← ptsL_add]; exact ptsL_frr) rfl ?_
            obtain ⟨c3, hc3⟩ : ∃ c, c = c2 ++ [.int .u64 (.v hz), .int .u8 (.v x)] := ⟨_, rfl⟩
            have hc3b : c3 = ptsL (R2 ++ [(hz, x)]) := by rw [hc3, hc2, ptsL_add]; rfl
            show X (mkE Tryz.prog Tryz.f94 Q w (InR [] []) (elsewhere [] [] w) (fun _ _ => False) (fun _ => True) [] B94) _ ⟨_, [⟨true, c1, none⟩, ⟨true, cd2, none⟩, ⟨true, [.int .u64 (.v hz), .int .u8 (.v x)], none⟩, ⟨true, c2 ++ [.int .u64 (.v hz), .int .u8 (.v x)], none⟩, ⟨true, [.int .u64 (.v hz), .int .u8 (.v x)], none⟩]⟩
            rw [← hc3]
            refine X.goP ([(69, .own 0 ok), (70, .agg [.int .u64 (.v y1.1), .int .u8 (.v y1.2)])]) T94_ok 12 _ rfl Tryz.results94 (fun pr fin hpr hfin => ?_)
            conv => cbv
            refine ⟨hpr _ (vk_loadRow (z := 2) (row := [.int .u64 (.v y1.1), .int .u8 (.v y1.2)]) rfl Tryz.isAgg205 Tryz.sizeOf205 rfl rfl hPr), hpr _ (vk_osl (z := k) rfl (.inr (.inl hv1)) rfl (fun _ => rfl) Tryz.underlying170 Tryz.sizeOf205 (fun _ => hltk) (by omega) (Nat.lt_of_sub_eq_succ rfl)), hfin _ _ ?_⟩
            refine X.appG (T := T94) (te := ti205) (r := 3) (n := (m2 + 1)) (m := 1) (cs := c3) (new := [.int .u64 (.v y1.1), .int .u8 (.v y1.2)]) T94_ok rfl [0, 3, 4, 5, 6, 7, 9, 14, 15, 48, 49, 72] rfl rfl rfl rfl rfl rfl rfl rfl (.inr (.inl rfl)) rfl (by rw [hc3b, ptsL_len]; show _ = _ * 2; first | omega | (simp only [List.length_append, List.length_singleton]; omega)) (by decide) (appSrc_row (g := ⟨true, [.int .u64 (.v y1.1), .int .u8 (.v y1.2)], none⟩) rfl rfl rfl rfl) (appOk_ok (by decide) rfl rfl rfl (by show (2 * ((m2 + 1) + 1) + 256) * _ ≤ _; simp only [ti205]; omega) (by omega)) rfl rfl rfl (by repeat first | exact trivial | refine ⟨rfl, ?_⟩ | refine ⟨by assumption, ?_⟩) ⟨.inr (hc1f _ _), .inr (hcd2f _ _), .inr rfl, .inl rfl, .inr rfl, .inr rfl, trivial⟩ (by rw [hc3b, show ([.int .u64 (.v y1.1), .int .u8 (.v y1.2)] : List SV) = ptS y1 from rfl, ← ptsL_add]; exact ptsL_frr) rfl ?_
            obtain ⟨c4, hc4⟩ : ∃ c, c = c3 ++ [.int .u64 (.v y1.1), .int .u8 (.v y1.2)] := ⟨_, rfl⟩
            have hc4b : c4 = ptsL (R2 ++ [(hz, x)] ++ [y1]) := by rw [hc4, hc3b]; exact (ptsL_add _ y1).symm
            show X (mkE Tryz.prog Tryz.f94 Q w (InR [] []) (elsewhere [] [] w) (fun _ _ => False) (fun _ => True) [] B94) _ ⟨_, [⟨true, c1, none⟩, ⟨true, cd2, none⟩, ⟨true, [.int .u64 (.v hz), .int .u8 (.v x)], none⟩, ⟨true, c3 ++ [.int .u64 (.v y1.1), .int .u8 (.v y1.2)], none⟩, ⟨true, [.int .u64 (.v hz), .int .u8 (.v x)], none⟩, ⟨true, [.int .u64 (.v y1.1), .int .u8 (.v y1.2)], none⟩]⟩
            rw [← hc4]
            have hc4d : ∀ m, c4.all (bd m) = true := fun m => by rw [hc4b]; exact ptsL_bd
            refine X.go T94_ok 400 _ rfl Tryz.results94 ?_
            conv => arg 2; cbv
            refine X.back (fun N ac w' hN hf hS => hq3 ⟨k + 1, hltk⟩ ac w' (by simp only; omega) ?_)
            show At (mkE Tryz.prog Tryz.f94 Q w (InR [] []) (elsewhere [] [] w) (fun _ _ => False) (fun _ => True) [] B94) ⟨[(0, .val (.slv p n cp)), (3, .val v1), (4, .val (.osl 1 0 (md + 1) 1 none)), (5, .val (.int .i64 (.nat i))), (6, .val (.int .u8 (.nat v))), (7, .val (.own 2 0)), (8, .val (eV 3 ((R1.take (k + 1)).foldl (stP (hz, x)) (false, [])).2.length 2)), (9, .val (.bool (.v ((R1.take (k + 1)).foldl (stP (hz, x)) (false, [])).1))), (14, .val (.int .i64 (.nat n))), (15, .val (.int .i64 (.nat i))), (48, .val (.int .i64 (.nat m1))), (49, .val (.int .i64 (.nat (k + 1))))], [⟨true, c1, none⟩, ⟨true, cd2, none⟩, ⟨true, [.int .u64 (.v hz), .int .u8 (.v x)], none⟩, ⟨true, ptsL ((R1.take (k + 1)).foldl (stP (hz, x)) (false, [])).2, none⟩]⟩ ac w'
            have hl : (R2 ++ [(hz, x)] ++ [y1]).length = m2 + 1 + 1 := by simp [hm2]
            rw [hfold, hst, hl, ← hc4b]
            exact At.again hf hS (by repeat first | exact trivial | refine ⟨⟨_, rfl, .inl ⟨rfl, by first | rfl | assumption⟩⟩, ?_⟩ | refine ⟨⟨_, rfl, .inr ⟨_, rfl, rfl⟩⟩, ?_⟩ | refine ⟨⟨_, rfl, .inr ⟨_, rfl, by simp (disch := omega) [SV.den, SI.den, wrapU, wrapD] <;> omega⟩⟩, ?_⟩ | refine ⟨⟨_, rfl, .inr ⟨_, rfl, by simp [SV.den, SI.den, IntKind.wrap, IntKind.bits, IntKind.signed] <;> omega⟩⟩, ?_⟩) ⟨fun h => h, SubC.refl (hc1b _), rfl, fun h => h, SubC.refl (hcd2d _), rfl, fun h => h, SubC.refl rfl, rfl, fun h => h, SubC.refl (hc4d _), rfl, trivial⟩
          · simp only [SB.T, SB.F] at hput
            have hst : stP (hz, x) (pt, R2) y1 = (pt, R2 ++ [y1]) := by rcases hput with h | h <;> simp [stP, h, ← hls]
            refine X.goP ([(69, .own 0 ok), (70, .agg [.int .u64 (.v y1.1), .int .u8 (.v y1.2)])]) T94_ok 8 _ rfl Tryz.results94 (fun pr fin hpr hfin => ?_)
            conv => cbv
            refine ⟨hpr _ (vk_loadRow (z := 2) (row := [.int .u64 (.v y1.1), .int .u8 (.v y1.2)]) rfl Tryz.isAgg205 Tryz.sizeOf205 rfl rfl hPr), hpr _ (vk_osl (z := k) rfl (.inr (.inl hv1)) rfl (fun _ => rfl) Tryz.underlying170 Tryz.sizeOf205 (fun _ => hltk) (by omega) (Nat.lt_of_sub_eq_succ rfl)), hfin _ _ ?_⟩
            refine X.appG (T := T94) (te := ti205) (r := 3) (n := m2) (m := 1) (cs := c2) (new := [.int .u64 (.v y1.1), .int .u8 (.v y1.2)]) T94_ok rfl [0, 3, 4, 5, 6, 7, 9, 14, 15, 48, 49, 72] rfl rfl rfl rfl rfl rfl rfl rfl (.inr (.inl hv2)) rfl (by rw [hc2, ptsL_len]; show _ = _ * 2; first | omega | (simp only [List.length_append, List.length_singleton]; omega)) (by decide) (appSrc_row (g := ⟨true, [.int .u64 (.v y1.1), .int .u8 (.v y1.2)], none⟩) rfl rfl rfl rfl) (appOk_ok (by decide) rfl rfl rfl (by show (2 * (m2 + 1) + 256) * _ ≤ _; simp only [ti205]; omega) (by omega)) rfl rfl rfl (by repeat first | exact trivial | refine ⟨rfl, ?_⟩ | refine ⟨by assumption, ?_⟩) ⟨.inr (hc1f _ _), .inr (hcd2f _ _), .inr rfl, .inl rfl, .inr rfl, trivial⟩ (by rw [hc2, show ([.int .u64 (.v y1.1), .int .u8 (.v y1.2)] : List SV) = ptS y1 from rfl, ← ptsL_add]; exact ptsL_frr) rfl ?_
            obtain ⟨c4, hc4⟩ : ∃ c, c = c2 ++ [.int .u64 (.v y1.1), .int .u8 (.v y1.2)] := ⟨_, rfl⟩
            have hc4b : c4 = ptsL (R2 ++ [y1]) := by rw [hc4, hc2]; exact (ptsL_add _ y1).symm
            show X (mkE Tryz.prog Tryz.f94 Q w (InR [] []) (elsewhere [] [] w) (fun _ _ => False) (fun _ => True) [] B94) _ ⟨_, [⟨true, c1, none⟩, ⟨true, cd2, none⟩, ⟨true, [.int .u64 (.v hz), .int .u8 (.v x)], none⟩, ⟨true, c2 ++ [.int .u64 (.v y1.1), .int .u8 (.v y1.2)], none⟩, ⟨true, [.int .u64 (.v y1.1), .int .u8 (.v y1.2)], none⟩]⟩
            rw [← hc4]
            have hc4d : ∀ m, c4.all (bd m) = true := fun m => by rw [hc4b]; exact ptsL_bd
            refine X.go T94_ok 400 _ rfl Tryz.results94 ?_
            conv => arg 2; cbv
            refine X.back (fun N ac w' hN hf hS => hq3 ⟨k + 1, hltk⟩ ac w' (by simp only; omega) ?_)
            show At (mkE Tryz.prog Tryz.f94 Q w (InR [] []) (elsewhere [] [] w) (fun _ _ => False) (fun _ => True) [] B94) ⟨[(0, .val (.slv p n cp)), (3, .val v1), (4, .val (.osl 1 0 (md + 1) 1 none)), (5, .val (.int .i64 (.nat i))), (6, .val (.int .u8 (.nat v))), (7, .val (.own 2 0)), (8, .val (eV 3 ((R1.take (k + 1)).foldl (stP (hz, x)) (false, [])).2.length 2)), (9, .val (.bool (.v ((R1.take (k + 1)).foldl (stP (hz, x)) (false, [])).1))), (14, .val (.int .i64 (.nat n))), (15, .val (.int .i64 (.nat i))), (48, .val (.int .i64 (.nat m1))), (49, .val (.int .i64 (.nat (k + 1))))], [⟨true, c1, none⟩, ⟨true, cd2, none⟩, ⟨true, [.int .u64 (.v hz), .int .u8 (.v x)], none⟩, ⟨true, ptsL ((R1.take (k + 1)).foldl (stP (hz, x)) (false, [])).2, none⟩]⟩ ac w'
            have hl : (R2 ++ [y1]).length = m2 + 1 := by simp [hm2]
            rw [hfold, hst, hl, ← hc4b]
            exact At.again hf hS (by repeat first | exact trivial | refine ⟨⟨_, rfl, .inl ⟨rfl, by first | rfl | assumption⟩⟩, ?_⟩ | refine ⟨⟨_, rfl, .inr ⟨_, rfl, rfl⟩⟩, ?_⟩ | refine ⟨⟨_, rfl, .inr ⟨_, rfl, by simp (disch := omega) [SV.den, SI.den, wrapU, wrapD] <;> omega⟩⟩, ?_⟩ | refine ⟨⟨_, rfl, .inr ⟨_, rfl, by simp [SV.den, SI.den, IntKind.wrap, IntKind.bits, IntKind.signed] <;> omega⟩⟩, ?_⟩) ⟨fun h => h, SubC.refl (hc1b _), rfl, fun h => h, SubC.refl (hcd2d _), rfl, fun h => h, SubC.refl rfl, rfl, fun h => h, SubC.refl (hc4d _), rfl, trivial⟩
        · simp only [SB.F, SI.den] at hgek
          have hk1 : R1.take k = R1 := List.take_of_length_le (by omega)
          have hend := stP_end (hz, x) R1 false []
          simp only [Bool.false_eq_true, if_false, List.nil_append] at hend
          rw [hk1] at hpt hR2
          rw [← hpt, ← hR2] at hend
          have hins : insAll (D.flatMap ptsOf ++ ptsTo x (v + 1)) = if pt = true then R2 else R2 ++ [(hz, x)] := by
            rw [ptsTo_succ, ← List.append_assoc, insAll_snoc, ← hR1, ← hhz, hend]
          have hlen1 : (insAll (D.flatMap ptsOf ++ ptsTo x (v + 1))).length = mr + (v + 1) := by
            rw [insAll_len, List.length_append, fl8, ptsTo_len, ← hmd, hmr8]
          refine X.go T94_ok 400 _ rfl Tryz.results94 ?_
          conv => arg 2; cbv
          refine X.cond rfl (fun hno => ?_) (fun hyes => ?_)
          · simp only [SB.T, SB.F] at hno
            rw [if_neg (by simp [hno])] at hins
            refine X.go T94_ok 4 _ rfl Tryz.results94 ?_
            conv => arg 2; cbv
            refine X.appG (T := T94) (te := ti205) (r := 3) (n := m2) (m := 1) (cs := c2) (new := [.int .u64 (.v hz), .int .u8 (.v x)]) T94_ok rfl [0, 4, 5, 6, 14, 15, 79] rfl rfl rfl rfl rfl rfl rfl rfl (.inr (.inl hv2)) rfl (by rw [hc2, ptsL_len]; show _ = _ * 2; first | omega | (simp only [List.length_append, List.length_singleton]; omega)) (by decide) (appSrc_row (g := ⟨true, [.int .u64 (.v hz), .int .u8 (.v x)], none⟩) rfl rfl rfl rfl) (appOk_ok (by decide) rfl rfl rfl (by show (2 * (m2 + 1) + 256) * _ ≤ _; simp only [ti205]; omega) (by omega)) rfl rfl rfl (by repeat first | exact trivial | refine ⟨rfl, ?_⟩ | refine ⟨by assumption, ?_⟩) ⟨.inr (hc1f _ _), .inr (hcd2f _ _), .inr rfl, .inl rfl, .inr rfl, trivial⟩ (by rw [hc2, show ([.int .u64 (.v hz), .int .u8 (.v x)] : List SV) = ptS (hz, x) from rfl, ← ptsL_add]; exact ptsL_frr) rfl ?_
            obtain ⟨c3, hc3⟩ : ∃ c, c = c2 ++ [.int .u64 (.v hz), .int .u8 (.v x)] := ⟨_, rfl⟩
            have hc3b : c3 = ptsL (insAll (D.flatMap ptsOf ++ ptsTo x (v + 1))) := by rw [hc3, hc2, hins, ptsL_add]; rfl
            have hm3 : m2 + 1 = mr + (v + 1) := by rw [← hlen1, hins, hm2]; simp
            show X (mkE Tryz.prog Tryz.f94 Q w (InR [] []) (elsewhere [] [] w) (fun _ _ => False) (fun _ => True) [] B94) _ ⟨_, [⟨true, c1, none⟩, ⟨true, cd2, none⟩, ⟨true, [.int .u64 (.v hz), .int .u8 (.v x)], none⟩, ⟨true, c2 ++ [.int .u64 (.v hz), .int .u8 (.v x)], none⟩, ⟨true, [.int .u64 (.v hz), .int .u8 (.v x)], none⟩]⟩
            rw [← hc3]
            refine X.go T94_ok 400 _ rfl Tryz.results94 ?_
            conv => arg 2; cbv
            refine X.less [0, 3, 4, 5, 6, 14, 15] ?_
            have hw8 : IntKind.u8.wrap ((v : Int) + 1) = ((v + 1 : Nat) : Int) := wrapP (v := v + 1) (by omega)
            refine X.keep rfl [3, 1] (by decide) [(6, .val (.int .u8 (.nat (v + 1)))), (3, .val (eV 0 (mr + (v + 1)) 2)), (0, .val (.slv p n cp)), (4, .val (.osl 1 0 (md + 1) 1 none)), (5, .val (.int .i64 (.nat i))), (14, .val (.int .i64 (.nat n))), (15, .val (.int .i64 (.nat i)))] [⟨true, c3, none⟩, ⟨true, cd2, none⟩] rfl (fun i r h => by match i, h with | 0, h => cases h; rfl | 1, h => cases h; rfl | i + 2, h => simp at h) (fun N N' _ _ hg => ⟨rfl, fun z h => by rw [← h]; simp only [SV.den, SI.den, hw8], rfl, fun z h => by rw [← hm3]; exact eV_ren (n := m2 + 1) (hg 0 3 rfl) z h, rfl, fun _ h => h, rfl, fun z h => by have := hg 1 1 rfl; simpa only [SV.den, this] using h, rfl, fun _ h => h, rfl, fun _ h => h, rfl, fun _ h => h, trivial⟩) (fun g hg c hc N N' v hv => ?_) (fun g hg => ?_) ?_
            · simp only [List.mem_cons, List.not_mem_nil, or_false] at hg
              rcases hg with rfl | rfl
              · exact ptsL_den (by rw [← hc3b]; exact hc) hv
              · exact bytL_den (by rw [← hcd2b]; exact hc) hv
            · simp only [List.mem_cons, List.not_mem_nil, or_false] at hg
              rcases hg with rfl | rfl <;> rfl
            refine X.back (fun N ac w' hN hf hS => hq2 ⟨v + 1, hlt8⟩ ac w' (by simp only; omega) ?_)
            show At (mkE Tryz.prog Tryz.f94 Q w (InR [] []) (elsewhere [] [] w) (fun _ _ => False) (fun _ => True) [] B94) ⟨[(0, .val (.slv p n cp)), (3, .val (eV 0 (mr + (v + 1)) 2)), (4, .val (.osl 1 0 (md + 1) 1 none)), (5, .val (.int .i64 (.nat i))), (6, .val (.int .u8 (.nat (v + 1)))), (14, .val (.int .i64 (.nat n))), (15, .val (.int .i64 (.nat i)))], [⟨true, ptsL (insAll (D.flatMap ptsOf ++ ptsTo x (v + 1))), none⟩, ⟨true, cd2, none⟩]⟩ ac w'
            rw [← hc3b]
            have hvb : bd 2 (eV 0 (mr + (v + 1)) 2) = true := eV_bd (by decide)
            have hcb : ∀ m, c3.all (bd m) = true := fun m => by rw [hc3b]; exact ptsL_bd
            exact At.again hf hS (by repeat first | exact trivial | refine ⟨⟨_, rfl, .inl ⟨rfl, by first | rfl | assumption⟩⟩, ?_⟩ | refine ⟨⟨_, rfl, .inr ⟨_, rfl, rfl⟩⟩, ?_⟩ | refine ⟨⟨_, rfl, .inr ⟨_, rfl, by simp (disch := omega) [SV.den, SI.den, wrapU, wrapD] <;> omega⟩⟩, ?_⟩ | refine ⟨⟨_, rfl, .inr ⟨_, rfl, by simp [SV.den, SI.den, IntKind.wrap, IntKind.bits, IntKind.signed] <;> omega⟩⟩, ?_⟩) ⟨fun h => h, SubC.refl (hcb _), rfl, fun h => h, SubC.refl (hcd2d _), rfl, trivial⟩
          · simp only [SB.T, SB.F] at hyes
            have hyes : pt = true := by simpa using hyes
            rw [if_pos hyes] at hins
            have hm3 : m2 = mr + (v + 1) := by rw [← hlen1, hins, hm2]
            have hc2b : c2 = ptsL (insAll (D.flatMap ptsOf ++ ptsTo x (v + 1))) := by rw [hc2, hins]
            refine X.go T94_ok 400 _ rfl Tryz.results94 ?_
            conv => arg 2; cbv
            refine X.less [0, 3, 4, 5, 6, 14, 15] ?_
            have hw8 : IntKind.u8.wrap ((v : Int) + 1) = ((v + 1 : Nat) : Int) := wrapP (v := v + 1) (by omega)
            refine X.keep rfl [3, 1] (by decide) [(6, .val (.int .u8 (.nat (v + 1)))), (3, .val (eV 0 (mr + (v + 1)) 2)), (0, .val (.slv p n cp)), (4, .val (.osl 1 0 (md + 1) 1 none)), (5, .val (.int .i64 (.nat i))), (14, .val (.int .i64 (.nat n))), (15, .val (.int .i64 (.nat i)))] [⟨true, c2, none⟩, ⟨true, cd2, none⟩] rfl (fun i r h => by match i, h with | 0, h => cases h; rfl | 1, h => cases h; rfl | i + 2, h => simp at h) (fun N N' _ _ hg => ⟨rfl, fun z h => by rw [← h]; simp only [SV.den, SI.den, hw8], rfl, fun z h => by rw [← hm3]; rw [hv2] at h; exact eV_ren (hg 0 3 rfl) z h, rfl, fun _ h => h, rfl, fun z h => by have := hg 1 1 rfl; simpa only [SV.den, this] using h, rfl, fun _ h => h, rfl, fun _ h => h, rfl, fun _ h => h, trivial⟩) (fun g hg c hc N N' v hv => ?_) (fun g hg => ?_) ?_
            · simp only [List.mem_cons, List.not_mem_nil, or_false] at hg
              rcases hg with rfl | rfl
              · exact ptsL_den (by rw [← hc2b]; exact hc) hv
              · exact bytL_den (by rw [← hcd2b]; exact hc) hv
            · simp only [List.mem_cons, List.not_mem_nil, or_false] at hg
              rcases hg with rfl | rfl <;> rfl
            refine X.back (fun N ac w' hN hf hS => hq2 ⟨v + 1, hlt8⟩ ac w' (by simp only; omega) ?_)
            show At (mkE Tryz.prog Tryz.f94 Q w (InR [] []) (elsewhere [] [] w) (fun _ _ => False) (fun _ => True) [] B94) ⟨[(0, .val (.slv p n cp)), (3, .val (eV 0 (mr + (v + 1)) 2)), (4, .val (.osl 1 0 (md + 1) 1 none)), (5, .val (.int .i64 (.nat i))), (6, .val (.int .u8 (.nat (v + 1)))), (14, .val (.int .i64 (.nat n))), (15, .val (.int .i64 (.nat i)))], [⟨true, ptsL (insAll (D.flatMap ptsOf ++ ptsTo x (v + 1))), none⟩, ⟨true, cd2, none⟩]⟩ ac w'
            rw [← hc2b]
            have hvb : bd 2 (eV 0 (mr + (v + 1)) 2) = true := eV_bd (by decide)
            have hcb : ∀ m, c2.all (bd m) = true := fun m => by rw [hc2b]; exact ptsL_bd
            exact At.again hf hS (by repeat first | exact trivial | refine ⟨⟨_, rfl, .inl ⟨rfl, by first | rfl | assumption⟩⟩, ?_⟩ | refine ⟨⟨_, rfl, .inr ⟨_, rfl, rfl⟩⟩, ?_⟩ | refine ⟨⟨_, rfl, .inr ⟨_, rfl, by simp (disch := omega) [SV.den, SI.den, wrapU, wrapD] <;> omega⟩⟩, ?_⟩ | refine ⟨⟨_, rfl, .inr ⟨_, rfl, by simp [SV.den, SI.den, IntKind.wrap, IntKind.bits, IntKind.signed] <;> omega⟩⟩, ?_⟩) ⟨fun h => h, SubC.refl (hcb _), rfl, fun h => h, SubC.refl (hcd2d _), rfl, trivial⟩
      · simp only [SB.F, SI.den] at hge8
        have hv8 : v = 8 := by omega
        have hRe : insAll ((D ++ [x]).flatMap ptsOf) = R1 := by
          rw [hR1, hv8, List.flatMap_append]
          simp [ptsOf]
        refine X.go T94_ok 400 _ rfl Tryz.results94 ?_
        conv => arg 2; cbv
        refine X.back (fun N ac w' hN hf hS => hq ⟨i + 1, hlt⟩ ac w' (by simp only; omega) ?_)
        show At (mkE Tryz.prog Tryz.f94 Q w (InR [] []) (elsewhere [] [] w) (fun _ _ => False) (fun _ => True) [] B94) ⟨[(0, .val (.slv p n cp)), (3, .val (eV 0 (insAll ((dd (d.toList.take (i + 1)) []).flatMap ptsOf)).length 2)), (4, .val (eV 1 (dd (d.toList.take (i + 1)) []).length 1)), (14, .val (.int .i64 (.nat n))), (15, .val (.int .i64 (.nat (i + 1))))], [⟨true, ptsL (insAll ((dd (d.toList.take (i + 1)) []).flatMap ptsOf)), none⟩, ⟨true, bytL (dd (d.toList.take (i + 1)) []), none⟩]⟩ ac w'
        rw [hsn, hRe, hR1l, ← hv1, ← hc1, List.length_append, ← hmd, ← hcd2b]
        exact At.again hf hS (by repeat first | exact trivial | refine ⟨⟨_, rfl, .inl ⟨rfl, by first | rfl | assumption⟩⟩, ?_⟩ | refine ⟨⟨_, rfl, .inr ⟨_, rfl, rfl⟩⟩, ?_⟩ | refine ⟨⟨_, rfl, .inr ⟨_, rfl, by simp (disch := omega) [SV.den, SI.den, wrapU, wrapD] <;> omega⟩⟩, ?_⟩ | refine ⟨⟨_, rfl, .inr ⟨_, rfl, by simp [SV.den, SI.den, IntKind.wrap, IntKind.bits, IntKind.signed] <;> omega⟩⟩, ?_⟩) ⟨fun h => h, SubC.refl (by rw [hc1]; exact ptsL_bd), rfl, fun h => h, SubC.refl (hcd2d _), rfl, trivial⟩
  · simp only [SB.F, SI.den] at hge
    have hall : d.toList.take i = d.toList := List.take_of_length_le (by simp; omega)
    have hRe : R = ringP d := by rw [hR, hD, hall, insAll_ring]
    refine X.go T94_ok 400 _ rfl Tryz.results94 ?_
    conv => arg 2; cbv
    refine X.done T94_ok rfl (fun N w' v hN hS hv => ?_)
    rw [hQ, ← hRe, ← hcr, ← hmr]
    refine roR_of hS (r := 0) (z := 2) rfl (fun c hc N N' v h => ptsL_den (by rw [← hcr]; exact hc) h) (by rw [← hvr]; exact hv)
end Go.Proofs.YthaffebapmkppaaGreat

namespace Go.Proofs.YthaffebapmkppaaGreat
open Go Go.Eng Go.Sort
def kst (many : Int) (out : List Int) (x : Int) : List Int := if decide ((out.length : Int) < many) && !decide (x ∈ out) then out ++ [x] else out
def kstep (kh many : Int) (tb : Bool) (out : List Int) (y : Int × Int) : List Int := if decide (kh ≤ y.1) == tb then kst many out y.2 else out
theorem kst_dd (many : Int) : ∀ (T out : List Int), out.length ≤ many.toNat → T.foldl (kst many) out = (dd T out).take many.toNat
  | [], out, h => by simp [dd, List.take_of_length_le h]
  | x :: T, out, h => by
    rw [List.foldl_cons, dd]
    by_cases hm : (out.length : Int) < many
    · by_cases hx : x ∈ out
      · have : kst many out x = out := by simp [kst, hx]
        rw [this, if_pos hx, kst_dd many T out h]
      · have : kst many out x = out ++ [x] := by simp [kst, hx, hm]
        rw [this, if_neg hx, kst_dd many T (out ++ [x]) (by simp; omega)]
    · have : kst many out x = out := by simp [kst, hm]
      rw [this, kst_dd many T out h, take_pre (dd_pre _ _) (by omega)]
      have hp : out <+: dd T (if x ∈ out then out else out ++ [x]) := by
        refine List.IsPrefix.trans ?_ (dd_pre _ _)
        split
        · exact List.prefix_refl _
        · exact List.prefix_append _ _
      rw [take_pre hp (by omega)]
theorem kstep_fold (kh many : Int) (tb : Bool) : ∀ (L : List (Int × Int)) (out : List Int), L.foldl (kstep kh many tb) out = ((L.filter fun y => decide (kh ≤ y.1) == tb).map (·.2)).foldl (kst many) out
  | [], _ => rfl
  | y :: L, out => by
    rw [List.foldl_cons, kstep_fold kh many tb L]
    unfold kstep
    by_cases h : (decide (kh ≤ y.1) == tb) = true
    · rw [if_pos h, List.filter_cons_of_pos (p := fun y : Int × Int => decide (kh ≤ y.1) == tb) h]
      rfl
    · rw [if_neg h, List.filter_cons_of_neg (p := fun y : Int × Int => decide (kh ≤ y.1) == tb) h]
def kturn (L : List (Int × Int)) (kh many : Int) : Nat → List Int
  | 0 => []
  | 1 => L.foldl (kstep kh many true) []
  | _ => L.foldl (kstep kh many false) (L.foldl (kstep kh many true) [])
theorem kturn_keep {L : List (Int × Int)} (h : Rise L) (key many : Int) : kturn L (keyZ key) many 2 = keepL L key many := by
  rw [keepL_eq h]
  show List.foldl (kstep (keyZ key) many false) (List.foldl (kstep (keyZ key) many true) [] L) L = _
  rw [kstep_fold, kstep_fold, ← List.foldl_append, ← List.map_append, kst_dd _ _ _ (by simp)]
  have e1 : (fun y : Int × Int => decide (keyZ key ≤ y.1) == true) = fun y => decide (keyZ key ≤ y.1) := by funext y; simp
  have e2 : (fun y : Int × Int => decide (keyZ key ≤ y.1) == false) = fun y => !decide (keyZ key ≤ y.1) := by funext y; simp
  rw [e1, e2]
  rfl
theorem kst_len (many : Int) (out : List Int) (x : Int) : (kst many out x).length ≤ out.length + 1 := by unfold kst; split <;> simp
theorem kstep_len (kh many : Int) (tb : Bool) : ∀ (L : List (Int × Int)) (out : List Int), (L.foldl (kstep kh many tb) out).length ≤ out.length + L.length
  | [], _ => Nat.le_refl _
  | y :: L, out => by
    rw [List.foldl_cons]
    have h1 := kstep_len kh many tb L (kstep kh many tb out y)
    have h2 : (kstep kh many tb out y).length ≤ out.length + 1 := by
      unfold kstep
      split
      · exact kst_len _ _ _
      · omega
    simp only [List.length_cons]
    omega
theorem kturn_len (L : List (Int × Int)) (kh many : Int) (t : Nat) : (kturn L kh many t).length ≤ 2 * L.length := by
  match t with
  | 0 => simp [kturn]
  | 1 => have := kstep_len kh many true L []; simp [kturn] at this ⊢; omega
  | t + 2 =>
    have h1 := kstep_len kh many false L (L.foldl (kstep kh many true) [])
    have h2 := kstep_len kh many true L []
    simp [kturn] at h1 h2 ⊢
    omega
theorem foldl_take {α β : Type} [Inhabited α] (f : β → α → β) (b : β) {L : List α} {k : Nat} (h : k < L.length) : (L.take (k + 1)).foldl f b = f ((L.take k).foldl f b) L[k]! := by
  rw [List.take_add_one, List.getElem?_eq_getElem h, Option.toList_some, List.foldl_append, getElem!_pos L k h]
  rfl
set_option maxHeartbeats 8000000 in
set_option maxRecDepth 100000 in
set_option cbv.maxSteps 100000000 in
theorem keepers9_ok (b o m c : Nat) (p : Option Addr) (L : List (Int × Int)) (key many : Int) (w : World) (hp : 0 < m → p = some ⟨b, o, none⟩) (hm : L.length = m) (hle : m ≤ 8000) (hL : PtIn b o L w) (hR : Rise L) :
    Calls Tryz.prog 93 #[.slice p m c, .int .u8 key, .int .i64 many] w (RoR (bytL (keepL L key many)) (keepL L key many).length w) := by
  obtain ⟨kh, hkh⟩ : ∃ k, k = keyZ key := ⟨_, rfl⟩
  obtain ⟨F, hF⟩ : ∃ F, F = keepL L key many := ⟨_, rfl⟩
  have hFk : kturn L kh many 2 = F := by rw [hkh, hF]; exact kturn_keep hR key many
  obtain ⟨Q, hQ⟩ : ∃ Q : Ending → World → Prop, Q = RoR (bytL F) F.length w := ⟨_, rfl⟩
  rw [← hF, ← hQ]
  refine X.begin (rg := []) (N := []) (ss := [.slv p m c, .int .u8 (.v key), .int .i64 (.v many)]) Tryz.func93 rfl B93_ok rfl rfl Sat.std0 ?_
  refine X.goP ([(12, .int .u64 (.v kh))]) T93_ok 400 _ rfl Tryz.results93 (fun pr fin hpr hfin => ?_)
  conv => cbv
  refine ⟨hpr _ (.of Tryz.call124 [.int .u8 key] (.int .u64 kh) (fun _ => rfl) (fun _ => rfl) fun _ w1 _ => by rw [hkh]; exact key8_ok key w1), hfin _ _ ?_⟩
  refine X.loop (fun _ : {t : Nat // t ≤ 2} => mkE Tryz.prog Tryz.f93 Q w (InR [] []) (elsewhere [] [] w) (fun _ _ => False) (fun _ => True) [] B93)
    (fun g => ⟨[(0, .val (.slv p m c)), (2, .val (.int .i64 (.v many))), (7, .val (.int .u64 (.v kh))), (8, .val (eV 0 (kturn L kh many g.1).length 1)), (9, .val (.int .i64 (.nat g.1)))], [⟨true, bytL (kturn L kh many g.1), none⟩]⟩) (fun g => 2 - g.1) (fun _ => ⟨rfl, rfl, rfl, rfl⟩) (fun N ac w' hN hf hS => ⟨⟨0, Nat.zero_le _⟩, ?_⟩) (fun g q hq => ?_)
  · exact At.again hf hS (by repeat first | exact trivial | refine ⟨⟨_, rfl, .inl ⟨rfl, by first | rfl | assumption⟩⟩, ?_⟩ | refine ⟨⟨_, rfl, .inr ⟨_, rfl, rfl⟩⟩, ?_⟩ | refine ⟨⟨_, rfl, .inr ⟨_, rfl, by simp (disch := omega) [SV.den, SI.den, wrapU, wrapD] <;> omega⟩⟩, ?_⟩ | refine ⟨⟨_, rfl, .inr ⟨_, rfl, by simp [SV.den, SI.den, IntKind.wrap, IntKind.bits, IntKind.signed] <;> omega⟩⟩, ?_⟩) ⟨fun h => h, trivial, rfl, trivial⟩
  obtain ⟨t, ht⟩ := g
  obtain ⟨O0, hO0⟩ : ∃ O, O = kturn L kh many t := ⟨_, rfl⟩
  show X (mkE Tryz.prog Tryz.f93 Q w (InR [] []) (elsewhere [] [] w) (fun _ _ => False) (fun _ => True) [] B93) _ ⟨[(0, .val (.slv p m c)), (2, .val (.int .i64 (.v many))), (7, .val (.int .u64 (.v kh))), (8, .val (eV 0 (kturn L kh many t).length 1)), (9, .val (.int .i64 (.nat t)))], [⟨true, bytL (kturn L kh many t), none⟩]⟩
  rw [← hO0]
  have hO0l : O0.length ≤ 2 * m := by rw [hO0, ← hm]; exact kturn_len _ _ _ _
  obtain ⟨v0, hv0⟩ : ∃ v, v = eV 0 O0.length 1 := ⟨_, rfl⟩
  obtain ⟨c0, hc0⟩ : ∃ v, v = bytL O0 := ⟨_, rfl⟩
  have hv0b : bd 1 v0 = true := by rw [hv0]; exact eV_bd (by decide)
  rw [← hv0, ← hc0]
  refine X.go T93_ok 400 _ rfl Tryz.results93 ?_
  conv => arg 2; cbv
  refine X.cond rfl (fun hlt => ?_) (fun hge => ?_)
  · simp only [SB.T, SI.den] at hlt
    have hlt : t < 2 := by omega
    obtain ⟨tb, htb⟩ : ∃ b, b = decide (t = 0) := ⟨_, rfl⟩
    have hnext : L.foldl (kstep kh many tb) O0 = kturn L kh many (t + 1) := by
      rw [hO0, htb]
      match t, hlt with
      | 0, _ => rfl
      | 1, _ => rfl
    refine X.go T93_ok 400 _ rfl Tryz.results93 ?_
    conv => arg 2; cbv
    refine X.loop (fun _ : {i : Nat // i ≤ m} => mkE Tryz.prog Tryz.f93 Q w (InR [] []) (elsewhere [] [] w) (fun _ _ => False) (fun _ => True) [] B93)
      (fun g => ⟨[(0, .val (.slv p m c)), (2, .val (.int .i64 (.v many))), (7, .val (.int .u64 (.v kh))), (8, .val (eV 0 ((L.take g.1).foldl (kstep kh many tb) O0).length 1)), (9, .val (.int .i64 (.nat t))), (19, .val (.int .i64 (.nat m))), (20, .val (.int .i64 (.nat g.1)))], [⟨true, bytL ((L.take g.1).foldl (kstep kh many tb) O0), none⟩]⟩) (fun g => m - g.1) (fun _ => ⟨rfl, rfl, rfl, rfl⟩) (fun N ac w' hN hf hS => ⟨⟨0, Nat.zero_le _⟩, ?_⟩) (fun g q2 hq2 => ?_)
    · show At _ ⟨[(0, .val (.slv p m c)), (2, .val (.int .i64 (.v many))), (7, .val (.int .u64 (.v kh))), (8, .val (eV 0 O0.length 1)), (9, .val (.int .i64 (.nat t))), (19, .val (.int .i64 (.nat m))), (20, .val (.int .i64 (.nat 0)))], [⟨true, bytL O0, none⟩]⟩ ac w'
      rw [← hv0, ← hc0]
      exact At.again hf hS (by repeat first | exact trivial | refine ⟨⟨_, rfl, .inl ⟨rfl, by first | rfl | assumption⟩⟩, ?_⟩ | refine ⟨⟨_, rfl, .inr ⟨_, rfl, rfl⟩⟩, ?_⟩ | refine ⟨⟨_, rfl, .inr ⟨_, rfl, by simp (disch := omega) [SV.den, SI.den, wrapU, wrapD] <;> omega⟩⟩, ?_⟩ | refine ⟨⟨_, rfl, .inr ⟨_, rfl, by simp [SV.den, SI.den, IntKind.wrap, IntKind.bits, IntKind.signed] <;> omega⟩⟩, ?_⟩) ⟨fun h => h, SubC.refl (by rw [hc0]; exact bytL_bd), rfl, trivial⟩
    obtain ⟨i, hi⟩ := g
    show X (mkE Tryz.prog Tryz.f93 Q w (InR [] []) (elsewhere [] [] w) (fun _ _ => False) (fun _ => True) [] B93) _ ⟨[(0, .val (.slv p m c)), (2, .val (.int .i64 (.v many))), (7, .val (.int .u64 (.v kh))), (8, .val (eV 0 ((L.take i).foldl (kstep kh many tb) O0).length 1)), (9, .val (.int .i64 (.nat t))), (19, .val (.int .i64 (.nat m))), (20, .val (.int .i64 (.nat i)))], [⟨true, bytL ((L.take i).foldl (kstep kh many tb) O0), none⟩]⟩
    obtain ⟨O1, hO1⟩ : ∃ O, O = (L.take i).foldl (kstep kh many tb) O0 := ⟨_, rfl⟩
    obtain ⟨l1, hl1⟩ : ∃ l, l = O1.length := ⟨_, rfl⟩
    have hl18 : l1 ≤ 3 * m := by
      have := kstep_len kh many tb (L.take i) O0
      rw [← hO1, ← hl1] at this
      simp at this
      omega
    obtain ⟨v1, hv1⟩ : ∃ v, v = eV 0 l1 1 := ⟨_, rfl⟩
    obtain ⟨c1, hc1⟩ : ∃ v, v = bytL O1 := ⟨_, rfl⟩
    have hv1b : bd 1 v1 = true := by rw [hv1]; exact eV_bd (by decide)
    have hc1b : ∀ m, c1.all (bd m) = true := fun m => by rw [hc1]; exact bytL_bd
    rw [← hO1, ← hl1, ← hv1, ← hc1]
    refine X.go T93_ok 400 _ rfl Tryz.results93 ?_
    conv => arg 2; cbv
    refine X.cond rfl (fun hlti => ?_) (fun hgei => ?_)
    · simp only [SB.T, SI.den] at hlti
      have hlti : i < m := by omega
      have hp := hp (by omega)
      obtain ⟨y, hy⟩ : ∃ y, y = L[i]! := ⟨_, rfl⟩
      obtain ⟨h1, hh1⟩ : ∃ z, z = y.1 := ⟨_, rfl⟩
      obtain ⟨x, hx⟩ : ∃ z, z = y.2 := ⟨_, rfl⟩
      obtain ⟨oz, hoz⟩ : ∃ q, q = o + i * 2 := ⟨_, rfl⟩
      have hi1 : elsewhere [] [] w b (oz + 0) = some (.int .u64 h1) := by rw [Nat.add_zero, els_old, hoz, hh1, hy]; exact (hL i (by omega)).1
      have hi2 : elsewhere [] [] w b (oz + 1) = some (.int .u8 x) := by rw [els_old, hoz, hx, hy]; exact (hL i (by omega)).2
      obtain ⟨hb, hhb⟩ : ∃ b, b = decide (x ∈ O1) := ⟨_, rfl⟩
      have hst : (L.take (i + 1)).foldl (kstep kh many tb) O0 = kstep kh many tb O1 y := by rw [foldl_take _ _ (by omega), ← hO1, ← hy]
      refine X.goP ([(25, .ext b oz 0), (27, .int .u64 (.v h1)), (35, .int .i64 (.nat l1)), (43, .ext b oz 0), (45, .int .u8 (.v x)), (46, .bool (.v hb))]) T93_ok 400 _ rfl Tryz.results93 (fun pr fin hpr hfin => ?_)
      conv => cbv
      refine ⟨hpr _ (fun _ => ⟨Tryz.call95, fun N w1 args _ hS ha => ?_⟩), hpr _ (ValOk.im1 rfl Tryz.isAgg5 (fun _ => rfl) fun _ => hi2), hpr _ (ValOk.at (z := i) rfl rfl (fun _ => rfl) Tryz.underlying170 Tryz.sizeOf205 (fun _ => hlti) hp (by omega)), hpr _ (vk_len rfl (.inr hv1) Tryz.underlying23 (Nat.lt_of_sub_eq_succ rfl)), hpr _ (ValOk.im1 rfl Tryz.isAgg22 (fun _ => rfl) fun _ => hi1), hpr _ (ValOk.at (z := i) rfl rfl (fun _ => rfl) Tryz.underlying170 Tryz.sizeOf205 (fun _ => hlti) hp (by omega)), hfin _ _ ?_⟩
      · obtain ⟨v, ls1, rfl, hv, ha⟩ := denL_cons ha
        obtain ⟨v2, ls2, rfl, hv2, ha⟩ := denL_cons ha
        obtain rfl := denL_nil ha
        obtain ⟨pq, hpq⟩ := num_of hS (r := 0) rfl
        rw [hv1] at hv
        obtain ⟨cc, rfl⟩ := eV_den hpq hv
        simp only [SV.den, SI.den, Option.some.injEq] at hv2
        subst hv2
        refine (has9_ok _ l1 cc O1.toArray x w1 (by omega) (inB_own hS (r := 0) rfl hpq (by simp [hl1]) (fun j hj => ⟨.v O1[j]!, by rw [hc1]; simp [bytL, show j < O1.length by omega], by simp [SI.den]⟩))).mono fun e w' ⟨he, hc⟩ => ⟨_, he, by rw [hhb]; rfl, hc⟩
      refine X.cond rfl (fun hT => ?_) (fun hF => ?_)
      · simp only [SB.T, SB.F, SB.den, SI.den] at hT
        have hstp : kstep kh many tb O1 y = O1 ++ [x] := by
          obtain ⟨⟨g1, g2⟩, g3⟩ := hT
          have g1' : kh ≤ h1 ↔ t = 0 := (decide_eq_true_iff.symm.trans (Iff.of_eq (congrArg (fun b => b = true) g1))).trans (by simp)
          have g4 : (decide (kh ≤ y.1) == tb) = true := by rw [htb, ← hh1, beq_iff_eq]; exact decide_eq_decide.2 g1'
          have g5 : ¬ x ∈ O1 := by rw [hhb] at g3; simpa using g3
          unfold kstep kst
          rw [if_pos g4, ← hx, if_pos (by simp [g5]; omega)]
        refine X.goP ([(52, .ext b oz 0), (54, .int .u8 (.v x))]) T93_ok 8 _ rfl Tryz.results93 (fun pr fin hpr hfin => ?_)
        conv => cbv
        refine ⟨hpr _ (ValOk.im1 rfl Tryz.isAgg5 (fun _ => rfl) fun _ => hi2), hpr _ (ValOk.at (z := i) rfl rfl (fun _ => rfl) Tryz.underlying170 Tryz.sizeOf205 (fun _ => hlti) hp (by omega)), hfin _ _ ?_⟩
        refine X.appG (T := T93) (te := ti5) (r := 0) (n := l1) (m := 1) (cs := c1) (new := [.int .u8 (.v x)]) T93_ok rfl [0, 2, 7, 9, 19, 20, 56] rfl rfl rfl rfl rfl rfl rfl rfl (.inr (.inl hv1)) rfl (by rw [hc1, bytL_len, ← hl1]; exact (Nat.mul_one _).symm) (by decide) (appSrc_row (g := ⟨true, [.int .u8 (.v x)], none⟩) rfl rfl rfl rfl) (appOk_ok (by decide) rfl rfl rfl (by show (2 * (l1 + 1) + 256) * 1 ≤ _; omega) (by omega)) rfl rfl rfl (by repeat first | exact trivial | refine ⟨rfl, ?_⟩ | refine ⟨by assumption, ?_⟩) ⟨.inl rfl, .inr rfl, trivial⟩ (by rw [hc1, ← bytL_snoc]; exact bytL_frr) rfl ?_
        obtain ⟨c2, hc2⟩ : ∃ c, c = c1 ++ [.int .u8 (.v x)] := ⟨_, rfl⟩
        have hc2b : c2 = bytL (O1 ++ [x]) := by rw [hc2, hc1, bytL_snoc]
        have hc2d : ∀ m, c2.all (bd m) = true := fun m => by rw [hc2b]; exact bytL_bd
        show X (mkE Tryz.prog Tryz.f93 Q w (InR [] []) (elsewhere [] [] w) (fun _ _ => False) (fun _ => True) [] B93) _ ⟨_, [⟨true, c1 ++ [.int .u8 (.v x)], none⟩, ⟨true, [.int .u8 (.v x)], none⟩]⟩
        rw [← hc2]
        refine X.go T93_ok 400 _ rfl Tryz.results93 ?_
        conv => arg 2; cbv
        refine X.back (fun N ac w' hN hf hS => hq2 ⟨i + 1, hlti⟩ ac w' (by simp only; omega) ?_)
        show At (mkE Tryz.prog Tryz.f93 Q w (InR [] []) (elsewhere [] [] w) (fun _ _ => False) (fun _ => True) [] B93) ⟨[(0, .val (.slv p m c)), (2, .val (.int .i64 (.v many))), (7, .val (.int .u64 (.v kh))), (8, .val (eV 0 ((L.take (i + 1)).foldl (kstep kh many tb) O0).length 1)), (9, .val (.int .i64 (.nat t))), (19, .val (.int .i64 (.nat m))), (20, .val (.int .i64 (.nat (i + 1))))], [⟨true, bytL ((L.take (i + 1)).foldl (kstep kh many tb) O0), none⟩]⟩ ac w'
        rw [hst, hstp, ← hc2b, List.length_append, ← hl1]
        exact At.again hf hS (by repeat first | exact trivial | refine ⟨⟨_, rfl, .inl ⟨rfl, by first | rfl | assumption⟩⟩, ?_⟩ | refine ⟨⟨_, rfl, .inr ⟨_, rfl, rfl⟩⟩, ?_⟩ | refine ⟨⟨_, rfl, .inr ⟨_, rfl, by simp (disch := omega) [SV.den, SI.den, wrapU, wrapD] <;> omega⟩⟩, ?_⟩ | refine ⟨⟨_, rfl, .inr ⟨_, rfl, by simp [SV.den, SI.den, IntKind.wrap, IntKind.bits, IntKind.signed] <;> omega⟩⟩, ?_⟩) ⟨fun h => h, SubC.refl (hc2d _), rfl, trivial⟩
      · simp only [SB.T, SB.F, SB.den, SI.den] at hF
        have hstp : kstep kh many tb O1 y = O1 := by
          unfold kstep kst
          rw [← hh1, ← hx]
          rcases hF with (h | h) | h
          · have h' : ¬ (kh ≤ h1 ↔ t = 0) := fun e => h (Bool.eq_iff_iff.2 (decide_eq_true_iff.trans (e.trans (by simp))))
            rw [if_neg (by rw [htb, beq_iff_eq]; exact fun e => h' (decide_eq_decide.1 e))]
          · rw [if_neg (c := (decide ((O1.length : Int) < many) && !decide (x ∈ O1)) = true) (by simp; omega)]
            split <;> rfl
          · rw [if_neg (c := (decide ((O1.length : Int) < many) && !decide (x ∈ O1)) = true) (by rw [hhb] at h; simp at h; simp [h])]
            split <;> rfl
        refine X.go T93_ok 400 _ rfl Tryz.results93 ?_
        conv => arg 2; cbv
        refine X.back (fun N ac w' hN hf hS => hq2 ⟨i + 1, hlti⟩ ac w' (by simp only; omega) ?_)
        show At (mkE Tryz.prog Tryz.f93 Q w (InR [] []) (elsewhere [] [] w) (fun _ _ => False) (fun _ => True) [] B93) ⟨[(0, .val (.slv p m c)), (2, .val (.int .i64 (.v many))), (7, .val (.int .u64 (.v kh))), (8, .val (eV 0 ((L.take (i + 1)).foldl (kstep kh many tb) O0).length 1)), (9, .val (.int .i64 (.nat t))), (19, .val (.int .i64 (.nat m))), (20, .val (.int .i64 (.nat (i + 1))))], [⟨true, bytL ((L.take (i + 1)).foldl (kstep kh many tb) O0), none⟩]⟩ ac w'
        rw [hst, hstp, ← hl1, ← hv1, ← hc1]
        exact At.again hf hS (by repeat first | exact trivial | refine ⟨⟨_, rfl, .inl ⟨rfl, by first | rfl | assumption⟩⟩, ?_⟩ | refine ⟨⟨_, rfl, .inr ⟨_, rfl, rfl⟩⟩, ?_⟩ | refine ⟨⟨_, rfl, .inr ⟨_, rfl, by simp (disch := omega) [SV.den, SI.den, wrapU, wrapD] <;> omega⟩⟩, ?_⟩ | refine ⟨⟨_, rfl, .inr ⟨_, rfl, by simp [SV.den, SI.den, IntKind.wrap, IntKind.bits, IntKind.signed] <;> omega⟩⟩, ?_⟩) ⟨fun h => h, SubC.refl (hc1b _), rfl, trivial⟩
    · simp only [SB.F, SI.den] at hgei
      have hall : L.take i = L := List.take_of_length_le (by omega)
      refine X.go T93_ok 400 _ rfl Tryz.results93 ?_
      conv => arg 2; cbv
      refine X.back (fun N ac w' hN hf hS => hq ⟨t + 1, by omega⟩ ac w' (by simp only; omega) ?_)
      show At (mkE Tryz.prog Tryz.f93 Q w (InR [] []) (elsewhere [] [] w) (fun _ _ => False) (fun _ => True) [] B93) ⟨[(0, .val (.slv p m c)), (2, .val (.int .i64 (.v many))), (7, .val (.int .u64 (.v kh))), (8, .val (eV 0 (kturn L kh many (t + 1)).length 1)), (9, .val (.int .i64 (.nat (t + 1))))], [⟨true, bytL (kturn L kh many (t + 1)), none⟩]⟩ ac w'
      rw [← hnext, ← hall, ← hO1, ← hl1, ← hv1, ← hc1]
      exact At.again hf hS (by repeat first | exact trivial | refine ⟨⟨_, rfl, .inl ⟨rfl, by first | rfl | assumption⟩⟩, ?_⟩ | refine ⟨⟨_, rfl, .inr ⟨_, rfl, rfl⟩⟩, ?_⟩ | refine ⟨⟨_, rfl, .inr ⟨_, rfl, by simp (disch := omega) [SV.den, SI.den, wrapU, wrapD] <;> omega⟩⟩, ?_⟩ | refine ⟨⟨_, rfl, .inr ⟨_, rfl, by simp [SV.den, SI.den, IntKind.wrap, IntKind.bits, IntKind.signed] <;> omega⟩⟩, ?_⟩) ⟨fun h => h, SubC.refl (hc1b _), rfl, trivial⟩
  · simp only [SB.F, SI.den] at hge
    have ht2 : t = 2 := by omega
    have hOF : O0 = F := by rw [hO0, ht2, hFk]
    refine X.go T93_ok 400 _ rfl Tryz.results93 ?_
    conv => arg 2; cbv
    refine X.done T93_ok rfl (fun N w' v hN hS hv => ?_)
    rw [hQ, ← hOF, ← hc0]
    exact roR_of hS (r := 0) (z := 1) rfl (fun c hc N N' v h => bytL_den (by rw [← hc0]; exact hc) h) (by rw [← hv0]; exact hv)
end Go.Proofs.YthaffebapmkppaaGreat

namespace Go.Proofs.YthaffebapmkppaaGreat
open Go Go.Eng Go.Sort
theorem RoR.pts {L : List (Int × Int)} {n : Nat} {w w' : World} {e : Ending} (h : RoR (ptsL L) n w e w') : ∃ b o c, e = .returned (.slice (some ⟨b, o, none⟩) n c) ∧ (0 < L.length → w.heap.size ≤ b) ∧ PtIn b o L w' ∧ Chg (fun _ _ => False) w w' := by
  obtain ⟨b, o, c, h1, h2, _, h4, h5⟩ := h
  refine ⟨b, o, c, h1, fun h0 => h2 (by rw [ptsL_len]; omega), fun j hj => ?_, h5⟩
  obtain ⟨r1, r2⟩ := ptsL_row L j hj
  obtain ⟨v1, a1, a2⟩ := h4 _ _ r1
  obtain ⟨v2, b1, b2⟩ := h4 _ _ r2
  have a1 := a1 []
  have b1 := b1 []
  simp only [SV.den, SI.den, Option.some.injEq] at a1 b1
  exact ⟨by rw [a2, ← a1], by rw [Nat.add_assoc, b2, ← b1]⟩
theorem RoR.byt {l : List Int} {n : Nat} {w w' : World} {e : Ending} (h : RoR (bytL l) n w e w') : ∃ b o c, e = .returned (.slice (some ⟨b, o, none⟩) n c) ∧ (0 < l.length → w.heap.size ≤ b) ∧ (∀ j, j < l.length → w'.cell? ⟨b, o + j, none⟩ = some (.int .u8 l[j]!)) ∧ Chg (fun _ _ => False) w w' := by
  obtain ⟨b, o, c, h1, h2, _, h4, h5⟩ := h
  refine ⟨b, o, c, h1, fun h0 => h2 (by rw [bytL_len]; omega), fun j hj => ?_, h5⟩
  obtain ⟨v1, a1, a2⟩ := h4 j (.int .u8 (.v l[j]!)) (by simp [bytL, hj])
  have a1 := a1 []
  simp only [SV.den, SI.den, Option.some.injEq] at a1
  rw [a2, ← a1]
def asc (l : List Int) (k : Nat) : List Int := ((List.range k).filter fun x : Nat => decide ((x : Int) ∈ l)).map fun x : Nat => (x : Int)
theorem asc_succ (l : List Int) (k : Nat) : asc l (k + 1) = if (k : Int) ∈ l then asc l k ++ [(k : Int)] else asc l k := by
  unfold asc
  rw [List.range_succ, List.filter_append, List.map_append]
  by_cases h : (k : Int) ∈ l
  · rw [if_pos h]
    simp [h]
  · rw [if_neg h]
    simp [h]
theorem asc_len (l : List Int) (k : Nat) : (asc l k).length ≤ k := by
  unfold asc
  rw [List.length_map]
  exact Nat.le_trans (List.length_filter_le _ _) (by simp)
theorem asc_lt (l : List Int) (k : Nat) : (asc l k).Pairwise (· < ·) := by
  unfold asc
  refine List.pairwise_map.2 (List.Pairwise.filter _ ?_)
  exact List.pairwise_lt_range.imp fun h => by omega
theorem asc_mem {l : List Int} (hl : ∀ x ∈ l, 0 ≤ x ∧ x < 256) (y : Int) : y ∈ asc l 256 ↔ y ∈ l := by
  unfold asc
  simp only [List.mem_map, List.mem_filter, List.mem_range, decide_eq_true_eq]
  constructor
  · rintro ⟨a, ⟨_, h⟩, rfl⟩
    exact h
  · intro h
    have := hl y h
    exact ⟨y.toNat, ⟨by omega, by rw [Int.toNat_of_nonneg this.1]; exact h⟩, Int.toNat_of_nonneg this.1⟩
theorem keepL_nodup {L : List (Int × Int)} (h : Rise L) (key many : Int) : (keepL L key many).Nodup := by
  rw [keepL_eq h]
  exact (dd_nodup _ _ List.nodup_nil).sublist (List.take_sublist _ _)
theorem ofL_lt (d : Array Int) (key : Int) : (ofL d key).Pairwise (· < ·) := by
  have hnd : (ofL d key).Nodup := (ofL_perm d key).nodup_iff.2 (keepL_nodup (ringP_rise d) key 3)
  obtain ⟨a, ha⟩ : ∃ a, a = srtA (keepL (ringP d) key 3).toArray := ⟨_, rfl⟩
  have hle := srtA_le (keepL (ringP d) key 3).toArray
  have e : ofL d key = a.toList := by rw [ha]; rfl
  rw [← ha] at hle
  rw [e] at hnd ⊢
  refine List.pairwise_iff_getElem.2 fun i j hi hj hij => ?_
  have h1 := hle i j (by omega) (by simpa using hj)
  rw [getElem!_pos a i (by simpa using hi), getElem!_pos a j (by simpa using hj)] at h1
  have h2 := List.pairwise_iff_getElem.1 hnd i j hi hj hij
  simp only [Array.getElem_toList] at h2 ⊢
  omega
theorem asc_ofL {d : Array Int} (hd : ∀ x ∈ d.toList, 0 ≤ x ∧ x < 256) (key : Int) : asc (keepL (ringP d) key 3) 256 = ofL d key := by
  have hb : ∀ x ∈ keepL (ringP d) key 3, 0 ≤ x ∧ x < 256 := fun x hx => by
    rw [keepL_eq (ringP_rise d)] at hx
    have := List.mem_of_mem_take hx
    rw [dd_mem] at this
    rcases this with h | h
    · cases h
    · exact hd x ((nodes_mem d _ x).1 h)
  refine lt_eq (asc_lt _ _) (ofL_lt d key) fun y => ?_
  rw [asc_mem hb, (ofL_perm d key).mem_iff]
set_option maxHeartbeats 8000000 in
set_option maxRecDepth 100000 in
set_option cbv.maxSteps 100000000 in
theorem of9_ok (po : Option Addr) (n cp : Nat) (d : Array Int) (key : Int) (w : World) (hle : n ≤ 100) (hIn : InB po n d w) (hd : ∀ x ∈ d.toList, 0 ≤ x ∧ x < 256) :
    Calls Tryz.prog 64 #[.slice po n cp, .int .u8 key] w (RoR (bytL (ofL d key)) (ofL d key).length w) := by
  have hn := hIn.1
  obtain ⟨F, hF⟩ : ∃ F, F = ofL d key := ⟨_, rfl⟩
  obtain ⟨Q, hQ⟩ : ∃ Q : Ending → World → Prop, Q = RoR (bytL F) F.length w := ⟨_, rfl⟩
  rw [← hF, ← hQ]
  refine X.begin (rg := []) (N := []) (ss := [.slv po n cp, .int .u8 (.v key)]) Tryz.func64 rfl B64_ok rfl rfl Sat.std0 ?_
  refine X.go T64_ok 400 _ rfl Tryz.results64 ?_
  conv => arg 2; cbv
  refine X.call rfl rfl rfl rfl Tryz.call94 (fun N w1 args hN hS ha => ?_)
  have ha : args = [.slice po n cp] := (Option.some.inj ha).symm
  rw [ha]
  refine (build9_ok po n cp d w1 hle (hIn.stays hS.chg.none)).mono fun e w2 hr => ?_
  obtain ⟨b1, o1, c1, he, hfr, hpt, hch⟩ := hr.pts
  obtain ⟨L, hL⟩ : ∃ L, L = ringP d := ⟨_, rfl⟩
  obtain ⟨m, hm⟩ : ∃ m, m = L.length := ⟨_, rfl⟩
  have hm8 : m ≤ 8000 := by rw [hm, hL]; have := ringP_len d; omega
  rw [← hL] at hfr hpt he
  rw [← hm] at he hfr
  obtain ⟨p1, hp1⟩ : ∃ p, p = some (Addr.mk b1 o1 none) := ⟨_, rfl⟩
  rw [← hp1] at he
  refine ⟨_, he, Goes.newMem hN hS hch (r := .slv p1 m c1) rfl rfl (fun hold hnew => ?_)⟩
  obtain ⟨im, him⟩ : ∃ im, im = imNew (elsewhere [] [] w) w1 w2 := ⟨_, rfl⟩
  have hpi : ∀ j, j < L.length → im b1 (o1 + j * 2) = some (.int .u64 L[j]!.1) ∧ im b1 (o1 + j * 2 + 1) = some (.int .u8 L[j]!.2) := fun j hj => by
    rw [him]
    exact ⟨hnew _ _ _ (hfr (by omega)) (hpt j hj).1, hnew _ _ _ (hfr (by omega)) (hpt j hj).2⟩
  show X (mkE Tryz.prog Tryz.f64 Q w (InR [] []) (imNew (elsewhere [] [] w) w1 w2) (fun _ _ => False) (fun _ => True) [] B64) _ _
  rw [← him]
  clear him hold hnew hr hch he ha hS hN hpt hfr
  refine X.go T64_ok 400 _ rfl Tryz.results64 ?_
  conv => arg 2; cbv
  refine X.call rfl rfl rfl rfl Tryz.call93 (fun N w3 args hN hS ha => ?_)
  have ha : args = [.slice p1 m c1, .int .u8 key, .int .i64 3] := (Option.some.inj ha).symm
  rw [ha]
  refine (keepers9_ok b1 o1 m c1 p1 L key 3 w3 (fun _ => hp1) hm.symm hm8 (fun j hj => ⟨hS.imm _ _ _ (hpi j hj).1, hS.imm _ _ _ (hpi j hj).2⟩) (by rw [hL]; exact ringP_rise d)).mono fun e w4 hr => ?_
  obtain ⟨b2, o2, c2, he, hfr, hpt, hch⟩ := hr.byt
  obtain ⟨l, hl⟩ : ∃ l, l = keepL L key 3 := ⟨_, rfl⟩
  obtain ⟨q, hq⟩ : ∃ q, q = l.length := ⟨_, rfl⟩
  have hq8 : q ≤ 8000 := by have := keepL_len L key 3; rw [← hl] at this; omega
  rw [← hl] at hfr hpt he
  rw [← hq] at he hfr
  obtain ⟨p2, hp2⟩ : ∃ p, p = some (Addr.mk b2 o2 none) := ⟨_, rfl⟩
  rw [← hp2] at he
  refine ⟨_, he, Goes.newMem hN hS hch (r := .slv p2 q c2) rfl rfl (fun hold hnew => ?_)⟩
  obtain ⟨im2, him2⟩ : ∃ im2, im2 = imNew im w3 w4 := ⟨_, rfl⟩
  have hli : ∀ j, j < l.length → im2 b2 (o2 + j) = some (.int .u8 l[j]!) := fun j hj => by
    rw [him2]
    exact hnew _ _ _ (hfr (by omega)) (hpt j hj)
  have hFa : asc l 256 = F := by rw [hl, hL, hF]; exact asc_ofL hd key
  show X (mkE Tryz.prog Tryz.f64 Q w (InR [] []) (imNew im w3 w4) (fun _ _ => False) (fun _ => True) [] B64) _ _
  rw [← him2]
  clear him2 hold hnew hr hch he ha hS hN hpt hfr
  refine X.go T64_ok 400 _ rfl Tryz.results64 ?_
  conv => arg 2; cbv
  refine X.loop (fun _ : {k : Nat // k ≤ 256} => mkE Tryz.prog Tryz.f64 Q w (InR [] []) im2 (fun _ _ => False) (fun _ => True) [] B64)
    (fun g => ⟨[(5, .val (.slv p2 q c2)), (6, .val (eV 0 (asc l g.1).length 1)), (7, .val (.int .i64 (.nat g.1)))], [⟨true, bytL (asc l g.1), none⟩]⟩) (fun g => 256 - g.1) (fun _ => ⟨rfl, rfl, rfl, rfl⟩) (fun N ac w' hN hf hS => ⟨⟨0, Nat.zero_le _⟩, ?_⟩) (fun g qq hqq => ?_)
  · exact At.again hf hS (by repeat first | exact trivial | refine ⟨⟨_, rfl, .inl ⟨rfl, by first | rfl | assumption⟩⟩, ?_⟩ | refine ⟨⟨_, rfl, .inr ⟨_, rfl, rfl⟩⟩, ?_⟩ | refine ⟨⟨_, rfl, .inr ⟨_, rfl, by simp (disch := omega) [SV.den, SI.den, wrapU, wrapD] <;> omega⟩⟩, ?_⟩ | refine ⟨⟨_, rfl, .inr ⟨_, rfl, by simp [SV.den, SI.den, IntKind.wrap, IntKind.bits, IntKind.signed] <;> omega⟩⟩, ?_⟩) ⟨fun h => h, trivial, rfl, trivial⟩
  obtain ⟨k, hk⟩ := g
  obtain ⟨A, hA⟩ : ∃ A, A = asc l k := ⟨_, rfl⟩
  obtain ⟨la, hla⟩ : ∃ m, m = A.length := ⟨_, rfl⟩
  have hla8 : la ≤ 256 := by have := asc_len l k; rw [← hA, ← hla] at this; omega
  obtain ⟨va, hva⟩ : ∃ v, v = eV 0 la 1 := ⟨_, rfl⟩
  obtain ⟨ca, hca⟩ : ∃ v, v = bytL A := ⟨_, rfl⟩
  have hvab : bd 1 va = true := by rw [hva]; exact eV_bd (by decide)
  have hcab : ∀ m, ca.all (bd m) = true := fun m => by rw [hca]; exact bytL_bd
  show X (mkE Tryz.prog Tryz.f64 Q w (InR [] []) im2 (fun _ _ => False) (fun _ => True) [] B64) _ ⟨[(5, .val (.slv p2 q c2)), (6, .val (eV 0 (asc l k).length 1)), (7, .val (.int .i64 (.nat k)))], [⟨true, bytL (asc l k), none⟩]⟩
  rw [← hA, ← hla, ← hva, ← hca]
  refine X.go T64_ok 400 _ rfl Tryz.results64 ?_
  conv => arg 2; cbv
  refine X.cond rfl (fun hlt => ?_) (fun hge => ?_)
  · simp only [SB.T, SI.den] at hlt
    have hlt : k < 256 := by omega
    obtain ⟨hb, hhb⟩ : ∃ b, b = decide ((k : Int) ∈ l) := ⟨_, rfl⟩
    have hsn := asc_succ l k
    rw [← hA] at hsn
    refine X.goP ([(20, .bool (.v hb))]) T64_ok 400 _ rfl Tryz.results64 (fun pr fin hpr hfin => ?_)
    conv => cbv
    refine ⟨hpr _ (.of Tryz.call95 [.slice p2 q c2, .int .u8 k] (.bool hb) (fun _ => by simp only [SV.denL, SV.den, SI.den, wrapP hlt]) (fun _ => rfl) fun _ w1 him => by
      rw [hhb]
      exact has9_ok p2 q c2 l.toArray k w1 (by omega) ⟨by simp [hq], fun _ => ⟨b2, o2, hp2, fun j hj => by
        have := him _ _ _ (hli j (by simpa using hj))
        simpa [show j < l.length by simpa using hj] using this⟩⟩), hfin _ _ ?_⟩
    refine X.cond rfl (fun hT => ?_) (fun hF' => ?_)
    · simp only [SB.T] at hT
      have hm : (k : Int) ∈ l := by rw [hhb] at hT; exact of_decide_eq_true hT
      rw [if_pos hm] at hsn
      refine X.go T64_ok 5 _ rfl Tryz.results64 ?_
      conv => arg 2; cbv
      refine X.appG (T := T64) (te := ti5) (r := 0) (n := la) (m := 1) (cs := ca) (new := [.int .u8 (.wrap .u8 (.nat k))]) T64_ok rfl [5, 7, 25] rfl rfl rfl rfl rfl rfl rfl rfl (.inr (.inl hva)) rfl (by rw [hca, bytL_len, ← hla]; exact (Nat.mul_one _).symm) (by decide) (appSrc_row (g := ⟨true, [.int .u8 (.wrap .u8 (.nat k))], none⟩) rfl rfl rfl rfl) (appOk_ok (by decide) rfl rfl rfl (by show (2 * (la + 1) + 256) * 1 ≤ _; omega) (by omega)) rfl rfl rfl (by repeat first | exact trivial | refine ⟨rfl, ?_⟩ | refine ⟨by assumption, ?_⟩) ⟨.inl rfl, .inr rfl, trivial⟩ (by rw [List.all_append, hca, bytL_frr]; rfl) rfl ?_
      refine X.recell 0 ⟨true, ca ++ [.int .u8 (.wrap .u8 (.nat k))], none⟩ (bytL (A ++ [(k : Int)])) rfl (by rw [hca, bytL_snoc]; simp) (fun N _ j x x' h1 h2 v hv => ?_) ?_
      · rw [bytL_snoc, ← hca] at h2
        simp only at h1
        rcases Nat.lt_or_ge j ca.length with hj | hj
        · rw [List.getElem?_append_left hj] at h1 h2
          rw [h1] at h2
          cases h2
          exact hv
        · rw [List.getElem?_append_right hj] at h1 h2
          obtain ⟨z, hz⟩ : ∃ z, z = j - ca.length := ⟨_, rfl⟩
          rw [← hz] at h1 h2
          match z, h1, h2 with
          | 0, h1, h2 =>
            obtain rfl := (Option.some.inj h1).symm
            obtain rfl := (Option.some.inj h2).symm
            rw [← hv]
            simp only [SV.den, SI.den, wrapP hlt]
          | z + 1, h1, h2 => simp at h1
      obtain ⟨c3, hc3⟩ : ∃ c, c = bytL (A ++ [(k : Int)]) := ⟨_, rfl⟩
      have hc3d : ∀ m, c3.all (bd m) = true := fun m => by rw [hc3]; exact bytL_bd
      show X (mkE Tryz.prog Tryz.f64 Q w (InR [] []) im2 (fun _ _ => False) (fun _ => True) [] B64) _ ⟨_, [⟨true, bytL (A ++ [(k : Int)]), none⟩, ⟨true, [.int .u8 (.wrap .u8 (.nat k))], none⟩]⟩
      rw [← hc3]
      refine X.go T64_ok 400 _ rfl Tryz.results64 ?_
      conv => arg 2; cbv
      refine X.back (fun N ac w' hN hf hS => hqq ⟨k + 1, hlt⟩ ac w' (by simp only; omega) ?_)
      show At (mkE Tryz.prog Tryz.f64 Q w (InR [] []) im2 (fun _ _ => False) (fun _ => True) [] B64) ⟨[(5, .val (.slv p2 q c2)), (6, .val (eV 0 (asc l (k + 1)).length 1)), (7, .val (.int .i64 (.nat (k + 1))))], [⟨true, bytL (asc l (k + 1)), none⟩]⟩ ac w'
      rw [hsn, ← hc3, List.length_append, ← hla]
      exact At.again hf hS (by repeat first | exact trivial | refine ⟨⟨_, rfl, .inl ⟨rfl, by first | rfl | assumption⟩⟩, ?_⟩ | refine ⟨⟨_, rfl, .inr ⟨_, rfl, rfl⟩⟩, ?_⟩ | refine ⟨⟨_, rfl, .inr ⟨_, rfl, by simp (disch := omega) [SV.den, SI.den, wrapU, wrapD] <;> omega⟩⟩, ?_⟩ | refine ⟨⟨_, rfl, .inr ⟨_, rfl, by simp [SV.den, SI.den, IntKind.wrap, IntKind.bits, IntKind.signed] <;> omega⟩⟩, ?_⟩) ⟨fun h => h, SubC.refl (hc3d _), rfl, trivial⟩
    · simp only [SB.F] at hF'
      have hm : ¬ (k : Int) ∈ l := by rw [hhb] at hF'; exact of_decide_eq_false hF'
      rw [if_neg hm] at hsn
      refine X.go T64_ok 400 _ rfl Tryz.results64 ?_
      conv => arg 2; cbv
      refine X.back (fun N ac w' hN hf hS => hqq ⟨k + 1, hlt⟩ ac w' (by simp only; omega) ?_)
      show At (mkE Tryz.prog Tryz.f64 Q w (InR [] []) im2 (fun _ _ => False) (fun _ => True) [] B64) ⟨[(5, .val (.slv p2 q c2)), (6, .val (eV 0 (asc l (k + 1)).length 1)), (7, .val (.int .i64 (.nat (k + 1))))], [⟨true, bytL (asc l (k + 1)), none⟩]⟩ ac w'
      rw [hsn, ← hla, ← hva, ← hca]
      exact At.again hf hS (by repeat first | exact trivial | refine ⟨⟨_, rfl, .inl ⟨rfl, by first | rfl | assumption⟩⟩, ?_⟩ | refine ⟨⟨_, rfl, .inr ⟨_, rfl, rfl⟩⟩, ?_⟩ | refine ⟨⟨_, rfl, .inr ⟨_, rfl, by simp (disch := omega) [SV.den, SI.den, wrapU, wrapD] <;> omega⟩⟩, ?_⟩ | refine ⟨⟨_, rfl, .inr ⟨_, rfl, by simp [SV.den, SI.den, IntKind.wrap, IntKind.bits, IntKind.signed] <;> omega⟩⟩, ?_⟩) ⟨fun h => h, SubC.refl (hcab _), rfl, trivial⟩
  · simp only [SB.F, SI.den] at hge
    have hk2 : k = 256 := by omega
    have hAF : A = F := by rw [hA, hk2, hFa]
    refine X.go T64_ok 400 _ rfl Tryz.results64 ?_
    conv => arg 2; cbv
    refine X.done T64_ok rfl (fun N w' v hN hS hv => ?_)
    rw [hQ, ← hAF, ← hca]
    exact roR_of hS (r := 0) (z := 1) rfl (fun c hc N N' v h => bytL_den (by rw [← hca]; exact hc) h) (by rw [← hla, ← hva]; exact hv)
def mayP (d : Array Int) (k : Nat) : Prop := ∀ i, i < k → d[i]! < 64 ∧ (0 < i → d[i - 1]! < d[i]!)
theorem mayP_succ {d : Array Int} {k : Nat} : mayP d (k + 1) ↔ mayP d k ∧ d[k]! < 64 ∧ (0 < k → d[k - 1]! < d[k]!) := by
  constructor
  · exact fun h => ⟨fun i hi => h i (by omega), h k (by omega)⟩
  · rintro ⟨h1, h2⟩ i hi
    rcases Nat.lt_or_ge i k with h | h
    · exact h1 i h
    · have : i = k := by omega
      subst this
      exact h2
theorem mayP_mono {d : Array Int} {j k : Nat} (h : mayP d k) (hj : j ≤ k) : mayP d j := fun i hi => h i (by omega)
set_option maxHeartbeats 8000000 in
set_option maxRecDepth 100000 in
set_option cbv.maxSteps 100000000 in
theorem may_ok (p : Option Addr) (n c : Nat) (d : Array Int) (w : World) (hle : n ≤ 100000) (hA : InB p n d w) : Calls Tryz.prog 60 #[.slice p n c] w fun e w' => e = .returned (.bool (B (mayP d n))) ∧ Chg (fun _ _ => False) w w' := by
  have hn := hA.1
  obtain ⟨Q, hQ⟩ : ∃ Q : Ending → World → Prop, Q = fun e w' => e = .returned (.bool (B (mayP d n))) ∧ Chg (fun _ _ => False) w w' := ⟨_, rfl⟩
  rw [← hQ]
  refine X.begin (rg := []) (N := []) (ss := [.slv p n c]) Tryz.func60 rfl B60_ok rfl rfl Sat.std0 ?_
  refine X.go T60_ok 400 _ rfl Tryz.results60 ?_
  conv => arg 2; cbv
  refine X.loop (fun _ : {i : Nat // i ≤ n ∧ mayP d i} => mkE Tryz.prog Tryz.f60 Q w (InR [] []) (elsewhere [] [] w) (fun _ _ => False) (fun _ => True) [] B60)
    (fun g => ⟨[(0, .val (.slv p n c)), (5, .val (.slv p n c)), (6, .val (.int .i64 (.nat n))), (7, .val (.int .i64 (.nat g.1)))], []⟩) (fun g => n - g.1) (fun _ => ⟨rfl, rfl, rfl, rfl⟩) (fun N ac w' hN hf hS => ⟨⟨0, Nat.zero_le _, fun i hi => absurd hi (Nat.not_lt_zero i)⟩, ?_⟩) (fun g q hq => ?_)
  · exact At.again hf hS (by repeat first | exact trivial | refine ⟨⟨_, rfl, .inl ⟨rfl, rfl⟩⟩, ?_⟩ | refine ⟨⟨_, rfl, .inr ⟨_, rfl, rfl⟩⟩, ?_⟩ | refine ⟨⟨_, rfl, .inr ⟨_, rfl, by simp (disch := omega) [SV.den, SI.den, wrapU, wrapD] <;> omega⟩⟩, ?_⟩) trivial
  obtain ⟨i, hi, hmay⟩ := g
  show X (mkE Tryz.prog Tryz.f60 Q w (InR [] []) (elsewhere [] [] w) (fun _ _ => False) (fun _ => True) [] B60) _ ⟨[(0, .val (.slv p n c)), (5, .val (.slv p n c)), (6, .val (.int .i64 (.nat n))), (7, .val (.int .i64 (.nat i)))], []⟩
  refine X.go T60_ok 400 _ rfl Tryz.results60 ?_
  conv => arg 2; cbv
  refine X.cond rfl (fun hlt => ?_) (fun hge => ?_)
  · simp only [SB.T, SI.den] at hlt
    have hlt : i < n := by omega
    obtain ⟨b, y, hp, hd⟩ := hA.2 (by omega)
    obtain ⟨x, hx⟩ : ∃ x, x = d[i]! := ⟨_, rfl⟩
    obtain ⟨oi, hoi⟩ : ∃ o, o = y + i := ⟨_, rfl⟩
    obtain ⟨j, hj⟩ : ∃ j, j = i - 1 := ⟨_, rfl⟩
    obtain ⟨x', hx'⟩ : ∃ x, x = d[j]! := ⟨_, rfl⟩
    obtain ⟨oj, hoj⟩ : ∃ o, o = y + j := ⟨_, rfl⟩
    have hix : elsewhere [] [] w b (oi + 0) = some (.int .u8 x) := by rw [Nat.add_zero, els_old, hoi, hx]; exact hd i (by omega)
    have hjx : elsewhere [] [] w b (oj + 0) = some (.int .u8 x') := by rw [Nat.add_zero, els_old, hoj, hx']; exact hd j (by omega)
    have hms := mayP_succ (d := d) (k := i)
    rw [← hj, ← hx, ← hx'] at hms
    have hjz : ∀ s : SB, s.den = true → s = .gt (.nat i) (.lit 0) → IntKind.i64.wrap ((i : Int) - 1) = (j : Int) := fun s h1 h2 => by
      subst h2
      have : 0 < i := by have := (SB.TF _).1.1 h1; simp only [SB.T, SI.den] at this; omega
      rw [wrapN _ (by omega) (by omega)]
      omega
    refine X.goP ([(10, .ext b oi 0), (11, .int .u8 (.v x)), (22, .ext b oj 0), (23, .int .u8 (.v x'))]) T60_ok 400 _ rfl Tryz.results60 (fun pr fin hpr hfin => ?_)
    conv => cbv
    refine ⟨hpr _ (ValOk.im1 rfl Tryz.isAgg5 (fun _ => rfl) fun _ => hjx), hpr _ (ValOk.at (z := j) rfl rfl (fun hT => by exact hjz _ hT rfl) Tryz.underlying23 Tryz.sizeOf5 (fun _ => by omega) hp (by omega)), hpr _ (ValOk.im1 rfl Tryz.isAgg5 (fun _ => rfl) fun _ => hix), hpr _ (ValOk.at (z := i) rfl rfl (fun _ => rfl) Tryz.underlying23 Tryz.sizeOf5 (fun _ => hlt) hp (by omega)), hfin _ _ ?_⟩
    refine X.cond rfl (fun hT => ?_) (fun hF => ?_)
    · simp only [SB.T, SB.F, SI.den] at hT
      have hno : ¬ mayP d n := fun h => by
        have h1 := hms.1 (mayP_mono h hlt)
        rcases hT with h2 | ⟨h2, h3⟩
        · omega
        · have := h1.2.2 (by omega)
          omega
      refine X.go T60_ok 400 _ rfl Tryz.results60 ?_
      conv => arg 2; cbv
      refine X.done T60_ok rfl (fun N w' v hN hS hv => ?_)
      rw [hQ]
      exact ⟨fin_bool hv (by rw [B_neg hno]; rfl), hS.chg.none⟩
    · simp only [SB.T, SB.F, SI.den] at hF
      have hyes : mayP d (i + 1) := hms.2 ⟨hmay, by omega, fun h => by rcases hF.2 with h2 | h2 <;> omega⟩
      refine X.go T60_ok 400 _ rfl Tryz.results60 ?_
      conv => arg 2; cbv
      refine X.back (fun N ac w' hN hf hS => hq ⟨i + 1, hlt, hyes⟩ ac w' (by simp only; omega) ?_)
      exact At.again hf hS (by repeat first | exact trivial | refine ⟨⟨_, rfl, .inl ⟨rfl, rfl⟩⟩, ?_⟩ | refine ⟨⟨_, rfl, .inr ⟨_, rfl, rfl⟩⟩, ?_⟩ | refine ⟨⟨_, rfl, .inr ⟨_, rfl, by simp (disch := omega) [SV.den, SI.den, wrapU, wrapD] <;> omega⟩⟩, ?_⟩) trivial
  · simp only [SB.F, SI.den] at hge
    have hin : i = n := by omega
    subst hin
    refine X.go T60_ok 400 _ rfl Tryz.results60 ?_
    conv => arg 2; cbv
    refine X.done T60_ok rfl (fun N w' v hN hS hv => ?_)
    rw [hQ]
    exact ⟨fin_bool hv (by rw [B_pos hmay]; rfl), hS.chg.none⟩
set_option maxHeartbeats 8000000 in
set_option maxRecDepth 100000 in
set_option cbv.maxSteps 100000000 in
theorem may9_ok (p : Option Addr) (n c : Nat) (d : Array Int) (w : World) (hle : n ≤ 100000) (hA : InB p n d w) : Calls Tryz.prog 30 #[.slice p n c] w fun e w' => e = .returned (.bool (B (mayP d n))) ∧ Chg (fun _ _ => False) w w' := by
  have hn := hA.1
  obtain ⟨Q, hQ⟩ : ∃ Q : Ending → World → Prop, Q = fun e w' => e = .returned (.bool (B (mayP d n))) ∧ Chg (fun _ _ => False) w w' := ⟨_, rfl⟩
  rw [← hQ]
  refine X.begin (rg := []) (N := []) (ss := [.slv p n c]) Tryz.func30 rfl B30_ok rfl rfl Sat.std0 ?_
  refine X.go T30_ok 400 _ rfl Tryz.results30 ?_
  conv => arg 2; cbv
  refine X.loop (fun _ : {i : Nat // i ≤ n ∧ mayP d i} => mkE Tryz.prog Tryz.f30 Q w (InR [] []) (elsewhere [] [] w) (fun _ _ => False) (fun _ => True) [] B30)
    (fun g => ⟨[(0, .val (.slv p n c)), (5, .val (.int .i64 (.nat n))), (6, .val (.int .i64 (.nat g.1)))], []⟩) (fun g => n - g.1) (fun _ => ⟨rfl, rfl, rfl, rfl⟩) (fun N ac w' hN hf hS => ⟨⟨0, Nat.zero_le _, fun i hi => absurd hi (Nat.not_lt_zero i)⟩, ?_⟩) (fun g q hq => ?_)
  · exact At.again hf hS (by repeat first | exact trivial | refine ⟨⟨_, rfl, .inl ⟨rfl, rfl⟩⟩, ?_⟩ | refine ⟨⟨_, rfl, .inr ⟨_, rfl, rfl⟩⟩, ?_⟩ | refine ⟨⟨_, rfl, .inr ⟨_, rfl, by simp (disch := omega) [SV.den, SI.den, wrapU, wrapD] <;> omega⟩⟩, ?_⟩) trivial
  obtain ⟨i, hi, hmay⟩ := g
  show X (mkE Tryz.prog Tryz.f30 Q w (InR [] []) (elsewhere [] [] w) (fun _ _ => False) (fun _ => True) [] B30) _ ⟨[(0, .val (.slv p n c)), (5, .val (.int .i64 (.nat n))), (6, .val (.int .i64 (.nat i)))], []⟩
  refine X.go T30_ok 400 _ rfl Tryz.results30 ?_
  conv => arg 2; cbv
  refine X.cond rfl (fun hlt => ?_) (fun hge => ?_)
  · simp only [SB.T, SI.den] at hlt
    have hlt : i < n := by omega
    obtain ⟨b, y, hp, hd⟩ := hA.2 (by omega)
    obtain ⟨x, hx⟩ : ∃ x, x = d[i]! := ⟨_, rfl⟩
    obtain ⟨oi, hoi⟩ : ∃ o, o = y + i := ⟨_, rfl⟩
    obtain ⟨j, hj⟩ : ∃ j, j = i - 1 := ⟨_, rfl⟩
    obtain ⟨x', hx'⟩ : ∃ x, x = d[j]! := ⟨_, rfl⟩
    obtain ⟨oj, hoj⟩ : ∃ o, o = y + j := ⟨_, rfl⟩
    have hix : elsewhere [] [] w b (oi + 0) = some (.int .u8 x) := by rw [Nat.add_zero, els_old, hoi, hx]; exact hd i (by omega)
    have hjx : elsewhere [] [] w b (oj + 0) = some (.int .u8 x') := by rw [Nat.add_zero, els_old, hoj, hx']; exact hd j (by omega)
    have hms := mayP_succ (d := d) (k := i)
    rw [← hj, ← hx, ← hx'] at hms
    have hjz : ∀ s : SB, s.den = true → s = .gt (.nat i) (.lit 0) → IntKind.i64.wrap ((i : Int) - 1) = (j : Int) := fun s h1 h2 => by
      subst h2
      have : 0 < i := by have := (SB.TF _).1.1 h1; simp only [SB.T, SI.den] at this; omega
      rw [wrapN _ (by omega) (by omega)]
      omega
    refine X.goP ([(11, .ext b oi 0), (12, .int .u8 (.v x)), (21, .ext b oj 0), (22, .int .u8 (.v x')), (25, .ext b oi 0), (26, .int .u8 (.v x))]) T30_ok 400 _ rfl Tryz.results30 (fun pr fin hpr hfin => ?_)
    conv => cbv
    refine ⟨hpr _ (ValOk.im1 rfl Tryz.isAgg5 (fun _ => rfl) fun _ => hix), hpr _ (ValOk.im1 rfl Tryz.isAgg5 (fun _ => rfl) fun _ => hjx), hpr _ (ValOk.at (z := i) rfl rfl (fun _ => rfl) Tryz.underlying23 Tryz.sizeOf5 (fun _ => hlt) hp (by omega)), hpr _ (ValOk.at (z := j) rfl rfl (fun hT => by exact hjz _ hT rfl) Tryz.underlying23 Tryz.sizeOf5 (fun _ => by omega) hp (by omega)), hpr _ (ValOk.im1 rfl Tryz.isAgg5 (fun _ => rfl) fun _ => hix), hpr _ (ValOk.at (z := i) rfl rfl (fun _ => rfl) Tryz.underlying23 Tryz.sizeOf5 (fun _ => hlt) hp (by omega)), hfin _ _ ?_⟩
    refine X.cond rfl (fun hT => ?_) (fun hF => ?_)
    · simp only [SB.T, SB.F, SI.den] at hT
      have hno : ¬ mayP d n := fun h => by
        have h1 := hms.1 (mayP_mono h hlt)
        rcases hT with h2 | ⟨h2, h3⟩
        · omega
        · have := h1.2.2 (by omega)
          omega
      refine X.go T30_ok 400 _ rfl Tryz.results30 ?_
      conv => arg 2; cbv
      refine X.done T30_ok rfl (fun N w' v hN hS hv => ?_)
      rw [hQ]
      exact ⟨fin_bool hv (by rw [B_neg hno]; rfl), hS.chg.none⟩
    · simp only [SB.T, SB.F, SI.den] at hF
      have hyes : mayP d (i + 1) := hms.2 ⟨hmay, by omega, fun h => by rcases hF.2 with h2 | h2 <;> omega⟩
      refine X.go T30_ok 400 _ rfl Tryz.results30 ?_
      conv => arg 2; cbv
      refine X.back (fun N ac w' hN hf hS => hq ⟨i + 1, hlt, hyes⟩ ac w' (by simp only; omega) ?_)
      exact At.again hf hS (by repeat first | exact trivial | refine ⟨⟨_, rfl, .inl ⟨rfl, rfl⟩⟩, ?_⟩ | refine ⟨⟨_, rfl, .inr ⟨_, rfl, rfl⟩⟩, ?_⟩ | refine ⟨⟨_, rfl, .inr ⟨_, rfl, by simp (disch := omega) [SV.den, SI.den, wrapU, wrapD] <;> omega⟩⟩, ?_⟩) trivial
  · simp only [SB.F, SI.den] at hge
    have hin : i = n := by omega
    subst hin
    refine X.go T30_ok 400 _ rfl Tryz.results30 ?_
    conv => arg 2; cbv
    refine X.done T30_ok rfl (fun N w' v hN hS hv => ?_)
    rw [hQ]
    exact ⟨fin_bool hv (by rw [B_pos hmay]; rfl), hS.chg.none⟩
end Go.Proofs.YthaffebapmkppaaGreat

namespace Go.Proofs.YthaffebapmkppaaGreat
open Go Go.Eng
def popN : Nat → Nat → Nat
  | 0, _ => 0
  | n + 1, x => popN n (x / 2) + x % 2
def repB (c : Nat) : Nat → Nat
  | 0 => 0
  | n + 1 => repB c n * 256 + c
def mapB (f : Nat → Nat) : Nat → Nat → Nat
  | 0, _ => 0
  | n + 1, x => mapB f n (x / 256) * 256 + f (x % 256)
theorem and_split (a b c d : Nat) (hb : b < 256) (hd : d < 256) : (a * 256 + b) &&& (c * 256 + d) = (a &&& c) * 256 + (b &&& d) := by
  have h1 : ∀ i, ((a * 256 + b) &&& (c * 256 + d)).testBit i = ((a &&& c) * 256 + (b &&& d)).testBit i := fun i => by
    have e : (256 : Nat) = 2 ^ 8 := by decide
    have hbd : b &&& d < 2 ^ 8 := by rw [← e]; exact Nat.lt_of_le_of_lt Nat.and_le_left hb
    rw [Nat.testBit_and, Nat.mul_comm a, Nat.mul_comm c, Nat.mul_comm (a &&& c), e]
    rw [Nat.testBit_two_pow_mul_add _ (by rw [← e]; exact hb), Nat.testBit_two_pow_mul_add _ (by rw [← e]; exact hd), Nat.testBit_two_pow_mul_add _ hbd]
    split
    · rw [Nat.testBit_and]
    · rw [Nat.testBit_and]
  exact Nat.eq_of_testBit_eq h1
def s1 (b : Nat) : Nat := (b / 2 &&& 85) + (b &&& 85)
def s2 (b : Nat) : Nat := (b / 4 &&& 51) + (b &&& 51)
def s3 (b : Nat) : Nat := (b / 16 + b) &&& 15
theorem step1 : ∀ (n x : Nat), (x / 2 &&& repB 85 n) + (x &&& repB 85 n) = mapB s1 n x
  | 0, x => by simp [repB, mapB]
  | n + 1, x => by
    have ih := step1 n (x / 256)
    have hlo : ∀ h : Fin 2, ∀ l : Fin 256, (h.1 * 128 + l.1 / 2) &&& 85 = l.1 / 2 &&& 85 := by decide +kernel
    have e1 : x / 2 = (x / 256 / 2) * 256 + ((x / 256 % 2) * 128 + x % 256 / 2) := by omega
    have e2 : x = x / 256 * 256 + x % 256 := by omega
    have h1 := hlo ⟨x / 256 % 2, by omega⟩ ⟨x % 256, by omega⟩
    simp only at h1
    have h2 : x / 2 &&& repB 85 (n + 1) = (x / 256 / 2 &&& repB 85 n) * 256 + (x % 256 / 2 &&& 85) := by
      rw [repB]
      conv => lhs; rw [e1]
      rw [and_split _ _ _ _ (by omega) (by decide), h1]
    have h3 : x &&& repB 85 (n + 1) = (x / 256 &&& repB 85 n) * 256 + (x % 256 &&& 85) := by
      rw [repB]
      conv => lhs; rw [e2]
      rw [and_split _ _ _ _ (by omega) (by decide)]
    rw [h2, h3, mapB, ← ih, s1]
    omega
theorem step2 : ∀ (n x : Nat), (x / 4 &&& repB 51 n) + (x &&& repB 51 n) = mapB s2 n x
  | 0, x => by simp [repB, mapB]
  | n + 1, x => by
    have ih := step2 n (x / 256)
    have hlo : ∀ h : Fin 4, ∀ l : Fin 256, (h.1 * 64 + l.1 / 4) &&& 51 = l.1 / 4 &&& 51 := by decide +kernel
    have e1 : x / 4 = (x / 256 / 4) * 256 + ((x / 256 % 4) * 64 + x % 256 / 4) := by omega
    have e2 : x = x / 256 * 256 + x % 256 := by omega
    have h1 := hlo ⟨x / 256 % 4, by omega⟩ ⟨x % 256, by omega⟩
    simp only at h1
    have h2 : x / 4 &&& repB 51 (n + 1) = (x / 256 / 4 &&& repB 51 n) * 256 + (x % 256 / 4 &&& 51) := by
      rw [repB]
      conv => lhs; rw [e1]
      rw [and_split _ _ _ _ (by omega) (by decide), h1]
    have h3 : x &&& repB 51 (n + 1) = (x / 256 &&& repB 51 n) * 256 + (x % 256 &&& 51) := by
      rw [repB]
      conv => lhs; rw [e2]
      rw [and_split _ _ _ _ (by omega) (by decide)]
    rw [h2, h3, mapB, ← ih, s2]
    omega
theorem s12_le : ∀ l : Fin 256, s2 (s1 l.1) % 16 ≤ 4 ∧ s2 (s1 l.1) / 16 ≤ 4 ∧ s1 l.1 < 256 ∧ s3 (s2 (s1 l.1)) = popN 8 l.1 ∧ s2 (s1 l.1) < 256 := by decide +kernel
def nib : Nat → Nat → Prop
  | 0, x => x = 0
  | n + 1, x => x % 16 ≤ 4 ∧ x % 256 / 16 ≤ 4 ∧ nib n (x / 256)
theorem step3 : ∀ (n x : Nat), nib n x → (x / 16 + x) &&& repB 15 n = mapB s3 n x
  | 0, x, _ => by simp [repB, mapB]
  | n + 1, x, ⟨h1, h2, h3⟩ => by
    have ih := step3 n (x / 256) h3
    have hlo : ∀ h : Fin 5, ∀ l : Fin 5, ∀ m : Fin 5, (((m.1 + h.1) * 16 + (h.1 + l.1)) &&& 15) = (((h.1 * 16 + l.1) / 16 + (h.1 * 16 + l.1)) &&& 15) := by decide +kernel
    have hm : x / 256 % 16 ≤ 4 := by
      cases n with
      | zero => have : x / 256 = 0 := h3; omega
      | succ n => exact h3.1
    have e1 : x / 16 + x = (x / 256 / 16 + x / 256) * 256 + ((x / 256 % 16 + x % 256 / 16) * 16 + (x % 256 / 16 + x % 16)) := by omega
    have k := hlo ⟨x % 256 / 16, by omega⟩ ⟨x % 16, by omega⟩ ⟨x / 256 % 16, by omega⟩
    simp only at k
    rw [repB, e1, and_split _ _ _ _ (by omega) (by decide), ih, mapB, k, s3]
    congr 2
    omega
theorem mapB_comp (f g : Nat → Nat) (hf : ∀ l, l < 256 → f l < 256) : ∀ (n x : Nat), mapB g n (mapB f n x) = mapB (fun b => g (f b)) n x
  | 0, _ => rfl
  | n + 1, x => by
    have h := hf (x % 256) (by omega)
    rw [mapB, mapB, mapB, ← mapB_comp f g hf n (x / 256)]
    congr 2
    · congr 1; omega
    · congr 1; omega
theorem nib_of : ∀ (n x : Nat), nib n (mapB (fun b => s2 (s1 b)) n x)
  | 0, x => rfl
  | n + 1, x => by
    obtain ⟨h1, h2, _, _, h5⟩ := s12_le ⟨x % 256, by omega⟩
    simp only at h1 h2 h5
    rw [mapB]
    refine ⟨by omega, by omega, ?_⟩
    have := nib_of n (x / 256)
    rwa [show (mapB (fun b => s2 (s1 b)) n (x / 256) * 256 + s2 (s1 (x % 256))) / 256 = mapB (fun b => s2 (s1 b)) n (x / 256) by omega]
theorem popN_add : ∀ (a b x : Nat), popN (a + b) x = popN a (x / 2 ^ b) + popN b x
  | a, 0, x => by simp [popN]
  | a, b + 1, x => by
    rw [← Nat.add_assoc, popN, popN_add a b (x / 2), popN]
    rw [Nat.div_div_eq_div_mul, Nat.pow_succ, Nat.mul_comm 2, Nat.add_assoc]
theorem popN_mod : ∀ (b x : Nat), popN b (x % 2 ^ b) = popN b x
  | 0, _ => rfl
  | b + 1, x => by
    rw [popN, popN, Nat.pow_succ, show x % (2 ^ b * 2) / 2 = x / 2 % 2 ^ b by rw [Nat.mul_comm]; exact Nat.mod_mul_right_div_self _ _ _, popN_mod b (x / 2)]
    congr 1
    exact Nat.mod_mul_left_mod _ _ _
theorem pop_bytes (x : Nat) (hx : x < 2 ^ 64) : popN 64 x = popN 8 (x / 256 / 256 / 256 / 256 / 256 / 256 / 256 % 256) + popN 8 (x / 256 / 256 / 256 / 256 / 256 / 256 % 256) + popN 8 (x / 256 / 256 / 256 / 256 / 256 % 256) + popN 8 (x / 256 / 256 / 256 / 256 % 256) + popN 8 (x / 256 / 256 / 256 % 256) + popN 8 (x / 256 / 256 % 256) + popN 8 (x / 256 % 256) + popN 8 (x % 256) := by
  have h : ∀ n y, popN (n + 8) y = popN n (y / 256) + popN 8 (y % 256) := fun n y => by
    rw [popN_add n 8 y]
    congr 1
    exact (popN_mod 8 y).symm
  rw [h 56, h 48, h 40, h 32, h 24, h 16, h 8]
  have : popN 8 (x / 256 / 256 / 256 / 256 / 256 / 256 / 256) = popN 8 (x / 256 / 256 / 256 / 256 / 256 / 256 / 256 % 256) := (popN_mod 8 _).symm
  omega
theorem pop8_le : ∀ l : Fin 256, popN 8 l.1 ≤ 8 := by decide +kernel
set_option maxRecDepth 100000 in
theorem fold_bytes (c0 c1 c2 c3 c4 c5 c6 c7 c d e : Nat) (q0 : c0 ≤ 8) (q1 : c1 ≤ 8) (q2 : c2 ≤ 8) (q3 : c3 ≤ 8) (q4 : c4 ≤ 8) (q5 : c5 ≤ 8) (q6 : c6 ≤ 8) (q7 : c7 ≤ 8) (hc : c = ((((((c7 * 256 + c6) * 256 + c5) * 256 + c4) * 256 + c3) * 256 + c2) * 256 + c1) * 256 + c0)
    (hd : d = c + c / 256) (he : e = d + d / 65536) : (d < 18446744073709551616 ∧ e < 18446744073709551616 ∧ e + e / 4294967296 < 9223372036854775808) ∧ (e + e / 4294967296) % 128 = c7 + c6 + c5 + c4 + c3 + c2 + c1 + c0 := by
  have hd2 : c / 256 = ((((((c7 * 256 + c6) * 256 + c5) * 256 + c4) * 256 + c3) * 256 + c2) * 256 + c1) := by clear hd he; omega
  rw [hd2, hc] at hd
  clear hd2 hc
  have hd3 : d / 65536 = (((((c7 * 256 + (c6 + c7)) * 256 + (c5 + c6)) * 256 + (c4 + c5)) * 256 + (c3 + c4)) * 256 + (c2 + c3)) := by
    clear he
    obtain ⟨t, ht⟩ : ∃ t, t = (((((c7 * 256 + (c6 + c7)) * 256 + (c5 + c6)) * 256 + (c4 + c5)) * 256 + (c3 + c4)) * 256 + (c2 + c3)) := ⟨_, rfl⟩
    have : d = t * 65536 + ((c1 + c2) * 256 + (c0 + c1)) := by omega
    rw [← ht]
    clear hd ht
    omega
  rw [hd3] at he
  have he2 : e = (((((((c7 * 256 + (c6 + c7)) * 256 + (c5 + c6 + c7)) * 256 + (c4 + c5 + c6 + c7)) * 256 + (c3 + c4 + c5 + c6)) * 256 + (c2 + c3 + c4 + c5)) * 256 + (c1 + c2 + c3 + c4)) * 256 + (c0 + c1 + c2 + c3)) := by
    clear hd3
    omega
  have hd8 : d < 18446744073709551616 := by clear hd3 he he2; omega
  clear hd3 he hd
  have he3 : e / 4294967296 = (((c7 * 256 + (c6 + c7)) * 256 + (c5 + c6 + c7)) * 256 + (c4 + c5 + c6 + c7)) := by
    obtain ⟨t, ht⟩ : ∃ t, t = (((c7 * 256 + (c6 + c7)) * 256 + (c5 + c6 + c7)) * 256 + (c4 + c5 + c6 + c7)) := ⟨_, rfl⟩
    have : e = t * 4294967296 + ((((c3 + c4 + c5 + c6) * 256 + (c2 + c3 + c4 + c5)) * 256 + (c1 + c2 + c3 + c4)) * 256 + (c0 + c1 + c2 + c3)) := by omega
    rw [← ht]
    clear he2 ht hd8
    omega
  rw [he3]
  have hs : e + ((((c7 * 256 + (c6 + c7)) * 256 + (c5 + c6 + c7)) * 256 + (c4 + c5 + c6 + c7))) = 128 * (2 * ((((((c7 * 256 + (c6 + c7)) * 256 + (c5 + c6 + c7)) * 256 + (c4 + c5 + c6 + c7)) * 256 + (c3 + c4 + c5 + c6 + c7)) * 256 + (c2 + c3 + c4 + c5 + c6 + c7)) * 256 + (c1 + c2 + c3 + c4 + c5 + c6 + c7))) + (c7 + c6 + c5 + c4 + c3 + c2 + c1 + c0) := by
    clear he3 hd8
    omega
  have h1 : e < 18446744073709551616 := by clear he3 hs hd8; omega
  have h2 : e + ((((c7 * 256 + (c6 + c7)) * 256 + (c5 + c6 + c7)) * 256 + (c4 + c5 + c6 + c7))) < 9223372036854775808 := by clear he3 hs hd8 h1; omega
  refine ⟨⟨hd8, h1, h2⟩, ?_⟩
  rw [hs, Nat.mul_add_mod]
  exact Nat.mod_eq_of_lt (by clear hs h1 h2 he2 he3 hd8; omega)
set_option maxRecDepth 100000 in
theorem ones_law (x : Nat) (hx : x < 2 ^ 64) (a b c d e : Nat) (ha : a = (x / 2 &&& 6148914691236517205) + (x &&& 6148914691236517205)) (hb : b = (a / 4 &&& 3689348814741910323) + (a &&& 3689348814741910323)) (hc : c = (b / 16 + b) &&& 1085102592571150095) (hd : d = c + c / 256) (he : e = d + d / 65536) :
    (a < 18446744073709551616 ∧ b < 18446744073709551616 ∧ b / 16 + b < 18446744073709551616 ∧ d < 18446744073709551616 ∧ e < 18446744073709551616 ∧ e + e / 4294967296 < 9223372036854775808) ∧ (e + e / 4294967296) % 128 = popN 64 x := by
  have r1 : repB 85 8 = 6148914691236517205 := by decide
  have r2 : repB 51 8 = 3689348814741910323 := by decide
  have r3 : repB 15 8 = 1085102592571150095 := by decide
  have ha : a = mapB s1 8 x := by rw [ha, ← step1 8 x, r1]
  have hb : b = mapB (fun b => s2 (s1 b)) 8 x := by
    have := step2 8 a
    rw [r2, ← hb, ha, mapB_comp s1 s2 (fun l hl => (s12_le ⟨l, hl⟩).2.2.1)] at this
    exact this
  have hc : c = mapB (fun l => s3 (s2 (s1 l))) 8 x := by
    have := step3 8 b (by rw [hb]; exact nib_of 8 x)
    rw [r3, ← hc, hb, mapB_comp _ s3 (fun l hl => (s12_le ⟨l, hl⟩).2.2.2.2)] at this
    exact this
  have hp : ∀ y, s3 (s2 (s1 (y % 256))) = popN 8 (y % 256) := fun y => (s12_le ⟨y % 256, by omega⟩).2.2.2.1
  have hq : ∀ y, popN 8 (y % 256) ≤ 8 := fun y => pop8_le ⟨y % 256, by omega⟩
  have mapB_le : ∀ (f : Nat → Nat) (m : Nat), (∀ l, l < 256 → f l ≤ m) → ∀ n x, mapB f n x ≤ repB m n := fun f m hf n => by
    induction n with
    | zero => intro x; exact Nat.le_refl _
    | succ n ih =>
      intro x
      have h1 := ih (x / 256)
      have h2 := hf (x % 256) (by omega)
      rw [mapB, repB]
      omega
  have ha8 : a ≤ 18446744073709551615 := by
    rw [ha]
    exact mapB_le s1 255 (fun l hl => by have := (s12_le ⟨l, hl⟩).2.2.1; simp only at this; omega) 8 x
  have hb8 : b ≤ 4919131752989213764 := by
    rw [hb]
    exact mapB_le _ 68 (fun l hl => by have h1 := (s12_le ⟨l, hl⟩).1; have h2 := (s12_le ⟨l, hl⟩).2.1; simp only at h1 h2; omega) 8 x
  rw [pop_bytes x hx]
  simp only [mapB, hp] at hc
  have key := fold_bytes _ _ _ _ _ _ _ _ c d e (hq x) (hq (x / 256)) (hq (x / 256 / 256)) (hq (x / 256 / 256 / 256)) (hq (x / 256 / 256 / 256 / 256)) (hq (x / 256 / 256 / 256 / 256 / 256)) (hq (x / 256 / 256 / 256 / 256 / 256 / 256)) (hq (x / 256 / 256 / 256 / 256 / 256 / 256 / 256)) (by rw [hc, Nat.zero_mul, Nat.zero_add]) hd he
  exact ⟨⟨by clear key hc hb8; omega, by clear key hc ha8; omega, by clear key hc ha8; omega, key.1⟩, key.2⟩
end Go.Proofs.YthaffebapmkppaaGreat

namespace Go.Proofs.YthaffebapmkppaaGreat
open Go Go.Eng Go.Sort
theorem Sat.addRoW {E : Env} {N : Nums} {rg : List Rg} {w : World} (h : Sat E N rg w) {b o x s0 : Nat} {cs : List SV} (hN : ∀ (r : Nat) (p : Num), N[r]? = some p → p.b < s0) (hs0 : 0 < cs.length → s0 ≤ b) (hb : b < w.heap.size)
    (hcs : ∀ (j : Nat) (c : SV), cs[j]? = some c → ∃ v, c.den N = some v ∧ w.cell? ⟨b, o + j, none⟩ = some v) : Sat E (N ++ [⟨b, o, x⟩]) (rg ++ [⟨false, cs, none⟩]) w := by
  rcases Nat.eq_zero_or_pos cs.length with h0 | h0
  · obtain rfl : cs = [] := List.eq_nil_of_length_eq_zero h0
    have hle : N.le (N ++ [⟨b, o, x⟩]) := Nums.le_append _ _
    refine ⟨by simp [h.len], ?_, ?_, ?_, ?_, ?_, ?_, ?_, h.imm, ?_, ?_, h.dlt, h.loc, h.res, h.chg, ?_⟩
    · intro i q hq
      rcases Nat.lt_or_ge i N.length with hi | hi
      · rw [List.getElem?_append_left hi] at hq; exact h.lt i q hq
      · rw [List.getElem?_append_right hi] at hq
        have hz : i - N.length = 0 := by
          have := (List.getElem?_eq_some_iff.1 hq).1
          simp at this; omega
        rw [hz] at hq; simp at hq; subst hq; exact hb
    · intro i g q hg hq j d hj
      rcases get_snoc h.len hg hq with ⟨a, b⟩ | ⟨_, rfl, rfl⟩
      · obtain ⟨v, h1, h2⟩ := h.cell i g q a b j d hj
        exact ⟨v, SV.den_mono hle d h1, h2⟩
      · simp at hj
    · intro i g q hg hq ho
      rcases get_snoc h.len hg hq with ⟨a, b⟩ | ⟨_, rfl, rfl⟩
      · exact h.ext i g q a b ho
      · cases ho
    · intro i g q hg hq ho
      rcases get_snoc h.len hg hq with ⟨a, b⟩ | ⟨_, rfl, rfl⟩
      · exact h.room i g q a b ho
      · cases ho
    · intro i i' g g' q q' hg hq hg' hq' ho hne j hj hb'
      rcases get_snoc h.len hg hq with ⟨a1, a2⟩ | ⟨a0, rfl, rfl⟩
      · rcases get_snoc h.len hg' hq' with ⟨b1, b2⟩ | ⟨b0, rfl, rfl⟩
        · exact h.disj i i' g g' q q' a1 a2 b1 b2 ho hne j hj hb'
        · exact absurd hj (Nat.not_lt_zero j)
      · cases ho
    · intro i g q ob hg hq ho
      rcases get_snoc h.len hg hq with ⟨a, b⟩ | ⟨_, rfl, rfl⟩
      · obtain ⟨⟨o', k1, k2⟩, k3⟩ := h.obj i g q ob a b ho
        exact ⟨⟨o', Ob.den_mono hle ob k1, k2⟩, k3⟩
      · simp at ho
    · intro i i' g g' q q' hg hq hg' hq' ho ho' hne
      rcases get_snoc h.len hg hq with ⟨a1, a2⟩ | ⟨a0, rfl, rfl⟩
      · rcases get_snoc h.len hg' hq' with ⟨b1, b2⟩ | ⟨b0, rfl, rfl⟩
        · exact h.odisj i i' g g' q q' a1 a2 b1 b2 ho ho' hne
        · simp at ho'
      · simp at ho
    · intro i g q hg hq ho
      rcases get_snoc h.len hg hq with ⟨a, b⟩ | ⟨_, rfl, rfl⟩
      · exact h.imd i g q a b ho
      · cases ho
    · intro i g q hg hq ho
      rcases get_snoc h.len hg hq with ⟨a, b⟩ | ⟨_, rfl, rfl⟩
      · exact h.dd i g q a b ho
      · cases ho
    · intro i g q hg hq ho
      rcases get_snoc h.len hg hq with ⟨a, b⟩ | ⟨_, rfl, rfl⟩
      · exact h.foot i g q a b ho
      · cases ho
  · exact Sat.addRo h hN (hs0 h0) hb hcs
theorem RoR.sat {E : Env} {N : Nums} {rg : List Rg} {w w' : World} {cs : List SV} {n sz : Nat} {e : Ending} (hz : 0 < sz) (hf : RoR cs n w e w') (h : Sat E N rg w) :
    ∃ N' v, e = .returned v ∧ N.le N' ∧ (SV.osl rg.length 0 n sz none).den N' = some v ∧ Sat E N' (rg ++ [⟨false, cs, none⟩]) w' := by
  obtain ⟨b, o, c, he, h1, h2, h3, hc⟩ := hf
  have hget : (N ++ [⟨b, o, sz * c⟩] : Nums)[rg.length]? = some ⟨b, o, sz * c⟩ := by rw [← h.len]; simp
  refine ⟨N ++ [⟨b, o, sz * c⟩], _, he, Nums.le_append _ _, by simp only [SV.den, hget, Num.cap, Nat.add_zero, Nat.sub_zero, Nat.mul_div_cancel_left _ hz], ?_⟩
  exact Sat.addRoW (h.after0 hc) (s0 := w.heap.size) (fun r p hp => h.lt r p hp) h1 h2 (fun j c hj => by
    obtain ⟨v, k1, k2⟩ := h3 j c hj
    exact ⟨v, k1 N, k2⟩)
theorem Goes.ro {E : Ctx} {N : Nums} {k : List It} {s : St} {d : Option Nat} {e : Ending} {w w' : World} {cs : List SV} {n sz : Nat} (hN : E.N0.le N) (h : Sat E.toEnv N s.rg w) (hz : 0 < sz) (hf : RoR cs n w e w') {f' : Fr} (hp : putO E.n s.fr d (.val (.osl s.rg.length 0 n sz none)) = some f')
    (hx : X E k ⟨f', s.rg ++ [⟨false, cs, none⟩]⟩) : ∃ v, e = .returned v ∧ Goes E N k s.fr d v w' := by
  obtain ⟨N', v, h1, h2, h3, h4⟩ := hf.sat hz h
  exact ⟨v, h1, E, N', _, _, f', rfl, rfl, rfl, rfl, h2, hN.trans h2, h4, h3, hp, hx⟩
end Go.Proofs.YthaffebapmkppaaGreat
