/- The reference's ring: each point is put in its place. -/
import Derived.Test.YthaffebapmkppaaRb1
import Derived.Test.YthaffebapmkppaaRg3
import Derived.Test.YthaffebapmkppaaRi15

namespace Go.Proofs.Ythaffebapmkppaa
open Go Go.Eng Go.Sort

theorem ptsL_frr {L : List (Int × Int)} {a b : Nat} : (ptsL L).all (SV.frr a b) = true := List.all_eq_true.2 fun c hc => by
  obtain ⟨k, z, rfl⟩ := ptsL_mem hc; rfl
theorem bytL_frr {l : List Int} {a b : Nat} : (bytL l).all (SV.frr a b) = true := List.all_eq_true.2 fun c hc => by
  obtain ⟨x, _, rfl⟩ := List.mem_map.1 hc; rfl
theorem bytL_one {l : List Int} : (bytL l).all SV.one = true := List.all_eq_true.2 fun c hc => by
  obtain ⟨x, _, rfl⟩ := List.mem_map.1 hc; rfl
theorem bytL_snoc (l : List Int) (x : Int) : bytL (l ++ [x]) = bytL l ++ [.int .u8 (.v x)] := by simp [bytL]

/-- a row of one's own is handed back, that began as a literal without elements: to be read -/
def RoR (cs : List SV) (n : Nat) (w : World) (e : Ending) (w' : World) : Prop :=
  ∃ b o c, e = .returned (.slice (some ⟨b, o, none⟩) n c) ∧ (0 < cs.length → w.heap.size ≤ b) ∧ b < w'.heap.size ∧ (∀ (j : Nat) (c : SV), cs[j]? = some c → ∃ v, (∀ N, c.den N = some v) ∧ w'.cell? ⟨b, o + j, none⟩ = some v) ∧ Chg (fun _ _ => False) w w'
theorem roR_of {P : Program} {fn : Func} {Q : Ending → World → Prop} {W : World} {im : Mem} {D : Nat → Nat → Prop} {Rr : World → Prop} {N0 : Nums} {B : SchT} {N : Nums} {rg : List Rg} {w' : World} {r n z : Nat} {cs : List SV} {v : Value} (hS : Sat (mkE P fn Q W (InR [] []) im D Rr N0 B).toEnv N rg w') (hr : rg[r]? = some ⟨true, cs, none⟩) (hc : ∀ c ∈ cs, ∀ (N N' : Nums) (v : Value), c.den N = some v → c.den N' = some v)
    (hv : (eV r n z).den N = some v) : RoR cs n W (.returned v) w' := by
  obtain ⟨p, hp⟩ : ∃ p, N[r]? = some p := ⟨_, List.getElem?_eq_getElem (by rw [hS.len]; exact (List.getElem?_eq_some_iff.1 hr).1)⟩
  obtain ⟨c, rfl⟩ := eV_den hp hv
  refine ⟨p.b, p.o, c, rfl, fun h0 => ?_, hS.lt r p hp, fun j x hj => ?_, hS.chg.none⟩
  · have hx := hS.ext r _ p hr hp rfl
    rcases hS.foot r _ p hr hp rfl with h | h
    · exact h
    · exact absurd (h 0 (by simp only at hx; omega)) (fun h => inR_nil h)
  · obtain ⟨v, h1, h2⟩ := hS.cell r _ p hr hp j x hj
    exact ⟨v, fun N' => hc x (List.mem_of_getElem? hj) _ _ v h1, h2⟩

theorem ptsL_row : ∀ (L : List (Int × Int)) (k : Nat), k < L.length → (ptsL L)[k * 2]? = some (.int .u64 (.v L[k]!.1)) ∧ (ptsL L)[k * 2 + 1]? = some (.int .u8 (.v L[k]!.2))
  | [], _, h => absurd h (by simp)
  | x :: L, 0, _ => ⟨rfl, rfl⟩
  | x :: L, k + 1, h => by
    obtain ⟨h1, h2⟩ := ptsL_row L k (by simpa using h)
    have e : ptsL (x :: L) = .int .u64 (.v x.1) :: .int .u8 (.v x.2) :: ptsL L := rfl
    rw [e, show (k + 1) * 2 = k * 2 + 1 + 1 by omega, show k * 2 + 1 + 1 + 1 = (k * 2 + 1) + 1 + 1 by omega]
    simp only [List.getElem?_cons_succ]
    refine ⟨by rw [h1]; simp, by rw [h2]; simp⟩
theorem ptsL_rowAt {L : List (Int × Int)} {cs : List SV} {k o : Nat} {y : Int × Int} (hc : cs = ptsL L) (hk : k < L.length) (hy : y = L[k]!) (ho : o = k * 2) (j : Nat) (d : SV) (hj : [SV.int .u64 (.v y.1), SV.int .u8 (.v y.2)][j]? = some d) : cs[o + j]? = some d := by
  obtain ⟨h1, h2⟩ := ptsL_row L k hk
  subst hc ho hy
  match j, hj with
  | 0, hj => rw [Nat.add_zero, h1]; simpa using hj
  | 1, hj => rw [h2]; simpa using hj
  | j + 2, hj => simp at hj

/-! ### put into a row that rises -/
def insP (p : Int × Int) : List (Int × Int) → List (Int × Int)
  | [] => [p]
  | x :: l => if ltOf cfP p x then p :: x :: l else x :: insP p l
theorem insP_perm (p : Int × Int) : ∀ l, (insP p l).Perm (p :: l)
  | [] => List.Perm.refl _
  | x :: l => by
    unfold insP
    split
    · exact List.Perm.refl _
    · exact ((insP_perm p l).cons x).trans (List.Perm.swap p x l)
theorem insP_sorted (p : Int × Int) : ∀ l, l.Pairwise (fun x y => (!ltOf cfP y x) = true) → (insP p l).Pairwise (fun x y => (!ltOf cfP y x) = true)
  | [], _ => by simp [insP]
  | x :: l, h => by
    obtain ⟨h1, h2⟩ := List.pairwise_cons.1 h
    unfold insP
    split
    · rename_i hp
      refine List.pairwise_cons.2 ⟨fun y hy => ?_, h⟩
      rw [ltP, decide_eq_true_eq] at hp
      rcases List.mem_cons.1 hy with rfl | hy
      · rw [ltP]
        simp only [Bool.not_eq_true', decide_eq_false_iff_not]
        omega
      · have := h1 y hy
        rw [ltP] at this ⊢
        simp only [Bool.not_eq_true', decide_eq_false_iff_not] at this ⊢
        omega
    · rename_i hp
      refine List.pairwise_cons.2 ⟨fun y hy => ?_, insP_sorted p l h2⟩
      rcases List.mem_cons.1 ((insP_perm p l).mem_iff.1 hy) with rfl | hy
      · simpa using hp
      · exact h1 y hy
/-- the walk along the row: whether it was put, and what was written -/
def stP (p : Int × Int) (s : Bool × List (Int × Int)) (x : Int × Int) : Bool × List (Int × Int) := if !s.1 && ltOf cfP p x then (true, s.2 ++ [p] ++ [x]) else (s.1, s.2 ++ [x])
theorem stP_end (p : Int × Int) : ∀ (l : List (Int × Int)) (b : Bool) (acc : List (Int × Int)), let s := l.foldl (stP p) (b, acc)
    (if s.1 then s.2 else s.2 ++ [p]) = acc ++ (if b then l else insP p l)
  | [], b, acc => by cases b <;> simp [insP]
  | x :: l, b, acc => by
    rw [List.foldl_cons]
    have h1 := stP_end p l true (acc ++ [p] ++ [x])
    have h2 := stP_end p l b (acc ++ [x])
    cases b with
    | true =>
      rw [show stP p (true, acc) x = (true, acc ++ [x]) from rfl]
      simpa using h2
    | false =>
      unfold insP
      by_cases hp : ltOf cfP p x = true
      · rw [show stP p (false, acc) x = (true, acc ++ [p] ++ [x]) by simp [stP, hp]]
        simpa [hp] using h1
      · simp only [Bool.not_eq_true] at hp
        rw [show stP p (false, acc) x = (false, acc ++ [x]) by simp [stP, hp]]
        simpa [hp] using h2
theorem stP_len (p : Int × Int) : ∀ (l : List (Int × Int)) (b : Bool) (acc : List (Int × Int)), (l.foldl (stP p) (b, acc)).2.length ≤ acc.length + 2 * l.length
  | [], b, acc => Nat.le_refl _
  | x :: l, b, acc => by
    rw [List.foldl_cons]
    have h1 := stP_len p l (stP p (b, acc) x).1 (stP p (b, acc) x).2
    have h2 : (stP p (b, acc) x).2.length ≤ acc.length + 2 := by unfold stP; split <;> simp
    simp only [List.length_cons]
    have e : ((stP p (b, acc) x).1, (stP p (b, acc) x).2) = stP p (b, acc) x := rfl
    rw [e] at h1
    omega
def insAll (l : List (Int × Int)) : List (Int × Int) := l.foldl (fun r p => insP p r) []
theorem insAll_snoc (l : List (Int × Int)) (p : Int × Int) : insAll (l ++ [p]) = insP p (insAll l) := by simp [insAll]
theorem insAll_ok (l : List (Int × Int)) : (insAll l).Perm l ∧ (insAll l).Pairwise (fun x y => (!ltOf cfP y x) = true) := by
  have key : ∀ (l r : List (Int × Int)), r.Pairwise (fun x y => (!ltOf cfP y x) = true) → (l.foldl (fun r p => insP p r) r).Perm (r ++ l) ∧ (l.foldl (fun r p => insP p r) r).Pairwise (fun x y => (!ltOf cfP y x) = true) := fun l => by
    induction l with
    | nil => intro r h; exact ⟨by simp, h⟩
    | cons x l ih =>
      intro r h
      rw [List.foldl_cons]
      obtain ⟨h1, h2⟩ := ih (insP x r) (insP_sorted x r h)
      refine ⟨h1.trans ?_, h2⟩
      refine ((insP_perm x r).append_right l).trans ?_
      rw [List.cons_append]
      exact List.perm_middle.symm
  have := key l [] List.Pairwise.nil
  simpa [insAll] using this
theorem insAll_len (l : List (Int × Int)) : (insAll l).length = l.length := (insAll_ok l).1.length_eq
theorem insAll_ring (d : Array Int) : insAll ((dd d.toList []).flatMap ptsOf) = ringP d := by
  refine sorted_eq (insAll_ok _).2 (ringP_sorted d) ((insAll_ok _).1.trans (List.Perm.trans ?_ (ringP_perm d).symm))
  unfold ringU
  refine List.Perm.flatMap_right _ ((List.perm_ext_iff_of_nodup (dd_nodup _ _ List.nodup_nil) ((ascA_lt d).imp fun h => by omega)).2 fun y => ?_)
  rw [dd_mem, ascA_iff]
  simp

set_option maxHeartbeats 8000000 in
set_option maxRecDepth 100000 in
set_option cbv.maxSteps 100000000 in
theorem build9_ok (p : Option Addr) (n cp : Nat) (d : Array Int) (w : World) (hle : n ≤ 100) (hIn : InB p n d w) :
    Calls Try.prog 16 #[.slice p n cp] w (RoR (ptsL (ringP d)) (ringP d).length w) := by
  have hn := hIn.1
  obtain ⟨Q, hQ⟩ : ∃ Q : Ending → World → Prop, Q = RoR (ptsL (ringP d)) (ringP d).length w := ⟨_, rfl⟩
  rw [← hQ]
  refine X.begin (rg := []) (N := []) (ss := [.slv p n cp]) Try.func16 rfl B16_ok rfl rfl Sat.std0 ?_
  refine X.go T16_ok 400 _ rfl Try.results16 ?_
  conv => arg 2; cbv
  refine X.loop (fun _ : {i : Nat // i ≤ n} => mkE Try.prog Try.f16 Q w (InR [] []) (elsewhere [] [] w) (fun _ _ => False) (fun _ => True) [] B16)
    (fun g => ⟨[(0, .val (.slv p n cp)), (3, .val (eV 0 (insAll ((dd (d.toList.take g.1) []).flatMap ptsOf)).length 2)), (4, .val (eV 1 (dd (d.toList.take g.1) []).length 1)), (14, .val (.int .i64 (.nat n))), (15, .val (.int .i64 (.nat g.1)))], [⟨true, ptsL (insAll ((dd (d.toList.take g.1) []).flatMap ptsOf)), none⟩, ⟨true, bytL (dd (d.toList.take g.1) []), none⟩]⟩) (fun g => n - g.1) (fun _ => ⟨rfl, rfl, rfl, rfl⟩) (fun N ac w' hN hf hS => ⟨⟨0, Nat.zero_le _⟩, ?_⟩) (fun g q hq => ?_)
  · show At (mkE Try.prog Try.f16 Q w (InR [] []) (elsewhere [] [] w) (fun _ _ => False) (fun _ => True) [] B16) ⟨[(0, .val (.slv p n cp)), (3, .val (.osl 0 0 0 2 (some 0))), (4, .val (.osl 1 0 0 1 (some 0))), (14, .val (.int .i64 (.nat n))), (15, .val (.int .i64 (.nat 0)))], [⟨true, [], none⟩, ⟨true, [], none⟩]⟩ ac w'
    exact At.again hf hS (by repeat first | exact trivial | refine ⟨⟨_, rfl, .inl ⟨rfl, rfl⟩⟩, ?_⟩ | refine ⟨⟨_, rfl, .inr ⟨_, rfl, rfl⟩⟩, ?_⟩ | refine ⟨⟨_, rfl, .inr ⟨_, rfl, by simp (disch := omega) [SV.den, SI.den, wrapU, wrapD] <;> omega⟩⟩, ?_⟩) ⟨fun h => h, trivial, rfl, fun h => h, trivial, rfl, trivial⟩
  obtain ⟨i, hi⟩ := g
  show X (mkE Try.prog Try.f16 Q w (InR [] []) (elsewhere [] [] w) (fun _ _ => False) (fun _ => True) [] B16) _ ⟨[(0, .val (.slv p n cp)), (3, .val (eV 0 (insAll ((dd (d.toList.take i) []).flatMap ptsOf)).length 2)), (4, .val (eV 1 (dd (d.toList.take i) []).length 1)), (14, .val (.int .i64 (.nat n))), (15, .val (.int .i64 (.nat i)))], [⟨true, ptsL (insAll ((dd (d.toList.take i) []).flatMap ptsOf)), none⟩, ⟨true, bytL (dd (d.toList.take i) []), none⟩]⟩
  obtain ⟨D, hD⟩ : ∃ D, D = dd (d.toList.take i) [] := ⟨_, rfl⟩
  obtain ⟨R, hR⟩ : ∃ R, R = insAll (D.flatMap ptsOf) := ⟨_, rfl⟩
  rw [← hD, ← hR]
  have hDl : D.length ≤ 100 := by
    have := dd_len (d.toList.take i) []
    rw [← hD] at this
    simp at this
    omega
  have fl8 : ∀ l : List Int, (l.flatMap ptsOf).length = 8 * l.length := fun l => by
    induction l with
    | nil => rfl
    | cons x l ih => rw [List.flatMap_cons, List.length_append, ih, ptsOf, ptsTo_len]; simp; omega
  obtain ⟨mr, hmr⟩ : ∃ m, m = R.length := ⟨_, rfl⟩
  obtain ⟨md, hmd⟩ : ∃ m, m = D.length := ⟨_, rfl⟩
  have hmr8 : mr = 8 * md := by rw [hmr, hR, insAll_len, fl8, hmd]
  rw [← hmr, ← hmd]
  obtain ⟨vr, hvr⟩ : ∃ v, v = eV 0 mr 2 := ⟨_, rfl⟩
  obtain ⟨vd, hvd⟩ : ∃ v, v = eV 1 md 1 := ⟨_, rfl⟩
  obtain ⟨cr, hcr⟩ : ∃ c, c = ptsL R := ⟨_, rfl⟩
  obtain ⟨cd, hcd⟩ : ∃ c, c = bytL D := ⟨_, rfl⟩
  have hbr2 : bd 2 vr = true := by rw [hvr]; exact eV_bd (by decide)
  have hbd2 : bd 2 vd = true := by rw [hvd]; exact eV_bd (by decide)
  rw [← hvr, ← hvd, ← hcr, ← hcd]
  refine X.go T16_ok 400 _ rfl Try.results16 ?_
  conv => arg 2; cbv
  refine X.cond rfl (fun hlt => ?_) (fun hge => ?_)
  · simp only [SB.T, SI.den] at hlt
    have hlt : i < n := by omega
    obtain ⟨b, y, hp, hdi⟩ := hIn.2 (by omega)
    obtain ⟨x, hx⟩ : ∃ x, x = d[i]! := ⟨_, rfl⟩
    obtain ⟨oi, hoi⟩ : ∃ o, o = y + i := ⟨_, rfl⟩
    have hix : elsewhere [] [] w b (oi + 0) = some (.int .u8 x) := by rw [Nat.add_zero, els_old, hoi, hx]; exact hdi i (by omega)
    have hsn : dd (d.toList.take (i + 1)) [] = if x ∈ D then D else D ++ [x] := by
      have := take_snoc (l := d.toList) (i := i) (by simp; omega)
      rw [this, dd_snoc, ← hD, hx, getElem!_pos d i (by omega), getElem!_pos d.toList i (by simp; omega)]
      simp
    obtain ⟨hb, hhb⟩ : ∃ b, b = decide (x ∈ D) := ⟨_, rfl⟩
    refine X.goP ([(21, .ext b oi 0), (22, .int .u8 (.v x)), (23, .bool (.v hb))]) T16_ok 400 _ rfl Try.results16 (fun pr fin hpr hfin => ?_)
    conv => cbv
    refine ⟨hpr _ (fun _ => ⟨Try.call44, fun N w1 args _ hS ha => ?_⟩), hpr _ (ValOk.im1 rfl Try.isAgg5 (fun _ => rfl) fun _ => hix), hpr _ (ValOk.at (z := i) rfl rfl (fun _ => rfl) Try.underlying22 Try.sizeOf5 (fun _ => hlt) hp (by omega)), hfin _ _ ?_⟩
    · obtain ⟨v, l1, rfl, hv, ha⟩ := denL_cons ha
      obtain ⟨v2, l2, rfl, hv2, ha⟩ := denL_cons ha
      obtain rfl := denL_nil ha
      obtain ⟨pq, hpq⟩ := num_of hS (r := 1) rfl
      rw [hvd] at hv
      obtain ⟨c1, rfl⟩ := eV_den hpq hv
      simp only [SV.den, SI.den, Option.some.injEq] at hv2
      subst hv2
      refine (has9_ok _ md c1 D.toArray x w1 (by omega) (inB_own hS (r := 1) rfl hpq (by simp [hmd]) (fun j hj => ⟨.v D[j]!, by rw [hcd]; simp [bytL, show j < D.length by omega], by simp [SI.den]⟩))).mono fun e w' ⟨he, hc⟩ => ⟨_, he, by rw [hhb]; rfl, hc⟩
    refine X.cond rfl (fun hz => ?_) (fun hz => ?_)
    · simp only [SB.T, SB.den] at hz
      have hz : x ∈ D := by rw [hhb] at hz; exact of_decide_eq_true hz
      rw [if_pos hz] at hsn
      refine X.go T16_ok 400 _ rfl Try.results16 ?_
      conv => arg 2; cbv
      refine X.back (fun N ac w' hN hf hS => hq ⟨i + 1, hlt⟩ ac w' (by simp only; omega) ?_)
      show At (mkE Try.prog Try.f16 Q w (InR [] []) (elsewhere [] [] w) (fun _ _ => False) (fun _ => True) [] B16) ⟨[(0, .val (.slv p n cp)), (3, .val (eV 0 (insAll ((dd (d.toList.take (i + 1)) []).flatMap ptsOf)).length 2)), (4, .val (eV 1 (dd (d.toList.take (i + 1)) []).length 1)), (14, .val (.int .i64 (.nat n))), (15, .val (.int .i64 (.nat (i + 1))))], [⟨true, ptsL (insAll ((dd (d.toList.take (i + 1)) []).flatMap ptsOf)), none⟩, ⟨true, bytL (dd (d.toList.take (i + 1)) []), none⟩]⟩ ac w'
      rw [hsn, ← hR, ← hmr, ← hmd, ← hvr, ← hvd, ← hcr, ← hcd]
      exact At.again hf hS (by repeat first | exact trivial | refine ⟨⟨_, rfl, .inl ⟨rfl, by first | rfl | assumption⟩⟩, ?_⟩ | refine ⟨⟨_, rfl, .inr ⟨_, rfl, rfl⟩⟩, ?_⟩ | refine ⟨⟨_, rfl, .inr ⟨_, rfl, by simp (disch := omega) [SV.den, SI.den, wrapU, wrapD] <;> omega⟩⟩, ?_⟩ | refine ⟨⟨_, rfl, .inr ⟨_, rfl, by simp [SV.den, SI.den, IntKind.wrap, IntKind.bits, IntKind.signed] <;> omega⟩⟩, ?_⟩) ⟨fun h => h, SubC.refl (by rw [hcr]; exact ptsL_bd), rfl, fun h => h, SubC.refl (by rw [hcd]; exact bytL_bd), rfl, trivial⟩
    · simp only [SB.F, SB.den] at hz
      have hz : ¬ x ∈ D := by rw [hhb] at hz; exact of_decide_eq_false hz
      rw [if_neg hz] at hsn
      refine X.goP ([(27, .ext b oi 0), (28, .int .u8 (.v x))]) T16_ok 9 _ rfl Try.results16 (fun pr fin hpr hfin => ?_)
      conv => cbv
      refine ⟨hpr _ (ValOk.im1 rfl Try.isAgg5 (fun _ => rfl) fun _ => hix), hpr _ (ValOk.at (z := i) rfl rfl (fun _ => rfl) Try.underlying22 Try.sizeOf5 (fun _ => hlt) hp (by omega)), hfin _ _ ?_⟩
      have hvrf : vr.frr 3 1 = true := by rw [hvr]; exact eV_frr (by decide) (by decide)
      refine X.appG (T := T16) (te := ti5) (r := 1) (n := md) (m := 1) (cs := cd) (new := [.int .u8 (.v x)]) T16_ok rfl [0, 3, 5, 14, 15, 30] rfl rfl rfl rfl rfl rfl rfl rfl (.inr (.inl hvd)) rfl (by rw [hcd, bytL_len, ← hmd]; exact (Nat.mul_one _).symm) (by decide) (appSrc_row (g := ⟨true, [.int .u8 (.v x)], none⟩) rfl rfl rfl rfl) (appOk_ok (by decide) rfl rfl rfl (by show (2 * (md + 1) + 256) * 1 ≤ _; omega) (by omega)) rfl rfl rfl (by repeat first | exact trivial | refine ⟨rfl, ?_⟩ | refine ⟨by assumption, ?_⟩) ⟨.inr (by rw [hcr]; exact ptsL_frr), .inl rfl, .inr rfl, trivial⟩ (by rw [hcd, ← bytL_snoc]; exact bytL_frr) rfl ?_
      obtain ⟨cd2, hcd2⟩ : ∃ c, c = cd ++ [.int .u8 (.v x)] := ⟨_, rfl⟩
      have hcd2b : cd2 = bytL (D ++ [x]) := by rw [hcd2, hcd, bytL_snoc]
      show X (mkE Try.prog Try.f16 Q w (InR [] []) (elsewhere [] [] w) (fun _ _ => False) (fun _ => True) [] B16) _ ⟨_, [⟨true, cr, none⟩, ⟨true, cd ++ [.int .u8 (.v x)], none⟩, ⟨true, [.int .u8 (.v x)], none⟩]⟩
      rw [← hcd2]
      have hR0 : insAll (D.flatMap ptsOf ++ ptsTo x 0) = R := by rw [show ptsTo x 0 = [] from rfl, List.append_nil, hR]
      refine X.go T16_ok 400 _ rfl Try.results16 ?_
      conv => arg 2; cbv
      have hcd2d : ∀ m, cd2.all (bd m) = true := fun m => by rw [hcd2b]; exact bytL_bd
      refine X.loop (fun _ : {v : Nat // v ≤ 8} => mkE Try.prog Try.f16 Q w (InR [] []) (elsewhere [] [] w) (fun _ _ => False) (fun _ => True) [] B16)
        (fun g => ⟨[(0, .val (.slv p n cp)), (3, .val (eV 0 (mr + g.1) 2)), (4, .val (.osl 1 0 (md + 1) 1 none)), (5, .val (.int .i64 (.nat i))), (6, .val (.int .u8 (.nat g.1))), (14, .val (.int .i64 (.nat n))), (15, .val (.int .i64 (.nat i)))], [⟨true, ptsL (insAll (D.flatMap ptsOf ++ ptsTo x g.1)), none⟩, ⟨true, cd2, none⟩]⟩) (fun g => 8 - g.1) (fun _ => ⟨rfl, rfl, rfl, rfl⟩) (fun N ac w' hN hf hS => ⟨⟨0, Nat.zero_le _⟩, ?_⟩) (fun g q2 hq2 => ?_)
      · show At (mkE Try.prog Try.f16 Q w (InR [] []) (elsewhere [] [] w) (fun _ _ => False) (fun _ => True) [] B16) ⟨[(0, .val (.slv p n cp)), (3, .val (eV 0 (mr + 0) 2)), (4, .val (.osl 1 0 (md + 1) 1 none)), (5, .val (.int .i64 (.nat i))), (6, .val (.int .u8 (.nat 0))), (14, .val (.int .i64 (.nat n))), (15, .val (.int .i64 (.nat i)))], [⟨true, ptsL (insAll (D.flatMap ptsOf ++ ptsTo x 0)), none⟩, ⟨true, cd2, none⟩]⟩ ac w'
        rw [hR0, Nat.add_zero, ← hvr, ← hcr]
        exact At.again hf hS (by repeat first | exact trivial | refine ⟨⟨_, rfl, .inl ⟨rfl, by first | rfl | assumption⟩⟩, ?_⟩ | refine ⟨⟨_, rfl, .inr ⟨_, rfl, rfl⟩⟩, ?_⟩ | refine ⟨⟨_, rfl, .inr ⟨_, rfl, by simp (disch := omega) [SV.den, SI.den, wrapU, wrapD] <;> omega⟩⟩, ?_⟩ | refine ⟨⟨_, rfl, .inr ⟨_, rfl, by simp [SV.den, SI.den, IntKind.wrap, IntKind.bits, IntKind.signed] <;> omega⟩⟩, ?_⟩) ⟨fun h => h, SubC.refl (by rw [hcr]; exact ptsL_bd), rfl, fun h => h, SubC.refl (hcd2d _), rfl, trivial⟩
      obtain ⟨v, hv⟩ := g
      show X (mkE Try.prog Try.f16 Q w (InR [] []) (elsewhere [] [] w) (fun _ _ => False) (fun _ => True) [] B16) _ ⟨[(0, .val (.slv p n cp)), (3, .val (eV 0 (mr + v) 2)), (4, .val (.osl 1 0 (md + 1) 1 none)), (5, .val (.int .i64 (.nat i))), (6, .val (.int .u8 (.nat v))), (14, .val (.int .i64 (.nat n))), (15, .val (.int .i64 (.nat i)))], [⟨true, ptsL (insAll (D.flatMap ptsOf ++ ptsTo x v)), none⟩, ⟨true, cd2, none⟩]⟩
      clear hvr hbr2 hvrf hcr
      obtain ⟨R1, hR1⟩ : ∃ R1, R1 = insAll (D.flatMap ptsOf ++ ptsTo x v) := ⟨_, rfl⟩
      obtain ⟨m1, hm1⟩ : ∃ m, m = mr + v := ⟨_, rfl⟩
      have hR1l : R1.length = m1 := by rw [hR1, insAll_len, List.length_append, fl8, ptsTo_len, ← hmd, hm1, hmr8]
      obtain ⟨v1, hv1⟩ : ∃ v, v = eV 0 m1 2 := ⟨_, rfl⟩
      obtain ⟨c1, hc1⟩ : ∃ c, c = ptsL R1 := ⟨_, rfl⟩
      have hv1b : bd 2 v1 = true := by rw [hv1]; exact eV_bd (by decide)
      rw [← hR1, ← hm1, ← hv1, ← hc1]
      refine X.go T16_ok 400 _ rfl Try.results16 ?_
      conv => arg 2; cbv
      refine X.cond rfl (fun hlt8 => ?_) (fun hge8 => ?_)
      · simp only [SB.T, SI.den] at hlt8
        have hlt8 : v < 8 := by omega
        obtain ⟨hz, hhz⟩ : ∃ z, z = placeZ x v := ⟨_, rfl⟩
        refine X.go T16_ok 400 _ rfl Try.results16 ?_
        conv => arg 2; cbv
        refine X.less [0, 3, 4, 5, 6, 14, 15] ?_
        refine X.goT ([(37, .ext b oi 0), (38, .int .u8 (.v x)), (40, .int .u64 (.v hz)), (43, .ext b oi 0), (44, .int .u8 (.v x))]) T16_ok (.q 0 [1, 4, 6, 7, 8, 9, 11] (.q 1 [0, 4, 6, 7, 8, 9, 11] (.q 2 [0, 1, 4, 6, 7, 8, 9, 11] (.q 4 [0, 1, 2, 3, 6, 7, 8, 9, 11] (.q 6 [0, 1, 2, 3, 4, 5, 7, 11] (.q 7 [0, 1, 2, 3, 4, 5, 6, 11] (.q 8 [0, 1, 2, 3, 4, 5, 6, 7, 11] (.q 3 [0, 1, 2, 4, 6, 7, 8, 9, 11] (.q 9 [0, 1, 2, 3, 4, 5, 6, 7, 8, 11] (.two 5 11 (.q 10 [0, 1, 2, 3, 4, 5, 6, 7, 8, 9, 11] (.one 11 (.one 12 (.nil)))) (.one 5 (.q 10 [0, 1, 2, 3, 4, 5, 6, 7, 8, 9, 11] (.one 12 (.nil)))))))))))))) _ rfl (by kernel_rfl) (by kernel_rfl) (fun pr fin hpr hfin => ?_)
        conv => cbv
        refine ⟨hpr _ (ValOk.at (z := i) rfl rfl (fun _ => rfl) Try.underlying22 Try.sizeOf5 (fun _ => hlt) hp (by omega)), hpr _ (ValOk.at (z := i) rfl rfl (fun _ => rfl) Try.underlying22 Try.sizeOf5 (fun _ => hlt) hp (by omega)), hpr _ (ValOk.im1 rfl Try.isAgg5 (fun _ => rfl) fun _ => hix), hpr _ (ValOk.im1 rfl Try.isAgg5 (fun _ => rfl) fun _ => hix), ⟨hpr _ (.of Try.call45 [.int .u8 x, .int .u8 v] (.int .u64 hz) (fun _ => rfl) (fun _ => rfl) fun _ w1 _ => by rw [hhz]; exact place8_ok x v w1), rfl, rfl, hfin _ (X.less [0, 3, 4, 5, 6, 7, 14, 15] ?key)⟩, rfl, hpr _ (.of Try.call45 [.int .u8 x, .int .u8 v] (.int .u64 hz) (fun _ => rfl) (fun _ => rfl) fun _ w1 _ => by rw [hhz]; exact place8_ok x v w1), rfl, hfin _ (X.less [0, 3, 4, 5, 6, 7, 14, 15] ?key)⟩
        show X (mkE Try.prog Try.f16 Q w (InR [] []) (elsewhere [] [] w) (fun _ _ => False) (fun _ => True) [] B16) _ ⟨[(7, .val (.own 2 0)), (0, .val (.slv p n cp)), (3, .val v1), (4, .val (.osl 1 0 (md + 1) 1 none)), (5, .val (.int .i64 (.nat i))), (6, .val (.int .u8 (.nat v))), (14, .val (.int .i64 (.nat n))), (15, .val (.int .i64 (.nat i)))], [⟨true, c1, none⟩, ⟨true, cd2, none⟩, ⟨true, [.int .u64 (.v hz), .int .u8 (.v x)], none⟩]⟩
        refine X.goP ([(48, .int .i64 (.nat m1))]) T16_ok 400 _ rfl Try.results16 (fun pr fin hpr hfin => ?_)
        conv => cbv
        refine ⟨hpr _ (vk_len rfl (.inr hv1) Try.underlying27 (Nat.lt_of_sub_eq_succ rfl)), hfin _ _ ?_⟩
        have hv1c : bd 4 v1 = true := by rw [hv1]; exact eV_bd (by decide)
        have hc1b : ∀ m, c1.all (bd m) = true := fun m => by rw [hc1]; exact ptsL_bd
        refine X.loop (fun _ : {k : Nat // k ≤ m1} => mkE Try.prog Try.f16 Q w (InR [] []) (elsewhere [] [] w) (fun _ _ => False) (fun _ => True) [] B16)
          (fun g => ⟨[(0, .val (.slv p n cp)), (3, .val v1), (4, .val (.osl 1 0 (md + 1) 1 none)), (5, .val (.int .i64 (.nat i))), (6, .val (.int .u8 (.nat v))), (7, .val (.own 2 0)), (8, .val (eV 3 ((R1.take g.1).foldl (stP (hz, x)) (false, [])).2.length 2)), (9, .val (.bool (.v ((R1.take g.1).foldl (stP (hz, x)) (false, [])).1))), (14, .val (.int .i64 (.nat n))), (15, .val (.int .i64 (.nat i))), (48, .val (.int .i64 (.nat m1))), (49, .val (.int .i64 (.nat g.1)))], [⟨true, c1, none⟩, ⟨true, cd2, none⟩, ⟨true, [.int .u64 (.v hz), .int .u8 (.v x)], none⟩, ⟨true, ptsL ((R1.take g.1).foldl (stP (hz, x)) (false, [])).2, none⟩]⟩) (fun g => m1 - g.1) (fun _ => ⟨rfl, rfl, rfl, rfl⟩) (fun N ac w' hN hf hS => ⟨⟨0, Nat.zero_le _⟩, ?_⟩) (fun g q3 hq3 => ?_)
        · exact At.again hf hS (by repeat first | exact trivial | refine ⟨⟨_, rfl, .inl ⟨rfl, by first | rfl | assumption⟩⟩, ?_⟩ | refine ⟨⟨_, rfl, .inr ⟨_, rfl, rfl⟩⟩, ?_⟩ | refine ⟨⟨_, rfl, .inr ⟨_, rfl, by simp (disch := omega) [SV.den, SI.den, wrapU, wrapD] <;> omega⟩⟩, ?_⟩ | refine ⟨⟨_, rfl, .inr ⟨_, rfl, by simp [SV.den, SI.den, IntKind.wrap, IntKind.bits, IntKind.signed] <;> omega⟩⟩, ?_⟩) ⟨fun h => h, SubC.refl (hc1b _), rfl, fun h => h, SubC.refl (hcd2d _), rfl, fun h => h, SubC.refl rfl, rfl, fun h => h, trivial, rfl, trivial⟩
        obtain ⟨k, hk⟩ := g
        show X (mkE Try.prog Try.f16 Q w (InR [] []) (elsewhere [] [] w) (fun _ _ => False) (fun _ => True) [] B16) _ ⟨[(0, .val (.slv p n cp)), (3, .val v1), (4, .val (.osl 1 0 (md + 1) 1 none)), (5, .val (.int .i64 (.nat i))), (6, .val (.int .u8 (.nat v))), (7, .val (.own 2 0)), (8, .val (eV 3 ((R1.take k).foldl (stP (hz, x)) (false, [])).2.length 2)), (9, .val (.bool (.v ((R1.take k).foldl (stP (hz, x)) (false, [])).1))), (14, .val (.int .i64 (.nat n))), (15, .val (.int .i64 (.nat i))), (48, .val (.int .i64 (.nat m1))), (49, .val (.int .i64 (.nat k)))], [⟨true, c1, none⟩, ⟨true, cd2, none⟩, ⟨true, [.int .u64 (.v hz), .int .u8 (.v x)], none⟩, ⟨true, ptsL ((R1.take k).foldl (stP (hz, x)) (false, [])).2, none⟩]⟩
        obtain ⟨pt, hpt⟩ : ∃ b, b = ((R1.take k).foldl (stP (hz, x)) (false, [])).1 := ⟨_, rfl⟩
        obtain ⟨R2, hR2⟩ : ∃ r, r = ((R1.take k).foldl (stP (hz, x)) (false, [])).2 := ⟨_, rfl⟩
        obtain ⟨m2, hm2⟩ : ∃ m, m = R2.length := ⟨_, rfl⟩
        have hm28 : m2 ≤ 2 * k := by
          have := stP_len (hz, x) (R1.take k) false []
          rw [← hR2, ← hm2] at this
          simp at this
          omega
        obtain ⟨v2, hv2⟩ : ∃ v, v = eV 3 m2 2 := ⟨_, rfl⟩
        obtain ⟨c2, hc2⟩ : ∃ c, c = ptsL R2 := ⟨_, rfl⟩
        have hv2b : bd 4 v2 = true := by rw [hv2]; exact eV_bd (by decide)
        have hc2b : ∀ m, c2.all (bd m) = true := fun m => by rw [hc2]; exact ptsL_bd
        have hc1f : ∀ a b, c1.all (SV.frr a b) = true := fun a b => by rw [hc1]; exact ptsL_frr
        have hcd2f : ∀ a b, cd2.all (SV.frr a b) = true := fun a b => by rw [hcd2b]; exact bytL_frr
        rw [← hpt, ← hR2, ← hm2, ← hv2, ← hc2]
        refine X.go T16_ok 400 _ rfl Try.results16 ?_
        conv => arg 2; cbv
        refine X.cond rfl (fun hltk => ?_) (fun hgek => ?_)
        · simp only [SB.T, SI.den] at hltk
          have hltk : k < m1 := by omega
          obtain ⟨y1, hy1⟩ : ∃ y, y = R1[k]! := ⟨_, rfl⟩
          obtain ⟨ok, hok⟩ : ∃ o, o = k * 2 := ⟨_, rfl⟩
          obtain ⟨ls, hls⟩ : ∃ b, b = ltOf cfP (hz, x) y1 := ⟨_, rfl⟩
          have hfold : (R1.take (k + 1)).foldl (stP (hz, x)) (false, []) = stP (hz, x) (pt, R2) y1 := by
            rw [List.take_add_one, List.getElem?_eq_getElem (by omega), Option.toList_some, List.foldl_append, hpt, hR2, hy1, getElem!_pos R1 k (by omega)]
            rfl
          have hPr := ptsL_rowAt hc1 (show k < R1.length by omega) hy1 hok
          refine X.goP ([(58, .own 0 ok), (59, .agg [.int .u64 (.v y1.1), .int .u8 (.v y1.2)]), (60, .bool (.v ls))]) T16_ok 400 _ rfl Try.results16 (fun pr fin hpr hfin => ?_)
          conv => cbv
          refine ⟨hpr _ (.of Try.call46 [.agg #[.int .u64 hz, .int .u8 x], .agg #[.int .u64 y1.1, .int .u8 y1.2]] (.bool ls) (fun _ => rfl) (fun _ => rfl) fun _ w1 _ => by rw [hls]; exact less9_ok (hz, x) y1 w1), hpr _ (vk_loadRow (z := 2) (row := [.int .u64 (.v y1.1), .int .u8 (.v y1.2)]) rfl Try.isAgg52 Try.sizeOf52 rfl rfl hPr), hpr _ (vk_osl (z := k) rfl (.inr (.inl hv1)) rfl (fun _ => rfl) Try.underlying27 Try.sizeOf52 (fun _ => hltk) (by omega) (Nat.lt_of_sub_eq_succ rfl)), hfin _ _ ?_⟩
          have hv1f : v1.frr 5 3 = true := by rw [hv1]; exact eV_frr (by decide) (by decide)
          have hv1f6 : v1.frr 6 3 = true := by rw [hv1]; exact eV_frr (by decide) (by decide)
          refine X.cond rfl (fun hput => ?_) (fun hput => ?_)
          · simp only [SB.T, SB.F] at hput
            have hst : stP (hz, x) (pt, R2) y1 = (true, R2 ++ [(hz, x)] ++ [y1]) := by simp [stP, hput.1, ← hls, hput.2]
            refine X.go T16_ok 5 _ rfl Try.results16 ?_
            conv => arg 2; cbv
            refine X.appG (T := T16) (te := ti52) (r := 3) (n := m2) (m := 1) (cs := c2) (new := [.int .u64 (.v hz), .int .u8 (.v x)]) T16_ok rfl [0, 3, 4, 5, 6, 7, 10, 14, 15, 48, 49, 65] rfl rfl rfl rfl rfl rfl rfl rfl (.inr (.inl hv2)) rfl (by rw [hc2, ptsL_len]; show _ = _ * 2; first | omega | (simp only [List.length_append, List.length_singleton]; omega)) (by decide) (appSrc_row (g := ⟨true, [.int .u64 (.v hz), .int .u8 (.v x)], none⟩) rfl rfl rfl rfl) (appOk_ok (by decide) rfl rfl rfl (by show (2 * (m2 + 1) + 256) * _ ≤ _; simp only [ti52]; omega) (by omega)) rfl rfl rfl (by repeat first | exact trivial | refine ⟨rfl, ?_⟩ | refine ⟨by assumption, ?_⟩) ⟨.inr (hc1f _ _), .inr (hcd2f _ _), .inr rfl, .inl rfl, .inr rfl, trivial⟩ (by rw [hc2, show ([.int .u64 (.v hz), .int .u8 (.v x)] : List SV) = ptS (hz, x) from rfl, ← ptsL_add]; exact ptsL_frr) rfl ?_
            obtain ⟨c3, hc3⟩ : ∃ c, c = c2 ++ [.int .u64 (.v hz), .int .u8 (.v x)] := ⟨_, rfl⟩
            have hc3b : c3 = ptsL (R2 ++ [(hz, x)]) := by rw [hc3, hc2, ptsL_add]; rfl
            show X (mkE Try.prog Try.f16 Q w (InR [] []) (elsewhere [] [] w) (fun _ _ => False) (fun _ => True) [] B16) _ ⟨_, [⟨true, c1, none⟩, ⟨true, cd2, none⟩, ⟨true, [.int .u64 (.v hz), .int .u8 (.v x)], none⟩, ⟨true, c2 ++ [.int .u64 (.v hz), .int .u8 (.v x)], none⟩, ⟨true, [.int .u64 (.v hz), .int .u8 (.v x)], none⟩]⟩
            rw [← hc3]
            refine X.goP ([(69, .own 0 ok), (70, .agg [.int .u64 (.v y1.1), .int .u8 (.v y1.2)])]) T16_ok 12 _ rfl Try.results16 (fun pr fin hpr hfin => ?_)
            conv => cbv
            refine ⟨hpr _ (vk_loadRow (z := 2) (row := [.int .u64 (.v y1.1), .int .u8 (.v y1.2)]) rfl Try.isAgg52 Try.sizeOf52 rfl rfl hPr), hpr _ (vk_osl (z := k) rfl (.inr (.inl hv1)) rfl (fun _ => rfl) Try.underlying27 Try.sizeOf52 (fun _ => hltk) (by omega) (Nat.lt_of_sub_eq_succ rfl)), hfin _ _ ?_⟩
            refine X.appG (T := T16) (te := ti52) (r := 3) (n := (m2 + 1)) (m := 1) (cs := c3) (new := [.int .u64 (.v y1.1), .int .u8 (.v y1.2)]) T16_ok rfl [0, 3, 4, 5, 6, 7, 9, 14, 15, 48, 49, 72] rfl rfl rfl rfl rfl rfl rfl rfl (.inr (.inl rfl)) rfl (by rw [hc3b, ptsL_len]; show _ = _ * 2; first | omega | (simp only [List.length_append, List.length_singleton]; omega)) (by decide) (appSrc_row (g := ⟨true, [.int .u64 (.v y1.1), .int .u8 (.v y1.2)], none⟩) rfl rfl rfl rfl) (appOk_ok (by decide) rfl rfl rfl (by show (2 * ((m2 + 1) + 1) + 256) * _ ≤ _; simp only [ti52]; omega) (by omega)) rfl rfl rfl (by repeat first | exact trivial | refine ⟨rfl, ?_⟩ | refine ⟨by assumption, ?_⟩) ⟨.inr (hc1f _ _), .inr (hcd2f _ _), .inr rfl, .inl rfl, .inr rfl, .inr rfl, trivial⟩ (by rw [hc3b, show ([.int .u64 (.v y1.1), .int .u8 (.v y1.2)] : List SV) = ptS y1 from rfl, ← ptsL_add]; exact ptsL_frr) rfl ?_
            obtain ⟨c4, hc4⟩ : ∃ c, c = c3 ++ [.int .u64 (.v y1.1), .int .u8 (.v y1.2)] := ⟨_, rfl⟩
            have hc4b : c4 = ptsL (R2 ++ [(hz, x)] ++ [y1]) := by rw [hc4, hc3b]; exact (ptsL_add _ y1).symm
            show X (mkE Try.prog Try.f16 Q w (InR [] []) (elsewhere [] [] w) (fun _ _ => False) (fun _ => True) [] B16) _ ⟨_, [⟨true, c1, none⟩, ⟨true, cd2, none⟩, ⟨true, [.int .u64 (.v hz), .int .u8 (.v x)], none⟩, ⟨true, c3 ++ [.int .u64 (.v y1.1), .int .u8 (.v y1.2)], none⟩, ⟨true, [.int .u64 (.v hz), .int .u8 (.v x)], none⟩, ⟨true, [.int .u64 (.v y1.1), .int .u8 (.v y1.2)], none⟩]⟩
            rw [← hc4]
            have hc4d : ∀ m, c4.all (bd m) = true := fun m => by rw [hc4b]; exact ptsL_bd
            refine X.go T16_ok 400 _ rfl Try.results16 ?_
            conv => arg 2; cbv
            refine X.back (fun N ac w' hN hf hS => hq3 ⟨k + 1, hltk⟩ ac w' (by simp only; omega) ?_)
            show At (mkE Try.prog Try.f16 Q w (InR [] []) (elsewhere [] [] w) (fun _ _ => False) (fun _ => True) [] B16) ⟨[(0, .val (.slv p n cp)), (3, .val v1), (4, .val (.osl 1 0 (md + 1) 1 none)), (5, .val (.int .i64 (.nat i))), (6, .val (.int .u8 (.nat v))), (7, .val (.own 2 0)), (8, .val (eV 3 ((R1.take (k + 1)).foldl (stP (hz, x)) (false, [])).2.length 2)), (9, .val (.bool (.v ((R1.take (k + 1)).foldl (stP (hz, x)) (false, [])).1))), (14, .val (.int .i64 (.nat n))), (15, .val (.int .i64 (.nat i))), (48, .val (.int .i64 (.nat m1))), (49, .val (.int .i64 (.nat (k + 1))))], [⟨true, c1, none⟩, ⟨true, cd2, none⟩, ⟨true, [.int .u64 (.v hz), .int .u8 (.v x)], none⟩, ⟨true, ptsL ((R1.take (k + 1)).foldl (stP (hz, x)) (false, [])).2, none⟩]⟩ ac w'
            have hl : (R2 ++ [(hz, x)] ++ [y1]).length = m2 + 1 + 1 := by simp [hm2]
            rw [hfold, hst, hl, ← hc4b]
            exact At.again hf hS (by repeat first | exact trivial | refine ⟨⟨_, rfl, .inl ⟨rfl, by first | rfl | assumption⟩⟩, ?_⟩ | refine ⟨⟨_, rfl, .inr ⟨_, rfl, rfl⟩⟩, ?_⟩ | refine ⟨⟨_, rfl, .inr ⟨_, rfl, by simp (disch := omega) [SV.den, SI.den, wrapU, wrapD] <;> omega⟩⟩, ?_⟩ | refine ⟨⟨_, rfl, .inr ⟨_, rfl, by simp [SV.den, SI.den, IntKind.wrap, IntKind.bits, IntKind.signed] <;> omega⟩⟩, ?_⟩) ⟨fun h => h, SubC.refl (hc1b _), rfl, fun h => h, SubC.refl (hcd2d _), rfl, fun h => h, SubC.refl rfl, rfl, fun h => h, SubC.refl (hc4d _), rfl, trivial⟩
          · simp only [SB.T, SB.F] at hput
            have hst : stP (hz, x) (pt, R2) y1 = (pt, R2 ++ [y1]) := by rcases hput with h | h <;> simp [stP, h, ← hls]
            refine X.goP ([(69, .own 0 ok), (70, .agg [.int .u64 (.v y1.1), .int .u8 (.v y1.2)])]) T16_ok 8 _ rfl Try.results16 (fun pr fin hpr hfin => ?_)
            conv => cbv
            refine ⟨hpr _ (vk_loadRow (z := 2) (row := [.int .u64 (.v y1.1), .int .u8 (.v y1.2)]) rfl Try.isAgg52 Try.sizeOf52 rfl rfl hPr), hpr _ (vk_osl (z := k) rfl (.inr (.inl hv1)) rfl (fun _ => rfl) Try.underlying27 Try.sizeOf52 (fun _ => hltk) (by omega) (Nat.lt_of_sub_eq_succ rfl)), hfin _ _ ?_⟩
            refine X.appG (T := T16) (te := ti52) (r := 3) (n := m2) (m := 1) (cs := c2) (new := [.int .u64 (.v y1.1), .int .u8 (.v y1.2)]) T16_ok rfl [0, 3, 4, 5, 6, 7, 9, 14, 15, 48, 49, 72] rfl rfl rfl rfl rfl rfl rfl rfl (.inr (.inl hv2)) rfl (by rw [hc2, ptsL_len]; show _ = _ * 2; first | omega | (simp only [List.length_append, List.length_singleton]; omega)) (by decide) (appSrc_row (g := ⟨true, [.int .u64 (.v y1.1), .int .u8 (.v y1.2)], none⟩) rfl rfl rfl rfl) (appOk_ok (by decide) rfl rfl rfl (by show (2 * (m2 + 1) + 256) * _ ≤ _; simp only [ti52]; omega) (by omega)) rfl rfl rfl (by repeat first | exact trivial | refine ⟨rfl, ?_⟩ | refine ⟨by assumption, ?_⟩) ⟨.inr (hc1f _ _), .inr (hcd2f _ _), .inr rfl, .inl rfl, .inr rfl, trivial⟩ (by rw [hc2, show ([.int .u64 (.v y1.1), .int .u8 (.v y1.2)] : List SV) = ptS y1 from rfl, ← ptsL_add]; exact ptsL_frr) rfl ?_
            obtain ⟨c4, hc4⟩ : ∃ c, c = c2 ++ [.int .u64 (.v y1.1), .int .u8 (.v y1.2)] := ⟨_, rfl⟩
            have hc4b : c4 = ptsL (R2 ++ [y1]) := by rw [hc4, hc2]; exact (ptsL_add _ y1).symm
            show X (mkE Try.prog Try.f16 Q w (InR [] []) (elsewhere [] [] w) (fun _ _ => False) (fun _ => True) [] B16) _ ⟨_, [⟨true, c1, none⟩, ⟨true, cd2, none⟩, ⟨true, [.int .u64 (.v hz), .int .u8 (.v x)], none⟩, ⟨true, c2 ++ [.int .u64 (.v y1.1), .int .u8 (.v y1.2)], none⟩, ⟨true, [.int .u64 (.v y1.1), .int .u8 (.v y1.2)], none⟩]⟩
            rw [← hc4]
            have hc4d : ∀ m, c4.all (bd m) = true := fun m => by rw [hc4b]; exact ptsL_bd
            refine X.go T16_ok 400 _ rfl Try.results16 ?_
            conv => arg 2; cbv
            refine X.back (fun N ac w' hN hf hS => hq3 ⟨k + 1, hltk⟩ ac w' (by simp only; omega) ?_)
            show At (mkE Try.prog Try.f16 Q w (InR [] []) (elsewhere [] [] w) (fun _ _ => False) (fun _ => True) [] B16) ⟨[(0, .val (.slv p n cp)), (3, .val v1), (4, .val (.osl 1 0 (md + 1) 1 none)), (5, .val (.int .i64 (.nat i))), (6, .val (.int .u8 (.nat v))), (7, .val (.own 2 0)), (8, .val (eV 3 ((R1.take (k + 1)).foldl (stP (hz, x)) (false, [])).2.length 2)), (9, .val (.bool (.v ((R1.take (k + 1)).foldl (stP (hz, x)) (false, [])).1))), (14, .val (.int .i64 (.nat n))), (15, .val (.int .i64 (.nat i))), (48, .val (.int .i64 (.nat m1))), (49, .val (.int .i64 (.nat (k + 1))))], [⟨true, c1, none⟩, ⟨true, cd2, none⟩, ⟨true, [.int .u64 (.v hz), .int .u8 (.v x)], none⟩, ⟨true, ptsL ((R1.take (k + 1)).foldl (stP (hz, x)) (false, [])).2, none⟩]⟩ ac w'
            have hl : (R2 ++ [y1]).length = m2 + 1 := by simp [hm2]
            rw [hfold, hst, hl, ← hc4b]
            exact At.again hf hS (by repeat first | exact trivial | refine ⟨⟨_, rfl, .inl ⟨rfl, by first | rfl | assumption⟩⟩, ?_⟩ | refine ⟨⟨_, rfl, .inr ⟨_, rfl, rfl⟩⟩, ?_⟩ | refine ⟨⟨_, rfl, .inr ⟨_, rfl, by simp (disch := omega) [SV.den, SI.den, wrapU, wrapD] <;> omega⟩⟩, ?_⟩ | refine ⟨⟨_, rfl, .inr ⟨_, rfl, by simp [SV.den, SI.den, IntKind.wrap, IntKind.bits, IntKind.signed] <;> omega⟩⟩, ?_⟩) ⟨fun h => h, SubC.refl (hc1b _), rfl, fun h => h, SubC.refl (hcd2d _), rfl, fun h => h, SubC.refl rfl, rfl, fun h => h, SubC.refl (hc4d _), rfl, trivial⟩
        · simp only [SB.F, SI.den] at hgek
          have hk1 : R1.take k = R1 := List.take_of_length_le (by omega)
          have hend := stP_end (hz, x) R1 false []
          simp only [Bool.false_eq_true, if_false, List.nil_append] at hend
          rw [hk1] at hpt hR2
          rw [← hpt, ← hR2] at hend
          have hins : insAll (D.flatMap ptsOf ++ ptsTo x (v + 1)) = if pt = true then R2 else R2 ++ [(hz, x)] := by
            rw [ptsTo_succ, ← List.append_assoc, insAll_snoc, ← hR1, ← hhz, hend]
          have hlen1 : (insAll (D.flatMap ptsOf ++ ptsTo x (v + 1))).length = mr + (v + 1) := by
            rw [insAll_len, List.length_append, fl8, ptsTo_len, ← hmd, hmr8]
          refine X.go T16_ok 400 _ rfl Try.results16 ?_
          conv => arg 2; cbv
          refine X.cond rfl (fun hno => ?_) (fun hyes => ?_)
          · simp only [SB.T, SB.F] at hno
            rw [if_neg (by simp [hno])] at hins
            refine X.go T16_ok 4 _ rfl Try.results16 ?_
            conv => arg 2; cbv
            refine X.appG (T := T16) (te := ti52) (r := 3) (n := m2) (m := 1) (cs := c2) (new := [.int .u64 (.v hz), .int .u8 (.v x)]) T16_ok rfl [0, 4, 5, 6, 14, 15, 79] rfl rfl rfl rfl rfl rfl rfl rfl (.inr (.inl hv2)) rfl (by rw [hc2, ptsL_len]; show _ = _ * 2; first | omega | (simp only [List.length_append, List.length_singleton]; omega)) (by decide) (appSrc_row (g := ⟨true, [.int .u64 (.v hz), .int .u8 (.v x)], none⟩) rfl rfl rfl rfl) (appOk_ok (by decide) rfl rfl rfl (by show (2 * (m2 + 1) + 256) * _ ≤ _; simp only [ti52]; omega) (by omega)) rfl rfl rfl (by repeat first | exact trivial | refine ⟨rfl, ?_⟩ | refine ⟨by assumption, ?_⟩) ⟨.inr (hc1f _ _), .inr (hcd2f _ _), .inr rfl, .inl rfl, .inr rfl, trivial⟩ (by rw [hc2, show ([.int .u64 (.v hz), .int .u8 (.v x)] : List SV) = ptS (hz, x) from rfl, ← ptsL_add]; exact ptsL_frr) rfl ?_
            obtain ⟨c3, hc3⟩ : ∃ c, c = c2 ++ [.int .u64 (.v hz), .int .u8 (.v x)] := ⟨_, rfl⟩
            have hc3b : c3 = ptsL (insAll (D.flatMap ptsOf ++ ptsTo x (v + 1))) := by rw [hc3, hc2, hins, ptsL_add]; rfl
            have hm3 : m2 + 1 = mr + (v + 1) := by rw [← hlen1, hins, hm2]; simp
            show X (mkE Try.prog Try.f16 Q w (InR [] []) (elsewhere [] [] w) (fun _ _ => False) (fun _ => True) [] B16) _ ⟨_, [⟨true, c1, none⟩, ⟨true, cd2, none⟩, ⟨true, [.int .u64 (.v hz), .int .u8 (.v x)], none⟩, ⟨true, c2 ++ [.int .u64 (.v hz), .int .u8 (.v x)], none⟩, ⟨true, [.int .u64 (.v hz), .int .u8 (.v x)], none⟩]⟩
            rw [← hc3]
            refine X.go T16_ok 400 _ rfl Try.results16 ?_
            conv => arg 2; cbv
            refine X.less [0, 3, 4, 5, 6, 14, 15] ?_
            have hw8 : IntKind.u8.wrap ((v : Int) + 1) = ((v + 1 : Nat) : Int) := wrapP (v := v + 1) (by omega)
            refine X.keep rfl [3, 1] (by decide) [(6, .val (.int .u8 (.nat (v + 1)))), (3, .val (eV 0 (mr + (v + 1)) 2)), (0, .val (.slv p n cp)), (4, .val (.osl 1 0 (md + 1) 1 none)), (5, .val (.int .i64 (.nat i))), (14, .val (.int .i64 (.nat n))), (15, .val (.int .i64 (.nat i)))] [⟨true, c3, none⟩, ⟨true, cd2, none⟩] rfl (fun i r h => by match i, h with | 0, h => cases h; rfl | 1, h => cases h; rfl | i + 2, h => simp at h) (fun N N' _ _ hg => ⟨rfl, fun z h => by rw [← h]; simp only [SV.den, SI.den, hw8], rfl, fun z h => by rw [← hm3]; exact eV_ren (n := m2 + 1) (hg 0 3 rfl) z h, rfl, fun _ h => h, rfl, fun z h => by have := hg 1 1 rfl; simpa only [SV.den, this] using h, rfl, fun _ h => h, rfl, fun _ h => h, rfl, fun _ h => h, trivial⟩) (fun g hg c hc N N' v hv => ?_) (fun g hg => ?_) ?_
            · simp only [List.mem_cons, List.not_mem_nil, or_false] at hg
              rcases hg with rfl | rfl
              · exact ptsL_den (by rw [← hc3b]; exact hc) hv
              · exact bytL_den (by rw [← hcd2b]; exact hc) hv
            · simp only [List.mem_cons, List.not_mem_nil, or_false] at hg
              rcases hg with rfl | rfl <;> rfl
            refine X.back (fun N ac w' hN hf hS => hq2 ⟨v + 1, hlt8⟩ ac w' (by simp only; omega) ?_)
            show At (mkE Try.prog Try.f16 Q w (InR [] []) (elsewhere [] [] w) (fun _ _ => False) (fun _ => True) [] B16) ⟨[(0, .val (.slv p n cp)), (3, .val (eV 0 (mr + (v + 1)) 2)), (4, .val (.osl 1 0 (md + 1) 1 none)), (5, .val (.int .i64 (.nat i))), (6, .val (.int .u8 (.nat (v + 1)))), (14, .val (.int .i64 (.nat n))), (15, .val (.int .i64 (.nat i)))], [⟨true, ptsL (insAll (D.flatMap ptsOf ++ ptsTo x (v + 1))), none⟩, ⟨true, cd2, none⟩]⟩ ac w'
            rw [← hc3b]
            have hvb : bd 2 (eV 0 (mr + (v + 1)) 2) = true := eV_bd (by decide)
            have hcb : ∀ m, c3.all (bd m) = true := fun m => by rw [hc3b]; exact ptsL_bd
            exact At.again hf hS (by repeat first | exact trivial | refine ⟨⟨_, rfl, .inl ⟨rfl, by first | rfl | assumption⟩⟩, ?_⟩ | refine ⟨⟨_, rfl, .inr ⟨_, rfl, rfl⟩⟩, ?_⟩ | refine ⟨⟨_, rfl, .inr ⟨_, rfl, by simp (disch := omega) [SV.den, SI.den, wrapU, wrapD] <;> omega⟩⟩, ?_⟩ | refine ⟨⟨_, rfl, .inr ⟨_, rfl, by simp [SV.den, SI.den, IntKind.wrap, IntKind.bits, IntKind.signed] <;> omega⟩⟩, ?_⟩) ⟨fun h => h, SubC.refl (hcb _), rfl, fun h => h, SubC.refl (hcd2d _), rfl, trivial⟩
          · simp only [SB.T, SB.F] at hyes
            have hyes : pt = true := by simpa using hyes
            rw [if_pos hyes] at hins
            have hm3 : m2 = mr + (v + 1) := by rw [← hlen1, hins, hm2]
            have hc2b : c2 = ptsL (insAll (D.flatMap ptsOf ++ ptsTo x (v + 1))) := by rw [hc2, hins]
            refine X.go T16_ok 400 _ rfl Try.results16 ?_
            conv => arg 2; cbv
            refine X.less [0, 3, 4, 5, 6, 14, 15] ?_
            have hw8 : IntKind.u8.wrap ((v : Int) + 1) = ((v + 1 : Nat) : Int) := wrapP (v := v + 1) (by omega)
            refine X.keep rfl [3, 1] (by decide) [(6, .val (.int .u8 (.nat (v + 1)))), (3, .val (eV 0 (mr + (v + 1)) 2)), (0, .val (.slv p n cp)), (4, .val (.osl 1 0 (md + 1) 1 none)), (5, .val (.int .i64 (.nat i))), (14, .val (.int .i64 (.nat n))), (15, .val (.int .i64 (.nat i)))] [⟨true, c2, none⟩, ⟨true, cd2, none⟩] rfl (fun i r h => by match i, h with | 0, h => cases h; rfl | 1, h => cases h; rfl | i + 2, h => simp at h) (fun N N' _ _ hg => ⟨rfl, fun z h => by rw [← h]; simp only [SV.den, SI.den, hw8], rfl, fun z h => by rw [← hm3]; rw [hv2] at h; exact eV_ren (hg 0 3 rfl) z h, rfl, fun _ h => h, rfl, fun z h => by have := hg 1 1 rfl; simpa only [SV.den, this] using h, rfl, fun _ h => h, rfl, fun _ h => h, rfl, fun _ h => h, trivial⟩) (fun g hg c hc N N' v hv => ?_) (fun g hg => ?_) ?_
            · simp only [List.mem_cons, List.not_mem_nil, or_false] at hg
              rcases hg with rfl | rfl
              · exact ptsL_den (by rw [← hc2b]; exact hc) hv
              · exact bytL_den (by rw [← hcd2b]; exact hc) hv
            · simp only [List.mem_cons, List.not_mem_nil, or_false] at hg
              rcases hg with rfl | rfl <;> rfl
            refine X.back (fun N ac w' hN hf hS => hq2 ⟨v + 1, hlt8⟩ ac w' (by simp only; omega) ?_)
            show At (mkE Try.prog Try.f16 Q w (InR [] []) (elsewhere [] [] w) (fun _ _ => False) (fun _ => True) [] B16) ⟨[(0, .val (.slv p n cp)), (3, .val (eV 0 (mr + (v + 1)) 2)), (4, .val (.osl 1 0 (md + 1) 1 none)), (5, .val (.int .i64 (.nat i))), (6, .val (.int .u8 (.nat (v + 1)))), (14, .val (.int .i64 (.nat n))), (15, .val (.int .i64 (.nat i)))], [⟨true, ptsL (insAll (D.flatMap ptsOf ++ ptsTo x (v + 1))), none⟩, ⟨true, cd2, none⟩]⟩ ac w'
            rw [← hc2b]
            have hvb : bd 2 (eV 0 (mr + (v + 1)) 2) = true := eV_bd (by decide)
            have hcb : ∀ m, c2.all (bd m) = true := fun m => by rw [hc2b]; exact ptsL_bd
            exact At.again hf hS (by repeat first | exact trivial | refine ⟨⟨_, rfl, .inl ⟨rfl, by first | rfl | assumption⟩⟩, ?_⟩ | refine ⟨⟨_, rfl, .inr ⟨_, rfl, rfl⟩⟩, ?_⟩ | refine ⟨⟨_, rfl, .inr ⟨_, rfl, by simp (disch := omega) [SV.den, SI.den, wrapU, wrapD] <;> omega⟩⟩, ?_⟩ | refine ⟨⟨_, rfl, .inr ⟨_, rfl, by simp [SV.den, SI.den, IntKind.wrap, IntKind.bits, IntKind.signed] <;> omega⟩⟩, ?_⟩) ⟨fun h => h, SubC.refl (hcb _), rfl, fun h => h, SubC.refl (hcd2d _), rfl, trivial⟩
      · simp only [SB.F, SI.den] at hge8
        have hv8 : v = 8 := by omega
        have hRe : insAll ((D ++ [x]).flatMap ptsOf) = R1 := by
          rw [hR1, hv8, List.flatMap_append]
          simp [ptsOf]
        refine X.go T16_ok 400 _ rfl Try.results16 ?_
        conv => arg 2; cbv
        refine X.back (fun N ac w' hN hf hS => hq ⟨i + 1, hlt⟩ ac w' (by simp only; omega) ?_)
        show At (mkE Try.prog Try.f16 Q w (InR [] []) (elsewhere [] [] w) (fun _ _ => False) (fun _ => True) [] B16) ⟨[(0, .val (.slv p n cp)), (3, .val (eV 0 (insAll ((dd (d.toList.take (i + 1)) []).flatMap ptsOf)).length 2)), (4, .val (eV 1 (dd (d.toList.take (i + 1)) []).length 1)), (14, .val (.int .i64 (.nat n))), (15, .val (.int .i64 (.nat (i + 1))))], [⟨true, ptsL (insAll ((dd (d.toList.take (i + 1)) []).flatMap ptsOf)), none⟩, ⟨true, bytL (dd (d.toList.take (i + 1)) []), none⟩]⟩ ac w'
        rw [hsn, hRe, hR1l, ← hv1, ← hc1, List.length_append, ← hmd, ← hcd2b]
        exact At.again hf hS (by repeat first | exact trivial | refine ⟨⟨_, rfl, .inl ⟨rfl, by first | rfl | assumption⟩⟩, ?_⟩ | refine ⟨⟨_, rfl, .inr ⟨_, rfl, rfl⟩⟩, ?_⟩ | refine ⟨⟨_, rfl, .inr ⟨_, rfl, by simp (disch := omega) [SV.den, SI.den, wrapU, wrapD] <;> omega⟩⟩, ?_⟩ | refine ⟨⟨_, rfl, .inr ⟨_, rfl, by simp [SV.den, SI.den, IntKind.wrap, IntKind.bits, IntKind.signed] <;> omega⟩⟩, ?_⟩) ⟨fun h => h, SubC.refl (by rw [hc1]; exact ptsL_bd), rfl, fun h => h, SubC.refl (hcd2d _), rfl, trivial⟩
  · simp only [SB.F, SI.den] at hge
    have hall : d.toList.take i = d.toList := List.take_of_length_le (by simp; omega)
    have hRe : R = ringP d := by rw [hR, hD, hall, insAll_ring]
    refine X.go T16_ok 400 _ rfl Try.results16 ?_
    conv => arg 2; cbv
    refine X.done T16_ok rfl (fun N w' v hN hS hv => ?_)
    rw [hQ, ← hRe, ← hcr, ← hmr]
    refine roR_of hS (r := 0) (z := 2) rfl (fun c hc N N' v h => ptsL_den (by rw [← hcr]; exact hc) h) (by rw [← hvr]; exact hv)

end Go.Proofs.Ythaffebapmkppaa
