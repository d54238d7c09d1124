/- The ring: keepers. -/
import Derived.Test.YthaffebapmkppaaRi6

namespace Go.Proofs.Ythaffebapmkppaa
open Go Go.Eng Go.Sort

/-- the keepers that a walk along the ring finds -/
def keepGo (R : Nat → Int) (many : Int) : Nat → Nat → List Int → List Int
  | 0, _, out => out
  | k + 1, i, out => if many ≤ out.length then out else keepGo R many k (i + 1) (if R i ∈ out then out else out ++ [R i])
def nodeAt (L : List (Int × Int)) (s i : Nat) : Int := L[(s + i) % L.length]!.2
def keepL (L : List (Int × Int)) (key many : Int) : List Int := keepGo (nodeAt L (atP L (keyZ key))) many L.length 0 []

/-- bytes that are new -/
def BytRet (l : List Int) (w : World) (e : Ending) (w' : World) : Prop :=
  ∃ p c, e = .returned (.slice p l.length c) ∧ l.length ≤ c ∧ (l = [] ∧ p = none ∧ c = 0 ∨ l ≠ [] ∧ ∃ b o, p = some ⟨b, o, none⟩ ∧ w.heap.size ≤ b ∧ AtA w' b o l.toArray) ∧ Chg (fun _ _ => False) w w'

def bytL (l : List Int) : List SV := l.map fun x => .int .u8 (.v x)
def outV (l : List Int) : SV := match l with | [] => .raw (.slice none 0 0) | _ :: _ => .osl 3 0 l.length 1 none
def outR (l : List Int) : List Rg := match l with | [] => [] | _ :: _ => [⟨true, bytL l, none⟩]
theorem outV_pos {l : List Int} (h : l ≠ []) : outV l = .osl 3 0 l.length 1 none := by cases l with | nil => exact absurd rfl h | cons => rfl
theorem outR_pos {l : List Int} (h : l ≠ []) : outR l = [⟨true, bytL l, none⟩] := by cases l with | nil => exact absurd rfl h | cons => rfl
theorem bytL_bd {l : List Int} {m : Nat} : (bytL l).all (bd m) = true := List.all_eq_true.2 fun c hc => by
  obtain ⟨x, _, rfl⟩ := List.mem_map.1 hc; rfl
theorem bytL_den {l : List Int} {c : SV} {N N' : Nums} {v : Value} (h : c ∈ bytL l) (hv : c.den N = some v) : c.den N' = some v := by
  obtain ⟨x, _, rfl⟩ := List.mem_map.1 h; exact hv
theorem bytL_len (l : List Int) : (bytL l).length = l.length := by simp [bytL]

def hadB (l : List Int) (x : Nat) : Bool := decide ((x : Int) ∈ l)
def hadL (l : List Int) : List SV := (List.range 256).map fun x => .bool (.v (hadB l x))
theorem hadL_len (l : List Int) : (hadL l).length = 256 := by simp [hadL]
theorem hadL_at (l : List Int) {x : Nat} (h : x < 256) : (hadL l)[x]? = some (.bool (.v (hadB l x))) := by simp [hadL, h]
theorem hadL_get {l : List Int} {x : Nat} {c : SV} (h : (hadL l)[x]? = some c) : x < 256 ∧ c = .bool (.v (hadB l x)) := by
  have hx : x < 256 := by
    have := (List.getElem?_eq_some_iff.1 h).1
    rwa [hadL_len] at this
  rw [hadL_at l hx] at h
  exact ⟨hx, (Option.some.inj h).symm⟩
theorem hadL_bd {l : List Int} {m : Nat} : (hadL l).all (bd m) = true := List.all_eq_true.2 fun c hc => by
  obtain ⟨x, _, rfl⟩ := List.mem_map.1 hc; rfl
theorem hadL_den {l : List Int} {c : SV} {N N' : Nums} {v : Value} (h : c ∈ hadL l) (hv : c.den N = some v) : c.den N' = some v := by
  obtain ⟨x, _, rfl⟩ := List.mem_map.1 h; exact hv

/-- what the walk has come to -/
structure KG (m : Nat) (R : Nat → Int) (many : Int) (F : List Int) (i : Nat) (out : List Int) : Prop where
  le : i ≤ m
  go : keepGo R many (m - i) i out = F
  len : out.length ≤ i

set_option maxHeartbeats 8000000 in
set_option maxRecDepth 100000 in
set_option cbv.maxSteps 100000000 in
theorem keepers_ok (b o m c : Nat) (p : Option Addr) (L : List (Int × Int)) (key many : Int) (w : World) (hp : 0 < m → p = some ⟨b, o, none⟩) (hm : L.length = m) (hle : m ≤ 8000) (hL : PtIn b o L w) (hR : Rise L) (hN : ∀ x ∈ L, 0 ≤ x.2 ∧ x.2 < 256) :
    Calls Try.prog 14 #[.slice p m c, .int .u8 key, .int .i64 many] w (BytRet (keepL L key many) w) := by
  obtain ⟨kh, hkh⟩ : ∃ k, k = keyZ key := ⟨_, rfl⟩
  obtain ⟨s0, hs0⟩ : ∃ s, s = atP L kh := ⟨_, rfl⟩
  have hs0m : s0 ≤ m := by rw [hs0, ← hm]; exact atP_le L kh
  obtain ⟨R, hRR⟩ : ∃ R, R = nodeAt L s0 := ⟨_, rfl⟩
  obtain ⟨F, hF⟩ : ∃ F, F = keepL L key many := ⟨_, rfl⟩
  have hFg : keepGo R many m 0 [] = F := by rw [hF, keepL, ← hkh, ← hs0, ← hRR, hm]
  rw [← hF]
  refine X.begin (rg := []) (N := []) (ss := [.slv p m c, .int .u8 (.v key), .int .i64 (.v many)]) Try.func14 rfl B14_ok rfl rfl Sat.std0 ?_
  obtain ⟨im, him⟩ : ∃ im, im = elsewhere [] [] w := ⟨_, rfl⟩
  show X (mkE Try.prog Try.f14 (BytRet F w) w (InR [] []) (elsewhere [] [] w) (fun _ _ => False) (fun _ => True) [] B14) _ _
  rw [← him]
  refine X.goP ([(14, .int .u64 (.v kh))]) T14_ok 400 _ rfl Try.results14 (fun pr fin hpr hfin => ?_)
  conv => cbv
  refine ⟨hpr _ (.of Try.call41 [.int .u8 key] (.int .u64 kh) (fun _ => rfl) (fun _ => rfl) fun _ w1 _ => by rw [hkh]; exact key_ok key w1), hfin _ _ ?_⟩
  refine X.call rfl rfl rfl rfl Try.call42 (fun N w1 args hN1 hS ha => ?_)
  obtain ⟨q3, hq3⟩ : ∃ p, N[0]? = some p := ⟨_, List.getElem?_eq_getElem (by rw [hS.len]; simp)⟩
  obtain ⟨q7, hq7⟩ : ∃ p, N[1]? = some p := ⟨_, List.getElem?_eq_getElem (by rw [hS.len]; simp)⟩
  obtain ⟨_, e3, c3⟩ := hS.cell 0 _ q3 rfl hq3 0 _ rfl
  obtain ⟨_, e7, c7⟩ := hS.cell 1 _ q7 rfl hq7 0 _ rfl
  simp only [SV.den, SI.den, Option.some.injEq] at e3 e7
  subst e3 e7
  have ha : args = [.int .i64 m, .func (.func 43) #[] #[.pointer (some ⟨q3.b, q3.o + 0, none⟩), .pointer (some ⟨q7.b, q7.o + 0, none⟩)]] := by
    simp only [SV.denL, SV.den, SI.den, hq3, hq7] at ha
    exact (Option.some.inj ha).symm
  rw [ha]
  refine (search_ok b o m c _ _ _ _ p kh L w1 hp hm (by omega) (hL.stays hS.chg.none) hR c3 c7).mono fun e w2 ⟨he, hch⟩ => ⟨_, he, ?_⟩
  rw [← hs0]
  refine Goes.same hN1 hS hch (r := .int .i64 (.nat s0)) rfl rfl ?_
  clear ha c3 c7 hq3 hq7 hS hN1
  refine X.go T14_ok 400 _ rfl Try.results14 ?_
  conv => arg 2; cbv
  refine X.recell 2 ⟨true, List.replicate 256 (.bool (.lit false)), none⟩ (hadL []) rfl (by rw [hadL_len]; rfl) (fun N _ j c c' h1 h2 v hv => ?_) ?_
  · obtain ⟨_, rfl⟩ := hadL_get h2
    have : c = .bool (.lit false) := by
      have := List.mem_of_getElem? h1
      simpa using (List.mem_replicate.1 this).2
    subst this
    rw [← hv]
    simp [SV.den, SB.den, hadB]
  show X (mkE Try.prog Try.f14 (BytRet F w) w (InR [] []) im (fun _ _ => False) (fun _ => True) [] B14) _ ⟨_, [⟨true, [.slv p m c], none⟩, ⟨true, [.int .u64 (.v kh)], none⟩, ⟨true, hadL [], none⟩]⟩
  refine X.loop (fun _ : {g : Nat × List Int // KG m R many F g.1 g.2} => mkE Try.prog Try.f14 (BytRet F w) w (InR [] []) im (fun _ _ => False) (fun _ => True) [] B14)
    (fun g => ⟨[(2, .val (.int .i64 (.v many))), (3, .val (.own 0 0)), (8, .val (.int .i64 (.nat s0))), (9, .val (.own 2 0)), (10, .val (outV g.1.2)), (20, .val (.int .i64 (.nat m))), (21, .val (.int .i64 (.nat g.1.1)))], ⟨true, [.slv p m c], none⟩ :: ⟨true, [.int .u64 (.v kh)], none⟩ :: ⟨true, hadL g.1.2, none⟩ :: outR g.1.2⟩) (fun g => m - g.1.1) (fun _ => ⟨rfl, rfl, rfl, rfl⟩) (fun N ac w' hN hf hS => ⟨⟨(0, []), ⟨Nat.zero_le _, hFg, Nat.le_refl _⟩⟩, ?_⟩) (fun g q hq => ?_)
  · show At (mkE Try.prog Try.f14 (BytRet F w) w (InR [] []) im (fun _ _ => False) (fun _ => True) [] B14) ⟨[(2, .val (.int .i64 (.v many))), (3, .val (.own 0 0)), (8, .val (.int .i64 (.nat s0))), (9, .val (.own 2 0)), (10, .val (.raw (.slice none 0 0))), (20, .val (.int .i64 (.nat m))), (21, .val (.int .i64 (.nat 0)))], [⟨true, [.slv p m c], none⟩, ⟨true, [.int .u64 (.v kh)], none⟩, ⟨true, hadL [], none⟩]⟩ ac w'
    exact At.again hf hS (by repeat first | exact trivial | refine ⟨⟨_, rfl, .inl ⟨rfl, rfl⟩⟩, ?_⟩ | refine ⟨⟨_, rfl, .inr ⟨_, rfl, rfl⟩⟩, ?_⟩ | refine ⟨⟨_, rfl, .inr ⟨_, rfl, by simp (disch := omega) [SV.den, SI.den, wrapU, wrapD] <;> omega⟩⟩, ?_⟩) ⟨fun h => h, SubC.refl rfl, rfl, fun h => h, SubC.refl rfl, rfl, fun h => h, SubC.refl hadL_bd, rfl, trivial⟩
  obtain ⟨⟨i, l⟩, him1, hgo, hlen⟩ := g
  simp only at him1 hgo hlen
  show X (mkE Try.prog Try.f14 (BytRet F w) w (InR [] []) im (fun _ _ => False) (fun _ => True) [] B14) _ ⟨[(2, .val (.int .i64 (.v many))), (3, .val (.own 0 0)), (8, .val (.int .i64 (.nat s0))), (9, .val (.own 2 0)), (10, .val (outV l)), (20, .val (.int .i64 (.nat m))), (21, .val (.int .i64 (.nat i)))], ⟨true, [.slv p m c], none⟩ :: ⟨true, [.int .u64 (.v kh)], none⟩ :: ⟨true, hadL l, none⟩ :: outR l⟩
  obtain ⟨hd, hhd⟩ : ∃ h, h = hadL l := ⟨_, rfl⟩
  have hbd : ∀ m, hd.all (bd m) = true := fun m => by rw [hhd]; exact hadL_bd
  rw [← hhd]
  by_cases hz : l = []
  · skip
    rw [hz] at hhd hgo hlen ⊢
    show X (mkE Try.prog Try.f14 (BytRet F w) w (InR [] []) im (fun _ _ => False) (fun _ => True) [] B14) _ ⟨[(2, .val (.int .i64 (.v many))), (3, .val (.own 0 0)), (8, .val (.int .i64 (.nat s0))), (9, .val (.own 2 0)), (10, .val (.raw (.slice none 0 0))), (20, .val (.int .i64 (.nat m))), (21, .val (.int .i64 (.nat i)))], [⟨true, [.slv p m c], none⟩, ⟨true, [.int .u64 (.v kh)], none⟩, ⟨true, hd, none⟩]⟩
    refine X.go T14_ok 400 _ rfl Try.results14 ?_
    conv => arg 2; cbv
    refine X.cond rfl (fun hlt => ?_) (fun hge => ?_)
    · simp only [SB.T, SI.den] at hlt
      have hlt : i < m := by omega
      have hmi : m - i = (m - (i + 1)) + 1 := by omega
      rw [hmi, keepGo] at hgo
      refine X.go T14_ok 400 _ rfl Try.results14 ?_
      conv => arg 2; cbv
      refine X.cond rfl (fun hfull => ?_) (fun hroom => ?_)
      · simp only [SB.T, SI.den] at hfull
        have hfull : many ≤ (0 : Int) := hfull
        refine X.go T14_ok 400 _ rfl Try.results14 ?_
        conv => arg 2; cbv
        have hFl : F = [] := by rw [if_pos (by simpa using hfull)] at hgo; exact hgo.symm
        refine X.done T14_ok rfl (fun N w' v hN hS hv => ?_)
        simp [resV, SV.den, one?] at hv
        exact ⟨none, 0, by rw [← hv, hFl]; rfl, by rw [hFl]; exact Nat.le_refl _, .inl ⟨hFl, rfl, rfl⟩, hS.chg.none⟩
      · simp only [SB.F, SI.den] at hroom
        have hroom : ¬ many ≤ (0 : Int) := fun h => absurd h (by have hr := hroom; simpa using hr)
        rw [if_neg (by simpa using hroom)] at hgo
        obtain ⟨z, hz1⟩ : ∃ z, z = (s0 + i) % m := ⟨_, rfl⟩
        have hzm : z < m := by rw [hz1]; exact Nat.mod_lt _ (by omega)
        obtain ⟨oz, hoz⟩ : ∃ q, q = o + z * 2 := ⟨_, rfl⟩
        have hRi : R i = L[z]!.2 := by rw [hRR, nodeAt, hm, hz1]
        obtain ⟨x, hx⟩ : ∃ x, x = R i := ⟨_, rfl⟩
        obtain ⟨xz, hxz, hx256⟩ : ∃ y : Nat, x = (y : Int) ∧ y < 256 := by
          have hmem : L[z]! ∈ L := by rw [getElem!_pos L z (by omega)]; exact List.getElem_mem _
          have := hN _ hmem
          exact ⟨x.toNat, by omega, by omega⟩
        rw [← hx] at hgo
        have hix : im b (oz + 1) = some (.int .u8 x) := by rw [him, els_old, hoz, hx, hRi]; exact (hL z (by omega)).2
        obtain ⟨t, ht⟩ : ∃ t, t = hadB [] xz := ⟨_, rfl⟩
        have hdx : hd[xz]? = some (.bool (.v t)) := by rw [hhd, ht]; exact hadL_at _ hx256
        refine X.goP ([(34, .int .i64 (.nat z)), (35, .ext b oz 0), (37, .int .u8 (.v x)), (39, .own 2 xz), (40, .bool (.v t))]) T14_ok 400 _ rfl Try.results14 (fun pr fin hpr hfin => ?_)
        conv => cbv
        refine ⟨hpr _ (vk_load1 rfl Try.isAgg4 rfl hdx), hpr _ (vk_arr (z := xz) rfl rfl (fun _ => hxz) Try.underlying58 Try.sizeOf4 hx256 (by omega) (Nat.lt_of_sub_eq_succ rfl)), hpr _ (ValOk.im1 rfl Try.isAgg5 (fun _ => rfl) fun _ => hix), hpr _ (ValOk.at (z := z) rfl rfl (fun _ => rfl) Try.underlying27 Try.sizeOf52 (fun _ => hzm) (hp (by omega)) hoz), hpr _ (vk_rem rfl rfl (fun _ => by simp (disch := omega) only [SI.den, wrapN]; exact ⟨by omega, by rw [hz1]; rfl⟩)), hfin _ _ ?_⟩
        refine X.cond rfl (fun hnew => ?_) (fun hold => ?_)
        · simp only [SB.T, SB.F] at hnew
          have htf : t = false := by simpa using hnew
          have hnm : ¬ x ∈ ([] : List Int) := by simp
          rw [if_neg hnm] at hgo
          refine X.goP ([(43, .own 2 xz)]) T14_ok 4 _ rfl Try.results14 (fun pr fin hpr hfin => ?_)
          conv => cbv
          refine ⟨hpr _ (vk_arr (z := xz) rfl rfl (fun _ => hxz) Try.underlying58 Try.sizeOf4 hx256 (by omega) (Nat.lt_of_sub_eq_succ rfl)), hfin _ _ ?_⟩
          have hdl : hd.length = 256 := by rw [hhd]; exact hadL_len _
          refine X.opEq T14_ok (oe_store (v := .bool (.lit true)) (g := ⟨true, hd, none⟩) (cs' := setRow hd xz [.bool (.lit true)]) rfl rfl rfl rfl rfl rfl rfl rfl rfl rfl (by show xz + 1 ≤ hd.length; omega) rfl rfl) ?_
          refine X.recell 2 ⟨true, setRow hd xz [.bool (.lit true)], none⟩ (hadL ([] ++ [x])) rfl (by rw [hadL_len, setRow_length _ _ _ (by omega)]; simp; omega) (fun N _ j c c' h1 h2 v hv => ?_) ?_
          · obtain ⟨hj, rfl⟩ := hadL_get h2
            simp only at h1
            rw [setRow_at _ _ _ _ (by simp; omega)] at h1
            by_cases e : j = xz
            · subst e
              rw [if_pos (by simp), Nat.sub_self] at h1
              obtain rfl : c = .bool (.lit true) := (Option.some.inj h1).symm
              rw [← hv]
              simp [SV.den, SB.den, hadB, hxz]
            · rw [if_neg (by simp; omega), hhd, hadL_at _ hj] at h1
              obtain rfl := (Option.some.inj h1).symm
              have hne : ¬ (j : Int) = x := by omega
              rw [← hv]
              simp [SV.den, SB.den, hadB, hne]
          obtain ⟨hd2, hhd2⟩ : ∃ h, h = hadL ([] ++ [x]) := ⟨_, rfl⟩
          rw [← hhd2]
          have hbd2 : ∀ m, hd2.all (bd m) = true := fun m => by rw [hhd2]; exact hadL_bd
          show X (mkE Try.prog Try.f14 (BytRet F w) w (InR [] []) im (fun _ _ => False) (fun _ => True) [] B14) _ ⟨_, [⟨true, [.slv p m c], none⟩, ⟨true, [.int .u64 (.v kh)], none⟩, ⟨true, hd2, none⟩]⟩
          refine X.go T14_ok 5 _ rfl Try.results14 ?_
          conv => arg 2; cbv
          refine X.opEq (T := T14) T14_ok (opE_append (te := ti5) (new := [.int .u8 (.v x)]) (m := 1) rfl rfl rfl rfl rfl rfl rfl rfl (appSrc_row (g := ⟨true, [.int .u8 (.v x)], none⟩) rfl rfl rfl rfl) (appV_nil (by decide) (appOk_ok (by decide) rfl rfl rfl (by decide) (by decide))) rfl) ?_
          refine X.go T14_ok 400 _ rfl Try.results14 ?_
          conv => arg 2; cbv
          refine X.less [2, 3, 8, 9, 10, 20, 21] ?_
          refine X.dropAt rfl [(21, .val (.int .i64 (.wrap .i64 (.add (.nat i) (.lit 1))))), (10, .val (.osl 3 0 1 1 none)), (2, .val (.int .i64 (.v many))), (3, .val (.own 0 0)), (8, .val (.int .i64 (.nat s0))), (9, .val (.own 2 0)), (20, .val (.int .i64 (.nat m)))] [⟨true, [.slv p m c], none⟩, ⟨true, [.int .u64 (.v kh)], none⟩, ⟨true, hd2, none⟩] (rB := [⟨true, [.int .u8 (.v x)], none⟩]) (fun A x B hA => by obtain ⟨a1, a2, a3, rfl⟩ := len3 hA; exact ⟨rfl, fun _ h => h, rfl, fun _ h => h, rfl, fun _ h => h, rfl, fun _ h => h, rfl, fun _ h => h, rfl, fun _ h => h, rfl, fun _ h => h, trivial⟩) (fun g hg c hc N N' v hv => ?_) (fun g hg => ?_) ?_
          · simp only [List.cons_append, List.nil_append, List.mem_cons, List.not_mem_nil, or_false] at hg
            rcases hg with rfl | rfl | rfl | rfl
            · obtain rfl : c = .slv p m _ := List.mem_singleton.1 hc
              exact hv
            · obtain rfl : c = .int .u64 (.v kh) := List.mem_singleton.1 hc
              exact hv
            · exact hadL_den (by rw [← hhd2]; exact hc) hv
            · exact bytL_den (l := [x]) hc hv
          · simp only [List.cons_append, List.nil_append, List.mem_cons, List.not_mem_nil, or_false] at hg
            rcases hg with rfl | rfl | rfl | rfl <;> rfl
          refine X.back (fun N ac w' hN hf hS => hq ⟨(i + 1, [] ++ [x]), ⟨by simp only; omega, hgo, by simp only [List.length_append, List.length_singleton]; simp⟩⟩ ac w' (by simp only; omega) ?_)
          show At (mkE Try.prog Try.f14 (BytRet F w) w (InR [] []) im (fun _ _ => False) (fun _ => True) [] B14) ⟨[(2, .val (.int .i64 (.v many))), (3, .val (.own 0 0)), (8, .val (.int .i64 (.nat s0))), (9, .val (.own 2 0)), (10, .val (outV ([] ++ [x]))), (20, .val (.int .i64 (.nat m))), (21, .val (.int .i64 (.nat (i + 1))))], ⟨true, [.slv p m c], none⟩ :: ⟨true, [.int .u64 (.v kh)], none⟩ :: ⟨true, hadL ([] ++ [x]), none⟩ :: outR ([] ++ [x])⟩ ac w'
          rw [← hhd2]
          exact At.again hf hS (by repeat first | exact trivial | refine ⟨⟨_, rfl, .inl ⟨rfl, rfl⟩⟩, ?_⟩ | refine ⟨⟨_, rfl, .inr ⟨_, rfl, rfl⟩⟩, ?_⟩ | refine ⟨⟨_, rfl, .inr ⟨_, rfl, by simp (disch := omega) [SV.den, SI.den, wrapU, wrapD] <;> omega⟩⟩, ?_⟩) ⟨fun h => h, SubC.refl rfl, rfl, fun h => h, SubC.refl rfl, rfl, fun h => h, SubC.refl (hbd2 _), rfl, fun h => h, SubC.refl rfl, rfl, trivial⟩
        · simp only [SB.T, SB.F] at hold
          have htt : t = true := by simpa using hold
          have hmem : x ∈ ([] : List Int) := by rw [htt] at ht; rw [hxz]; simpa [hadB] using ht.symm
          exact absurd hmem (by simp)
    · simp only [SB.F, SI.den] at hge
      have hie : m - i = 0 := by omega
      refine X.go T14_ok 400 _ rfl Try.results14 ?_
      conv => arg 2; cbv
      have hFl : F = [] := by rw [hie, keepGo] at hgo; exact hgo.symm
      refine X.done T14_ok rfl (fun N w' v hN hS hv => ?_)
      simp [resV, SV.den, one?] at hv
      exact ⟨none, 0, by rw [← hv, hFl]; rfl, by rw [hFl]; exact Nat.le_refl _, .inl ⟨hFl, rfl, rfl⟩, hS.chg.none⟩
  · skip
    rw [outV_pos hz, outR_pos hz]
    obtain ⟨cs, hcs⟩ : ∃ c, c = bytL l := ⟨_, rfl⟩
    obtain ⟨ll, hll⟩ : ∃ q, q = l.length := ⟨_, rfl⟩
    rw [← hcs, ← hll]
    rw [← hll] at hlen
    have hcl : cs.length = ll := by rw [hcs, bytL_len, hll]
    have hcb : ∀ m, cs.all (bd m) = true := fun m => by rw [hcs]; exact bytL_bd
    have hl0 : 0 < ll := by rw [hll]; exact List.length_pos_iff.2 hz
    refine X.go T14_ok 400 _ rfl Try.results14 ?_
    conv => arg 2; cbv
    refine X.cond rfl (fun hlt => ?_) (fun hge => ?_)
    · simp only [SB.T, SI.den] at hlt
      have hlt : i < m := by omega
      have hmi : m - i = (m - (i + 1)) + 1 := by omega
      rw [hmi, keepGo] at hgo
      refine X.go T14_ok 400 _ rfl Try.results14 ?_
      conv => arg 2; cbv
      refine X.cond rfl (fun hfull => ?_) (fun hroom => ?_)
      · simp only [SB.T, SI.den] at hfull
        have hfull : many ≤ (ll : Int) := hfull
        refine X.go T14_ok 400 _ rfl Try.results14 ?_
        conv => arg 2; cbv
        have hFl : F = l := by rw [if_pos (by omega)] at hgo; exact hgo.symm
        refine X.done T14_ok rfl (fun N w' v hN hS hv => ?_)
        obtain ⟨p4, hp4⟩ : ∃ p, N[3]? = some p := ⟨_, List.getElem?_eq_getElem (by rw [hS.len]; simp)⟩
        have hext := hS.ext 3 _ p4 rfl hp4 rfl
        simp only [hcl] at hext
        simp only [resV, SV.den, hp4, Num.cap, Option.some.injEq] at hv
        refine ⟨some ⟨p4.b, p4.o, none⟩, _, by rw [← hv, hFl, ← hll, Nat.add_zero], by rw [hFl, ← hll]; simpa using hext, .inr ⟨by rw [hFl]; exact hz, p4.b, p4.o, rfl, ?_, fun j hj => ?_⟩, hS.chg.none⟩
        · rcases hS.foot 3 _ p4 rfl hp4 rfl with h | h
          · exact h
          · exact absurd (h 0 (by omega)) (fun h => inR_nil h)
        · rw [hFl] at hj ⊢
          have hj : j < l.length := by simpa using hj
          obtain ⟨v0, h1, h2⟩ := hS.cell 3 _ p4 rfl hp4 j (.int .u8 (.v l[j]!)) (by show cs[j]? = _; rw [hcs]; simp [bytL, hj])
          simp only [SV.den, SI.den, Option.some.injEq] at h1
          subst h1
          exact ⟨by simpa using h2, (hS.room 3 _ p4 rfl hp4 rfl j (by omega)).2⟩
      · simp only [SB.F, SI.den] at hroom
        have hroom : ¬ many ≤ (ll : Int) := fun h => absurd h (by have hr := hroom; simpa using hr)
        rw [if_neg (by omega)] at hgo
        obtain ⟨z, hz1⟩ : ∃ z, z = (s0 + i) % m := ⟨_, rfl⟩
        have hzm : z < m := by rw [hz1]; exact Nat.mod_lt _ (by omega)
        obtain ⟨oz, hoz⟩ : ∃ q, q = o + z * 2 := ⟨_, rfl⟩
        have hRi : R i = L[z]!.2 := by rw [hRR, nodeAt, hm, hz1]
        obtain ⟨x, hx⟩ : ∃ x, x = R i := ⟨_, rfl⟩
        obtain ⟨xz, hxz, hx256⟩ : ∃ y : Nat, x = (y : Int) ∧ y < 256 := by
          have hmem : L[z]! ∈ L := by rw [getElem!_pos L z (by omega)]; exact List.getElem_mem _
          have := hN _ hmem
          exact ⟨x.toNat, by omega, by omega⟩
        rw [← hx] at hgo
        have hix : im b (oz + 1) = some (.int .u8 x) := by rw [him, els_old, hoz, hx, hRi]; exact (hL z (by omega)).2
        obtain ⟨t, ht⟩ : ∃ t, t = hadB l xz := ⟨_, rfl⟩
        have hdx : hd[xz]? = some (.bool (.v t)) := by rw [hhd, ht]; exact hadL_at _ hx256
        refine X.goP ([(34, .int .i64 (.nat z)), (35, .ext b oz 0), (37, .int .u8 (.v x)), (39, .own 2 xz), (40, .bool (.v t))]) T14_ok 400 _ rfl Try.results14 (fun pr fin hpr hfin => ?_)
        conv => cbv
        refine ⟨hpr _ (vk_load1 rfl Try.isAgg4 rfl hdx), hpr _ (vk_arr (z := xz) rfl rfl (fun _ => hxz) Try.underlying58 Try.sizeOf4 hx256 (by omega) (Nat.lt_of_sub_eq_succ rfl)), hpr _ (ValOk.im1 rfl Try.isAgg5 (fun _ => rfl) fun _ => hix), hpr _ (ValOk.at (z := z) rfl rfl (fun _ => rfl) Try.underlying27 Try.sizeOf52 (fun _ => hzm) (hp (by omega)) hoz), hpr _ (vk_rem rfl rfl (fun _ => by simp (disch := omega) only [SI.den, wrapN]; exact ⟨by omega, by rw [hz1]; rfl⟩)), hfin _ _ ?_⟩
        refine X.cond rfl (fun hnew => ?_) (fun hold => ?_)
        · simp only [SB.T, SB.F] at hnew
          have htf : t = false := by simpa using hnew
          have hnm : ¬ x ∈ (l : List Int) := by rw [htf] at ht; rw [hxz]; simpa [hadB] using ht.symm
          rw [if_neg hnm] at hgo
          refine X.goP ([(43, .own 2 xz)]) T14_ok 4 _ rfl Try.results14 (fun pr fin hpr hfin => ?_)
          conv => cbv
          refine ⟨hpr _ (vk_arr (z := xz) rfl rfl (fun _ => hxz) Try.underlying58 Try.sizeOf4 hx256 (by omega) (Nat.lt_of_sub_eq_succ rfl)), hfin _ _ ?_⟩
          have hdl : hd.length = 256 := by rw [hhd]; exact hadL_len _
          refine X.opEq T14_ok (oe_store (v := .bool (.lit true)) (g := ⟨true, hd, none⟩) (cs' := setRow hd xz [.bool (.lit true)]) rfl rfl rfl rfl rfl rfl rfl rfl rfl rfl (by show xz + 1 ≤ hd.length; omega) rfl rfl) ?_
          refine X.recell 2 ⟨true, setRow hd xz [.bool (.lit true)], none⟩ (hadL (l ++ [x])) rfl (by rw [hadL_len, setRow_length _ _ _ (by omega)]; simp; omega) (fun N _ j c c' h1 h2 v hv => ?_) ?_
          · obtain ⟨hj, rfl⟩ := hadL_get h2
            simp only at h1
            rw [setRow_at _ _ _ _ (by simp; omega)] at h1
            by_cases e : j = xz
            · subst e
              rw [if_pos (by simp), Nat.sub_self] at h1
              obtain rfl : c = .bool (.lit true) := (Option.some.inj h1).symm
              rw [← hv]
              simp [SV.den, SB.den, hadB, hxz]
            · rw [if_neg (by simp; omega), hhd, hadL_at _ hj] at h1
              obtain rfl := (Option.some.inj h1).symm
              have hne : ¬ (j : Int) = x := by omega
              rw [← hv]
              simp [SV.den, SB.den, hadB, hne]
          obtain ⟨hd2, hhd2⟩ : ∃ h, h = hadL (l ++ [x]) := ⟨_, rfl⟩
          rw [← hhd2]
          have hbd2 : ∀ m, hd2.all (bd m) = true := fun m => by rw [hhd2]; exact hadL_bd
          show X (mkE Try.prog Try.f14 (BytRet F w) w (InR [] []) im (fun _ _ => False) (fun _ => True) [] B14) _ ⟨_, [⟨true, [.slv p m c], none⟩, ⟨true, [.int .u64 (.v kh)], none⟩, ⟨true, hd2, none⟩, ⟨true, cs, none⟩]⟩
          refine X.go T14_ok 5 _ rfl Try.results14 ?_
          conv => arg 2; cbv
          refine X.opEq (T := T14) T14_ok (opE_append (te := ti5) (new := [.int .u8 (.v x)]) (m := 1) rfl rfl rfl rfl rfl rfl rfl rfl (appSrc_row (g := ⟨true, [.int .u8 (.v x)], none⟩) rfl rfl rfl rfl) (appV_hid (te := ti5) (cs := cs) rfl (by show cs.length = ll * 1; omega) (by decide) (appOk_ok (by decide) rfl rfl rfl (by show (2 * (ll + 1) + 256) * 1 ≤ _; omega) (by omega))) rfl) ?_
          obtain ⟨cs2, hcs2⟩ : ∃ c, c = cs ++ [.int .u8 (.v x)] := ⟨_, rfl⟩
          rw [← hcs2]
          have hc2 : cs2 = bytL (l ++ [x]) := by rw [hcs2, hcs]; simp [bytL]
          refine X.go T14_ok 400 _ rfl Try.results14 ?_
          conv => arg 2; cbv
          refine X.less [2, 3, 8, 9, 10, 20, 21] ?_
          refine X.dropAt rfl [(21, .val (.int .i64 (.wrap .i64 (.add (.nat i) (.lit 1))))), (10, .val (.osl 4 0 (ll + 1) 1 none)), (2, .val (.int .i64 (.v many))), (3, .val (.own 0 0)), (8, .val (.int .i64 (.nat s0))), (9, .val (.own 2 0)), (20, .val (.int .i64 (.nat m)))] [⟨true, [.slv p m c], none⟩, ⟨true, [.int .u64 (.v kh)], none⟩, ⟨true, hd2, none⟩] (rB := [⟨true, [.int .u8 (.v x)], none⟩, ⟨true, cs2, none⟩]) (fun A x B hA => by obtain ⟨a1, a2, a3, rfl⟩ := len3 hA; exact ⟨rfl, fun _ h => h, rfl, fun _ h => h, rfl, fun _ h => h, rfl, fun _ h => h, rfl, fun _ h => h, rfl, fun _ h => h, rfl, fun _ h => h, trivial⟩) (fun g hg c hc N N' v hv => ?_) (fun g hg => ?_) ?_
          · simp only [List.cons_append, List.nil_append, List.mem_cons, List.not_mem_nil, or_false] at hg
            rcases hg with rfl | rfl | rfl | rfl | rfl
            · obtain rfl : c = .slv p m _ := List.mem_singleton.1 hc
              exact hv
            · obtain rfl : c = .int .u64 (.v kh) := List.mem_singleton.1 hc
              exact hv
            · exact hadL_den (by rw [← hhd2]; exact hc) hv
            · exact bytL_den (l := [x]) hc hv
            · exact bytL_den (l := l ++ [x]) (by rw [← hc2]; exact hc) hv
          · simp only [List.cons_append, List.nil_append, List.mem_cons, List.not_mem_nil, or_false] at hg
            rcases hg with rfl | rfl | rfl | rfl | rfl <;> rfl
          refine X.dropAt rfl [(21, .val (.int .i64 (.wrap .i64 (.add (.nat i) (.lit 1))))), (10, .val (.osl 3 0 (ll + 1) 1 none)), (2, .val (.int .i64 (.v many))), (3, .val (.own 0 0)), (8, .val (.int .i64 (.nat s0))), (9, .val (.own 2 0)), (20, .val (.int .i64 (.nat m)))] [⟨true, [.slv p m c], none⟩, ⟨true, [.int .u64 (.v kh)], none⟩, ⟨true, hd2, none⟩] (rB := [⟨true, cs2, none⟩]) (fun A x B hA => by obtain ⟨a1, a2, a3, rfl⟩ := len3 hA; exact ⟨rfl, fun _ h => h, rfl, fun _ h => h, rfl, fun _ h => h, rfl, fun _ h => h, rfl, fun _ h => h, rfl, fun _ h => h, rfl, fun _ h => h, trivial⟩) (fun g hg c hc N N' v hv => ?_) (fun g hg => ?_) ?_
          · simp only [List.cons_append, List.nil_append, List.mem_cons, List.not_mem_nil, or_false] at hg
            rcases hg with rfl | rfl | rfl | rfl
            · obtain rfl : c = .slv p m _ := List.mem_singleton.1 hc
              exact hv
            · obtain rfl : c = .int .u64 (.v kh) := List.mem_singleton.1 hc
              exact hv
            · exact hadL_den (by rw [← hhd2]; exact hc) hv
            · exact bytL_den (l := l ++ [x]) (by rw [← hc2]; exact hc) hv
          · simp only [List.cons_append, List.nil_append, List.mem_cons, List.not_mem_nil, or_false] at hg
            rcases hg with rfl | rfl | rfl | rfl <;> rfl
          refine X.back (fun N ac w' hN hf hS => hq ⟨(i + 1, l ++ [x]), ⟨by simp only; omega, hgo, by simp only [List.length_append, List.length_singleton]; omega⟩⟩ ac w' (by simp only; omega) ?_)
          show At (mkE Try.prog Try.f14 (BytRet F w) w (InR [] []) im (fun _ _ => False) (fun _ => True) [] B14) ⟨[(2, .val (.int .i64 (.v many))), (3, .val (.own 0 0)), (8, .val (.int .i64 (.nat s0))), (9, .val (.own 2 0)), (10, .val (outV (l ++ [x]))), (20, .val (.int .i64 (.nat m))), (21, .val (.int .i64 (.nat (i + 1))))], ⟨true, [.slv p m c], none⟩ :: ⟨true, [.int .u64 (.v kh)], none⟩ :: ⟨true, hadL (l ++ [x]), none⟩ :: outR (l ++ [x])⟩ ac w'
          rw [outV_pos (by simp), outR_pos (by simp), ← hc2, ← hhd2, List.length_append, ← hll]
          have hcb2 : ∀ m, cs2.all (bd m) = true := fun m => by rw [hc2]; exact bytL_bd
          exact At.again hf hS (by repeat first | exact trivial | refine ⟨⟨_, rfl, .inl ⟨rfl, rfl⟩⟩, ?_⟩ | refine ⟨⟨_, rfl, .inr ⟨_, rfl, rfl⟩⟩, ?_⟩ | refine ⟨⟨_, rfl, .inr ⟨_, rfl, by simp (disch := omega) [SV.den, SI.den, wrapU, wrapD] <;> omega⟩⟩, ?_⟩) ⟨fun h => h, SubC.refl rfl, rfl, fun h => h, SubC.refl rfl, rfl, fun h => h, SubC.refl (hbd2 _), rfl, fun h => h, SubC.refl (hcb2 _), rfl, trivial⟩
        · simp only [SB.T, SB.F] at hold
          have htt : t = true := by simpa using hold
          have hmem : x ∈ (l : List Int) := by rw [htt] at ht; rw [hxz]; simpa [hadB] using ht.symm
          rw [if_pos hmem] at hgo
          refine X.go T14_ok 400 _ rfl Try.results14 ?_
          conv => arg 2; cbv
          refine X.back (fun N ac w' hN hf hS => hq ⟨(i + 1, l), ⟨by simp only; omega, hgo, by simp only; omega⟩⟩ ac w' (by simp only; omega) ?_)
          show At (mkE Try.prog Try.f14 (BytRet F w) w (InR [] []) im (fun _ _ => False) (fun _ => True) [] B14) ⟨[(2, .val (.int .i64 (.v many))), (3, .val (.own 0 0)), (8, .val (.int .i64 (.nat s0))), (9, .val (.own 2 0)), (10, .val (outV l)), (20, .val (.int .i64 (.nat m))), (21, .val (.int .i64 (.nat (i + 1))))], ⟨true, [.slv p m c], none⟩ :: ⟨true, [.int .u64 (.v kh)], none⟩ :: ⟨true, hadL l, none⟩ :: outR l⟩ ac w'
          rw [outV_pos hz, outR_pos hz, ← hcs, ← hll, ← hhd]
          exact At.again hf hS (by repeat first | exact trivial | refine ⟨⟨_, rfl, .inl ⟨rfl, rfl⟩⟩, ?_⟩ | refine ⟨⟨_, rfl, .inr ⟨_, rfl, rfl⟩⟩, ?_⟩ | refine ⟨⟨_, rfl, .inr ⟨_, rfl, by simp (disch := omega) [SV.den, SI.den, wrapU, wrapD] <;> omega⟩⟩, ?_⟩) ⟨fun h => h, SubC.refl rfl, rfl, fun h => h, SubC.refl rfl, rfl, fun h => h, SubC.refl (hbd _), rfl, fun h => h, SubC.refl (hcb _), rfl, trivial⟩
    · simp only [SB.F, SI.den] at hge
      have hie : m - i = 0 := by omega
      refine X.go T14_ok 400 _ rfl Try.results14 ?_
      conv => arg 2; cbv
      have hFl : F = l := by rw [hie, keepGo] at hgo; exact hgo.symm
      refine X.done T14_ok rfl (fun N w' v hN hS hv => ?_)
      obtain ⟨p4, hp4⟩ : ∃ p, N[3]? = some p := ⟨_, List.getElem?_eq_getElem (by rw [hS.len]; simp)⟩
      have hext := hS.ext 3 _ p4 rfl hp4 rfl
      simp only [hcl] at hext
      simp only [resV, SV.den, hp4, Num.cap, Option.some.injEq] at hv
      refine ⟨some ⟨p4.b, p4.o, none⟩, _, by rw [← hv, hFl, ← hll, Nat.add_zero], by rw [hFl, ← hll]; simpa using hext, .inr ⟨by rw [hFl]; exact hz, p4.b, p4.o, rfl, ?_, fun j hj => ?_⟩, hS.chg.none⟩
      · rcases hS.foot 3 _ p4 rfl hp4 rfl with h | h
        · exact h
        · exact absurd (h 0 (by omega)) (fun h => inR_nil h)
      · rw [hFl] at hj ⊢
        have hj : j < l.length := by simpa using hj
        obtain ⟨v0, h1, h2⟩ := hS.cell 3 _ p4 rfl hp4 j (.int .u8 (.v l[j]!)) (by show cs[j]? = _; rw [hcs]; simp [bytL, hj])
        simp only [SV.den, SI.den, Option.some.injEq] at h1
        subst h1
        exact ⟨by simpa using h2, (hS.room 3 _ p4 rfl hp4 rfl j (by omega)).2⟩

end Go.Proofs.Ythaffebapmkppaa
