/- Configurations: rings; quorums. -/
import Derived.Test.YthaffebapmkppaaCf4

namespace Go.Proofs.Ythaffebapmkppaa
open Go Go.Eng Go.Sort

/-- bytes that are new, in that memory -/
def BytNew (l : List Int) (s0 : Nat) (M : Mem) (p : Option Addr) (c : Nat) : Prop := l.length ≤ c ∧ (l = [] ∧ p = none ∧ c = 0 ∨ l ≠ [] ∧ ∃ b y, p = some ⟨b, y, none⟩ ∧ s0 ≤ b ∧ ∀ j, j < l.length → M b (y + j) = some (.int .u8 l[j]!))
theorem BytNew.mono {l : List Int} {s0 s1 : Nat} {M M' : Mem} {p : Option Addr} {c : Nat} (h : BytNew l s0 M p c) (hs : s1 ≤ s0) (hM : ∀ k o v, s0 ≤ k → M k o = some v → M' k o = some v) : BytNew l s1 M' p c := ⟨h.1, h.2.imp id fun ⟨hne, b, y, h1, h2, h3⟩ => ⟨hne, b, y, h1, Nat.le_trans hs h2, fun j hj => hM _ _ _ h2 (h3 j hj)⟩⟩
theorem BytRet.new {l : List Int} {w w' : World} {e : Ending} (h : BytRet l w e w') : ∃ p c, e = .returned (.slice p l.length c) ∧ BytNew l w.heap.size (wm w') p c ∧ Chg (fun _ _ => False) w w' := by
  obtain ⟨p, c, he, hc, hr, hch⟩ := h
  refine ⟨p, c, he, ⟨hc, ?_⟩, hch⟩
  rcases hr with h | ⟨hne, b, o, h1, h2, h3⟩
  · exact .inl h
  · refine .inr ⟨hne, b, o, h1, h2, fun j hj => ?_⟩
    have := (h3 j (by simpa using hj)).1
    simpa [wm, hj] using this
theorem BytNew.inB {l : List Int} {s0 : Nat} {M : Mem} {p : Option Addr} {c : Nat} (h : BytNew l s0 M p c) {w : World} (hM : ∀ k o v, M k o = some v → w.cell? ⟨k, o, none⟩ = some v) : InB p l.length l.toArray w := ⟨by simp, fun h0 => by
  rcases h.2 with ⟨h1, _⟩ | ⟨_, b, y, h1, _, h3⟩
  · rw [h1] at h0; simp at h0
  · exact ⟨b, y, h1, fun j hj => by
      have hj : j < l.length := by simpa using hj
      have := hM _ _ _ (h3 j hj)
      simpa [hj] using this⟩⟩

def ringsL (C : Nat) (o n : Array Int) (key : Int) : List (List Int) := if C % 2 = 1 then [ofL n key, ofL o key] else [ofL n key]
/-- lists of bytes that are new -/
def RingsRet (ls : List (List Int)) (w : World) (e : Ending) (w' : World) : Prop :=
  ∃ b o c, e = .returned (.slice (some ⟨b, o, none⟩) ls.length c) ∧ w.heap.size ≤ b ∧ (∀ j, j < ls.length → ∃ p c, wm w' b (o + j) = some (.slice p ls[j]!.length c) ∧ BytNew ls[j]! w.heap.size (wm w') p c) ∧ Chg (fun _ _ => False) w w'

set_option maxHeartbeats 8000000 in
set_option maxRecDepth 100000 in
set_option cbv.maxSteps 100000000 in
theorem rings_ok (C : Nat) (po pn : Option Addr) (no nn co cn : Nat) (o n : Array Int) (key : Int) (w : World) (hno : no ≤ 1000) (hnn : nn ≤ 1000) (ho : InB po no o w) (hn : InB pn nn n w) (hbo : ∀ x ∈ o.toList, 0 ≤ x ∧ x < 256) (hbn : ∀ x ∈ n.toList, 0 ≤ x ∧ x < 256) :
    Calls Try.prog 51 #[.agg #[.int .u64 C, .slice po no co, .slice pn nn cn], .int .u8 key] w (RingsRet (ringsL C o n key) w) := by
  obtain ⟨Q, hQ⟩ : ∃ Q : Ending → World → Prop, Q = RingsRet (ringsL C o n key) w := ⟨_, rfl⟩
  rw [← hQ]
  refine X.begin (rg := []) (N := []) (ss := [.agg [.int .u64 (.nat C), .slv po no co, .slv pn nn cn], .int .u8 (.v key)]) Try.func51 rfl B51_ok rfl rfl Sat.std0 ?_
  obtain ⟨bt, hbt⟩ : ∃ b, b = decide (C % 2 = 1) := ⟨_, rfl⟩
  refine X.go T51_ok 400 _ rfl Try.results51 ?_
  conv => arg 2; cbv
  refine X.call rfl rfl rfl rfl Try.call12 (fun N w1 args hN hS ha => ?_)
  have ha : args = [.slice pn nn cn, .int .u8 key] := (Option.some.inj ha).symm
  rw [ha]
  refine (of_ok pn nn cn n key w1 hnn (hn.stays hS.chg.none) hbn).mono fun e w2 hr => ?_
  obtain ⟨p1, c1, he, hb1, hch⟩ := hr.new
  obtain ⟨l1, hl1⟩ : ∃ l, l = ofL n key := ⟨_, rfl⟩
  obtain ⟨q1, hq1⟩ : ∃ q, q = l1.length := ⟨_, rfl⟩
  rw [← hl1] at hb1 he
  rw [← hq1] at he
  refine ⟨_, he, Goes.newMem hN hS hch (r := .slv p1 q1 c1) rfl rfl (fun hold hnew => ?_)⟩
  obtain ⟨im, him⟩ : ∃ im, im = imNew (elsewhere [] [] w) w1 w2 := ⟨_, rfl⟩
  have hb1 : BytNew l1 w.heap.size im p1 c1 := hb1.mono hS.chg.size fun k o v hk hv => by rw [him]; exact hnew _ _ _ hk hv
  have hoM : ∀ w' : World, (∀ k o v, im k o = some v → w'.cell? ⟨k, o, none⟩ = some v) → InB po no o w' := fun w' h => ho.im fun k o v hv => h _ _ _ (by rw [him]; exact hold _ _ _ hv)
  show X (mkE Try.prog Try.f51 Q w (InR [] []) (imNew (elsewhere [] [] w) w1 w2) (fun _ _ => False) (fun _ => True) [] B51) _ _
  rw [← him]
  clear him hold hnew hr hch he ha hS hN
  refine X.goP ([(12, .bool (.v bt))]) T51_ok 400 _ rfl Try.results51 (fun pr fin hpr hfin => ?_)
  conv => cbv
  refine ⟨hpr _ (.of Try.call25 [.agg #[.int .u64 C, .slice po no co, .slice pn nn cn]] (.bool bt) (fun _ => rfl) (fun _ => rfl) fun _ w1 _ => by rw [hbt]; exact between_ok C _ _ rfl rfl w1), hfin _ _ ?_⟩
  refine X.cond rfl (fun hT => ?_) (fun hF => ?_)
  · simp only [SB.T] at hT
    have hc : C % 2 = 1 := by rw [hbt] at hT; exact of_decide_eq_true hT
    have hrl : ringsL C o n key = [l1, ofL o key] := by rw [ringsL, if_pos hc, hl1]
    refine X.go T51_ok 400 _ rfl Try.results51 ?_
    conv => arg 2; cbv
    refine X.call rfl rfl rfl rfl Try.call12 (fun N w3 args hN hS ha => ?_)
    have ha : args = [.slice po no co, .int .u8 key] := (Option.some.inj ha).symm
    rw [ha]
    refine (of_ok po no co o key w3 hno (hoM w3 hS.imm) hbo).mono fun e w4 hr => ?_
    obtain ⟨p2, c2, he, hb2, hch⟩ := hr.new
    obtain ⟨l2, hl2⟩ : ∃ l, l = ofL o key := ⟨_, rfl⟩
    obtain ⟨q2, hq2⟩ : ∃ q, q = l2.length := ⟨_, rfl⟩
    rw [← hl2] at hb2 he
    rw [← hq2] at he
    refine ⟨_, he, Goes.newMem hN hS hch (r := .slv p2 q2 c2) rfl rfl (fun hold hnew => ?_)⟩
    obtain ⟨im2, him2⟩ : ∃ im2, im2 = imNew im w3 w4 := ⟨_, rfl⟩
    have hb2 : BytNew l2 w.heap.size im2 p2 c2 := hb2.mono hS.chg.size fun k o v hk hv => by rw [him2]; exact hnew _ _ _ hk hv
    have hb1 : BytNew l1 w.heap.size im2 p1 c1 := hb1.mono (Nat.le_refl _) fun k o v hk hv => by rw [him2]; exact hold _ _ _ hv
    show X (mkE Try.prog Try.f51 Q w (InR [] []) (imNew im w3 w4) (fun _ _ => False) (fun _ => True) [] B51) _ _
    rw [← him2]
    clear him2 hold hnew hr hch he ha hS hN
    refine X.go T51_ok 400 _ rfl Try.results51 ?_
    conv => arg 2; cbv
    refine X.done T51_ok rfl (fun N w' v hN hS hv => ?_)
    rw [hQ, hrl, ← hl2]
    obtain ⟨p, hp⟩ := num_of hS (r := 3) rfl
    simp only [resV, SV.den, hp, Option.some.injEq] at hv
    have hx := hS.ext 3 _ p rfl hp rfl
    simp only [List.length_cons, List.length_nil] at hx
    refine ⟨p.b, p.o, _, by rw [← hv, Nat.add_zero]; rfl, ?_, fun j hj => ?_, hS.chg.none⟩
    · rcases hS.foot 3 _ p rfl hp rfl with h | h
      · exact h
      · exact absurd (h 0 (by omega)) (fun h => inR_nil h)
    · match j, hj with
      | 0, _ =>
        obtain ⟨v, e1, e2⟩ := hS.cell 3 _ p rfl hp 0 _ rfl
        simp only [SV.den, Option.some.injEq] at e1
        exact ⟨p1, c1, by rw [wm, e2, ← e1, hq1]; rfl, hb1.mono (Nat.le_refl _) fun k o v _ hv => hS.imm _ _ _ hv⟩
      | 1, _ =>
        obtain ⟨v, e1, e2⟩ := hS.cell 3 _ p rfl hp 1 _ rfl
        simp only [SV.den, Option.some.injEq] at e1
        exact ⟨p2, c2, by rw [wm, e2, ← e1, hq2]; rfl, hb2.mono (Nat.le_refl _) fun k o v _ hv => hS.imm _ _ _ hv⟩
  · simp only [SB.F] at hF
    have hc : ¬ C % 2 = 1 := by rw [hbt] at hF; exact of_decide_eq_false hF
    have hrl : ringsL C o n key = [l1] := by rw [ringsL, if_neg hc, hl1]
    refine X.go T51_ok 400 _ rfl Try.results51 ?_
    conv => arg 2; cbv
    refine X.done T51_ok rfl (fun N w' v hN hS hv => ?_)
    rw [hQ, hrl]
    obtain ⟨p, hp⟩ := num_of hS (r := 1) rfl
    simp only [resV, SV.den, hp, Option.some.injEq] at hv
    have hx := hS.ext 1 _ p rfl hp rfl
    simp only [List.length_cons, List.length_nil] at hx
    refine ⟨p.b, p.o, _, by rw [← hv, Nat.add_zero]; rfl, ?_, fun j hj => ?_, hS.chg.none⟩
    · rcases hS.foot 1 _ p rfl hp rfl with h | h
      · exact h
      · exact absurd (h 0 (by omega)) (fun h => inR_nil h)
    · match j, hj with
      | 0, _ =>
        obtain ⟨v, e1, e2⟩ := hS.cell 1 _ p rfl hp 0 _ rfl
        simp only [SV.den, Option.some.injEq] at e1
        exact ⟨p1, c1, by rw [wm, e2, ← e1, hq1]; rfl, hb1.mono (Nat.le_refl _) fun k o v _ hv => hS.imm _ _ _ hv⟩

/-! ### quorums -/
def maj (l : List Int) (s : Nat) : Prop := l.length < 2 * cntN l s
def quoC (C : Nat) (o n : Array Int) (key : Int) (s : Nat) : Prop := mayC C o n ∧ maj (ofL n key) s ∧ (C % 2 = 1 → maj (ofL o key) s)
theorem ofL_sub {d : Array Int} {key x : Int} (h : x ∈ ofL d key) : x ∈ d.toList := by
  rw [(ofL_perm d key).mem_iff, keepL_eq (ringP_rise d)] at h
  have := List.mem_of_mem_take h
  rw [dd_mem] at this
  rcases this with h | h
  · cases h
  · exact (nodes_mem d _ x).1 h
theorem quoC_rings {C : Nat} {o n : Array Int} {key : Int} {s : Nat} (h : mayC C o n) : quoC C o n key s ↔ ∀ j, j < (ringsL C o n key).length → maj (ringsL C o n key)[j]! s := by
  unfold quoC ringsL
  by_cases hc : C % 2 = 1
  · rw [if_pos hc]
    constructor
    · rintro ⟨_, h1, h2⟩ j hj
      match j, hj with
      | 0, _ => exact h1
      | 1, _ => exact h2 hc
    · intro h2
      exact ⟨h, h2 0 (by simp), fun _ => h2 1 (by simp)⟩
  · rw [if_neg hc]
    constructor
    · rintro ⟨_, h1, _⟩ j hj
      match j, hj with
      | 0, _ => exact h1
    · intro h2
      exact ⟨h, h2 0 (by simp), fun e => absurd e hc⟩
theorem rings_64 {C : Nat} {o n : Array Int} {key : Int} (h : mayC C o n) (hbo : ∀ x ∈ o.toList, 0 ≤ x ∧ x < 256) (hbn : ∀ x ∈ n.toList, 0 ≤ x ∧ x < 256) : ∀ j, j < (ringsL C o n key).length → (ringsL C o n key)[j]!.Nodup ∧ ∀ x ∈ (ringsL C o n key)[j]!, 0 ≤ x ∧ x < 64 := by
  obtain ⟨_, hmn, hrest⟩ := h
  have k1 : (ofL n key).Nodup ∧ ∀ x ∈ ofL n key, 0 ≤ x ∧ x < 64 := ⟨(ofL_lt n key).imp fun h => by omega, fun x hx => mayP_64 hmn hbn x (ofL_sub hx)⟩
  unfold ringsL
  by_cases hc : C % 2 = 1
  · rw [if_pos hc] at hrest ⊢
    have k2 : (ofL o key).Nodup ∧ ∀ x ∈ ofL o key, 0 ≤ x ∧ x < 64 := ⟨(ofL_lt o key).imp fun h => by omega, fun x hx => mayP_64 hrest.2.1 hbo x (ofL_sub hx)⟩
    intro j hj
    match j, hj with
    | 0, _ => exact k1
    | 1, _ => exact k2
  · rw [if_neg hc]
    intro j hj
    match j, hj with
    | 0, _ => exact k1
theorem rings_len {C : Nat} {o n : Array Int} {key : Int} (ho : o.size ≤ 100) (hn : n.size ≤ 100) : (ringsL C o n key).length ≤ 2 ∧ ∀ j, j < (ringsL C o n key).length → (ringsL C o n key)[j]!.length ≤ 1000 := by
  unfold ringsL
  split
  · refine ⟨by simp, fun j hj => ?_⟩
    match j, hj with
    | 0, _ => exact ofL_len n key hn
    | 1, _ => exact ofL_len o key ho
  · refine ⟨by simp, fun j hj => ?_⟩
    match j, hj with
    | 0, _ => exact ofL_len n key hn

set_option maxHeartbeats 8000000 in
set_option maxRecDepth 100000 in
set_option cbv.maxSteps 100000000 in
theorem quorum_ok (C s : Nat) (po pn : Option Addr) (no nn co cn : Nat) (o n : Array Int) (key : Int) (w : World) (hno : no ≤ 100) (hnn : nn ≤ 100) (hs : s < 2 ^ 64) (ho : InB po no o w) (hn : InB pn nn n w) (hbo : ∀ x ∈ o.toList, 0 ≤ x ∧ x < 256) (hbn : ∀ x ∈ n.toList, 0 ≤ x ∧ x < 256) :
    Calls Try.prog 26 #[.agg #[.int .u64 C, .slice po no co, .slice pn nn cn], .int .u8 key, .int .u64 s] w fun e w' => e = .returned (.bool (B (quoC C o n key s))) ∧ Chg (fun _ _ => False) w w' := by
  have hos := ho.1
  have hns := hn.1
  obtain ⟨Q, hQ⟩ : ∃ Q : Ending → World → Prop, Q = fun e w' => e = .returned (.bool (B (quoC C o n key s))) ∧ Chg (fun _ _ => False) w w' := ⟨_, rfl⟩
  rw [← hQ]
  refine X.begin (rg := []) (N := []) (ss := [.agg [.int .u64 (.nat C), .slv po no co, .slv pn nn cn], .int .u8 (.v key), .int .u64 (.nat s)]) Try.func26 rfl B26_ok rfl rfl Sat.std0 ?_
  obtain ⟨m1, hm1⟩ : ∃ b, b = B (mayC C o n) := ⟨_, rfl⟩
  refine X.goP ([(10, .bool (.v m1))]) T26_ok 400 _ rfl Try.results26 (fun pr fin hpr hfin => ?_)
  conv => cbv
  refine ⟨hpr _ (.of Try.call23 [.agg #[.int .u64 C, .slice po no co, .slice pn nn cn]] (.bool m1) (fun _ => rfl) (fun _ => rfl) fun _ w1 him => by rw [hm1]; exact cmay_ok C po pn no nn co cn o n w1 (by omega) (by omega) (ho.im him) (hn.im him) hbo hbn), hfin _ _ ?_⟩
  refine X.cond rfl (fun hT => ?_) (fun hF => ?_)
  · simp only [SB.T, SB.F] at hT
    have hno' : ¬ quoC C o n key s := fun h => by rw [hm1, B_pos h.1] at hT; cases hT
    refine X.go T26_ok 400 _ rfl Try.results26 ?_
    conv => arg 2; cbv
    refine X.done T26_ok rfl (fun N w' v hN hS hv => ?_)
    rw [hQ]
    exact ⟨fin_bool hv (by rw [B_neg hno']; rfl), hS.chg.none⟩
  simp only [SB.T, SB.F] at hF
  have hmay : mayC C o n := B_iff.1 (by rw [← hm1]; exact hF)
  refine X.go T26_ok 400 _ rfl Try.results26 ?_
  conv => arg 2; cbv
  refine X.call rfl rfl rfl rfl Try.call51 (fun N w1 args hN hS ha => ?_)
  have ha : args = [.agg #[.int .u64 C, .slice po no co, .slice pn nn cn], .int .u8 key] := (Option.some.inj ha).symm
  rw [ha]
  refine (rings_ok C po pn no nn co cn o n key w1 (by omega) (by omega) (ho.stays hS.chg.none) (hn.stays hS.chg.none) hbo hbn).mono fun e w2 ⟨b, y, c, he, hfr, hcell, hch⟩ => ?_
  have hq := quoC_rings (key := key) (s := s) hmay
  have h64 := rings_64 (key := key) hmay hbo hbn
  obtain ⟨hl2, hl3⟩ := rings_len (C := C) (key := key) (show o.size ≤ 100 by omega) (show n.size ≤ 100 by omega)
  obtain ⟨ls, hls⟩ : ∃ l, l = ringsL C o n key := ⟨_, rfl⟩
  obtain ⟨m, hm⟩ : ∃ m, m = ls.length := ⟨_, rfl⟩
  rw [← hls] at hq h64 hl2 hl3 he hcell
  rw [← hm] at hq h64 hl2 hl3 he hcell
  refine ⟨_, he, Goes.newMem hN hS hch (r := .slv (some ⟨b, y, none⟩) m c) rfl rfl (fun hold hnew => ?_)⟩
  obtain ⟨im, him⟩ : ∃ im, im = imNew (elsewhere [] [] w) w1 w2 := ⟨_, rfl⟩
  have hcell : ∀ j, j < m → ∃ p c, im b (y + j) = some (.slice p ls[j]!.length c) ∧ BytNew ls[j]! 0 im p c := fun j hj => by
    obtain ⟨p, c, h1, h2⟩ := hcell j hj
    exact ⟨p, c, by rw [him]; exact hnew _ _ _ hfr h1, h2.mono (Nat.zero_le _) fun k o v hk hv => by rw [him]; exact hnew _ _ _ hk hv⟩
  obtain ⟨pr, hpr0⟩ : ∃ p, p = some (Addr.mk b y none) := ⟨_, rfl⟩
  show X (mkE Try.prog Try.f26 Q w (InR [] []) (imNew (elsewhere [] [] w) w1 w2) (fun _ _ => False) (fun _ => True) [] B26) _ _
  rw [← him, ← hpr0]
  clear him hold hnew hch he ha hS hN
  refine X.go T26_ok 400 _ rfl Try.results26 ?_
  conv => arg 2; cbv
  refine X.loop (fun _ : {i : Nat // i ≤ m ∧ ∀ j, j < i → maj ls[j]! s} => mkE Try.prog Try.f26 Q w (InR [] []) im (fun _ _ => False) (fun _ => True) [] B26)
    (fun g => ⟨[(2, .val (.int .u64 (.nat s))), (14, .val (.slv pr m c)), (15, .val (.int .i64 (.nat m))), (16, .val (.int .i64 (.nat g.1)))], []⟩) (fun g => m - g.1) (fun _ => ⟨rfl, rfl, rfl, rfl⟩) (fun N ac w' hN hf hS => ⟨⟨0, Nat.zero_le _, fun j hj => absurd hj (Nat.not_lt_zero j)⟩, ?_⟩) (fun g q hq2 => ?_)
  · exact At.again hf hS (by repeat first | exact trivial | refine ⟨⟨_, rfl, .inl ⟨rfl, rfl⟩⟩, ?_⟩ | refine ⟨⟨_, rfl, .inr ⟨_, rfl, rfl⟩⟩, ?_⟩ | refine ⟨⟨_, rfl, .inr ⟨_, rfl, by simp (disch := omega) [SV.den, SI.den, wrapU, wrapD] <;> omega⟩⟩, ?_⟩) trivial
  obtain ⟨i, hi, hmaj⟩ := g
  show X (mkE Try.prog Try.f26 Q w (InR [] []) im (fun _ _ => False) (fun _ => True) [] B26) _ ⟨[(2, .val (.int .u64 (.nat s))), (14, .val (.slv pr m c)), (15, .val (.int .i64 (.nat m))), (16, .val (.int .i64 (.nat i)))], []⟩
  refine X.go T26_ok 400 _ rfl Try.results26 ?_
  conv => arg 2; cbv
  refine X.cond rfl (fun hlt => ?_) (fun hge => ?_)
  · simp only [SB.T, SI.den] at hlt
    have hlt : i < m := by omega
    obtain ⟨p1, c1, hc1, hb1⟩ := hcell i hlt
    obtain ⟨hnd, hx64⟩ := h64 i hlt
    have hl1000 := hl3 i hlt
    obtain ⟨l, hl⟩ : ∃ l, l = ls[i]! := ⟨_, rfl⟩
    rw [← hl] at hc1 hb1 hnd hx64 hl1000
    obtain ⟨q1, hq1⟩ : ∃ q, q = l.length := ⟨_, rfl⟩
    obtain ⟨oi, hoi⟩ : ∃ o, o = y + i := ⟨_, rfl⟩
    obtain ⟨sl, hsl⟩ : ∃ t, t = setN l := ⟨_, rfl⟩
    have hsl8 : sl < 2 ^ 64 := by rw [hsl]; exact setN_lt _ 0 (by decide)
    have hand := bits_and sl s hsl8 hs
    obtain ⟨k, hk⟩ : ∃ k, k = cntN l s := ⟨_, rfl⟩
    have hk8 : k ≤ 1000 := by rw [hk]; exact Nat.le_trans List.countP_le_length hl1000
    refine X.goP ([(18, .ext b oi 0), (19, .slv p1 q1 c1), (21, .int .u64 (.nat sl)), (24, .int .i64 (.nat k))]) T26_ok 400 _ rfl Try.results26 (fun pr fin hpr hfin => ?_)
    conv => cbv
    refine ⟨hpr _ (.of Try.call48 [.int .u64 ((sl &&& s : Nat) : Int)] (.int .i64 k) (fun _ => by simp only [SV.denL, SV.den, SI.den, hand]) (fun _ => rfl) fun _ w1 _ => by rw [hk, ← pop_and hnd hx64, ← hsl]; exact ones_ok _ w1 (Nat.lt_of_le_of_lt Nat.and_le_left hsl8)),
      hpr _ (.of Try.call49 [.slice p1 q1 c1] (.int .u64 sl) (fun _ => rfl) (fun _ => rfl) fun _ w1 him => by rw [hsl, hq1]; exact set_ok p1 l.length c1 l.toArray w1 (by omega) (hb1.inB him) (fun x hx => by have := hx64 x (by simpa using hx); omega)),
      hpr _ (ValOk.im1 rfl Try.isAgg22 (fun _ => rfl) fun _ => by rw [Nat.add_zero, hoi, hq1]; exact hc1), hpr _ (ValOk.at (z := i) rfl rfl (fun _ => rfl) Try.underlying64 Try.sizeOf22 (fun _ => hlt) hpr0 (by omega)), hfin _ _ ?_⟩
    have hmul : IntKind.i64.wrap (2 * (k : Int)) = 2 * (k : Int) := wrapN _ (by omega) (by omega)
    refine X.cond rfl (fun hT => ?_) (fun hF => ?_)
    · simp only [SB.T, SI.den, hmul] at hT
      have hno' : ¬ quoC C o n key s := fun h => by
        have := hq.1 h i hlt
        rw [← hl, maj, ← hk] at this
        omega
      refine X.go T26_ok 400 _ rfl Try.results26 ?_
      conv => arg 2; cbv
      refine X.done T26_ok rfl (fun N w' v hN hS hv => ?_)
      rw [hQ]
      exact ⟨fin_bool hv (by rw [B_neg hno']; rfl), hS.chg.none⟩
    · simp only [SB.F, SI.den, hmul] at hF
      refine X.go T26_ok 400 _ rfl Try.results26 ?_
      conv => arg 2; cbv
      refine X.back (fun N ac w' hN hf hS => hq2 ⟨i + 1, hlt, fun j hj => ?_⟩ ac w' (by simp only; omega) ?_)
      · rcases Nat.lt_or_ge j i with h | h
        · exact hmaj j h
        · have : j = i := by omega
          subst this
          rw [← hl, maj, ← hk]
          omega
      · exact At.again hf hS (by repeat first | exact trivial | refine ⟨⟨_, rfl, .inl ⟨rfl, rfl⟩⟩, ?_⟩ | refine ⟨⟨_, rfl, .inr ⟨_, rfl, rfl⟩⟩, ?_⟩ | refine ⟨⟨_, rfl, .inr ⟨_, rfl, by simp (disch := omega) [SV.den, SI.den, wrapU, wrapD] <;> omega⟩⟩, ?_⟩) trivial
  · simp only [SB.F, SI.den] at hge
    have hyes : quoC C o n key s := hq.2 fun j hj => hmaj j (by omega)
    refine X.go T26_ok 400 _ rfl Try.results26 ?_
    conv => arg 2; cbv
    refine X.done T26_ok rfl (fun N w' v hN hS hv => ?_)
    rw [hQ]
    exact ⟨fin_bool hv (by rw [B_pos hyes]; rfl), hS.chg.none⟩

set_option maxHeartbeats 8000000 in
set_option maxRecDepth 100000 in
set_option cbv.maxSteps 100000000 in
theorem quorum10_ok (C s : Nat) (po pn : Option Addr) (no nn co cn : Nat) (o n : Array Int) (key : Int) (w : World) (hno : no ≤ 100) (hnn : nn ≤ 100) (hs : s < 2 ^ 64) (ho : InB po no o w) (hn : InB pn nn n w) (hbo : ∀ x ∈ o.toList, 0 ≤ x ∧ x < 256) (hbn : ∀ x ∈ n.toList, 0 ≤ x ∧ x < 256) :
    Calls Try.prog 27 #[.agg #[.int .u64 C, .slice po no co, .slice pn nn cn], .int .u8 key, .int .u64 s] w fun e w' => e = .returned (.bool (B (quoC C o n key s))) ∧ Chg (fun _ _ => False) w w' := by
  have hos := ho.1
  have hns := hn.1
  obtain ⟨Q, hQ⟩ : ∃ Q : Ending → World → Prop, Q = fun e w' => e = .returned (.bool (B (quoC C o n key s))) ∧ Chg (fun _ _ => False) w w' := ⟨_, rfl⟩
  rw [← hQ]
  refine X.begin (rg := []) (N := []) (ss := [.agg [.int .u64 (.nat C), .slv po no co, .slv pn nn cn], .int .u8 (.v key), .int .u64 (.nat s)]) Try.func27 rfl B27_ok rfl rfl Sat.std0 ?_
  obtain ⟨m1, hm1⟩ : ∃ b, b = B (mayC C o n) := ⟨_, rfl⟩
  refine X.goP ([(10, .bool (.v m1))]) T27_ok 400 _ rfl Try.results27 (fun pr fin hpr hfin => ?_)
  conv => cbv
  refine ⟨hpr _ (.of Try.call24 [.agg #[.int .u64 C, .slice po no co, .slice pn nn cn]] (.bool m1) (fun _ => rfl) (fun _ => rfl) fun _ w1 him => by rw [hm1]; exact cmay10_ok C po pn no nn co cn o n w1 (by omega) (by omega) (ho.im him) (hn.im him)), hfin _ _ ?_⟩
  refine X.cond rfl (fun hT => ?_) (fun hF => ?_)
  · simp only [SB.T, SB.F] at hT
    have hno' : ¬ quoC C o n key s := fun h => by rw [hm1, B_pos h.1] at hT; cases hT
    refine X.go T27_ok 400 _ rfl Try.results27 ?_
    conv => arg 2; cbv
    refine X.done T27_ok rfl (fun N w' v hN hS hv => ?_)
    rw [hQ]
    exact ⟨fin_bool hv (by rw [B_neg hno']; rfl), hS.chg.none⟩
  simp only [SB.T, SB.F] at hF
  have hmay : mayC C o n := B_iff.1 (by rw [← hm1]; exact hF)
  refine X.go T27_ok 400 _ rfl Try.results27 ?_
  conv => arg 2; cbv
  refine X.call rfl rfl rfl rfl Try.call18 (fun N w1 args hN hS ha => ?_)
  have ha : args = [.slice pn nn cn, .int .u8 key] := (Option.some.inj ha).symm
  rw [ha]
  refine (of9_ok pn nn cn n key w1 hnn (hn.stays hS.chg.none) hbn).mono fun e w2 hr => ?_
  obtain ⟨b1, y1, c1, he, hfr, hcell, hch⟩ := hr.byt
  obtain ⟨l1, hl1⟩ : ∃ l, l = ofL n key := ⟨_, rfl⟩
  obtain ⟨q1, hq1⟩ : ∃ q, q = l1.length := ⟨_, rfl⟩
  have hl18 : l1.length ≤ 1000 := by rw [hl1]; exact ofL_len n key (by omega)
  have hl1b : ∀ x ∈ l1.toArray.toList, 0 ≤ x ∧ x < 256 := fun x hx => hbn x (ofL_sub (by rw [← hl1]; simpa using hx))
  rw [← hl1] at hfr hcell he
  rw [← hq1] at he
  obtain ⟨p1, hp1⟩ : ∃ p, p = some (Addr.mk b1 y1 none) := ⟨_, rfl⟩
  rw [← hp1] at he
  refine ⟨_, he, Goes.newMem hN hS hch (r := .slv p1 q1 c1) rfl rfl (fun hold hnew => ?_)⟩
  obtain ⟨im, him⟩ : ∃ im, im = imNew (elsewhere [] [] w) w1 w2 := ⟨_, rfl⟩
  have hB1 : ∀ w' : World, (∀ k o v, im k o = some v → w'.cell? ⟨k, o, none⟩ = some v) → InB p1 q1 l1.toArray w' := fun w' h => ⟨by simp [hq1], fun h0 => ⟨b1, y1, hp1, fun j hj => by
    have hj : j < l1.length := by simpa using hj
    have := h _ _ _ (by rw [him]; exact hnew _ _ _ (hfr (by omega)) (hcell j hj))
    simpa [hj] using this⟩⟩
  have hoM : ∀ w' : World, (∀ k o v, im k o = some v → w'.cell? ⟨k, o, none⟩ = some v) → InB po no o w' := fun w' h => ho.im fun k o v hv => h _ _ _ (by rw [him]; exact hold _ _ _ hv)
  show X (mkE Try.prog Try.f27 Q w (InR [] []) (imNew (elsewhere [] [] w) w1 w2) (fun _ _ => False) (fun _ => True) [] B27) _ _
  rw [← him]
  clear him hold hnew hr hch he ha hS hN hcell hfr
  obtain ⟨k1, hk1⟩ : ∃ k, k = cntN l1 s := ⟨_, rfl⟩
  have hk18 : k1 ≤ 1000 := by rw [hk1]; exact Nat.le_trans List.countP_le_length hl18
  have hhalf : ∀ q : Nat, q ≤ 1000 → IntKind.i64.wrap ((q : Int).tdiv 2) = ((q / 2 : Nat) : Int) := fun q hq => by rw [Int.tdiv_eq_ediv_of_nonneg (by omega), wrapN _ (by omega) (by omega)]; omega
  refine X.goP ([(18, .int .i64 (.nat k1))]) T27_ok 400 _ rfl Try.results27 (fun pr fin hpr hfin => ?_)
  conv => cbv
  refine ⟨hpr _ (.of Try.call52 [.slice p1 q1 c1, .int .u64 s] (.int .i64 k1) (fun _ => rfl) (fun _ => rfl) fun _ w1 him => by rw [hk1]; exact count_ok p1 q1 c1 s l1.toArray w1 (by omega) hs (hB1 w1 him) hl1b), hfin _ _ ?_⟩
  refine X.cond rfl (fun hT => ?_) (fun hF2 => ?_)
  · simp only [SB.T, SI.den, hhalf q1 (by omega)] at hT
    have hno' : ¬ quoC C o n key s := fun h => by
      have := h.2.1
      rw [← hl1, maj, ← hk1, ← hq1] at this
      omega
    refine X.go T27_ok 400 _ rfl Try.results27 ?_
    conv => arg 2; cbv
    refine X.done T27_ok rfl (fun N w' v hN hS hv => ?_)
    rw [hQ]
    exact ⟨fin_bool hv (by rw [B_neg hno']; rfl), hS.chg.none⟩
  simp only [SB.F, SI.den, hhalf q1 (by omega)] at hF2
  have hmaj1 : maj (ofL n key) s := by rw [← hl1, maj, ← hk1, ← hq1]; omega
  refine X.go T27_ok 400 _ rfl Try.results27 ?_
  conv => arg 2; cbv
  refine X.cond rfl (fun hT => ?_) (fun hF3 => ?_)
  · simp only [SB.T, SI.den] at hT
    have hc : ¬ C % 2 = 1 := by rw [Int.tmod_eq_emod_of_nonneg (by omega)] at hT; omega
    have hyes : quoC C o n key s := ⟨hmay, hmaj1, fun h => absurd h hc⟩
    refine X.go T27_ok 400 _ rfl Try.results27 ?_
    conv => arg 2; cbv
    refine X.done T27_ok rfl (fun N w' v hN hS hv => ?_)
    rw [hQ]
    exact ⟨fin_bool hv (by rw [B_pos hyes]; rfl), hS.chg.none⟩
  simp only [SB.F, SI.den] at hF3
  have hc : C % 2 = 1 := by rw [Int.tmod_eq_emod_of_nonneg (by omega)] at hF3; omega
  refine X.go T27_ok 400 _ rfl Try.results27 ?_
  conv => arg 2; cbv
  refine X.call rfl rfl rfl rfl Try.call18 (fun N w3 args hN hS ha => ?_)
  have ha : args = [.slice po no co, .int .u8 key] := (Option.some.inj ha).symm
  rw [ha]
  refine (of9_ok po no co o key w3 hno (hoM w3 hS.imm) hbo).mono fun e w4 hr => ?_
  obtain ⟨b2, y2, c2, he, hfr, hcell, hch⟩ := hr.byt
  obtain ⟨l2, hl2⟩ : ∃ l, l = ofL o key := ⟨_, rfl⟩
  obtain ⟨q2, hq2⟩ : ∃ q, q = l2.length := ⟨_, rfl⟩
  have hl28 : l2.length ≤ 1000 := by rw [hl2]; exact ofL_len o key (by omega)
  have hl2b : ∀ x ∈ l2.toArray.toList, 0 ≤ x ∧ x < 256 := fun x hx => hbo x (ofL_sub (by rw [← hl2]; simpa using hx))
  rw [← hl2] at hfr hcell he
  rw [← hq2] at he
  obtain ⟨p2, hp2⟩ : ∃ p, p = some (Addr.mk b2 y2 none) := ⟨_, rfl⟩
  rw [← hp2] at he
  refine ⟨_, he, Goes.newMem hN hS hch (r := .slv p2 q2 c2) rfl rfl (fun hold hnew => ?_)⟩
  obtain ⟨im2, him2⟩ : ∃ im2, im2 = imNew im w3 w4 := ⟨_, rfl⟩
  have hB2 : ∀ w' : World, (∀ k o v, im2 k o = some v → w'.cell? ⟨k, o, none⟩ = some v) → InB p2 q2 l2.toArray w' := fun w' h => ⟨by simp [hq2], fun h0 => ⟨b2, y2, hp2, fun j hj => by
    have hj : j < l2.length := by simpa using hj
    have := h _ _ _ (by rw [him2]; exact hnew _ _ _ (hfr (by omega)) (hcell j hj))
    simpa [hj] using this⟩⟩
  show X (mkE Try.prog Try.f27 Q w (InR [] []) (imNew im w3 w4) (fun _ _ => False) (fun _ => True) [] B27) _ _
  rw [← him2]
  clear him2 hold hnew hr hch he ha hS hN hcell hfr
  obtain ⟨k2, hk2⟩ : ∃ k, k = cntN l2 s := ⟨_, rfl⟩
  have hk28 : k2 ≤ 1000 := by rw [hk2]; exact Nat.le_trans List.countP_le_length hl28
  refine X.goP ([(33, .int .i64 (.nat k2))]) T27_ok 400 _ rfl Try.results27 (fun pr fin hpr hfin => ?_)
  conv => cbv
  refine ⟨hpr _ (.of Try.call52 [.slice p2 q2 c2, .int .u64 s] (.int .i64 k2) (fun _ => rfl) (fun _ => rfl) fun _ w1 him => by rw [hk2]; exact count_ok p2 q2 c2 s l2.toArray w1 (by omega) hs (hB2 w1 him) hl2b), hfin _ _ ?_⟩
  refine X.done T27_ok rfl (fun N w' v hN hS hv => ?_)
  rw [hQ]
  refine ⟨fin_bool hv (den_of ?_), hS.chg.none⟩
  rw [B_iff]
  simp only [SB.T, SI.den, hhalf q2 (by omega)]
  constructor
  · intro h
    refine ⟨hmay, hmaj1, fun _ => ?_⟩
    rw [← hl2, maj, ← hk2, ← hq2]
    omega
  · intro h
    have := h.2.2 hc
    rw [← hl2, maj, ← hk2, ← hq2] at this
    omega

end Go.Proofs.Ythaffebapmkppaa
