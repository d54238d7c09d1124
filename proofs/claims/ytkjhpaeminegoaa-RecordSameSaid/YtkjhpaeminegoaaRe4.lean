/- The records' functions: nodes. -/
import Derived.Test.YtkjhpaeminegoaaRe3

namespace Go.Proofs.Ytkjhpaeminegoaa
open Go.Eng

def mayNP (l : List Int) : Prop := ∀ (i : Nat) (x : Int), l[i]? = some x → x ≤ 63 ∧ (0 < i → ∀ y, l[i - 1]? = some y → y < x)

set_option maxHeartbeats 4000000 in
set_option maxRecDepth 100000 in
set_option cbv.maxSteps 100000000 in
theorem has10_ok (l : List Int) (z : Int) (p : Option Addr) (c : Nat) (w : World) (hs : SlR (wm w) p c 1 (l.map u8D)) :
    Calls Try.prog 107 #[.slice p l.length c, .int .u8 z] w fun e w' => e = .returned (.bool (B (z ∈ l))) ∧ Chg (fun _ _ => False) w w' := by
  obtain ⟨q, hq⟩ : ∃ q, q = B (z ∈ l) := ⟨_, rfl⟩
  obtain ⟨n, hn⟩ : ∃ n, n = l.length := ⟨_, rfl⟩
  have hm := maxLen_le
  have hl : n ≤ maxLen := by rw [hn]; exact hs.len
  rw [← hq, ← hn]
  refine X.begin (rg := []) (N := []) (ss := [.slv p n c, .int .u8 (.v z)]) Try.func107 rfl B107_ok rfl rfl Sat.std0 ?_
  obtain ⟨im, hime⟩ : ∃ im, im = elsewhere [] [] w := ⟨_, rfl⟩
  show X (mkE Try.prog Try.f107 _ w (InR [] []) (elsewhere [] [] w) (fun _ _ => False) (fun _ => True) [] B107) _ _
  rw [← hime]
  refine X.go T107_ok 400 _ rfl Try.results107 ?_
  conv => arg 2; cbv
  refine X.loop1 (fun i : {i : Nat // i ≤ n ∧ ∀ j, j < i → l[j]? ≠ some z} => ⟨[(0, .val (.slv p n c)), (1, .val (.int .u8 (.v z))), (7, .val (.int .i64 (.nat n))), (8, .val (.int .i64 (.nat i.1)))], []⟩) (fun i => n - i.1) (fun N a w' hN hf hS => ⟨⟨0, Nat.zero_le _, fun j hj => by omega⟩, ?_⟩) (fun i q' hq' => ?_)
  · exact At.again hf hS (by repeat first | exact trivial | refine ⟨⟨_, rfl, .inl ⟨rfl, rfl⟩⟩, ?_⟩ | refine ⟨⟨_, rfl, .inr ⟨_, rfl, rfl⟩⟩, ?_⟩ | refine ⟨⟨_, rfl, .inr ⟨_, rfl, by simp (disch := omega) [SV.den, SI.den, wrapU]⟩⟩, ?_⟩) trivial
  obtain ⟨i, hi, hno⟩ := i
  refine X.go T107_ok 400 _ rfl Try.results107 ?_
  conv => arg 2; cbv
  refine X.cond rfl (fun hlt => ?_) (fun hge => ?_)
  · simp only [SB.T, SI.den] at hlt
    have hlt : i < n := by omega
    obtain ⟨x, hx⟩ : ∃ x, l[i]? = some x := ⟨_, List.getElem?_eq_getElem (by omega)⟩
    obtain ⟨b1, y1, _, hp1, hr1, hm1⟩ := hs.his hx
    rw [u8D.open hr1, ← hime] at hm1
    refine X.see b1 (y1 + i * 1) [.int .u8 (.v x)] (one_see (hm1 0 _ rfl)) Nat.zero_lt_one (fun N1 hN1 hNl1 => ?_)
    refine X.goP ([(13, .own 0 0)]) T107_ok 400 _ rfl Try.results107 (fun pr fin hpr hfin => ?_)
    conv => cbv
    refine ⟨hpr _ (ValOk.row rfl rfl (fun _ => rfl) Try.underlying30 Try.sizeOf5 hlt hp1 (num_last hNl1) rfl rfl), hfin _ _ ?_⟩
    refine X.cond rfl (fun heq => ?_) (fun hne => ?_)
    · simp only [SB.T, SI.den] at heq
      refine X.go T107_ok 400 _ rfl Try.results107 ?_
      conv => arg 2; cbv
      refine X.done T107_ok rfl (fun N w' v hN hS hv => ⟨fin_bool hv ?_, hS.chg.mono fun k o _ h => inR_nil h⟩)
      rw [hq]
      exact (B_pos (List.mem_of_getElem? (heq ▸ hx))).symm
    · simp only [SB.F, SI.den] at hne
      refine X.go T107_ok 400 _ rfl Try.results107 ?_
      conv => arg 2; cbv
      refine X.back (fun N a w' hN hf hS => hq' ⟨i + 1, by omega, fun j hj => ?_⟩ a w' (by simp only; omega) ?_)
      · by_cases e : j = i
        · subst e; rw [hx]; exact fun h => hne (Option.some.inj h)
        · exact hno j (by omega)
      exact At.again hf hS (by repeat first | exact trivial | refine ⟨⟨_, rfl, .inl ⟨rfl, rfl⟩⟩, ?_⟩ | refine ⟨⟨_, rfl, .inr ⟨_, rfl, rfl⟩⟩, ?_⟩ | refine ⟨⟨_, rfl, .inr ⟨_, rfl, by simp (disch := omega) [SV.den, SI.den, wrapU]⟩⟩, ?_⟩) trivial
  simp only [SB.F, SI.den] at hge
  obtain rfl : i = n := by omega
  refine X.go T107_ok 400 _ rfl Try.results107 ?_
  conv => arg 2; cbv
  refine X.done T107_ok rfl (fun N w' v hN hS hv => ⟨fin_bool hv ?_, hS.chg.mono fun k o _ h => inR_nil h⟩)
  rw [hq]
  refine (B_neg fun h => ?_).symm
  obtain ⟨j, hj⟩ := List.mem_iff_getElem?.1 h
  exact hno j (by have := (List.getElem?_eq_some_iff.1 hj).1; omega) hj

set_option maxHeartbeats 4000000 in
set_option maxRecDepth 100000 in
set_option cbv.maxSteps 100000000 in
theorem may09_ok (l : List Int) (p : Option Addr) (c : Nat) (w : World) (hs : SlR (wm w) p c 1 (l.map u8D)) :
    Calls Try.prog 92 #[.slice p l.length c] w fun e w' => e = .returned (.bool (B (mayNP l))) ∧ Chg (fun _ _ => False) w w' := by
  obtain ⟨q, hq⟩ : ∃ q, q = B (mayNP l) := ⟨_, rfl⟩
  obtain ⟨n, hn⟩ : ∃ n, n = l.length := ⟨_, rfl⟩
  have hm := maxLen_le
  have hl : n ≤ maxLen := by rw [hn]; exact hs.len
  rw [← hq, ← hn]
  refine X.begin (rg := []) (N := []) (ss := [.slv p n c]) Try.func92 rfl B92_ok rfl rfl Sat.std0 ?_
  obtain ⟨im, hime⟩ : ∃ im, im = elsewhere [] [] w := ⟨_, rfl⟩
  show X (mkE Try.prog Try.f92 _ w (InR [] []) (elsewhere [] [] w) (fun _ _ => False) (fun _ => True) [] B92) _ _
  rw [← hime]
  refine X.go T92_ok 400 _ rfl Try.results92 ?_
  conv => arg 2; cbv
  refine X.loop1 (fun i : {i : Nat // i ≤ n ∧ ∀ (j : Nat) (x : Int), j < i → l[j]? = some x → x ≤ 63 ∧ (0 < j → ∀ y, l[j - 1]? = some y → y < x)} => ⟨[(0, .val (.slv p n c)), (5, .val (.int .i64 (.nat n))), (6, .val (.int .i64 (.nat i.1)))], []⟩) (fun i => n - i.1) (fun N a w' hN hf hS => ⟨⟨0, Nat.zero_le _, fun j x hj => by omega⟩, ?_⟩) (fun i q' hq' => ?_)
  · exact At.again hf hS (by repeat first | exact trivial | refine ⟨⟨_, rfl, .inl ⟨rfl, rfl⟩⟩, ?_⟩ | refine ⟨⟨_, rfl, .inr ⟨_, rfl, rfl⟩⟩, ?_⟩ | refine ⟨⟨_, rfl, .inr ⟨_, rfl, by simp (disch := omega) [SV.den, SI.den, wrapU]⟩⟩, ?_⟩) trivial
  obtain ⟨i, hi, hno⟩ := i
  refine X.go T92_ok 400 _ rfl Try.results92 ?_
  conv => arg 2; cbv
  refine X.cond rfl (fun hlt => ?_) (fun hge => ?_)
  · simp only [SB.T, SI.den] at hlt
    have hlt : i < n := by omega
    obtain ⟨x, hx⟩ : ∃ x, l[i]? = some x := ⟨_, List.getElem?_eq_getElem (by omega)⟩
    obtain ⟨k, hk⟩ : ∃ k, k = i - 1 := ⟨_, rfl⟩
    obtain ⟨y, hy⟩ : ∃ x, l[k]? = some x := ⟨_, List.getElem?_eq_getElem (by omega)⟩
    obtain ⟨b1, y1, _, hp1, hr1, hm1⟩ := hs.his hx
    obtain ⟨b2, y2, _, hp2, hr2, hm2⟩ := hs.his hy
    rw [u8D.open hr1, ← hime] at hm1
    rw [u8D.open hr2, ← hime] at hm2
    refine X.see b1 (y1 + i * 1) [.int .u8 (.v x)] (one_see (hm1 0 _ rfl)) Nat.zero_lt_one (fun N1 hN1 hNl1 => ?_)
    refine X.see b2 (y2 + k * 1) [.int .u8 (.v y)] (one_see (hm2 0 _ rfl)) Nat.zero_lt_one (fun N2 hN2 hNl2 => ?_)
    have hg1 : (N2 ++ [(⟨b2, y2 + k * 1, 0⟩ : Num)])[0]? = some ⟨b1, y1 + i * 1, 0⟩ := num_old (hN2 0 _ (num_last hNl1))
    refine X.goP ([(11, .own 0 0), (21, .own 1 0), (25, .own 0 0)]) T92_ok 400 _ rfl Try.results92 (fun pr fin hpr hfin => ?_)
    conv => cbv
    refine ⟨hpr _ (ValOk.row rfl rfl (fun _ => rfl) Try.underlying30 Try.sizeOf5 hlt hp1 hg1 rfl rfl), hpr _ (ValOk.row rfl rfl (fun h => ?_) Try.underlying30 Try.sizeOf5 (z := k) (by omega) hp2 (num_last hNl2) rfl rfl), hpr _ (ValOk.row rfl rfl (fun _ => rfl) Try.underlying30 Try.sizeOf5 hlt hp1 hg1 rfl rfl), hfin _ _ ?_⟩
    · have h : (SB.gt (SI.nat i) (SI.lit 0)).den = true := h
      simp [SB.den, SI.den] at h
      simp [SI.den, IntKind.wrap, IntKind.bits, IntKind.signed]
      omega
    refine X.cond rfl (fun hbad => ?_) (fun hok => ?_)
    · simp only [SB.T, SI.den] at hbad
      refine X.go T92_ok 400 _ rfl Try.results92 ?_
      conv => arg 2; cbv
      refine X.done T92_ok rfl (fun N w' v hN hS hv => ⟨fin_bool hv ?_, hS.chg.mono fun k o _ h => inR_nil h⟩)
      rw [hq]
      refine (B_neg fun h => ?_).symm
      obtain ⟨h1, h2⟩ := h i x hx
      rcases hbad with hb | ⟨hb1, hb2⟩
      · omega
      · have := h2 (by omega) y (by rw [← hk]; exact hy)
        omega
    · simp only [SB.F, SI.den] at hok
      refine X.go T92_ok 400 _ rfl Try.results92 ?_
      conv => arg 2; cbv
      refine X.back (fun N a w' hN hf hS => hq' ⟨i + 1, by omega, fun j x' hj hj' => ?_⟩ a w' (by simp only; omega) ?_)
      · by_cases e : j = i
        · subst e
          rw [hx] at hj'
          obtain rfl := Option.some.inj hj'
          refine ⟨by omega, fun h0 y' hy' => ?_⟩
          rw [← hk, hy] at hy'
          obtain rfl := Option.some.inj hy'
          omega
        · exact hno j x' (by omega) hj'
      exact At.again hf hS (by repeat first | exact trivial | refine ⟨⟨_, rfl, .inl ⟨rfl, rfl⟩⟩, ?_⟩ | refine ⟨⟨_, rfl, .inr ⟨_, rfl, rfl⟩⟩, ?_⟩ | refine ⟨⟨_, rfl, .inr ⟨_, rfl, by simp (disch := omega) [SV.den, SI.den, wrapU]⟩⟩, ?_⟩) trivial
  simp only [SB.F, SI.den] at hge
  obtain rfl : i = n := by omega
  refine X.go T92_ok 400 _ rfl Try.results92 ?_
  conv => arg 2; cbv
  refine X.done T92_ok rfl (fun N w' v hN hS hv => ⟨fin_bool hv ?_, hS.chg.mono fun k o _ h => inR_nil h⟩)
  rw [hq]
  refine (B_pos fun j x hj => ?_).symm
  exact hno j x (by have := (List.getElem?_eq_some_iff.1 hj).1; omega) hj

/-- how many of some aren't among others -/
noncomputable def othersN (l m : List Int) : Nat → Nat
  | 0 => 0
  | n + 1 => othersN l m n + (match l[n]? with | some x => if B (x ∈ m) then 0 else 1 | none => 0)

theorem othersN_le (l m : List Int) : ∀ n, othersN l m n ≤ n
  | 0 => Nat.le_refl _
  | n + 1 => by
    have := othersN_le l m n
    unfold othersN
    split
    · split <;> omega
    · omega

set_option maxHeartbeats 4000000 in
set_option maxRecDepth 100000 in
set_option cbv.maxSteps 100000000 in
theorem others_ok (l m : List Int) (p p2 : Option Addr) (c c2 : Nat) (w : World) (hs : SlR (wm w) p c 1 (l.map u8D)) (hs2 : SlR (wm w) p2 c2 1 (m.map u8D)) :
    Calls Try.prog 93 #[.slice p l.length c, .slice p2 m.length c2] w fun e w' => e = .returned (.int .i64 (othersN l m l.length : Nat)) ∧ Chg (fun _ _ => False) w w' := by
  obtain ⟨q, hq⟩ : ∃ q, q = othersN l m l.length := ⟨_, rfl⟩
  obtain ⟨n, hn⟩ : ∃ n, n = l.length := ⟨_, rfl⟩
  obtain ⟨n2, hn2⟩ : ∃ n, n = m.length := ⟨_, rfl⟩
  have hm := maxLen_le
  have hl : n ≤ maxLen := by rw [hn]; exact hs.len
  rw [← hq, ← hn, ← hn2]
  refine X.begin (rg := []) (N := []) (ss := [.slv p n c, .slv p2 n2 c2]) Try.func93 rfl B93_ok rfl rfl Sat.std0 ?_
  obtain ⟨im, hime⟩ : ∃ im, im = elsewhere [] [] w := ⟨_, rfl⟩
  show X (mkE Try.prog Try.f93 _ w (InR [] []) (elsewhere [] [] w) (fun _ _ => False) (fun _ => True) [] B93) _ _
  rw [← hime]
  refine X.go T93_ok 400 _ rfl Try.results93 ?_
  conv => arg 2; cbv
  refine X.loop1 (fun i : {i : Nat // i ≤ n} => ⟨[(0, .val (.slv p n c)), (1, .val (.slv p2 n2 c2)), (5, .val (.int .i64 (.nat (othersN l m i.1)))), (8, .val (.int .i64 (.nat n))), (9, .val (.int .i64 (.nat i.1)))], []⟩) (fun i => n - i.1) (fun N a w' hN hf hS => ⟨⟨0, Nat.zero_le _⟩, ?_⟩) (fun i q' hq' => ?_)
  · exact At.again hf hS (by repeat first | exact trivial | refine ⟨⟨_, rfl, .inl ⟨rfl, rfl⟩⟩, ?_⟩ | refine ⟨⟨_, rfl, .inr ⟨_, rfl, rfl⟩⟩, ?_⟩ | refine ⟨⟨_, rfl, .inr ⟨_, rfl, by simp (disch := omega) [SV.den, SI.den, wrapU]⟩⟩, ?_⟩) trivial
  obtain ⟨i, hi⟩ := i
  obtain ⟨k, hk⟩ : ∃ k, k = othersN l m i := ⟨_, rfl⟩
  have hki := othersN_le l m i
  rw [← hk] at hki
  show X _ _ ⟨[(0, .val (.slv p n c)), (1, .val (.slv p2 n2 c2)), (5, .val (.int .i64 (.nat (othersN l m i)))), (8, .val (.int .i64 (.nat n))), (9, .val (.int .i64 (.nat i)))], []⟩
  rw [← hk]
  refine X.go T93_ok 400 _ rfl Try.results93 ?_
  conv => arg 2; cbv
  refine X.cond rfl (fun hlt => ?_) (fun hge => ?_)
  · simp only [SB.T, SI.den] at hlt
    have hlt : i < n := by omega
    obtain ⟨x, hx⟩ : ∃ x, l[i]? = some x := ⟨_, List.getElem?_eq_getElem (by omega)⟩
    obtain ⟨b1, y1, _, hp1, hr1, hm1⟩ := hs.his hx
    rw [u8D.open hr1, ← hime] at hm1
    refine X.see b1 (y1 + i * 1) [.int .u8 (.v x)] (one_see (hm1 0 _ rfl)) Nat.zero_lt_one (fun N1 hN1 hNl1 => ?_)
    obtain ⟨h, hh⟩ : ∃ h, h = B (x ∈ m) := ⟨_, rfl⟩
    refine X.goP ([(15, .own 0 0), (17, .bool (.v h))]) T93_ok 400 _ rfl Try.results93 (fun pr fin hpr hfin => ?_)
    conv => cbv
    refine ⟨hpr _ (.of Try.call107 [.slice p2 m.length c2, .int .u8 x] (.bool h) (fun _ => by rw [← hn2]; rfl) (fun _ => rfl) fun _ w1 hi1 => ?_), hpr _ (ValOk.row rfl rfl (fun _ => rfl) Try.underlying30 Try.sizeOf5 hlt hp1 (num_last hNl1) rfl rfl), hfin _ _ ?_⟩
    · rw [hh]
      exact has10_ok m x p2 c2 w1 (hs2.mono fun k o v hv => hi1 k o v (by show im k o = _; rw [hime]; exact his hv))
    have hnx : othersN l m (i + 1) = k + (if h then 0 else 1) := by
      show othersN l m i + (match l[i]? with | some x => if B (x ∈ m) then 0 else 1 | none => 0) = _
      simp only [hx, ← hk, ← hh]
    refine X.cond rfl (fun ht => ?_) (fun ht => ?_)
    · simp only [SB.T, SB.F] at ht
      subst ht
      refine X.go T93_ok 400 _ rfl Try.results93 ?_
      conv => arg 2; cbv
      refine X.back (fun N a w' hN hf hS => hq' ⟨i + 1, by omega⟩ a w' (by simp only; omega) ?_)
      simp only [hnx]
      exact At.again hf hS (by repeat first | exact trivial | refine ⟨⟨_, rfl, .inl ⟨rfl, rfl⟩⟩, ?_⟩ | refine ⟨⟨_, rfl, .inr ⟨_, rfl, rfl⟩⟩, ?_⟩ | refine ⟨⟨_, rfl, .inr ⟨_, rfl, by simp (disch := omega) [SV.den, SI.den, wrapU]⟩⟩, ?_⟩) trivial
    · simp only [SB.T, SB.F] at ht
      subst ht
      refine X.go T93_ok 400 _ rfl Try.results93 ?_
      conv => arg 2; cbv
      refine X.back (fun N a w' hN hf hS => hq' ⟨i + 1, by omega⟩ a w' (by simp only; omega) ?_)
      simp only [hnx]
      exact At.again hf hS (by repeat first | exact trivial | refine ⟨⟨_, rfl, .inl ⟨rfl, rfl⟩⟩, ?_⟩ | refine ⟨⟨_, rfl, .inr ⟨_, rfl, rfl⟩⟩, ?_⟩ | refine ⟨⟨_, rfl, .inr ⟨_, rfl, by simp (disch := omega) [SV.den, SI.den, wrapU]⟩⟩, ?_⟩) trivial
  simp only [SB.F, SI.den] at hge
  obtain rfl : i = n := by omega
  refine X.go T93_ok 400 _ rfl Try.results93 ?_
  conv => arg 2; cbv
  refine X.done T93_ok rfl (fun N w' v hN hS hv => ⟨fin_int hv ?_, hS.chg.mono fun k o _ h => inR_nil h⟩)
  rw [hq, ← hn, ← hk]
  rfl

end Go.Proofs.Ytkjhpaeminegoaa
