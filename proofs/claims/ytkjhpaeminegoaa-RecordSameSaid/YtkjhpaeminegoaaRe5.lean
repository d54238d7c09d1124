/- The records' functions: lists held against each other. -/
import Derived.Test.YtkjhpaeminegoaaRe4

namespace Go.Proofs.Ytkjhpaeminegoaa
open Go.Eng

set_option maxHeartbeats 4000000 in
set_option maxRecDepth 100000 in
set_option cbv.maxSteps 100000000 in
theorem eqU8_ok (l m : List Int) (p p2 : Option Addr) (c c2 : Nat) (w : World) (hs : SlR (wm w) p c 1 (l.map u8D)) (hs2 : SlR (wm w) p2 c2 1 (m.map u8D)) :
    Calls Try.prog 77 #[.slice p l.length c, .slice p2 m.length c2] w fun e w' => e = .returned (.bool (B (l = m))) ∧ Chg (fun _ _ => False) w w' := by
  obtain ⟨q, hq⟩ : ∃ q, q = B (l = m) := ⟨_, rfl⟩
  obtain ⟨n, hn⟩ : ∃ n, n = l.length := ⟨_, rfl⟩
  obtain ⟨n2, hn2⟩ : ∃ n, n = m.length := ⟨_, rfl⟩
  have hm := maxLen_le
  have hl : n ≤ maxLen := by rw [hn]; exact hs.len
  rw [← hq, ← hn, ← hn2]
  refine X.begin (rg := []) (N := []) (ss := [.slv p n c, .slv p2 n2 c2]) Try.func77 rfl B77_ok rfl rfl Sat.std0 ?_
  obtain ⟨im, hime⟩ : ∃ im, im = elsewhere [] [] w := ⟨_, rfl⟩
  show X (mkE Try.prog Try.f77 _ w (InR [] []) (elsewhere [] [] w) (fun _ _ => False) (fun _ => True) [] B77) _ _
  rw [← hime]
  refine X.go T77_ok 400 _ rfl Try.results77 ?_
  conv => arg 2; cbv
  refine X.cond rfl (fun hc => ?_) (fun hc => ?_)
  · refine X.go T77_ok 400 _ rfl Try.results77 ?_
    conv => arg 2; cbv
    refine X.done T77_ok rfl (fun N w' v hN hS hv => ⟨fin_bool hv ?_, hS.chg.mono fun k o _ h => inR_nil h⟩)
    simp only [SB.T, SB.F, SI.den] at hc
    rw [hq]
    refine (B_neg fun h => ?_).symm
    subst h
    omega
  simp only [SB.T, SB.F, SI.den] at hc
  obtain rfl : n = n2 := by omega
  refine X.go T77_ok 400 _ rfl Try.results77 ?_
  conv => arg 2; cbv
  refine X.loop1 (fun i : {i : Nat // i ≤ n ∧ l.take i = m.take i} => ⟨[(0, .val (.slv p n c)), (1, .val (.slv p2 n c2)), (12, .val (.int .i64 (.nat n))), (13, .val (.int .i64 (.nat i.1)))], []⟩) (fun i => n - i.1) (fun N a w' hN hf hS => ⟨⟨0, Nat.zero_le _, rfl⟩, ?_⟩) (fun i q' hq' => ?_)
  · exact At.again hf hS (by repeat first | exact trivial | refine ⟨⟨_, rfl, .inl ⟨rfl, rfl⟩⟩, ?_⟩ | refine ⟨⟨_, rfl, .inr ⟨_, rfl, rfl⟩⟩, ?_⟩ | refine ⟨⟨_, rfl, .inr ⟨_, rfl, by simp (disch := omega) [SV.den, SI.den, wrapU]⟩⟩, ?_⟩) trivial
  obtain ⟨i, hi, htk⟩ := i
  refine X.go T77_ok 400 _ rfl Try.results77 ?_
  conv => arg 2; cbv
  refine X.cond rfl (fun hlt => ?_) (fun hge => ?_)
  · simp only [SB.T, SI.den] at hlt
    have hlt : i < n := by omega
    obtain ⟨x1, hx1⟩ : ∃ x, l[i]? = some x := ⟨_, List.getElem?_eq_getElem (by omega)⟩
    obtain ⟨x2, hx2⟩ : ∃ x, m[i]? = some x := ⟨_, List.getElem?_eq_getElem (by omega)⟩
    obtain ⟨b1, y1, _, hp1, hr1, hm1⟩ := hs.his hx1
    obtain ⟨b2, y2, _, hp2, hr2, hm2⟩ := hs2.his hx2
    rw [u8D.open hr1, ← hime] at hm1
    rw [u8D.open hr2, ← hime] at hm2
    skip
    skip
    refine X.see b1 (y1 + i * 1) [.int .u8 (.v x1)] (see_of hm1 rfl) (by simp) (fun N1 hN1 hNl1 => ?_)
    refine X.see b2 (y2 + i * 1) [.int .u8 (.v x2)] (see_of hm2 rfl) (by simp) (fun N2 hN2 hNl2 => ?_)
    have hg1 : (N2 ++ [(⟨b2, y2 + i * 1, 0⟩ : Num)])[1]? = some ⟨b2, y2 + i * 1, 0⟩ := num_last hNl2
    have hg0 : (N2 ++ [(⟨b2, y2 + i * 1, 0⟩ : Num)])[0]? = some ⟨b1, y1 + i * 1, 0⟩ := num_old (hN2 0 _ (num_last hNl1))
    refine X.goP ([(18, .own 0 0), (22, .own 1 0)]) T77_ok 400 _ rfl Try.results77 (fun pr fin hpr hfin => ?_)
    conv => cbv
    refine ⟨hpr _ (ValOk.row rfl rfl (fun _ => rfl) Try.underlying30 Try.sizeOf5 hlt hp2 hg1 rfl rfl), hpr _ (ValOk.row rfl rfl (fun _ => rfl) Try.underlying30 Try.sizeOf5 hlt hp1 hg0 rfl rfl), hfin _ _ ?_⟩
    refine X.cond rfl (fun hne => ?_) (fun heq => ?_)
    · simp only [SB.T, SB.F, SI.den] at hne
      refine X.go T77_ok 400 _ rfl Try.results77 ?_
      conv => arg 2; cbv
      refine X.done T77_ok rfl (fun N w' v hN hS hv => ⟨fin_bool hv ?_, hS.chg.mono fun k o _ h => inR_nil h⟩)
      rw [hq]
      refine (B_neg fun h => ?_).symm
      subst h
      rw [hx1] at hx2
      have := Option.some.inj hx2
      simp_all
    · simp only [SB.T, SB.F, SI.den] at heq
      subst heq
      refine X.go T77_ok 400 _ rfl Try.results77 ?_
      conv => arg 2; cbv
      refine X.back (fun N a w' hN hf hS => hq' ⟨i + 1, by omega, take_next htk hx1 hx2⟩ a w' (by simp only; omega) ?_)
      exact At.again hf hS (by repeat first | exact trivial | refine ⟨⟨_, rfl, .inl ⟨rfl, rfl⟩⟩, ?_⟩ | refine ⟨⟨_, rfl, .inr ⟨_, rfl, rfl⟩⟩, ?_⟩ | refine ⟨⟨_, rfl, .inr ⟨_, rfl, by simp (disch := omega) [SV.den, SI.den, wrapU]⟩⟩, ?_⟩) trivial
  simp only [SB.F, SI.den] at hge
  obtain rfl : i = n := by omega
  refine X.go T77_ok 400 _ rfl Try.results77 ?_
  conv => arg 2; cbv
  refine X.done T77_ok rfl (fun N w' v hN hS hv => ⟨fin_bool hv ?_, hS.chg.mono fun k o _ h => inR_nil h⟩)
  rw [hq]
  exact (B_pos (take_all htk hn hn2)).symm


set_option maxHeartbeats 4000000 in
set_option maxRecDepth 100000 in
set_option cbv.maxSteps 100000000 in
theorem eqI64_ok (l m : List Int) (p p2 : Option Addr) (c c2 : Nat) (w : World) (hs : SlR (wm w) p c 1 (l.map i64D)) (hs2 : SlR (wm w) p2 c2 1 (m.map i64D)) :
    Calls Try.prog 73 #[.slice p l.length c, .slice p2 m.length c2] w fun e w' => e = .returned (.bool (B (l = m))) ∧ Chg (fun _ _ => False) w w' := by
  obtain ⟨q, hq⟩ : ∃ q, q = B (l = m) := ⟨_, rfl⟩
  obtain ⟨n, hn⟩ : ∃ n, n = l.length := ⟨_, rfl⟩
  obtain ⟨n2, hn2⟩ : ∃ n, n = m.length := ⟨_, rfl⟩
  have hm := maxLen_le
  have hl : n ≤ maxLen := by rw [hn]; exact hs.len
  rw [← hq, ← hn, ← hn2]
  refine X.begin (rg := []) (N := []) (ss := [.slv p n c, .slv p2 n2 c2]) Try.func73 rfl B73_ok rfl rfl Sat.std0 ?_
  obtain ⟨im, hime⟩ : ∃ im, im = elsewhere [] [] w := ⟨_, rfl⟩
  show X (mkE Try.prog Try.f73 _ w (InR [] []) (elsewhere [] [] w) (fun _ _ => False) (fun _ => True) [] B73) _ _
  rw [← hime]
  refine X.go T73_ok 400 _ rfl Try.results73 ?_
  conv => arg 2; cbv
  refine X.cond rfl (fun hc => ?_) (fun hc => ?_)
  · refine X.go T73_ok 400 _ rfl Try.results73 ?_
    conv => arg 2; cbv
    refine X.done T73_ok rfl (fun N w' v hN hS hv => ⟨fin_bool hv ?_, hS.chg.mono fun k o _ h => inR_nil h⟩)
    simp only [SB.T, SB.F, SI.den] at hc
    rw [hq]
    refine (B_neg fun h => ?_).symm
    subst h
    omega
  simp only [SB.T, SB.F, SI.den] at hc
  obtain rfl : n = n2 := by omega
  refine X.go T73_ok 400 _ rfl Try.results73 ?_
  conv => arg 2; cbv
  refine X.loop1 (fun i : {i : Nat // i ≤ n ∧ l.take i = m.take i} => ⟨[(0, .val (.slv p n c)), (1, .val (.slv p2 n c2)), (12, .val (.int .i64 (.nat n))), (13, .val (.int .i64 (.nat i.1)))], []⟩) (fun i => n - i.1) (fun N a w' hN hf hS => ⟨⟨0, Nat.zero_le _, rfl⟩, ?_⟩) (fun i q' hq' => ?_)
  · exact At.again hf hS (by repeat first | exact trivial | refine ⟨⟨_, rfl, .inl ⟨rfl, rfl⟩⟩, ?_⟩ | refine ⟨⟨_, rfl, .inr ⟨_, rfl, rfl⟩⟩, ?_⟩ | refine ⟨⟨_, rfl, .inr ⟨_, rfl, by simp (disch := omega) [SV.den, SI.den, wrapU]⟩⟩, ?_⟩) trivial
  obtain ⟨i, hi, htk⟩ := i
  refine X.go T73_ok 400 _ rfl Try.results73 ?_
  conv => arg 2; cbv
  refine X.cond rfl (fun hlt => ?_) (fun hge => ?_)
  · simp only [SB.T, SI.den] at hlt
    have hlt : i < n := by omega
    obtain ⟨x1, hx1⟩ : ∃ x, l[i]? = some x := ⟨_, List.getElem?_eq_getElem (by omega)⟩
    obtain ⟨x2, hx2⟩ : ∃ x, m[i]? = some x := ⟨_, List.getElem?_eq_getElem (by omega)⟩
    obtain ⟨b1, y1, _, hp1, hr1, hm1⟩ := hs.his hx1
    obtain ⟨b2, y2, _, hp2, hr2, hm2⟩ := hs2.his hx2
    rw [i64D.open hr1, ← hime] at hm1
    rw [i64D.open hr2, ← hime] at hm2
    skip
    skip
    refine X.see b1 (y1 + i * 1) [.int .i64 (.v x1)] (see_of hm1 rfl) (by simp) (fun N1 hN1 hNl1 => ?_)
    refine X.see b2 (y2 + i * 1) [.int .i64 (.v x2)] (see_of hm2 rfl) (by simp) (fun N2 hN2 hNl2 => ?_)
    have hg1 : (N2 ++ [(⟨b2, y2 + i * 1, 0⟩ : Num)])[1]? = some ⟨b2, y2 + i * 1, 0⟩ := num_last hNl2
    have hg0 : (N2 ++ [(⟨b2, y2 + i * 1, 0⟩ : Num)])[0]? = some ⟨b1, y1 + i * 1, 0⟩ := num_old (hN2 0 _ (num_last hNl1))
    refine X.goP ([(18, .own 0 0), (22, .own 1 0)]) T73_ok 400 _ rfl Try.results73 (fun pr fin hpr hfin => ?_)
    conv => cbv
    refine ⟨hpr _ (ValOk.row rfl rfl (fun _ => rfl) Try.underlying58 Try.sizeOf2 hlt hp2 hg1 rfl rfl), hpr _ (ValOk.row rfl rfl (fun _ => rfl) Try.underlying58 Try.sizeOf2 hlt hp1 hg0 rfl rfl), hfin _ _ ?_⟩
    refine X.cond rfl (fun hne => ?_) (fun heq => ?_)
    · simp only [SB.T, SB.F, SI.den] at hne
      refine X.go T73_ok 400 _ rfl Try.results73 ?_
      conv => arg 2; cbv
      refine X.done T73_ok rfl (fun N w' v hN hS hv => ⟨fin_bool hv ?_, hS.chg.mono fun k o _ h => inR_nil h⟩)
      rw [hq]
      refine (B_neg fun h => ?_).symm
      subst h
      rw [hx1] at hx2
      have := Option.some.inj hx2
      simp_all
    · simp only [SB.T, SB.F, SI.den] at heq
      subst heq
      refine X.go T73_ok 400 _ rfl Try.results73 ?_
      conv => arg 2; cbv
      refine X.back (fun N a w' hN hf hS => hq' ⟨i + 1, by omega, take_next htk hx1 hx2⟩ a w' (by simp only; omega) ?_)
      exact At.again hf hS (by repeat first | exact trivial | refine ⟨⟨_, rfl, .inl ⟨rfl, rfl⟩⟩, ?_⟩ | refine ⟨⟨_, rfl, .inr ⟨_, rfl, rfl⟩⟩, ?_⟩ | refine ⟨⟨_, rfl, .inr ⟨_, rfl, by simp (disch := omega) [SV.den, SI.den, wrapU]⟩⟩, ?_⟩) trivial
  simp only [SB.F, SI.den] at hge
  obtain rfl : i = n := by omega
  refine X.go T73_ok 400 _ rfl Try.results73 ?_
  conv => arg 2; cbv
  refine X.done T73_ok rfl (fun N w' v hN hS hv => ⟨fin_bool hv ?_, hS.chg.mono fun k o _ h => inR_nil h⟩)
  rw [hq]
  exact (B_pos (take_all htk hn hn2)).symm


set_option maxHeartbeats 4000000 in
set_option maxRecDepth 100000 in
set_option cbv.maxSteps 100000000 in
theorem eqCell_ok (l m : List CellP) (p p2 : Option Addr) (c c2 : Nat) (w : World) (hs : SlR (wm w) p c 4 (l.map CellP.toD)) (hs2 : SlR (wm w) p2 c2 4 (m.map CellP.toD)) :
    Calls Try.prog 75 #[.slice p l.length c, .slice p2 m.length c2] w fun e w' => e = .returned (.bool (B (l = m))) ∧ Chg (fun _ _ => False) w w' := by
  obtain ⟨q, hq⟩ : ∃ q, q = B (l = m) := ⟨_, rfl⟩
  obtain ⟨n, hn⟩ : ∃ n, n = l.length := ⟨_, rfl⟩
  obtain ⟨n2, hn2⟩ : ∃ n, n = m.length := ⟨_, rfl⟩
  have hm := maxLen_le
  have hl : n ≤ maxLen := by rw [hn]; exact hs.len
  rw [← hq, ← hn, ← hn2]
  refine X.begin (rg := []) (N := []) (ss := [.slv p n c, .slv p2 n2 c2]) Try.func75 rfl B75_ok rfl rfl Sat.std0 ?_
  obtain ⟨im, hime⟩ : ∃ im, im = elsewhere [] [] w := ⟨_, rfl⟩
  show X (mkE Try.prog Try.f75 _ w (InR [] []) (elsewhere [] [] w) (fun _ _ => False) (fun _ => True) [] B75) _ _
  rw [← hime]
  refine X.go T75_ok 400 _ rfl Try.results75 ?_
  conv => arg 2; cbv
  refine X.cond rfl (fun hc => ?_) (fun hc => ?_)
  · refine X.go T75_ok 400 _ rfl Try.results75 ?_
    conv => arg 2; cbv
    refine X.done T75_ok rfl (fun N w' v hN hS hv => ⟨fin_bool hv ?_, hS.chg.mono fun k o _ h => inR_nil h⟩)
    simp only [SB.T, SB.F, SI.den] at hc
    rw [hq]
    refine (B_neg fun h => ?_).symm
    subst h
    omega
  simp only [SB.T, SB.F, SI.den] at hc
  obtain rfl : n = n2 := by omega
  refine X.go T75_ok 400 _ rfl Try.results75 ?_
  conv => arg 2; cbv
  refine X.loop1 (fun i : {i : Nat // i ≤ n ∧ l.take i = m.take i} => ⟨[(0, .val (.slv p n c)), (1, .val (.slv p2 n c2)), (12, .val (.int .i64 (.nat n))), (13, .val (.int .i64 (.nat i.1)))], []⟩) (fun i => n - i.1) (fun N a w' hN hf hS => ⟨⟨0, Nat.zero_le _, rfl⟩, ?_⟩) (fun i q' hq' => ?_)
  · exact At.again hf hS (by repeat first | exact trivial | refine ⟨⟨_, rfl, .inl ⟨rfl, rfl⟩⟩, ?_⟩ | refine ⟨⟨_, rfl, .inr ⟨_, rfl, rfl⟩⟩, ?_⟩ | refine ⟨⟨_, rfl, .inr ⟨_, rfl, by simp (disch := omega) [SV.den, SI.den, wrapU]⟩⟩, ?_⟩) trivial
  obtain ⟨i, hi, htk⟩ := i
  refine X.go T75_ok 400 _ rfl Try.results75 ?_
  conv => arg 2; cbv
  refine X.cond rfl (fun hlt => ?_) (fun hge => ?_)
  · simp only [SB.T, SI.den] at hlt
    have hlt : i < n := by omega
    obtain ⟨x1, hx1⟩ : ∃ x, l[i]? = some x := ⟨_, List.getElem?_eq_getElem (by omega)⟩
    obtain ⟨x2, hx2⟩ : ∃ x, m[i]? = some x := ⟨_, List.getElem?_eq_getElem (by omega)⟩
    obtain ⟨b1, y1, _, hp1, hr1, hm1⟩ := hs.his hx1
    obtain ⟨b2, y2, _, hp2, hr2, hm2⟩ := hs2.his hx2
    rw [CellP.open hr1, ← hime] at hm1
    rw [CellP.open hr2, ← hime] at hm2
    obtain ⟨n1, t1, a1, r1⟩ := x1
    obtain ⟨n2, t2, a2, r2⟩ := x2
    refine X.see b1 (y1 + i * 4) [.int .u64 (.v n1), .int .u8 (.v t1), .int .i64 (.v a1), .int .i64 (.v r1)] (see_of hm1 rfl) (by simp) (fun N1 hN1 hNl1 => ?_)
    refine X.see b2 (y2 + i * 4) [.int .u64 (.v n2), .int .u8 (.v t2), .int .i64 (.v a2), .int .i64 (.v r2)] (see_of hm2 rfl) (by simp) (fun N2 hN2 hNl2 => ?_)
    have hg1 : (N2 ++ [(⟨b2, y2 + i * 4, 0⟩ : Num)])[1]? = some ⟨b2, y2 + i * 4, 0⟩ := num_last hNl2
    have hg0 : (N2 ++ [(⟨b2, y2 + i * 4, 0⟩ : Num)])[0]? = some ⟨b1, y1 + i * 4, 0⟩ := num_old (hN2 0 _ (num_last hNl1))
    refine X.goP ([(18, .own 0 0), (22, .own 1 0)]) T75_ok 400 _ rfl Try.results75 (fun pr fin hpr hfin => ?_)
    conv => cbv
    refine ⟨hpr _ (ValOk.row rfl rfl (fun _ => rfl) Try.underlying60 Try.sizeOf131 hlt hp2 hg1 rfl rfl), hpr _ (ValOk.row rfl rfl (fun _ => rfl) Try.underlying60 Try.sizeOf131 hlt hp1 hg0 rfl rfl), hfin _ _ ?_⟩
    refine X.cond rfl (fun hne => ?_) (fun heq => ?_)
    · simp only [SB.T, SB.F, SI.den] at hne
      refine X.go T75_ok 400 _ rfl Try.results75 ?_
      conv => arg 2; cbv
      refine X.done T75_ok rfl (fun N w' v hN hS hv => ⟨fin_bool hv ?_, hS.chg.mono fun k o _ h => inR_nil h⟩)
      rw [hq]
      refine (B_neg fun h => ?_).symm
      subst h
      rw [hx1] at hx2
      have := Option.some.inj hx2
      simp_all
    · simp only [SB.T, SB.F, SI.den] at heq
      obtain ⟨rfl, rfl, rfl, rfl⟩ := heq
      refine X.go T75_ok 400 _ rfl Try.results75 ?_
      conv => arg 2; cbv
      refine X.back (fun N a w' hN hf hS => hq' ⟨i + 1, by omega, take_next htk hx1 hx2⟩ a w' (by simp only; omega) ?_)
      exact At.again hf hS (by repeat first | exact trivial | refine ⟨⟨_, rfl, .inl ⟨rfl, rfl⟩⟩, ?_⟩ | refine ⟨⟨_, rfl, .inr ⟨_, rfl, rfl⟩⟩, ?_⟩ | refine ⟨⟨_, rfl, .inr ⟨_, rfl, by simp (disch := omega) [SV.den, SI.den, wrapU]⟩⟩, ?_⟩) trivial
  simp only [SB.F, SI.den] at hge
  obtain rfl : i = n := by omega
  refine X.go T75_ok 400 _ rfl Try.results75 ?_
  conv => arg 2; cbv
  refine X.done T75_ok rfl (fun N w' v hN hS hv => ⟨fin_bool hv ?_, hS.chg.mono fun k o _ h => inR_nil h⟩)
  rw [hq]
  exact (B_pos (take_all htk hn hn2)).symm


set_option maxHeartbeats 4000000 in
set_option maxRecDepth 100000 in
set_option cbv.maxSteps 100000000 in
theorem eqMark_ok (l m : List MarkP) (p p2 : Option Addr) (c c2 : Nat) (w : World) (hs : SlR (wm w) p c 3 (l.map MarkP.toD)) (hs2 : SlR (wm w) p2 c2 3 (m.map MarkP.toD)) :
    Calls Try.prog 76 #[.slice p l.length c, .slice p2 m.length c2] w fun e w' => e = .returned (.bool (B (l = m))) ∧ Chg (fun _ _ => False) w w' := by
  obtain ⟨q, hq⟩ : ∃ q, q = B (l = m) := ⟨_, rfl⟩
  obtain ⟨n, hn⟩ : ∃ n, n = l.length := ⟨_, rfl⟩
  obtain ⟨n2, hn2⟩ : ∃ n, n = m.length := ⟨_, rfl⟩
  have hm := maxLen_le
  have hl : n ≤ maxLen := by rw [hn]; exact hs.len
  rw [← hq, ← hn, ← hn2]
  refine X.begin (rg := []) (N := []) (ss := [.slv p n c, .slv p2 n2 c2]) Try.func76 rfl B76_ok rfl rfl Sat.std0 ?_
  obtain ⟨im, hime⟩ : ∃ im, im = elsewhere [] [] w := ⟨_, rfl⟩
  show X (mkE Try.prog Try.f76 _ w (InR [] []) (elsewhere [] [] w) (fun _ _ => False) (fun _ => True) [] B76) _ _
  rw [← hime]
  refine X.go T76_ok 400 _ rfl Try.results76 ?_
  conv => arg 2; cbv
  refine X.cond rfl (fun hc => ?_) (fun hc => ?_)
  · refine X.go T76_ok 400 _ rfl Try.results76 ?_
    conv => arg 2; cbv
    refine X.done T76_ok rfl (fun N w' v hN hS hv => ⟨fin_bool hv ?_, hS.chg.mono fun k o _ h => inR_nil h⟩)
    simp only [SB.T, SB.F, SI.den] at hc
    rw [hq]
    refine (B_neg fun h => ?_).symm
    subst h
    omega
  simp only [SB.T, SB.F, SI.den] at hc
  obtain rfl : n = n2 := by omega
  refine X.go T76_ok 400 _ rfl Try.results76 ?_
  conv => arg 2; cbv
  refine X.loop1 (fun i : {i : Nat // i ≤ n ∧ l.take i = m.take i} => ⟨[(0, .val (.slv p n c)), (1, .val (.slv p2 n c2)), (12, .val (.int .i64 (.nat n))), (13, .val (.int .i64 (.nat i.1)))], []⟩) (fun i => n - i.1) (fun N a w' hN hf hS => ⟨⟨0, Nat.zero_le _, rfl⟩, ?_⟩) (fun i q' hq' => ?_)
  · exact At.again hf hS (by repeat first | exact trivial | refine ⟨⟨_, rfl, .inl ⟨rfl, rfl⟩⟩, ?_⟩ | refine ⟨⟨_, rfl, .inr ⟨_, rfl, rfl⟩⟩, ?_⟩ | refine ⟨⟨_, rfl, .inr ⟨_, rfl, by simp (disch := omega) [SV.den, SI.den, wrapU]⟩⟩, ?_⟩) trivial
  obtain ⟨i, hi, htk⟩ := i
  refine X.go T76_ok 400 _ rfl Try.results76 ?_
  conv => arg 2; cbv
  refine X.cond rfl (fun hlt => ?_) (fun hge => ?_)
  · simp only [SB.T, SI.den] at hlt
    have hlt : i < n := by omega
    obtain ⟨x1, hx1⟩ : ∃ x, l[i]? = some x := ⟨_, List.getElem?_eq_getElem (by omega)⟩
    obtain ⟨x2, hx2⟩ : ∃ x, m[i]? = some x := ⟨_, List.getElem?_eq_getElem (by omega)⟩
    obtain ⟨b1, y1, _, hp1, hr1, hm1⟩ := hs.his hx1
    obtain ⟨b2, y2, _, hp2, hr2, hm2⟩ := hs2.his hx2
    rw [MarkP.open hr1, ← hime] at hm1
    rw [MarkP.open hr2, ← hime] at hm2
    obtain ⟨s1, j1, c1x⟩ := x1
    obtain ⟨s2, j2, c2x⟩ := x2
    refine X.see b1 (y1 + i * 3) [.int .u8 (.v s1), .int .u64 (.v j1), .int .u64 (.v c1x)] (see_of hm1 rfl) (by simp) (fun N1 hN1 hNl1 => ?_)
    refine X.see b2 (y2 + i * 3) [.int .u8 (.v s2), .int .u64 (.v j2), .int .u64 (.v c2x)] (see_of hm2 rfl) (by simp) (fun N2 hN2 hNl2 => ?_)
    have hg1 : (N2 ++ [(⟨b2, y2 + i * 3, 0⟩ : Num)])[1]? = some ⟨b2, y2 + i * 3, 0⟩ := num_last hNl2
    have hg0 : (N2 ++ [(⟨b2, y2 + i * 3, 0⟩ : Num)])[0]? = some ⟨b1, y1 + i * 3, 0⟩ := num_old (hN2 0 _ (num_last hNl1))
    refine X.goP ([(18, .own 0 0), (22, .own 1 0)]) T76_ok 400 _ rfl Try.results76 (fun pr fin hpr hfin => ?_)
    conv => cbv
    refine ⟨hpr _ (ValOk.row rfl rfl (fun _ => rfl) Try.underlying61 Try.sizeOf134 hlt hp2 hg1 rfl rfl), hpr _ (ValOk.row rfl rfl (fun _ => rfl) Try.underlying61 Try.sizeOf134 hlt hp1 hg0 rfl rfl), hfin _ _ ?_⟩
    refine X.cond rfl (fun hne => ?_) (fun heq => ?_)
    · simp only [SB.T, SB.F, SI.den] at hne
      refine X.go T76_ok 400 _ rfl Try.results76 ?_
      conv => arg 2; cbv
      refine X.done T76_ok rfl (fun N w' v hN hS hv => ⟨fin_bool hv ?_, hS.chg.mono fun k o _ h => inR_nil h⟩)
      rw [hq]
      refine (B_neg fun h => ?_).symm
      subst h
      rw [hx1] at hx2
      have := Option.some.inj hx2
      simp_all
    · simp only [SB.T, SB.F, SI.den] at heq
      obtain ⟨rfl, rfl, rfl⟩ := heq
      refine X.go T76_ok 400 _ rfl Try.results76 ?_
      conv => arg 2; cbv
      refine X.back (fun N a w' hN hf hS => hq' ⟨i + 1, by omega, take_next htk hx1 hx2⟩ a w' (by simp only; omega) ?_)
      exact At.again hf hS (by repeat first | exact trivial | refine ⟨⟨_, rfl, .inl ⟨rfl, rfl⟩⟩, ?_⟩ | refine ⟨⟨_, rfl, .inr ⟨_, rfl, rfl⟩⟩, ?_⟩ | refine ⟨⟨_, rfl, .inr ⟨_, rfl, by simp (disch := omega) [SV.den, SI.den, wrapU]⟩⟩, ?_⟩) trivial
  simp only [SB.F, SI.den] at hge
  obtain rfl : i = n := by omega
  refine X.go T76_ok 400 _ rfl Try.results76 ?_
  conv => arg 2; cbv
  refine X.done T76_ok rfl (fun N w' v hN hS hv => ⟨fin_bool hv ?_, hS.chg.mono fun k o _ h => inR_nil h⟩)
  rw [hq]
  exact (B_pos (take_all htk hn hn2)).symm

end Go.Proofs.Ytkjhpaeminegoaa
