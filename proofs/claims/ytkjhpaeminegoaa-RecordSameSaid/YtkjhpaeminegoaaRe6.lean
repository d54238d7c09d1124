/- The records' functions: the program's replies and registers held against each other. -/
import Derived.Test.YtkjhpaeminegoaaRe5

namespace Go.Proofs.Ytkjhpaeminegoaa
open Go.Eng

theorem B_dec {p : Prop} [Decidable p] : decide p = B p := by
  by_cases h : p
  · rw [B_pos h, decide_eq_true h]
  · rw [B_neg h, decide_eq_false h]

/-- a call's contract holds where more has been written -/
theorem _root_.Go.Eng.SlR.later {α : Type} {f : α → List Dt} {l : List α} {w w' : World} {p : Option Addr} {c q : Nat} {im : Mem} (hs : SlR (wm w) p c q (l.map f)) (hime : im = elsewhere [] [] w) (h : ∀ k o v, im k o = some v → w'.cell? ⟨k, o, none⟩ = some v) : SlR (wm w') p c q (l.map f) :=
  hs.mono fun k o v hv => h k o v (by rw [hime]; exact his hv)
theorem _root_.Go.Eng.RepL.later {ds : List Dt} {vs : List Value} {w w' : World} {im : Mem} (hs : RepL (wm w) ds vs) (hime : im = elsewhere [] [] w) (h : ∀ k o v, im k o = some v → w'.cell? ⟨k, o, none⟩ = some v) : RepL (wm w') ds vs :=
  hs.mono (fun k o v hv => h k o v (by rw [hime]; exact his hv))

set_option maxHeartbeats 4000000 in
set_option maxRecDepth 100000 in
set_option cbv.maxSteps 100000000 in
theorem replyP_ok (a b : RepP) (va vb : List Value) (w : World) (ha : RepL (wm w) a.toD va) (hb : RepL (wm w) b.toD vb) :
    Calls Try.prog 72 #[.agg va.toArray, .agg vb.toArray] w fun e w' => e = .returned (.bool (B (a = b))) ∧ Chg (fun _ _ => False) w w' := by
  obtain ⟨pa, ca, rfl, sa⟩ := RepP.open ha
  obtain ⟨pb, cb, rfl, sb⟩ := RepP.open hb
  clear ha hb
  obtain ⟨e1, i1, s1, l1⟩ := a
  obtain ⟨e2, i2, s2, l2⟩ := b
  obtain ⟨n1, hn1⟩ : ∃ n, n = l1.length := ⟨_, rfl⟩
  obtain ⟨n2, hn2⟩ : ∃ n, n = l2.length := ⟨_, rfl⟩
  obtain ⟨q, hq⟩ : ∃ q : Bool, q = B ((⟨e1, i1, s1, l1⟩ : RepP) = ⟨e2, i2, s2, l2⟩) := ⟨_, rfl⟩
  simp only [← hn1, ← hn2, ← hq]
  refine X.begin (rg := []) (N := []) (ss := [.agg [.int .i64 (.v e1), .int .u64 (.v i1), .int .i64 (.v s1), .slv pa n1 ca], .agg [.int .i64 (.v e2), .int .u64 (.v i2), .int .i64 (.v s2), .slv pb n2 cb]]) Try.func72 rfl B72_ok rfl rfl Sat.std0 ?_
  obtain ⟨im, hime⟩ : ∃ im, im = elsewhere [] [] w := ⟨_, rfl⟩
  show X (mkE Try.prog Try.f72 _ w (InR [] []) (elsewhere [] [] w) (fun _ _ => False) (fun _ => True) [] B72) _ _
  rw [← hime]
  obtain ⟨h, hh⟩ : ∃ h, h = B (l1 = l2) := ⟨_, rfl⟩
  refine X.goP ([(29, .bool (.v h))]) T72_ok 400 _ rfl Try.results72 (fun pr fin hpr hfin => ?_)
  conv => cbv
  refine ⟨hpr _ (.of Try.call73 [.slice pa l1.length ca, .slice pb l2.length cb] (.bool h) (fun _ => by rw [← hn1, ← hn2]; rfl) (fun _ => rfl) fun _ w1 hi1 => hh ▸ eqI64_ok l1 l2 pa pb ca cb w1 (sa.later hime hi1) (sb.later hime hi1)), hfin _ _ ?_⟩
  refine X.done T72_ok rfl (fun N w' v hN hS hv => ⟨fin_bool hv ?_, hS.chg.mono fun k o _ h => inR_nil h⟩)
  refine den_of ?_
  subst hh hq
  simp only [SB.T, SI.den, B_iff, RepP.mk.injEq, and_assoc]

set_option maxHeartbeats 4000000 in
set_option maxRecDepth 100000 in
set_option cbv.maxSteps 100000000 in
theorem doneP_ok (a b : DoneP) (va vb : List Value) (w : World) (ha : RepL (wm w) a.toD va) (hb : RepL (wm w) b.toD vb) :
    Calls Try.prog 71 #[.agg va.toArray, .agg vb.toArray] w fun e w' => e = .returned (.bool (B (a = b))) ∧ Chg (fun _ _ => False) w w' := by
  obtain ⟨k1, j1, r1⟩ := a
  obtain ⟨k2, j2, r2⟩ := b
  obtain ⟨_, _, rfl, ha0, ha⟩ := RepL.cons ha
  obtain ⟨_, _, rfl, ha1, sa⟩ := RepL.cons ha
  obtain ⟨_, _, rfl, hb0, hb⟩ := RepL.cons hb
  obtain ⟨_, _, rfl, hb1, sb⟩ := RepL.cons hb
  cases RepC.int' ha0; cases RepC.int' ha1; cases RepC.int' hb0; cases RepC.int' hb1
  clear ha hb ha0 ha1 hb0 hb1
  obtain ⟨pa, ca, rfl, _⟩ := RepP.open sa
  obtain ⟨pb, cb, rfl, _⟩ := RepP.open sb
  obtain ⟨n1, hn1⟩ : ∃ n, n = r1.vars.length := ⟨_, rfl⟩
  obtain ⟨n2, hn2⟩ : ∃ n, n = r2.vars.length := ⟨_, rfl⟩
  obtain ⟨q, hq⟩ : ∃ q : Bool, q = B ((⟨k1, j1, r1⟩ : DoneP) = ⟨k2, j2, r2⟩) := ⟨_, rfl⟩
  obtain ⟨h, hh⟩ : ∃ h, h = B (r1 = r2) := ⟨_, rfl⟩
  rw [← hq]
  simp only [← hn1, ← hn2] at sa sb ⊢
  have hc := fun (w1 : World) hi1 => replyP_ok r1 r2 _ _ w1 (sa.later (im := elsewhere [] [] w) rfl hi1) (sb.later rfl hi1)
  rw [← hh] at hc
  clear sa sb
  obtain ⟨e1, i1, s1, l1⟩ := r1
  obtain ⟨e2, i2, s2, l2⟩ := r2
  refine X.begin (rg := []) (N := []) (ss := [.agg [.int .u8 (.v k1), .int .u64 (.v j1), .int .i64 (.v e1), .int .u64 (.v i1), .int .i64 (.v s1), .slv pa n1 ca], .agg [.int .u8 (.v k2), .int .u64 (.v j2), .int .i64 (.v e2), .int .u64 (.v i2), .int .i64 (.v s2), .slv pb n2 cb]]) Try.func71 rfl B71_ok rfl rfl Sat.std0 ?_
  obtain ⟨im, hime⟩ : ∃ im, im = elsewhere [] [] w := ⟨_, rfl⟩
  show X (mkE Try.prog Try.f71 _ w (InR [] []) (elsewhere [] [] w) (fun _ _ => False) (fun _ => True) [] B71) _ _
  rw [← hime] at hc ⊢
  refine X.goP ([(22, .bool (.v h))]) T71_ok 400 _ rfl Try.results71 (fun pr fin hpr hfin => ?_)
  conv => cbv
  refine ⟨hpr _ (.of Try.call72 [.agg _, .agg _] (.bool h) (fun _ => rfl) (fun _ => rfl) fun _ w1 hi1 => hc w1 hi1), hfin _ _ ?_⟩
  refine X.done T71_ok rfl (fun N w' v hN hS hv => ⟨fin_bool hv ?_, hS.chg.mono fun k o _ h => inR_nil h⟩)
  refine den_of ?_
  subst hh hq
  simp only [SB.T, SI.den, B_iff, DoneP.mk.injEq, and_assoc]

theorem DoneP.cells {x : DoneP} {M : Mem} {vs : List Value} (h : RepL M x.toD vs) : ∃ p c, vs = [.int .u8 x.client, .int .u64 x.seq, .int .i64 x.reply.err, .int .u64 x.reply.inc, .int .i64 x.reply.state, .slice p x.reply.vars.length c] := by
  obtain ⟨p, c, h, _⟩ := DoneP.open h
  exact ⟨p, c, h⟩

set_option maxHeartbeats 4000000 in
set_option maxRecDepth 100000 in
set_option cbv.maxSteps 100000000 in
theorem eqDone_ok (l m : List DoneP) (p p2 : Option Addr) (c c2 : Nat) (w : World) (hs : SlR (wm w) p c 6 (l.map DoneP.toD)) (hs2 : SlR (wm w) p2 c2 6 (m.map DoneP.toD)) :
    Calls Try.prog 74 #[.slice p l.length c, .slice p2 m.length c2, .func (.func 71) #[] #[]] w fun e w' => e = .returned (.bool (B (l = m))) ∧ Chg (fun _ _ => False) w w' := by
  obtain ⟨q, hq⟩ : ∃ q, q = B (l = m) := ⟨_, rfl⟩
  obtain ⟨n, hn⟩ : ∃ n, n = l.length := ⟨_, rfl⟩
  obtain ⟨n2, hn2⟩ : ∃ n, n = m.length := ⟨_, rfl⟩
  have hm := maxLen_le
  have hl : n ≤ maxLen := by rw [hn]; exact hs.len
  rw [← hq, ← hn, ← hn2]
  refine X.begin (rg := []) (N := []) (ss := [.slv p n c, .slv p2 n2 c2, .fn 71 []]) Try.func74 rfl B74_ok rfl rfl Sat.std0 ?_
  obtain ⟨im, hime⟩ : ∃ im, im = elsewhere [] [] w := ⟨_, rfl⟩
  show X (mkE Try.prog Try.f74 _ w (InR [] []) (elsewhere [] [] w) (fun _ _ => False) (fun _ => True) [] B74) _ _
  rw [← hime]
  refine X.go T74_ok 400 _ rfl Try.results74 ?_
  conv => arg 2; cbv
  refine X.cond rfl (fun hc => ?_) (fun hc => ?_)
  · refine X.go T74_ok 400 _ rfl Try.results74 ?_
    conv => arg 2; cbv
    refine X.done T74_ok rfl (fun N w' v hN hS hv => ⟨fin_bool hv ?_, hS.chg.mono fun k o _ h => inR_nil h⟩)
    simp only [SB.T, SB.F, SI.den] at hc
    rw [hq]
    refine (B_neg fun h => ?_).symm
    subst h
    omega
  simp only [SB.T, SB.F, SI.den] at hc
  obtain rfl : n = n2 := by omega
  refine X.go T74_ok 400 _ rfl Try.results74 ?_
  conv => arg 2; cbv
  refine X.loop1 (fun i : {i : Nat // i ≤ n ∧ l.take i = m.take i} => ⟨[(0, .val (.slv p n c)), (1, .val (.slv p2 n c2)), (2, .val (.fn 71 [])), (15, .val (.slv p n c)), (16, .val (.int .i64 (.nat n))), (17, .val (.int .i64 (.nat i.1)))], []⟩) (fun i => n - i.1) (fun N a w' hN hf hS => ⟨⟨0, Nat.zero_le _, rfl⟩, ?_⟩) (fun i q' hq' => ?_)
  · exact At.again hf hS (by repeat first | exact trivial | refine ⟨⟨_, rfl, .inl ⟨rfl, rfl⟩⟩, ?_⟩ | refine ⟨⟨_, rfl, .inr ⟨_, rfl, rfl⟩⟩, ?_⟩ | refine ⟨⟨_, rfl, .inr ⟨_, rfl, by simp (disch := omega) [SV.den, SI.den, wrapU]⟩⟩, ?_⟩) trivial
  obtain ⟨i, hi, htk⟩ := i
  refine X.go T74_ok 400 _ rfl Try.results74 ?_
  conv => arg 2; cbv
  refine X.cond rfl (fun hlt => ?_) (fun hge => ?_)
  · simp only [SB.T, SI.den] at hlt
    have hlt : i < n := by omega
    obtain ⟨x1, hx1⟩ : ∃ x, l[i]? = some x := ⟨_, List.getElem?_eq_getElem (by omega)⟩
    obtain ⟨x2, hx2⟩ : ∃ x, m[i]? = some x := ⟨_, List.getElem?_eq_getElem (by omega)⟩
    obtain ⟨b1, y1, v1, hp1, hr1, hm1⟩ := hs.his hx1
    obtain ⟨b2, y2, v2, hp2, hr2, hm2⟩ := hs2.his hx2
    rw [← hime] at hm1 hm2
    obtain ⟨h, hh⟩ : ∃ h, h = B (x1 = x2) := ⟨_, rfl⟩
    have hc := fun (w1 : World) hi1 => doneP_ok x1 x2 _ _ w1 (hr1.later hime hi1) (hr2.later hime hi1)
    rw [← hh] at hc
    obtain ⟨pa, ca, rfl⟩ := DoneP.cells hr1
    obtain ⟨pb, cb, rfl⟩ := DoneP.cells hr2
    obtain ⟨na, hna⟩ : ∃ n, n = x1.reply.vars.length := ⟨_, rfl⟩
    obtain ⟨nb, hnb⟩ : ∃ n, n = x2.reply.vars.length := ⟨_, rfl⟩
    rw [← hna] at hm1 hc
    rw [← hnb] at hm2 hc
    refine X.see b1 (y1 + i * 6) [.int .u8 (.v x1.client), .int .u64 (.v x1.seq), .int .i64 (.v x1.reply.err), .int .u64 (.v x1.reply.inc), .int .i64 (.v x1.reply.state), .slv pa na ca] (see_of hm1 rfl) (by simp) (fun N1 hN1 hNl1 => ?_)
    refine X.see b2 (y2 + i * 6) [.int .u8 (.v x2.client), .int .u64 (.v x2.seq), .int .i64 (.v x2.reply.err), .int .u64 (.v x2.reply.inc), .int .i64 (.v x2.reply.state), .slv pb nb cb] (see_of hm2 rfl) (by simp) (fun N2 hN2 hNl2 => ?_)
    have hg1 : (N2 ++ [(⟨b2, y2 + i * 6, 0⟩ : Num)])[1]? = some ⟨b2, y2 + i * 6, 0⟩ := num_last hNl2
    have hg0 : (N2 ++ [(⟨b2, y2 + i * 6, 0⟩ : Num)])[0]? = some ⟨b1, y1 + i * 6, 0⟩ := num_old (hN2 0 _ (num_last hNl1))
    refine X.goP ([(20, .own 0 0), (24, .own 1 0), (29, .bool (.v h))]) T74_ok 400 _ rfl Try.results74 (fun pr fin hpr hfin => ?_)
    conv => cbv
    refine ⟨hpr _ (.of Try.call71 [.agg _, .agg _] (.bool h) (fun _ => rfl) (fun _ => rfl) fun _ w1 hi1 => hc w1 hi1), hpr _ (ValOk.row rfl rfl (fun _ => rfl) Try.underlying59 Try.sizeOf120 hlt hp2 hg1 rfl rfl), hpr _ (ValOk.row rfl rfl (fun _ => rfl) Try.underlying59 Try.sizeOf120 hlt hp1 hg0 rfl rfl), hfin _ _ ?_⟩
    refine X.cond rfl (fun hne => ?_) (fun heq => ?_)
    · simp only [SB.T, SB.F] at hne
      refine X.go T74_ok 400 _ rfl Try.results74 ?_
      conv => arg 2; cbv
      refine X.done T74_ok rfl (fun N w' v hN hS hv => ⟨fin_bool hv ?_, hS.chg.mono fun k o _ h => inR_nil h⟩)
      rw [hq]
      refine (B_neg fun e => ?_).symm
      subst e
      rw [hx1] at hx2
      rw [hh, B_pos (Option.some.inj hx2)] at hne
      cases hne
    · simp only [SB.T, SB.F] at heq
      rw [hh, B_iff] at heq
      subst heq
      refine X.go T74_ok 400 _ rfl Try.results74 ?_
      conv => arg 2; cbv
      refine X.back (fun N a w' hN hf hS => hq' ⟨i + 1, by omega, take_next htk hx1 hx2⟩ a w' (by simp only; omega) ?_)
      exact At.again hf hS (by repeat first | exact trivial | refine ⟨⟨_, rfl, .inl ⟨rfl, rfl⟩⟩, ?_⟩ | refine ⟨⟨_, rfl, .inr ⟨_, rfl, rfl⟩⟩, ?_⟩ | refine ⟨⟨_, rfl, .inr ⟨_, rfl, by simp (disch := omega) [SV.den, SI.den, wrapU]⟩⟩, ?_⟩) trivial
  simp only [SB.F, SI.den] at hge
  obtain rfl : i = n := by omega
  refine X.go T74_ok 400 _ rfl Try.results74 ?_
  conv => arg 2; cbv
  refine X.done T74_ok rfl (fun N w' v hN hS hv => ⟨fin_bool hv ?_, hS.chg.mono fun k o _ h => inR_nil h⟩)
  rw [hq]
  exact (B_pos (take_all htk hn hn2)).symm

end Go.Proofs.Ytkjhpaeminegoaa
