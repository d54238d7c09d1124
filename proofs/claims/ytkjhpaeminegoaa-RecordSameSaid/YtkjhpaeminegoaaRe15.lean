/- The records' functions: more than is gone through? Slots held against each other, by the document. -/
import Derived.Test.YtkjhpaeminegoaaRe14

namespace Go.Proofs.Ytkjhpaeminegoaa
open Go Go.Eng

def RegP.great (r : RegP) : Prop := 50 < r.vars.length ∨ 50 < r.done.length ∨ 50 < r.out.length ∨ 50 < r.marks.length ∨ ∃ (i : Nat) (d : DoneP), r.done[i]? = some d ∧ 50 < d.reply.vars.length
def great (l : List RecP) : Prop := 60 < l.length ∨ ∃ (i : Nat) (r : RecP), l[i]? = some r ∧ (r.reg.great ∨ 80 < r.conf.old.length ∨ 80 < r.conf.new.length)

set_option maxHeartbeats 8000000 in
set_option maxRecDepth 100000 in
set_option cbv.maxSteps 100000000 in
theorem great06_ok (a : RegP) (va : List Value) (w : World) (ha : RepL (wm w) a.toD va) :
    Calls Try.prog 51 #[.agg va.toArray] w fun e w' => e = .returned (.bool (B a.great)) ∧ Chg (fun _ _ => False) w w' := by
  obtain ⟨p1, c1, p2, c2, p3, c3, p4, c4, rfl, sa1, sa2, sa3, sa4⟩ := RegP.open ha
  clear ha
  obtain ⟨k1, i1, s1, v1, o1, u1, l1, m1⟩ := a
  simp only at sa1 sa2 sa3 sa4 ⊢
  obtain ⟨q, hq⟩ : ∃ q : Bool, q = B (RegP.great ⟨k1, i1, s1, v1, o1, u1, l1, m1⟩) := ⟨_, rfl⟩
  rw [← hq]
  obtain ⟨n1, hn1⟩ : ∃ n, n = v1.length := ⟨_, rfl⟩
  obtain ⟨n2, hn2⟩ : ∃ n, n = o1.length := ⟨_, rfl⟩
  obtain ⟨n3, hn3⟩ : ∃ n, n = u1.length := ⟨_, rfl⟩
  obtain ⟨n4, hn4⟩ : ∃ n, n = m1.length := ⟨_, rfl⟩
  have hm := maxLen_le
  have hl2 : n2 ≤ maxLen := by rw [hn2]; exact sa2.len
  rw [← hn1, ← hn2, ← hn3, ← hn4]
  refine X.begin (rg := []) (N := []) (ss := [.agg [.int .u8 (.v k1), .int .u64 (.v i1), .int .i64 (.v s1), .slv p1 n1 c1, .slv p2 n2 c2, .slv p3 n3 c3, .int .u64 (.v l1), .slv p4 n4 c4]]) Try.func51 rfl B51_ok rfl rfl Sat.std0 ?_
  obtain ⟨im, hime⟩ : ∃ im, im = elsewhere [] [] w := ⟨_, rfl⟩
  show X (mkE Try.prog Try.f51 _ w (InR [] []) (elsewhere [] [] w) (fun _ _ => False) (fun _ => True) [] B51) _ _
  rw [← hime]
  refine X.go T51_ok 400 _ rfl Try.results51 ?_
  conv => arg 2; cbv
  refine X.cond rfl (fun hc => ?_) (fun hc => ?_)
  · refine X.go T51_ok 400 _ rfl Try.results51 ?_
    conv => arg 2; cbv
    refine X.done T51_ok rfl (fun N w' v hN hS hv => ⟨fin_bool hv ?_, hS.chg.mono fun k o _ h => inR_nil h⟩)
    simp only [SB.T, SB.F, SI.den] at hc
    rw [hq]
    refine (B_pos ?_).symm
    simp only [RegP.great, ← hn1, ← hn2, ← hn3, ← hn4]
    omega
  simp only [SB.T, SB.F, SI.den] at hc
  refine X.go T51_ok 400 _ rfl Try.results51 ?_
  conv => arg 2; cbv
  refine X.loop1 (fun i : {i : Nat // i ≤ n2 ∧ ∀ (j : Nat) (x : DoneP), j < i → o1[j]? = some x → x.reply.vars.length ≤ 50} => ⟨[(1, .val (.own 0 0)), (28, .val (.int .i64 (.nat n2))), (29, .val (.int .i64 (.nat i.1)))], [⟨true, [.int .u8 (.v k1), .int .u64 (.v i1), .int .i64 (.v s1), .slv p1 n1 c1, .slv p2 n2 c2, .slv p3 n3 c3, .int .u64 (.v l1), .slv p4 n4 c4], none⟩]⟩) (fun i => n2 - i.1) (fun N a w' hN hf hS => ⟨⟨0, Nat.zero_le _, fun j x hj => by omega⟩, ?_⟩) (fun i q' hq' => ?_)
  · exact At.again hf hS (by repeat first | exact trivial | refine ⟨⟨_, rfl, .inl ⟨rfl, rfl⟩⟩, ?_⟩ | refine ⟨⟨_, rfl, .inr ⟨_, rfl, rfl⟩⟩, ?_⟩ | refine ⟨⟨_, rfl, .inr ⟨_, rfl, by simp (disch := omega) [SV.den, SI.den, wrapU]⟩⟩, ?_⟩) (by repeat first | exact trivial | refine ⟨fun h => h, SubC.refl rfl, rfl, ?_⟩)
  obtain ⟨i, hi, hno⟩ := i
  refine X.go T51_ok 400 _ rfl Try.results51 ?_
  conv => arg 2; cbv
  refine X.cond rfl (fun hlt => ?_) (fun hge => ?_)
  · simp only [SB.T, SI.den] at hlt
    have hlt : i < n2 := by omega
    obtain ⟨x1, hx1⟩ : ∃ x, o1[i]? = some x := ⟨_, List.getElem?_eq_getElem (by omega)⟩
    obtain ⟨b1, y1, w1, hp1, hr1, hm1⟩ := sa2.his hx1
    rw [← hime] at hm1
    obtain ⟨pa, ca, rfl⟩ := DoneP.cells hr1
    obtain ⟨na, hna⟩ : ∃ n, n = x1.reply.vars.length := ⟨_, rfl⟩
    rw [← hna] at hm1
    refine X.see b1 (y1 + i * 6) [.int .u8 (.v x1.client), .int .u64 (.v x1.seq), .int .i64 (.v x1.reply.err), .int .u64 (.v x1.reply.inc), .int .i64 (.v x1.reply.state), .slv pa na ca] (see_of hm1 rfl) (by simp) (fun N1 hN1 hNl1 => ?_)
    have hg1 : (N1 ++ [(⟨b1, y1 + i * 6, 0⟩ : Num)])[1]? = some ⟨b1, y1 + i * 6, 0⟩ := num_last hNl1
    refine X.goP ([(35, .own 1 0)]) T51_ok 400 _ rfl Try.results51 (fun pr fin hpr hfin => ?_)
    conv => cbv
    refine ⟨hpr _ (ValOk.row rfl rfl (fun _ => rfl) Try.underlying59 Try.sizeOf120 hlt hp1 hg1 rfl rfl), hfin _ _ ?_⟩
    refine X.cond rfl (fun hbad => ?_) (fun hok => ?_)
    · simp only [SB.T, SB.F, SI.den] at hbad
      refine X.go T51_ok 400 _ rfl Try.results51 ?_
      conv => arg 2; cbv
      refine X.done T51_ok rfl (fun N w' v hN hS hv => ⟨fin_bool hv ?_, hS.chg.mono fun k o _ h => inR_nil h⟩)
      rw [hq]
      refine (B_pos ?_).symm
      exact .inr (.inr (.inr (.inr ⟨i, x1, hx1, by omega⟩)))
    · simp only [SB.T, SB.F, SI.den] at hok
      refine X.go T51_ok 400 _ rfl Try.results51 ?_
      conv => arg 2; cbv
      refine X.back (fun N a w' hN hf hS => hq' ⟨i + 1, by omega, fun j x' hj hj' => ?_⟩ a w' (by simp only; omega) ?_)
      · by_cases e : j = i
        · subst e
          rw [hx1] at hj'
          obtain rfl := Option.some.inj hj'
          omega
        · exact hno j x' (by omega) hj'
      exact At.again hf hS (by repeat first | exact trivial | refine ⟨⟨_, rfl, .inl ⟨rfl, rfl⟩⟩, ?_⟩ | refine ⟨⟨_, rfl, .inr ⟨_, rfl, rfl⟩⟩, ?_⟩ | refine ⟨⟨_, rfl, .inr ⟨_, rfl, by simp (disch := omega) [SV.den, SI.den, wrapU]⟩⟩, ?_⟩) (by repeat first | exact trivial | refine ⟨fun h => h, SubC.refl rfl, rfl, ?_⟩)
  simp only [SB.F, SI.den] at hge
  obtain rfl : n2 = i := by omega
  refine X.go T51_ok 400 _ rfl Try.results51 ?_
  conv => arg 2; cbv
  refine X.done T51_ok rfl (fun N w' v hN hS hv => ⟨fin_bool hv ?_, hS.chg.mono fun k o _ h => inR_nil h⟩)
  rw [hq]
  refine (B_neg fun h => ?_).symm
  simp only [RegP.great, ← hn1, ← hn2, ← hn3, ← hn4] at h
  rcases h with h | h | h | h | ⟨j, d, hj, hd⟩
  · omega
  · omega
  · omega
  · omega
  · have := hno j d (by have := (List.getElem?_eq_some_iff.1 hj).1; omega) hj
    omega

theorem RecP.cells {x : RecP} {M : Mem} {vs : List Value} (h : RepL M x.toD vs) : ∃ r : RecC, vs = r.vals ∧ RepL M x.reg.toD (r.sl.vals.drop 7) ∧ RepL M x.conf.toD r.cf.vals ∧ r.kind = x.kind ∧ r.key = x.key := by
  obtain ⟨rv, cv, rfl, hr, hc⟩ := RecP.open h
  obtain ⟨p1, c1, p2, c2, p3, c3, p4, c4, rfl, _⟩ := RegP.open hr
  obtain ⟨p5, c5, p6, c6, rfl, _⟩ := ConfP.open hc
  exact ⟨⟨x.kind, x.key, ⟨true, x.promise.count, x.promise.node, x.promise.life, x.acc.count, x.acc.node, x.acc.life, x.reg.kind, x.reg.inc, x.reg.state, p1, _, c1, p2, _, c2, p3, _, c3, x.reg.last, p4, _, c4⟩, x.fence, x.life, ⟨x.conf.c, p5, _, c5, p6, _, c6⟩⟩, rfl, hr, hc, rfl, rfl⟩

theorem conf_lens {x : ConfP} {M : Mem} {c : ConfC} (h : RepL M x.toD c.vals) : c.on = x.old.length ∧ c.nn = x.new.length := by
  obtain ⟨p5, c5, p6, c6, he, _⟩ := ConfP.open h
  have e1 := congrArg (fun l => l[1]?) he
  have e2 := congrArg (fun l => l[2]?) he
  simp only [ConfC.vals, List.getElem?_cons_succ, List.getElem?_cons_zero, Option.some.injEq, Value.slice.injEq] at e1 e2
  exact ⟨e1.2.1, e2.2.1⟩

set_option maxHeartbeats 8000000 in
set_option maxRecDepth 100000 in
set_option cbv.maxSteps 100000000 in
theorem great14_ok (l : List RecP) (p : Option Addr) (c : Nat) (w : World) (hs : SlR (wm w) p c 21 (l.map RecP.toD)) :
    Calls Try.prog 28 #[.slice p l.length c] w fun e w' => e = .returned (.bool (B (great l))) ∧ Chg (fun _ _ => False) w w' := by
  obtain ⟨q, hq⟩ : ∃ q, q = B (great l) := ⟨_, rfl⟩
  obtain ⟨n, hn⟩ : ∃ n, n = l.length := ⟨_, rfl⟩
  have hm := maxLen_le
  have hl : n ≤ maxLen := by rw [hn]; exact hs.len
  rw [← hq, ← hn]
  refine X.begin (rg := []) (N := []) (ss := [.slv p n c]) Try.func28 rfl B28_ok rfl rfl Sat.std0 ?_
  obtain ⟨im, hime⟩ : ∃ im, im = elsewhere [] [] w := ⟨_, rfl⟩
  show X (mkE Try.prog Try.f28 _ w (InR [] []) (elsewhere [] [] w) (fun _ _ => False) (fun _ => True) [] B28) _ _
  rw [← hime]
  refine X.go T28_ok 400 _ rfl Try.results28 ?_
  conv => arg 2; cbv
  refine X.cond rfl (fun hc => ?_) (fun hc => ?_)
  · refine X.go T28_ok 400 _ rfl Try.results28 ?_
    conv => arg 2; cbv
    refine X.done T28_ok rfl (fun N w' v hN hS hv => ⟨fin_bool hv ?_, hS.chg.mono fun k o _ h => inR_nil h⟩)
    simp only [SB.T, SB.F, SI.den] at hc
    rw [hq]
    exact (B_pos (.inl (by omega))).symm
  simp only [SB.T, SB.F, SI.den] at hc
  refine X.go T28_ok 400 _ rfl Try.results28 ?_
  conv => arg 2; cbv
  refine X.loop1 (fun i : {i : Nat // i ≤ n ∧ ∀ (j : Nat) (x : RecP), j < i → l[j]? = some x → ¬ (x.reg.great ∨ 80 < x.conf.old.length ∨ 80 < x.conf.new.length)} => ⟨[(0, .val (.slv p n c)), (8, .val (.int .i64 (.nat n))), (9, .val (.int .i64 (.nat i.1)))], []⟩) (fun i => n - i.1) (fun N a w' hN hf hS => ⟨⟨0, Nat.zero_le _, fun j x hj => by omega⟩, ?_⟩) (fun i q' hq' => ?_)
  · exact At.again hf hS (by repeat first | exact trivial | refine ⟨⟨_, rfl, .inl ⟨rfl, rfl⟩⟩, ?_⟩ | refine ⟨⟨_, rfl, .inr ⟨_, rfl, rfl⟩⟩, ?_⟩ | refine ⟨⟨_, rfl, .inr ⟨_, rfl, by simp (disch := omega) [SV.den, SI.den, wrapU]⟩⟩, ?_⟩) trivial
  obtain ⟨i, hi, hno⟩ := i
  refine X.go T28_ok 400 _ rfl Try.results28 ?_
  conv => arg 2; cbv
  refine X.cond rfl (fun hlt => ?_) (fun hge => ?_)
  · simp only [SB.T, SI.den] at hlt
    have hlt : i < n := by omega
    obtain ⟨x1, hx1⟩ : ∃ x, l[i]? = some x := ⟨_, List.getElem?_eq_getElem (by omega)⟩
    obtain ⟨b1, y1, w1, hp1, hr1, hm1⟩ := hs.his hx1
    rw [← hime] at hm1
    obtain ⟨r, rfl, hreg, hcf, _⟩ := RecP.cells hr1
    obtain ⟨ho1, ho2⟩ := conf_lens hcf
    obtain ⟨h, hh⟩ : ∃ h, h = B x1.reg.great := ⟨_, rfl⟩
    have hc := fun (w1 : World) hi1 => great06_ok x1.reg _ w1 (hreg.later hime hi1)
    rw [← hh] at hc
    obtain ⟨rk, ry, ⟨q1, q2, q3, q4, q5, q6, q7, q8, q9, q10, q11, q12, q13, q14, q15, q16, q17, q18, q19, q20, q21, q22, q23⟩, rf, rl, ⟨g1, g2, g3, g4, g5, g6, g7⟩⟩ := r
    refine X.see b1 (y1 + i * 21) (RecC.svs ⟨rk, ry, ⟨q1, q2, q3, q4, q5, q6, q7, q8, q9, q10, q11, q12, q13, q14, q15, q16, q17, q18, q19, q20, q21, q22, q23⟩, rf, rl, ⟨g1, g2, g3, g4, g5, g6, g7⟩⟩) (see_of hm1 rfl) (Nat.zero_lt_succ _) (fun N1 hN1 hNl1 => ?_)
    have hg1 : (N1 ++ [(⟨b1, y1 + i * 21, 0⟩ : Num)])[0]? = some ⟨b1, y1 + i * 21, 0⟩ := num_last hNl1
    refine X.goP ([(14, .own 0 0), (17, .bool (.v h)), (21, .own 0 0), (31, .own 0 0)]) T28_ok 400 _ rfl Try.results28 (fun pr fin hpr hfin => ?_)
    conv => cbv
    have vo : ∀ {E : Env} {N0 : Nums} {rg : List Rg} {f : Fr} {g : GK} {x ix : Operand} {kd : IntKind} {s : SI}, evK f g x = some (.slv p n c) → evK f g ix = some (.int kd s) → E.P = Try.prog → N0 = (N1 ++ [(⟨b1, y1 + i * 21, 0⟩ : Num)]) → s = .nat i → ValOk E N0 rg f g (.indexAddr 53 x ix) (.own 0 0) := fun k1 k2 k3 k4 k5 => by subst k4 k5; exact ValOk.row k1 k2 (fun _ => rfl) (by rw [k3]; exact Try.underlying53) (by rw [k3]; exact Try.sizeOf75) hlt hp1 hg1 rfl rfl
    refine ⟨hpr _ (vo rfl rfl rfl rfl rfl), hpr _ (vo rfl rfl rfl rfl rfl), hpr _ (.of Try.call51 [.agg _] (.bool h) (fun _ => rfl) (fun _ => rfl) fun _ w1 hi1 => hc w1 hi1), hpr _ (vo rfl rfl rfl rfl rfl), hfin _ _ ?_⟩
    refine X.cond rfl (fun hbad => ?_) (fun hok => ?_)
    · simp only [SB.T, SB.F, SI.den] at hbad
      refine X.go T28_ok 400 _ rfl Try.results28 ?_
      conv => arg 2; cbv
      refine X.done T28_ok rfl (fun N w' v hN hS hv => ⟨fin_bool hv ?_, hS.chg.mono fun k o _ h => inR_nil h⟩)
      rw [hq]
      refine (B_pos (.inr ⟨i, x1, hx1, ?_⟩)).symm
      rw [hh, B_iff] at hbad
      simp only at ho1 ho2
      rcases hbad with (h | h) | h
      · exact .inl h
      · exact .inr (.inl (by omega))
      · exact .inr (.inr (by omega))
    · simp only [SB.T, SB.F, SI.den] at hok
      refine X.go T28_ok 400 _ rfl Try.results28 ?_
      conv => arg 2; cbv
      refine X.back (fun N a w' hN hf hS => hq' ⟨i + 1, by omega, fun j x' hj hj' => ?_⟩ a w' (by simp only; omega) ?_)
      · by_cases e : j = i
        · subst e
          rw [hx1] at hj'
          obtain rfl := Option.some.inj hj'
          simp only at ho1 ho2
          rintro (e | e | e)
          · rw [B_pos e] at hh
            rw [hh] at hok
            simp at hok
          · omega
          · omega
        · exact hno j x' (by omega) hj'
      exact At.again hf hS (by repeat first | exact trivial | refine ⟨⟨_, rfl, .inl ⟨rfl, rfl⟩⟩, ?_⟩ | refine ⟨⟨_, rfl, .inr ⟨_, rfl, rfl⟩⟩, ?_⟩ | refine ⟨⟨_, rfl, .inr ⟨_, rfl, by simp (disch := omega) [SV.den, SI.den, wrapU]⟩⟩, ?_⟩) trivial
  simp only [SB.F, SI.den] at hge
  obtain rfl : i = n := by omega
  refine X.go T28_ok 400 _ rfl Try.results28 ?_
  conv => arg 2; cbv
  refine X.done T28_ok rfl (fun N w' v hN hS hv => ⟨fin_bool hv ?_, hS.chg.mono fun k o _ h => inR_nil h⟩)
  rw [hq]
  refine (B_neg fun h => ?_).symm
  rcases h with h | ⟨j, d, hj, hd⟩
  · omega
  · exact hno j d (by have := (List.getElem?_eq_some_iff.1 hj).1; omega) hj hd

/-- what a slot's cells are -/
theorem SlotP.cells {x : SlotP} {M : Mem} {c : SlotC} (h : RepL M x.toD c.vals) : c.has = x.has ∧ c.pc = x.promise.count ∧ c.pn = x.promise.node ∧ c.pl = x.promise.life ∧ c.ac = x.acc.count ∧ c.an = x.acc.node ∧ c.al = x.acc.life ∧ RepL M x.reg.toD (c.vals.drop 7) := by
  obtain ⟨rv, he, hr⟩ := SlotP.open h
  simp only [SlotC.vals, List.cons.injEq, Value.bool.injEq, Value.int.injEq, true_and] at he
  obtain ⟨h1, h2, h3, h4, h5, h6, h7, h8⟩ := he
  exact ⟨h1, h2, h3, h4, h5, h6, h7, by rw [← h8] at hr; exact hr⟩

set_option maxHeartbeats 8000000 in
set_option maxRecDepth 100000 in
set_option cbv.maxSteps 100000000 in
theorem sameSlot_ok (a b : SlotC) (x y : SlotP) (w : World) (ha : RepL (wm w) x.toD a.vals) (hb : RepL (wm w) y.toD b.vals) :
    Calls Try.prog 55 #[.agg a.vals.toArray, .agg b.vals.toArray] w fun e w' => e = .returned (.bool (B (x = y))) ∧ Chg (fun _ _ => False) w w' := by
  obtain ⟨a1, a2, a3, a4, a5, a6, a7, ha⟩ := SlotP.cells ha
  obtain ⟨b1, b2, b3, b4, b5, b6, b7, hb⟩ := SlotP.cells hb
  obtain ⟨xh, ⟨x1, x2, x3⟩, ⟨x4, x5, x6⟩, xr⟩ := x
  obtain ⟨yh, ⟨y1, y2, y3⟩, ⟨y4, y5, y6⟩, yr⟩ := y
  obtain ⟨h, hh⟩ : ∃ h, h = B (xr = yr) := ⟨_, rfl⟩
  have hc := fun (w1 : World) hi1 => regSameR_ok xr yr _ _ w1 (ha.later (im := elsewhere [] [] w) rfl hi1) (hb.later rfl hi1)
  rw [← hh] at hc
  obtain ⟨q, hq⟩ : ∃ q, q = B ((⟨xh, ⟨x1, x2, x3⟩, ⟨x4, x5, x6⟩, xr⟩ : SlotP) = ⟨yh, ⟨y1, y2, y3⟩, ⟨y4, y5, y6⟩, yr⟩) := ⟨_, rfl⟩
  rw [← hq]
  clear ha hb
  obtain ⟨q1, q2, q3, q4, q5, q6, q7, q8, q9, q10, q11, q12, q13, q14, q15, q16, q17, q18, q19, q20, q21, q22, q23⟩ := a
  obtain ⟨r1, r2, r3, r4, r5, r6, r7, r8, r9, r10, r11, r12, r13, r14, r15, r16, r17, r18, r19, r20, r21, r22, r23⟩ := b
  simp only at a1 a2 a3 a4 a5 a6 a7 b1 b2 b3 b4 b5 b6 b7
  subst a1 a2 a3 a4 a5 a6 a7 b1 b2 b3 b4 b5 b6 b7
  refine X.begin (rg := []) (N := []) (ss := [.agg (SlotC.svs ⟨q1, q2, q3, q4, q5, q6, q7, q8, q9, q10, q11, q12, q13, q14, q15, q16, q17, q18, q19, q20, q21, q22, q23⟩), .agg (SlotC.svs ⟨r1, r2, r3, r4, r5, r6, r7, r8, r9, r10, r11, r12, r13, r14, r15, r16, r17, r18, r19, r20, r21, r22, r23⟩)]) Try.func55 rfl B55_ok rfl rfl Sat.std0 ?_
  obtain ⟨im, hime⟩ : ∃ im, im = elsewhere [] [] w := ⟨_, rfl⟩
  show X (mkE Try.prog Try.f55 _ w (InR [] []) (elsewhere [] [] w) (fun _ _ => False) (fun _ => True) [] B55) _ _
  rw [← hime] at hc ⊢
  refine X.goP ([(29, .bool (.v h))]) T55_ok 400 _ rfl Try.results55 (fun pr fin hpr hfin => ?_)
  conv => cbv
  refine ⟨hpr _ (.of Try.call61 [.agg _, .agg _] (.bool h) (fun _ => rfl) (fun _ => rfl) fun _ w1 hi1 => hc w1 hi1), hfin _ _ ?_⟩
  refine X.done T55_ok rfl (fun N w' v hN hS hv => ⟨fin_bool hv ?_, hS.chg.mono fun k o _ h => inR_nil h⟩)
  refine den_of ?_
  subst hh hq
  simp only [SB.T, SI.den, SB.den, B_iff, SlotP.mk.injEq, BalP.mk.injEq, and_assoc]

end Go.Proofs.Ytkjhpaeminegoaa
