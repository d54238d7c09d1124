/- The records' functions: may a register's lists be? -/
import Derived.Test.YtkjhpaeminegoaaRe9

namespace Go.Proofs.Ytkjhpaeminegoaa
open Go Go.Eng

def DoneP.ok (d : DoneP) : Prop := 1 ≤ d.client ∧ d.client ≤ 8 ∧ d.seq ≠ 0 ∧ d.reply.may = true
def CellP.ok (last : Int) (c : CellP) : Prop := 1 ≤ c.n ∧ c.n ≤ last ∧ c.target ≤ 15 ∧ 0 ≤ c.action ∧ c.action ≤ 31
def MarkP.ok (m : MarkP) : Prop := m.source ≤ 15 ∧ m.inc ≠ 0 ∧ m.cell ≠ 0
/-- each may be, and they rise -/
def Rise {α : Type} (ok : α → Prop) (key : α → Int) (l : List α) : Prop := ∀ (i : Nat) (x : α), l[i]? = some x → ok x ∧ (0 < i → ∀ y, l[i - 1]? = some y → key y < key x)
def RegP.lists (r : RegP) : Prop := (r.vars.length ≤ 8 ∧ r.done.length ≤ 8 ∧ r.out.length ≤ 8 ∧ r.marks.length ≤ 16) ∧ Rise DoneP.ok DoneP.client r.done ∧ Rise (CellP.ok r.last) CellP.n r.out ∧ Rise MarkP.ok MarkP.source r.marks

set_option maxHeartbeats 8000000 in
set_option maxRecDepth 100000 in
set_option cbv.maxSteps 100000000 in
theorem lists_ok (a : RegP) (va : List Value) (w : World) (ha : RepL (wm w) a.toD va) :
    Calls Try.prog 91 #[.agg va.toArray] w fun e w' => e = .returned (.bool (B a.lists)) ∧ Chg (fun _ _ => False) w w' := by
  obtain ⟨p1, c1, p2, c2, p3, c3, p4, c4, rfl, sa1, sa2, sa3, sa4⟩ := RegP.open ha
  clear ha
  obtain ⟨k1, i1, s1, v1, o1, u1, l1, m1⟩ := a
  simp only at sa1 sa2 sa3 sa4 ⊢
  obtain ⟨q, hq⟩ : ∃ q : Bool, q = B (RegP.lists ⟨k1, i1, s1, v1, o1, u1, l1, m1⟩) := ⟨_, rfl⟩
  rw [← hq]
  obtain ⟨n1, hn1⟩ : ∃ n, n = v1.length := ⟨_, rfl⟩
  obtain ⟨n2, hn2⟩ : ∃ n, n = o1.length := ⟨_, rfl⟩
  obtain ⟨n3, hn3⟩ : ∃ n, n = u1.length := ⟨_, rfl⟩
  obtain ⟨n4, hn4⟩ : ∃ n, n = m1.length := ⟨_, rfl⟩
  have hm := maxLen_le
  have hl2 : n2 ≤ maxLen := by rw [hn2]; exact sa2.len
  have hl3 : n3 ≤ maxLen := by rw [hn3]; exact sa3.len
  have hl4 : n4 ≤ maxLen := by rw [hn4]; exact sa4.len
  rw [← hn1, ← hn2, ← hn3, ← hn4]
  refine X.begin (rg := []) (N := []) (ss := [.agg [.int .u8 (.v k1), .int .u64 (.v i1), .int .i64 (.v s1), .slv p1 n1 c1, .slv p2 n2 c2, .slv p3 n3 c3, .int .u64 (.v l1), .slv p4 n4 c4]]) Try.func91 rfl B91_ok rfl rfl Sat.std0 ?_
  obtain ⟨im, hime⟩ : ∃ im, im = elsewhere [] [] w := ⟨_, rfl⟩
  show X (mkE Try.prog Try.f91 _ w (InR [] []) (elsewhere [] [] w) (fun _ _ => False) (fun _ => True) [] B91) _ _
  rw [← hime]
  refine X.go T91_ok 400 _ rfl Try.results91 ?_
  conv => arg 2; cbv
  refine X.cond rfl (fun hc => ?_) (fun hc => ?_)
  · refine X.go T91_ok 400 _ rfl Try.results91 ?_
    conv => arg 2; cbv
    refine X.done T91_ok rfl (fun N w' v hN hS hv => ⟨fin_bool hv ?_, hS.chg.mono fun k o _ h => inR_nil h⟩)
    simp only [SB.T, SB.F, SI.den] at hc
    rw [hq]
    refine (B_neg fun h => ?_).symm
    have := h.1
    simp only at this
    omega
  simp only [SB.T, SB.F, SI.den] at hc
  refine X.go T91_ok 400 _ rfl Try.results91 ?_
  conv => arg 2; cbv
  refine X.loop1 (fun i : {i : Nat // i ≤ n2 ∧ ∀ (j : Nat) (x : _), j < i → o1[j]? = some x → DoneP.ok x ∧ (0 < j → ∀ y, o1[j - 1]? = some y → DoneP.client y < DoneP.client x)} => ⟨[(1, .val (.own 0 0)), (33, .val (.int .i64 (.nat n2))), (34, .val (.int .i64 (.nat i.1)))], [⟨true, [.int .u8 (.v k1), .int .u64 (.v i1), .int .i64 (.v s1), .slv p1 n1 c1, .slv p2 n2 c2, .slv p3 n3 c3, .int .u64 (.v l1), .slv p4 n4 c4], none⟩]⟩) (fun i => n2 - i.1) (fun N a w' hN hf hS => ⟨⟨0, Nat.zero_le _, fun j x hj => by omega⟩, ?_⟩) (fun i q' hq' => ?_)
  · exact At.again hf hS (by repeat first | exact trivial | refine ⟨⟨_, rfl, .inl ⟨rfl, rfl⟩⟩, ?_⟩ | refine ⟨⟨_, rfl, .inr ⟨_, rfl, rfl⟩⟩, ?_⟩ | refine ⟨⟨_, rfl, .inr ⟨_, rfl, by simp (disch := omega) [SV.den, SI.den, wrapU]⟩⟩, ?_⟩) (by repeat first | exact trivial | refine ⟨fun h => h, SubC.refl rfl, rfl, ?_⟩)
  obtain ⟨i, hi, hno⟩ := i
  refine X.go T91_ok 400 _ rfl Try.results91 ?_
  conv => arg 2; cbv
  refine X.cond rfl (fun hlt => ?_) (fun hge => ?_)
  · simp only [SB.T, SI.den] at hlt
    have hlt : i < n2 := by omega
    obtain ⟨k, hk⟩ : ∃ k, k = i - 1 := ⟨_, rfl⟩
    obtain ⟨x1, hx1⟩ : ∃ x, o1[i]? = some x := ⟨_, List.getElem?_eq_getElem (by omega)⟩
    obtain ⟨x2, hx2⟩ : ∃ x, o1[k]? = some x := ⟨_, List.getElem?_eq_getElem (by omega)⟩
    obtain ⟨b1, y1, w1, hp1, hr1, hm1⟩ := sa2.his hx1
    obtain ⟨b2, y2, w2, hp2, hr2, hm2⟩ := sa2.his hx2
    rw [← hime] at hm1 hm2
    obtain ⟨xa, xb, xr⟩ := x1
    obtain ⟨ya, yb, yr⟩ := x2
    obtain ⟨h, hh⟩ : ∃ h, h = xr.may := ⟨_, rfl⟩
    obtain ⟨pa, ca, rfl⟩ := DoneP.cells hr1
    obtain ⟨pb, cb, rfl⟩ := DoneP.cells hr2
    have hc := fun (w1 : World) => reply06_ok xr pa ca w1
    rw [← hh] at hc
    obtain ⟨na, hna⟩ : ∃ n, n = xr.vars.length := ⟨_, rfl⟩
    rw [← hna] at hm1 hc
    refine X.see b1 (y1 + i * 6) [.int .u8 (.v xa), .int .u64 (.v xb), .int .i64 (.v xr.err), .int .u64 (.v xr.inc), .int .i64 (.v xr.state), .slv pa na ca] (see_of hm1 rfl) (by simp) (fun N1 hN1 hNl1 => ?_)
    refine X.see b2 (y2 + k * 6) [.int .u8 (.v ya)] (one_see (hm2 0 _ rfl)) (by simp) (fun N2 hN2 hNl2 => ?_)
    have hg2 : (N2 ++ [(⟨b2, y2 + k * 6, 0⟩ : Num)])[2]? = some ⟨b2, y2 + k * 6, 0⟩ := num_last hNl2
    have hg1 : (N2 ++ [(⟨b2, y2 + k * 6, 0⟩ : Num)])[1]? = some ⟨b1, y1 + i * 6, 0⟩ := num_old (hN2 1 _ (num_last hNl1))
    refine X.goP ([(40, .own 1 0), (58, .bool (.v h)), (69, .own 2 0)]) T91_ok 400 _ rfl Try.results91 (fun pr fin hpr hfin => ?_)
    conv => cbv
    refine ⟨hpr _ (ValOk.row rfl rfl (fun h => ?_) Try.underlying59 Try.sizeOf120 (z := k) (by omega) hp2 hg2 rfl rfl), hpr _ (.of Try.call106 [.agg _] (.bool h) (fun _ => rfl) (fun _ => rfl) fun _ w1 hi1 => hc w1), hpr _ (ValOk.row rfl rfl (fun _ => rfl) Try.underlying59 Try.sizeOf120 hlt hp1 hg1 rfl rfl), hfin _ _ ?_⟩
    · have h : (SB.gt (SI.nat i) (SI.lit 0)).den = true := h
      simp [SB.den, SI.den] at h
      simp [SI.den, IntKind.wrap, IntKind.bits, IntKind.signed]
      omega
    refine X.cond rfl (fun hbad => ?_) (fun hok => ?_)
    · simp only [SB.T, SB.F, SI.den] at hbad
      refine X.go T91_ok 400 _ rfl Try.results91 ?_
      conv => arg 2; cbv
      refine X.done T91_ok rfl (fun N w' v hN hS hv => ⟨fin_bool hv ?_, hS.chg.mono fun k o _ h => inR_nil h⟩)
      rw [hq]
      refine (B_neg fun h => ?_).symm
      obtain ⟨g1, g2⟩ := h.2.1 i _ hx1
      have g3 := fun h0 => g2 h0 _ (by rw [← hk]; exact hx2)
      simp only [DoneP.ok] at g1
      dsimp only at g3
      rw [← hh] at g1
      simp only [g1.2.2.2] at hbad
      simp at hbad
      omega
    · simp only [SB.T, SB.F, SI.den] at hok
      refine X.go T91_ok 400 _ rfl Try.results91 ?_
      conv => arg 2; cbv
      refine X.back (fun N a w' hN hf hS => hq' ⟨i + 1, by omega, fun j x' hj hj' => ?_⟩ a w' (by simp only; omega) ?_)
      · by_cases e : j = i
        · subst e
          rw [hx1] at hj'
          obtain rfl := Option.some.inj hj'
          refine ⟨?_, fun h0 y' hy' => ?_⟩
          · simp only [DoneP.ok]
            rw [← hh]
            exact ⟨by omega, by omega, by omega, by simp_all⟩
          · rw [← hk, hx2] at hy'
            obtain rfl := Option.some.inj hy'
            dsimp only
            omega
        · exact hno j x' (by omega) hj'
      exact At.again hf hS (by repeat first | exact trivial | refine ⟨⟨_, rfl, .inl ⟨rfl, rfl⟩⟩, ?_⟩ | refine ⟨⟨_, rfl, .inr ⟨_, rfl, rfl⟩⟩, ?_⟩ | refine ⟨⟨_, rfl, .inr ⟨_, rfl, by simp (disch := omega) [SV.den, SI.den, wrapU]⟩⟩, ?_⟩) (by repeat first | exact trivial | refine ⟨fun h => h, SubC.refl rfl, rfl, ?_⟩)
  simp only [SB.F, SI.den] at hge
  obtain rfl : n2 = i := by omega
  have halln2 : ∀ (j : Nat) (x : _), o1[j]? = some x → DoneP.ok x ∧ (0 < j → ∀ y, o1[j - 1]? = some y → DoneP.client y < DoneP.client x) := fun j x hj => hno j x (by have := (List.getElem?_eq_some_iff.1 hj).1; omega) hj
  clear hno hi hge hq'
  refine X.go T91_ok 400 _ rfl Try.results91 ?_
  conv => arg 2; cbv
  refine X.loop1 (fun i : {i : Nat // i ≤ n3 ∧ ∀ (j : Nat) (x : _), j < i → u1[j]? = some x → CellP.ok l1 x ∧ (0 < j → ∀ y, u1[j - 1]? = some y → CellP.n y < CellP.n x)} => ⟨[(1, .val (.own 0 0)), (80, .val (.int .i64 (.nat n3))), (81, .val (.int .i64 (.nat i.1)))], [⟨true, [.int .u8 (.v k1), .int .u64 (.v i1), .int .i64 (.v s1), .slv p1 n1 c1, .slv p2 n2 c2, .slv p3 n3 c3, .int .u64 (.v l1), .slv p4 n4 c4], none⟩]⟩) (fun i => n3 - i.1) (fun N a w' hN hf hS => ⟨⟨0, Nat.zero_le _, fun j x hj => by omega⟩, ?_⟩) (fun i q' hq' => ?_)
  · exact At.again hf hS (by repeat first | exact trivial | refine ⟨⟨_, rfl, .inl ⟨rfl, rfl⟩⟩, ?_⟩ | refine ⟨⟨_, rfl, .inr ⟨_, rfl, rfl⟩⟩, ?_⟩ | refine ⟨⟨_, rfl, .inr ⟨_, rfl, by simp (disch := omega) [SV.den, SI.den, wrapU]⟩⟩, ?_⟩) (by repeat first | exact trivial | refine ⟨fun h => h, SubC.refl rfl, rfl, ?_⟩)
  obtain ⟨i, hi, hno⟩ := i
  refine X.go T91_ok 400 _ rfl Try.results91 ?_
  conv => arg 2; cbv
  refine X.cond rfl (fun hlt => ?_) (fun hge => ?_)
  · simp only [SB.T, SI.den] at hlt
    have hlt : i < n3 := by omega
    obtain ⟨k, hk⟩ : ∃ k, k = i - 1 := ⟨_, rfl⟩
    obtain ⟨x1, hx1⟩ : ∃ x, u1[i]? = some x := ⟨_, List.getElem?_eq_getElem (by omega)⟩
    obtain ⟨x2, hx2⟩ : ∃ x, u1[k]? = some x := ⟨_, List.getElem?_eq_getElem (by omega)⟩
    obtain ⟨b1, y1, w1, hp1, hr1, hm1⟩ := sa3.his hx1
    obtain ⟨b2, y2, w2, hp2, hr2, hm2⟩ := sa3.his hx2
    rw [← hime] at hm1 hm2
    obtain ⟨xa, xb, xc, xd⟩ := x1
    obtain ⟨ya, yb, yc, yd⟩ := x2
    rw [CellP.open hr1] at hm1
    rw [CellP.open hr2] at hm2
    refine X.see b1 (y1 + i * 4) [.int .u64 (.v xa), .int .u8 (.v xb), .int .i64 (.v xc), .int .i64 (.v xd)] (see_of hm1 rfl) (by simp) (fun N1 hN1 hNl1 => ?_)
    refine X.see b2 (y2 + k * 4) [.int .u64 (.v ya)] (one_see (hm2 0 _ rfl)) (by simp) (fun N2 hN2 hNl2 => ?_)
    have hg2 : (N2 ++ [(⟨b2, y2 + k * 4, 0⟩ : Num)])[2]? = some ⟨b2, y2 + k * 4, 0⟩ := num_last hNl2
    have hg1 : (N2 ++ [(⟨b2, y2 + k * 4, 0⟩ : Num)])[1]? = some ⟨b1, y1 + i * 4, 0⟩ := num_old (hN2 1 _ (num_last hNl1))
    refine X.goP ([(87, .own 1 0), (122, .own 2 0)]) T91_ok 400 _ rfl Try.results91 (fun pr fin hpr hfin => ?_)
    conv => cbv
    refine ⟨hpr _ (ValOk.row rfl rfl (fun h => ?_) Try.underlying60 Try.sizeOf131 (z := k) (by omega) hp2 hg2 rfl rfl), hpr _ (ValOk.row rfl rfl (fun _ => rfl) Try.underlying60 Try.sizeOf131 hlt hp1 hg1 rfl rfl), hfin _ _ ?_⟩
    · have h : (SB.gt (SI.nat i) (SI.lit 0)).den = true := h
      simp [SB.den, SI.den] at h
      simp [SI.den, IntKind.wrap, IntKind.bits, IntKind.signed]
      omega
    refine X.cond rfl (fun hbad => ?_) (fun hok => ?_)
    · simp only [SB.T, SB.F, SI.den] at hbad
      refine X.go T91_ok 400 _ rfl Try.results91 ?_
      conv => arg 2; cbv
      refine X.done T91_ok rfl (fun N w' v hN hS hv => ⟨fin_bool hv ?_, hS.chg.mono fun k o _ h => inR_nil h⟩)
      rw [hq]
      refine (B_neg fun h => ?_).symm
      obtain ⟨g1, g2⟩ := h.2.2.1 i _ hx1
      have g3 := fun h0 => g2 h0 _ (by rw [← hk]; exact hx2)
      simp only [CellP.ok] at g1
      dsimp only at g3
      omega
    · simp only [SB.T, SB.F, SI.den] at hok
      refine X.go T91_ok 400 _ rfl Try.results91 ?_
      conv => arg 2; cbv
      refine X.back (fun N a w' hN hf hS => hq' ⟨i + 1, by omega, fun j x' hj hj' => ?_⟩ a w' (by simp only; omega) ?_)
      · by_cases e : j = i
        · subst e
          rw [hx1] at hj'
          obtain rfl := Option.some.inj hj'
          refine ⟨?_, fun h0 y' hy' => ?_⟩
          · simp only [CellP.ok]
            omega
          · rw [← hk, hx2] at hy'
            obtain rfl := Option.some.inj hy'
            dsimp only
            omega
        · exact hno j x' (by omega) hj'
      exact At.again hf hS (by repeat first | exact trivial | refine ⟨⟨_, rfl, .inl ⟨rfl, rfl⟩⟩, ?_⟩ | refine ⟨⟨_, rfl, .inr ⟨_, rfl, rfl⟩⟩, ?_⟩ | refine ⟨⟨_, rfl, .inr ⟨_, rfl, by simp (disch := omega) [SV.den, SI.den, wrapU]⟩⟩, ?_⟩) (by repeat first | exact trivial | refine ⟨fun h => h, SubC.refl rfl, rfl, ?_⟩)
  simp only [SB.F, SI.den] at hge
  obtain rfl : n3 = i := by omega
  have halln3 : ∀ (j : Nat) (x : _), u1[j]? = some x → CellP.ok l1 x ∧ (0 < j → ∀ y, u1[j - 1]? = some y → CellP.n y < CellP.n x) := fun j x hj => hno j x (by have := (List.getElem?_eq_some_iff.1 hj).1; omega) hj
  clear hno hi hge hq'
  refine X.go T91_ok 400 _ rfl Try.results91 ?_
  conv => arg 2; cbv
  refine X.loop1 (fun i : {i : Nat // i ≤ n4 ∧ ∀ (j : Nat) (x : _), j < i → m1[j]? = some x → MarkP.ok x ∧ (0 < j → ∀ y, m1[j - 1]? = some y → MarkP.source y < MarkP.source x)} => ⟨[(1, .val (.own 0 0)), (133, .val (.int .i64 (.nat n4))), (134, .val (.int .i64 (.nat i.1)))], [⟨true, [.int .u8 (.v k1), .int .u64 (.v i1), .int .i64 (.v s1), .slv p1 n1 c1, .slv p2 n2 c2, .slv p3 n3 c3, .int .u64 (.v l1), .slv p4 n4 c4], none⟩]⟩) (fun i => n4 - i.1) (fun N a w' hN hf hS => ⟨⟨0, Nat.zero_le _, fun j x hj => by omega⟩, ?_⟩) (fun i q' hq' => ?_)
  · exact At.again hf hS (by repeat first | exact trivial | refine ⟨⟨_, rfl, .inl ⟨rfl, rfl⟩⟩, ?_⟩ | refine ⟨⟨_, rfl, .inr ⟨_, rfl, rfl⟩⟩, ?_⟩ | refine ⟨⟨_, rfl, .inr ⟨_, rfl, by simp (disch := omega) [SV.den, SI.den, wrapU]⟩⟩, ?_⟩) (by repeat first | exact trivial | refine ⟨fun h => h, SubC.refl rfl, rfl, ?_⟩)
  obtain ⟨i, hi, hno⟩ := i
  refine X.go T91_ok 400 _ rfl Try.results91 ?_
  conv => arg 2; cbv
  refine X.cond rfl (fun hlt => ?_) (fun hge => ?_)
  · simp only [SB.T, SI.den] at hlt
    have hlt : i < n4 := by omega
    obtain ⟨k, hk⟩ : ∃ k, k = i - 1 := ⟨_, rfl⟩
    obtain ⟨x1, hx1⟩ : ∃ x, m1[i]? = some x := ⟨_, List.getElem?_eq_getElem (by omega)⟩
    obtain ⟨x2, hx2⟩ : ∃ x, m1[k]? = some x := ⟨_, List.getElem?_eq_getElem (by omega)⟩
    obtain ⟨b1, y1, w1, hp1, hr1, hm1⟩ := sa4.his hx1
    obtain ⟨b2, y2, w2, hp2, hr2, hm2⟩ := sa4.his hx2
    rw [← hime] at hm1 hm2
    obtain ⟨xa, xb, xc⟩ := x1
    obtain ⟨ya, yb, yc⟩ := x2
    rw [MarkP.open hr1] at hm1
    rw [MarkP.open hr2] at hm2
    refine X.see b1 (y1 + i * 3) [.int .u8 (.v xa), .int .u64 (.v xb), .int .u64 (.v xc)] (see_of hm1 rfl) (by simp) (fun N1 hN1 hNl1 => ?_)
    refine X.see b2 (y2 + k * 3) [.int .u8 (.v ya)] (one_see (hm2 0 _ rfl)) (by simp) (fun N2 hN2 hNl2 => ?_)
    have hg2 : (N2 ++ [(⟨b2, y2 + k * 3, 0⟩ : Num)])[2]? = some ⟨b2, y2 + k * 3, 0⟩ := num_last hNl2
    have hg1 : (N2 ++ [(⟨b2, y2 + k * 3, 0⟩ : Num)])[1]? = some ⟨b1, y1 + i * 3, 0⟩ := num_old (hN2 1 _ (num_last hNl1))
    refine X.goP ([(140, .own 1 0), (163, .own 2 0)]) T91_ok 400 _ rfl Try.results91 (fun pr fin hpr hfin => ?_)
    conv => cbv
    refine ⟨hpr _ (ValOk.row rfl rfl (fun h => ?_) Try.underlying61 Try.sizeOf134 (z := k) (by omega) hp2 hg2 rfl rfl), hpr _ (ValOk.row rfl rfl (fun _ => rfl) Try.underlying61 Try.sizeOf134 hlt hp1 hg1 rfl rfl), hfin _ _ ?_⟩
    · have h : (SB.gt (SI.nat i) (SI.lit 0)).den = true := h
      simp [SB.den, SI.den] at h
      simp [SI.den, IntKind.wrap, IntKind.bits, IntKind.signed]
      omega
    refine X.cond rfl (fun hbad => ?_) (fun hok => ?_)
    · simp only [SB.T, SB.F, SI.den] at hbad
      refine X.go T91_ok 400 _ rfl Try.results91 ?_
      conv => arg 2; cbv
      refine X.done T91_ok rfl (fun N w' v hN hS hv => ⟨fin_bool hv ?_, hS.chg.mono fun k o _ h => inR_nil h⟩)
      rw [hq]
      refine (B_neg fun h => ?_).symm
      obtain ⟨g1, g2⟩ := h.2.2.2 i _ hx1
      have g3 := fun h0 => g2 h0 _ (by rw [← hk]; exact hx2)
      simp only [MarkP.ok] at g1
      dsimp only at g3
      omega
    · simp only [SB.T, SB.F, SI.den] at hok
      refine X.go T91_ok 400 _ rfl Try.results91 ?_
      conv => arg 2; cbv
      refine X.back (fun N a w' hN hf hS => hq' ⟨i + 1, by omega, fun j x' hj hj' => ?_⟩ a w' (by simp only; omega) ?_)
      · by_cases e : j = i
        · subst e
          rw [hx1] at hj'
          obtain rfl := Option.some.inj hj'
          refine ⟨?_, fun h0 y' hy' => ?_⟩
          · simp only [MarkP.ok]
            omega
          · rw [← hk, hx2] at hy'
            obtain rfl := Option.some.inj hy'
            dsimp only
            omega
        · exact hno j x' (by omega) hj'
      exact At.again hf hS (by repeat first | exact trivial | refine ⟨⟨_, rfl, .inl ⟨rfl, rfl⟩⟩, ?_⟩ | refine ⟨⟨_, rfl, .inr ⟨_, rfl, rfl⟩⟩, ?_⟩ | refine ⟨⟨_, rfl, .inr ⟨_, rfl, by simp (disch := omega) [SV.den, SI.den, wrapU]⟩⟩, ?_⟩) (by repeat first | exact trivial | refine ⟨fun h => h, SubC.refl rfl, rfl, ?_⟩)
  simp only [SB.F, SI.den] at hge
  obtain rfl : n4 = i := by omega
  have halln4 : ∀ (j : Nat) (x : _), m1[j]? = some x → MarkP.ok x ∧ (0 < j → ∀ y, m1[j - 1]? = some y → MarkP.source y < MarkP.source x) := fun j x hj => hno j x (by have := (List.getElem?_eq_some_iff.1 hj).1; omega) hj
  clear hno hi hge hq'
  refine X.go T91_ok 400 _ rfl Try.results91 ?_
  conv => arg 2; cbv
  refine X.done T91_ok rfl (fun N w' v hN hS hv => ⟨fin_bool hv ?_, hS.chg.mono fun k o _ h => inR_nil h⟩)
  rw [hq]
  refine (B_pos ⟨?_, halln2, halln3, halln4⟩).symm
  simp only
  omega

end Go.Proofs.Ytkjhpaeminegoaa

