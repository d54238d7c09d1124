/- Told. -/
import Derived.Test.YtcfghkiokdbhjaaWk3

namespace Go.Proofs.Ytcfghkiokdbhjaa
open Go.Eng

def ToldRel (a : Ans) (j j' : Job) : Prop := j' = j ∨ j' = Job.z ∨ (j.p = 1 ∧ j'.p = 2) ∨ (j.p = 2 ∧ j.c = a.i0 ∧ j' = ⟨3, 0, j.i, j.n, j.t, j.a, j.g⟩ ∧ a.er ≠ 17)

/-- hands, as a summary -/
def handsSum (fJ : Job → Int → Job) (fO : Int → Job → Int → Opn) (fC : Int → Bool) : List SV → Option SV
  | [.int .u8 s, .agg [.int .u8 p, .int .u64 c, .int .u64 i, .int .u64 n, .int .u8 t, .int .i64 a, .int .i64 g], .agg [.int .u64 i0, .int .u8 i1, .int .u8 i2, .int .u8 i3, .int .u64 i4, .int .i64 i5, .int .i64 i6, .int .i64 i7, .int .u8 i8, .int .u64 i9, .int .u64 i10, .int .i64 er, .int .u64 i12, .int .i64 i13, .slv pr nr cr, .int .u8 kd, .int .u64 inc, .int .i64 st, .slv pv nv cv, .slv pd nd cd, .slv po no co, .int .u64 nx, .slv pm nm cm, .int .u64 i23, .int .u8 i24, .int .u32 i25]] =>
    some (.tup [.agg (fJ ⟨p.den, c.den, i.den, n.den, t.den, a.den, g.den⟩ er.den).sv, .agg (fO s.den ⟨p.den, c.den, i.den, n.den, t.den, a.den, g.den⟩ er.den).sv, .bool (.v (!fC er.den))])
  | _ => none

set_option maxRecDepth 100000 in
theorem handsSum_ok : SumOk Try.prog 65 (handsSum handsJ handsO handsC) := by
  refine ⟨Try.call65, fun N l r args w hs hd => ?_⟩
  unfold handsSum at hs
  split at hs
  · rename_i s p c i n t a g i0 i1 i2 i3 i4 i5 i6 i7 i8 i9 i10 er i12 i13 pr nr cr kd inc st pv nv cv pd nd cd po no co nx pm nm cm i23 i24 i25
    simp only [Option.some.injEq] at hs
    subst hs
    simp only [SV.denL, SV.den, Option.some.injEq] at hd
    subst hd
    exact (hands_ok s.den ⟨p.den, c.den, i.den, n.den, t.den, a.den, g.den⟩ { i0 := i0.den, i1 := i1.den, i2 := i2.den, i3 := i3.den, i4 := i4.den, i5 := i5.den, i6 := i6.den, i7 := i7.den, i8 := i8.den, i9 := i9.den, i10 := i10.den, er := er.den, i12 := i12.den, i13 := i13.den, kd := kd.den, inc := inc.den, st := st.den, nx := nx.den, i23 := i23.den, i24 := i24.den, i25 := i25.den, pr := pr, nr := nr, cr := cr, pv := pv, nv := nv, cv := cv, pd := pd, nd := nd, cd := cd, po := po, no := no, co := co, pm := pm, nm := nm, cm := cm } w).mono fun e w' ⟨he, hc⟩ => ⟨_, he, rfl, hc⟩
  · cases hs

/-- behind a body at work on job s, which is region r -/
theorem job_backR {fn : Func} {Q : Ending → World → Prop} {w w' : World} {b y s r : Nat} {J : Nat → Job} {im : Nat → Nat → Option Value} {N0 N : Nums} {B : SchT} {rg : List Rg} {g : Rg} {j : Job} (hlen : N0.length = r) (hN : (N0 ++ [⟨b, y + s * 7, 7⟩] : Nums).le N)
    (hS : Sat (mkE Try.prog fn Q w (jobD b y) im (arrDBut b y (16 * 7) s 7) (ArrBut b y 7 16 s fun s => (J s).vals) (N0 ++ [⟨b, y + s * 7, 7⟩]) B).toEnv N rg w') (hg : rg[r]? = some g) (ho : g.own = true) (hd : SV.denL N g.cells = some j.vals) :
    JobsAt b y (updA J s j) w' ∧ Chg (jobD b y) w w' := by
  refine ⟨?_, hS.chg⟩
  have hp : N[r]? = some ⟨b, y + s * 7, 7⟩ := hN r _ (by rw [← hlen]; simp)
  have := arr_back hS hS.res hg ho hp hd rfl
  rw [updJ] at this
  exact this

theorem updA_self {α : Type} (f : Nat → α) (i : Nat) : updA f i (f i) = f := by
  funext k; unfold updA; split <;> simp_all

/-- .. and on to the loop's head -/
theorem jobs_again {fn : Func} {Q : Ending → World → Prop} {w w' : World} {b y i r : Nat} {J J' : Nat → Job} {im : Nat → Nat → Option Value} {N0 N : Nums} {B : SchT} {s s' : St} {a : Act} {g : Rg} {j : Job} (hlen : N0.length = r) (hi : i < 16) (hN : (N0 ++ [⟨b, y + i * 7, 7⟩] : Nums).le N) (hf : FrOk fn.ntmps N s.fr a)
    (hS : Sat (mkE Try.prog fn Q w (jobD b y) im (arrDBut b y (16 * 7) i 7) (ArrBut b y 7 16 i fun s => (J s).vals) (N0 ++ [⟨b, y + i * 7, 7⟩]) B).toEnv N s.rg w') (hg : s.rg[r]? = some g) (ho : g.own = true) (hd : SV.denL N g.cells = some j.vals) (hJ : updA J i j = J')
    (h1 : SubFr N (N.take s'.rg.length) s'.rg.length s.fr s'.fr) (h2 : SubRg N (N.take s'.rg.length) s'.rg.length (s.rg.set r ⟨false, [], none⟩) s'.rg) :
    At (mkE Try.prog fn Q w (jobD b y) im (jobD b y) (JobsAt b y J') [] B) s' a w' := by
  have hp : N[r]? = some ⟨b, y + i * 7, 7⟩ := hN r _ (by rw [← hlen]; simp)
  have hb := (job_backR hlen hN hS hg ho hd).1
  rw [hJ] at hb
  have hS' := hS.give hg hp ho (jobD b y) (JobsAt b y J') (fun k o ⟨q1, q2, q3⟩ => by
    by_cases e : y + i * 7 ≤ o ∧ o < y + i * 7 + 7
    · exact .inr ⟨q1, e.1, e.2⟩
    · exact .inl ⟨q1, q2, q3, fun h => e ⟨h.1, h.2⟩⟩) ArrAt.loc hb
  exact At.mk (s := ⟨s.fr, s.rg.set r ⟨false, [], none⟩⟩) (N0 := []) (Rr := JobsAt b y J') (fun r p h => by simp at h) hf hS' (Nat.zero_le _) h1 h2 (fun _ _ _ h => h) ArrAt.loc hb

theorem outAt_stays {a : Ans} {w w' : World} {D : Nat → Nat → Prop} (ho : OutAt a w) (hb : 0 < a.no → ∀ x, a.po = some x → ∀ o, ¬ D x.block o) (him : ∀ k o v, outside D w k o = some v → w'.cell? ⟨k, o, none⟩ = some v) : OutAt a w' := fun hn => by
  obtain ⟨b, x, c0, c1, c2, c3, h1, h2⟩ := ho hn
  exact ⟨b, x, c0, c1, c2, c3, h1, fun j v hj => him _ _ _ (by rw [outside_out (hb hn _ h1 _)]; exact h2 j v hj)⟩

theorem wrap64s (i : Nat) (h : i < 1000) : IntKind.i64.wrap ((i : Int) + 1) = (i : Int) + 1 := by
  simp [IntKind.wrap, IntKind.bits, IntKind.signed]
  omega

set_option maxRecDepth 100000 in
set_option cbv.maxSteps 100000000 in
theorem told_ok (b y : Nat) (a : Ans) (w : World) (J : Nat → Job) (hJ : JobsAt b y J w) (ho : OutAt a w) (hb : 0 < a.no → ∀ x, a.po = some x → x.block ≠ b) :
    Calls Try.prog 24 #[.pointer (some ⟨b, y, none⟩), .agg a.vals.toArray] w fun e w' => ∃ (src : Int) (op : Opn) (more : Bool) (J' : Nat → Job), e = .returned (.tuple #[.int .u8 src, .agg op.vals.toArray, .bool more]) ∧ JobsAt b y J' w' ∧ Chg (jobD b y) w w' ∧
      ∀ k, ToldRel a (J k) (J' k) := by
  obtain ⟨fJ, hfJ⟩ : ∃ f, f = handsJ := ⟨_, rfl⟩
  obtain ⟨fO, hfO⟩ : ∃ f, f = handsO := ⟨_, rfl⟩
  obtain ⟨fC, hfC⟩ : ∃ f, f = handsC := ⟨_, rfl⟩
  have hsum : SumOk Try.prog 65 (handsSum fJ fO fC) := by subst hfJ hfO hfC; exact handsSum_ok
  refine X.beginR (jobD b y) (JobsAt b y J) (ss := [.ext b y 0, .agg a.sv]) Try.func24 rfl B24_ok rfl rfl (hJ.there (by omega)) ArrAt.loc hJ ?_
  refine X.go T24_ok 300 _ rfl Try.results24 ?_
  conv => arg 2; cbv
  refine X.cond rfl (fun hc => ?_) (fun hc => ?_)
  · refine X.go T24_ok 300 _ rfl Try.results24 ?_
    conv => arg 2; cbv
    refine X.done T24_ok rfl (fun N w' v hN hS hv => ?_)
    simp [resV, SV.den, SV.denL, SI.den, SB.den] at hv
    exact ⟨0, Opn.z, false, J, by rw [← hv]; rfl, hS.res, hS.chg, fun _ => .inl rfl⟩
  refine X.go T24_ok 300 _ rfl Try.results24 ?_
  conv => arg 2; cbv
  refine X.loop1 (fun (i : {i : Nat // i ≤ 16}) => ⟨[(0, .val (.ext b y 0)), (3, .val (.own 0 0)), (4, .val (.int .u8 (.lit 0))), (5, .val (.own 1 0)), (6, .val (.bool (.lit false))), (20, .val (.int .i64 (.nat i.1)))],
    [⟨true, a.sv, none⟩, ⟨true, Opn.z0, none⟩]⟩) (fun i => 16 - i.1) (fun N a' w1 hN hf hS => ⟨⟨0, by omega⟩, ?_⟩) (fun i q hq => ?_)
  · exact At.same hN hf hS (Nat.zero_le _) ⟨⟨_, rfl, .inl ⟨rfl, rfl⟩⟩, ⟨_, rfl, .inl ⟨rfl, rfl⟩⟩, ⟨_, rfl, .inl ⟨rfl, rfl⟩⟩, ⟨_, rfl, .inl ⟨rfl, rfl⟩⟩, ⟨_, rfl, .inl ⟨rfl, rfl⟩⟩, ⟨_, rfl, .inr ⟨_, rfl, rfl⟩⟩, trivial⟩ ⟨fun _ => rfl, SubC.refl rfl, rfl, fun _ => rfl, SubC.refl rfl, rfl, trivial⟩
  obtain ⟨i, hi⟩ := i
  refine X.go T24_ok 300 _ rfl Try.results24 ?_
  conv => arg 2; cbv
  refine X.cond rfl (fun hlt => ?_) (fun hge => ?_)
  · simp only [SB.T, SI.den] at hlt
    have hi' : i < 16 := by omega
    refine X.focusArr i hi' (by omega) rfl (cs := (J i).sv) ((J i).den _) jobs_O jobs_im (by simp) (fun N0 hN0 hlen => ?_)
    refine X.go T24_ok 300 _ rfl Try.results24 ?_
    conv => arg 2; cbv
    refine X.idxArr rfl rfl rfl rfl rfl Try.underlying54 Try.sizeOf31 i rfl hi' (.own 2 0) (fun N hN => ?_) rfl ?_
    · have : N[2]? = some ⟨b, y + i * 7, 7⟩ := hN 2 _ (by rw [show (2 : Nat) = N0.length from hlen.symm]; simp)
      simp [SV.den, this]
    refine X.go T24_ok 300 _ rfl Try.results24 ?_
    conv => arg 2; cbv
    refine X.cond rfl (fun hcont => ?_) (fun hfound => ?_)
    · refine X.go T24_ok 300 _ rfl Try.results24 ?_
      conv => arg 2; cbv
      refine X.back (fun N a' w1 hN hf hS => hq ⟨i + 1, by omega⟩ a' w1 (by show 16 - (i + 1) < 16 - i; omega) ?_)
      refine jobs_again (r := 2) hlen hi' hN hf hS rfl rfl rfl (updA_self J i) ?_ ?_
      · exact ⟨⟨_, rfl, .inl ⟨rfl, rfl⟩⟩, ⟨_, rfl, .inl ⟨rfl, rfl⟩⟩, ⟨_, rfl, .inl ⟨rfl, rfl⟩⟩, ⟨_, rfl, .inl ⟨rfl, rfl⟩⟩, ⟨_, rfl, .inl ⟨rfl, rfl⟩⟩, ⟨_, rfl, .inr ⟨_, rfl, by simp [SV.den, SI.den, wrap64s i (by omega)]⟩⟩, trivial⟩
      · exact ⟨fun _ => rfl, SubC.refl rfl, rfl, fun _ => rfl, SubC.refl rfl, rfl, trivial⟩
    · simp only [SB.F, SI.den] at hfound
      have hf0 : (J i).p ≠ 0 ∧ (J i).c = a.i0 := hfound
      refine X.go T24_ok 300 _ rfl Try.results24 ?_
      conv => arg 2; cbv
      refine X.cond rfl (fun hp => ?_) (fun hp => ?_)
      · have hp1 : (J i).p = 1 := hp
        refine X.go T24_ok 300 _ rfl Try.results24 ?_
        conv => arg 2; cbv
        refine X.call rfl rfl rfl rfl Try.call64 (fun N w1 args hN hS ha => ?_)
        have ha' : [Value.int .u8 (IntKind.u8.wrap i), .agg a.vals.toArray] = args := by
          have : SV.denL N [SV.int .u8 (.wrap .u8 (.nat i)), .agg a.sv] = some [Value.int .u8 (IntKind.u8.wrap i), .agg a.vals.toArray] := rfl
          exact Option.some.inj (this.symm.trans ha)
        subst ha'
        refine (reads_ok (IntKind.u8.wrap i) a w1 (outAt_stays ho (fun hn x hx o hd => hb hn x hx hd.1) hS.imm)).mono fun e w' ⟨j, op, more, he, hch, hj⟩ => ⟨_, he, Goes.same (r := .tup [.agg j.sv, .agg op.sv, .bool (.v more)]) hN hS hch rfl rfl ?_⟩
        refine X.go T24_ok 300 _ rfl Try.results24 ?_
        conv => arg 2; cbv
        refine X.done T24_ok rfl (fun N w' v hN hS hv => ?_)
        simp [resV, SV.den, SV.denL, SI.den, SB.den] at hv
        obtain ⟨h1, h2⟩ := job_backR (r := 2) (j := j) hlen hN hS rfl rfl rfl
        refine ⟨IntKind.u8.wrap i, op, more, _, by rw [← hv]; rfl, h1, h2, upd_cases (p := ToldRel a) ?_ (fun _ => .inl rfl)⟩
        rcases hj with rfl | hj
        · exact .inr (.inl rfl)
        · exact .inr (.inr (.inl ⟨hp1, hj⟩))
      · refine X.go T24_ok 300 _ rfl Try.results24 ?_
        conv => arg 2; cbv
        refine X.cond rfl (fun hp2 => ?_) (fun hp2 => ?_)
        · have hp2' : (J i).p = 2 := hp2
          refine X.drawn T24_ok (callSum 65 (handsSum fJ fO fC) 81 _) rfl (callSum_ok hsum _ _) 81 rfl ?_
          conv => arg 3; cbv
          change X _ _ _
          refine X.go T24_ok 300 _ rfl Try.results24 ?_
          conv => arg 2; cbv
          refine X.done T24_ok rfl (fun N w' v hN hS hv => ?_)
          simp [resV, SV.den, SV.denL, SI.den, SB.den] at hv
          obtain ⟨h1, h2⟩ := job_backR (r := 2) (j := fJ (J i) a.er) hlen hN hS rfl rfl rfl
          refine ⟨IntKind.u8.wrap i, fO (IntKind.u8.wrap i) (J i) a.er, !fC a.er, _, by rw [← hv]; rfl, h1, h2, upd_cases (p := ToldRel a) ?_ (fun _ => .inl rfl)⟩
          subst hfJ
          cases hh : handsC a.er with
          | true => exact .inr (.inl (by simp [handsJ, hh]))
          | false =>
            refine .inr (.inr (.inr ⟨hp2', hf0.2, by simp [handsJ, hh], fun e => ?_⟩))
            simp [handsC, e] at hh
        · refine X.go T24_ok 300 _ rfl Try.results24 ?_
          conv => arg 2; cbv
          refine X.done T24_ok rfl (fun N w' v hN hS hv => ?_)
          simp [resV, SV.den, SV.denL, SI.den, SB.den] at hv
          obtain ⟨h1, h2⟩ := job_backR (r := 2) (j := Job.z) hlen hN hS rfl rfl rfl
          exact ⟨IntKind.u8.wrap i, Opn.z, false, _, by rw [← hv]; rfl, h1, h2, upd_cases (p := ToldRel a) (.inr (.inl rfl)) (fun _ => .inl rfl)⟩
  · refine X.go T24_ok 300 _ rfl Try.results24 ?_
    conv => arg 2; cbv
    refine X.done T24_ok rfl (fun N w' v hN hS hv => ?_)
    simp [resV, SV.den, SV.denL, SI.den, SB.den] at hv
    exact ⟨0, Opn.z, false, J, by rw [← hv]; rfl, hS.res, hS.chg, fun _ => .inl rfl⟩
end Go.Proofs.Ytcfghkiokdbhjaa
