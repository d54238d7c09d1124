/- What is known behind a record, by the document. -/
import Derived.Test.YtkjhpaeminegoaaRe14

namespace Go.Proofs.Ytkjhpaeminegoaa
open Go Go.Eng

set_option maxHeartbeats 16000000 in
set_option maxRecDepth 100000 in
set_option cbv.maxSteps 100000000 in
theorem fold_ok (s : StateC) (r : RecC) (p : RecP) (w : World) (hr : RepL (wm w) p.toD r.vals) (hk0 : 0 ≤ r.key) (u1 : U8 p.conf.old) (u2 : U8 p.conf.new) :
    Calls Try.prog 34 #[.agg s.vals.toArray, .agg r.vals.toArray] w fun e w' => e = .returned (.agg (foldC (B p.may) s r).vals.toArray) ∧ Chg (fun _ _ => False) w w' := by
  have e1 := fun (w1 : World) hi1 => may14_ok p r.vals w1 (hr.later (im := elsewhere [] [] w) rfl hi1) u1 u2
  have hkey : B p.may = true → r.key ≤ 15 := fun h => by
    have h := (B_iff.1 h).2.2.2.2.2.1
    obtain ⟨rv, cv, he, _⟩ := RecP.open hr
    have : Value.int .u8 r.key = .int .u8 p.key := by
      have := congrArg (fun l => l[1]?) he
      simpa [RecC.vals] using this
    rw [(Value.int.inj this).2]
    exact h
  obtain ⟨m, hm⟩ : ∃ m, m = B p.may := ⟨_, rfl⟩
  rw [← hm] at e1 hkey ⊢
  clear hr u1 u2 hm
  obtain ⟨S, fe, li, ⟨cc, cp1, cn1, cc1, cp2, cn2, cc2⟩⟩ := s
  obtain ⟨kd, ky, sl, rf, rl, rcf⟩ := r
  simp only at hk0 hkey
  refine X.begin (rg := []) (N := []) (ss := [.agg (StateC.svs ⟨S, fe, li, ⟨cc, cp1, cn1, cc1, cp2, cn2, cc2⟩⟩), .agg (RecC.svs ⟨kd, ky, sl, rf, rl, rcf⟩)]) Try.func34 rfl B34_ok rfl rfl Sat.std0 ?_
  obtain ⟨im, hime⟩ : ∃ im, im = elsewhere [] [] w := ⟨_, rfl⟩
  show X (mkE Try.prog Try.f34 _ w (InR [] []) (elsewhere [] [] w) (fun _ _ => False) (fun _ => True) [] B34) _ _
  rw [← hime] at e1 ⊢
  refine X.goP ([(6, .bool (.v m))]) T34_ok 400 _ rfl Try.results34 (fun pr fin hpr hfin => ?_)
  conv => cbv
  refine ⟨hpr _ (.of Try.call36 [.agg _] (.bool m) (fun _ => rfl) (fun _ => rfl) fun _ w1 hi1 => e1 w1 hi1), hfin _ _ ?_⟩
  refine X.cond rfl (fun h0 => ?_) (fun h0 => ?_)
  · refine X.go T34_ok 400 _ rfl Try.results34 ?_
    conv => arg 2; cbv
    refine X.done T34_ok rfl (fun N w' v hN hS hv => ⟨?_, hS.chg.mono fun k o _ h => inR_nil h⟩)
    simp only [SB.T, SB.F] at h0
    subst h0
    exact fin_agg hv rfl
  simp only [SB.T, SB.F] at h0
  subst h0
  have hkey := hkey rfl
  clear e1
  refine X.go T34_ok 400 _ rfl Try.results34 ?_
  conv => arg 2; cbv
  refine X.cond rfl (fun h1 => ?_) (fun h1 => ?_)
  · simp only [SB.T, SB.F, SI.den] at h1
    subst h1
    obtain ⟨c0, hc0⟩ : ∃ c, c = ky.toNat * 15 := ⟨_, rfl⟩
    have hk16 : ky.toNat < 16 := by omega
    obtain ⟨s', hs'⟩ : ∃ s', s' = (⟨upd S ky.toNat sl.put, fe, li, ⟨cc, cp1, cn1, cc1, cp2, cn2, cc2⟩⟩ : StateC) := ⟨_, rfl⟩
    have hrow := svs_put ⟨S, fe, li, ⟨cc, cp1, cn1, cc1, cp2, cn2, cc2⟩⟩ hk16 sl.put
    have hlen := StateC.svs_len ⟨S, fe, li, ⟨cc, cp1, cn1, cc1, cp2, cn2, cc2⟩⟩
    rw [← hs', ← hc0] at hrow
    refine X.goP ([(23, .own 0 c0)]) T34_ok 12 _ rfl Try.results34 (fun pr fin hpr hfin => ?_)
    conv => cbv
    refine ⟨hpr _ (ValOk.arrOwn (z := ky.toNat) rfl rfl (fun _ => by simp only [SI.den]; omega) Try.underlying66 Try.sizeOf65 hk16 (by rw [hc0, Nat.zero_add]) (Nat.zero_lt_succ _)), hfin _ _ ?_⟩
    refine X.revalV 21 (.agg (SlotC.svs sl.put)) (.agg (SlotC.vals sl.put).toArray) rfl (fun _ => rfl) (fun _ => rfl) ?_
    refine X.opEq T34_ok (OpEq.store (v := .agg (SlotC.svs sl.put)) (g := ⟨true, StateC.svs ⟨S, fe, li, ⟨cc, cp1, cn1, cc1, cp2, cn2, cc2⟩⟩, none⟩) rfl rfl rfl rfl rfl rfl rfl rfl rfl rfl (by show c0 + 15 ≤ (StateC.svs ⟨S, fe, li, ⟨cc, cp1, cn1, cc1, cp2, cn2, cc2⟩⟩).length; omega) rfl hrow) ?_
    refine X.go T34_ok 400 _ rfl Try.results34 ?_
    conv => arg 2; cbv
    refine X.done T34_ok rfl (fun N w' v hN hS hv => ⟨?_, hS.chg.mono fun k o _ h => inR_nil h⟩)
    rw [show foldC true ⟨S, fe, li, ⟨cc, cp1, cn1, cc1, cp2, cn2, cc2⟩⟩ ⟨1, ky, sl, rf, rl, rcf⟩ = s' from hs'.symm]
    exact fin_agg hv rfl
  simp only [SB.T, SB.F, SI.den] at h1
  refine X.go T34_ok 400 _ rfl Try.results34 ?_
  conv => arg 2; cbv
  refine X.cond rfl (fun h2 => ?_) (fun h2 => ?_)
  · simp only [SB.T, SB.F, SI.den] at h2
    subst h2
    obtain ⟨c0, hc0⟩ : ∃ c, c = ky.toNat * 15 := ⟨_, rfl⟩
    have hk16 : ky.toNat < 16 := by omega
    obtain ⟨s', hs'⟩ : ∃ s', s' = (⟨upd S ky.toNat SlotC.zero, fe, li, ⟨cc, cp1, cn1, cc1, cp2, cn2, cc2⟩⟩ : StateC) := ⟨_, rfl⟩
    have hrow := svs_put ⟨S, fe, li, ⟨cc, cp1, cn1, cc1, cp2, cn2, cc2⟩⟩ hk16 SlotC.zero
    have hlen := StateC.svs_len ⟨S, fe, li, ⟨cc, cp1, cn1, cc1, cp2, cn2, cc2⟩⟩
    rw [← hs', ← hc0] at hrow
    refine X.goP ([(30, .own 0 c0)]) T34_ok 6 _ rfl Try.results34 (fun pr fin hpr hfin => ?_)
    conv => cbv
    refine ⟨hpr _ (ValOk.arrOwn (z := ky.toNat) rfl rfl (fun _ => by simp only [SI.den]; omega) Try.underlying66 Try.sizeOf65 hk16 (by rw [hc0, Nat.zero_add]) (Nat.zero_lt_succ _)), hfin _ _ ?_⟩
    refine X.revalV 28 (.agg (SlotC.svs SlotC.zero)) (.agg (SlotC.vals SlotC.zero).toArray) rfl (fun _ => rfl) (fun _ => rfl) ?_
    refine X.opEq T34_ok (OpEq.store (v := .agg (SlotC.svs SlotC.zero)) (g := ⟨true, StateC.svs ⟨S, fe, li, ⟨cc, cp1, cn1, cc1, cp2, cn2, cc2⟩⟩, none⟩) rfl rfl rfl rfl rfl rfl rfl rfl rfl rfl (by show c0 + 15 ≤ (StateC.svs ⟨S, fe, li, ⟨cc, cp1, cn1, cc1, cp2, cn2, cc2⟩⟩).length; omega) rfl hrow) ?_
    refine X.go T34_ok 400 _ rfl Try.results34 ?_
    conv => arg 2; cbv
    refine X.done T34_ok rfl (fun N w' v hN hS hv => ⟨?_, hS.chg.mono fun k o _ h => inR_nil h⟩)
    rw [show foldC true ⟨S, fe, li, ⟨cc, cp1, cn1, cc1, cp2, cn2, cc2⟩⟩ ⟨2, ky, sl, rf, rl, rcf⟩ = s' from hs'.symm]
    exact fin_agg hv rfl
  simp only [SB.T, SB.F, SI.den] at h2
  refine X.go T34_ok 400 _ rfl Try.results34 ?_
  conv => arg 2; cbv
  refine X.cond rfl (fun h3 => ?_) (fun h3 => ?_)
  · simp only [SB.T, SB.F, SI.den] at h3
    subst h3
    refine X.go T34_ok 400 _ rfl Try.results34 ?_
    conv => arg 2; cbv
    refine X.done T34_ok rfl (fun N w' v hN hS hv => ⟨?_, hS.chg.mono fun k o _ h => inR_nil h⟩)
    exact fin_agg hv rfl
  simp only [SB.T, SB.F, SI.den] at h3
  refine X.go T34_ok 400 _ rfl Try.results34 ?_
  conv => arg 2; cbv
  refine X.cond rfl (fun h4 => ?_) (fun h4 => ?_)
  · simp only [SB.T, SB.F, SI.den] at h4
    subst h4
    refine X.go T34_ok 400 _ rfl Try.results34 ?_
    conv => arg 2; cbv
    refine X.done T34_ok rfl (fun N w' v hN hS hv => ⟨?_, hS.chg.mono fun k o _ h => inR_nil h⟩)
    exact fin_agg hv rfl
  simp only [SB.T, SB.F, SI.den] at h4
  refine X.go T34_ok 400 _ rfl Try.results34 ?_
  conv => arg 2; cbv
  refine X.cond rfl (fun h5 => ?_) (fun h5 => ?_)
  · simp only [SB.T, SB.F, SI.den] at h5
    subst h5
    refine X.go T34_ok 400 _ rfl Try.results34 ?_
    conv => arg 2; cbv
    refine X.done T34_ok rfl (fun N w' v hN hS hv => ⟨?_, hS.chg.mono fun k o _ h => inR_nil h⟩)
    exact fin_agg hv rfl
  simp only [SB.T, SB.F, SI.den] at h5
  refine X.go T34_ok 400 _ rfl Try.results34 ?_
  conv => arg 2; cbv
  refine X.done T34_ok rfl (fun N w' v hN hS hv => ⟨?_, hS.chg.mono fun k o _ h => inR_nil h⟩)
  rw [show foldC true ⟨S, fe, li, ⟨cc, cp1, cn1, cc1, cp2, cn2, cc2⟩⟩ ⟨kd, ky, sl, rf, rl, rcf⟩ = ⟨S, fe, li, ⟨cc, cp1, cn1, cc1, cp2, cn2, cc2⟩⟩ by simp [foldC, h1, h2, h3, h4, h5]]
  exact fin_agg hv rfl

end Go.Proofs.Ytkjhpaeminegoaa
