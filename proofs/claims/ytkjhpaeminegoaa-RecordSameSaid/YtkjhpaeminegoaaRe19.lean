/- The law about sameness: awake; the walk. -/
import Derived.Test.YtkjhpaeminegoaaRe18

namespace Go.Proofs.Ytkjhpaeminegoaa
open Go Go.Eng Go.Lib

theorem _root_.Go.Eng.ValOk.strOsl {E : Env} {N0 : Nums} {rg : List Rg} {f : Fr} {g : GK} {src e dst : TypeId} {x : Operand} {r c n : Nat} {kc : Option Nat} {l : List Int} {gg : Rg} (hx : evK f g x = some (.osl r c n 1 kc)) (hs : E.P.underlying src = some (.slice e)) (he : E.P.underlying e = some (.int .u8)) (hd : E.P.underlying dst = some .string)
    (hr : rg[r]? = some gg) (hn : l.length = n) (hc : ∀ j, j < n → gg.cells[c + j]? = some (.int .u8 (.lit (l.getD j 0)))) : ValOk E N0 rg f g (.convert src dst x) (.raw (.string (strOfNums l))) := by
  intro ht N ρ o w0 hN0 hop hρ hV
  have h1 := hρ _ _ hx
  obtain ⟨p, hp⟩ : ∃ p, N[r]? = some p := ⟨_, List.getElem?_eq_getElem (by have := hV.1.len; have := (List.getElem?_eq_some_iff.1 hr).1; omega)⟩
  simp only [SV.den, hp, Option.some.injEq] at h1
  refine ⟨.string (strOfNums l), by simp [SV.den, one?], fun w' hV' => ?_⟩
  have := run_convert_bytes_arg (P := E.P) (w := w') src e hs he p.b (p.o + c) n (p.cap c 1 kc) l hn (fun j hj => by
    obtain ⟨v, k1, k2⟩ := hV'.1.cell r gg p hr hp (c + j) _ (hc j hj)
    cases k1
    rw [Nat.add_assoc, k2]
    rfl) dst hd
  simp only [execOp, hop, ← h1, this, Sem.run_bind, Result.andThen, Sem.run_pure]

set_option maxHeartbeats 4000000 in
set_option maxRecDepth 100000 in
set_option cbv.maxSteps 100000000 in
theorem awake14_ok (w : World) : Calls Try.prog 29 #[] w fun e w' => e = .returned (.bool true) ∧ Chg (fun _ _ => False) w w' := by
  refine X.begin (rg := []) (N := []) (ss := []) Try.func29 rfl B29_ok rfl rfl Sat.std0 ?_
  refine X.goC FALL_ok true T29_ok 4000 _ rfl Try.results29 ?_
  conv => arg 2; cbv
  refine X.goP ([(12, .raw (.string (strOfNums [2, 3]))), (13, .bool (.v true))]) T29_ok 400 _ rfl Try.results29 (fun pr fin hpr hfin => ?_)
  conv => cbv
  refine ⟨hpr _ (ValOk.eqs rfl rfl (by rw [show (ByteArray.mk #[2, 3]) = strOfNums [2, 3] from rfl]; exact beq_self_eq_true _)), hpr _ (ValOk.strOsl (l := [2, 3]) rfl Try.underlying30 Try.underlying5 Try.underlying9 rfl rfl (fun j hj => by match j, hj with | 0, _ | 1, _ => rfl)), hfin _ _ ?_⟩
  refine X.done T29_ok rfl (fun N w' v hN hS hv => ⟨fin_bool hv ?_, hS.chg.mono fun k o _ h => inR_nil h⟩)
  rfl

set_option maxHeartbeats 8000000 in
set_option maxRecDepth 100000 in
set_option cbv.maxSteps 100000000 in
theorem recordSame_ok (l m : List RecP) (p p2 : Option Addr) (c c2 : Nat) (w : World) (hs : SlR (wm w) p c 21 (l.map RecP.toD)) (hs2 : SlR (wm w) p2 c2 21 (m.map RecP.toD)) (hu : ∀ r ∈ l, U8 r.conf.old ∧ U8 r.conf.new ∧ 0 ≤ r.key) (hu2 : ∀ r ∈ m, U8 r.conf.old ∧ U8 r.conf.new ∧ 0 ≤ r.key) :
    Calls Try.prog 7 #[.slice p l.length c, .slice p2 m.length c2] w fun e w' => e = .returned (.bool true) ∧ Chg (fun _ _ => False) w w' := by
  have e1 := fun (w1 : World) hi1 => great14_ok l p c w1 (hs.later (im := elsewhere [] [] w) rfl hi1)
  have e2 := fun (w1 : World) hi1 => great14_ok m p2 c2 w1 (hs2.later (im := elsewhere [] [] w) rfl hi1)
  obtain ⟨sx, hx, cx⟩ := folds_ok l p c w hs hu
  obtain ⟨sy, hy, cy⟩ := folds_ok m p2 c2 w hs2 hu2
  obtain ⟨x, hxx⟩ : ∃ x, x = foldsP l l.length := ⟨_, rfl⟩
  obtain ⟨y, hyy⟩ : ∃ x, x = foldsP m m.length := ⟨_, rfl⟩
  have conf_of : ∀ (l : List RecP) (n : Nat), (∀ r ∈ l, U8 r.conf.old ∧ U8 r.conf.new ∧ 0 ≤ r.key) → U8 (foldsP l n).conf.old ∧ U8 (foldsP l n).conf.new := fun l n hu => by
    induction n with
    | zero => exact ⟨fun _ h => by simp [foldsP, StP.zero, ConfP.zero] at h, fun _ h => by simp [foldsP, StP.zero, ConfP.zero] at h⟩
    | succ n ih =>
      unfold foldsP
      cases hr : l[n]? with
      | none => exact ih
      | some r =>
        have h := hu r (List.mem_of_getElem? hr)
        simp only
        have hcf : (foldP (foldsP l n) r).conf = (foldsP l n).conf ∨ (foldP (foldsP l n) r).conf = r.conf := by
          unfold foldP
          repeat (first | exact .inl rfl | exact .inr rfl | split)
        rcases hcf with e | e
        · rw [e]; exact ih
        · rw [e]; exact ⟨h.1, h.2.1⟩
  have ux := conf_of l l.length hu
  have uy := conf_of m m.length hu2
  rw [← hxx] at hx ux
  rw [← hyy] at hy uy
  have rx : ∀ w1, (∀ k o v, elsewhere [] [] w k o = some v → w1.cell? ⟨k, o, none⟩ = some v) → StRep (wm w1) sx x := fun w1 h1 => ⟨fun i hi => (hx.1 i hi).mono (fun k o v hv => h1 k o v (his hv)), hx.2.1, hx.2.2.1, hx.2.2.2.mono (fun k o v hv => h1 k o v (his hv))⟩
  have ry : ∀ w1, (∀ k o v, elsewhere [] [] w k o = some v → w1.cell? ⟨k, o, none⟩ = some v) → StRep (wm w1) sy y := fun w1 h1 => ⟨fun i hi => (hy.1 i hi).mono (fun k o v hv => h1 k o v (his hv)), hy.2.1, hy.2.2.1, hy.2.2.2.mono (fun k o v hv => h1 k o v (his hv))⟩
  obtain ⟨g1, hg1⟩ : ∃ g, g = B (great l) := ⟨_, rfl⟩
  obtain ⟨g2, hg2⟩ : ∃ g, g = B (great m) := ⟨_, rfl⟩
  obtain ⟨h, hh⟩ : ∃ h, h = B (x.same y) := ⟨_, rfl⟩
  obtain ⟨n1, hn1⟩ : ∃ n, n = l.length := ⟨_, rfl⟩
  obtain ⟨n2, hn2⟩ : ∃ n, n = m.length := ⟨_, rfl⟩
  have f1 := fun (w1 : World) hi1 => recSame_ok sx sy x y w1 (rx w1 hi1) (ry w1 hi1)
  have f2 := fun (w1 : World) hi1 => same14_ok sx sy x y w1 (rx w1 hi1) (ry w1 hi1) ux.1 ux.2 uy.1 uy.2
  have f3 := fun (w1 : World) hi1 => recSame_ok sx sx x x w1 (rx w1 hi1) (rx w1 hi1)
  have d1 := fun (w1 : World) (hi1 : ∀ k o v, elsewhere [] [] w k o = some v → w1.cell? ⟨k, o, none⟩ = some v) => cx w1 (fun k o v hv => hi1 k o v (his hv))
  have d2 := fun (w1 : World) (hi1 : ∀ k o v, elsewhere [] [] w k o = some v → w1.cell? ⟨k, o, none⟩ = some v) => cy w1 (fun k o v hv => hi1 k o v (his hv))
  have hrefl : x.same x := ⟨fun _ _ => rfl, rfl, rfl, rfl⟩
  rw [B_pos hrefl] at f3
  rw [← hh] at f1 f2
  rw [← hg1, ← hn1] at e1
  rw [← hg2, ← hn2] at e2
  rw [← hn1] at d1
  rw [← hn2] at d2
  rw [← hn1, ← hn2]
  clear hx hy cx cy hxx hyy rx ry ux uy conf_of hrefl
  refine X.begin (rg := []) (N := []) (ss := [.slv p n1 c, .slv p2 n2 c2]) Try.func7 rfl B7_ok rfl rfl Sat.std0 ?_
  obtain ⟨im, hime⟩ : ∃ im, im = elsewhere [] [] w := ⟨_, rfl⟩
  show X (mkE Try.prog Try.f7 _ w (InR [] []) (elsewhere [] [] w) (fun _ _ => False) (fun _ => True) [] B7) _ _
  rw [← hime] at e1 e2 d1 d2 f1 f2 f3 ⊢
  refine X.goP ([(8, .bool (.v g1)), (11, .bool (.v g2))]) T7_ok 400 _ rfl Try.results7 (fun pr fin hpr hfin => ?_)
  conv => cbv
  refine ⟨hpr _ (.of Try.call28 [.slice _ _ _] (.bool g2) (fun _ => rfl) (fun _ => rfl) fun _ w1 hi1 => e2 w1 hi1), hpr _ (.of Try.call28 [.slice _ _ _] (.bool g1) (fun _ => rfl) (fun _ => rfl) fun _ w1 hi1 => e1 w1 hi1), hfin _ _ ?_⟩
  refine X.cond rfl (fun hc => ?_) (fun hc => ?_)
  · refine X.goP ([(13, .bool (.v true))]) T7_ok 400 _ rfl Try.results7 (fun pr fin hpr hfin => ?_)
    conv => cbv
    refine ⟨hpr _ (.of Try.call29 [] (.bool true) (fun _ => rfl) (fun _ => rfl) fun _ w1 _ => awake14_ok w1), hfin _ _ ?_⟩
    refine X.done T7_ok rfl (fun N w' v hN hS hv => ⟨fin_bool hv ?_, hS.chg.mono fun k o _ h => inR_nil h⟩)
    rfl
  refine X.goP ([(15, .agg (StateC.svs sx)), (17, .agg (StateC.svs sy)), (20, .bool (.v h)), (23, .bool (.v h)), (28, .bool (.v true)), (31, .bool (.v true))]) T7_ok 400 _ rfl Try.results7 (fun pr fin hpr hfin => ?_)
  conv => cbv
  refine ⟨hpr _ (.of Try.call29 [] (.bool true) (fun _ => rfl) (fun _ => rfl) fun _ w1 _ => awake14_ok w1), hpr _ (.of Try.call31 [.agg _, .agg _] (.bool true) (fun _ => rfl) (fun _ => rfl) fun _ w1 hi1 => f3 w1 hi1),
    hpr _ (.of Try.call32 [.agg _, .agg _] (.bool h) (fun _ => rfl) (fun _ => rfl) fun _ w1 hi1 => f2 w1 hi1), hpr _ (.of Try.call31 [.agg _, .agg _] (.bool h) (fun _ => rfl) (fun _ => rfl) fun _ w1 hi1 => f1 w1 hi1),
    hpr _ (.of Try.call30 [.slice _ _ _] (.agg sy.vals.toArray) (fun _ => rfl) (fun _ => rfl) fun _ w1 hi1 => d2 w1 hi1), hpr _ (.of Try.call30 [.slice _ _ _] (.agg sx.vals.toArray) (fun _ => rfl) (fun _ => rfl) fun _ w1 hi1 => d1 w1 hi1), hfin _ _ ?_⟩
  refine X.done T7_ok rfl (fun N w' v hN hS hv => ⟨fin_bool hv ?_, hS.chg.mono fun k o _ h => inR_nil h⟩)
  refine den_of ?_
  simp [SB.T, SB.den]

end Go.Proofs.Ytkjhpaeminegoaa
