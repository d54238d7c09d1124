/- What is known behind records, by the document. -/
import Derived.Test.YtkjhpaeminegoaaRe16
import Derived.Test.YtkjhpaeminegoaaRe17

namespace Go.Eng
open Go

/-- a region's cells, told in other words of the same values -/
theorem X.recellV {E : Ctx} {k : List It} {s : St} (r : Nat) (g : Rg) (cs' : List SV) (hg : s.rg[r]? = some g) (vs : List Value) (h1 : ∀ N, SV.denL N g.cells = some vs) (h2 : ∀ N, SV.denL N cs' = some vs) (h : X E k ⟨s.fr, s.rg.set r { g with cells := cs' }⟩) : X E k s := by
  have l1 := (SV.denL_get _ (h1 [])).1
  have l2 := (SV.denL_get _ (h2 [])).1
  refine X.recell r g cs' hg (by omega) (fun N _ j c c' hc hc' v hv => ?_) h
  obtain ⟨v1, k1, k2⟩ := (SV.denL_get _ (h1 N)).2 j c hc
  obtain ⟨v2, k3, k4⟩ := (SV.denL_get _ (h2 N)).2 j c' hc'
  rw [k2] at k4
  rw [k1] at hv
  cases k4
  cases hv
  exact k3

end Go.Eng

namespace Go.Proofs.Ytkjhpaeminegoaa
open Go Go.Eng

def StP.zero : StP := ⟨fun _ => ⟨false, BalP.zero, BalP.zero, RegP.zero⟩, 0, 0, ConfP.zero⟩
noncomputable def foldP (x : StP) (r : RecP) : StP :=
  if B r.may = false then x else if r.kind = 1 then ⟨upd x.slots r.key.toNat ⟨true, r.promise, r.acc, r.reg⟩, x.fence, x.life, x.conf⟩ else if r.kind = 2 then ⟨upd x.slots r.key.toNat ⟨false, BalP.zero, BalP.zero, RegP.zero⟩, x.fence, x.life, x.conf⟩
  else if r.kind = 3 then ⟨x.slots, mxZ x.fence r.fence, x.life, x.conf⟩ else if r.kind = 4 then ⟨x.slots, x.fence, r.life, x.conf⟩ else if r.kind = 5 then ⟨x.slots, x.fence, x.life, r.conf⟩ else x
noncomputable def foldsP (l : List RecP) : Nat → StP
  | 0 => StP.zero
  | n + 1 => match l[n]? with | some r => foldP (foldsP l n) r | none => foldsP l n
noncomputable def foldsC (l : List RecP) (R : Nat → RecC) : Nat → StateC
  | 0 => StateC.zero
  | n + 1 => match l[n]? with | some r => foldC (B r.may) (foldsC l R n) (R n) | none => foldsC l R n

theorem slot_zero (M : Mem) : RepL M (SlotP.toD ⟨false, BalP.zero, BalP.zero, RegP.zero⟩) SlotC.zero.vals := by
  refine ⟨_, _, rfl, rfl, ?_⟩
  exact (bal_zero M).append ((bal_zero M).append (reg_zero M))

theorem st_zero (M : Mem) : StRep M StateC.zero StP.zero := ⟨fun _ _ => slot_zero M, rfl, rfl, conf_zero M⟩

theorem rec_parts {M : Mem} {p : RecP} {r : RecC} (h : RepL M p.toD r.vals) : r.kind = p.kind ∧ r.key = p.key ∧ r.fence = p.fence ∧ r.life = p.life ∧ RepL M (SlotP.toD ⟨true, p.promise, p.acc, p.reg⟩) r.sl.put.vals ∧ RepL M p.conf.toD r.cf.vals := by
  unfold RecP.toD at h
  obtain ⟨_, _, e1, h0, h⟩ := RepL.cons h
  obtain ⟨_, _, e2, h1, h⟩ := RepL.cons h
  rw [show p.promise.toD ++ (p.acc.toD ++ (p.reg.toD ++ .int .u64 p.fence :: .int .u32 p.life :: p.conf.toD)) = (p.promise.toD ++ (p.acc.toD ++ p.reg.toD)) ++ (.int .u64 p.fence :: .int .u32 p.life :: p.conf.toD) by simp] at h
  obtain ⟨us, ws, e3, h2, h3⟩ := h.split
  obtain ⟨_, _, e4, h4, h3a⟩ := RepL.cons h3
  obtain ⟨_, _, e5, h5, h3b⟩ := RepL.cons h3a
  have hl := h2.len
  rw [RepC.int' h0] at e1
  rw [RepC.int' h1] at e2
  rw [RepC.int' h4] at e4
  rw [RepC.int' h5] at e5
  subst e4
  subst e5
  subst e3
  subst e2
  simp only [RecC.vals, List.cons.injEq] at e1
  obtain ⟨k1, k2, k3⟩ := e1
  have hl2 : us.length = r.sl.vals.tail.length := by rw [hl]; rfl
  obtain ⟨k4, k5⟩ := List.append_inj k3.symm hl2
  simp only [List.cons.injEq] at k5
  obtain ⟨k5, k6, k7⟩ := k5
  refine ⟨(Value.int.inj k1).2, (Value.int.inj k2).2, (Value.int.inj k5).2.symm, (Value.int.inj k6).2.symm, ?_, by rw [← k7]; exact h3b⟩
  refine ⟨_, _, rfl, rfl, ?_⟩
  rw [k4] at h2
  exact h2

theorem fold_rep {M : Mem} {s : StateC} {x : StP} {r : RecC} {p : RecP} (hs : StRep M s x) (hr : RepL M p.toD r.vals) : StRep M (foldC (B p.may) s r) (foldP x p) := by
  obtain ⟨k1, k2, k3, k4, k5, k6⟩ := rec_parts hr
  obtain ⟨a1, a2, a3, a4⟩ := hs
  have hu : ∀ {c : SlotC} {y : SlotP}, RepL M y.toD c.vals → ∀ i, i < 16 → RepL M (upd x.slots p.key.toNat y i).toD (upd s.slots r.key.toNat c i).vals := fun hc i hi => by
    unfold upd
    rw [k2]
    cases hb : Nat.beq i p.key.toNat with
    | true => exact hc
    | false => exact a1 i hi
  unfold foldC foldP
  rw [k1]
  split
  · exact ⟨a1, a2, a3, a4⟩
  split
  · exact ⟨hu k5, a2, a3, a4⟩
  split
  · exact ⟨hu (slot_zero M), a2, a3, a4⟩
  split
  · exact ⟨a1, by show mxZ s.fence r.fence = mxZ x.fence p.fence; rw [a2, k3], a3, a4⟩
  split
  · exact ⟨a1, a2, k4, a4⟩
  split
  · exact ⟨a1, a2, a3, k6⟩
  · exact ⟨a1, a2, a3, a4⟩

set_option maxHeartbeats 8000000 in
set_option maxRecDepth 100000 in
set_option cbv.maxSteps 100000000 in
theorem folds_run (l : List RecP) (R : Nat → RecC) (p : Option Addr) (c : Nat) (w : World) (hl : l.length ≤ maxLen) (hu : ∀ r ∈ l, U8 r.conf.old ∧ U8 r.conf.new ∧ 0 ≤ r.key) (hk : ∀ i x, l[i]? = some x → (R i).key = x.key)
    (hR : ∀ i x, l[i]? = some x → ∃ b y, p = some ⟨b, y, none⟩ ∧ RepL (wm w) x.toD (R i).vals ∧ ∀ (j : Nat) (v : Value), (R i).vals[j]? = some v → wm w b (y + i * 21 + j) = some v) :
    Calls Try.prog 30 #[.slice p l.length c] w fun e w' => e = .returned (.agg (foldsC l R l.length).vals.toArray) ∧ Chg (fun _ _ => False) w w' := by
  obtain ⟨n, hn⟩ : ∃ n, n = l.length := ⟨_, rfl⟩
  have hm := maxLen_le
  have hs1 : ∀ i x, l[i]? = some x → foldsC l R (i + 1) = foldC (B x.may) (foldsC l R i) (R i) := fun i x hx => by
    show (match l[i]? with | some r => _ | none => _) = _
    rw [hx]
  have hs0 : foldsC l R 0 = StateC.zero := rfl
  obtain ⟨sC, hsC⟩ : ∃ f, f = foldsC l R := ⟨_, rfl⟩
  rw [← hsC] at hs1 hs0 ⊢
  rw [← hn] at hl ⊢
  clear hsC
  refine X.begin (rg := []) (N := []) (ss := [.slv p n c]) Try.func30 rfl B30_ok rfl rfl Sat.std0 ?_
  obtain ⟨im, hime⟩ : ∃ im, im = elsewhere [] [] w := ⟨_, rfl⟩
  show X (mkE Try.prog Try.f30 _ w (InR [] []) (elsewhere [] [] w) (fun _ _ => False) (fun _ => True) [] B30) _ _
  rw [← hime]
  refine X.go T30_ok 400 _ rfl Try.results30 ?_
  conv => arg 2; cbv
  refine X.recellV 1 ⟨true, ti70.zero, none⟩ (StateC.svs (sC 0)) rfl StateC.zero.vals (fun _ => rfl) (fun _ => by rw [hs0]; rfl) ?_
  refine X.loop1 (fun i : {i : Nat // i ≤ n} => ⟨[(0, .val (.slv p n c)), (2, .val (.own 0 0)), (3, .val (.own 1 0)), (7, .val (.int .i64 (.nat n))), (8, .val (.int .i64 (.nat i.1)))], [⟨true, ti70.zero, none⟩, ⟨true, StateC.svs (sC i.1), none⟩]⟩) (fun i => n - i.1) (fun N a w' hN hf hS => ⟨⟨0, Nat.zero_le _⟩, ?_⟩) (fun i q' hq' => ?_)
  · exact At.again hf hS (by repeat first | exact trivial | refine ⟨⟨_, rfl, .inl ⟨rfl, rfl⟩⟩, ?_⟩ | refine ⟨⟨_, rfl, .inr ⟨_, rfl, rfl⟩⟩, ?_⟩ | refine ⟨⟨_, rfl, .inr ⟨_, rfl, by simp (disch := omega) [SV.den, SI.den, wrapU]⟩⟩, ?_⟩) (by repeat first | exact trivial | refine ⟨fun h => h, SubC.refl rfl, rfl, ?_⟩)
  obtain ⟨i, hi⟩ := i
  refine X.go T30_ok 400 _ rfl Try.results30 ?_
  conv => arg 2; cbv
  refine X.cond rfl (fun hlt => ?_) (fun hge => ?_)
  · simp only [SB.T, SI.den] at hlt
    have hlt : i < n := by omega
    obtain ⟨x1, hx1⟩ : ∃ x, l[i]? = some x := ⟨_, List.getElem?_eq_getElem (by omega)⟩
    obtain ⟨b1, y1, hp1, hr1, hm1⟩ := hR i x1 hx1
    have hm1 : ∀ (j : Nat) (v : Value), (R i).vals[j]? = some v → im b1 (y1 + i * 21 + j) = some v := fun j v hj => by rw [hime]; exact his (hm1 j v hj)
    obtain ⟨u1, u2, u3⟩ := hu x1 (List.mem_of_getElem? hx1)
    obtain ⟨s', hs'⟩ : ∃ s, s = sC (i + 1) := ⟨_, rfl⟩
    have hc := fun (w1 : World) hi1 => fold_ok (sC i) (R i) x1 w1 (hr1.later hime hi1) (by rw [hk i x1 hx1]; exact u3) u1 u2
    rw [← hs1 i x1 hx1, ← hs'] at hc
    refine X.see b1 (y1 + i * 21) (RecC.svs (R i)) (see_of hm1 rfl) (Nat.zero_lt_succ _) (fun N1 hN1 hNl1 => ?_)
    have hg1 : (N1 ++ [(⟨b1, y1 + i * 21, 0⟩ : Num)])[2]? = some ⟨b1, y1 + i * 21, 0⟩ := num_last hNl1
    refine X.goP ([(14, .own 2 0), (16, .agg (StateC.svs s'))]) T30_ok 400 _ rfl Try.results30 (fun pr fin hpr hfin => ?_)
    conv => cbv
    refine ⟨hpr _ (.of Try.call34 [.agg _, .agg _] (.agg s'.vals.toArray) (fun _ => rfl) (fun _ => rfl) fun _ w1 hi1 => hc w1 hi1), hpr _ (ValOk.row rfl rfl (fun _ => rfl) Try.underlying53 Try.sizeOf75 hlt hp1 hg1 rfl rfl), hfin _ _ ?_⟩
    refine X.back (fun N a w' hN hf hS => hq' ⟨i + 1, by omega⟩ a w' (by simp only; omega) ?_)
    subst hs'
    exact At.again hf hS (by repeat first | exact trivial | refine ⟨⟨_, rfl, .inl ⟨rfl, rfl⟩⟩, ?_⟩ | refine ⟨⟨_, rfl, .inr ⟨_, rfl, rfl⟩⟩, ?_⟩ | refine ⟨⟨_, rfl, .inr ⟨_, rfl, by simp (disch := omega) [SV.den, SI.den, wrapU]⟩⟩, ?_⟩) (by repeat first | exact trivial | refine ⟨fun h => h, SubC.refl rfl, rfl, ?_⟩)
  simp only [SB.F, SI.den] at hge
  obtain rfl : i = n := by omega
  refine X.go T30_ok 400 _ rfl Try.results30 ?_
  conv => arg 2; cbv
  refine X.done T30_ok rfl (fun N w' v hN hS hv => ⟨?_, hS.chg.mono fun k o _ h => inR_nil h⟩)
  exact fin_agg hv rfl

theorem folds_ok (l : List RecP) (p : Option Addr) (c : Nat) (w : World) (hs : SlR (wm w) p c 21 (l.map RecP.toD)) (hu : ∀ r ∈ l, U8 r.conf.old ∧ U8 r.conf.new ∧ 0 ≤ r.key) :
    ∃ s, StRep (wm w) s (foldsP l l.length) ∧ ∀ w1, (∀ k o v, wm w k o = some v → wm w1 k o = some v) → Calls Try.prog 30 #[.slice p l.length c] w1 fun e w' => e = .returned (.agg s.vals.toArray) ∧ Chg (fun _ _ => False) w1 w' := by
  have h : ∀ i, ∃ r : RecC, ∀ x, l[i]? = some x → r.key = x.key ∧ ∃ b y, p = some ⟨b, y, none⟩ ∧ RepL (wm w) x.toD r.vals ∧ ∀ (j : Nat) (v : Value), r.vals[j]? = some v → wm w b (y + i * 21 + j) = some v := fun i => by
    cases hx : l[i]? with
    | none => exact ⟨⟨0, 0, SlotC.zero, 0, 0, ConfC.zero⟩, fun x h => by cases h⟩
    | some x =>
      obtain ⟨b, y, vs, hp, hr, hm⟩ := hs.elem hx
      obtain ⟨r, rfl, _, _, _, hk⟩ := RecP.cells hr
      exact ⟨r, fun x' h => by cases h; exact ⟨hk, b, y, hp, hr, hm⟩⟩
  obtain ⟨R, hR⟩ := Classical.axiomOfChoice h
  refine ⟨foldsC l R l.length, ?_, fun w1 h1 => folds_run l R p c w1 hs.len hu (fun i x hx => (hR i x hx).1) fun i x hx => ?_⟩
  · have key : ∀ n, StRep (wm w) (foldsC l R n) (foldsP l n) := fun n => by
      induction n with
      | zero => exact st_zero _
      | succ n ih =>
        unfold foldsC foldsP
        cases hx : l[n]? with
        | none => exact ih
        | some x =>
          obtain ⟨_, _, _, _, hr, _⟩ := hR n x hx
          exact fold_rep ih hr
    exact key _
  · obtain ⟨_, b, y, hp, hr, hm⟩ := hR i x hx
    exact ⟨b, y, hp, hr.mono h1, fun j v hj => h1 _ _ _ (hm j v hj)⟩

end Go.Proofs.Ytkjhpaeminegoaa
