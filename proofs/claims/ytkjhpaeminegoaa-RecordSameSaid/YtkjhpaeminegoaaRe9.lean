/- Strings of bytes, told ahead; configurations held against each other, by the document. -/
import Derived.Test.YtkjhpaeminegoaaRe8
import Derived.Laws.BytesArg
import Derived.Lib.Bytes

namespace Go.Proofs.Ytkjhpaeminegoaa
open Go Go.Eng Go.Lib

def U8 (l : List Int) : Prop := ∀ x ∈ l, 0 ≤ x ∧ x ≤ 255

theorem strs_eq {l m : List Int} (hl : U8 l) (hm : U8 m) : ((strOfNums l).toList == (strOfNums m).toList) = B (l = m) := by
  rw [strOfNums_toList, strOfNums_toList]
  by_cases h : l = m
  · subst h
    rw [B_pos rfl]; simp
  · rw [B_neg h]
    refine beq_eq_false_iff_ne.2 fun e => h ?_
    have key : ∀ (l m : List Int), U8 l → U8 m → bytesOf l = bytesOf m → l = m := by
      intro l
      induction l with
      | nil => intro m _ _ e; cases m with
        | nil => rfl
        | cons y m => simp [bytesOf] at e
      | cons x l ih => intro m hl hm e; cases m with
        | nil => simp [bytesOf] at e
        | cons y m =>
          simp only [bytesOf, List.map_cons, List.cons.injEq] at e
          have h1 := hl x List.mem_cons_self
          have h2 := hm y List.mem_cons_self
          have := congrArg UInt8.toNat e.1
          simp only [UInt8.toNat_ofNat'] at this
          rw [ih m (fun z hz => hl z (List.mem_cons_of_mem _ hz)) (fun z hz => hm z (List.mem_cons_of_mem _ hz)) e.2, show x = y by omega]
    exact key l m hl hm e

theorem _root_.Go.Eng.ValOk.str {E : Env} {N0 : Nums} {rg : List Rg} {f : Fr} {g : GK} {src e dst : TypeId} {x : Operand} {p : Option Addr} {n c : Nat} {l : List Int} {w : World} (hx : evK f g x = some (.slv p n c)) (hn : n = l.length) (hs : E.P.underlying src = some (.slice e)) (he : E.P.underlying e = some (.int .u8)) (hd : E.P.underlying dst = some .string)
    (hl : SlR (wm w) p c 1 (l.map u8D)) (hime : E.im = elsewhere [] [] w) : ValOk E N0 rg f g (.convert src dst x) (.raw (.string (strOfNums l))) := by
  intro ht N ρ o w0 hN0 hop hρ hV
  have h1 := hρ _ _ hx
  simp only [SV.den, Option.some.injEq] at h1
  refine ⟨.string (strOfNums l), by simp [SV.den, one?], fun w' hV' => ?_⟩
  have hs' : SlR (wm w') p c 1 (l.map u8D) := hl.later hime hV'.2
  have : (convert src dst (.slice p n c)).run E.P w' = .ok (.string (strOfNums l)) w' := by
    subst hn
    cases l with
    | nil =>
      cases p with
      | none => exact run_convert_bytes_nil w' src e hs he _ _ dst hd
      | some a =>
        rw [run_convert_bytes_string w' src dst e _ _ _ hs he hd]
        exact run_bytesToString w' a 0 c [] (by simp [loadCells, loadCellsFrom, Sem.run_pure])
    | cons y l =>
      obtain ⟨b, z, _, rfl, _⟩ := hs'.elem (i := 0) (x := y) rfl
      refine run_convert_bytes_arg w' src e hs he b z _ c (y :: l) rfl (fun j hj => ?_) dst hd
      obtain ⟨v, hv⟩ : ∃ v, (y :: l)[j]? = some v := ⟨_, List.getElem?_eq_getElem hj⟩
      obtain ⟨b', z', us, hp, hr, hc⟩ := hs'.elem hv
      obtain ⟨rfl, rfl⟩ : b = b' ∧ z = z' := by cases hp; exact ⟨rfl, rfl⟩
      rw [u8D.open hr] at hc
      have := hc 0 _ rfl
      rw [Nat.mul_one, Nat.add_zero] at this
      rw [show w'.cell? ⟨b, z + j, none⟩ = some (.int .u8 v) from this, List.getD_eq_getElem?_getD, hv]
      rfl
  simp only [execOp, hop, ← h1, this, Sem.run_bind, Result.andThen, Sem.run_pure]

theorem _root_.Go.Eng.ValOk.eqs {E : Env} {N0 : Nums} {rg : List Rg} {f : Fr} {g : GK} {t : TypeId} {x y : Operand} {u v : ByteArray} {b : Bool} (hx : evK f g x = some (.raw (.string u))) (hy : evK f g y = some (.raw (.string v))) (hb : (u.toList == v.toList) = b) :
    ValOk E N0 rg f g (.binOp .eql t x y t) (.bool (.v b)) := by
  intro ht N ρ o w0 hN0 hop hρ hV
  have h1 := hρ _ _ hx
  have h2 := hρ _ _ hy
  simp only [SV.den, one?, if_true, Option.some.injEq] at h1 h2
  refine ⟨_, rfl, fun w' _ => ?_⟩
  have hb' : ∀ w', (binOp .eql t (.string u) (.string v)).run E.P w' = .ok (.bool (u.toList == v.toList)) w' := fun w' => by
    simp [binOp, Op.stringOp]
  simp [execOp, hop, ← h1, ← h2, Result.andThen, eqGuard_none, hb', SB.den, hb]

set_option maxHeartbeats 4000000 in
set_option maxRecDepth 100000 in
set_option cbv.maxSteps 100000000 in
theorem confSameR_ok (a b : ConfP) (va vb : List Value) (w : World) (ha : RepL (wm w) a.toD va) (hb : RepL (wm w) b.toD vb) (u1 : U8 a.old) (u2 : U8 a.new) (u3 : U8 b.old) (u4 : U8 b.new) :
    Calls Try.prog 56 #[.agg va.toArray, .agg vb.toArray] w fun e w' => e = .returned (.bool (B (a = b))) ∧ Chg (fun _ _ => False) w w' := by
  obtain ⟨p1, c1, p2, c2, rfl, sa1, sa2⟩ := ConfP.open ha
  obtain ⟨r1, d1, r2, d2, rfl, sb1, sb2⟩ := ConfP.open hb
  clear ha hb
  obtain ⟨k1, o1, m1⟩ := a
  obtain ⟨k2, o2, m2⟩ := b
  simp only at sa1 sa2 sb1 sb2 u1 u2 u3 u4 ⊢
  obtain ⟨q, hq⟩ : ∃ q : Bool, q = B ((⟨k1, o1, m1⟩ : ConfP) = ⟨k2, o2, m2⟩) := ⟨_, rfl⟩
  rw [← hq]
  obtain ⟨n1, hn1⟩ : ∃ n, n = o1.length := ⟨_, rfl⟩
  obtain ⟨n2, hn2⟩ : ∃ n, n = m1.length := ⟨_, rfl⟩
  obtain ⟨t1, ht1⟩ : ∃ n, n = o2.length := ⟨_, rfl⟩
  obtain ⟨t2, ht2⟩ : ∃ n, n = m2.length := ⟨_, rfl⟩
  obtain ⟨h1, hh1⟩ : ∃ h, h = B (o1 = o2) := ⟨_, rfl⟩
  obtain ⟨h2, hh2⟩ : ∃ h, h = B (m1 = m2) := ⟨_, rfl⟩
  rw [← hn1, ← hn2, ← ht1, ← ht2]
  refine X.begin (rg := []) (N := []) (ss := [.agg [.int .u64 (.v k1), .slv p1 n1 c1, .slv p2 n2 c2], .agg [.int .u64 (.v k2), .slv r1 t1 d1, .slv r2 t2 d2]]) Try.func56 rfl B56_ok rfl rfl Sat.std0 ?_
  obtain ⟨im, hime⟩ : ∃ im, im = elsewhere [] [] w := ⟨_, rfl⟩
  show X (mkE Try.prog Try.f56 _ w (InR [] []) (elsewhere [] [] w) (fun _ _ => False) (fun _ => True) [] B56) _ _
  rw [← hime]
  obtain ⟨z1, hz1⟩ : ∃ z, z = strOfNums o1 := ⟨_, rfl⟩
  obtain ⟨z2, hz2⟩ : ∃ z, z = strOfNums o2 := ⟨_, rfl⟩
  obtain ⟨z3, hz3⟩ : ∃ z, z = strOfNums m1 := ⟨_, rfl⟩
  obtain ⟨z4, hz4⟩ : ∃ z, z = strOfNums m2 := ⟨_, rfl⟩
  refine X.goP ([(13, .raw (.string z1)), (16, .raw (.string z2)), (17, .bool (.v h1)), (22, .raw (.string z3)), (25, .raw (.string z4)), (26, .bool (.v h2))]) T56_ok 400 _ rfl Try.results56 (fun pr fin hpr hfin => ?_)
  conv => cbv
  refine ⟨hpr _ (ValOk.eqs rfl rfl (by rw [hz3, hz4, hh2]; exact strs_eq u2 u4)), hpr _ (by rw [hz4]; exact ValOk.str rfl ht2 Try.underlying30 Try.underlying5 Try.underlying9 sb2 hime),
    hpr _ (by rw [hz3]; exact ValOk.str rfl hn2 Try.underlying30 Try.underlying5 Try.underlying9 sa2 hime), hpr _ (ValOk.eqs rfl rfl (by rw [hz1, hz2, hh1]; exact strs_eq u1 u3)),
    hpr _ (by rw [hz2]; exact ValOk.str rfl ht1 Try.underlying30 Try.underlying5 Try.underlying9 sb1 hime), hpr _ (by rw [hz1]; exact ValOk.str rfl hn1 Try.underlying30 Try.underlying5 Try.underlying9 sa1 hime), hfin _ _ ?_⟩
  refine X.done T56_ok rfl (fun N w' v hN hS hv => ⟨fin_bool hv ?_, hS.chg.mono fun k o _ h => inR_nil h⟩)
  refine den_of ?_
  subst hh1 hh2 hq
  simp only [SB.T, SI.den, B_iff, ConfP.mk.injEq, and_assoc]

end Go.Proofs.Ytkjhpaeminegoaa
