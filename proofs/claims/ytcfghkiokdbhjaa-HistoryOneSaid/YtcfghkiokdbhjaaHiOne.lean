/- HistoryOne: the walk. (Printed by genWalk.py.) -/
import Derived.Test.YtcfghkiokdbhjaaHiQ

namespace Go.Proofs.Ytcfghkiokdbhjaa
open Go.Eng

set_option maxHeartbeats 40000000 in
set_option maxRecDepth 100000 in
set_option cbv.maxSteps 100000000 in
theorem one_ok (po : Option Addr) (n cp : Nat) (W : World) (hl : HActsAt po n W) :
    Calls Try.prog 7 #[.slice po n cp] W fun e w' => e = .returned (.bool true) ∧ Chg (fun _ _ => False) W w' := by
  obtain ⟨Q, hQ⟩ : ∃ Q : Ending → World → Prop, Q = fun e w' => e = .returned (.bool true) ∧ Chg (fun _ _ => False) W w' := ⟨_, rfl⟩
  rw [← hQ]
  refine X.begin (rg := []) (N := []) (ss := [.slv po n cp]) Try.func7 rfl B7_ok rfl rfl Sat.std0 ?_
  refine X.go T7_ok 400 _ rfl Try.results7 ?_
  conv => arg 2; cbv
  refine X.call rfl rfl rfl rfl Try.call25 (fun N w1 args hN hS ha => ?_)
  have ha' : [Value.slice po n cp] = args := Option.some.inj (ha ▸ rfl : some _ = some args)
  subst ha'
  have him : ∀ k o v, W.cell? ⟨k, o, none⟩ = some v → w1.cell? ⟨k, o, none⟩ = some v := fun k o v h => hS.imm k o v (by show elsewhere [] [] W k o = _; rw [else0]; exact h)
  refine (hgreat_ok po n cp w1 (hl.at him)).mono fun e w' ⟨⟨r, he, hr60⟩, hc⟩ => ⟨_, he, Goes.same (r := .bool (.v r)) hN hS hc rfl rfl ?_⟩
  have hl50 : r = false → n ≤ 60 ∧ HActs50 po n W := fun h => ⟨(hr60 h).1, acts50 hl him (hr60 h).2⟩
  clear hr60 hc he hS hN ha him
  refine X.go T7_ok 400 _ rfl Try.results7 ?_
  conv => arg 2; cbv
  refine X.cond rfl (fun hr => ?_) (fun hr => ?_)
  · refine X.go T7_ok 400 _ rfl Try.results7 ?_
    conv => arg 2; cbv
    refine X.call rfl rfl rfl rfl Try.call26 (fun N w1 args hN hS ha => ?_)
    have ha' : [] = args := Option.some.inj (ha ▸ rfl : some _ = some args)
    subst ha'
    refine (awake_ok w1).mono fun e w' ⟨he, hc⟩ => ⟨_, he, Goes.same (r := .bool (.lit true)) hN hS hc rfl rfl ?_⟩
    refine X.go T7_ok 400 _ rfl Try.results7 ?_
    conv => arg 2; cbv
    refine X.done T7_ok rfl (fun N w' v hN hS hv => ?_)
    simp [resV, SV.den, SB.den] at hv
    rw [hQ]
    exact ⟨by rw [← hv], hS.chg.none⟩
  obtain ⟨hl60, hl5⟩ := hl50 (by simpa [SB.F, SB.den] using hr)
  clear hr hl50
  refine X.go T7_ok 400 _ rfl Try.results7 ?_
  conv => arg 2; cbv
  refine X.call rfl rfl rfl rfl Try.call27 (fun N w1 args hN hS ha => ?_)
  have ha' : [] = args := Option.some.inj (ha ▸ rfl : some _ = some args)
  subst ha'
  obtain ⟨f0, -⟩ : ∃ f0 : Nat → Ent, True := ⟨fun _ => ⟨0, 0, 0, 0, 0, 0, 0, 0, 0, 0, 0, 0, 0, 0, 0, 0, 0, none, 0, 0⟩, trivial⟩
  refine (hnew_ok f0 w1).mono fun e w' ⟨⟨hb, hy, he, hb1, hA⟩, hc⟩ => ⟨_, he, Goes.turn (Hist.D ⟨hb, hy, true, hb, hy, 0, 0, fun _ => 0, f0⟩) (HistAt ⟨hb, hy, true, hb, hy, 0, 0, fun _ => 0, f0⟩) hN hS (hc.mono fun _ _ _ h => h.elim) (fun _ _ h => False.elim h) (fun _ _ h => False.elim h) (fun g h => by cases h) (fun q z h => ⟨.inr ?_, hA.there q z h⟩) (HistAt.loc ?_) hA (r := .ext hb hy 0) rfl rfl ?_⟩
  · rcases h with ⟨e1, _⟩ | ⟨e1, _⟩
    · simp only at e1; omega
    · simp only at e1; omega
  · exact ⟨fun _ => ⟨rfl, rfl⟩, Nat.le_refl _, fun j hj => by simp only at hj; omega⟩
  have hb2 : W.heap.size ≤ hb := Nat.le_trans hS.chg.size hb1
  have hgo0 : HGo W hb hy 0 ⟨hb, hy, true, hb, hy, 0, 0, fun _ => 0, f0⟩ (elsewhere [] [] W) := by
    refine ⟨rfl, rfl, ⟨fun _ => ⟨rfl, rfl⟩, Nat.le_refl _, fun j hj => by simp only at hj; omega⟩, (fun h => by cases h), Nat.le_refl _, fun k o hk => ?_, fun k o hk => ?_, fun k o v hv => by rw [else0]; exact hv, ⟨fun _ _ => 0, fun i hi => absurd hi (Nat.not_lt_zero _)⟩, HInv.zero f0⟩
    · rcases hk with ⟨e1, _⟩ | ⟨e1, _⟩
      · simp only at e1; omega
      · simp only at e1; omega
    · have hk' : W.heap.size ≤ k := by
        rcases hk with ⟨e1, _⟩ | ⟨e1, _⟩
        · simp only at e1; omega
        · simp only at e1; omega
      rw [else0]
      cases hx : W.cell? ⟨k, o, none⟩ with
      | none => rfl
      | some v => exact absurd (World.block_lt_of_cell? _ _ hx) (by show ¬ k < _; omega)
  clear hc hA he hS hN ha hb1
  show X (mkE Try.prog Try.f7 Q W (InR [] []) (elsewhere [] [] W) (Hist.D ⟨hb, hy, true, hb, hy, 0, 0, fun _ => 0, f0⟩) (HistAt ⟨hb, hy, true, hb, hy, 0, 0, fun _ => 0, f0⟩) [] B7) _ _
  refine X.go T7_ok 400 _ rfl Try.results7 ?_
  conv => arg 2; cbv
  refine X.loop (fun (i : {i : Nat × Hist × Mem // i.1 ≤ n ∧ HGo W hb hy i.1 i.2.1 i.2.2}) => mkE Try.prog Try.f7 Q W (InR [] []) i.1.2.2 (Hist.D i.1.2.1) (HistAt i.1.2.1) [] B7)
    (fun i => ⟨[(0, .val (.slv po n cp)), (3, .val (.ext hb hy 0)), (4, .val (.int .i64 (.nat i.1.1)))], []⟩) (fun i => n - i.1.1) (fun i => ⟨rfl, rfl, rfl, rfl⟩) (fun N a w' hN hf hS => ⟨⟨(0, ⟨hb, hy, true, hb, hy, 0, 0, fun _ => 0, f0⟩, elsewhere [] [] W), Nat.zero_le _, hgo0⟩, ?_⟩) (fun i q hq => ?_)
  · exact At.same hN hf hS (Nat.zero_le _) ⟨⟨_, rfl, .inl ⟨rfl, rfl⟩⟩, ⟨_, rfl, .inl ⟨rfl, rfl⟩⟩, ⟨_, rfl, .inr ⟨_, rfl, rfl⟩⟩, trivial⟩ trivial
  obtain ⟨⟨i, H, m⟩, hi, hgo⟩ := i
  have hi : i ≤ n := hi
  have hgo : HGo W hb hy i H m := hgo
  have hHn : H.n ≤ 900 := by have := hgo.n; omega
  clear hgo0
  show X (mkE Try.prog Try.f7 Q W (InR [] []) m H.D (HistAt H) [] B7) _ _
  refine X.go T7_ok 400 _ rfl Try.results7 ?_
  conv => arg 2; cbv
  refine X.cond rfl (fun hlt => ?_) (fun hge => ?_)
  · simp only [SB.T, SI.den] at hlt
    have hlt : i < n := by omega
    obtain ⟨b, x, z, e, hpo, hz, hc0, hcell, ⟨g, hI⟩, hvn⟩ := hl5 i hlt
    refine X.see b z e.sv (fun j c hj => ?_) (by show 0 < 18; omega) (fun N _ hN => ?_)
    · obtain ⟨v, h1, h2⟩ := (SV.denL_get _ (e.den [])).2 j c hj
      exact ⟨v, h1, hgo.old _ _ _ (hcell j v h2)⟩
    obtain rfl : N = [] := List.length_eq_zero_iff.1 hN
    have hr : ∀ N : Nums, Nums.le [⟨b, z, 0⟩] N → (SV.own 0 0).den N = some (.pointer (some ⟨b, x + i * 18, none⟩)) := fun N hN => by
      have := hN 0 _ rfl
      simp only [SV.den, this, hz, Nat.add_zero]
    show X (mkE Try.prog Try.f7 Q W (InR [] []) m H.D (HistAt H) [⟨b, z, 0⟩] B7) _ _
    refine X.go T7_ok 400 _ rfl Try.results7 ?_
    conv => arg 2; cbv
    refine X.idxBy i (.own 0 0) rfl rfl rfl rfl rfl rfl (good_slv Try.underlying67 Try.sizeOf73 hpo hlt hr) rfl ?_
    refine X.go T7_ok 400 _ rfl Try.results7 ?_
    conv => arg 2; cbv
    refine X.cond rfl (fun _ => ?_) (fun _ => ?_)
    · -- Begin
      refine X.drawnL (fn := Try.f7) T7_ok noCall (idxG 128 [⟨3, 35, 36, 37, 67, i, .slv po n cp, .own 0 0⟩, ⟨8, 40, 41, 42, 67, i, .slv po n cp, .own 0 0⟩, ⟨13, 45, 46, 47, 67, i, .slv po n cp, .own 0 0⟩]) 16 [] 16 rfl (by kernel_rfl) rfl noCall_ok (idxG_ok _ rfl (fun q hq => ?_)) 128 rfl ?_
      · simp only [List.mem_cons, List.mem_nil_iff, or_false] at hq
        rcases hq with rfl | rfl | rfl <;> exact good_slv Try.underlying67 Try.sizeOf73 hpo hlt hr
      generalize hfin : (fun s' => X (mkE Try.prog Try.f7 Q W (InR [] []) m H.D (HistAt H) [⟨b, z, 0⟩] B7) _ s') = fin
      conv => cbv
      repeat (first | refine ⟨rfl, ?_⟩ | refine ⟨⟨_, _, rfl, rfl⟩, ?_⟩ | refine ⟨⟨rfl, _, _, rfl, rfl⟩, ?_⟩)
      subst hfin
      show X _ _ _
      refine X.less [0, 3, 4, 34, 39, 44, 49] ?_
      refine X.drop 0 (by show 0 < 1; omega) ?_
      refine X.call rfl rfl rfl rfl Try.call28 (fun N w1 args hN hS ha => ?_)
      have ha' : [Value.pointer (some ⟨hb, hy, none⟩), .int .u8 e.nd, .agg #[.int .u8 e.k, .int .u8 e.y, .int .u8 e.c, .int .u64 e.s, .int .i64 e.a, .int .i64 e.p, .int .i64 e.r, .int .u8 e.u, .int .u64 e.inn, .int .u64 e.l], .int .i64 e.at'] = args := Option.some.inj (ha ▸ rfl : some _ = some args)
      subst ha'
      have hcall := begin_ok H e.nd e.k e.y e.c e.s e.a e.p e.r e.u e.inn e.l e.at' w1 hgo.ok hgo.pos hS.res hHn hc0
      rw [hgo.hb, hgo.hy] at hcall
      refine hcall.mono fun ed w' ⟨⟨i1, er, o, he⟩, H', ht, hout⟩ => ⟨_, he, ht.goes hN hS rfl hgo.fresh hgo.out (fun g h => .inr (by
        simp only [List.set_cons_zero, List.mem_cons, List.mem_nil_iff, or_false] at h
        rw [h])) (r := .tup [.int .i64 (.v i1), .agg [.int .u8 (.v o.k), .int .u8 (.v o.y), .int .u8 (.v o.c), .int .u64 (.v o.s), .int .i64 (.v o.a), .int .i64 (.v o.p), .int .i64 (.v o.r), .int .u8 (.v o.u), .int .u64 (.v o.i), .int .u64 (.v o.l)], .int .i64 (.v er)]) rfl rfl (fun hg1 hg2 => ?_)⟩
      have hgo' : HGo W hb hy (i + 1) H' (Eng.grow m H'.D w1 w') := by
        rcases hout with h | h
        · exact hgo.same ht hS.chg.size (fun k o v h => grow_old h) hg1 h
        · exact hgo.beg ht hS.chg.size (fun k o v h => grow_old h) hg1 (by omega) h
      generalize hm' : Eng.grow m H'.D w1 w' = m' at hgo'
      clear hg1 hg2 ht hout hcall hS hN ha he
      show X (mkE Try.prog Try.f7 Q W (InR [] []) m' H'.D (HistAt H') [⟨b, z, 0⟩] B7) _ _
      refine X.go T7_ok 400 _ rfl Try.results7 ?_
      conv => arg 2; cbv
      refine X.back (fun N a w' hN hf hS => hq ⟨(i + 1, H', m'), by simp only; omega, hgo'⟩ a w' (by show n - (i + 1) < n - i; omega) ?_)
      exact At.same (nil_le N) hf hS (Nat.zero_le _) ⟨⟨_, rfl, .inl ⟨rfl, rfl⟩⟩, ⟨_, rfl, .inl ⟨rfl, rfl⟩⟩, ⟨_, rfl, .inr ⟨_, rfl, by simp [SV.den, SI.den, hwrap64s i (by omega)]⟩⟩, trivial⟩ trivial
    refine X.go T7_ok 400 _ rfl Try.results7 ?_
    conv => arg 2; cbv
    refine X.cond rfl (fun _ => ?_) (fun _ => ?_)
    · -- Undo
      refine X.go T7_ok 400 _ rfl Try.results7 ?_
      conv => arg 2; cbv
      refine X.idxBy i (.own 0 0) rfl rfl rfl rfl rfl rfl (good_slv Try.underlying67 Try.sizeOf73 hpo hlt hr) rfl ?_
      refine X.go T7_ok 400 _ rfl Try.results7 ?_
      conv => arg 2; cbv
      refine X.less [0, 3, 4, 53, 58] ?_
      refine X.drop 0 (by show 0 < 1; omega) ?_
      refine X.call rfl rfl rfl rfl Try.call30 (fun N w1 args hN hS ha => ?_)
      have ha' : [Value.pointer (some ⟨hb, hy, none⟩), .int .i64 e.i] = args := Option.some.inj (ha ▸ rfl : some _ = some args)
      subst ha'
      have hcall := undo_ok H e.i w1 hgo.ok hgo.pos hS.res hHn (fun j hj => by obtain ⟨c, h1, _, h3⟩ := hgo.inv.cl j hj; exact ⟨c, h1, h3⟩)
      rw [hgo.hb, hgo.hy] at hcall
      refine hcall.mono fun ed w' ⟨he, H', ht, hout⟩ => ⟨_, he, ht.goes hN hS rfl hgo.fresh hgo.out (fun g h => .inr (by
        simp only [List.set_cons_zero, List.mem_cons, List.mem_nil_iff, or_false] at h
        rw [h])) (r := .tup []) rfl rfl (fun hg1 hg2 => ?_)⟩
      have hgo' : HGo W hb hy (i + 1) H' (Eng.grow m H'.D w1 w') := by
        rcases hout with h | h
        · exact hgo.same ht hS.chg.size (fun k o v h => grow_old h) hg1 h
        · exact hgo.und ht hS.chg.size (fun k o v h => grow_old h) hg1 (by omega) h
      generalize hm' : Eng.grow m H'.D w1 w' = m' at hgo'
      clear hg1 hg2 ht hout hcall hS hN ha he
      show X (mkE Try.prog Try.f7 Q W (InR [] []) m' H'.D (HistAt H') [⟨b, z, 0⟩] B7) _ _
      refine X.go T7_ok 400 _ rfl Try.results7 ?_
      conv => arg 2; cbv
      refine X.back (fun N a w' hN hf hS => hq ⟨(i + 1, H', m'), by simp only; omega, hgo'⟩ a w' (by show n - (i + 1) < n - i; omega) ?_)
      exact At.same (nil_le N) hf hS (Nat.zero_le _) ⟨⟨_, rfl, .inl ⟨rfl, rfl⟩⟩, ⟨_, rfl, .inl ⟨rfl, rfl⟩⟩, ⟨_, rfl, .inr ⟨_, rfl, by simp [SV.den, SI.den, hwrap64s i (by omega)]⟩⟩, trivial⟩ trivial
    refine X.go T7_ok 400 _ rfl Try.results7 ?_
    conv => arg 2; cbv
    refine X.cond rfl (fun _ => ?_) (fun _ => ?_)
    · -- End
      refine X.drawnL (fn := Try.f7) T7_ok noCall (idxG 128 [⟨3, 63, 64, 65, 67, i, .slv po n cp, .own 0 0⟩, ⟨8, 68, 69, 70, 67, i, .slv po n cp, .own 0 0⟩, ⟨13, 73, 74, 75, 67, i, .slv po n cp, .own 0 0⟩]) 16 [] 16 rfl (by kernel_rfl) rfl noCall_ok (idxG_ok _ rfl (fun q hq => ?_)) 128 rfl ?_
      · simp only [List.mem_cons, List.mem_nil_iff, or_false] at hq
        rcases hq with rfl | rfl | rfl <;> exact good_slv Try.underlying67 Try.sizeOf73 hpo hlt hr
      generalize hfin : (fun s' => X (mkE Try.prog Try.f7 Q W (InR [] []) m H.D (HistAt H) [⟨b, z, 0⟩] B7) _ s') = fin
      conv => cbv
      repeat (first | refine ⟨rfl, ?_⟩ | refine ⟨⟨_, _, rfl, rfl⟩, ?_⟩ | refine ⟨⟨rfl, _, _, rfl, rfl⟩, ?_⟩)
      subst hfin
      show X _ _ _
      refine X.less [0, 3, 4, 62, 67, 72, 77] ?_
      refine X.drop 0 (by show 0 < 1; omega) ?_
      refine X.call rfl rfl rfl rfl Try.call32 (fun N w1 args hN hS ha => ?_)
      have ha' : [Value.pointer (some ⟨hb, hy, none⟩), .int .i64 e.i, .agg #[.int .i64 e.re, .int .u64 e.ri, .int .i64 e.rs, .slice e.vp e.vn e.vc], .int .i64 e.at'] = args := Option.some.inj (ha ▸ rfl : some _ = some args)
      subst ha'
      have hcall := end_ok H e.i e.re e.ri e.rs e.at' e.vp e.vn e.vc g w1 hgo.ok hgo.pos hS.res hHn (by omega) (hI.at fun k o v h => hS.imm _ _ _ (hgo.old _ _ _ h)) (hgo.far hS.res hI)
      rw [hgo.hb, hgo.hy] at hcall
      refine hcall.mono fun ed w' ⟨⟨r, he⟩, H', ht, hout⟩ => ⟨_, he, ht.goes hN hS rfl hgo.fresh hgo.out (fun g h => .inr (by
        simp only [List.set_cons_zero, List.mem_cons, List.mem_nil_iff, or_false] at h
        rw [h])) (r := .int .i64 (.v r)) rfl rfl (fun hg1 hg2 => ?_)⟩
      have hgo' : HGo W hb hy (i + 1) H' (Eng.grow m H'.D w1 w') := by
        rcases hout with h | ⟨p2, c2, j, h, hI2, hfar2, hd2⟩
        · exact hgo.same ht hS.chg.size (fun k o v h => grow_old h) hg1 h
        · refine hgo.end ht hS.chg.size (fun k o v h => grow_old h) hg1 h (hI2.grown hfar2 (fun k o hk => ?_) hg2) hvn
          obtain ⟨v, hv⟩ := Option.isSome_iff_exists.1 (hS.res.there k o (hd2 k o hk))
          exact World.block_lt_of_cell? _ _ hv
      generalize hm' : Eng.grow m H'.D w1 w' = m' at hgo'
      clear hg1 hg2 ht hout hcall hS hN ha he
      show X (mkE Try.prog Try.f7 Q W (InR [] []) m' H'.D (HistAt H') [⟨b, z, 0⟩] B7) _ _
      refine X.go T7_ok 400 _ rfl Try.results7 ?_
      conv => arg 2; cbv
      refine X.back (fun N a w' hN hf hS => hq ⟨(i + 1, H', m'), by simp only; omega, hgo'⟩ a w' (by show n - (i + 1) < n - i; omega) ?_)
      exact At.same (nil_le N) hf hS (Nat.zero_le _) ⟨⟨_, rfl, .inl ⟨rfl, rfl⟩⟩, ⟨_, rfl, .inl ⟨rfl, rfl⟩⟩, ⟨_, rfl, .inr ⟨_, rfl, by simp [SV.den, SI.den, hwrap64s i (by omega)]⟩⟩, trivial⟩ trivial
    · -- Lost
      refine X.go T7_ok 400 _ rfl Try.results7 ?_
      conv => arg 2; cbv
      refine X.idxBy i (.own 0 0) rfl rfl rfl rfl rfl rfl (good_slv Try.underlying67 Try.sizeOf73 hpo hlt hr) rfl ?_
      refine X.go T7_ok 400 _ rfl Try.results7 ?_
      conv => arg 2; cbv
      refine X.less [0, 3, 4, 25, 30] ?_
      refine X.drop 0 (by show 0 < 1; omega) ?_
      refine X.call rfl rfl rfl rfl Try.call34 (fun N w1 args hN hS ha => ?_)
      have ha' : [Value.pointer (some ⟨hb, hy, none⟩), .int .u8 e.nd] = args := Option.some.inj (ha ▸ rfl : some _ = some args)
      subst ha'
      have hcall := lost_to H e.nd w1 hgo.ok hgo.pos hS.res hHn
      rw [hgo.hb, hgo.hy] at hcall
      refine hcall.mono fun ed w' ⟨⟨r, he⟩, H', ht, hout⟩ => ⟨_, he, ht.goes hN hS rfl hgo.fresh hgo.out (fun g h => .inr (by
        simp only [List.set_cons_zero, List.mem_cons, List.mem_nil_iff, or_false] at h
        rw [h])) (r := .int .i64 (.v r)) rfl rfl (fun hg1 hg2 => ?_)⟩
      have hgo' : HGo W hb hy (i + 1) H' (Eng.grow m H'.D w1 w') := hgo.los ht hS.chg.size (fun k o v h => grow_old h) hg1 hout.1 hout.2.1 hout.2.2
      generalize hm' : Eng.grow m H'.D w1 w' = m' at hgo'
      clear hg1 hg2 ht hout hcall hS hN ha he
      show X (mkE Try.prog Try.f7 Q W (InR [] []) m' H'.D (HistAt H') [⟨b, z, 0⟩] B7) _ _
      refine X.go T7_ok 400 _ rfl Try.results7 ?_
      conv => arg 2; cbv
      refine X.back (fun N a w' hN hf hS => hq ⟨(i + 1, H', m'), by simp only; omega, hgo'⟩ a w' (by show n - (i + 1) < n - i; omega) ?_)
      exact At.same (nil_le N) hf hS (Nat.zero_le _) ⟨⟨_, rfl, .inl ⟨rfl, rfl⟩⟩, ⟨_, rfl, .inl ⟨rfl, rfl⟩⟩, ⟨_, rfl, .inr ⟨_, rfl, by simp [SV.den, SI.den, hwrap64s i (by omega)]⟩⟩, trivial⟩ trivial
  obtain ⟨G, hG⟩ := hgo.vars
  refine X.go T7_ok 400 _ rfl Try.results7 ?_
  conv => arg 2; cbv
  refine X.call rfl rfl rfl rfl Try.call39 (fun N w1 args hN hS ha => ?_)
  have ha' : [Value.pointer (some ⟨hb, hy, none⟩)] = args := Option.some.inj (ha ▸ rfl : some _ = some args)
  subst ha'
  have hcall := entries_ok H.hb H.hy H.po H.n H.cp H.f G w1 (by omega) (hS.res.entsIn hgo.ok) hS.res.hd (fun j hj => ⟨(hG j hj).1.in hS.imm, by have := (hG j hj).2; omega⟩)
  rw [hgo.hb, hgo.hy] at hcall
  obtain ⟨nE, hnE⟩ : ∃ k, k = H.n := ⟨_, rfl⟩
  rw [← hnE] at hcall
  refine hcall.mono fun ed w' ⟨⟨p', c', b, y, f', he, hpb, hA, hlike⟩, hc⟩ => ⟨_, he, Goes.grow H.D (HistAt H) hN hS (hc.mono fun _ _ _ h => h.elim) (fun k o h => .inl (hgo.fresh k o h)) hgo.out (fun g h => .inl (by
    simp only [List.mem_cons, List.mem_nil_iff, or_false] at h
    rcases h with rfl | rfl <;> rfl)) (fun k o h => ⟨.inl h, (hS.res.stays hgo.ok hc).there k o h⟩) (HistAt.loc hgo.ok) (hS.res.stays hgo.ok hc) (r := .slv p' nE c') rfl rfl (fun hg1 hg2 => ?_)⟩
  have hrow : ∀ i, i < nE → ∀ (q : Nat) (v : Value), (f' i).vals[q]? = some v → Eng.grow m H.D w1 w' b (y + (i * 18 + q)) = some v := fun i hi q v hq => by
    have hbw : w1.heap.size ≤ b := (hpb (by omega)).2
    refine grow_new (hg2 b _ hbw) hbw (fun hd => ?_) ((hA i hi).2 q v hq).1
    obtain ⟨u, hu⟩ := Option.isSome_iff_exists.1 (hS.res.there _ _ hd)
    have := World.block_lt_of_cell? _ _ hu
    simp only at this
    omega
  have hp' : ∀ i, i < nE → p' = some ⟨b, y, none⟩ := fun i hi => (hpb (by omega)).1
  have hcore : ∀ i, i < nE → (f' i).c = (H.f i).c ∧ (f' i).s = (H.f i).s ∧ (f' i).st = (H.f i).st := fun i hi => by
    obtain ⟨⟨p, c, e⟩, _⟩ := hlike i hi
    rw [e]; exact ⟨rfl, rfl, rfl⟩
  have hinv : HInv nE f' H.q := (hnE ▸ hgo.inv : HInv nE H.f H.q).of fun i hi => ⟨(hcore i hi).1, (hcore i hi).2.1, fun h => (hcore i hi).2.2 ▸ h⟩
  generalize hm' : Eng.grow m H.D w1 w' = m' at hrow
  clear hg1 hg2 hcall hS hN ha he hA hlike hpb hcore hG hc
  show X (mkE Try.prog Try.f7 Q W (InR [] []) m' H.D (HistAt H) [] B7) _ _
  refine X.go T7_ok 400 _ rfl Try.results7 ?_
  conv => arg 2; cbv
  have hn60 : nE ≤ 60 := by have := hgo.n; omega
  refine X.names fun N2 _ hNl => ?_
  obtain ⟨p0, p1, rfl⟩ : ∃ p0 p1, N2 = [p0, p1] := by
    match N2, hNl with
    | [p0, p1], _ => exact ⟨p0, p1, rfl⟩
  show X (mkE Try.prog Try.f7 Q W (InR [] []) m' H.D (HistAt H) [p0, p1] B7) _ _
  obtain ⟨o, ho⟩ : ∃ o : Nat → Nat → Int, o = fun (i c : Nat) => ((opn f' (c : Int) i : Nat) : Int) := ⟨_, rfl⟩
  obtain ⟨l, hl'⟩ : ∃ l : Nat → Nat → Int, l = fun (i c : Nat) => ((cnt f' (c : Int) i : Nat) : Int) := ⟨_, rfl⟩
  have hoe : ∀ i j : Nat, o i j = ((opn f' (j : Int) i : Nat) : Int) := fun i j => by rw [ho]
  have hle : ∀ i j : Nat, l i j = ((cnt f' (j : Int) i : Nat) : Int) := fun i j => by rw [hl']
  clear ho hl'
  have ho0 : ∀ j, o 0 j = 0 := fun j => by rw [hoe]; rfl
  have hl0 : ∀ j, l 0 j = 0 := fun j => by rw [hle]; rfl
  refine X.loop1 (fun (i : {i : Nat // i ≤ nE}) => ⟨[(5, .val (.own 0 0)), (6, .val (.own 1 0)), (7, .val (.slv p' nE c')), (8, .val (.int .i64 (.nat i.1)))], [⟨true, [.int .i64 (.v (o i.1 0)), .int .i64 (.v (o i.1 1)), .int .i64 (.v (o i.1 2)), .int .i64 (.v (o i.1 3)), .int .i64 (.v (o i.1 4)), .int .i64 (.v (o i.1 5)), .int .i64 (.v (o i.1 6)), .int .i64 (.v (o i.1 7)), .int .i64 (.v (o i.1 8))], none⟩, ⟨true, [.int .u64 (.v (l i.1 0)), .int .u64 (.v (l i.1 1)), .int .u64 (.v (l i.1 2)), .int .u64 (.v (l i.1 3)), .int .u64 (.v (l i.1 4)), .int .u64 (.v (l i.1 5)), .int .u64 (.v (l i.1 6)), .int .u64 (.v (l i.1 7)), .int .u64 (.v (l i.1 8))], none⟩]⟩) (fun i => nE - i.1) (fun N a w' hN hf hS => ⟨⟨0, Nat.zero_le _⟩, ?_⟩) (fun i q hq => ?_)
  · exact At.same hN hf hS (Nat.le_refl _) ⟨⟨_, rfl, .inl ⟨rfl, rfl⟩⟩, ⟨_, rfl, .inl ⟨rfl, rfl⟩⟩, ⟨_, rfl, .inl ⟨rfl, rfl⟩⟩, ⟨_, rfl, .inr ⟨_, rfl, rfl⟩⟩, trivial⟩
      ⟨fun h => h, ⟨.inr ⟨_, rfl, by simp [SV.den, SI.den, ho0]⟩, .inr ⟨_, rfl, by simp [SV.den, SI.den, ho0]⟩, .inr ⟨_, rfl, by simp [SV.den, SI.den, ho0]⟩, .inr ⟨_, rfl, by simp [SV.den, SI.den, ho0]⟩, .inr ⟨_, rfl, by simp [SV.den, SI.den, ho0]⟩, .inr ⟨_, rfl, by simp [SV.den, SI.den, ho0]⟩, .inr ⟨_, rfl, by simp [SV.den, SI.den, ho0]⟩, .inr ⟨_, rfl, by simp [SV.den, SI.den, ho0]⟩, .inr ⟨_, rfl, by simp [SV.den, SI.den, ho0]⟩, trivial⟩, rfl, ⟨fun h => h, ⟨.inr ⟨_, rfl, by simp [SV.den, SI.den, hl0]⟩, .inr ⟨_, rfl, by simp [SV.den, SI.den, hl0]⟩, .inr ⟨_, rfl, by simp [SV.den, SI.den, hl0]⟩, .inr ⟨_, rfl, by simp [SV.den, SI.den, hl0]⟩, .inr ⟨_, rfl, by simp [SV.den, SI.den, hl0]⟩, .inr ⟨_, rfl, by simp [SV.den, SI.den, hl0]⟩, .inr ⟨_, rfl, by simp [SV.den, SI.den, hl0]⟩, .inr ⟨_, rfl, by simp [SV.den, SI.den, hl0]⟩, .inr ⟨_, rfl, by simp [SV.den, SI.den, hl0]⟩, trivial⟩, rfl, trivial⟩⟩
  obtain ⟨i, hi⟩ := i
  show X (mkE Try.prog Try.f7 Q W (InR [] []) m' H.D (HistAt H) [p0, p1] B7) _ _
  refine X.go T7_ok 400 _ rfl Try.results7 ?_
  conv => arg 2; cbv
  refine X.cond rfl (fun hlt => ?_) (fun hge => ?_)
  · simp only [SB.T, SI.den] at hlt
    have hlt : i < nE := by omega
    obtain ⟨c, hcc, hc1, hc9⟩ := hinv.cl i hlt
    have hseq := hinv.seq i hlt
    have ho2 : o i c = 0 ∨ o i c = 1 := by
      have := hinv.opn_le c i (by omega)
      rw [hoe]
      omega
    have ho1 : (f' i).st = 0 → o i c = 0 := fun h => by
      have := hinv.opn_at hlt h
      rw [hcc] at this
      rw [hoe, this]; rfl
    have hoS : ∀ j : Nat, o (i + 1) j = if c = j ∧ (f' i).st = 0 then o i j + 1 else o i j := fun j => by
      rw [hoe, hoe]
      show ((opn f' j i + (if (f' i).c = j ∧ (f' i).st = 0 then 1 else 0) : Nat) : Int) = _
      rw [hcc]
      by_cases e : c = j ∧ (f' i).st = 0
      · rw [if_pos e, if_pos ⟨by omega, e.2⟩]; omega
      · rw [if_neg e, if_neg (fun h => e ⟨by omega, h.2⟩)]; omega
    have hlS : ∀ j : Nat, l (i + 1) j = if c = j then IntKind.u64.wrap (l i j + 1) else l i j := fun j => by
      rw [hle, hle]
      show ((cnt f' j i + (if (f' i).c = j then 1 else 0) : Nat) : Int) = _
      rw [hcc]
      by_cases e : c = j
      · subst e
        rw [if_pos rfl, if_pos rfl]
        have := cnt_le f' c i
        exact (wrapU (cnt f' c i + 1) (by omega)).symm
      · rw [if_neg e, if_neg (by omega)]; omega
    have hs : (f' i).s = IntKind.u64.wrap (l i c + 1) := by
      rw [hseq, hcc, hle]
      have := cnt_le f' c i
      exact (wrapU (cnt f' c i + 1) (by omega)).symm
    obtain ⟨z, hz⟩ : ∃ z, z = y + i * 18 := ⟨_, rfl⟩
    have hri := hrow i hlt
    have hpi := hp' i hlt
    generalize f' i = e at hcc hs ho1 hoS hri
    have hri' : ∀ (q : Nat) (v : Value), e.vals[q]? = some v → m' b (z + q) = some v := fun q v h => by rw [hz, Nat.add_assoc]; exact hri q v h
    have hr : ∀ N : Nums, Nums.le [p0, p1, ⟨b, z, 0⟩] N → (SV.own 2 0).den N = some (.pointer (some ⟨b, y + i * 18, none⟩)) := fun N hN => by
      have := hN 2 _ rfl
      simp only [SV.den, this, hz, Nat.add_zero]
    clear hseq hinv hrow hoe hle ho0 hl0
    have hc8 : c = 1 ∨ c = 2 ∨ c = 3 ∨ c = 4 ∨ c = 5 ∨ c = 6 ∨ c = 7 ∨ c = 8 := by omega
    rcases hc8 with rfl | rfl | rfl | rfl | rfl | rfl | rfl | rfl
    · refine X.see b z [.int .u8 (.v e.nd), .int .u8 (.v e.k), .int .u8 (.v e.y), .int .u8 (.lit 1), .int .u64 (.v e.s), .int .i64 (.v e.a), .int .i64 (.v e.p), .int .i64 (.v e.r), .int .u8 (.v e.u), .int .u64 (.v e.i), .int .u64 (.v e.l), .int .i64 (.v e.at'), .int .i64 (.v e.en), .int .u8 (.v e.st), .int .i64 (.v e.re), .int .u64 (.v e.ri), .int .i64 (.v e.rs), .slv e.vp e.vn e.vc] (fun j d hj => ?_) (by show 0 < 18; omega) (fun N hNN hN => ?_)
      · have hd : SV.denL [] [.int .u8 (.v e.nd), .int .u8 (.v e.k), .int .u8 (.v e.y), .int .u8 (.lit 1), .int .u64 (.v e.s), .int .i64 (.v e.a), .int .i64 (.v e.p), .int .i64 (.v e.r), .int .u8 (.v e.u), .int .u64 (.v e.i), .int .u64 (.v e.l), .int .i64 (.v e.at'), .int .i64 (.v e.en), .int .u8 (.v e.st), .int .i64 (.v e.re), .int .u64 (.v e.ri), .int .i64 (.v e.rs), .slv e.vp e.vn e.vc] = some e.vals := by
          simp [SV.denL, SV.den, SI.den, Ent.vals, hcc]
        obtain ⟨v, h1, h2⟩ := (SV.denL_get _ hd).2 j d hj
        exact ⟨v, h1, hri' j v h2⟩
      obtain rfl : N = [p0, p1] := by
        have h0 := hNN 0 p0 rfl
        have h1 := hNN 1 p1 rfl
        match N, hN with
        | [a0, a1], _ => simp at h0 h1; subst h0; subst h1; rfl
      show X (mkE Try.prog Try.f7 Q W (InR [] []) m' H.D (HistAt H) [p0, p1, ⟨b, z, 0⟩] B7) _ _
      refine X.go T7_ok 400 _ rfl Try.results7 ?_
      conv => arg 2; cbv
      refine X.idxBy i (.own 2 0) rfl rfl rfl rfl rfl rfl (good_slv Try.underlying71 Try.sizeOf93 hpi hlt hr) rfl ?_
      refine X.go T7_ok 400 _ rfl Try.results7 ?_
      conv => arg 2; cbv
      refine X.idxBy i (.own 2 0) rfl rfl rfl rfl rfl rfl (good_slv Try.underlying71 Try.sizeOf93 hpi hlt hr) rfl ?_
      refine X.go T7_ok 400 _ rfl Try.results7 ?_
      conv => arg 2; cbv
      refine X.cond rfl (fun hst => ?_) (fun hst => ?_)
      · have hst : e.st = 0 := hst
        have ho3 := ho1 hst
        refine X.go T7_ok 400 _ rfl Try.results7 ?_
        conv => arg 2; cbv
        refine X.recell1 0 1 (.int .i64 (.lit 1)) rfl rfl (fun N _ v hv => ?_) ?_
        · rw [← hv]
          simp only [SV.den, SI.den, ho3]
          try rfl
        refine X.drawnO T7_ok noCall (idxS 128 _ [⟨7, 116, 117, 118, 71, i, .slv p' nE c', .own 2 0⟩]) rfl noCall_ok (idxS_ok _ (by kernel_rfl) (fun q hq => ?_)) 128 rfl ?_
        · simp only [List.mem_cons, List.mem_nil_iff, or_false] at hq
          rw [hq]
          exact good_slv Try.underlying71 Try.sizeOf93 hpi hlt hr
        generalize hfin : (fun s' => X (mkE Try.prog Try.f7 Q W (InR [] []) m' H.D (HistAt H) [p0, p1, ⟨b, z, 0⟩] B7) _ s') = fin
        conv => cbv
        repeat (first | refine ⟨rfl, ?_⟩ | refine ⟨⟨_, _, rfl, rfl⟩, ?_⟩ | refine ⟨⟨rfl, _, _, rfl, rfl⟩, ?_⟩)
        subst hfin
        show X _ _ _
        refine X.go T7_ok 400 _ rfl Try.results7 ?_
        conv => arg 2; cbv
        refine X.cond rfl (fun h => ?_) (fun _ => ?_)
        · exact absurd hs h
        refine X.go T7_ok 400 _ rfl Try.results7 ?_
        conv => arg 2; cbv
        refine X.back (fun N a w' hN hf hS => hq ⟨i + 1, by omega⟩ a w' (by show nE - (i + 1) < nE - i; omega) ?_)
        exact At.same ((Nums.le_append [p0, p1] [⟨b, z, 0⟩]).trans hN) hf hS (Nat.le_refl _) ⟨⟨_, rfl, .inl ⟨rfl, rfl⟩⟩, ⟨_, rfl, .inl ⟨rfl, rfl⟩⟩, ⟨_, rfl, .inl ⟨rfl, rfl⟩⟩, ⟨_, rfl, .inr ⟨_, rfl, by simp [SV.den, SI.den, hwrap64s i (by omega)]⟩⟩, trivial⟩
          ⟨fun h => h, ⟨.inr ⟨_, rfl, by simp [SV.den, SI.den, hoS, hst]⟩, .inr ⟨_, rfl, by simp [SV.den, SI.den, hoS, hst, ho3]⟩, .inr ⟨_, rfl, by simp [SV.den, SI.den, hoS, hst]⟩, .inr ⟨_, rfl, by simp [SV.den, SI.den, hoS, hst]⟩, .inr ⟨_, rfl, by simp [SV.den, SI.den, hoS, hst]⟩, .inr ⟨_, rfl, by simp [SV.den, SI.den, hoS, hst]⟩, .inr ⟨_, rfl, by simp [SV.den, SI.den, hoS, hst]⟩, .inr ⟨_, rfl, by simp [SV.den, SI.den, hoS, hst]⟩, .inr ⟨_, rfl, by simp [SV.den, SI.den, hoS, hst]⟩, trivial⟩, rfl, ⟨fun h => h, ⟨.inr ⟨_, rfl, by simp [SV.den, SI.den, hlS]⟩, .inr ⟨_, rfl, by simp [SV.den, SI.den, hlS]⟩, .inr ⟨_, rfl, by simp [SV.den, SI.den, hlS]⟩, .inr ⟨_, rfl, by simp [SV.den, SI.den, hlS]⟩, .inr ⟨_, rfl, by simp [SV.den, SI.den, hlS]⟩, .inr ⟨_, rfl, by simp [SV.den, SI.den, hlS]⟩, .inr ⟨_, rfl, by simp [SV.den, SI.den, hlS]⟩, .inr ⟨_, rfl, by simp [SV.den, SI.den, hlS]⟩, .inr ⟨_, rfl, by simp [SV.den, SI.den, hlS]⟩, trivial⟩, rfl, trivial⟩⟩
      · have hst : ¬ e.st = 0 := hst
        rcases ho2 with ho3 | ho3
        · refine X.go T7_ok 400 _ rfl Try.results7 ?_
          conv => arg 2; cbv
          refine X.recell1 0 1 (.int .i64 (.lit 0)) rfl rfl (fun N _ v hv => ?_) ?_
          · rw [← hv]
            simp only [SV.den, SI.den, ho3]
            try rfl
          refine X.drawnO T7_ok noCall (idxS 128 _ [⟨7, 116, 117, 118, 71, i, .slv p' nE c', .own 2 0⟩]) rfl noCall_ok (idxS_ok _ (by kernel_rfl) (fun q hq => ?_)) 128 rfl ?_
          · simp only [List.mem_cons, List.mem_nil_iff, or_false] at hq
            rw [hq]
            exact good_slv Try.underlying71 Try.sizeOf93 hpi hlt hr
          generalize hfin : (fun s' => X (mkE Try.prog Try.f7 Q W (InR [] []) m' H.D (HistAt H) [p0, p1, ⟨b, z, 0⟩] B7) _ s') = fin
          conv => cbv
          repeat (first | refine ⟨rfl, ?_⟩ | refine ⟨⟨_, _, rfl, rfl⟩, ?_⟩ | refine ⟨⟨rfl, _, _, rfl, rfl⟩, ?_⟩)
          subst hfin
          show X _ _ _
          refine X.go T7_ok 400 _ rfl Try.results7 ?_
          conv => arg 2; cbv
          refine X.cond rfl (fun h => ?_) (fun _ => ?_)
          · exact absurd hs h
          refine X.go T7_ok 400 _ rfl Try.results7 ?_
          conv => arg 2; cbv
          refine X.back (fun N a w' hN hf hS => hq ⟨i + 1, by omega⟩ a w' (by show nE - (i + 1) < nE - i; omega) ?_)
          exact At.same ((Nums.le_append [p0, p1] [⟨b, z, 0⟩]).trans hN) hf hS (Nat.le_refl _) ⟨⟨_, rfl, .inl ⟨rfl, rfl⟩⟩, ⟨_, rfl, .inl ⟨rfl, rfl⟩⟩, ⟨_, rfl, .inl ⟨rfl, rfl⟩⟩, ⟨_, rfl, .inr ⟨_, rfl, by simp [SV.den, SI.den, hwrap64s i (by omega)]⟩⟩, trivial⟩
            ⟨fun h => h, ⟨.inr ⟨_, rfl, by simp [SV.den, SI.den, hoS, hst]⟩, .inr ⟨_, rfl, by simp [SV.den, SI.den, hoS, hst, ho3]⟩, .inr ⟨_, rfl, by simp [SV.den, SI.den, hoS, hst]⟩, .inr ⟨_, rfl, by simp [SV.den, SI.den, hoS, hst]⟩, .inr ⟨_, rfl, by simp [SV.den, SI.den, hoS, hst]⟩, .inr ⟨_, rfl, by simp [SV.den, SI.den, hoS, hst]⟩, .inr ⟨_, rfl, by simp [SV.den, SI.den, hoS, hst]⟩, .inr ⟨_, rfl, by simp [SV.den, SI.den, hoS, hst]⟩, .inr ⟨_, rfl, by simp [SV.den, SI.den, hoS, hst]⟩, trivial⟩, rfl, ⟨fun h => h, ⟨.inr ⟨_, rfl, by simp [SV.den, SI.den, hlS]⟩, .inr ⟨_, rfl, by simp [SV.den, SI.den, hlS]⟩, .inr ⟨_, rfl, by simp [SV.den, SI.den, hlS]⟩, .inr ⟨_, rfl, by simp [SV.den, SI.den, hlS]⟩, .inr ⟨_, rfl, by simp [SV.den, SI.den, hlS]⟩, .inr ⟨_, rfl, by simp [SV.den, SI.den, hlS]⟩, .inr ⟨_, rfl, by simp [SV.den, SI.den, hlS]⟩, .inr ⟨_, rfl, by simp [SV.den, SI.den, hlS]⟩, .inr ⟨_, rfl, by simp [SV.den, SI.den, hlS]⟩, trivial⟩, rfl, trivial⟩⟩
        · refine X.go T7_ok 400 _ rfl Try.results7 ?_
          conv => arg 2; cbv
          refine X.recell1 0 1 (.int .i64 (.lit 1)) rfl rfl (fun N _ v hv => ?_) ?_
          · rw [← hv]
            simp only [SV.den, SI.den, ho3]
            try rfl
          refine X.drawnO T7_ok noCall (idxS 128 _ [⟨7, 116, 117, 118, 71, i, .slv p' nE c', .own 2 0⟩]) rfl noCall_ok (idxS_ok _ (by kernel_rfl) (fun q hq => ?_)) 128 rfl ?_
          · simp only [List.mem_cons, List.mem_nil_iff, or_false] at hq
            rw [hq]
            exact good_slv Try.underlying71 Try.sizeOf93 hpi hlt hr
          generalize hfin : (fun s' => X (mkE Try.prog Try.f7 Q W (InR [] []) m' H.D (HistAt H) [p0, p1, ⟨b, z, 0⟩] B7) _ s') = fin
          conv => cbv
          repeat (first | refine ⟨rfl, ?_⟩ | refine ⟨⟨_, _, rfl, rfl⟩, ?_⟩ | refine ⟨⟨rfl, _, _, rfl, rfl⟩, ?_⟩)
          subst hfin
          show X _ _ _
          refine X.go T7_ok 400 _ rfl Try.results7 ?_
          conv => arg 2; cbv
          refine X.cond rfl (fun h => ?_) (fun _ => ?_)
          · exact absurd hs h
          refine X.go T7_ok 400 _ rfl Try.results7 ?_
          conv => arg 2; cbv
          refine X.back (fun N a w' hN hf hS => hq ⟨i + 1, by omega⟩ a w' (by show nE - (i + 1) < nE - i; omega) ?_)
          exact At.same ((Nums.le_append [p0, p1] [⟨b, z, 0⟩]).trans hN) hf hS (Nat.le_refl _) ⟨⟨_, rfl, .inl ⟨rfl, rfl⟩⟩, ⟨_, rfl, .inl ⟨rfl, rfl⟩⟩, ⟨_, rfl, .inl ⟨rfl, rfl⟩⟩, ⟨_, rfl, .inr ⟨_, rfl, by simp [SV.den, SI.den, hwrap64s i (by omega)]⟩⟩, trivial⟩
            ⟨fun h => h, ⟨.inr ⟨_, rfl, by simp [SV.den, SI.den, hoS, hst]⟩, .inr ⟨_, rfl, by simp [SV.den, SI.den, hoS, hst, ho3]⟩, .inr ⟨_, rfl, by simp [SV.den, SI.den, hoS, hst]⟩, .inr ⟨_, rfl, by simp [SV.den, SI.den, hoS, hst]⟩, .inr ⟨_, rfl, by simp [SV.den, SI.den, hoS, hst]⟩, .inr ⟨_, rfl, by simp [SV.den, SI.den, hoS, hst]⟩, .inr ⟨_, rfl, by simp [SV.den, SI.den, hoS, hst]⟩, .inr ⟨_, rfl, by simp [SV.den, SI.den, hoS, hst]⟩, .inr ⟨_, rfl, by simp [SV.den, SI.den, hoS, hst]⟩, trivial⟩, rfl, ⟨fun h => h, ⟨.inr ⟨_, rfl, by simp [SV.den, SI.den, hlS]⟩, .inr ⟨_, rfl, by simp [SV.den, SI.den, hlS]⟩, .inr ⟨_, rfl, by simp [SV.den, SI.den, hlS]⟩, .inr ⟨_, rfl, by simp [SV.den, SI.den, hlS]⟩, .inr ⟨_, rfl, by simp [SV.den, SI.den, hlS]⟩, .inr ⟨_, rfl, by simp [SV.den, SI.den, hlS]⟩, .inr ⟨_, rfl, by simp [SV.den, SI.den, hlS]⟩, .inr ⟨_, rfl, by simp [SV.den, SI.den, hlS]⟩, .inr ⟨_, rfl, by simp [SV.den, SI.den, hlS]⟩, trivial⟩, rfl, trivial⟩⟩
    · refine X.see b z [.int .u8 (.v e.nd), .int .u8 (.v e.k), .int .u8 (.v e.y), .int .u8 (.lit 2), .int .u64 (.v e.s), .int .i64 (.v e.a), .int .i64 (.v e.p), .int .i64 (.v e.r), .int .u8 (.v e.u), .int .u64 (.v e.i), .int .u64 (.v e.l), .int .i64 (.v e.at'), .int .i64 (.v e.en), .int .u8 (.v e.st), .int .i64 (.v e.re), .int .u64 (.v e.ri), .int .i64 (.v e.rs), .slv e.vp e.vn e.vc] (fun j d hj => ?_) (by show 0 < 18; omega) (fun N hNN hN => ?_)
      · have hd : SV.denL [] [.int .u8 (.v e.nd), .int .u8 (.v e.k), .int .u8 (.v e.y), .int .u8 (.lit 2), .int .u64 (.v e.s), .int .i64 (.v e.a), .int .i64 (.v e.p), .int .i64 (.v e.r), .int .u8 (.v e.u), .int .u64 (.v e.i), .int .u64 (.v e.l), .int .i64 (.v e.at'), .int .i64 (.v e.en), .int .u8 (.v e.st), .int .i64 (.v e.re), .int .u64 (.v e.ri), .int .i64 (.v e.rs), .slv e.vp e.vn e.vc] = some e.vals := by
          simp [SV.denL, SV.den, SI.den, Ent.vals, hcc]
        obtain ⟨v, h1, h2⟩ := (SV.denL_get _ hd).2 j d hj
        exact ⟨v, h1, hri' j v h2⟩
      obtain rfl : N = [p0, p1] := by
        have h0 := hNN 0 p0 rfl
        have h1 := hNN 1 p1 rfl
        match N, hN with
        | [a0, a1], _ => simp at h0 h1; subst h0; subst h1; rfl
      show X (mkE Try.prog Try.f7 Q W (InR [] []) m' H.D (HistAt H) [p0, p1, ⟨b, z, 0⟩] B7) _ _
      refine X.go T7_ok 400 _ rfl Try.results7 ?_
      conv => arg 2; cbv
      refine X.idxBy i (.own 2 0) rfl rfl rfl rfl rfl rfl (good_slv Try.underlying71 Try.sizeOf93 hpi hlt hr) rfl ?_
      refine X.go T7_ok 400 _ rfl Try.results7 ?_
      conv => arg 2; cbv
      refine X.idxBy i (.own 2 0) rfl rfl rfl rfl rfl rfl (good_slv Try.underlying71 Try.sizeOf93 hpi hlt hr) rfl ?_
      refine X.go T7_ok 400 _ rfl Try.results7 ?_
      conv => arg 2; cbv
      refine X.cond rfl (fun hst => ?_) (fun hst => ?_)
      · have hst : e.st = 0 := hst
        have ho3 := ho1 hst
        refine X.go T7_ok 400 _ rfl Try.results7 ?_
        conv => arg 2; cbv
        refine X.recell1 0 2 (.int .i64 (.lit 1)) rfl rfl (fun N _ v hv => ?_) ?_
        · rw [← hv]
          simp only [SV.den, SI.den, ho3]
          try rfl
        refine X.drawnO T7_ok noCall (idxS 128 _ [⟨7, 116, 117, 118, 71, i, .slv p' nE c', .own 2 0⟩]) rfl noCall_ok (idxS_ok _ (by kernel_rfl) (fun q hq => ?_)) 128 rfl ?_
        · simp only [List.mem_cons, List.mem_nil_iff, or_false] at hq
          rw [hq]
          exact good_slv Try.underlying71 Try.sizeOf93 hpi hlt hr
        generalize hfin : (fun s' => X (mkE Try.prog Try.f7 Q W (InR [] []) m' H.D (HistAt H) [p0, p1, ⟨b, z, 0⟩] B7) _ s') = fin
        conv => cbv
        repeat (first | refine ⟨rfl, ?_⟩ | refine ⟨⟨_, _, rfl, rfl⟩, ?_⟩ | refine ⟨⟨rfl, _, _, rfl, rfl⟩, ?_⟩)
        subst hfin
        show X _ _ _
        refine X.go T7_ok 400 _ rfl Try.results7 ?_
        conv => arg 2; cbv
        refine X.cond rfl (fun h => ?_) (fun _ => ?_)
        · exact absurd hs h
        refine X.go T7_ok 400 _ rfl Try.results7 ?_
        conv => arg 2; cbv
        refine X.back (fun N a w' hN hf hS => hq ⟨i + 1, by omega⟩ a w' (by show nE - (i + 1) < nE - i; omega) ?_)
        exact At.same ((Nums.le_append [p0, p1] [⟨b, z, 0⟩]).trans hN) hf hS (Nat.le_refl _) ⟨⟨_, rfl, .inl ⟨rfl, rfl⟩⟩, ⟨_, rfl, .inl ⟨rfl, rfl⟩⟩, ⟨_, rfl, .inl ⟨rfl, rfl⟩⟩, ⟨_, rfl, .inr ⟨_, rfl, by simp [SV.den, SI.den, hwrap64s i (by omega)]⟩⟩, trivial⟩
          ⟨fun h => h, ⟨.inr ⟨_, rfl, by simp [SV.den, SI.den, hoS, hst]⟩, .inr ⟨_, rfl, by simp [SV.den, SI.den, hoS, hst]⟩, .inr ⟨_, rfl, by simp [SV.den, SI.den, hoS, hst, ho3]⟩, .inr ⟨_, rfl, by simp [SV.den, SI.den, hoS, hst]⟩, .inr ⟨_, rfl, by simp [SV.den, SI.den, hoS, hst]⟩, .inr ⟨_, rfl, by simp [SV.den, SI.den, hoS, hst]⟩, .inr ⟨_, rfl, by simp [SV.den, SI.den, hoS, hst]⟩, .inr ⟨_, rfl, by simp [SV.den, SI.den, hoS, hst]⟩, .inr ⟨_, rfl, by simp [SV.den, SI.den, hoS, hst]⟩, trivial⟩, rfl, ⟨fun h => h, ⟨.inr ⟨_, rfl, by simp [SV.den, SI.den, hlS]⟩, .inr ⟨_, rfl, by simp [SV.den, SI.den, hlS]⟩, .inr ⟨_, rfl, by simp [SV.den, SI.den, hlS]⟩, .inr ⟨_, rfl, by simp [SV.den, SI.den, hlS]⟩, .inr ⟨_, rfl, by simp [SV.den, SI.den, hlS]⟩, .inr ⟨_, rfl, by simp [SV.den, SI.den, hlS]⟩, .inr ⟨_, rfl, by simp [SV.den, SI.den, hlS]⟩, .inr ⟨_, rfl, by simp [SV.den, SI.den, hlS]⟩, .inr ⟨_, rfl, by simp [SV.den, SI.den, hlS]⟩, trivial⟩, rfl, trivial⟩⟩
      · have hst : ¬ e.st = 0 := hst
        rcases ho2 with ho3 | ho3
        · refine X.go T7_ok 400 _ rfl Try.results7 ?_
          conv => arg 2; cbv
          refine X.recell1 0 2 (.int .i64 (.lit 0)) rfl rfl (fun N _ v hv => ?_) ?_
          · rw [← hv]
            simp only [SV.den, SI.den, ho3]
            try rfl
          refine X.drawnO T7_ok noCall (idxS 128 _ [⟨7, 116, 117, 118, 71, i, .slv p' nE c', .own 2 0⟩]) rfl noCall_ok (idxS_ok _ (by kernel_rfl) (fun q hq => ?_)) 128 rfl ?_
          · simp only [List.mem_cons, List.mem_nil_iff, or_false] at hq
            rw [hq]
            exact good_slv Try.underlying71 Try.sizeOf93 hpi hlt hr
          generalize hfin : (fun s' => X (mkE Try.prog Try.f7 Q W (InR [] []) m' H.D (HistAt H) [p0, p1, ⟨b, z, 0⟩] B7) _ s') = fin
          conv => cbv
          repeat (first | refine ⟨rfl, ?_⟩ | refine ⟨⟨_, _, rfl, rfl⟩, ?_⟩ | refine ⟨⟨rfl, _, _, rfl, rfl⟩, ?_⟩)
          subst hfin
          show X _ _ _
          refine X.go T7_ok 400 _ rfl Try.results7 ?_
          conv => arg 2; cbv
          refine X.cond rfl (fun h => ?_) (fun _ => ?_)
          · exact absurd hs h
          refine X.go T7_ok 400 _ rfl Try.results7 ?_
          conv => arg 2; cbv
          refine X.back (fun N a w' hN hf hS => hq ⟨i + 1, by omega⟩ a w' (by show nE - (i + 1) < nE - i; omega) ?_)
          exact At.same ((Nums.le_append [p0, p1] [⟨b, z, 0⟩]).trans hN) hf hS (Nat.le_refl _) ⟨⟨_, rfl, .inl ⟨rfl, rfl⟩⟩, ⟨_, rfl, .inl ⟨rfl, rfl⟩⟩, ⟨_, rfl, .inl ⟨rfl, rfl⟩⟩, ⟨_, rfl, .inr ⟨_, rfl, by simp [SV.den, SI.den, hwrap64s i (by omega)]⟩⟩, trivial⟩
            ⟨fun h => h, ⟨.inr ⟨_, rfl, by simp [SV.den, SI.den, hoS, hst]⟩, .inr ⟨_, rfl, by simp [SV.den, SI.den, hoS, hst]⟩, .inr ⟨_, rfl, by simp [SV.den, SI.den, hoS, hst, ho3]⟩, .inr ⟨_, rfl, by simp [SV.den, SI.den, hoS, hst]⟩, .inr ⟨_, rfl, by simp [SV.den, SI.den, hoS, hst]⟩, .inr ⟨_, rfl, by simp [SV.den, SI.den, hoS, hst]⟩, .inr ⟨_, rfl, by simp [SV.den, SI.den, hoS, hst]⟩, .inr ⟨_, rfl, by simp [SV.den, SI.den, hoS, hst]⟩, .inr ⟨_, rfl, by simp [SV.den, SI.den, hoS, hst]⟩, trivial⟩, rfl, ⟨fun h => h, ⟨.inr ⟨_, rfl, by simp [SV.den, SI.den, hlS]⟩, .inr ⟨_, rfl, by simp [SV.den, SI.den, hlS]⟩, .inr ⟨_, rfl, by simp [SV.den, SI.den, hlS]⟩, .inr ⟨_, rfl, by simp [SV.den, SI.den, hlS]⟩, .inr ⟨_, rfl, by simp [SV.den, SI.den, hlS]⟩, .inr ⟨_, rfl, by simp [SV.den, SI.den, hlS]⟩, .inr ⟨_, rfl, by simp [SV.den, SI.den, hlS]⟩, .inr ⟨_, rfl, by simp [SV.den, SI.den, hlS]⟩, .inr ⟨_, rfl, by simp [SV.den, SI.den, hlS]⟩, trivial⟩, rfl, trivial⟩⟩
        · refine X.go T7_ok 400 _ rfl Try.results7 ?_
          conv => arg 2; cbv
          refine X.recell1 0 2 (.int .i64 (.lit 1)) rfl rfl (fun N _ v hv => ?_) ?_
          · rw [← hv]
            simp only [SV.den, SI.den, ho3]
            try rfl
          refine X.drawnO T7_ok noCall (idxS 128 _ [⟨7, 116, 117, 118, 71, i, .slv p' nE c', .own 2 0⟩]) rfl noCall_ok (idxS_ok _ (by kernel_rfl) (fun q hq => ?_)) 128 rfl ?_
          · simp only [List.mem_cons, List.mem_nil_iff, or_false] at hq
            rw [hq]
            exact good_slv Try.underlying71 Try.sizeOf93 hpi hlt hr
          generalize hfin : (fun s' => X (mkE Try.prog Try.f7 Q W (InR [] []) m' H.D (HistAt H) [p0, p1, ⟨b, z, 0⟩] B7) _ s') = fin
          conv => cbv
          repeat (first | refine ⟨rfl, ?_⟩ | refine ⟨⟨_, _, rfl, rfl⟩, ?_⟩ | refine ⟨⟨rfl, _, _, rfl, rfl⟩, ?_⟩)
          subst hfin
          show X _ _ _
          refine X.go T7_ok 400 _ rfl Try.results7 ?_
          conv => arg 2; cbv
          refine X.cond rfl (fun h => ?_) (fun _ => ?_)
          · exact absurd hs h
          refine X.go T7_ok 400 _ rfl Try.results7 ?_
          conv => arg 2; cbv
          refine X.back (fun N a w' hN hf hS => hq ⟨i + 1, by omega⟩ a w' (by show nE - (i + 1) < nE - i; omega) ?_)
          exact At.same ((Nums.le_append [p0, p1] [⟨b, z, 0⟩]).trans hN) hf hS (Nat.le_refl _) ⟨⟨_, rfl, .inl ⟨rfl, rfl⟩⟩, ⟨_, rfl, .inl ⟨rfl, rfl⟩⟩, ⟨_, rfl, .inl ⟨rfl, rfl⟩⟩, ⟨_, rfl, .inr ⟨_, rfl, by simp [SV.den, SI.den, hwrap64s i (by omega)]⟩⟩, trivial⟩
            ⟨fun h => h, ⟨.inr ⟨_, rfl, by simp [SV.den, SI.den, hoS, hst]⟩, .inr ⟨_, rfl, by simp [SV.den, SI.den, hoS, hst]⟩, .inr ⟨_, rfl, by simp [SV.den, SI.den, hoS, hst, ho3]⟩, .inr ⟨_, rfl, by simp [SV.den, SI.den, hoS, hst]⟩, .inr ⟨_, rfl, by simp [SV.den, SI.den, hoS, hst]⟩, .inr ⟨_, rfl, by simp [SV.den, SI.den, hoS, hst]⟩, .inr ⟨_, rfl, by simp [SV.den, SI.den, hoS, hst]⟩, .inr ⟨_, rfl, by simp [SV.den, SI.den, hoS, hst]⟩, .inr ⟨_, rfl, by simp [SV.den, SI.den, hoS, hst]⟩, trivial⟩, rfl, ⟨fun h => h, ⟨.inr ⟨_, rfl, by simp [SV.den, SI.den, hlS]⟩, .inr ⟨_, rfl, by simp [SV.den, SI.den, hlS]⟩, .inr ⟨_, rfl, by simp [SV.den, SI.den, hlS]⟩, .inr ⟨_, rfl, by simp [SV.den, SI.den, hlS]⟩, .inr ⟨_, rfl, by simp [SV.den, SI.den, hlS]⟩, .inr ⟨_, rfl, by simp [SV.den, SI.den, hlS]⟩, .inr ⟨_, rfl, by simp [SV.den, SI.den, hlS]⟩, .inr ⟨_, rfl, by simp [SV.den, SI.den, hlS]⟩, .inr ⟨_, rfl, by simp [SV.den, SI.den, hlS]⟩, trivial⟩, rfl, trivial⟩⟩
    · refine X.see b z [.int .u8 (.v e.nd), .int .u8 (.v e.k), .int .u8 (.v e.y), .int .u8 (.lit 3), .int .u64 (.v e.s), .int .i64 (.v e.a), .int .i64 (.v e.p), .int .i64 (.v e.r), .int .u8 (.v e.u), .int .u64 (.v e.i), .int .u64 (.v e.l), .int .i64 (.v e.at'), .int .i64 (.v e.en), .int .u8 (.v e.st), .int .i64 (.v e.re), .int .u64 (.v e.ri), .int .i64 (.v e.rs), .slv e.vp e.vn e.vc] (fun j d hj => ?_) (by show 0 < 18; omega) (fun N hNN hN => ?_)
      · have hd : SV.denL [] [.int .u8 (.v e.nd), .int .u8 (.v e.k), .int .u8 (.v e.y), .int .u8 (.lit 3), .int .u64 (.v e.s), .int .i64 (.v e.a), .int .i64 (.v e.p), .int .i64 (.v e.r), .int .u8 (.v e.u), .int .u64 (.v e.i), .int .u64 (.v e.l), .int .i64 (.v e.at'), .int .i64 (.v e.en), .int .u8 (.v e.st), .int .i64 (.v e.re), .int .u64 (.v e.ri), .int .i64 (.v e.rs), .slv e.vp e.vn e.vc] = some e.vals := by
          simp [SV.denL, SV.den, SI.den, Ent.vals, hcc]
        obtain ⟨v, h1, h2⟩ := (SV.denL_get _ hd).2 j d hj
        exact ⟨v, h1, hri' j v h2⟩
      obtain rfl : N = [p0, p1] := by
        have h0 := hNN 0 p0 rfl
        have h1 := hNN 1 p1 rfl
        match N, hN with
        | [a0, a1], _ => simp at h0 h1; subst h0; subst h1; rfl
      show X (mkE Try.prog Try.f7 Q W (InR [] []) m' H.D (HistAt H) [p0, p1, ⟨b, z, 0⟩] B7) _ _
      refine X.go T7_ok 400 _ rfl Try.results7 ?_
      conv => arg 2; cbv
      refine X.idxBy i (.own 2 0) rfl rfl rfl rfl rfl rfl (good_slv Try.underlying71 Try.sizeOf93 hpi hlt hr) rfl ?_
      refine X.go T7_ok 400 _ rfl Try.results7 ?_
      conv => arg 2; cbv
      refine X.idxBy i (.own 2 0) rfl rfl rfl rfl rfl rfl (good_slv Try.underlying71 Try.sizeOf93 hpi hlt hr) rfl ?_
      refine X.go T7_ok 400 _ rfl Try.results7 ?_
      conv => arg 2; cbv
      refine X.cond rfl (fun hst => ?_) (fun hst => ?_)
      · have hst : e.st = 0 := hst
        have ho3 := ho1 hst
        refine X.go T7_ok 400 _ rfl Try.results7 ?_
        conv => arg 2; cbv
        refine X.recell1 0 3 (.int .i64 (.lit 1)) rfl rfl (fun N _ v hv => ?_) ?_
        · rw [← hv]
          simp only [SV.den, SI.den, ho3]
          try rfl
        refine X.drawnO T7_ok noCall (idxS 128 _ [⟨7, 116, 117, 118, 71, i, .slv p' nE c', .own 2 0⟩]) rfl noCall_ok (idxS_ok _ (by kernel_rfl) (fun q hq => ?_)) 128 rfl ?_
        · simp only [List.mem_cons, List.mem_nil_iff, or_false] at hq
          rw [hq]
          exact good_slv Try.underlying71 Try.sizeOf93 hpi hlt hr
        generalize hfin : (fun s' => X (mkE Try.prog Try.f7 Q W (InR [] []) m' H.D (HistAt H) [p0, p1, ⟨b, z, 0⟩] B7) _ s') = fin
        conv => cbv
        repeat (first | refine ⟨rfl, ?_⟩ | refine ⟨⟨_, _, rfl, rfl⟩, ?_⟩ | refine ⟨⟨rfl, _, _, rfl, rfl⟩, ?_⟩)
        subst hfin
        show X _ _ _
        refine X.go T7_ok 400 _ rfl Try.results7 ?_
        conv => arg 2; cbv
        refine X.cond rfl (fun h => ?_) (fun _ => ?_)
        · exact absurd hs h
        refine X.go T7_ok 400 _ rfl Try.results7 ?_
        conv => arg 2; cbv
        refine X.back (fun N a w' hN hf hS => hq ⟨i + 1, by omega⟩ a w' (by show nE - (i + 1) < nE - i; omega) ?_)
        exact At.same ((Nums.le_append [p0, p1] [⟨b, z, 0⟩]).trans hN) hf hS (Nat.le_refl _) ⟨⟨_, rfl, .inl ⟨rfl, rfl⟩⟩, ⟨_, rfl, .inl ⟨rfl, rfl⟩⟩, ⟨_, rfl, .inl ⟨rfl, rfl⟩⟩, ⟨_, rfl, .inr ⟨_, rfl, by simp [SV.den, SI.den, hwrap64s i (by omega)]⟩⟩, trivial⟩
          ⟨fun h => h, ⟨.inr ⟨_, rfl, by simp [SV.den, SI.den, hoS, hst]⟩, .inr ⟨_, rfl, by simp [SV.den, SI.den, hoS, hst]⟩, .inr ⟨_, rfl, by simp [SV.den, SI.den, hoS, hst]⟩, .inr ⟨_, rfl, by simp [SV.den, SI.den, hoS, hst, ho3]⟩, .inr ⟨_, rfl, by simp [SV.den, SI.den, hoS, hst]⟩, .inr ⟨_, rfl, by simp [SV.den, SI.den, hoS, hst]⟩, .inr ⟨_, rfl, by simp [SV.den, SI.den, hoS, hst]⟩, .inr ⟨_, rfl, by simp [SV.den, SI.den, hoS, hst]⟩, .inr ⟨_, rfl, by simp [SV.den, SI.den, hoS, hst]⟩, trivial⟩, rfl, ⟨fun h => h, ⟨.inr ⟨_, rfl, by simp [SV.den, SI.den, hlS]⟩, .inr ⟨_, rfl, by simp [SV.den, SI.den, hlS]⟩, .inr ⟨_, rfl, by simp [SV.den, SI.den, hlS]⟩, .inr ⟨_, rfl, by simp [SV.den, SI.den, hlS]⟩, .inr ⟨_, rfl, by simp [SV.den, SI.den, hlS]⟩, .inr ⟨_, rfl, by simp [SV.den, SI.den, hlS]⟩, .inr ⟨_, rfl, by simp [SV.den, SI.den, hlS]⟩, .inr ⟨_, rfl, by simp [SV.den, SI.den, hlS]⟩, .inr ⟨_, rfl, by simp [SV.den, SI.den, hlS]⟩, trivial⟩, rfl, trivial⟩⟩
      · have hst : ¬ e.st = 0 := hst
        rcases ho2 with ho3 | ho3
        · refine X.go T7_ok 400 _ rfl Try.results7 ?_
          conv => arg 2; cbv
          refine X.recell1 0 3 (.int .i64 (.lit 0)) rfl rfl (fun N _ v hv => ?_) ?_
          · rw [← hv]
            simp only [SV.den, SI.den, ho3]
            try rfl
          refine X.drawnO T7_ok noCall (idxS 128 _ [⟨7, 116, 117, 118, 71, i, .slv p' nE c', .own 2 0⟩]) rfl noCall_ok (idxS_ok _ (by kernel_rfl) (fun q hq => ?_)) 128 rfl ?_
          · simp only [List.mem_cons, List.mem_nil_iff, or_false] at hq
            rw [hq]
            exact good_slv Try.underlying71 Try.sizeOf93 hpi hlt hr
          generalize hfin : (fun s' => X (mkE Try.prog Try.f7 Q W (InR [] []) m' H.D (HistAt H) [p0, p1, ⟨b, z, 0⟩] B7) _ s') = fin
          conv => cbv
          repeat (first | refine ⟨rfl, ?_⟩ | refine ⟨⟨_, _, rfl, rfl⟩, ?_⟩ | refine ⟨⟨rfl, _, _, rfl, rfl⟩, ?_⟩)
          subst hfin
          show X _ _ _
          refine X.go T7_ok 400 _ rfl Try.results7 ?_
          conv => arg 2; cbv
          refine X.cond rfl (fun h => ?_) (fun _ => ?_)
          · exact absurd hs h
          refine X.go T7_ok 400 _ rfl Try.results7 ?_
          conv => arg 2; cbv
          refine X.back (fun N a w' hN hf hS => hq ⟨i + 1, by omega⟩ a w' (by show nE - (i + 1) < nE - i; omega) ?_)
          exact At.same ((Nums.le_append [p0, p1] [⟨b, z, 0⟩]).trans hN) hf hS (Nat.le_refl _) ⟨⟨_, rfl, .inl ⟨rfl, rfl⟩⟩, ⟨_, rfl, .inl ⟨rfl, rfl⟩⟩, ⟨_, rfl, .inl ⟨rfl, rfl⟩⟩, ⟨_, rfl, .inr ⟨_, rfl, by simp [SV.den, SI.den, hwrap64s i (by omega)]⟩⟩, trivial⟩
            ⟨fun h => h, ⟨.inr ⟨_, rfl, by simp [SV.den, SI.den, hoS, hst]⟩, .inr ⟨_, rfl, by simp [SV.den, SI.den, hoS, hst]⟩, .inr ⟨_, rfl, by simp [SV.den, SI.den, hoS, hst]⟩, .inr ⟨_, rfl, by simp [SV.den, SI.den, hoS, hst, ho3]⟩, .inr ⟨_, rfl, by simp [SV.den, SI.den, hoS, hst]⟩, .inr ⟨_, rfl, by simp [SV.den, SI.den, hoS, hst]⟩, .inr ⟨_, rfl, by simp [SV.den, SI.den, hoS, hst]⟩, .inr ⟨_, rfl, by simp [SV.den, SI.den, hoS, hst]⟩, .inr ⟨_, rfl, by simp [SV.den, SI.den, hoS, hst]⟩, trivial⟩, rfl, ⟨fun h => h, ⟨.inr ⟨_, rfl, by simp [SV.den, SI.den, hlS]⟩, .inr ⟨_, rfl, by simp [SV.den, SI.den, hlS]⟩, .inr ⟨_, rfl, by simp [SV.den, SI.den, hlS]⟩, .inr ⟨_, rfl, by simp [SV.den, SI.den, hlS]⟩, .inr ⟨_, rfl, by simp [SV.den, SI.den, hlS]⟩, .inr ⟨_, rfl, by simp [SV.den, SI.den, hlS]⟩, .inr ⟨_, rfl, by simp [SV.den, SI.den, hlS]⟩, .inr ⟨_, rfl, by simp [SV.den, SI.den, hlS]⟩, .inr ⟨_, rfl, by simp [SV.den, SI.den, hlS]⟩, trivial⟩, rfl, trivial⟩⟩
        · refine X.go T7_ok 400 _ rfl Try.results7 ?_
          conv => arg 2; cbv
          refine X.recell1 0 3 (.int .i64 (.lit 1)) rfl rfl (fun N _ v hv => ?_) ?_
          · rw [← hv]
            simp only [SV.den, SI.den, ho3]
            try rfl
          refine X.drawnO T7_ok noCall (idxS 128 _ [⟨7, 116, 117, 118, 71, i, .slv p' nE c', .own 2 0⟩]) rfl noCall_ok (idxS_ok _ (by kernel_rfl) (fun q hq => ?_)) 128 rfl ?_
          · simp only [List.mem_cons, List.mem_nil_iff, or_false] at hq
            rw [hq]
            exact good_slv Try.underlying71 Try.sizeOf93 hpi hlt hr
          generalize hfin : (fun s' => X (mkE Try.prog Try.f7 Q W (InR [] []) m' H.D (HistAt H) [p0, p1, ⟨b, z, 0⟩] B7) _ s') = fin
          conv => cbv
          repeat (first | refine ⟨rfl, ?_⟩ | refine ⟨⟨_, _, rfl, rfl⟩, ?_⟩ | refine ⟨⟨rfl, _, _, rfl, rfl⟩, ?_⟩)
          subst hfin
          show X _ _ _
          refine X.go T7_ok 400 _ rfl Try.results7 ?_
          conv => arg 2; cbv
          refine X.cond rfl (fun h => ?_) (fun _ => ?_)
          · exact absurd hs h
          refine X.go T7_ok 400 _ rfl Try.results7 ?_
          conv => arg 2; cbv
          refine X.back (fun N a w' hN hf hS => hq ⟨i + 1, by omega⟩ a w' (by show nE - (i + 1) < nE - i; omega) ?_)
          exact At.same ((Nums.le_append [p0, p1] [⟨b, z, 0⟩]).trans hN) hf hS (Nat.le_refl _) ⟨⟨_, rfl, .inl ⟨rfl, rfl⟩⟩, ⟨_, rfl, .inl ⟨rfl, rfl⟩⟩, ⟨_, rfl, .inl ⟨rfl, rfl⟩⟩, ⟨_, rfl, .inr ⟨_, rfl, by simp [SV.den, SI.den, hwrap64s i (by omega)]⟩⟩, trivial⟩
            ⟨fun h => h, ⟨.inr ⟨_, rfl, by simp [SV.den, SI.den, hoS, hst]⟩, .inr ⟨_, rfl, by simp [SV.den, SI.den, hoS, hst]⟩, .inr ⟨_, rfl, by simp [SV.den, SI.den, hoS, hst]⟩, .inr ⟨_, rfl, by simp [SV.den, SI.den, hoS, hst, ho3]⟩, .inr ⟨_, rfl, by simp [SV.den, SI.den, hoS, hst]⟩, .inr ⟨_, rfl, by simp [SV.den, SI.den, hoS, hst]⟩, .inr ⟨_, rfl, by simp [SV.den, SI.den, hoS, hst]⟩, .inr ⟨_, rfl, by simp [SV.den, SI.den, hoS, hst]⟩, .inr ⟨_, rfl, by simp [SV.den, SI.den, hoS, hst]⟩, trivial⟩, rfl, ⟨fun h => h, ⟨.inr ⟨_, rfl, by simp [SV.den, SI.den, hlS]⟩, .inr ⟨_, rfl, by simp [SV.den, SI.den, hlS]⟩, .inr ⟨_, rfl, by simp [SV.den, SI.den, hlS]⟩, .inr ⟨_, rfl, by simp [SV.den, SI.den, hlS]⟩, .inr ⟨_, rfl, by simp [SV.den, SI.den, hlS]⟩, .inr ⟨_, rfl, by simp [SV.den, SI.den, hlS]⟩, .inr ⟨_, rfl, by simp [SV.den, SI.den, hlS]⟩, .inr ⟨_, rfl, by simp [SV.den, SI.den, hlS]⟩, .inr ⟨_, rfl, by simp [SV.den, SI.den, hlS]⟩, trivial⟩, rfl, trivial⟩⟩
    · refine X.see b z [.int .u8 (.v e.nd), .int .u8 (.v e.k), .int .u8 (.v e.y), .int .u8 (.lit 4), .int .u64 (.v e.s), .int .i64 (.v e.a), .int .i64 (.v e.p), .int .i64 (.v e.r), .int .u8 (.v e.u), .int .u64 (.v e.i), .int .u64 (.v e.l), .int .i64 (.v e.at'), .int .i64 (.v e.en), .int .u8 (.v e.st), .int .i64 (.v e.re), .int .u64 (.v e.ri), .int .i64 (.v e.rs), .slv e.vp e.vn e.vc] (fun j d hj => ?_) (by show 0 < 18; omega) (fun N hNN hN => ?_)
      · have hd : SV.denL [] [.int .u8 (.v e.nd), .int .u8 (.v e.k), .int .u8 (.v e.y), .int .u8 (.lit 4), .int .u64 (.v e.s), .int .i64 (.v e.a), .int .i64 (.v e.p), .int .i64 (.v e.r), .int .u8 (.v e.u), .int .u64 (.v e.i), .int .u64 (.v e.l), .int .i64 (.v e.at'), .int .i64 (.v e.en), .int .u8 (.v e.st), .int .i64 (.v e.re), .int .u64 (.v e.ri), .int .i64 (.v e.rs), .slv e.vp e.vn e.vc] = some e.vals := by
          simp [SV.denL, SV.den, SI.den, Ent.vals, hcc]
        obtain ⟨v, h1, h2⟩ := (SV.denL_get _ hd).2 j d hj
        exact ⟨v, h1, hri' j v h2⟩
      obtain rfl : N = [p0, p1] := by
        have h0 := hNN 0 p0 rfl
        have h1 := hNN 1 p1 rfl
        match N, hN with
        | [a0, a1], _ => simp at h0 h1; subst h0; subst h1; rfl
      show X (mkE Try.prog Try.f7 Q W (InR [] []) m' H.D (HistAt H) [p0, p1, ⟨b, z, 0⟩] B7) _ _
      refine X.go T7_ok 400 _ rfl Try.results7 ?_
      conv => arg 2; cbv
      refine X.idxBy i (.own 2 0) rfl rfl rfl rfl rfl rfl (good_slv Try.underlying71 Try.sizeOf93 hpi hlt hr) rfl ?_
      refine X.go T7_ok 400 _ rfl Try.results7 ?_
      conv => arg 2; cbv
      refine X.idxBy i (.own 2 0) rfl rfl rfl rfl rfl rfl (good_slv Try.underlying71 Try.sizeOf93 hpi hlt hr) rfl ?_
      refine X.go T7_ok 400 _ rfl Try.results7 ?_
      conv => arg 2; cbv
      refine X.cond rfl (fun hst => ?_) (fun hst => ?_)
      · have hst : e.st = 0 := hst
        have ho3 := ho1 hst
        refine X.go T7_ok 400 _ rfl Try.results7 ?_
        conv => arg 2; cbv
        refine X.recell1 0 4 (.int .i64 (.lit 1)) rfl rfl (fun N _ v hv => ?_) ?_
        · rw [← hv]
          simp only [SV.den, SI.den, ho3]
          try rfl
        refine X.drawnO T7_ok noCall (idxS 128 _ [⟨7, 116, 117, 118, 71, i, .slv p' nE c', .own 2 0⟩]) rfl noCall_ok (idxS_ok _ (by kernel_rfl) (fun q hq => ?_)) 128 rfl ?_
        · simp only [List.mem_cons, List.mem_nil_iff, or_false] at hq
          rw [hq]
          exact good_slv Try.underlying71 Try.sizeOf93 hpi hlt hr
        generalize hfin : (fun s' => X (mkE Try.prog Try.f7 Q W (InR [] []) m' H.D (HistAt H) [p0, p1, ⟨b, z, 0⟩] B7) _ s') = fin
        conv => cbv
        repeat (first | refine ⟨rfl, ?_⟩ | refine ⟨⟨_, _, rfl, rfl⟩, ?_⟩ | refine ⟨⟨rfl, _, _, rfl, rfl⟩, ?_⟩)
        subst hfin
        show X _ _ _
        refine X.go T7_ok 400 _ rfl Try.results7 ?_
        conv => arg 2; cbv
        refine X.cond rfl (fun h => ?_) (fun _ => ?_)
        · exact absurd hs h
        refine X.go T7_ok 400 _ rfl Try.results7 ?_
        conv => arg 2; cbv
        refine X.back (fun N a w' hN hf hS => hq ⟨i + 1, by omega⟩ a w' (by show nE - (i + 1) < nE - i; omega) ?_)
        exact At.same ((Nums.le_append [p0, p1] [⟨b, z, 0⟩]).trans hN) hf hS (Nat.le_refl _) ⟨⟨_, rfl, .inl ⟨rfl, rfl⟩⟩, ⟨_, rfl, .inl ⟨rfl, rfl⟩⟩, ⟨_, rfl, .inl ⟨rfl, rfl⟩⟩, ⟨_, rfl, .inr ⟨_, rfl, by simp [SV.den, SI.den, hwrap64s i (by omega)]⟩⟩, trivial⟩
          ⟨fun h => h, ⟨.inr ⟨_, rfl, by simp [SV.den, SI.den, hoS, hst]⟩, .inr ⟨_, rfl, by simp [SV.den, SI.den, hoS, hst]⟩, .inr ⟨_, rfl, by simp [SV.den, SI.den, hoS, hst]⟩, .inr ⟨_, rfl, by simp [SV.den, SI.den, hoS, hst]⟩, .inr ⟨_, rfl, by simp [SV.den, SI.den, hoS, hst, ho3]⟩, .inr ⟨_, rfl, by simp [SV.den, SI.den, hoS, hst]⟩, .inr ⟨_, rfl, by simp [SV.den, SI.den, hoS, hst]⟩, .inr ⟨_, rfl, by simp [SV.den, SI.den, hoS, hst]⟩, .inr ⟨_, rfl, by simp [SV.den, SI.den, hoS, hst]⟩, trivial⟩, rfl, ⟨fun h => h, ⟨.inr ⟨_, rfl, by simp [SV.den, SI.den, hlS]⟩, .inr ⟨_, rfl, by simp [SV.den, SI.den, hlS]⟩, .inr ⟨_, rfl, by simp [SV.den, SI.den, hlS]⟩, .inr ⟨_, rfl, by simp [SV.den, SI.den, hlS]⟩, .inr ⟨_, rfl, by simp [SV.den, SI.den, hlS]⟩, .inr ⟨_, rfl, by simp [SV.den, SI.den, hlS]⟩, .inr ⟨_, rfl, by simp [SV.den, SI.den, hlS]⟩, .inr ⟨_, rfl, by simp [SV.den, SI.den, hlS]⟩, .inr ⟨_, rfl, by simp [SV.den, SI.den, hlS]⟩, trivial⟩, rfl, trivial⟩⟩
      · have hst : ¬ e.st = 0 := hst
        rcases ho2 with ho3 | ho3
        · refine X.go T7_ok 400 _ rfl Try.results7 ?_
          conv => arg 2; cbv
          refine X.recell1 0 4 (.int .i64 (.lit 0)) rfl rfl (fun N _ v hv => ?_) ?_
          · rw [← hv]
            simp only [SV.den, SI.den, ho3]
            try rfl
          refine X.drawnO T7_ok noCall (idxS 128 _ [⟨7, 116, 117, 118, 71, i, .slv p' nE c', .own 2 0⟩]) rfl noCall_ok (idxS_ok _ (by kernel_rfl) (fun q hq => ?_)) 128 rfl ?_
          · simp only [List.mem_cons, List.mem_nil_iff, or_false] at hq
            rw [hq]
            exact good_slv Try.underlying71 Try.sizeOf93 hpi hlt hr
          generalize hfin : (fun s' => X (mkE Try.prog Try.f7 Q W (InR [] []) m' H.D (HistAt H) [p0, p1, ⟨b, z, 0⟩] B7) _ s') = fin
          conv => cbv
          repeat (first | refine ⟨rfl, ?_⟩ | refine ⟨⟨_, _, rfl, rfl⟩, ?_⟩ | refine ⟨⟨rfl, _, _, rfl, rfl⟩, ?_⟩)
          subst hfin
          show X _ _ _
          refine X.go T7_ok 400 _ rfl Try.results7 ?_
          conv => arg 2; cbv
          refine X.cond rfl (fun h => ?_) (fun _ => ?_)
          · exact absurd hs h
          refine X.go T7_ok 400 _ rfl Try.results7 ?_
          conv => arg 2; cbv
          refine X.back (fun N a w' hN hf hS => hq ⟨i + 1, by omega⟩ a w' (by show nE - (i + 1) < nE - i; omega) ?_)
          exact At.same ((Nums.le_append [p0, p1] [⟨b, z, 0⟩]).trans hN) hf hS (Nat.le_refl _) ⟨⟨_, rfl, .inl ⟨rfl, rfl⟩⟩, ⟨_, rfl, .inl ⟨rfl, rfl⟩⟩, ⟨_, rfl, .inl ⟨rfl, rfl⟩⟩, ⟨_, rfl, .inr ⟨_, rfl, by simp [SV.den, SI.den, hwrap64s i (by omega)]⟩⟩, trivial⟩
            ⟨fun h => h, ⟨.inr ⟨_, rfl, by simp [SV.den, SI.den, hoS, hst]⟩, .inr ⟨_, rfl, by simp [SV.den, SI.den, hoS, hst]⟩, .inr ⟨_, rfl, by simp [SV.den, SI.den, hoS, hst]⟩, .inr ⟨_, rfl, by simp [SV.den, SI.den, hoS, hst]⟩, .inr ⟨_, rfl, by simp [SV.den, SI.den, hoS, hst, ho3]⟩, .inr ⟨_, rfl, by simp [SV.den, SI.den, hoS, hst]⟩, .inr ⟨_, rfl, by simp [SV.den, SI.den, hoS, hst]⟩, .inr ⟨_, rfl, by simp [SV.den, SI.den, hoS, hst]⟩, .inr ⟨_, rfl, by simp [SV.den, SI.den, hoS, hst]⟩, trivial⟩, rfl, ⟨fun h => h, ⟨.inr ⟨_, rfl, by simp [SV.den, SI.den, hlS]⟩, .inr ⟨_, rfl, by simp [SV.den, SI.den, hlS]⟩, .inr ⟨_, rfl, by simp [SV.den, SI.den, hlS]⟩, .inr ⟨_, rfl, by simp [SV.den, SI.den, hlS]⟩, .inr ⟨_, rfl, by simp [SV.den, SI.den, hlS]⟩, .inr ⟨_, rfl, by simp [SV.den, SI.den, hlS]⟩, .inr ⟨_, rfl, by simp [SV.den, SI.den, hlS]⟩, .inr ⟨_, rfl, by simp [SV.den, SI.den, hlS]⟩, .inr ⟨_, rfl, by simp [SV.den, SI.den, hlS]⟩, trivial⟩, rfl, trivial⟩⟩
        · refine X.go T7_ok 400 _ rfl Try.results7 ?_
          conv => arg 2; cbv
          refine X.recell1 0 4 (.int .i64 (.lit 1)) rfl rfl (fun N _ v hv => ?_) ?_
          · rw [← hv]
            simp only [SV.den, SI.den, ho3]
            try rfl
          refine X.drawnO T7_ok noCall (idxS 128 _ [⟨7, 116, 117, 118, 71, i, .slv p' nE c', .own 2 0⟩]) rfl noCall_ok (idxS_ok _ (by kernel_rfl) (fun q hq => ?_)) 128 rfl ?_
          · simp only [List.mem_cons, List.mem_nil_iff, or_false] at hq
            rw [hq]
            exact good_slv Try.underlying71 Try.sizeOf93 hpi hlt hr
          generalize hfin : (fun s' => X (mkE Try.prog Try.f7 Q W (InR [] []) m' H.D (HistAt H) [p0, p1, ⟨b, z, 0⟩] B7) _ s') = fin
          conv => cbv
          repeat (first | refine ⟨rfl, ?_⟩ | refine ⟨⟨_, _, rfl, rfl⟩, ?_⟩ | refine ⟨⟨rfl, _, _, rfl, rfl⟩, ?_⟩)
          subst hfin
          show X _ _ _
          refine X.go T7_ok 400 _ rfl Try.results7 ?_
          conv => arg 2; cbv
          refine X.cond rfl (fun h => ?_) (fun _ => ?_)
          · exact absurd hs h
          refine X.go T7_ok 400 _ rfl Try.results7 ?_
          conv => arg 2; cbv
          refine X.back (fun N a w' hN hf hS => hq ⟨i + 1, by omega⟩ a w' (by show nE - (i + 1) < nE - i; omega) ?_)
          exact At.same ((Nums.le_append [p0, p1] [⟨b, z, 0⟩]).trans hN) hf hS (Nat.le_refl _) ⟨⟨_, rfl, .inl ⟨rfl, rfl⟩⟩, ⟨_, rfl, .inl ⟨rfl, rfl⟩⟩, ⟨_, rfl, .inl ⟨rfl, rfl⟩⟩, ⟨_, rfl, .inr ⟨_, rfl, by simp [SV.den, SI.den, hwrap64s i (by omega)]⟩⟩, trivial⟩
            ⟨fun h => h, ⟨.inr ⟨_, rfl, by simp [SV.den, SI.den, hoS, hst]⟩, .inr ⟨_, rfl, by simp [SV.den, SI.den, hoS, hst]⟩, .inr ⟨_, rfl, by simp [SV.den, SI.den, hoS, hst]⟩, .inr ⟨_, rfl, by simp [SV.den, SI.den, hoS, hst]⟩, .inr ⟨_, rfl, by simp [SV.den, SI.den, hoS, hst, ho3]⟩, .inr ⟨_, rfl, by simp [SV.den, SI.den, hoS, hst]⟩, .inr ⟨_, rfl, by simp [SV.den, SI.den, hoS, hst]⟩, .inr ⟨_, rfl, by simp [SV.den, SI.den, hoS, hst]⟩, .inr ⟨_, rfl, by simp [SV.den, SI.den, hoS, hst]⟩, trivial⟩, rfl, ⟨fun h => h, ⟨.inr ⟨_, rfl, by simp [SV.den, SI.den, hlS]⟩, .inr ⟨_, rfl, by simp [SV.den, SI.den, hlS]⟩, .inr ⟨_, rfl, by simp [SV.den, SI.den, hlS]⟩, .inr ⟨_, rfl, by simp [SV.den, SI.den, hlS]⟩, .inr ⟨_, rfl, by simp [SV.den, SI.den, hlS]⟩, .inr ⟨_, rfl, by simp [SV.den, SI.den, hlS]⟩, .inr ⟨_, rfl, by simp [SV.den, SI.den, hlS]⟩, .inr ⟨_, rfl, by simp [SV.den, SI.den, hlS]⟩, .inr ⟨_, rfl, by simp [SV.den, SI.den, hlS]⟩, trivial⟩, rfl, trivial⟩⟩
    · refine X.see b z [.int .u8 (.v e.nd), .int .u8 (.v e.k), .int .u8 (.v e.y), .int .u8 (.lit 5), .int .u64 (.v e.s), .int .i64 (.v e.a), .int .i64 (.v e.p), .int .i64 (.v e.r), .int .u8 (.v e.u), .int .u64 (.v e.i), .int .u64 (.v e.l), .int .i64 (.v e.at'), .int .i64 (.v e.en), .int .u8 (.v e.st), .int .i64 (.v e.re), .int .u64 (.v e.ri), .int .i64 (.v e.rs), .slv e.vp e.vn e.vc] (fun j d hj => ?_) (by show 0 < 18; omega) (fun N hNN hN => ?_)
      · have hd : SV.denL [] [.int .u8 (.v e.nd), .int .u8 (.v e.k), .int .u8 (.v e.y), .int .u8 (.lit 5), .int .u64 (.v e.s), .int .i64 (.v e.a), .int .i64 (.v e.p), .int .i64 (.v e.r), .int .u8 (.v e.u), .int .u64 (.v e.i), .int .u64 (.v e.l), .int .i64 (.v e.at'), .int .i64 (.v e.en), .int .u8 (.v e.st), .int .i64 (.v e.re), .int .u64 (.v e.ri), .int .i64 (.v e.rs), .slv e.vp e.vn e.vc] = some e.vals := by
          simp [SV.denL, SV.den, SI.den, Ent.vals, hcc]
        obtain ⟨v, h1, h2⟩ := (SV.denL_get _ hd).2 j d hj
        exact ⟨v, h1, hri' j v h2⟩
      obtain rfl : N = [p0, p1] := by
        have h0 := hNN 0 p0 rfl
        have h1 := hNN 1 p1 rfl
        match N, hN with
        | [a0, a1], _ => simp at h0 h1; subst h0; subst h1; rfl
      show X (mkE Try.prog Try.f7 Q W (InR [] []) m' H.D (HistAt H) [p0, p1, ⟨b, z, 0⟩] B7) _ _
      refine X.go T7_ok 400 _ rfl Try.results7 ?_
      conv => arg 2; cbv
      refine X.idxBy i (.own 2 0) rfl rfl rfl rfl rfl rfl (good_slv Try.underlying71 Try.sizeOf93 hpi hlt hr) rfl ?_
      refine X.go T7_ok 400 _ rfl Try.results7 ?_
      conv => arg 2; cbv
      refine X.idxBy i (.own 2 0) rfl rfl rfl rfl rfl rfl (good_slv Try.underlying71 Try.sizeOf93 hpi hlt hr) rfl ?_
      refine X.go T7_ok 400 _ rfl Try.results7 ?_
      conv => arg 2; cbv
      refine X.cond rfl (fun hst => ?_) (fun hst => ?_)
      · have hst : e.st = 0 := hst
        have ho3 := ho1 hst
        refine X.go T7_ok 400 _ rfl Try.results7 ?_
        conv => arg 2; cbv
        refine X.recell1 0 5 (.int .i64 (.lit 1)) rfl rfl (fun N _ v hv => ?_) ?_
        · rw [← hv]
          simp only [SV.den, SI.den, ho3]
          try rfl
        refine X.drawnO T7_ok noCall (idxS 128 _ [⟨7, 116, 117, 118, 71, i, .slv p' nE c', .own 2 0⟩]) rfl noCall_ok (idxS_ok _ (by kernel_rfl) (fun q hq => ?_)) 128 rfl ?_
        · simp only [List.mem_cons, List.mem_nil_iff, or_false] at hq
          rw [hq]
          exact good_slv Try.underlying71 Try.sizeOf93 hpi hlt hr
        generalize hfin : (fun s' => X (mkE Try.prog Try.f7 Q W (InR [] []) m' H.D (HistAt H) [p0, p1, ⟨b, z, 0⟩] B7) _ s') = fin
        conv => cbv
        repeat (first | refine ⟨rfl, ?_⟩ | refine ⟨⟨_, _, rfl, rfl⟩, ?_⟩ | refine ⟨⟨rfl, _, _, rfl, rfl⟩, ?_⟩)
        subst hfin
        show X _ _ _
        refine X.go T7_ok 400 _ rfl Try.results7 ?_
        conv => arg 2; cbv
        refine X.cond rfl (fun h => ?_) (fun _ => ?_)
        · exact absurd hs h
        refine X.go T7_ok 400 _ rfl Try.results7 ?_
        conv => arg 2; cbv
        refine X.back (fun N a w' hN hf hS => hq ⟨i + 1, by omega⟩ a w' (by show nE - (i + 1) < nE - i; omega) ?_)
        exact At.same ((Nums.le_append [p0, p1] [⟨b, z, 0⟩]).trans hN) hf hS (Nat.le_refl _) ⟨⟨_, rfl, .inl ⟨rfl, rfl⟩⟩, ⟨_, rfl, .inl ⟨rfl, rfl⟩⟩, ⟨_, rfl, .inl ⟨rfl, rfl⟩⟩, ⟨_, rfl, .inr ⟨_, rfl, by simp [SV.den, SI.den, hwrap64s i (by omega)]⟩⟩, trivial⟩
          ⟨fun h => h, ⟨.inr ⟨_, rfl, by simp [SV.den, SI.den, hoS, hst]⟩, .inr ⟨_, rfl, by simp [SV.den, SI.den, hoS, hst]⟩, .inr ⟨_, rfl, by simp [SV.den, SI.den, hoS, hst]⟩, .inr ⟨_, rfl, by simp [SV.den, SI.den, hoS, hst]⟩, .inr ⟨_, rfl, by simp [SV.den, SI.den, hoS, hst]⟩, .inr ⟨_, rfl, by simp [SV.den, SI.den, hoS, hst, ho3]⟩, .inr ⟨_, rfl, by simp [SV.den, SI.den, hoS, hst]⟩, .inr ⟨_, rfl, by simp [SV.den, SI.den, hoS, hst]⟩, .inr ⟨_, rfl, by simp [SV.den, SI.den, hoS, hst]⟩, trivial⟩, rfl, ⟨fun h => h, ⟨.inr ⟨_, rfl, by simp [SV.den, SI.den, hlS]⟩, .inr ⟨_, rfl, by simp [SV.den, SI.den, hlS]⟩, .inr ⟨_, rfl, by simp [SV.den, SI.den, hlS]⟩, .inr ⟨_, rfl, by simp [SV.den, SI.den, hlS]⟩, .inr ⟨_, rfl, by simp [SV.den, SI.den, hlS]⟩, .inr ⟨_, rfl, by simp [SV.den, SI.den, hlS]⟩, .inr ⟨_, rfl, by simp [SV.den, SI.den, hlS]⟩, .inr ⟨_, rfl, by simp [SV.den, SI.den, hlS]⟩, .inr ⟨_, rfl, by simp [SV.den, SI.den, hlS]⟩, trivial⟩, rfl, trivial⟩⟩
      · have hst : ¬ e.st = 0 := hst
        rcases ho2 with ho3 | ho3
        · refine X.go T7_ok 400 _ rfl Try.results7 ?_
          conv => arg 2; cbv
          refine X.recell1 0 5 (.int .i64 (.lit 0)) rfl rfl (fun N _ v hv => ?_) ?_
          · rw [← hv]
            simp only [SV.den, SI.den, ho3]
            try rfl
          refine X.drawnO T7_ok noCall (idxS 128 _ [⟨7, 116, 117, 118, 71, i, .slv p' nE c', .own 2 0⟩]) rfl noCall_ok (idxS_ok _ (by kernel_rfl) (fun q hq => ?_)) 128 rfl ?_
          · simp only [List.mem_cons, List.mem_nil_iff, or_false] at hq
            rw [hq]
            exact good_slv Try.underlying71 Try.sizeOf93 hpi hlt hr
          generalize hfin : (fun s' => X (mkE Try.prog Try.f7 Q W (InR [] []) m' H.D (HistAt H) [p0, p1, ⟨b, z, 0⟩] B7) _ s') = fin
          conv => cbv
          repeat (first | refine ⟨rfl, ?_⟩ | refine ⟨⟨_, _, rfl, rfl⟩, ?_⟩ | refine ⟨⟨rfl, _, _, rfl, rfl⟩, ?_⟩)
          subst hfin
          show X _ _ _
          refine X.go T7_ok 400 _ rfl Try.results7 ?_
          conv => arg 2; cbv
          refine X.cond rfl (fun h => ?_) (fun _ => ?_)
          · exact absurd hs h
          refine X.go T7_ok 400 _ rfl Try.results7 ?_
          conv => arg 2; cbv
          refine X.back (fun N a w' hN hf hS => hq ⟨i + 1, by omega⟩ a w' (by show nE - (i + 1) < nE - i; omega) ?_)
          exact At.same ((Nums.le_append [p0, p1] [⟨b, z, 0⟩]).trans hN) hf hS (Nat.le_refl _) ⟨⟨_, rfl, .inl ⟨rfl, rfl⟩⟩, ⟨_, rfl, .inl ⟨rfl, rfl⟩⟩, ⟨_, rfl, .inl ⟨rfl, rfl⟩⟩, ⟨_, rfl, .inr ⟨_, rfl, by simp [SV.den, SI.den, hwrap64s i (by omega)]⟩⟩, trivial⟩
            ⟨fun h => h, ⟨.inr ⟨_, rfl, by simp [SV.den, SI.den, hoS, hst]⟩, .inr ⟨_, rfl, by simp [SV.den, SI.den, hoS, hst]⟩, .inr ⟨_, rfl, by simp [SV.den, SI.den, hoS, hst]⟩, .inr ⟨_, rfl, by simp [SV.den, SI.den, hoS, hst]⟩, .inr ⟨_, rfl, by simp [SV.den, SI.den, hoS, hst]⟩, .inr ⟨_, rfl, by simp [SV.den, SI.den, hoS, hst, ho3]⟩, .inr ⟨_, rfl, by simp [SV.den, SI.den, hoS, hst]⟩, .inr ⟨_, rfl, by simp [SV.den, SI.den, hoS, hst]⟩, .inr ⟨_, rfl, by simp [SV.den, SI.den, hoS, hst]⟩, trivial⟩, rfl, ⟨fun h => h, ⟨.inr ⟨_, rfl, by simp [SV.den, SI.den, hlS]⟩, .inr ⟨_, rfl, by simp [SV.den, SI.den, hlS]⟩, .inr ⟨_, rfl, by simp [SV.den, SI.den, hlS]⟩, .inr ⟨_, rfl, by simp [SV.den, SI.den, hlS]⟩, .inr ⟨_, rfl, by simp [SV.den, SI.den, hlS]⟩, .inr ⟨_, rfl, by simp [SV.den, SI.den, hlS]⟩, .inr ⟨_, rfl, by simp [SV.den, SI.den, hlS]⟩, .inr ⟨_, rfl, by simp [SV.den, SI.den, hlS]⟩, .inr ⟨_, rfl, by simp [SV.den, SI.den, hlS]⟩, trivial⟩, rfl, trivial⟩⟩
        · refine X.go T7_ok 400 _ rfl Try.results7 ?_
          conv => arg 2; cbv
          refine X.recell1 0 5 (.int .i64 (.lit 1)) rfl rfl (fun N _ v hv => ?_) ?_
          · rw [← hv]
            simp only [SV.den, SI.den, ho3]
            try rfl
          refine X.drawnO T7_ok noCall (idxS 128 _ [⟨7, 116, 117, 118, 71, i, .slv p' nE c', .own 2 0⟩]) rfl noCall_ok (idxS_ok _ (by kernel_rfl) (fun q hq => ?_)) 128 rfl ?_
          · simp only [List.mem_cons, List.mem_nil_iff, or_false] at hq
            rw [hq]
            exact good_slv Try.underlying71 Try.sizeOf93 hpi hlt hr
          generalize hfin : (fun s' => X (mkE Try.prog Try.f7 Q W (InR [] []) m' H.D (HistAt H) [p0, p1, ⟨b, z, 0⟩] B7) _ s') = fin
          conv => cbv
          repeat (first | refine ⟨rfl, ?_⟩ | refine ⟨⟨_, _, rfl, rfl⟩, ?_⟩ | refine ⟨⟨rfl, _, _, rfl, rfl⟩, ?_⟩)
          subst hfin
          show X _ _ _
          refine X.go T7_ok 400 _ rfl Try.results7 ?_
          conv => arg 2; cbv
          refine X.cond rfl (fun h => ?_) (fun _ => ?_)
          · exact absurd hs h
          refine X.go T7_ok 400 _ rfl Try.results7 ?_
          conv => arg 2; cbv
          refine X.back (fun N a w' hN hf hS => hq ⟨i + 1, by omega⟩ a w' (by show nE - (i + 1) < nE - i; omega) ?_)
          exact At.same ((Nums.le_append [p0, p1] [⟨b, z, 0⟩]).trans hN) hf hS (Nat.le_refl _) ⟨⟨_, rfl, .inl ⟨rfl, rfl⟩⟩, ⟨_, rfl, .inl ⟨rfl, rfl⟩⟩, ⟨_, rfl, .inl ⟨rfl, rfl⟩⟩, ⟨_, rfl, .inr ⟨_, rfl, by simp [SV.den, SI.den, hwrap64s i (by omega)]⟩⟩, trivial⟩
            ⟨fun h => h, ⟨.inr ⟨_, rfl, by simp [SV.den, SI.den, hoS, hst]⟩, .inr ⟨_, rfl, by simp [SV.den, SI.den, hoS, hst]⟩, .inr ⟨_, rfl, by simp [SV.den, SI.den, hoS, hst]⟩, .inr ⟨_, rfl, by simp [SV.den, SI.den, hoS, hst]⟩, .inr ⟨_, rfl, by simp [SV.den, SI.den, hoS, hst]⟩, .inr ⟨_, rfl, by simp [SV.den, SI.den, hoS, hst, ho3]⟩, .inr ⟨_, rfl, by simp [SV.den, SI.den, hoS, hst]⟩, .inr ⟨_, rfl, by simp [SV.den, SI.den, hoS, hst]⟩, .inr ⟨_, rfl, by simp [SV.den, SI.den, hoS, hst]⟩, trivial⟩, rfl, ⟨fun h => h, ⟨.inr ⟨_, rfl, by simp [SV.den, SI.den, hlS]⟩, .inr ⟨_, rfl, by simp [SV.den, SI.den, hlS]⟩, .inr ⟨_, rfl, by simp [SV.den, SI.den, hlS]⟩, .inr ⟨_, rfl, by simp [SV.den, SI.den, hlS]⟩, .inr ⟨_, rfl, by simp [SV.den, SI.den, hlS]⟩, .inr ⟨_, rfl, by simp [SV.den, SI.den, hlS]⟩, .inr ⟨_, rfl, by simp [SV.den, SI.den, hlS]⟩, .inr ⟨_, rfl, by simp [SV.den, SI.den, hlS]⟩, .inr ⟨_, rfl, by simp [SV.den, SI.den, hlS]⟩, trivial⟩, rfl, trivial⟩⟩
    · refine X.see b z [.int .u8 (.v e.nd), .int .u8 (.v e.k), .int .u8 (.v e.y), .int .u8 (.lit 6), .int .u64 (.v e.s), .int .i64 (.v e.a), .int .i64 (.v e.p), .int .i64 (.v e.r), .int .u8 (.v e.u), .int .u64 (.v e.i), .int .u64 (.v e.l), .int .i64 (.v e.at'), .int .i64 (.v e.en), .int .u8 (.v e.st), .int .i64 (.v e.re), .int .u64 (.v e.ri), .int .i64 (.v e.rs), .slv e.vp e.vn e.vc] (fun j d hj => ?_) (by show 0 < 18; omega) (fun N hNN hN => ?_)
      · have hd : SV.denL [] [.int .u8 (.v e.nd), .int .u8 (.v e.k), .int .u8 (.v e.y), .int .u8 (.lit 6), .int .u64 (.v e.s), .int .i64 (.v e.a), .int .i64 (.v e.p), .int .i64 (.v e.r), .int .u8 (.v e.u), .int .u64 (.v e.i), .int .u64 (.v e.l), .int .i64 (.v e.at'), .int .i64 (.v e.en), .int .u8 (.v e.st), .int .i64 (.v e.re), .int .u64 (.v e.ri), .int .i64 (.v e.rs), .slv e.vp e.vn e.vc] = some e.vals := by
          simp [SV.denL, SV.den, SI.den, Ent.vals, hcc]
        obtain ⟨v, h1, h2⟩ := (SV.denL_get _ hd).2 j d hj
        exact ⟨v, h1, hri' j v h2⟩
      obtain rfl : N = [p0, p1] := by
        have h0 := hNN 0 p0 rfl
        have h1 := hNN 1 p1 rfl
        match N, hN with
        | [a0, a1], _ => simp at h0 h1; subst h0; subst h1; rfl
      show X (mkE Try.prog Try.f7 Q W (InR [] []) m' H.D (HistAt H) [p0, p1, ⟨b, z, 0⟩] B7) _ _
      refine X.go T7_ok 400 _ rfl Try.results7 ?_
      conv => arg 2; cbv
      refine X.idxBy i (.own 2 0) rfl rfl rfl rfl rfl rfl (good_slv Try.underlying71 Try.sizeOf93 hpi hlt hr) rfl ?_
      refine X.go T7_ok 400 _ rfl Try.results7 ?_
      conv => arg 2; cbv
      refine X.idxBy i (.own 2 0) rfl rfl rfl rfl rfl rfl (good_slv Try.underlying71 Try.sizeOf93 hpi hlt hr) rfl ?_
      refine X.go T7_ok 400 _ rfl Try.results7 ?_
      conv => arg 2; cbv
      refine X.cond rfl (fun hst => ?_) (fun hst => ?_)
      · have hst : e.st = 0 := hst
        have ho3 := ho1 hst
        refine X.go T7_ok 400 _ rfl Try.results7 ?_
        conv => arg 2; cbv
        refine X.recell1 0 6 (.int .i64 (.lit 1)) rfl rfl (fun N _ v hv => ?_) ?_
        · rw [← hv]
          simp only [SV.den, SI.den, ho3]
          try rfl
        refine X.drawnO T7_ok noCall (idxS 128 _ [⟨7, 116, 117, 118, 71, i, .slv p' nE c', .own 2 0⟩]) rfl noCall_ok (idxS_ok _ (by kernel_rfl) (fun q hq => ?_)) 128 rfl ?_
        · simp only [List.mem_cons, List.mem_nil_iff, or_false] at hq
          rw [hq]
          exact good_slv Try.underlying71 Try.sizeOf93 hpi hlt hr
        generalize hfin : (fun s' => X (mkE Try.prog Try.f7 Q W (InR [] []) m' H.D (HistAt H) [p0, p1, ⟨b, z, 0⟩] B7) _ s') = fin
        conv => cbv
        repeat (first | refine ⟨rfl, ?_⟩ | refine ⟨⟨_, _, rfl, rfl⟩, ?_⟩ | refine ⟨⟨rfl, _, _, rfl, rfl⟩, ?_⟩)
        subst hfin
        show X _ _ _
        refine X.go T7_ok 400 _ rfl Try.results7 ?_
        conv => arg 2; cbv
        refine X.cond rfl (fun h => ?_) (fun _ => ?_)
        · exact absurd hs h
        refine X.go T7_ok 400 _ rfl Try.results7 ?_
        conv => arg 2; cbv
        refine X.back (fun N a w' hN hf hS => hq ⟨i + 1, by omega⟩ a w' (by show nE - (i + 1) < nE - i; omega) ?_)
        exact At.same ((Nums.le_append [p0, p1] [⟨b, z, 0⟩]).trans hN) hf hS (Nat.le_refl _) ⟨⟨_, rfl, .inl ⟨rfl, rfl⟩⟩, ⟨_, rfl, .inl ⟨rfl, rfl⟩⟩, ⟨_, rfl, .inl ⟨rfl, rfl⟩⟩, ⟨_, rfl, .inr ⟨_, rfl, by simp [SV.den, SI.den, hwrap64s i (by omega)]⟩⟩, trivial⟩
          ⟨fun h => h, ⟨.inr ⟨_, rfl, by simp [SV.den, SI.den, hoS, hst]⟩, .inr ⟨_, rfl, by simp [SV.den, SI.den, hoS, hst]⟩, .inr ⟨_, rfl, by simp [SV.den, SI.den, hoS, hst]⟩, .inr ⟨_, rfl, by simp [SV.den, SI.den, hoS, hst]⟩, .inr ⟨_, rfl, by simp [SV.den, SI.den, hoS, hst]⟩, .inr ⟨_, rfl, by simp [SV.den, SI.den, hoS, hst]⟩, .inr ⟨_, rfl, by simp [SV.den, SI.den, hoS, hst, ho3]⟩, .inr ⟨_, rfl, by simp [SV.den, SI.den, hoS, hst]⟩, .inr ⟨_, rfl, by simp [SV.den, SI.den, hoS, hst]⟩, trivial⟩, rfl, ⟨fun h => h, ⟨.inr ⟨_, rfl, by simp [SV.den, SI.den, hlS]⟩, .inr ⟨_, rfl, by simp [SV.den, SI.den, hlS]⟩, .inr ⟨_, rfl, by simp [SV.den, SI.den, hlS]⟩, .inr ⟨_, rfl, by simp [SV.den, SI.den, hlS]⟩, .inr ⟨_, rfl, by simp [SV.den, SI.den, hlS]⟩, .inr ⟨_, rfl, by simp [SV.den, SI.den, hlS]⟩, .inr ⟨_, rfl, by simp [SV.den, SI.den, hlS]⟩, .inr ⟨_, rfl, by simp [SV.den, SI.den, hlS]⟩, .inr ⟨_, rfl, by simp [SV.den, SI.den, hlS]⟩, trivial⟩, rfl, trivial⟩⟩
      · have hst : ¬ e.st = 0 := hst
        rcases ho2 with ho3 | ho3
        · refine X.go T7_ok 400 _ rfl Try.results7 ?_
          conv => arg 2; cbv
          refine X.recell1 0 6 (.int .i64 (.lit 0)) rfl rfl (fun N _ v hv => ?_) ?_
          · rw [← hv]
            simp only [SV.den, SI.den, ho3]
            try rfl
          refine X.drawnO T7_ok noCall (idxS 128 _ [⟨7, 116, 117, 118, 71, i, .slv p' nE c', .own 2 0⟩]) rfl noCall_ok (idxS_ok _ (by kernel_rfl) (fun q hq => ?_)) 128 rfl ?_
          · simp only [List.mem_cons, List.mem_nil_iff, or_false] at hq
            rw [hq]
            exact good_slv Try.underlying71 Try.sizeOf93 hpi hlt hr
          generalize hfin : (fun s' => X (mkE Try.prog Try.f7 Q W (InR [] []) m' H.D (HistAt H) [p0, p1, ⟨b, z, 0⟩] B7) _ s') = fin
          conv => cbv
          repeat (first | refine ⟨rfl, ?_⟩ | refine ⟨⟨_, _, rfl, rfl⟩, ?_⟩ | refine ⟨⟨rfl, _, _, rfl, rfl⟩, ?_⟩)
          subst hfin
          show X _ _ _
          refine X.go T7_ok 400 _ rfl Try.results7 ?_
          conv => arg 2; cbv
          refine X.cond rfl (fun h => ?_) (fun _ => ?_)
          · exact absurd hs h
          refine X.go T7_ok 400 _ rfl Try.results7 ?_
          conv => arg 2; cbv
          refine X.back (fun N a w' hN hf hS => hq ⟨i + 1, by omega⟩ a w' (by show nE - (i + 1) < nE - i; omega) ?_)
          exact At.same ((Nums.le_append [p0, p1] [⟨b, z, 0⟩]).trans hN) hf hS (Nat.le_refl _) ⟨⟨_, rfl, .inl ⟨rfl, rfl⟩⟩, ⟨_, rfl, .inl ⟨rfl, rfl⟩⟩, ⟨_, rfl, .inl ⟨rfl, rfl⟩⟩, ⟨_, rfl, .inr ⟨_, rfl, by simp [SV.den, SI.den, hwrap64s i (by omega)]⟩⟩, trivial⟩
            ⟨fun h => h, ⟨.inr ⟨_, rfl, by simp [SV.den, SI.den, hoS, hst]⟩, .inr ⟨_, rfl, by simp [SV.den, SI.den, hoS, hst]⟩, .inr ⟨_, rfl, by simp [SV.den, SI.den, hoS, hst]⟩, .inr ⟨_, rfl, by simp [SV.den, SI.den, hoS, hst]⟩, .inr ⟨_, rfl, by simp [SV.den, SI.den, hoS, hst]⟩, .inr ⟨_, rfl, by simp [SV.den, SI.den, hoS, hst]⟩, .inr ⟨_, rfl, by simp [SV.den, SI.den, hoS, hst, ho3]⟩, .inr ⟨_, rfl, by simp [SV.den, SI.den, hoS, hst]⟩, .inr ⟨_, rfl, by simp [SV.den, SI.den, hoS, hst]⟩, trivial⟩, rfl, ⟨fun h => h, ⟨.inr ⟨_, rfl, by simp [SV.den, SI.den, hlS]⟩, .inr ⟨_, rfl, by simp [SV.den, SI.den, hlS]⟩, .inr ⟨_, rfl, by simp [SV.den, SI.den, hlS]⟩, .inr ⟨_, rfl, by simp [SV.den, SI.den, hlS]⟩, .inr ⟨_, rfl, by simp [SV.den, SI.den, hlS]⟩, .inr ⟨_, rfl, by simp [SV.den, SI.den, hlS]⟩, .inr ⟨_, rfl, by simp [SV.den, SI.den, hlS]⟩, .inr ⟨_, rfl, by simp [SV.den, SI.den, hlS]⟩, .inr ⟨_, rfl, by simp [SV.den, SI.den, hlS]⟩, trivial⟩, rfl, trivial⟩⟩
        · refine X.go T7_ok 400 _ rfl Try.results7 ?_
          conv => arg 2; cbv
          refine X.recell1 0 6 (.int .i64 (.lit 1)) rfl rfl (fun N _ v hv => ?_) ?_
          · rw [← hv]
            simp only [SV.den, SI.den, ho3]
            try rfl
          refine X.drawnO T7_ok noCall (idxS 128 _ [⟨7, 116, 117, 118, 71, i, .slv p' nE c', .own 2 0⟩]) rfl noCall_ok (idxS_ok _ (by kernel_rfl) (fun q hq => ?_)) 128 rfl ?_
          · simp only [List.mem_cons, List.mem_nil_iff, or_false] at hq
            rw [hq]
            exact good_slv Try.underlying71 Try.sizeOf93 hpi hlt hr
          generalize hfin : (fun s' => X (mkE Try.prog Try.f7 Q W (InR [] []) m' H.D (HistAt H) [p0, p1, ⟨b, z, 0⟩] B7) _ s') = fin
          conv => cbv
          repeat (first | refine ⟨rfl, ?_⟩ | refine ⟨⟨_, _, rfl, rfl⟩, ?_⟩ | refine ⟨⟨rfl, _, _, rfl, rfl⟩, ?_⟩)
          subst hfin
          show X _ _ _
          refine X.go T7_ok 400 _ rfl Try.results7 ?_
          conv => arg 2; cbv
          refine X.cond rfl (fun h => ?_) (fun _ => ?_)
          · exact absurd hs h
          refine X.go T7_ok 400 _ rfl Try.results7 ?_
          conv => arg 2; cbv
          refine X.back (fun N a w' hN hf hS => hq ⟨i + 1, by omega⟩ a w' (by show nE - (i + 1) < nE - i; omega) ?_)
          exact At.same ((Nums.le_append [p0, p1] [⟨b, z, 0⟩]).trans hN) hf hS (Nat.le_refl _) ⟨⟨_, rfl, .inl ⟨rfl, rfl⟩⟩, ⟨_, rfl, .inl ⟨rfl, rfl⟩⟩, ⟨_, rfl, .inl ⟨rfl, rfl⟩⟩, ⟨_, rfl, .inr ⟨_, rfl, by simp [SV.den, SI.den, hwrap64s i (by omega)]⟩⟩, trivial⟩
            ⟨fun h => h, ⟨.inr ⟨_, rfl, by simp [SV.den, SI.den, hoS, hst]⟩, .inr ⟨_, rfl, by simp [SV.den, SI.den, hoS, hst]⟩, .inr ⟨_, rfl, by simp [SV.den, SI.den, hoS, hst]⟩, .inr ⟨_, rfl, by simp [SV.den, SI.den, hoS, hst]⟩, .inr ⟨_, rfl, by simp [SV.den, SI.den, hoS, hst]⟩, .inr ⟨_, rfl, by simp [SV.den, SI.den, hoS, hst]⟩, .inr ⟨_, rfl, by simp [SV.den, SI.den, hoS, hst, ho3]⟩, .inr ⟨_, rfl, by simp [SV.den, SI.den, hoS, hst]⟩, .inr ⟨_, rfl, by simp [SV.den, SI.den, hoS, hst]⟩, trivial⟩, rfl, ⟨fun h => h, ⟨.inr ⟨_, rfl, by simp [SV.den, SI.den, hlS]⟩, .inr ⟨_, rfl, by simp [SV.den, SI.den, hlS]⟩, .inr ⟨_, rfl, by simp [SV.den, SI.den, hlS]⟩, .inr ⟨_, rfl, by simp [SV.den, SI.den, hlS]⟩, .inr ⟨_, rfl, by simp [SV.den, SI.den, hlS]⟩, .inr ⟨_, rfl, by simp [SV.den, SI.den, hlS]⟩, .inr ⟨_, rfl, by simp [SV.den, SI.den, hlS]⟩, .inr ⟨_, rfl, by simp [SV.den, SI.den, hlS]⟩, .inr ⟨_, rfl, by simp [SV.den, SI.den, hlS]⟩, trivial⟩, rfl, trivial⟩⟩
    · refine X.see b z [.int .u8 (.v e.nd), .int .u8 (.v e.k), .int .u8 (.v e.y), .int .u8 (.lit 7), .int .u64 (.v e.s), .int .i64 (.v e.a), .int .i64 (.v e.p), .int .i64 (.v e.r), .int .u8 (.v e.u), .int .u64 (.v e.i), .int .u64 (.v e.l), .int .i64 (.v e.at'), .int .i64 (.v e.en), .int .u8 (.v e.st), .int .i64 (.v e.re), .int .u64 (.v e.ri), .int .i64 (.v e.rs), .slv e.vp e.vn e.vc] (fun j d hj => ?_) (by show 0 < 18; omega) (fun N hNN hN => ?_)
      · have hd : SV.denL [] [.int .u8 (.v e.nd), .int .u8 (.v e.k), .int .u8 (.v e.y), .int .u8 (.lit 7), .int .u64 (.v e.s), .int .i64 (.v e.a), .int .i64 (.v e.p), .int .i64 (.v e.r), .int .u8 (.v e.u), .int .u64 (.v e.i), .int .u64 (.v e.l), .int .i64 (.v e.at'), .int .i64 (.v e.en), .int .u8 (.v e.st), .int .i64 (.v e.re), .int .u64 (.v e.ri), .int .i64 (.v e.rs), .slv e.vp e.vn e.vc] = some e.vals := by
          simp [SV.denL, SV.den, SI.den, Ent.vals, hcc]
        obtain ⟨v, h1, h2⟩ := (SV.denL_get _ hd).2 j d hj
        exact ⟨v, h1, hri' j v h2⟩
      obtain rfl : N = [p0, p1] := by
        have h0 := hNN 0 p0 rfl
        have h1 := hNN 1 p1 rfl
        match N, hN with
        | [a0, a1], _ => simp at h0 h1; subst h0; subst h1; rfl
      show X (mkE Try.prog Try.f7 Q W (InR [] []) m' H.D (HistAt H) [p0, p1, ⟨b, z, 0⟩] B7) _ _
      refine X.go T7_ok 400 _ rfl Try.results7 ?_
      conv => arg 2; cbv
      refine X.idxBy i (.own 2 0) rfl rfl rfl rfl rfl rfl (good_slv Try.underlying71 Try.sizeOf93 hpi hlt hr) rfl ?_
      refine X.go T7_ok 400 _ rfl Try.results7 ?_
      conv => arg 2; cbv
      refine X.idxBy i (.own 2 0) rfl rfl rfl rfl rfl rfl (good_slv Try.underlying71 Try.sizeOf93 hpi hlt hr) rfl ?_
      refine X.go T7_ok 400 _ rfl Try.results7 ?_
      conv => arg 2; cbv
      refine X.cond rfl (fun hst => ?_) (fun hst => ?_)
      · have hst : e.st = 0 := hst
        have ho3 := ho1 hst
        refine X.go T7_ok 400 _ rfl Try.results7 ?_
        conv => arg 2; cbv
        refine X.recell1 0 7 (.int .i64 (.lit 1)) rfl rfl (fun N _ v hv => ?_) ?_
        · rw [← hv]
          simp only [SV.den, SI.den, ho3]
          try rfl
        refine X.drawnO T7_ok noCall (idxS 128 _ [⟨7, 116, 117, 118, 71, i, .slv p' nE c', .own 2 0⟩]) rfl noCall_ok (idxS_ok _ (by kernel_rfl) (fun q hq => ?_)) 128 rfl ?_
        · simp only [List.mem_cons, List.mem_nil_iff, or_false] at hq
          rw [hq]
          exact good_slv Try.underlying71 Try.sizeOf93 hpi hlt hr
        generalize hfin : (fun s' => X (mkE Try.prog Try.f7 Q W (InR [] []) m' H.D (HistAt H) [p0, p1, ⟨b, z, 0⟩] B7) _ s') = fin
        conv => cbv
        repeat (first | refine ⟨rfl, ?_⟩ | refine ⟨⟨_, _, rfl, rfl⟩, ?_⟩ | refine ⟨⟨rfl, _, _, rfl, rfl⟩, ?_⟩)
        subst hfin
        show X _ _ _
        refine X.go T7_ok 400 _ rfl Try.results7 ?_
        conv => arg 2; cbv
        refine X.cond rfl (fun h => ?_) (fun _ => ?_)
        · exact absurd hs h
        refine X.go T7_ok 400 _ rfl Try.results7 ?_
        conv => arg 2; cbv
        refine X.back (fun N a w' hN hf hS => hq ⟨i + 1, by omega⟩ a w' (by show nE - (i + 1) < nE - i; omega) ?_)
        exact At.same ((Nums.le_append [p0, p1] [⟨b, z, 0⟩]).trans hN) hf hS (Nat.le_refl _) ⟨⟨_, rfl, .inl ⟨rfl, rfl⟩⟩, ⟨_, rfl, .inl ⟨rfl, rfl⟩⟩, ⟨_, rfl, .inl ⟨rfl, rfl⟩⟩, ⟨_, rfl, .inr ⟨_, rfl, by simp [SV.den, SI.den, hwrap64s i (by omega)]⟩⟩, trivial⟩
          ⟨fun h => h, ⟨.inr ⟨_, rfl, by simp [SV.den, SI.den, hoS, hst]⟩, .inr ⟨_, rfl, by simp [SV.den, SI.den, hoS, hst]⟩, .inr ⟨_, rfl, by simp [SV.den, SI.den, hoS, hst]⟩, .inr ⟨_, rfl, by simp [SV.den, SI.den, hoS, hst]⟩, .inr ⟨_, rfl, by simp [SV.den, SI.den, hoS, hst]⟩, .inr ⟨_, rfl, by simp [SV.den, SI.den, hoS, hst]⟩, .inr ⟨_, rfl, by simp [SV.den, SI.den, hoS, hst]⟩, .inr ⟨_, rfl, by simp [SV.den, SI.den, hoS, hst, ho3]⟩, .inr ⟨_, rfl, by simp [SV.den, SI.den, hoS, hst]⟩, trivial⟩, rfl, ⟨fun h => h, ⟨.inr ⟨_, rfl, by simp [SV.den, SI.den, hlS]⟩, .inr ⟨_, rfl, by simp [SV.den, SI.den, hlS]⟩, .inr ⟨_, rfl, by simp [SV.den, SI.den, hlS]⟩, .inr ⟨_, rfl, by simp [SV.den, SI.den, hlS]⟩, .inr ⟨_, rfl, by simp [SV.den, SI.den, hlS]⟩, .inr ⟨_, rfl, by simp [SV.den, SI.den, hlS]⟩, .inr ⟨_, rfl, by simp [SV.den, SI.den, hlS]⟩, .inr ⟨_, rfl, by simp [SV.den, SI.den, hlS]⟩, .inr ⟨_, rfl, by simp [SV.den, SI.den, hlS]⟩, trivial⟩, rfl, trivial⟩⟩
      · have hst : ¬ e.st = 0 := hst
        rcases ho2 with ho3 | ho3
        · refine X.go T7_ok 400 _ rfl Try.results7 ?_
          conv => arg 2; cbv
          refine X.recell1 0 7 (.int .i64 (.lit 0)) rfl rfl (fun N _ v hv => ?_) ?_
          · rw [← hv]
            simp only [SV.den, SI.den, ho3]
            try rfl
          refine X.drawnO T7_ok noCall (idxS 128 _ [⟨7, 116, 117, 118, 71, i, .slv p' nE c', .own 2 0⟩]) rfl noCall_ok (idxS_ok _ (by kernel_rfl) (fun q hq => ?_)) 128 rfl ?_
          · simp only [List.mem_cons, List.mem_nil_iff, or_false] at hq
            rw [hq]
            exact good_slv Try.underlying71 Try.sizeOf93 hpi hlt hr
          generalize hfin : (fun s' => X (mkE Try.prog Try.f7 Q W (InR [] []) m' H.D (HistAt H) [p0, p1, ⟨b, z, 0⟩] B7) _ s') = fin
          conv => cbv
          repeat (first | refine ⟨rfl, ?_⟩ | refine ⟨⟨_, _, rfl, rfl⟩, ?_⟩ | refine ⟨⟨rfl, _, _, rfl, rfl⟩, ?_⟩)
          subst hfin
          show X _ _ _
          refine X.go T7_ok 400 _ rfl Try.results7 ?_
          conv => arg 2; cbv
          refine X.cond rfl (fun h => ?_) (fun _ => ?_)
          · exact absurd hs h
          refine X.go T7_ok 400 _ rfl Try.results7 ?_
          conv => arg 2; cbv
          refine X.back (fun N a w' hN hf hS => hq ⟨i + 1, by omega⟩ a w' (by show nE - (i + 1) < nE - i; omega) ?_)
          exact At.same ((Nums.le_append [p0, p1] [⟨b, z, 0⟩]).trans hN) hf hS (Nat.le_refl _) ⟨⟨_, rfl, .inl ⟨rfl, rfl⟩⟩, ⟨_, rfl, .inl ⟨rfl, rfl⟩⟩, ⟨_, rfl, .inl ⟨rfl, rfl⟩⟩, ⟨_, rfl, .inr ⟨_, rfl, by simp [SV.den, SI.den, hwrap64s i (by omega)]⟩⟩, trivial⟩
            ⟨fun h => h, ⟨.inr ⟨_, rfl, by simp [SV.den, SI.den, hoS, hst]⟩, .inr ⟨_, rfl, by simp [SV.den, SI.den, hoS, hst]⟩, .inr ⟨_, rfl, by simp [SV.den, SI.den, hoS, hst]⟩, .inr ⟨_, rfl, by simp [SV.den, SI.den, hoS, hst]⟩, .inr ⟨_, rfl, by simp [SV.den, SI.den, hoS, hst]⟩, .inr ⟨_, rfl, by simp [SV.den, SI.den, hoS, hst]⟩, .inr ⟨_, rfl, by simp [SV.den, SI.den, hoS, hst]⟩, .inr ⟨_, rfl, by simp [SV.den, SI.den, hoS, hst, ho3]⟩, .inr ⟨_, rfl, by simp [SV.den, SI.den, hoS, hst]⟩, trivial⟩, rfl, ⟨fun h => h, ⟨.inr ⟨_, rfl, by simp [SV.den, SI.den, hlS]⟩, .inr ⟨_, rfl, by simp [SV.den, SI.den, hlS]⟩, .inr ⟨_, rfl, by simp [SV.den, SI.den, hlS]⟩, .inr ⟨_, rfl, by simp [SV.den, SI.den, hlS]⟩, .inr ⟨_, rfl, by simp [SV.den, SI.den, hlS]⟩, .inr ⟨_, rfl, by simp [SV.den, SI.den, hlS]⟩, .inr ⟨_, rfl, by simp [SV.den, SI.den, hlS]⟩, .inr ⟨_, rfl, by simp [SV.den, SI.den, hlS]⟩, .inr ⟨_, rfl, by simp [SV.den, SI.den, hlS]⟩, trivial⟩, rfl, trivial⟩⟩
        · refine X.go T7_ok 400 _ rfl Try.results7 ?_
          conv => arg 2; cbv
          refine X.recell1 0 7 (.int .i64 (.lit 1)) rfl rfl (fun N _ v hv => ?_) ?_
          · rw [← hv]
            simp only [SV.den, SI.den, ho3]
            try rfl
          refine X.drawnO T7_ok noCall (idxS 128 _ [⟨7, 116, 117, 118, 71, i, .slv p' nE c', .own 2 0⟩]) rfl noCall_ok (idxS_ok _ (by kernel_rfl) (fun q hq => ?_)) 128 rfl ?_
          · simp only [List.mem_cons, List.mem_nil_iff, or_false] at hq
            rw [hq]
            exact good_slv Try.underlying71 Try.sizeOf93 hpi hlt hr
          generalize hfin : (fun s' => X (mkE Try.prog Try.f7 Q W (InR [] []) m' H.D (HistAt H) [p0, p1, ⟨b, z, 0⟩] B7) _ s') = fin
          conv => cbv
          repeat (first | refine ⟨rfl, ?_⟩ | refine ⟨⟨_, _, rfl, rfl⟩, ?_⟩ | refine ⟨⟨rfl, _, _, rfl, rfl⟩, ?_⟩)
          subst hfin
          show X _ _ _
          refine X.go T7_ok 400 _ rfl Try.results7 ?_
          conv => arg 2; cbv
          refine X.cond rfl (fun h => ?_) (fun _ => ?_)
          · exact absurd hs h
          refine X.go T7_ok 400 _ rfl Try.results7 ?_
          conv => arg 2; cbv
          refine X.back (fun N a w' hN hf hS => hq ⟨i + 1, by omega⟩ a w' (by show nE - (i + 1) < nE - i; omega) ?_)
          exact At.same ((Nums.le_append [p0, p1] [⟨b, z, 0⟩]).trans hN) hf hS (Nat.le_refl _) ⟨⟨_, rfl, .inl ⟨rfl, rfl⟩⟩, ⟨_, rfl, .inl ⟨rfl, rfl⟩⟩, ⟨_, rfl, .inl ⟨rfl, rfl⟩⟩, ⟨_, rfl, .inr ⟨_, rfl, by simp [SV.den, SI.den, hwrap64s i (by omega)]⟩⟩, trivial⟩
            ⟨fun h => h, ⟨.inr ⟨_, rfl, by simp [SV.den, SI.den, hoS, hst]⟩, .inr ⟨_, rfl, by simp [SV.den, SI.den, hoS, hst]⟩, .inr ⟨_, rfl, by simp [SV.den, SI.den, hoS, hst]⟩, .inr ⟨_, rfl, by simp [SV.den, SI.den, hoS, hst]⟩, .inr ⟨_, rfl, by simp [SV.den, SI.den, hoS, hst]⟩, .inr ⟨_, rfl, by simp [SV.den, SI.den, hoS, hst]⟩, .inr ⟨_, rfl, by simp [SV.den, SI.den, hoS, hst]⟩, .inr ⟨_, rfl, by simp [SV.den, SI.den, hoS, hst, ho3]⟩, .inr ⟨_, rfl, by simp [SV.den, SI.den, hoS, hst]⟩, trivial⟩, rfl, ⟨fun h => h, ⟨.inr ⟨_, rfl, by simp [SV.den, SI.den, hlS]⟩, .inr ⟨_, rfl, by simp [SV.den, SI.den, hlS]⟩, .inr ⟨_, rfl, by simp [SV.den, SI.den, hlS]⟩, .inr ⟨_, rfl, by simp [SV.den, SI.den, hlS]⟩, .inr ⟨_, rfl, by simp [SV.den, SI.den, hlS]⟩, .inr ⟨_, rfl, by simp [SV.den, SI.den, hlS]⟩, .inr ⟨_, rfl, by simp [SV.den, SI.den, hlS]⟩, .inr ⟨_, rfl, by simp [SV.den, SI.den, hlS]⟩, .inr ⟨_, rfl, by simp [SV.den, SI.den, hlS]⟩, trivial⟩, rfl, trivial⟩⟩
    · refine X.see b z [.int .u8 (.v e.nd), .int .u8 (.v e.k), .int .u8 (.v e.y), .int .u8 (.lit 8), .int .u64 (.v e.s), .int .i64 (.v e.a), .int .i64 (.v e.p), .int .i64 (.v e.r), .int .u8 (.v e.u), .int .u64 (.v e.i), .int .u64 (.v e.l), .int .i64 (.v e.at'), .int .i64 (.v e.en), .int .u8 (.v e.st), .int .i64 (.v e.re), .int .u64 (.v e.ri), .int .i64 (.v e.rs), .slv e.vp e.vn e.vc] (fun j d hj => ?_) (by show 0 < 18; omega) (fun N hNN hN => ?_)
      · have hd : SV.denL [] [.int .u8 (.v e.nd), .int .u8 (.v e.k), .int .u8 (.v e.y), .int .u8 (.lit 8), .int .u64 (.v e.s), .int .i64 (.v e.a), .int .i64 (.v e.p), .int .i64 (.v e.r), .int .u8 (.v e.u), .int .u64 (.v e.i), .int .u64 (.v e.l), .int .i64 (.v e.at'), .int .i64 (.v e.en), .int .u8 (.v e.st), .int .i64 (.v e.re), .int .u64 (.v e.ri), .int .i64 (.v e.rs), .slv e.vp e.vn e.vc] = some e.vals := by
          simp [SV.denL, SV.den, SI.den, Ent.vals, hcc]
        obtain ⟨v, h1, h2⟩ := (SV.denL_get _ hd).2 j d hj
        exact ⟨v, h1, hri' j v h2⟩
      obtain rfl : N = [p0, p1] := by
        have h0 := hNN 0 p0 rfl
        have h1 := hNN 1 p1 rfl
        match N, hN with
        | [a0, a1], _ => simp at h0 h1; subst h0; subst h1; rfl
      show X (mkE Try.prog Try.f7 Q W (InR [] []) m' H.D (HistAt H) [p0, p1, ⟨b, z, 0⟩] B7) _ _
      refine X.go T7_ok 400 _ rfl Try.results7 ?_
      conv => arg 2; cbv
      refine X.idxBy i (.own 2 0) rfl rfl rfl rfl rfl rfl (good_slv Try.underlying71 Try.sizeOf93 hpi hlt hr) rfl ?_
      refine X.go T7_ok 400 _ rfl Try.results7 ?_
      conv => arg 2; cbv
      refine X.idxBy i (.own 2 0) rfl rfl rfl rfl rfl rfl (good_slv Try.underlying71 Try.sizeOf93 hpi hlt hr) rfl ?_
      refine X.go T7_ok 400 _ rfl Try.results7 ?_
      conv => arg 2; cbv
      refine X.cond rfl (fun hst => ?_) (fun hst => ?_)
      · have hst : e.st = 0 := hst
        have ho3 := ho1 hst
        refine X.go T7_ok 400 _ rfl Try.results7 ?_
        conv => arg 2; cbv
        refine X.recell1 0 8 (.int .i64 (.lit 1)) rfl rfl (fun N _ v hv => ?_) ?_
        · rw [← hv]
          simp only [SV.den, SI.den, ho3]
          try rfl
        refine X.drawnO T7_ok noCall (idxS 128 _ [⟨7, 116, 117, 118, 71, i, .slv p' nE c', .own 2 0⟩]) rfl noCall_ok (idxS_ok _ (by kernel_rfl) (fun q hq => ?_)) 128 rfl ?_
        · simp only [List.mem_cons, List.mem_nil_iff, or_false] at hq
          rw [hq]
          exact good_slv Try.underlying71 Try.sizeOf93 hpi hlt hr
        generalize hfin : (fun s' => X (mkE Try.prog Try.f7 Q W (InR [] []) m' H.D (HistAt H) [p0, p1, ⟨b, z, 0⟩] B7) _ s') = fin
        conv => cbv
        repeat (first | refine ⟨rfl, ?_⟩ | refine ⟨⟨_, _, rfl, rfl⟩, ?_⟩ | refine ⟨⟨rfl, _, _, rfl, rfl⟩, ?_⟩)
        subst hfin
        show X _ _ _
        refine X.go T7_ok 400 _ rfl Try.results7 ?_
        conv => arg 2; cbv
        refine X.cond rfl (fun h => ?_) (fun _ => ?_)
        · exact absurd hs h
        refine X.go T7_ok 400 _ rfl Try.results7 ?_
        conv => arg 2; cbv
        refine X.back (fun N a w' hN hf hS => hq ⟨i + 1, by omega⟩ a w' (by show nE - (i + 1) < nE - i; omega) ?_)
        exact At.same ((Nums.le_append [p0, p1] [⟨b, z, 0⟩]).trans hN) hf hS (Nat.le_refl _) ⟨⟨_, rfl, .inl ⟨rfl, rfl⟩⟩, ⟨_, rfl, .inl ⟨rfl, rfl⟩⟩, ⟨_, rfl, .inl ⟨rfl, rfl⟩⟩, ⟨_, rfl, .inr ⟨_, rfl, by simp [SV.den, SI.den, hwrap64s i (by omega)]⟩⟩, trivial⟩
          ⟨fun h => h, ⟨.inr ⟨_, rfl, by simp [SV.den, SI.den, hoS, hst]⟩, .inr ⟨_, rfl, by simp [SV.den, SI.den, hoS, hst]⟩, .inr ⟨_, rfl, by simp [SV.den, SI.den, hoS, hst]⟩, .inr ⟨_, rfl, by simp [SV.den, SI.den, hoS, hst]⟩, .inr ⟨_, rfl, by simp [SV.den, SI.den, hoS, hst]⟩, .inr ⟨_, rfl, by simp [SV.den, SI.den, hoS, hst]⟩, .inr ⟨_, rfl, by simp [SV.den, SI.den, hoS, hst]⟩, .inr ⟨_, rfl, by simp [SV.den, SI.den, hoS, hst]⟩, .inr ⟨_, rfl, by simp [SV.den, SI.den, hoS, hst, ho3]⟩, trivial⟩, rfl, ⟨fun h => h, ⟨.inr ⟨_, rfl, by simp [SV.den, SI.den, hlS]⟩, .inr ⟨_, rfl, by simp [SV.den, SI.den, hlS]⟩, .inr ⟨_, rfl, by simp [SV.den, SI.den, hlS]⟩, .inr ⟨_, rfl, by simp [SV.den, SI.den, hlS]⟩, .inr ⟨_, rfl, by simp [SV.den, SI.den, hlS]⟩, .inr ⟨_, rfl, by simp [SV.den, SI.den, hlS]⟩, .inr ⟨_, rfl, by simp [SV.den, SI.den, hlS]⟩, .inr ⟨_, rfl, by simp [SV.den, SI.den, hlS]⟩, .inr ⟨_, rfl, by simp [SV.den, SI.den, hlS]⟩, trivial⟩, rfl, trivial⟩⟩
      · have hst : ¬ e.st = 0 := hst
        rcases ho2 with ho3 | ho3
        · refine X.go T7_ok 400 _ rfl Try.results7 ?_
          conv => arg 2; cbv
          refine X.recell1 0 8 (.int .i64 (.lit 0)) rfl rfl (fun N _ v hv => ?_) ?_
          · rw [← hv]
            simp only [SV.den, SI.den, ho3]
            try rfl
          refine X.drawnO T7_ok noCall (idxS 128 _ [⟨7, 116, 117, 118, 71, i, .slv p' nE c', .own 2 0⟩]) rfl noCall_ok (idxS_ok _ (by kernel_rfl) (fun q hq => ?_)) 128 rfl ?_
          · simp only [List.mem_cons, List.mem_nil_iff, or_false] at hq
            rw [hq]
            exact good_slv Try.underlying71 Try.sizeOf93 hpi hlt hr
          generalize hfin : (fun s' => X (mkE Try.prog Try.f7 Q W (InR [] []) m' H.D (HistAt H) [p0, p1, ⟨b, z, 0⟩] B7) _ s') = fin
          conv => cbv
          repeat (first | refine ⟨rfl, ?_⟩ | refine ⟨⟨_, _, rfl, rfl⟩, ?_⟩ | refine ⟨⟨rfl, _, _, rfl, rfl⟩, ?_⟩)
          subst hfin
          show X _ _ _
          refine X.go T7_ok 400 _ rfl Try.results7 ?_
          conv => arg 2; cbv
          refine X.cond rfl (fun h => ?_) (fun _ => ?_)
          · exact absurd hs h
          refine X.go T7_ok 400 _ rfl Try.results7 ?_
          conv => arg 2; cbv
          refine X.back (fun N a w' hN hf hS => hq ⟨i + 1, by omega⟩ a w' (by show nE - (i + 1) < nE - i; omega) ?_)
          exact At.same ((Nums.le_append [p0, p1] [⟨b, z, 0⟩]).trans hN) hf hS (Nat.le_refl _) ⟨⟨_, rfl, .inl ⟨rfl, rfl⟩⟩, ⟨_, rfl, .inl ⟨rfl, rfl⟩⟩, ⟨_, rfl, .inl ⟨rfl, rfl⟩⟩, ⟨_, rfl, .inr ⟨_, rfl, by simp [SV.den, SI.den, hwrap64s i (by omega)]⟩⟩, trivial⟩
            ⟨fun h => h, ⟨.inr ⟨_, rfl, by simp [SV.den, SI.den, hoS, hst]⟩, .inr ⟨_, rfl, by simp [SV.den, SI.den, hoS, hst]⟩, .inr ⟨_, rfl, by simp [SV.den, SI.den, hoS, hst]⟩, .inr ⟨_, rfl, by simp [SV.den, SI.den, hoS, hst]⟩, .inr ⟨_, rfl, by simp [SV.den, SI.den, hoS, hst]⟩, .inr ⟨_, rfl, by simp [SV.den, SI.den, hoS, hst]⟩, .inr ⟨_, rfl, by simp [SV.den, SI.den, hoS, hst]⟩, .inr ⟨_, rfl, by simp [SV.den, SI.den, hoS, hst]⟩, .inr ⟨_, rfl, by simp [SV.den, SI.den, hoS, hst, ho3]⟩, trivial⟩, rfl, ⟨fun h => h, ⟨.inr ⟨_, rfl, by simp [SV.den, SI.den, hlS]⟩, .inr ⟨_, rfl, by simp [SV.den, SI.den, hlS]⟩, .inr ⟨_, rfl, by simp [SV.den, SI.den, hlS]⟩, .inr ⟨_, rfl, by simp [SV.den, SI.den, hlS]⟩, .inr ⟨_, rfl, by simp [SV.den, SI.den, hlS]⟩, .inr ⟨_, rfl, by simp [SV.den, SI.den, hlS]⟩, .inr ⟨_, rfl, by simp [SV.den, SI.den, hlS]⟩, .inr ⟨_, rfl, by simp [SV.den, SI.den, hlS]⟩, .inr ⟨_, rfl, by simp [SV.den, SI.den, hlS]⟩, trivial⟩, rfl, trivial⟩⟩
        · refine X.go T7_ok 400 _ rfl Try.results7 ?_
          conv => arg 2; cbv
          refine X.recell1 0 8 (.int .i64 (.lit 1)) rfl rfl (fun N _ v hv => ?_) ?_
          · rw [← hv]
            simp only [SV.den, SI.den, ho3]
            try rfl
          refine X.drawnO T7_ok noCall (idxS 128 _ [⟨7, 116, 117, 118, 71, i, .slv p' nE c', .own 2 0⟩]) rfl noCall_ok (idxS_ok _ (by kernel_rfl) (fun q hq => ?_)) 128 rfl ?_
          · simp only [List.mem_cons, List.mem_nil_iff, or_false] at hq
            rw [hq]
            exact good_slv Try.underlying71 Try.sizeOf93 hpi hlt hr
          generalize hfin : (fun s' => X (mkE Try.prog Try.f7 Q W (InR [] []) m' H.D (HistAt H) [p0, p1, ⟨b, z, 0⟩] B7) _ s') = fin
          conv => cbv
          repeat (first | refine ⟨rfl, ?_⟩ | refine ⟨⟨_, _, rfl, rfl⟩, ?_⟩ | refine ⟨⟨rfl, _, _, rfl, rfl⟩, ?_⟩)
          subst hfin
          show X _ _ _
          refine X.go T7_ok 400 _ rfl Try.results7 ?_
          conv => arg 2; cbv
          refine X.cond rfl (fun h => ?_) (fun _ => ?_)
          · exact absurd hs h
          refine X.go T7_ok 400 _ rfl Try.results7 ?_
          conv => arg 2; cbv
          refine X.back (fun N a w' hN hf hS => hq ⟨i + 1, by omega⟩ a w' (by show nE - (i + 1) < nE - i; omega) ?_)
          exact At.same ((Nums.le_append [p0, p1] [⟨b, z, 0⟩]).trans hN) hf hS (Nat.le_refl _) ⟨⟨_, rfl, .inl ⟨rfl, rfl⟩⟩, ⟨_, rfl, .inl ⟨rfl, rfl⟩⟩, ⟨_, rfl, .inl ⟨rfl, rfl⟩⟩, ⟨_, rfl, .inr ⟨_, rfl, by simp [SV.den, SI.den, hwrap64s i (by omega)]⟩⟩, trivial⟩
            ⟨fun h => h, ⟨.inr ⟨_, rfl, by simp [SV.den, SI.den, hoS, hst]⟩, .inr ⟨_, rfl, by simp [SV.den, SI.den, hoS, hst]⟩, .inr ⟨_, rfl, by simp [SV.den, SI.den, hoS, hst]⟩, .inr ⟨_, rfl, by simp [SV.den, SI.den, hoS, hst]⟩, .inr ⟨_, rfl, by simp [SV.den, SI.den, hoS, hst]⟩, .inr ⟨_, rfl, by simp [SV.den, SI.den, hoS, hst]⟩, .inr ⟨_, rfl, by simp [SV.den, SI.den, hoS, hst]⟩, .inr ⟨_, rfl, by simp [SV.den, SI.den, hoS, hst]⟩, .inr ⟨_, rfl, by simp [SV.den, SI.den, hoS, hst, ho3]⟩, trivial⟩, rfl, ⟨fun h => h, ⟨.inr ⟨_, rfl, by simp [SV.den, SI.den, hlS]⟩, .inr ⟨_, rfl, by simp [SV.den, SI.den, hlS]⟩, .inr ⟨_, rfl, by simp [SV.den, SI.den, hlS]⟩, .inr ⟨_, rfl, by simp [SV.den, SI.den, hlS]⟩, .inr ⟨_, rfl, by simp [SV.den, SI.den, hlS]⟩, .inr ⟨_, rfl, by simp [SV.den, SI.den, hlS]⟩, .inr ⟨_, rfl, by simp [SV.den, SI.den, hlS]⟩, .inr ⟨_, rfl, by simp [SV.den, SI.den, hlS]⟩, .inr ⟨_, rfl, by simp [SV.den, SI.den, hlS]⟩, trivial⟩, rfl, trivial⟩⟩
  refine X.go T7_ok 400 _ rfl Try.results7 ?_
  conv => arg 2; cbv
  refine X.call rfl rfl rfl rfl Try.call26 (fun N w1 args hN hS ha => ?_)
  have ha' : [] = args := Option.some.inj (ha ▸ rfl : some _ = some args)
  subst ha'
  refine (awake_ok w1).mono fun e w' ⟨he, hc⟩ => ⟨_, he, Goes.same (r := .bool (.lit true)) hN hS hc rfl rfl ?_⟩
  refine X.go T7_ok 400 _ rfl Try.results7 ?_
  conv => arg 2; cbv
  refine X.done T7_ok rfl (fun N w' v hN hS hv => ?_)
  simp [resV, SV.den, SB.den] at hv
  rw [hQ]
  exact ⟨by rw [← hv], hS.chg.none⟩

end Go.Proofs.Ytcfghkiokdbhjaa
