/- HistoryPlays: the walk. (Printed by genPlays.py.) -/
import Derived.Test.YtcfghkiokdbhjaaHi17
import Derived.Test.YtcfghkiokdbhjaaHiA

namespace Go.Proofs.Ytcfghkiokdbhjaa
open Go.Eng

set_option maxHeartbeats 40000000 in
set_option maxRecDepth 100000 in
set_option cbv.maxSteps 100000000 in
theorem plays_ok (po : Option Addr) (n cp : Nat) (W : World) (hl : HActsAt po n W) :
    Calls Try.prog 6 #[.slice po n cp] W fun e w' => e = .returned (.bool true) ∧ Chg (fun _ _ => False) W w' := by
  obtain ⟨Q, hQ⟩ : ∃ Q : Ending → World → Prop, Q = fun e w' => e = .returned (.bool true) ∧ Chg (fun _ _ => False) W w' := ⟨_, rfl⟩
  rw [← hQ]
  refine X.begin (rg := []) (N := []) (ss := [.slv po n cp]) Try.func6 rfl B6_ok rfl rfl Sat.std0 ?_
  refine X.go T6_ok 400 _ rfl Try.results6 ?_
  conv => arg 2; cbv
  refine X.call rfl rfl rfl rfl Try.call25 (fun N w1 args hN hS ha => ?_)
  have ha' : [Value.slice po n cp] = args := Option.some.inj (ha ▸ rfl : some _ = some args)
  subst ha'
  have him : ∀ k o v, W.cell? ⟨k, o, none⟩ = some v → w1.cell? ⟨k, o, none⟩ = some v := fun k o v h => hS.imm k o v (by show elsewhere [] [] W k o = _; rw [else0]; exact h)
  refine (hgreat_ok po n cp w1 (hl.at him)).mono fun e w' ⟨⟨r, he, hr60⟩, hc⟩ => ⟨_, he, Goes.same (r := .bool (.v r)) hN hS hc rfl rfl ?_⟩
  have hl50 : r = false → n ≤ 60 ∧ HActs50 po n W := fun h => ⟨(hr60 h).1, acts50 hl him (hr60 h).2⟩
  clear hr60 hc he hS hN ha him
  refine X.go T6_ok 400 _ rfl Try.results6 ?_
  conv => arg 2; cbv
  refine X.cond rfl (fun hr => ?_) (fun hr => ?_)
  · refine X.go T6_ok 400 _ rfl Try.results6 ?_
    conv => arg 2; cbv
    refine X.call rfl rfl rfl rfl Try.call26 (fun N w1 args hN hS ha => ?_)
    have ha' : [] = args := Option.some.inj (ha ▸ rfl : some _ = some args)
    subst ha'
    refine (awake_ok w1).mono fun e w' ⟨he, hc⟩ => ⟨_, he, Goes.same (r := .bool (.lit true)) hN hS hc rfl rfl ?_⟩
    refine X.go T6_ok 400 _ rfl Try.results6 ?_
    conv => arg 2; cbv
    refine X.done T6_ok rfl (fun N w' v hN hS hv => ?_)
    simp [resV, SV.den, SB.den] at hv
    rw [hQ]
    exact ⟨by rw [← hv], hS.chg.none⟩
  obtain ⟨hl60, hl5⟩ := hl50 (by simpa [SB.F, SB.den] using hr)
  clear hr hl50
  refine X.go T6_ok 400 _ rfl Try.results6 ?_
  conv => arg 2; cbv
  refine X.call rfl rfl rfl rfl Try.call27 (fun N w1 args hN hS ha => ?_)
  have ha' : [] = args := Option.some.inj (ha ▸ rfl : some _ = some args)
  subst ha'
  obtain ⟨f0, -⟩ : ∃ f0 : Nat → Ent, True := ⟨fun _ => ⟨0, 0, 0, 0, 0, 0, 0, 0, 0, 0, 0, 0, 0, 0, 0, 0, 0, none, 0, 0⟩, trivial⟩
  refine (hnew_ok f0 w1).mono fun e w' ⟨⟨hb, hy, he, hb1, hA⟩, hc⟩ => ⟨_, he, Goes.turn (Hist.D ⟨hb, hy, true, hb, hy, 0, 0, fun _ => 0, f0⟩) (HistAt ⟨hb, hy, true, hb, hy, 0, 0, fun _ => 0, f0⟩) hN hS (hc.mono fun _ _ _ h => h.elim) (fun _ _ h => False.elim h) (fun _ _ h => False.elim h) (fun g h => by cases h) (fun q z h => ⟨.inr ?_, hA.there q z h⟩) (HistAt.loc ?_) hA (r := .ext hb hy 0) rfl rfl ?_⟩
  · rcases h with ⟨e1, _⟩ | ⟨e1, _⟩
    · simp only at e1; omega
    · simp only at e1; omega
  · exact ⟨fun _ => ⟨rfl, rfl⟩, Nat.le_refl _, fun j hj => by simp only at hj; omega⟩
  have hb2 : W.heap.size ≤ hb := Nat.le_trans hS.chg.size hb1
  have hgo0 : HGo W hb hy 0 ⟨hb, hy, true, hb, hy, 0, 0, fun _ => 0, f0⟩ (elsewhere [] [] W) := by
    refine ⟨rfl, rfl, ⟨fun _ => ⟨rfl, rfl⟩, Nat.le_refl _, fun j hj => by simp only at hj; omega⟩, (fun h => by cases h), Nat.le_refl _, fun k o hk => ?_, fun k o hk => ?_, fun k o v hv => by rw [else0]; exact hv, ⟨fun _ _ => 0, fun i hi => absurd hi (Nat.not_lt_zero _)⟩, HInv.zero f0⟩
    · rcases hk with ⟨e1, _⟩ | ⟨e1, _⟩
      · simp only at e1; omega
      · simp only at e1; omega
    · have hk' : W.heap.size ≤ k := by
        rcases hk with ⟨e1, _⟩ | ⟨e1, _⟩
        · simp only at e1; omega
        · simp only at e1; omega
      rw [else0]
      cases hx : W.cell? ⟨k, o, none⟩ with
      | none => rfl
      | some v => exact absurd (World.block_lt_of_cell? _ _ hx) (by show ¬ k < _; omega)
  clear hc hA he hS hN ha hb1
  show X (mkE Try.prog Try.f6 Q W (InR [] []) (elsewhere [] [] W) (Hist.D ⟨hb, hy, true, hb, hy, 0, 0, fun _ => 0, f0⟩) (HistAt ⟨hb, hy, true, hb, hy, 0, 0, fun _ => 0, f0⟩) [] B6) _ _
  refine X.go T6_ok 400 _ rfl Try.results6 ?_
  conv => arg 2; cbv
  refine X.loop (fun (i : {i : (Nat × Hist × Mem) × (Nat × Nat × Option Addr × Nat × Nat × (Nat → Ent)) // i.1.1 ≤ n ∧ HGo W hb hy i.1.1 i.1.2.1 i.1.2.2 ∧ Was i.1.2.1 i.1.2.2 i.2.1 i.2.2.1 i.2.2.2.1 i.2.2.2.2.1 i.2.2.2.2.2.1 i.2.2.2.2.2.2}) => mkE Try.prog Try.f6 Q W (InR [] []) i.1.1.2.2 (Hist.D i.1.1.2.1) (HistAt i.1.1.2.1) [] B6)
    (fun i => ⟨[(0, .val (.slv po n cp)), (3, .val (.ext hb hy 0)), (4, .val (.slv i.1.2.2.2.1 i.1.2.1 i.1.2.2.1)), (5, .val (.int .i64 (.nat i.1.1.1)))], []⟩) (fun i => n - i.1.1.1) (fun i => ⟨rfl, rfl, rfl, rfl⟩) (fun N a w' hN hf hS => ?_) (fun i q hq => ?_)
  · obtain ⟨pp, hpp⟩ : ∃ p, N[0]? = some p := ⟨_, List.getElem?_eq_getElem (by rw [hS.len]; exact Nat.zero_lt_one)⟩
    refine ⟨⟨((0, ⟨hb, hy, true, hb, hy, 0, 0, fun _ => 0, f0⟩, elsewhere [] [] W), (0, 0, some ⟨pp.b, pp.o, none⟩, 0, 0, f0)), Nat.zero_le _, hgo0, ⟨rfl, Nat.zero_le _, fun k hk => absurd hk (Nat.not_lt_zero _), fun k hk => absurd hk (Nat.not_lt_zero _), fun k hk => absurd hk (Nat.not_lt_zero _), fun k hk => absurd hk (Nat.not_lt_zero _)⟩⟩, ?_⟩
    exact At.same hN hf hS (Nat.zero_le _) ⟨⟨_, rfl, .inl ⟨rfl, rfl⟩⟩, ⟨_, rfl, .inl ⟨rfl, rfl⟩⟩, ⟨_, rfl, .inr ⟨_, by simp only [SV.den, hpp, Num.cap, Nat.add_zero], rfl⟩⟩, ⟨_, rfl, .inr ⟨_, rfl, rfl⟩⟩, trivial⟩ trivial
  obtain ⟨⟨⟨i, H, m⟩, nW, wc, wp, bw, yw, fw⟩, hi, hgo, hwas⟩ := i
  have hi : i ≤ n := hi
  have hgo : HGo W hb hy i H m := hgo
  have hwas : Was H m nW wc wp bw yw fw := hwas
  have hHn : H.n ≤ 900 := by have := hgo.n; omega
  clear hgo0
  show X (mkE Try.prog Try.f6 Q W (InR [] []) m H.D (HistAt H) [] B6) _ ⟨[(0, .val (.slv po n cp)), (3, .val (.ext hb hy 0)), (4, .val (.slv wp nW wc)), (5, .val (.int .i64 (.nat i)))], []⟩
  refine X.go T6_ok 400 _ rfl Try.results6 ?_
  conv => arg 2; cbv
  refine X.cond rfl (fun hlt => ?_) (fun hge => ?_)
  · simp only [SB.T, SI.den] at hlt
    have hlt : i < n := by omega
    obtain ⟨b, x, z, e, hpo, hz, hc0, hcell, ⟨g, hI⟩, hvn⟩ := hl5 i hlt
    refine X.go T6_ok 400 _ rfl Try.results6 ?_
    conv => arg 2; cbv
    refine X.idxSlv rfl rfl rfl rfl rfl Try.underlying67 Try.sizeOf73 i rfl hlt b x z hpo hz rfl ?_
    refine X.go T6_ok 400 _ rfl Try.results6 ?_
    conv => arg 2; cbv
    refine X.loadN T6_ok (rs := e.sv) rfl rfl rfl rfl rfl rfl rfl (fun N _ => ⟨e.vals, rfl, fun j v hj => by
      show m b (z + 0 + j) = _
      rw [Nat.add_zero]; exact hgo.old _ _ _ (hcell j v hj)⟩) rfl ?_
    refine X.go T6_ok 4 _ rfl Try.results6 ?_
    conv => arg 2; cbv
    refine X.less [0, 3, 4, 5, 6] ?_
    refine X.join (ι := {x : (Hist × Mem) × (Nat × Nat × Option Addr × Nat × Nat × (Nat → Ent)) // HGo W hb hy (i + 1) x.1.1 x.1.2 ∧ Was x.1.1 x.1.2 x.2.1 x.2.2.1 x.2.2.2.1 x.2.2.2.2.1 x.2.2.2.2.2.1 x.2.2.2.2.2.2}) (fun x => mkE Try.prog Try.f6 Q W (InR [] []) x.1.1.2 (Hist.D x.1.1.1) (HistAt x.1.1.1) [] B6) (fun x => ⟨[(0, .val (.slv po n cp)), (3, .val (.ext hb hy 0)), (4, .val (.slv x.1.2.2.2.1 x.1.2.1 x.1.2.2.1)), (5, .val (.int .i64 (.nat i))), (6, .val (.own 0 0))], [⟨true, e.sv, none⟩]⟩) (fun x => ⟨rfl, rfl, rfl⟩) (fun q hq => ?_) (fun x => ?_)
    · refine X.go T6_ok 400 _ rfl Try.results6 ?_
      conv => arg 2; cbv
      refine X.cond rfl (fun _ => ?_) (fun _ => ?_)
      · -- Begin
        refine X.go T6_ok 400 _ rfl Try.results6 ?_
        conv => arg 2; cbv
        refine X.less [0, 3, 4, 5, 6, 58, 60, 62, 64] ?_
        refine X.call rfl rfl rfl rfl Try.call28 (fun N w1 args hN hS ha => ?_)
        have ha' : [Value.pointer (some ⟨hb, hy, none⟩), .int .u8 e.nd, .agg #[.int .u8 e.k, .int .u8 e.y, .int .u8 e.c, .int .u64 e.s, .int .i64 e.a, .int .i64 e.p, .int .i64 e.r, .int .u8 e.u, .int .u64 e.inn, .int .u64 e.l], .int .i64 e.at'] = args := Option.some.inj (ha ▸ rfl : some _ = some args)
        subst ha'
        have hcall := begin_all H e.nd e.k e.y e.c e.s e.a e.p e.r e.u e.inn e.l e.at' w1 hgo.ok hgo.pos hS.res hHn hc0
        rw [hgo.hb, hgo.hy] at hcall
        refine hcall.mono fun ed w' ⟨i1, o, er, he, H', ht, hA⟩ => ⟨_, he, ht.goes hN hS rfl hgo.fresh hgo.out (fun g h => .inl (by
          simp only [List.mem_cons, List.mem_nil_iff, or_false] at h
          rw [h])) (r := .tup [.int .i64 (.v i1), .agg [.int .u8 (.v o.k), .int .u8 (.v o.y), .int .u8 (.v o.c), .int .u64 (.v o.s), .int .i64 (.v o.a), .int .i64 (.v o.p), .int .i64 (.v o.r), .int .u8 (.v o.u), .int .u64 (.v o.i), .int .u64 (.v o.l)], .int .i64 (.v er)]) rfl rfl (fun hg1 hg2 => ?_)⟩
        have hwas1 : Was H (Eng.grow m H'.D w1 w') nW wc wp bw yw fw := hwas.more (fun k o v h => grow_old h)
        have hgo1 : HGo W hb hy (i + 1) H' (Eng.grow m H'.D w1 w') := by
          rcases hA with ⟨-, -, -, -, h⟩ | ⟨-, -, -, -, -, h⟩ | ⟨cl, -, -, -, -, -, -, h⟩
          · exact hgo.same ht hS.chg.size (fun k o v h => grow_old h) hg1 h
          · exact hgo.same ht hS.chg.size (fun k o v h => grow_old h) hg1 h
          · exact hgo.beg ht hS.chg.size (fun k o v h => grow_old h) hg1 (by omega) h
        clear hg1 hg2 ht hcall hS hN ha he
        show X (mkE Try.prog Try.f6 Q W (InR [] []) (Eng.grow m H'.D w1 w') (Hist.D H') (HistAt H') [] B6) _ _
        generalize Eng.grow m H'.D w1 w' = m1 at hwas1 hgo1
        refine X.go T6_ok 400 _ rfl Try.results6 ?_
        conv => arg 2; cbv
        refine X.less [0, 3, 4, 5, 6, 7, 8, 9, 70, 72, 74, 76] ?_
        refine X.call rfl rfl rfl rfl Try.call29 (fun N w1 args hN hS ha => ?_)
        have ha' : [Value.slice wp nW wc, .int .u8 e.nd, .agg #[.int .u8 e.k, .int .u8 e.y, .int .u8 e.c, .int .u64 e.s, .int .i64 e.a, .int .i64 e.p, .int .i64 e.r, .int .u8 e.u, .int .u64 e.inn, .int .u64 e.l], .int .i64 e.at'] = args := Option.some.inj (ha ▸ rfl : some _ = some args)
        subst ha'
        have hcall := rbegin_all H H' e.nd e.k e.y e.c e.s e.a e.p e.r e.u e.inn e.l e.at' i1 o er hA m1 nW wc wp bw yw fw hwas1 hgo.inv w1 (by have := hwas.num; omega) hc0 (hwas1.ents hS.imm)
        refine hcall.mono fun ed w' ⟨p', n', c', b', y', f', he, hrow, hn', hlk, hvr, hc⟩ => ⟨_, he, Goes.grow H'.D (HistAt H') hN hS (hc.mono fun _ _ _ h => h.elim) (fun k o h => .inl (hgo1.fresh k o h)) hgo1.out (fun g h => .inl (by
          simp only [List.mem_cons, List.mem_nil_iff, or_false] at h
          rcases h with rfl | rfl <;> rfl)) (fun k o h => ⟨.inl h, (hS.res.stays hgo1.ok hc).there k o h⟩) (HistAt.loc hgo1.ok) (hS.res.stays hgo1.ok hc) (r := .tup [.int .i64 (.v i1), .agg [.int .u8 (.v o.k), .int .u8 (.v o.y), .int .u8 (.v o.c), .int .u64 (.v o.s), .int .i64 (.v o.a), .int .i64 (.v o.p), .int .i64 (.v o.r), .int .u8 (.v o.u), .int .u64 (.v o.i), .int .u64 (.v o.l)], .int .i64 (.v er), .slv p' n' c']) rfl rfl (fun hg1 hg2 => ?_)⟩
        have hwas2 : Was H' (Eng.grow m1 H'.D w1 w') n' c' p' b' y' f' := Was.of hrow (fun k o h => by
          obtain ⟨v, hv⟩ := Option.isSome_iff_exists.1 (hS.res.there k o h)
          exact World.block_lt_of_cell? _ _ hv) hg2 hn' hlk hvr
        have hgo2 : HGo W hb hy (i + 1) H' (Eng.grow m1 H'.D w1 w') := hgo1.mem (fun k o v h => grow_old h) hg1
        clear hg1 hg2 hcall hS hN ha he hrow hlk hvr hc
        show X (mkE Try.prog Try.f6 Q W (InR [] []) (Eng.grow m1 H'.D w1 w') (Hist.D H') (HistAt H') [] B6) _ _
        generalize Eng.grow m1 H'.D w1 w' = m2 at hwas2 hgo2
        refine X.go T6_ok 400 _ rfl Try.results6 ?_
        conv => arg 2; cbv
        refine X.cond rfl (fun h => ?_) (fun _ => ?_)
        · exfalso
          simp [SB.T, SB.F, SI.den, SB.den] at h
        refine X.go T6_ok 400 _ rfl Try.results6 ?_
        conv => arg 2; cbv
        refine X.back (fun N a w' hN hf hS => hq ⟨((H', m2), (n', c', p', b', y', f')), hgo2, hwas2⟩ a w' ?_)
        exact At.same (nil_le N) hf hS (Nat.zero_le _) ⟨⟨_, rfl, .inl ⟨rfl, rfl⟩⟩, ⟨_, rfl, .inl ⟨rfl, rfl⟩⟩, ⟨_, rfl, .inl ⟨rfl, rfl⟩⟩, ⟨_, rfl, .inl ⟨rfl, rfl⟩⟩, ⟨_, rfl, .inl ⟨rfl, rfl⟩⟩, trivial⟩ ⟨fun h => h, SubC.refl rfl, rfl, trivial⟩
      refine X.go T6_ok 400 _ rfl Try.results6 ?_
      conv => arg 2; cbv
      refine X.cond rfl (fun _ => ?_) (fun _ => ?_)
      · -- Undo
        refine X.go T6_ok 400 _ rfl Try.results6 ?_
        conv => arg 2; cbv
        refine X.less [0, 3, 4, 5, 6, 98, 100] ?_
        refine X.call rfl rfl rfl rfl Try.call30 (fun N w1 args hN hS ha => ?_)
        have ha' : [Value.pointer (some ⟨hb, hy, none⟩), .int .i64 e.i] = args := Option.some.inj (ha ▸ rfl : some _ = some args)
        subst ha'
        have hcall := undo_eq H e.i w1 hgo.ok hgo.pos hS.res hHn (fun j hj => by obtain ⟨c, h1, _, h3⟩ := hgo.inv.cl j hj; exact ⟨c, h1, h3⟩)
        rw [hgo.hb, hgo.hy] at hcall
        refine hcall.mono fun ed w' ⟨he, H', ht, hA⟩ => ⟨_, he, ht.goes hN hS rfl hgo.fresh hgo.out (fun g h => .inl (by
          simp only [List.mem_cons, List.mem_nil_iff, or_false] at h
          rw [h])) (r := .tup []) rfl rfl (fun hg1 hg2 => ?_)⟩
        have hwas1 : Was H (Eng.grow m H'.D w1 w') nW wc wp bw yw fw := hwas.more (fun k o v h => grow_old h)
        have hgo1 : HGo W hb hy (i + 1) H' (Eng.grow m H'.D w1 w') := by
          rcases hA with ⟨h, -⟩ | ⟨h, -⟩
          · exact hgo.same ht hS.chg.size (fun k o v h => grow_old h) hg1 h
          · exact hgo.und ht hS.chg.size (fun k o v h => grow_old h) hg1 (by omega) h
        clear hg1 hg2 ht hcall hS hN ha he
        show X (mkE Try.prog Try.f6 Q W (InR [] []) (Eng.grow m H'.D w1 w') (Hist.D H') (HistAt H') [] B6) _ _
        generalize Eng.grow m H'.D w1 w' = m1 at hwas1 hgo1
        refine X.go T6_ok 400 _ rfl Try.results6 ?_
        conv => arg 2; cbv
        refine X.less [0, 3, 4, 5, 6, 102, 104] ?_
        refine X.call rfl rfl rfl rfl Try.call31 (fun N w1 args hN hS ha => ?_)
        have ha' : [Value.slice wp nW wc, .int .i64 e.i] = args := Option.some.inj (ha ▸ rfl : some _ = some args)
        subst ha'
        have hcall := rundo_all H H' e.i hA m1 nW wc wp bw yw fw hwas1 w1 (by have := hwas.num; omega) (hwas1.ents hS.imm)
        refine hcall.mono fun ed w' ⟨n', he, hwas2, hc⟩ => ⟨_, he, Goes.same (r := .slv wp n' wc) hN hS hc rfl rfl ?_⟩
        clear hcall hc he hS hN ha
        refine X.go T6_ok 400 _ rfl Try.results6 ?_
        conv => arg 2; cbv
        refine X.back (fun N a w' hN hf hS => hq ⟨((H', m1), (n', wc, wp, bw, yw, fw)), hgo1, hwas2⟩ a w' ?_)
        exact At.same (nil_le N) hf hS (Nat.zero_le _) ⟨⟨_, rfl, .inl ⟨rfl, rfl⟩⟩, ⟨_, rfl, .inl ⟨rfl, rfl⟩⟩, ⟨_, rfl, .inl ⟨rfl, rfl⟩⟩, ⟨_, rfl, .inl ⟨rfl, rfl⟩⟩, ⟨_, rfl, .inl ⟨rfl, rfl⟩⟩, trivial⟩ ⟨fun h => h, SubC.refl rfl, rfl, trivial⟩
      refine X.go T6_ok 400 _ rfl Try.results6 ?_
      conv => arg 2; cbv
      refine X.cond rfl (fun _ => ?_) (fun _ => ?_)
      · -- End
        refine X.go T6_ok 400 _ rfl Try.results6 ?_
        conv => arg 2; cbv
        refine X.less [0, 3, 4, 5, 6, 108, 110, 112, 114] ?_
        refine X.call rfl rfl rfl rfl Try.call32 (fun N w1 args hN hS ha => ?_)
        have ha' : [Value.pointer (some ⟨hb, hy, none⟩), .int .i64 e.i, .agg #[.int .i64 e.re, .int .u64 e.ri, .int .i64 e.rs, .slice e.vp e.vn e.vc], .int .i64 e.at'] = args := Option.some.inj (ha ▸ rfl : some _ = some args)
        subst ha'
        have hcall := end_all H e.i e.re e.ri e.rs e.at' e.vp e.vn e.vc g w1 hgo.ok hgo.pos hS.res hHn (by omega) (hI.at fun k o v h => hS.imm _ _ _ (hgo.old _ _ _ h)) (hgo.far hS.res hI)
        rw [hgo.hb, hgo.hy] at hcall
        refine hcall.mono fun ed w' ⟨er, he, H', ht, hA⟩ => ⟨_, he, ht.goes hN hS rfl hgo.fresh hgo.out (fun g h => .inl (by
          simp only [List.mem_cons, List.mem_nil_iff, or_false] at h
          rw [h])) (r := .int .i64 (.v er)) rfl rfl (fun hg1 hg2 => ?_)⟩
        have hwas1 : Was H (Eng.grow m H'.D w1 w') nW wc wp bw yw fw := hwas.more (fun k o v h => grow_old h)
        have hEA : EndA H H' e.i e.re e.ri e.rs e.vn e.at' g (Eng.grow m H'.D w1 w') er := by
          rcases hA with h | h | ⟨h1, p2, c2, j, h2, h3, hI2, hfar2, hd2⟩
          · exact .inl h
          · exact .inr (.inl h)
          · refine .inr (.inr ⟨h1, p2, c2, j, h2, h3, hI2.grown hfar2 (fun k o hk => ?_) hg2⟩)
            obtain ⟨v, hv⟩ := Option.isSome_iff_exists.1 (hS.res.there k o (hd2 k o hk))
            exact World.block_lt_of_cell? _ _ hv
        have hgo1 : HGo W hb hy (i + 1) H' (Eng.grow m H'.D w1 w') := by
          rcases hEA with ⟨-, h, -⟩ | ⟨-, h, -⟩ | ⟨-, p2, c2, j, -, h, hI2⟩
          · exact hgo.same ht hS.chg.size (fun k o v h => grow_old h) hg1 h
          · exact hgo.same ht hS.chg.size (fun k o v h => grow_old h) hg1 h
          · exact hgo.end ht hS.chg.size (fun k o v h => grow_old h) hg1 h hI2 hvn
        clear hA
        clear hg1 hg2 ht hcall hS hN ha he
        show X (mkE Try.prog Try.f6 Q W (InR [] []) (Eng.grow m H'.D w1 w') (Hist.D H') (HistAt H') [] B6) _ _
        generalize Eng.grow m H'.D w1 w' = m1 at hwas1 hgo1 hEA
        refine X.go T6_ok 400 _ rfl Try.results6 ?_
        conv => arg 2; cbv
        refine X.less [0, 3, 4, 5, 6, 14, 117, 119, 121, 123] ?_
        refine X.call rfl rfl rfl rfl Try.call33 (fun N w1 args hN hS ha => ?_)
        have ha' : [Value.slice wp nW wc, .int .i64 e.i, .agg #[.int .i64 e.re, .int .u64 e.ri, .int .i64 e.rs, .slice e.vp e.vn e.vc], .int .i64 e.at'] = args := Option.some.inj (ha ▸ rfl : some _ = some args)
        subst ha'
        have hcall := rend_all H H' e.i e.re e.ri e.rs e.at' e.vp e.vn e.vc g er m1 hEA hvn (hI.mem hgo1.old) nW wc wp bw yw fw hwas1 w1 (by have := hwas.num; omega) (hwas1.ents hS.imm)
        refine hcall.mono fun ed w' ⟨p', n', c', b', y', f', he, hrow, hn', hlk, hvr, hc⟩ => ⟨_, he, Goes.grow H'.D (HistAt H') hN hS (hc.mono fun _ _ _ h => h.elim) (fun k o h => .inl (hgo1.fresh k o h)) hgo1.out (fun g h => .inl (by
          simp only [List.mem_cons, List.mem_nil_iff, or_false] at h
          rw [h])) (fun k o h => ⟨.inl h, (hS.res.stays hgo1.ok hc).there k o h⟩) (HistAt.loc hgo1.ok) (hS.res.stays hgo1.ok hc) (r := .tup [.int .i64 (.v er), .slv p' n' c']) rfl rfl (fun hg1 hg2 => ?_)⟩
        have hwas2 : Was H' (Eng.grow m1 H'.D w1 w') n' c' p' b' y' f' := Was.of hrow (fun k o h => by
          obtain ⟨v, hv⟩ := Option.isSome_iff_exists.1 (hS.res.there k o h)
          exact World.block_lt_of_cell? _ _ hv) hg2 hn' hlk hvr
        have hgo2 : HGo W hb hy (i + 1) H' (Eng.grow m1 H'.D w1 w') := hgo1.mem (fun k o v h => grow_old h) hg1
        clear hg1 hg2 hcall hS hN ha he hrow hlk hvr hc
        show X (mkE Try.prog Try.f6 Q W (InR [] []) (Eng.grow m1 H'.D w1 w') (Hist.D H') (HistAt H') [] B6) _ _
        generalize Eng.grow m1 H'.D w1 w' = m2 at hwas2 hgo2
        refine X.go T6_ok 400 _ rfl Try.results6 ?_
        conv => arg 2; cbv
        refine X.cond rfl (fun h => ?_) (fun _ => ?_)
        · exact absurd rfl h
        refine X.go T6_ok 400 _ rfl Try.results6 ?_
        conv => arg 2; cbv
        refine X.back (fun N a w' hN hf hS => hq ⟨((H', m2), (n', c', p', b', y', f')), hgo2, hwas2⟩ a w' ?_)
        exact At.same (nil_le N) hf hS (Nat.zero_le _) ⟨⟨_, rfl, .inl ⟨rfl, rfl⟩⟩, ⟨_, rfl, .inl ⟨rfl, rfl⟩⟩, ⟨_, rfl, .inl ⟨rfl, rfl⟩⟩, ⟨_, rfl, .inl ⟨rfl, rfl⟩⟩, ⟨_, rfl, .inl ⟨rfl, rfl⟩⟩, trivial⟩ ⟨fun h => h, SubC.refl rfl, rfl, trivial⟩
      · -- Lost
        refine X.go T6_ok 400 _ rfl Try.results6 ?_
        conv => arg 2; cbv
        refine X.less [0, 3, 4, 5, 6, 40, 42] ?_
        refine X.call rfl rfl rfl rfl Try.call34 (fun N w1 args hN hS ha => ?_)
        have ha' : [Value.pointer (some ⟨hb, hy, none⟩), .int .u8 e.nd] = args := Option.some.inj (ha ▸ rfl : some _ = some args)
        subst ha'
        have hcall := lost_to H e.nd w1 hgo.ok hgo.pos hS.res hHn
        rw [hgo.hb, hgo.hy] at hcall
        refine hcall.mono fun ed w' ⟨⟨r, he, hr⟩, H', ht, hout⟩ => ⟨_, he, ht.goes hN hS rfl hgo.fresh hgo.out (fun g h => .inl (by
          simp only [List.mem_cons, List.mem_nil_iff, or_false] at h
          rw [h])) (r := .int .i64 (.v r)) rfl rfl (fun hg1 hg2 => ?_)⟩
        have hwas1 : Was H (Eng.grow m H'.D w1 w') nW wc wp bw yw fw := hwas.more (fun k o v h => grow_old h)
        have hgo1 : HGo W hb hy (i + 1) H' (Eng.grow m H'.D w1 w') := hgo.los ht hS.chg.size (fun k o v h => grow_old h) hg1 hout.1 hout.2.1 hout.2.2
        clear hg1 hg2 ht hcall hS hN ha he
        show X (mkE Try.prog Try.f6 Q W (InR [] []) (Eng.grow m H'.D w1 w') (Hist.D H') (HistAt H') [] B6) _ _
        generalize Eng.grow m H'.D w1 w' = m1 at hwas1 hgo1
        refine X.go T6_ok 400 _ rfl Try.results6 ?_
        conv => arg 2; cbv
        refine X.less [0, 3, 4, 5, 6, 17, 45, 47] ?_
        refine X.call rfl rfl rfl rfl Try.call35 (fun N w1 args hN hS ha => ?_)
        have ha' : [Value.slice wp nW wc, .int .u8 e.nd] = args := Option.some.inj (ha ▸ rfl : some _ = some args)
        subst ha'
        have hcall := rlost_all H H' e.nd hout.1 hout.2.2 m1 nW wc wp bw yw fw hwas1 w1 (by have := hwas.num; omega) (hwas1.ents hS.imm)
        rw [← hr] at hcall
        refine hcall.mono fun ed w' ⟨p', n', c', b', y', f', he, hrow, hn', hlk, hvr, hc⟩ => ⟨_, he, Goes.grow H'.D (HistAt H') hN hS (hc.mono fun _ _ _ h => h.elim) (fun k o h => .inl (hgo1.fresh k o h)) hgo1.out (fun g h => .inl (by
          simp only [List.mem_cons, List.mem_nil_iff, or_false] at h
          rw [h])) (fun k o h => ⟨.inl h, (hS.res.stays hgo1.ok hc).there k o h⟩) (HistAt.loc hgo1.ok) (hS.res.stays hgo1.ok hc) (r := .tup [.int .i64 (.v r), .slv p' n' c']) rfl rfl (fun hg1 hg2 => ?_)⟩
        have hwas2 : Was H' (Eng.grow m1 H'.D w1 w') n' c' p' b' y' f' := Was.of hrow (fun k o h => by
          obtain ⟨v, hv⟩ := Option.isSome_iff_exists.1 (hS.res.there k o h)
          exact World.block_lt_of_cell? _ _ hv) hg2 hn' hlk hvr
        have hgo2 : HGo W hb hy (i + 1) H' (Eng.grow m1 H'.D w1 w') := hgo1.mem (fun k o v h => grow_old h) hg1
        clear hg1 hg2 hcall hS hN ha he hrow hlk hvr hc
        show X (mkE Try.prog Try.f6 Q W (InR [] []) (Eng.grow m1 H'.D w1 w') (Hist.D H') (HistAt H') [] B6) _ _
        generalize Eng.grow m1 H'.D w1 w' = m2 at hwas2 hgo2
        refine X.go T6_ok 400 _ rfl Try.results6 ?_
        conv => arg 2; cbv
        refine X.cond rfl (fun h => ?_) (fun _ => ?_)
        · exact absurd rfl h
        refine X.go T6_ok 400 _ rfl Try.results6 ?_
        conv => arg 2; cbv
        refine X.back (fun N a w' hN hf hS => hq ⟨((H', m2), (n', c', p', b', y', f')), hgo2, hwas2⟩ a w' ?_)
        exact At.same (nil_le N) hf hS (Nat.zero_le _) ⟨⟨_, rfl, .inl ⟨rfl, rfl⟩⟩, ⟨_, rfl, .inl ⟨rfl, rfl⟩⟩, ⟨_, rfl, .inl ⟨rfl, rfl⟩⟩, ⟨_, rfl, .inl ⟨rfl, rfl⟩⟩, ⟨_, rfl, .inl ⟨rfl, rfl⟩⟩, trivial⟩ ⟨fun h => h, SubC.refl rfl, rfl, trivial⟩
    obtain ⟨⟨⟨H', m1⟩, n', c', p', b', y', f'⟩, hgo1, hwas1⟩ := x
    have hgo1 : HGo W hb hy (i + 1) H' m1 := hgo1
    have hwas1 : Was H' m1 n' c' p' b' y' f' := hwas1
    have hHn' : H'.n ≤ 900 := by have := hgo1.n; omega
    have hnum := hwas1.num
    obtain ⟨G, hG⟩ := hgo1.vars
    clear hgo hwas
    show X (mkE Try.prog Try.f6 Q W (InR [] []) m1 (Hist.D H') (HistAt H') [] B6) _ ⟨[(0, .val (.slv po n cp)), (3, .val (.ext hb hy 0)), (4, .val (.slv p' n' c')), (5, .val (.int .i64 (.nat i))), (6, .val (.own 0 0))], [⟨true, e.sv, none⟩]⟩
    refine X.go T6_ok 400 _ rfl Try.results6 ?_
    conv => arg 2; cbv
    refine X.less [0, 3, 4, 5, 6, 132, 135] ?_
    refine X.call rfl rfl rfl rfl Try.call36 (fun N w1 args hN hS ha => ?_)
    have ha' : [Value.pointer (some ⟨hb, hy, none⟩), .int .u8 e.c] = args := Option.some.inj (ha ▸ rfl : some _ = some args)
    subst ha'
    have hcall := open_ok H'.hb H'.hy H'.po H'.n H'.cp e.c H'.f w1 (by omega) (hS.res.entsIn hgo1.ok) hS.res.hd
    rw [hgo1.hb, hgo1.hy] at hcall
    refine hcall.mono fun ed w' ⟨⟨r0, he, hf0⟩, hc⟩ => ?_
    obtain ⟨d1, hd1⟩ : ∃ d, d = (if r0 < 0 then 0 else r0) := ⟨_, rfl⟩
    obtain ⟨d2, hd2⟩ : ∃ d, d = decide (0 ≤ r0) := ⟨_, rfl⟩
    rw [← hd1, ← hd2] at he
    refine ⟨_, he, Goes.same (r := .tup [.int .i64 (.v d1), .bool (.v d2)]) hN hS hc rfl rfl ?_⟩
    clear hcall hc he hS hN ha
    refine X.go T6_ok 400 _ rfl Try.results6 ?_
    conv => arg 2; cbv
    refine X.less [0, 3, 4, 5, 6, 20, 21, 139, 142] ?_
    refine X.call rfl rfl rfl rfl Try.call37 (fun N w1 args hN hS ha => ?_)
    have ha' : [Value.slice p' n' c', .int .u8 e.c] = args := Option.some.inj (ha ▸ rfl : some _ = some args)
    subst ha'
    have hcall := ropen_ok p' n' c' e.c f' w1 (by omega) (hwas1.ents hS.imm)
    refine hcall.mono fun ed w' ⟨⟨r1, he, hf1⟩, hc⟩ => ?_
    obtain rfl : r1 = r0 := by
      rw [← hnum] at hf0
      exact firstIs_one hf1 (firstIs_like hwas1.like hf0)
    refine ⟨_, he, Goes.same (r := .int .i64 (.v r1)) hN hS hc rfl rfl ?_⟩
    clear hcall hc he hS hN ha hf0 hf1
    refine X.go T6_ok 400 _ rfl Try.results6 ?_
    conv => arg 2; cbv
    refine X.less [0, 3, 4, 5, 6, 20, 21, 22, 144] ?_
    refine X.call rfl rfl rfl rfl Try.call39 (fun N w1 args hN hS ha => ?_)
    have ha' : [Value.pointer (some ⟨hb, hy, none⟩)] = args := Option.some.inj (ha ▸ rfl : some _ = some args)
    subst ha'
    have hcall := entries_ok H'.hb H'.hy H'.po H'.n H'.cp H'.f G w1 (by omega) (hS.res.entsIn hgo1.ok) hS.res.hd (fun j hj => ⟨(hG j hj).1.in hS.imm, by have := (hG j hj).2; omega⟩)
    rw [hgo1.hb, hgo1.hy, ← hnum] at hcall
    refine hcall.mono fun ed w' ⟨⟨pE, cE, bE, yE, fE, he, hpb, hA, hlike, hcap⟩, hc⟩ => ⟨_, he, Goes.grow H'.D (HistAt H') hN hS (hc.mono fun _ _ _ h => h.elim) (fun k o h => .inl (hgo1.fresh k o h)) hgo1.out (fun g h => .inl (by
      simp only [List.mem_cons, List.mem_nil_iff, or_false] at h
      rw [h])) (fun k o h => ⟨.inl h, (hS.res.stays hgo1.ok hc).there k o h⟩) (HistAt.loc hgo1.ok) (hS.res.stays hgo1.ok hc) (r := .slv pE n' cE) rfl rfl (fun hg1 hg2 => ?_)⟩
    have hnow : Was H' (Eng.grow m1 H'.D w1 w') n' cE pE bE yE fE := was_made hnum hcap hpb hA (fun k o h => by
      obtain ⟨v, hv⟩ := Option.isSome_iff_exists.1 (hS.res.there k o h)
      exact World.block_lt_of_cell? _ _ hv) hg2 hG (fun i hi => hlike i hi)
    have hgo2 : HGo W hb hy (i + 1) H' (Eng.grow m1 H'.D w1 w') := hgo1.mem (fun k o v h => grow_old h) hg1
    have hwas2 := hwas1.more (m' := Eng.grow m1 H'.D w1 w') (fun k o v h => grow_old h)
    clear hg1 hg2 hcall hS hN ha he hA hlike hpb hG hc hcap hgo1 hwas1
    show X (mkE Try.prog Try.f6 Q W (InR [] []) (Eng.grow m1 H'.D w1 w') (Hist.D H') (HistAt H') [] B6) _ _
    generalize Eng.grow m1 H'.D w1 w' = m2 at hnow hgo2 hwas2
    obtain ⟨G2, hG2⟩ := was_vars hnow hwas2
    refine X.go T6_ok 400 _ rfl Try.results6 ?_
    conv => arg 2; cbv
    refine X.less [0, 3, 4, 5, 6, 20, 21, 22, 145, 146] ?_
    refine X.call rfl rfl rfl rfl Try.call38 (fun N w1 args hN hS ha => ?_)
    have ha' : [Value.slice pE n' cE, .slice p' n' c'] = args := Option.some.inj (ha ▸ rfl : some _ = some args)
    subst ha'
    have hcall := same_ok pE p' n' cE c' fE f' G2 w1 (by omega) (hnow.ents hS.imm) (hwas2.ents hS.imm) (fun i hi => by
      obtain ⟨q1, q2, h1⟩ := hnow.like i hi
      obtain ⟨q3, q4, h2⟩ := hwas2.like i hi
      exact ⟨q3, q4, by rw [h1, h2]⟩) (fun i hi => by
      obtain ⟨h1, h2, h3⟩ := hG2 i hi
      obtain ⟨q1, q2, h4⟩ := hnow.like i hi
      have e1 : (fE i).vn = (H'.f i).vn := by rw [h4]
      rw [e1]
      exact ⟨h1.in hS.imm, h2.in hS.imm, by omega⟩)
    refine hcall.mono fun ed w' ⟨he, hc⟩ => ⟨_, he, Goes.same (r := .bool (.lit true)) hN hS hc rfl rfl ?_⟩
    clear hcall hc he hS hN ha
    refine X.go T6_ok 400 _ rfl Try.results6 ?_
    conv => arg 2; cbv
    refine X.cond rfl (fun h => ?_) (fun _ => ?_)
    · exfalso
      have e2 : d2 = true ↔ 0 ≤ r1 := by rw [hd2]; simp
      have e1 : 0 ≤ r1 → d1 = r1 := fun h => by rw [hd1, if_neg (by omega)]
      rcases h with h | ⟨h1, h2⟩
      · exact h (by first | exact hd2 | (rw [hd2]; rfl) | (show d2 = _; rw [hd2]; simp [SB.den, SI.den]))
      · exact h2 (e1 (e2.1 h1))
    refine X.go T6_ok 400 _ rfl Try.results6 ?_
    conv => arg 2; cbv
    refine X.back (fun N a w' hN hf hS => hq ⟨((i + 1, H', m2), (n', c', p', b', y', f')), by simp only; omega, hgo2, hwas2⟩ a w' (by show n - (i + 1) < n - i; omega) ?_)
    exact At.same (nil_le N) hf hS (Nat.zero_le _) ⟨⟨_, rfl, .inl ⟨rfl, rfl⟩⟩, ⟨_, rfl, .inl ⟨rfl, rfl⟩⟩, ⟨_, rfl, .inl ⟨rfl, rfl⟩⟩, ⟨_, rfl, .inr ⟨_, rfl, by simp [SV.den, SI.den, hwrap64s i (by omega)]⟩⟩, trivial⟩ trivial
  refine X.go T6_ok 400 _ rfl Try.results6 ?_
  conv => arg 2; cbv
  refine X.call rfl rfl rfl rfl Try.call26 (fun N w1 args hN hS ha => ?_)
  have ha' : [] = args := Option.some.inj (ha ▸ rfl : some _ = some args)
  subst ha'
  refine (awake_ok w1).mono fun e w' ⟨he, hc⟩ => ⟨_, he, Goes.same (r := .bool (.lit true)) hN hS hc rfl rfl ?_⟩
  refine X.go T6_ok 400 _ rfl Try.results6 ?_
  conv => arg 2; cbv
  refine X.done T6_ok rfl (fun N w' v hN hS hv => ?_)
  simp [resV, SV.den, SB.den] at hv
  rw [hQ]
  exact ⟨by rw [← hv], hS.chg.none⟩

theorem historyPlays_calls (W : World) (args : Array Value) (hn : args.size = 1) (ha : ∀ (j : Nat) t v, Try.f6.params[j]? = some t → args[j]? = some v → ArgOk Try.prog W t v) :
    Calls Try.prog 6 args W fun e w' => e = .returned (.bool true) ∧ Chg (fun _ _ => False) W w' := by
  obtain ⟨a, rfl⟩ : ∃ a, args = #[a] := ⟨args[0], by apply Array.ext (by simp [hn]); intro i h1 h2; match i, h1 with | 0, _ => rfl⟩
  obtain ⟨po, n, cp, rfl, hl⟩ := hacts_of ((ha 0 67 a rfl rfl).slice Try.underlying67)
  exact plays_ok po n cp W hl

end Go.Proofs.Ytcfghkiokdbhjaa
