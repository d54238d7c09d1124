/- HistoryStays: the walk. (Printed by genStays.py.) -/
import Derived.Test.YtcfghkiokdbhjaaHi12

namespace Go.Proofs.Ytcfghkiokdbhjaa
open Go.Eng

set_option maxHeartbeats 40000000 in
set_option maxRecDepth 100000 in
set_option cbv.maxSteps 100000000 in
theorem stays_ok (po : Option Addr) (n cp : Nat) (W : World) (hl : HActsAt po n W) :
    Calls Try.prog 9 #[.slice po n cp] W fun e w' => e = .returned (.bool true) ∧ Chg (fun _ _ => False) W w' := by
  obtain ⟨Q, hQ⟩ : ∃ Q : Ending → World → Prop, Q = fun e w' => e = .returned (.bool true) ∧ Chg (fun _ _ => False) W w' := ⟨_, rfl⟩
  rw [← hQ]
  refine X.begin (rg := []) (N := []) (ss := [.slv po n cp]) Try.func9 rfl B9_ok rfl rfl Sat.std0 ?_
  refine X.go T9_ok 400 _ rfl Try.results9 ?_
  conv => arg 2; cbv
  refine X.call rfl rfl rfl rfl Try.call25 (fun N w1 args hN hS ha => ?_)
  have ha' : [Value.slice po n cp] = args := Option.some.inj (ha ▸ rfl : some _ = some args)
  subst ha'
  have him : ∀ k o v, W.cell? ⟨k, o, none⟩ = some v → w1.cell? ⟨k, o, none⟩ = some v := fun k o v h => hS.imm k o v (by show elsewhere [] [] W k o = _; rw [else0]; exact h)
  refine (hgreat_ok po n cp w1 (hl.at him)).mono fun e w' ⟨⟨r, he, hr60⟩, hc⟩ => ⟨_, he, Goes.same (r := .bool (.v r)) hN hS hc rfl rfl ?_⟩
  have hl50 : r = false → n ≤ 60 ∧ HActs50 po n W := fun h => ⟨(hr60 h).1, acts50 hl him (hr60 h).2⟩
  clear hr60 hc he hS hN ha him
  refine X.go T9_ok 400 _ rfl Try.results9 ?_
  conv => arg 2; cbv
  refine X.cond rfl (fun hr => ?_) (fun hr => ?_)
  · refine X.go T9_ok 400 _ rfl Try.results9 ?_
    conv => arg 2; cbv
    refine X.call rfl rfl rfl rfl Try.call26 (fun N w1 args hN hS ha => ?_)
    have ha' : [] = args := Option.some.inj (ha ▸ rfl : some _ = some args)
    subst ha'
    refine (awake_ok w1).mono fun e w' ⟨he, hc⟩ => ⟨_, he, Goes.same (r := .bool (.lit true)) hN hS hc rfl rfl ?_⟩
    refine X.go T9_ok 400 _ rfl Try.results9 ?_
    conv => arg 2; cbv
    refine X.done T9_ok rfl (fun N w' v hN hS hv => ?_)
    simp [resV, SV.den, SB.den] at hv
    rw [hQ]
    exact ⟨by rw [← hv], hS.chg.none⟩
  obtain ⟨hl60, hl5⟩ := hl50 (by simpa [SB.F, SB.den] using hr)
  clear hr hl50
  refine X.go T9_ok 400 _ rfl Try.results9 ?_
  conv => arg 2; cbv
  refine X.call rfl rfl rfl rfl Try.call27 (fun N w1 args hN hS ha => ?_)
  have ha' : [] = args := Option.some.inj (ha ▸ rfl : some _ = some args)
  subst ha'
  obtain ⟨f0, -⟩ : ∃ f0 : Nat → Ent, True := ⟨fun _ => ⟨0, 0, 0, 0, 0, 0, 0, 0, 0, 0, 0, 0, 0, 0, 0, 0, 0, none, 0, 0⟩, trivial⟩
  refine (hnew_ok f0 w1).mono fun e w' ⟨⟨hb, hy, he, hb1, hA⟩, hc⟩ => ⟨_, he, Goes.turn (Hist.D ⟨hb, hy, true, hb, hy, 0, 0, fun _ => 0, f0⟩) (HistAt ⟨hb, hy, true, hb, hy, 0, 0, fun _ => 0, f0⟩) hN hS (hc.mono fun _ _ _ h => h.elim) (fun _ _ h => False.elim h) (fun _ _ h => False.elim h) (fun g h => by cases h) (fun q z h => ⟨.inr ?_, hA.there q z h⟩) (HistAt.loc ?_) hA (r := .ext hb hy 0) rfl rfl ?_⟩
  · rcases h with ⟨e1, _⟩ | ⟨e1, _⟩
    · simp only at e1; omega
    · simp only at e1; omega
  · exact ⟨fun _ => ⟨rfl, rfl⟩, Nat.le_refl _, fun j hj => by simp only at hj; omega⟩
  have hb2 : W.heap.size ≤ hb := Nat.le_trans hS.chg.size hb1
  have hgo0 : HGo W hb hy 0 ⟨hb, hy, true, hb, hy, 0, 0, fun _ => 0, f0⟩ (elsewhere [] [] W) := by
    refine ⟨rfl, rfl, ⟨fun _ => ⟨rfl, rfl⟩, Nat.le_refl _, fun j hj => by simp only at hj; omega⟩, (fun h => by cases h), Nat.le_refl _, fun k o hk => ?_, fun k o hk => ?_, fun k o v hv => by rw [else0]; exact hv, ⟨fun _ _ => 0, fun i hi => absurd hi (Nat.not_lt_zero _)⟩, HInv.zero f0⟩
    · rcases hk with ⟨e1, _⟩ | ⟨e1, _⟩
      · simp only at e1; omega
      · simp only at e1; omega
    · have hk' : W.heap.size ≤ k := by
        rcases hk with ⟨e1, _⟩ | ⟨e1, _⟩
        · simp only at e1; omega
        · simp only at e1; omega
      rw [else0]
      cases hx : W.cell? ⟨k, o, none⟩ with
      | none => rfl
      | some v => exact absurd (World.block_lt_of_cell? _ _ hx) (by show ¬ k < _; omega)
  clear hc hA he hS hN ha hb1
  show X (mkE Try.prog Try.f9 Q W (InR [] []) (elsewhere [] [] W) (Hist.D ⟨hb, hy, true, hb, hy, 0, 0, fun _ => 0, f0⟩) (HistAt ⟨hb, hy, true, hb, hy, 0, 0, fun _ => 0, f0⟩) [] B9) _ _
  refine X.go T9_ok 400 _ rfl Try.results9 ?_
  conv => arg 2; cbv
  refine X.loop (fun (i : {i : (Nat × Hist × Mem) × (Nat × Nat × Option Addr × Nat × Nat × (Nat → Ent)) // i.1.1 ≤ n ∧ HGo W hb hy i.1.1 i.1.2.1 i.1.2.2 ∧ Was i.1.2.1 i.1.2.2 i.2.1 i.2.2.1 i.2.2.2.1 i.2.2.2.2.1 i.2.2.2.2.2.1 i.2.2.2.2.2.2}) => mkE Try.prog Try.f9 Q W (InR [] []) i.1.1.2.2 (Hist.D i.1.1.2.1) (HistAt i.1.1.2.1) [] B9)
    (fun i => ⟨[(0, .val (.slv po n cp)), (3, .val (.ext hb hy 0)), (4, .val (.slv i.1.2.2.2.1 i.1.2.1 i.1.2.2.1)), (5, .val (.int .i64 (.nat i.1.1.1)))], []⟩) (fun i => n - i.1.1.1) (fun i => ⟨rfl, rfl, rfl, rfl⟩) (fun N a w' hN hf hS => ?_) (fun i q hq => ?_)
  · obtain ⟨pp, hpp⟩ : ∃ p, N[0]? = some p := ⟨_, List.getElem?_eq_getElem (by rw [hS.len]; exact Nat.zero_lt_one)⟩
    refine ⟨⟨((0, ⟨hb, hy, true, hb, hy, 0, 0, fun _ => 0, f0⟩, elsewhere [] [] W), (0, 0, some ⟨pp.b, pp.o, none⟩, 0, 0, f0)), Nat.zero_le _, hgo0, ⟨rfl, Nat.zero_le _, fun k hk => absurd hk (Nat.not_lt_zero _), fun k hk => absurd hk (Nat.not_lt_zero _), fun k hk => absurd hk (Nat.not_lt_zero _), fun k hk => absurd hk (Nat.not_lt_zero _)⟩⟩, ?_⟩
    exact At.same hN hf hS (Nat.zero_le _) ⟨⟨_, rfl, .inl ⟨rfl, rfl⟩⟩, ⟨_, rfl, .inl ⟨rfl, rfl⟩⟩, ⟨_, rfl, .inr ⟨_, by simp only [SV.den, hpp, Num.cap, Nat.add_zero], rfl⟩⟩, ⟨_, rfl, .inr ⟨_, rfl, rfl⟩⟩, trivial⟩ trivial
  obtain ⟨⟨⟨i, H, m⟩, nW, wc, wp, bw, yw, fw⟩, hi, hgo, hwas⟩ := i
  have hi : i ≤ n := hi
  have hgo : HGo W hb hy i H m := hgo
  have hwas : Was H m nW wc wp bw yw fw := hwas
  have hHn : H.n ≤ 900 := by have := hgo.n; omega
  clear hgo0
  show X (mkE Try.prog Try.f9 Q W (InR [] []) m H.D (HistAt H) [] B9) _ ⟨[(0, .val (.slv po n cp)), (3, .val (.ext hb hy 0)), (4, .val (.slv wp nW wc)), (5, .val (.int .i64 (.nat i)))], []⟩
  refine X.go T9_ok 400 _ rfl Try.results9 ?_
  conv => arg 2; cbv
  refine X.cond rfl (fun hlt => ?_) (fun hge => ?_)
  · simp only [SB.T, SI.den] at hlt
    have hlt : i < n := by omega
    refine X.go T9_ok 4 _ rfl Try.results9 ?_
    conv => arg 2; cbv
    refine X.join (ι := {x : Hist × Mem // HGo W hb hy (i + 1) x.1 x.2 ∧ StayR H x.1 ∧ (∀ k o v, m k o = some v → x.2 k o = some v)}) (fun x => mkE Try.prog Try.f9 Q W (InR [] []) x.1.2 (Hist.D x.1.1) (HistAt x.1.1) [] B9) (fun x => ⟨[(0, .val (.slv po n cp)), (3, .val (.ext hb hy 0)), (4, .val (.slv wp nW wc)), (5, .val (.int .i64 (.nat i)))], []⟩) (fun x => ⟨rfl, rfl, rfl⟩) (fun q hq => ?_) (fun x => ?_)
    · obtain ⟨b, x, z, e, hpo, hz, hc0, hcell, ⟨g, hI⟩, hvn⟩ := hl5 i hlt
      refine X.see b z e.sv (fun j c hj => ?_) (by show 0 < 18; omega) (fun N _ hN => ?_)
      · obtain ⟨v, h1, h2⟩ := (SV.denL_get _ (e.den [])).2 j c hj
        exact ⟨v, h1, hgo.old _ _ _ (hcell j v h2)⟩
      obtain rfl : N = [] := List.length_eq_zero_iff.1 hN
      have hr : ∀ N : Nums, Nums.le [⟨b, z, 0⟩] N → (SV.own 0 0).den N = some (.pointer (some ⟨b, x + i * 18, none⟩)) := fun N hN => by
        have := hN 0 _ rfl
        simp only [SV.den, this, hz, Nat.add_zero]
      show X (mkE Try.prog Try.f9 Q W (InR [] []) m H.D (HistAt H) [⟨b, z, 0⟩] B9) _ _
      refine X.go T9_ok 400 _ rfl Try.results9 ?_
      conv => arg 2; cbv
      refine X.idxBy i (.own 0 0) rfl rfl rfl rfl rfl rfl (good_slv Try.underlying67 Try.sizeOf73 hpo hlt hr) rfl ?_
      refine X.go T9_ok 400 _ rfl Try.results9 ?_
      conv => arg 2; cbv
      refine X.cond rfl (fun _ => ?_) (fun _ => ?_)
      · -- Begin
        refine X.drawnL (fn := Try.f9) T9_ok noCall (idxG 114 [⟨3, 34, 35, 36, 67, i, .slv po n cp, .own 0 0⟩, ⟨8, 39, 40, 41, 67, i, .slv po n cp, .own 0 0⟩, ⟨13, 44, 45, 46, 67, i, .slv po n cp, .own 0 0⟩]) 16 [] 16 rfl (by kernel_rfl) rfl noCall_ok (idxG_ok _ rfl (fun q hq => ?_)) 114 rfl ?_
        · simp only [List.mem_cons, List.mem_nil_iff, or_false] at hq
          rcases hq with rfl | rfl | rfl <;> exact good_slv Try.underlying67 Try.sizeOf73 hpo hlt hr
        generalize hfin : (fun s' => X (mkE Try.prog Try.f9 Q W (InR [] []) m H.D (HistAt H) [⟨b, z, 0⟩] B9) _ s') = fin
        conv => cbv
        repeat (first | refine ⟨rfl, ?_⟩ | refine ⟨⟨_, _, rfl, rfl⟩, ?_⟩ | refine ⟨⟨rfl, _, _, rfl, rfl⟩, ?_⟩)
        subst hfin
        show X _ _ _
        refine X.less [0, 3, 4, 5, 33, 38, 43, 48] ?_
        refine X.drop 0 (by show 0 < 1; omega) ?_
        refine X.call rfl rfl rfl rfl Try.call28 (fun N w1 args hN hS ha => ?_)
        have ha' : [Value.pointer (some ⟨hb, hy, none⟩), .int .u8 e.nd, .agg #[.int .u8 e.k, .int .u8 e.y, .int .u8 e.c, .int .u64 e.s, .int .i64 e.a, .int .i64 e.p, .int .i64 e.r, .int .u8 e.u, .int .u64 e.inn, .int .u64 e.l], .int .i64 e.at'] = args := Option.some.inj (ha ▸ rfl : some _ = some args)
        subst ha'
        have hcall := begin_ok H e.nd e.k e.y e.c e.s e.a e.p e.r e.u e.inn e.l e.at' w1 hgo.ok hgo.pos hS.res hHn hc0
        rw [hgo.hb, hgo.hy] at hcall
        refine hcall.mono fun ed w' ⟨⟨i1, er, o, he⟩, H', ht, hout⟩ => ⟨_, he, ht.goes hN hS rfl hgo.fresh hgo.out (fun g h => .inr (by
          simp only [List.set_cons_zero, List.mem_cons, List.mem_nil_iff, or_false] at h
          rw [h])) (r := .tup [.int .i64 (.v i1), .agg [.int .u8 (.v o.k), .int .u8 (.v o.y), .int .u8 (.v o.c), .int .u64 (.v o.s), .int .i64 (.v o.a), .int .i64 (.v o.p), .int .i64 (.v o.r), .int .u8 (.v o.u), .int .u64 (.v o.i), .int .u64 (.v o.l)], .int .i64 (.v er)]) rfl rfl (fun hg1 hg2 => ?_)⟩
        have hgo' : HGo W hb hy (i + 1) H' (Eng.grow m H'.D w1 w') := by
          rcases hout with h | h
          · exact hgo.same ht hS.chg.size (fun k o v h => grow_old h) hg1 h
          · exact hgo.beg ht hS.chg.size (fun k o v h => grow_old h) hg1 (by omega) h
        have hst' : StayR H H' := by
          rcases hout with h | h
          · exact .same h
          · exact .beg h
        have hmm' : ∀ k o v, m k o = some v → Eng.grow m H'.D w1 w' k o = some v := fun k o v h => grow_old h
        generalize hm' : Eng.grow m H'.D w1 w' = m' at hgo' hmm'
        clear hg1 hg2 ht hout hcall hS hN ha he
        show X (mkE Try.prog Try.f9 Q W (InR [] []) m' H'.D (HistAt H') [⟨b, z, 0⟩] B9) _ _
        refine X.go T9_ok 400 _ rfl Try.results9 ?_
        conv => arg 2; cbv
        refine X.back (fun N a w' hN hf hS => hq ⟨(H', m'), hgo', hst', hmm'⟩ a w' ?_)
        exact At.same (nil_le N) hf hS (Nat.zero_le _) ⟨⟨_, rfl, .inl ⟨rfl, rfl⟩⟩, ⟨_, rfl, .inl ⟨rfl, rfl⟩⟩, ⟨_, rfl, .inl ⟨rfl, rfl⟩⟩, ⟨_, rfl, .inl ⟨rfl, rfl⟩⟩, trivial⟩ trivial
      refine X.go T9_ok 400 _ rfl Try.results9 ?_
      conv => arg 2; cbv
      refine X.cond rfl (fun _ => ?_) (fun _ => ?_)
      · -- Undo
        refine X.go T9_ok 400 _ rfl Try.results9 ?_
        conv => arg 2; cbv
        refine X.idxBy i (.own 0 0) rfl rfl rfl rfl rfl rfl (good_slv Try.underlying67 Try.sizeOf73 hpo hlt hr) rfl ?_
        refine X.go T9_ok 400 _ rfl Try.results9 ?_
        conv => arg 2; cbv
        refine X.less [0, 3, 4, 5, 52, 57] ?_
        refine X.drop 0 (by show 0 < 1; omega) ?_
        refine X.call rfl rfl rfl rfl Try.call30 (fun N w1 args hN hS ha => ?_)
        have ha' : [Value.pointer (some ⟨hb, hy, none⟩), .int .i64 e.i] = args := Option.some.inj (ha ▸ rfl : some _ = some args)
        subst ha'
        have hcall := undo_ok H e.i w1 hgo.ok hgo.pos hS.res hHn (fun j hj => by obtain ⟨c, h1, _, h3⟩ := hgo.inv.cl j hj; exact ⟨c, h1, h3⟩)
        rw [hgo.hb, hgo.hy] at hcall
        refine hcall.mono fun ed w' ⟨he, H', ht, hout⟩ => ⟨_, he, ht.goes hN hS rfl hgo.fresh hgo.out (fun g h => .inr (by
          simp only [List.set_cons_zero, List.mem_cons, List.mem_nil_iff, or_false] at h
          rw [h])) (r := .tup []) rfl rfl (fun hg1 hg2 => ?_)⟩
        have hgo' : HGo W hb hy (i + 1) H' (Eng.grow m H'.D w1 w') := by
          rcases hout with h | h
          · exact hgo.same ht hS.chg.size (fun k o v h => grow_old h) hg1 h
          · exact hgo.und ht hS.chg.size (fun k o v h => grow_old h) hg1 (by omega) h
        have hst' : StayR H H' := by
          rcases hout with h | h
          · exact .same h
          · exact .und h
        have hmm' : ∀ k o v, m k o = some v → Eng.grow m H'.D w1 w' k o = some v := fun k o v h => grow_old h
        generalize hm' : Eng.grow m H'.D w1 w' = m' at hgo' hmm'
        clear hg1 hg2 ht hout hcall hS hN ha he
        show X (mkE Try.prog Try.f9 Q W (InR [] []) m' H'.D (HistAt H') [⟨b, z, 0⟩] B9) _ _
        refine X.go T9_ok 400 _ rfl Try.results9 ?_
        conv => arg 2; cbv
        refine X.back (fun N a w' hN hf hS => hq ⟨(H', m'), hgo', hst', hmm'⟩ a w' ?_)
        exact At.same (nil_le N) hf hS (Nat.zero_le _) ⟨⟨_, rfl, .inl ⟨rfl, rfl⟩⟩, ⟨_, rfl, .inl ⟨rfl, rfl⟩⟩, ⟨_, rfl, .inl ⟨rfl, rfl⟩⟩, ⟨_, rfl, .inl ⟨rfl, rfl⟩⟩, trivial⟩ trivial
      refine X.go T9_ok 400 _ rfl Try.results9 ?_
      conv => arg 2; cbv
      refine X.cond rfl (fun _ => ?_) (fun _ => ?_)
      · -- End
        refine X.drawnL (fn := Try.f9) T9_ok noCall (idxG 114 [⟨3, 62, 63, 64, 67, i, .slv po n cp, .own 0 0⟩, ⟨8, 67, 68, 69, 67, i, .slv po n cp, .own 0 0⟩, ⟨13, 72, 73, 74, 67, i, .slv po n cp, .own 0 0⟩]) 16 [] 16 rfl (by kernel_rfl) rfl noCall_ok (idxG_ok _ rfl (fun q hq => ?_)) 114 rfl ?_
        · simp only [List.mem_cons, List.mem_nil_iff, or_false] at hq
          rcases hq with rfl | rfl | rfl <;> exact good_slv Try.underlying67 Try.sizeOf73 hpo hlt hr
        generalize hfin : (fun s' => X (mkE Try.prog Try.f9 Q W (InR [] []) m H.D (HistAt H) [⟨b, z, 0⟩] B9) _ s') = fin
        conv => cbv
        repeat (first | refine ⟨rfl, ?_⟩ | refine ⟨⟨_, _, rfl, rfl⟩, ?_⟩ | refine ⟨⟨rfl, _, _, rfl, rfl⟩, ?_⟩)
        subst hfin
        show X _ _ _
        refine X.less [0, 3, 4, 5, 61, 66, 71, 76] ?_
        refine X.drop 0 (by show 0 < 1; omega) ?_
        refine X.call rfl rfl rfl rfl Try.call32 (fun N w1 args hN hS ha => ?_)
        have ha' : [Value.pointer (some ⟨hb, hy, none⟩), .int .i64 e.i, .agg #[.int .i64 e.re, .int .u64 e.ri, .int .i64 e.rs, .slice e.vp e.vn e.vc], .int .i64 e.at'] = args := Option.some.inj (ha ▸ rfl : some _ = some args)
        subst ha'
        have hcall := end_ok H e.i e.re e.ri e.rs e.at' e.vp e.vn e.vc g w1 hgo.ok hgo.pos hS.res hHn (by omega) (hI.at fun k o v h => hS.imm _ _ _ (hgo.old _ _ _ h)) (hgo.far hS.res hI)
        rw [hgo.hb, hgo.hy] at hcall
        refine hcall.mono fun ed w' ⟨⟨r, he⟩, H', ht, hout⟩ => ⟨_, he, ht.goes hN hS rfl hgo.fresh hgo.out (fun g h => .inr (by
          simp only [List.set_cons_zero, List.mem_cons, List.mem_nil_iff, or_false] at h
          rw [h])) (r := .int .i64 (.v r)) rfl rfl (fun hg1 hg2 => ?_)⟩
        have hgo' : HGo W hb hy (i + 1) H' (Eng.grow m H'.D w1 w') := by
          rcases hout with h | ⟨p2, c2, j, h, hI2, hfar2, hd2⟩
          · exact hgo.same ht hS.chg.size (fun k o v h => grow_old h) hg1 h
          · refine hgo.end ht hS.chg.size (fun k o v h => grow_old h) hg1 h (hI2.grown hfar2 (fun k o hk => ?_) hg2) hvn
            obtain ⟨v, hv⟩ := Option.isSome_iff_exists.1 (hS.res.there k o (hd2 k o hk))
            exact World.block_lt_of_cell? _ _ hv
        have hst' : StayR H H' := by
          rcases hout with h | ⟨p2, c2, j, h, _⟩
          · exact .same h
          · exact .end h
        have hmm' : ∀ k o v, m k o = some v → Eng.grow m H'.D w1 w' k o = some v := fun k o v h => grow_old h
        generalize hm' : Eng.grow m H'.D w1 w' = m' at hgo' hmm'
        clear hg1 hg2 ht hout hcall hS hN ha he
        show X (mkE Try.prog Try.f9 Q W (InR [] []) m' H'.D (HistAt H') [⟨b, z, 0⟩] B9) _ _
        refine X.go T9_ok 400 _ rfl Try.results9 ?_
        conv => arg 2; cbv
        refine X.back (fun N a w' hN hf hS => hq ⟨(H', m'), hgo', hst', hmm'⟩ a w' ?_)
        exact At.same (nil_le N) hf hS (Nat.zero_le _) ⟨⟨_, rfl, .inl ⟨rfl, rfl⟩⟩, ⟨_, rfl, .inl ⟨rfl, rfl⟩⟩, ⟨_, rfl, .inl ⟨rfl, rfl⟩⟩, ⟨_, rfl, .inl ⟨rfl, rfl⟩⟩, trivial⟩ trivial
      · -- Lost
        refine X.go T9_ok 400 _ rfl Try.results9 ?_
        conv => arg 2; cbv
        refine X.idxBy i (.own 0 0) rfl rfl rfl rfl rfl rfl (good_slv Try.underlying67 Try.sizeOf73 hpo hlt hr) rfl ?_
        refine X.go T9_ok 400 _ rfl Try.results9 ?_
        conv => arg 2; cbv
        refine X.less [0, 3, 4, 5, 24, 29] ?_
        refine X.drop 0 (by show 0 < 1; omega) ?_
        refine X.call rfl rfl rfl rfl Try.call34 (fun N w1 args hN hS ha => ?_)
        have ha' : [Value.pointer (some ⟨hb, hy, none⟩), .int .u8 e.nd] = args := Option.some.inj (ha ▸ rfl : some _ = some args)
        subst ha'
        have hcall := lost_to H e.nd w1 hgo.ok hgo.pos hS.res hHn
        rw [hgo.hb, hgo.hy] at hcall
        refine hcall.mono fun ed w' ⟨⟨r, he⟩, H', ht, hout⟩ => ⟨_, he, ht.goes hN hS rfl hgo.fresh hgo.out (fun g h => .inr (by
          simp only [List.set_cons_zero, List.mem_cons, List.mem_nil_iff, or_false] at h
          rw [h])) (r := .int .i64 (.v r)) rfl rfl (fun hg1 hg2 => ?_)⟩
        have hgo' : HGo W hb hy (i + 1) H' (Eng.grow m H'.D w1 w') := hgo.los ht hS.chg.size (fun k o v h => grow_old h) hg1 hout.1 hout.2.1 hout.2.2
        have hst' : StayR H H' := .los hout.1 hout.2.2
        have hmm' : ∀ k o v, m k o = some v → Eng.grow m H'.D w1 w' k o = some v := fun k o v h => grow_old h
        generalize hm' : Eng.grow m H'.D w1 w' = m' at hgo' hmm'
        clear hg1 hg2 ht hout hcall hS hN ha he
        show X (mkE Try.prog Try.f9 Q W (InR [] []) m' H'.D (HistAt H') [⟨b, z, 0⟩] B9) _ _
        refine X.go T9_ok 400 _ rfl Try.results9 ?_
        conv => arg 2; cbv
        refine X.back (fun N a w' hN hf hS => hq ⟨(H', m'), hgo', hst', hmm'⟩ a w' ?_)
        exact At.same (nil_le N) hf hS (Nat.zero_le _) ⟨⟨_, rfl, .inl ⟨rfl, rfl⟩⟩, ⟨_, rfl, .inl ⟨rfl, rfl⟩⟩, ⟨_, rfl, .inl ⟨rfl, rfl⟩⟩, ⟨_, rfl, .inl ⟨rfl, rfl⟩⟩, trivial⟩ trivial
    obtain ⟨⟨H', m'⟩, hgo', hstay, hmm⟩ := x
    have hgo' : HGo W hb hy (i + 1) H' m' := hgo'
    have hstay : StayR H H' := hstay
    have hmm : ∀ k o v, m k o = some v → m' k o = some v := hmm
    show X (mkE Try.prog Try.f9 Q W (InR [] []) m' H'.D (HistAt H') [] B9) _ ⟨[(0, .val (.slv po n cp)), (3, .val (.ext hb hy 0)), (4, .val (.slv wp nW wc)), (5, .val (.int .i64 (.nat i)))], []⟩
    have hwas' := hwas.more hmm
    have hHn' : H'.n ≤ 900 := by have := hgo'.n; omega
    obtain ⟨G, hG⟩ := hgo'.vars
    refine X.go T9_ok 400 _ rfl Try.results9 ?_
    conv => arg 2; cbv
    refine X.call rfl rfl rfl rfl Try.call39 (fun N w1 args hN hS ha => ?_)
    have ha' : [Value.pointer (some ⟨hb, hy, none⟩)] = args := Option.some.inj (ha ▸ rfl : some _ = some args)
    subst ha'
    have hcall := entries_ok H'.hb H'.hy H'.po H'.n H'.cp H'.f G w1 (by omega) (hS.res.entsIn hgo'.ok) hS.res.hd (fun j hj => ⟨(hG j hj).1.in hS.imm, by have := (hG j hj).2; omega⟩)
    rw [hgo'.hb, hgo'.hy] at hcall
    obtain ⟨nE, hnE⟩ : ∃ k, k = H'.n := ⟨_, rfl⟩
    rw [← hnE] at hcall
    refine hcall.mono fun ed w' ⟨⟨p', c', b, y, f', he, hpb, hA, hlike, hcap⟩, hc⟩ => ⟨_, he, Goes.grow H'.D (HistAt H') hN hS (hc.mono fun _ _ _ h => h.elim) (fun k o h => .inl (hgo'.fresh k o h)) hgo'.out (fun g h => by cases h) (fun k o h => ⟨.inl h, (hS.res.stays hgo'.ok hc).there k o h⟩) (HistAt.loc hgo'.ok) (hS.res.stays hgo'.ok hc) (r := .slv p' nE c') rfl rfl (fun hg1 hg2 => ?_)⟩
    have hnow : Was H' (Eng.grow m' H'.D w1 w') nE c' p' b y f' := was_made hnE hcap hpb hA (fun k o h => by
      obtain ⟨v, hv⟩ := Option.isSome_iff_exists.1 (hS.res.there k o h)
      exact World.block_lt_of_cell? _ _ hv) hg2 hG (fun i hi => hlike i hi)
    have hgo2 : HGo W hb hy (i + 1) H' (Eng.grow m' H'.D w1 w') := hgo'.mem (fun k o v h => grow_old h) hg1
    have hwas2 := hwas'.more (m' := Eng.grow m' H'.D w1 w') (fun k o v h => grow_old h)
    clear hg1 hg2 hcall hS hN ha he hA hlike hpb hG hc hcap hgo' hwas' hgo hwas hmm
    show X (mkE Try.prog Try.f9 Q W (InR [] []) (Eng.grow m' H'.D w1 w') H'.D (HistAt H') [] B9) _ _
    generalize Eng.grow m' H'.D w1 w' = m2 at hnow hgo2 hwas2
    refine X.go T9_ok 400 _ rfl Try.results9 ?_
    conv => arg 2; cbv
    refine X.loop1 (fun (k : {k : Nat // k ≤ nW}) => ⟨[(0, .val (.slv po n cp)), (3, .val (.ext hb hy 0)), (4, .val (.slv wp nW wc)), (5, .val (.int .i64 (.nat i))), (6, .val (.slv p' nE c')), (7, .val (.int .i64 (.nat k.1)))], []⟩) (fun k => nW - k.1) (fun N a w' hN hf hS => ⟨⟨0, Nat.zero_le _⟩, ?_⟩) (fun k q2 hq2 => ?_)
    · exact At.same hN hf hS (Nat.zero_le _) ⟨⟨_, rfl, .inl ⟨rfl, rfl⟩⟩, ⟨_, rfl, .inl ⟨rfl, rfl⟩⟩, ⟨_, rfl, .inl ⟨rfl, rfl⟩⟩, ⟨_, rfl, .inl ⟨rfl, rfl⟩⟩, ⟨_, rfl, .inl ⟨rfl, rfl⟩⟩, ⟨_, rfl, .inr ⟨_, rfl, rfl⟩⟩, trivial⟩ trivial
    obtain ⟨k, hk⟩ := k
    refine X.go T9_ok 400 _ rfl Try.results9 ?_
    conv => arg 2; cbv
    refine X.cond rfl (fun hlk => ?_) (fun hgk => ?_)
    · simp only [SB.T, SI.den] at hlk
      have hlk : k < nW := by omega
      have hnW := hwas2.num
      have hcapw := hwas2.cap
      have hkst := hstay k (by omega)
      obtain ⟨pw1, cw1, hlw⟩ := hwas2.like k hlk
      obtain ⟨go, hv1, hv2, hv3⟩ := hwas2.vars k hlk
      have hroww := hwas2.row k hlk
      have hpow := hwas2.po k hlk
      obtain ⟨zw, hzw⟩ : ∃ z, z = yw + k * 18 := ⟨_, rfl⟩
      have hroww' : ∀ (q : Nat) (v : Value), (fw k).vals[q]? = some v → m2 bw (zw + q) = some v := fun q v h => by rw [hzw, Nat.add_assoc]; exact hroww q v h
      obtain ⟨e, he⟩ : ∃ e, e = fw k := ⟨_, rfl⟩
      rw [← he] at hroww' hlw hv1
      have hste : e.st = (H.f k).st := by rw [hlw]
      refine X.see bw zw e.sv (fun j d hj => ?_) (by show 0 < 18; omega) (fun N _ hN => ?_)
      · obtain ⟨v, h1, h2⟩ := (SV.denL_get _ (e.den [])).2 j d hj
        exact ⟨v, h1, hroww' j v h2⟩
      obtain rfl : N = [] := List.length_eq_zero_iff.1 hN
      have hr : ∀ N : Nums, Nums.le [⟨bw, zw, 0⟩] N → (SV.own 0 0).den N = some (.pointer (some ⟨bw, yw + k * 18, none⟩)) := fun N hN => by
        have := hN 0 _ rfl
        simp only [SV.den, this, hzw, Nat.add_zero]
      show X (mkE Try.prog Try.f9 Q W (InR [] []) m2 H'.D (HistAt H') [⟨bw, zw, 0⟩] B9) _ _
      by_cases hst : e.st = 0
      · have ht : Eng.Told (SB.ne (SI.v e.st) (SI.lit 0)) false := ⟨by simp [SB.den, SI.den, hst]⟩
        refine X.go T9_ok 4 _ rfl Try.results9 ?_
        conv => arg 2; cbv
        refine X.drawnL (fn := Try.f9) T9_ok noCall (orO (idxS 114 _ [⟨2, 86, 87, 88, 71, k, .slv wp nW wc, .own 0 0⟩]) (litO T9 114 _ [(5, 91, false)])) 22 [23, 24, 25] 22 rfl (by kernel_rfl) rfl noCall_ok (orO_ok (idxS_ok _ (by kernel_rfl) (fun q hq => ?_)) (litO_ok T9_ok _)) 114 rfl ?_
        · simp only [List.mem_cons, List.mem_nil_iff, or_false] at hq
          rw [hq]
          exact good_slv Try.underlying71 Try.sizeOf93 hpow hlk hr
        generalize hfin : (fun s' => X (mkE Try.prog Try.f9 Q W (InR [] []) m2 H'.D (HistAt H') [⟨bw, zw, 0⟩] B9) _ s') = fin
        conv => cbv
        repeat (first | refine ⟨rfl, ?_⟩ | refine ⟨⟨_, _, rfl, rfl⟩, ?_⟩ | refine ⟨⟨rfl, _, _, rfl, rfl⟩, ?_⟩ | refine ⟨ht, ?_⟩)
        subst hfin
        show X _ _ _
        refine X.go T9_ok 400 _ rfl Try.results9 ?_
        conv => arg 2; cbv
        refine X.back (fun N a w' hN hf hS => hq2 ⟨k + 1, by omega⟩ a w' (by show nW - (k + 1) < nW - k; omega) ?_)
        exact At.same (nil_le N) hf hS (Nat.zero_le _) ⟨⟨_, rfl, .inl ⟨rfl, rfl⟩⟩, ⟨_, rfl, .inl ⟨rfl, rfl⟩⟩, ⟨_, rfl, .inl ⟨rfl, rfl⟩⟩, ⟨_, rfl, .inl ⟨rfl, rfl⟩⟩, ⟨_, rfl, .inl ⟨rfl, rfl⟩⟩, ⟨_, rfl, .inr ⟨_, rfl, by simp [SV.den, SI.den, hwrap64s k (by omega)]⟩⟩, trivial⟩ trivial
      · obtain ⟨hkE, hfk⟩ := hkst (by rw [← hste]; exact hst)
        have hkE : k < nE := by omega
        obtain ⟨pn1, cn1, hln⟩ := hnow.like k hkE
        rw [hfk] at hln
        obtain ⟨gn, hn1, hn2, hn3⟩ := hnow.vars k hkE
        rw [hfk] at hn1 hn2
        have hag := hn2.agree hv2
        have hn1 := hn1.congr hag
        have hpon := hnow.po k hkE
        have hcapn := hnow.cap
        have hrown := hnow.row k hkE
        obtain ⟨z1, hz1⟩ : ∃ z, z = y + k * 18 := ⟨_, rfl⟩
        obtain ⟨d1, hd1⟩ : ∃ d, d = c' - k := ⟨_, rfl⟩
        obtain ⟨d2, hd2⟩ : ∃ d, d = wc - k := ⟨_, rfl⟩
        obtain ⟨k1, hk1⟩ : ∃ d, d = k + 1 := ⟨_, rfl⟩
        have hw1 : IntKind.i64.wrap ((k : Int) + 1) = (k1 : Int) := by rw [hk1]; exact hwrap64s k (by omega)
        have ht1 : Eng.Told (SB.ne (SI.v e.st) (SI.lit 0)) true := ⟨by simp [SB.den, SI.den, hst]⟩
        have ht2 : Eng.Told (SB.ge (SI.nat k) (SI.nat nE)) false := ⟨by simp [SB.den, SI.den]; omega⟩
        refine X.go T9_ok 4 _ rfl Try.results9 ?_
        conv => arg 2; cbv
        refine X.drawnL (fn := Try.f9) T9_ok noCall (orO (idxS 114 _ [⟨2, 86, 87, 88, 71, k, .slv wp nW wc, .own 0 0⟩]) (orO (litO T9 114 _ [(5, 91, true), (10, 96, false)]) (sliceS 114 _ [⟨16, 98, 99, 101, 102, 71, k, k1, .slv p' nE c', .slv (some ⟨b, z1, none⟩) 1 d1⟩, ⟨21, 103, 104, 106, 107, 71, k, k1, .slv wp nW wc, .slv (some ⟨bw, zw, none⟩) 1 d2⟩]))) 22 [23, 24, 25] 22 rfl (by kernel_rfl) rfl noCall_ok (orO_ok (idxS_ok _ (by kernel_rfl) (fun q hq => ?_)) (orO_ok (litO_ok T9_ok _) (sliceS_ok _ (by kernel_rfl) (fun q hq => ?_)))) 114 rfl ?_
        · simp only [List.mem_cons, List.mem_nil_iff, or_false] at hq
          rw [hq]
          exact good_slv Try.underlying71 Try.sizeOf93 hpow hlk hr
        · simp only [List.mem_cons, List.mem_nil_iff, or_false] at hq
          rcases hq with rfl | rfl
          · refine ⟨_, 18, b, y, nE, c', Try.underlying71, Try.sizeOf93, by show k ≤ k1; omega, by show k1 ≤ c'; omega, by show k < c'; omega, fun N _ => ⟨by rw [hpon]; rfl, ?_⟩⟩
            show some (Value.slice (some ⟨b, z1, none⟩) 1 d1) = some (.slice (some ⟨b, y + k * 18, none⟩) (k1 - k) (c' - k))
            rw [hz1, hd1, show k1 - k = 1 by omega]
          · refine ⟨_, 18, bw, yw, nW, wc, Try.underlying71, Try.sizeOf93, by show k ≤ k1; omega, by show k1 ≤ wc; omega, by show k < wc; omega, fun N _ => ⟨by rw [hpow]; rfl, ?_⟩⟩
            show some (Value.slice (some ⟨bw, zw, none⟩) 1 d2) = some (.slice (some ⟨bw, yw + k * 18, none⟩) (k1 - k) (wc - k))
            rw [hzw, hd2, show k1 - k = 1 by omega]
        generalize hfin : (fun s' => X (mkE Try.prog Try.f9 Q W (InR [] []) m2 H'.D (HistAt H') [⟨bw, zw, 0⟩] B9) _ s') = fin
        conv => cbv
        repeat (first | refine ⟨rfl, ?_⟩ | refine ⟨⟨_, _, rfl, rfl⟩, ?_⟩ | refine ⟨⟨rfl, _, _, rfl, rfl⟩, ?_⟩ | refine ⟨ht1, ?_⟩ | refine ⟨ht2, ?_⟩ | refine ⟨⟨⟨_, _, rfl, rfl⟩, _, _, rfl, hw1⟩, ?_⟩ | refine ⟨⟨rfl, ⟨_, _, rfl, rfl⟩, _, _, rfl, hw1⟩, ?_⟩)
        subst hfin
        show X _ _ _
        refine X.bare rfl rfl ?_
        refine X.call rfl rfl rfl rfl Try.call38 (fun N w1 args hN hS ha => ?_)
        have ha' : [Value.slice (some ⟨b, z1, none⟩) 1 d1, .slice (some ⟨bw, zw, none⟩) 1 d2] = args := Option.some.inj (ha ▸ rfl : some _ = some args)
        subst ha'
        have hcall := same_ok (some ⟨b, z1, none⟩) (some ⟨bw, zw, none⟩) 1 d1 d2 (fun _ => f' k) (fun _ => e) (fun _ => go) w1 (by omega) (fun i hi => ⟨b, z1, z1, rfl, by omega, fun j v hj => hS.imm _ _ _ (by rw [hz1, Nat.add_assoc]; exact hrown j v hj)⟩) (fun i hi => ⟨bw, zw, zw, rfl, by omega, fun j v hj => hS.imm _ _ _ (hroww' j v hj)⟩)
          (fun _ _ => ⟨e.vp, e.vc, by rw [hlw, hln]⟩) (fun _ _ => ⟨by rw [hln] at hn1 ⊢; exact hn1.in hS.imm, by rw [hln]; exact hv1.in hS.imm, by rw [hln]; show (H.f k).vn ≤ 1000; omega⟩)
        refine hcall.mono fun ed w' ⟨he, hc⟩ => ⟨_, he, Goes.same (r := .bool (.lit true)) hN hS hc rfl rfl ?_⟩
        clear hcall hc he hS hN ha
        refine X.go T9_ok 400 _ rfl Try.results9 ?_
        conv => arg 2; cbv
        refine X.back (fun N a w' hN hf hS => hq2 ⟨k + 1, by omega⟩ a w' (by show nW - (k + 1) < nW - k; omega) ?_)
        exact At.same (nil_le N) hf hS (Nat.zero_le _) ⟨⟨_, rfl, .inl ⟨rfl, rfl⟩⟩, ⟨_, rfl, .inl ⟨rfl, rfl⟩⟩, ⟨_, rfl, .inl ⟨rfl, rfl⟩⟩, ⟨_, rfl, .inl ⟨rfl, rfl⟩⟩, ⟨_, rfl, .inl ⟨rfl, rfl⟩⟩, ⟨_, rfl, .inr ⟨_, rfl, by simp [SV.den, SI.den, hwrap64s k (by omega)]⟩⟩, trivial⟩ trivial
    · refine X.go T9_ok 400 _ rfl Try.results9 ?_
      conv => arg 2; cbv
      refine X.back (fun N a w' hN hf hS => hq ⟨((i + 1, H', m2), (nE, c', p', b, y, f')), by simp only; omega, hgo2, hnow⟩ a w' (by show n - (i + 1) < n - i; omega) ?_)
      exact At.same (nil_le N) hf hS (Nat.zero_le _) ⟨⟨_, rfl, .inl ⟨rfl, rfl⟩⟩, ⟨_, rfl, .inl ⟨rfl, rfl⟩⟩, ⟨_, rfl, .inl ⟨rfl, rfl⟩⟩, ⟨_, rfl, .inr ⟨_, rfl, by simp [SV.den, SI.den, hwrap64s i (by omega)]⟩⟩, trivial⟩ trivial
  refine X.go T9_ok 400 _ rfl Try.results9 ?_
  conv => arg 2; cbv
  refine X.call rfl rfl rfl rfl Try.call26 (fun N w1 args hN hS ha => ?_)
  have ha' : [] = args := Option.some.inj (ha ▸ rfl : some _ = some args)
  subst ha'
  refine (awake_ok w1).mono fun e w' ⟨he, hc⟩ => ⟨_, he, Goes.same (r := .bool (.lit true)) hN hS hc rfl rfl ?_⟩
  refine X.go T9_ok 400 _ rfl Try.results9 ?_
  conv => arg 2; cbv
  refine X.done T9_ok rfl (fun N w' v hN hS hv => ?_)
  simp [resV, SV.den, SB.den] at hv
  rw [hQ]
  exact ⟨by rw [← hv], hS.chg.none⟩

end Go.Proofs.Ytcfghkiokdbhjaa
