/- SectorSynced: the walk, within what is gone through. -/
import Derived.Test.YtkjhpaeminegoaaSe23
import Derived.Test.YtkjhpaeminegoaaSe25

namespace Go.Proofs.Ytkjhpaeminegoaa
open Go.Eng

set_option maxHeartbeats 8000000 in
set_option maxRecDepth 100000 in
set_option cbv.maxSteps 100000000 in
theorem secSyn_in (size count : Nat) (keep : Int) (torn : Bool) (po po2 : Option Addr) (n cp b x n2 cp2 b2 x2 : Nat) (f f2 : Nat → SStep) (w : World) (hl : StepsAt po n f b x w) (hl2 : StepsAt po2 n2 f2 b2 x2 w) (hs : smallS size count n f) (hs2 : smallS size count n2 f2) :
    Calls Try.prog 3 #[.int .i64 (size : Int), .int .i64 (count : Int), .slice po n cp, .slice po2 n2 cp2, .int .i64 keep, .bool torn] w fun e w' => e = .returned (.bool true) ∧ Chg (fun _ _ => False) w w' := by
  obtain ⟨Q, hQ⟩ : ∃ Q : Ending → World → Prop, Q = fun e w' => e = .returned (.bool true) ∧ Chg (fun _ _ => False) w w' := ⟨_, rfl⟩
  rw [← hQ]
  obtain ⟨z1, z2, z3, z4, hn60, hbn⟩ := hs
  obtain ⟨_, _, _, _, hn602, hbn2⟩ := hs2
  have hsz : sizesOk size count := by unfold sizesOk; omega
  refine X.begin (rg := []) (N := []) (ss := [.int .i64 (.nat size), .int .i64 (.nat count), .slv po n cp, .slv po2 n2 cp2, .int .i64 (.v keep), .bool (.v torn)]) Try.func3 rfl B3_ok rfl rfl Sat.std0 ?_
  obtain ⟨im, hime⟩ : ∃ im, im = elsewhere [] [] w := ⟨_, rfl⟩
  have him : ∀ {k o v}, w.cell? ⟨k, o, none⟩ = some v → im k o = some v := fun h => by rw [hime, elsewhere_not inR_nil]; exact h
  have himn : ∀ k o, w.heap.size ≤ k → im k o = none := fun k o h => by
    rw [hime]; unfold elsewhere
    rw [if_neg inR_nil]
    cases hc : w.cell? ⟨k, o, none⟩ with
    | none => rfl
    | some v => have := World.block_lt_of_cell? _ _ hc; simp only at this; omega
  show X (mkE Try.prog Try.f3 Q w (InR [] []) (elsewhere [] [] w) (fun _ _ => False) (fun _ => True) [] B3) _ _
  rw [← hime]
  have haw : ∀ (k : List It) (s : St), s.rg = [] → X (mkE Try.prog Try.f3 Q w (InR [] []) im (fun _ _ => False) (fun _ => True) [] B3) k s → X (mkE Try.prog Try.f3 Q w (InR [] []) im (fun _ _ => False) (fun _ => True) [] B3) k s := fun _ _ _ h => h
  refine X.go T3_ok 400 _ rfl Try.results3 ?_
  conv => arg 2; cbv
  refine X.call rfl rfl rfl rfl Try.call10 (fun N w1 args hN hS ha => ?_)
  obtain rfl : [Value.int .i64 (size : Int), .int .i64 (count : Int), .slice po n cp] = args := Option.some.inj ha
  refine (great12_ok size count po n cp b x f w1 (hl.chg (hS.chg.mono fun k o _ h => inR_nil h))).mono fun e w2 ⟨g, he, hg, hc⟩ => ⟨_, he, ?_⟩
  cases g with
  | true =>
    refine Goes.same (r := .bool (.lit true)) hN hS hc rfl rfl ?_
    clear ha he hc hS hN
    refine X.go T3_ok 400 _ rfl Try.results3 ?_
    conv => arg 2; cbv
    refine X.call rfl rfl rfl rfl Try.call11 (fun N w1 args hN hS ha => ?_)
    obtain rfl : ([] : List Value) = args := Option.some.inj ha
    refine (awake12_ok w1).mono fun e w2 ⟨he, hc⟩ => ⟨_, he, Goes.same (r := .bool (.lit true)) hN hS hc rfl rfl ?_⟩
    refine X.go T3_ok 400 _ rfl Try.results3 ?_
    conv => arg 2; cbv
    refine X.done T3_ok rfl (fun N w' v hN hS hv => ?_)
    rw [hQ]
    refine ⟨?_, hS.chg.mono fun k o _ h => inR_nil h⟩
    simp [resV, SV.den, SB.den] at hv
    rw [← hv]
  | false =>
  refine Goes.same (r := .bool (.lit false)) hN hS hc rfl rfl ?_
  clear ha he hc hS hN hg haw
  refine X.go T3_ok 400 _ rfl Try.results3 ?_
  conv => arg 2; cbv
  refine X.bare rfl rfl ?_
  refine X.call rfl rfl rfl rfl Try.call10 (fun N w1 args hN hS ha => ?_)
  obtain rfl : [Value.int .i64 (size : Int), .int .i64 (count : Int), .slice po2 n2 cp2] = args := Option.some.inj ha
  refine (great12_ok size count po2 n2 cp2 b2 x2 f2 w1 (hl2.chg (hS.chg.mono fun k o _ h => inR_nil h))).mono fun e w2 ⟨g, he, hg2, hc⟩ => ⟨_, he, ?_⟩
  cases g with
  | true =>
    refine Goes.same (r := .bool (.lit true)) hN hS hc rfl rfl ?_
    clear ha he hc hS hN
    refine X.go T3_ok 400 _ rfl Try.results3 ?_
    conv => arg 2; cbv
    refine X.call rfl rfl rfl rfl Try.call11 (fun N w1 args hN hS ha => ?_)
    obtain rfl : ([] : List Value) = args := Option.some.inj ha
    refine (awake12_ok w1).mono fun e w2 ⟨he, hc⟩ => ⟨_, he, Goes.same (r := .bool (.lit true)) hN hS hc rfl rfl ?_⟩
    refine X.go T3_ok 400 _ rfl Try.results3 ?_
    conv => arg 2; cbv
    refine X.done T3_ok rfl (fun N w' v hN hS hv => ?_)
    rw [hQ]
    refine ⟨?_, hS.chg.mono fun k o _ h => inR_nil h⟩
    simp [resV, SV.den, SB.den] at hv
    rw [← hv]
  | false =>
  refine Goes.same (r := .bool (.lit false)) hN hS hc rfl rfl ?_
  clear ha he hc hS hN hg2
  refine X.go T3_ok 400 _ rfl Try.results3 ?_
  conv => arg 2; cbv
  refine X.call rfl rfl rfl rfl Try.call12 (fun N w1 args hN hS ha => ?_)
  obtain rfl : [Value.int .i64 (size : Int), .int .i64 (count : Int)] = args := Option.some.inj ha
  refine (new_good size count w1 hsz).mono fun e w2 ⟨db, dy, m, he, hb, hm, hd, hc⟩ => ⟨_, he, ?_⟩
  have hws : w.heap.size ≤ w1.heap.size := hS.chg.size
  have pd := plain_new (B := w.heap.size) (b := db) (y := dy) (m := m) (size := size) (count := count) (by omega) (by omega) (by omega) (by omega)
  obtain ⟨d, hde⟩ : ∃ d, d = newDk db dy size count m := ⟨_, rfl⟩
  have hdb : d.b = db := by rw [hde]; rfl
  have hdy : d.y = dy := by rw [hde]; rfl
  rw [← hde] at hd pd
  refine Goes.turn (r := .tup [.ext db dy 0, .int .i64 (.lit 0)]) d.D (DiskAt d) hN hS (hc.mono fun _ _ _ h => h.elim) (fun _ _ h => h.elim) (fun _ _ h => h.elim) (fun g hg => by simp at hg) (fun k o hk => ⟨.inr ?_, hd.there hk⟩) DiskAt.loc hd rfl rfl ?_
  · rw [hde] at hk
    rcases newDk_D hk with rfl | rfl <;> assumption
  clear ha he hc hS hN hd hb hm hws hde
  show X (mkE Try.prog Try.f3 Q w (InR [] []) im d.D (DiskAt d) [] B3) _ _
  refine X.go T3_ok 400 _ rfl Try.results3 ?_
  conv => arg 2; cbv
  refine X.loop (E := mkE Try.prog Try.f3 Q w (InR [] []) im d.D (DiskAt d) [] B3)
    (fun g : WrG w.heap.size size count n db dy (fun _ _ => 0) f => mkE Try.prog Try.f3 Q w (InR [] []) im g.d.D (DiskAt g.d) [] B3)
    (fun g => ⟨[(0, .val (.int .i64 (.nat size))), (1, .val (.int .i64 (.nat count))), (2, .val (.slv po n cp)), (3, .val (.slv po2 n2 cp2)), (4, .val (.int .i64 (.v keep))), (5, .val (.bool (.v torn))), (13, .val (.ext db dy 0)), (15, .val (.int .i64 (.nat g.i)))], []⟩) (fun g => n - g.i) (fun g => ⟨rfl, rfl, rfl, rfl⟩) (fun N a w' hN hf hS => ⟨⟨0, d, [], Nat.zero_le _, Nat.zero_le _, pd, hdb, hdy, fun x hx => by simp at hx⟩, ?_⟩) (fun g q hq => ?_)
  · exact At.same hN hf hS (Nat.zero_le _) ⟨⟨_, rfl, .inl ⟨rfl, rfl⟩⟩, ⟨_, rfl, .inl ⟨rfl, rfl⟩⟩, ⟨_, rfl, .inl ⟨rfl, rfl⟩⟩, ⟨_, rfl, .inl ⟨rfl, rfl⟩⟩, ⟨_, rfl, .inl ⟨rfl, rfl⟩⟩, ⟨_, rfl, .inl ⟨rfl, rfl⟩⟩, ⟨_, rfl, .inl ⟨rfl, rfl⟩⟩, ⟨_, rfl, .inr ⟨_, rfl, rfl⟩⟩, trivial⟩ trivial
  clear pd hdb hdy
  clear d
  obtain ⟨i, d, l, hi, hll, pd, hdb, hdy, hof⟩ := g
  show X (mkE Try.prog Try.f3 Q w (InR [] []) im d.D (DiskAt d) [] B3) _ _
  have hO : ∀ k o, d.D k o → w.heap.size ≤ k := fun k o h => pd.far k o h
  refine X.go T3_ok 400 _ rfl Try.results3 ?_
  conv => arg 2; cbv
  refine X.cond rfl (fun hlt => ?_) (fun hge => ?_)
  · simp only [SB.T, SI.den] at hlt
    have hlt : i < n := by omega
    refine X.go T3_ok 400 _ rfl Try.results3 ?_
    conv => arg 2; cbv
    obtain ⟨z, hz⟩ : ∃ z, z = x + i * 6 := ⟨_, rfl⟩
    obtain ⟨e, he⟩ : ∃ e, e = f i := ⟨_, rfl⟩
    have hby := fun (w' : World) (hw : ∀ k o v, im k o = some v → w'.cell? ⟨k, o, none⟩ = some v) => hl.bytes him hw hlt
    have hlow := hl.low hlt
    have hrow := hl.row i hlt
    rw [← he] at hlow hrow
    simp only [← he] at hby
    obtain ⟨kd, ei, eat, bp, bn, bc, tn, eby, eg⟩ := e
    refine X.see b z (SStep.svs ⟨kd, ei, eat, bp, bn, bc, tn, eby, eg⟩) (fun j c hj => ?_) (by simp [SStep.svs]) (fun N0 hN0 hNl => ?_)
    · obtain ⟨v, h1, h2⟩ := SStep.svs_at _ j c hj
      exact ⟨v, h1, him (by rw [hz]; exact hrow j v h2)⟩
    obtain rfl : N0 = [] := List.eq_nil_of_length_eq_zero hNl
    have hpo := hl.po (by omega)
    have hr : ∀ N : Nums, Nums.le ([] ++ [⟨b, z, 0⟩]) N → (SV.own 0 0).den N = some (.pointer (some ⟨b, x + i * 6, none⟩)) := fun N hN => by
      have := hN 0 _ rfl
      simp only [SV.den, this, hz, Nat.add_zero]
    refine X.drawnL (fn := Try.f3) T3_ok noCall (idxG 152 [⟨3, 56, 57, 58, 22, i, .slv po n cp, .own 0 0⟩, ⟨8, 61, 62, 63, 22, i, .slv po n cp, .own 0 0⟩]) 11 [] 11 rfl (by kernel_rfl) rfl noCall_ok (idxG_ok _ (by kernel_rfl) (fun q hq => ?_)) 152 rfl ?_
    · simp only [List.mem_cons, List.not_mem_nil, or_false] at hq
      rcases hq with rfl | rfl <;> exact good_slv Try.underlying22 Try.sizeOf32 hpo hlt hr
    obtain ⟨wc, hwc⟩ : ∃ wc, wc = wcode size count ei bn := ⟨_, rfl⟩
    have hreg : ∀ j, j < 6 → ¬ d.D b (z + j) := fun j hj hd => by
      have h1 := hO _ _ hd
      obtain ⟨v, hv⟩ : ∃ v, (SStep.vals ⟨kd, ei, eat, bp, bn, bc, tn, eby, eg⟩)[j]? = some v := ⟨_, List.getElem?_eq_getElem (by simp [SStep.vals]; exact hj)⟩
      have h2 : w.cell? ⟨b, z + j, none⟩ = some v := by rw [hz]; exact hrow j v hv
      have := World.block_lt_of_cell? _ _ h2
      simp only at this
      omega
    generalize hfin : (fun s' => X (mkE Try.prog Try.f3 Q w (InR [] []) im d.D (DiskAt d) ([] ++ [⟨b, z, 0⟩]) B3) _ s') = fin
    conv => cbv
    repeat (first | refine ⟨rfl, ?_⟩ | refine ⟨⟨_, _, rfl, rfl⟩, ?_⟩ | refine ⟨⟨rfl, _, _, rfl, rfl⟩, ?_⟩)
    subst hfin
    show X (mkE Try.prog Try.f3 Q w (InR [] []) im d.D (DiskAt d) ([] ++ [⟨b, z, 0⟩]) B3) _ _
    refine X.call rfl rfl rfl rfl Try.call13 (fun N w1 args hN hS ha => ?_)
    obtain rfl := args_eq (vs := [.pointer (some ⟨d.b, d.y, none⟩), .int .i64 ei, .slice bp bn bc]) (by rw [hdb, hdy]; rfl) ha
    refine (p_write pd ei bp bn bc eg w1 hS.res (by omega) hS.chg.size (hby w1 hS.imm) hlow).mono fun e w2 ⟨he', d2, hto⟩ => ⟨_, he', ?_⟩
    rw [← hwc]
    have hp0 : N[0]? = some ⟨b, z, 0⟩ := hN 0 _ rfl
    refine Goes.turn' (r := .int .i64 (.v wc)) d2.D (DiskAt d2) hN hS hto.chg (fun k o h => .inl (hO k o h)) (fun k o h => himn k o (hO k o h)) (fun r g p hg hp => ?_) (fun k o hk => ⟨hto.inD k o hk, hto.at'.there hk⟩) DiskAt.loc hto.at' rfl rfl ?_
    · match r, hg with
      | 0, hg =>
        cases hg
        rw [hp0] at hp; cases hp
        exact .inr fun j hj => hreg j hj
      | r + 1, hg => cases hg
    show X (mkE Try.prog Try.f3 Q w (InR [] []) im d2.D (DiskAt d2) ([] ++ [⟨b, z, 0⟩]) B3) _ _
    clear ha he' hS hN hp0
    have pd2 := hto.p
    have e3 := hto.b
    have e4 := hto.y
    clear hto
    refine X.go T3_ok 400 _ rfl Try.results3 ?_
    conv => arg 2; cbv
    have hwl := wlog_len (size := size) (count := count) (l := l) (i := ei) (n := bn) (g := eg)
    have hof2 := wlog_of (size := size) (count := count) (e := ei) (n := bn) (g := eg) hof (by rw [← he])
    refine X.back (fun N a w' hN hf hS => hq ⟨i + 1, d2, wlog size count l ei bn eg, by omega, by omega, pd2, e3.trans hdb, e4.trans hdy, hof2⟩ a w' (by simp only; omega) ?_)
    show At (mkE Try.prog Try.f3 Q w (InR [] []) im d2.D (DiskAt d2) [] B3) _ a w'
    have hS' : Sat (mkE Try.prog Try.f3 Q w (InR [] []) im d2.D (DiskAt d2) [] B3).toEnv N _ w' := hS.env rfl rfl rfl rfl rfl
    refine At.mk (N0 := []) (fun r p h => by simp at h) hf hS' (Nat.zero_le _) ⟨⟨_, rfl, .inl ⟨rfl, rfl⟩⟩, ⟨_, rfl, .inl ⟨rfl, rfl⟩⟩, ⟨_, rfl, .inl ⟨rfl, rfl⟩⟩, ⟨_, rfl, .inl ⟨rfl, rfl⟩⟩, ⟨_, rfl, .inl ⟨rfl, rfl⟩⟩, ⟨_, rfl, .inl ⟨rfl, rfl⟩⟩, ⟨_, rfl, .inl ⟨rfl, rfl⟩⟩, ⟨_, rfl, .inr ⟨_, rfl, by simp [SV.den, SI.den, hwrap64s i (by omega)]⟩⟩, trivial⟩ trivial (fun _ _ _ h => h) hS.loc hS.res
  · simp only [SB.F, SI.den] at hge
    obtain rfl : i = n := by omega
    refine X.go T3_ok 400 _ rfl Try.results3 ?_
    conv => arg 2; cbv
    refine X.call rfl rfl rfl rfl Try.call14 (fun N w1 args hN hS ha => ?_)
    obtain rfl := args_eq (vs := [.pointer (some ⟨d.b, d.y, none⟩)]) (by rw [hdb, hdy]; rfl) ha
    refine (p_sync pd w1 hS.res).mono fun e w2 ⟨he, d2, hto⟩ => ⟨_, he, ?_⟩
    obtain ⟨us0, hus0⟩ : ∃ us0 : Nat → By, us0 = fun _ => ⟨0, 0, 0, fun _ => 0⟩ := ⟨_, rfl⟩
    have hsy : SyAt d2 us0 0 size w2 := ⟨hto.at', fun j hj => by omega⟩
    refine Goes.turn (r := .int .i64 (.lit 0)) (syD d2 us0 0 size) (SyAt d2 us0 0 size) hN hS hto.chg (fun k o h => .inl (hO k o h)) (fun k o h => himn k o (hO k o h)) (fun g hg => by simp at hg) (fun k o hk => ⟨?_, hsy.there hk⟩) SyAt.loc hsy rfl rfl ?_
    · rcases hk with hk | ⟨j, hj, _⟩
      · exact hto.inD k o hk
      · omega
    clear hsy
    show X (mkE Try.prog Try.f3 Q w (InR [] []) im (syD d2 us0 0 size) (SyAt d2 us0 0 size) [] B3) _ _
    clear ha he hS hN
    have pd2 := hto.p
    have e3 := hto.b
    have e4 := hto.y
    clear hto
    obtain ⟨st, hst⟩ : ∃ st, st = foldW (fun _ _ => 0) l := ⟨_, rfl⟩
    rw [← hst] at pd2
    rw [hdb] at e3
    rw [hdy] at e4
    clear hst pd hO hof hll hq hdb hdy
    have hdb := e3
    have hdy := e4
    clear e3 e4
    obtain ⟨d, hd⟩ : ∃ d, d = d2 := ⟨_, rfl⟩
    rw [← hd] at pd2 hdb hdy ⊢
    clear hd
    have pd := pd2
    clear pd2
    have hO : ∀ k o, d.D k o → w.heap.size ≤ k := fun k o h => pd.far k o h
    refine X.go T3_ok 400 _ rfl Try.results3 ?_
    conv => arg 2; cbv
    refine X.loop (E := mkE Try.prog Try.f3 Q w (InR [] []) im (syD d us0 0 size) (SyAt d us0 0 size) [] B3)
      (fun g : RdG w.heap.size size count d st => mkE Try.prog Try.f3 Q w (InR [] []) im (syD d g.us g.i size) (SyAt d g.us g.i size) [] B3)
      (fun g => ⟨[(0, .val (.int .i64 (.nat size))), (1, .val (.int .i64 (.nat count))), (3, .val (.slv po2 n2 cp2)), (4, .val (.int .i64 (.v keep))), (5, .val (.bool (.v torn))), (13, .val (.ext db dy 0)), (16, .val (.osl 0 0 g.i 1 (wasK g.i))), (17, .val (.int .i64 (.nat g.i)))], [⟨true, wasL g.us g.i size, none⟩]⟩) (fun g => count - g.i) (fun g => ⟨rfl, rfl, rfl, rfl⟩) (fun N a w' hN hf hS => ⟨⟨0, us0, Nat.zero_le _, fun k o _ j hj => by omega, fun j hj => by omega, fun j hj => by omega⟩, ?_⟩) (fun g q hq => ?_)
    · exact At.same hN hf hS (Nat.zero_le _) ⟨⟨_, rfl, .inl ⟨rfl, rfl⟩⟩, ⟨_, rfl, .inl ⟨rfl, rfl⟩⟩, ⟨_, rfl, .inl ⟨rfl, rfl⟩⟩, ⟨_, rfl, .inl ⟨rfl, rfl⟩⟩, ⟨_, rfl, .inl ⟨rfl, rfl⟩⟩, ⟨_, rfl, .inl ⟨rfl, rfl⟩⟩, ⟨_, rfl, .inl ⟨rfl, rfl⟩⟩, ⟨_, rfl, .inr ⟨_, rfl, rfl⟩⟩, trivial⟩ ⟨fun h => h, SubC.refl rfl, rfl, trivial⟩
    clear us0 hus0
    rename_i i0 _ _ _ _
    obtain ⟨i, us, hi, hap, hfar, hff⟩ := g
    obtain ⟨cs, hcs⟩ : ∃ cs, cs = wasL us i size := ⟨_, rfl⟩
    obtain ⟨kk, hkk⟩ : ∃ kk, kk = wasK i := ⟨_, rfl⟩
    show X (mkE Try.prog Try.f3 Q w (InR [] []) im (syD d us i size) (SyAt d us i size) [] B3) _ ⟨[(0, .val (.int .i64 (.nat size))), (1, .val (.int .i64 (.nat count))), (3, .val (.slv po2 n2 cp2)), (4, .val (.int .i64 (.v keep))), (5, .val (.bool (.v torn))), (13, .val (.ext db dy 0)), (16, .val (.osl 0 0 i 1 (wasK i))), (17, .val (.int .i64 (.nat i)))], [⟨true, wasL us i size, none⟩]⟩
    rw [← hcs, ← hkk]
    have hO1 : ∀ k o, syD d us i size k o → w.heap.size ≤ k := fun k o h => by
      rcases h with h | ⟨j, hj, h⟩
      · exact hO k o h
      · have := hfar j hj; have : k = (us j).k := h.1; omega
    refine X.go T3_ok 400 _ rfl Try.results3 ?_
    conv => arg 2; cbv
    refine X.cond rfl (fun hlt => ?_) (fun hge => ?_)
    · simp only [SB.T, SI.den] at hlt
      refine X.go T3_ok 400 _ rfl Try.results3 ?_
      conv => arg 2; cbv
      have hrng : 0 ≤ (i : Int) ∧ (i : Int) < count := by omega
      refine X.call rfl rfl rfl rfl Try.call15 (fun N w1 args hN hS ha => ?_)
      obtain rfl := args_eq (vs := [.pointer (some ⟨d.b, d.y, none⟩), .int .i64 (i : Int)]) (by rw [hdb, hdy]; rfl) ha
      have hR : SyAt d us i size w1 := hS.res
      refine (p_read pd i hrng w1 hR.d).mono fun e w2 ⟨k, y, x, he, h1, h2, h3, h4, h5⟩ => ⟨_, he, ?_⟩
      rw [foldW_nil] at h3
      obtain ⟨q1, q2, q3⟩ := hR.read hap h1 h2 h3 h4 h5
      refine Goes.turn (r := .tup [.slv (some ⟨k, y, none⟩) size x, .int .i64 (.lit 0)]) (syD d (updA us i ⟨k, y, x, st i⟩) (i + 1) size) (SyAt d (updA us i ⟨k, y, x, st i⟩) (i + 1) size) hN hS (h5.mono fun _ _ _ h => h.elim) (fun k o h => .inl (hO1 k o h)) (fun k o h => himn k o (hO1 k o h)) (fun g hg => by simp at hg; subst hg; exact .inl rfl) q3 SyAt.loc q1 rfl rfl ?_
      have hkw : w.heap.size ≤ k := Nat.le_trans hS.chg.size h1
      clear ha he hS hN h1 h2 h3 h4 h5 hR
      obtain ⟨us', hus'⟩ : ∃ us', us' = updA us i ⟨k, y, x, st i⟩ := ⟨_, rfl⟩
      rw [← hus'] at q1 q2 q3 ⊢
      show X (mkE Try.prog Try.f3 Q w (InR [] []) im (syD d us' (i + 1) size) (SyAt d us' (i + 1) size) [] B3) _ _
      refine X.go T3_ok 18 _ rfl Try.results3 ?_
      conv => arg 2; cbv
      obtain ⟨c1, hc1⟩ : ∃ c1 : SV, c1 = .slv (some ⟨k, y, none⟩) size x := ⟨_, rfl⟩
      obtain ⟨g0, happ⟩ := app_was (te := ti30) (rg := [⟨true, cs, none⟩, ⟨true, [c1], none⟩]) (us := us) (i := i) (size := size) (cs := cs) (c := c1) (by omega) rfl rfl (by decide) (by rw [hc1]; rfl) hcs rfl
      rw [← hkk] at happ
      refine X.less [0, 1, 3, 4, 5, 13, 17, 84, 86] ?_
      show X (mkE Try.prog Try.f3 Q w (InR [] []) im (syD d us' (i + 1) size) (SyAt d us' (i + 1) size) [] B3) _ ⟨[(86, .val (.osl 1 0 1 1 (some 1))), (84, .val (.osl 0 0 i 1 kk)), (0, .val (.int .i64 (.nat size))), (1, .val (.int .i64 (.nat count))), (3, .val (.slv po2 n2 cp2)), (4, .val (.int .i64 (.v keep))), (5, .val (.bool (.v torn))), (13, .val (.ext db dy 0)), (17, .val (.int .i64 (.nat i)))], [⟨true, cs, none⟩, ⟨true, [.slv (some ⟨k, y, none⟩) size x], none⟩]⟩
      rw [← hc1]
      refine X.opEq (T := T3) T3_ok (opE_append (te := ti30) (new := [c1]) (m := 1) rfl rfl rfl rfl rfl rfl rfl rfl (appSrc_row (g := ⟨true, [c1], none⟩) rfl rfl rfl rfl) happ rfl) ?_
      have hcs2 : cs ++ [c1] = wasL us' (i + 1) size := by rw [hcs, hc1, hus']; exact wasL_succ us i size ⟨k, y, x, st i⟩
      rw [hcs2]
      obtain ⟨cs2, hcs3⟩ : ∃ c, c = wasL us' (i + 1) size := ⟨_, rfl⟩
      rw [← hcs3]
      have hbd : cs2.all (bd 1) = true := by rw [hcs3]; exact wasL_bd
      refine X.go T3_ok 400 _ rfl Try.results3 ?_
      conv => arg 2; cbv
      refine X.less [0, 1, 3, 4, 5, 13, 16, 17] ?_
      have hcd : ∀ c ∈ cs2, ∀ (p0 : Num) (N : Nums) (v : Value), c.den (p0 :: N) = some v → c.den N = some v := fun c hc p0 N v hv => by
        rw [hcs3] at hc
        obtain ⟨j, _, rfl⟩ := List.mem_map.1 hc
        exact hv
      refine X.shift (rg := [⟨true, [c1], none⟩, ⟨true, cs2, none⟩]) rfl [(17, .val (.int .i64 (.wrap .i64 (.add (.nat i) (.lit 1))))), (16, .val (.osl 1 0 (i + 1) 1 none)), (0, .val (.int .i64 (.nat size))), (1, .val (.int .i64 (.nat count))), (3, .val (.slv po2 n2 cp2)), (4, .val (.int .i64 (.v keep))), (5, .val (.bool (.v torn))), (13, .val (.ext db dy 0))] (fun p0 N => ⟨rfl, fun _ h => h, rfl, fun _ h => h, rfl, fun _ h => h, rfl, fun _ h => h, rfl, fun _ h => h, rfl, fun _ h => h, rfl, fun _ h => h, rfl, fun _ h => h, trivial⟩) (fun g hg c hc p0 N v hv => ?_) (fun g hg => ?_) ?_
      · simp only [List.mem_cons, List.not_mem_nil, or_false] at hg
        rcases hg with rfl | rfl
        · simp only [List.mem_cons, List.not_mem_nil, or_false] at hc
          subst hc
          rw [hc1] at hv ⊢
          exact hv
        · exact hcd c hc p0 N v hv
      · simp only [List.mem_cons, List.not_mem_nil, or_false] at hg
        rcases hg with rfl | rfl <;> rfl
      refine X.shift (rg := [⟨true, cs2, none⟩]) rfl [(17, .val (.int .i64 (.wrap .i64 (.add (.nat i) (.lit 1))))), (16, .val (.osl 0 0 (i + 1) 1 none)), (0, .val (.int .i64 (.nat size))), (1, .val (.int .i64 (.nat count))), (3, .val (.slv po2 n2 cp2)), (4, .val (.int .i64 (.v keep))), (5, .val (.bool (.v torn))), (13, .val (.ext db dy 0))] (fun p0 N => ⟨rfl, fun _ h => h, rfl, fun _ h => h, rfl, fun _ h => h, rfl, fun _ h => h, rfl, fun _ h => h, rfl, fun _ h => h, rfl, fun _ h => h, rfl, fun _ h => h, trivial⟩) (fun g hg c hc p0 N v hv => ?_) (fun g hg => ?_) ?_
      · simp only [List.mem_cons, List.not_mem_nil, or_false] at hg
        subst hg
        exact hcd c hc p0 N v hv
      · simp only [List.mem_cons, List.not_mem_nil, or_false] at hg
        subst hg; rfl
      refine X.back (fun N a w' hN hf hS => hq ⟨i + 1, us', by omega, q2, fun j hj => ?_, fun j hj => ?_⟩ a w' (by simp only; omega) ?_)
      · rw [hus']
        by_cases e : j = i
        · subst e; rw [updA_at]; exact hkw
        · rw [updA_ne _ _ e]; exact hfar j (by omega)
      · rw [hus']
        by_cases e : j = i
        · subst e; rw [updA_at]
        · rw [updA_ne _ _ e]; exact hff j (by omega)
      show At (mkE Try.prog Try.f3 Q w (InR [] []) im (syD d us' (i + 1) size) (SyAt d us' (i + 1) size) [] B3) ⟨[(0, .val (.int .i64 (.nat size))), (1, .val (.int .i64 (.nat count))), (3, .val (.slv po2 n2 cp2)), (4, .val (.int .i64 (.v keep))), (5, .val (.bool (.v torn))), (13, .val (.ext db dy 0)), (16, .val (.osl 0 0 (i + 1) 1 none)), (17, .val (.int .i64 (.nat (i + 1))))], [⟨true, wasL us' (i + 1) size, none⟩]⟩ a w'
      rw [← hcs3]
      have hS' : Sat (mkE Try.prog Try.f3 Q w (InR [] []) im (syD d us' (i + 1) size) (SyAt d us' (i + 1) size) [] B3).toEnv N _ w' := hS.env rfl rfl rfl rfl rfl
      exact At.mk (N0 := []) (fun r p h => by simp at h) hf hS' (Nat.zero_le _) ⟨⟨_, rfl, .inl ⟨rfl, rfl⟩⟩, ⟨_, rfl, .inl ⟨rfl, rfl⟩⟩, ⟨_, rfl, .inl ⟨rfl, rfl⟩⟩, ⟨_, rfl, .inl ⟨rfl, rfl⟩⟩, ⟨_, rfl, .inl ⟨rfl, rfl⟩⟩, ⟨_, rfl, .inl ⟨rfl, rfl⟩⟩, ⟨_, rfl, .inl ⟨rfl, rfl⟩⟩, ⟨_, rfl, .inr ⟨_, rfl, by simp [SV.den, SI.den, hwrap64s i (by omega)]⟩⟩, trivial⟩ ⟨fun h => h, SubC.refl hbd, rfl, trivial⟩ (fun _ _ _ h => h) hS.loc hS.res
    simp only [SB.F, SI.den] at hge
    obtain rfl : i = count := by omega
    refine X.go T3_ok 400 _ rfl Try.results3 ?_
    conv => arg 2; cbv
    have hk0 : kk = none := by
      rw [hkk]
      cases i with
      | zero => omega
      | succ n => rfl
    rw [hk0]
    have hbd : cs.all (bd 1) = true := by rw [hcs]; exact wasL_bd
    refine X.loop (E := mkE Try.prog Try.f3 Q w (InR [] []) im (syD d us i size) (SyAt d us i size) [] B3)
      (fun g : WrS w.heap.size size i n2 db dy st f2 us => mkE Try.prog Try.f3 Q w (InR [] []) im (syD g.d us i size) (SyAt g.d us i size) [] B3)
      (fun g => ⟨[(0, .val (.int .i64 (.nat size))), (1, .val (.int .i64 (.nat i))), (3, .val (.slv po2 n2 cp2)), (4, .val (.int .i64 (.v keep))), (5, .val (.bool (.v torn))), (13, .val (.ext db dy 0)), (16, .val (.osl 0 0 i 1 none)), (20, .val (.int .i64 (.nat g.i)))], [⟨true, cs, none⟩]⟩) (fun g => n2 - g.i) (fun g => ⟨rfl, rfl, rfl, rfl⟩) (fun N a w' hN hf hS => ⟨⟨⟨0, d, [], Nat.zero_le _, Nat.zero_le _, pd, hdb, hdy, fun x hx => by simp at hx⟩, hap⟩, ?_⟩) (fun g q hq => ?_)
    · exact At.same hN hf hS (Nat.zero_le _) ⟨⟨_, rfl, .inl ⟨rfl, rfl⟩⟩, ⟨_, rfl, .inl ⟨rfl, rfl⟩⟩, ⟨_, rfl, .inl ⟨rfl, rfl⟩⟩, ⟨_, rfl, .inl ⟨rfl, rfl⟩⟩, ⟨_, rfl, .inl ⟨rfl, rfl⟩⟩, ⟨_, rfl, .inl ⟨rfl, rfl⟩⟩, ⟨_, rfl, .inl ⟨rfl, rfl⟩⟩, ⟨_, rfl, .inr ⟨_, rfl, rfl⟩⟩, trivial⟩ ⟨fun h => h, SubC.refl hbd, rfl, trivial⟩
    obtain ⟨⟨i2, d, l, hi2, hll2, pd, hdb, hdy, hof2⟩, hap⟩ := g
    show X (mkE Try.prog Try.f3 Q w (InR [] []) im (syD d us i size) (SyAt d us i size) [] B3) _ _
    have hO1 : ∀ k o, syD d us i size k o → w.heap.size ≤ k := fun k o h => by
      rcases h with h | ⟨j, hj, h⟩
      · exact pd.far k o h
      · have := hfar j hj; have : k = (us j).k := h.1; omega
    refine X.go T3_ok 400 _ rfl Try.results3 ?_
    conv => arg 2; cbv
    refine X.cond rfl (fun hlt => ?_) (fun hge => ?_)
    · simp only [SB.T, SI.den] at hlt
      have hlt : i2 < n2 := by omega
      refine X.go T3_ok 400 _ rfl Try.results3 ?_
      conv => arg 2; cbv
      obtain ⟨z, hz⟩ : ∃ z, z = x2 + i2 * 6 := ⟨_, rfl⟩
      obtain ⟨e, he⟩ : ∃ e, e = f2 i2 := ⟨_, rfl⟩
      have hby := fun (w' : World) (hw : ∀ k o v, im k o = some v → w'.cell? ⟨k, o, none⟩ = some v) => hl2.bytes him hw hlt
      have hlow := hl2.low hlt
      have hrow := hl2.row i2 hlt
      rw [← he] at hlow hrow
      simp only [← he] at hby
      obtain ⟨kd, ei, eat, bp, bn, bc, tn, eby, eg⟩ := e
      refine X.see b2 z (SStep.svs ⟨kd, ei, eat, bp, bn, bc, tn, eby, eg⟩) (fun j c hj => ?_) (by simp [SStep.svs]) (fun N0 hN0 hNl => ?_)
      · obtain ⟨v, h1, h2⟩ := SStep.svs_at _ j c hj
        exact ⟨v, h1, him (by rw [hz]; exact hrow j v h2)⟩
      have hNl : N0.length = 1 := hNl
      have hpo := hl2.po (by omega)
      have hg1 : (N0 ++ [(⟨b2, z, 0⟩ : Num)])[1]? = some ⟨b2, z, 0⟩ := by rw [List.getElem?_append_right (by omega)]; simp [hNl]
      have hr : ∀ N : Nums, Nums.le (N0 ++ [⟨b2, z, 0⟩]) N → (SV.own 1 0).den N = some (.pointer (some ⟨b2, x2 + i2 * 6, none⟩)) := fun N hN => by
        have := hN 1 _ hg1
        simp only [SV.den, this, hz, Nat.add_zero]
      refine X.drawnL (fn := Try.f3) T3_ok noCall (idxG 152 [⟨3, 95, 96, 97, 22, i2, .slv po2 n2 cp2, .own 1 0⟩, ⟨8, 100, 101, 102, 22, i2, .slv po2 n2 cp2, .own 1 0⟩]) 11 [] 11 rfl (by kernel_rfl) rfl noCall_ok (idxG_ok _ (by kernel_rfl) (fun q hq => ?_)) 152 rfl ?_
      · simp only [List.mem_cons, List.not_mem_nil, or_false] at hq
        rcases hq with rfl | rfl <;> exact good_slv Try.underlying22 Try.sizeOf32 hpo hlt hr
      obtain ⟨wc, hwc⟩ : ∃ wc, wc = wcode size i ei bn := ⟨_, rfl⟩
      have hreg : ∀ j, j < 6 → ¬ syD d us i size b2 (z + j) := fun j hj hd => by
        have h1 := hO1 _ _ hd
        obtain ⟨v, hv⟩ : ∃ v, (SStep.vals ⟨kd, ei, eat, bp, bn, bc, tn, eby, eg⟩)[j]? = some v := ⟨_, List.getElem?_eq_getElem (by simp [SStep.vals]; exact hj)⟩
        have h2 : w.cell? ⟨b2, z + j, none⟩ = some v := by rw [hz]; exact hrow j v hv
        have := World.block_lt_of_cell? _ _ h2
        simp only at this
        omega
      generalize hfin : (fun s' => X (mkE Try.prog Try.f3 Q w (InR [] []) im (syD d us i size) (SyAt d us i size) (N0 ++ [⟨b2, z, 0⟩]) B3) _ s') = fin
      conv => cbv
      repeat (first | refine ⟨rfl, ?_⟩ | refine ⟨⟨_, _, rfl, rfl⟩, ?_⟩ | refine ⟨⟨rfl, _, _, rfl, rfl⟩, ?_⟩)
      subst hfin
      show X (mkE Try.prog Try.f3 Q w (InR [] []) im (syD d us i size) (SyAt d us i size) (N0 ++ [⟨b2, z, 0⟩]) B3) _ _
      refine X.call rfl rfl rfl rfl Try.call13 (fun N w1 args hN hS ha => ?_)
      obtain rfl := args_eq (vs := [.pointer (some ⟨d.b, d.y, none⟩), .int .i64 ei, .slice bp bn bc]) (by rw [hdb, hdy]; rfl) ha
      have hR : SyAt d us i size w1 := hS.res
      refine (p_write pd ei bp bn bc eg w1 hR.d (by omega) hS.chg.size (hby w1 hS.imm) hlow).mono fun e w2 ⟨he', d2, hto⟩ => ⟨_, he', ?_⟩
      rw [← hwc]
      obtain ⟨q1, q2, q3, q4⟩ := hto.sy hR hap
      have hp0 : N[1]? = some ⟨b2, z, 0⟩ := hN 1 _ hg1
      refine Goes.turn' (r := .int .i64 (.v wc)) (syD d2 us i size) (SyAt d2 us i size) hN hS q3 (fun k o h => .inl (hO1 k o h)) (fun k o h => himn k o (hO1 k o h)) (fun r g p hg hp => ?_) q4 SyAt.loc q1 rfl rfl ?_
      · match r, hg with
        | 0, hg => cases hg; exact .inl rfl
        | 1, hg =>
          cases hg
          rw [hp0] at hp; cases hp
          exact .inr fun j hj => hreg j hj
        | r + 2, hg => cases hg
      show X (mkE Try.prog Try.f3 Q w (InR [] []) im (syD d2 us i size) (SyAt d2 us i size) (N0 ++ [⟨b2, z, 0⟩]) B3) _ _
      clear ha he' hS hN hp0 q1 q3 q4 hR
      have pd2 := hto.p
      have e3 := hto.b
      have e4 := hto.y
      clear hto
      refine X.go T3_ok 400 _ rfl Try.results3 ?_
      conv => arg 2; cbv
      have hwl := wlog_len (size := size) (count := i) (l := l) (i := ei) (n := bn) (g := eg)
      have hof3 := wlog_of (size := size) (count := i) (e := ei) (n := bn) (g := eg) hof2 (by rw [← he])
      refine X.back (fun N a w' hN hf hS => hq ⟨⟨i2 + 1, d2, wlog size i l ei bn eg, by omega, by omega, pd2, e3.trans hdb, e4.trans hdy, hof3⟩, q2⟩ a w' (by simp only; omega) ?_)
      show At (mkE Try.prog Try.f3 Q w (InR [] []) im (syD d2 us i size) (SyAt d2 us i size) [] B3) ⟨[(0, .val (.int .i64 (.nat size))), (1, .val (.int .i64 (.nat i))), (3, .val (.slv po2 n2 cp2)), (4, .val (.int .i64 (.v keep))), (5, .val (.bool (.v torn))), (13, .val (.ext db dy 0)), (16, .val (.osl 0 0 i 1 none)), (20, .val (.int .i64 (.nat (i2 + 1))))], [⟨true, cs, none⟩]⟩ a w'
      have hS' : Sat (mkE Try.prog Try.f3 Q w (InR [] []) im (syD d2 us i size) (SyAt d2 us i size) [] B3).toEnv N _ w' := hS.env rfl rfl rfl rfl rfl
      exact At.mk (N0 := []) (fun r p h => by simp at h) hf hS' (Nat.zero_le _) ⟨⟨_, rfl, .inl ⟨rfl, rfl⟩⟩, ⟨_, rfl, .inl ⟨rfl, rfl⟩⟩, ⟨_, rfl, .inl ⟨rfl, rfl⟩⟩, ⟨_, rfl, .inl ⟨rfl, rfl⟩⟩, ⟨_, rfl, .inl ⟨rfl, rfl⟩⟩, ⟨_, rfl, .inl ⟨rfl, rfl⟩⟩, ⟨_, rfl, .inl ⟨rfl, rfl⟩⟩, ⟨_, rfl, .inr ⟨_, rfl, by simp [SV.den, SI.den, hwrap64s i2 (by omega)]⟩⟩, trivial⟩ ⟨fun h => h, SubC.refl hbd, rfl, trivial⟩ (fun _ _ _ h => h) hS.loc hS.res
    simp only [SB.F, SI.den] at hge
    obtain rfl : i2 = n2 := by omega
    refine X.go T3_ok 400 _ rfl Try.results3 ?_
    conv => arg 2; cbv
    refine X.call rfl rfl rfl rfl Try.call16 (fun N w1 args hN hS ha => ?_)
    obtain rfl := args_eq (vs := [.pointer (some ⟨d.b, d.y, none⟩), .int .i64 keep, .bool torn]) (by rw [hdb, hdy]; rfl) ha
    have hR : SyAt d us i size w1 := hS.res
    refine (p_back_any pd keep torn w1 hR.d).mono fun e w2 ⟨he, d2, hto⟩ => ⟨_, he, ?_⟩
    obtain ⟨q1, q2, q3, q4⟩ := hto.sy hR hap
    refine Goes.turn (r := .tup []) (syD d2 us i size) (SyAt d2 us i size) hN hS q3 (fun k o h => .inl (hO1 k o h)) (fun k o h => himn k o (hO1 k o h)) (fun g hg => by simp at hg; subst hg; exact .inl rfl) q4 SyAt.loc q1 rfl rfl ?_
    show X (mkE Try.prog Try.f3 Q w (InR [] []) im (syD d2 us i size) (SyAt d2 us i size) [] B3) _ _
    clear ha he hS hN q1 q3 q4 hR
    have pd2 := hto.p
    have e3 := hto.b.trans hdb
    have e4 := hto.y.trans hdy
    clear hto
    obtain ⟨st2, hst2⟩ : ∃ st2, st2 = backSt size st l (keepN keep (List.length l)) torn := ⟨_, rfl⟩
    rw [← hst2] at pd2
    have hsame : ∀ j : Int, (∀ q, q < i2 → (f2 q).i ≠ j) → st2 j = st j := fun j hj => by
      rw [hst2]
      exact backSt_other fun x hx e => by
        obtain ⟨q, h1, h2⟩ := hof2 x hx
        exact hj q h1 (h2.symm.trans e)
    have hO2 : ∀ k o, syD d2 us i size k o → w.heap.size ≤ k := fun k o h => by
      rcases h with h | ⟨j, hj, h⟩
      · exact pd2.far k o h
      · have := hfar j hj; have : k = (us j).k := h.1; omega
    refine X.go T3_ok 400 _ rfl Try.results3 ?_
    conv => arg 2; cbv
    refine X.loop1 (fun c : {c : Nat // c ≤ i} => ⟨[(1, .val (.int .i64 (.nat i))), (3, .val (.slv po2 i2 cp2)), (13, .val (.ext db dy 0)), (16, .val (.osl 0 0 i 1 none)), (21, .val (.int .i64 (.nat c.1)))], [⟨true, cs, none⟩]⟩) (fun c => i - c.1) (fun N a w' hN hf hS => ⟨⟨0, Nat.zero_le _⟩, ?_⟩) (fun c q hq => ?_)
    · exact At.same hN hf hS (Nat.zero_le _) ⟨⟨_, rfl, .inl ⟨rfl, rfl⟩⟩, ⟨_, rfl, .inl ⟨rfl, rfl⟩⟩, ⟨_, rfl, .inl ⟨rfl, rfl⟩⟩, ⟨_, rfl, .inl ⟨rfl, rfl⟩⟩, ⟨_, rfl, .inr ⟨_, rfl, rfl⟩⟩, trivial⟩ ⟨fun h => h, SubC.refl hbd, rfl, trivial⟩
    obtain ⟨c, hc⟩ := c
    have hq_out := hq
    show X (mkE Try.prog Try.f3 Q w (InR [] []) im (syD d2 us i size) (SyAt d2 us i size) [] B3) _ ⟨[(1, .val (.int .i64 (.nat i))), (3, .val (.slv po2 i2 cp2)), (13, .val (.ext db dy 0)), (16, .val (.osl 0 0 i 1 none)), (21, .val (.int .i64 (.nat c)))], [⟨true, cs, none⟩]⟩
    refine X.go T3_ok 400 _ rfl Try.results3 ?_
    conv => arg 2; cbv
    refine X.cond rfl (fun hlt => ?_) (fun hge => ?_)
    · simp only [SB.T, SI.den] at hlt
      have hlt : c < i := by omega
      have hrng : 0 ≤ (c : Int) ∧ (c : Int) < i := by omega
      refine X.go T3_ok 400 _ rfl Try.results3 ?_
      conv => arg 2; cbv
      refine X.call rfl rfl rfl rfl Try.call15 (fun N w1 args hN hS ha => ?_)
      obtain rfl := args_eq (vs := [.pointer (some ⟨d2.b, d2.y, none⟩), .int .i64 (c : Int)]) (by rw [e3, e4]; rfl) ha
      have hR : SyAt d2 us i size w1 := hS.res
      refine (p_read pd2 c hrng w1 hR.d).mono fun e w2 hr => ?_
      refine Goes.read (by omega) hN hS hr rfl ?_
      clear hr ha hS hN hR
      rw [foldW_nil]
      obtain ⟨cr, hcr⟩ : ∃ cs, cs = bytesL (st2 c) size := ⟨_, rfl⟩
      rw [← hcr]
      show X (mkE Try.prog Try.f3 Q w (InR [] []) im (syD d2 us i size) (SyAt d2 us i size) [] B3) _ _
      refine X.go T3_ok 400 _ rfl Try.results3 ?_
      conv => arg 2; cbv
      obtain ⟨cu, hcu⟩ : ∃ cs, cs = bytesL (us c).f size := ⟨_, rfl⟩
      have hul : cu.length = size := by rw [hcu, bytesL_len]
      refine X.peek (us c).k (us c).y cu (fun j hj => .inr ⟨c, hlt, rfl, by omega, by omega⟩) (fun w h j cc hj => ?_) (by omega) (fun N0 hN0 hNl => ?_)
      · rw [hcu] at hj
        obtain ⟨hjs, rfl⟩ := bytesL_get _ _ _ _ hj
        exact ⟨_, rfl, (SyAt.u h c hlt).bytes j hjs⟩
      have hNl : N0.length = 2 := hNl
      obtain ⟨uk, huk⟩ : ∃ k, k = (us c).k := ⟨_, rfl⟩
      obtain ⟨uy, huy⟩ : ∃ k, k = (us c).y := ⟨_, rfl⟩
      obtain ⟨uc, huc⟩ : ∃ k, k = (us c).cp := ⟨_, rfl⟩
      have hcat := wasL_at (us := us) (i := i) (size := size) hlt
      rw [← hcs, ← huk, ← huy, ← huc] at hcat
      have hg2 : (N0 ++ [(⟨(us c).k, (us c).y, 0⟩ : Num)])[2]? = some ⟨(us c).k, (us c).y, 0⟩ := by rw [List.getElem?_append_right (by omega)]; simp [hNl]
      obtain ⟨N1, hN1⟩ : ∃ N1, N1 = N0 ++ [(⟨(us c).k, (us c).y, 0⟩ : Num)] := ⟨_, rfl⟩
      rw [← hN1] at hg2
      show X (mkE Try.prog Try.f3 Q w (InR [] []) im (syD d2 us i size) (SyAt d2 us i size) (N0 ++ [(⟨(us c).k, (us c).y, 0⟩ : Num)]) B3) _ _
      rw [← hN1]
      obtain ⟨u1, hu1⟩ : ∃ u, u = strG (st2 c) size := ⟨_, rfl⟩
      obtain ⟨u2, hu2⟩ : ∃ u, u = strG (us c).f size := ⟨_, rfl⟩
      obtain ⟨bq, hbq⟩ : ∃ b, b = (u1.toList == u2.toList) := ⟨_, rfl⟩
      refine X.drawnR (fn := Try.f3) T3_ok noCall (valR 152 _ [⟨4, 125, .raw (.string u1), fun rg f => ev f (.tmp 124) = some (.osl 1 0 size 1 none) ∧ nth rg 1 = some ⟨true, cr, none⟩⟩,
        ⟨7, 128, .own 0 c, fun rg f => 0 < rg.length ∧ ev f (.tmp 126) = some (.osl 0 0 i 1 none) ∧ ∃ kd s, ev f (.tmp 127) = some (.int kd s) ∧ s.den = (c : Int)⟩,
        ⟨8, 129, .slv (some ⟨uk, uy, none⟩) size uc, fun rg f => ev f (.tmp 128) = some (.own 0 c) ∧ nth rg 0 = some ⟨true, cs, none⟩⟩,
        ⟨9, 130, .raw (.string u2), fun rg f => ev f (.tmp 129) = some (.slv (some ⟨uk, uy, none⟩) size uc) ∧ nth rg 2 = some ⟨false, cu, none⟩⟩,
        ⟨10, 131, .bool (.v bq), fun _ f => ev f (.tmp 125) = some (.raw (.string u1)) ∧ ev f (.tmp 130) = some (.raw (.string u2))⟩]) rfl noCall_ok (valR_ok _ (by kernel_rfl) (fun q hq => ?_)) 152 rfl ?_
      · simp only [List.mem_cons, List.not_mem_nil, or_false] at hq
        rcases hq with rfl | rfl | rfl | rfl | rfl
        · exact goodR_str (fun o ho => by cases ho; rfl) Try.underlying30 Try.underlying5 Try.underlying9 hcr hu1
        · exact goodR_idx (fun o ho => by cases ho; rfl) Try.underlying34 Try.sizeOf30 hlt
        · exact goodR_load T3_ok (ti := ti30) (fun o ho => by cases ho; rfl) rfl rfl hcat
        · exact goodR_strV (fun o ho => by cases ho; rfl) Try.underlying30 Try.underlying5 Try.underlying9 hcu hu2 hg2 huk.symm huy.symm
        · exact goodR_eqs (fun o ho => by cases ho; rfl) hbq
      generalize hfin : (fun s' => X (mkE Try.prog Try.f3 Q w (InR [] []) im (syD d2 us i size) (SyAt d2 us i size) N1 B3) _ s') = fin
      conv => cbv
      refine ⟨⟨_, _, rfl, rfl⟩, ?_⟩
      subst hfin
      refine X.less [1, 3, 13, 16, 21, 24] ?_
      show X (mkE Try.prog Try.f3 Q w (InR [] []) im (syD d2 us i size) (SyAt d2 us i size) N1 B3) _ ⟨[(24, .val (.bool (.v bq))), (1, .val (.int .i64 (.nat i))), (3, .val (.slv po2 i2 cp2)), (13, .val (.ext db dy 0)), (16, .val (.osl 0 0 i 1 none)), (21, .val (.int .i64 (.nat c)))], [⟨true, cs, none⟩, ⟨true, cr, none⟩, ⟨false, cu, none⟩]⟩
      have hend : (∀ q, q < i2 → (f2 q).i ≠ (c : Int)) → bq = true := fun h => by
        rw [hbq, hu1, hu2, hsame c h, hff c hlt]
        simp
      refine X.go T3_ok 400 _ rfl Try.results3 ?_
      conv => arg 2; cbv
      refine X.loop (E := mkE Try.prog Try.f3 Q w (InR [] []) im (syD d2 us i size) (SyAt d2 us i size) N1 B3)
        (fun _ : {p : Nat × Bool // p.1 ≤ i2 ∧ (p.2 = false → bq = false ∧ ∀ q, q < p.1 → (f2 q).i ≠ (c : Int))} => mkE Try.prog Try.f3 Q w (InR [] []) im (syD d2 us i size) (SyAt d2 us i size) [] B3)
        (fun p => ⟨[(1, .val (.int .i64 (.nat i))), (3, .val (.slv po2 i2 cp2)), (13, .val (.ext db dy 0)), (16, .val (.osl 0 0 i 1 none)), (21, .val (.int .i64 (.nat c))), (24, .val (.bool (.lit p.1.2))), (25, .val (.int .i64 (.nat p.1.1)))], [⟨true, cs, none⟩]⟩) (fun p => i2 - p.1.1) (fun _ => ⟨rfl, rfl, rfl, rfl⟩) (fun N a w' hN hf hS => ⟨⟨(0, bq), Nat.zero_le _, fun h => ⟨h, fun q hq => by omega⟩⟩, ?_⟩) (fun p q hq => ?_)
      · have hS' : Sat (mkE Try.prog Try.f3 Q w (InR [] []) im (syD d2 us i size) (SyAt d2 us i size) [] B3).toEnv N _ w' := hS.env rfl rfl rfl rfl rfl
        exact At.mk (N0 := []) (fun r p h => by simp at h) hf hS' (Nat.zero_le _) ⟨⟨_, rfl, .inl ⟨rfl, rfl⟩⟩, ⟨_, rfl, .inl ⟨rfl, rfl⟩⟩, ⟨_, rfl, .inl ⟨rfl, rfl⟩⟩, ⟨_, rfl, .inl ⟨rfl, rfl⟩⟩, ⟨_, rfl, .inl ⟨rfl, rfl⟩⟩, ⟨_, rfl, .inr ⟨_, rfl, rfl⟩⟩, ⟨_, rfl, .inr ⟨_, rfl, rfl⟩⟩, trivial⟩ ⟨fun h => h, SubC.refl hbd, rfl, trivial⟩ (fun _ _ _ h => h) hS.loc hS.res
      obtain ⟨⟨p, bb⟩, hp, hpb⟩ := p
      have hp : p ≤ i2 := hp
      have hpb : bb = false → bq = false ∧ ∀ q, q < p → (f2 q).i ≠ (c : Int) := hpb
      show X (mkE Try.prog Try.f3 Q w (InR [] []) im (syD d2 us i size) (SyAt d2 us i size) [] B3) _ ⟨[(1, .val (.int .i64 (.nat i))), (3, .val (.slv po2 i2 cp2)), (13, .val (.ext db dy 0)), (16, .val (.osl 0 0 i 1 none)), (21, .val (.int .i64 (.nat c))), (24, .val (.bool (.lit bb))), (25, .val (.int .i64 (.nat p)))], [⟨true, cs, none⟩]⟩
      refine X.go T3_ok 400 _ rfl Try.results3 ?_
      conv => arg 2; cbv
      refine X.cond rfl (fun hlt2 => ?_) (fun hge2 => ?_)
      · simp only [SB.T, SI.den] at hlt2
        have hlt2 : p < i2 := by omega
        cases bb with
        | true =>
          refine X.go T3_ok 400 _ rfl Try.results3 ?_
          conv => arg 2; cbv
          refine X.back (fun N a w' hN hf hS => hq ⟨(p + 1, true), by show p + 1 ≤ i2; omega, fun h => by cases h⟩ a w' (by show i2 - (p + 1) < i2 - p; omega) ?_)
          show At (mkE Try.prog Try.f3 Q w (InR [] []) im (syD d2 us i size) (SyAt d2 us i size) [] B3) ⟨[(1, .val (.int .i64 (.nat i))), (3, .val (.slv po2 i2 cp2)), (13, .val (.ext db dy 0)), (16, .val (.osl 0 0 i 1 none)), (21, .val (.int .i64 (.nat c))), (24, .val (.bool (.lit true))), (25, .val (.int .i64 (.nat (p + 1))))], [⟨true, cs, none⟩]⟩ a w'
          exact At.mk (N0 := []) (fun r p h => by simp at h) hf hS (Nat.zero_le _) ⟨⟨_, rfl, .inl ⟨rfl, rfl⟩⟩, ⟨_, rfl, .inl ⟨rfl, rfl⟩⟩, ⟨_, rfl, .inl ⟨rfl, rfl⟩⟩, ⟨_, rfl, .inl ⟨rfl, rfl⟩⟩, ⟨_, rfl, .inl ⟨rfl, rfl⟩⟩, ⟨_, rfl, .inr ⟨_, rfl, rfl⟩⟩, ⟨_, rfl, .inr ⟨_, rfl, by simp [SV.den, SI.den, hwrap64s p (by omega)]⟩⟩, trivial⟩ ⟨fun h => h, SubC.refl hbd, rfl, trivial⟩ (fun _ _ _ h => h) hS.loc hS.res
        | false =>
          obtain ⟨z, hz⟩ : ∃ z, z = x2 + p * 6 := ⟨_, rfl⟩
          obtain ⟨e, he⟩ : ∃ e, e = f2 p := ⟨_, rfl⟩
          have hrow := hl2.row p hlt2
          rw [← he] at hrow
          obtain ⟨kd, ei, eat, bp, bn, bc, tn, eby, eg⟩ := e
          refine X.see b2 z (SStep.svs ⟨kd, ei, eat, bp, bn, bc, tn, eby, eg⟩) (fun j c hj => ?_) (by simp [SStep.svs]) (fun N0 hN0 hNl => ?_)
          · obtain ⟨v, h1, h2⟩ := SStep.svs_at _ j c hj
            exact ⟨v, h1, him (by rw [hz]; exact hrow j v h2)⟩
          have hNl : N0.length = 1 := hNl
          have hpo := hl2.po (by omega)
          have hg1 : (N0 ++ [(⟨b2, z, 0⟩ : Num)])[1]? = some ⟨b2, z, 0⟩ := by rw [List.getElem?_append_right (by omega)]; simp [hNl]
          have hr : ∀ N : Nums, Nums.le (N0 ++ [⟨b2, z, 0⟩]) N → (SV.own 1 0).den N = some (.pointer (some ⟨b2, x2 + p * 6, none⟩)) := fun N hN => by
            have := hN 1 _ hg1
            simp only [SV.den, this, hz, Nat.add_zero]
          show X (mkE Try.prog Try.f3 Q w (InR [] []) im (syD d2 us i size) (SyAt d2 us i size) (N0 ++ [⟨b2, z, 0⟩]) B3) _ _
          refine X.go T3_ok 400 _ rfl Try.results3 ?_
          conv => arg 2; cbv
          refine X.bare rfl rfl ?_
          refine X.idxBy p (.own 1 0) rfl rfl rfl rfl rfl rfl (good_slv Try.underlying22 Try.sizeOf32 hpo hlt2 hr) rfl ?_
          refine X.go T3_ok 400 _ rfl Try.results3 ?_
          conv => arg 2; cbv
          have hei : (f2 p).i = ei := by rw [← he]
          refine X.back (fun N a w' hN hf hS => hq ⟨(p + 1, ei == (c : Int)), by show p + 1 ≤ i2; omega, fun h => ⟨(hpb rfl).1, fun q hq => ?_⟩⟩ a w' (by show i2 - (p + 1) < i2 - p; omega) ?_)
          · have hq : q < p + 1 := hq
            have h : (ei == (c : Int)) = false := h
            by_cases eq : q = p
            · subst eq; rw [hei]; exact fun e => by rw [e] at h; simp at h
            · exact (hpb rfl).2 q (by omega)
          show At (mkE Try.prog Try.f3 Q w (InR [] []) im (syD d2 us i size) (SyAt d2 us i size) [] B3) ⟨[(1, .val (.int .i64 (.nat i))), (3, .val (.slv po2 i2 cp2)), (13, .val (.ext db dy 0)), (16, .val (.osl 0 0 i 1 none)), (21, .val (.int .i64 (.nat c))), (24, .val (.bool (.lit (ei == (c : Int))))), (25, .val (.int .i64 (.nat (p + 1))))], [⟨true, cs, none⟩]⟩ a w'
          have hS' : Sat (mkE Try.prog Try.f3 Q w (InR [] []) im (syD d2 us i size) (SyAt d2 us i size) [] B3).toEnv N _ w' := hS.env rfl rfl rfl rfl rfl
          exact At.mk (N0 := []) (fun r p h => by simp at h) hf hS' (Nat.zero_le _) ⟨⟨_, rfl, .inl ⟨rfl, rfl⟩⟩, ⟨_, rfl, .inl ⟨rfl, rfl⟩⟩, ⟨_, rfl, .inl ⟨rfl, rfl⟩⟩, ⟨_, rfl, .inl ⟨rfl, rfl⟩⟩, ⟨_, rfl, .inl ⟨rfl, rfl⟩⟩, ⟨_, rfl, .inr ⟨_, rfl, rfl⟩⟩, ⟨_, rfl, .inr ⟨_, rfl, by simp [SV.den, SI.den, hwrap64s p (by omega)]⟩⟩, trivial⟩ ⟨fun h => h, SubC.refl hbd, rfl, trivial⟩ (fun _ _ _ h => h) hS.loc hS.res
      · simp only [SB.F, SI.den] at hge2
        obtain rfl : p = i2 := by omega
        cases bb with
        | false =>
          exfalso
          obtain ⟨h1, h2⟩ := hpb rfl
          rw [hend h2] at h1
          cases h1
        | true =>
          refine X.go T3_ok 400 _ rfl Try.results3 ?_
          conv => arg 2; cbv
          refine X.back (fun N a w' hN hf hS => hq_out ⟨c + 1, by omega⟩ a w' (by show i - (c + 1) < i - c; omega) ?_)
          exact At.same hN hf hS (Nat.zero_le _) ⟨⟨_, rfl, .inl ⟨rfl, rfl⟩⟩, ⟨_, rfl, .inl ⟨rfl, rfl⟩⟩, ⟨_, rfl, .inl ⟨rfl, rfl⟩⟩, ⟨_, rfl, .inl ⟨rfl, rfl⟩⟩, ⟨_, rfl, .inr ⟨_, rfl, by simp [SV.den, SI.den, hwrap64s c (by omega)]⟩⟩, trivial⟩ ⟨fun h => h, SubC.refl hbd, rfl, trivial⟩
    · simp only [SB.F, SI.den] at hge
      obtain rfl : c = i := by omega
      refine X.go T3_ok 400 _ rfl Try.results3 ?_
      conv => arg 2; cbv
      refine X.call rfl rfl rfl rfl Try.call11 (fun N w1 args hN hS ha => ?_)
      obtain rfl : ([] : List Value) = args := Option.some.inj ha
      refine (awake12_ok w1).mono fun e w2 ⟨he, hc⟩ => ⟨_, he, Goes.same (r := .bool (.lit true)) hN hS hc rfl rfl ?_⟩
      refine X.go T3_ok 400 _ rfl Try.results3 ?_
      conv => arg 2; cbv
      refine X.done T3_ok rfl (fun N w' v hN hS hv => ?_)
      rw [hQ]
      refine ⟨?_, hS.chg.mono fun k o _ h => inR_nil h⟩
      simp [resV, SV.den, SB.den] at hv
      rw [← hv]

end Go.Proofs.Ytkjhpaeminegoaa

