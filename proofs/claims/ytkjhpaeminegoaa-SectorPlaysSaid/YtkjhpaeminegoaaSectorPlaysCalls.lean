import Derived.Test.YtkjhpaeminegoaaSe19
import Derived.Test.YtkjhpaeminegoaaSe18

namespace Go.Eng
open Go
theorem Sat.turnMem {E : Ctx} {N : Nums} {rg : List Rg} {w w' : World} (h : Sat E.toEnv N rg w) (D' : Nat → Nat → Prop) (R' : World → Prop) (im' : Mem) (hc : Chg E.D w w') (hO : ∀ k o, E.D k o → E.W.heap.size ≤ k ∨ E.O k o) (him : ∀ k o, E.D k o → E.im k o = none)
    (hrg : ∀ (r : Nat) (g : Rg) (p : Num), rg[r]? = some g → N[r]? = some p → g.own = true ∨ ∀ j, j < g.cells.length → ¬ E.D p.b (p.o + j)) (hD : ∀ k o, D' k o → (E.D k o ∨ w.heap.size ≤ k) ∧ There w' k o) (hl : Loc D' R') (hR : R' w') (h1 : ∀ k o v, im' k o = some v → w'.cell? ⟨k, o, none⟩ = some v) (h2 : ∀ k o v, im' k o = some v → E.im k o = some v ∨ w.heap.size ≤ k) :
    Sat ({ E.withDR D' R' with im := im' } : Ctx).toEnv N rg w' := by
  have h' := h.turn' hc hO him hrg hD hl hR
  refine ⟨h'.len, h'.lt, h'.cell, h'.ext, h'.room, h'.disj, h'.obj, h'.odisj, h1, fun r g p hg hp ho j hj => ?_, h'.dd, h'.dlt, h'.loc, h'.res, h'.chg, h'.foot⟩
  show im' p.b (p.o + j) = none
  cases hm : im' p.b (p.o + j) with
  | none => rfl
  | some v =>
    rcases h2 _ _ _ hm with h3 | h3
    · rw [h.imd r g p hg hp ho j hj] at h3; cases h3
    · have := h.lt r p hp
      omega
theorem run_equalIn_bool {P : Program} {w : World} {t : TypeId} (hu : P.underlying t = some .bool) (n : Nat) (a b : Bool) : (Op.equalIn (n + 1) t (.bool a) (.bool b)).run P w = .ok (a == b) w := by
  simp only [Op.equalIn, Sem.run_bind, run_underlying hu, Result.andThen]
  rfl
theorem run_equal_bool {P : Program} {w : World} {t : TypeId} (hu : P.underlying t = some .bool) (a b : Bool) : (Op.equal t (.bool a) (.bool b)).run P w = .ok (a == b) w := run_equalIn_bool hu 9999 a b
theorem vk_beqF {E : Env} {N0 : Nums} {rg : List Rg} {f : Fr} {g : GK} {t t2 : TypeId} {x y : Operand} {a b : SB} (hx : evK f g x = some (.bool a)) (hy : evK f g y = some (.bool b)) (hb : a.den ≠ b.den) (hu : E.P.underlying t = some .bool) :
    ValOk E N0 rg f g (.binOp .eql t x y t2) (.bool (.lit false)) := by
  intro ht N ρ o w0 hN0 hop hρ hV
  have h1 := hρ _ _ hx
  have h2 := hρ _ _ hy
  simp only [SV.den, Option.some.injEq] at h1 h2
  refine ⟨_, rfl, fun w' _ => ?_⟩
  have hb' : ∀ w', (binOp .eql t (.bool a.den) (.bool b.den)).run E.P w' = .ok (.bool false) w' := fun w' => by
    simp [binOp, run_equal_bool hu, hb, Result.andThen]
  simp [execOp, hop, ← h1, ← h2, Result.andThen, eqGuard_none, hb', SB.den]
theorem vk_nesF {E : Env} {N0 : Nums} {rg : List Rg} {f : Fr} {g : GK} {t : TypeId} {x y : Operand} {u v : ByteArray} (hx : evK f g x = some (.raw (.string u))) (hy : evK f g y = some (.raw (.string v))) (hb : u = v) :
    ValOk E N0 rg f g (.binOp .neq t x y t) (.bool (.lit false)) := by
  intro ht N ρ o w0 hN0 hop hρ hV
  have h1 := hρ _ _ hx
  have h2 := hρ _ _ hy
  simp only [SV.den, one?, if_true, Option.some.injEq] at h1 h2
  subst hb
  refine ⟨_, rfl, fun w' _ => ?_⟩
  have hb' : ∀ w', (binOp .neq t (.string u) (.string u)).run E.P w' = .ok (.bool false) w' := fun w' => by
    simp [binOp, Op.stringOp]
  simp [execOp, hop, ← h1, ← h2, Result.andThen, eqGuard_none, hb', SB.den]
end Go.Eng
namespace Go.Proofs.Ytkjhpaeminegoaa
open Go Go.Eng
theorem clip_byte (z : Int) : 0 ≤ (if 0 ≤ z ∧ z < 256 then z else 0) ∧ (if 0 ≤ z ∧ z < 256 then z else 0) < 256 := by
  split <;> omega
theorem wf_u8 {a : Int} (h : (Lit.int .u8 a).wf = true) : 0 ≤ a ∧ a < 256 := by
  have : 0 ≤ a ∧ a ≤ 255 := by simpa [Lit.wf, IntKind.min, IntKind.max, IntKind.bits, IntKind.signed] using h
  omega
theorem wf_i64 {a : Int} (h : (Lit.int .i64 a).wf = true) : a ≤ 9223372036854775807 := by
  have : -9223372036854775808 ≤ a ∧ a ≤ 9223372036854775807 := by simpa [Lit.wf, IntKind.min, IntKind.max, IntKind.bits, IntKind.signed] using h
  exact this.2
theorem bytes_ofB {W : World} {v : Value} (h : CellOk Try.prog W 0 (.slice 5) v) : ∃ po n cp g, v = .slice po n cp ∧ BytesIn po n g W ∧ ∀ j, 0 ≤ g j ∧ g j < 256 := by
  obtain ⟨po, n, cp, rfl, _, _, hr⟩ := h
  by_cases h0 : n = 0
  · exact ⟨po, n, cp, fun _ => 0, rfl, fun h => by omega, fun _ => by show (0 : Int) ≤ 0 ∧ (0 : Int) < 256; omega⟩
  · obtain ⟨b, x, hpo, hr⟩ := hr (by rw [cellsU8]; omega) (by omega)
    have hh : ∀ i, i < n → ∃ a : Int, W.cell? ⟨b, x + i, none⟩ = some (.int .u8 a) ∧ 0 ≤ a ∧ a < 256 := fun i hi => by
      have hr := hr i hi
      rw [cellsU8, Nat.mul_one] at hr
      obtain ⟨cs, hc, hcell⟩ := rdCells hr kindsU8
      obtain ⟨v0, r0, rfl, h0, hc⟩ := CellsOk.cons hc
      have oend := CellsOk.nil hc; subst oend
      obtain ⟨a0, rfl, hw⟩ := h0
      exact ⟨a0, hcell 0 _ rfl, wf_u8 hw⟩
    refine ⟨po, n, cp, fun i => match W.cell? ⟨b, x + i, none⟩ with | some (.int .u8 a) => (if 0 ≤ a ∧ a < 256 then a else 0) | _ => 0, rfl, fun _ => ⟨b, x, hpo, fun j hj => ?_⟩, fun j => ?_⟩
    · obtain ⟨a, ha, hb⟩ := hh j hj
      simp only [ha]
      rw [if_pos hb]
    · simp only
      split
      · exact clip_byte _
      · omega
def StepsB (f : Nat → SStep) : Prop := ∀ i, (f i).i ≤ 9223372036854775807 ∧ ∀ j, 0 ≤ (f i).g j ∧ (f i).g j < 256
theorem steps_ofB {W : World} {v : Value} (h : CellOk Try.prog W 0 (.slice 32) v) : ∃ po n cp f b x, v = .slice po n cp ∧ StepsAt po n f b x W ∧ StepsB f := by
  obtain ⟨po, n, cp, rfl, _, _, hr⟩ := h
  have hdf : (default : SStep).i ≤ 9223372036854775807 ∧ ∀ j, 0 ≤ (default : SStep).g j ∧ (default : SStep).g j < 256 := ⟨by decide, fun _ => by show (0 : Int) ≤ 0 ∧ (0 : Int) < 256; omega⟩
  by_cases h0 : n = 0
  · exact ⟨po, n, cp, fun _ => default, 0, 0, rfl, ⟨fun h => by omega, fun i hi => by omega, fun i hi => by omega⟩, fun _ => hdf⟩
  obtain ⟨b, x, hpo, hr⟩ := hr (by rw [cellsStep]; omega) (by omega)
  have hh : ∀ i, ∃ e : SStep, (i < n → (∀ (j : Nat) (v : Value), e.vals[j]? = some v → W.cell? ⟨b, x + i * 6 + j, none⟩ = some v) ∧ BytesIn e.bp e.bn e.g W) ∧ e.i ≤ 9223372036854775807 ∧ ∀ j, 0 ≤ e.g j ∧ e.g j < 256 := fun i => by
    by_cases hi : i < n
    · have hr := hr i hi
      rw [cellsStep] at hr
      obtain ⟨cs, hc, hcell⟩ := rdCells hr kindsStep
      obtain ⟨v0, r0, rfl, h0, hc⟩ := CellsOk.cons hc
      obtain ⟨v1, r1, rfl, h1, hc⟩ := CellsOk.cons hc
      obtain ⟨v2, r2, rfl, h2, hc⟩ := CellsOk.cons hc
      obtain ⟨v3, r3, rfl, h3, hc⟩ := CellsOk.cons hc
      obtain ⟨v4, r4, rfl, h4, hc⟩ := CellsOk.cons hc
      obtain ⟨v5, r5, rfl, h5, hc⟩ := CellsOk.cons hc
      have oend := CellsOk.nil hc; subst oend
      obtain ⟨a0, rfl, -⟩ := h0
      obtain ⟨a1, rfl, hw⟩ := h1
      obtain ⟨a2, rfl, -⟩ := h2
      obtain ⟨bp, bn, bc, g, rfl, hg, hgb⟩ := bytes_ofB h3
      obtain ⟨a4, rfl⟩ := h4
      obtain ⟨a5, rfl, -⟩ := h5
      exact ⟨⟨a0, a1, a2, bp, bn, bc, a4, a5, g⟩, fun _ => ⟨fun j v hj => hcell j v hj, hg⟩, wf_i64 hw, hgb⟩
    · exact ⟨default, fun h => absurd h hi, hdf⟩
  obtain ⟨f, hf⟩ := Classical.axiomOfChoice hh
  exact ⟨po, n, cp, f, b, x, rfl, ⟨fun _ => hpo, fun i hi => ((hf i).1 hi).1, fun i hi => ((hf i).1 hi).2⟩, fun i => (hf i).2⟩
structure PlayG (B size count n db dy : Nat) (im0 : Mem) where
  (i : Nat) (d : Dk) (s : Sec) (dc : DC) (Mo : Mem)
  hi : i ≤ n
  hl : s.l.length ≤ i
  p : PlG B s d
  ok : s.Ok
  md : ∀ k o, d.D k o → Mo k o = none
  r : RDC Mo s.rd dc
  b : d.b = db
  y : d.y = dy
  sz : s.size = size
  ct : s.count = count
  im : ∀ k o v, im0 k o = some v → Mo k o = some v
theorem keptS_zero (size count : Nat) : keptS size count (fun _ _ => 0) = List.replicate count (strG (fun _ => 0) size) := by
  unfold keptS
  rw [List.map_const']
  simp
set_option maxHeartbeats 8000000 in
set_option maxRecDepth 100000 in
set_option cbv.maxSteps 100000000 in
theorem secPlays_far (size count : Int) (po : Option Addr) (n cp b x : Nat) (f : Nat → SStep) (w : World) (hl : StepsAt po n f b x w) (hs : ¬ smallS size count n f) :
    Calls Try.prog 5 #[.int .i64 size, .int .i64 count, .slice po n cp] w fun e w' => e = .returned (.bool true) ∧ Chg (fun _ _ => False) w w' := by
  refine X.begin (rg := []) (N := []) (ss := [.int .i64 (.v size), .int .i64 (.v count), .slv po n cp]) Try.func5 rfl B5_ok rfl rfl Sat.std0 ?_
  refine X.go T5_ok 400 _ rfl Try.results5 ?_
  conv => arg 2; cbv
  refine X.call rfl rfl rfl rfl Try.call10 (fun N w1 args hN hS ha => ?_)
  obtain rfl : [Value.int .i64 size, .int .i64 count, .slice po n cp] = args := Option.some.inj ha
  refine (great12_ok size count po n cp b x f w1 (hl.chg (hS.chg.mono fun k o _ h => inR_nil h))).mono fun e w2 ⟨g, he, hg, hc⟩ => ⟨_, he, ?_⟩
  obtain rfl : g = true := by
    cases g with
    | true => rfl
    | false => exact absurd (hg rfl) hs
  refine Goes.same (r := .bool (.lit true)) hN hS hc rfl rfl ?_
  clear ha he hc hS hN
  refine X.go T5_ok 400 _ rfl Try.results5 ?_
  conv => arg 2; cbv
  refine X.call rfl rfl rfl rfl Try.call11 (fun N w1 args hN hS ha => ?_)
  obtain rfl : ([] : List Value) = args := Option.some.inj ha
  refine (awake12_ok w1).mono fun e w2 ⟨he, hc⟩ => ⟨_, he, Goes.same (r := .bool (.lit true)) hN hS hc rfl rfl ?_⟩
  refine X.go T5_ok 400 _ rfl Try.results5 ?_
  conv => arg 2; cbv
  refine X.done T5_ok rfl (fun N w' v hN hS hv => ?_)
  refine ⟨?_, hS.chg.mono fun k o _ h => inR_nil h⟩
  simp [resV, SV.den, SB.den] at hv
  rw [← hv]
set_option maxHeartbeats 8000000 in
set_option maxRecDepth 100000 in
set_option cbv.maxSteps 100000000 in
theorem secPlays_in (size count : Nat) (po : Option Addr) (n cp b x : Nat) (f : Nat → SStep) (w : World) (hl : StepsAt po n f b x w) (hfB : StepsB f) (hs : smallS size count n f) :
    Calls Try.prog 5 #[.int .i64 (size : Int), .int .i64 (count : Int), .slice po n cp] w fun e w' => e = .returned (.bool true) ∧ Chg (fun _ _ => False) w w' := by
  obtain ⟨Q, hQ⟩ : ∃ Q : Ending → World → Prop, Q = fun e w' => e = .returned (.bool true) ∧ Chg (fun _ _ => False) w w' := ⟨_, rfl⟩
  rw [← hQ]
  obtain ⟨z1, z2, z3, z4, hn60, hbn⟩ := hs
  have hsz : sizesOk size count := by unfold sizesOk; omega
  refine X.begin (rg := []) (N := []) (ss := [.int .i64 (.nat size), .int .i64 (.nat count), .slv po n cp]) Try.func5 rfl B5_ok rfl rfl Sat.std0 ?_
  obtain ⟨im, hime⟩ : ∃ im, im = elsewhere [] [] w := ⟨_, rfl⟩
  have him : ∀ {k o v}, w.cell? ⟨k, o, none⟩ = some v → im k o = some v := fun h => by rw [hime, elsewhere_not inR_nil]; exact h
  have himn : ∀ k o, w.heap.size ≤ k → im k o = none := fun k o h => by
    rw [hime]; unfold elsewhere
    rw [if_neg inR_nil]
    cases hc : w.cell? ⟨k, o, none⟩ with
    | none => rfl
    | some v => have := World.block_lt_of_cell? _ _ hc; simp only at this; omega
  show X (mkE Try.prog Try.f5 Q w (InR [] []) (elsewhere [] [] w) (fun _ _ => False) (fun _ => True) [] B5) _ _
  rw [← hime]
  refine X.go T5_ok 400 _ rfl Try.results5 ?_
  conv => arg 2; cbv
  refine X.call rfl rfl rfl rfl Try.call10 (fun N w1 args hN hS ha => ?_)
  obtain rfl : [Value.int .i64 (size : Int), .int .i64 (count : Int), .slice po n cp] = args := Option.some.inj ha
  refine (great12_ok size count po n cp b x f w1 (hl.chg (hS.chg.mono fun k o _ h => inR_nil h))).mono fun e w2 ⟨g, he, hg, hc⟩ => ⟨_, he, ?_⟩
  refine Goes.same (r := .bool (.v g)) hN hS hc rfl rfl ?_
  clear ha he hc hS hN
  refine X.go T5_ok 400 _ rfl Try.results5 ?_
  conv => arg 2; cbv
  refine X.cond rfl (fun _ => ?_) (fun _ => ?_)
  · refine X.go T5_ok 400 _ rfl Try.results5 ?_
    conv => arg 2; cbv
    refine X.call rfl rfl rfl rfl Try.call11 (fun N w1 args hN hS ha => ?_)
    obtain rfl : ([] : List Value) = args := Option.some.inj ha
    refine (awake12_ok w1).mono fun e w2 ⟨he, hc⟩ => ⟨_, he, Goes.same (r := .bool (.lit true)) hN hS hc rfl rfl ?_⟩
    refine X.go T5_ok 400 _ rfl Try.results5 ?_
    conv => arg 2; cbv
    refine X.done T5_ok rfl (fun N w' v hN hS hv => ?_)
    rw [hQ]
    refine ⟨?_, hS.chg.mono fun k o _ h => inR_nil h⟩
    simp [resV, SV.den, SB.den] at hv
    rw [← hv]
  refine X.go T5_ok 400 _ rfl Try.results5 ?_
  conv => arg 2; cbv
  refine X.call rfl rfl rfl rfl Try.call12 (fun N w1 args hN hS ha => ?_)
  obtain rfl : [Value.int .i64 (size : Int), .int .i64 (count : Int)] = args := Option.some.inj ha
  refine (new_good size count w1 hsz).mono fun e w2 ⟨db, dy, m, he, hb, hm, hd, hc⟩ => ⟨_, he, ?_⟩
  have hws : w.heap.size ≤ w1.heap.size := hS.chg.size
  have pd := g_new (B := w.heap.size) (b := db) (y := dy) (m := m) (size := size) (count := count) (by omega) (by omega) (by omega) (by omega)
  obtain ⟨d, hde⟩ : ∃ d, d = newDk db dy size count m := ⟨_, rfl⟩
  have hdb : d.b = db := by rw [hde]; rfl
  have hdy : d.y = dy := by rw [hde]; rfl
  have hdh : d.h.size = size ∧ d.h.count = count := by rw [hde]; exact ⟨rfl, rfl⟩
  rw [← hde] at hd pd
  refine Goes.turn (r := .tup [.ext db dy 0, .int .i64 (.lit 0)]) d.D (DiskAt d) hN hS (hc.mono fun _ _ _ h => h.elim) (fun _ _ h => h.elim) (fun _ _ h => h.elim) (fun g hg => by simp at hg) (fun k o hk => ⟨.inr ?_, hd.there hk⟩) DiskAt.loc hd rfl rfl ?_
  · rw [hde] at hk
    rcases newDk_D hk with rfl | rfl <;> assumption
  clear ha he hc hS hN hd hb hm hws hde
  show X (mkE Try.prog Try.f5 Q w (InR [] []) im d.D (DiskAt d) [] B5) _ _
  have hO : ∀ k o, d.D k o → w.heap.size ≤ k := pd.far
  refine X.goX ([(35, .int .i64 (.nat size)), (41, .int .i64 (.nat count))]) ([]) T5_ok 400 _ rfl Try.results5 (fun pr pe fin hpr hpe hfin => ?_)
  conv => cbv
  refine ⟨hpr _ (fun _ => ⟨Try.call17, fun N w1 args hN hS ha => ?_⟩), hpr _ (fun _ => ⟨Try.call18, fun N w1 args hN hS ha => ?_⟩), hfin _ _ ?_⟩
  · obtain rfl := args_eq (vs := [.pointer (some ⟨d.b, d.y, none⟩)]) (by rw [hdb, hdy]; rfl) ha
    exact (size_ok d.b d.y d.h w1 hS.res.hd).mono fun e w2 ⟨he, hc⟩ => ⟨_, he, by rw [hdh.1]; rfl, hc⟩
  · obtain rfl := args_eq (vs := [.pointer (some ⟨d.b, d.y, none⟩)]) (by rw [hdb, hdy]; rfl) ha
    exact (count_ok d.b d.y d.h w1 hS.res.hd).mono fun e w2 ⟨he, hc⟩ => ⟨_, he, by rw [hdh.2]; rfl, hc⟩
  clear hpr hpe hfin
  refine X.cond rfl (fun h => ?_) (fun _ => ?_)
  · exfalso
    simp [SB.T, SB.den, SI.den] at h
  refine X.go T5_ok 400 _ rfl Try.results5 ?_
  conv => arg 2; cbv
  refine X.call rfl rfl rfl rfl Try.call19 (fun N w1 args hN hS ha => ?_)
  obtain rfl : [Value.int .i64 (size : Int), .int .i64 (count : Int)] = args := Option.some.inj ha
  refine (rnew_ok size count im w1 (by omega) (by omega)).mono fun e w2 hR => ?_
  obtain ⟨⟨⟨s1, s2, skp, skn, skc, swp, swn, swc, soff, sfl, sfu⟩, he, hmem⟩, hch⟩ := hR
  refine ⟨_, he, Goes.newMem hN hS hch (r := .agg (DC.svs ⟨s1, s2, skp, skn, skc, swp, swn, swc, soff, sfl, sfu⟩)) rfl rfl (fun hold hnew => ?_)⟩
  obtain ⟨Mo, hMo⟩ : ∃ M, M = imNew im w1 w2 := ⟨_, rfl⟩
  show X (mkE Try.prog Try.f5 Q w (InR [] []) (imNew im w1 w2) d.D (DiskAt d) [] B5) _ _
  rw [← hMo] at hold hnew ⊢
  have hrc := hmem Mo hold hnew
  have hmd : ∀ k o, d.D k o → Mo k o = none := fun k o hk => by rw [hMo]; exact imNew_none (himn k o (hO k o hk)) (hS.res.there hk).lt
  clear hMo hnew hch he ha hS hN hmem
  refine X.go T5_ok 400 _ rfl Try.results5 ?_
  conv => arg 2; cbv
  refine X.loop (E := mkE Try.prog Try.f5 Q w (InR [] []) Mo d.D (DiskAt d) [] B5) (fun g : PlayG w.heap.size size count n db dy im => mkE Try.prog Try.f5 Q w (InR [] []) g.Mo g.d.D (DiskAt g.d) [] B5)
    (fun g => ⟨[(0, .val (.int .i64 (.nat size))), (1, .val (.int .i64 (.nat count))), (2, .val (.slv po n cp)), (7, .val (.ext db dy 0)), (9, .val (.own 0 0)), (10, .val (.int .i64 (.nat g.i)))], [⟨true, g.dc.svs, none⟩]⟩) (fun g => n - g.i) (fun g => ⟨rfl, rfl, rfl, rfl⟩) (fun N a w' hN hf hS => ⟨⟨0, d, _, ⟨s1, s2, skp, skn, skc, swp, swn, swc, soff, sfl, sfu⟩, Mo, Nat.zero_le _, Nat.le_refl _, pd, ⟨fun x hx => absurd hx List.not_mem_nil, fun h => (by cases h), fun _ _ => (by show (0 : Int) ≤ 0 ∧ (0 : Int) < 256; omega), fun x hx => absurd hx List.not_mem_nil⟩, hmd, ?_, hdb, hdy, rfl, rfl, hold⟩, ?_⟩) (fun g q hq => ?_)
  · show RDC Mo ⟨size, count, keptS size count (fun _ _ => 0), [], false, 0, -1⟩ _
    rw [keptS_zero]
    exact hrc
  · exact At.again hf hS (by repeat first | exact trivial | refine ⟨⟨_, rfl, .inl ⟨rfl, rfl⟩⟩, ?_⟩ | refine ⟨⟨_, rfl, .inr ⟨_, rfl, rfl⟩⟩, ?_⟩ | refine ⟨⟨_, rfl, .inr ⟨_, rfl, by simp (disch := omega) [SV.den, SI.den, wrapU, wrapD] <;> omega⟩⟩, ?_⟩) (by repeat first | exact trivial | refine ⟨fun h => h, SubC.refl rfl, rfl, ?_⟩)
  clear pd hdb hdy hdh hO hrc hmd hold
  clear d
  obtain ⟨i, d, s, ⟨s1, s2, skp, skn, skc, swp, swn, swc, soff, sfl, sfu⟩, Mo, hi, hll, pd, ok, hmd, hrc, hdb, hdy, hsS, hcS, hold⟩ := g
  show X (mkE Try.prog Try.f5 Q w (InR [] []) Mo d.D (DiskAt d) [] B5) _ _
  have hO : ∀ k o, d.D k o → w.heap.size ≤ k := pd.far
  refine X.go T5_ok 400 _ rfl Try.results5 ?_
  conv => arg 2; cbv
  refine X.cond rfl (fun hlt => ?_) (fun hge => ?_)
  · simp only [SB.T, SI.den] at hlt
    have hlt : i < n := by omega
    refine X.go T5_ok 400 _ rfl Try.results5 ?_
    conv => arg 2; cbv
    obtain ⟨z, hz⟩ : ∃ z, z = x + i * 6 := ⟨_, rfl⟩
    obtain ⟨e, he⟩ : ∃ e, e = f i := ⟨_, rfl⟩
    have hby := fun (w' : World) (hw : ∀ k o v, Mo k o = some v → w'.cell? ⟨k, o, none⟩ = some v) => hl.bytes him (fun k o v h => hw k o v (hold k o v h)) hlt
    have hlow := hl.low hlt
    have hrow := hl.row i hlt
    have hbnn := hbn i hlt
    obtain ⟨hei, hegb⟩ := hfB i
    rw [← he] at hlow hrow hei hegb hbnn
    simp only [← he] at hby
    obtain ⟨kd, ei, eat, bp, bn, bc, tn, eby, eg⟩ := e
    refine X.see b z (SStep.svs ⟨kd, ei, eat, bp, bn, bc, tn, eby, eg⟩) (fun j c hj => ?_) (by simp [SStep.svs]) (fun N1 hN1 hNl1 => ?_)
    · obtain ⟨v, h1, h2⟩ := SStep.svs_at _ j c hj
      exact ⟨v, h1, hold _ _ _ (him (by rw [hz]; exact hrow j v h2))⟩
    have hg1 : (N1 ++ [(⟨b, z, 0⟩ : Num)])[1]? = some ⟨b, z, 0⟩ := num_last hNl1
    have hpo := hl.po (by omega)
    refine X.goH [(59, .own 1 0)] [] T5_ok (.q 0 [1, 2, 3, 4, 5, 10] (.q 2 [0, 1, 3, 10] (.q 3 [0, 1, 2, 10] (.q 4 [0, 1, 2, 3, 10] (.q 1 [0, 2, 3, 4, 5, 10] (.q 5 [0, 1, 2, 3, 4, 10] (.two 6 10 (.q 7 [0, 1, 2, 3, 4, 5, 6, 10] (.q 8 [0, 1, 2, 3, 4, 5, 6, 7, 9, 10] (.q 9 [0, 1, 2, 3, 4, 5, 6, 7, 8, 10, 11] (.one 10 (.q 11 [0, 1, 2, 3, 4, 5, 6, 7, 8, 9, 10] (.one 12 (.nil))))))) (.one 6 (.q 7 [0, 1, 2, 3, 4, 5, 6, 10] (.q 8 [0, 1, 2, 3, 4, 5, 6, 7, 9, 10] (.q 9 [0, 1, 2, 3, 4, 5, 6, 7, 8, 10, 11] (.q 11 [0, 1, 2, 3, 4, 5, 6, 7, 8, 9, 10] (.one 12 (.nil)))))))))))))) 117 6 [(12, [2])] rfl (by kernel_rfl) (by kernel_rfl) (fun pr pe fin H hpr hpe hfin hH => ?_)
    conv => cbv
    have hreg : ∀ j, j < 6 → ¬ d.D b (z + j) := fun j hj hd => by
      have h1 := hO _ _ hd
      obtain ⟨v, hv⟩ : ∃ v, (SStep.vals ⟨kd, ei, eat, bp, bn, bc, tn, eby, eg⟩)[j]? = some v := ⟨_, List.getElem?_eq_getElem (by simp [SStep.vals]; exact hj)⟩
      have h2 : w.cell? ⟨b, z + j, none⟩ = some v := by rw [hz]; exact hrow j v hv
      have := World.block_lt_of_cell? _ _ h2
      simp only at this
      omega
    refine ⟨hpr _ (ValOk.row rfl rfl (fun _ => rfl) Try.underlying22 Try.sizeOf32 hlt hpo hg1 rfl hz), ?_, rfl, ?_⟩
    · refine hH _ _ ⟨_, _, _, _, _, rfl, rfl, rfl, rfl, Try.call20, fun N w1 args hN hS ha => ?_⟩
      obtain rfl : args = [.pointer (some ⟨db, dy, none⟩), .agg (DC.vals ⟨s1, s2, skp, skn, skc, swp, swn, swc, soff, sfl, sfu⟩).toArray, .agg (SStep.vals ⟨kd, ei, eat, bp, bn, bc, tn, eby, eg⟩).toArray] := (Option.some.inj ha).symm
      have hat : DoesAt w.heap.size Mo s d ⟨s1, s2, skp, skn, skc, swp, swn, swc, soff, sfl, sfu⟩ w1 := ⟨pd, ok, hS.res, hS.imm, hmd, hS.chg.size, hrc, by omega, by rw [hcS]; omega, by rw [hsS]; omega⟩
      have hdo := does_ok hat ⟨kd, ei, eat, bp, bn, bc, tn, eby, eg⟩ hbnn (hby w1 hS.imm) hlow hegb
      have hok' := ok.does ⟨kd, ei, eat, bp, bn, bc, tn, eby, eg⟩ hei hegb
      obtain ⟨hz1, hz2, hz3⟩ := Sec.does_same s ⟨kd, ei, eat, bp, bn, bc, tn, eby, eg⟩
      obtain ⟨s', hs'⟩ : ∃ s', s' = s.does ⟨kd, ei, eat, bp, bn, bc, tn, eby, eg⟩ := ⟨_, rfl⟩
      rw [← hs'] at hdo hok' hz1 hz2 hz3
      rw [hdb, hdy] at hdo
      refine hdo.mono fun e w2 ⟨dc', d', Mo', he, hto, hrc', hext, hM', hmd', hlo⟩ => ?_
      obtain ⟨c1, c2, ckp, ckn, ckc, cwp, cwn, cwc, coff, cfl, cfu⟩ := dc'
      have hp1 := hN 1 _ hg1
      refine ⟨_, he, mkE Try.prog Try.f5 Q w (InR [] []) Mo' d'.D (DiskAt d') (N1 ++ [⟨b, z, 0⟩]) B5, .tup [.bool (.lit true), .agg (DC.svs ⟨c1, c2, ckp, ckn, ckc, cwp, cwn, cwc, coff, cfl, cfu⟩)], _, rfl, rfl, rfl, rfl, hext, hN, hS.turnMem d'.D (DiskAt d') Mo' hto.chg (fun k o hk => .inl (hO k o hk)) hmd (fun r g p hg hp => ?_) (fun k o hk => ⟨hto.inD k o hk, hto.at'.there hk⟩) DiskAt.loc hto.at' hM' hlo, rfl, rfl, fun pr pe fin hpr hpe hfin => ?_⟩
      · match r, hg with
        | 0, hg => cases hg; exact .inl rfl
        | 1, hg =>
          cases hg
          rw [hp1] at hp; cases hp
          exact .inr fun j hj => hreg j hj
        | r + 2, hg => exact .inl (by cases r <;> simp at hg <;> simp [← hg])
      have hb2 := hto.b.trans hdb
      have hy2 := hto.y.trans hdy
      have pd2 := hto.p
      clear ha he hS hN hp1 hat hto hdo
      conv => cbv
      refine ⟨rfl, rfl, hfin _ ?_⟩
      clear hpr hpe hfin hH
      refine X.noNames ?_
      show X (mkE Try.prog Try.f5 Q w (InR [] []) Mo' d'.D (DiskAt d') [] B5) _ _
      have ho2 : (!d'.h.off) ≠ coff := by
        have h1 : coff = s'.off := hrc'.e.2.2.2.2.1
        have h2 : d'.h.off = s'.off := by rw [← pd2.e]; rfl
        rw [h1, h2]
        cases s'.off <;> simp
      have hf2 : d'.h.falls = cfl := by
        have h1 : cfl = s'.falls := hrc'.e.2.2.2.2.2.1
        rw [h1, ← pd2.e]; rfl
      have hw2 : d'.h.n = cwn := by
        have h1 := hrc'.e.2.2.2.1
        have h2 := rd_ws_len s'
        have h3 := pd2.len
        simp only at h1
        omega
      obtain ⟨on, hon⟩ : ∃ b, b = !d'.h.off := ⟨_, rfl⟩
      rw [← hon] at ho2
      refine X.go T5_ok 400 _ rfl Try.results5 ?_
      conv => arg 2; cbv
      refine X.goX ([(69, .bool (.v on)), (72, .bool (.lit false)), (76, .int .u64 (.v cfl)), (83, .int .i64 (.nat cwn))]) ([]) T5_ok 400 _ rfl Try.results5 (fun pr pe fin hpr hpe hfin => ?_)
      conv => cbv
      refine ⟨hpr _ (fun _ => ⟨Try.call21, fun N w1 args hN hS ha => ?_⟩), hpr _ (vk_beqF rfl rfl ho2 Try.underlying4), hpr _ (fun _ => ⟨Try.call22, fun N w1 args hN hS ha => ?_⟩), hpr _ (fun _ => ⟨Try.call23, fun N w1 args hN hS ha => ?_⟩), hfin _ _ ?_⟩
      · obtain rfl := args_eq (vs := [.pointer (some ⟨d'.b, d'.y, none⟩)]) (by rw [hb2, hy2]; rfl) ha
        exact (ison_ok d'.b d'.y d'.h w1 hS.res.hd).mono fun e w2 ⟨he, hc⟩ => ⟨_, he, by rw [hon]; rfl, hc⟩
      · obtain rfl := args_eq (vs := [.pointer (some ⟨d'.b, d'.y, none⟩)]) (by rw [hb2, hy2]; rfl) ha
        exact (falls_ok d'.b d'.y d'.h w1 hS.res.hd).mono fun e w2 ⟨he, hc⟩ => ⟨_, he, by rw [hf2]; rfl, hc⟩
      · obtain rfl := args_eq (vs := [.pointer (some ⟨d'.b, d'.y, none⟩)]) (by rw [hb2, hy2]; rfl) ha
        exact (waits_ok d'.b d'.y d'.h w1 hS.res.hd).mono fun e w2 ⟨he, hc⟩ => ⟨_, he, by rw [hw2]; rfl, hc⟩
      clear hpr hpe hfin
      refine X.cond rfl (fun h => ?_) (fun _ => ?_)
      · exfalso
        simp [SB.T, SB.den, SI.den] at h
      refine X.go T5_ok 400 _ rfl Try.results5 ?_
      conv => arg 2; cbv
      refine X.back (fun N a w' hN hf hS => hq ⟨i + 1, d', s', ⟨c1, c2, ckp, ckn, ckc, cwp, cwn, cwc, coff, cfl, cfu⟩, Mo', hlt, Nat.le_trans hz3 (Nat.succ_le_succ hll), pd2, hok', hmd', hrc', hb2, hy2, hz1.trans hsS, hz2.trans hcS, fun k o v h => hext _ _ _ (hold _ _ _ h)⟩ a w' (by simp only; omega) ?_)
      exact At.again hf hS (by repeat first | exact trivial | refine ⟨⟨_, rfl, .inl ⟨rfl, rfl⟩⟩, ?_⟩ | refine ⟨⟨_, rfl, .inr ⟨_, rfl, rfl⟩⟩, ?_⟩ | refine ⟨⟨_, rfl, .inr ⟨_, rfl, by simp (disch := omega) [SV.den, SI.den, wrapU, wrapD] <;> omega⟩⟩, ?_⟩) (by repeat first | exact trivial | refine ⟨fun h => h, SubC.refl rfl, rfl, ?_⟩)
    · refine hH _ _ ⟨_, _, _, _, _, rfl, rfl, rfl, rfl, Try.call20, fun N w1 args hN hS ha => ?_⟩
      obtain rfl : args = [.pointer (some ⟨db, dy, none⟩), .agg (DC.vals ⟨s1, s2, skp, skn, skc, swp, swn, swc, soff, sfl, sfu⟩).toArray, .agg (SStep.vals ⟨kd, ei, eat, bp, bn, bc, tn, eby, eg⟩).toArray] := (Option.some.inj ha).symm
      have hat : DoesAt w.heap.size Mo s d ⟨s1, s2, skp, skn, skc, swp, swn, swc, soff, sfl, sfu⟩ w1 := ⟨pd, ok, hS.res, hS.imm, hmd, hS.chg.size, hrc, by omega, by rw [hcS]; omega, by rw [hsS]; omega⟩
      have hdo := does_ok hat ⟨kd, ei, eat, bp, bn, bc, tn, eby, eg⟩ hbnn (hby w1 hS.imm) hlow hegb
      have hok' := ok.does ⟨kd, ei, eat, bp, bn, bc, tn, eby, eg⟩ hei hegb
      obtain ⟨hz1, hz2, hz3⟩ := Sec.does_same s ⟨kd, ei, eat, bp, bn, bc, tn, eby, eg⟩
      obtain ⟨s', hs'⟩ : ∃ s', s' = s.does ⟨kd, ei, eat, bp, bn, bc, tn, eby, eg⟩ := ⟨_, rfl⟩
      rw [← hs'] at hdo hok' hz1 hz2 hz3
      rw [hdb, hdy] at hdo
      refine hdo.mono fun e w2 ⟨dc', d', Mo', he, hto, hrc', hext, hM', hmd', hlo⟩ => ?_
      obtain ⟨c1, c2, ckp, ckn, ckc, cwp, cwn, cwc, coff, cfl, cfu⟩ := dc'
      have hp1 := hN 1 _ hg1
      refine ⟨_, he, mkE Try.prog Try.f5 Q w (InR [] []) Mo' d'.D (DiskAt d') (N1 ++ [⟨b, z, 0⟩]) B5, .tup [.bool (.lit true), .agg (DC.svs ⟨c1, c2, ckp, ckn, ckc, cwp, cwn, cwc, coff, cfl, cfu⟩)], _, rfl, rfl, rfl, rfl, hext, hN, hS.turnMem d'.D (DiskAt d') Mo' hto.chg (fun k o hk => .inl (hO k o hk)) hmd (fun r g p hg hp => ?_) (fun k o hk => ⟨hto.inD k o hk, hto.at'.there hk⟩) DiskAt.loc hto.at' hM' hlo, rfl, rfl, fun pr pe fin hpr hpe hfin => ?_⟩
      · match r, hg with
        | 0, hg => cases hg; exact .inl rfl
        | 1, hg =>
          cases hg
          rw [hp1] at hp; cases hp
          exact .inr fun j hj => hreg j hj
        | r + 2, hg => exact .inl (by cases r <;> simp at hg <;> simp [← hg])
      have hb2 := hto.b.trans hdb
      have hy2 := hto.y.trans hdy
      have pd2 := hto.p
      clear ha he hS hN hp1 hat hto hdo
      conv => cbv
      refine ⟨rfl, hfin _ ?_⟩
      clear hpr hpe hfin hH
      refine X.noNames ?_
      show X (mkE Try.prog Try.f5 Q w (InR [] []) Mo' d'.D (DiskAt d') [] B5) _ _
      have ho2 : (!d'.h.off) ≠ coff := by
        have h1 : coff = s'.off := hrc'.e.2.2.2.2.1
        have h2 : d'.h.off = s'.off := by rw [← pd2.e]; rfl
        rw [h1, h2]
        cases s'.off <;> simp
      have hf2 : d'.h.falls = cfl := by
        have h1 : cfl = s'.falls := hrc'.e.2.2.2.2.2.1
        rw [h1, ← pd2.e]; rfl
      have hw2 : d'.h.n = cwn := by
        have h1 := hrc'.e.2.2.2.1
        have h2 := rd_ws_len s'
        have h3 := pd2.len
        simp only at h1
        omega
      obtain ⟨on, hon⟩ : ∃ b, b = !d'.h.off := ⟨_, rfl⟩
      rw [← hon] at ho2
      refine X.go T5_ok 400 _ rfl Try.results5 ?_
      conv => arg 2; cbv
      refine X.goX ([(69, .bool (.v on)), (72, .bool (.lit false)), (76, .int .u64 (.v cfl)), (83, .int .i64 (.nat cwn))]) ([]) T5_ok 400 _ rfl Try.results5 (fun pr pe fin hpr hpe hfin => ?_)
      conv => cbv
      refine ⟨hpr _ (fun _ => ⟨Try.call21, fun N w1 args hN hS ha => ?_⟩), hpr _ (vk_beqF rfl rfl ho2 Try.underlying4), hpr _ (fun _ => ⟨Try.call22, fun N w1 args hN hS ha => ?_⟩), hpr _ (fun _ => ⟨Try.call23, fun N w1 args hN hS ha => ?_⟩), hfin _ _ ?_⟩
      · obtain rfl := args_eq (vs := [.pointer (some ⟨d'.b, d'.y, none⟩)]) (by rw [hb2, hy2]; rfl) ha
        exact (ison_ok d'.b d'.y d'.h w1 hS.res.hd).mono fun e w2 ⟨he, hc⟩ => ⟨_, he, by rw [hon]; rfl, hc⟩
      · obtain rfl := args_eq (vs := [.pointer (some ⟨d'.b, d'.y, none⟩)]) (by rw [hb2, hy2]; rfl) ha
        exact (falls_ok d'.b d'.y d'.h w1 hS.res.hd).mono fun e w2 ⟨he, hc⟩ => ⟨_, he, by rw [hf2]; rfl, hc⟩
      · obtain rfl := args_eq (vs := [.pointer (some ⟨d'.b, d'.y, none⟩)]) (by rw [hb2, hy2]; rfl) ha
        exact (waits_ok d'.b d'.y d'.h w1 hS.res.hd).mono fun e w2 ⟨he, hc⟩ => ⟨_, he, by rw [hw2]; rfl, hc⟩
      clear hpr hpe hfin
      refine X.cond rfl (fun h => ?_) (fun _ => ?_)
      · exfalso
        simp [SB.T, SB.den, SI.den] at h
      refine X.go T5_ok 400 _ rfl Try.results5 ?_
      conv => arg 2; cbv
      refine X.back (fun N a w' hN hf hS => hq ⟨i + 1, d', s', ⟨c1, c2, ckp, ckn, ckc, cwp, cwn, cwc, coff, cfl, cfu⟩, Mo', hlt, Nat.le_trans hz3 (Nat.succ_le_succ hll), pd2, hok', hmd', hrc', hb2, hy2, hz1.trans hsS, hz2.trans hcS, fun k o v h => hext _ _ _ (hold _ _ _ h)⟩ a w' (by simp only; omega) ?_)
      exact At.again hf hS (by repeat first | exact trivial | refine ⟨⟨_, rfl, .inl ⟨rfl, rfl⟩⟩, ?_⟩ | refine ⟨⟨_, rfl, .inr ⟨_, rfl, rfl⟩⟩, ?_⟩ | refine ⟨⟨_, rfl, .inr ⟨_, rfl, by simp (disch := omega) [SV.den, SI.den, wrapU, wrapD] <;> omega⟩⟩, ?_⟩) (by repeat first | exact trivial | refine ⟨fun h => h, SubC.refl rfl, rfl, ?_⟩)
  · clear hge
    refine X.go T5_ok 400 _ rfl Try.results5 ?_
    conv => arg 2; cbv
    refine X.call rfl rfl rfl rfl Try.call16 (fun N w1 args hN hS ha => ?_)
    obtain rfl := args_eq (vs := [.pointer (some ⟨d.b, d.y, none⟩), .int .i64 1000, .bool false]) (by rw [hdb, hdy]; rfl) ha
    refine (g_back pd 1000 false w1 hS.res).mono fun e w2 ⟨he, d', hto⟩ => ⟨_, he, ?_⟩
    have hmd1 : ∀ k o, d'.D k o → Mo k o = none := fun k o hk => by
      rcases hto.inD k o hk with h1 | h1
      · exact hmd k o h1
      · cases hm : Mo k o with
        | none => rfl
        | some v =>
          have := World.block_lt_of_cell? _ _ (hS.imm k o v hm)
          simp only at this
          omega
    refine Goes.turn (r := .tup []) d'.D (DiskAt d') hN hS hto.chg (fun k o h1 => .inl (hO k o h1)) hmd (fun g hg => by simp at hg; subst hg; exact .inl rfl) (fun k o hk => ⟨hto.inD k o hk, hto.at'.there hk⟩) DiskAt.loc hto.at' rfl rfl ?_
    show X (mkE Try.prog Try.f5 Q w (InR [] []) Mo d'.D (DiskAt d') [] B5) _ _
    have hb2 := hto.b.trans hdb
    have hy2 := hto.y.trans hdy
    have pd2 := hto.p
    clear ha he hS hN hto
    refine X.go T5_ok 400 _ rfl Try.results5 ?_
    conv => arg 2; cbv
    have hrd := rd_back ok 1000 false
    refine X.call rfl rfl rfl rfl Try.call24 (fun N w1 args hN hS ha => ?_)
    obtain rfl : args = [.agg (DC.vals ⟨s1, s2, skp, skn, skc, swp, swn, swc, soff, sfl, sfu⟩).toArray, .int .i64 1000, .bool false] := (Option.some.inj ha).symm
    refine (rback_ok s.rd ⟨s1, s2, skp, skn, skc, swp, swn, swc, soff, sfl, sfu⟩ 1000 false Mo w1 hS.imm hrc (by rw [rd_ws_len]; omega) (by rw [rd_kept_len]; omega) (by rw [rd_kept_len]; omega) (fun x hx => ?_) (fun x hx => ?_) (fun x hx => ?_) (by show 0 < s.size ∧ s.size ≤ 1000; omega)).mono fun e w2 hR => ?_
    · rw [rd_kept_len]
      obtain ⟨x0, hx0, rfl⟩ := List.mem_map.1 hx
      exact ok.wi x0 hx0
    · obtain ⟨j, _, rfl⟩ := List.mem_map.1 hx
      exact strG_size _ _
    · obtain ⟨x0, hx0, rfl⟩ := List.mem_map.1 hx
      exact strG_size _ _
    rw [hrd] at hR
    obtain ⟨⟨⟨c1, c2, ckp, ckn, ckc, cwp, cwn, cwc, coff, cfl, cfu⟩, he, hmem⟩, hch⟩ := hR
    refine ⟨_, he, Goes.newMem hN hS hch (r := .agg (DC.svs ⟨c1, c2, ckp, ckn, ckc, cwp, cwn, cwc, coff, cfl, cfu⟩)) rfl rfl (fun hold2 hnew => ?_)⟩
    obtain ⟨Mo', hMo'⟩ : ∃ M, M = imNew Mo w1 w2 := ⟨_, rfl⟩
    show X (mkE Try.prog Try.f5 Q w (InR [] []) (imNew Mo w1 w2) d'.D (DiskAt d') [] B5) _ _
    rw [← hMo'] at hold2 hnew ⊢
    have hrc' := hmem Mo' hold2 hnew
    have hsz2 : (s.back 1000 false).size = size := hsS
    have hct2 : (s.back 1000 false).count = count := hcS
    have hl2 : (s.back 1000 false).l = [] := rfl
    have hon2 : (s.back 1000 false).off = false := rfl
    obtain ⟨s', hs'⟩ : ∃ s', s' = s.back 1000 false := ⟨_, rfl⟩
    rw [← hs'] at hrc' hsz2 hct2 hl2 hon2 pd2
    clear hMo' hold2 hnew hch he ha hS hN hmem hrd hs' hmd1 hO
    refine X.go T5_ok 400 _ rfl Try.results5 ?_
    conv => arg 2; cbv
    obtain ⟨kb, ky, hkp, hkc⟩ := (str_row hrc'.kp (by rw [rd_kept_len]; omega)).2
    have hkn : ckn = count := (hrc'.e.2.2.1.trans (rd_kept_len s')).trans hct2
    simp only at hkp
    subst hkn
    refine X.loop1 (fun c : {c : Nat // c ≤ ckn} => ⟨[(0, .val (.int .i64 (.nat size))), (1, .val (.int .i64 (.nat ckn))), (7, .val (.ext db dy 0)), (9, .val (.own 0 0)), (13, .val (.int .i64 (.nat c.1)))], [⟨true, DC.svs ⟨c1, c2, ckp, ckn, ckc, cwp, cwn, cwc, coff, cfl, cfu⟩, none⟩]⟩) (fun c => ckn - c.1) (fun N a w' hN hf hS => ⟨⟨0, Nat.zero_le _⟩, ?_⟩) (fun c q hq => ?_)
    · exact At.again hf hS (by repeat first | exact trivial | refine ⟨⟨_, rfl, .inl ⟨rfl, rfl⟩⟩, ?_⟩ | refine ⟨⟨_, rfl, .inr ⟨_, rfl, rfl⟩⟩, ?_⟩ | refine ⟨⟨_, rfl, .inr ⟨_, rfl, by simp (disch := omega) [SV.den, SI.den, wrapU, wrapD] <;> omega⟩⟩, ?_⟩) (by repeat first | exact trivial | refine ⟨fun h => h, SubC.refl rfl, rfl, ?_⟩)
    obtain ⟨c, hc⟩ := c
    refine X.go T5_ok 400 _ rfl Try.results5 ?_
    conv => arg 2; cbv
    refine X.cond rfl (fun hlt => ?_) (fun hge => ?_)
    · simp only [SB.T, SI.den] at hlt
      have hlt : c < ckn := by omega
      refine X.go T5_ok 400 _ rfl Try.results5 ?_
      conv => arg 2; cbv
      refine X.call rfl rfl rfl rfl Try.call15 (fun N w1 args hN hS ha => ?_)
      obtain rfl := args_eq (vs := [.pointer (some ⟨d'.b, d'.y, none⟩), .int .i64 (c : Int)]) (by rw [hb2, hy2]; rfl) ha
      have hrd := read_ok d' c w1 hS.res pd2.ok.toOk0 (by
        have : d'.h.off = s'.off := by rw [← pd2.e]; rfl
        rw [this, hon2]) ((pd2.has c).2 (by unfold Sec.has; omega))
      have hdz : d'.h.size = s'.size := by rw [← pd2.e]; rfl
      rw [pd2.rd, hl2, hdz, hsz2] at hrd
      refine hrd.mono fun e w2 hr => Goes.read (by omega) hN hS hr rfl ?_
      clear hr hrd ha hS hN hdz
      have hku : Mo' kb (ky + c) = some (.string (strG (s'.st c) size)) := hkc c _ (by
        show (keptS s'.size s'.count s'.st)[c]? = _
        rw [keptS_get (by omega), hsz2])
      obtain ⟨u, hu⟩ : ∃ u, u = strG (s'.st c) size := ⟨_, rfl⟩
      obtain ⟨bs, hbs⟩ : ∃ u, u = bytesL (foldW s'.st [] c) size := ⟨_, rfl⟩
      rw [← hu] at hku
      rw [← hbs]
      refine X.go T5_ok 400 _ rfl Try.results5 ?_
      conv => arg 2; cbv
      obtain ⟨yc, hyc⟩ : ∃ y, y = ky + c := ⟨_, rfl⟩
      rw [← hyc] at hku
      refine X.goX ([(108, .raw (.string u)), (112, .ext kb yc 0), (113, .raw (.string u)), (114, .bool (.lit false))]) ([]) T5_ok 400 _ rfl Try.results5 (fun pr pe fin hpr hpe hfin => ?_)
      conv => cbv
      refine ⟨hpr _ (vk_strO (G := s'.st c) (n := size) hu rfl rfl hbs Try.underlying30 Try.underlying5 Try.underlying9), hpr _ (ValOk.at (z := c) rfl rfl (fun _ => rfl) Try.underlying40 Try.sizeOf9 (fun _ => hlt) hkp (by rw [hyc, Nat.mul_one])), hpr _ (ValOk.im1 rfl Try.isAgg9 (fun _ => rfl) fun _ => hku), hpr _ (vk_nesF rfl rfl rfl), hfin _ _ ?_⟩
      clear hpr hpe hfin
      refine X.back (fun N a w' hN hf hS => hq ⟨c + 1, hlt⟩ a w' (by simp only; omega) ?_)
      exact At.again hf hS (by repeat first | exact trivial | refine ⟨⟨_, rfl, .inl ⟨rfl, rfl⟩⟩, ?_⟩ | refine ⟨⟨_, rfl, .inr ⟨_, rfl, rfl⟩⟩, ?_⟩ | refine ⟨⟨_, rfl, .inr ⟨_, rfl, by simp (disch := omega) [SV.den, SI.den, wrapU, wrapD] <;> omega⟩⟩, ?_⟩) (by repeat first | exact trivial | refine ⟨fun h => h, SubC.refl rfl, rfl, ?_⟩)
    · clear hge
      refine X.go T5_ok 400 _ rfl Try.results5 ?_
      conv => arg 2; cbv
      refine X.call rfl rfl rfl rfl Try.call11 (fun N w1 args hN hS ha => ?_)
      obtain rfl : ([] : List Value) = args := Option.some.inj ha
      refine (awake12_ok w1).mono fun e w2 ⟨he, hc⟩ => ⟨_, he, Goes.same (r := .bool (.lit true)) hN hS (hc.mono fun _ _ _ h => h.elim) rfl rfl ?_⟩
      refine X.go T5_ok 400 _ rfl Try.results5 ?_
      conv => arg 2; cbv
      refine X.done T5_ok rfl (fun N w' v hN hS hv => ?_)
      rw [hQ]
      refine ⟨?_, hS.chg.mono fun k o _ h => inR_nil h⟩
      simp [resV, SV.den, SB.den] at hv
      rw [← hv]
end Go.Proofs.Ytkjhpaeminegoaa

namespace Go.Proofs.Ytkjhpaeminegoaa
open Go.Eng Go.ChangeShapes Go.WideShapes Go.ChangeAt Go.RowKit
set_option maxRecDepth 100000 in
theorem sectorPlays_calls (W : World) (args : Array Value) (hn : args.size = 3) (ha : ∀ (j : Nat) t v, Try.f5.params[j]? = some t → args[j]? = some v → ArgOk Try.prog W t v) :
    Calls Try.prog 5 args W fun e w' => e = .returned (.bool true) ∧ Chg (fun _ _ => False) W w' := by
  obtain ⟨a, b, c, rfl⟩ : ∃ a b c, args = #[a, b, c] := ⟨args[0], args[1], args[2], by apply Array.ext (by simp [hn]); intro i h1 h2; match i, h1 with | 0, _ | 1, _ | 2, _ => rfl⟩
  obtain ⟨size, rfl, _⟩ := (ha 0 3 a rfl rfl).int Try.underlying3
  obtain ⟨count, rfl, _⟩ := (ha 1 3 b rfl rfl).int Try.underlying3
  obtain ⟨po, n, cp, f, b, x, rfl, hl, hfB⟩ := steps_ofB ((ha 2 22 c rfl rfl).slice Try.underlying22)
  by_cases hs : smallS size count n f
  · obtain ⟨s, hs1⟩ : ∃ s : Nat, size = s := ⟨size.toNat, by have := hs.1; omega⟩
    obtain ⟨c, hc1⟩ : ∃ c : Nat, count = c := ⟨count.toNat, by have := hs.2.2.1; omega⟩
    subst hs1; subst hc1
    exact secPlays_in s c po n cp b x f W hl hfB hs
  · exact secPlays_far size count po n cp b x f W hl hs
end Go.Proofs.Ytkjhpaeminegoaa
