/- The history's functions: End. -/
import Derived.Test.YtcfghkiokdbhjaaHi6
import Derived.Test.YtcfghkiokdbhjaaEng19

namespace Go.Proofs.Ytcfghkiokdbhjaa
open Go.Eng

theorem HistAt.chg {H : Hist} {w w' : World} {O : Nat → Nat → Prop} (h : HistAt H w) (hc : Chg O w w') : ∀ k o, H.D k o → (w'.cell? ⟨k, o, none⟩).isSome = true ∧ w'.frozen? ⟨k, o, none⟩ = false := fun k o hd => by
  have h1 := h.there k o hd
  exact ⟨some_of_chg hc o h1, by rw [frozen_of_chg hc o h1]; exact h.free k o hd⟩

theorem Hist.Ok.far {H : Hist} (ok : H.Ok) {i j c : Nat} (hi : i < H.n) (hj : j < 18) (hc : c < 10) : ¬ (H.eb = H.hb ∧ H.ey + (i * 18 + j) = H.hy + c) := fun ⟨e1, e2⟩ => by
  have := ok.inD hi hj
  exact ok.apart (i * 18 + j) (by omega) ⟨e1, by omega, by omega⟩

/-- a history whose header and one entry's cells were looked at, or written -/
theorem HistAt.again {H : Hist} {w w' : World} {O : Nat → Nat → Prop} (h : HistAt H w) (ok : H.Ok) (hc : Chg O w w') {j : Nat} {e' : Ent}
    (hO : ∀ k o, O k o → (k = H.hb ∧ o = H.hy) ∨ (k = H.eb ∧ H.ey + j * 18 ≤ o ∧ o < H.ey + j * 18 + 18)) (hj : j < H.n) (hd : w'.cell? ⟨H.hb, H.hy, none⟩ = some (.slice H.po H.n H.cp)) (he : ∀ (q : Nat) (v : Value), e'.vals[q]? = some v → w'.cell? ⟨H.eb, H.ey + j * 18 + q, none⟩ = some v) :
    HistAt { H with f := updA H.f j e' } w' := by
  obtain ⟨hb, hy, nl, eb, ey, n, cp, qs, f⟩ := H
  have hall : ∀ k o, ((k = hb ∧ hy ≤ o ∧ o < hy + 10) ∨ (k = eb ∧ ey ≤ o ∧ o < ey + cp * 18)) → (w'.cell? ⟨k, o, none⟩).isSome = true ∧ w'.frozen? ⟨k, o, none⟩ = false := h.chg hc
  have far : ∀ {i j c : Nat}, i < n → j < 18 → c < 10 → ¬ (eb = hb ∧ ey + (i * 18 + j) = hy + c) := fun h1 h2 h3 => ok.far h1 h2 h3
  have sq : ∀ c, c < 9 → w.cell? ⟨hb, hy + 1 + c, none⟩ = some (.int .u64 (qs c)) := h.sq
  have ents : ArrAt eb ey 18 n (fun i => (f i).vals) w := h.ents
  have inD : ∀ {i j : Nat}, i < n → j < 18 → ey + (i * 18 + j) < ey + cp * 18 := fun h1 h2 => ok.inD h1 h2
  simp only at hO hj hd he
  show HistAt ⟨hb, hy, nl, eb, ey, n, cp, qs, updA f j e'⟩ w'
  refine ⟨hd, fun c hc9 => ?_, fun q hq => (hall hb (hy + q) (.inl ⟨rfl, by omega, by omega⟩)).2, fun q hq => hall eb (ey + q) (.inr ⟨rfl, by omega, ?_⟩), fun s hs => ⟨by simp only [Ent.vlen], fun q v hq => ?_⟩⟩
  · refine cell_of_chg hc (fun ho => ?_) (sq c hc9)
    rcases hO _ _ ho with ⟨_, e⟩ | ⟨e1, e2, e3⟩
    · simp only at e; omega
    · simp only at e1 e2 e3
      exact far (i := j) (j := hy + 1 + c - (ey + j * 18)) (c := 1 + c) hj (by omega) (by omega) ⟨e1.symm, by omega⟩
  · have : q < cp * 18 := hq
    omega
  · have hs : s < n := hs
    have hq18 : q < 18 := by
      have := (List.getElem?_eq_some_iff.1 hq).1
      simpa [Ent.vlen] using this
    have hin := inD hs hq18
    refine ⟨?_, (hall eb (ey + (s * 18 + q)) (.inr ⟨rfl, by omega, hin⟩)).2⟩
    by_cases e : s = j
    · subst e
      simp only [updA, if_true] at hq
      have := he q v hq
      rwa [Nat.add_assoc] at this
    · simp only [updA, e, if_false] at hq
      refine cell_of_chg hc (fun ho => ?_) ((ents s hs).2 q v hq).1
      rcases hO _ _ ho with ⟨e1, e2⟩ | ⟨e1, e2, e3⟩
      · exact far (c := 0) hs hq18 (by omega) ⟨e1, e2⟩
      · have := idx_apart (sz := 18) e hq18
        simp only at e2 e3
        omega

set_option maxHeartbeats 40000000 in
set_option maxRecDepth 100000 in
set_option cbv.maxSteps 100000000 in
theorem end_out (hb hy : Nat) (po : Option Addr) (n cp : Nat) (i re ri rs at' : Int) (vp : Option Addr) (vn vc : Nat) (w : World) (hh : w.cell? ⟨hb, hy, none⟩ = some (.slice po n cp)) (hi : i < 0 ∨ (n : Int) ≤ i) :
    Calls Try.prog 32 #[.pointer (some ⟨hb, hy, none⟩), .int .i64 i, .agg #[.int .i64 re, .int .u64 ri, .int .i64 rs, .slice vp vn vc], .int .i64 at'] w fun e w' => e = .returned (.int .i64 6) ∧ Chg (fun _ _ => False) w w' := by
  refine X.begin (rg := [⟨false, [.slv po n cp], none⟩]) (N := [⟨hb, hy, 1⟩]) (ss := [.own 0 0, .int .i64 (.v i), .agg [.int .i64 (.v re), .int .u64 (.v ri), .int .i64 (.v rs), .slv vp vn vc], .int .i64 (.v at')]) Try.func32 rfl B32_ok rfl rfl
    (Sat.std1 false (World.block_lt_of_cell? _ _ hh) (fun j c hj => ?_) (fun h => by cases h)) ?_
  · cases j with
    | zero => simp at hj; subst hj; exact ⟨_, rfl, hh⟩
    | succ j => simp at hj
  refine X.go T32_ok 400 _ rfl Try.results32 ?_
  conv => arg 2; cbv
  refine X.cond rfl (fun _ => ?_) (fun hc => ?_)
  · refine X.go T32_ok 400 _ rfl Try.results32 ?_
    conv => arg 2; cbv
    refine X.done T32_ok rfl (fun N w' v hN hS hv => ?_)
    simp [resV, SV.den, SI.den] at hv
    exact ⟨by rw [← hv], hS.chg.ro1⟩
  · exfalso
    simp only [SB.F, SI.den, SB.den] at hc
    omega

set_option maxHeartbeats 40000000 in
set_option maxRecDepth 100000 in
set_option cbv.maxSteps 100000000 in
theorem end_shut (hb hy : Nat) (po : Option Addr) (n cp eb ey : Nat) (j : Nat) (e0 : Ent) (re ri rs at' : Int) (vp : Option Addr) (vn vc : Nat) (w : World) (hn : n ≤ 1000) (hh : w.cell? ⟨hb, hy, none⟩ = some (.slice po n cp)) (hj : j < n) (hpo : po = some ⟨eb, ey, none⟩)
    (he : ∀ (q : Nat) (v : Value), e0.vals[q]? = some v → w.cell? ⟨eb, ey + j * 18 + q, none⟩ = some v) (hst : e0.st ≠ 0) :
    Calls Try.prog 32 #[.pointer (some ⟨hb, hy, none⟩), .int .i64 (j : Nat), .agg #[.int .i64 re, .int .u64 ri, .int .i64 rs, .slice vp vn vc], .int .i64 at'] w fun e w' => e = .returned (.int .i64 16) ∧ Chg (fun _ _ => False) w w' := by
  obtain ⟨z, hz⟩ : ∃ z, z = ey + j * 18 := ⟨_, rfl⟩
  rw [← hz] at he
  refine X.begin (rg := [⟨false, [.slv po n cp], none⟩, ⟨false, e0.sv, none⟩]) (N := [⟨hb, hy, 1⟩, ⟨eb, z, 18⟩]) (ss := [.own 0 0, .int .i64 (.nat j), .agg [.int .i64 (.v re), .int .u64 (.v ri), .int .i64 (.v rs), .slv vp vn vc], .int .i64 (.v at')]) Try.func32 rfl B32_ok rfl rfl
    (Sat.stdL ⟨⟨World.block_lt_of_cell? _ _ hh, rfl, fun j c hj => ?_, (fun h => by cases h), (fun h => by cases h)⟩, ⟨World.block_lt_of_cell? _ _ (he 0 _ rfl), rfl, fun j c hj => ?_, (fun h => by cases h), (fun h => by cases h)⟩, trivial⟩ ?_) ?_
  · cases j with
    | zero => simp at hj; subst hj; exact ⟨_, rfl, hh⟩
    | succ j => simp at hj
  · obtain ⟨v, h1, h2⟩ := Ent.get e0 j c hj [⟨hb, hy, 1⟩, ⟨eb, z, 18⟩]
    exact ⟨v, h1, he j v h2⟩
  · exact ⟨⟨sep_ro rfl rfl, trivial⟩, trivial, trivial⟩
  refine X.go T32_ok 400 _ rfl Try.results32 ?_
  conv => arg 2; cbv
  refine X.cond rfl (fun hc => ?_) (fun _ => ?_)
  · exfalso
    simp only [SB.T, SI.den, SB.den] at hc
    omega
  refine X.go T32_ok 400 _ rfl Try.results32 ?_
  conv => arg 2; cbv
  refine X.idxBy j (.own 1 0) rfl rfl rfl rfl rfl rfl (good_slv Try.underlying71 Try.sizeOf93 hpo hj fun N hN => ?_) rfl ?_
  · have := hN 1 _ rfl
    simp only [SV.den, this, hz, Nat.add_zero]
  refine X.go T32_ok 400 _ rfl Try.results32 ?_
  conv => arg 2; cbv
  refine X.cond rfl (fun _ => ?_) (fun hc => ?_)
  · refine X.go T32_ok 400 _ rfl Try.results32 ?_
    conv => arg 2; cbv
    refine X.done T32_ok rfl (fun N w' v hN hS hv => ?_)
    simp [resV, SV.den, SI.den] at hv
    refine ⟨by rw [← hv], hS.chg.mono fun k o _ h => ?_⟩
    rcases inR_cons h with ⟨h, _⟩ | h
    · cases h
    · rcases inR_cons h with ⟨h, _⟩ | h
      · cases h
      · exact inR_nil h
  · exfalso
    simp only [SB.F, SI.den, SB.den] at hc
    exact hst (by omega)

set_option maxHeartbeats 40000000 in
set_option maxRecDepth 100000 in
set_option cbv.maxSteps 100000000 in
theorem end_open (hb hy : Nat) (po : Option Addr) (n cp eb ey : Nat) (j : Nat) (e0 : Ent) (re ri rs at' : Int) (vp : Option Addr) (vn vc : Nat) (g : Nat → Int) (w : World) (hn : n ≤ 1000) (hh : w.cell? ⟨hb, hy, none⟩ = some (.slice po n cp)) (hj : j < n) (hpo : po = some ⟨eb, ey, none⟩)
    (he : ∀ (q : Nat) (v : Value), e0.vals[q]? = some v → w.cell? ⟨eb, ey + j * 18 + q, none⟩ = some v) (hst : e0.st = 0) (hfz : w.frozen? ⟨hb, hy, none⟩ = false) (hfz2 : ∀ q, q < 18 → w.frozen? ⟨eb, ey + j * 18 + q, none⟩ = false) (hap : ∀ q, q < 18 → ¬ (hb = eb ∧ hy = ey + j * 18 + q))
    (hvn : vn ≤ 1000) (hI : IntsIn vp vn g w) (hfar : ∀ a, vp = some a → 0 < vn → a.block ≠ hb ∧ a.block ≠ eb) :
    Calls Try.prog 32 #[.pointer (some ⟨hb, hy, none⟩), .int .i64 (j : Nat), .agg #[.int .i64 re, .int .u64 ri, .int .i64 rs, .slice vp vn vc], .int .i64 at'] w fun e w' => (e = .returned (.int .i64 0) ∧ ∃ p c, IntsIn p vn g w' ∧ (∀ a, p = some a → 0 < vn → w.heap.size ≤ a.block) ∧ w'.cell? ⟨hb, hy, none⟩ = some (.slice po n cp) ∧
      (∀ (q : Nat) (v : Value), (Ent.vals { e0 with st := 1, re := re, ri := ri, rs := rs, vp := p, vn := vn, vc := c, en := at' })[q]? = some v → w'.cell? ⟨eb, ey + j * 18 + q, none⟩ = some v)) ∧ Chg (fun k o => (k = hb ∧ o = hy) ∨ (k = eb ∧ ey + j * 18 ≤ o ∧ o < ey + j * 18 + 18)) w w' := by
  obtain ⟨z, hz⟩ : ∃ z, z = ey + j * 18 := ⟨_, rfl⟩
  rw [← hz] at he hfz2 hap ⊢
  obtain ⟨Q, hQ⟩ : ∃ Q : Ending → World → Prop, Q = fun e w' => (e = .returned (.int .i64 0) ∧ ∃ p c, IntsIn p vn g w' ∧ (∀ a, p = some a → 0 < vn → w.heap.size ≤ a.block) ∧ w'.cell? ⟨hb, hy, none⟩ = some (.slice po n cp) ∧
      (∀ (q : Nat) (v : Value), (Ent.vals { e0 with st := 1, re := re, ri := ri, rs := rs, vp := p, vn := vn, vc := c, en := at' })[q]? = some v → w'.cell? ⟨eb, z + q, none⟩ = some v)) ∧ Chg (fun k o => (k = hb ∧ o = hy) ∨ (k = eb ∧ z ≤ o ∧ o < z + 18)) w w' := ⟨_, rfl⟩
  rw [← hQ]
  have hlt : ∀ k o, InR [⟨hb, hy, 1⟩, ⟨eb, z, 18⟩] [⟨true, [.slv po n cp], none⟩, ⟨true, e0.sv, none⟩] k o → (k = hb ∧ o = hy) ∨ (k = eb ∧ z ≤ o ∧ o < z + 18) := fun k o h => by
    rcases inR_cons h with ⟨_, h1, h2, h3⟩ | h
    · simp only at h1 h2 h3; exact .inl ⟨h1, by omega⟩
    · rcases inR_cons h with ⟨_, h⟩ | h
      · exact .inr h
      · exact absurd h inR_nil
  refine X.begin (rg := [⟨true, [.slv po n cp], none⟩, ⟨true, e0.sv, none⟩]) (N := [⟨hb, hy, 1⟩, ⟨eb, z, 18⟩]) (ss := [.own 0 0, .int .i64 (.nat j), .agg [.int .i64 (.v re), .int .u64 (.v ri), .int .i64 (.v rs), .slv vp vn vc], .int .i64 (.v at')]) Try.func32 rfl B32_ok rfl rfl
    (Sat.stdL ⟨⟨World.block_lt_of_cell? _ _ hh, rfl, fun j c hj => ?_, fun _ => Nat.le_refl _, fun _ j hj => ?_⟩, ⟨World.block_lt_of_cell? _ _ (he 0 _ rfl), rfl, fun j c hj => ?_, fun _ => Nat.le_refl _, fun _ j hj => ?_⟩, trivial⟩ ⟨⟨fun _ j j' hj hj' h => ?_, trivial⟩, trivial, trivial⟩) ?_
  · cases j with
    | zero => simp at hj; subst hj; exact ⟨_, rfl, hh⟩
    | succ j => simp at hj
  · have hj : j < 1 := hj
    obtain rfl : j = 0 := by omega
    simp only [Nat.add_zero]
    exact ⟨by rw [hh]; rfl, hfz⟩
  · obtain ⟨v, h1, h2⟩ := Ent.get e0 j c hj [⟨hb, hy, 1⟩, ⟨eb, z, 18⟩]
    exact ⟨v, h1, he j v h2⟩
  · have hj : j < 18 := hj
    obtain ⟨v, hv⟩ : ∃ v, e0.vals[j]? = some v := ⟨_, List.getElem?_eq_getElem (by rw [Ent.vlen]; exact hj)⟩
    exact ⟨by simp only; rw [he j v hv]; rfl, hfz2 j hj⟩
  · have hj : j < 1 := hj
    have hj' : j' < 18 := hj'
    simp only at h
    exact hap j' hj' ⟨h.1, by omega⟩
  refine X.go T32_ok 400 _ rfl Try.results32 ?_
  conv => arg 2; cbv
  refine X.cond rfl (fun hc => ?_) (fun _ => ?_)
  · exfalso
    simp only [SB.T, SI.den, SB.den] at hc
    omega
  refine X.go T32_ok 400 _ rfl Try.results32 ?_
  conv => arg 2; cbv
  refine X.idxBy j (.own 1 0) rfl rfl rfl rfl rfl rfl (good_slv Try.underlying71 Try.sizeOf93 hpo hj fun N hN => ?_) rfl ?_
  · have := hN 1 _ rfl
    simp only [SV.den, this, hz, Nat.add_zero]
  refine X.go T32_ok 400 _ rfl Try.results32 ?_
  conv => arg 2; cbv
  refine X.cond rfl (fun hc => ?_) (fun _ => ?_)
  · exfalso
    simp only [SB.T, SI.den, SB.den] at hc
    exact hc hst
  refine X.go T32_ok 400 _ rfl Try.results32 ?_
  conv => arg 2; cbv
  refine X.call rfl rfl rfl rfl Try.call68 (fun N w1 args hN hS ha => ?_)
  have ha' : [Value.slice vp vn vc] = args := Option.some.inj (ha ▸ rfl : some _ = some args)
  subst ha'
  have hI1 : IntsIn vp vn g w1 := fun h0 => by
    obtain ⟨b, y, h1, h2⟩ := hI h0
    have hf := hfar _ h1 h0
    simp only at hf
    exact ⟨b, y, h1, fun j hj => hS.imm _ _ _ ((elsewhere_not (fun h => by
      rcases hlt _ _ h with ⟨h, _⟩ | ⟨h, _⟩
      · exact hf.1 h
      · exact hf.2 h)).trans (h2 j hj))⟩
  refine (cloneI_ok vp vn vc g w1 hvn hI1).mono fun e w' ⟨⟨p2, c2, he2, hI2, hfar2⟩, hc⟩ => ⟨_, he2, Goes.grow (fun _ _ => False) (fun _ => True) hN hS (hc.mono fun _ _ _ h => h.elim) (fun k o h => h.elim) (fun k o h => h.elim) (fun g h => .inl (by
    simp only [List.mem_cons, List.mem_nil_iff, or_false] at h
    rcases h with rfl | rfl | rfl <;> rfl)) (fun q z h => h.elim) hS.loc trivial (r := .slv p2 vn c2) rfl rfl (fun hg1 hg2 => ?_)⟩
  have hI3 : IntsM p2 vn g (Eng.grow _ (fun _ _ => False) w1 w') := hI2.grown hfar2 (fun _ _ h => h.elim) hg2
  have hsz := hS.chg.size
  have hfar3 : ∀ a, p2 = some a → 0 < vn → w.heap.size ≤ a.block := fun a h1 h2 => Nat.le_trans hsz (hfar2 a h1 h2)
  clear hg1 hg2 hfar2 hI2 hc he2 hS hN ha hI1
  show X (mkE Try.prog Try.f32 Q w (InR [⟨hb, hy, 1⟩, ⟨eb, z, 18⟩] [⟨true, [.slv po n cp], none⟩, ⟨true, e0.sv, none⟩]) (Eng.grow (elsewhere [⟨hb, hy, 1⟩, ⟨eb, z, 18⟩] [⟨true, [.slv po n cp], none⟩, ⟨true, e0.sv, none⟩] w) (fun _ _ => False) w1 w') (fun _ _ => False) (fun _ => True) [⟨hb, hy, 1⟩, ⟨eb, z, 18⟩] B32) _ _
  obtain ⟨m, hm⟩ : ∃ m, m = Eng.grow (elsewhere [⟨hb, hy, 1⟩, ⟨eb, z, 18⟩] [⟨true, [.slv po n cp], none⟩, ⟨true, e0.sv, none⟩] w) (fun _ _ => False) w1 w' := ⟨_, rfl⟩
  have hI4 : IntsM p2 vn g m := by rw [hm]; exact hI3
  rw [← hm]
  clear hI3 hm
  refine X.go T32_ok 400 _ rfl Try.results32 ?_
  conv => arg 2; cbv
  refine X.drawnO T32_ok noCall (idxG 61 [⟨17, 41, 42, 55, 71, j, .slv po n cp, .own 1 0⟩, ⟨20, 46, 47, 57, 71, j, .slv po n cp, .own 1 0⟩, ⟨23, 51, 52, 59, 71, j, .slv po n cp, .own 1 0⟩]) rfl noCall_ok (idxG_ok _ rfl (fun q hq => ?_)) 61 rfl ?_
  · have hr : ∀ N : Nums, Nums.le [⟨hb, hy, 1⟩, ⟨eb, z, 18⟩] N → (SV.own 1 0).den N = some (.pointer (some ⟨eb, ey + j * 18, none⟩)) := fun N hN => by
      have := hN 1 _ rfl
      simp only [SV.den, this, hz, Nat.add_zero]
    simp only [List.mem_cons, List.mem_nil_iff, or_false] at hq
    rcases hq with rfl | rfl | rfl <;> exact good_slv Try.underlying71 Try.sizeOf93 hpo hj hr
  generalize hfin : (fun s' => X (mkE Try.prog Try.f32 Q w (InR [⟨hb, hy, 1⟩, ⟨eb, z, 18⟩] [⟨true, [.slv po n cp], none⟩, ⟨true, e0.sv, none⟩]) m (fun _ _ => False) (fun _ => True) [⟨hb, hy, 1⟩, ⟨eb, z, 18⟩] B32) _ s') = fin
  conv => cbv
  repeat (first | refine ⟨rfl, ?_⟩ | refine ⟨⟨_, _, rfl, rfl⟩, ?_⟩ | refine ⟨⟨rfl, _, _, rfl, rfl⟩, ?_⟩)
  subst hfin
  show X _ _ _
  refine X.go T32_ok 400 _ rfl Try.results32 ?_
  conv => arg 2; cbv
  refine X.done T32_ok rfl (fun N w' v hN hS hv => ?_)
  simp [resV, SV.den, SI.den] at hv
  rw [hQ]
  refine ⟨⟨by rw [← hv], p2, c2, hI4.in hS.imm, hfar3, ?_, ?_⟩, hS.chg.mono fun k o _ h => hlt k o h⟩
  · exact hS.row (r := 0) rfl (hN 0 _ rfl) rfl 0 _ rfl
  · exact hS.row (r := 1) rfl (hN 1 _ rfl) (vs := Ent.vals { e0 with st := 1, re := re, ri := ri, rs := rs, vp := p2, vn := vn, vc := c2, en := at' }) rfl

end Go.Proofs.Ytcfghkiokdbhjaa
