/- The document's history: End. -/
import Derived.Test.YtcfghkiokdbhjaaHi13

namespace Go.Eng

/-- a region of rows becomes memory of which an assertion tells -/
theorem Sat.rows {E : Env} {N : Nums} {rg : List Rg} {w : World} (h : Sat E N rg w) {r n sz : Nat} {p : Num} {cs : List SV} {f : Nat → List SV} {F : Nat → List Value} (hg : rg[r]? = some ⟨true, cs, none⟩) (hp : N[r]? = some p) (hcs : cs = rowsL f n) (hsz : 0 < sz) (hl : ∀ i, (f i).length = sz) (hF : ∀ i, SV.denL N (f i) = some (F i)) (hD : ∀ k o, ¬ E.D k o) :
    Sat { E with D := arrD p.b p.o (n * sz), R := ArrAt p.b p.o sz n F } N (rg.set r ⟨false, [], none⟩) w ∧ (0 < n * sz → ∀ o, E.im p.b (p.o + o) = none ∨ n * sz ≤ o) := by
  have hext := h.ext r _ p hg hp rfl
  have hlen : cs.length = n * sz := by rw [hcs]; exact rowsL_len hl n
  simp only [hlen] at hext
  have hlF : ∀ i, (F i).length = sz := fun i => by rw [(SV.denL_get _ (hF i)).1, hl]
  refine ⟨h.give hg hp rfl _ _ (fun k i hk => .inr ⟨hk.1, hk.2.1, by have := hk.2.2; omega⟩) ArrAt.loc (fun i hi => ⟨hlF i, fun q v hq => ?_⟩), fun h0 o => ?_⟩
  · have hq18 : q < sz := by rw [← hlF i]; exact (List.getElem?_eq_some_iff.1 hq).1
    obtain ⟨c, hc⟩ : ∃ c, (f i)[q]? = some c := ⟨_, List.getElem?_eq_getElem (by rw [hl]; exact hq18)⟩
    obtain ⟨v', h1, h2⟩ := (SV.denL_get _ (hF i)).2 q c hc
    rw [hq] at h2; cases h2
    have hci : cs[i * sz + q]? = some c := by rw [hcs, rowsL_at hl hq18 hi]; exact hc
    have hlt := idx_lt (sz := sz) hi hq18
    exact ⟨h.at hp hg hci h1, (h.room r _ p hg hp rfl _ (by omega)).2⟩
  · rcases Nat.lt_or_ge o (n * sz) with ho | ho
    · exact .inl (h.imd r _ p hg hp rfl o (by omega))
    · exact .inr ho

theorem At.of {P : Program} {fn : Func} {R : Ending → World → Prop} {W : World} {O : Nat → Nat → Prop} {im : Mem} {D : Nat → Nat → Prop} {Rr : World → Prop} {N0 N : Nums} {B : SchT} {fr : Fr} {rg : List Rg} {s' : St} {a : Act} {w : World} (hN : N0.le N)
    (hf : FrOk fn.ntmps N fr a) (hS : Sat (mkE P fn R W O im D Rr N0 B).toEnv N rg w) (hl : N0.length ≤ s'.rg.length) (h1 : SubFr N (N.take s'.rg.length) s'.rg.length fr s'.fr) (h2 : SubRg N (N.take s'.rg.length) s'.rg.length rg s'.rg) :
    At (mkE P fn R W O im D Rr N0 B) s' a w := At.same (s := ⟨fr, rg⟩) hN hf hS hl h1 h2

end Go.Eng

namespace Go.Proofs.Ytcfghkiokdbhjaa
open Go.Eng

set_option maxHeartbeats 40000000 in
set_option maxRecDepth 100000 in
set_option cbv.maxSteps 100000000 in
theorem rend_out (po : Option Addr) (n cp : Nat) (i re ri rs at' : Int) (vp : Option Addr) (vn vc : Nat) (w : World) (hi : i < 0 ∨ (n : Int) ≤ i) :
    Calls Try.prog 33 #[.slice po n cp, .int .i64 i, .agg #[.int .i64 re, .int .u64 ri, .int .i64 rs, .slice vp vn vc], .int .i64 at'] w fun e w' => e = .returned (.tuple #[.int .i64 6, .slice po n cp]) ∧ Chg (fun _ _ => False) w w' := by
  refine X.begin (rg := []) (N := []) (ss := [.slv po n cp, .int .i64 (.v i), .agg [.int .i64 (.v re), .int .u64 (.v ri), .int .i64 (.v rs), .slv vp vn vc], .int .i64 (.v at')]) Try.func33 rfl B33_ok rfl rfl Sat.std0 ?_
  refine X.go T33_ok 400 _ rfl Try.results33 ?_
  conv => arg 2; cbv
  refine X.cond rfl (fun _ => ?_) (fun hc => ?_)
  · refine X.go T33_ok 400 _ rfl Try.results33 ?_
    conv => arg 2; cbv
    refine X.done T33_ok rfl (fun N w' v hN hS hv => ?_)
    cases hv
    exact ⟨rfl, hS.chg.none⟩
  · exfalso
    simp only [SB.F, SI.den, SB.den] at hc
    omega

set_option maxHeartbeats 40000000 in
set_option maxRecDepth 100000 in
set_option cbv.maxSteps 100000000 in
theorem rend_shut (po : Option Addr) (n cp : Nat) (j : Nat) (f : Nat → Ent) (re ri rs at' : Int) (vp : Option Addr) (vn vc : Nat) (w : World) (hE : EntsIn po n f w) (hj : j < n) (hst : (f j).st ≠ 0) :
    Calls Try.prog 33 #[.slice po n cp, .int .i64 (j : Nat), .agg #[.int .i64 re, .int .u64 ri, .int .i64 rs, .slice vp vn vc], .int .i64 at'] w fun e w' => e = .returned (.tuple #[.int .i64 16, .slice po n cp]) ∧ Chg (fun _ _ => False) w w' := by
  obtain ⟨b, y, z, hpo, hz, hcell⟩ := hE j hj
  generalize he : f j = e at hcell hst
  refine X.begin (rg := []) (N := []) (ss := [.slv po n cp, .int .i64 (.nat j), .agg [.int .i64 (.v re), .int .u64 (.v ri), .int .i64 (.v rs), .slv vp vn vc], .int .i64 (.v at')]) Try.func33 rfl B33_ok rfl rfl Sat.std0 ?_
  refine X.go T33_ok 400 _ rfl Try.results33 ?_
  conv => arg 2; cbv
  refine X.cond rfl (fun hc => ?_) (fun _ => ?_)
  · exfalso
    simp only [SB.T, SI.den, SB.den] at hc
    omega
  refine X.go T33_ok 400 _ rfl Try.results33 ?_
  conv => arg 2; cbv
  refine X.idxSlv rfl rfl rfl rfl rfl Try.underlying71 Try.sizeOf93 j rfl hj b y z hpo hz rfl ?_
  refine X.go T33_ok 400 _ rfl Try.results33 ?_
  conv => arg 2; cbv
  refine X.load1 T33_ok (r := .int .u8 (.v e.st)) rfl rfl rfl rfl rfl rfl (fun N _ => ⟨_, rfl, by show elsewhere [] [] w b (z + 13) = _; rw [else0]; exact hcell 13 _ rfl⟩) rfl ?_
  refine X.go T33_ok 400 _ rfl Try.results33 ?_
  conv => arg 2; cbv
  refine X.cond rfl (fun _ => ?_) (fun hc => ?_)
  · refine X.go T33_ok 400 _ rfl Try.results33 ?_
    conv => arg 2; cbv
    refine X.done T33_ok rfl (fun N w' v hN hS hv => ?_)
    cases hv
    exact ⟨rfl, hS.chg.none⟩
  · exact absurd hc hst

theorem old_none {W : World} {b : Nat} (hb : W.heap.size ≤ b) (o : Nat) : W.cell? ⟨b, o, none⟩ = none := by
  cases h : W.cell? ⟨b, o, none⟩ with
  | none => rfl
  | some v => exact absurd (World.block_lt_of_cell? _ _ h) (by show ¬ b < _; omega)

/-- rows, as a region to be looked at -/
theorem rows_cell {po : Option Addr} {n : Nat} {f : Nat → Ent} {w : World} {cs : List SV} (hE : EntsIn po n f w) {b y : Nat} (hpo : po = some ⟨b, y, none⟩) (hcs : cs = rowsL (fun i => (f i).sv) n) (j : Nat) (c : SV) (hj : cs[j]? = some c) : ∃ v, c.den [⟨b, y, cs.length⟩] = some v ∧ w.cell? ⟨b, y + j, none⟩ = some v := by
  rw [hcs] at hj
  obtain ⟨h1, h2, h3, h4⟩ := rowsL_get (fun i => (f i).len) (by decide) hj
  obtain ⟨v, h5, h6⟩ := Ent.get _ _ _ h4 [⟨b, y, cs.length⟩]
  obtain ⟨b', y', z', e1, e2, e3⟩ := hE (j / 18) h1
  rw [hpo] at e1; cases e1
  refine ⟨v, h5, ?_⟩
  have := e3 _ _ h6
  rw [e2, Nat.add_assoc, ← h3] at this
  exact this

set_option maxHeartbeats 40000000 in
set_option maxRecDepth 100000 in
set_option cbv.maxSteps 100000000 in
theorem rend_open (po : Option Addr) (n cp : Nat) (j : Nat) (f : Nat → Ent) (re ri rs at' : Int) (vp : Option Addr) (vn vc : Nat) (w : World) (hn : n ≤ 1000) (hE : EntsIn po n f w) (hj : j < n) (hst : (f j).st = 0) :
    Calls Try.prog 33 #[.slice po n cp, .int .i64 (j : Nat), .agg #[.int .i64 re, .int .u64 ri, .int .i64 rs, .slice vp vn vc], .int .i64 at'] w fun e w' => (∃ b y c', e = .returned (.tuple #[.int .i64 0, .slice (some ⟨b, y, none⟩) n c']) ∧ w.heap.size ≤ b ∧ n ≤ c' ∧
      ArrAt b y 18 n (fun i => (updA f j { f j with st := 1, re := re, ri := ri, rs := rs, vp := vp, vn := vn, vc := vc, en := at' } i).vals) w') ∧ Chg (fun _ _ => False) w w' := by
  obtain ⟨b, y, z, hpo, hz, hcell⟩ := hE j hj
  obtain ⟨cs, hcs⟩ : ∃ cs, cs = rowsL (fun i => (f i).sv) n := ⟨_, rfl⟩
  have hlen : cs.length = n * 18 := by rw [hcs]; exact rowsL_len (fun i => (f i).len) n
  have h0 : n ≠ 0 := by omega
  obtain ⟨e, he⟩ : ∃ e, e = f j := ⟨_, rfl⟩
  rw [← he] at hcell hst
  obtain ⟨Q, hQ⟩ : ∃ Q : Ending → World → Prop, Q = fun ed w' => (∃ b y c', ed = .returned (.tuple #[.int .i64 0, .slice (some ⟨b, y, none⟩) n c']) ∧ w.heap.size ≤ b ∧ n ≤ c' ∧
      ArrAt b y 18 n (fun i => (updA f j { f j with st := 1, re := re, ri := ri, rs := rs, vp := vp, vn := vn, vc := vc, en := at' } i).vals) w') ∧ Chg (fun _ _ => False) w w' := ⟨_, rfl⟩
  rw [← hQ]
  have hb : b < w.heap.size := World.block_lt_of_cell? _ _ (hcell 0 _ rfl)
  refine X.begin (rg := [⟨false, cs, none⟩]) (N := [⟨b, y, cs.length⟩]) (ss := [.osl 0 0 n 18 (some cp), .int .i64 (.nat j), .agg [.int .i64 (.v re), .int .u64 (.v ri), .int .i64 (.v rs), .slv vp vn vc], .int .i64 (.v at')]) Try.func33 rfl B33_ok rfl (by rw [hpo]; rfl)
    (Sat.std1 false hb (rows_cell hE hpo hcs) (fun h => by cases h)) ?_
  refine X.see b z e.sv (fun q d hq => ?_) (by show 0 < 18; omega) (fun N hN1 hN2 => ?_)
  · obtain ⟨v, h1, h2⟩ := (SV.denL_get _ (e.den [])).2 q d hq
    exact ⟨v, h1, by show elsewhere _ _ w b (z + q) = _; rw [elsewhere_ro]; exact hcell q v h2⟩
  obtain rfl := le_eq (N := [⟨b, y, cs.length⟩]) hN1 hN2
  clear hN1 hN2
  show X (mkE Try.prog Try.f33 Q w (InR [⟨b, y, cs.length⟩] [⟨false, cs, none⟩]) (elsewhere [⟨b, y, cs.length⟩] [⟨false, cs, none⟩] w) (fun _ _ => False) (fun _ => True) [⟨b, y, cs.length⟩, ⟨b, z, 0⟩] B33) _ _
  refine X.go T33_ok 400 _ rfl Try.results33 ?_
  conv => arg 2; cbv
  refine X.cond rfl (fun hc => ?_) (fun _ => ?_)
  · exfalso
    simp only [SB.T, SI.den, SB.den] at hc
    have e1 : Int.ofNat n = (n : Int) := rfl
    rw [e1] at hc
    omega
  refine X.go T33_ok 400 _ rfl Try.results33 ?_
  conv => arg 2; cbv
  refine X.idxBy j (.own 1 0) rfl rfl rfl rfl rfl rfl (good_any (b := b) (y := y) (c := cp) Try.underlying71 Try.sizeOf93 hj (fun N hN => ?_) (fun N hN => ?_)) rfl ?_
  · have := hN 0 _ rfl
    simp only [SV.den, this, Num.cap, Nat.add_zero]
  · have := hN 1 _ rfl
    simp only [SV.den, this, hz, Nat.add_zero]
  refine X.go T33_ok 400 _ rfl Try.results33 ?_
  conv => arg 2; cbv
  refine X.cond rfl (fun hc => ?_) (fun _ => ?_)
  · exact absurd hst hc
  refine X.go T33_ok 5 _ rfl Try.results33 ?_
  conv => arg 2; cbv
  apply X.opEq (T := T33) T33_ok
  · exact opE_append (te := ti93) (new := cs) (m := n) rfl rfl rfl rfl rfl rfl rfl rfl (appSrc_row (g := ⟨false, cs, none⟩) rfl rfl rfl hlen)
      (appV_new (te := ti93) rfl h0 (appOk_ok (by decide) rfl hlen (by rw [hcs]; exact rowsL_all (fun i => (f i).one) n) (by show (2 * (0 + n) + 256) * 144 ≤ _; omega) (by omega))) rfl
  refine X.less [1, 3, 6, 29] ?_
  refine X.drop 0 (by show 0 < 5; omega) ?_
  refine X.drop 1 (by show 1 < 5; omega) ?_
  refine X.names fun N hN hNl => ?_
  have hNl : N.length = 5 := hNl
  obtain ⟨q0, q1, q2, q3, q4, rfl⟩ : ∃ q0 q1 q2 q3 q4, N = [q0, q1, q2, q3, q4] := by
    match N, hNl with
    | [q0, q1, q2, q3, q4], _ => exact ⟨q0, q1, q2, q3, q4, rfl⟩
  clear hN hNl
  refine X.conv fun N a w1 hN hf hS => ?_
  obtain rfl := le_eq (N := [q0, q1, q2, q3, q4]) hN hS.len
  obtain ⟨hS', -⟩ := Sat.rows hS (r := 4) (n := n) (sz := 18) (p := q4) (cs := cs) (f := fun i => (f i).sv) (F := fun i => (f i).vals) rfl rfl hcs (by decide) (fun i => (f i).len) (fun i => (f i).den _) (fun _ _ h => h)
  have hext := hS.ext 4 ⟨true, cs, none⟩ q4 rfl rfl rfl
  have hext : n * 18 ≤ q4.x := by rw [← hlen]; exact hext
  have hfar : w.heap.size ≤ q4.b := by
    rcases hS.foot 4 ⟨true, cs, none⟩ q4 rfl rfl rfl with h | h
    · exact h
    · exact absurd (h 0 (by omega)) ro_not
  have hS2 : Sat (mkE Try.prog Try.f33 Q w (InR [⟨b, y, cs.length⟩] [⟨false, cs, none⟩]) (elsewhere [⟨b, y, cs.length⟩] [⟨false, cs, none⟩] w) (arrD q4.b q4.o (n * 18)) (ArrAt q4.b q4.o 18 n (fun i => (f i).vals)) [q0, q1, q2, q3, q4] B33).toEnv [q0, q1, q2, q3, q4] _ w1 := hS'
  refine ⟨mkE Try.prog Try.f33 Q w (InR [⟨b, y, cs.length⟩] [⟨false, cs, none⟩]) (elsewhere [⟨b, y, cs.length⟩] [⟨false, cs, none⟩] w) (arrD q4.b q4.o (n * 18)) (ArrAt q4.b q4.o 18 n (fun i => (f i).vals)) [q0, q1, q2, q3, q4] B33, ⟨[(29, .val (.slv (some ⟨q4.b, q4.o, none⟩) n (q4.x / 18))), (1, .val (.int .i64 (.nat j))), (3, .val (.int .i64 (.v at'))), (6, .val (.own 2 0))],
    [⟨false, [], none⟩, ⟨false, [], none⟩, ⟨true, [.int .i64 (.v re), .int .u64 (.v ri), .int .i64 (.v rs), .slv vp vn vc], none⟩, ⟨true, [], none⟩, ⟨false, [], none⟩]⟩, rfl, rfl, rfl, rfl, At.of hN hf hS2 (by show 5 ≤ 5; omega) ⟨⟨_, rfl, .inr ⟨.slice (some ⟨q4.b, q4.o, none⟩) n (q4.x / 18), rfl, rfl⟩⟩, ⟨_, rfl, .inl ⟨rfl, rfl⟩⟩, ⟨_, rfl, .inl ⟨rfl, rfl⟩⟩, ⟨_, rfl, .inl ⟨rfl, rfl⟩⟩, trivial⟩
      ⟨fun h => h, trivial, rfl, ⟨fun h => h, trivial, rfl, ⟨fun h => h, SubC.refl rfl, rfl, ⟨fun h => h, trivial, rfl, ⟨fun h => h, trivial, rfl, trivial⟩⟩⟩⟩⟩, ?_⟩
  clear hS hS' hS2 hf hN
  obtain ⟨cc, hcc⟩ : ∃ c, c = q4.x / 18 := ⟨_, rfl⟩
  have hccn : n ≤ cc := by rw [hcc]; exact (Nat.le_div_iff_mul_le (by decide)).2 hext
  rw [← hcc]
  refine X.focusArr (cs := e.sv) j hj (by decide) rfl (by rw [he]; rfl) (fun o _ => .inl hfar) (fun o ho => by rw [elsewhere_ro]; exact old_none hfar o) (fun g hg => ?_) (fun N2 hN2 hl2 => ?_)
  · simp only [List.mem_cons, List.mem_nil_iff, or_false] at hg
    rcases hg with rfl | rfl | rfl | rfl | rfl
    · exact .inr rfl
    · exact .inr rfl
    · exact .inl rfl
    · exact .inl rfl
    · exact .inr rfl
  obtain rfl := le_eq (N := [q0, q1, q2, q3, q4]) hN2 hl2
  clear hN2 hl2
  show X (mkE Try.prog Try.f33 Q w (InR [⟨b, y, cs.length⟩] [⟨false, cs, none⟩]) (elsewhere [⟨b, y, cs.length⟩] [⟨false, cs, none⟩] w) (arrDBut q4.b q4.o (n * 18) j 18) (ArrBut q4.b q4.o 18 n j (fun i => (f i).vals)) [q0, q1, q2, q3, q4, ⟨q4.b, q4.o + j * 18, 18⟩] B33) _ _
  have hr : ∀ N : Nums, Nums.le [q0, q1, q2, q3, q4, ⟨q4.b, q4.o + j * 18, 18⟩] N → (SV.own 5 0).den N = some (.pointer (some ⟨q4.b, q4.o + j * 18, none⟩)) := fun N hN => by
    have := hN 5 _ rfl
    simp only [SV.den, this, Nat.add_zero]
  refine X.go T33_ok 400 _ rfl Try.results33 ?_
  conv => arg 2; cbv
  refine X.idxBy j (.own 5 0) rfl rfl rfl rfl rfl rfl (good_slv Try.underlying71 Try.sizeOf93 rfl hj hr) rfl ?_
  refine X.go T33_ok 400 _ rfl Try.results33 ?_
  conv => arg 2; cbv
  refine X.idxBy j (.own 5 0) rfl rfl rfl rfl rfl rfl (good_slv Try.underlying71 Try.sizeOf93 rfl hj hr) rfl ?_
  refine X.go T33_ok 400 _ rfl Try.results33 ?_
  conv => arg 2; cbv
  refine X.idxBy j (.own 5 0) rfl rfl rfl rfl rfl rfl (good_slv Try.underlying71 Try.sizeOf93 rfl hj hr) rfl ?_
  refine X.go T33_ok 400 _ rfl Try.results33 ?_
  conv => arg 2; cbv
  refine X.done T33_ok rfl (fun N w' v hN hS hv => ?_)
  cases hv
  rw [hQ]
  refine ⟨⟨q4.b, q4.o, cc, rfl, hfar, hccn, ?_⟩, hS.chg.ro1⟩
  have := arr_back hS hS.res (r := 5) rfl rfl (hN 5 _ rfl) (vs := Ent.vals { e with st := 1, re := re, ri := ri, rs := rs, vp := vp, vn := vn, vc := vc, en := at' }) rfl rfl
  rw [upd_vals] at this
  rw [← he]
  exact this

end Go.Proofs.Ytcfghkiokdbhjaa
