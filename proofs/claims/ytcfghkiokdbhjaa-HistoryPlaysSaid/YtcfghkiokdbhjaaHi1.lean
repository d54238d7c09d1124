/- The history's functions, one contract each: entries; a client's open entry. -/
import Derived.Test.YtcfghkiokdbhjaaTab
import Derived.Test.YtcfghkiokdbhjaaArr
import Derived.Test.YtcfghkiokdbhjaaEngK
import Derived.Test.YtcfghkiokdbhjaaEng15

namespace Go.Proofs.Ytcfghkiokdbhjaa
open Go.Eng

/-- an entry -/
structure Ent where
  (nd k y c s a p r u i l at' en st re ri rs : Int) (vp : Option Addr) (vn vc : Nat)

def Ent.sv (e : Ent) : List SV := [.int .u8 (.v e.nd), .int .u8 (.v e.k), .int .u8 (.v e.y), .int .u8 (.v e.c), .int .u64 (.v e.s), .int .i64 (.v e.a), .int .i64 (.v e.p), .int .i64 (.v e.r), .int .u8 (.v e.u), .int .u64 (.v e.i), .int .u64 (.v e.l),
  .int .i64 (.v e.at'), .int .i64 (.v e.en), .int .u8 (.v e.st), .int .i64 (.v e.re), .int .u64 (.v e.ri), .int .i64 (.v e.rs), .slv e.vp e.vn e.vc]
def Ent.vals (e : Ent) : List Value := [.int .u8 e.nd, .int .u8 e.k, .int .u8 e.y, .int .u8 e.c, .int .u64 e.s, .int .i64 e.a, .int .i64 e.p, .int .i64 e.r, .int .u8 e.u, .int .u64 e.i, .int .u64 e.l,
  .int .i64 e.at', .int .i64 e.en, .int .u8 e.st, .int .i64 e.re, .int .u64 e.ri, .int .i64 e.rs, .slice e.vp e.vn e.vc]
theorem Ent.den (e : Ent) (N : Nums) : SV.denL N e.sv = some e.vals := rfl

/-- is it the client's open entry? -/
def Ent.is (e : Ent) (cl : Int) : Prop := e.c = cl ∧ e.st = 0

/-- entries lie there -/
def EntsIn (po : Option Addr) (n : Nat) (f : Nat → Ent) (W : World) : Prop :=
  ∀ i, i < n → ∃ b y z, po = some ⟨b, y, none⟩ ∧ z = y + i * 18 ∧ ∀ (j : Nat) (v : Value), (f i).vals[j]? = some v → W.cell? ⟨b, z + j, none⟩ = some v

theorem hwrap64s (i : Nat) (h : i < 1000000) : IntKind.i64.wrap ((i : Int) + 1) = ((i + 1 : Nat) : Int) := by
  simp [IntKind.wrap, IntKind.bits, IntKind.signed]; omega

/-- the first entry of which it holds, or none -/
def FirstIs (n : Nat) (f : Nat → Ent) (cl : Int) (r : Int) : Prop :=
  (r = -1 ∧ ∀ i, i < n → ¬ (f i).is cl) ∨ ∃ i : Nat, i < n ∧ r = i ∧ (f i).is cl ∧ ∀ j, j < i → ¬ (f j).is cl

/-- a region that is only looked at lies elsewhere, too -/
theorem elsewhere_ro {p : Num} {cs : List SV} {w : World} {k o : Nat} : elsewhere [p] [⟨false, cs, none⟩] w k o = w.cell? ⟨k, o, none⟩ := by
  unfold elsewhere
  rw [if_neg]
  rintro ⟨r, g, q, hg, _, ho, _⟩
  cases r with
  | zero => simp at hg; subst hg; cases ho
  | succ r => simp at hg

theorem subE_fn {N : Nums} {m r c g : Nat} {p : Num} (h : N[r]? = some p) (hr : r < m) : SubE N (N.take m) m (.fn g [.own r c]) (.fn g [.own r c]) :=
  .inr ⟨.func (.func g) #[] #[.pointer (some ⟨p.b, p.o + c, none⟩)], by simp [SV.den, SV.denL, h], by simp [SV.den, SV.denL, hr, h]⟩

set_option maxRecDepth 100000 in
set_option cbv.maxSteps 100000000 in
theorem indexFunc_ok (po : Option Addr) (n cp cb co : Nat) (cl : Int) (f : Nat → Ent) (w : World) (hn : n ≤ 1000) (hE : EntsIn po n f w) (hc : w.cell? ⟨cb, co, none⟩ = some (.int .u8 cl)) :
    Calls Try.prog 69 #[.slice po n cp, .func (.func 70) #[] #[.pointer (some ⟨cb, co, none⟩)]] w
      fun e w' => ∃ r : Int, e = .returned (.int .i64 r) ∧ Chg (fun _ _ => False) w w' ∧ FirstIs n f cl r := by
  refine X.begin (rg := [⟨false, [.int .u8 (.v cl)], none⟩]) (N := [⟨cb, co, 1⟩]) (ss := [.slv po n cp, .fn 70 [.own 0 0]]) Try.func69 rfl B69_ok rfl rfl
    (Sat.std1 false (World.block_lt_of_cell? _ _ hc) (fun j c hj => ?_) (fun h => by cases h)) ?_
  · cases j with
    | zero => simp at hj; subst hj; exact ⟨_, rfl, hc⟩
    | succ j => simp at hj
  refine X.go T69_ok 400 _ rfl Try.results69 ?_
  conv => arg 2; cbv
  refine X.loop1 (fun (i : {i : Nat // i ≤ n ∧ ∀ j, j < i → ¬ (f j).is cl}) => ⟨[(0, .val (.slv po n cp)), (1, .val (.fn 70 [.own 0 0])), (7, .val (.int .i64 (.nat n))), (8, .val (.int .i64 (.nat i.1)))],
      [⟨false, [.int .u8 (.v cl)], none⟩]⟩) (fun i => n - i.1) (fun N a w' hN hf hS => ⟨⟨0, Nat.zero_le _, fun j hj => by omega⟩, ?_⟩) (fun i q hq => ?_)
  · exact At.same hN hf hS (by simp) ⟨⟨_, rfl, .inl ⟨rfl, rfl⟩⟩, ⟨_, rfl, subE_fn (hN 0 _ rfl) (by simp)⟩, ⟨_, rfl, .inl ⟨rfl, rfl⟩⟩, ⟨_, rfl, .inr ⟨_, rfl, rfl⟩⟩, trivial⟩ ⟨fun h => h, SubC.refl rfl, rfl, trivial⟩
  obtain ⟨i, hi, hno⟩ := i
  refine X.go T69_ok 400 _ rfl Try.results69 ?_
  conv => arg 2; cbv
  refine X.cond rfl (fun hlt => ?_) (fun hge => ?_)
  · simp only [SB.T, SI.den] at hlt
    obtain ⟨b, y, z, hpo, hz, hcell⟩ := hE i (by omega)
    refine X.go T69_ok 400 _ rfl Try.results69 ?_
    conv => arg 2; cbv
    refine X.idxSlv rfl rfl rfl rfl rfl Try.underlying71 Try.sizeOf93 i rfl (by omega) b y z hpo hz rfl ?_
    refine X.go T69_ok 400 _ rfl Try.results69 ?_
    conv => arg 2; cbv
    refine X.loadN T69_ok (rs := (f i).sv) rfl rfl rfl rfl rfl rfl rfl (fun N _ => ⟨(f i).vals, rfl, fun j v hj => by
      show elsewhere _ _ w b (z + 0 + j) = _
      rw [elsewhere_ro, Nat.add_zero]; exact hcell j v hj⟩) rfl ?_
    refine X.goC FALL_ok false T69_ok 400 _ rfl Try.results69 ?_
    conv => arg 2; cbv
    refine X.cond rfl (fun hy => ?_) (fun hy => ?_)
    · refine X.go T69_ok 400 _ rfl Try.results69 ?_
      conv => arg 2; cbv
      simp only [SB.T, SI.den] at hy
      refine X.done T69_ok rfl (fun N w' v hN hS hv => ?_)
      simp [resV, SV.den, SI.den] at hv
      exact ⟨_, by rw [← hv], hS.chg.ro1, .inr ⟨i, by omega, rfl, hy, hno⟩⟩
    · refine X.go T69_ok 400 _ rfl Try.results69 ?_
      conv => arg 2; cbv
      simp only [SB.F, SI.den] at hy
      refine X.back (fun N a w' hN hf hS => hq ⟨i + 1, by omega, fun j hj => ?_⟩ a w' (by show n - (i + 1) < n - i; omega) ?_)
      · by_cases e : j = i
        · subst e; exact fun ⟨h1, h2⟩ => hy.elim (fun h => h h1) (fun h => h h2)
        · exact hno j (by omega)
      · exact At.same hN hf hS (by simp) ⟨⟨_, rfl, .inl ⟨rfl, rfl⟩⟩, ⟨_, rfl, subE_fn (hN 0 _ rfl) (by simp)⟩, ⟨_, rfl, .inl ⟨rfl, rfl⟩⟩, ⟨_, rfl, .inr ⟨_, rfl, by simp [SV.den, SI.den, hwrap64s i (by omega)]⟩⟩, trivial⟩ ⟨fun h => h, SubC.refl rfl, rfl, trivial⟩
  · simp only [SB.F, SI.den] at hge
    have : i = n := by omega
    subst this
    refine X.go T69_ok 400 _ rfl Try.results69 ?_
    conv => arg 2; cbv
    refine X.done T69_ok rfl (fun N w' v hN hS hv => ?_)
    simp [resV, SV.den, SI.den] at hv
    exact ⟨_, by rw [← hv], hS.chg.ro1, .inl ⟨rfl, hno⟩⟩

theorem EntsIn.at {po : Option Addr} {n : Nat} {f : Nat → Ent} {W w : World} (h : EntsIn po n f W) (hw : ∀ k o v, W.cell? ⟨k, o, none⟩ = some v → w.cell? ⟨k, o, none⟩ = some v) : EntsIn po n f w := fun i hi => by
  obtain ⟨b, y, z, h1, h2, h3⟩ := h i hi
  exact ⟨b, y, z, h1, h2, fun j v hj => hw _ _ _ (h3 j v hj)⟩

set_option maxRecDepth 100000 in
set_option cbv.maxSteps 100000000 in
theorem open_ok (hb hy : Nat) (po : Option Addr) (n cp : Nat) (cl : Int) (f : Nat → Ent) (w : World) (hn : n ≤ 1000) (hE : EntsIn po n f w) (hh : w.cell? ⟨hb, hy, none⟩ = some (.slice po n cp)) :
    Calls Try.prog 36 #[.pointer (some ⟨hb, hy, none⟩), .int .u8 cl] w
      fun e w' => (∃ r : Int, e = .returned (.tuple #[.int .i64 (if r < 0 then 0 else r), .bool (decide (0 ≤ r))]) ∧ FirstIs n f cl r) ∧ Chg (fun _ _ => False) w w' := by
  refine X.begin (rg := []) (N := []) (ss := [.ext hb hy 0, .int .u8 (.v cl)]) Try.func36 rfl B36_ok rfl rfl Sat.std0 ?_
  refine X.go T36_ok 400 _ rfl Try.results36 ?_
  conv => arg 2; cbv
  refine X.load1 T36_ok (r := .slv po n cp) rfl rfl rfl rfl rfl rfl (fun N _ => ⟨_, rfl, by show elsewhere [] [] w hb (hy + 0) = _; rw [else0]; exact hh⟩) rfl ?_
  refine X.go T36_ok 400 _ rfl Try.results36 ?_
  conv => arg 2; cbv
  refine X.call rfl rfl rfl rfl Try.call69 (fun N w1 args hN hS ha => ?_)
  obtain ⟨p, hp⟩ : ∃ p, N[0]? = some p := ⟨_, List.getElem?_eq_getElem (by rw [hS.len]; simp)⟩
  have ha' : [Value.slice po n cp, .func (.func 70) #[] #[.pointer (some ⟨p.b, p.o, none⟩)]] = args := by
    simpa [SV.denL, SV.den, hp] using ha
  subst ha'
  have hcl : w1.cell? ⟨p.b, p.o, none⟩ = some (.int .u8 cl) := by
    have := hS.at hp (g := ⟨true, [.int .u8 (.v cl)], none⟩) rfl (j := 0) (c := .int .u8 (.v cl)) rfl (v := .int .u8 cl) rfl
    simpa using this
  refine (indexFunc_ok po n cp p.b p.o cl f w1 hn (hE.at fun k o v h => hS.imm k o v (by show elsewhere [] [] w k o = _; rw [else0]; exact h)) hcl).mono fun e w' ⟨r, he, hc, hr⟩ => ⟨_, he, Goes.same (r := .int .i64 (.v r)) hN hS hc rfl rfl ?_⟩
  refine X.go T36_ok 400 _ rfl Try.results36 ?_
  conv => arg 2; cbv
  refine X.done T36_ok rfl (fun N w' v hN hS hv => ?_)
  simp [resV, SV.den, SV.denL, SI.den, SB.den] at hv
  exact ⟨⟨r, by rw [← hv]; congr, hr⟩, hS.chg.none⟩

end Go.Proofs.Ytcfghkiokdbhjaa
