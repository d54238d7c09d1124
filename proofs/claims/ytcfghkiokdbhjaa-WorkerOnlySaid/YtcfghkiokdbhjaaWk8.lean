/- Lists of acts; great. -/
import Derived.Test.YtcfghkiokdbhjaaWk4

namespace Go.Proofs.Ytcfghkiokdbhjaa
open Go.Eng

set_option maxRecDepth 100000 in
set_option cbv.maxSteps 100000000 in
theorem great_ok (kd inc st nx : Int) (pv pd po pm : Option Addr) (nv cv nd cd no co nm cm : Nat) (w : World)
    (hd : ∀ i, i < nd → ∃ b x y z p n c, pd = some ⟨b, x, none⟩ ∧ y = x + i * 6 ∧ z = y + 5 ∧ w.cell? ⟨b, z, none⟩ = some (.slice p n c)) :
    Calls Try.prog 19 #[.agg #[.int .u8 kd, .int .u64 inc, .int .i64 st, .slice pv nv cv, .slice pd nd cd, .slice po no co, .int .u64 nx, .slice pm nm cm]] w fun e w' => (∃ b, e = .returned (.bool b)) ∧ Chg (fun _ _ => False) w w' := by
  refine X.begin (rg := []) (N := []) (ss := [.agg [.int .u8 (.v kd), .int .u64 (.v inc), .int .i64 (.v st), .slv pv nv cv, .slv pd nd cd, .slv po no co, .int .u64 (.v nx), .slv pm nm cm]]) Try.func19 rfl B19_ok rfl rfl Sat.std0 ?_
  refine X.go T19_ok 1000 _ rfl Try.results19 ?_
  conv => arg 2; cbv
  refine X.cond rfl (fun hc => ?_) (fun hc => ?_)
  · refine X.go T19_ok 1000 _ rfl Try.results19 ?_
    conv => arg 2; cbv
    refine X.done T19_ok rfl (fun N w' v hN hS hv => ?_)
    simp [resV, SV.den, SB.den] at hv
    exact ⟨⟨true, by rw [← hv]⟩, hS.chg.none⟩
  · refine X.go T19_ok 1000 _ rfl Try.results19 ?_
    conv => arg 2; cbv
    simp only [SB.F, SI.den] at hc
    refine X.loop1 (fun (i : {i : Nat // i ≤ nd}) => ⟨[(1, .val (.own 0 0)), (28, .val (.int .i64 (.nat nd))), (29, .val (.int .i64 (.nat i.1)))],
      [⟨true, [.int .u8 (.v kd), .int .u64 (.v inc), .int .i64 (.v st), .slv pv nv cv, .slv pd nd cd, .slv po no co, .int .u64 (.v nx), .slv pm nm cm], none⟩]⟩) (fun i => nd - i.1) (fun N a w' hN hf hS => ⟨⟨0, Nat.zero_le _⟩, ?_⟩) (fun i q hq => ?_)
    · exact At.same hN hf hS (Nat.zero_le _) ⟨⟨_, rfl, .inl ⟨rfl, rfl⟩⟩, ⟨_, rfl, .inl ⟨rfl, rfl⟩⟩, ⟨_, rfl, .inr ⟨_, rfl, rfl⟩⟩, trivial⟩ ⟨fun _ => rfl, SubC.refl rfl, rfl, trivial⟩
    obtain ⟨i, hi⟩ := i
    refine X.go T19_ok 1000 _ rfl Try.results19 ?_
    conv => arg 2; cbv
    refine X.cond rfl (fun hlt => ?_) (fun hge => ?_)
    · simp only [SB.T, SI.den] at hlt
      obtain ⟨b, x, y, z, p, n, c, rfl, hy, hz, hcell⟩ := hd i (by omega)
      refine X.go T19_ok 1000 _ rfl Try.results19 ?_
      conv => arg 2; cbv
      refine X.idxSlv rfl rfl rfl rfl rfl Try.underlying40 Try.sizeOf133 i rfl (by omega) b x y rfl hy rfl ?_
      refine X.go T19_ok 1000 _ rfl Try.results19 ?_
      conv => arg 2; cbv
      refine X.load1 T19_ok (r := .slv p n c) rfl rfl rfl rfl rfl rfl (fun N _ => ⟨_, rfl, by show elsewhere [] [] w b (y + 5) = _; rw [elsewhere_nil, ← hcell, hz]⟩) rfl ?_
      refine X.go T19_ok 1000 _ rfl Try.results19 ?_
      conv => arg 2; cbv
      refine X.cond rfl (fun h50 => ?_) (fun h50 => ?_)
      · refine X.go T19_ok 1000 _ rfl Try.results19 ?_
        conv => arg 2; cbv
        refine X.done T19_ok rfl (fun N w' v hN hS hv => ?_)
        simp [resV, SV.den, SB.den] at hv
        exact ⟨⟨true, by rw [← hv]⟩, hS.chg.none⟩
      · refine X.go T19_ok 1000 _ rfl Try.results19 ?_
        conv => arg 2; cbv
        refine X.back (fun N a w' hN hf hS => hq ⟨i + 1, by omega⟩ a w' (by show nd - (i + 1) < nd - i; omega) ?_)
        exact At.same hN hf hS (Nat.zero_le _) ⟨⟨_, rfl, .inl ⟨rfl, rfl⟩⟩, ⟨_, rfl, .inl ⟨rfl, rfl⟩⟩, ⟨_, rfl, .inr ⟨_, rfl, by simp [SV.den, SI.den, wrap64s i (by omega)]⟩⟩, trivial⟩ ⟨fun _ => rfl, SubC.refl rfl, rfl, trivial⟩
    · refine X.go T19_ok 1000 _ rfl Try.results19 ?_
      conv => arg 2; cbv
      refine X.done T19_ok rfl (fun N w' v hN hS hv => ?_)
      simp [resV, SV.den, SB.den] at hv
      exact ⟨⟨false, by rw [← hv]⟩, hS.chg.none⟩

/-- an act -/
def actSv (k : Int) (s : Nat) (c : Int) (a : Ans) : List SV := .int .i64 (.v k) :: .int .u8 (.nat s) :: .int .u64 (.v c) :: a.sv
def actVals (k : Int) (s : Nat) (c : Int) (a : Ans) : List Value := .int .i64 k :: .int .u8 s :: .int .u64 c :: a.vals

/-- the record's rows lie in memory -/
def DoneAt (a : Ans) (w : World) : Prop := ∀ i, i < a.nd → ∃ b x y z p n c, a.pd = some ⟨b, x, none⟩ ∧ y = x + i * 6 ∧ z = y + 5 ∧ w.cell? ⟨b, z, none⟩ = some (.slice p n c)

/-- n acts lie there -/
def ActsAt (po : Option Addr) (n : Nat) (w : World) : Prop := ∀ i, i < n → ∃ (b x y : Nat) (k : Int) (s : Nat) (c : Int) (a : Ans), po = some ⟨b, x, none⟩ ∧ y = x + i * 29 ∧ s < 256 ∧
  (∀ (j : Nat) (v : Value), (actVals k s c a)[j]? = some v → w.cell? ⟨b, y + j, none⟩ = some v) ∧ OutAt a w ∧ DoneAt a w

theorem outAt_cells {a : Ans} {W w : World} (ho : OutAt a W) (him : ∀ k o v, W.cell? ⟨k, o, none⟩ = some v → w.cell? ⟨k, o, none⟩ = some v) : OutAt a w := fun hn => by
  obtain ⟨b, x, c0, c1, c2, c3, h1, h2⟩ := ho hn
  exact ⟨b, x, c0, c1, c2, c3, h1, fun j v hj => him _ _ _ (h2 j v hj)⟩
theorem acts_old {po : Option Addr} {n : Nat} {W w : World} (hl : ActsAt po n W) (him : ∀ k o v, elsewhere [] [] W k o = some v → w.cell? ⟨k, o, none⟩ = some v) : ActsAt po n w := fun i hi => by
  have him' : ∀ k o v, W.cell? ⟨k, o, none⟩ = some v → w.cell? ⟨k, o, none⟩ = some v := fun k o v h => him k o v (by rw [elsewhere_nil]; exact h)
  obtain ⟨b, x, y, k, s, c, a, h1, h2, h3, h4, h5, h6⟩ := hl i hi
  refine ⟨b, x, y, k, s, c, a, h1, h2, h3, fun j v hj => him' _ _ _ (h4 j v hj), outAt_cells h5 him', fun i hi => ?_⟩
  obtain ⟨b, x, y, z, p, n, c, k1, k2, k3, k4⟩ := h6 i hi
  exact ⟨b, x, y, z, p, n, c, k1, k2, k3, him' _ _ _ k4⟩

set_option maxRecDepth 100000 in
set_option cbv.maxSteps 100000000 in
theorem greatl_ok (po : Option Addr) (n cp : Nat) (w : World) (hl : ActsAt po n w) :
    Calls Try.prog 14 #[.slice po n cp] w fun e w' => (∃ b, e = .returned (.bool b) ∧ (b = false → n ≤ 60)) ∧ Chg (fun _ _ => False) w w' := by
  refine X.begin (rg := []) (N := []) (ss := [.slv po n cp]) Try.func14 rfl B14_ok rfl rfl Sat.std0 ?_
  refine X.go T14_ok 1000 _ rfl Try.results14 ?_
  conv => arg 2; cbv
  refine X.cond rfl (fun hc => ?_) (fun hc => ?_)
  · refine X.go T14_ok 1000 _ rfl Try.results14 ?_
    conv => arg 2; cbv
    refine X.done T14_ok rfl (fun N w' v hN hS hv => ?_)
    simp [resV, SV.den, SB.den] at hv
    exact ⟨⟨true, by rw [← hv], by simp⟩, hS.chg.none⟩
  · refine X.go T14_ok 1000 _ rfl Try.results14 ?_
    conv => arg 2; cbv
    simp only [SB.F, SI.den] at hc
    refine X.loop1 (fun (i : {i : Nat // i ≤ n}) => ⟨[(0, .val (.slv po n cp)), (3, .val (.int .i64 (.nat i.1)))], []⟩) (fun i => n - i.1) (fun N a w' hN hf hS => ⟨⟨0, Nat.zero_le _⟩, ?_⟩) (fun i q hq => ?_)
    · exact At.same hN hf hS (Nat.zero_le _) ⟨⟨_, rfl, .inl ⟨rfl, rfl⟩⟩, ⟨_, rfl, .inr ⟨_, rfl, rfl⟩⟩, trivial⟩ trivial
    obtain ⟨i, hi⟩ := i
    refine X.go T14_ok 1000 _ rfl Try.results14 ?_
    conv => arg 2; cbv
    refine X.cond rfl (fun hlt => ?_) (fun hge => ?_)
    · simp only [SB.T, SI.den] at hlt
      obtain ⟨b, x, y, k, s, c, a, hpo, hy, hs, hcell, ho, hd⟩ := hl i (by omega)
      refine X.go T14_ok 1000 _ rfl Try.results14 ?_
      conv => arg 2; cbv
      refine X.idxSlv rfl rfl rfl rfl rfl Try.underlying22 Try.sizeOf51 i rfl (by omega) b x y hpo hy rfl ?_
      refine X.go T14_ok 1000 _ rfl Try.results14 ?_
      conv => arg 2; cbv
      refine X.loadN T14_ok (rs := [.int .u8 (.v a.kd), .int .u64 (.v a.inc), .int .i64 (.v a.st), .slv a.pv a.nv a.cv, .slv a.pd a.nd a.cd, .slv a.po a.no a.co, .int .u64 (.v a.nx), .slv a.pm a.nm a.cm]) rfl rfl rfl rfl rfl rfl rfl (fun N _ => ⟨_, rfl, fun j v hj => by
        show elsewhere [] [] w b (y + 18 + j) = _
        rw [elsewhere_nil, Nat.add_assoc]
        refine hcell (18 + j) v ?_
        match j, hj with
        | 0, hj => exact hj
        | 1, hj => exact hj
        | 2, hj => exact hj
        | 3, hj => exact hj
        | 4, hj => exact hj
        | 5, hj => exact hj
        | 6, hj => exact hj
        | 7, hj => exact hj
        | j + 8, hj => simp at hj⟩) rfl ?_
      refine X.go T14_ok 1000 _ rfl Try.results14 ?_
      conv => arg 2; cbv
      refine X.call rfl rfl rfl rfl Try.call19 (fun N w1 args hN hS ha => ?_)
      have ha' : [Value.agg #[.int .u8 a.kd, .int .u64 a.inc, .int .i64 a.st, .slice a.pv a.nv a.cv, .slice a.pd a.nd a.cd, .slice a.po a.no a.co, .int .u64 a.nx, .slice a.pm a.nm a.cm]] = args := Option.some.inj (ha ▸ rfl : some _ = some args)
      subst ha'
      refine (great_ok a.kd a.inc a.st a.nx a.pv a.pd a.po a.pm a.nv a.cv a.nd a.cd a.no a.co a.nm a.cm w1 (fun i hi => ?_)).mono fun e w' ⟨⟨r, he⟩, hc⟩ => ⟨_, he, Goes.same (r := .bool (.v r)) hN hS hc rfl rfl ?_⟩
      · obtain ⟨b, x, y, z, p, n, c, h1, h2, h3, h4⟩ := hd i hi
        exact ⟨b, x, y, z, p, n, c, h1, h2, h3, hS.imm _ _ _ (by show elsewhere [] [] w b z = _; rw [elsewhere_nil]; exact h4)⟩
      refine X.go T14_ok 1000 _ rfl Try.results14 ?_
      conv => arg 2; cbv
      refine X.cond rfl (fun hr => ?_) (fun hr => ?_)
      · refine X.go T14_ok 1000 _ rfl Try.results14 ?_
        conv => arg 2; cbv
        refine X.done T14_ok rfl (fun N w' v hN hS hv => ?_)
        simp [resV, SV.den, SB.den] at hv
        exact ⟨⟨true, by rw [← hv], by simp⟩, hS.chg.none⟩
      · refine X.go T14_ok 1000 _ rfl Try.results14 ?_
        conv => arg 2; cbv
        refine X.back (fun N a w' hN hf hS => hq ⟨i + 1, by omega⟩ a w' (by show n - (i + 1) < n - i; omega) ?_)
        exact At.same hN hf hS (Nat.zero_le _) ⟨⟨_, rfl, .inl ⟨rfl, rfl⟩⟩, ⟨_, rfl, .inr ⟨_, rfl, by simp [SV.den, SI.den, wrap64s i (by omega)]⟩⟩, trivial⟩ trivial
    · refine X.go T14_ok 1000 _ rfl Try.results14 ?_
      conv => arg 2; cbv
      refine X.done T14_ok rfl (fun N w' v hN hS hv => ?_)
      simp [resV, SV.den, SB.den] at hv
      exact ⟨⟨false, by rw [← hv], fun _ => by omega⟩, hS.chg.none⟩

end Go.Proofs.Ytcfghkiokdbhjaa
