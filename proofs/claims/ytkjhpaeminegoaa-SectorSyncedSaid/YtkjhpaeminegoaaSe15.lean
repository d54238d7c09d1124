/- The sector's law: steps as arguments; great; strings of bytes. -/
import Derived.Test.YtkjhpaeminegoaaSe14
import Derived.Test.YtkjhpaeminegoaaLaw
import Derived.Laws.BytesArg

namespace Go.Proofs.Ytkjhpaeminegoaa
open Go.Eng

/-- bytes, told by what lies there -/
def BytesIn (po : Option Addr) (n : Nat) (g : Nat → Int) (W : World) : Prop := 0 < n → ∃ b y, po = some ⟨b, y, none⟩ ∧ BytesAt b y n g W

/-- a step -/
structure SStep where
  (kd i at' : Int) (bp : Option Addr) (bn bc : Nat) (torn : Bool) (by' : Int) (g : Nat → Int)

def SStep.vals (e : SStep) : List Value := [.int .i64 e.kd, .int .i64 e.i, .int .i64 e.at', .slice e.bp e.bn e.bc, .bool e.torn, .int .u8 e.by']

/-- n steps lie there -/
structure StepsAt (po : Option Addr) (n : Nat) (f : Nat → SStep) (b x : Nat) (W : World) : Prop where
  po : 0 < n → po = some ⟨b, x, none⟩
  row : ∀ i, i < n → ∀ (j : Nat) (v : Value), (f i).vals[j]? = some v → W.cell? ⟨b, x + i * 6 + j, none⟩ = some v
  by' : ∀ i, i < n → BytesIn (f i).bp (f i).bn (f i).g W

theorem kindsStep : kindsOf Try.prog 8 32 = some [.int .i64, .int .i64, .int .i64, .slice 5, .bool, .int .u8] := by kernel_rfl
theorem cellsStep : Try.prog.cellsOf 32 = 6 := by kernel_rfl
theorem kindsU8 : kindsOf Try.prog 8 5 = some [.int .u8] := by kernel_rfl
theorem cellsU8 : Try.prog.cellsOf 5 = 1 := by kernel_rfl

theorem rdCells {W : World} {b y e : Nat} {ks : List CK} (h : RdAt Try.prog W 0 b y e) (hk : kindsOf Try.prog 8 e = some ks) : ∃ cs, CellsOk Try.prog W 0 ks cs ∧ ∀ (j : Nat) (v : Value), cs[j]? = some v → W.cell? ⟨b, y + j, none⟩ = some v := by
  obtain ⟨_, cs, _, h2, h3⟩ := h
  exact ⟨cs, kindsOf_sound 8 e ks cs hk h3, h2⟩

theorem bytes_of {W : World} {v : Value} (h : CellOk Try.prog W 0 (.slice 5) v) : ∃ po n cp g, v = .slice po n cp ∧ BytesIn po n g W := by
  obtain ⟨po, n, cp, rfl, _, _, hr⟩ := h
  by_cases h0 : n = 0
  · exact ⟨po, n, cp, fun _ => 0, rfl, fun h => by omega⟩
  · obtain ⟨b, x, hpo, hr⟩ := hr (by rw [cellsU8]; omega) (by omega)
    have hh : ∀ i, i < n → ∃ a : Int, W.cell? ⟨b, x + i, none⟩ = some (.int .u8 a) := fun i hi => by
      have hr := hr i hi
      rw [cellsU8, Nat.mul_one] at hr
      obtain ⟨cs, hc, hcell⟩ := rdCells hr kindsU8
      obtain ⟨v0, r0, rfl, h0, hc⟩ := CellsOk.cons hc
      have oend := CellsOk.nil hc; subst oend
      obtain ⟨a0, rfl, -⟩ := h0
      exact ⟨a0, hcell 0 _ rfl⟩
    refine ⟨po, n, cp, fun i => match W.cell? ⟨b, x + i, none⟩ with | some (.int .u8 a) => a | _ => 0, rfl, fun _ => ⟨b, x, hpo, fun j hj => ?_⟩⟩
    obtain ⟨a, ha⟩ := hh j hj
    simp only [ha]

instance : Inhabited SStep := ⟨⟨0, 0, 0, none, 0, 0, false, 0, fun _ => 0⟩⟩

theorem steps_of {W : World} {v : Value} (h : CellOk Try.prog W 0 (.slice 32) v) : ∃ po n cp f b x, v = .slice po n cp ∧ StepsAt po n f b x W := by
  obtain ⟨po, n, cp, rfl, _, _, hr⟩ := h
  by_cases h0 : n = 0
  · exact ⟨po, n, cp, fun _ => default, 0, 0, rfl, ⟨fun h => by omega, fun i hi => by omega, fun i hi => by omega⟩⟩
  obtain ⟨b, x, hpo, hr⟩ := hr (by rw [cellsStep]; omega) (by omega)
  have hh : ∀ i, ∃ e : SStep, i < n → (∀ (j : Nat) (v : Value), e.vals[j]? = some v → W.cell? ⟨b, x + i * 6 + j, none⟩ = some v) ∧ BytesIn e.bp e.bn e.g W := fun i => by
    by_cases hi : i < n
    · have hr := hr i hi
      rw [cellsStep] at hr
      obtain ⟨cs, hc, hcell⟩ := rdCells hr kindsStep
      obtain ⟨v0, r0, rfl, h0, hc⟩ := CellsOk.cons hc
      obtain ⟨v1, r1, rfl, h1, hc⟩ := CellsOk.cons hc
      obtain ⟨v2, r2, rfl, h2, hc⟩ := CellsOk.cons hc
      obtain ⟨v3, r3, rfl, h3, hc⟩ := CellsOk.cons hc
      obtain ⟨v4, r4, rfl, h4, hc⟩ := CellsOk.cons hc
      obtain ⟨v5, r5, rfl, h5, hc⟩ := CellsOk.cons hc
      have oend := CellsOk.nil hc; subst oend
      obtain ⟨a0, rfl, -⟩ := h0
      obtain ⟨a1, rfl, -⟩ := h1
      obtain ⟨a2, rfl, -⟩ := h2
      obtain ⟨bp, bn, bc, g, rfl, hg⟩ := bytes_of h3
      obtain ⟨a4, rfl⟩ := h4
      obtain ⟨a5, rfl, -⟩ := h5
      exact ⟨⟨a0, a1, a2, bp, bn, bc, a4, a5, g⟩, fun _ => ⟨fun j v hj => hcell j v hj, hg⟩⟩
    · exact ⟨default, fun h => absurd h hi⟩
  have hf : ∃ f : Nat → SStep, ∀ i, i < n → (∀ (j : Nat) (v : Value), (f i).vals[j]? = some v → W.cell? ⟨b, x + i * 6 + j, none⟩ = some v) ∧ BytesIn (f i).bp (f i).bn (f i).g W :=
    ⟨fun i => Classical.choose (hh i), fun i hi => Classical.choose_spec (hh i) hi⟩
  obtain ⟨f, hf⟩ := hf
  exact ⟨po, n, cp, f, b, x, rfl, ⟨fun _ => hpo, fun i hi => (hf i hi).1, fun i hi => (hf i hi).2⟩⟩

/-- not more than is gone through -/
def smallS (size count : Int) (n : Nat) (f : Nat → SStep) : Prop := 64 ≤ size ∧ size ≤ 512 ∧ 1 ≤ count ∧ count ≤ 40 ∧ n ≤ 60 ∧ ∀ i, i < n → (f i).bn ≤ 600

theorem wrap64_up (i : Nat) (h : i < 1000000) : IntKind.i64.wrap ((i : Int) + 1) = ((i + 1 : Nat) : Int) := hwrap64s i h

set_option maxHeartbeats 8000000 in
set_option maxRecDepth 100000 in
set_option cbv.maxSteps 100000000 in
theorem great12_ok (size count : Int) (po : Option Addr) (n cp b x : Nat) (f : Nat → SStep) (w : World) (hl : StepsAt po n f b x w) :
    Calls Try.prog 10 #[.int .i64 size, .int .i64 count, .slice po n cp] w fun e w' => ∃ g : Bool, e = .returned (.bool g) ∧ (g = false → smallS size count n f) ∧ Chg (fun _ _ => False) w w' := by
  obtain ⟨Q, hQ⟩ : ∃ Q : Ending → World → Prop, Q = fun e w' => ∃ g : Bool, e = .returned (.bool g) ∧ (g = false → smallS size count n f) ∧ Chg (fun _ _ => False) w w' := ⟨_, rfl⟩
  rw [← hQ]
  refine X.begin (rg := []) (N := []) (ss := [.int .i64 (.v size), .int .i64 (.v count), .slv po n cp]) Try.func10 rfl B10_ok rfl rfl Sat.std0 ?_
  obtain ⟨im, hime⟩ : ∃ im, im = elsewhere [] [] w := ⟨_, rfl⟩
  have him : ∀ {k o v}, w.cell? ⟨k, o, none⟩ = some v → im k o = some v := fun h => by rw [hime, elsewhere_not inR_nil]; exact h
  show X (mkE Try.prog Try.f10 Q w (InR [] []) (elsewhere [] [] w) (fun _ _ => False) (fun _ => True) [] B10) _ _
  rw [← hime]
  refine X.go T10_ok 400 _ rfl Try.results10 ?_
  conv => arg 2; cbv
  refine X.cond rfl (fun _ => ?_) (fun hc => ?_)
  · refine X.go T10_ok 400 _ rfl Try.results10 ?_
    conv => arg 2; cbv
    refine X.done T10_ok rfl (fun N w' v hN hS hv => ?_)
    cases hv
    rw [hQ]
    exact ⟨true, rfl, fun h => (by cases h), hS.chg.mono fun k o _ h => inR_nil h⟩
  simp only [SB.F, SI.den] at hc
  refine X.less [0, 1, 2] ?_
  show X (mkE Try.prog Try.f10 Q w (InR [] []) im (fun _ _ => False) (fun _ => True) [] B10) _ _
  refine X.go T10_ok 400 _ rfl Try.results10 ?_
  conv => arg 2; cbv
  refine X.loop1 (fun i : {i : Nat // i ≤ n ∧ ∀ j, j < i → (f j).bn ≤ 600} => ⟨[(2, .val (.slv po n cp)), (7, .val (.int .i64 (.nat i.1)))], []⟩) (fun i => n - i.1) (fun N a w' hN hf hS => ⟨⟨0, Nat.zero_le _, fun j hj => by omega⟩, ?_⟩) (fun i q hq => ?_)
  · exact At.same hN hf hS (Nat.zero_le _) ⟨⟨_, rfl, .inl ⟨rfl, rfl⟩⟩, ⟨_, rfl, .inr ⟨_, rfl, rfl⟩⟩, trivial⟩ trivial
  obtain ⟨i, hi, hsm⟩ := i
  refine X.go T10_ok 400 _ rfl Try.results10 ?_
  conv => arg 2; cbv
  refine X.cond rfl (fun hlt => ?_) (fun hge => ?_)
  · simp only [SB.T, SI.den] at hlt
    have hlt : i < n := by omega
    refine X.go T10_ok 400 _ rfl Try.results10 ?_
    conv => arg 2; cbv
    obtain ⟨z, hz⟩ : ∃ z, z = x + i * 6 := ⟨_, rfl⟩
    obtain ⟨bp, hbp⟩ : ∃ z, z = (f i).bp := ⟨_, rfl⟩
    obtain ⟨bn, hbn⟩ : ∃ z, z = (f i).bn := ⟨_, rfl⟩
    obtain ⟨bc, hbc⟩ : ∃ z, z = (f i).bc := ⟨_, rfl⟩
    refine X.idxSlv rfl rfl rfl rfl rfl Try.underlying22 Try.sizeOf32 i rfl hlt b x z (hl.po (by omega)) hz rfl ?_
    refine X.go T10_ok 1 _ rfl Try.results10 ?_
    conv => arg 2; cbv
    refine X.load1 T10_ok (r := .slv bp bn bc) rfl rfl rfl rfl rfl rfl (fun N _ => ⟨_, rfl, him (by rw [hz, hbp, hbn, hbc]; exact hl.row i hlt 3 _ rfl)⟩) rfl ?_
    refine X.go T10_ok 400 _ rfl Try.results10 ?_
    conv => arg 2; cbv
    refine X.cond rfl (fun _ => ?_) (fun hc2 => ?_)
    · refine X.go T10_ok 400 _ rfl Try.results10 ?_
      conv => arg 2; cbv
      refine X.done T10_ok rfl (fun N w' v hN hS hv => ?_)
      cases hv
      rw [hQ]
      exact ⟨true, rfl, fun h => (by cases h), hS.chg.mono fun k o _ h => inR_nil h⟩
    simp only [SB.F, SI.den] at hc2
    refine X.go T10_ok 400 _ rfl Try.results10 ?_
    conv => arg 2; cbv
    refine X.back (fun N a w' hN hf hS => hq ⟨i + 1, by omega, fun j hj => ?_⟩ a w' (by simp only; omega) ?_)
    · rcases Nat.lt_or_ge j i with h | h
      · exact hsm j h
      · have e : j = i := by omega
        rw [e, ← hbn]
        first | exact Int.ofNat_le.1 hc2 | exact Int.ofNat_le.1 (Int.not_lt.1 hc2)
    · exact At.same hN hf hS (Nat.zero_le _) ⟨⟨_, rfl, .inl ⟨rfl, rfl⟩⟩, ⟨_, rfl, .inr ⟨_, rfl, by simp [SV.den, SI.den, hwrap64s i (by omega)]⟩⟩, trivial⟩ trivial
  · simp only [SB.F, SI.den] at hge
    obtain rfl : i = n := by omega
    refine X.go T10_ok 400 _ rfl Try.results10 ?_
    conv => arg 2; cbv
    refine X.done T10_ok rfl (fun N w' v hN hS hv => ?_)
    cases hv
    rw [hQ]
    exact ⟨false, rfl, fun _ => ⟨by omega, by omega, by omega, by omega, by omega, hsm⟩, hS.chg.mono fun k o _ h => inR_nil h⟩

/-! ### bytes as a string -/
def strG (g : Nat → Int) (n : Nat) : ByteArray := strOfNums ((List.range n).map g)

theorem strG_eq {g h : Nat → Int} {n : Nat} (e : ∀ j, j < n → g j = h j) : strG g n = strG h n := by
  unfold strG
  congr 1
  exact List.map_congr_left fun j hj => e j (List.mem_range.1 hj)

section
open Go
variable {E : Ctx} {T : Tab} {all : Array Oper} {i : Nat} {rest : List Nat} {k : List It} {s : St} {o : Oper} {f : Fr}

/-- 'string(b)' of a region's bytes -/
theorem toStr {src e dst : TypeId} {x : Operand} {r n : Nat} {kc : Option Nat} {G : Nat → Int} {g : Rg} (ho : nth all.toList i = some o) (hg : o.guard = none) (hop : o.op = .convert src dst x) (hx : ev s.fr x = some (.osl r 0 n 1 kc)) (hr : s.rg[r]? = some g) (hgc : g.cells = bytesL G n)
    (hs : E.P.underlying src = some (.slice e)) (he : E.P.underlying e = some (.int .u8)) (hd : E.P.underlying dst = some .string)
    (hp : putO E.n s.fr o.dst (.val (.raw (.string (strG G n)))) = some f) (hk : X E (.ops all rest :: k) ⟨f, s.rg⟩) : X E (.ops all (i :: rest) :: k) s := by
  refine X.value ho hg _ hp (fun N a w hN hfr hS => ?_) hk
  refine ⟨_, rfl, ?_⟩
  have h1 := ev_sound hfr hx
  obtain ⟨p, hp⟩ : ∃ p, N[r]? = some p := ⟨_, List.getElem?_eq_getElem (by rw [hS.len]; exact (List.getElem?_eq_some_iff.1 hr).1)⟩
  simp only [SV.den, hp, Option.some.injEq] at h1
  have := run_convert_bytes_arg (P := E.P) (w := w) src e hs he p.b (p.o + 0) n (p.cap 0 1 kc) ((List.range n).map G) (by simp) (fun j hj => by
    obtain ⟨v, k1, k2⟩ := hS.cell r g p hr hp j (.int .u8 (.v (G j))) (by rw [hgc]; exact bytesL_at hj)
    cases k1
    rw [Nat.add_zero, k2]
    simp [List.getD, List.getElem?_map, List.getElem?_range hj, SI.den]) dst hd
  simp only [execOp, hop, ← h1, this, Sem.run_bind, Result.andThen, Sem.run_pure]
  rfl

/-- two strings, the same -/
theorem neStr {t : TypeId} {x y : Operand} {u v : ByteArray} (huv : u = v) (ho : nth all.toList i = some o) (hg : o.guard = none) (hop : o.op = .binOp .neq t x y t) (hx : ev s.fr x = some (.raw (.string u))) (hy : ev s.fr y = some (.raw (.string v)))
    (hp : putO E.n s.fr o.dst (.val (.bool (.lit false))) = some f) (hk : X E (.ops all rest :: k) ⟨f, s.rg⟩) : X E (.ops all (i :: rest) :: k) s := by
  refine X.value ho hg _ hp (fun N a w hN hfr hS => ?_) hk
  refine ⟨_, rfl, ?_⟩
  have h1 := ev_sound hfr hx
  have h2 := ev_sound hfr hy
  simp only [SV.den, one?, if_true, Option.some.injEq] at h1 h2
  subst huv
  have hb : ∀ w', (binOp .neq t (.string u) (.string u)).run E.P w' = .ok (.bool false) w' := fun w' => by
    simp [binOp, Op.stringOp]
  simp [execOp, hop, ← h1, ← h2, Result.andThen, eqGuard_none, hb, SB.den]
end

end Go.Proofs.Ytkjhpaeminegoaa
