/- Lists of the history's acts, as arguments. -/
import Derived.Test.YtcfghkiokdbhjaaHi3
import Derived.Test.YtcfghkiokdbhjaaLaw

namespace Go.Proofs.Ytcfghkiokdbhjaa
open Go.Eng

/-- an act -/
structure HAct where
  (kd i at' nd k y c s a p r u inn l re ri rs : Int) (vp : Option Addr) (vn vc : Nat)

def HAct.sv (e : HAct) : List SV := [.int .i64 (.v e.kd), .int .i64 (.v e.i), .int .i64 (.v e.at'), .int .u8 (.v e.nd), .int .u8 (.v e.k), .int .u8 (.v e.y), .int .u8 (.v e.c), .int .u64 (.v e.s), .int .i64 (.v e.a), .int .i64 (.v e.p), .int .i64 (.v e.r), .int .u8 (.v e.u), .int .u64 (.v e.inn), .int .u64 (.v e.l),
  .int .i64 (.v e.re), .int .u64 (.v e.ri), .int .i64 (.v e.rs), .slv e.vp e.vn e.vc]
def HAct.vals (e : HAct) : List Value := [.int .i64 e.kd, .int .i64 e.i, .int .i64 e.at', .int .u8 e.nd, .int .u8 e.k, .int .u8 e.y, .int .u8 e.c, .int .u64 e.s, .int .i64 e.a, .int .i64 e.p, .int .i64 e.r, .int .u8 e.u, .int .u64 e.inn, .int .u64 e.l,
  .int .i64 e.re, .int .u64 e.ri, .int .i64 e.rs, .slice e.vp e.vn e.vc]
theorem HAct.den (e : HAct) (N : Nums) : SV.denL N e.sv = some e.vals := rfl

/-- n acts lie there -/
def HActsAt (po : Option Addr) (n : Nat) (W : World) : Prop := ∀ i, i < n → ∃ (b x z : Nat) (e : HAct), po = some ⟨b, x, none⟩ ∧ z = x + i * 18 ∧ 0 ≤ e.c ∧
  (∀ (j : Nat) (v : Value), e.vals[j]? = some v → W.cell? ⟨b, z + j, none⟩ = some v) ∧ ∃ g, IntsIn e.vp e.vn g W

theorem IntsIn.at {po : Option Addr} {n : Nat} {g : Nat → Int} {W w : World} (h : IntsIn po n g W) (hw : ∀ k o v, W.cell? ⟨k, o, none⟩ = some v → w.cell? ⟨k, o, none⟩ = some v) : IntsIn po n g w := fun hn => by
  obtain ⟨b, y, h1, h2⟩ := h hn
  exact ⟨b, y, h1, fun j hj => hw _ _ _ (h2 j hj)⟩

theorem HActsAt.at {po : Option Addr} {n : Nat} {W w : World} (h : HActsAt po n W) (hw : ∀ k o v, W.cell? ⟨k, o, none⟩ = some v → w.cell? ⟨k, o, none⟩ = some v) : HActsAt po n w := fun i hi => by
  obtain ⟨b, x, z, e, h1, h2, h3, h4, g, h5⟩ := h i hi
  exact ⟨b, x, z, e, h1, h2, h3, fun j v hj => hw _ _ _ (h4 j v hj), g, h5.at hw⟩

theorem kindsHAct : kindsOf Try.prog 8 73 = some [.int .i64, .int .i64, .int .i64, .int .u8, .int .u8, .int .u8, .int .u8, .int .u64, .int .i64, .int .i64, .int .i64, .int .u8, .int .u64, .int .u64, .int .i64, .int .u64, .int .i64, .slice 2] := by kernel_rfl
theorem cellsHAct : Try.prog.cellsOf 73 = 18 := by kernel_rfl
theorem kindsInt64 : kindsOf Try.prog 8 2 = some [.int .i64] := by kernel_rfl
theorem cellsInt64 : Try.prog.cellsOf 2 = 1 := by kernel_rfl

theorem rd_cells {W : World} {b y e : Nat} {ks : List CK} (h : RdAt Try.prog W 0 b y e) (hk : kindsOf Try.prog 8 e = some ks) : ∃ cs, CellsOk Try.prog W 0 ks cs ∧ ∀ (j : Nat) (v : Value), cs[j]? = some v → W.cell? ⟨b, y + j, none⟩ = some v := by
  obtain ⟨_, cs, _, h2, h3⟩ := h
  exact ⟨cs, kindsOf_sound 8 e ks cs hk h3, h2⟩

theorem u8_pos {n : Int} (h : (Lit.int .u8 n).wf = true) : 0 ≤ n := by
  have h1 : IntKind.u8.min = 0 := rfl
  have h2 : IntKind.u8.max = 255 := rfl
  simp [Lit.wf, h1, h2] at h
  omega

theorem ints_of {W : World} {v : Value} (h : CellOk Try.prog W 0 (.slice 2) v) : ∃ po n cp g, v = .slice po n cp ∧ IntsIn po n g W := by
  obtain ⟨po, n, cp, rfl, _, _, hr⟩ := h
  by_cases h0 : n = 0
  · exact ⟨po, n, cp, fun _ => 0, rfl, fun h => by omega⟩
  · obtain ⟨b, x, hpo, hr⟩ := hr (by rw [cellsInt64]; omega) (by omega)
    have hh : ∀ i, i < n → ∃ a : Int, W.cell? ⟨b, x + i, none⟩ = some (.int .i64 a) := fun i hi => by
      have hr := hr i hi
      rw [cellsInt64, Nat.mul_one] at hr
      obtain ⟨cs, hc, hcell⟩ := rd_cells hr kindsInt64
      obtain ⟨v0, r0, rfl, h0, hc⟩ := CellsOk.cons hc
      have oend := CellsOk.nil hc; subst oend
      obtain ⟨a0, rfl, -⟩ := h0
      exact ⟨a0, hcell 0 _ rfl⟩
    refine ⟨po, n, cp, fun i => match W.cell? ⟨b, x + i, none⟩ with | some (.int .i64 a) => a | _ => 0, rfl, fun _ => ⟨b, x, hpo, fun j hj => ?_⟩⟩
    obtain ⟨a, ha⟩ := hh j hj
    simp only [ha]

theorem hacts_of {W : World} {v : Value} (h : CellOk Try.prog W 0 (.slice 73) v) : ∃ po n cp, v = .slice po n cp ∧ HActsAt po n W := by
  obtain ⟨po, n, cp, rfl, _, _, hr⟩ := h
  refine ⟨po, n, cp, rfl, fun i hi => ?_⟩
  obtain ⟨b, x, hpo, hr⟩ := hr (by rw [cellsHAct]; omega) (by omega)
  have hr := hr i hi
  rw [cellsHAct] at hr
  obtain ⟨cs, hc, hcell⟩ := rd_cells hr kindsHAct
  obtain ⟨v0, r0, rfl, h0, hc⟩ := CellsOk.cons hc
  obtain ⟨v1, r1, rfl, h1, hc⟩ := CellsOk.cons hc
  obtain ⟨v2, r2, rfl, h2, hc⟩ := CellsOk.cons hc
  obtain ⟨v3, r3, rfl, h3, hc⟩ := CellsOk.cons hc
  obtain ⟨v4, r4, rfl, h4, hc⟩ := CellsOk.cons hc
  obtain ⟨v5, r5, rfl, h5, hc⟩ := CellsOk.cons hc
  obtain ⟨v6, r6, rfl, h6, hc⟩ := CellsOk.cons hc
  obtain ⟨v7, r7, rfl, h7, hc⟩ := CellsOk.cons hc
  obtain ⟨v8, r8, rfl, h8, hc⟩ := CellsOk.cons hc
  obtain ⟨v9, r9, rfl, h9, hc⟩ := CellsOk.cons hc
  obtain ⟨v10, r10, rfl, h10, hc⟩ := CellsOk.cons hc
  obtain ⟨v11, r11, rfl, h11, hc⟩ := CellsOk.cons hc
  obtain ⟨v12, r12, rfl, h12, hc⟩ := CellsOk.cons hc
  obtain ⟨v13, r13, rfl, h13, hc⟩ := CellsOk.cons hc
  obtain ⟨v14, r14, rfl, h14, hc⟩ := CellsOk.cons hc
  obtain ⟨v15, r15, rfl, h15, hc⟩ := CellsOk.cons hc
  obtain ⟨v16, r16, rfl, h16, hc⟩ := CellsOk.cons hc
  obtain ⟨v17, r17, rfl, h17, hc⟩ := CellsOk.cons hc
  have oend := CellsOk.nil hc; subst oend
  obtain ⟨a0, rfl, -⟩ := h0
  obtain ⟨a1, rfl, -⟩ := h1
  obtain ⟨a2, rfl, -⟩ := h2
  obtain ⟨a3, rfl, -⟩ := h3
  obtain ⟨a4, rfl, -⟩ := h4
  obtain ⟨a5, rfl, -⟩ := h5
  obtain ⟨a6, rfl, hw⟩ := h6
  obtain ⟨a7, rfl, -⟩ := h7
  obtain ⟨a8, rfl, -⟩ := h8
  obtain ⟨a9, rfl, -⟩ := h9
  obtain ⟨a10, rfl, -⟩ := h10
  obtain ⟨a11, rfl, -⟩ := h11
  obtain ⟨a12, rfl, -⟩ := h12
  obtain ⟨a13, rfl, -⟩ := h13
  obtain ⟨a14, rfl, -⟩ := h14
  obtain ⟨a15, rfl, -⟩ := h15
  obtain ⟨a16, rfl, -⟩ := h16
  obtain ⟨p17, n17, c17, g17, rfl, hg17⟩ := ints_of h17
  exact ⟨b, x, x + i * 18, ⟨a0, a1, a2, a3, a4, a5, a6, a7, a8, a9, a10, a11, a12, a13, a14, a15, a16, p17, n17, c17⟩, hpo, rfl, u8_pos hw, hcell, g17, hg17⟩

end Go.Proofs.Ytcfghkiokdbhjaa
