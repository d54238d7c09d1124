/- Lists of acts, as arguments. -/
import Derived.Test.YtcfghkiokdbhjaaWk8
import Derived.Test.YtcfghkiokdbhjaaLaw

namespace Go.Proofs.Ytcfghkiokdbhjaa
open Go.Eng

theorem kindsAct : kindsOf Try.prog 8 51 = some [.int .i64, .int .u8, .int .u64, .int .u64, .int .u8, .int .u8, .int .u8, .int .u64, .int .i64, .int .i64, .int .i64, .int .u8, .int .u64, .int .u64, .int .i64, .int .u64, .int .i64, .slice 2, .int .u8, .int .u64, .int .i64, .slice 2, .slice 133, .slice 29, .int .u64, .slice 190, .int .u64, .int .u8, .int .u32] := by kernel_rfl
theorem kindsDone : kindsOf Try.prog 8 133 = some [.int .u8, .int .u64, .int .i64, .int .u64, .int .i64, .slice 2] := by kernel_rfl
theorem kindsCell : kindsOf Try.prog 8 29 = some [.int .u64, .int .u8, .int .i64, .int .i64] := by kernel_rfl
theorem cellsAct : Try.prog.cellsOf 51 = 29 := by kernel_rfl
theorem cellsDone : Try.prog.cellsOf 133 = 6 := by kernel_rfl
theorem cellsCell : Try.prog.cellsOf 29 = 4 := by kernel_rfl

theorem u8_nat {n : Int} (h : (Lit.int .u8 n).wf = true) : ∃ s : Nat, n = s ∧ s < 256 := by
  have h1 : IntKind.u8.min = 0 := rfl
  have h2 : IntKind.u8.max = 255 := rfl
  simp [Lit.wf, h1, h2] at h
  exact ⟨n.toNat, by omega, by omega⟩

theorem rd_cells {W : World} {b y e : Nat} {ks : List CK} (h : RdAt Try.prog W 0 b y e) (hk : kindsOf Try.prog 8 e = some ks) : ∃ cs, CellsOk Try.prog W 0 ks cs ∧ ∀ (j : Nat) (v : Value), cs[j]? = some v → W.cell? ⟨b, y + j, none⟩ = some v := by
  obtain ⟨_, cs, _, h2, h3⟩ := h
  exact ⟨cs, kindsOf_sound 8 e ks cs hk h3, h2⟩

theorem acts_of {W : World} {v : Value} (h : CellOk Try.prog W 0 (.slice 51) v) : ∃ po n cp, v = .slice po n cp ∧ ActsAt po n W := by
  obtain ⟨po, n, cp, rfl, _, _, hr⟩ := h
  refine ⟨po, n, cp, rfl, fun i hi => ?_⟩
  obtain ⟨b, x, hpo, hr⟩ := hr (by rw [cellsAct]; omega) (by omega)
  have hr := hr i hi
  rw [cellsAct] at hr
  obtain ⟨cs, hc, hcell⟩ := rd_cells hr kindsAct
  obtain ⟨v0, r0, rfl, h0, hc⟩ := CellsOk.cons hc
  obtain ⟨v1, r1, rfl, h1, hc⟩ := CellsOk.cons hc
  obtain ⟨v2, r2, rfl, h2, hc⟩ := CellsOk.cons hc
  obtain ⟨v3, r3, rfl, h3, hc⟩ := CellsOk.cons hc
  obtain ⟨v4, r4, rfl, h4, hc⟩ := CellsOk.cons hc
  obtain ⟨v5, r5, rfl, h5, hc⟩ := CellsOk.cons hc
  obtain ⟨v6, r6, rfl, h6, hc⟩ := CellsOk.cons hc
  obtain ⟨v7, r7, rfl, h7, hc⟩ := CellsOk.cons hc
  obtain ⟨v8, r8, rfl, h8, hc⟩ := CellsOk.cons hc
  obtain ⟨v9, r9, rfl, h9, hc⟩ := CellsOk.cons hc
  obtain ⟨v10, r10, rfl, h10, hc⟩ := CellsOk.cons hc
  obtain ⟨v11, r11, rfl, h11, hc⟩ := CellsOk.cons hc
  obtain ⟨v12, r12, rfl, h12, hc⟩ := CellsOk.cons hc
  obtain ⟨v13, r13, rfl, h13, hc⟩ := CellsOk.cons hc
  obtain ⟨v14, r14, rfl, h14, hc⟩ := CellsOk.cons hc
  obtain ⟨v15, r15, rfl, h15, hc⟩ := CellsOk.cons hc
  obtain ⟨v16, r16, rfl, h16, hc⟩ := CellsOk.cons hc
  obtain ⟨v17, r17, rfl, h17, hc⟩ := CellsOk.cons hc
  obtain ⟨v18, r18, rfl, h18, hc⟩ := CellsOk.cons hc
  obtain ⟨v19, r19, rfl, h19, hc⟩ := CellsOk.cons hc
  obtain ⟨v20, r20, rfl, h20, hc⟩ := CellsOk.cons hc
  obtain ⟨v21, r21, rfl, h21, hc⟩ := CellsOk.cons hc
  obtain ⟨v22, r22, rfl, h22, hc⟩ := CellsOk.cons hc
  obtain ⟨v23, r23, rfl, h23, hc⟩ := CellsOk.cons hc
  obtain ⟨v24, r24, rfl, h24, hc⟩ := CellsOk.cons hc
  obtain ⟨v25, r25, rfl, h25, hc⟩ := CellsOk.cons hc
  obtain ⟨v26, r26, rfl, h26, hc⟩ := CellsOk.cons hc
  obtain ⟨v27, r27, rfl, h27, hc⟩ := CellsOk.cons hc
  obtain ⟨v28, r28, rfl, h28, hc⟩ := CellsOk.cons hc
  have oend := CellsOk.nil hc; subst oend
  obtain ⟨a0, rfl, -⟩ := h0
  obtain ⟨a1, rfl, hw⟩ := h1
  obtain ⟨a2, rfl, -⟩ := h2
  obtain ⟨a3, rfl, -⟩ := h3
  obtain ⟨a4, rfl, -⟩ := h4
  obtain ⟨a5, rfl, -⟩ := h5
  obtain ⟨a6, rfl, -⟩ := h6
  obtain ⟨a7, rfl, -⟩ := h7
  obtain ⟨a8, rfl, -⟩ := h8
  obtain ⟨a9, rfl, -⟩ := h9
  obtain ⟨a10, rfl, -⟩ := h10
  obtain ⟨a11, rfl, -⟩ := h11
  obtain ⟨a12, rfl, -⟩ := h12
  obtain ⟨a13, rfl, -⟩ := h13
  obtain ⟨a14, rfl, -⟩ := h14
  obtain ⟨a15, rfl, -⟩ := h15
  obtain ⟨a16, rfl, -⟩ := h16
  obtain ⟨p17, n17, c17, rfl, -, -, g17⟩ := h17
  obtain ⟨a18, rfl, -⟩ := h18
  obtain ⟨a19, rfl, -⟩ := h19
  obtain ⟨a20, rfl, -⟩ := h20
  obtain ⟨p21, n21, c21, rfl, -, -, g21⟩ := h21
  obtain ⟨p22, n22, c22, rfl, -, -, g22⟩ := h22
  obtain ⟨p23, n23, c23, rfl, -, -, g23⟩ := h23
  obtain ⟨a24, rfl, -⟩ := h24
  obtain ⟨p25, n25, c25, rfl, -, -, g25⟩ := h25
  obtain ⟨a26, rfl, -⟩ := h26
  obtain ⟨a27, rfl, -⟩ := h27
  obtain ⟨a28, rfl, -⟩ := h28
  obtain ⟨s, rfl, hs⟩ := u8_nat hw
  refine ⟨b, x, x + i * 29, a0, s, a2, { i0 := a3, i1 := a4, i2 := a5, i3 := a6, i4 := a7, i5 := a8, i6 := a9, i7 := a10, i8 := a11, i9 := a12, i10 := a13, er := a14, i12 := a15, i13 := a16, pr := p17, nr := n17, cr := c17, kd := a18, inc := a19, st := a20, pv := p21, nv := n21, cv := c21, pd := p22, nd := n22, cd := c22, po := p23, no := n23, co := c23, nx := a24, pm := p25, nm := n25, cm := c25, i23 := a26, i24 := a27, i25 := a28 }, hpo, rfl, hs, hcell, ?_, ?_⟩
  · intro hn
    obtain ⟨ob, ox, hpo, hr⟩ := g23 (by rw [cellsCell]; omega) hn
    have hr := hr 0 hn
    obtain ⟨cs, hc, hcell⟩ := rd_cells hr kindsCell
    obtain ⟨v0, r0, rfl, h0, hc⟩ := CellsOk.cons hc
    obtain ⟨v1, r1, rfl, h1, hc⟩ := CellsOk.cons hc
    obtain ⟨v2, r2, rfl, h2, hc⟩ := CellsOk.cons hc
    obtain ⟨v3, r3, rfl, h3, hc⟩ := CellsOk.cons hc
    have oend := CellsOk.nil hc; subst oend
    obtain ⟨c0, rfl, -⟩ := h0
    obtain ⟨c1, rfl, -⟩ := h1
    obtain ⟨c2, rfl, -⟩ := h2
    obtain ⟨c3, rfl, -⟩ := h3
    rw [Nat.zero_mul, Nat.add_zero] at hcell
    exact ⟨ob, ox, c0, c1, c2, c3, hpo, hcell⟩
  · intro q hq
    have hq : q < n22 := hq
    obtain ⟨db, dx, hpd, hr⟩ := g22 (by rw [cellsDone]; omega) (by omega)
    have hr := hr q hq
    rw [cellsDone] at hr
    obtain ⟨cs, hc, hcell⟩ := rd_cells hr kindsDone
    obtain ⟨v0, r0, rfl, h0, hc⟩ := CellsOk.cons hc
    obtain ⟨v1, r1, rfl, h1, hc⟩ := CellsOk.cons hc
    obtain ⟨v2, r2, rfl, h2, hc⟩ := CellsOk.cons hc
    obtain ⟨v3, r3, rfl, h3, hc⟩ := CellsOk.cons hc
    obtain ⟨v4, r4, rfl, h4, hc⟩ := CellsOk.cons hc
    obtain ⟨v5, r5, rfl, h5, hc⟩ := CellsOk.cons hc
    obtain ⟨p, n, c, rfl, -⟩ := h5
    exact ⟨db, dx, dx + q * 6, dx + q * 6 + 5, p, n, c, hpd, rfl, rfl, hcell 5 _ rfl⟩

end Go.Proofs.Ytcfghkiokdbhjaa
