/- WorkerNil, proved. -/
import Derived.Test.YtcfghkiokdbhjaaRows
import Derived.Test.YtcfghkiokdbhjaaWkNil
import Derived.Test.YtcfghkiokdbhjaaLaw
import Derived.Test.YtcfghkiokdbhjaaRd
import Derived.ProofKit

namespace Go.Proofs.Ytcfghkiokdbhjaa
open Go.Eng Go.ChangeShapes Go.WideShapes Go.ChangeAt Go.RowKit

theorem Try.own : ownKnob Try.prog.godebug = none := by kernel_rfl
theorem Try.laidOut : laidOutB Try.prog = true := by kernel_rfl

theorem kinds49 : kindsOf Try.prog 8 49 = some [.int .u64, .int .u8, .int .u8, .int .u8, .int .u64, .int .i64, .int .i64, .int .i64, .int .u8, .int .u64, .int .u64, .int .i64, .int .u64, .int .i64, .slice 2, .int .u8, .int .u64, .int .i64, .slice 2, .slice 133, .slice 29, .int .u64, .slice 190, .int .u64, .int .u8, .int .u32] := by kernel_rfl

theorem CellsOk.cons {P : Program} {w : World} {base : Nat} {k : CK} {ks : List CK} {cs : List Value} (h : CellsOk P w base (k :: ks) cs) : ∃ v vs, cs = v :: vs ∧ CellOk P w base k v ∧ CellsOk P w base ks vs := by
  cases cs with
  | nil => exact h.elim
  | cons v vs => exact ⟨v, vs, rfl, h.1, h.2⟩
theorem CellsOk.nil {P : Program} {w : World} {base : Nat} {cs : List Value} (h : CellsOk P w base [] cs) : cs = [] := by
  cases cs with
  | nil => rfl
  | cons v vs => exact h.elim

theorem doneKinds : kindsOf Try.prog 8 133 = some [.int .u8, .int .u64, .int .i64, .int .u64, .int .i64, .slice 2] := by kernel_rfl
theorem doneCells : Try.prog.cellsOf 133 = 6 := by kernel_rfl

theorem nil_calls (W : World) (s c : Int) (cs : List Value) (hr : Rd Try.prog W 0 49 cs) :
    Calls Try.prog 4 #[.int .u8 s, .int .u64 c, .agg cs.toArray] W fun e w' => e = .returned (.bool true) ∧ Chg (fun _ _ => False) W w' := by
  have hk := kindsOf_sound 8 _ _ cs kinds49 hr
  obtain ⟨v0, r0, rfl, h0, hk⟩ := CellsOk.cons hk
  obtain ⟨v1, r1, rfl, h1, hk⟩ := CellsOk.cons hk
  obtain ⟨v2, r2, rfl, h2, hk⟩ := CellsOk.cons hk
  obtain ⟨v3, r3, rfl, h3, hk⟩ := CellsOk.cons hk
  obtain ⟨v4, r4, rfl, h4, hk⟩ := CellsOk.cons hk
  obtain ⟨v5, r5, rfl, h5, hk⟩ := CellsOk.cons hk
  obtain ⟨v6, r6, rfl, h6, hk⟩ := CellsOk.cons hk
  obtain ⟨v7, r7, rfl, h7, hk⟩ := CellsOk.cons hk
  obtain ⟨v8, r8, rfl, h8, hk⟩ := CellsOk.cons hk
  obtain ⟨v9, r9, rfl, h9, hk⟩ := CellsOk.cons hk
  obtain ⟨v10, r10, rfl, h10, hk⟩ := CellsOk.cons hk
  obtain ⟨v11, r11, rfl, h11, hk⟩ := CellsOk.cons hk
  obtain ⟨v12, r12, rfl, h12, hk⟩ := CellsOk.cons hk
  obtain ⟨v13, r13, rfl, h13, hk⟩ := CellsOk.cons hk
  obtain ⟨v14, r14, rfl, h14, hk⟩ := CellsOk.cons hk
  obtain ⟨v15, r15, rfl, h15, hk⟩ := CellsOk.cons hk
  obtain ⟨v16, r16, rfl, h16, hk⟩ := CellsOk.cons hk
  obtain ⟨v17, r17, rfl, h17, hk⟩ := CellsOk.cons hk
  obtain ⟨v18, r18, rfl, h18, hk⟩ := CellsOk.cons hk
  obtain ⟨v19, r19, rfl, h19, hk⟩ := CellsOk.cons hk
  obtain ⟨v20, r20, rfl, h20, hk⟩ := CellsOk.cons hk
  obtain ⟨v21, r21, rfl, h21, hk⟩ := CellsOk.cons hk
  obtain ⟨v22, r22, rfl, h22, hk⟩ := CellsOk.cons hk
  obtain ⟨v23, r23, rfl, h23, hk⟩ := CellsOk.cons hk
  obtain ⟨v24, r24, rfl, h24, hk⟩ := CellsOk.cons hk
  obtain ⟨v25, r25, rfl, h25, hk⟩ := CellsOk.cons hk
  have hend := CellsOk.nil hk
  subst hend
  obtain ⟨i0, rfl, -⟩ := h0
  obtain ⟨i1, rfl, -⟩ := h1
  obtain ⟨i2, rfl, -⟩ := h2
  obtain ⟨i3, rfl, -⟩ := h3
  obtain ⟨i4, rfl, -⟩ := h4
  obtain ⟨i5, rfl, -⟩ := h5
  obtain ⟨i6, rfl, -⟩ := h6
  obtain ⟨i7, rfl, -⟩ := h7
  obtain ⟨i8, rfl, -⟩ := h8
  obtain ⟨i9, rfl, -⟩ := h9
  obtain ⟨i10, rfl, -⟩ := h10
  obtain ⟨i11, rfl, -⟩ := h11
  obtain ⟨i12, rfl, -⟩ := h12
  obtain ⟨i13, rfl, -⟩ := h13
  obtain ⟨p14, n14, c14, rfl, -, -, e14⟩ := h14
  obtain ⟨i15, rfl, -⟩ := h15
  obtain ⟨i16, rfl, -⟩ := h16
  obtain ⟨i17, rfl, -⟩ := h17
  obtain ⟨p18, n18, c18, rfl, -, -, e18⟩ := h18
  obtain ⟨p19, n19, c19, rfl, -, -, e19⟩ := h19
  obtain ⟨p20, n20, c20, rfl, -, -, e20⟩ := h20
  obtain ⟨i21, rfl, -⟩ := h21
  obtain ⟨p22, n22, c22, rfl, -, -, e22⟩ := h22
  obtain ⟨i23, rfl, -⟩ := h23
  obtain ⟨i24, rfl, -⟩ := h24
  obtain ⟨i25, rfl, -⟩ := h25
  refine workerNil_ok _ _ _ _ _ _ _ _ _ _ _ _ _ _ _ _ _ _ _ _ _ _ _ _ _ _ _ _ _ _ _ _ _ _ _ _ _ _ _ (fun i hi => ?_)
  obtain ⟨b, x, hp, hel⟩ := e19 (by rw [doneCells]; omega) (by omega)
  obtain ⟨-, ds, -, hcell, hrd⟩ := hel i hi
  rw [doneCells] at hcell
  have hk := kindsOf_sound 8 _ _ ds doneKinds hrd
  obtain ⟨w0, q0, rfl, g0, hk⟩ := CellsOk.cons hk
  obtain ⟨w1, q1, rfl, g1, hk⟩ := CellsOk.cons hk
  obtain ⟨w2, q2, rfl, g2, hk⟩ := CellsOk.cons hk
  obtain ⟨w3, q3, rfl, g3, hk⟩ := CellsOk.cons hk
  obtain ⟨w4, q4, rfl, g4, hk⟩ := CellsOk.cons hk
  obtain ⟨w5, q5, rfl, g5, hk⟩ := CellsOk.cons hk
  obtain ⟨p', n', c', rfl, -⟩ := g5
  exact ⟨b, x, x + i * 6, x + i * 6 + 5, p', n', c', hp, rfl, rfl, hcell 5 _ rfl⟩

theorem nilTypes : ∀ t ∈ Try.f4.params.toList, Try.prog.readableRec t = true ∧ t < Try.prog.types.size := by
  have k : (Try.f4.params.toList.all fun t => Try.prog.readableRec t && decide (t < Try.prog.types.size)) = true := by kernel_rfl
  intro t ht
  have := List.all_eq_true.1 k t ht
  simpa using this

set_option maxRecDepth 100000 in
theorem nil_lifted (os : Os) (started : os.Started) (H : Type) (enc : TypeId × Value → H) :
    ReturnsInHanded {} Try.checked os 4 .any (Rows.workerNilSpec.pre6 enc Try.prog Try.f4 Rows.workerNilRow.domain false) (Rows.workerNilSpec.post enc Try.prog Try.f4 false true false false) := by
  refine returnsInHanded_of_change (C := Try.checked) Try.own started (by kernel_rfl) Try.func4
    (ChangeSpec.witness6 (enc := enc) (C := Try.checked) false ⟨#[], #[.int .u8 0, .int .u64 0, .agg #[.int .u64 0, .int .u8 0, .int .u8 0, .int .u8 0, .int .u64 0, .int .i64 0, .int .i64 0, .int .i64 0, .int .u8 0, .int .u64 0, .int .u64 0, .int .i64 0, .int .u64 0, .int .i64 0, .slice none 0 0,
      .int .u8 0, .int .u64 0, .int .i64 0, .slice none 0 0, .slice none 0 0, .slice none 0 0, .int .u64 0, .slice none 0 0, .int .u64 0, .int .u8 0, .int .u32 0]], []⟩ 8 (by kernel_rfl) (by kernel_rfl) (by kernel_rfl) (by kernel_rfl)) ?_
  intro W base args ds gs before hval0 hW hcnd _
  have hval : ∀ (j : Nat) t v, Try.f4.params[j]? = some t → args[j]? = some v → Value.okWide Try.prog W .any base t v := hval0
  have hW' := hW
  obtain ⟨p, q, hA0, hV, rfl, hfz, hnd⟩ := hW
  have hA : DataW.TrodAll enc Try.prog W 0 (fun _ => true) true Try.f4.params.toList args.toList ds p := hA0
  rw [Try.params4] at hA hval
  obtain ⟨a0, a1, a2, d0, d1, d2, p0, p1, p2, rfl, rfl, rfl, h0, h1, h2⟩ := trodAll_three hA
  obtain ⟨rfl, rfl⟩ := trodVars_none hV
  obtain ⟨s, rfl, rfl, rfl, wa⟩ := open_int Try.underlying5 (hval 0 5 a0 rfl rfl) h0
  obtain ⟨c, rfl, rfl, rfl, wb⟩ := open_int Try.underlying27 (hval 1 27 a1 rfl rfl) h1
  obtain ⟨cs, rfl, _⟩ := okWide_struct Try.underlying49 (hval 2 49 a2 rfl rfl)
  have hrd : Rd Try.prog W 0 49 cs.toList := let ⟨fuel, h⟩ := h2; ⟨H, enc, _, _, fuel, _, h⟩
  have hc := nil_calls W s c cs.toList hrd
  rw [Array.toArray_toList] at hc
  refine hc.mono fun e W' ⟨he, hch⟩ => ?_
  subst he
  exact ⟨_, rfl, law_post Try.laidOut hW' rfl rfl rfl rfl rfl Try.underlying4 nilTypes hch.below⟩

theorem nil_holds : Rows.WorkerNilSaid :=
  OpenClaim.holds_of_wide 4 Try.f4 rfl rfl rfl rfl rfl rfl rfl ⟨rfl, rfl, rfl, rfl, rfl⟩ rfl rfl rfl rfl rfl (by kernel_rfl) Try.func4 (by kernel_rfl)
    (of_decide_eq_true (by kernel_rfl)) (by unfold Func.isWrapper; first | (rw [if_pos (by decide +kernel)]; kernel_rfl) | (rw [if_neg (by decide +kernel)]; exact ⟨rfl, rfl⟩))
    (fun os started H enc _ => nil_lifted os started H enc)

end Go.Proofs.Ytcfghkiokdbhjaa
