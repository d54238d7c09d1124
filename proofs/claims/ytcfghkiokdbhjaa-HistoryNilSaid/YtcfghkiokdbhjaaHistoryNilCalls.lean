/- HistoryNil: whatever the arguments. -/
import Derived.Test.YtcfghkiokdbhjaaHNil
import Derived.Test.YtcfghkiokdbhjaaLaw

namespace Go.Proofs.Ytcfghkiokdbhjaa
open Go.Eng

theorem kinds35 : kindsOf Try.prog 8 35 = some [.int .u8, .int .u8, .int .u8, .int .u64, .int .i64, .int .i64, .int .i64, .int .u8, .int .u64, .int .u64] := by kernel_rfl

theorem historyNil_calls (W : World) (args : Array Value) (hn : args.size = 3) (ha : ∀ (j : Nat) t v, Try.f8.params[j]? = some t → args[j]? = some v → ArgOk Try.prog W t v) :
    Calls Try.prog 8 args W fun e w' => e = .returned (.bool true) ∧ Chg (fun _ _ => False) W w' := by
  obtain ⟨a, b, c, rfl⟩ : ∃ a b c, args = #[a, b, c] := ⟨args[0], args[1], args[2], by apply Array.ext (by simp [hn]); intro i h1 h2; match i, h1 with | 0, _ => rfl | 1, _ => rfl | 2, _ => rfl⟩
  obtain ⟨n, rfl, -⟩ := (ha 0 5 a rfl rfl).int Try.underlying5
  obtain ⟨cs, rfl, hc⟩ := (ha 1 35 b rfl rfl).struct Try.underlying35 kinds35
  obtain ⟨i, rfl, -⟩ := (ha 2 3 c rfl rfl).int Try.underlying3
  obtain ⟨ov0, or0, rfl, oh0, hc⟩ := CellsOk.cons hc
  obtain ⟨ov1, or1, rfl, oh1, hc⟩ := CellsOk.cons hc
  obtain ⟨ov2, or2, rfl, oh2, hc⟩ := CellsOk.cons hc
  obtain ⟨ov3, or3, rfl, oh3, hc⟩ := CellsOk.cons hc
  obtain ⟨ov4, or4, rfl, oh4, hc⟩ := CellsOk.cons hc
  obtain ⟨ov5, or5, rfl, oh5, hc⟩ := CellsOk.cons hc
  obtain ⟨ov6, or6, rfl, oh6, hc⟩ := CellsOk.cons hc
  obtain ⟨ov7, or7, rfl, oh7, hc⟩ := CellsOk.cons hc
  obtain ⟨ov8, or8, rfl, oh8, hc⟩ := CellsOk.cons hc
  obtain ⟨ov9, or9, rfl, oh9, hc⟩ := CellsOk.cons hc
  have oend := CellsOk.nil hc; subst oend
  obtain ⟨o0, rfl, -⟩ := oh0
  obtain ⟨o1, rfl, -⟩ := oh1
  obtain ⟨o2, rfl, -⟩ := oh2
  obtain ⟨o3, rfl, -⟩ := oh3
  obtain ⟨o4, rfl, -⟩ := oh4
  obtain ⟨o5, rfl, -⟩ := oh5
  obtain ⟨o6, rfl, -⟩ := oh6
  obtain ⟨o7, rfl, -⟩ := oh7
  obtain ⟨o8, rfl, -⟩ := oh8
  obtain ⟨o9, rfl, -⟩ := oh9
  exact historyNil_ok _ _ _ _ _ _ _ _ _ _ _ _ W

end Go.Proofs.Ytcfghkiokdbhjaa
