import Derived.Test.YtkjhpaeminegoaaRows
import Derived.Test.YtkjhpaeminegoaaSectorPlaysCalls
import Derived.Test.YtkjhpaeminegoaaSe18
import Derived.ProofKit

namespace Go.Proofs.Ytkjhpaeminegoaa
open Go.Eng Go.ChangeShapes Go.WideShapes Go.ChangeAt Go.RowKit
theorem sectorPlays_own : ownKnob Try.prog.godebug = none := by kernel_rfl
theorem sectorPlays_laidOut : laidOutB Try.prog = true := by kernel_rfl
theorem sectorPlays_types : ∀ t ∈ Try.f5.params.toList, Try.prog.readableRec t = true ∧ t < Try.prog.types.size := by
  have k : (Try.f5.params.toList.all fun t => Try.prog.readableRec t && decide (t < Try.prog.types.size)) = true := by kernel_rfl
  intro t ht
  have := List.all_eq_true.1 k t ht
  simpa using this
set_option maxRecDepth 100000 in
theorem sectorPlays_lifted (os : Os) (started : os.Started) (H : Type) (enc : TypeId × Value → H) :
    ReturnsInHanded {} Try.checked os 5 .any (Rows.sectorPlaysSpec.pre6 enc Try.prog Try.f5 Rows.sectorPlaysRow.domain false) (Rows.sectorPlaysSpec.post enc Try.prog Try.f5 false true false false) := by
  refine returnsInHanded_of_change (C := Try.checked) sectorPlays_own started (by kernel_rfl) Try.func5
    (ChangeSpec.witness6 (enc := enc) (C := Try.checked) false ⟨#[], #[Value.int IntKind.i64 0, Value.int IntKind.i64 0, Value.slice none 0 0], []⟩ 12 (by kernel_rfl) (by kernel_rfl) (by kernel_rfl) (by kernel_rfl)) ?_
  intro W base args ds gs before hval0 hW hcnd _
  have hval : ∀ (j : Nat) t v, Try.f5.params[j]? = some t → args[j]? = some v → Value.okWide Try.prog W .any base t v := hval0
  have hW' := hW
  obtain ⟨p, q, hA0, hV, rfl, hfz, hnd⟩ := hW
  have hA : DataW.TrodAll enc Try.prog W 0 (fun _ => true) true Try.f5.params.toList args.toList ds p := hA0
  obtain ⟨rfl, rfl⟩ := trodVars_none hV
  have hlen := trodAll_len hA
  have hlen1 : args.size = 3 := by rw [← Array.length_toList, hlen.1]; rfl
  have hlen2 : ds.length = 3 := by rw [hlen.2]; rfl
  have hc := sectorPlays_calls W args hlen1 (fun j t v ht hv => ⟨⟨_, _, hval j t v ht hv⟩, rd_all hA j t v (by rw [← Array.getElem?_toList] at ht; exact ht) (by rw [← Array.getElem?_toList] at hv; exact hv)⟩)
  refine hc.mono fun e W' ⟨he, hch⟩ => ?_
  subst he
  match ds, hlen2 with
  | [d0, d1, d2], _ => exact ⟨_, rfl, law_post sectorPlays_laidOut hW' rfl rfl rfl rfl rfl Try.underlying4 sectorPlays_types hch.below⟩
theorem sectorPlays_holds : Rows.SectorPlaysSaid :=
  OpenClaim.holds_of_wide 5 Try.f5 rfl rfl rfl rfl rfl rfl rfl ⟨rfl, rfl, rfl, rfl, rfl⟩ rfl rfl rfl rfl rfl (by kernel_rfl) Try.func5 (by kernel_rfl)
    (of_decide_eq_true (by kernel_rfl)) (by unfold Func.isWrapper; first | (rw [if_pos (by decide +kernel)]; kernel_rfl) | (rw [if_neg (by decide +kernel)]; exact ⟨rfl, rfl⟩))
    (fun os started H enc _ => sectorPlays_lifted os started H enc)
end Go.Proofs.Ytkjhpaeminegoaa
