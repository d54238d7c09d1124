import Derived.Test.YthpbefahaghbjaaGreatRows
import Derived.Test.YthpbefahaghbjaaGreatWatchTurnedCalls
import Derived.Test.YthpbefahaghbjaaGreatLaw
import Derived.ProofKit
set_option maxHeartbeats 16000000
set_option maxRecDepth 100000
set_option cbv.maxSteps 100000000
namespace Go.Proofs.YthpbefahaghbjaaGreat
open Go.Eng Go.ChangeShapes Go.WideShapes Go.ChangeAt Go.RowKit
theorem watchTurned_own:ownKnob Tryz.prog.godebug=none:=by kernel_rfl
theorem watchTurned_laidOut:laidOutB Tryz.prog=true:=by kernel_rfl
theorem watchTurned_types:∀ t∈Tryz.f4.params.toList,Tryz.prog.readableRec t=true∧t<Tryz.prog.types.size:=by
 have k:(Tryz.f4.params.toList.all fun t=>Tryz.prog.readableRec t&&decide (t<Tryz.prog.types.size))=true:=by kernel_rfl
 intro t ht
 have:=List.all_eq_true.1 k t ht
 simpa using this
theorem watchTurned_lifted (os:Os) (started:os.Started) (H:Type) (enc:TypeId × Value→H) :
  ReturnsInHanded {} Tryz.checked os 4 .any (Rows.watchTurnedSpec.pre6 enc Tryz.prog Tryz.f4 Rows.watchTurnedRow.domain false) (Rows.watchTurnedSpec.post enc Tryz.prog Tryz.f4 false true false false):=by
 refine returnsInHanded_of_change (C:=Tryz.checked) watchTurned_own started (by kernel_rfl) Tryz.func4
  (ChangeSpec.witness6 (enc:=enc) (C:=Tryz.checked) false ⟨#[],#[Value.slice none 0 0,Value.int IntKind.u8 0,Value.int IntKind.u8 0],[]⟩ 12 (by kernel_rfl) (by kernel_rfl) (by kernel_rfl) (by kernel_rfl)) ?_
 intro W base args ds gs before hval0 hW hcnd _
 have hval:∀ (j:Nat) t v,Tryz.f4.params[j]?=some t→args[j]?=some v→Value.okWide Tryz.prog W .any base t v:=hval0
 have hW':=hW
 obtain ⟨p,q,hA0,hV,rfl,hfz,hnd⟩:=hW
 have hA:DataW.TrodAll enc Tryz.prog W 0 (fun _=>true) true Tryz.f4.params.toList args.toList ds p:=hA0
 obtain ⟨rfl,rfl⟩:=trodVars_none hV
 have hlen:=trodAll_len hA
 have hlen1:args.size=3:=by rw [←Array.length_toList,hlen.1];rfl
 have hlen2:ds.length=3:=by rw [hlen.2];rfl
 have hc:=watchTurned_calls W args hlen1 (fun j t v ht hv=>⟨⟨_,_,hval j t v ht hv⟩,rd_all hA j t v (by rw [←Array.getElem?_toList] at ht;exact ht) (by rw [←Array.getElem?_toList] at hv;exact hv)⟩)
 refine hc.mono fun e W' ⟨he,hch⟩=>?_
 subst he
 match ds,hlen2 with
 | [d0,d1,d2],_=>exact ⟨_,rfl,law_post watchTurned_laidOut hW' rfl rfl rfl rfl rfl Tryz.underlying4 watchTurned_types hch.below⟩
theorem watchTurned_holds:Rows.WatchTurnedSaid :=
 OpenClaim.holds_of_wide 4 Tryz.f4 rfl rfl rfl rfl rfl rfl rfl ⟨rfl,rfl,rfl,rfl,rfl⟩ rfl rfl rfl rfl rfl (by kernel_rfl) Tryz.func4 (by kernel_rfl)
  (of_decide_eq_true (by kernel_rfl)) (by unfold Func.isWrapper;first | (rw [if_pos (by decide +kernel)];kernel_rfl) | (rw [if_neg (by decide +kernel)];exact ⟨rfl,rfl⟩))
  (fun os started H enc _=>watchTurned_lifted os started H enc)
end Go.Proofs.YthpbefahaghbjaaGreat
