/- WatchPlays: whatever is told to a watch, all versions, each key's chain, and whether it is torn, are the document's; no conditions beyond the given statement's. -/
import Derived.Test.YthpbefahaghbjaaGreatRows
import Derived.Test.YthpbefahaghbjaaGreatWatchPlaysCalls
import Derived.Test.YthpbefahaghbjaaGreatLaw
import Derived.ProofKit
open Go.Proofs.Tryz renaming prog→aac,f5→aad,checked→aae,func5→aaf
set_option maxHeartbeats 16000000
set_option maxRecDepth 100000
set_option cbv.maxSteps 100000000
namespace Go.Proofs.YthpbefahaghbjaaGreat
open Go.bU Go.ChangeShapes Go.WideShapes Go.ChangeAt Go.RowKit
theorem xx:ownKnob aac.godebug=none:=by kernel_rfl
theorem qQ:laidOutB aac=true:=by kernel_rfl
theorem tL:∀t∈aad.params.toList,aac.readableRec t=true/\t<aac.types.size:=by
 have k:(aad.params.toList.all fun t=>aac.readableRec t&&decide (t<aac.types.size))=true:=by kernel_rfl
 intro t ht;have:=List.all_eq_true.1 k t ht
 simpa using this
theorem sB (os:Os)(started:os.Started)(H:Type)(uv:TypeId × Value->H) :
  ReturnsInHanded {} aae os 5 .any (Rows.watchPlaysSpec.pre6 uv aac aad Rows.watchPlaysRow.domain false) (Rows.watchPlaysSpec.post uv aac aad false true false false):=by
 refine returnsInHanded_of_change (C:=aae) xx started (by kernel_rfl) aaf
  (ChangeSpec.witness6 (enc:=uv) (C:=aae) false ⟨#[],#[Value.slice none 0 0,Value.int IntKind.u8 0],[]⟩ 12 (by kernel_rfl) (by kernel_rfl) (by kernel_rfl) (by kernel_rfl)) ?_
 intro W base args ds gs before Zy hW ai6 _;have HV:∀(j:Nat) t v,aad.params[j]?=some t->args[j]?=some v->Value.okWide aac W .any base t v:=Zy;have hW':=hW;obtain⟨p,q,hA0,hV,rfl,Yr,sH⟩:=hW;have hA:DataW.TrodAll uv aac W 0 (fun _=>true) true aad.params.toList args.toList ds p:=hA0;obtain⟨rfl,rfl⟩:=trodVars_none hV;have hlen:=uk hA;have Ge:args.size=2:=by rw[<-Array.length_toList,hlen.1];rfl
 have YI:ds.length=2:=by rw[hlen.2];rfl
 have hc:=tK W args Ge (fun j t v ht hv=>⟨⟨_,_,HV j t v ht hv⟩,L5 hA j t v (by rw[<-Array.getElem?_toList] at ht;exact ht) (by rw[<-Array.getElem?_toList] at hv;exact hv)⟩);refine hc.mono fun e W' ⟨he,bV⟩=>?_
 subst he
 match ds,YI with
 | [d0,d1],_=>exact⟨_,rfl,Lo qQ hW' rfl rfl rfl rfl rfl Tryz.underlying4 tL bV.below⟩
theorem watchPlays_holds:Rows.WatchPlaysSaid :=
 OpenClaim.holds_of_wide 5 aad rfl rfl rfl rfl rfl rfl rfl ⟨rfl,rfl,rfl,rfl,rfl⟩ rfl rfl rfl rfl rfl (by kernel_rfl) aaf (by kernel_rfl)
  (of_decide_eq_true (by kernel_rfl)) (by unfold Func.isWrapper;first|(rw[if_pos (by decide +kernel)];kernel_rfl)|(rw[if_neg (by decide +kernel)];exact⟨rfl,rfl⟩))
  (fun os started H uv _=>sB os started H uv)
end Go.Proofs.YthpbefahaghbjaaGreat
