import Derived.Test.YthpbefahaghbjaaGreatPd2
import Derived.Shelf.SlSortCmp.NoneTotal
import Derived.Shelf.SlicesE.Kit
import Derived.Test.YthpbefahaghbjaaGreatWaG
import Derived.Test.YthpbefahaghbjaaGreatWa2
import Derived.Test.YthpbefahaghbjaaGreatRg6
import Derived.Test.YthpbefahaghbjaaGreatRi5
open Go renaming Ending→aaj
open Go.Calls renaming mono→aas
open Go.Proofs.Tryz renaming prog→aac,sizeOf49→aal,results28→aam,underlying27→aao,results12→aaq,results10→aau,results58→aav,f7→aay,results7→aaz,f10→aaD,call26→aaE,func10→aaH,f28→aaI,f15→aaO,results15→aaP,results8→aaQ,call10→aaR,call29→aaS,isAgg49→aaT,f12→aaU,call28→aaV,call30→aaW
open Go.World renaming block_lt_of_cell?→aaB
open List renaming length_map→aae,getElem?_map→aag,getElem?_eq_getElem→aah,getElem?_eq_some_iff→aai,all_eq_true→aar,mem_of_getElem?→aaw,drop_drop→aaF,mem_map→aaJ,take_add_one→aaK,mem_flatten→aaL,mem_filter→aaM,size_toArray→aaN,eq_nil_of_length_eq_zero→aaX,length_append→aaY,append_assoc→aaZ,getElem?_append_left→aa0,filter_append→aa1,take_of_length_le→aa2,pairwise_iff_getElem→aa3,mem_iff_getElem→aa4,map_cons→aa5,filter_map→aa6
open Nat renaming le_refl→aak,le_trans→aan,zero_le→aap,add_zero→aaG,lt_of_lt_of_le→aa8,add_assoc→aa9,sub_zero→aba
open Option renaming some→aaf,map_eq_some_iff→aax,isSome_iff_exists→aa7
open Prod renaming fst→aad,snd→aaC
open Prod.mk renaming injEq→aaA
set_option maxHeartbeats 16000000
set_option maxRecDepth 100000
set_option cbv.maxSteps 100000000
namespace Go.Proofs
open Go.Shelf
def Tryz.IG:Go.Shelf.Ren:=⟨fun|6=>30|15=>60|14=>59|28=>77|29=>78|20=>69|21=>70|22=>71|23=>72|24=>73|25=>74|26=>75|27=>76|46=>91|47=>92|48=>93|49=>94|50=>95|57=>108|n=>n,fun|22=>27|24=>49|25=>79|3=>3|39=>113|0=>0|53=>33|55=>29|4=>4|46=>122|45=>121|50=>126|5=>5|9=>9|66=>140|70=>144|76=>157|77=>158|n=>n,fun|n=>n⟩
theorem Tryz.RR:Go.Proofs.SlLaysF0.n6 aac Tryz.IG:={
 mixed:=(by kernel_rfl),
 f6:=⟨ "slices.SortFunc[[]scrutineer/api.Version,scrutineer/api.Version]",by decide,Tryz.func30.trans (congrArg some (by kernel_rfl))⟩,
 f14:=⟨ "slices.pdqsortCmpFunc[scrutineer/api.Version]",by decide,Tryz.func59.trans (congrArg some (by kernel_rfl))⟩,
 f15:=Tryz.func60.trans (congrArg some (by kernel_rfl)),
 f20:=⟨ "slices.insertionSortCmpFunc[scrutineer/api.Version]",by decide,Tryz.func69.trans (congrArg some (by kernel_rfl))⟩,
 f21:=⟨ "slices.heapSortCmpFunc[scrutineer/api.Version]",by decide,Tryz.func70.trans (congrArg some (by kernel_rfl))⟩,
 f22:=⟨ "slices.breakPatternsCmpFunc[scrutineer/api.Version]",by decide,Tryz.func71.trans (congrArg some (by kernel_rfl))⟩,
 f23:=⟨ "slices.choosePivotCmpFunc[scrutineer/api.Version]",by decide,Tryz.func72.trans (congrArg some (by kernel_rfl))⟩,
 f24:=⟨ "slices.reverseRangeCmpFunc[scrutineer/api.Version]",by decide,Tryz.func73.trans (congrArg some (by kernel_rfl))⟩,
 f25:=⟨ "slices.partialInsertionSortCmpFunc[scrutineer/api.Version]",by decide,Tryz.func74.trans (congrArg some (by kernel_rfl))⟩,
 f26:=⟨ "slices.partitionEqualCmpFunc[scrutineer/api.Version]",by decide,Tryz.func75.trans (congrArg some (by kernel_rfl))⟩,
 f27:=⟨ "slices.partitionCmpFunc[scrutineer/api.Version]",by decide,Tryz.func76.trans (congrArg some (by kernel_rfl))⟩,
 f28:=Tryz.func77.trans (congrArg some (by kernel_rfl)),
 f29:=Tryz.func78.trans (congrArg some (by kernel_rfl)),
 f46:=⟨ "slices.siftDownCmpFunc[scrutineer/api.Version]",by decide,Tryz.func91.trans (congrArg some (by kernel_rfl))⟩,
 f47:=Tryz.func92.trans (congrArg some (by kernel_rfl)),
 f48:=Tryz.func93.trans (congrArg some (by kernel_rfl)),
 f49:=⟨ "slices.medianAdjacentCmpFunc[scrutineer/api.Version]",by decide,Tryz.func94.trans (congrArg some (by kernel_rfl))⟩,
 f50:=⟨ "slices.medianCmpFunc[scrutineer/api.Version]",by decide,Tryz.func95.trans (congrArg some (by kernel_rfl))⟩,
 f57:=⟨ "slices.order2CmpFunc[scrutineer/api.Version]",by decide,Tryz.func108.trans (congrArg some (by kernel_rfl))⟩,
 t0:=Tryz.underlying0,
 a0:=Tryz.isAgg0,
 z0:=Tryz.sizeOf0,
 v0:=Tryz.zeroValue0,
 t3:=Tryz.underlying3,
 a3:=Tryz.isAgg3,
 z3:=Tryz.sizeOf3,
 v3:=Tryz.zeroValue3,
 t4:=Tryz.underlying4,
 a4:=Tryz.isAgg4,
 z4:=Tryz.sizeOf4,
 v4:=Tryz.zeroValue4,
 t5:=Tryz.underlying5,
 a5:=Tryz.isAgg5,
 z5:=Tryz.sizeOf5,
 v5:=Tryz.zeroValue5,
 t9:=Tryz.underlying9,
 a9:=Tryz.isAgg9,
 z9:=Tryz.sizeOf9,
 v9:=Tryz.zeroValue9,
 t22:=aao,
 a22:=Tryz.isAgg27,
 z22:=Tryz.sizeOf27,
 v22:=Tryz.zeroValue27,
 t25:=Tryz.underlying79,
 a25:=Tryz.isAgg79,
 z25:=Tryz.sizeOf79,
 v25:=Tryz.zeroValue79,
 t39:=Tryz.underlying113,
 a39:=Tryz.isAgg113,
 z39:=Tryz.sizeOf113,
 v39:=Tryz.zeroValue113,
 t45:=Tryz.underlying121,
 a45:=Tryz.isAgg121,
 z45:=Tryz.sizeOf121,
 v45:=Tryz.zeroValue121,
 t46:=Tryz.underlying122,
 a46:=Tryz.isAgg122,
 z46:=Tryz.sizeOf122,
 v46:=Tryz.zeroValue122,
 t50:=Tryz.underlying126,
 a50:=Tryz.isAgg126,
 z50:=Tryz.sizeOf126,
 v50:=Tryz.zeroValue126,
 t53:=Tryz.underlying33,
 a53:=Tryz.isAgg33,
 z53:=Tryz.sizeOf33,
 v53:=Tryz.zeroValue33,
 t55:=Tryz.underlying29,
 a55:=Tryz.isAgg29,
 z55:=Tryz.sizeOf29,
 v55:=Tryz.zeroValue29,
 t66:=Tryz.underlying140,
 a66:=Tryz.isAgg140,
 z66:=Tryz.sizeOf140,
 v66:=Tryz.zeroValue140,
 t70:=Tryz.underlying144,
 a70:=Tryz.isAgg144,
 z70:=Tryz.sizeOf144,
 v70:=Tryz.zeroValue144,
 t76:=Tryz.underlying157,
 a76:=Tryz.isAgg157,
 z76:=Tryz.sizeOf157,
 v76:=Tryz.zeroValue157,
 t77:=Tryz.underlying158,
 a77:=Tryz.isAgg158,
 z77:=Tryz.sizeOf158,
 v77:=Tryz.zeroValue158 }
end Go.Proofs
namespace Go.Proofs.YthpbefahaghbjaaGreat
open Go Go.bU
def sF (p:aS)(l:List aI):SV:=if l=[] then .ao none 0 0 else .ao (some ⟨p.b,p.o,none⟩) l.length (p.x / 13)
def oY (wm:WM)(s:WP):List SV:=[.raw (.map (some wm.m)),sF (wm.P 1) s.l,sF (wm.P 2) s.all,.bool (.v s.da)]
theorem PJ (p:aS)(l:List aI)(N:af):(sF p l).den N=some (gC p l.length):=by
 unfold sF gC
 by_cases h0:l=[]
 ·subst h0;rfl
 ·rw[if_neg h0,if_neg (fun h=>h0 (aaX h))]
  rfl
theorem rI (wm:WM)(s:WP)(N:af):SV.ap N (oY wm s)=some [.map (some wm.m),gC (wm.P 1) s.l.length,gC (wm.P 2) s.all.length,.bool s.da]:=by
 simp only[oY,SV.ap,PJ];rfl
theorem iv {p:aS}{cs:List SV}(k o:Nat):¬bq [p] [⟨false,cs,none⟩] k o:=Ma
theorem ul (wm:WM)(s:WP)(n:Nat)(Mo:Mem)(w:World)(h:bX wm s Mo w)(ok:s.Ok n)(hn:n<=1000):Calls aac 10 #[iE (wm.P 0)] w (kr Mo s.l w):=by
 obtain⟨Q,hQ⟩:∃Q:aaj->World->Prop,Q=kr Mo s.l w:=⟨_,rfl⟩;rw[<-hQ];obtain⟨pv,lP⟩:∃v:Option Addr × Nat × Nat,v=if s.l=[] then (none,0,0) else (some ⟨(wm.P 1).b,(wm.P 1).o,none⟩,s.l.length,(wm.P 1).x / 13):=⟨_,rfl⟩
 obtain⟨pp,pn,pc⟩:=pv;have aF:=(h.room 0 (by omega)).1;have bD:∀(j:Nat) (c:SV),(oY wm s)[j]?=some c->∃v,c.den [⟨(wm.P 0).b,(wm.P 0).o,4⟩]=some v/\w.cell? ⟨(wm.P 0).b,(wm.P 0).o+j,none⟩=some v:=fun j c hj=>by
  obtain⟨z1,z2⟩:=SV.aP (N:=[⟨(wm.P 0).b,(wm.P 0).o,4⟩]) (oY wm s) (rI wm s _);obtain⟨v,z3,z4⟩:=z2 j c hj;exact⟨v,z3,h.hd.2 j v z4⟩
 refine X.begin (rg:=[⟨false,oY wm s,none⟩]) (N:=[⟨(wm.P 0).b,(wm.P 0).o,4⟩]) (ss:=[.own 0 0]) aaH rfl DE rfl rfl (Sat.w_ false aF bD (fun h=>(by cases h))) ?_;obtain⟨im,aV⟩:∃im,im=ab [⟨(wm.P 0).b,(wm.P 0).o,4⟩] [⟨false,oY wm s,none⟩] w:=⟨_,rfl⟩;show X (aK aac aaD Q w (bq [⟨(wm.P 0).b,(wm.P 0).o,4⟩] [⟨false,oY wm s,none⟩]) (ab [⟨(wm.P 0).b,(wm.P 0).o,4⟩] [⟨false,oY wm s,none⟩] w) (fun _ _=>False) (fun _=>True) [⟨(wm.P 0).b,(wm.P 0).o,4⟩] Xj) _ _;have s8:∀k o v,Mo k o=some v->ab [⟨(wm.P 0).b,(wm.P 0).o,4⟩] [⟨false,oY wm s,none⟩] w k o=some v:=fun k o v hk=>by
  unfold ab;rw[if_neg (iv _ _)];exact h.mo k o v hk
 have xE:oY wm s=[.raw (.map (some wm.m)),.ao pp pn pc,sF (wm.P 2) s.all,.bool (.v s.da)]:=by
  unfold oY;have:sF (wm.P 1) s.l=.ao pp pn pc:=by
   unfold sF
   by_cases h0:s.l=[]
   ·rw[if_pos h0] at lP ⊢;simp only[aaA] at lP;rw[lP.1,lP.2.1,lP.2.2]
   ·rw[if_neg h0] at lP ⊢;simp only[aaA] at lP;rw[lP.1,lP.2.1,lP.2.2]
  rw[this]
 rw[xE];refine X.go my 400 _ rfl aau ?_
 conv=>arg 2;cbv
 refine X.call rfl rfl rfl rfl aaE (fun N w1 args hN hS ha=>?_);obtain rfl:args=[.slice pp pn pc]:=(aaf.inj ha).symm;have iJ:aW (fun _ _=>False) w w1:=hS.aM.mono fun k o _ h=>absurd h (iv _ _)
 have Dy:Calls aac 26 #[.slice pp pn pc] w1 (kr Mo s.l w1):=by
  by_cases h0:s.l=[]
  ·rw[if_pos h0] at lP
   obtain⟨rfl,rfl,rfl⟩:pp=none/\pn=0/\pc=0:=by simpa using lP
   rw[h0];exact xA Mo w1
  ·rw[if_neg h0] at lP
   obtain⟨rfl,rfl,rfl⟩:pp=_/\pn=_/\pc=_:=by simpa using lP
   exact zA Mo (wm.P 1) s.l _ w1 (fun k o v hk=>bw iJ (fun h=>h) (h.mo k o v hk)) (h.l.aM iJ fun _ _ _ h=>h) h0 (by have:=ok.l;omega) ok.vl
 refine Dy.mono fun e w2 ⟨⟨p,c,he,hm⟩,bV⟩=>?_
 have yh:w.heap.size<=w1.heap.size:=hS.aM.size;obtain⟨ln,Rm⟩:∃z,z=s.l.length:=⟨_,rfl⟩;rw[<-Rm] at he;refine⟨_,he,Goes.cZ hN hS bV (r:=.ao p ln c) rfl rfl (fun hold bM=>?_)⟩;obtain⟨iz,eg⟩:∃iz,iz=bx (ab [⟨(wm.P 0).b,(wm.P 0).o,4⟩] [⟨false,[.raw (.map (some wm.m)),.ao pp pn pc,sF (wm.P 2) s.all,.bool (.v s.da)],none⟩] w) w1 w2:=⟨_,rfl⟩;have fM:∀M:Mem,(∀k o v,Mo k o=some v->M k o=some v)->(∀k o v,w.heap.size<=k->iz k o=some v->M k o=some v)->dC M p c 13 (s.l.map aI.toD):=fun M h1 h2=>hm M h1 fun k o v hk hc=>h2 k o v (aan yh hk) (by rw[eg];exact cA (fun k o v h=>(hS.bu bV).cK _ _ _ h) hk hc)
 show X (aK aac aaD Q w (bq [⟨(wm.P 0).b,(wm.P 0).o,4⟩] [⟨false,[.raw (.map (some wm.m)),.ao pp pn pc,sF (wm.P 2) s.all,.bool (.v s.da)],none⟩]) (bx (ab [⟨(wm.P 0).b,(wm.P 0).o,4⟩] [⟨false,[.raw (.map (some wm.m)),.ao pp pn pc,sF (wm.P 2) s.all,.bool (.v s.da)],none⟩] w) w1 w2) (fun _ _=>False) (fun _=>True) [⟨(wm.P 0).b,(wm.P 0).o,4⟩] Xj) _ _;rw[<-eg];clear eg hold bM bV he ha hS hN hm Dy iJ;refine X.go my 400 _ rfl aau ?_
 conv=>arg 2;cbv
 refine X.done my rfl (fun N w' v hN hS hv=>?_);simp only[bz,SV.den,aA] at hv;rw[hQ];refine⟨⟨p,c,by rw[<-hv,Rm],fun M h1 h2=>fM M h1 fun k o v hk hv=>h2 k o v hk (hS.cK _ _ _ hv)⟩,hS.aM.mono fun k o _ h=>absurd h (iv _ _)⟩
theorem BJ (wm:WM)(s:WP)(n:Nat)(Mo:Mem)(w:World)(h:bX wm s Mo w)(ok:s.Ok n)(hn:n<=1000):Calls aac 15 #[iE (wm.P 0)] w (kr Mo s.all w):=by
 obtain⟨Q,hQ⟩:∃Q:aaj->World->Prop,Q=kr Mo s.all w:=⟨_,rfl⟩;rw[<-hQ];obtain⟨pv,lP⟩:∃v:Option Addr × Nat × Nat,v=if s.all=[] then (none,0,0) else (some ⟨(wm.P 2).b,(wm.P 2).o,none⟩,s.all.length,(wm.P 2).x / 13):=⟨_,rfl⟩
 obtain⟨pp,pn,pc⟩:=pv;have aF:=(h.room 0 (by omega)).1;have bD:∀(j:Nat) (c:SV),(oY wm s)[j]?=some c->∃v,c.den [⟨(wm.P 0).b,(wm.P 0).o,4⟩]=some v/\w.cell? ⟨(wm.P 0).b,(wm.P 0).o+j,none⟩=some v:=fun j c hj=>by
  obtain⟨z1,z2⟩:=SV.aP (N:=[⟨(wm.P 0).b,(wm.P 0).o,4⟩]) (oY wm s) (rI wm s _);obtain⟨v,z3,z4⟩:=z2 j c hj;exact⟨v,z3,h.hd.2 j v z4⟩
 refine X.begin (rg:=[⟨false,oY wm s,none⟩]) (N:=[⟨(wm.P 0).b,(wm.P 0).o,4⟩]) (ss:=[.own 0 0]) Tryz.func15 rfl Sz rfl rfl (Sat.w_ false aF bD (fun h=>(by cases h))) ?_;obtain⟨im,aV⟩:∃im,im=ab [⟨(wm.P 0).b,(wm.P 0).o,4⟩] [⟨false,oY wm s,none⟩] w:=⟨_,rfl⟩;show X (aK aac aaO Q w (bq [⟨(wm.P 0).b,(wm.P 0).o,4⟩] [⟨false,oY wm s,none⟩]) (ab [⟨(wm.P 0).b,(wm.P 0).o,4⟩] [⟨false,oY wm s,none⟩] w) (fun _ _=>False) (fun _=>True) [⟨(wm.P 0).b,(wm.P 0).o,4⟩] B15) _ _;have s8:∀k o v,Mo k o=some v->ab [⟨(wm.P 0).b,(wm.P 0).o,4⟩] [⟨false,oY wm s,none⟩] w k o=some v:=fun k o v hk=>by
  unfold ab;rw[if_neg (iv _ _)];exact h.mo k o v hk
 have xE:oY wm s=[.raw (.map (some wm.m)),sF (wm.P 1) s.l,.ao pp pn pc,.bool (.v s.da)]:=by
  unfold oY;have:sF (wm.P 2) s.all=.ao pp pn pc:=by
   unfold sF
   by_cases h0:s.all=[]
   ·rw[if_pos h0] at lP ⊢;simp only[aaA] at lP;rw[lP.1,lP.2.1,lP.2.2]
   ·rw[if_neg h0] at lP ⊢;simp only[aaA] at lP;rw[lP.1,lP.2.1,lP.2.2]
  rw[this]
 rw[xE];refine X.go DV 400 _ rfl aaP ?_
 conv=>arg 2;cbv
 refine X.call rfl rfl rfl rfl aaE (fun N w1 args hN hS ha=>?_);obtain rfl:args=[.slice pp pn pc]:=(aaf.inj ha).symm;have iJ:aW (fun _ _=>False) w w1:=hS.aM.mono fun k o _ h=>absurd h (iv _ _)
 have Dy:Calls aac 26 #[.slice pp pn pc] w1 (kr Mo s.all w1):=by
  by_cases h0:s.all=[]
  ·rw[if_pos h0] at lP
   obtain⟨rfl,rfl,rfl⟩:pp=none/\pn=0/\pc=0:=by simpa using lP
   rw[h0];exact xA Mo w1
  ·rw[if_neg h0] at lP
   obtain⟨rfl,rfl,rfl⟩:pp=_/\pn=_/\pc=_:=by simpa using lP
   exact zA Mo (wm.P 2) s.all _ w1 (fun k o v hk=>bw iJ (fun h=>h) (h.mo k o v hk)) (h.a.aM iJ fun _ _ _ h=>h) h0 (by have:=ok.a;omega) ok.va
 refine Dy.mono fun e w2 ⟨⟨p,c,he,hm⟩,bV⟩=>?_
 have yh:w.heap.size<=w1.heap.size:=hS.aM.size;obtain⟨ln,Rm⟩:∃z,z=s.all.length:=⟨_,rfl⟩;rw[<-Rm] at he;refine⟨_,he,Goes.cZ hN hS bV (r:=.ao p ln c) rfl rfl (fun hold bM=>?_)⟩;obtain⟨iz,eg⟩:∃iz,iz=bx (ab [⟨(wm.P 0).b,(wm.P 0).o,4⟩] [⟨false,[.raw (.map (some wm.m)),sF (wm.P 1) s.l,.ao pp pn pc,.bool (.v s.da)],none⟩] w) w1 w2:=⟨_,rfl⟩;have fM:∀M:Mem,(∀k o v,Mo k o=some v->M k o=some v)->(∀k o v,w.heap.size<=k->iz k o=some v->M k o=some v)->dC M p c 13 (s.all.map aI.toD):=fun M h1 h2=>hm M h1 fun k o v hk hc=>h2 k o v (aan yh hk) (by rw[eg];exact cA (fun k o v h=>(hS.bu bV).cK _ _ _ h) hk hc)
 show X (aK aac aaO Q w (bq [⟨(wm.P 0).b,(wm.P 0).o,4⟩] [⟨false,[.raw (.map (some wm.m)),sF (wm.P 1) s.l,.ao pp pn pc,.bool (.v s.da)],none⟩]) (bx (ab [⟨(wm.P 0).b,(wm.P 0).o,4⟩] [⟨false,[.raw (.map (some wm.m)),sF (wm.P 1) s.l,.ao pp pn pc,.bool (.v s.da)],none⟩] w) w1 w2) (fun _ _=>False) (fun _=>True) [⟨(wm.P 0).b,(wm.P 0).o,4⟩] B15) _ _;rw[<-eg];clear eg hold bM bV he ha hS hN hm Dy iJ;refine X.go DV 400 _ rfl aaP ?_
 conv=>arg 2;cbv
 refine X.done DV rfl (fun N w' v hN hS hv=>?_);simp only[bz,SV.den,aA] at hv;rw[hQ];refine⟨⟨p,c,by rw[<-hv,Rm],fun M h1 h2=>fM M h1 fun k o v hk hv=>h2 k o v hk (hS.cK _ _ _ hv)⟩,hS.aM.mono fun k o _ h=>absurd h (iv _ _)⟩
theorem He (wm:WM)(s:WP)(Mo:Mem)(w:World)(h:bX wm s Mo w):Calls aac 13 #[iE (wm.P 0)] w fun e w'=>e=.returned (.bool s.da)/\aW (fun _ _=>False) w w':=by
 have aF:=(h.room 0 (by omega)).1;have bD:∀(j:Nat) (c:SV),(oY wm s)[j]?=some c->∃v,c.den [⟨(wm.P 0).b,(wm.P 0).o,4⟩]=some v/\w.cell? ⟨(wm.P 0).b,(wm.P 0).o+j,none⟩=some v:=fun j c hj=>by
  obtain⟨z1,z2⟩:=SV.aP (N:=[⟨(wm.P 0).b,(wm.P 0).o,4⟩]) (oY wm s) (rI wm s _);obtain⟨v,z3,z4⟩:=z2 j c hj;exact⟨v,z3,h.hd.2 j v z4⟩
 obtain⟨h1,Ay⟩:∃v,v=sF (wm.P 1) s.l:=⟨_,rfl⟩;obtain⟨h2,M7⟩:∃v,v=sF (wm.P 2) s.all:=⟨_,rfl⟩;have he:oY wm s=[.raw (.map (some wm.m)),h1,h2,.bool (.v s.da)]:=by rw[Ay,M7];rfl
 rw[he] at bD;refine X.begin (rg:=[⟨false,[.raw (.map (some wm.m)),h1,h2,.bool (.v s.da)],none⟩]) (N:=[⟨(wm.P 0).b,(wm.P 0).o,4⟩]) (ss:=[.own 0 0]) Tryz.func13 rfl Sx rfl rfl (Sat.w_ false aF bD (fun h=>(by cases h))) ?_;refine X.go Jx 400 _ rfl Tryz.results13 ?_
 conv=>arg 2;cbv
 refine X.done Jx rfl (fun N w' v hN hS hv=>⟨aw hv ?_,hS.aM.mono fun k o _ h=>absurd h (iv _ _)⟩);simp[SB.den]
theorem Hh (Mo:Mem)(w:World)(qo:∀k o v,Mo k o=some v->w.cell? ⟨k,o,none⟩=some v):Calls aac 8 #[] w fun e w'=>∃wm,e=.returned (iE (wm.P 0))/\bX wm WP.zero Mo w'/\(∀k o,wm.D 0 k o->w.heap.size<=k)/\aW (fun _ _=>False) w w':=by
 obtain⟨Q,hQ⟩:∃Q:aaj->World->Prop,Q=fun e w'=>∃wm,e=.returned (iE (wm.P 0))/\bX wm WP.zero Mo w'/\(∀k o,wm.D 0 k o->w.heap.size<=k)/\aW (fun _ _=>False) w w':=⟨_,rfl⟩
 rw[<-hQ];refine X.begin (rg:=[]) (N:=[]) (ss:=[]) Tryz.func8 rfl Xr rfl rfl Sat.bp ?_;refine X.go JL 400 _ rfl aaQ ?_
 conv=>arg 2;cbv
 refine X.aev (.map #[] 0) trivial (fun b=>.map (some b)) (fun _=>rfl) rfl rfl (fun N a w1 hN hf hS=>rfl) (fun b=>rfl) (fun m hm EA hmD=>?_);show X (aK aac Tryz.f8 Q w (bq [] []) (ab [] [] w) (fun k o=>False\/k=m) (fun w=>True/\b8 w m=some (.map #[] 0)) [] B8) _ _;refine X.go JL 400 _ rfl aaQ ?_
 conv=>arg 2;cbv
 refine X.done JL rfl (fun N w' v hN hS hv=>?_);obtain⟨p,hp⟩:∃p,N[0]?=some p:=⟨_,aah (by rw[hS.len];simp)⟩;simp only[bz,SV.den,hp,aA,aaG] at hv;have hx:=hS.ext 0 _ p rfl hp rfl;have hx:4<=p.x:=hx;have hro:=hS.room 0 _ p rfl hp rfl;have YZ:=hS.lt 0 p hp;have de:w.heap.size<=p.b:=by
  rcases hS.dG 0 _ p rfl hp rfl with h|h
  ·exact h
  ·exact absurd (h 0 (by omega)) aB
 have bV:aW (fun _ _=>False) w w':=hS.aM.mono fun k o _ h=>aB h
 have Vy:∀k o v,Mo k o=some v->k<w.heap.size:=fun k o v hk=>by
  have:=aaB _ _ (qo k o v hk)
  simpa using this
 have hD:∀k o,(⟨m,fun r=>if r=0 then p else ⟨p.b,0,0⟩⟩:WM).D 0 k o->w.heap.size<=k:=fun k o hd=>by
  have hm:w.heap.size<=m:=hm;rcases hd with e|⟨r,hr,e1,e2,e3⟩
  ·have e:k=m:=e
   omega
  ·by_cases h0:r=0
   ·subst h0
    have e1:k=p.b:=e1;omega
   ·have e1:k=(if r=0 then p else ⟨p.b,0,0⟩:aS).b:=e1
    rw[if_neg h0] at e1;simp only at e1;omega
 rw[hQ];refine⟨⟨m,fun r=>if r=0 then p else ⟨p.b,0,0⟩⟩,by rw[<-hv];rfl,⟨fun r hr=>?_,fun r r' hr Na bH k o h1 h2=>?_,⟨fun _=>none,eD.empty (kC hS.fH.2),fun i e he=>by simp[WP.zero] at he,fun _ _ _=>rfl⟩,⟨hx,fl hS rfl hp rfl⟩,⟨aap _,fun _=>rfl,[],rfl,fun i x hx=>by simp[WP.zero] at hx,fun j v hj=>by simp at hj⟩,⟨aap _,fun _=>rfl,[],rfl,fun i x hx=>by simp[WP.zero] at hx,fun j v hj=>by simp at hj⟩,fun i e he=>by simp[WP.zero] at he,fun k o v hk=>bw bV (fun h=>h) (qo k o v hk),fun k o hd=>?_⟩,hD,bV⟩
 ·by_cases h0:r=0
  ·subst h0;exact⟨YZ,hro⟩
  ·simp only[h0,if_false]
   exact⟨YZ,fun j hj=>absurd hj (Nat.not_lt_zero _)⟩
 ·by_cases h0:r=0
  ·have h1':r'≠0:=by omega
   simp only[h1',if_false] at h2;have:=h2.2;simp only at this;omega
  ·simp only[h0,if_false] at h1
   have:=h1.2;simp only at this;omega
 ·cases hk:Mo k o with
  |none=>rfl
  |some v=>have:=Vy k o v hk;have:=hD k o hd;omega
theorem Hz (g:Value)(hg:bc g=true)(w:World):Calls aac 28 #[.slice none 0 0,g] w fun e w'=>e=.returned (.slice none 0 0)/\aW (fun _ _=>False) w w':=Dj ep Jp 1000 [.raw (.slice none 0 0),.raw g] (by simp only[SV.ap,SV.den];rw[if_pos hg];rfl) rfl (l:=[.raw (.slice none 0 0)]) (fun N=>rfl) (by kernel_rfl) w
end Go.Proofs.YthpbefahaghbjaaGreat
namespace Go.bU
open Go
theorem Sat.Hf {E:eR}{N:af}{rg:List Rg}{w w':World}(h:Sat E.toEnv N rg w)(D':Nat->Nat->Prop)(R':World->Prop)(pT:Mem)(hc:aW E.D w w')(hO:∀k o,E.D k o->E.W.heap.size<=k\/E.O k o)(ct:∀k o,E.D k o->E.im k o=none)
  (kF:∀(r:Nat) (g:Rg) (p:aS),rg[r]?=some g->N[r]?=some p->g.own=true\/∀j,j<g.cells.length->¬E.D p.b (p.o+j)) (hD:∀k o,D' k o->(E.D k o\/w.heap.size<=k)/\eG w' k o) (hl:Loc D' R') (hR:R' w') (h1:∀k o v,pT k o=some v->w'.cell? ⟨k,o,none⟩=some v) (h2:∀k o v,pT k o=some v->E.im k o=some v\/w.heap.size<=k) :
  Sat ({ E.mZ D' R' with im:=pT }:eR).toEnv N rg w':=by
 have h':=h.aaa hc hO ct kF hD hl hR;refine⟨h'.len,h'.lt,h'.cell,h'.ext,h'.room,h'.eT,h'.obj,h'.fG,h1,fun r g p hg hp ho j hj=>?_,h'.dd,h'.mj,h'.loc,h'.fH,h'.aM,h'.dG⟩;show pT p.b (p.o+j)=none;cases hm:pT p.b (p.o+j) with
 |none=>rfl
 |some v =>
  rcases h2 _ _ _ hm with h3|h3
  ·rw[h.lR r g p hg hp ho j hj] at h3;cases h3
  ·have:=h.lt r p hp
   omega
end Go.bU
namespace Go.Proofs.YthpbefahaghbjaaGreat
open Go Go.bU Go.Sort
theorem EL {im:Mem}{w w':World}{k o:Nat}(h:im k o=none)(hk:k<w.heap.size):bx im w w' k o=none:=by
 unfold bx;rw[h];simp only;rw[if_neg (by omega)]
theorem fk {N:af}{l:List SV}{args vs:List Value}(h:SV.ap N l=some vs)(ha:SV.ap N l=some args):args=vs:=by
 rw[h] at ha;exact(aaf.inj ha).symm
structure bZ (wm:WM) (s:WP) (Mo:Mem) (w:World):Prop where
 room:∀r,r<3+s.seen.length->zM (wm.P r) w
 sep:∀r r',r<3+s.seen.length->r'<3+s.seen.length->r≠r'->∀k o,mK (wm.P r) k o->¬mK (wm.P r') k o
 mp:∃g,eD aac cM wm.m g w/\(∀i e,s.seen[i]?=some e->g (Cz e.key e.b)=some (iE (wm.P (3+i))))/\∀key b,s.pos key b=none->g (Cz key b)=none
 hd:4<=(wm.P 0).x/\lx (wm.P 0) [.map (some wm.m),gC (wm.P 1) s.l.length,gC (wm.P 2) s.all.length,.bool s.da] w
 l:fC Mo (wm.P 1) s.l w
 a:fC Mo (wm.P 2) s.all w
 en:∀i e,s.seen[i]?=some e->h_ Mo (wm.P (3+i)) e w
 md:∀k o,wm.D s.seen.length k o->Mo k o=none
theorem bX.r {wm:WM}{s:WP}{Mo:Mem}{w:World}(h:bX wm s Mo w):bZ wm s Mo w:=⟨h.room,h.sep,h.mp,h.hd,h.l,h.a,h.en,h.md⟩
theorem bZ.at {wm:WM}{s:WP}{Mo:Mem}{w:World}(h:bZ wm s Mo w)(hm:∀k o v,Mo k o=some v->w.cell? ⟨k,o,none⟩=some v):bX wm s Mo w:=⟨h.room,h.sep,h.mp,h.hd,h.l,h.a,h.en,hm,h.md⟩
theorem bZ.mono {wm:WM}{s:WP}{Mo eu:Mem}{w:World}(h:bZ wm s Mo w)(hm:∀k o v,Mo k o=some v->eu k o=some v)(hd:∀k o,wm.D s.seen.length k o->eu k o=none):bZ wm s eu w:=⟨h.room,h.sep,h.mp,h.hd,h.l.mono hm,h.a.mono hm,fun i e he=>(h.en i e he).mono hm,hd⟩
theorem lx.at {p:aS}{vs:List Value}{w w':World}(h:lx p vs w)(hl:vs.length<=p.x)(hs:∀k o,mK p k o->w'.cell? ⟨k,o,none⟩=w.cell? ⟨k,o,none⟩):lx p vs w':=fun j v hj=>by
 rw[hs _ _ ⟨rfl,by omega,by have:=(aai.1 hj).1;omega⟩];exact h j v hj
theorem fC.at {M:Mem}{p:aS}{l:List aI}{w w':World}(h:fC M p l w)(hs:∀k o,mK p k o->w'.cell? ⟨k,o,none⟩=w.cell? ⟨k,o,none⟩):fC M p l w':=by
 obtain⟨h1,h2,bC,h3,h4,h5⟩:=h;refine⟨h1,h2,bC,h3,h4,h5.at ?_ hs⟩;rw[bO (K:=13) fun v hv=>?_,h3]
 ·exact h1
 ·obtain⟨i,hi⟩:=List.mem_iff_getElem?.1 hv
  obtain⟨x,hx⟩:∃x,l[i]?=some x:=⟨_,aah (by rw[<-h3];exact(aai.1 hi).1)⟩;obtain⟨vs,k1,k2⟩:=h4 i x hx;rw[hi] at k1;cases k1;rw[k2.len];rfl
theorem h_.at {M:Mem}{p:aS}{e:fu}{w w':World}(h:h_ M p e w)(hs:∀k o,mK p k o->w'.cell? ⟨k,o,none⟩=w.cell? ⟨k,o,none⟩):h_ M p e w':=by
 obtain⟨h1,cv,rv,h2,h3,h4⟩:=h;refine⟨h1,cv,rv,h2,h3,h4.at ?_ hs⟩;rw[aaY,aaY,h2.len,h3.len];exact h1
theorem bZ.loc {wm:WM}{s:WP}{Mo:Mem}:bU.Loc (wm.D s.seen.length) (bZ wm s Mo):=by
 intro w w' hs hle h;have cl:∀r,r<3+s.seen.length->∀k o,mK (wm.P r) k o->w'.cell? ⟨k,o,none⟩=w.cell? ⟨k,o,none⟩/\w'.frozen? ⟨k,o,none⟩=w.frozen? ⟨k,o,none⟩:=fun r hr k o hi=>(hs k o (.inr ⟨r,hr,hi⟩)).1
 have cl1:∀r,r<3+s.seen.length->∀k o,mK (wm.P r) k o->w'.cell? ⟨k,o,none⟩=w.cell? ⟨k,o,none⟩:=fun r hr k o hi=>(cl r hr k o hi).1
 obtain⟨g,g1,g2⟩:=h.mp;refine⟨fun r hr=>⟨aa8 (h.room r hr).1 hle,fun j hj=>?_⟩,h.sep,⟨g,g1.at (hs wm.m 0 (.inl rfl)).2,g2⟩,⟨h.hd.1,h.hd.2.at h.hd.1 (cl1 0 (by omega))⟩,h.l.at (cl1 1 (by omega)),h.a.at (cl1 2 (by omega)),fun i e he=>(h.en i e he).at (cl1 (3+i) (by have:=(aai.1 he).1;omega)),h.md⟩;obtain⟨e1,e2⟩:=cl r hr _ ((wm.P r).o+j) ⟨rfl,by omega,by omega⟩;rw[e1,e2];exact(h.room r hr).2 j hj
def wM:dJ:=⟨0,0,0,[],[],[],0,[]⟩
def GV:cQ:=⟨0,0,0,0,none,none,none,none,0,0,0,0,0,0,0,0⟩
theorem AX {M:Mem}:bj M (.list []) (.slice none 0 0):=by
 simp only[bj];exact⟨none,0,rfl,⟨aak _,aap _⟩,.inl trivial⟩
theorem L6 (M:Mem):az M wM.toD GV.aN:=by
 refine⟨_,_,rfl,rfl,_,_,rfl,rfl,_,_,rfl,rfl,_,_,rfl,AX,_,_,rfl,AX,_,_,rfl,AX,_,_,rfl,rfl,_,_,rfl,AX,rfl⟩
def qK (n:Int)(ks:List Int)(a:Int):aO:=⟨n,⟨0,[],ks⟩,1,⟨true,⟨0,0,0⟩,⟨1,0,0⟩,wM⟩,a⟩
def WA (a:Int):aI:=⟨1,⟨1,0,0⟩,wM,a⟩
theorem MU:(WP.zero.pj (qK 3 [3] 5)).l=[WA 5]/\(WP.zero.pj (qK 3 [3] 5)).da=false:=by
 have hc:(qK 3 [3] 5).cnt:=⟨by decide,by decide,rfl,by decide,CE⟩;have hp:WP.zero.pos 1 ⟨1,0,0⟩=none:=rfl;have hq:(⟨0,[],[3]⟩:cO).jc 1 (0 |||2 ^ 3):=Wp;unfold WP.pj;rw[if_neg (not_not_intro hc)];show(WP.told ⟨_,[],[WA 5],false⟩ 0 ⟨1,⟨1,0,0⟩,⟨0,[],[3]⟩,wM,0,false⟩ (qK 3 [3] 5)).l=_/\(WP.told ⟨_,[],[WA 5],false⟩ 0 ⟨1,⟨1,0,0⟩,⟨0,[],[3]⟩,wM,0,false⟩ (qK 3 [3] 5)).da=_;unfold WP.told;have cF:cO.jc ⟨0,[],[3]⟩ (qK 3 [3] 5).key (0 |||2 ^ (qK 3 [3] 5).node.toNat):=hq;simp only[if_neg (show ¬(false=true) by decide),if_pos cF];refine⟨rfl,?_⟩;rw[b_ (not_not_intro ⟨rfl,rfl⟩)];rfl
theorem Ha:(qK 3 [3] 5).Ok:=⟨by decide,⟨by decide,fun z hz=>by cases hz⟩,⟨by decide,fun z hz=>by
 obtain rfl:z=3:=by simpa[qK] using hz
 decide⟩,by rintro (h|h|h|h|⟨i,d,h,_⟩)<;>first|exact absurd h (by decide)|(simp[qK,wM] at h),by decide,by decide,by decide,by decide,by decide⟩
def Mq (n:Int)(b o c:Nat)(a:Int):cy:=⟨n,0,none,0,0,some ⟨b,o,none⟩,1,c,1,true,0,0,0,1,0,0,GV,a⟩
theorem Ms {M:Mem}{b o:Nat}(h:M b o=some (.int .u8 3)):(Mq 3 b o 1 5).Of M (qK 3 [3] 5):=by
 refine⟨⟨rfl,rfl,rfl,rfl,rfl,rfl,rfl,rfl⟩,⟨⟨aak _,aap _⟩,.inl rfl⟩,⟨⟨aak _,by decide⟩,.inr ⟨b,o,rfl,fun i d hi=>?_⟩⟩,L6 M⟩;have h0:i=0:=by
  have:=(aai.1 hi).1;simp[qK] at this;omega
 subst h0;obtain rfl:qU 3=d:=by simpa[qK] using hi
 refine⟨[.int .u8 3],⟨_,_,rfl,rfl,rfl⟩,fun j v hj=>?_⟩;have:j=0:=by
  have:=(aai.1 hj).1;simp at this;omega
 subst this;obtain rfl:=aaf.inj hj;exact h
theorem Bu:WP.zero.Ok 0:=⟨fun _ h=>(by cases h),aak _,aak _,fun _ h=>(by cases h),fun _ h=>(by cases h)⟩
theorem vz (w:World):Calls aac 7 #[] w fun e w'=>e=.returned (.bool true)/\aW (fun _ _=>False) w w':=by
 obtain⟨Q,hQ⟩:∃Q:aaj->World->Prop,Q=fun e w'=>e=.returned (.bool true)/\aW (fun _ _=>False) w w':=⟨_,rfl⟩
 rw[<-hQ];refine X.begin (rg:=[]) (N:=[]) (ss:=[]) Tryz.func7 rfl Xo rfl rfl Sat.bp ?_;obtain⟨im,aV⟩:∃im,im=ab [] [] w:=⟨_,rfl⟩;have Yy:∀k o v,im k o=some v->k<w.heap.size:=fun k o v h=>by
  rw[aV] at h;unfold ab at h;rw[if_neg aB] at h;have:=aaB _ _ h
  simpa using this
 show X (aK aac aay Q w (bq [] []) (ab [] [] w) (fun _ _=>False) (fun _=>True) [] B7) _ _;rw[<-aV];refine X.go yz 400 _ rfl aaz ?_
 conv=>arg 2;cbv
 refine X.call rfl rfl rfl rfl Tryz.call8 (fun N w1 args hN hS ha=>?_);obtain rfl:([]:List Value)=args:=aaf.inj ha;refine(Hh im w1 hS.cK).mono fun e w2 ⟨wm,he,F6,bM,hc⟩=>⟨_,he,?_⟩
 have yh:w.heap.size<=w1.heap.size:=hS.aM.size;obtain⟨pb,Bx⟩:∃z,z=(wm.P 0).b:=⟨_,rfl⟩;obtain⟨py,M_⟩:∃z,z=(wm.P 0).o:=⟨_,rfl⟩;refine Goes.turn (r:=.ext pb py 0) (wm.D 0) (bZ wm WP.zero im) hN hS (hc.mono fun _ _ _ h=>h.elim) (fun _ _ h=>h.elim) (fun _ _ h=>h.elim) (fun g hg=>by simp at hg) (fun k o hk=>⟨.inr (bM k o hk),F6.there hk⟩) (bZ.loc (wm:=wm) (s:=WP.zero) (Mo:=im)) F6.r (by rw[Bx,M_];rfl) rfl ?_;have hO:∀k o,wm.D 0 k o->w.heap.size<=k:=fun k o h=>aan yh (bM k o h)
 clear ha he hc hS hN F6 bM yh;show X (aK aac aay Q w (bq [] []) im (wm.D 0) (bZ wm WP.zero im) [] B7) _ _;refine X.go yz 400 _ rfl aaz ?_
 conv=>arg 2;cbv
 refine X.call rfl rfl rfl rfl Tryz.call9 (fun N w1 args hN hS ha=>?_);obtain⟨p,hp⟩:=wB hS (r:=0) rfl;obtain rfl:=fk (vs:=(Iz pb py (Mq 3 p.b p.o 1 5)).toList) (by simp only[SV.ap,SV.den,SI.den,SB.den,hp];rfl) ha;have hpw:=hS.lt 0 p hp;have hpf:w.heap.size<=p.b:=by
  rcases hS.dG 0 _ p rfl hp rfl with h1|h1
  ·exact h1
  ·exact absurd (h1 0 (by have:=hS.ext 0 _ p rfl hp rfl;simp at this;omega)) aB
 have n5:w1.cell? ⟨p.b,p.o,none⟩=some (.int .u8 3):=by
  obtain⟨v,h1,h2⟩:=hS.cell 0 _ _ rfl hp 0 (.int .u8 (.lit 3)) rfl;simp only[SV.den,SI.den,aA] at h1;rw[h1];exact h2
 obtain⟨Mo,qo⟩:∃M:Mem,M=fun k o=>if k=p.b then (if o=p.o then some (.int .u8 3) else none) else im k o:=⟨_,rfl⟩
 have hM0:Mo p.b p.o=some (.int .u8 3):=by rw[qo];simp
 have U3:∀o v,Mo p.b o=some v->v=.int .u8 3:=fun o v h=>by
  rw[qo] at h;simp only[if_true] at h
  split at h
  ·exact(aaf.inj h).symm
  ·cases h
 have Ky:∀k o,k≠p.b->Mo k o=im k o:=fun k o h=>by rw[qo];simp only[if_neg h]
 have U4:∀k o v,im k o=some v->Mo k o=some v:=fun k o v h=>by
  rw[Ky k o fun e=>by have:=Yy k o v h;omega];exact h
 have hdd:∀k o,wm.D 0 k o->Mo k o=none:=fun k o hd=>by
  by_cases hk:k=p.b
  ·rw[qo]
   simp only[if_pos hk];rw[if_neg fun ho=>?_];have:=hS.dd 0 _ p rfl hp rfl 0 (by have:=hS.ext 0 _ p rfl hp rfl;simp at this;omega);rw[hk,ho] at hd;exact this hd
  ·rw[Ky k o hk]
   exact hS.fH.md k o hd
 have X9:bX wm WP.zero Mo w1:=(hS.fH.mono U4 hdd).at fun k o v hk=>by
  by_cases I_:k=p.b
  ·subst I_
   have h3:=U3 o v hk;rw[qo] at hk;simp only[if_true] at hk
   split at hk
   ·rename_i ho
    rw[ho,h3];exact n5
   ·cases hk
  ·rw[Ky k o I_] at hk
   exact hS.cK k o v hk
 have Cm:=Me wm WP.zero 0 Mo w1 (Mq 3 p.b p.o 1 5) (qK 3 [3] 5) X9 Bu (by omega) (Ms hM0) Ha;have wg:=Bu.pj Ha;obtain⟨WZ,qy⟩:=MU;obtain⟨s',Jd⟩:∃s',s'=WP.zero.pj (qK 3 [3] 5):=⟨_,rfl⟩;rw[<-Jd] at Cm wg WZ qy;rw[<-Bx,<-M_] at Cm;refine aas Cm fun e w2 ⟨he,jP,eu,x8,hP,bV,vZ,Vm,Cc⟩=>⟨_,he,?_⟩
 have dQ:∀o v,eu p.b o=some v->v=.int .u8 3:=fun o v h=>by
  rcases Cc _ _ _ h with h1|h1
  ·exact U3 o v h1
  ·omega
 obtain⟨pT,Vt⟩:∃M:Mem,M=fun k o=>if k=p.b then none else eu k o:=⟨_,rfl⟩
 have bI:∀k o v,pT k o=some v->k≠p.b/\eu k o=some v:=fun k o v h=>by
  rw[Vt] at h;simp only at h
  split at h
  ·cases h
  ·exact⟨by assumption,h⟩
 have yb:∀k o v,k≠p.b->eu k o=some v->pT k o=some v:=fun k o v h1 h2=>by rw[Vt];simp only[if_neg h1];exact h2
 refine⟨aK aac aay Q w (bq [] []) pT (jP.D s'.seen.length) (bZ jP s' eu) N B7,N,.tup [],_,_,rfl,rfl,rfl,rfl,af.le.refl N,af.le.refl N,hS.Hf (jP.D s'.seen.length) (bZ jP s' eu) pT bV (fun k o hk=>.inl (hO k o hk)) (fun k o hk=>hS.fH.md k o hk) (fun r g q hg hq=>?_) (fun k o hk=>⟨vZ k o hk,x8.there hk⟩) bZ.loc x8.r (fun k o v hk=>x8.mo k o v (bI k o v hk).2) (fun k o v hk=>?_),rfl,rfl,?_⟩
 ·match r,hg with
  |0,hg=>cases hg;exact .inl rfl
 ·rcases Cc _ _ _ (bI k o v hk).2 with h1|h1
  ·rw[Ky k o (bI k o v hk).1] at h1
   exact .inl h1
  ·exact .inr h1
 have hO':∀k o,jP.D s'.seen.length k o->w.heap.size<=k:=fun k o h=>by
  rcases vZ k o h with h1|h1
  ·exact hO k o h1
  ·exact aan hS.aM.size h1
 have ago:eu p.b p.o=some (.int .u8 3):=Vm _ _ _ hM0;have RD:∀o v,eu p.b o=some v->o=p.o:=fun o v h=>by
  rcases Cc _ _ _ h with h1|h1
  ·rw[qo] at h1
   simp only[if_true] at h1
   split at h1
   ·assumption
   ·cases h1
  ·omega
 have YZ:=hp;clear ha he hN x8 X9 Cm bV vZ Vm Cc hM0 U3 Ky U4 hdd qo hO hS n5 Yy;refine X.go yz 400 _ rfl aaz ?_
 conv=>arg 2;cbv
 refine X.call rfl rfl rfl rfl aaR (fun N2 w3 args hN hS ha=>?_);obtain rfl:=fk (vs:=[iE (jP.P 0)]) (by rw[hP,iE,<-Bx,<-M_];rfl) ha;have fU:=hN 0 _ hp;have F4:w3.cell? ⟨p.b,p.o,none⟩=some (.int .u8 3):=by
  obtain⟨v,h1,h2⟩:=hS.cell 0 _ _ rfl fU 0 (.int .u8 (.lit 3)) rfl;simp only[SV.den,SI.den,aA] at h1;rw[h1];exact h2
 have KD:bX jP s' eu w3:=hS.fH.at fun k o v hk=>by
  by_cases I_:k=p.b
  ·subst I_
   rw[RD o v hk,dQ o v hk];exact F4
  ·exact hS.cK k o v (yb k o v I_ hk)
 have hv:=ul jP s' 1 eu w3 KD wg (by omega);rw[WZ] at hv;refine aas hv fun e w4 ⟨⟨pv,cv,he,hm⟩,bV⟩=>?_
 refine⟨_,he,Goes.cZ hN hS bV (r:=.ao pv 1 cv) rfl rfl (fun hold bM=>?_)⟩;obtain⟨iz,eg⟩:∃M,M=bx pT w3 w4:=⟨_,rfl⟩;show X (aK aac aay Q w (bq [] []) (bx pT w3 w4) (jP.D s'.seen.length) (bZ jP s' eu) N B7) _ _;rw[<-eg] at hold bM ⊢;have hp3:p.b<w3.heap.size:=hS.lt 0 p fU;have EG:=hm (fun k o=>if k=p.b then eu k o else iz k o) (fun k o v hk=>by
  by_cases I_:k=p.b
  ·simp only[if_pos I_];exact hk
  ·simp only[if_neg I_];exact hold _ _ _ (yb _ _ _ I_ hk)) (fun k o v hk hc=>by
  rw[if_neg (by omega)];exact bM k o v hk hc)
 obtain⟨b,y,vs,lP,uz,bD⟩:=EG.row (i:=0) rfl;obtain⟨rv,BB,dH⟩:=aI.open uz;obtain⟨g,hg⟩:=cQ.of dH;have BB:vs=aL.aN ⟨1,1,0,0,g,5⟩:=by rw[BB,hg];rfl
 have hbp:b≠p.b:=fun e=>by
  have h:=bD 0 (.int .u8 1) (by rw[BB];rfl);simp only[if_pos e] at h;rw[e] at h;have:=dQ _ _ h;cases this
 obtain⟨zz,hzz⟩:∃z,z=y+0*13:=⟨_,rfl⟩;rw[<-hzz] at bD;have hdm:∀k o,jP.D s'.seen.length k o->iz k o=none:=fun k o hk=>by
  rw[eg];exact EL (by
   cases hm:pT k o with
   |none=>rfl
   |some v =>
    have:=hS.fH.md k o hk;rw[(bI k o v hm).2] at this;cases this) (KD.lt hk)
 have ac_:∀k o v,k≠p.b->eu k o=some v->iz k o=some v:=fun k o v h1 h2=>hold _ _ _ (yb k o v h1 h2)
 clear eg hold bM bV he ha hS hN hm hv KD F4 EG uz dH bI yb Vt hp3 fU;obtain⟨gk,gi,gs,gl,q1,q2,q3,q4,m1,m2,m3,m4,f1,f2,f3,f4⟩:=g;refine X.go yz 400 _ rfl aaz ?_
 conv=>arg 2;cbv
 refine X.eL b zz (aL.cH ⟨1,1,0,0,⟨gk,gi,gs,gl,q1,q2,q3,q4,m1,m2,m3,m4,f1,f2,f3,f4⟩,5⟩) (fun j c hj=>?_) (by simp[aL.cH]) (fun N1 hNN dX=>?_)
 ·obtain⟨_,z2⟩:=SV.aP (N:=[]) (aL.cH ⟨1,1,0,0,⟨gk,gi,gs,gl,q1,q2,q3,q4,m1,m2,m3,m4,f1,f2,f3,f4⟩,5⟩) (rfl:SV.ap [] _=some (aL.aN ⟨1,1,0,0,⟨gk,gi,gs,gl,q1,q2,q3,q4,m1,m2,m3,m4,f1,f2,f3,f4⟩,5⟩))
  obtain⟨v,z3,z4⟩:=z2 j c hj;refine⟨v,z3,?_⟩;have h:=bD j v (by rw[BB];exact z4)
  simpa only [if_neg hbp] using h
 have nX:(N1++[(⟨b,zz,0⟩:aS)])[1]?=some ⟨b,zz,0⟩:=ax dX;have kD:(N1++[(⟨b,zz,0⟩:aS)])[0]?=some p:=b9 (hNN 0 _ hp);show X (aK aac aay Q w (bq [] []) iz (jP.D s'.seen.length) (bZ jP s' eu) (N1++[⟨b,zz,0⟩]) B7) _ _;refine X.iA ([(17,.own 1 0),(24,.own 1 0),(31,.bool (.lit false))]) ([]) yz 400 _ rfl aaz (fun pr pe fin aj bm ai=>?_)
 conv=>cbv
 refine⟨aj _ (au.row (z:=0) rfl rfl (fun _=>rfl) aao aal (by omega) lP nX rfl hzz),aj _ (au.row (z:=0) rfl rfl (fun _=>rfl) aao aal (by omega) lP nX rfl hzz),aj _ (fun _=>⟨Tryz.call13,fun N w1 args hN hS ha=>?_⟩),ai _ _ ?_⟩
 ·obtain rfl:=fk (vs:=[iE (jP.P 0)]) (by rw[hP,iE,<-Bx,<-M_];rfl) ha
  have fU:=hN 0 _ kD;have F4:w1.cell? ⟨p.b,p.o,none⟩=some (.int .u8 3):=by
   obtain⟨v,h1,h2⟩:=hS.cell 0 _ _ rfl fU 0 (.int .u8 (.lit 3)) rfl;simp only[SV.den,SI.den,aA] at h1;rw[h1];exact h2
  have KD:bX jP s' eu w1:=hS.fH.at fun k o v hk=>by
   by_cases I_:k=p.b
   ·subst I_
    rw[RD o v hk,dQ o v hk];exact F4
   ·exact hS.cK k o v (ac_ k o v I_ hk)
  exact(He jP s' eu w1 KD).mono fun e w2 ⟨he,hc⟩=>⟨_,he,by rw[qy];rfl,hc⟩
 refine X.done yz rfl (fun N w' v hN hS hv=>?_);rw[hQ];exact⟨aw hv rfl,hS.aM.none⟩
end Go.Proofs.YthpbefahaghbjaaGreat
namespace Go.bU
open Go
theorem Goes.ZX {E:eR}{N:af}{k:List It}{s:St}{d:Option Nat}{w w':World}{cs:List SV}{n sz:Nat}{q:aS}(D':Nat->Nat->Prop)(R':World->Prop)(hN:E.N0.le N)(h:Sat E.toEnv N s.rg w)(hc:aW (fun _ _=>False) w w')(h1:w.heap.size<=q.b)(h1':q.b<w'.heap.size)(h2:cs.length<=q.x)(h4:∀(j:Nat) (c:SV),cs[j]?=some c->∃v,c.den []=some v/\w'.cell? ⟨q.b,q.o+j,none⟩=some v)
  (h5:∀j,j<q.x->(w'.cell? ⟨q.b,q.o+j,none⟩).isSome=true/\w'.frozen? ⟨q.b,q.o+j,none⟩=false) (fm:∀(r:Nat) (g:Rg),s.rg[r]?=some g->g.ob=none) (hD:∀k o,D' k o->eG w' k o/\¬(k=q.b/\q.o<=o/\o<q.o+q.x)/\(E.D k o\/w.heap.size<=k)) (hl:Loc D' R') (hR:R' w')
  {f':Fr} (hp:eK E.n s.fr d (.val (.osl s.rg.length 0 n sz none))=some f') (hx:X (E.mZ D' R') k ⟨f',s.rg++[⟨true,cs,none⟩]⟩):Goes E N k s.fr d (.slice (some ⟨q.b,q.o,none⟩) n (q.x / sz)) w':=by
 have ef:(N++[q])[s.rg.length]?=some q:=by rw[<-h.len];simp
 have h0:=h.bu hc;have h3:Sat E.toEnv (N++[q]) (s.rg++[⟨true,cs,none⟩]) w':=by
  refine h0.vt (s0:=w.heap.size) (fun r p hp=>h.lt r p hp) h1 h.aM.size h1' h2 (fun j c hj=>?_) h5 (fun i=>?_) (fun i hd=>?_)
  ·obtain⟨v,k1,k2⟩:=h4 j c hj
   exact⟨v,SV.bf (N:=[]) (N':=N) (fun r p h=>by simp at h) c k1,k2⟩
  ·cases hi:E.im q.b i with
   |none=>rfl
   |some v=>have:=aaB _ _ (h.cK _ _ _ hi);simp at this;omega
  ·have:=(h.mj _ _ hd).lt
   omega
 refine⟨E.mZ D' R',N++[q],_,_,f',rfl,rfl,rfl,rfl,af.aZ _ _,hN.trans (af.aZ _ _),⟨h3.len,h3.lt,h3.cell,h3.ext,h3.room,h3.eT,fun r g p ob hg hp ho=>?_,h3.fG,h3.cK,h3.lR,fun r g p hg hp ho j hj hd=>?_,fun k o hd=>(hD k o hd).1,hl,hR,h3.aM,h3.dG⟩,by simp only[SV.den,ef,aS.cap];simp,hp,hx⟩
 ·rcases aC h.len hg hp with ⟨a,b⟩|⟨_,rfl,rfl⟩
  ·rw[fm r g a] at ho;cases ho
  ·cases ho
 ·obtain⟨_,k2,k3⟩:=hD _ _ hd
  rcases aC h.len hg hp with ⟨a,b⟩|⟨_,rfl,rfl⟩
  ·rcases k3 with k3|k3
   ·exact h.dd r g p a b ho j hj k3
   ·have:=h.lt r p b
    omega
  ·exact k2 ⟨rfl,by omega,by omega⟩
end Go.bU
namespace Go.Proofs.YthpbefahaghbjaaGreat
open Go Go.bU
def SpV (l:List aI)(bC:List (List Value))(k o:Nat):Prop:=∃(j:Nat) (x:aI) (vs:List Value) (p':Option Addr) (c':Nat),l[j]?=some x/\bC[j]?=some vs/\vs[7]?=some (.slice p' x.a8.vars.length c')/\XB p' x.a8.vars.length k o
def zU (base:Nat)(q:aS)(l:List aI)(bC:List (List Value))(w:World):Prop :=
 ∀(j:Nat) (x:aI),l[j]?=some x->∃t:aL,bC[j]?=some t.aN/\∃p' c',t.aN[7]?=some (.slice p' x.a8.vars.length c')/\(x.a8.vars≠[]->∃b y,p'=some ⟨b,y,none⟩/\base<=b/\∀u,u<x.a8.vars.length->(∃z,w.cell? ⟨b,y+u,none⟩=some (.int .i64 z))/\w.frozen? ⟨b,y+u,none⟩=false/\¬mK q b (y+u))
theorem zU.loc {base:Nat}{q:aS}{l:List aI}{bC:List (List Value)}:bU.Loc (SpV l bC) (zU base q l bC):=fun w w' hs _ h j x hj=>by
 obtain⟨t,h1,p',c',h2,h3⟩:=h j x hj;refine⟨t,h1,p',c',h2,fun h0=>?_⟩;obtain⟨b,y,e1,e2,e3⟩:=h3 h0;refine⟨b,y,e1,e2,fun u hu=>?_⟩;obtain⟨k1,k2⟩:=(hs b (y+u) ⟨j,x,_,p',c',hj,h1,h2,b,y,e1,rfl,Nat.le_add_right _ _,by omega⟩).1;rw[k1,k2];exact e3 u hu
theorem zU.there {base:Nat}{q:aS}{l:List aI}{bC:List (List Value)}{w:World}(h:zU base q l bC w){k o:Nat}(hd:SpV l bC k o):eG w k o/\base<=k/\¬mK q k o:=by
 obtain⟨j,x,vs,p',c',hj,h1,h2,b,y,e1,rfl,e2,e3⟩:=hd;obtain⟨t,y1,p2,c2,y2,y3⟩:=h j x hj;rw[h1] at y1;cases y1;rw[h2] at y2;simp only[aA,Value.slice.injEq] at y2;obtain⟨rfl,_,rfl⟩:=y2;obtain⟨b2,y',e4,e5,e6⟩:=y3 fun h0=>by rw[h0] at e3;simp at e3;omega
 rw[e1] at e4;cases e4;obtain⟨⟨z,k1⟩,_,k3⟩:=e6 (o-y) (by omega);rw[show y+(o-y)=o by omega] at k1 k3;exact⟨.inl (by rw[k1];rfl),e5,k3⟩
theorem zU.mono {base Q4:Nat}{q:aS}{l:List aI}{bC:List (List Value)}{w:World}(h:zU base q l bC w)(hb:Q4<=base):zU Q4 q l bC w:=fun j x hj=>by
 obtain⟨t,h1,p',c',h2,h3⟩:=h j x hj;refine⟨t,h1,p',c',h2,fun h0=>?_⟩;obtain⟨b,y,e1,e2,e3⟩:=h3 h0;exact⟨b,y,e1,aan hb e2,e3⟩
structure Q1 (base:Nat) (q:aS) (l:List aI) (bC:List (List Value)) (w:World):Prop where
 room:zM q w
 has:lx q bC.flatten w
 var:zU base q l bC w
structure Oz (q:aS) (l:List aI) (bC:List (List Value)):Prop where
 x:l.length*13<=q.x
 len:bC.length=l.length
 row:∀v∈bC,v.length=13/\v.all bc=true
def SpD (q:aS)(l:List aI)(bC:List (List Value))(k o:Nat):Prop:=mK q k o\/SpV l bC k o
theorem Oz.flat {q:aS}{l:List aI}{bC:List (List Value)}(h:Oz q l bC):bC.flatten.length<=q.x:=by
 rw[bO (K:=13) fun v hv=>(h.row v hv).1,h.len];exact h.x
theorem Q1.loc {base:Nat}{q:aS}{l:List aI}{bC:List (List Value)}(ok:Oz q l bC):bU.Loc (SpD q l bC) (Q1 base q l bC):=fun w w' hs hle h=>by
 refine⟨⟨aa8 h.room.1 hle,fun j hj=>?_⟩,h.has.at ok.flat fun k o hi=>(hs k o (.inl hi)).1.1,zU.loc w w' (fun k o hd=>hs k o (.inr hd)) hle h.var⟩;obtain⟨k1,k2⟩:=(hs q.b (q.o+j) (.inl ⟨rfl,by omega,by omega⟩)).1;rw[k1,k2];exact h.room.2 j hj
theorem Q1.there {base:Nat}{q:aS}{l:List aI}{bC:List (List Value)}{w:World}(h:Q1 base q l bC w){k o:Nat}(hd:SpD q l bC k o):eG w k o:=by
 rcases hd with ⟨rfl,h1,h2⟩|hd
 ·have:=(h.room.2 (o-q.o) (by omega)).1
  rw[show q.o+(o-q.o)=o by omega] at this;exact .inl this
 ·exact(h.var.there hd).1
def JN (Mo:Mem)(l:List aI)(w:World):aaj->World->Prop:=fun e w' =>
 (∃p c,e=.returned (.slice p l.length c)/\(∀M:Mem,(∀k o v,Mo k o=some v->M k o=some v)->(∀k o v,w.heap.size<=k->w'.cell? ⟨k,o,none⟩=some v->M k o=some v)->dC M p c 13 (l.map aI.toD)) /\
  ∃(q:aS) (bC:List (List Value)),p=some ⟨q.b,q.o,none⟩/\c=q.x / 13/\w.heap.size<=q.b/\Oz q l bC/\Q1 w.heap.size q l bC w'/\zN Mo w q l bC w')/\aW (fun _ _=>False) w w'
theorem BI.s {Mo:Mem}{l:List aI}{w w':World}{e:aaj}(h0:l≠[])(h:BI Mo l w e w'):JN Mo l w e w':=by
 obtain⟨⟨p,c,h1,h2,h3⟩,bV⟩:=h;obtain⟨q,e1,e2,e3,e4,e5,bC,e6,e7,e8,e9,e10⟩:=h3 h0;refine⟨⟨p,c,h1,h2,q,bC,e1,e2,e3,⟨e5,e6,e8⟩,⟨e4,e7,fun j x hj=>?_⟩,e10⟩,bV⟩;obtain⟨t,y1,p',c',y2,y3⟩:=e9 j x hj;refine⟨t,y1,p',c',y2,fun hv=>?_⟩;obtain⟨b,y,z1,z2,z3⟩:=y3 hv;refine⟨b,y,z1,z2,fun u hu=>?_⟩;obtain⟨z,hz⟩:∃z,x.a8.vars[u]?=some z:=⟨_,aah hu⟩;obtain⟨k1,k2,k3⟩:=z3 u z hz;exact⟨⟨z,k1⟩,k2,k3⟩
theorem Bn (wm:WM)(s:WP)(n:Nat)(Mo:Mem)(w:World)(h:bX wm s Mo w)(ok:s.Ok n)(hn:n<=1000)(h0:s.l≠[]):Calls aac 10 #[iE (wm.P 0)] w (JN Mo s.l w):=by
 obtain⟨Q,hQ⟩:∃Q:aaj->World->Prop,Q=JN Mo s.l w:=⟨_,rfl⟩;rw[<-hQ];obtain⟨pv,lP⟩:∃v:Option Addr × Nat × Nat,v=(some ⟨(wm.P 1).b,(wm.P 1).o,none⟩,s.l.length,(wm.P 1).x / 13):=⟨_,rfl⟩;obtain⟨pp,pn,pc⟩:=pv;have aF:=(h.room 0 (by omega)).1;have bD:∀(j:Nat) (c:SV),(oY wm s)[j]?=some c->∃v,c.den [⟨(wm.P 0).b,(wm.P 0).o,4⟩]=some v/\w.cell? ⟨(wm.P 0).b,(wm.P 0).o+j,none⟩=some v:=fun j c hj=>by
  obtain⟨z1,z2⟩:=SV.aP (N:=[⟨(wm.P 0).b,(wm.P 0).o,4⟩]) (oY wm s) (rI wm s _);obtain⟨v,z3,z4⟩:=z2 j c hj;exact⟨v,z3,h.hd.2 j v z4⟩
 refine X.begin (rg:=[⟨false,oY wm s,none⟩]) (N:=[⟨(wm.P 0).b,(wm.P 0).o,4⟩]) (ss:=[.own 0 0]) aaH rfl DE rfl rfl (Sat.w_ false aF bD (fun h=>(by cases h))) ?_;show X (aK aac aaD Q w (bq [⟨(wm.P 0).b,(wm.P 0).o,4⟩] [⟨false,oY wm s,none⟩]) (ab [⟨(wm.P 0).b,(wm.P 0).o,4⟩] [⟨false,oY wm s,none⟩] w) (fun _ _=>False) (fun _=>True) [⟨(wm.P 0).b,(wm.P 0).o,4⟩] Xj) _ _;have xE:oY wm s=[.raw (.map (some wm.m)),.ao pp pn pc,sF (wm.P 2) s.all,.bool (.v s.da)]:=by
  unfold oY;have:sF (wm.P 1) s.l=.ao pp pn pc:=by
   unfold sF;rw[if_neg h0];simp only[aaA] at lP;rw[lP.1,lP.2.1,lP.2.2]
  rw[this]
 rw[xE];refine X.go my 400 _ rfl aau ?_
 conv=>arg 2;cbv
 refine X.call rfl rfl rfl rfl aaE (fun N w1 args hN hS ha=>?_);obtain rfl:args=[.slice pp pn pc]:=(aaf.inj ha).symm;have iJ:aW (fun _ _=>False) w w1:=hS.aM.mono fun k o _ h=>absurd h (iv _ _)
 have Dy:Calls aac 26 #[.slice pp pn pc] w1 (BI Mo s.l w1):=by
  obtain⟨rfl,rfl,rfl⟩:pp=_/\pn=_/\pc=_:=by simpa using lP
  exact xy Mo (wm.P 1) s.l _ w1 (fun k o v hk=>bw iJ (fun h=>h) (h.mo k o v hk)) (h.l.aM iJ fun _ _ _ h=>h) h0 (by have:=ok.l;omega) ok.vl
 refine Dy.mono fun e w2 hvn=>?_
 obtain⟨⟨p,c,he,hm,q,bC,hp,hc,AA,dm,EH,Zc⟩,bV⟩:=hvn.s h0;have yh:w.heap.size<=w1.heap.size:=hS.aM.size;obtain⟨ln,Rm⟩:∃z,z=s.l.length:=⟨_,rfl⟩;rw[<-Rm] at he;refine⟨_,he,Goes.GD (SpD q s.l bC) (Q1 w1.heap.size q s.l bC) hN hS bV (r:=.ao p ln c) rfl rfl (fun r g p hg hp ho j hj hd=>?_) (fun r g hg=>?_) (fun k o hd=>EH.there hd) (Q1.loc dm) EH (fun hold bM=>?_)⟩
 ·match r,hg with
  |0,hg=>cases hg;cases ho
 ·match r,hg with
  |0,hg=>cases hg;rfl
 obtain⟨iz,eg⟩:∃iz,iz=bx (ab [⟨(wm.P 0).b,(wm.P 0).o,4⟩] [⟨false,[.raw (.map (some wm.m)),.ao pp pn pc,sF (wm.P 2) s.all,.bool (.v s.da)],none⟩] w) w1 w2:=⟨_,rfl⟩;have fM:∀M:Mem,(∀k o v,Mo k o=some v->M k o=some v)->(∀k o v,w.heap.size<=k->iz k o=some v->M k o=some v)->dC M p c 13 (s.l.map aI.toD):=fun M h1 h2=>hm M h1 fun k o v hk hc=>h2 k o v (aan yh hk) (by rw[eg];exact cA (fun k o v h=>(hS.bu bV).cK _ _ _ h) hk hc)
 have Zd:∃Mr:Mem,(∀k o v,Mr k o=some v->¬mK q k o/\(Mo k o=some v\/(w.heap.size<=k/\iz k o=some v)))/\∀(j:Nat) (x:aI),s.l[j]?=some x->∃vs,bC[j]?=some vs/\az Mr x.toD vs:=by
  obtain⟨Mr,k1,k2⟩:=Zc;refine⟨Mr,fun k o v hk=>?_,k2⟩;obtain⟨k3,k4,k5⟩:=k1 k o v hk;refine⟨k4,k5.imp id fun h5=>⟨aan yh h5,?_⟩⟩;rw[eg];exact cA (fun k o v h=>(hS.bu bV).cK _ _ _ h) h5 k3
 obtain⟨bs,Rf⟩:∃b,b=w1.heap.size:=⟨_,rfl⟩;show X (aK aac aaD Q w (bq [⟨(wm.P 0).b,(wm.P 0).o,4⟩] [⟨false,[.raw (.map (some wm.m)),.ao pp pn pc,sF (wm.P 2) s.all,.bool (.v s.da)],none⟩]) (bx (ab [⟨(wm.P 0).b,(wm.P 0).o,4⟩] [⟨false,[.raw (.map (some wm.m)),.ao pp pn pc,sF (wm.P 2) s.all,.bool (.v s.da)],none⟩] w) w1 w2) (SpD q s.l bC) (Q1 w1.heap.size q s.l bC) [⟨(wm.P 0).b,(wm.P 0).o,4⟩] Xj) _ _;rw[<-eg,<-Rf];rw[<-Rf] at yh AA;clear eg hold bM bV he ha hS hN hm Dy iJ EH hvn Rf Zc;refine X.go my 400 _ rfl aau ?_
 conv=>arg 2;cbv
 refine X.done my rfl (fun N w' v hN hS hv=>?_);simp only[bz,SV.den,aA] at hv;rw[hQ];refine⟨⟨p,c,by rw[<-hv,Rm],fun M h1 h2=>fM M h1 fun k o v hk hv=>h2 k o v hk (hS.cK _ _ _ hv),q,bC,hp,hc,by omega,dm,?_,?_⟩,hS.aM.mono fun k o _ h=>absurd h (iv _ _)⟩
 ·exact⟨hS.fH.room,hS.fH.has,hS.fH.var.mono yh⟩
 ·have hcw:aW (fun _ _=>False) w w':=hS.aM.mono fun k o _ h=>absurd h (iv _ _)
  obtain⟨Mr,k1,k2⟩:=Zd;refine⟨Mr,fun k o v hk=>?_,k2⟩;obtain⟨k4,k5⟩:=k1 k o v hk;refine⟨?_,k4,k5.imp id And.left⟩;rcases k5 with h5|⟨_,h5⟩
  ·exact bw hcw (fun h=>h) (h.mo k o v h5)
  ·exact hS.cK _ _ _ h5
end Go.Proofs.YthpbefahaghbjaaGreat
namespace Go.Proofs.YthpbefahaghbjaaGreat
open Go Go.bU Go.Sort
theorem dC.take {M:Mem}{p:Option Addr}{c K:Nat}{l:List (List Dt)}(h:dC M p c K l)(n:Nat):dC M p c K (l.take n):=by
 obtain⟨⟨h1,h2⟩,h3⟩:=h;have hl:(l.take n).length<=l.length:=by simp;omega
 refine⟨⟨by omega,by omega⟩,?_⟩;rcases h3 with rfl|⟨b,y,hp,h4⟩
 ·exact .inl (by simp)
 ·refine .inr ⟨b,y,hp,fun i d hi=>h4 i d ?_⟩
  rw[List.getElem?_take] at hi
  split at hi
  ·exact hi
  ·cases hi
structure SpI (l:List aI) (bC Dk:List (List Value)):Prop where
 len:Dk.length=l.length
 row:∀v∈Dk,v.length=13/\v.all bc=true
 same:∀(j:Nat) (x:aI),l[j]?=some x->∃t t0:aL,bC[j]?=some t0.aN/\Dk[j]?=some t.aN/\t.aN[7]?=t0.aN[7]?
theorem uY {E:Env}{N0:af}{rg:List Rg}{f:Fr}{g:GK}{t e q:TypeId}{x hi:Operand}{kd:IntKind}{s:SI}{p:Option Addr}{n c m:Nat}(hx:hY f g x=some (.ao p n c))(PM:hY f g hi=some (.int kd s))(hz:s.den=(m:Int))(hm:m<=c)(hu:E.P.underlying t=some (.slice e))(hq:∀w,(sizeOf e).run E.P w=.ok q w):au E N0 rg f g (.slice t x none (some hi) none) (.ao p m c):=by
 intro ht N ρ op w ck cC df hV;have e1:=df _ _ hx;have e2:=df _ _ PM;simp only[SV.den,aA] at e1 e2;refine⟨.slice p m c,rfl,fun w' _=>?_⟩;have hb:=dI (P:=E.P) (w:=w') (gQ:=ρ) (b:=true) (len:=n) (cap:=c) (lo:=none) (hi:=some hi) (mx:=none) (l:=none) (h:=some m) (m:=none) (.inl ⟨rfl,rfl⟩) (.inr ⟨kd,m,by simp[<-e2,hz],rfl⟩) (.inl ⟨rfl,rfl⟩)
  (by simp) (by simpa using hm) (by simp) (by simp)
 simp only[Option.map_none,Option.map_some,Option.getD_none,Option.getD_some] at hb;cases p<;>simp[execOp,cC,<-e1,Instr.sliceAt,run_underlying hu,Result.andThen,Instr.slice,hb,hq,Addr.add]
structure afo (l:List aO) (base pb py:Nat) (V7:Mem) where
 (i:Nat) (wd:WM) (s:WP) (Mo:Mem) (pw:Option Addr) (nw cw:Nat)
 hi:i<=l.length
 ok:s.Ok i
 far:∀k o,wd.D s.seen.length k o->base<=k
 md:∀k o,wd.D s.seen.length k o->Mo k o=none
 im:∀k o v,V7 k o=some v->Mo k o=some v
 p0:pb=(wd.P 0).b/\py=(wd.P 0).o
 was:nw=s.l.length/\dC Mo pw cw 13 (s.l.map aI.toD)
theorem yB (t:aL)(kb ky:Nat)(key:Int)(w:World)(hk:w.cell? ⟨kb,ky,none⟩=some (.int .u8 key)) :
  Calls aac 29 #[.agg t.aN.toArray,.pointer (some ⟨kb,ky,none⟩)] w fun e w'=>e=.returned (.bool (!decide (t.key=key)))/\aW (fun _ _=>False) w w':=by
 obtain⟨Jg,QK,QL,QM,⟨vk,vi,vs,vl,r1,r2,r3,r4,o1,o2,o3,o4,j1,j2,j3,j4⟩,QQ⟩:=t;refine X.begin (rg:=[⟨false,[.int .u8 (.v key)],none⟩]) (N:=[⟨kb,ky,1⟩]) (ss:=[.agg (aL.cH ⟨Jg,QK,QL,QM,⟨vk,vi,vs,vl,r1,r2,r3,r4,o1,o2,o3,o4,j1,j2,j3,j4⟩,QQ⟩),.own 0 0]) Tryz.func29 rfl SL rfl rfl
  (Sat.w_ false (aaB _ _ hk) (fun j c hj=>by
   match j,hj with
   |0,hj=>simp at hj;subst hj;exact⟨_,rfl,hk⟩) (fun h=>by cases h)) ?_
 refine X.go JB 400 _ rfl Tryz.results29 ?_
 conv=>arg 2;cbv
 refine X.done JB rfl (fun N w' v hN hS hv=>⟨aw hv ?_,hS.aM.ZW⟩);show(Jg != key)=!decide (Jg=key)
 by_cases h:Jg=key<;>simp[h]
def cfV (x y:aL):Int:=Nl (jE x.b1 y.b1) (jE x.b2 y.b2) (jE x.b3 y.b3)
theorem Hu (x y:aL)(w:World) :
  Calls aac 31 #[.agg x.aN.toArray,.agg y.aN.toArray] w fun e w'=>e=.returned (.int .i64 (cfV x y))/\aW (fun _ _=>False) w w':=by
 obtain⟨z,hz⟩:∃z,z=cfV x y:=⟨_,rfl⟩;have hb:=fun w1=>BO x.b1 x.b2 x.b3 y.b1 y.b2 y.b3 w1
 rw[<-hz];obtain⟨xky,Xh,Xi,xb3,⟨xk,xi,xs,xl,r1,r2,r3,r4,o1,o2,o3,o4,j1,j2,j3,j4⟩,xta⟩:=x;obtain⟨yky,yb1,yb2,yb3,⟨yk,yi,ys,yl,s1,s2,s3,s4,p1,p2,p3,p4,k1,k2,k3,k4⟩,yta⟩:=y;refine X.begin (rg:=[]) (N:=[]) (ss:=[.agg (aL.cH ⟨xky,Xh,Xi,xb3,⟨xk,xi,xs,xl,r1,r2,r3,r4,o1,o2,o3,o4,j1,j2,j3,j4⟩,xta⟩),.agg (aL.cH ⟨yky,yb1,yb2,yb3,⟨yk,yi,ys,yl,s1,s2,s3,s4,p1,p2,p3,p4,k1,k2,k3,k4⟩,yta⟩)]) Tryz.func31 rfl SM rfl rfl Sat.bp ?_;refine X.iA ([(9,.int .i64 (.v z))]) ([]) JC 400 _ rfl Tryz.results31 (fun pr pe fin aj bm ai=>?_)
 conv=>cbv
 refine⟨aj _ (.of Tryz.call32 [.agg #[.int .u64 Xh,.int .u8 Xi,.int .u32 xb3],.agg #[.int .u64 yb1,.int .u8 yb2,.int .u32 yb3]] (.int .i64 z) (fun _=>rfl) (fun _=>rfl) fun _ w1 _=>by rw[hz];exact hb w1),ai _ _ ?_⟩;refine X.done JC rfl (fun N w' v hN hS hv=>⟨bB hv rfl,hS.aM.mono fun k o _ h=>aB h⟩)
def kL (l:List aL):List Value:=(l.map aL.aN).flatten
theorem aL.len (t:aL):t.aN.length=13:=rfl
theorem B4 (l:List aL):∀v∈l.map aL.aN,v.length=13:=fun v hv=>by obtain⟨x,_,rfl⟩:=aaJ.1 hv;rfl
theorem gN (l:List aL):(kL l).length=l.length*13:=by
 unfold kL;rw[bO (K:=13) (B4 l),aae]
theorem Pj {l:List aL}{i:Nat}{x:aL}(h:l[i]?=some x):∃A B:List Value,A.length=i*13/\∀u:aL,kL (l.set i u)=A++u.aN++B:=by
 obtain⟨A,B,h1,h2⟩:=wP (bC:=l.map aL.aN) (i:=i) (vs:=x.aN) (by simp[h]) (B4 l);refine⟨A,B,h1,fun u=>?_⟩;rw[<-h2,<-List.map_set];rfl
theorem F3 {l:List aL}{i:Nat}{x:aL}(h:l[i]?=some x):∃A B:List Value,A.length=i*13/\kL l=A++x.aN++B/\∀u:aL,kL (l.set i u)=A++u.aN++B:=by
 obtain⟨A,B,h1,h2⟩:=Pj h;refine⟨A,B,h1,?_,h2⟩;rw[<-h2]
 congr 1
 obtain⟨y1,y2⟩:=aai.1 h;rw[<-y2];exact(List.set_getElem_self y1).symm
theorem s5 {l:List aL}{i:Nat}{x:aL}(h:l[i]?=some x){j:Nat}{v:Value}(hj:x.aN[j]?=some v):(kL l)[i*13+j]?=some v:=by
 obtain⟨A,B,h1,h2,_⟩:=F3 h;have uT:=(aai.1 hj).1;rw[h2,aaZ,List.getElem?_append_right (by omega),h1,Nat.add_sub_cancel_left,aa0 uT];exact hj
theorem aL.uX (t:aL)(N:af):SV.ap N t.cH=some t.aN:=rfl
theorem aL.Qz (t:aL)(N:af)(v:Value)(h:(SV.agg (a7 t.aN)).den N=some v):(SV.agg t.cH).den N=some v:=by
 simp only[SV.den,c9 (vs:=t.aN) rfl N] at h;simp only[SV.den,aL.uX];exact h
def ZF (key:Int)(x:aL):Bool:=decide (x.key=key)
def fF (key:Int)(l:List aL):List aL:=l.filter (ZF key)
theorem H0 (l:List aL)(key:Int)(b y c kb ky:Nat)(w:World)(hl:l.length<=1000)(hr:∀(j:Nat) (v:Value),(kL l)[j]?=some v->w.cell? ⟨b,y+j,none⟩=some v)(hk:w.cell? ⟨kb,ky,none⟩=some (.int .u8 key)) :
  Calls aac 58 #[.slice (some ⟨b,y,none⟩) l.length c,.func (.func 29) #[] #[.pointer (some ⟨kb,ky,none⟩)]] w fun e w'=>(∃r:Int,e=.returned (.int .i64 r)/\((r=-1/\fF key l=l)\/∃i:Nat,r=i/\i<l.length/\fF key (l.take (i+1))=l.take i))/\aW (fun _ _=>False) w w':=by
 obtain⟨Q,hQ⟩:∃Q:aaj->World->Prop,Q=fun e w'=>(∃r:Int,e=.returned (.int .i64 r)/\((r=-1/\fF key l=l)\/∃i:Nat,r=i/\i<l.length/\fF key (l.take (i+1))=l.take i))/\aW (fun _ _=>False) w w':=⟨_,rfl⟩
 rw[<-hQ];obtain⟨n,hn⟩:∃n,n=l.length:=⟨_,rfl⟩;rw[<-hn];refine X.begin (rg:=[]) (N:=[]) (ss:=[.ao (some ⟨b,y,none⟩) n c,.fn 29 [.ext kb ky 0]]) Tryz.func58 rfl Jm rfl rfl Sat.bp ?_;obtain⟨im,aV⟩:∃im,im=ab [] [] w:=⟨_,rfl⟩;have ct:∀k o v,w.cell? ⟨k,o,none⟩=some v->im k o=some v:=fun k o v h=>by rw[aV];exact kM h
 show X (aK aac Tryz.f58 Q w (bq [] []) (ab [] [] w) (fun _ _=>False) (fun _=>True) [] B58) _ _;rw[<-aV];obtain⟨pp,PW⟩:∃pp,pp=some (Addr.mk b y none):=⟨_,rfl⟩;rw[<-PW];refine X.go mA 400 _ rfl aav ?_
 conv=>arg 2;cbv
 refine X.gB (fun i:{i:Nat // i<=n/\fF key (l.take i)=l.take i}=>⟨[(0,.val (.ao pp n c)),(1,.val (.fn 29 [.ext kb ky 0])),(7,.val (.int .i64 (.nat n))),(8,.val (.int .i64 (.nat i.1)))],[]⟩) (fun i=>n-i.1) (fun N a w' hN hf hS=>⟨⟨0,aap _,rfl⟩,?_⟩) (fun i q' cF=>?_)
 ·exact At.eJ hf hS trivial
 obtain⟨i,hi,l7⟩:=i;refine X.go mA 400 _ rfl aav ?_
 conv=>arg 2;cbv
 refine X.cond rfl (fun aF=>?_) (fun cJ=>?_)
 ·simp only[SB.T,SI.den] at aF
  have aF:(i:Int)<(n:Int):=aF;have aF:i<n:=by omega
  obtain⟨x,hx⟩:∃x,l[i]?=some x:=⟨_,aah (by omega)⟩;obtain⟨h,hh⟩:∃h,h=!decide (x.key=key):=⟨_,rfl⟩;have hc:=fun(w1:World) (bI:∀k o v,im k o=some v->w1.cell? ⟨k,o,none⟩=some v)=>yB x kb ky key w1 (bI _ _ _ (ct _ _ _ hk))
  rw[<-hh] at hc;have n5:∀(j:Nat) (v:Value),x.aN[j]?=some v->im b (y+i*13+j)=some v:=fun j v hj=>by
   rw[aa9];exact ct _ _ _ (hr _ _ (s5 hx hj))
  have Zn:fF key (l.take (i+1))=if h=true then l.take i else l.take (i+1):=by
   rw[aaK,hx];unfold fF at l7 ⊢;rw[aa1,l7]
   by_cases yO:x.key=key<;>simp[ZF,yO,hh]
  obtain⟨Jg,QK,QL,QM,⟨vk,vi,vs,vl,r1,r2,r3,r4,o1,o2,o3,o4,j1,j2,j3,j4⟩,QQ⟩:=x;obtain⟨z,hz⟩:∃z,z=y+i*13:=⟨_,rfl⟩;rw[<-hz] at n5;refine X.eL b z (aL.cH ⟨Jg,QK,QL,QM,⟨vk,vi,vs,vl,r1,r2,r3,r4,o1,o2,o3,o4,j1,j2,j3,j4⟩,QQ⟩) (eh n5 rfl) (by simp[aL.cH]) (fun N1 dQ dX=>?_);have nX:(N1++[(⟨b,z,0⟩:aS)])[0]?=some ⟨b,z,0⟩:=ax dX;refine X.iA ([(14,.own 0 0),(16,.bool (.v h))]) ([]) mA 400 _ rfl aav (fun pr pe fin aj bm ai=>?_)
  conv=>cbv
  refine⟨aj _ (au.row rfl rfl (fun _=>rfl) aao aal aF PW nX rfl hz),aj _ (.of aaS [.agg (aL.aN ⟨Jg,QK,QL,QM,⟨vk,vi,vs,vl,r1,r2,r3,r4,o1,o2,o3,o4,j1,j2,j3,j4⟩,QQ⟩).toArray,.pointer (some ⟨kb,ky,none⟩)] (.bool h) (fun _=>rfl) (fun _=>rfl) fun _ w1 bI=>hc w1 bI),ai _ _ ?_⟩;refine X.cond rfl (fun hT=>?_) (fun hF=>?_)
  ·simp only[SB.T] at hT
   refine X.go mA 400 _ rfl aav ?_
   conv=>arg 2;cbv
   refine X.done mA rfl (fun N w' v hN hS hv=>?_);rw[hQ];exact⟨⟨(i:Int),by rw[<-(aaf.inj hv:_=v)];rfl,.inr ⟨i,rfl,by omega,by rw[Zn,if_pos hT]⟩⟩,hS.aM.none⟩
  ·simp only[SB.F] at hF
   have KZ:n<=1000:=by omega
   refine X.go mA 400 _ rfl aav ?_
   conv=>arg 2;cbv
   refine X.back (fun N a w' hN hf hS=>cF ⟨i+1,by omega,by rw[Zn,if_neg (by rw[hF];simp)]⟩ a w' (by simp only;omega) ?_);exact At.eJ hf hS trivial
 simp only[SB.F,SI.den] at cJ;have cJ:(n:Int)<=(i:Int):=cJ;refine X.go mA 400 _ rfl aav ?_
 conv=>arg 2;cbv
 refine X.done mA rfl (fun N w' v hN hS hv=>?_);rw[hQ];refine⟨⟨-1,by rw[<-(aaf.inj hv:_=v)];rfl,.inl ⟨rfl,?_⟩⟩,hS.aM.none⟩;rw[aa2 (by omega)] at l7;exact l7
theorem C2 {z:List SV}(h:z.all SV.one=true):∀n,(nu n z).all SV.one=true
 |0=>rfl
 |n+1=>by rw[nu,List.all_append,h,C2 h n];rfl
structure NP (l:List aL) (key:Int) (i j:Nat) (vs:List aL):Prop where
 hi:i<=l.length
 hj:j<i
 len:vs.length=l.length
 take:vs.take j=fF key (l.take i)
 drop:vs.drop i=l.drop i
theorem H2 {l:List aL}{key:Int}{i:Nat}{x:aL}(hx:l[i]?=some x):fF key (l.take (i+1))=if x.key=key then fF key (l.take i)++[x] else fF key (l.take i):=by
 rw[aaK,hx];unfold fF;rw[aa1]
 by_cases h:x.key=key<;>simp[ZF,h]
theorem Pd (l:List aL)(key:Int)(b y K kb ky:Nat)(w:World)(hl:l.length<=1000)(hK:l.length*13<=K)(hK0:0<K)(hA:∀(j:Nat) (v:Value),(kL l)[j]?=some v->w.cell? ⟨b,y+j,none⟩=some v)(iq:∀j,j<K->(w.cell? ⟨b,y+j,none⟩).isSome=true/\w.frozen? ⟨b,y+j,none⟩=false)
  (hk:w.cell? ⟨kb,ky,none⟩=some (.int .u8 key)) (hkr:¬(kb=b/\y<=ky/\ky<y+K)) :
  Calls aac 28 #[.slice (some ⟨b,y,none⟩) l.length (K / 13),.func (.func 29) #[] #[.pointer (some ⟨kb,ky,none⟩)]] w (qW b y K (a7 (kL (fF key l))) (fF key l).length 13 w):=by
 obtain⟨Q,hQ⟩:∃Q:aaj->World->Prop,Q=qW b y K (a7 (kL (fF key l))) (fF key l).length 13 w:=⟨_,rfl⟩;rw[<-hQ];obtain⟨n,hn⟩:∃n,n=l.length:=⟨_,rfl⟩;rw[<-hn];obtain⟨dl,s_⟩:∃d,d=a7 (kL l):=⟨_,rfl⟩;have HJ:dl.length=n*13:=by rw[s_,bN,gN,hn]
 have HS:∀(vs:List Value) (c:SV),c∈a7 vs->∀(N N':af) (v:Value),c.den N=some v->c.den N'=some v:=fun vs c hc N N' v h=>mh hc h
 have YX:∀l:List aL,(kL l).all bc=true:=fun l=>by
  rw[aar];intro v hv;obtain⟨r,h1,h2⟩:=aaL.1 hv;obtain⟨x,_,rfl⟩:=aaJ.1 h1;have:x.aN.all bc=true:=rfl;exact aar.1 this v h2
 have bD:∀(j:Nat) (c:SV),dl[j]?=some c->∃v,c.den [⟨b,y,K⟩]=some v/\w.cell? ⟨b,y+j,none⟩=some v:=fun j c hj=>by
  rw[s_,a7,aag,aax] at hj;obtain⟨v,hv,rfl⟩:=hj;have ho:bc v=true:=aar.1 (YX l) v (aaw hv);exact⟨v,by simp[SV.den,ho],hA j v hv⟩
 have aF:b<w.heap.size:=aaB _ _ (aa7.1 (iq 0 (by omega)).1).choose_spec;have HK:∀(N:af) (rg:List Rg) (w':World) (im:Mem) (cs:List SV) (m:Nat) (v:Value),af.le [⟨b,y,K⟩] N->Sat (aK aac aaI Q w (bq [⟨b,y,K⟩] [⟨true,dl,none⟩]) im (fun _ _=>False) (fun _=>True) [⟨b,y,K⟩] WB).toEnv N rg w'->rg[0]?=some ⟨true,cs,none⟩->a7 (kL (fF key l)) <+: cs->m=(fF key l).length->(bz [.osl 0 0 m 13 none]).den N=some v->Q (.returned v) w':=fun N rg w' im cs m v hN hS hr EC hm hv=>by
  have hp:N[0]?=some ⟨b,y,K⟩:=hN 0 _ rfl;simp only[bz,SV.den,hp,aS.cap,aaG,aba,aA] at hv;have hx:=hS.ext 0 _ _ hr hp rfl;rw[hQ];refine⟨b,y,K,by rw[<-hv,hm],.inl ⟨rfl,rfl,rfl⟩,aan EC.length_le hx,hK0,fun j c hj=>?_,hS.room 0 _ _ hr hp rfl,hS.aM.mono fun k o _ h=>?_⟩
  ·obtain⟨t,ht⟩:=EC
   obtain⟨u,h1,h2⟩:=hS.cell 0 _ _ hr hp j c (by show cs[j]?=some c;rw[<-ht,aa0 (aai.1 hj).1];exact hj);exact⟨u,HS _ c (aaw hj) N [] u h1,h2⟩
  ·rcases Cr h with ⟨_,h1,h2,h3⟩|h
   ·exact⟨h1,h2,h3⟩
   ·exact absurd h aB
 refine X.begin (rg:=[⟨true,dl,none⟩]) (N:=[⟨b,y,K⟩]) (ss:=[.osl 0 0 n 13 none,.fn 29 [.ext kb ky 0]]) Tryz.func28 rfl Jl rfl rfl (Sat.Z0 ⟨⟨aF,rfl,bD,fun _=>by show dl.length<=K;omega,fun _=>iq⟩,trivial⟩ ⟨trivial,trivial⟩) ?_;obtain⟨im,aV⟩:∃im,im=ab [⟨b,y,K⟩] [⟨true,dl,none⟩] w:=⟨_,rfl⟩;have Yx:im kb ky=some (.int .u8 key):=by
  rw[aV];unfold ab;rw[if_neg fun h=>?_]
  ·exact hk
  ·rcases Cr h with ⟨_,h1,h2,h3⟩|h
   ·exact hkr ⟨h1,h2,h3⟩
   ·exact absurd h aB
 show X (aK aac aaI Q w (bq [⟨b,y,K⟩] [⟨true,dl,none⟩]) (ab [⟨b,y,K⟩] [⟨true,dl,none⟩] w) (fun _ _=>False) (fun _=>True) [⟨b,y,K⟩] WB) _ _;rw[<-aV];refine X.go ic 400 _ rfl aam ?_
 conv=>arg 2;cbv
 refine X.call rfl rfl rfl rfl Tryz.call58 (fun N w1 args hN hS ha=>?_);have hp:N[0]?=some ⟨b,y,K⟩:=hN 0 _ rfl;obtain rfl:=fk (vs:=[.slice (some ⟨b,y,none⟩) n (K / 13),.func (.func 29) #[] #[.pointer (some ⟨kb,ky,none⟩)]]) (by simp only[SV.ap,SV.den,hp,aS.cap];rfl) ha;have PN:=H0 l key b y (K / 13) kb ky w1 hl (fun j v hj=>by
  obtain⟨u,h1,h2⟩:=hS.cell 0 _ _ rfl hp j (.raw v) (by rw[s_,a7,aag,hj];rfl);have ho:bc v=true:=aar.1 (YX l) v (aaw hj);simp only[SV.den,ho,if_true,aA] at h1;rw[h1];exact h2) (hS.cK _ _ _ Yx)
 rw[<-hn] at PN;refine aas PN fun e w2 ⟨⟨r,he,hr⟩,hc⟩=>?_
 rcases hr with ⟨rfl,fI⟩|⟨i,rfl,hi,l7⟩
 ·refine⟨_,he,Goes.same (r:=.int .i64 (.lit (-1))) hN hS hc rfl rfl ?_⟩
  clear ha he hc hS hN PN hp;refine X.go ic 400 _ rfl aam ?_
  conv=>arg 2;cbv
  refine X.done ic rfl (fun N w' v hN hS hv=>?_);exact HK N _ w' im dl n v hN hS rfl (by rw[fI,<-s_];exact List.prefix_refl _) (by rw[fI,hn]) hv
 refine⟨_,he,Goes.same (r:=.int .i64 (.nat i)) hN hS hc rfl rfl ?_⟩;clear ha he hc hS hN PN hp;refine X.go ic 400 _ rfl aam ?_
 conv=>arg 2;cbv
 refine X.cond rfl (fun hT=>?_) (fun hF=>?_)
 ·exfalso
  simp only[SB.T,SI.den] at hT;omega
 clear hF;have KZ:n<=1000:=by omega
 have hI0:NP l key (i+1) i l:=⟨by omega,by omega,rfl,l7.symm,rfl⟩;refine X.go ic 400 _ rfl aam ?_
 conv=>arg 2;cbv
 refine X.gB (fun g:{g:Nat × Nat × List aL // NP l key g.1 g.2.1 g.2.2}=>⟨[(0,.val (.osl 0 0 n 13 none)),(1,.val (.fn 29 [.ext kb ky 0])),(4,.val (.raw (.slice none 0 0))),(5,.val (.int .i64 (.nat g.1.2.1))),(6,.val (.int .i64 (.nat g.1.1)))],[⟨true,a7 (kL g.1.2.2),none⟩]⟩) (fun g=>n-g.1.1) (fun N a w' hN hf hS=>⟨⟨(i+1,i,l),hI0⟩,?_⟩) (fun g q' cF=>?_)
 ·exact At.mk hN hf hS (aak 1) (by repeat first|exact trivial|refine Dm rfl rfl ?_|refine mi rfl rfl rfl ?_|refine mi rfl rfl (by simp (disch:=omega) [SV.den,SI.den,lv,lu]<;>omega) ?_) ⟨fun h=>h,(by rw[s_];exact aR.refl gx),rfl,trivial⟩ (fun _ _ _ h=>h) hS.loc hS.fH
 clear l7 hi hI0;clear i;obtain⟨⟨i,j,vs⟩,hI⟩:=g;simp only at hI;have yd:=hI.hi;have I9:=hI.hj;rw[<-hn] at yd;have hvl:vs.length=n:=by rw[hI.len,hn]
 obtain⟨d2,gT⟩:∃d,d=a7 (kL vs):=⟨_,rfl⟩;have PI:d2.length=n*13:=by rw[gT,bN,gN,hvl]
 show X (aK aac aaI Q w (bq [⟨b,y,K⟩] [⟨true,dl,none⟩]) im (fun _ _=>False) (fun _=>True) [⟨b,y,K⟩] WB) _ ⟨[(0,.val (.osl 0 0 n 13 none)),(1,.val (.fn 29 [.ext kb ky 0])),(4,.val (.raw (.slice none 0 0))),(5,.val (.int .i64 (.nat j))),(6,.val (.int .i64 (.nat i)))],[⟨true,a7 (kL vs),none⟩]⟩;rw[<-gT];refine X.go ic 400 _ rfl aam ?_
 conv=>arg 2;cbv
 refine X.cond rfl (fun aF=>?_) (fun cJ=>?_)
 ·simp only[SB.T,SI.den] at aF
  have aF:(i:Int)<(n:Int):=aF;have aF:i<n:=by omega
  obtain⟨x,hx⟩:∃x,l[i]?=some x:=⟨_,aah (by omega)⟩;have hvx:vs[i]?=some x:=by
   have:=congrArg (fun l=>l[0]?) hI.drop;simp only[List.getElem?_drop,aaG] at this;rw[this];exact hx
  obtain⟨h,hh⟩:∃h,h=!decide (x.key=key):=⟨_,rfl⟩;have hc:=fun(w1:World) (bI:∀k o v,im k o=some v->w1.cell? ⟨k,o,none⟩=some v)=>yB x kb ky key w1 (bI _ _ _ Yx)
  rw[<-hh] at hc;obtain⟨zi,hzi⟩:∃z,z=i*13:=⟨_,rfl⟩;obtain⟨zj,P0⟩:∃z,z=j*13:=⟨_,rfl⟩;have n5:∀(u:Nat) (d:SV),(a7 x.aN)[u]?=some d->d2[zi+u]?=some d:=fun u d hu=>by
   rw[a7,aag,aax] at hu;obtain⟨v,hv,rfl⟩:=hu;rw[gT,a7,aag,hzi,s5 hvx hv];rfl
  have hka:=H2 (key:=key) hx;obtain⟨xj,gZ⟩:∃x,vs[j]?=some x:=⟨_,aah (by omega)⟩;obtain⟨A,B',hAl,xD,ey⟩:=F3 gZ;obtain⟨d3,pD⟩:∃d,d=setRow d2 zj x.cH:=⟨_,rfl⟩;have Yg:d3=a7 A++x.cH++a7 B':=by
   rw[pD,gT,xD,P0,<-hAl,<-bN A];have:a7 (A++xj.aN++B')=a7 A++a7 xj.aN++a7 B':=by simp[a7]
   rw[this];exact wW rfl
  have Gh:a7 (kL (vs.set j x))=a7 A++a7 x.aN++a7 B':=by rw[ey];simp[a7]
  have ZD:zj+13<=d2.length:=by rw[PI,P0];omega
  have RI:=aL.Qz x;obtain⟨nvs,PT⟩:∃v,v=vs.set j x:=⟨_,rfl⟩;have hI2:x.key=key->NP l key (i+1) (j+1) nvs:=fun yO=>⟨by omega,by omega,by rw[PT,List.length_set];exact hI.len,by
   rw[hka,if_pos yO,<-hI.take,PT,aaK,List.take_set_of_le (aak j),List.getElem?_set,if_pos rfl,if_pos (by omega)];rfl,by
   have:=congrArg (List.drop 1) hI.drop;rw[aaF,aaF] at this;rw[PT,List.drop_set_of_lt (by omega)];exact this⟩
  have hI3:¬x.key=key->NP l key (i+1) j vs:=fun yO=>⟨by omega,by omega,hI.len,by rw[hka,if_neg yO];exact hI.take,by
   have:=congrArg (List.drop 1) hI.drop;rw[aaF,aaF] at this;exact this⟩
  rw[<-PT] at Gh;have RK:x.aN.all bc=true:=rfl;have hre:∀(N:af) (u:Nat) (c c':SV),x.cH[u]?=some c->(a7 x.aN)[u]?=some c'->∀v,c.den N=some v->c'.den N=some v:=fun N u c c' h1 h2 v hv=>by
   obtain⟨v1,k1,k2⟩:=(SV.aP _ (aL.uX x N)).2 u c h1;obtain⟨v2,k3,k4⟩:=(SV.aP _ (c9 (vs:=x.aN) RK N)).2 u c' h2;rw[k2] at k4;cases k4;rw[hv] at k1;cases k1;exact k3
  obtain⟨kx,hkx⟩:∃k,k=x.key:=⟨_,rfl⟩;rw[<-hkx] at hh hI2 hI3;obtain⟨rx,hrx⟩:∃r,r=a7 x.aN:=⟨_,rfl⟩;rw[<-hrx] at n5 RI Gh hre;have VL:rx.length=13:=by rw[hrx,bN];rfl
  clear hka xD ey hx hvx gZ RK hrx hkx;obtain⟨Jg,QK,QL,QM,⟨vk,vi,Fp,vl,r1,r2,r3,r4,o1,o2,o3,o4,j1,j2,j3,j4⟩,QQ⟩:=x;refine X.iA ([(24,.own 0 zi),(25,.agg (aL.cH ⟨Jg,QK,QL,QM,⟨vk,vi,Fp,vl,r1,r2,r3,r4,o1,o2,o3,o4,j1,j2,j3,j4⟩,QQ⟩)),(28,.bool (.v h))]) ([]) ic 400 _ rfl aam (fun pr pe fin aj bm ai=>?_)
  conv=>cbv
  refine⟨aj _ (jJ (sx:=.osl 0 0 n 13 none) rfl (.inr (.inr ⟨none,rfl⟩)) rfl (fun _=>rfl) aao aal (fun _=>aF) hzi (by simp)),aj _ ((fZ (c:=zi) (gg:=⟨true,d2,none⟩) (row:=rx) rfl aaT aal rfl VL n5).conv RI),aj _ (.of aaS [.agg (aL.aN ⟨Jg,QK,QL,QM,⟨vk,vi,Fp,vl,r1,r2,r3,r4,o1,o2,o3,o4,j1,j2,j3,j4⟩,QQ⟩).toArray,.pointer (some ⟨kb,ky,none⟩)] (.bool h) (fun _=>rfl) (fun _=>rfl) fun _ w1 bI=>hc w1 bI),ai _ _ ?_⟩;clear aj bm ai;refine X.cond rfl (fun hT=>?_) (fun hF=>?_)
  ·simp only[SB.T,SB.F] at hT
   have hT:h=false:=by simpa using hT
   have hkk:kx=key:=by rw[hT] at hh;simpa using hh.symm
   refine X.iA ([(33,.own 0 zj)]) ([(1004,⟨fun _=>.tup [],[(0,⟨true,d3,none⟩)],[]⟩)]) ic 400 _ rfl aam (fun pr pe fin aj bm ai=>?_)
   conv=>cbv
   refine⟨aj _ (jJ (sx:=.osl 0 0 n 13 none) rfl (.inr (.inr ⟨none,rfl⟩)) rfl (fun _=>rfl) aao aal (fun _=>by omega) P0 (by simp)),bm _ _ _ _ _ ?_,ai _ _ ?_⟩
   ·refine be.step ic ?_
    rw[lm (c:=zj) (v:=.agg (aL.cH ⟨Jg,QK,QL,QM,⟨vk,vi,Fp,vl,r1,r2,r3,r4,o1,o2,o3,o4,j1,j2,j3,j4⟩,QQ⟩)) (g:=⟨true,d2,none⟩) (ti:=fe) rfl rfl rfl rfl rfl rfl ZD rfl];show some (_,[(⟨true,setRow d2 zj (aL.cH ⟨Jg,QK,QL,QM,⟨vk,vi,Fp,vl,r1,r2,r3,r4,o1,o2,o3,o4,j1,j2,j3,j4⟩,QQ⟩),none⟩:Rg),_])=_;rw[<-pD];rfl
   clear aj bm ai;refine X.mR 0 ⟨true,d3,none⟩ (a7 (kL nvs)) rfl (by rw[Gh];show _=d3.length;rw[Yg];simp[VL];rfl) (fun N hN u c c' h1 h2 v hv=>?_) ?_
   ·rw[Gh] at h2
    have h1:d3[u]?=some c:=h1;rw[Yg] at h1;exact wK (N:=N) (by rw[VL];rfl) (hre N) u c c' h1 h2 v hv
   refine X.back (fun N a w' hN hf hS=>cF ⟨⟨i+1,j+1,nvs⟩,hI2 hkk⟩ a w' (by simp only;omega) ?_);exact At.mk hN hf hS (aak 1) (by repeat first|exact trivial|refine Dm rfl rfl ?_|refine mi rfl rfl rfl ?_|refine mi rfl rfl (by simp (disch:=omega) [SV.den,SI.den,lv,lu]<;>omega) ?_) ⟨fun h=>h,aR.refl gx,rfl,trivial⟩ (fun _ _ _ h=>h) hS.loc hS.fH
  ·simp only[SB.F,SB.T] at hF
   have hF:h=true:=by simpa using hF
   have hkk:¬kx=key:=by rw[hF] at hh;simpa using hh.symm
   refine X.go ic 400 _ rfl aam ?_
   conv=>arg 2;cbv
   refine X.back (fun N a w' hN hf hS=>cF ⟨⟨i+1,j,vs⟩,hI3 hkk⟩ a w' (by simp only;omega) ?_);exact At.mk hN hf hS (aak 1) (by repeat first|exact trivial|refine Dm rfl rfl ?_|refine mi rfl rfl rfl ?_|refine mi rfl rfl (by simp (disch:=omega) [SV.den,SI.den,lv,lu]<;>omega) ?_) ⟨fun h=>h,(by rw[gT];exact aR.refl gx),rfl,trivial⟩ (fun _ _ _ h=>h) hS.loc hS.fH
 simp only[SB.F,SI.den] at cJ;have cJ:(n:Int)<=(i:Int):=cJ;have Dv:i=n:=by omega
 subst Dv;obtain⟨zj,P0⟩:∃z,z=j*13:=⟨_,rfl⟩;obtain⟨m,hm⟩:∃m,m=i-j:=⟨_,rfl⟩;obtain⟨d3,pD⟩:∃d,d=setRow d2 zj (nu m fe.zero):=⟨_,rfl⟩;have ZD:zj+m*13=d2.length:=by rw[PI,P0,hm,<-Nat.add_mul];congr 1;omega
 have tZ:fF key l=vs.take j:=by
  have:=hI.take;rw[aa2 (l:=l) (by omega)] at this;exact this.symm
 have HM:(fF key l).length=j:=by rw[tZ,List.length_take];omega
 have EC:a7 (kL (fF key l)) <+: d3:=by
  have e1:kL vs=kL (vs.take j)++kL (vs.drop j):=by
   unfold kL;rw[<-List.flatten_append,<-List.map_append,List.take_append_drop]
  have e2:d2.take zj=a7 (kL (vs.take j)):=by
   rw[gT,e1,show a7 (kL (vs.take j)++kL (vs.drop j))=a7 (kL (vs.take j))++a7 (kL (vs.drop j)) by simp[a7],List.take_left' (by rw[bN,gN,<-tZ,HM,P0])]
  rw[pD,pu _ _ _ (by omega),e2,<-tZ,aaZ];exact List.prefix_append _ _
 refine X.iA ([(38,.osl 0 zj m 13 none),(41,.osl 0 0 j 13 none)]) ([(1003,⟨fun _=>.tup [],[(0,⟨true,d3,none⟩)],[]⟩)]) ic 400 _ rfl aam (fun pr pe fin aj bm ai=>?_)
 conv=>cbv
 refine⟨aj _ (zy (zl:=some j) (zh:=none) (gg:=⟨true,d2,none⟩) rfl ⟨_,_,rfl,fun _=>rfl⟩ trivial rfl rfl (by omega) aao aal (by show j<=i;omega) (by show 0+i*13<=d2.length;omega) (.inr (by show 0+(j+1)*13<=d2.length;omega)) (by show zj=0+j*13;omega) hm),
  bm _ _ _ _ _ (be.clear (te:=fe) (r:=0) (c:=zj) (n:=m) (g:=⟨true,d2,none⟩) ic rfl rfl rfl rfl rfl (by decide) rfl rfl (by omega) (by show zj<=d2.length;omega) (C2 rfl m) (fun N p _ _ hl=>by
   have hl:d2.length<=p.x:=hl;show zj+m*13<=p.x;omega) pD),
  aj _ (zy (zl:=none) (zh:=some j) (gg:=⟨true,d3,none⟩) rfl trivial ⟨_,_,rfl,fun _=>rfl⟩ rfl rfl (by omega) aao aal (aap _) (by
   show 0+j*13<=d3.length;rw[pD,lG _ _ _ (by omega)];omega) (.inl rfl) rfl rfl),ai _ _ ?_⟩
 clear aj bm ai;refine X.done ic rfl (fun N w' v hN hS hv=>?_);exact HK N _ w' im d3 j v hN hS rfl EC HM.symm hv
end Go.Proofs.YthpbefahaghbjaaGreat
namespace Go.bU
open Go
theorem Goes.MA {E:eR}{N:af}{k:List It}{s:St}{d:Option Nat}{v:Value}{w w':World}{r:Nat}{g:Rg}{p:aS}{cs:List SV}{n sz:Nat}(hN:E.N0.le N)(h:Sat E.toEnv N s.rg w)(hg:s.rg[r]?=some g)(hp:N[r]?=some p)(ho:g.own=true)(fm:g.ob=none)(hf:qW p.b p.o p.x cs n sz w (.returned v) w')
  {f':Fr} (qx:eK E.n s.fr d (.val (.osl s.rg.length 0 n sz none))=some f') (hx:X E k ⟨f',s.rg.set r ⟨false,[],none⟩++[⟨true,cs,none⟩]⟩):Goes E N k s.fr d v w':=by
 obtain⟨v',N',h1,h2,h3,h4⟩:=hf.Qu h hg hp ho fm;cases h1;exact⟨E,N',_,_,f',rfl,rfl,rfl,rfl,h2,hN.trans h2,h4,h3,qx,hx⟩
end Go.bU
namespace Go.Proofs.YthpbefahaghbjaaGreat
open Go Go.bU Go.Sort
instance:Inhabited aL:=⟨⟨0,0,0,0,GV,0⟩⟩
instance:Inhabited aI:=⟨⟨0,⟨0,0,0⟩,wM,0⟩⟩
abbrev VX:=aL × aI
def Em (x:VX):List Value:=x.1.aN
def cfX (x y:VX):Int:=cfV x.1 y.1
def BN (a1 a2 a3 b1 b2 b3:Int):Prop:=a1<b1\/(a1=b1/\(a2<b2\/(a2=b2/\a3<b3)))
instance {a1 a2 a3 b1 b2 b3:Int}:Decidable (BN a1 a2 a3 b1 b2 b3):=by unfold BN;infer_instance
theorem UQ (a1 a2 a3 b1 b2 b3:Int):decide (Nl (jE a1 b1) (jE a2 b2) (jE a3 b3)<0)=decide (BN a1 a2 a3 b1 b2 b3):=by
 unfold Nl jE BN;apply decide_eq_decide.2
 split<;>split<;>(try split)<;>(try split)<;>(try split)<;>(try split)<;>omega
theorem ltX (x y:VX):ltOf cfX x y=decide (BN x.1.b1 x.1.b2 x.1.b3 y.1.b1 y.1.b2 y.1.b3):=UQ ..
theorem aeJ:SWO (ltOf cfX) where
 irrefl x:=by rw[ltX];simp[BN]
 trans x y z h1 h2:=by
  rw[ltX,decide_eq_true_eq] at h1 h2 ⊢;unfold BN at h1 h2 ⊢;omega
 ntrans x y z h1 h2:=by
  rw[ltX,decide_eq_false_iff_not] at h1 h2 ⊢;unfold BN at h1 h2 ⊢;omega
theorem Kt {α:Type}[Inhabited α](l:List α)(i:Nat)(h:i<l.length):l[i]?=some l[i]! := by
 rw[getElem!_pos l i h];exact aah h
theorem Q9 {d:Array VX}{j:Nat}(hj:j<d.size*13):(kL (d.toList.map aad))[j]?=some (flatK Em 13 d)[j]! := by
 have h1:j / 13<d.size:=by omega
 have h2:j % 13<13:=Nat.mod_lt _ (by decide);have h3:(d.toList.map aad)[j / 13]?=some d[j / 13]!.1:=by
  rw[aag];simp[h1]
 have h4:d[j / 13]!.1.aN[j % 13]?=some (Em d[j / 13]!)[j % 13]! := by
  exact Kt (Em d[j / 13]!) (j % 13) h2
 have:=s5 h3 h4;rw[show j / 13*13+j % 13=j by omega] at this;rw[this,get_flatK _ _ _ _ hj]
theorem Ml (d:Array VX)(b y K cap:Nat)(w:World)(hK:d.size*13<=K)(AC:d.size<=1000)(hb:b<w.heap.size)(hA:∀(j:Nat) (v:Value),(kL (d.toList.map aad))[j]?=some v->w.cell? ⟨b,y+j,none⟩=some v)(iq:∀j,j<K->w.frozen? ⟨b,y+j,none⟩=false) :
  Calls aac 30 #[.slice (some ⟨b,y,none⟩) d.size cap,.func (.func 31) #[] #[]] w fun e w'=>e=.returned (.tuple #[])/\∃d':Array VX,d'.toList.Perm d.toList/\d'.toList.Pairwise (fun x y=>ltOf cfX y x=false) /\
   (∀(j:Nat) (v:Value),(kL (d'.toList.map aad))[j]?=some v->w'.cell? ⟨b,y+j,none⟩=some v)/\aW (fun k o=>k=b/\y<=o/\o<y+K) w w':=by
 have hH:HoldsK Em 13 w b y d:=fun j hj=>by
  have hj:j<d.size*13:=by rw[size_flatK] at hj;exact hj
  exact⟨hA j _ (Q9 hj),iq j (by omega)⟩
 have key:=AnyQ.slices_SortFunc Tryz.RR 13 aaT aal Em (fun _=>rfl) (fun x v hv=>by
  have:x.1.aN.all Value.oneCell'=true:=rfl;exact aar.1 this v hv) cfX aeJ 31 #[] b y cap d w Tryz.call31 (fun _ _ _ _ x y=>(Hu x.1 y.1 _).mono fun _ _ ⟨h1,h2⟩=>⟨h1,h2.grown⟩) hH hb (by omega)
 refine aas key fun e w' ⟨he,d',q,os,hp,hs,hw⟩=>⟨he,d',?_,?_,fun j v hj=>?_,?_⟩
 ·obtain⟨h1,_,h3⟩:=hp
  have e1:d'.extract 0 d.size=d':=by rw[<-h1];exact Array.extract_size
  rw[e1,Array.extract_size] at h3;exact h3
 ·rw[aa3]
  intro i j hi hj iK;have:=hs i j (aap _) iK (by have:=hp.1;simp at hj;omega);have e1:d'[j]! = d'.toList[j]:=by simp[getElem!_pos d' j (by simpa using hj)]
  have e2:d'[i]! = d'.toList[i]:=by simp[getElem!_pos d' i (by simpa using hi)]
  rw[e1,e2] at this;exact this
 ·have uT:=(aai.1 hj).1
  rw[gN] at uT;simp at uT;rw[Q9 uT] at hj;obtain rfl:=aaf.inj hj;rw[hw];exact((holdsK_sortWorldK_c Em 13 w b y d d' q os hH hb hp.1) j (by rw[size_flatK];exact uT)).1
 ·rw[hw]
  have h:=rp (w:=Go.Sort.ahead w q) b y (flatK Em 13 d');rw[size_flatK] at h;refine((((aW.drewN (w:=w) q).mono fun _ _ _ h=>h.elim).trans h fun _ _ _ h=>h).trans (rj _ os) fun _ _ _ h=>h.elim).mono fun k o _ ⟨h1,h2,h3⟩=>⟨h1,h2,?_⟩
  have:=hp.1;omega
def rR (key:Int)(x:aI):Bool:=decide (x.key=key)
structure mu (l:List aI) (key:Int) (c:List aI):Prop where
 perm:c.Perm (l.filter (rR key))
 srt:c.Pairwise fun x y=>¬BN y.b.count y.b.node y.b.cR x.b.count x.b.node x.b.cR
theorem J5 {l m c d:List aI}{key:Int}(hc:mu l key c)(hd:mu m key d)(h:l.Perm m)(hn:l.Pairwise fun v w=>¬(v.key=w.key/\v.b=w.b)):c=d:=by
 refine List.Perm.eq_of_pairwise (le:=fun x y:aI=>¬BN y.b.count y.b.node y.b.cR x.b.count x.b.node x.b.cR) (fun a b ha hb h1 h2=>?_) hc.srt hd.srt (hc.perm.trans ((h.filter _).trans hd.perm.symm));obtain⟨a1,a2⟩:=aaM.1 (hc.perm.mem_iff.1 ha);obtain⟨b1,b2⟩:=aaM.1 (((h.filter _).trans hd.perm.symm).symm.mem_iff.1 hb);simp only[rR,decide_eq_true_eq] at a2 b2;have hb:a.b=b.b:=by
  obtain⟨ak,⟨x1,x2,x3⟩,ar,aa⟩:=a;obtain⟨bk,⟨y1,y2,y3⟩,br,ba⟩:=b;simp only[BN,not_or,not_and,Int.not_lt] at h1 h2;have e1:x1=y1:=by omega
  subst e1;have e2:x2=y2:=by have:=(h1.2 rfl).1;have:=(h2.2 rfl).1;omega
  subst e2;have e3:x3=y3:=by have:=(h1.2 rfl).2 rfl;have:=(h2.2 rfl).2 rfl;omega
  subst e3;rfl
 refine Classical.byContradiction fun Rb=>?_
 have h2:∀a b:aI,a∈l->b∈l->a≠b->¬(a.key=b.key/\a.b=b.b):=fun a b ha hb bH he=>by
  obtain⟨i,hi,rfl⟩:=aa4.1 ha;obtain⟨j,hj,rfl⟩:=aa4.1 hb;rw[aa3] at hn;rcases Nat.lt_trichotomy i j with h|h|h
  ·exact hn i j hi hj h he
  ·subst h;exact bH rfl
  ·exact hn j i hj hi h ⟨he.1.symm,he.2.symm⟩
 exact h2 a b a1 b1 Rb ⟨by rw[a2,b2],hb⟩
theorem BS (w:World):Calls aac 26 #[.slice none 0 0] w fun e w'=>e=.returned (.slice none 0 0)/\aW (fun _ _=>False) w w':=Dj ep Jo 1000 [.raw (.slice none 0 0)] rfl rfl (l:=[.raw (.slice none 0 0)]) (fun N=>rfl) (by kernel_rfl) w
theorem Bm (wm:WM)(s:WP)(Mo:Mem)(w:World)(h:bX wm s Mo w)(h0:s.l=[]):Calls aac 10 #[iE (wm.P 0)] w fun e w'=>e=.returned (.slice none 0 0)/\aW (fun _ _=>False) w w':=by
 have aF:=(h.room 0 (by omega)).1;have bD:∀(j:Nat) (c:SV),(oY wm s)[j]?=some c->∃v,c.den [⟨(wm.P 0).b,(wm.P 0).o,4⟩]=some v/\w.cell? ⟨(wm.P 0).b,(wm.P 0).o+j,none⟩=some v:=fun j c hj=>by
  obtain⟨z1,z2⟩:=SV.aP (N:=[⟨(wm.P 0).b,(wm.P 0).o,4⟩]) (oY wm s) (rI wm s _);obtain⟨v,z3,z4⟩:=z2 j c hj;exact⟨v,z3,h.hd.2 j v z4⟩
 have xE:oY wm s=[.raw (.map (some wm.m)),.ao none 0 0,sF (wm.P 2) s.all,.bool (.v s.da)]:=by
  unfold oY;have:sF (wm.P 1) s.l=.ao none 0 0:=by
   unfold sF;rw[if_pos h0]
  rw[this]
 rw[xE] at bD;refine X.begin (rg:=[⟨false,[.raw (.map (some wm.m)),.ao none 0 0,sF (wm.P 2) s.all,.bool (.v s.da)],none⟩]) (N:=[⟨(wm.P 0).b,(wm.P 0).o,4⟩]) (ss:=[.own 0 0]) aaH rfl DE rfl rfl (Sat.w_ false aF bD (fun h=>(by cases h))) ?_;refine X.go my 400 _ rfl aau ?_
 conv=>arg 2;cbv
 refine X.call rfl rfl rfl rfl aaE (fun N w1 args hN hS ha=>?_);obtain rfl:args=[.slice none 0 0]:=(aaf.inj ha).symm;refine(BS w1).mono fun e w2 ⟨he,hc⟩=>⟨_,he,Goes.same hN hS hc (r:=.raw (.slice none 0 0)) rfl rfl ?_⟩
 refine X.go my 400 _ rfl aau ?_
 conv=>arg 2;cbv
 refine X.done my rfl (fun N w' v hN hS hv=>?_);simp[bz,SV.den,bc] at hv;exact⟨by rw[<-hv],hS.aM.mono fun k o _ h=>absurd h (iv _ _)⟩
theorem zf {Mr:Mem}:∀{l:List aI} {bC:List (List Value)},bC.length=l.length->(∀(j:Nat) (x:aI),l[j]?=some x->∃vs,bC[j]?=some vs/\az Mr x.toD vs) ->
  ∃LX:List VX,LX.map aaC=l/\LX.map (fun x=>x.1.aN)=bC/\∀x∈LX,az Mr x.2.toD x.1.aN/\x.2.key=x.1.key/\x.2.b=⟨x.1.b1,x.1.b2,x.1.b3⟩
 | [],bC,h,_=>⟨[],rfl,by rw[aaX h];rfl,fun x h=>by cases h⟩
 |x::l,[],h,_=>by cases h
 |x::l,vs::bC,h,hr=>by
  obtain⟨LX,h1,h2,h3⟩:=zf (l:=l) (bC:=bC) (by simpa using h) fun j y hy=>hr (j+1) y hy
  obtain⟨Fp,k1,k2⟩:=hr 0 x rfl;simp only[List.getElem?_cons_zero,aA] at k1;subst k1;obtain⟨t,rfl,k3,k4⟩:=aI.cells k2;refine⟨(t,x)::LX,by rw[aa5,h1],by rw[aa5,h2],fun y hy=>?_⟩;rcases List.mem_cons.1 hy with rfl|hy
  ·exact⟨k2,by rw[k3],by rw[k3]⟩
  ·exact h3 y hy
def Cx (key:Int)(L:List VX):List VX:=L.filter fun x=>ZF key x.1
theorem H3 (key:Int)(L:List VX):(Cx key L).map aad=fF key (L.map aad):=by
 unfold Cx fF;rw[aa6];rfl
theorem H4 {key:Int}{L:List VX}(h:∀x∈L,x.2.key=x.1.key):(Cx key L).map aaC=(L.map aaC).filter (rR key):=by
 unfold Cx;rw[aa6]
 congr 1
 refine List.filter_congr fun x hx=>?_
 simp[ZF,rR,h x hx]
theorem J6 (wm:WM)(s:WP)(n:Nat)(Mo:Mem)(w:World)(h:bX wm s Mo w)(ok:s.Ok n)(hn:n<=1000)(key:Int):Calls aac 12 #[iE (wm.P 0),.int .u8 key] w fun e w'=>∃c,mu s.l key c/\kr Mo c w e w':=by
 obtain⟨Q,hQ⟩:∃Q:aaj->World->Prop,Q=fun e w'=>∃c,mu s.l key c/\kr Mo c w e w':=⟨_,rfl⟩
 rw[<-hQ];obtain⟨pb,Bx⟩:∃z,z=(wm.P 0).b:=⟨_,rfl⟩;obtain⟨py,M_⟩:∃z,z=(wm.P 0).o:=⟨_,rfl⟩;have th:iE (wm.P 0)=.pointer (some ⟨pb,py+0,none⟩):=by rw[Bx,M_];rfl
 rw[th];refine X.begin (rg:=[]) (N:=[]) (ss:=[.ext pb py 0,.int .u8 (.v key)]) Tryz.func12 rfl Sn rfl rfl Sat.bp ?_;obtain⟨im,aV⟩:∃im,im=ab [] [] w:=⟨_,rfl⟩;show X (aK aac aaU Q w (bq [] []) (ab [] [] w) (fun _ _=>False) (fun _=>True) [] B12) _ _;rw[<-aV];refine X.go mz 400 _ rfl aaq ?_
 conv=>arg 2;cbv
 refine X.call rfl rfl rfl rfl aaR (fun N w1 args hN hS ha=>?_);obtain rfl:=fk (vs:=[iE (wm.P 0)]) (by rw[th];rfl) ha;have h':bX wm s Mo w1:=h.aM hS.aM.none (fun _ _ _ h=>h) (fun _ _ _ _ h=>h)
 by_cases h0:s.l=[]
 ·refine(Bm wm s Mo w1 h' h0).mono fun e w2 ⟨he,hc⟩=>⟨_,he,Goes.same hN hS hc (r:=.raw (.slice none 0 0)) rfl rfl ?_⟩
  clear ha he hc hS hN h';refine X.go mz 400 _ rfl aaq ?_
  conv=>arg 2;cbv
  refine X.call rfl rfl rfl rfl aaV (fun N w1 args hN hS ha=>?_);obtain⟨q0,ED⟩:∃p,N[0]?=some p:=⟨_,aah (by rw[hS.len];show 0<1;omega)⟩;obtain⟨g,hg,rfl⟩:∃g,bc g=true/\args=[.slice none 0 0,g]:=by
   simp only[SV.ap,SV.den,ED,bc] at ha;exact⟨_,rfl,(aaf.inj ha).symm⟩
  refine(Hz g hg w1).mono fun e w2 ⟨he,hc⟩=>⟨_,he,Goes.same hN hS hc (r:=.raw (.slice none 0 0)) rfl rfl ?_⟩
  clear ha he hc hS hN ED;refine X.go mz 400 _ rfl aaq ?_
  conv=>arg 2;cbv
  refine X.call rfl rfl rfl rfl aaW (fun N w1 args hN hS ha=>?_);obtain rfl:args=[.slice none 0 0,.func (.func 31) #[] #[]]:=(aaf.inj ha).symm;have ZJ:=AnyF.slices_SortFunc_none (P:=aac) { Tryz.RR with } none 0 (.func (.func 31) #[] #[]) w1;refine aas ZJ fun e w2 ⟨he,hw⟩=>⟨_,he,?_⟩
  subst hw;refine Goes.same hN hS (aW.refl _ _) (r:=.tup []) rfl rfl ?_;clear ha he hS hN ZJ;refine X.go mz 400 _ rfl aaq ?_
  conv=>arg 2;cbv
  refine X.done mz rfl (fun N w' v hN hS hv=>?_);simp[bz,SV.den,bc] at hv;rw[hQ];refine⟨[],⟨by rw[h0];exact List.Perm.refl _,List.Pairwise.nil⟩,⟨none,0,by rw[<-hv];rfl,fun M _ _=>⟨⟨aak _,aap _⟩,.inl rfl⟩⟩,hS.aM.none⟩
 refine(Bn wm s n Mo w1 h' ok hn h0).mono fun e w2 ⟨⟨p2,c2,he,_,q2,bC,fU,gn,jM,RH,EH,Mr,dM,fM⟩,bV⟩=>?_
 obtain⟨LX,hL1,hL2,hL3⟩:=zf RH.len fM;obtain⟨bs,Rf⟩:∃b,b=w1.heap.size:=⟨_,rfl⟩;have yh:w.heap.size<=bs:=by rw[Rf];exact hS.aM.size
 obtain⟨nv,xH⟩:∃z,z=s.l.length:=⟨_,rfl⟩;have WN:LX.length=nv:=by rw[xH,<-hL1,aae]
 have ajF:0<nv:=by rw[xH];exact List.length_pos_iff.2 h0
 have adE:nv<=1000:=by have:=ok.l;omega
 have xD:bC.flatten=kL (LX.map aad):=by unfold kL;rw[<-hL2,List.map_map];rfl
 have hqx:nv*13<=q2.x:=by have:=RH.x;rw[xH];exact this
 rw[fU,gn,<-xH] at he;refine⟨_,he,Goes.ZX (sz:=13) (cs:=a7 (kL (LX.map aad))) (fun k o=>(Mr k o).isSome=true/\bs<=k) (fun w'=>∀k o v,Mr k o=some v->bs<=k->w'.cell? ⟨k,o,none⟩=some v) hN hS bV jM EH.room.1 (by rw[bN,gN,aae,WN];exact hqx) (fun j c hj=>?_) EH.room.2 (fun r g hg=>?_) (fun k o hd=>?_) (bU.Loc.cells fun u u' hs _ hA k o v h1 h2=>?_) (fun k o v h1 h2=>(dM k o v h1).1) rfl ?_⟩
 ·rw[a7,aag,aax] at hj
  obtain⟨v,hv,rfl⟩:=hj;have ho:bc v=true:=by
   rw[<-xD] at hv;obtain⟨vs,h1,h2⟩:=aaL.1 (aaw hv);exact aar.1 (RH.row vs h1).2 v h2
  exact⟨v,by simp[SV.den,ho],EH.has j v (by rw[xD];exact hv)⟩
 ·match r,hg with
  |0,hg=>cases hg;rfl
 ·obtain⟨v,hv⟩:=aa7.1 hd.1
  obtain⟨k1,k2,k3⟩:=dM k o v hv;exact⟨.inl (by rw[k1];rfl),k2,.inr (by rw[<-Rf];exact hd.2)⟩
 ·rw[(hs k o ⟨by rw[h1];rfl,h2⟩).1]
  exact hA k o v h1 h2
 have Dw:∀k o v,Mr k o=some v->Mo k o=some v\/bs<=k:=fun k o v hk=>by rw[Rf];exact(dM k o v hk).2.2
 clear ha he hS hN bV EH fU gn Rf dM fM h' jM hL2 xD;show X (aK aac aaU Q w (bq [] []) im (fun k o=>(Mr k o).isSome=true/\bs<=k) (fun w'=>∀k o v,Mr k o=some v->bs<=k->w'.cell? ⟨k,o,none⟩=some v) [] B12) _ _;obtain⟨dl,s_⟩:∃d,d=a7 (kL (LX.map aad)):=⟨_,rfl⟩;rw[<-s_];have HS:∀(L:List aL) (N:af) (j:Nat) (v:Value),(kL L)[j]?=some v->(SV.raw v).den N=some v:=fun L N j v hj=>by
  obtain⟨r,h1,h2⟩:=aaL.1 (aaw hj);obtain⟨x,_,rfl⟩:=aaJ.1 h1;have:x.aN.all bc=true:=rfl;have ho:=aar.1 this v h2;simp[SV.den,ho]
 have ef:∀(L:List aL) (j:Nat) (v:Value),(kL L)[j]?=some v->(a7 (kL L))[j]?=some (.raw v):=fun L j v hj=>by
  rw[a7,aag,hj];rfl
 refine X.go mz 400 _ rfl aaq ?_
 conv=>arg 2;cbv
 refine X.call rfl rfl rfl rfl aaV (fun N w1 args hN hS ha=>?_);obtain⟨p0,fJ⟩:∃p,N[0]?=some p:=⟨_,aah (by rw[hS.len];show 0<2;omega)⟩;obtain⟨p1,fE⟩:∃p,N[1]?=some p:=⟨_,aah (by rw[hS.len];show 1<2;omega)⟩;obtain rfl:=fk (vs:=[.slice (some ⟨p1.b,p1.o,none⟩) nv (p1.x / 13),.func (.func 29) #[] #[.pointer (some ⟨p0.b,p0.o,none⟩)]]) (by simp only[SV.ap,SV.den,fJ,fE,aS.cap];rfl) ha;have fK:=hS.ext 1 _ p1 rfl fE rfl;have hx0:=hS.ext 0 _ p0 rfl fJ rfl;have HJ:dl.length=nv*13:=by rw[s_,bN,gN,aae,WN]
 simp only[HJ] at fK;have YD:w1.cell? ⟨p0.b,p0.o,none⟩=some (.int .u8 key):=by
  obtain⟨v,k1,k2⟩:=hS.cell 0 _ p0 rfl fJ 0 _ rfl;have k1:Value.int .u8 key=v:=aaf.inj k1;rw[k1];exact k2
 have Vi:=Pd (LX.map aad) key p1.b p1.o p1.x p0.b p0.o w1 (by rw[aae,WN];exact adE) (by rw[aae,WN];exact fK) (by omega) (fun j v hj=>by
   obtain⟨u,k1,k2⟩:=hS.cell 1 _ p1 rfl fE j (.raw v) (by show dl[j]?=_;rw[s_];exact ef _ _ _ hj);rw[HS _ _ _ _ hj] at k1;cases k1;exact k2) (hS.room 1 _ p1 rfl fE rfl) YD (fun⟨e1,e2,e3⟩=>by
   have:=hS.eT 1 0 _ _ p1 p0 rfl fE rfl fJ rfl (by omega) 0 (by show 0<p0.x;simp at hx0;omega) e1;omega)
 rw[aae,WN] at Vi;refine aas Vi fun e w2 hf=>?_
 obtain⟨v,rfl⟩:∃v,e=.returned v:=by
  obtain⟨b',y',x',he,_⟩:=hf;exact⟨_,he⟩
 refine⟨v,rfl,Goes.MA (r:=1) hN hS rfl fE rfl rfl hf rfl ?_⟩;clear ha hS hN hf Vi YD fK hx0 fJ fE;obtain⟨KX,hKX⟩:∃K,K=Cx key LX:=⟨_,rfl⟩;have hK1:fF key (LX.map aad)=KX.map aad:=by rw[hKX,H3]
 have hK2:KX.map aaC=s.l.filter (rR key):=by rw[hKX,H4 fun x hx=>(hL3 x hx).2.1,hL1]
 have hK3:∀x∈KX,x∈LX:=fun x hx=>by rw[hKX] at hx;exact(aaM.1 hx).1
 have hKl:KX.length<=nv:=by rw[hKX,<-WN];exact List.length_filter_le _ _
 rw[hK1,aae];obtain⟨m,hm⟩:∃m,m=KX.length:=⟨_,rfl⟩;obtain⟨d2,gT⟩:∃d,d=a7 (kL (KX.map aad)):=⟨_,rfl⟩;have PI:d2.length=m*13:=by rw[gT,bN,gN,aae,hm]
 rw[<-hm,<-gT];refine X.go mz 400 _ rfl aaq ?_
 conv=>arg 2;cbv
 refine X.call rfl rfl rfl rfl aaW (fun N w1 args hN hS ha=>?_);obtain⟨p2,fU⟩:∃p,N[2]?=some p:=⟨_,aah (by rw[hS.len];show 2<3;omega)⟩;obtain rfl:=fk (vs:=[.slice (some ⟨p2.b,p2.o,none⟩) m (p2.x / 13),.func (.func 31) #[] #[]]) (by simp only[SV.ap,SV.den,fU,aS.cap];rfl) ha;have gJ:=hS.ext 2 _ p2 rfl fU rfl;simp only[PI] at gJ;have VO:=Ml KX.toArray p2.b p2.o p2.x (p2.x / 13) w1 (by rw[aaN,<-hm];exact gJ) (by rw[aaN];omega) (hS.lt 2 p2 fU) (fun j v hj=>by
   obtain⟨u,k1,k2⟩:=hS.cell 2 _ p2 rfl fU j (.raw v) (by show d2[j]?=_;rw[gT];exact ef _ _ _ hj);rw[HS _ _ _ _ hj] at k1;cases k1;exact k2) (fun j hj=>(hS.room 2 _ p2 rfl fU rfl j hj).2)
 rw[aaN,<-hm] at VO;refine aas VO fun e w2 ⟨he,d',Gk,hpw,uS,bV⟩=>?_
 obtain⟨DX,hDX⟩:∃D,D=d'.toList:=⟨_,rfl⟩;rw[<-hDX] at Gk hpw uS;have WK:DX.length=m:=by rw[Gk.length_eq,hm]
 refine⟨_,he,Goes.cells (r:=2) (rv:=.tup []) hN hS rfl fU rfl bV (a7 (kL (DX.map aad))) (by rw[bN,gN,aae,WK];exact gJ) (fun j c hj=>?_) rfl rfl ?_⟩
 ·rw[a7,aag,aax] at hj
  obtain⟨v,hv,rfl⟩:=hj;exact⟨v,HS _ _ _ _ hv,uS j v hv⟩
 clear ha he hS hN bV uS VO gJ fU;obtain⟨d3,pD⟩:∃d,d=a7 (kL (DX.map aad)):=⟨_,rfl⟩;rw[<-pD];refine X.go mz 400 _ rfl aaq ?_
 conv=>arg 2;cbv
 refine X.done mz rfl (fun N w' v hN hS hv=>?_);obtain⟨p2,fU⟩:∃p,N[2]?=some p:=⟨_,aah (by rw[hS.len];show 2<3;omega)⟩;simp only[bz,SV.den,fU,aS.cap,aaG,aba,aA] at hv;have gJ:=hS.ext 2 ⟨true,d3,none⟩ p2 rfl fU rfl;have acY:d3.length=m*13:=by rw[pD,bN,gN,aae,WK]
 simp only[acY] at gJ;have KY:∀x∈DX,x∈LX:=fun x hx=>hK3 x (Gk.mem_iff.1 hx)
 rw[hQ];refine⟨DX.map aaC,⟨?_,?_⟩,⟨some ⟨p2.b,p2.o,none⟩,p2.x / 13,by rw[<-hv,aae,WK],fun M h1 h2=>?_⟩,hS.aM.none⟩
 ·rw[<-hK2]
  exact Gk.map _
 ·refine List.pairwise_map.2 (List.Pairwise.imp_of_mem (fun {x y} hx hy hxy=>?_) hpw)
  rw[ltX,decide_eq_false_iff_not] at hxy;rw[(hL3 x (KY x hx)).2.2,(hL3 y (KY y hy)).2.2];exact hxy
 ·refine dC.of (K:=13) (bC:=DX.map fun x=>x.1.aN) (by rw[aae,WK];omega) (by rw[aae,WK,dt];omega) (by simp) (fun j x hj=>?_) (fun Y1=>⟨p2.b,p2.o,rfl,fun j vs hj k v hk=>?_⟩)
  ·rw[aag,aax] at hj
   obtain⟨y,hy,rfl⟩:=hj;refine⟨y.1.aN,by rw[aag,hy];rfl,(hL3 y (KY y (aaw hy))).1.mono fun k o v hk=>?_⟩;rcases Dw k o v hk with h5|h5
   ·exact h1 _ _ _ h5
   ·exact h2 _ _ _ (aan yh h5) (hS.fH k o v hk h5)
  ·rw[aag,aax] at hj
   obtain⟨y,hy,rfl⟩:=hj;have uT:=(aai.1 hy).1;have HM:=(aai.1 hk).1;rw[aL.len] at HM;have hpx:0<p2.x:=by omega
   have Rk:w.heap.size<=p2.b:=by
    rcases hS.dG 2 _ p2 rfl fU rfl with h|h
    ·exact h
    ·exact absurd (h 0 hpx) aB
   refine h2 _ _ _ Rk ?_;obtain⟨u,k1,k2⟩:=hS.cell 2 _ p2 rfl fU (j*13+k) (.raw v) (by show d3[_]?=_;rw[pD];exact ef _ _ _ (s5 (by rw[aag,hy];rfl) hk));rw[HS (DX.map aad) _ _ _ (s5 (by rw[aag,hy];rfl) hk)] at k1;cases k1;rw[aa9];exact k2
end Go.Proofs.YthpbefahaghbjaaGreat
