import Derived.Test.YthpbefahaghbjaaGreatPd2
import Derived.Shelf.SlSortCmp.NoneTotal
import Derived.Shelf.SlicesE.Kit
import Derived.Test.YthpbefahaghbjaaGreatWaG
import Derived.Test.YthpbefahaghbjaaGreatWa2
import Derived.Test.YthpbefahaghbjaaGreatRg5
import Derived.Test.YthpbefahaghbjaaGreatRi5
set_option maxHeartbeats 16000000
set_option maxRecDepth 100000
set_option cbv.maxSteps 100000000
namespace Go.Proofs
open Go.Shelf
def Tryz.sortV_ren:Go.Shelf.Ren:=⟨fun | 6=>30 | 15=>60 | 14=>59 | 28=>77 | 29=>78 | 20=>69 | 21=>70 | 22=>71 | 23=>72 | 24=>73 | 25=>74 | 26=>75 | 27=>76 | 46=>91 | 47=>92 | 48=>93 | 49=>94 | 50=>95 | 57=>108 | n=>n,fun | 22=>27 | 24=>49 | 25=>79 | 3=>3 | 39=>113 | 0=>0 | 53=>33 | 55=>29 | 4=>4 | 46=>122 | 45=>121 | 50=>126 | 5=>5 | 9=>9 | 66=>140 | 70=>144 | 76=>157 | 77=>158 | n=>n,fun | n=>n⟩
theorem Tryz.sortV:Go.Proofs.SlLaysF0.n6 Tryz.prog Tryz.sortV_ren:={
 mixed:=(by kernel_rfl),
 f6:=⟨ "slices.SortFunc[[]scrutineer/api.Version,scrutineer/api.Version]",by decide,Tryz.func30.trans (congrArg some (by kernel_rfl))⟩,
 f14:=⟨ "slices.pdqsortCmpFunc[scrutineer/api.Version]",by decide,Tryz.func59.trans (congrArg some (by kernel_rfl))⟩,
 f15:=Tryz.func60.trans (congrArg some (by kernel_rfl)),
 f20:=⟨ "slices.insertionSortCmpFunc[scrutineer/api.Version]",by decide,Tryz.func69.trans (congrArg some (by kernel_rfl))⟩,
 f21:=⟨ "slices.heapSortCmpFunc[scrutineer/api.Version]",by decide,Tryz.func70.trans (congrArg some (by kernel_rfl))⟩,
 f22:=⟨ "slices.breakPatternsCmpFunc[scrutineer/api.Version]",by decide,Tryz.func71.trans (congrArg some (by kernel_rfl))⟩,
 f23:=⟨ "slices.choosePivotCmpFunc[scrutineer/api.Version]",by decide,Tryz.func72.trans (congrArg some (by kernel_rfl))⟩,
 f24:=⟨ "slices.reverseRangeCmpFunc[scrutineer/api.Version]",by decide,Tryz.func73.trans (congrArg some (by kernel_rfl))⟩,
 f25:=⟨ "slices.partialInsertionSortCmpFunc[scrutineer/api.Version]",by decide,Tryz.func74.trans (congrArg some (by kernel_rfl))⟩,
 f26:=⟨ "slices.partitionEqualCmpFunc[scrutineer/api.Version]",by decide,Tryz.func75.trans (congrArg some (by kernel_rfl))⟩,
 f27:=⟨ "slices.partitionCmpFunc[scrutineer/api.Version]",by decide,Tryz.func76.trans (congrArg some (by kernel_rfl))⟩,
 f28:=Tryz.func77.trans (congrArg some (by kernel_rfl)),
 f29:=Tryz.func78.trans (congrArg some (by kernel_rfl)),
 f46:=⟨ "slices.siftDownCmpFunc[scrutineer/api.Version]",by decide,Tryz.func91.trans (congrArg some (by kernel_rfl))⟩,
 f47:=Tryz.func92.trans (congrArg some (by kernel_rfl)),
 f48:=Tryz.func93.trans (congrArg some (by kernel_rfl)),
 f49:=⟨ "slices.medianAdjacentCmpFunc[scrutineer/api.Version]",by decide,Tryz.func94.trans (congrArg some (by kernel_rfl))⟩,
 f50:=⟨ "slices.medianCmpFunc[scrutineer/api.Version]",by decide,Tryz.func95.trans (congrArg some (by kernel_rfl))⟩,
 f57:=⟨ "slices.order2CmpFunc[scrutineer/api.Version]",by decide,Tryz.func108.trans (congrArg some (by kernel_rfl))⟩,
 t0:=Tryz.underlying0,
 a0:=Tryz.isAgg0,
 z0:=Tryz.sizeOf0,
 v0:=Tryz.zeroValue0,
 t3:=Tryz.underlying3,
 a3:=Tryz.isAgg3,
 z3:=Tryz.sizeOf3,
 v3:=Tryz.zeroValue3,
 t4:=Tryz.underlying4,
 a4:=Tryz.isAgg4,
 z4:=Tryz.sizeOf4,
 v4:=Tryz.zeroValue4,
 t5:=Tryz.underlying5,
 a5:=Tryz.isAgg5,
 z5:=Tryz.sizeOf5,
 v5:=Tryz.zeroValue5,
 t9:=Tryz.underlying9,
 a9:=Tryz.isAgg9,
 z9:=Tryz.sizeOf9,
 v9:=Tryz.zeroValue9,
 t22:=Tryz.underlying27,
 a22:=Tryz.isAgg27,
 z22:=Tryz.sizeOf27,
 v22:=Tryz.zeroValue27,
 t25:=Tryz.underlying79,
 a25:=Tryz.isAgg79,
 z25:=Tryz.sizeOf79,
 v25:=Tryz.zeroValue79,
 t39:=Tryz.underlying113,
 a39:=Tryz.isAgg113,
 z39:=Tryz.sizeOf113,
 v39:=Tryz.zeroValue113,
 t45:=Tryz.underlying121,
 a45:=Tryz.isAgg121,
 z45:=Tryz.sizeOf121,
 v45:=Tryz.zeroValue121,
 t46:=Tryz.underlying122,
 a46:=Tryz.isAgg122,
 z46:=Tryz.sizeOf122,
 v46:=Tryz.zeroValue122,
 t50:=Tryz.underlying126,
 a50:=Tryz.isAgg126,
 z50:=Tryz.sizeOf126,
 v50:=Tryz.zeroValue126,
 t53:=Tryz.underlying33,
 a53:=Tryz.isAgg33,
 z53:=Tryz.sizeOf33,
 v53:=Tryz.zeroValue33,
 t55:=Tryz.underlying29,
 a55:=Tryz.isAgg29,
 z55:=Tryz.sizeOf29,
 v55:=Tryz.zeroValue29,
 t66:=Tryz.underlying140,
 a66:=Tryz.isAgg140,
 z66:=Tryz.sizeOf140,
 v66:=Tryz.zeroValue140,
 t70:=Tryz.underlying144,
 a70:=Tryz.isAgg144,
 z70:=Tryz.sizeOf144,
 v70:=Tryz.zeroValue144,
 t76:=Tryz.underlying157,
 a76:=Tryz.isAgg157,
 z76:=Tryz.sizeOf157,
 v76:=Tryz.zeroValue157,
 t77:=Tryz.underlying158,
 a77:=Tryz.isAgg158,
 z77:=Tryz.sizeOf158,
 v77:=Tryz.zeroValue158 }
end Go.Proofs
namespace Go.Proofs.YthpbefahaghbjaaGreat
open Go Go.Eng
def hdV (p:Num) (l:List VerP):SV:=if l=[] then .slv none 0 0 else .slv (some ⟨p.b,p.o,none⟩) l.length (p.x / 13)
def hdS (wm:WM) (s:WP):List SV:=[.raw (.map (some wm.m)),hdV (wm.P 1) s.l,hdV (wm.P 2) s.all,.bool (.v s.torn)]
theorem hdV_den (p:Num) (l:List VerP) (N:Nums):(hdV p l).den N=some (gC p l.length):=by
 unfold hdV gC
 by_cases h0:l=[]
 ·subst h0;rfl
 ·rw [if_neg h0,if_neg (fun h=>h0 (List.eq_nil_of_length_eq_zero h))]
  rfl
theorem hdS_den (wm:WM) (s:WP) (N:Nums):SV.denL N (hdS wm s)=some [.map (some wm.m),gC (wm.P 1) s.l.length,gC (wm.P 2) s.all.length,.bool s.torn]:=by
 simp only [hdS,SV.denL,hdV_den]
 rfl
theorem ro_none {p:Num} {cs:List SV} (k o:Nat):¬InR [p] [⟨false,cs,none⟩] k o:=ro_not
theorem versions_ok (wm:WM) (s:WP) (n:Nat) (Mo:Mem) (w:World) (h:WatchAt wm s Mo w) (ok:s.Ok n) (hn:n≤1000):Calls Tryz.prog 10 #[ptrN (wm.P 0)] w (VersR Mo s.l w):=by
 obtain ⟨Q,hQ⟩:∃ Q:Ending→World→Prop,Q=VersR Mo s.l w:=⟨_,rfl⟩
 rw [←hQ]
 obtain ⟨pv,hpv⟩:∃ v:Option Addr × Nat × Nat,v=if s.l=[] then (none,0,0) else (some ⟨(wm.P 1).b,(wm.P 1).o,none⟩,s.l.length,(wm.P 1).x / 13):=⟨_,rfl⟩
 obtain ⟨pp,pn,pc⟩:=pv
 have hlt:=(h.room 0 (by omega)).1
 have hcell:∀ (j:Nat) (c:SV),(hdS wm s)[j]?=some c→∃ v,c.den [⟨(wm.P 0).b,(wm.P 0).o,4⟩]=some v∧w.cell? ⟨(wm.P 0).b,(wm.P 0).o+j,none⟩=some v:=fun j c hj=>by
  obtain ⟨z1,z2⟩:=SV.denL_get (N:=[⟨(wm.P 0).b,(wm.P 0).o,4⟩]) (hdS wm s) (hdS_den wm s _)
  obtain ⟨v,z3,z4⟩:=z2 j c hj
  exact ⟨v,z3,h.hd.2 j v z4⟩
 refine X.begin (rg:=[⟨false,hdS wm s,none⟩]) (N:=[⟨(wm.P 0).b,(wm.P 0).o,4⟩]) (ss:=[.own 0 0]) Tryz.func10 rfl B10_ok rfl rfl (Sat.std1 false hlt hcell (fun h=>(by cases h))) ?_
 obtain ⟨im,hime⟩:∃ im,im=elsewhere [⟨(wm.P 0).b,(wm.P 0).o,4⟩] [⟨false,hdS wm s,none⟩] w:=⟨_,rfl⟩
 show X (mkE Tryz.prog Tryz.f10 Q w (InR [⟨(wm.P 0).b,(wm.P 0).o,4⟩] [⟨false,hdS wm s,none⟩]) (elsewhere [⟨(wm.P 0).b,(wm.P 0).o,4⟩] [⟨false,hdS wm s,none⟩] w) (fun _ _=>False) (fun _=>True) [⟨(wm.P 0).b,(wm.P 0).o,4⟩] B10) _ _
 have hMi:∀ k o v,Mo k o=some v→elsewhere [⟨(wm.P 0).b,(wm.P 0).o,4⟩] [⟨false,hdS wm s,none⟩] w k o=some v:=fun k o v hk=>by
  unfold elsewhere
  rw [if_neg (ro_none _ _)]
  exact h.mo k o v hk
 have hhd:hdS wm s=[.raw (.map (some wm.m)),.slv pp pn pc,hdV (wm.P 2) s.all,.bool (.v s.torn)]:=by
  unfold hdS
  have:hdV (wm.P 1) s.l=.slv pp pn pc:=by
   unfold hdV
   by_cases h0:s.l=[]
   ·rw [if_pos h0] at hpv ⊢;simp only [Prod.mk.injEq] at hpv;rw [hpv.1,hpv.2.1,hpv.2.2]
   ·rw [if_neg h0] at hpv ⊢;simp only [Prod.mk.injEq] at hpv;rw [hpv.1,hpv.2.1,hpv.2.2]
  rw [this]
 rw [hhd]
 refine X.go T10_ok 400 _ rfl Tryz.results10 ?_
 conv=>arg 2;cbv
 refine X.call rfl rfl rfl rfl Tryz.call26 (fun N w1 args hN hS ha=>?_)
 obtain rfl:args=[.slice pp pn pc]:=(Option.some.inj ha).symm
 have hc1:Chg (fun _ _=>False) w w1:=hS.chg.mono fun k o _ h=>absurd h (ro_none _ _)
 have hvr:Calls Tryz.prog 26 #[.slice pp pn pc] w1 (VersR Mo s.l w1):=by
  by_cases h0:s.l=[]
  ·rw [if_pos h0] at hpv
   obtain ⟨rfl,rfl,rfl⟩:pp=none∧pn=0∧pc=0:=by simpa using hpv
   rw [h0]
   exact wcloneN_ok Mo w1
  ·rw [if_neg h0] at hpv
   obtain ⟨rfl,rfl,rfl⟩:pp=_∧pn=_∧pc=_:=by simpa using hpv
   exact wclone_ok Mo (wm.P 1) s.l _ w1 (fun k o v hk=>cell_of_chg hc1 (fun h=>h) (h.mo k o v hk)) (h.l.chg hc1 fun _ _ _ h=>h) h0 (by have:=ok.l;omega) ok.vl
 refine hvr.mono fun e w2 ⟨⟨p,c,he,hm⟩,hch⟩=>?_
 have hws:w.heap.size≤w1.heap.size:=hS.chg.size
 obtain ⟨ln,hln⟩:∃ z,z=s.l.length:=⟨_,rfl⟩
 rw [←hln] at he
 refine ⟨_,he,Goes.newMem hN hS hch (r:=.slv p ln c) rfl rfl (fun hold hnew=>?_)⟩
 obtain ⟨im2,him2⟩:∃ im2,im2=imNew (elsewhere [⟨(wm.P 0).b,(wm.P 0).o,4⟩] [⟨false,[.raw (.map (some wm.m)),.slv pp pn pc,hdV (wm.P 2) s.all,.bool (.v s.torn)],none⟩] w) w1 w2:=⟨_,rfl⟩
 have hm2:∀ M:Mem,(∀ k o v,Mo k o=some v→M k o=some v)→(∀ k o v,w.heap.size≤k→im2 k o=some v→M k o=some v)→SlR M p c 13 (s.l.map VerP.toD):=fun M h1 h2=>hm M h1 fun k o v hk hc=>h2 k o v (Nat.le_trans hws hk) (by rw [him2];exact imNew_new (fun k o v h=>(hS.after0 hch).imm _ _ _ h) hk hc)
 show X (mkE Tryz.prog Tryz.f10 Q w (InR [⟨(wm.P 0).b,(wm.P 0).o,4⟩] [⟨false,[.raw (.map (some wm.m)),.slv pp pn pc,hdV (wm.P 2) s.all,.bool (.v s.torn)],none⟩]) (imNew (elsewhere [⟨(wm.P 0).b,(wm.P 0).o,4⟩] [⟨false,[.raw (.map (some wm.m)),.slv pp pn pc,hdV (wm.P 2) s.all,.bool (.v s.torn)],none⟩] w) w1 w2) (fun _ _=>False) (fun _=>True) [⟨(wm.P 0).b,(wm.P 0).o,4⟩] B10) _ _
 rw [←him2]
 clear him2 hold hnew hch he ha hS hN hm hvr hc1
 refine X.go T10_ok 400 _ rfl Tryz.results10 ?_
 conv=>arg 2;cbv
 refine X.done T10_ok rfl (fun N w' v hN hS hv=>?_)
 simp only [resV,SV.den,Option.some.injEq] at hv
 rw [hQ]
 refine ⟨⟨p,c,by rw [←hv,hln],fun M h1 h2=>hm2 M h1 fun k o v hk hv=>h2 k o v hk (hS.imm _ _ _ hv)⟩,hS.chg.mono fun k o _ h=>absurd h (ro_none _ _)⟩
theorem torn_ok (wm:WM) (s:WP) (Mo:Mem) (w:World) (h:WatchAt wm s Mo w):Calls Tryz.prog 13 #[ptrN (wm.P 0)] w fun e w'=>e=.returned (.bool s.torn)∧Chg (fun _ _=>False) w w':=by
 have hlt:=(h.room 0 (by omega)).1
 have hcell:∀ (j:Nat) (c:SV),(hdS wm s)[j]?=some c→∃ v,c.den [⟨(wm.P 0).b,(wm.P 0).o,4⟩]=some v∧w.cell? ⟨(wm.P 0).b,(wm.P 0).o+j,none⟩=some v:=fun j c hj=>by
  obtain ⟨z1,z2⟩:=SV.denL_get (N:=[⟨(wm.P 0).b,(wm.P 0).o,4⟩]) (hdS wm s) (hdS_den wm s _)
  obtain ⟨v,z3,z4⟩:=z2 j c hj
  exact ⟨v,z3,h.hd.2 j v z4⟩
 obtain ⟨h1,hh1⟩:∃ v,v=hdV (wm.P 1) s.l:=⟨_,rfl⟩
 obtain ⟨h2,hh2⟩:∃ v,v=hdV (wm.P 2) s.all:=⟨_,rfl⟩
 have he:hdS wm s=[.raw (.map (some wm.m)),h1,h2,.bool (.v s.torn)]:=by rw [hh1,hh2];rfl
 rw [he] at hcell
 refine X.begin (rg:=[⟨false,[.raw (.map (some wm.m)),h1,h2,.bool (.v s.torn)],none⟩]) (N:=[⟨(wm.P 0).b,(wm.P 0).o,4⟩]) (ss:=[.own 0 0]) Tryz.func13 rfl B13_ok rfl rfl (Sat.std1 false hlt hcell (fun h=>(by cases h))) ?_
 refine X.go T13_ok 400 _ rfl Tryz.results13 ?_
 conv=>arg 2;cbv
 refine X.done T13_ok rfl (fun N w' v hN hS hv=>⟨fin_bool hv ?_,hS.chg.mono fun k o _ h=>absurd h (ro_none _ _)⟩)
 simp [SB.den]
theorem wnew_ok (Mo:Mem) (w:World) (hMo:∀ k o v,Mo k o=some v→w.cell? ⟨k,o,none⟩=some v):Calls Tryz.prog 8 #[] w fun e w'=>∃ wm,e=.returned (ptrN (wm.P 0))∧WatchAt wm WP.zero Mo w'∧(∀ k o,wm.D 0 k o→w.heap.size≤k)∧Chg (fun _ _=>False) w w':=by
 obtain ⟨Q,hQ⟩:∃ Q:Ending→World→Prop,Q=fun e w'=>∃ wm,e=.returned (ptrN (wm.P 0))∧WatchAt wm WP.zero Mo w'∧(∀ k o,wm.D 0 k o→w.heap.size≤k)∧Chg (fun _ _=>False) w w':=⟨_,rfl⟩
 rw [←hQ]
 refine X.begin (rg:=[]) (N:=[]) (ss:=[]) Tryz.func8 rfl B8_ok rfl rfl Sat.std0 ?_
 refine X.go T8_ok 400 _ rfl Tryz.results8 ?_
 conv=>arg 2;cbv
 refine X.newR (.map #[] 0) trivial (fun b=>.map (some b)) (fun _=>rfl) rfl rfl (fun N a w1 hN hf hS=>rfl) (fun b=>rfl) (fun m hm hmi hmD=>?_)
 show X (mkE Tryz.prog Tryz.f8 Q w (InR [] []) (elsewhere [] [] w) (fun k o=>False∨k=m) (fun w=>True∧objAt w m=some (.map #[] 0)) [] B8) _ _
 refine X.go T8_ok 400 _ rfl Tryz.results8 ?_
 conv=>arg 2;cbv
 refine X.done T8_ok rfl (fun N w' v hN hS hv=>?_)
 obtain ⟨p,hp⟩:∃ p,N[0]?=some p:=⟨_,List.getElem?_eq_getElem (by rw [hS.len];simp)⟩
 simp only [resV,SV.den,hp,Option.some.injEq,Nat.add_zero] at hv
 have hx:=hS.ext 0 _ p rfl hp rfl
 have hx:4≤p.x:=hx
 have hro:=hS.room 0 _ p rfl hp rfl
 have hpl:=hS.lt 0 p hp
 have hfr:w.heap.size≤p.b:=by
  rcases hS.foot 0 _ p rfl hp rfl with h | h
  ·exact h
  ·exact absurd (h 0 (by omega)) inR_nil
 have hch:Chg (fun _ _=>False) w w':=hS.chg.mono fun k o _ h=>inR_nil h
 have hlow:∀ k o v,Mo k o=some v→k<w.heap.size:=fun k o v hk=>by
  have:=World.block_lt_of_cell? _ _ (hMo k o v hk)
  simpa using this
 have hD:∀ k o,(⟨m,fun r=>if r=0 then p else ⟨p.b,0,0⟩⟩:WM).D 0 k o→w.heap.size≤k:=fun k o hd=>by
  have hm:w.heap.size≤m:=hm
  rcases hd with e | ⟨r,hr,e1,e2,e3⟩
  ·have e:k=m:=e
   omega
  ·by_cases h0:r=0
   ·subst h0
    have e1:k=p.b:=e1
    omega
   ·have e1:k=(if r=0 then p else ⟨p.b,0,0⟩:Num).b:=e1
    rw [if_neg h0] at e1
    simp only at e1
    omega
 rw [hQ]
 refine ⟨⟨m,fun r=>if r=0 then p else ⟨p.b,0,0⟩⟩,by rw [←hv];rfl,⟨fun r hr=>?_,fun r r' hr hr' hne k o h1 h2=>?_,⟨fun _=>none,MapK.empty (heap_objAt hS.res.2),fun i e he=>by simp [WP.zero] at he,fun _ _ _=>rfl⟩,⟨hx,hasC_of hS rfl hp rfl⟩,⟨Nat.zero_le _,fun _=>rfl,[],rfl,fun i x hx=>by simp [WP.zero] at hx,fun j v hj=>by simp at hj⟩,⟨Nat.zero_le _,fun _=>rfl,[],rfl,fun i x hx=>by simp [WP.zero] at hx,fun j v hj=>by simp at hj⟩,fun i e he=>by simp [WP.zero] at he,fun k o v hk=>cell_of_chg hch (fun h=>h) (hMo k o v hk),fun k o hd=>?_⟩,hD,hch⟩
 ·by_cases h0:r=0
  ·subst h0;exact ⟨hpl,hro⟩
  ·simp only [h0,if_false]
   exact ⟨hpl,fun j hj=>absurd hj (Nat.not_lt_zero _)⟩
 ·by_cases h0:r=0
  ·have h1':r'≠0:=by omega
   simp only [h1',if_false] at h2
   have:=h2.2
   simp only at this
   omega
  ·simp only [h0,if_false] at h1
   have:=h1.2
   simp only at this
   omega
 ·cases hk:Mo k o with
  | none=>rfl
  | some v=>have:=hlow k o v hk;have:=hD k o hd;omega
theorem delNil_ok (g:Value) (hg:one? g=true) (w:World):Calls Tryz.prog 28 #[.slice none 0 0,g] w fun e w'=>e=.returned (.slice none 0 0)∧Chg (fun _ _=>False) w w':=told_run FALL_ok F28_ok 1000 [.raw (.slice none 0 0),.raw g] (by simp only [SV.denL,SV.den];rw [if_pos hg];rfl) rfl (l:=[.raw (.slice none 0 0)]) (fun N=>rfl) (by kernel_rfl) w
end Go.Proofs.YthpbefahaghbjaaGreat
namespace Go.Eng
open Go
theorem Sat.turnMem {E:Ctx} {N:Nums} {rg:List Rg} {w w':World} (h:Sat E.toEnv N rg w) (D':Nat→Nat→Prop) (R':World→Prop) (im':Mem) (hc:Chg E.D w w') (hO:∀ k o,E.D k o→E.W.heap.size≤k∨E.O k o) (him:∀ k o,E.D k o→E.im k o=none)
  (hrg:∀ (r:Nat) (g:Rg) (p:Num),rg[r]?=some g→N[r]?=some p→g.own=true∨∀ j,j<g.cells.length→¬E.D p.b (p.o+j)) (hD:∀ k o,D' k o→(E.D k o∨w.heap.size≤k)∧There w' k o) (hl:Loc D' R') (hR:R' w') (h1:∀ k o v,im' k o=some v→w'.cell? ⟨k,o,none⟩=some v) (h2:∀ k o v,im' k o=some v→E.im k o=some v∨w.heap.size≤k) :
  Sat ({ E.withDR D' R' with im:=im' }:Ctx).toEnv N rg w':=by
 have h':=h.turn' hc hO him hrg hD hl hR
 refine ⟨h'.len,h'.lt,h'.cell,h'.ext,h'.room,h'.disj,h'.obj,h'.odisj,h1,fun r g p hg hp ho j hj=>?_,h'.dd,h'.dlt,h'.loc,h'.res,h'.chg,h'.foot⟩
 show im' p.b (p.o+j)=none
 cases hm:im' p.b (p.o+j) with
 | none=>rfl
 | some v =>
  rcases h2 _ _ _ hm with h3 | h3
  ·rw [h.imd r g p hg hp ho j hj] at h3;cases h3
  ·have:=h.lt r p hp
   omega
end Go.Eng
namespace Go.Proofs.YthpbefahaghbjaaGreat
open Go Go.Eng Go.Sort
theorem imNew_none {im:Mem} {w w':World} {k o:Nat} (h:im k o=none) (hk:k<w.heap.size):imNew im w w' k o=none:=by
 unfold imNew
 rw [h]
 simp only
 rw [if_neg (by omega)]
theorem args_eq {N:Nums} {l:List SV} {args vs:List Value} (h:SV.denL N l=some vs) (ha:SV.denL N l=some args):args=vs:=by
 rw [h] at ha
 exact (Option.some.inj ha).symm
structure WatchR (wm:WM) (s:WP) (Mo:Mem) (w:World):Prop where
 room:∀ r,r<3+s.seen.length→Room (wm.P r) w
 sep:∀ r r',r<3+s.seen.length→r'<3+s.seen.length→r≠r'→∀ k o,inN (wm.P r) k o→¬inN (wm.P r') k o
 mp:∃ g,MapK Tryz.prog placeT wm.m g w∧(∀ i e,s.seen[i]?=some e→g (kvW e.key e.b)=some (ptrN (wm.P (3+i))))∧∀ key b,s.pos key b=none→g (kvW key b)=none
 hd:4≤(wm.P 0).x∧HasC (wm.P 0) [.map (some wm.m),gC (wm.P 1) s.l.length,gC (wm.P 2) s.all.length,.bool s.torn] w
 l:RowsW Mo (wm.P 1) s.l w
 a:RowsW Mo (wm.P 2) s.all w
 en:∀ i e,s.seen[i]?=some e→EntAt Mo (wm.P (3+i)) e w
 md:∀ k o,wm.D s.seen.length k o→Mo k o=none
theorem WatchAt.r {wm:WM} {s:WP} {Mo:Mem} {w:World} (h:WatchAt wm s Mo w):WatchR wm s Mo w:=⟨h.room,h.sep,h.mp,h.hd,h.l,h.a,h.en,h.md⟩
theorem WatchR.at {wm:WM} {s:WP} {Mo:Mem} {w:World} (h:WatchR wm s Mo w) (hm:∀ k o v,Mo k o=some v→w.cell? ⟨k,o,none⟩=some v):WatchAt wm s Mo w:=⟨h.room,h.sep,h.mp,h.hd,h.l,h.a,h.en,hm,h.md⟩
theorem WatchR.mono {wm:WM} {s:WP} {Mo Mo':Mem} {w:World} (h:WatchR wm s Mo w) (hm:∀ k o v,Mo k o=some v→Mo' k o=some v) (hd:∀ k o,wm.D s.seen.length k o→Mo' k o=none):WatchR wm s Mo' w:=⟨h.room,h.sep,h.mp,h.hd,h.l.mono hm,h.a.mono hm,fun i e he=>(h.en i e he).mono hm,hd⟩
theorem HasC.at {p:Num} {vs:List Value} {w w':World} (h:HasC p vs w) (hl:vs.length≤p.x) (hs:∀ k o,inN p k o→w'.cell? ⟨k,o,none⟩=w.cell? ⟨k,o,none⟩):HasC p vs w':=fun j v hj=>by
 rw [hs _ _ ⟨rfl,by omega,by have:=(List.getElem?_eq_some_iff.1 hj).1;omega⟩]
 exact h j v hj
theorem RowsW.at {M:Mem} {p:Num} {l:List VerP} {w w':World} (h:RowsW M p l w) (hs:∀ k o,inN p k o→w'.cell? ⟨k,o,none⟩=w.cell? ⟨k,o,none⟩):RowsW M p l w':=by
 obtain ⟨h1,h2,vss,h3,h4,h5⟩:=h
 refine ⟨h1,h2,vss,h3,h4,h5.at ?_ hs⟩
 rw [flatten_len (K:=13) fun v hv=>?_,h3]
 ·exact h1
 ·obtain ⟨i,hi⟩:=List.mem_iff_getElem?.1 hv
  obtain ⟨x,hx⟩:∃ x,l[i]?=some x:=⟨_,List.getElem?_eq_getElem (by rw [←h3];exact (List.getElem?_eq_some_iff.1 hi).1)⟩
  obtain ⟨vs,k1,k2⟩:=h4 i x hx
  rw [hi] at k1;cases k1
  rw [k2.len];rfl
theorem EntAt.at {M:Mem} {p:Num} {e:EntP} {w w':World} (h:EntAt M p e w) (hs:∀ k o,inN p k o→w'.cell? ⟨k,o,none⟩=w.cell? ⟨k,o,none⟩):EntAt M p e w':=by
 obtain ⟨h1,cv,rv,h2,h3,h4⟩:=h
 refine ⟨h1,cv,rv,h2,h3,h4.at ?_ hs⟩
 rw [List.length_append,List.length_append,h2.len,h3.len]
 exact h1
theorem WatchR.loc {wm:WM} {s:WP} {Mo:Mem}:Eng.Loc (wm.D s.seen.length) (WatchR wm s Mo):=by
 intro w w' hs hle h
 have cl:∀ r,r<3+s.seen.length→∀ k o,inN (wm.P r) k o→w'.cell? ⟨k,o,none⟩=w.cell? ⟨k,o,none⟩∧w'.frozen? ⟨k,o,none⟩=w.frozen? ⟨k,o,none⟩:=fun r hr k o hi=>(hs k o (.inr ⟨r,hr,hi⟩)).1
 have cl1:∀ r,r<3+s.seen.length→∀ k o,inN (wm.P r) k o→w'.cell? ⟨k,o,none⟩=w.cell? ⟨k,o,none⟩:=fun r hr k o hi=>(cl r hr k o hi).1
 obtain ⟨g,g1,g2⟩:=h.mp
 refine ⟨fun r hr=>⟨Nat.lt_of_lt_of_le (h.room r hr).1 hle,fun j hj=>?_⟩,h.sep,⟨g,g1.at (hs wm.m 0 (.inl rfl)).2,g2⟩,⟨h.hd.1,h.hd.2.at h.hd.1 (cl1 0 (by omega))⟩,h.l.at (cl1 1 (by omega)),h.a.at (cl1 2 (by omega)),fun i e he=>(h.en i e he).at (cl1 (3+i) (by have:=(List.getElem?_eq_some_iff.1 he).1;omega)),h.md⟩
 obtain ⟨e1,e2⟩:=cl r hr _ ((wm.P r).o+j) ⟨rfl,by omega,by omega⟩
 rw [e1,e2]
 exact (h.room r hr).2 j hj
def regW0:RegP:=⟨0,0,0,[],[],[],0,[]⟩
def regWS:RegS:=⟨0,0,0,0,none,none,none,none,0,0,0,0,0,0,0,0⟩
theorem repNil {M:Mem}:RepC M (.list []) (.slice none 0 0):=by
 simp only [RepC]
 exact ⟨none,0,rfl,⟨Nat.le_refl _,Nat.zero_le _⟩,.inl trivial⟩
theorem regW_rep (M:Mem):RepL M regW0.toD regWS.vals:=by
 refine ⟨_,_,rfl,rfl,_,_,rfl,rfl,_,_,rfl,rfl,_,_,rfl,repNil,_,_,rfl,repNil,_,_,rfl,repNil,_,_,rfl,rfl,_,_,rfl,repNil,rfl⟩
def telW (n:Int) (ks:List Int) (a:Int):TelP:=⟨n,⟨0,[],ks⟩,1,⟨true,⟨0,0,0⟩,⟨1,0,0⟩,regW0⟩,a⟩
def verW (a:Int):VerP:=⟨1,⟨1,0,0⟩,regW0,a⟩
theorem zero_saw:(WP.zero.saw (telW 3 [3] 5)).l=[verW 5]∧(WP.zero.saw (telW 3 [3] 5)).torn=false:=by
 have hc:(telW 3 [3] 5).cnt:=⟨by decide,by decide,rfl,by decide,mayC_one⟩
 have hp:WP.zero.pos 1 ⟨1,0,0⟩=none:=rfl
 have hq:(⟨0,[],[3]⟩:ConfP).quoW 1 (0 ||| 2 ^ 3):=quoC_8
 unfold WP.saw
 rw [if_neg (not_not_intro hc)]
 show (WP.told ⟨_,[],[verW 5],false⟩ 0 ⟨1,⟨1,0,0⟩,⟨0,[],[3]⟩,regW0,0,false⟩ (telW 3 [3] 5)).l=_∧(WP.told ⟨_,[],[verW 5],false⟩ 0 ⟨1,⟨1,0,0⟩,⟨0,[],[3]⟩,regW0,0,false⟩ (telW 3 [3] 5)).torn=_
 unfold WP.told
 have hq':ConfP.quoW ⟨0,[],[3]⟩ (telW 3 [3] 5).key (0 ||| 2 ^ (telW 3 [3] 5).node.toNat):=hq
 simp only [if_neg (show ¬(false=true) by decide),if_pos hq']
 refine ⟨rfl,?_⟩
 rw [B_neg (not_not_intro ⟨rfl,rfl⟩)]
 rfl
theorem telW_ok:(telW 3 [3] 5).Ok:=⟨by decide,⟨by decide,fun z hz=>by cases hz⟩,⟨by decide,fun z hz=>by
 obtain rfl:z=3:=by simpa [telW] using hz
 decide⟩,by rintro (h | h | h | h | ⟨i,d,h,_⟩)<;>first | exact absurd h (by decide) | (simp [telW,regW0] at h),by decide,by decide,by decide,by decide,by decide⟩
def telWC (n:Int) (b o c:Nat) (a:Int):TelC:=⟨n,0,none,0,0,some ⟨b,o,none⟩,1,c,1,true,0,0,0,1,0,0,regWS,a⟩
theorem telWC_of {M:Mem} {b o:Nat} (h:M b o=some (.int .u8 3)):(telWC 3 b o 1 5).Of M (telW 3 [3] 5):=by
 refine ⟨⟨rfl,rfl,rfl,rfl,rfl,rfl,rfl,rfl⟩,⟨⟨Nat.le_refl _,Nat.zero_le _⟩,.inl rfl⟩,⟨⟨Nat.le_refl _,by decide⟩,.inr ⟨b,o,rfl,fun i d hi=>?_⟩⟩,regW_rep M⟩
 have h0:i=0:=by
  have:=(List.getElem?_eq_some_iff.1 hi).1
  simp [telW] at this
  omega
 subst h0
 obtain rfl:u8D 3=d:=by simpa [telW] using hi
 refine ⟨[.int .u8 3],⟨_,_,rfl,rfl,rfl⟩,fun j v hj=>?_⟩
 have:j=0:=by
  have:=(List.getElem?_eq_some_iff.1 hj).1
  simp at this
  omega
 subst this
 obtain rfl:=Option.some.inj hj
 exact h
theorem zero_ok:WP.zero.Ok 0:=⟨fun _ h=>(by cases h),Nat.le_refl _,Nat.le_refl _,fun _ h=>(by cases h),fun _ h=>(by cases h)⟩
theorem awake24_ok (w:World):Calls Tryz.prog 7 #[] w fun e w'=>e=.returned (.bool true)∧Chg (fun _ _=>False) w w':=by
 obtain ⟨Q,hQ⟩:∃ Q:Ending→World→Prop,Q=fun e w'=>e=.returned (.bool true)∧Chg (fun _ _=>False) w w':=⟨_,rfl⟩
 rw [←hQ]
 refine X.begin (rg:=[]) (N:=[]) (ss:=[]) Tryz.func7 rfl B7_ok rfl rfl Sat.std0 ?_
 obtain ⟨im,hime⟩:∃ im,im=elsewhere [] [] w:=⟨_,rfl⟩
 have himl:∀ k o v,im k o=some v→k<w.heap.size:=fun k o v h=>by
  rw [hime] at h
  unfold elsewhere at h
  rw [if_neg inR_nil] at h
  have:=World.block_lt_of_cell? _ _ h
  simpa using this
 show X (mkE Tryz.prog Tryz.f7 Q w (InR [] []) (elsewhere [] [] w) (fun _ _=>False) (fun _=>True) [] B7) _ _
 rw [←hime]
 refine X.go T7_ok 400 _ rfl Tryz.results7 ?_
 conv=>arg 2;cbv
 refine X.call rfl rfl rfl rfl Tryz.call8 (fun N w1 args hN hS ha=>?_)
 obtain rfl:([]:List Value)=args:=Option.some.inj ha
 refine (wnew_ok im w1 hS.imm).mono fun e w2 ⟨wm,he,hat,hnew,hc⟩=>⟨_,he,?_⟩
 have hws:w.heap.size≤w1.heap.size:=hS.chg.size
 obtain ⟨pb,hpb⟩:∃ z,z=(wm.P 0).b:=⟨_,rfl⟩
 obtain ⟨py,hpy⟩:∃ z,z=(wm.P 0).o:=⟨_,rfl⟩
 refine Goes.turn (r:=.ext pb py 0) (wm.D 0) (WatchR wm WP.zero im) hN hS (hc.mono fun _ _ _ h=>h.elim) (fun _ _ h=>h.elim) (fun _ _ h=>h.elim) (fun g hg=>by simp at hg) (fun k o hk=>⟨.inr (hnew k o hk),hat.there hk⟩) (WatchR.loc (wm:=wm) (s:=WP.zero) (Mo:=im)) hat.r (by rw [hpb,hpy];rfl) rfl ?_
 have hO:∀ k o,wm.D 0 k o→w.heap.size≤k:=fun k o h=>Nat.le_trans hws (hnew k o h)
 clear ha he hc hS hN hat hnew hws
 show X (mkE Tryz.prog Tryz.f7 Q w (InR [] []) im (wm.D 0) (WatchR wm WP.zero im) [] B7) _ _
 refine X.go T7_ok 400 _ rfl Tryz.results7 ?_
 conv=>arg 2;cbv
 refine X.call rfl rfl rfl rfl Tryz.call9 (fun N w1 args hN hS ha=>?_)
 obtain ⟨p,hp⟩:=num_of hS (r:=0) rfl
 obtain rfl:=args_eq (vs:=(sawA pb py (telWC 3 p.b p.o 1 5)).toList) (by simp only [SV.denL,SV.den,SI.den,SB.den,hp];rfl) ha
 have hpw:=hS.lt 0 p hp
 have hpf:w.heap.size≤p.b:=by
  rcases hS.foot 0 _ p rfl hp rfl with h1 | h1
  ·exact h1
  ·exact absurd (h1 0 (by have:=hS.ext 0 _ p rfl hp rfl;simp at this;omega)) inR_nil
 have hrow:w1.cell? ⟨p.b,p.o,none⟩=some (.int .u8 3):=by
  obtain ⟨v,h1,h2⟩:=hS.cell 0 _ _ rfl hp 0 (.int .u8 (.lit 3)) rfl
  simp only [SV.den,SI.den,Option.some.injEq] at h1
  rw [h1];exact h2
 obtain ⟨Mo,hMo⟩:∃ M:Mem,M=fun k o=>if k=p.b then (if o=p.o then some (.int .u8 3) else none) else im k o:=⟨_,rfl⟩
 have hM0:Mo p.b p.o=some (.int .u8 3):=by rw [hMo];simp
 have hM1:∀ o v,Mo p.b o=some v→v=.int .u8 3:=fun o v h=>by
  rw [hMo] at h
  simp only [if_true] at h
  split at h
  ·exact (Option.some.inj h).symm
  ·cases h
 have hM2:∀ k o,k≠p.b→Mo k o=im k o:=fun k o h=>by rw [hMo];simp only [if_neg h]
 have hM3:∀ k o v,im k o=some v→Mo k o=some v:=fun k o v h=>by
  rw [hM2 k o fun e=>by have:=himl k o v h;omega]
  exact h
 have hdd:∀ k o,wm.D 0 k o→Mo k o=none:=fun k o hd=>by
  by_cases hk:k=p.b
  ·rw [hMo]
   simp only [if_pos hk]
   rw [if_neg fun ho=>?_]
   have:=hS.dd 0 _ p rfl hp rfl 0 (by have:=hS.ext 0 _ p rfl hp rfl;simp at this;omega)
   rw [hk,ho] at hd
   exact this hd
  ·rw [hM2 k o hk]
   exact hS.res.md k o hd
 have hat1:WatchAt wm WP.zero Mo w1:=(hS.res.mono hM3 hdd).at fun k o v hk=>by
  by_cases hkp:k=p.b
  ·subst hkp
   have h3:=hM1 o v hk
   rw [hMo] at hk
   simp only [if_true] at hk
   split at hk
   ·rename_i ho
    rw [ho,h3];exact hrow
   ·cases hk
  ·rw [hM2 k o hkp] at hk
   exact hS.imm k o v hk
 have hsaw:=saw_ok wm WP.zero 0 Mo w1 (telWC 3 p.b p.o 1 5) (telW 3 [3] 5) hat1 zero_ok (by omega) (telWC_of hM0) telW_ok
 have hok1:=zero_ok.saw telW_ok
 obtain ⟨hs1,hs2⟩:=zero_saw
 obtain ⟨s',hs'⟩:∃ s',s'=WP.zero.saw (telW 3 [3] 5):=⟨_,rfl⟩
 rw [←hs'] at hsaw hok1 hs1 hs2
 rw [←hpb,←hpy] at hsaw
 refine Calls.mono hsaw fun e w2 ⟨he,wm',Mo',hat',hP,hch,hD',he1,he2⟩=>⟨_,he,?_⟩
 have hN1:∀ o v,Mo' p.b o=some v→v=.int .u8 3:=fun o v h=>by
  rcases he2 _ _ _ h with h1 | h1
  ·exact hM1 o v h1
  ·omega
 obtain ⟨im',him'⟩:∃ M:Mem,M=fun k o=>if k=p.b then none else Mo' k o:=⟨_,rfl⟩
 have hi1:∀ k o v,im' k o=some v→k≠p.b∧Mo' k o=some v:=fun k o v h=>by
  rw [him'] at h
  simp only at h
  split at h
  ·cases h
  ·exact ⟨by assumption,h⟩
 have hi2:∀ k o v,k≠p.b→Mo' k o=some v→im' k o=some v:=fun k o v h1 h2=>by rw [him'];simp only [if_neg h1];exact h2
 refine ⟨mkE Tryz.prog Tryz.f7 Q w (InR [] []) im' (wm'.D s'.seen.length) (WatchR wm' s' Mo') N B7,N,.tup [],_,_,rfl,rfl,rfl,rfl,Nums.le.refl N,Nums.le.refl N,hS.turnMem (wm'.D s'.seen.length) (WatchR wm' s' Mo') im' hch (fun k o hk=>.inl (hO k o hk)) (fun k o hk=>hS.res.md k o hk) (fun r g q hg hq=>?_) (fun k o hk=>⟨hD' k o hk,hat'.there hk⟩) WatchR.loc hat'.r (fun k o v hk=>hat'.mo k o v (hi1 k o v hk).2) (fun k o v hk=>?_),rfl,rfl,?_⟩
 ·match r,hg with
  | 0,hg=>cases hg;exact .inl rfl
 ·rcases he2 _ _ _ (hi1 k o v hk).2 with h1 | h1
  ·rw [hM2 k o (hi1 k o v hk).1] at h1
   exact .inl h1
  ·exact .inr h1
 have hO':∀ k o,wm'.D s'.seen.length k o→w.heap.size≤k:=fun k o h=>by
  rcases hD' k o h with h1 | h1
  ·exact hO k o h1
  ·exact Nat.le_trans hS.chg.size h1
 have hrow':Mo' p.b p.o=some (.int .u8 3):=he1 _ _ _ hM0
 have hrow2:∀ o v,Mo' p.b o=some v→o=p.o:=fun o v h=>by
  rcases he2 _ _ _ h with h1 | h1
  ·rw [hMo] at h1
   simp only [if_true] at h1
   split at h1
   ·assumption
   ·cases h1
  ·omega
 have hpl:=hp
 clear ha he hN hat' hat1 hsaw hch hD' he1 he2 hM0 hM1 hM2 hM3 hdd hMo hO hS hrow himl
 refine X.go T7_ok 400 _ rfl Tryz.results7 ?_
 conv=>arg 2;cbv
 refine X.call rfl rfl rfl rfl Tryz.call10 (fun N2 w3 args hN hS ha=>?_)
 obtain rfl:=args_eq (vs:=[ptrN (wm'.P 0)]) (by rw [hP,ptrN,←hpb,←hpy];rfl) ha
 have hp2:=hN 0 _ hp
 have h3row:w3.cell? ⟨p.b,p.o,none⟩=some (.int .u8 3):=by
  obtain ⟨v,h1,h2⟩:=hS.cell 0 _ _ rfl hp2 0 (.int .u8 (.lit 3)) rfl
  simp only [SV.den,SI.den,Option.some.injEq] at h1
  rw [h1];exact h2
 have hat3:WatchAt wm' s' Mo' w3:=hS.res.at fun k o v hk=>by
  by_cases hkp:k=p.b
  ·subst hkp
   rw [hrow2 o v hk,hN1 o v hk]
   exact h3row
  ·exact hS.imm k o v (hi2 k o v hkp hk)
 have hv:=versions_ok wm' s' 1 Mo' w3 hat3 hok1 (by omega)
 rw [hs1] at hv
 refine Calls.mono hv fun e w4 ⟨⟨pv,cv,he,hm⟩,hch⟩=>?_
 refine ⟨_,he,Goes.newMem hN hS hch (r:=.slv pv 1 cv) rfl rfl (fun hold hnew=>?_)⟩
 obtain ⟨im2,him2⟩:∃ M,M=imNew im' w3 w4:=⟨_,rfl⟩
 show X (mkE Tryz.prog Tryz.f7 Q w (InR [] []) (imNew im' w3 w4) (wm'.D s'.seen.length) (WatchR wm' s' Mo') N B7) _ _
 rw [←him2] at hold hnew ⊢
 have hp3:p.b<w3.heap.size:=hS.lt 0 p hp2
 have hsl:=hm (fun k o=>if k=p.b then Mo' k o else im2 k o) (fun k o v hk=>by
  by_cases hkp:k=p.b
  ·simp only [if_pos hkp];exact hk
  ·simp only [if_neg hkp];exact hold _ _ _ (hi2 _ _ _ hkp hk)) (fun k o v hk hc=>by
  rw [if_neg (by omega)]
  exact hnew k o v hk hc)
 obtain ⟨b,y,vs,hpv,hrep,hcell⟩:=hsl.row (i:=0) rfl
 obtain ⟨rv,hvs,hreg⟩:=VerP.open hrep
 obtain ⟨g,hg⟩:=RegS.of hreg
 have hvs:vs=VerC.vals ⟨1,1,0,0,g,5⟩:=by rw [hvs,hg];rfl
 have hbp:b≠p.b:=fun e=>by
  have h:=hcell 0 (.int .u8 1) (by rw [hvs];rfl)
  simp only [if_pos e] at h
  rw [e] at h
  have:=hN1 _ _ h
  cases this
 obtain ⟨zz,hzz⟩:∃ z,z=y+0*13:=⟨_,rfl⟩
 rw [←hzz] at hcell
 have hdm:∀ k o,wm'.D s'.seen.length k o→im2 k o=none:=fun k o hk=>by
  rw [him2]
  exact imNew_none (by
   cases hm:im' k o with
   | none=>rfl
   | some v =>
    have:=hS.res.md k o hk
    rw [(hi1 k o v hm).2] at this;cases this) (hat3.lt hk)
 have hi2':∀ k o v,k≠p.b→Mo' k o=some v→im2 k o=some v:=fun k o v h1 h2=>hold _ _ _ (hi2 k o v h1 h2)
 clear him2 hold hnew hch he ha hS hN hm hv hat3 h3row hsl hrep hreg hi1 hi2 him' hp3 hp2
 obtain ⟨gk,gi,gs,gl,q1,q2,q3,q4,m1,m2,m3,m4,f1,f2,f3,f4⟩:=g
 refine X.go T7_ok 400 _ rfl Tryz.results7 ?_
 conv=>arg 2;cbv
 refine X.see b zz (VerC.svs ⟨1,1,0,0,⟨gk,gi,gs,gl,q1,q2,q3,q4,m1,m2,m3,m4,f1,f2,f3,f4⟩,5⟩) (fun j c hj=>?_) (by simp [VerC.svs]) (fun N1 hNN hNl1=>?_)
 ·obtain ⟨_,z2⟩:=SV.denL_get (N:=[]) (VerC.svs ⟨1,1,0,0,⟨gk,gi,gs,gl,q1,q2,q3,q4,m1,m2,m3,m4,f1,f2,f3,f4⟩,5⟩) (rfl:SV.denL [] _=some (VerC.vals ⟨1,1,0,0,⟨gk,gi,gs,gl,q1,q2,q3,q4,m1,m2,m3,m4,f1,f2,f3,f4⟩,5⟩))
  obtain ⟨v,z3,z4⟩:=z2 j c hj
  refine ⟨v,z3,?_⟩
  have h:=hcell j v (by rw [hvs];exact z4)
  simpa only [if_neg hbp] using h
 have hg1:(N1++[(⟨b,zz,0⟩:Num)])[1]?=some ⟨b,zz,0⟩:=num_last hNl1
 have hg0:(N1++[(⟨b,zz,0⟩:Num)])[0]?=some p:=num_old (hNN 0 _ hp)
 show X (mkE Tryz.prog Tryz.f7 Q w (InR [] []) im2 (wm'.D s'.seen.length) (WatchR wm' s' Mo') (N1++[⟨b,zz,0⟩]) B7) _ _
 refine X.goX ([(17,.own 1 0),(24,.own 1 0),(31,.bool (.lit false))]) ([]) T7_ok 400 _ rfl Tryz.results7 (fun pr pe fin hpr hpe hfin=>?_)
 conv=>cbv
 refine ⟨hpr _ (ValOk.row (z:=0) rfl rfl (fun _=>rfl) Tryz.underlying27 Tryz.sizeOf49 (by omega) hpv hg1 rfl hzz),hpr _ (ValOk.row (z:=0) rfl rfl (fun _=>rfl) Tryz.underlying27 Tryz.sizeOf49 (by omega) hpv hg1 rfl hzz),hpr _ (fun _=>⟨Tryz.call13,fun N w1 args hN hS ha=>?_⟩),hfin _ _ ?_⟩
 ·obtain rfl:=args_eq (vs:=[ptrN (wm'.P 0)]) (by rw [hP,ptrN,←hpb,←hpy];rfl) ha
  have hp2:=hN 0 _ hg0
  have h3row:w1.cell? ⟨p.b,p.o,none⟩=some (.int .u8 3):=by
   obtain ⟨v,h1,h2⟩:=hS.cell 0 _ _ rfl hp2 0 (.int .u8 (.lit 3)) rfl
   simp only [SV.den,SI.den,Option.some.injEq] at h1
   rw [h1];exact h2
  have hat3:WatchAt wm' s' Mo' w1:=hS.res.at fun k o v hk=>by
   by_cases hkp:k=p.b
   ·subst hkp
    rw [hrow2 o v hk,hN1 o v hk]
    exact h3row
   ·exact hS.imm k o v (hi2' k o v hkp hk)
  exact (torn_ok wm' s' Mo' w1 hat3).mono fun e w2 ⟨he,hc⟩=>⟨_,he,by rw [hs2];rfl,hc⟩
 refine X.done T7_ok rfl (fun N w' v hN hS hv=>?_)
 rw [hQ]
 exact ⟨fin_bool hv rfl,hS.chg.none⟩
end Go.Proofs.YthpbefahaghbjaaGreat
namespace Go.Eng
open Go
theorem Goes.rowsD {E:Ctx} {N:Nums} {k:List It} {s:St} {d:Option Nat} {w w':World} {cs:List SV} {n sz:Nat} {q:Num} (D':Nat→Nat→Prop) (R':World→Prop) (hN:E.N0.le N) (h:Sat E.toEnv N s.rg w) (hc:Chg (fun _ _=>False) w w') (h1:w.heap.size≤q.b) (h1':q.b<w'.heap.size) (h2:cs.length≤q.x) (h4:∀ (j:Nat) (c:SV),cs[j]?=some c→∃ v,c.den []=some v∧w'.cell? ⟨q.b,q.o+j,none⟩=some v)
  (h5:∀ j,j<q.x→(w'.cell? ⟨q.b,q.o+j,none⟩).isSome=true∧w'.frozen? ⟨q.b,q.o+j,none⟩=false) (hob:∀ (r:Nat) (g:Rg),s.rg[r]?=some g→g.ob=none) (hD:∀ k o,D' k o→There w' k o∧¬(k=q.b∧q.o≤o∧o<q.o+q.x)∧(E.D k o∨w.heap.size≤k)) (hl:Loc D' R') (hR:R' w')
  {f':Fr} (hp:putO E.n s.fr d (.val (.osl s.rg.length 0 n sz none))=some f') (hx:X (E.withDR D' R') k ⟨f',s.rg++[⟨true,cs,none⟩]⟩):Goes E N k s.fr d (.slice (some ⟨q.b,q.o,none⟩) n (q.x / sz)) w':=by
 have hget:(N++[q])[s.rg.length]?=some q:=by rw [←h.len];simp
 have h0:=h.after0 hc
 have h3:Sat E.toEnv (N++[q]) (s.rg++[⟨true,cs,none⟩]) w':=by
  refine h0.addFresh (s0:=w.heap.size) (fun r p hp=>h.lt r p hp) h1 h.chg.size h1' h2 (fun j c hj=>?_) h5 (fun i=>?_) (fun i hd=>?_)
  ·obtain ⟨v,k1,k2⟩:=h4 j c hj
   exact ⟨v,SV.den_mono (N:=[]) (N':=N) (fun r p h=>by simp at h) c k1,k2⟩
  ·cases hi:E.im q.b i with
   | none=>rfl
   | some v=>have:=World.block_lt_of_cell? _ _ (h.imm _ _ _ hi);simp at this;omega
  ·have:=(h.dlt _ _ hd).lt
   omega
 refine ⟨E.withDR D' R',N++[q],_,_,f',rfl,rfl,rfl,rfl,Nums.le_append _ _,hN.trans (Nums.le_append _ _),⟨h3.len,h3.lt,h3.cell,h3.ext,h3.room,h3.disj,fun r g p ob hg hp ho=>?_,h3.odisj,h3.imm,h3.imd,fun r g p hg hp ho j hj hd=>?_,fun k o hd=>(hD k o hd).1,hl,hR,h3.chg,h3.foot⟩,by simp only [SV.den,hget,Num.cap];simp,hp,hx⟩
 ·rcases get_snoc h.len hg hp with ⟨a,b⟩ | ⟨_,rfl,rfl⟩
  ·rw [hob r g a] at ho;cases ho
  ·cases ho
 ·obtain ⟨_,k2,k3⟩:=hD _ _ hd
  rcases get_snoc h.len hg hp with ⟨a,b⟩ | ⟨_,rfl,rfl⟩
  ·rcases k3 with k3 | k3
   ·exact h.dd r g p a b ho j hj k3
   ·have:=h.lt r p b
    omega
  ·exact k2 ⟨rfl,by omega,by omega⟩
end Go.Eng
namespace Go.Proofs.YthpbefahaghbjaaGreat
open Go Go.Eng
def SpV (l:List VerP) (vss:List (List Value)) (k o:Nat):Prop:=∃ (j:Nat) (x:VerP) (vs:List Value) (p':Option Addr) (c':Nat),l[j]?=some x∧vss[j]?=some vs∧vs[7]?=some (.slice p' x.reg.vars.length c')∧VarA p' x.reg.vars.length k o
def VarR (base:Nat) (q:Num) (l:List VerP) (vss:List (List Value)) (w:World):Prop :=
 ∀ (j:Nat) (x:VerP),l[j]?=some x→∃ t:VerC,vss[j]?=some t.vals∧∃ p' c',t.vals[7]?=some (.slice p' x.reg.vars.length c')∧(x.reg.vars≠[]→∃ b y,p'=some ⟨b,y,none⟩∧base≤b∧∀ u,u<x.reg.vars.length→(∃ z,w.cell? ⟨b,y+u,none⟩=some (.int .i64 z))∧w.frozen? ⟨b,y+u,none⟩=false∧¬inN q b (y+u))
theorem VarR.loc {base:Nat} {q:Num} {l:List VerP} {vss:List (List Value)}:Eng.Loc (SpV l vss) (VarR base q l vss):=fun w w' hs _ h j x hj=>by
 obtain ⟨t,h1,p',c',h2,h3⟩:=h j x hj
 refine ⟨t,h1,p',c',h2,fun h0=>?_⟩
 obtain ⟨b,y,e1,e2,e3⟩:=h3 h0
 refine ⟨b,y,e1,e2,fun u hu=>?_⟩
 obtain ⟨k1,k2⟩:=(hs b (y+u) ⟨j,x,_,p',c',hj,h1,h2,b,y,e1,rfl,Nat.le_add_right _ _,by omega⟩).1
 rw [k1,k2]
 exact e3 u hu
theorem VarR.there {base:Nat} {q:Num} {l:List VerP} {vss:List (List Value)} {w:World} (h:VarR base q l vss w) {k o:Nat} (hd:SpV l vss k o):There w k o∧base≤k∧¬inN q k o:=by
 obtain ⟨j,x,vs,p',c',hj,h1,h2,b,y,e1,rfl,e2,e3⟩:=hd
 obtain ⟨t,y1,p2,c2,y2,y3⟩:=h j x hj
 rw [h1] at y1;cases y1
 rw [h2] at y2
 simp only [Option.some.injEq,Value.slice.injEq] at y2
 obtain ⟨rfl,_,rfl⟩:=y2
 obtain ⟨b2,y',e4,e5,e6⟩:=y3 fun h0=>by rw [h0] at e3;simp at e3;omega
 rw [e1] at e4;cases e4
 obtain ⟨⟨z,k1⟩,_,k3⟩:=e6 (o-y) (by omega)
 rw [show y+(o-y)=o by omega] at k1 k3
 exact ⟨.inl (by rw [k1];rfl),e5,k3⟩
theorem VarR.mono {base base':Nat} {q:Num} {l:List VerP} {vss:List (List Value)} {w:World} (h:VarR base q l vss w) (hb:base'≤base):VarR base' q l vss w:=fun j x hj=>by
 obtain ⟨t,h1,p',c',h2,h3⟩:=h j x hj
 refine ⟨t,h1,p',c',h2,fun h0=>?_⟩
 obtain ⟨b,y,e1,e2,e3⟩:=h3 h0
 exact ⟨b,y,e1,Nat.le_trans hb e2,e3⟩
structure SpR (base:Nat) (q:Num) (l:List VerP) (vss:List (List Value)) (w:World):Prop where
 room:Room q w
 has:HasC q vss.flatten w
 var:VarR base q l vss w
structure SpOk (q:Num) (l:List VerP) (vss:List (List Value)):Prop where
 x:l.length*13≤q.x
 len:vss.length=l.length
 row:∀ v∈vss,v.length=13∧v.all one?=true
def SpD (q:Num) (l:List VerP) (vss:List (List Value)) (k o:Nat):Prop:=inN q k o∨SpV l vss k o
theorem SpOk.flat {q:Num} {l:List VerP} {vss:List (List Value)} (h:SpOk q l vss):vss.flatten.length≤q.x:=by
 rw [flatten_len (K:=13) fun v hv=>(h.row v hv).1,h.len]
 exact h.x
theorem SpR.loc {base:Nat} {q:Num} {l:List VerP} {vss:List (List Value)} (ok:SpOk q l vss):Eng.Loc (SpD q l vss) (SpR base q l vss):=fun w w' hs hle h=>by
 refine ⟨⟨Nat.lt_of_lt_of_le h.room.1 hle,fun j hj=>?_⟩,h.has.at ok.flat fun k o hi=>(hs k o (.inl hi)).1.1,VarR.loc w w' (fun k o hd=>hs k o (.inr hd)) hle h.var⟩
 obtain ⟨k1,k2⟩:=(hs q.b (q.o+j) (.inl ⟨rfl,by omega,by omega⟩)).1
 rw [k1,k2]
 exact h.room.2 j hj
theorem SpR.there {base:Nat} {q:Num} {l:List VerP} {vss:List (List Value)} {w:World} (h:SpR base q l vss w) {k o:Nat} (hd:SpD q l vss k o):There w k o:=by
 rcases hd with ⟨rfl,h1,h2⟩ | hd
 ·have:=(h.room.2 (o-q.o) (by omega)).1
  rw [show q.o+(o-q.o)=o by omega] at this
  exact .inl this
 ·exact (h.var.there hd).1
def VersS (Mo:Mem) (l:List VerP) (w:World):Ending→World→Prop:=fun e w' =>
 (∃ p c,e=.returned (.slice p l.length c)∧(∀ M:Mem,(∀ k o v,Mo k o=some v→M k o=some v)→(∀ k o v,w.heap.size≤k→w'.cell? ⟨k,o,none⟩=some v→M k o=some v)→SlR M p c 13 (l.map VerP.toD)) ∧
  ∃ (q:Num) (vss:List (List Value)),p=some ⟨q.b,q.o,none⟩∧c=q.x / 13∧w.heap.size≤q.b∧SpOk q l vss∧SpR w.heap.size q l vss w'∧SepR Mo w q l vss w')∧Chg (fun _ _=>False) w w'
theorem VersN.s {Mo:Mem} {l:List VerP} {w w':World} {e:Ending} (h0:l≠[]) (h:VersN Mo l w e w'):VersS Mo l w e w':=by
 obtain ⟨⟨p,c,h1,h2,h3⟩,hch⟩:=h
 obtain ⟨q,e1,e2,e3,e4,e5,vss,e6,e7,e8,e9,e10⟩:=h3 h0
 refine ⟨⟨p,c,h1,h2,q,vss,e1,e2,e3,⟨e5,e6,e8⟩,⟨e4,e7,fun j x hj=>?_⟩,e10⟩,hch⟩
 obtain ⟨t,y1,p',c',y2,y3⟩:=e9 j x hj
 refine ⟨t,y1,p',c',y2,fun hv=>?_⟩
 obtain ⟨b,y,z1,z2,z3⟩:=y3 hv
 refine ⟨b,y,z1,z2,fun u hu=>?_⟩
 obtain ⟨z,hz⟩:∃ z,x.reg.vars[u]?=some z:=⟨_,List.getElem?_eq_getElem hu⟩
 obtain ⟨k1,k2,k3⟩:=z3 u z hz
 exact ⟨⟨z,k1⟩,k2,k3⟩
theorem versionsS_ok (wm:WM) (s:WP) (n:Nat) (Mo:Mem) (w:World) (h:WatchAt wm s Mo w) (ok:s.Ok n) (hn:n≤1000) (h0:s.l≠[]):Calls Tryz.prog 10 #[ptrN (wm.P 0)] w (VersS Mo s.l w):=by
 obtain ⟨Q,hQ⟩:∃ Q:Ending→World→Prop,Q=VersS Mo s.l w:=⟨_,rfl⟩
 rw [←hQ]
 obtain ⟨pv,hpv⟩:∃ v:Option Addr × Nat × Nat,v=(some ⟨(wm.P 1).b,(wm.P 1).o,none⟩,s.l.length,(wm.P 1).x / 13):=⟨_,rfl⟩
 obtain ⟨pp,pn,pc⟩:=pv
 have hlt:=(h.room 0 (by omega)).1
 have hcell:∀ (j:Nat) (c:SV),(hdS wm s)[j]?=some c→∃ v,c.den [⟨(wm.P 0).b,(wm.P 0).o,4⟩]=some v∧w.cell? ⟨(wm.P 0).b,(wm.P 0).o+j,none⟩=some v:=fun j c hj=>by
  obtain ⟨z1,z2⟩:=SV.denL_get (N:=[⟨(wm.P 0).b,(wm.P 0).o,4⟩]) (hdS wm s) (hdS_den wm s _)
  obtain ⟨v,z3,z4⟩:=z2 j c hj
  exact ⟨v,z3,h.hd.2 j v z4⟩
 refine X.begin (rg:=[⟨false,hdS wm s,none⟩]) (N:=[⟨(wm.P 0).b,(wm.P 0).o,4⟩]) (ss:=[.own 0 0]) Tryz.func10 rfl B10_ok rfl rfl (Sat.std1 false hlt hcell (fun h=>(by cases h))) ?_
 show X (mkE Tryz.prog Tryz.f10 Q w (InR [⟨(wm.P 0).b,(wm.P 0).o,4⟩] [⟨false,hdS wm s,none⟩]) (elsewhere [⟨(wm.P 0).b,(wm.P 0).o,4⟩] [⟨false,hdS wm s,none⟩] w) (fun _ _=>False) (fun _=>True) [⟨(wm.P 0).b,(wm.P 0).o,4⟩] B10) _ _
 have hhd:hdS wm s=[.raw (.map (some wm.m)),.slv pp pn pc,hdV (wm.P 2) s.all,.bool (.v s.torn)]:=by
  unfold hdS
  have:hdV (wm.P 1) s.l=.slv pp pn pc:=by
   unfold hdV
   rw [if_neg h0]
   simp only [Prod.mk.injEq] at hpv
   rw [hpv.1,hpv.2.1,hpv.2.2]
  rw [this]
 rw [hhd]
 refine X.go T10_ok 400 _ rfl Tryz.results10 ?_
 conv=>arg 2;cbv
 refine X.call rfl rfl rfl rfl Tryz.call26 (fun N w1 args hN hS ha=>?_)
 obtain rfl:args=[.slice pp pn pc]:=(Option.some.inj ha).symm
 have hc1:Chg (fun _ _=>False) w w1:=hS.chg.mono fun k o _ h=>absurd h (ro_none _ _)
 have hvr:Calls Tryz.prog 26 #[.slice pp pn pc] w1 (VersN Mo s.l w1):=by
  obtain ⟨rfl,rfl,rfl⟩:pp=_∧pn=_∧pc=_:=by simpa using hpv
  exact wcloneF_ok Mo (wm.P 1) s.l _ w1 (fun k o v hk=>cell_of_chg hc1 (fun h=>h) (h.mo k o v hk)) (h.l.chg hc1 fun _ _ _ h=>h) h0 (by have:=ok.l;omega) ok.vl
 refine hvr.mono fun e w2 hvn=>?_
 obtain ⟨⟨p,c,he,hm,q,vss,hp,hc,hqb,hok,hsp,hsep⟩,hch⟩:=hvn.s h0
 have hws:w.heap.size≤w1.heap.size:=hS.chg.size
 obtain ⟨ln,hln⟩:∃ z,z=s.l.length:=⟨_,rfl⟩
 rw [←hln] at he
 refine ⟨_,he,Goes.newMemD (SpD q s.l vss) (SpR w1.heap.size q s.l vss) hN hS hch (r:=.slv p ln c) rfl rfl (fun r g p hg hp ho j hj hd=>?_) (fun r g hg=>?_) (fun k o hd=>hsp.there hd) (SpR.loc hok) hsp (fun hold hnew=>?_)⟩
 ·match r,hg with
  | 0,hg=>cases hg;cases ho
 ·match r,hg with
  | 0,hg=>cases hg;rfl
 obtain ⟨im2,him2⟩:∃ im2,im2=imNew (elsewhere [⟨(wm.P 0).b,(wm.P 0).o,4⟩] [⟨false,[.raw (.map (some wm.m)),.slv pp pn pc,hdV (wm.P 2) s.all,.bool (.v s.torn)],none⟩] w) w1 w2:=⟨_,rfl⟩
 have hm2:∀ M:Mem,(∀ k o v,Mo k o=some v→M k o=some v)→(∀ k o v,w.heap.size≤k→im2 k o=some v→M k o=some v)→SlR M p c 13 (s.l.map VerP.toD):=fun M h1 h2=>hm M h1 fun k o v hk hc=>h2 k o v (Nat.le_trans hws hk) (by rw [him2];exact imNew_new (fun k o v h=>(hS.after0 hch).imm _ _ _ h) hk hc)
 have hsep2:∃ Mr:Mem,(∀ k o v,Mr k o=some v→¬inN q k o∧(Mo k o=some v∨(w.heap.size≤k∧im2 k o=some v)))∧∀ (j:Nat) (x:VerP),s.l[j]?=some x→∃ vs,vss[j]?=some vs∧RepL Mr x.toD vs:=by
  obtain ⟨Mr,k1,k2⟩:=hsep
  refine ⟨Mr,fun k o v hk=>?_,k2⟩
  obtain ⟨k3,k4,k5⟩:=k1 k o v hk
  refine ⟨k4,k5.imp id fun h5=>⟨Nat.le_trans hws h5,?_⟩⟩
  rw [him2]
  exact imNew_new (fun k o v h=>(hS.after0 hch).imm _ _ _ h) h5 k3
 obtain ⟨bs,hbs⟩:∃ b,b=w1.heap.size:=⟨_,rfl⟩
 show X (mkE Tryz.prog Tryz.f10 Q w (InR [⟨(wm.P 0).b,(wm.P 0).o,4⟩] [⟨false,[.raw (.map (some wm.m)),.slv pp pn pc,hdV (wm.P 2) s.all,.bool (.v s.torn)],none⟩]) (imNew (elsewhere [⟨(wm.P 0).b,(wm.P 0).o,4⟩] [⟨false,[.raw (.map (some wm.m)),.slv pp pn pc,hdV (wm.P 2) s.all,.bool (.v s.torn)],none⟩] w) w1 w2) (SpD q s.l vss) (SpR w1.heap.size q s.l vss) [⟨(wm.P 0).b,(wm.P 0).o,4⟩] B10) _ _
 rw [←him2,←hbs]
 rw [←hbs] at hws hqb
 clear him2 hold hnew hch he ha hS hN hm hvr hc1 hsp hvn hbs hsep
 refine X.go T10_ok 400 _ rfl Tryz.results10 ?_
 conv=>arg 2;cbv
 refine X.done T10_ok rfl (fun N w' v hN hS hv=>?_)
 simp only [resV,SV.den,Option.some.injEq] at hv
 rw [hQ]
 refine ⟨⟨p,c,by rw [←hv,hln],fun M h1 h2=>hm2 M h1 fun k o v hk hv=>h2 k o v hk (hS.imm _ _ _ hv),q,vss,hp,hc,by omega,hok,?_,?_⟩,hS.chg.mono fun k o _ h=>absurd h (ro_none _ _)⟩
 ·exact ⟨hS.res.room,hS.res.has,hS.res.var.mono hws⟩
 ·have hcw:Chg (fun _ _=>False) w w':=hS.chg.mono fun k o _ h=>absurd h (ro_none _ _)
  obtain ⟨Mr,k1,k2⟩:=hsep2
  refine ⟨Mr,fun k o v hk=>?_,k2⟩
  obtain ⟨k4,k5⟩:=k1 k o v hk
  refine ⟨?_,k4,k5.imp id And.left⟩
  rcases k5 with h5 | ⟨_,h5⟩
  ·exact cell_of_chg hcw (fun h=>h) (h.mo k o v h5)
  ·exact hS.imm _ _ _ h5
end Go.Proofs.YthpbefahaghbjaaGreat
namespace Go.Proofs.YthpbefahaghbjaaGreat
open Go Go.Eng Go.Sort
theorem SlR.take {M:Mem} {p:Option Addr} {c K:Nat} {l:List (List Dt)} (h:SlR M p c K l) (n:Nat):SlR M p c K (l.take n):=by
 obtain ⟨⟨h1,h2⟩,h3⟩:=h
 have hl:(l.take n).length≤l.length:=by simp;omega
 refine ⟨⟨by omega,by omega⟩,?_⟩
 rcases h3 with rfl | ⟨b,y,hp,h4⟩
 ·exact .inl (by simp)
 ·refine .inr ⟨b,y,hp,fun i d hi=>h4 i d ?_⟩
  rw [List.getElem?_take] at hi
  split at hi
  ·exact hi
  ·cases hi
structure SpI (l:List VerP) (vss vss':List (List Value)):Prop where
 len:vss'.length=l.length
 row:∀ v∈vss',v.length=13∧v.all one?=true
 same:∀ (j:Nat) (x:VerP),l[j]?=some x→∃ t t0:VerC,vss[j]?=some t0.vals∧vss'[j]?=some t.vals∧t.vals[7]?=t0.vals[7]?
structure StayG (l:List TelP) (base pb py:Nat) (im0:Mem) where
 (i:Nat) (wd:WM) (s:WP) (Mo:Mem) (pw:Option Addr) (nw cw:Nat)
 hi:i≤l.length
 ok:s.Ok i
 far:∀ k o,wd.D s.seen.length k o→base≤k
 md:∀ k o,wd.D s.seen.length k o→Mo k o=none
 im:∀ k o v,im0 k o=some v→Mo k o=some v
 p0:pb=(wd.P 0).b∧py=(wd.P 0).o
 was:nw=s.l.length∧SlR Mo pw cw 13 (s.l.map VerP.toD)
theorem chain1_ok (t:VerC) (kb ky:Nat) (key:Int) (w:World) (hk:w.cell? ⟨kb,ky,none⟩=some (.int .u8 key)) :
  Calls Tryz.prog 29 #[.agg t.vals.toArray,.pointer (some ⟨kb,ky,none⟩)] w fun e w'=>e=.returned (.bool (!decide (t.key=key)))∧Chg (fun _ _=>False) w w':=by
 obtain ⟨vky,vb1,vb2,vb3,⟨vk,vi,vs,vl,r1,r2,r3,r4,o1,o2,o3,o4,j1,j2,j3,j4⟩,vta⟩:=t
 refine X.begin (rg:=[⟨false,[.int .u8 (.v key)],none⟩]) (N:=[⟨kb,ky,1⟩]) (ss:=[.agg (VerC.svs ⟨vky,vb1,vb2,vb3,⟨vk,vi,vs,vl,r1,r2,r3,r4,o1,o2,o3,o4,j1,j2,j3,j4⟩,vta⟩),.own 0 0]) Tryz.func29 rfl B29_ok rfl rfl
  (Sat.std1 false (World.block_lt_of_cell? _ _ hk) (fun j c hj=>by
   match j,hj with
   | 0,hj=>simp at hj;subst hj;exact ⟨_,rfl,hk⟩) (fun h=>by cases h)) ?_
 refine X.go T29_ok 400 _ rfl Tryz.results29 ?_
 conv=>arg 2;cbv
 refine X.done T29_ok rfl (fun N w' v hN hS hv=>⟨fin_bool hv ?_,hS.chg.ro1⟩)
 show (vky != key)=!decide (vky=key)
 by_cases h:vky=key<;>simp [h]
def cfV (x y:VerC):Int:=or3 (cmp3 x.b1 y.b1) (cmp3 x.b2 y.b2) (cmp3 x.b3 y.b3)
theorem chain2_ok (x y:VerC) (w:World) :
  Calls Tryz.prog 31 #[.agg x.vals.toArray,.agg y.vals.toArray] w fun e w'=>e=.returned (.int .i64 (cfV x y))∧Chg (fun _ _=>False) w w':=by
 obtain ⟨z,hz⟩:∃ z,z=cfV x y:=⟨_,rfl⟩
 have hb:=fun w1=>bcompare_ok x.b1 x.b2 x.b3 y.b1 y.b2 y.b3 w1
 rw [←hz]
 obtain ⟨xky,xb1,xb2,xb3,⟨xk,xi,xs,xl,r1,r2,r3,r4,o1,o2,o3,o4,j1,j2,j3,j4⟩,xta⟩:=x
 obtain ⟨yky,yb1,yb2,yb3,⟨yk,yi,ys,yl,s1,s2,s3,s4,p1,p2,p3,p4,k1,k2,k3,k4⟩,yta⟩:=y
 refine X.begin (rg:=[]) (N:=[]) (ss:=[.agg (VerC.svs ⟨xky,xb1,xb2,xb3,⟨xk,xi,xs,xl,r1,r2,r3,r4,o1,o2,o3,o4,j1,j2,j3,j4⟩,xta⟩),.agg (VerC.svs ⟨yky,yb1,yb2,yb3,⟨yk,yi,ys,yl,s1,s2,s3,s4,p1,p2,p3,p4,k1,k2,k3,k4⟩,yta⟩)]) Tryz.func31 rfl B31_ok rfl rfl Sat.std0 ?_
 refine X.goX ([(9,.int .i64 (.v z))]) ([]) T31_ok 400 _ rfl Tryz.results31 (fun pr pe fin hpr hpe hfin=>?_)
 conv=>cbv
 refine ⟨hpr _ (.of Tryz.call32 [.agg #[.int .u64 xb1,.int .u8 xb2,.int .u32 xb3],.agg #[.int .u64 yb1,.int .u8 yb2,.int .u32 yb3]] (.int .i64 z) (fun _=>rfl) (fun _=>rfl) fun _ w1 _=>by rw [hz];exact hb w1),hfin _ _ ?_⟩
 refine X.done T31_ok rfl (fun N w' v hN hS hv=>⟨fin_int hv rfl,hS.chg.mono fun k o _ h=>inR_nil h⟩)
def flV (l:List VerC):List Value:=(l.map VerC.vals).flatten
theorem VerC.len (t:VerC):t.vals.length=13:=rfl
theorem flV_rows (l:List VerC):∀ v∈l.map VerC.vals,v.length=13:=fun v hv=>by obtain ⟨x,_,rfl⟩:=List.mem_map.1 hv;rfl
theorem flV_len (l:List VerC):(flV l).length=l.length*13:=by
 unfold flV
 rw [flatten_len (K:=13) (flV_rows l),List.length_map]
theorem flV_row {l:List VerC} {i:Nat} {x:VerC} (h:l[i]?=some x):∃ A B:List Value,A.length=i*13∧∀ u:VerC,flV (l.set i u)=A++u.vals++B:=by
 obtain ⟨A,B,h1,h2⟩:=rows_split (vss:=l.map VerC.vals) (i:=i) (vs:=x.vals) (by simp [h]) (flV_rows l)
 refine ⟨A,B,h1,fun u=>?_⟩
 rw [←h2,←List.map_set]
 rfl
theorem flV_get {l:List VerC} {i:Nat} {x:VerC} (h:l[i]?=some x):∃ A B:List Value,A.length=i*13∧flV l=A++x.vals++B∧∀ u:VerC,flV (l.set i u)=A++u.vals++B:=by
 obtain ⟨A,B,h1,h2⟩:=flV_row h
 refine ⟨A,B,h1,?_,h2⟩
 rw [←h2]
 congr 1
 obtain ⟨y1,y2⟩:=List.getElem?_eq_some_iff.1 h
 rw [←y2];exact (List.set_getElem_self y1).symm
theorem flV_at {l:List VerC} {i:Nat} {x:VerC} (h:l[i]?=some x) {j:Nat} {v:Value} (hj:x.vals[j]?=some v):(flV l)[i*13+j]?=some v:=by
 obtain ⟨A,B,h1,h2,_⟩:=flV_get h
 have hjl:=(List.getElem?_eq_some_iff.1 hj).1
 rw [h2,List.append_assoc,List.getElem?_append_right (by omega),h1,Nat.add_sub_cancel_left,List.getElem?_append_left hjl]
 exact hj
theorem VerC.svs_den (t:VerC) (N:Nums):SV.denL N t.svs=some t.vals:=rfl
theorem VerC.svs_raw (t:VerC) (N:Nums) (v:Value) (h:(SV.agg (rawL t.vals)).den N=some v):(SV.agg t.svs).den N=some v:=by
 simp only [SV.den,rawL_denL (vs:=t.vals) rfl N] at h
 simp only [SV.den,VerC.svs_den]
 exact h
def isK (key:Int) (x:VerC):Bool:=decide (x.key=key)
def keepV (key:Int) (l:List VerC):List VerC:=l.filter (isK key)
theorem indexV_ok (l:List VerC) (key:Int) (b y c kb ky:Nat) (w:World) (hl:l.length≤1000) (hr:∀ (j:Nat) (v:Value),(flV l)[j]?=some v→w.cell? ⟨b,y+j,none⟩=some v) (hk:w.cell? ⟨kb,ky,none⟩=some (.int .u8 key)) :
  Calls Tryz.prog 58 #[.slice (some ⟨b,y,none⟩) l.length c,.func (.func 29) #[] #[.pointer (some ⟨kb,ky,none⟩)]] w fun e w'=>(∃ r:Int,e=.returned (.int .i64 r)∧((r=-1∧keepV key l=l)∨∃ i:Nat,r=i∧i<l.length∧keepV key (l.take (i+1))=l.take i))∧Chg (fun _ _=>False) w w':=by
 obtain ⟨Q,hQ⟩:∃ Q:Ending→World→Prop,Q=fun e w'=>(∃ r:Int,e=.returned (.int .i64 r)∧((r=-1∧keepV key l=l)∨∃ i:Nat,r=i∧i<l.length∧keepV key (l.take (i+1))=l.take i))∧Chg (fun _ _=>False) w w':=⟨_,rfl⟩
 rw [←hQ]
 obtain ⟨n,hn⟩:∃ n,n=l.length:=⟨_,rfl⟩
 rw [←hn]
 refine X.begin (rg:=[]) (N:=[]) (ss:=[.slv (some ⟨b,y,none⟩) n c,.fn 29 [.ext kb ky 0]]) Tryz.func58 rfl B58_ok rfl rfl Sat.std0 ?_
 obtain ⟨im,hime⟩:∃ im,im=elsewhere [] [] w:=⟨_,rfl⟩
 have him:∀ k o v,w.cell? ⟨k,o,none⟩=some v→im k o=some v:=fun k o v h=>by rw [hime];exact his h
 show X (mkE Tryz.prog Tryz.f58 Q w (InR [] []) (elsewhere [] [] w) (fun _ _=>False) (fun _=>True) [] B58) _ _
 rw [←hime]
 obtain ⟨pp,hpp⟩:∃ pp,pp=some (Addr.mk b y none):=⟨_,rfl⟩
 rw [←hpp]
 refine X.go T58_ok 400 _ rfl Tryz.results58 ?_
 conv=>arg 2;cbv
 refine X.loop1 (fun i:{i:Nat // i≤n∧keepV key (l.take i)=l.take i}=>⟨[(0,.val (.slv pp n c)),(1,.val (.fn 29 [.ext kb ky 0])),(7,.val (.int .i64 (.nat n))),(8,.val (.int .i64 (.nat i.1)))],[]⟩) (fun i=>n-i.1) (fun N a w' hN hf hS=>⟨⟨0,Nat.zero_le _,rfl⟩,?_⟩) (fun i q' hq'=>?_)
 ·exact At.again hf hS (by repeat first | exact trivial | refine ⟨⟨_,rfl,.inl ⟨rfl,rfl⟩⟩,?_⟩ | refine ⟨⟨_,rfl,.inr ⟨_,rfl,rfl⟩⟩,?_⟩ | refine ⟨⟨_,rfl,.inr ⟨_,rfl,by simp (disch:=omega) [SV.den,SI.den,wrapU,wrapD]<;>omega⟩⟩,?_⟩) trivial
 obtain ⟨i,hi,htk⟩:=i
 refine X.go T58_ok 400 _ rfl Tryz.results58 ?_
 conv=>arg 2;cbv
 refine X.cond rfl (fun hlt=>?_) (fun hge=>?_)
 ·simp only [SB.T,SI.den] at hlt
  have hlt:(i:Int)<(n:Int):=hlt
  have hlt:i<n:=by omega
  obtain ⟨x,hx⟩:∃ x,l[i]?=some x:=⟨_,List.getElem?_eq_getElem (by omega)⟩
  obtain ⟨h,hh⟩:∃ h,h=!decide (x.key=key):=⟨_,rfl⟩
  have hc:=fun (w1:World) (hi1:∀ k o v,im k o=some v→w1.cell? ⟨k,o,none⟩=some v)=>chain1_ok x kb ky key w1 (hi1 _ _ _ (him _ _ _ hk))
  rw [←hh] at hc
  have hrow:∀ (j:Nat) (v:Value),x.vals[j]?=some v→im b (y+i*13+j)=some v:=fun j v hj=>by
   rw [Nat.add_assoc]
   exact him _ _ _ (hr _ _ (flV_at hx hj))
  have htk2:keepV key (l.take (i+1))=if h=true then l.take i else l.take (i+1):=by
   rw [List.take_add_one,hx]
   unfold keepV at htk ⊢
   rw [List.filter_append,htk]
   by_cases hxk:x.key=key<;>simp [isK,hxk,hh]
  obtain ⟨vky,vb1,vb2,vb3,⟨vk,vi,vs,vl,r1,r2,r3,r4,o1,o2,o3,o4,j1,j2,j3,j4⟩,vta⟩:=x
  obtain ⟨z,hz⟩:∃ z,z=y+i*13:=⟨_,rfl⟩
  rw [←hz] at hrow
  refine X.see b z (VerC.svs ⟨vky,vb1,vb2,vb3,⟨vk,vi,vs,vl,r1,r2,r3,r4,o1,o2,o3,o4,j1,j2,j3,j4⟩,vta⟩) (see_of hrow rfl) (by simp [VerC.svs]) (fun N1 hN1 hNl1=>?_)
  have hg1:(N1++[(⟨b,z,0⟩:Num)])[0]?=some ⟨b,z,0⟩:=num_last hNl1
  refine X.goX ([(14,.own 0 0),(16,.bool (.v h))]) ([]) T58_ok 400 _ rfl Tryz.results58 (fun pr pe fin hpr hpe hfin=>?_)
  conv=>cbv
  refine ⟨hpr _ (ValOk.row rfl rfl (fun _=>rfl) Tryz.underlying27 Tryz.sizeOf49 hlt hpp hg1 rfl hz),hpr _ (.of Tryz.call29 [.agg (VerC.vals ⟨vky,vb1,vb2,vb3,⟨vk,vi,vs,vl,r1,r2,r3,r4,o1,o2,o3,o4,j1,j2,j3,j4⟩,vta⟩).toArray,.pointer (some ⟨kb,ky,none⟩)] (.bool h) (fun _=>rfl) (fun _=>rfl) fun _ w1 hi1=>hc w1 hi1),hfin _ _ ?_⟩
  refine X.cond rfl (fun hT=>?_) (fun hF=>?_)
  ·simp only [SB.T] at hT
   refine X.go T58_ok 400 _ rfl Tryz.results58 ?_
   conv=>arg 2;cbv
   refine X.done T58_ok rfl (fun N w' v hN hS hv=>?_)
   rw [hQ]
   exact ⟨⟨(i:Int),by rw [←(Option.some.inj hv:_=v)];rfl,.inr ⟨i,rfl,by omega,by rw [htk2,if_pos hT]⟩⟩,hS.chg.none⟩
  ·simp only [SB.F] at hF
   have hn1000:n≤1000:=by omega
   refine X.go T58_ok 400 _ rfl Tryz.results58 ?_
   conv=>arg 2;cbv
   refine X.back (fun N a w' hN hf hS=>hq' ⟨i+1,by omega,by rw [htk2,if_neg (by rw [hF];simp)]⟩ a w' (by simp only;omega) ?_)
   exact At.again hf hS (by repeat first | exact trivial | refine ⟨⟨_,rfl,.inl ⟨rfl,rfl⟩⟩,?_⟩ | refine ⟨⟨_,rfl,.inr ⟨_,rfl,rfl⟩⟩,?_⟩ | refine ⟨⟨_,rfl,.inr ⟨_,rfl,by simp (disch:=omega) [SV.den,SI.den,wrapU,wrapD]<;>omega⟩⟩,?_⟩) trivial
 simp only [SB.F,SI.den] at hge
 have hge:(n:Int)≤(i:Int):=hge
 refine X.go T58_ok 400 _ rfl Tryz.results58 ?_
 conv=>arg 2;cbv
 refine X.done T58_ok rfl (fun N w' v hN hS hv=>?_)
 rw [hQ]
 refine ⟨⟨-1,by rw [←(Option.some.inj hv:_=v)];rfl,.inl ⟨rfl,?_⟩⟩,hS.chg.none⟩
 rw [List.take_of_length_le (by omega)] at htk
 exact htk
theorem repz_one {z:List SV} (h:z.all SV.one=true):∀ n,(rep n z).all SV.one=true
 | 0=>rfl
 | n+1=>by rw [rep,List.all_append,h,repz_one h n];rfl
structure DelI (l:List VerC) (key:Int) (i j:Nat) (vs:List VerC):Prop where
 hi:i≤l.length
 hj:j<i
 len:vs.length=l.length
 take:vs.take j=keepV key (l.take i)
 drop:vs.drop i=l.drop i
theorem keepV_add {l:List VerC} {key:Int} {i:Nat} {x:VerC} (hx:l[i]?=some x):keepV key (l.take (i+1))=if x.key=key then keepV key (l.take i)++[x] else keepV key (l.take i):=by
 rw [List.take_add_one,hx]
 unfold keepV
 rw [List.filter_append]
 by_cases h:x.key=key<;>simp [isK,h]
theorem delV_ok (l:List VerC) (key:Int) (b y K kb ky:Nat) (w:World) (hl:l.length≤1000) (hK:l.length*13≤K) (hK0:0<K) (hA:∀ (j:Nat) (v:Value),(flV l)[j]?=some v→w.cell? ⟨b,y+j,none⟩=some v) (hroom:∀ j,j<K→(w.cell? ⟨b,y+j,none⟩).isSome=true∧w.frozen? ⟨b,y+j,none⟩=false)
  (hk:w.cell? ⟨kb,ky,none⟩=some (.int .u8 key)) (hkr:¬(kb=b∧y≤ky∧ky<y+K)) :
  Calls Tryz.prog 28 #[.slice (some ⟨b,y,none⟩) l.length (K / 13),.func (.func 29) #[] #[.pointer (some ⟨kb,ky,none⟩)]] w (TurnRet b y K (rawL (flV (keepV key l))) (keepV key l).length 13 w):=by
 obtain ⟨Q,hQ⟩:∃ Q:Ending→World→Prop,Q=TurnRet b y K (rawL (flV (keepV key l))) (keepV key l).length 13 w:=⟨_,rfl⟩
 rw [←hQ]
 obtain ⟨n,hn⟩:∃ n,n=l.length:=⟨_,rfl⟩
 rw [←hn]
 obtain ⟨dl,hdl⟩:∃ d,d=rawL (flV l):=⟨_,rfl⟩
 have hdll:dl.length=n*13:=by rw [hdl,rawL_len,flV_len,hn]
 have hraw:∀ (vs:List Value) (c:SV),c∈rawL vs→∀ (N N':Nums) (v:Value),c.den N=some v→c.den N'=some v:=fun vs c hc N N' v h=>rawL_den hc h
 have hone:∀ l:List VerC,(flV l).all one?=true:=fun l=>by
  rw [List.all_eq_true]
  intro v hv
  obtain ⟨r,h1,h2⟩:=List.mem_flatten.1 hv
  obtain ⟨x,_,rfl⟩:=List.mem_map.1 h1
  have:x.vals.all one?=true:=rfl
  exact List.all_eq_true.1 this v h2
 have hcell:∀ (j:Nat) (c:SV),dl[j]?=some c→∃ v,c.den [⟨b,y,K⟩]=some v∧w.cell? ⟨b,y+j,none⟩=some v:=fun j c hj=>by
  rw [hdl,rawL,List.getElem?_map,Option.map_eq_some_iff] at hj
  obtain ⟨v,hv,rfl⟩:=hj
  have ho:one? v=true:=List.all_eq_true.1 (hone l) v (List.mem_of_getElem? hv)
  exact ⟨v,by simp [SV.den,ho],hA j v hv⟩
 have hlt:b<w.heap.size:=World.block_lt_of_cell? _ _ (Option.isSome_iff_exists.1 (hroom 0 (by omega)).1).choose_spec
 have hend:∀ (N:Nums) (rg:List Rg) (w':World) (im:Mem) (cs:List SV) (m:Nat) (v:Value),Nums.le [⟨b,y,K⟩] N→Sat (mkE Tryz.prog Tryz.f28 Q w (InR [⟨b,y,K⟩] [⟨true,dl,none⟩]) im (fun _ _=>False) (fun _=>True) [⟨b,y,K⟩] B28).toEnv N rg w'→rg[0]?=some ⟨true,cs,none⟩→rawL (flV (keepV key l)) <+: cs→m=(keepV key l).length→(resV [.osl 0 0 m 13 none]).den N=some v→Q (.returned v) w':=fun N rg w' im cs m v hN hS hr hpre hm hv=>by
  have hp:N[0]?=some ⟨b,y,K⟩:=hN 0 _ rfl
  simp only [resV,SV.den,hp,Num.cap,Nat.add_zero,Nat.sub_zero,Option.some.injEq] at hv
  have hx:=hS.ext 0 _ _ hr hp rfl
  rw [hQ]
  refine ⟨b,y,K,by rw [←hv,hm],.inl ⟨rfl,rfl,rfl⟩,Nat.le_trans hpre.length_le hx,hK0,fun j c hj=>?_,hS.room 0 _ _ hr hp rfl,hS.chg.mono fun k o _ h=>?_⟩
  ·obtain ⟨t,ht⟩:=hpre
   obtain ⟨u,h1,h2⟩:=hS.cell 0 _ _ hr hp j c (by show cs[j]?=some c;rw [←ht,List.getElem?_append_left (List.getElem?_eq_some_iff.1 hj).1];exact hj)
   exact ⟨u,hraw _ c (List.mem_of_getElem? hj) N [] u h1,h2⟩
  ·rcases inR_cons h with ⟨_,h1,h2,h3⟩ | h
   ·exact ⟨h1,h2,h3⟩
   ·exact absurd h inR_nil
 refine X.begin (rg:=[⟨true,dl,none⟩]) (N:=[⟨b,y,K⟩]) (ss:=[.osl 0 0 n 13 none,.fn 29 [.ext kb ky 0]]) Tryz.func28 rfl B28_ok rfl rfl (Sat.stdL ⟨⟨hlt,rfl,hcell,fun _=>by show dl.length≤K;omega,fun _=>hroom⟩,trivial⟩ ⟨trivial,trivial⟩) ?_
 obtain ⟨im,hime⟩:∃ im,im=elsewhere [⟨b,y,K⟩] [⟨true,dl,none⟩] w:=⟨_,rfl⟩
 have himk:im kb ky=some (.int .u8 key):=by
  rw [hime];unfold elsewhere
  rw [if_neg fun h=>?_]
  ·exact hk
  ·rcases inR_cons h with ⟨_,h1,h2,h3⟩ | h
   ·exact hkr ⟨h1,h2,h3⟩
   ·exact absurd h inR_nil
 show X (mkE Tryz.prog Tryz.f28 Q w (InR [⟨b,y,K⟩] [⟨true,dl,none⟩]) (elsewhere [⟨b,y,K⟩] [⟨true,dl,none⟩] w) (fun _ _=>False) (fun _=>True) [⟨b,y,K⟩] B28) _ _
 rw [←hime]
 refine X.go T28_ok 400 _ rfl Tryz.results28 ?_
 conv=>arg 2;cbv
 refine X.call rfl rfl rfl rfl Tryz.call58 (fun N w1 args hN hS ha=>?_)
 have hp:N[0]?=some ⟨b,y,K⟩:=hN 0 _ rfl
 obtain rfl:=args_eq (vs:=[.slice (some ⟨b,y,none⟩) n (K / 13),.func (.func 29) #[] #[.pointer (some ⟨kb,ky,none⟩)]]) (by simp only [SV.denL,SV.den,hp,Num.cap];rfl) ha
 have hidx:=indexV_ok l key b y (K / 13) kb ky w1 hl (fun j v hj=>by
  obtain ⟨u,h1,h2⟩:=hS.cell 0 _ _ rfl hp j (.raw v) (by rw [hdl,rawL,List.getElem?_map,hj];rfl)
  have ho:one? v=true:=List.all_eq_true.1 (hone l) v (List.mem_of_getElem? hj)
  simp only [SV.den,ho,if_true,Option.some.injEq] at h1
  rw [h1];exact h2) (hS.imm _ _ _ himk)
 rw [←hn] at hidx
 refine Calls.mono hidx fun e w2 ⟨⟨r,he,hr⟩,hc⟩=>?_
 rcases hr with ⟨rfl,hall⟩ | ⟨i,rfl,hi,htk⟩
 ·refine ⟨_,he,Goes.same (r:=.int .i64 (.lit (-1))) hN hS hc rfl rfl ?_⟩
  clear ha he hc hS hN hidx hp
  refine X.go T28_ok 400 _ rfl Tryz.results28 ?_
  conv=>arg 2;cbv
  refine X.done T28_ok rfl (fun N w' v hN hS hv=>?_)
  exact hend N _ w' im dl n v hN hS rfl (by rw [hall,←hdl];exact List.prefix_refl _) (by rw [hall,hn]) hv
 refine ⟨_,he,Goes.same (r:=.int .i64 (.nat i)) hN hS hc rfl rfl ?_⟩
 clear ha he hc hS hN hidx hp
 refine X.go T28_ok 400 _ rfl Tryz.results28 ?_
 conv=>arg 2;cbv
 refine X.cond rfl (fun hT=>?_) (fun hF=>?_)
 ·exfalso
  simp only [SB.T,SI.den] at hT
  omega
 clear hF
 have hn1000:n≤1000:=by omega
 have hI0:DelI l key (i+1) i l:=⟨by omega,by omega,rfl,htk.symm,rfl⟩
 refine X.go T28_ok 400 _ rfl Tryz.results28 ?_
 conv=>arg 2;cbv
 refine X.loop1 (fun g:{g:Nat × Nat × List VerC // DelI l key g.1 g.2.1 g.2.2}=>⟨[(0,.val (.osl 0 0 n 13 none)),(1,.val (.fn 29 [.ext kb ky 0])),(4,.val (.raw (.slice none 0 0))),(5,.val (.int .i64 (.nat g.1.2.1))),(6,.val (.int .i64 (.nat g.1.1)))],[⟨true,rawL (flV g.1.2.2),none⟩]⟩) (fun g=>n-g.1.1) (fun N a w' hN hf hS=>⟨⟨(i+1,i,l),hI0⟩,?_⟩) (fun g q' hq'=>?_)
 ·exact At.mk hN hf hS (Nat.le_refl 1) (by repeat first | exact trivial | refine ⟨⟨_,rfl,.inl ⟨rfl,rfl⟩⟩,?_⟩ | refine ⟨⟨_,rfl,.inr ⟨_,rfl,rfl⟩⟩,?_⟩ | refine ⟨⟨_,rfl,.inr ⟨_,rfl,by simp (disch:=omega) [SV.den,SI.den,wrapU,wrapD]<;>omega⟩⟩,?_⟩) ⟨fun h=>h,(by rw [hdl];exact SubC.refl rawL_bd),rfl,trivial⟩ (fun _ _ _ h=>h) hS.loc hS.res
 clear htk hi hI0
 clear i
 obtain ⟨⟨i,j,vs⟩,hI⟩:=g
 simp only at hI
 have hin:=hI.hi
 have hji:=hI.hj
 rw [←hn] at hin
 have hvl:vs.length=n:=by rw [hI.len,hn]
 obtain ⟨d2,hd2⟩:∃ d,d=rawL (flV vs):=⟨_,rfl⟩
 have hd2l:d2.length=n*13:=by rw [hd2,rawL_len,flV_len,hvl]
 show X (mkE Tryz.prog Tryz.f28 Q w (InR [⟨b,y,K⟩] [⟨true,dl,none⟩]) im (fun _ _=>False) (fun _=>True) [⟨b,y,K⟩] B28) _ ⟨[(0,.val (.osl 0 0 n 13 none)),(1,.val (.fn 29 [.ext kb ky 0])),(4,.val (.raw (.slice none 0 0))),(5,.val (.int .i64 (.nat j))),(6,.val (.int .i64 (.nat i)))],[⟨true,rawL (flV vs),none⟩]⟩
 rw [←hd2]
 refine X.go T28_ok 400 _ rfl Tryz.results28 ?_
 conv=>arg 2;cbv
 refine X.cond rfl (fun hlt=>?_) (fun hge=>?_)
 ·simp only [SB.T,SI.den] at hlt
  have hlt:(i:Int)<(n:Int):=hlt
  have hlt:i<n:=by omega
  obtain ⟨x,hx⟩:∃ x,l[i]?=some x:=⟨_,List.getElem?_eq_getElem (by omega)⟩
  have hvx:vs[i]?=some x:=by
   have:=congrArg (fun l=>l[0]?) hI.drop
   simp only [List.getElem?_drop,Nat.add_zero] at this
   rw [this];exact hx
  obtain ⟨h,hh⟩:∃ h,h=!decide (x.key=key):=⟨_,rfl⟩
  have hc:=fun (w1:World) (hi1:∀ k o v,im k o=some v→w1.cell? ⟨k,o,none⟩=some v)=>chain1_ok x kb ky key w1 (hi1 _ _ _ himk)
  rw [←hh] at hc
  obtain ⟨zi,hzi⟩:∃ z,z=i*13:=⟨_,rfl⟩
  obtain ⟨zj,hzj⟩:∃ z,z=j*13:=⟨_,rfl⟩
  have hrow:∀ (u:Nat) (d:SV),(rawL x.vals)[u]?=some d→d2[zi+u]?=some d:=fun u d hu=>by
   rw [rawL,List.getElem?_map,Option.map_eq_some_iff] at hu
   obtain ⟨v,hv,rfl⟩:=hu
   rw [hd2,rawL,List.getElem?_map,hzi,flV_at hvx hv]
   rfl
  have hka:=keepV_add (key:=key) hx
  obtain ⟨xj,hxj⟩:∃ x,vs[j]?=some x:=⟨_,List.getElem?_eq_getElem (by omega)⟩
  obtain ⟨A,B',hAl,hfl,hset⟩:=flV_get hxj
  obtain ⟨d3,hd3⟩:∃ d,d=setRow d2 zj x.svs:=⟨_,rfl⟩
  have hd3e:d3=rawL A++x.svs++rawL B':=by
   rw [hd3,hd2,hfl,hzj,←hAl,←rawL_len A]
   have:rawL (A++xj.vals++B')=rawL A++rawL xj.vals++rawL B':=by simp [rawL]
   rw [this]
   exact setRow_mid rfl
  have hnewe:rawL (flV (vs.set j x))=rawL A++rawL x.vals++rawL B':=by rw [hset];simp [rawL]
  have hzjl:zj+13≤d2.length:=by rw [hd2l,hzj];omega
  have hsraw:=VerC.svs_raw x
  obtain ⟨nvs,hnvs⟩:∃ v,v=vs.set j x:=⟨_,rfl⟩
  have hI2:x.key=key→DelI l key (i+1) (j+1) nvs:=fun hxk=>⟨by omega,by omega,by rw [hnvs,List.length_set];exact hI.len,by
   rw [hka,if_pos hxk,←hI.take,hnvs,List.take_add_one,List.take_set_of_le (Nat.le_refl j),List.getElem?_set,if_pos rfl,if_pos (by omega)];rfl,by
   have:=congrArg (List.drop 1) hI.drop
   rw [List.drop_drop,List.drop_drop] at this
   rw [hnvs,List.drop_set_of_lt (by omega)]
   exact this⟩
  have hI3:¬x.key=key→DelI l key (i+1) j vs:=fun hxk=>⟨by omega,by omega,hI.len,by rw [hka,if_neg hxk];exact hI.take,by
   have:=congrArg (List.drop 1) hI.drop
   rw [List.drop_drop,List.drop_drop] at this
   exact this⟩
  rw [←hnvs] at hnewe
  have hvals:x.vals.all one?=true:=rfl
  have hre:∀ (N:Nums) (u:Nat) (c c':SV),x.svs[u]?=some c→(rawL x.vals)[u]?=some c'→∀ v,c.den N=some v→c'.den N=some v:=fun N u c c' h1 h2 v hv=>by
   obtain ⟨v1,k1,k2⟩:=(SV.denL_get _ (VerC.svs_den x N)).2 u c h1
   obtain ⟨v2,k3,k4⟩:=(SV.denL_get _ (rawL_denL (vs:=x.vals) hvals N)).2 u c' h2
   rw [k2] at k4;cases k4
   rw [hv] at k1;cases k1
   exact k3
  obtain ⟨kx,hkx⟩:∃ k,k=x.key:=⟨_,rfl⟩
  rw [←hkx] at hh hI2 hI3
  obtain ⟨rx,hrx⟩:∃ r,r=rawL x.vals:=⟨_,rfl⟩
  rw [←hrx] at hrow hsraw hnewe hre
  have hrxl:rx.length=13:=by rw [hrx,rawL_len];rfl
  clear hka hfl hset hx hvx hxj hvals hrx hkx
  obtain ⟨vky,vb1,vb2,vb3,⟨vk,vi,vs',vl,r1,r2,r3,r4,o1,o2,o3,o4,j1,j2,j3,j4⟩,vta⟩:=x
  refine X.goX ([(24,.own 0 zi),(25,.agg (VerC.svs ⟨vky,vb1,vb2,vb3,⟨vk,vi,vs',vl,r1,r2,r3,r4,o1,o2,o3,o4,j1,j2,j3,j4⟩,vta⟩)),(28,.bool (.v h))]) ([]) T28_ok 400 _ rfl Tryz.results28 (fun pr pe fin hpr hpe hfin=>?_)
  conv=>cbv
  refine ⟨hpr _ (vk_osl (sx:=.osl 0 0 n 13 none) rfl (.inr (.inr ⟨none,rfl⟩)) rfl (fun _=>rfl) Tryz.underlying27 Tryz.sizeOf49 (fun _=>hlt) hzi (by simp)),hpr _ ((vk_loadRow (c:=zi) (gg:=⟨true,d2,none⟩) (row:=rx) rfl Tryz.isAgg49 Tryz.sizeOf49 rfl hrxl hrow).conv hsraw),hpr _ (.of Tryz.call29 [.agg (VerC.vals ⟨vky,vb1,vb2,vb3,⟨vk,vi,vs',vl,r1,r2,r3,r4,o1,o2,o3,o4,j1,j2,j3,j4⟩,vta⟩).toArray,.pointer (some ⟨kb,ky,none⟩)] (.bool h) (fun _=>rfl) (fun _=>rfl) fun _ w1 hi1=>hc w1 hi1),hfin _ _ ?_⟩
  clear hpr hpe hfin
  refine X.cond rfl (fun hT=>?_) (fun hF=>?_)
  ·simp only [SB.T,SB.F] at hT
   have hT:h=false:=by simpa using hT
   have hkk:kx=key:=by rw [hT] at hh;simpa using hh.symm
   refine X.goX ([(33,.own 0 zj)]) ([(1004,⟨fun _=>.tup [],[(0,⟨true,d3,none⟩)],[]⟩)]) T28_ok 400 _ rfl Tryz.results28 (fun pr pe fin hpr hpe hfin=>?_)
   conv=>cbv
   refine ⟨hpr _ (vk_osl (sx:=.osl 0 0 n 13 none) rfl (.inr (.inr ⟨none,rfl⟩)) rfl (fun _=>rfl) Tryz.underlying27 Tryz.sizeOf49 (fun _=>by omega) hzj (by simp)),hpe _ _ _ _ _ ?_,hfin _ _ ?_⟩
   ·refine EffOk.step T28_ok ?_
    rw [stepE_store (c:=zj) (v:=.agg (VerC.svs ⟨vky,vb1,vb2,vb3,⟨vk,vi,vs',vl,r1,r2,r3,r4,o1,o2,o3,o4,j1,j2,j3,j4⟩,vta⟩)) (g:=⟨true,d2,none⟩) (ti:=ti49) rfl rfl rfl rfl rfl rfl hzjl rfl]
    show some (_,[(⟨true,setRow d2 zj (VerC.svs ⟨vky,vb1,vb2,vb3,⟨vk,vi,vs',vl,r1,r2,r3,r4,o1,o2,o3,o4,j1,j2,j3,j4⟩,vta⟩),none⟩:Rg),_])=_
    rw [←hd3]
    rfl
   clear hpr hpe hfin
   refine X.recell 0 ⟨true,d3,none⟩ (rawL (flV nvs)) rfl (by rw [hnewe];show _=d3.length;rw [hd3e];simp [hrxl];rfl) (fun N hN u c c' h1 h2 v hv=>?_) ?_
   ·rw [hnewe] at h2
    have h1:d3[u]?=some c:=h1
    rw [hd3e] at h1
    exact recell_mid (N:=N) (by rw [hrxl];rfl) (hre N) u c c' h1 h2 v hv
   refine X.back (fun N a w' hN hf hS=>hq' ⟨⟨i+1,j+1,nvs⟩,hI2 hkk⟩ a w' (by simp only;omega) ?_)
   exact At.mk hN hf hS (Nat.le_refl 1) (by repeat first | exact trivial | refine ⟨⟨_,rfl,.inl ⟨rfl,rfl⟩⟩,?_⟩ | refine ⟨⟨_,rfl,.inr ⟨_,rfl,rfl⟩⟩,?_⟩ | refine ⟨⟨_,rfl,.inr ⟨_,rfl,by simp (disch:=omega) [SV.den,SI.den,wrapU,wrapD]<;>omega⟩⟩,?_⟩) ⟨fun h=>h,SubC.refl rawL_bd,rfl,trivial⟩ (fun _ _ _ h=>h) hS.loc hS.res
  ·simp only [SB.F,SB.T] at hF
   have hF:h=true:=by simpa using hF
   have hkk:¬kx=key:=by rw [hF] at hh;simpa using hh.symm
   refine X.go T28_ok 400 _ rfl Tryz.results28 ?_
   conv=>arg 2;cbv
   refine X.back (fun N a w' hN hf hS=>hq' ⟨⟨i+1,j,vs⟩,hI3 hkk⟩ a w' (by simp only;omega) ?_)
   exact At.mk hN hf hS (Nat.le_refl 1) (by repeat first | exact trivial | refine ⟨⟨_,rfl,.inl ⟨rfl,rfl⟩⟩,?_⟩ | refine ⟨⟨_,rfl,.inr ⟨_,rfl,rfl⟩⟩,?_⟩ | refine ⟨⟨_,rfl,.inr ⟨_,rfl,by simp (disch:=omega) [SV.den,SI.den,wrapU,wrapD]<;>omega⟩⟩,?_⟩) ⟨fun h=>h,(by rw [hd2];exact SubC.refl rawL_bd),rfl,trivial⟩ (fun _ _ _ h=>h) hS.loc hS.res
 simp only [SB.F,SI.den] at hge
 have hge:(n:Int)≤(i:Int):=hge
 have hen:i=n:=by omega
 subst hen
 obtain ⟨zj,hzj⟩:∃ z,z=j*13:=⟨_,rfl⟩
 obtain ⟨m,hm⟩:∃ m,m=i-j:=⟨_,rfl⟩
 obtain ⟨d3,hd3⟩:∃ d,d=setRow d2 zj (rep m ti49.zero):=⟨_,rfl⟩
 have hzjl:zj+m*13=d2.length:=by rw [hd2l,hzj,hm,←Nat.add_mul];congr 1;omega
 have hkeep:keepV key l=vs.take j:=by
  have:=hI.take
  rw [List.take_of_length_le (l:=l) (by omega)] at this
  exact this.symm
 have hkl:(keepV key l).length=j:=by rw [hkeep,List.length_take];omega
 have hpre:rawL (flV (keepV key l)) <+: d3:=by
  have e1:flV vs=flV (vs.take j)++flV (vs.drop j):=by
   unfold flV
   rw [←List.flatten_append,←List.map_append,List.take_append_drop]
  have e2:d2.take zj=rawL (flV (vs.take j)):=by
   rw [hd2,e1,show rawL (flV (vs.take j)++flV (vs.drop j))=rawL (flV (vs.take j))++rawL (flV (vs.drop j)) by simp [rawL],List.take_left' (by rw [rawL_len,flV_len,←hkeep,hkl,hzj])]
  rw [hd3,setRow_eq _ _ _ (by omega),e2,←hkeep,List.append_assoc]
  exact List.prefix_append _ _
 refine X.goX ([(38,.osl 0 zj m 13 none),(41,.osl 0 0 j 13 none)]) ([(1003,⟨fun _=>.tup [],[(0,⟨true,d3,none⟩)],[]⟩)]) T28_ok 400 _ rfl Tryz.results28 (fun pr pe fin hpr hpe hfin=>?_)
 conv=>cbv
 refine ⟨hpr _ (vk_sliceN (zl:=some j) (zh:=none) (gg:=⟨true,d2,none⟩) rfl ⟨_,_,rfl,fun _=>rfl⟩ trivial rfl rfl (by omega) Tryz.underlying27 Tryz.sizeOf49 (by show j≤i;omega) (by show 0+i*13≤d2.length;omega) (.inr (by show 0+(j+1)*13≤d2.length;omega)) (by show zj=0+j*13;omega) hm),
  hpe _ _ _ _ _ (EffOk.clear (te:=ti49) (r:=0) (c:=zj) (n:=m) (g:=⟨true,d2,none⟩) T28_ok rfl rfl rfl rfl rfl (by decide) rfl rfl (by omega) (by show zj≤d2.length;omega) (repz_one rfl m) (fun N p _ _ hl=>by
   have hl:d2.length≤p.x:=hl
   show zj+m*13≤p.x
   omega) hd3),
  hpr _ (vk_sliceN (zl:=none) (zh:=some j) (gg:=⟨true,d3,none⟩) rfl trivial ⟨_,_,rfl,fun _=>rfl⟩ rfl rfl (by omega) Tryz.underlying27 Tryz.sizeOf49 (Nat.zero_le _) (by
   show 0+j*13≤d3.length
   rw [hd3,setRow_length _ _ _ (by omega)]
   omega) (.inl rfl) rfl rfl),hfin _ _ ?_⟩
 clear hpr hpe hfin
 refine X.done T28_ok rfl (fun N w' v hN hS hv=>?_)
 exact hend N _ w' im d3 j v hN hS rfl hpre hkl.symm hv
end Go.Proofs.YthpbefahaghbjaaGreat
namespace Go.Eng
open Go
theorem Goes.turned {E:Ctx} {N:Nums} {k:List It} {s:St} {d:Option Nat} {v:Value} {w w':World} {r:Nat} {g:Rg} {p:Num} {cs:List SV} {n sz:Nat} (hN:E.N0.le N) (h:Sat E.toEnv N s.rg w) (hg:s.rg[r]?=some g) (hp:N[r]?=some p) (ho:g.own=true) (hob:g.ob=none) (hf:TurnRet p.b p.o p.x cs n sz w (.returned v) w')
  {f':Fr} (hput:putO E.n s.fr d (.val (.osl s.rg.length 0 n sz none))=some f') (hx:X E k ⟨f',s.rg.set r ⟨false,[],none⟩++[⟨true,cs,none⟩]⟩):Goes E N k s.fr d v w':=by
 obtain ⟨v',N',h1,h2,h3,h4⟩:=hf.sat h hg hp ho hob
 cases h1
 exact ⟨E,N',_,_,f',rfl,rfl,rfl,rfl,h2,hN.trans h2,h4,h3,hput,hx⟩
end Go.Eng
namespace Go.Proofs.YthpbefahaghbjaaGreat
open Go Go.Eng Go.Sort
instance:Inhabited VerC:=⟨⟨0,0,0,0,regWS,0⟩⟩
instance:Inhabited VerP:=⟨⟨0,⟨0,0,0⟩,regW0,0⟩⟩
abbrev VX:=VerC × VerP
def encX (x:VX):List Value:=x.1.vals
def cfX (x y:VX):Int:=cfV x.1 y.1
def bLt (a1 a2 a3 b1 b2 b3:Int):Prop:=a1<b1∨(a1=b1∧(a2<b2∨(a2=b2∧a3<b3)))
instance {a1 a2 a3 b1 b2 b3:Int}:Decidable (bLt a1 a2 a3 b1 b2 b3):=by unfold bLt;infer_instance
theorem cmp_lt (a1 a2 a3 b1 b2 b3:Int):decide (or3 (cmp3 a1 b1) (cmp3 a2 b2) (cmp3 a3 b3)<0)=decide (bLt a1 a2 a3 b1 b2 b3):=by
 unfold or3 cmp3 bLt
 apply decide_eq_decide.2
 split<;>split<;>(try split)<;>(try split)<;>(try split)<;>(try split)<;>omega
theorem ltX (x y:VX):ltOf cfX x y=decide (bLt x.1.b1 x.1.b2 x.1.b3 y.1.b1 y.1.b2 y.1.b3):=cmp_lt ..
theorem swoX:SWO (ltOf cfX) where
 irrefl x:=by rw [ltX];simp [bLt]
 trans x y z h1 h2:=by
  rw [ltX,decide_eq_true_eq] at h1 h2 ⊢
  unfold bLt at h1 h2 ⊢
  omega
 ntrans x y z h1 h2:=by
  rw [ltX,decide_eq_false_iff_not] at h1 h2 ⊢
  unfold bLt at h1 h2 ⊢
  omega
theorem get_bang {α:Type} [Inhabited α] (l:List α) (i:Nat) (h:i<l.length):l[i]?=some l[i]! := by
 rw [getElem!_pos l i h]
 exact List.getElem?_eq_getElem h
theorem flatX {d:Array VX} {j:Nat} (hj:j<d.size*13):(flV (d.toList.map Prod.fst))[j]?=some (flatK encX 13 d)[j]! := by
 have h1:j / 13<d.size:=by omega
 have h2:j % 13<13:=Nat.mod_lt _ (by decide)
 have h3:(d.toList.map Prod.fst)[j / 13]?=some d[j / 13]!.1:=by
  rw [List.getElem?_map]
  simp [h1]
 have h4:d[j / 13]!.1.vals[j % 13]?=some (encX d[j / 13]!)[j % 13]! := by
  exact get_bang (encX d[j / 13]!) (j % 13) h2
 have:=flV_at h3 h4
 rw [show j / 13*13+j % 13=j by omega] at this
 rw [this,get_flatK _ _ _ _ hj]
theorem sortX_ok (d:Array VX) (b y K cap:Nat) (w:World) (hK:d.size*13≤K) (hsz:d.size≤1000) (hb:b<w.heap.size) (hA:∀ (j:Nat) (v:Value),(flV (d.toList.map Prod.fst))[j]?=some v→w.cell? ⟨b,y+j,none⟩=some v) (hroom:∀ j,j<K→w.frozen? ⟨b,y+j,none⟩=false) :
  Calls Tryz.prog 30 #[.slice (some ⟨b,y,none⟩) d.size cap,.func (.func 31) #[] #[]] w fun e w'=>e=.returned (.tuple #[])∧∃ d':Array VX,d'.toList.Perm d.toList∧d'.toList.Pairwise (fun x y=>ltOf cfX y x=false) ∧
   (∀ (j:Nat) (v:Value),(flV (d'.toList.map Prod.fst))[j]?=some v→w'.cell? ⟨b,y+j,none⟩=some v)∧Chg (fun k o=>k=b∧y≤o∧o<y+K) w w':=by
 have hH:HoldsK encX 13 w b y d:=fun j hj=>by
  have hj:j<d.size*13:=by rw [size_flatK] at hj;exact hj
  exact ⟨hA j _ (flatX hj),hroom j (by omega)⟩
 have key:=AnyQ.slices_SortFunc Tryz.sortV 13 Tryz.isAgg49 Tryz.sizeOf49 encX (fun _=>rfl) (fun x v hv=>by
  have:x.1.vals.all Value.oneCell'=true:=rfl
  exact List.all_eq_true.1 this v hv) cfX swoX 31 #[] b y cap d w Tryz.call31 (fun _ _ _ _ x y=>(chain2_ok x.1 y.1 _).mono fun _ _ ⟨h1,h2⟩=>⟨h1,h2.grown⟩) hH hb (by omega)
 refine Calls.mono key fun e w' ⟨he,d',q,os,hp,hs,hw⟩=>⟨he,d',?_,?_,fun j v hj=>?_,?_⟩
 ·obtain ⟨h1,_,h3⟩:=hp
  have e1:d'.extract 0 d.size=d':=by rw [←h1];exact Array.extract_size
  rw [e1,Array.extract_size] at h3
  exact h3
 ·rw [List.pairwise_iff_getElem]
  intro i j hi hj hij
  have:=hs i j (Nat.zero_le _) hij (by have:=hp.1;simp at hj;omega)
  have e1:d'[j]! = d'.toList[j]:=by simp [getElem!_pos d' j (by simpa using hj)]
  have e2:d'[i]! = d'.toList[i]:=by simp [getElem!_pos d' i (by simpa using hi)]
  rw [e1,e2] at this
  exact this
 ·have hjl:=(List.getElem?_eq_some_iff.1 hj).1
  rw [flV_len] at hjl
  simp at hjl
  rw [flatX hjl] at hj
  obtain rfl:=Option.some.inj hj
  rw [hw]
  exact ((holdsK_sortWorldK_c encX 13 w b y d d' q os hH hb hp.1) j (by rw [size_flatK];exact hjl)).1
 ·rw [hw]
  have h:=chg_putRowId (w:=Go.Sort.ahead w q) b y (flatK encX 13 d')
  rw [size_flatK] at h
  refine ((((Chg.drewN (w:=w) q).mono fun _ _ _ h=>h.elim).trans h fun _ _ _ h=>h).trans (chg_grow _ os) fun _ _ _ h=>h.elim).mono fun k o _ ⟨h1,h2,h3⟩=>⟨h1,h2,?_⟩
  have:=hp.1
  omega
def keyIs (key:Int) (x:VerP):Bool:=decide (x.key=key)
structure ChainOf (l:List VerP) (key:Int) (c:List VerP):Prop where
 perm:c.Perm (l.filter (keyIs key))
 srt:c.Pairwise fun x y=>¬bLt y.b.count y.b.node y.b.life x.b.count x.b.node x.b.life
theorem chain_eq {l m c d:List VerP} {key:Int} (hc:ChainOf l key c) (hd:ChainOf m key d) (h:l.Perm m) (hn:l.Pairwise fun v w=>¬(v.key=w.key∧v.b=w.b)):c=d:=by
 refine List.Perm.eq_of_pairwise (le:=fun x y:VerP=>¬bLt y.b.count y.b.node y.b.life x.b.count x.b.node x.b.life) (fun a b ha hb h1 h2=>?_) hc.srt hd.srt (hc.perm.trans ((h.filter _).trans hd.perm.symm))
 obtain ⟨a1,a2⟩:=List.mem_filter.1 (hc.perm.mem_iff.1 ha)
 obtain ⟨b1,b2⟩:=List.mem_filter.1 (((h.filter _).trans hd.perm.symm).symm.mem_iff.1 hb)
 simp only [keyIs,decide_eq_true_eq] at a2 b2
 have hb:a.b=b.b:=by
  obtain ⟨ak,⟨x1,x2,x3⟩,ar,aa⟩:=a
  obtain ⟨bk,⟨y1,y2,y3⟩,br,ba⟩:=b
  simp only [bLt,not_or,not_and,Int.not_lt] at h1 h2
  have e1:x1=y1:=by omega
  subst e1
  have e2:x2=y2:=by have:=(h1.2 rfl).1;have:=(h2.2 rfl).1;omega
  subst e2
  have e3:x3=y3:=by have:=(h1.2 rfl).2 rfl;have:=(h2.2 rfl).2 rfl;omega
  subst e3
  rfl
 refine Classical.byContradiction fun hab=>?_
 have h2:∀ a b:VerP,a∈l→b∈l→a≠b→¬(a.key=b.key∧a.b=b.b):=fun a b ha hb hne he=>by
  obtain ⟨i,hi,rfl⟩:=List.mem_iff_getElem.1 ha
  obtain ⟨j,hj,rfl⟩:=List.mem_iff_getElem.1 hb
  rw [List.pairwise_iff_getElem] at hn
  rcases Nat.lt_trichotomy i j with h | h | h
  ·exact hn i j hi hj h he
  ·subst h;exact hne rfl
  ·exact hn j i hj hi h ⟨he.1.symm,he.2.symm⟩
 exact h2 a b a1 b1 hab ⟨by rw [a2,b2],hb⟩
theorem cloneNil_ok (w:World):Calls Tryz.prog 26 #[.slice none 0 0] w fun e w'=>e=.returned (.slice none 0 0)∧Chg (fun _ _=>False) w w':=told_run FALL_ok F26_ok 1000 [.raw (.slice none 0 0)] rfl rfl (l:=[.raw (.slice none 0 0)]) (fun N=>rfl) (by kernel_rfl) w
theorem versions0_ok (wm:WM) (s:WP) (Mo:Mem) (w:World) (h:WatchAt wm s Mo w) (h0:s.l=[]):Calls Tryz.prog 10 #[ptrN (wm.P 0)] w fun e w'=>e=.returned (.slice none 0 0)∧Chg (fun _ _=>False) w w':=by
 have hlt:=(h.room 0 (by omega)).1
 have hcell:∀ (j:Nat) (c:SV),(hdS wm s)[j]?=some c→∃ v,c.den [⟨(wm.P 0).b,(wm.P 0).o,4⟩]=some v∧w.cell? ⟨(wm.P 0).b,(wm.P 0).o+j,none⟩=some v:=fun j c hj=>by
  obtain ⟨z1,z2⟩:=SV.denL_get (N:=[⟨(wm.P 0).b,(wm.P 0).o,4⟩]) (hdS wm s) (hdS_den wm s _)
  obtain ⟨v,z3,z4⟩:=z2 j c hj
  exact ⟨v,z3,h.hd.2 j v z4⟩
 have hhd:hdS wm s=[.raw (.map (some wm.m)),.slv none 0 0,hdV (wm.P 2) s.all,.bool (.v s.torn)]:=by
  unfold hdS
  have:hdV (wm.P 1) s.l=.slv none 0 0:=by
   unfold hdV
   rw [if_pos h0]
  rw [this]
 rw [hhd] at hcell
 refine X.begin (rg:=[⟨false,[.raw (.map (some wm.m)),.slv none 0 0,hdV (wm.P 2) s.all,.bool (.v s.torn)],none⟩]) (N:=[⟨(wm.P 0).b,(wm.P 0).o,4⟩]) (ss:=[.own 0 0]) Tryz.func10 rfl B10_ok rfl rfl (Sat.std1 false hlt hcell (fun h=>(by cases h))) ?_
 refine X.go T10_ok 400 _ rfl Tryz.results10 ?_
 conv=>arg 2;cbv
 refine X.call rfl rfl rfl rfl Tryz.call26 (fun N w1 args hN hS ha=>?_)
 obtain rfl:args=[.slice none 0 0]:=(Option.some.inj ha).symm
 refine (cloneNil_ok w1).mono fun e w2 ⟨he,hc⟩=>⟨_,he,Goes.same hN hS hc (r:=.raw (.slice none 0 0)) rfl rfl ?_⟩
 refine X.go T10_ok 400 _ rfl Tryz.results10 ?_
 conv=>arg 2;cbv
 refine X.done T10_ok rfl (fun N w' v hN hS hv=>?_)
 simp [resV,SV.den,one?] at hv
 exact ⟨by rw [←hv],hS.chg.mono fun k o _ h=>absurd h (ro_none _ _)⟩
theorem rows_pair {Mr:Mem}:∀ {l:List VerP} {vss:List (List Value)},vss.length=l.length→(∀ (j:Nat) (x:VerP),l[j]?=some x→∃ vs,vss[j]?=some vs∧RepL Mr x.toD vs) →
  ∃ LX:List VX,LX.map Prod.snd=l∧LX.map (fun x=>x.1.vals)=vss∧∀ x∈LX,RepL Mr x.2.toD x.1.vals∧x.2.key=x.1.key∧x.2.b=⟨x.1.b1,x.1.b2,x.1.b3⟩
 | [],vss,h,_=>⟨[],rfl,by rw [List.eq_nil_of_length_eq_zero h];rfl,fun x h=>by cases h⟩
 | x::l,[],h,_=>by cases h
 | x::l,vs::vss,h,hr=>by
  obtain ⟨LX,h1,h2,h3⟩:=rows_pair (l:=l) (vss:=vss) (by simpa using h) fun j y hy=>hr (j+1) y hy
  obtain ⟨vs',k1,k2⟩:=hr 0 x rfl
  simp only [List.getElem?_cons_zero,Option.some.injEq] at k1
  subst k1
  obtain ⟨t,rfl,k3,k4⟩:=VerP.cells k2
  refine ⟨(t,x)::LX,by rw [List.map_cons,h1],by rw [List.map_cons,h2],fun y hy=>?_⟩
  rcases List.mem_cons.1 hy with rfl | hy
  ·exact ⟨k2,by rw [k3],by rw [k3]⟩
  ·exact h3 y hy
def keepX (key:Int) (L:List VX):List VX:=L.filter fun x=>isK key x.1
theorem keepX_fst (key:Int) (L:List VX):(keepX key L).map Prod.fst=keepV key (L.map Prod.fst):=by
 unfold keepX keepV
 rw [List.filter_map]
 rfl
theorem keepX_snd {key:Int} {L:List VX} (h:∀ x∈L,x.2.key=x.1.key):(keepX key L).map Prod.snd=(L.map Prod.snd).filter (keyIs key):=by
 unfold keepX
 rw [List.filter_map]
 congr 1
 refine List.filter_congr fun x hx=>?_
 simp [isK,keyIs,h x hx]
theorem chain_ok (wm:WM) (s:WP) (n:Nat) (Mo:Mem) (w:World) (h:WatchAt wm s Mo w) (ok:s.Ok n) (hn:n≤1000) (key:Int):Calls Tryz.prog 12 #[ptrN (wm.P 0),.int .u8 key] w fun e w'=>∃ c,ChainOf s.l key c∧VersR Mo c w e w':=by
 obtain ⟨Q,hQ⟩:∃ Q:Ending→World→Prop,Q=fun e w'=>∃ c,ChainOf s.l key c∧VersR Mo c w e w':=⟨_,rfl⟩
 rw [←hQ]
 obtain ⟨pb,hpb⟩:∃ z,z=(wm.P 0).b:=⟨_,rfl⟩
 obtain ⟨py,hpy⟩:∃ z,z=(wm.P 0).o:=⟨_,rfl⟩
 have hpt:ptrN (wm.P 0)=.pointer (some ⟨pb,py+0,none⟩):=by rw [hpb,hpy];rfl
 rw [hpt]
 refine X.begin (rg:=[]) (N:=[]) (ss:=[.ext pb py 0,.int .u8 (.v key)]) Tryz.func12 rfl B12_ok rfl rfl Sat.std0 ?_
 obtain ⟨im,hime⟩:∃ im,im=elsewhere [] [] w:=⟨_,rfl⟩
 show X (mkE Tryz.prog Tryz.f12 Q w (InR [] []) (elsewhere [] [] w) (fun _ _=>False) (fun _=>True) [] B12) _ _
 rw [←hime]
 refine X.go T12_ok 400 _ rfl Tryz.results12 ?_
 conv=>arg 2;cbv
 refine X.call rfl rfl rfl rfl Tryz.call10 (fun N w1 args hN hS ha=>?_)
 obtain rfl:=args_eq (vs:=[ptrN (wm.P 0)]) (by rw [hpt];rfl) ha
 have h':WatchAt wm s Mo w1:=h.chg hS.chg.none (fun _ _ _ h=>h) (fun _ _ _ _ h=>h)
 by_cases h0:s.l=[]
 ·refine (versions0_ok wm s Mo w1 h' h0).mono fun e w2 ⟨he,hc⟩=>⟨_,he,Goes.same hN hS hc (r:=.raw (.slice none 0 0)) rfl rfl ?_⟩
  clear ha he hc hS hN h'
  refine X.go T12_ok 400 _ rfl Tryz.results12 ?_
  conv=>arg 2;cbv
  refine X.call rfl rfl rfl rfl Tryz.call28 (fun N w1 args hN hS ha=>?_)
  obtain ⟨q0,hq0⟩:∃ p,N[0]?=some p:=⟨_,List.getElem?_eq_getElem (by rw [hS.len];show 0<1;omega)⟩
  obtain ⟨g,hg,rfl⟩:∃ g,one? g=true∧args=[.slice none 0 0,g]:=by
   simp only [SV.denL,SV.den,hq0,one?] at ha
   exact ⟨_,rfl,(Option.some.inj ha).symm⟩
  refine (delNil_ok g hg w1).mono fun e w2 ⟨he,hc⟩=>⟨_,he,Goes.same hN hS hc (r:=.raw (.slice none 0 0)) rfl rfl ?_⟩
  clear ha he hc hS hN hq0
  refine X.go T12_ok 400 _ rfl Tryz.results12 ?_
  conv=>arg 2;cbv
  refine X.call rfl rfl rfl rfl Tryz.call30 (fun N w1 args hN hS ha=>?_)
  obtain rfl:args=[.slice none 0 0,.func (.func 31) #[] #[]]:=(Option.some.inj ha).symm
  have key':=AnyF.slices_SortFunc_none (P:=Tryz.prog) { Tryz.sortV with } none 0 (.func (.func 31) #[] #[]) w1
  refine Calls.mono key' fun e w2 ⟨he,hw⟩=>⟨_,he,?_⟩
  subst hw
  refine Goes.same hN hS (Chg.refl _ _) (r:=.tup []) rfl rfl ?_
  clear ha he hS hN key'
  refine X.go T12_ok 400 _ rfl Tryz.results12 ?_
  conv=>arg 2;cbv
  refine X.done T12_ok rfl (fun N w' v hN hS hv=>?_)
  simp [resV,SV.den,one?] at hv
  rw [hQ]
  refine ⟨[],⟨by rw [h0];exact List.Perm.refl _,List.Pairwise.nil⟩,⟨none,0,by rw [←hv];rfl,fun M _ _=>⟨⟨Nat.le_refl _,Nat.zero_le _⟩,.inl rfl⟩⟩,hS.chg.none⟩
 refine (versionsS_ok wm s n Mo w1 h' ok hn h0).mono fun e w2 ⟨⟨p2,c2,he,_,q2,vss,hp2,hc2,hq2,hso,hsp,Mr,hm1,hm2⟩,hch⟩=>?_
 obtain ⟨LX,hL1,hL2,hL3⟩:=rows_pair hso.len hm2
 obtain ⟨bs,hbs⟩:∃ b,b=w1.heap.size:=⟨_,rfl⟩
 have hws:w.heap.size≤bs:=by rw [hbs];exact hS.chg.size
 obtain ⟨nv,hnv⟩:∃ z,z=s.l.length:=⟨_,rfl⟩
 have hLl:LX.length=nv:=by rw [hnv,←hL1,List.length_map]
 have hnv0:0<nv:=by rw [hnv];exact List.length_pos_iff.2 h0
 have hnv1:nv≤1000:=by have:=ok.l;omega
 have hfl:vss.flatten=flV (LX.map Prod.fst):=by unfold flV;rw [←hL2,List.map_map];rfl
 have hqx:nv*13≤q2.x:=by have:=hso.x;rw [hnv];exact this
 rw [hp2,hc2,←hnv] at he
 refine ⟨_,he,Goes.rowsD (sz:=13) (cs:=rawL (flV (LX.map Prod.fst))) (fun k o=>(Mr k o).isSome=true∧bs≤k) (fun w'=>∀ k o v,Mr k o=some v→bs≤k→w'.cell? ⟨k,o,none⟩=some v) hN hS hch hq2 hsp.room.1 (by rw [rawL_len,flV_len,List.length_map,hLl];exact hqx) (fun j c hj=>?_) hsp.room.2 (fun r g hg=>?_) (fun k o hd=>?_) (Eng.Loc.cells fun u u' hs _ hA k o v h1 h2=>?_) (fun k o v h1 h2=>(hm1 k o v h1).1) rfl ?_⟩
 ·rw [rawL,List.getElem?_map,Option.map_eq_some_iff] at hj
  obtain ⟨v,hv,rfl⟩:=hj
  have ho:one? v=true:=by
   rw [←hfl] at hv
   obtain ⟨vs,h1,h2⟩:=List.mem_flatten.1 (List.mem_of_getElem? hv)
   exact List.all_eq_true.1 (hso.row vs h1).2 v h2
  exact ⟨v,by simp [SV.den,ho],hsp.has j v (by rw [hfl];exact hv)⟩
 ·match r,hg with
  | 0,hg=>cases hg;rfl
 ·obtain ⟨v,hv⟩:=Option.isSome_iff_exists.1 hd.1
  obtain ⟨k1,k2,k3⟩:=hm1 k o v hv
  exact ⟨.inl (by rw [k1];rfl),k2,.inr (by rw [←hbs];exact hd.2)⟩
 ·rw [(hs k o ⟨by rw [h1];rfl,h2⟩).1]
  exact hA k o v h1 h2
 have hm3:∀ k o v,Mr k o=some v→Mo k o=some v∨bs≤k:=fun k o v hk=>by rw [hbs];exact (hm1 k o v hk).2.2
 clear ha he hS hN hch hsp hp2 hc2 hbs hm1 hm2 h' hq2 hL2 hfl
 show X (mkE Tryz.prog Tryz.f12 Q w (InR [] []) im (fun k o=>(Mr k o).isSome=true∧bs≤k) (fun w'=>∀ k o v,Mr k o=some v→bs≤k→w'.cell? ⟨k,o,none⟩=some v) [] B12) _ _
 obtain ⟨dl,hdl⟩:∃ d,d=rawL (flV (LX.map Prod.fst)):=⟨_,rfl⟩
 rw [←hdl]
 have hraw:∀ (L:List VerC) (N:Nums) (j:Nat) (v:Value),(flV L)[j]?=some v→(SV.raw v).den N=some v:=fun L N j v hj=>by
  obtain ⟨r,h1,h2⟩:=List.mem_flatten.1 (List.mem_of_getElem? hj)
  obtain ⟨x,_,rfl⟩:=List.mem_map.1 h1
  have:x.vals.all one?=true:=rfl
  have ho:=List.all_eq_true.1 this v h2
  simp [SV.den,ho]
 have hget:∀ (L:List VerC) (j:Nat) (v:Value),(flV L)[j]?=some v→(rawL (flV L))[j]?=some (.raw v):=fun L j v hj=>by
  rw [rawL,List.getElem?_map,hj];rfl
 refine X.go T12_ok 400 _ rfl Tryz.results12 ?_
 conv=>arg 2;cbv
 refine X.call rfl rfl rfl rfl Tryz.call28 (fun N w1 args hN hS ha=>?_)
 obtain ⟨p0,hp0⟩:∃ p,N[0]?=some p:=⟨_,List.getElem?_eq_getElem (by rw [hS.len];show 0<2;omega)⟩
 obtain ⟨p1,hp1⟩:∃ p,N[1]?=some p:=⟨_,List.getElem?_eq_getElem (by rw [hS.len];show 1<2;omega)⟩
 obtain rfl:=args_eq (vs:=[.slice (some ⟨p1.b,p1.o,none⟩) nv (p1.x / 13),.func (.func 29) #[] #[.pointer (some ⟨p0.b,p0.o,none⟩)]]) (by simp only [SV.denL,SV.den,hp0,hp1,Num.cap];rfl) ha
 have hx1:=hS.ext 1 _ p1 rfl hp1 rfl
 have hx0:=hS.ext 0 _ p0 rfl hp0 rfl
 have hdll:dl.length=nv*13:=by rw [hdl,rawL_len,flV_len,List.length_map,hLl]
 simp only [hdll] at hx1
 have hkey:w1.cell? ⟨p0.b,p0.o,none⟩=some (.int .u8 key):=by
  obtain ⟨v,k1,k2⟩:=hS.cell 0 _ p0 rfl hp0 0 _ rfl
  have k1:Value.int .u8 key=v:=Option.some.inj k1
  rw [k1];exact k2
 have hdel:=delV_ok (LX.map Prod.fst) key p1.b p1.o p1.x p0.b p0.o w1 (by rw [List.length_map,hLl];exact hnv1) (by rw [List.length_map,hLl];exact hx1) (by omega) (fun j v hj=>by
   obtain ⟨u,k1,k2⟩:=hS.cell 1 _ p1 rfl hp1 j (.raw v) (by show dl[j]?=_;rw [hdl];exact hget _ _ _ hj)
   rw [hraw _ _ _ _ hj] at k1;cases k1
   exact k2) (hS.room 1 _ p1 rfl hp1 rfl) hkey (fun ⟨e1,e2,e3⟩=>by
   have:=hS.disj 1 0 _ _ p1 p0 rfl hp1 rfl hp0 rfl (by omega) 0 (by show 0<p0.x;simp at hx0;omega) e1
   omega)
 rw [List.length_map,hLl] at hdel
 refine Calls.mono hdel fun e w2 hf=>?_
 obtain ⟨v,rfl⟩:∃ v,e=.returned v:=by
  obtain ⟨b',y',x',he,_⟩:=hf
  exact ⟨_,he⟩
 refine ⟨v,rfl,Goes.turned (r:=1) hN hS rfl hp1 rfl rfl hf rfl ?_⟩
 clear ha hS hN hf hdel hkey hx1 hx0 hp0 hp1
 obtain ⟨KX,hKX⟩:∃ K,K=keepX key LX:=⟨_,rfl⟩
 have hK1:keepV key (LX.map Prod.fst)=KX.map Prod.fst:=by rw [hKX,keepX_fst]
 have hK2:KX.map Prod.snd=s.l.filter (keyIs key):=by rw [hKX,keepX_snd fun x hx=>(hL3 x hx).2.1,hL1]
 have hK3:∀ x∈KX,x∈LX:=fun x hx=>by rw [hKX] at hx;exact (List.mem_filter.1 hx).1
 have hKl:KX.length≤nv:=by rw [hKX,←hLl];exact List.length_filter_le _ _
 rw [hK1,List.length_map]
 obtain ⟨m,hm⟩:∃ m,m=KX.length:=⟨_,rfl⟩
 obtain ⟨d2,hd2⟩:∃ d,d=rawL (flV (KX.map Prod.fst)):=⟨_,rfl⟩
 have hd2l:d2.length=m*13:=by rw [hd2,rawL_len,flV_len,List.length_map,hm]
 rw [←hm,←hd2]
 refine X.go T12_ok 400 _ rfl Tryz.results12 ?_
 conv=>arg 2;cbv
 refine X.call rfl rfl rfl rfl Tryz.call30 (fun N w1 args hN hS ha=>?_)
 obtain ⟨p2,hp2⟩:∃ p,N[2]?=some p:=⟨_,List.getElem?_eq_getElem (by rw [hS.len];show 2<3;omega)⟩
 obtain rfl:=args_eq (vs:=[.slice (some ⟨p2.b,p2.o,none⟩) m (p2.x / 13),.func (.func 31) #[] #[]]) (by simp only [SV.denL,SV.den,hp2,Num.cap];rfl) ha
 have hx2:=hS.ext 2 _ p2 rfl hp2 rfl
 simp only [hd2l] at hx2
 have hsrt:=sortX_ok KX.toArray p2.b p2.o p2.x (p2.x / 13) w1 (by rw [List.size_toArray,←hm];exact hx2) (by rw [List.size_toArray];omega) (hS.lt 2 p2 hp2) (fun j v hj=>by
   obtain ⟨u,k1,k2⟩:=hS.cell 2 _ p2 rfl hp2 j (.raw v) (by show d2[j]?=_;rw [hd2];exact hget _ _ _ hj)
   rw [hraw _ _ _ _ hj] at k1;cases k1
   exact k2) (fun j hj=>(hS.room 2 _ p2 rfl hp2 rfl j hj).2)
 rw [List.size_toArray,←hm] at hsrt
 refine Calls.mono hsrt fun e w2 ⟨he,d',hperm,hpw,hcd,hch⟩=>?_
 obtain ⟨DX,hDX⟩:∃ D,D=d'.toList:=⟨_,rfl⟩
 rw [←hDX] at hperm hpw hcd
 have hDl:DX.length=m:=by rw [hperm.length_eq,hm]
 refine ⟨_,he,Goes.cells (r:=2) (rv:=.tup []) hN hS rfl hp2 rfl hch (rawL (flV (DX.map Prod.fst))) (by rw [rawL_len,flV_len,List.length_map,hDl];exact hx2) (fun j c hj=>?_) rfl rfl ?_⟩
 ·rw [rawL,List.getElem?_map,Option.map_eq_some_iff] at hj
  obtain ⟨v,hv,rfl⟩:=hj
  exact ⟨v,hraw _ _ _ _ hv,hcd j v hv⟩
 clear ha he hS hN hch hcd hsrt hx2 hp2
 obtain ⟨d3,hd3⟩:∃ d,d=rawL (flV (DX.map Prod.fst)):=⟨_,rfl⟩
 rw [←hd3]
 refine X.go T12_ok 400 _ rfl Tryz.results12 ?_
 conv=>arg 2;cbv
 refine X.done T12_ok rfl (fun N w' v hN hS hv=>?_)
 obtain ⟨p2,hp2⟩:∃ p,N[2]?=some p:=⟨_,List.getElem?_eq_getElem (by rw [hS.len];show 2<3;omega)⟩
 simp only [resV,SV.den,hp2,Num.cap,Nat.add_zero,Nat.sub_zero,Option.some.injEq] at hv
 have hx2:=hS.ext 2 ⟨true,d3,none⟩ p2 rfl hp2 rfl
 have hd3l:d3.length=m*13:=by rw [hd3,rawL_len,flV_len,List.length_map,hDl]
 simp only [hd3l] at hx2
 have hmemD:∀ x∈DX,x∈LX:=fun x hx=>hK3 x (hperm.mem_iff.1 hx)
 rw [hQ]
 refine ⟨DX.map Prod.snd,⟨?_,?_⟩,⟨some ⟨p2.b,p2.o,none⟩,p2.x / 13,by rw [←hv,List.length_map,hDl],fun M h1 h2=>?_⟩,hS.chg.none⟩
 ·rw [←hK2]
  exact hperm.map _
 ·refine List.pairwise_map.2 (List.Pairwise.imp_of_mem (fun {x y} hx hy hxy=>?_) hpw)
  rw [ltX,decide_eq_false_iff_not] at hxy
  rw [(hL3 x (hmemD x hx)).2.2,(hL3 y (hmemD y hy)).2.2]
  exact hxy
 ·refine SlR.of (K:=13) (vss:=DX.map fun x=>x.1.vals) (by rw [List.length_map,hDl];omega) (by rw [List.length_map,hDl,maxLen_le];omega) (by simp) (fun j x hj=>?_) (fun hpos=>⟨p2.b,p2.o,rfl,fun j vs hj k v hk=>?_⟩)
  ·rw [List.getElem?_map,Option.map_eq_some_iff] at hj
   obtain ⟨y,hy,rfl⟩:=hj
   refine ⟨y.1.vals,by rw [List.getElem?_map,hy];rfl,(hL3 y (hmemD y (List.mem_of_getElem? hy))).1.mono fun k o v hk=>?_⟩
   rcases hm3 k o v hk with h5 | h5
   ·exact h1 _ _ _ h5
   ·exact h2 _ _ _ (Nat.le_trans hws h5) (hS.res k o v hk h5)
  ·rw [List.getElem?_map,Option.map_eq_some_iff] at hj
   obtain ⟨y,hy,rfl⟩:=hj
   have hjl:=(List.getElem?_eq_some_iff.1 hy).1
   have hkl:=(List.getElem?_eq_some_iff.1 hk).1
   rw [VerC.len] at hkl
   have hpx:0<p2.x:=by omega
   have hfw:w.heap.size≤p2.b:=by
    rcases hS.foot 2 _ p2 rfl hp2 rfl with h | h
    ·exact h
    ·exact absurd (h 0 hpx) inR_nil
   refine h2 _ _ _ hfw ?_
   obtain ⟨u,k1,k2⟩:=hS.cell 2 _ p2 rfl hp2 (j*13+k) (.raw v) (by show d3[_]?=_;rw [hd3];exact hget _ _ _ (flV_at (by rw [List.getElem?_map,hy];rfl) hk))
   rw [hraw (DX.map Prod.fst) _ _ _ (flV_at (by rw [List.getElem?_map,hy];rfl) hk)] at k1;cases k1
   rw [Nat.add_assoc]
   exact k2
end Go.Proofs.YthpbefahaghbjaaGreat
