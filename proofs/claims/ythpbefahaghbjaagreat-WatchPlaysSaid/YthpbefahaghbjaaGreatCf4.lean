import Derived.Test.YthpbefahaghbjaaGreatRb3
open BitVec renaming ofInt→aad,ofNat→aan,toNat_ofNat→aao,toNat_and→abo
open Go renaming Ending→aaf
open Go.IntKind renaming u64→aae,i64→aa1
open Go.Proofs.Tryz renaming prog→aac,results66→aaj,isAgg5→aak,underlying30→aal,sizeOf5→aam,f66→aap,results40→aar,results82→aas,results43→aau,results96→aav,results83→aaw,results67→aax,results20→aaE,results65→aaF,f43→aaN,results87→aaO,f87→aaP,f83→aaQ,f67→aaR,f96→aa0,f40→abi,f82→abj,call40→abk,call43→abl,call82→abm,call83→abn
open Int renaming natCast_add→aaq,toNat_of_nonneg→aaD,tmod_eq_emod_of_nonneg→aaM
open List renaming range→aaA,mem_range→aaB,countP_cons→aaC,getElem_mem→aaI,take_of_length_le→aaJ,countP_le_length→aaK,countP_congr→aaL,pairwise_iff_getElem→aaZ,pairwise_map→aa6,pairwise_lt_range→aa7,mem_map→aa8,mem_filter→aa9,getElem?_append_left→aba,getElem?_append_right→abb,foldl_cons→abc,countP_map→abf
open List.Pairwise renaming filter→abh,imp→abp
open Nat renaming add_zero→aag,zero_le→aah,mod_eq_of_lt→aai,le_trans→aay,mul_comm→aaz,lt_or_ge→aaG,testBit_and→aaH,add_assoc→aaT,not_lt_zero→aaU,lt_of_le_of_lt→aaV,testBit_two_pow_mul_add→aaW,pow_succ→aaX,pow_lt_pow_right→aaY,and_le_left→aa2,div_div_eq_div_mul→aa3,or_lt_two_pow→aa4,xor_lt_two_pow→aa5
open Option renaming some→aaS
set_option maxHeartbeats 16000000
set_option maxRecDepth 100000
set_option cbv.maxSteps 100000000
namespace Go.Proofs.YthpbefahaghbjaaGreat
open Go Go.bU Go.Sort
theorem BH.pts {L:List (Int × Int)}{n:Nat}{w w':World}{e:aaf}(h:BH (ez L) n w e w'):∃b o c,e=.returned (.slice (some ⟨b,o,none⟩) n c)/\(0<L.length->w.heap.size<=b)/\uq b o L w'/\aW (fun _ _=>False) w w':=by
 obtain⟨b,o,c,h1,h2,_,h4,h5⟩:=h;refine⟨b,o,c,h1,fun h0=>h2 (by rw[kI];omega),fun j hj=>?_,h5⟩;obtain⟨r1,r2⟩:=wI L j hj;obtain⟨v1,a1,a2⟩:=h4 _ _ r1;obtain⟨v2,b1,b2⟩:=h4 _ _ r2;have a1:=a1 [];have b1:=b1 [];simp only[SV.den,SI.den,aA] at a1 b1;exact⟨by rw[a2,<-a1],by rw[aaT,b2,<-b1]⟩
theorem BH.byt {l:List Int}{n:Nat}{w w':World}{e:aaf}(h:BH (dR l) n w e w'):∃b o c,e=.returned (.slice (some ⟨b,o,none⟩) n c)/\(0<l.length->w.heap.size<=b)/\(∀j,j<l.length->w'.cell? ⟨b,o+j,none⟩=some (.int .u8 l[j]!))/\aW (fun _ _=>False) w w':=by
 obtain⟨b,o,c,h1,h2,_,h4,h5⟩:=h;refine⟨b,o,c,h1,fun h0=>h2 (by rw[nP];omega),fun j hj=>?_,h5⟩;obtain⟨v1,a1,a2⟩:=h4 j (.int .u8 (.v l[j]!)) (by simp[dR,hj]);have a1:=a1 [];simp only[SV.den,SI.den,aA] at a1;rw[a2,<-a1]
def xO (l:List Int)(k:Nat):List Int:=((aaA k).filter fun x:Nat=>decide ((x:Int)∈l)).map fun x:Nat=>(x:Int)
theorem JV (l:List Int)(k:Nat):xO l (k+1)=if (k:Int)∈l then xO l k++[(k:Int)] else xO l k:=by
 unfold xO;rw[List.range_succ,List.filter_append,List.map_append]
 by_cases h:(k:Int)∈l
 ·rw[if_pos h]
  simp[h]
 ·rw[if_neg h]
  simp[h]
theorem O4 (l:List Int)(k:Nat):(xO l k).length<=k:=by
 unfold xO;rw[List.length_map];exact aay (List.length_filter_le _ _) (by simp)
theorem UM (l:List Int)(k:Nat):(xO l k).Pairwise (·<·):=by
 unfold xO;refine aa6.2 (abh _ ?_);exact aa7.imp fun h=>by omega
theorem O5 {l:List Int}(hl:∀x∈l,0<=x/\x<256)(y:Int):y∈xO l 256↔y∈l:=by
 unfold xO;simp only[aa8,aa9,aaB,decide_eq_true_eq];constructor
 ·rintro⟨a,⟨_,h⟩,rfl⟩
  exact h
 ·intro h
  have:=hl y h;exact⟨y.toNat,⟨by omega,by rw[aaD this.1];exact h⟩,aaD this.1⟩
theorem Cw {L:List (Int × Int)}(h:zL L)(key many:Int):(gA L key many).Nodup:=by
 rw[rQ h];exact(vJ _ _ List.nodup_nil).sublist (List.take_sublist _ _)
theorem AQ (d:Array Int)(key:Int):(oC d key).Pairwise (·<·):=by
 have sH:(oC d key).Nodup:=(rW d key).nodup_iff.2 (Cw (kJ d) key 3);obtain⟨a,ha⟩:∃a,a=gY (gA (cP d) key 3).toArray:=⟨_,rfl⟩;have hle:=GZ (gA (cP d) key 3).toArray;have e:oC d key=a.toList:=by rw[ha];rfl
 rw[<-ha] at hle;rw[e] at sH ⊢;refine aaZ.2 fun i j hi hj iK=>?_
 have h1:=hle i j (by omega) (by simpa using hj);rw[getElem!_pos a i (by simpa using hi),getElem!_pos a j (by simpa using hj)] at h1;have h2:=aaZ.1 sH i j hi hj iK;simp only[Array.getElem_toList] at h2 ⊢;omega
theorem O6 {d:Array Int}(hd:∀x∈d.toList,0<=x/\x<256)(key:Int):xO (gA (cP d) key 3) 256=oC d key:=by
 have hb:∀x∈gA (cP d) key 3,0<=x/\x<256:=fun x hx=>by
  rw[rQ (kJ d)] at hx;have:=List.mem_of_mem_take hx;rw[Ah] at this;rcases this with h|h
  ·cases h
  ·exact hd x ((yX d _ x).1 h)
 refine lt_eq (UM _ _) (AQ d key) fun y=>?_
 rw[O5 hb,(rW d key).mem_iff]
theorem LH (po:Option Addr)(n cp:Nat)(d:Array Int)(key:Int)(w:World)(hle:n<=100)(X2:nf po n d w)(hd:∀x∈d.toList,0<=x/\x<256) :
  Calls aac 66 #[.slice po n cp,.int .u8 key] w (BH (dR (oC d key)) (oC d key).length w):=by
 have hn:=X2.1;obtain⟨F,hF⟩:∃F,F=oC d key:=⟨_,rfl⟩;obtain⟨Q,hQ⟩:∃Q:aaf->World->Prop,Q=BH (dR F) F.length w:=⟨_,rfl⟩;rw[<-hF,<-hQ];refine X.begin (rg:=[]) (N:=[]) (ss:=[.ao po n cp,.int .u8 (.v key)]) Tryz.func66 rfl Td rfl rfl Sat.bp ?_;refine X.go ko 400 _ rfl aaj ?_
 conv=>arg 2;cbv
 refine X.call rfl rfl rfl rfl Tryz.call85 (fun N w1 args hN hS ha=>?_);have ha:args=[.slice po n cp]:=(aaS.inj ha).symm;rw[ha];refine(Hr po n cp d w1 hle (X2.stays hS.aM.none)).mono fun e w2 hr=>?_
 obtain⟨b1,o1,c1,he,de,th,bV⟩:=hr.pts;obtain⟨L,hL⟩:∃L,L=cP d:=⟨_,rfl⟩;obtain⟨m,hm⟩:∃m,m=L.length:=⟨_,rfl⟩;have hm8:m<=8000:=by rw[hm,hL];have:=tC d;omega
 rw[<-hL] at de th he;rw[<-hm] at he de;obtain⟨p1,fE⟩:∃p,p=some (Addr.mk b1 o1 none):=⟨_,rfl⟩;rw[<-fE] at he;refine⟨_,he,Goes.cZ hN hS bV (r:=.ao p1 m c1) rfl rfl (fun hold bM=>?_)⟩;obtain⟨im,ct⟩:∃im,im=bx (ab [] [] w) w1 w2:=⟨_,rfl⟩;have hpi:∀j,j<L.length->im b1 (o1+j*2)=some (.int .u64 L[j]!.1)/\im b1 (o1+j*2+1)=some (.int .u8 L[j]!.2):=fun j hj=>by
  rw[ct];exact⟨bM _ _ _ (de (by omega)) (th j hj).1,bM _ _ _ (de (by omega)) (th j hj).2⟩
 show X (aK aac aap Q w (bq [] []) (bx (ab [] [] w) w1 w2) (fun _ _=>False) (fun _=>True) [] QX) _ _;rw[<-ct];clear ct hold bM hr bV he ha hS hN th de;refine X.go ko 400 _ rfl aaj ?_
 conv=>arg 2;cbv
 refine X.call rfl rfl rfl rfl Tryz.call84 (fun N w3 args hN hS ha=>?_);have ha:args=[.slice p1 m c1,.int .u8 key,.int .i64 3]:=(aaS.inj ha).symm;rw[ha];refine(Cy b1 o1 m c1 p1 L key 3 w3 (fun _=>fE) hm.symm hm8 (fun j hj=>⟨hS.cK _ _ _ (hpi j hj).1,hS.cK _ _ _ (hpi j hj).2⟩) (by rw[hL];exact kJ d)).mono fun e w4 hr=>?_
 obtain⟨b2,o2,c2,he,de,th,bV⟩:=hr.byt;obtain⟨l,hl⟩:∃l,l=gA L key 3:=⟨_,rfl⟩;obtain⟨q,hq⟩:∃q,q=l.length:=⟨_,rfl⟩;have hq8:q<=8000:=by have:=tp L key 3;rw[<-hl] at this;omega
 rw[<-hl] at de th he;rw[<-hq] at he de;obtain⟨p2,fU⟩:∃p,p=some (Addr.mk b2 o2 none):=⟨_,rfl⟩;rw[<-fU] at he;refine⟨_,he,Goes.cZ hN hS bV (r:=.ao p2 q c2) rfl rfl (fun hold bM=>?_)⟩;obtain⟨iz,eg⟩:∃iz,iz=bx im w3 w4:=⟨_,rfl⟩;have hli:∀j,j<l.length->iz b2 (o2+j)=some (.int .u8 l[j]!):=fun j hj=>by
  rw[eg];exact bM _ _ _ (de (by omega)) (th j hj)
 have hFa:xO l 256=F:=by rw[hl,hL,hF];exact O6 hd key
 show X (aK aac aap Q w (bq [] []) (bx im w3 w4) (fun _ _=>False) (fun _=>True) [] QX) _ _;rw[<-eg];clear eg hold bM hr bV he ha hS hN th de;refine X.go ko 400 _ rfl aaj ?_
 conv=>arg 2;cbv
 refine X.loop (fun _:{k:Nat // k<=256}=>aK aac aap Q w (bq [] []) iz (fun _ _=>False) (fun _=>True) [] QX)
  (fun g=>⟨[(5,.val (.ao p2 q c2)),(6,.val (eV 0 (xO l g.1).length 1)),(7,.val (.int .i64 (.nat g.1)))],[⟨true,dR (xO l g.1),none⟩]⟩) (fun g=>256-g.1) (fun _=>⟨rfl,rfl,rfl,rfl⟩) (fun N ac w' hN hf hS=>⟨⟨0,aah _⟩,?_⟩) (fun g qq hqq=>?_)
 ·exact At.qX hf hS ⟨fun h=>h,trivial,rfl,trivial⟩
 obtain⟨k,hk⟩:=g;obtain⟨A,hA⟩:∃A,A=xO l k:=⟨_,rfl⟩;obtain⟨la,WX⟩:∃m,m=A.length:=⟨_,rfl⟩;have ajr:la<=256:=by have:=O4 l k;rw[<-hA,<-WX] at this;omega
 obtain⟨va,Zx⟩:∃v,v=eV 0 la 1:=⟨_,rfl⟩;obtain⟨ca,Ca⟩:∃v,v=dR A:=⟨_,rfl⟩;have ajY:bd 1 va=true:=by rw[Zx];exact kV (by decide)
 have acR:∀m,ca.all (bd m)=true:=fun m=>by rw[Ca];exact jR
 show X (aK aac aap Q w (bq [] []) iz (fun _ _=>False) (fun _=>True) [] QX) _ ⟨[(5,.val (.ao p2 q c2)),(6,.val (eV 0 (xO l k).length 1)),(7,.val (.int .i64 (.nat k)))],[⟨true,dR (xO l k),none⟩]⟩;rw[<-hA,<-WX,<-Zx,<-Ca];refine X.go ko 400 _ rfl aaj ?_
 conv=>arg 2;cbv
 refine X.cond rfl (fun aF=>?_) (fun cJ=>?_)
 ·simp only[SB.T,SI.den] at aF
  have aF:k<256:=by omega
  obtain⟨hb,pE⟩:∃b,b=decide ((k:Int)∈l):=⟨_,rfl⟩;have t_:=JV l k;rw[<-hA] at t_;refine X.dk ([(20,.bool (.v hb))]) ko 400 _ rfl aaj (fun pr fin aj ai=>?_)
  conv=>cbv
  refine⟨aj _ (.of Tryz.call86 [.slice p2 q c2,.int .u8 k] (.bool hb) (fun _=>by simp only[SV.ap,SV.den,SI.den,xB aF]) (fun _=>rfl) fun _ w1 ct=>by
   rw[pE];exact Aw p2 q c2 l.toArray k w1 (by omega) ⟨by simp[hq],fun _=>⟨b2,o2,fU,fun j hj=>by
    have:=ct _ _ _ (hli j (by simpa using hj))
    simpa[show j<l.length by simpa using hj] using this⟩⟩),ai _ _ ?_⟩
  refine X.cond rfl (fun hT=>?_) (fun hF'=>?_)
  ·simp only[SB.T] at hT
   have hm:(k:Int)∈l:=by rw[pE] at hT;exact of_decide_eq_true hT
   rw[if_pos hm] at t_;refine X.go ko 5 _ rfl aaj ?_
   conv=>arg 2;cbv
   refine X.uu (T:=T66) (te:=fo) (r:=0) (n:=la) (m:=1) (cs:=ca) (new:=[.int .u8 (.wrap .u8 (.nat k))]) ko rfl [5,7,25] rfl rfl rfl rfl rfl rfl rfl rfl (.inr (.inl Zx)) rfl (by rw[Ca,nP,<-WX];exact(Nat.mul_one _).symm) (by decide) (aY (g:=⟨true,[.int .u8 (.wrap .u8 (.nat k))],none⟩) rfl rfl rfl rfl) (bL (by decide) rfl rfl rfl (by show(2*(la+1)+256)*1<=_;omega) (by omega)) rfl rfl rfl (by repeat first|exact trivial|refine⟨rfl,?_⟩|refine⟨by assumption,?_⟩) ⟨.inl rfl,.inr rfl,trivial⟩ (by rw[List.all_append,Ca,rf];rfl) rfl ?_;refine X.mR 0 ⟨true,ca++[.int .u8 (.wrap .u8 (.nat k))],none⟩ (dR (A++[(k:Int)])) rfl (by rw[Ca,jW];simp) (fun N _ j x x' h1 h2 v hv=>?_) ?_
   ·rw[jW,<-Ca] at h2
    simp only at h1;rcases aaG j ca.length with hj|hj
    ·rw[aba hj] at h1 h2
     rw[h1] at h2;cases h2;exact hv
    ·rw[abb hj] at h1 h2
     obtain⟨z,hz⟩:∃z,z=j-ca.length:=⟨_,rfl⟩;rw[<-hz] at h1 h2
     match z,h1,h2 with
     |0,h1,h2 =>
      obtain rfl:=(aaS.inj h1).symm;obtain rfl:=(aaS.inj h2).symm;rw[<-hv];simp only[SV.den,SI.den,xB aF]
     |z+1,h1,h2=>simp at h1
   obtain⟨c3,B_⟩:∃c,c=dR (A++[(k:Int)]):=⟨_,rfl⟩;have acO:∀m,c3.all (bd m)=true:=fun m=>by rw[B_];exact jR
   show X (aK aac aap Q w (bq [] []) iz (fun _ _=>False) (fun _=>True) [] QX) _ ⟨_,[⟨true,dR (A++[(k:Int)]),none⟩,⟨true,[.int .u8 (.wrap .u8 (.nat k))],none⟩]⟩;rw[<-B_];refine X.go ko 400 _ rfl aaj ?_
   conv=>arg 2;cbv
   refine X.back (fun N ac w' hN hf hS=>hqq ⟨k+1,aF⟩ ac w' (by simp only;omega) ?_);show At (aK aac aap Q w (bq [] []) iz (fun _ _=>False) (fun _=>True) [] QX) ⟨[(5,.val (.ao p2 q c2)),(6,.val (eV 0 (xO l (k+1)).length 1)),(7,.val (.int .i64 (.nat (k+1))))],[⟨true,dR (xO l (k+1)),none⟩]⟩ ac w';rw[t_,<-B_,List.length_append,<-WX];exact At.qX hf hS ⟨fun h=>h,aR.refl (acO _),rfl,trivial⟩
  ·simp only[SB.F] at hF'
   have hm:¬(k:Int)∈l:=by rw[pE] at hF';exact of_decide_eq_false hF'
   rw[if_neg hm] at t_;refine X.go ko 400 _ rfl aaj ?_
   conv=>arg 2;cbv
   refine X.back (fun N ac w' hN hf hS=>hqq ⟨k+1,aF⟩ ac w' (by simp only;omega) ?_);show At (aK aac aap Q w (bq [] []) iz (fun _ _=>False) (fun _=>True) [] QX) ⟨[(5,.val (.ao p2 q c2)),(6,.val (eV 0 (xO l (k+1)).length 1)),(7,.val (.int .i64 (.nat (k+1))))],[⟨true,dR (xO l (k+1)),none⟩]⟩ ac w';rw[t_,<-WX,<-Zx,<-Ca];exact At.qX hf hS ⟨fun h=>h,aR.refl (acR _),rfl,trivial⟩
 ·simp only[SB.F,SI.den] at cJ
  have o5:k=256:=by omega
  have hAF:A=F:=by rw[hA,o5,hFa]
  refine X.go ko 400 _ rfl aaj ?_
  conv=>arg 2;cbv
  refine X.done ko rfl (fun N w' v hN hS hv=>?_);rw[hQ,<-hAF,<-Ca];exact E5 hS (r:=0) (z:=1) rfl (fun c hc N N' v h=>jm (by rw[<-Ca];exact hc) h) (by rw[<-WX,<-Zx];exact hv)
def js (d:Array Int)(k:Nat):Prop:=∀i,i<k->d[i]! < 64/\(0<i->d[i-1]! < d[i]!)
theorem yV {d:Array Int}{k:Nat}:js d (k+1)↔js d k/\d[k]! < 64/\(0<k->d[k-1]! < d[k]!):=by
 constructor
 ·exact fun h=>⟨fun i hi=>h i (by omega),h k (by omega)⟩
 ·rintro⟨h1,h2⟩ i hi
  rcases aaG i k with h|h
  ·exact h1 i h
  ·have:i=k:=by omega
   subst this;exact h2
theorem yU {d:Array Int}{j k:Nat}(h:js d k)(hj:j<=k):js d j:=fun i hi=>h i (by omega)
theorem Lw (p:Option Addr)(n c:Nat)(d:Array Int)(w:World)(hle:n<=100000)(hA:nf p n d w):Calls aac 40 #[.slice p n c] w fun e w'=>e=.returned (.bool (B (js d n)))/\aW (fun _ _=>False) w w':=by
 have hn:=hA.1;obtain⟨Q,hQ⟩:∃Q:aaf->World->Prop,Q=fun e w'=>e=.returned (.bool (B (js d n)))/\aW (fun _ _=>False) w w':=⟨_,rfl⟩
 rw[<-hQ];refine X.begin (rg:=[]) (N:=[]) (ss:=[.ao p n c]) Tryz.func40 rfl SY rfl rfl Sat.bp ?_;refine X.go nE 400 _ rfl aar ?_
 conv=>arg 2;cbv
 refine X.loop (fun _:{i:Nat // i<=n/\js d i}=>aK aac abi Q w (bq [] []) (ab [] [] w) (fun _ _=>False) (fun _=>True) [] B40)
  (fun g=>⟨[(0,.val (.ao p n c)),(5,.val (.ao p n c)),(6,.val (.int .i64 (.nat n))),(7,.val (.int .i64 (.nat g.1)))],[]⟩) (fun g=>n-g.1) (fun _=>⟨rfl,rfl,rfl,rfl⟩) (fun N ac w' hN hf hS=>⟨⟨0,aah _,fun i hi=>absurd hi (aaU i)⟩,?_⟩) (fun g q hq=>?_)
 ·exact At.eJ hf hS trivial
 obtain⟨i,hi,iC⟩:=g;show X (aK aac abi Q w (bq [] []) (ab [] [] w) (fun _ _=>False) (fun _=>True) [] B40) _ ⟨[(0,.val (.ao p n c)),(5,.val (.ao p n c)),(6,.val (.int .i64 (.nat n))),(7,.val (.int .i64 (.nat i)))],[]⟩;refine X.go nE 400 _ rfl aar ?_
 conv=>arg 2;cbv
 refine X.cond rfl (fun aF=>?_) (fun cJ=>?_)
 ·simp only[SB.T,SI.den] at aF
  have aF:i<n:=by omega
  obtain⟨b,y,hp,hd⟩:=hA.2 (by omega);obtain⟨x,hx⟩:∃x,x=d[i]! := ⟨_,rfl⟩;obtain⟨oi,pP⟩:∃o,o=y+i:=⟨_,rfl⟩;obtain⟨j,hj⟩:∃j,j=i-1:=⟨_,rfl⟩;obtain⟨x',iD⟩:∃x,x=d[j]! := ⟨_,rfl⟩;obtain⟨oj,xI⟩:∃o,o=y+j:=⟨_,rfl⟩;have lB:ab [] [] w b (oi+0)=some (.int .u8 x):=by rw[aag,dD,pP,hx];exact hd i (by omega)
  have hjx:ab [] [] w b (oj+0)=some (.int .u8 x'):=by rw[aag,dD,xI,iD];exact hd j (by omega)
  have VD:=yV (d:=d) (k:=i);rw[<-hj,<-hx,<-iD] at VD;have hjz:∀s:SB,s.den=true->s=.gt (.nat i) (.lit 0)->aa1.wrap ((i:Int)-1)=(j:Int):=fun s h1 h2=>by
   subst h2;have:0<i:=by have:=(SB.TF _).1.1 h1;simp only[SB.T,SI.den] at this;omega
   rw[a_ _ (by omega) (by omega)];omega
  refine X.dk ([(10,.ext b oi 0),(11,.int .u8 (.v x)),(22,.ext b oj 0),(23,.int .u8 (.v x'))]) nE 400 _ rfl aar (fun pr fin aj ai=>?_)
  conv=>cbv
  refine⟨aj _ (au.eC rfl aak (fun _=>rfl) fun _=>hjx),aj _ (au.at (z:=j) rfl rfl (fun hT=>by exact hjz _ hT rfl) aal aam (fun _=>by omega) hp (by omega)),aj _ (au.eC rfl aak (fun _=>rfl) fun _=>lB),aj _ (au.at (z:=i) rfl rfl (fun _=>rfl) aal aam (fun _=>aF) hp (by omega)),ai _ _ ?_⟩;refine X.cond rfl (fun hT=>?_) (fun hF=>?_)
  ·simp only[SB.T,SB.F,SI.den] at hT
   have kE:¬js d n:=fun h=>by
    have h1:=VD.1 (yU h aF);rcases hT with h2|⟨h2,h3⟩
    ·omega
    ·have:=h1.2.2 (by omega)
     omega
   refine X.go nE 400 _ rfl aar ?_
   conv=>arg 2;cbv
   refine X.done nE rfl (fun N w' v hN hS hv=>?_);rw[hQ];exact⟨aw hv (by rw[b_ kE];rfl),hS.aM.none⟩
  ·simp only[SB.T,SB.F,SI.den] at hF
   have jH:js d (i+1):=VD.2 ⟨iC,by omega,fun h=>by rcases hF.2 with h2|h2<;>omega⟩;refine X.go nE 400 _ rfl aar ?_
   conv=>arg 2;cbv
   refine X.back (fun N ac w' hN hf hS=>hq ⟨i+1,aF,jH⟩ ac w' (by simp only;omega) ?_);exact At.eJ hf hS trivial
 ·simp only[SB.F,SI.den] at cJ
  have yd:i=n:=by omega
  subst yd;refine X.go nE 400 _ rfl aar ?_
  conv=>arg 2;cbv
  refine X.done nE rfl (fun N w' v hN hS hv=>?_);rw[hQ];exact⟨aw hv (by rw[bP iC];rfl),hS.aM.none⟩
theorem Gz (p:Option Addr)(n c:Nat)(d:Array Int)(w:World)(hle:n<=100000)(hA:nf p n d w):Calls aac 82 #[.slice p n c] w fun e w'=>e=.returned (.bool (B (js d n)))/\aW (fun _ _=>False) w w':=by
 have hn:=hA.1;obtain⟨Q,hQ⟩:∃Q:aaf->World->Prop,Q=fun e w'=>e=.returned (.bool (B (js d n)))/\aW (fun _ _=>False) w w':=⟨_,rfl⟩
 rw[<-hQ];refine X.begin (rg:=[]) (N:=[]) (ss:=[.ao p n c]) Tryz.func82 rfl Tj rfl rfl Sat.bp ?_;refine X.go nK 400 _ rfl aas ?_
 conv=>arg 2;cbv
 refine X.loop (fun _:{i:Nat // i<=n/\js d i}=>aK aac abj Q w (bq [] []) (ab [] [] w) (fun _ _=>False) (fun _=>True) [] B82)
  (fun g=>⟨[(0,.val (.ao p n c)),(5,.val (.int .i64 (.nat n))),(6,.val (.int .i64 (.nat g.1)))],[]⟩) (fun g=>n-g.1) (fun _=>⟨rfl,rfl,rfl,rfl⟩) (fun N ac w' hN hf hS=>⟨⟨0,aah _,fun i hi=>absurd hi (aaU i)⟩,?_⟩) (fun g q hq=>?_)
 ·exact At.eJ hf hS trivial
 obtain⟨i,hi,iC⟩:=g;show X (aK aac abj Q w (bq [] []) (ab [] [] w) (fun _ _=>False) (fun _=>True) [] B82) _ ⟨[(0,.val (.ao p n c)),(5,.val (.int .i64 (.nat n))),(6,.val (.int .i64 (.nat i)))],[]⟩;refine X.go nK 400 _ rfl aas ?_
 conv=>arg 2;cbv
 refine X.cond rfl (fun aF=>?_) (fun cJ=>?_)
 ·simp only[SB.T,SI.den] at aF
  have aF:i<n:=by omega
  obtain⟨b,y,hp,hd⟩:=hA.2 (by omega);obtain⟨x,hx⟩:∃x,x=d[i]! := ⟨_,rfl⟩;obtain⟨oi,pP⟩:∃o,o=y+i:=⟨_,rfl⟩;obtain⟨j,hj⟩:∃j,j=i-1:=⟨_,rfl⟩;obtain⟨x',iD⟩:∃x,x=d[j]! := ⟨_,rfl⟩;obtain⟨oj,xI⟩:∃o,o=y+j:=⟨_,rfl⟩;have lB:ab [] [] w b (oi+0)=some (.int .u8 x):=by rw[aag,dD,pP,hx];exact hd i (by omega)
  have hjx:ab [] [] w b (oj+0)=some (.int .u8 x'):=by rw[aag,dD,xI,iD];exact hd j (by omega)
  have VD:=yV (d:=d) (k:=i);rw[<-hj,<-hx,<-iD] at VD;have hjz:∀s:SB,s.den=true->s=.gt (.nat i) (.lit 0)->aa1.wrap ((i:Int)-1)=(j:Int):=fun s h1 h2=>by
   subst h2;have:0<i:=by have:=(SB.TF _).1.1 h1;simp only[SB.T,SI.den] at this;omega
   rw[a_ _ (by omega) (by omega)];omega
  refine X.dk ([(11,.ext b oi 0),(12,.int .u8 (.v x)),(21,.ext b oj 0),(22,.int .u8 (.v x')),(25,.ext b oi 0),(26,.int .u8 (.v x))]) nK 400 _ rfl aas (fun pr fin aj ai=>?_)
  conv=>cbv
  refine⟨aj _ (au.eC rfl aak (fun _=>rfl) fun _=>lB),aj _ (au.eC rfl aak (fun _=>rfl) fun _=>hjx),aj _ (au.at (z:=i) rfl rfl (fun _=>rfl) aal aam (fun _=>aF) hp (by omega)),aj _ (au.at (z:=j) rfl rfl (fun hT=>by exact hjz _ hT rfl) aal aam (fun _=>by omega) hp (by omega)),aj _ (au.eC rfl aak (fun _=>rfl) fun _=>lB),aj _ (au.at (z:=i) rfl rfl (fun _=>rfl) aal aam (fun _=>aF) hp (by omega)),ai _ _ ?_⟩;refine X.cond rfl (fun hT=>?_) (fun hF=>?_)
  ·simp only[SB.T,SB.F,SI.den] at hT
   have kE:¬js d n:=fun h=>by
    have h1:=VD.1 (yU h aF);rcases hT with h2|⟨h2,h3⟩
    ·omega
    ·have:=h1.2.2 (by omega)
     omega
   refine X.go nK 400 _ rfl aas ?_
   conv=>arg 2;cbv
   refine X.done nK rfl (fun N w' v hN hS hv=>?_);rw[hQ];exact⟨aw hv (by rw[b_ kE];rfl),hS.aM.none⟩
  ·simp only[SB.T,SB.F,SI.den] at hF
   have jH:js d (i+1):=VD.2 ⟨iC,by omega,fun h=>by rcases hF.2 with h2|h2<;>omega⟩;refine X.go nK 400 _ rfl aas ?_
   conv=>arg 2;cbv
   refine X.back (fun N ac w' hN hf hS=>hq ⟨i+1,aF,jH⟩ ac w' (by simp only;omega) ?_);exact At.eJ hf hS trivial
 ·simp only[SB.F,SI.den] at cJ
  have yd:i=n:=by omega
  subst yd;refine X.go nK 400 _ rfl aas ?_
  conv=>arg 2;cbv
  refine X.done nK rfl (fun N w' v hN hS hv=>?_);rw[hQ];exact⟨aw hv (by rw[bP iC];rfl),hS.aM.none⟩
end Go.Proofs.YthpbefahaghbjaaGreat
namespace Go.Proofs.YthpbefahaghbjaaGreat
open Go Go.bU
def fL:Nat->Nat->Nat
 |0,_=>0
 |n+1,x=>fL n (x / 2)+x % 2
def jd (c:Nat):Nat->Nat
 |0=>0
 |n+1=>jd c n*256+c
def jr (f:Nat->Nat):Nat->Nat->Nat
 |0,_=>0
 |n+1,x=>jr f n (x / 256)*256+f (x % 256)
theorem lT (a b c d:Nat)(hb:b<256)(hd:d<256):(a*256+b) &&& (c*256+d)=(a &&& c)*256+(b &&& d):=by
 have h1:∀i,((a*256+b) &&& (c*256+d)).testBit i=((a &&& c)*256+(b &&& d)).testBit i:=fun i=>by
  have e:(256:Nat)=2 ^ 8:=by decide
  have hbd:b &&& d<2 ^ 8:=by rw[<-e];exact aaV aa2 hb
  rw[aaH,aaz a,aaz c,aaz (a &&& c),e];rw[aaW _ (by rw[<-e];exact hb),aaW _ (by rw[<-e];exact hd),aaW _ hbd]
  split
  ·rw[aaH]
  ·rw[aaH]
 exact Nat.eq_of_testBit_eq h1
def s1 (b:Nat):Nat:=(b / 2 &&& 85)+(b &&& 85)
def s2 (b:Nat):Nat:=(b / 4 &&& 51)+(b &&& 51)
def s3 (b:Nat):Nat:=(b / 16+b) &&& 15
theorem RT:∀(n x:Nat),(x / 2 &&& jd 85 n)+(x &&& jd 85 n)=jr s1 n x
 |0,x=>by simp[jd,jr]
 |n+1,x=>by
  have ih:=RT n (x / 256);have PP:∀h:Fin 2,∀l:Fin 256,(h.1*128+l.1 / 2) &&& 85=l.1 / 2 &&& 85:=by decide +kernel
  have e1:x / 2=(x / 256 / 2)*256+((x / 256 % 2)*128+x % 256 / 2):=by omega
  have e2:x=x / 256*256+x % 256:=by omega
  have h1:=PP ⟨x / 256 % 2,by omega⟩ ⟨x % 256,by omega⟩;simp only at h1;have h2:x / 2 &&& jd 85 (n+1)=(x / 256 / 2 &&& jd 85 n)*256+(x % 256 / 2 &&& 85):=by
   rw[jd]
   conv=>lhs;rw[e1]
   rw[lT _ _ _ _ (by omega) (by decide),h1]
  have h3:x &&& jd 85 (n+1)=(x / 256 &&& jd 85 n)*256+(x % 256 &&& 85):=by
   rw[jd]
   conv=>lhs;rw[e2]
   rw[lT _ _ _ _ (by omega) (by decide)]
  rw[h2,h3,jr,<-ih,s1];omega
theorem RU:∀(n x:Nat),(x / 4 &&& jd 51 n)+(x &&& jd 51 n)=jr s2 n x
 |0,x=>by simp[jd,jr]
 |n+1,x=>by
  have ih:=RU n (x / 256);have PP:∀h:Fin 4,∀l:Fin 256,(h.1*64+l.1 / 4) &&& 51=l.1 / 4 &&& 51:=by decide +kernel
  have e1:x / 4=(x / 256 / 4)*256+((x / 256 % 4)*64+x % 256 / 4):=by omega
  have e2:x=x / 256*256+x % 256:=by omega
  have h1:=PP ⟨x / 256 % 4,by omega⟩ ⟨x % 256,by omega⟩;simp only at h1;have h2:x / 4 &&& jd 51 (n+1)=(x / 256 / 4 &&& jd 51 n)*256+(x % 256 / 4 &&& 51):=by
   rw[jd]
   conv=>lhs;rw[e1]
   rw[lT _ _ _ _ (by omega) (by decide),h1]
  have h3:x &&& jd 51 (n+1)=(x / 256 &&& jd 51 n)*256+(x % 256 &&& 51):=by
   rw[jd]
   conv=>lhs;rw[e2]
   rw[lT _ _ _ _ (by omega) (by decide)]
  rw[h2,h3,jr,<-ih,s2];omega
theorem qG:∀l:Fin 256,s2 (s1 l.1) % 16<=4/\s2 (s1 l.1) / 16<=4/\s1 l.1<256/\s3 (s2 (s1 l.1))=fL 8 l.1/\s2 (s1 l.1)<256:=by decide +kernel
def nib:Nat->Nat->Prop
 |0,x=>x=0
 |n+1,x=>x % 16<=4/\x % 256 / 16<=4/\nib n (x / 256)
theorem RV:∀(n x:Nat),nib n x->(x / 16+x) &&& jd 15 n=jr s3 n x
 |0,x,_=>by simp[jd,jr]
 |n+1,x,⟨h1,h2,h3⟩=>by
  have ih:=RV n (x / 256) h3;have PP:∀h:Fin 5,∀l:Fin 5,∀m:Fin 5,(((m.1+h.1)*16+(h.1+l.1)) &&& 15)=(((h.1*16+l.1) / 16+(h.1*16+l.1)) &&& 15):=by decide +kernel
  have hm:x / 256 % 16<=4:=by
   cases n with
   |zero=>have:x / 256=0:=h3;omega
   |succ n=>exact h3.1
  have e1:x / 16+x=(x / 256 / 16+x / 256)*256+((x / 256 % 16+x % 256 / 16)*16+(x % 256 / 16+x % 16)):=by omega
  have k:=PP ⟨x % 256 / 16,by omega⟩ ⟨x % 16,by omega⟩ ⟨x / 256 % 16,by omega⟩;simp only at k;rw[jd,e1,lT _ _ _ _ (by omega) (by decide),ih,jr,k,s3]
  congr 2
  omega
theorem tq (f g:Nat->Nat)(hf:∀l,l<256->f l<256):∀(n x:Nat),jr g n (jr f n x)=jr (fun b=>g (f b)) n x
 |0,_=>rfl
 |n+1,x=>by
  have h:=hf (x % 256) (by omega);rw[jr,jr,jr,<-tq f g hf n (x / 256)]
  congr 2
  ·congr 1;omega
  ·congr 1;omega
theorem LC:∀(n x:Nat),nib n (jr (fun b=>s2 (s1 b)) n x)
 |0,x=>rfl
 |n+1,x=>by
  obtain⟨h1,h2,_,_,h5⟩:=qG ⟨x % 256,by omega⟩;simp only at h1 h2 h5;rw[jr];refine⟨by omega,by omega,?_⟩;have:=LC n (x / 256)
  rwa [show(jr (fun b=>s2 (s1 b)) n (x / 256)*256+s2 (s1 (x % 256))) / 256=jr (fun b=>s2 (s1 b)) n (x / 256) by omega]
theorem CU:∀(a b x:Nat),fL (a+b) x=fL a (x / 2 ^ b)+fL b x
 |a,0,x=>by simp[fL]
 |a,b+1,x=>by
  rw[<-aaT,fL,CU a b (x / 2),fL];rw[aa3,aaX,aaz 2,aaT]
theorem wG:∀(b x:Nat),fL b (x % 2 ^ b)=fL b x
 |0,_=>rfl
 |b+1,x=>by
  rw[fL,fL,aaX,show x % (2 ^ b*2) / 2=x / 2 % 2 ^ b by rw[aaz];exact Nat.mod_mul_right_div_self _ _ _,wG b (x / 2)]
  congr 1
  exact Nat.mod_mul_left_mod _ _ _
theorem Ip (x:Nat)(hx:x<2 ^ 64):fL 64 x=fL 8 (x / 256 / 256 / 256 / 256 / 256 / 256 / 256 % 256)+fL 8 (x / 256 / 256 / 256 / 256 / 256 / 256 % 256)+fL 8 (x / 256 / 256 / 256 / 256 / 256 % 256)+fL 8 (x / 256 / 256 / 256 / 256 % 256)+fL 8 (x / 256 / 256 / 256 % 256)+fL 8 (x / 256 / 256 % 256)+fL 8 (x / 256 % 256)+fL 8 (x % 256):=by
 have h:∀n y,fL (n+8) y=fL n (y / 256)+fL 8 (y % 256):=fun n y=>by
  rw[CU n 8 y]
  congr 1
  exact(wG 8 y).symm
 rw[h 56,h 48,h 40,h 32,h 24,h 16,h 8];have:fL 8 (x / 256 / 256 / 256 / 256 / 256 / 256 / 256)=fL 8 (x / 256 / 256 / 256 / 256 / 256 / 256 / 256 % 256):=(wG 8 _).symm;omega
theorem Qk:∀l:Fin 256,fL 8 l.1<=8:=by decide +kernel
theorem Ep (c0 c1 c2 c3 c4 c5 c6 c7 c d e:Nat)(q0:c0<=8)(q1:c1<=8)(q2:c2<=8)(q3:c3<=8)(q4:c4<=8)(q5:c5<=8)(q6:c6<=8)(q7:c7<=8)(hc:c=((((((c7*256+c6)*256+c5)*256+c4)*256+c3)*256+c2)*256+c1)*256+c0)
  (hd:d=c+c / 256) (he:e=d+d / 65536):(d<18446744073709551616/\e<18446744073709551616/\e+e / 4294967296<9223372036854775808)/\(e+e / 4294967296) % 128=c7+c6+c5+c4+c3+c2+c1+c0:=by
 have gT:c / 256=((((((c7*256+c6)*256+c5)*256+c4)*256+c3)*256+c2)*256+c1):=by clear hd he;omega
 rw[gT,hc] at hd;clear gT hc;have pD:d / 65536=(((((c7*256+(c6+c7))*256+(c5+c6))*256+(c4+c5))*256+(c3+c4))*256+(c2+c3)):=by
  clear he;obtain⟨t,ht⟩:∃t,t=(((((c7*256+(c6+c7))*256+(c5+c6))*256+(c4+c5))*256+(c3+c4))*256+(c2+c3)):=⟨_,rfl⟩;have:d=t*65536+((c1+c2)*256+(c0+c1)):=by omega
  rw[<-ht];clear hd ht;omega
 rw[pD] at he;have Cc:e=(((((((c7*256+(c6+c7))*256+(c5+c6+c7))*256+(c4+c5+c6+c7))*256+(c3+c4+c5+c6))*256+(c2+c3+c4+c5))*256+(c1+c2+c3+c4))*256+(c0+c1+c2+c3)):=by
  clear pD;omega
 have WS:d<18446744073709551616:=by clear pD he Cc;omega
 clear pD he hd;have Yj:e / 4294967296=(((c7*256+(c6+c7))*256+(c5+c6+c7))*256+(c4+c5+c6+c7)):=by
  obtain⟨t,ht⟩:∃t,t=(((c7*256+(c6+c7))*256+(c5+c6+c7))*256+(c4+c5+c6+c7)):=⟨_,rfl⟩;have:e=t*4294967296+((((c3+c4+c5+c6)*256+(c2+c3+c4+c5))*256+(c1+c2+c3+c4))*256+(c0+c1+c2+c3)):=by omega
  rw[<-ht];clear Cc ht WS;omega
 rw[Yj];have hs:e+((((c7*256+(c6+c7))*256+(c5+c6+c7))*256+(c4+c5+c6+c7)))=128*(2*((((((c7*256+(c6+c7))*256+(c5+c6+c7))*256+(c4+c5+c6+c7))*256+(c3+c4+c5+c6+c7))*256+(c2+c3+c4+c5+c6+c7))*256+(c1+c2+c3+c4+c5+c6+c7)))+(c7+c6+c5+c4+c3+c2+c1+c0):=by
  clear Yj WS;omega
 have h1:e<18446744073709551616:=by clear Yj hs WS;omega
 have h2:e+((((c7*256+(c6+c7))*256+(c5+c6+c7))*256+(c4+c5+c6+c7)))<9223372036854775808:=by clear Yj hs WS h1;omega
 refine⟨⟨WS,h1,h2⟩,?_⟩;rw[hs,Nat.mul_add_mod];exact aai (by clear hs h1 h2 Cc Yj WS;omega)
theorem LK (x:Nat)(hx:x<2 ^ 64)(a b c d e:Nat)(ha:a=(x / 2 &&& 6148914691236517205)+(x &&& 6148914691236517205))(hb:b=(a / 4 &&& 3689348814741910323)+(a &&& 3689348814741910323))(hc:c=(b / 16+b) &&& 1085102592571150095)(hd:d=c+c / 256)(he:e=d+d / 65536) :
  (a<18446744073709551616/\b<18446744073709551616/\b / 16+b<18446744073709551616/\d<18446744073709551616/\e<18446744073709551616/\e+e / 4294967296<9223372036854775808)/\(e+e / 4294967296) % 128=fL 64 x:=by
 have r1:jd 85 8=6148914691236517205:=by decide
 have r2:jd 51 8=3689348814741910323:=by decide
 have r3:jd 15 8=1085102592571150095:=by decide
 have ha:a=jr s1 8 x:=by rw[ha,<-RT 8 x,r1]
 have hb:b=jr (fun b=>s2 (s1 b)) 8 x:=by
  have:=RU 8 a;rw[r2,<-hb,ha,tq s1 s2 (fun l hl=>(qG ⟨l,hl⟩).2.2.1)] at this;exact this
 have hc:c=jr (fun l=>s3 (s2 (s1 l))) 8 x:=by
  have:=RV 8 b (by rw[hb];exact LC 8 x);rw[r3,<-hc,hb,tq _ s3 (fun l hl=>(qG ⟨l,hl⟩).2.2.2.2)] at this;exact this
 have hp:∀y,s3 (s2 (s1 (y % 256)))=fL 8 (y % 256):=fun y=>(qG ⟨y % 256,by omega⟩).2.2.2.1
 have hq:∀y,fL 8 (y % 256)<=8:=fun y=>Qk ⟨y % 256,by omega⟩
 have Gy:∀(f:Nat->Nat) (m:Nat),(∀l,l<256->f l<=m)->∀n x,jr f n x<=jd m n:=fun f m hf n=>by
  induction n with
  |zero=>intro x;exact Nat.le_refl _
  |succ n ih =>
   intro x;have h1:=ih (x / 256);have h2:=hf (x % 256) (by omega);rw[jr,jd];omega
 have ha8:a<=18446744073709551615:=by
  rw[ha];exact Gy s1 255 (fun l hl=>by have:=(qG ⟨l,hl⟩).2.2.1;simp only at this;omega) 8 x
 have hb8:b<=4919131752989213764:=by
  rw[hb];exact Gy _ 68 (fun l hl=>by have h1:=(qG ⟨l,hl⟩).1;have h2:=(qG ⟨l,hl⟩).2.1;simp only at h1 h2;omega) 8 x
 rw[Ip x hx];simp only[jr,hp] at hc;have key:=Ep _ _ _ _ _ _ _ _ c d e (hq x) (hq (x / 256)) (hq (x / 256 / 256)) (hq (x / 256 / 256 / 256)) (hq (x / 256 / 256 / 256 / 256)) (hq (x / 256 / 256 / 256 / 256 / 256)) (hq (x / 256 / 256 / 256 / 256 / 256 / 256)) (hq (x / 256 / 256 / 256 / 256 / 256 / 256 / 256)) (by rw[hc,Nat.zero_mul,Nat.zero_add]) hd he;exact⟨⟨by clear key hc hb8;omega,by clear key hc ha8;omega,by clear key hc ha8;omega,key.1⟩,key.2⟩
end Go.Proofs.YthpbefahaghbjaaGreat
namespace Go.Proofs.YthpbefahaghbjaaGreat
open Go Go.bU Go.Sort
theorem Sat.vu {E:Env}{N:af}{rg:List Rg}{w:World}(h:Sat E N rg w){b o x s0:Nat}{cs:List SV}(hN:∀(r:Nat) (p:aS),N[r]?=some p->p.b<s0)(Je:0<cs.length->s0<=b)(hb:b<w.heap.size)
  (dS:∀(j:Nat) (c:SV),cs[j]?=some c->∃v,c.den N=some v/\w.cell? ⟨b,o+j,none⟩=some v):Sat E (N++[⟨b,o,x⟩]) (rg++[⟨false,cs,none⟩]) w:=by
 rcases Nat.eq_zero_or_pos cs.length with h0|h0
 ·obtain rfl:cs=[]:=List.eq_nil_of_length_eq_zero h0
  have hle:N.le (N++[⟨b,o,x⟩]):=af.aZ _ _;refine⟨by simp[h.len],?_,?_,?_,?_,?_,?_,?_,h.cK,?_,?_,h.mj,h.loc,h.fH,h.aM,?_⟩
  ·intro i q hq
   rcases aaG i N.length with hi|hi
   ·rw[aba hi] at hq;exact h.lt i q hq
   ·rw[abb hi] at hq
    have hz:i-N.length=0:=by
     have:=(List.getElem?_eq_some_iff.1 hq).1;simp at this;omega
    rw[hz] at hq;simp at hq;subst hq;exact hb
  ·intro i g q hg hq j d hj
   rcases aC h.len hg hq with ⟨a,b⟩|⟨_,rfl,rfl⟩
   ·obtain⟨v,h1,h2⟩:=h.cell i g q a b j d hj
    exact⟨v,SV.bf hle d h1,h2⟩
   ·simp at hj
  ·intro i g q hg hq ho
   rcases aC h.len hg hq with ⟨a,b⟩|⟨_,rfl,rfl⟩
   ·exact h.ext i g q a b ho
   ·cases ho
  ·intro i g q hg hq ho
   rcases aC h.len hg hq with ⟨a,b⟩|⟨_,rfl,rfl⟩
   ·exact h.room i g q a b ho
   ·cases ho
  ·intro i i' g g' q q' hg hq eN cF ho bH j hj Dq
   rcases aC h.len hg hq with ⟨a1,a2⟩|⟨a0,rfl,rfl⟩
   ·rcases aC h.len eN cF with ⟨b1,b2⟩|⟨b0,rfl,rfl⟩
    ·exact h.eT i i' g g' q q' a1 a2 b1 b2 ho bH j hj Dq
    ·exact absurd hj (aaU j)
   ·cases ho
  ·intro i g q ob hg hq ho
   rcases aC h.len hg hq with ⟨a,b⟩|⟨_,rfl,rfl⟩
   ·obtain⟨⟨o',k1,k2⟩,k3⟩:=h.obj i g q ob a b ho
    exact⟨⟨o',Ob.bf hle ob k1,k2⟩,k3⟩
   ·simp at ho
  ·intro i i' g g' q q' hg hq eN cF ho kR bH
   rcases aC h.len hg hq with ⟨a1,a2⟩|⟨a0,rfl,rfl⟩
   ·rcases aC h.len eN cF with ⟨b1,b2⟩|⟨b0,rfl,rfl⟩
    ·exact h.fG i i' g g' q q' a1 a2 b1 b2 ho kR bH
    ·simp at kR
   ·simp at ho
  ·intro i g q hg hq ho
   rcases aC h.len hg hq with ⟨a,b⟩|⟨_,rfl,rfl⟩
   ·exact h.lR i g q a b ho
   ·cases ho
  ·intro i g q hg hq ho
   rcases aC h.len hg hq with ⟨a,b⟩|⟨_,rfl,rfl⟩
   ·exact h.dd i g q a b ho
   ·cases ho
  ·intro i g q hg hq ho
   rcases aC h.len hg hq with ⟨a,b⟩|⟨_,rfl,rfl⟩
   ·exact h.dG i g q a b ho
   ·cases ho
 ·exact Sat.XD h hN (Je h0) hb dS
theorem BH.Qu {E:Env}{N:af}{rg:List Rg}{w w':World}{cs:List SV}{n sz:Nat}{e:aaf}(hz:0<sz)(hf:BH cs n w e w')(h:Sat E N rg w) :
  ∃N' v,e=.returned v/\N.le N'/\(SV.osl rg.length 0 n sz none).den N'=some v/\Sat E N' (rg++[⟨false,cs,none⟩]) w':=by
 obtain⟨b,o,c,he,h1,h2,h3,hc⟩:=hf;have ef:(N++[⟨b,o,sz*c⟩]:af)[rg.length]?=some ⟨b,o,sz*c⟩:=by rw[<-h.len];simp
 refine⟨N++[⟨b,o,sz*c⟩],_,he,af.aZ _ _,by simp only[SV.den,ef,aS.cap,aag,Nat.sub_zero,Nat.mul_div_cancel_left _ hz],?_⟩;exact Sat.vu (h.bu hc) (s0:=w.heap.size) (fun r p hp=>h.lt r p hp) h1 h2 (fun j c hj=>by
  obtain⟨v,k1,k2⟩:=h3 j c hj;exact⟨v,k1 N,k2⟩)
theorem lV (a b:Nat)(ha:a<2 ^ 64)(hb:b<2 ^ 64):ig .and .u64 a b=((a &&& b:Nat):Int):=by
 have h1:a &&& b<2 ^ 64:=aaV aa2 ha;show aae.wrap (((aad 64 (a:Int) &&& aad 64 (b:Int)).toNat:Nat):Int)=_;have e1:(aad 64 (a:Int))=aan 64 a:=by simp
 have e2:(aad 64 (b:Int))=aan 64 b:=by simp
 rw[wrap64,e1,e2,abo,aao,aao,aai ha,aai hb];omega
theorem uI (a b:Nat)(ha:a<2 ^ 64)(hb:b<2 ^ 64):ig .or .u64 a b=((a |||b:Nat):Int):=by
 have h1:a |||b<2 ^ 64:=aa4 ha hb
 show aae.wrap (((aad 64 (a:Int) |||aad 64 (b:Int)).toNat:Nat):Int)=_;have e1:(aad 64 (a:Int))=aan 64 a:=by simp
 have e2:(aad 64 (b:Int))=aan 64 b:=by simp
 rw[wrap64,e1,e2,BitVec.toNat_or,aao,aao,aai ha,aai hb];omega
theorem J0 (a b:Nat)(ha:a<2 ^ 64)(hb:b<2 ^ 64):ig .xor .u64 a b=((a ^^^ b:Nat):Int):=by
 have h1:a ^^^ b<2 ^ 64:=aa5 ha hb;show aae.wrap (((aad 64 (a:Int) ^^^ aad 64 (b:Int)).toNat:Nat):Int)=_;have e1:(aad 64 (a:Int))=aan 64 a:=by simp
 have e2:(aad 64 (b:Int))=aan 64 b:=by simp
 rw[wrap64,e1,e2,BitVec.toNat_xor,aao,aao,aai ha,aai hb];omega
theorem pz (x k:Nat):(x:Int).fdiv (2 ^ k)=((x / 2 ^ k:Nat):Int):=by
 have h:(0:Int)<=2 ^ k:=by exact_mod_cast aah (2 ^ k)
 rw[Int.fdiv_eq_ediv_of_nonneg _ h];have:((2:Int) ^ k)=((2 ^ k:Nat):Int):=by simp
 rw[this];exact(Int.natCast_ediv _ _).symm
theorem m_ (n:Nat)(h:n<18446744073709551616):aae.wrap (n:Int)=n:=by
 rw[wrap64];omega
theorem UL (y:Nat)(h:y<9223372036854775808):ig .and .i64 (y:Int) 127=((y % 128:Nat):Int):=by
 have h1:y &&& 127=y % 128:=Nat.and_two_pow_sub_one_eq_mod y 7;show aa1.wrap (((aad 64 (y:Int) &&& aad 64 ((127:Nat):Int)).toNat:Nat):Int)=_;have e1:(aad 64 (y:Int))=aan 64 y:=by simp
 have e2:(aad 64 ((127:Nat):Int))=aan 64 127:=by simp
 rw[e1,e2,abo,aao,aao,aai (by omega),aai (show 127<2 ^ 64 by decide),h1];exact a_ _ (by omega) (by omega)
theorem GH (x:Nat)(w:World)(hx:x<2 ^ 64):Calls aac 42 #[.int .u64 x] w fun e w'=>e=.returned (.int .i64 (fL 64 x))/\aW (fun _ _=>False) w w':=by
 refine X.begin (rg:=[]) (N:=[]) (ss:=[.int .u64 (.nat x)]) Tryz.func42 rfl S0 rfl rfl Sat.bp ?_;refine X.go JH 400 _ rfl Tryz.results42 ?_
 conv=>arg 2;cbv
 refine X.done JH rfl (fun N w' v hN hS hv=>⟨bB hv ?_,hS.aM.none⟩);obtain⟨a,ha⟩:∃a,a=(x / 2 &&& 6148914691236517205)+(x &&& 6148914691236517205):=⟨_,rfl⟩;obtain⟨b,hb⟩:∃b,b=(a / 4 &&& 3689348814741910323)+(a &&& 3689348814741910323):=⟨_,rfl⟩;obtain⟨c,hc⟩:∃c,c=(b / 16+b) &&& 1085102592571150095:=⟨_,rfl⟩;obtain⟨d,hd⟩:∃d,d=c+c / 256:=⟨_,rfl⟩;obtain⟨e,he⟩:∃e,e=d+d / 65536:=⟨_,rfl⟩;obtain⟨⟨k1,k2,k3,k4,k5,k6⟩,k7⟩:=LK x hx a b c d e ha hb hc hd he;have L1:(6148914691236517205:Int)=((6148914691236517205:Nat):Int):=rfl;have L2:(3689348814741910323:Int)=((3689348814741910323:Nat):Int):=rfl;have L3:(1085102592571150095:Int)=((1085102592571150095:Nat):Int):=rfl;have A:aae.wrap (ig .and .u64 ((x:Int).fdiv (2 ^ 1)) 6148914691236517205+ig .and .u64 x 6148914691236517205)=(a:Int):=by
  rw[pz,L1,lV _ _ (by omega) (by decide),lV _ _ hx (by decide),<-aaq,<-ha,m_ a k1]
 have Bb:aae.wrap (ig .and .u64 ((a:Int).fdiv (2 ^ 2)) 3689348814741910323+ig .and .u64 a 3689348814741910323)=(b:Int):=by
  rw[pz,L2,lV _ _ (by omega) (by decide),lV _ _ k1 (by decide),<-aaq,<-hb,m_ b k2]
 have C:ig .and .u64 (aae.wrap ((b:Int).fdiv (2 ^ 4)+b)) 1085102592571150095=(c:Int):=by
  rw[pz,<-aaq,m_ _ k3,L3,lV _ _ k3 (by decide),<-hc]
 have Dd:aae.wrap ((c:Int)+(c:Int).fdiv (2 ^ 8))=(d:Int):=by
  rw[pz,<-aaq,<-hd,m_ d k4]
 have Ee:aae.wrap ((d:Int)+(d:Int).fdiv (2 ^ 16))=(e:Int):=by
  rw[pz,<-aaq,<-he,m_ e k5]
 have Ff:aae.wrap ((e:Int)+(e:Int).fdiv (2 ^ 32))=((e+e / 4294967296:Nat):Int):=by
  rw[pz,<-aaq,m_ _ (by omega)]
 simp only[SI.den,A,Bb,C,Dd,Ee,Ff];rw[a_ _ (by omega) (by omega),UL _ k6,k7]
def wX (s:Nat)(x:Int):Nat:=if x<64 then s |||2 ^ x.toNat else s
def ny (l:List Int):Nat:=l.foldl wX 0
theorem se:∀(l:List Int) (s:Nat),s<2 ^ 64->l.foldl wX s<2 ^ 64
 | [],_,h=>h
 |x::l,s,h=>by
  rw[abc];refine se l _ ?_;unfold wX
  split
  ·exact aa4 h (aaY (by decide) (by omega))
  ·exact h
def nt (l m:List Int):Nat:=l.countP fun x=>decide (x∉m)
def nq (l:List Int)(s:Nat):Nat:=l.countP fun x=>s.testBit x.toNat
theorem tR {p:Int->Bool}{l:List Int}{i:Nat}(h:i<l.length):(l.take (i+1)).countP p=(l.take i).countP p+if p l[i]! then 1 else 0:=by
 rw[tI h,List.countP_append,aaC];simp
theorem sA {E:Env}{N0:af}{rg:List Rg}{f:Fr}{g:GK}{t ty:TypeId}{x y:Operand}{ka kb:IntKind}{a b:SI}{n:Nat}(hx:hY f g x=some (.int ka a))(hy:hY f g y=some (.int kb b))(ha:a.den=1)(hk:ka=.u64)(hz:g.T->b.den=(n:Int))(hn:n<64):au E N0 rg f g (.binOp .shl t x y ty) (.int .u64 (.nat (2 ^ n))):=by
 intro ht N ρ o w ck cC df hV;have h1:=df _ _ hx;have h2:=df _ _ hy;simp only[SV.den,aA] at h1 h2;subst hk;have hb:=hz ht;rw[ha] at h1;rw[hb] at h2;refine⟨.int .u64 ((2 ^ n:Nat):Int),rfl,fun w' _=>?_⟩;have h3:(do eqGuard .shl t x y (ρ x) (ρ y);binOp .shl t (ρ x) (ρ y):Sem Value).run E.P w'=.ok (.int .u64 ((2 ^ n:Nat):Int)) w':=by
  rw[<-h1,<-h2];simp only[Sem.run_bind];rw[dN _ _ _ _ (by simp) (by simp)];have hw:aae.wrap (1*2 ^ min (n:Int).toNat aae.bits)=((2 ^ n:Nat):Int):=by
   have e:min (n:Int).toNat aae.bits=n:=by simp[IntKind.bits];omega
   rw[e,Int.one_mul,show((2:Int) ^ n)=((2 ^ n:Nat):Int) by simp];exact m_ _ (by have:=aaY (a:=2) (by decide) hn;simpa using this)
  have Bw:¬(n:Int)<0:=by omega
  simp only[Result.andThen,binOp,Op.shift];rw[if_neg Bw,hw];rfl
 simp only[execOp,cC];rw[Sem.run_bind,h3];rfl
theorem E_ (p:Option Addr)(n c:Nat)(d:Array Int)(w:World)(hle:n<=100000)(hA:nf p n d w)(hb:∀x∈d.toList,0<=x/\x<256):Calls aac 43 #[.slice p n c] w fun e w'=>e=.returned (.int .u64 (ny d.toList))/\aW (fun _ _=>False) w w':=by
 have hn:=hA.1;obtain⟨Q,hQ⟩:∃Q:aaf->World->Prop,Q=fun e w'=>e=.returned (.int .u64 (ny d.toList))/\aW (fun _ _=>False) w w':=⟨_,rfl⟩
 rw[<-hQ];refine X.begin (rg:=[]) (N:=[]) (ss:=[.ao p n c]) Tryz.func43 rfl S1 rfl rfl Sat.bp ?_;refine X.go qf 400 _ rfl aau ?_
 conv=>arg 2;cbv
 refine X.loop (fun _:{i:Nat // i<=n}=>aK aac aaN Q w (bq [] []) (ab [] [] w) (fun _ _=>False) (fun _=>True) [] Xl)
  (fun g=>⟨[(3,.val (.int .u64 (.nat (ny (d.toList.take g.1))))),(6,.val (.ao p n c)),(7,.val (.int .i64 (.nat n))),(8,.val (.int .i64 (.nat g.1)))],[]⟩) (fun g=>n-g.1) (fun _=>⟨rfl,rfl,rfl,rfl⟩) (fun N ac w' hN hf hS=>⟨⟨0,aah _⟩,?_⟩) (fun g q hq=>?_)
 ·exact At.eJ hf hS trivial
 obtain⟨i,hi⟩:=g;show X (aK aac aaN Q w (bq [] []) (ab [] [] w) (fun _ _=>False) (fun _=>True) [] Xl) _ ⟨[(3,.val (.int .u64 (.nat (ny (d.toList.take i))))),(6,.val (.ao p n c)),(7,.val (.int .i64 (.nat n))),(8,.val (.int .i64 (.nat i)))],[]⟩;obtain⟨s,hs⟩:∃s,s=ny (d.toList.take i):=⟨_,rfl⟩;have hs8:s<2 ^ 64:=by rw[hs];exact se _ 0 (by decide)
 rw[<-hs];refine X.go qf 400 _ rfl aau ?_
 conv=>arg 2;cbv
 refine X.cond rfl (fun aF=>?_) (fun cJ=>?_)
 ·simp only[SB.T,SI.den] at aF
  have aF:i<n:=by omega
  obtain⟨b,y,hp,hd⟩:=hA.2 (by omega);obtain⟨x,hx⟩:∃x,x=d[i]! := ⟨_,rfl⟩;have HY:d.toList[i]! = x:=by rw[hx,getElem!_pos d i (by omega),getElem!_pos d.toList i (by simp;omega)];simp
  obtain⟨oi,pP⟩:∃o,o=y+i:=⟨_,rfl⟩;have lB:ab [] [] w b (oi+0)=some (.int .u8 x):=by rw[aag,dD,pP,hx];exact hd i (by omega)
  have Co:x∈d.toList:=by rw[<-HY,getElem!_pos d.toList i (by simp;omega)];exact aaI _
  have gU:ny (d.toList.take (i+1))=wX s x:=by unfold ny;rw[vW _ _ (by simp;omega),HY,hs];rfl
  refine X.dk ([(10,.ext b oi 0),(11,.int .u8 (.v x))]) qf 400 _ rfl aau (fun pr fin aj ai=>?_)
  conv=>cbv
  refine⟨aj _ (au.eC rfl aak (fun _=>rfl) fun _=>lB),aj _ (au.at (z:=i) rfl rfl (fun _=>rfl) aal aam (fun _=>aF) hp (by omega)),ai _ _ ?_⟩;refine X.cond rfl (fun hT=>?_) (fun hF=>?_)
  ·simp only[SB.T,SI.den] at hT
   obtain⟨xn,hxn,_⟩:=Q6 (hb x Co);have HX:xn<64:=by omega
   have fU:2 ^ xn<2 ^ 64:=aaY (by decide) HX;obtain⟨t2,nk⟩:∃t,t=2 ^ xn:=⟨_,rfl⟩;have wi:wX s x=s |||t2:=by unfold wX;rw[if_pos hT,hxn,nk];simp
   have La:=uI s t2 hs8 (by rw[nk];exact fU);refine X.dk ([(16,.int .u64 (.nat t2))]) qf 400 _ rfl aau (fun pr fin aj ai=>?_)
   conv=>cbv
   refine⟨aj _ (by rw[nk];exact sA rfl rfl rfl rfl (fun _=>hxn) HX),ai _ _ ?_⟩;refine X.iR 3 (.int .u64 (.nat (s |||t2))) rfl (fun N _ v hv=>by rw[<-hv];simp only[SV.den,SI.den,La]) ?_;refine X.back (fun N ac w' hN hf hS=>hq ⟨i+1,aF⟩ ac w' (by simp only;omega) ?_);show At (aK aac aaN Q w (bq [] []) (ab [] [] w) (fun _ _=>False) (fun _=>True) [] Xl) ⟨[(3,.val (.int .u64 (.nat (ny (d.toList.take (i+1)))))),(6,.val (.ao p n c)),(7,.val (.int .i64 (.nat n))),(8,.val (.int .i64 (.nat (i+1))))],[]⟩ ac w';rw[gU,wi];exact At.eJ hf hS trivial
  ·simp only[SB.F,SI.den] at hF
   have wi:wX s x=s:=by unfold wX;rw[if_neg (by omega)]
   refine X.go qf 400 _ rfl aau ?_
   conv=>arg 2;cbv
   refine X.back (fun N ac w' hN hf hS=>hq ⟨i+1,aF⟩ ac w' (by simp only;omega) ?_);show At (aK aac aaN Q w (bq [] []) (ab [] [] w) (fun _ _=>False) (fun _=>True) [] Xl) ⟨[(3,.val (.int .u64 (.nat (ny (d.toList.take (i+1)))))),(6,.val (.ao p n c)),(7,.val (.int .i64 (.nat n))),(8,.val (.int .i64 (.nat (i+1))))],[]⟩ ac w';rw[gU,wi];exact At.eJ hf hS trivial
 ·simp only[SB.F,SI.den] at cJ
  have fI:d.toList.take i=d.toList:=aaJ (by simp;omega);refine X.go qf 400 _ rfl aau ?_
  conv=>arg 2;cbv
  refine X.done qf rfl (fun N w' v hN hS hv=>?_);rw[hQ];exact⟨bB hv (by rw[<-fI,<-hs];rfl),hS.aM.none⟩
theorem KC (p:Option Addr)(n c:Nat)(d:Array Int)(z:Int)(w:World)(hle:n<=100000)(hA:nf p n d w):Calls aac 96 #[.slice p n c,.int .u8 z] w fun e w'=>e=.returned (.bool (decide (z∈d.toList)))/\aW (fun _ _=>False) w w':=by
 have hn:=hA.1;obtain⟨Q,hQ⟩:∃Q:aaf->World->Prop,Q=fun e w'=>e=.returned (.bool (decide (z∈d.toList)))/\aW (fun _ _=>False) w w':=⟨_,rfl⟩
 rw[<-hQ];refine X.begin (rg:=[]) (N:=[]) (ss:=[.ao p n c,.int .u8 (.v z)]) Tryz.func96 rfl Tt rfl rfl Sat.bp ?_;refine X.go nM 400 _ rfl aav ?_
 conv=>arg 2;cbv
 refine X.loop (fun _:{i:Nat // i<=n/\¬z∈d.toList.take i}=>aK aac aa0 Q w (bq [] []) (ab [] [] w) (fun _ _=>False) (fun _=>True) [] B96)
  (fun g=>⟨[(0,.val (.ao p n c)),(1,.val (.int .u8 (.v z))),(7,.val (.int .i64 (.nat n))),(8,.val (.int .i64 (.nat g.1)))],[]⟩) (fun g=>n-g.1) (fun _=>⟨rfl,rfl,rfl,rfl⟩) (fun N ac w' hN hf hS=>⟨⟨0,aah _,by simp⟩,?_⟩) (fun g q hq=>?_)
 ·exact At.eJ hf hS trivial
 obtain⟨i,hi,hex⟩:=g;show X (aK aac aa0 Q w (bq [] []) (ab [] [] w) (fun _ _=>False) (fun _=>True) [] B96) _ ⟨[(0,.val (.ao p n c)),(1,.val (.int .u8 (.v z))),(7,.val (.int .i64 (.nat n))),(8,.val (.int .i64 (.nat i)))],[]⟩;refine X.go nM 400 _ rfl aav ?_
 conv=>arg 2;cbv
 refine X.cond rfl (fun aF=>?_) (fun cJ=>?_)
 ·simp only[SB.T,SI.den] at aF
  have aF:i<n:=by omega
  obtain⟨b,y,hp,hd⟩:=hA.2 (by omega);obtain⟨x,hx⟩:∃x,x=d[i]! := ⟨_,rfl⟩;have HY:d.toList[i]! = x:=by rw[hx,getElem!_pos d i (by omega),getElem!_pos d.toList i (by simp;omega)];simp
  obtain⟨oi,pP⟩:∃o,o=y+i:=⟨_,rfl⟩;have lB:ab [] [] w b (oi+0)=some (.int .u8 x):=by rw[aag,dD,pP,hx];exact hd i (by omega)
  have Co:x∈d.toList:=by rw[<-HY,getElem!_pos d.toList i (by simp;omega)];exact aaI _
  have t_:=tI (l:=d.toList) (i:=i) (by simp;omega);rw[HY] at t_;refine X.dk ([(13,.ext b oi 0),(14,.int .u8 (.v x))]) nM 400 _ rfl aav (fun pr fin aj ai=>?_)
  conv=>cbv
  refine⟨aj _ (au.eC rfl aak (fun _=>rfl) fun _=>lB),aj _ (au.at (z:=i) rfl rfl (fun _=>rfl) aal aam (fun _=>aF) hp (by omega)),ai _ _ ?_⟩;refine X.cond rfl (fun he=>?_) (fun he=>?_)
  ·simp only[SB.T,SI.den] at he
   have hm:z∈d.toList:=by rw[<-he];exact Co
   refine X.go nM 400 _ rfl aav ?_
   conv=>arg 2;cbv
   refine X.done nM rfl (fun N w' v hN hS hv=>?_);rw[hQ];exact⟨aw hv (by simp[SB.den,hm]),hS.aM.none⟩
  ·simp only[SB.F,SI.den] at he
   refine X.go nM 400 _ rfl aav ?_
   conv=>arg 2;cbv
   refine X.back (fun N ac w' hN hf hS=>hq ⟨i+1,aF,by rw[t_];simp[hex,Ne.symm he]⟩ ac w' (by simp only;omega) ?_);show At (aK aac aa0 Q w (bq [] []) (ab [] [] w) (fun _ _=>False) (fun _=>True) [] B96) ⟨[(0,.val (.ao p n c)),(1,.val (.int .u8 (.v z))),(7,.val (.int .i64 (.nat n))),(8,.val (.int .i64 (.nat (i+1))))],[]⟩ ac w';exact At.eJ hf hS trivial
 ·simp only[SB.F,SI.den] at cJ
  have hm:¬z∈d.toList:=by rw[aaJ (by simp;omega)] at hex;exact hex
  refine X.go nM 400 _ rfl aav ?_
  conv=>arg 2;cbv
  refine X.done nM rfl (fun N w' v hN hS hv=>?_);rw[hQ];exact⟨aw hv (by simp[SB.den,hm]),hS.aM.none⟩
theorem UN (s n:Nat)(w:World)(hs:s<2 ^ 64)(hn:n<256):Calls aac 87 #[.int .u64 s,.int .u8 n] w fun e w'=>e=.returned (.bool (s.testBit n))/\aW (fun _ _=>False) w w':=by
 obtain⟨Q,hQ⟩:∃Q:aaf->World->Prop,Q=fun e w'=>e=.returned (.bool (s.testBit n))/\aW (fun _ _=>False) w w':=⟨_,rfl⟩
 rw[<-hQ];refine X.begin (rg:=[]) (N:=[]) (ss:=[.int .u64 (.nat s),.int .u8 (.nat n)]) Tryz.func87 rfl Tp rfl rfl Sat.bp ?_;have Je:s / 2 ^ 0=s:=by simp
 refine X.go vq 400 _ rfl aaO ?_
 conv=>arg 2;cbv
 refine X.loop (fun _:{i:Nat // i<=n}=>aK aac aaP Q w (bq [] []) (ab [] [] w) (fun _ _=>False) (fun _=>True) [] Xq)
  (fun g=>⟨[(0,.val (.int .u64 (.nat (s / 2 ^ g.1)))),(1,.val (.int .u8 (.nat n))),(5,.val (.int .u8 (.nat g.1)))],[]⟩) (fun g=>n-g.1) (fun _=>⟨rfl,rfl,rfl,rfl⟩) (fun N ac w' hN hf hS=>⟨⟨0,aah _⟩,?_⟩) (fun g q hq=>?_)
 ·show At (aK aac aaP Q w (bq [] []) (ab [] [] w) (fun _ _=>False) (fun _=>True) [] Xq) ⟨[(0,.val (.int .u64 (.nat (s / 2 ^ 0)))),(1,.val (.int .u8 (.nat n))),(5,.val (.int .u8 (.nat 0)))],[]⟩ ac w'
  rw[Je];exact At.eJ hf hS trivial
 obtain⟨i,hi⟩:=g;show X (aK aac aaP Q w (bq [] []) (ab [] [] w) (fun _ _=>False) (fun _=>True) [] Xq) _ ⟨[(0,.val (.int .u64 (.nat (s / 2 ^ i)))),(1,.val (.int .u8 (.nat n))),(5,.val (.int .u8 (.nat i)))],[]⟩;obtain⟨y,hy⟩:∃y,y=s / 2 ^ i:=⟨_,rfl⟩;have hy8:y<2 ^ 64:=by rw[hy];exact aaV (Nat.div_le_self _ _) hs
 rw[<-hy];refine X.go vq 400 _ rfl aaO ?_
 conv=>arg 2;cbv
 refine X.cond rfl (fun aF=>?_) (fun cJ=>?_)
 ·simp only[SB.T,SI.den] at aF
  have aF:i<n:=by omega
  have hyn:s / 2 ^ (i+1)=y / 2:=by rw[hy,aaX,aa3]
  have hw:aae.wrap ((y:Int).tdiv 2)=((y / 2:Nat):Int):=by rw[Int.tdiv_eq_ediv_of_nonneg (by omega),wrap64];omega
  have V2:IntKind.u8.wrap ((i:Int)+1)=((i+1:Nat):Int):=xB (v:=i+1) (by omega);refine X.go vq 400 _ rfl aaO ?_
  conv=>arg 2;cbv
  refine X.iR 0 (.int .u64 (.nat (y / 2))) rfl (fun N _ v hv=>by rw[<-hv];simp only[SV.den,SI.den,hw]) ?_;refine X.iR 5 (.int .u8 (.nat (i+1))) rfl (fun N _ v hv=>by rw[<-hv];simp only[SV.den,SI.den,V2]) ?_;refine X.back (fun N ac w' hN hf hS=>hq ⟨i+1,aF⟩ ac w' (by simp only;omega) ?_);show At (aK aac aaP Q w (bq [] []) (ab [] [] w) (fun _ _=>False) (fun _=>True) [] Xq) ⟨[(0,.val (.int .u64 (.nat (s / 2 ^ (i+1))))),(1,.val (.int .u8 (.nat n))),(5,.val (.int .u8 (.nat (i+1))))],[]⟩ ac w';rw[hyn];exact At.eJ hf hS trivial
 ·simp only[SB.F,SI.den] at cJ
  have yd:i=n:=by omega
  refine X.go vq 400 _ rfl aaO ?_
  conv=>arg 2;cbv
  refine X.done vq rfl (fun N w' v hN hS hv=>?_);rw[hQ];refine⟨aw hv ?_,hS.aM.none⟩;have h1:s.testBit n=decide (y % 2=1):=by rw[Nat.testBit_eq_decide_div_mod_eq,hy,yd]
  rw[h1];refine i_ ?_;simp only[SB.T,SI.den,decide_eq_true_eq];rw[aaM (by omega)];omega
theorem y9 (p p2:Option Addr)(n c n2 c2:Nat)(d d2:Array Int)(w:World)(hle:n<=100000)(ads:n2<=100000)(hA:nf p n d w)(WJ:nf p2 n2 d2 w):Calls aac 83 #[.slice p n c,.slice p2 n2 c2] w fun e w'=>e=.returned (.int .i64 (nt d.toList d2.toList))/\aW (fun _ _=>False) w w':=by
 have hn:=hA.1;obtain⟨Q,hQ⟩:∃Q:aaf->World->Prop,Q=fun e w'=>e=.returned (.int .i64 (nt d.toList d2.toList))/\aW (fun _ _=>False) w w':=⟨_,rfl⟩
 rw[<-hQ];refine X.begin (rg:=[]) (N:=[]) (ss:=[.ao p n c,.ao p2 n2 c2]) Tryz.func83 rfl Tk rfl rfl Sat.bp ?_;refine X.go qi 400 _ rfl aaw ?_
 conv=>arg 2;cbv
 refine X.loop (fun _:{i:Nat // i<=n}=>aK aac aaQ Q w (bq [] []) (ab [] [] w) (fun _ _=>False) (fun _=>True) [] Xp)
  (fun g=>⟨[(0,.val (.ao p n c)),(1,.val (.ao p2 n2 c2)),(5,.val (.int .i64 (.nat (nt (d.toList.take g.1) d2.toList)))),(8,.val (.int .i64 (.nat n))),(9,.val (.int .i64 (.nat g.1)))],[]⟩) (fun g=>n-g.1) (fun _=>⟨rfl,rfl,rfl,rfl⟩) (fun N ac w' hN hf hS=>⟨⟨0,aah _⟩,?_⟩) (fun g q hq=>?_)
 ·exact At.eJ hf hS trivial
 obtain⟨i,hi⟩:=g;show X (aK aac aaQ Q w (bq [] []) (ab [] [] w) (fun _ _=>False) (fun _=>True) [] Xp) _ ⟨[(0,.val (.ao p n c)),(1,.val (.ao p2 n2 c2)),(5,.val (.int .i64 (.nat (nt (d.toList.take i) d2.toList)))),(8,.val (.int .i64 (.nat n))),(9,.val (.int .i64 (.nat i)))],[]⟩;obtain⟨k,hk⟩:∃k,k=nt (d.toList.take i) d2.toList:=⟨_,rfl⟩;have hk8:k<=100000:=by rw[hk];exact aay aaK (by simp;omega)
 rw[<-hk];refine X.go qi 400 _ rfl aaw ?_
 conv=>arg 2;cbv
 refine X.cond rfl (fun aF=>?_) (fun cJ=>?_)
 ·simp only[SB.T,SI.den] at aF
  have aF:i<n:=by omega
  obtain⟨b,y,hp,hd⟩:=hA.2 (by omega);obtain⟨x,hx⟩:∃x,x=d[i]! := ⟨_,rfl⟩;have HY:d.toList[i]! = x:=by rw[hx,getElem!_pos d i (by omega),getElem!_pos d.toList i (by simp;omega)];simp
  obtain⟨oi,pP⟩:∃o,o=y+i:=⟨_,rfl⟩;have lB:ab [] [] w b (oi+0)=some (.int .u8 x):=by rw[aag,dD,pP,hx];exact hd i (by omega)
  have Co:x∈d.toList:=by rw[<-HY,getElem!_pos d.toList i (by simp;omega)];exact aaI _
  have gU:nt (d.toList.take (i+1)) d2.toList=k+if decide (x∉d2.toList)=true then 1 else 0:=by unfold nt;rw[tR (by simp;omega),HY,hk];rfl
  obtain⟨hb,pE⟩:∃b:Bool,b=(decide (x∈d2.toList)):=⟨_,rfl⟩;refine X.dk ([(15,.ext b oi 0),(16,.int .u8 (.v x)),(17,.bool (.v hb))]) qi 400 _ rfl aaw (fun pr fin aj ai=>?_)
  conv=>cbv
  refine⟨aj _ (.of Tryz.call96 [.slice p2 n2 c2,.int .u8 x] (.bool hb) (fun _=>rfl) (fun _=>rfl) fun _ w1 ct=>by rw[pE];exact KC p2 n2 c2 d2 x w1 ads ⟨WJ.1,fun h0=>by obtain⟨b',y',h1,h2⟩:=WJ.2 h0;exact⟨b',y',h1,fun j hj=>ct _ _ _ (by show ab [] [] w b' (y'+j)=_;rw[dD];exact h2 j hj)⟩⟩),aj _ (au.eC rfl aak (fun _=>rfl) fun _=>lB),aj _ (au.at (z:=i) rfl rfl (fun _=>rfl) aal aam (fun _=>aF) hp (by omega)),ai _ _ ?_⟩;refine X.cond rfl (fun hT=>?_) (fun hF=>?_)
  ·simp only[SB.T,SB.F] at hT
   rw[if_pos (by rw[pE] at hT;simpa using hT)] at gU;refine X.go qi 400 _ rfl aaw ?_
   conv=>arg 2;cbv
   refine X.back (fun N ac w' hN hf hS=>hq ⟨i+1,aF⟩ ac w' (by simp only;omega) ?_);show At (aK aac aaQ Q w (bq [] []) (ab [] [] w) (fun _ _=>False) (fun _=>True) [] Xp) ⟨[(0,.val (.ao p n c)),(1,.val (.ao p2 n2 c2)),(5,.val (.int .i64 (.nat (nt (d.toList.take (i+1)) d2.toList)))),(8,.val (.int .i64 (.nat n))),(9,.val (.int .i64 (.nat (i+1))))],[]⟩ ac w';rw[gU];exact At.eJ hf hS trivial
  ·simp only[SB.T,SB.F] at hF
   rw[if_neg (by rw[pE] at hF;simpa using hF),aag] at gU;refine X.go qi 400 _ rfl aaw ?_
   conv=>arg 2;cbv
   refine X.back (fun N ac w' hN hf hS=>hq ⟨i+1,aF⟩ ac w' (by simp only;omega) ?_);show At (aK aac aaQ Q w (bq [] []) (ab [] [] w) (fun _ _=>False) (fun _=>True) [] Xp) ⟨[(0,.val (.ao p n c)),(1,.val (.ao p2 n2 c2)),(5,.val (.int .i64 (.nat (nt (d.toList.take (i+1)) d2.toList)))),(8,.val (.int .i64 (.nat n))),(9,.val (.int .i64 (.nat (i+1))))],[]⟩ ac w';rw[gU];exact At.eJ hf hS trivial
 ·simp only[SB.F,SI.den] at cJ
  have fI:d.toList.take i=d.toList:=aaJ (by simp;omega);refine X.go qi 400 _ rfl aaw ?_
  conv=>arg 2;cbv
  refine X.done qi rfl (fun N w' v hN hS hv=>?_);rw[hQ];exact⟨bB hv (by rw[fI] at hk;rw[<-hk];rfl),hS.aM.none⟩
theorem BX (p:Option Addr)(n c s:Nat)(d:Array Int)(w:World)(hle:n<=100000)(hs:s<2 ^ 64)(hA:nf p n d w)(hb8:∀x∈d.toList,0<=x/\x<256):Calls aac 67 #[.slice p n c,.int .u64 s] w fun e w'=>e=.returned (.int .i64 (nq d.toList s))/\aW (fun _ _=>False) w w':=by
 have hn:=hA.1;obtain⟨Q,hQ⟩:∃Q:aaf->World->Prop,Q=fun e w'=>e=.returned (.int .i64 (nq d.toList s))/\aW (fun _ _=>False) w w':=⟨_,rfl⟩
 rw[<-hQ];refine X.begin (rg:=[]) (N:=[]) (ss:=[.ao p n c,.int .u64 (.nat s)]) Tryz.func67 rfl Te rfl rfl Sat.bp ?_;refine X.go qh 400 _ rfl aax ?_
 conv=>arg 2;cbv
 refine X.loop (fun _:{i:Nat // i<=n}=>aK aac aaR Q w (bq [] []) (ab [] [] w) (fun _ _=>False) (fun _=>True) [] Xm)
  (fun g=>⟨[(0,.val (.ao p n c)),(1,.val (.int .u64 (.nat s))),(5,.val (.int .i64 (.nat (nq (d.toList.take g.1) s)))),(8,.val (.int .i64 (.nat n))),(9,.val (.int .i64 (.nat g.1)))],[]⟩) (fun g=>n-g.1) (fun _=>⟨rfl,rfl,rfl,rfl⟩) (fun N ac w' hN hf hS=>⟨⟨0,aah _⟩,?_⟩) (fun g q hq=>?_)
 ·exact At.eJ hf hS trivial
 obtain⟨i,hi⟩:=g;show X (aK aac aaR Q w (bq [] []) (ab [] [] w) (fun _ _=>False) (fun _=>True) [] Xm) _ ⟨[(0,.val (.ao p n c)),(1,.val (.int .u64 (.nat s))),(5,.val (.int .i64 (.nat (nq (d.toList.take i) s)))),(8,.val (.int .i64 (.nat n))),(9,.val (.int .i64 (.nat i)))],[]⟩;obtain⟨k,hk⟩:∃k,k=nq (d.toList.take i) s:=⟨_,rfl⟩;have hk8:k<=100000:=by rw[hk];exact aay aaK (by simp;omega)
 rw[<-hk];refine X.go qh 400 _ rfl aax ?_
 conv=>arg 2;cbv
 refine X.cond rfl (fun aF=>?_) (fun cJ=>?_)
 ·simp only[SB.T,SI.den] at aF
  have aF:i<n:=by omega
  obtain⟨b,y,hp,hd⟩:=hA.2 (by omega);obtain⟨x,hx⟩:∃x,x=d[i]! := ⟨_,rfl⟩;have HY:d.toList[i]! = x:=by rw[hx,getElem!_pos d i (by omega),getElem!_pos d.toList i (by simp;omega)];simp
  obtain⟨oi,pP⟩:∃o,o=y+i:=⟨_,rfl⟩;have lB:ab [] [] w b (oi+0)=some (.int .u8 x):=by rw[aag,dD,pP,hx];exact hd i (by omega)
  have Co:x∈d.toList:=by rw[<-HY,getElem!_pos d.toList i (by simp;omega)];exact aaI _
  have gU:nq (d.toList.take (i+1)) s=k+if s.testBit x.toNat=true then 1 else 0:=by unfold nq;rw[tR (by simp;omega),HY,hk];rfl
  obtain⟨hb,pE⟩:∃b:Bool,b=(s.testBit x.toNat):=⟨_,rfl⟩;refine X.dk ([(15,.ext b oi 0),(16,.int .u8 (.v x)),(17,.bool (.v hb))]) qh 400 _ rfl aax (fun pr fin aj ai=>?_)
  conv=>cbv
  refine⟨aj _ (.of Tryz.call87 [.int .u64 s,.int .u8 x] (.bool hb) (fun _=>rfl) (fun _=>rfl) fun _ w1 _=>by obtain⟨xn,hxn,hx8⟩:=Q6 (hb8 x Co);rw[pE,hxn];exact UN s xn w1 hs hx8),aj _ (au.eC rfl aak (fun _=>rfl) fun _=>lB),aj _ (au.at (z:=i) rfl rfl (fun _=>rfl) aal aam (fun _=>aF) hp (by omega)),ai _ _ ?_⟩;refine X.cond rfl (fun hT=>?_) (fun hF=>?_)
  ·simp only[SB.T,SB.F] at hT
   rw[if_pos (by rw[pE] at hT;exact hT)] at gU;refine X.go qh 400 _ rfl aax ?_
   conv=>arg 2;cbv
   refine X.back (fun N ac w' hN hf hS=>hq ⟨i+1,aF⟩ ac w' (by simp only;omega) ?_);show At (aK aac aaR Q w (bq [] []) (ab [] [] w) (fun _ _=>False) (fun _=>True) [] Xm) ⟨[(0,.val (.ao p n c)),(1,.val (.int .u64 (.nat s))),(5,.val (.int .i64 (.nat (nq (d.toList.take (i+1)) s)))),(8,.val (.int .i64 (.nat n))),(9,.val (.int .i64 (.nat (i+1))))],[]⟩ ac w';rw[gU];exact At.eJ hf hS trivial
  ·simp only[SB.T,SB.F] at hF
   rw[if_neg (by rw[pE] at hF;simpa using hF),aag] at gU;refine X.go qh 400 _ rfl aax ?_
   conv=>arg 2;cbv
   refine X.back (fun N ac w' hN hf hS=>hq ⟨i+1,aF⟩ ac w' (by simp only;omega) ?_);show At (aK aac aaR Q w (bq [] []) (ab [] [] w) (fun _ _=>False) (fun _=>True) [] Xm) ⟨[(0,.val (.ao p n c)),(1,.val (.int .u64 (.nat s))),(5,.val (.int .i64 (.nat (nq (d.toList.take (i+1)) s)))),(8,.val (.int .i64 (.nat n))),(9,.val (.int .i64 (.nat (i+1))))],[]⟩ ac w';rw[gU];exact At.eJ hf hS trivial
 ·simp only[SB.F,SI.den] at cJ
  have fI:d.toList.take i=d.toList:=aaJ (by simp;omega);refine X.go qh 400 _ rfl aax ?_
  conv=>arg 2;cbv
  refine X.done qh rfl (fun N w' v hN hS hv=>?_);rw[hQ];exact⟨bB hv (by rw[fI] at hk;rw[<-hk];rfl),hS.aM.none⟩
theorem tA:∀(n x:Nat),fL n x=(aaA n).countP fun i=>x.testBit i
 |0,_=>rfl
 |n+1,x=>by
  rw[fL,tA n (x / 2),List.range_succ_eq_map,aaC,abf];have e:((fun i=>x.testBit i) ∘ Nat.succ)=fun i=>(x / 2).testBit i:=by
   funext i
   exact Nat.testBit_succ x i
  rw[e]
  congr 1
  rw[Nat.testBit_zero]
  by_cases h:x % 2=1
  ·simp[h]
  ·have:x % 2=0:=by omega
   simp[this]
theorem r_ {i:Nat}(hi:i<64):∀(l:List Int) (s:Nat),(∀x∈l,0<=x)->(l.foldl wX s).testBit i=(s.testBit i ||decide ((i:Int)∈l))
 | [],s,_=>by simp
 |x::l,s,h=>by
  rw[abc,r_ hi l _ fun y hy=>h y (List.mem_cons_of_mem _ hy)];have hx:=h x (by simp);have e:(wX s x).testBit i=(s.testBit i ||decide ((i:Int)=x)):=by
   unfold wX
   split
   ·rw[Nat.testBit_or,Nat.testBit_two_pow]
    congr 1
    exact decide_eq_decide.2 (by omega)
   ·have:¬(i:Int)=x:=by omega
    simp[this]
  rw[e,Bool.or_assoc]
  congr 1
  rw[Bool.eq_iff_iff];simp
theorem countP_range {l:List Int}(sH:l.Nodup)(hl:∀x∈l,0<=x/\x<64)(P:Nat->Bool):(l.countP fun x=>P x.toNat)=(aaA 64).countP fun i:Nat=>decide ((i:Int)∈l)&&P i:=by
 have hp:(((aaA 64).filter fun i:Nat=>decide ((i:Int)∈l)).map fun i:Nat=>(i:Int)).Perm l:=by
  refine(List.perm_ext_iff_of_nodup ?_ sH).2 fun y=>?_
  ·refine abp (R:=(·<·)) (fun h=>by omega) (aa6.2 (abh _ ?_))
   exact aa7.imp fun h=>by omega
  ·simp only[aa8,aa9,aaB,decide_eq_true_eq]
   constructor
   ·rintro⟨a,⟨_,h⟩,rfl⟩
    exact h
   ·intro h
    have:=hl y h;exact⟨y.toNat,⟨by omega,by rw[aaD this.1];exact h⟩,aaD this.1⟩
 rw[<-hp.countP_eq,abf,List.countP_filter];refine aaL fun i _=>?_
 simp[And.comm]
theorem Ql {l:List Int}(sH:l.Nodup)(hl:∀x∈l,0<=x/\x<64)(s:Nat):fL 64 (ny l &&& s)=nq l s:=by
 unfold nq;rw[tA,countP_range sH hl fun i=>s.testBit i];refine aaL fun i hi=>?_
 rw[aaH,ny,r_ (aaB.1 hi) l 0 fun x hx=>(hl x hx).1];simp
theorem vI {α:Type}(p q:α->Bool):∀l:List α,(l.countP fun a=>p a ^^ q a)=(l.countP fun a=>p a&&!q a)+l.countP fun a=>q a&&!p a
 | []=>rfl
 |a::l=>by
  rw[aaC,aaC,aaC,vI p q l];cases p a<;>cases q a<;>simp<;>omega
theorem y8 {o n:List Int}(ho:o.Nodup)(yJ:∀x∈o,0<=x/\x<64):nt o n=(aaA 64).countP fun i:Nat=>decide ((i:Int)∈o)&&!decide ((i:Int)∈n):=by
 have e:nt o n=o.countP fun x=>(fun i:Nat=>!decide ((i:Int)∈n)) x.toNat:=by
  unfold nt;refine aaL fun x hx=>?_
  simp only[aaD (yJ x hx).1];simp
 rw[e,countP_range ho yJ fun i:Nat=>!decide ((i:Int)∈n)]
theorem GO {o n:List Int}(ho:o.Nodup)(yJ:∀x∈o,0<=x/\x<64)(hn:n.Nodup)(jy:∀x∈n,0<=x/\x<64):fL 64 (ny o ^^^ ny n)=nt o n+nt n o:=by
 rw[y8 ho yJ,y8 hn jy,<-vI,tA];refine aaL fun i hi=>?_
 rw[Nat.testBit_xor,ny,ny,r_ (aaB.1 hi) o 0 fun x hx=>(yJ x hx).1,r_ (aaB.1 hi) n 0 fun x hx=>(jy x hx).1];simp
theorem uV {d:Array Int}(h:js d d.size):d.toList.Pairwise (·<·):=by
 have key:∀j,j<d.size->∀i,i<j->d[i]! < d[j]! := fun j=>by
  induction j with
  |zero=>intro _ i hi;omega
  |succ j ih =>
   intro hj i hi;have h1:=(h (j+1) hj).2 (by omega);simp only[Nat.add_sub_cancel] at h1;rcases aaG i j with h2|h2
   ·have:=ih (by omega) i h2
    omega
   ·have:i=j:=by omega
    subst this;exact h1
 refine aaZ.2 fun i j hi hj iK=>?_
 have:=key j (by simpa using hj) i iK;rw[getElem!_pos d i (by simpa using hi),getElem!_pos d j (by simpa using hj)] at this
 simpa using this
theorem o_ {d:Array Int}(h:js d d.size)(hb:∀x∈d.toList,0<=x/\x<256):∀x∈d.toList,0<=x/\x<64:=fun x hx=>by
 obtain⟨i,hi,rfl⟩:=List.getElem_of_mem hx;have hi:i<d.size:=by simpa using hi
 have:=(h i hi).1;rw[getElem!_pos d i hi] at this;exact⟨(hb _ hx).1,by simpa using this⟩
def kG (C:Nat)(o n:Array Int):Prop:=0<n.size/\js n n.size/\if C % 2=1 then 0<o.size/\js o o.size/\nt o.toList n.toList+nt n.toList o.toList=1 else o.size=0
theorem nf.im {p:Option Addr}{n:Nat}{d:Array Int}{w w1:World}(h:nf p n d w)(ct:∀k o v,ab [] [] w k o=some v->w1.cell? ⟨k,o,none⟩=some v):nf p n d w1:=⟨h.1,fun h0=>by
 obtain⟨b,y,h1,h2⟩:=h.2 h0;exact⟨b,y,h1,fun j hj=>ct _ _ _ (by rw[dD];exact h2 j hj)⟩⟩
theorem vB (C:Nat)(a b:Value)(ha:bc a=true)(hb:bc b=true)(w:World):Calls aac 41 #[.agg #[.int .u64 C,a,b]] w fun e w'=>e=.returned (.bool (decide (C % 2=1)))/\aW (fun _ _=>False) w w':=by
 refine X.begin (rg:=[]) (N:=[]) (ss:=[.agg [.int .u64 (.nat C),.raw a,.raw b]]) Tryz.func41 rfl SZ rfl (by simp[SV.ap,SV.den,ha,hb,SI.den]) Sat.bp ?_;refine X.go JG 400 _ rfl Tryz.results41 ?_
 conv=>arg 2;cbv
 refine X.done JG rfl (fun N w' v hN hS hv=>⟨aw hv ?_,hS.aM.none⟩);refine i_ ?_;simp only[SB.T,SI.den,decide_eq_true_eq];rw[aaM (by omega)];omega
theorem uK (C:Nat)(po pn:Option Addr)(no nn co cn:Nat)(o n:Array Int)(w:World)(kE:no<=100000)(Bw:nn<=100000)(ho:nf po no o w)(hn:nf pn nn n w)(F7:∀x∈o.toList,0<=x/\x<256)(Ds:∀x∈n.toList,0<=x/\x<256) :
  Calls aac 20 #[.agg #[.int .u64 C,.slice po no co,.slice pn nn cn]] w fun e w'=>e=.returned (.bool (B (kG C o n)))/\aW (fun _ _=>False) w w':=by
 have Jc:=ho.1;have VG:=hn.1;obtain⟨Q,hQ⟩:∃Q:aaf->World->Prop,Q=fun e w'=>e=.returned (.bool (B (kG C o n)))/\aW (fun _ _=>False) w w':=⟨_,rfl⟩
 rw[<-hQ];refine X.begin (rg:=[]) (N:=[]) (ss:=[.agg [.int .u64 (.nat C),.ao po no co,.ao pn nn cn]]) Tryz.func20 rfl SF rfl rfl Sat.bp ?_;obtain⟨m1,dM⟩:∃b,b=B (js n nn):=⟨_,rfl⟩;obtain⟨m2,fM⟩:∃b,b=B (js o no):=⟨_,rfl⟩;obtain⟨bt,Vc⟩:∃b,b=decide (C % 2=1):=⟨_,rfl⟩;refine X.dk ([(5,.bool (.v m1))]) nB 400 _ rfl aaE (fun pr fin aj ai=>?_)
 conv=>cbv
 refine⟨aj _ (.of abk [.slice pn nn cn] (.bool m1) (fun _=>rfl) (fun _=>rfl) fun _ w1 ct=>by rw[dM];exact Lw pn nn cn n w1 Bw (hn.im ct)),ai _ _ ?_⟩;refine X.cond rfl (fun hT=>?_) (fun hF=>?_)
 ·simp only[SB.T,SB.F,SI.den] at hT
  have we:¬kG C o n:=fun⟨h1,h2,_⟩=>by
   rcases hT with h|h
   ·rw[dM,<-VG,bP h2] at h;cases h
   ·omega
  refine X.go nB 400 _ rfl aaE ?_
  conv=>arg 2;cbv
  refine X.done nB rfl (fun N w' v hN hS hv=>?_);rw[hQ];exact⟨aw hv (by rw[b_ we];rfl),hS.aM.none⟩
 ·simp only[SB.T,SB.F,SI.den] at hF
  have Gg:js n n.size:=by rw[VG];exact cT.1 (by rw[<-dM];exact hF.1)
  have X0:0<n.size:=by omega
  refine X.dk ([(14,.bool (.v bt))]) nB 400 _ rfl aaE (fun pr fin aj ai=>?_)
  conv=>cbv
  refine⟨aj _ (.of Tryz.call41 [.agg #[.int .u64 C,.slice po no co,.slice pn nn cn]] (.bool bt) (fun _=>rfl) (fun _=>rfl) fun _ w1 ct=>by rw[Vc];exact vB C _ _ rfl rfl w1),ai _ _ ?_⟩;refine X.cond rfl (fun hT=>?_) (fun hF=>?_)
  ·simp only[SB.T,SB.F] at hT
   have hc:¬C % 2=1:=by rw[Vc] at hT;exact of_decide_eq_false hT
   refine X.go nB 400 _ rfl aaE ?_
   conv=>arg 2;cbv
   refine X.done nB rfl (fun N w' v hN hS hv=>?_);rw[hQ];refine⟨aw hv (i_ ?_),hS.aM.none⟩;rw[cT];unfold kG;rw[if_neg hc];simp only[SB.T,SI.den];exact⟨fun h=>⟨X0,Gg,by omega⟩,fun h=>by omega⟩
  ·simp only[SB.T,SB.F] at hF
   have hc:C % 2=1:=by rw[Vc] at hF;exact of_decide_eq_true hF
   obtain⟨so,RH⟩:∃s,s=ny o.toList:=⟨_,rfl⟩;obtain⟨sn,t_⟩:∃s,s=ny n.toList:=⟨_,rfl⟩;have Zk:so<2 ^ 64:=by rw[RH];exact se _ 0 (by decide)
   have Zj:sn<2 ^ 64:=by rw[t_];exact se _ 0 (by decide)
   have aed:=J0 so sn Zk Zj;obtain⟨pk,hpk⟩:∃p,p=fL 64 (so ^^^ sn):=⟨_,rfl⟩;refine X.dk ([(22,.bool (.v m2)),(32,.int .u64 (.nat so)),(35,.int .u64 (.nat sn)),(37,.int .i64 (.nat pk))]) nB 400 _ rfl aaE (fun pr fin aj ai=>?_)
   conv=>cbv
   refine⟨aj _ (.of Tryz.call42 [.int .u64 ((so ^^^ sn:Nat):Int)] (.int .i64 pk) (fun _=>by simp only[SV.ap,SV.den,SI.den,aed]) (fun _=>rfl) fun _ w1 _=>by rw[hpk];exact GH _ w1 (aa5 Zk Zj)),
    aj _ (.of abl [.slice pn nn cn] (.int .u64 sn) (fun _=>rfl) (fun _=>rfl) fun _ w1 ct=>by rw[t_];exact E_ pn nn cn n w1 Bw (hn.im ct) Ds),
    aj _ (.of abl [.slice po no co] (.int .u64 so) (fun _=>rfl) (fun _=>rfl) fun _ w1 ct=>by rw[RH];exact E_ po no co o w1 kE (ho.im ct) F7),
    aj _ (.of abk [.slice po no co] (.bool m2) (fun _=>rfl) (fun _=>rfl) fun _ w1 ct=>by rw[fM];exact Lw po no co o w1 kE (ho.im ct)),ai _ _ ?_⟩
   refine X.done nB rfl (fun N w' v hN hS hv=>?_);rw[hQ];refine⟨aw hv (i_ ?_),hS.aM.none⟩;rw[cT];unfold kG;rw[if_pos hc];simp only[SB.T,SI.den];have MX:m2=true↔js o o.size:=by rw[fM,cT,Jc]
   constructor
   ·rintro⟨⟨h1,h2⟩,h3⟩
    have PS:=MX.1 h1;refine⟨X0,Gg,by omega,PS,?_⟩;rw[<-GO ((uV PS).imp fun h=>by omega) (o_ PS F7) ((uV Gg).imp fun h=>by omega) (o_ Gg Ds),<-RH,<-t_,<-hpk];omega
   ·rintro⟨_,_,h1,PS,h3⟩
    refine⟨⟨MX.2 PS,by omega⟩,?_⟩;rw[<-GO ((uV PS).imp fun h=>by omega) (o_ PS F7) ((uV Gg).imp fun h=>by omega) (o_ Gg Ds),<-RH,<-t_,<-hpk] at h3;omega
theorem yE (C:Nat)(po pn:Option Addr)(no nn co cn:Nat)(o n:Array Int)(w:World)(kE:no<=100000)(Bw:nn<=100000)(ho:nf po no o w)(hn:nf pn nn n w) :
  Calls aac 65 #[.agg #[.int .u64 C,.slice po no co,.slice pn nn cn]] w fun e w'=>e=.returned (.bool (B (kG C o n)))/\aW (fun _ _=>False) w w':=by
 have Jc:=ho.1;have VG:=hn.1;obtain⟨Q,hQ⟩:∃Q:aaf->World->Prop,Q=fun e w'=>e=.returned (.bool (B (kG C o n)))/\aW (fun _ _=>False) w w':=⟨_,rfl⟩
 rw[<-hQ];refine X.begin (rg:=[]) (N:=[]) (ss:=[.agg [.int .u64 (.nat C),.ao po no co,.ao pn nn cn]]) Tryz.func65 rfl Tc rfl rfl Sat.bp ?_;obtain⟨m1,dM⟩:∃b,b=B (js n nn):=⟨_,rfl⟩;obtain⟨m2,fM⟩:∃b,b=B (js o no):=⟨_,rfl⟩;refine X.dk ([(10,.bool (.v m1))]) nH 400 _ rfl aaF (fun pr fin aj ai=>?_)
 conv=>cbv
 refine⟨aj _ (.of abm [.slice pn nn cn] (.bool m1) (fun _=>rfl) (fun _=>rfl) fun _ w1 ct=>by rw[dM];exact Gz pn nn cn n w1 Bw (hn.im ct)),ai _ _ ?_⟩;refine X.cond rfl (fun hT=>?_) (fun hF=>?_)
 ·simp only[SB.T,SB.F,SI.den] at hT
  have we:¬kG C o n:=fun⟨h1,h2,_⟩=>by
   rcases hT with h|h
   ·omega
   ·rw[dM,<-VG,bP h2] at h;cases h
  refine X.go nH 400 _ rfl aaF ?_
  conv=>arg 2;cbv
  refine X.done nH rfl (fun N w' v hN hS hv=>?_);rw[hQ];exact⟨aw hv (by rw[b_ we];rfl),hS.aM.none⟩
 ·simp only[SB.T,SB.F,SI.den] at hF
  have Gg:js n n.size:=by rw[VG];exact cT.1 (by rw[<-dM];exact hF.2)
  have X0:0<n.size:=by omega
  refine X.go nH 400 _ rfl aaF ?_
  conv=>arg 2;cbv
  refine X.cond rfl (fun hT=>?_) (fun hF=>?_)
  ·simp only[SB.T,SB.F,SI.den] at hT
   have hc:¬C % 2=1:=by rw[aaM (by omega)] at hT;omega
   refine X.go nH 400 _ rfl aaF ?_
   conv=>arg 2;cbv
   refine X.done nH rfl (fun N w' v hN hS hv=>?_);rw[hQ];refine⟨aw hv (i_ ?_),hS.aM.none⟩;rw[cT];unfold kG;rw[if_neg hc];simp only[SB.T,SI.den];exact⟨fun h=>⟨X0,Gg,by omega⟩,fun h=>by omega⟩
  ·simp only[SB.T,SB.F,SI.den] at hF
   have hc:C % 2=1:=by rw[aaM (by omega)] at hF;omega
   obtain⟨k1,xF⟩:∃k,k=nt o.toList n.toList:=⟨_,rfl⟩;obtain⟨k2,o5⟩:∃k,k=nt n.toList o.toList:=⟨_,rfl⟩;have adi:k1<=100000:=by rw[xF];exact aay aaK (by simp;omega)
   have adj:k2<=100000:=by rw[o5];exact aay aaK (by simp;omega)
   refine X.dk ([(28,.bool (.v m2)),(35,.int .i64 (.nat k1)),(40,.int .i64 (.nat k2))]) nH 400 _ rfl aaF (fun pr fin aj ai=>?_)
   conv=>cbv
   refine⟨aj _ (.of abn [.slice pn nn cn,.slice po no co] (.int .i64 k2) (fun _=>rfl) (fun _=>rfl) fun _ w1 ct=>by rw[o5];exact y9 pn po nn cn no co n o w1 Bw kE (hn.im ct) (ho.im ct)),
    aj _ (.of abn [.slice po no co,.slice pn nn cn] (.int .i64 k1) (fun _=>rfl) (fun _=>rfl) fun _ w1 ct=>by rw[xF];exact y9 po pn no co nn cn o n w1 kE Bw (ho.im ct) (hn.im ct)),
    aj _ (.of abm [.slice po no co] (.bool m2) (fun _=>rfl) (fun _=>rfl) fun _ w1 ct=>by rw[fM];exact Gz po no co o w1 kE (ho.im ct)),ai _ _ ?_⟩
   refine X.done nH rfl (fun N w' v hN hS hv=>?_);rw[hQ];refine⟨aw hv (i_ ?_),hS.aM.none⟩;rw[cT];unfold kG;rw[if_pos hc,<-xF,<-o5];simp only[SB.T,SI.den,a_ ((k1:Int)+(k2:Int)) (by omega) (by omega)];have MX:m2=true↔js o o.size:=by rw[fM,cT,Jc]
   constructor
   ·rintro⟨⟨h1,h2⟩,h3⟩
    exact⟨X0,Gg,by omega,MX.1 h2,by omega⟩
   ·rintro⟨_,_,h1,PS,h3⟩
    exact⟨⟨by omega,MX.2 PS⟩,by omega⟩
end Go.Proofs.YthpbefahaghbjaaGreat
