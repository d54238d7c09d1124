import Derived.Test.YthaffebapmkppaaGreatRe7
import Derived.Laws.BytesArg
import Derived.Lib.Bytes
set_option maxHeartbeats 16000000
set_option maxRecDepth 100000
set_option cbv.maxSteps 100000000
namespace Go.Proofs.YthaffebapmkppaaGreat
open Go.Eng
theorem regSameR_ok (a b:RegP) (va vb:List Value) (w:World) (ha:RepL (wm w) a.toD va) (hb:RepL (wm w) b.toD vb) :
  Calls Tryz.prog 48 #[.agg va.toArray,.agg vb.toArray] w fun e w'=>e=.returned (.bool (B (a=b)))∧Chg (fun _ _=>False) w w':=by
 obtain ⟨p1,c1,p2,c2,p3,c3,p4,c4,rfl,sa1,sa2,sa3,sa4⟩:=RegP.open ha
 obtain ⟨r1,d1,r2,d2,r3,d3,r4,d4,rfl,sb1,sb2,sb3,sb4⟩:=RegP.open hb
 clear ha hb
 obtain ⟨k1,i1,s1,v1,o1,u1,l1,m1⟩:=a
 obtain ⟨k2,i2,s2,v2,o2,u2,l2,m2⟩:=b
 simp only at sa1 sa2 sa3 sa4 sb1 sb2 sb3 sb4 ⊢
 obtain ⟨q,hq⟩:∃ q:Bool,q=B ((⟨k1,i1,s1,v1,o1,u1,l1,m1⟩:RegP)=⟨k2,i2,s2,v2,o2,u2,l2,m2⟩):=⟨_,rfl⟩
 rw [←hq]
 obtain ⟨n1,hn1⟩:∃ n,n=v1.length:=⟨_,rfl⟩
 obtain ⟨n2,hn2⟩:∃ n,n=o1.length:=⟨_,rfl⟩
 obtain ⟨n3,hn3⟩:∃ n,n=u1.length:=⟨_,rfl⟩
 obtain ⟨n4,hn4⟩:∃ n,n=m1.length:=⟨_,rfl⟩
 obtain ⟨t1,ht1⟩:∃ n,n=v2.length:=⟨_,rfl⟩
 obtain ⟨t2,ht2⟩:∃ n,n=o2.length:=⟨_,rfl⟩
 obtain ⟨t3,ht3⟩:∃ n,n=u2.length:=⟨_,rfl⟩
 obtain ⟨t4,ht4⟩:∃ n,n=m2.length:=⟨_,rfl⟩
 have hm:=maxLen_le
 have hl2:n2≤maxLen:=by rw [hn2];exact sa2.len
 have hl3:n3≤maxLen:=by rw [hn3];exact sa3.len
 have hl4:n4≤maxLen:=by rw [hn4];exact sa4.len
 obtain ⟨h1,hh1⟩:∃ h,h=B (v1=v2):=⟨_,rfl⟩
 have hv0:∀ {M:Mem} {v:List Int} {p:Option Addr} {c:Nat},SlR M p c 1 (v.map i64D)→RepL M (RepP.toD ⟨0,0,0,v⟩) [.int .i64 0,.int .u64 0,.int .i64 0,.slice p v.length c]:=fun hs=>by
  refine ⟨_,_,rfl,rfl,?_⟩
  refine ⟨_,_,rfl,rfl,?_⟩
  refine ⟨_,_,rfl,rfl,?_⟩
  exact ⟨_,_,rfl,RepC.mk (List.length_map ..).symm sz_i64 hs,rfl⟩
 have e1:=fun (w1:World) hi1=>sameReply_ok ⟨0,0,0,v1⟩ ⟨0,0,0,v2⟩ _ _ w1 (hv0 (sa1.later (im:=elsewhere [] [] w) rfl hi1)) (hv0 (sb1.later rfl hi1))
 rw [B_dec,show B ((⟨0,0,0,v1⟩:RepP)=⟨0,0,0,v2⟩)=h1 by rw [hh1];exact B_congr (by simp),←hn1,←ht1] at e1
 rw [←hn1,←hn2,←hn3,←hn4,←ht1,←ht2,←ht3,←ht4]
 refine X.begin (rg:=[]) (N:=[]) (ss:=[.agg [.int .u8 (.v k1),.int .u64 (.v i1),.int .i64 (.v s1),.slv p1 n1 c1,.slv p2 n2 c2,.slv p3 n3 c3,.int .u64 (.v l1),.slv p4 n4 c4],.agg [.int .u8 (.v k2),.int .u64 (.v i2),.int .i64 (.v s2),.slv r1 t1 d1,.slv r2 t2 d2,.slv r3 t3 d3,.int .u64 (.v l2),.slv r4 t4 d4]]) Tryz.func48 rfl B48_ok rfl rfl Sat.std0 ?_
 obtain ⟨im,hime⟩:∃ im,im=elsewhere [] [] w:=⟨_,rfl⟩
 show X (mkE Tryz.prog Tryz.f48 _ w (InR [] []) (elsewhere [] [] w) (fun _ _=>False) (fun _=>True) [] B48) _ _
 rw [←hime] at e1 ⊢
 refine X.goP ([(68,.bool (.v h1))]) T48_ok 400 _ rfl Tryz.results48 (fun pr fin hpr hfin=>?_)
 conv=>cbv
 refine ⟨hpr _ (.of Tryz.call80 [.agg _,.agg _] (.bool h1) (fun _=>rfl) (fun _=>rfl) fun _ w1 hi1=>e1 w1 hi1),hfin _ _ ?_⟩
 refine X.cond rfl (fun hc=>?_) (fun hc=>?_)
 ·refine X.go T48_ok 400 _ rfl Tryz.results48 ?_
  conv=>arg 2;cbv
  refine X.done T48_ok rfl (fun N w' v hN hS hv=>⟨fin_bool hv ?_,hS.chg.mono fun k o _ h=>inR_nil h⟩)
  simp only [SB.T,SB.F,SI.den] at hc
  rw [hq]
  refine (B_neg fun h=>?_).symm
  cases h
  rw [B_pos rfl] at hh1
  subst hh1
  simp only [hn2,ht2,hn3,ht3,hn4,ht4] at hc
  simp at hc
 simp only [SB.T,SB.F,SI.den] at hc
 obtain ⟨⟨⟨⟨⟨⟨⟨rfl,rfl⟩,rfl⟩,rfl⟩,hcn2⟩,hcn3⟩,hcn4⟩,hcv⟩:=hc
 rw [hh1,B_iff] at hcv
 subst hcv
 obtain rfl:n2=t2:=by omega
 obtain rfl:n3=t3:=by omega
 obtain rfl:n4=t4:=by omega
 refine X.go T48_ok 400 _ rfl Tryz.results48 ?_
 conv=>arg 2;cbv
 refine X.loop1 (fun i:{i:Nat // i≤n2∧o1.take i=o2.take i}=>⟨[(2,.val (.own 0 0)),(3,.val (.own 1 0)),(73,.val (.int .i64 (.nat n2))),(74,.val (.int .i64 (.nat i.1)))],[⟨true,[.int .u8 (.v k1),.int .u64 (.v i1),.int .i64 (.v s1),.slv p1 n1 c1,.slv p2 n2 c2,.slv p3 n3 c3,.int .u64 (.v l1),.slv p4 n4 c4],none⟩,⟨true,[.int .u8 (.v k1),.int .u64 (.v i1),.int .i64 (.v s1),.slv r1 t1 d1,.slv r2 n2 d2,.slv r3 n3 d3,.int .u64 (.v l1),.slv r4 n4 d4],none⟩]⟩) (fun i=>n2-i.1) (fun N a w' hN hf hS=>⟨⟨0,Nat.zero_le _,rfl⟩,?_⟩) (fun i q' hq'=>?_)
 ·exact At.again hf hS (by repeat first | exact trivial | refine ⟨⟨_,rfl,.inl ⟨rfl,rfl⟩⟩,?_⟩ | refine ⟨⟨_,rfl,.inr ⟨_,rfl,rfl⟩⟩,?_⟩ | refine ⟨⟨_,rfl,.inr ⟨_,rfl,by simp (disch:=omega) [SV.den,SI.den,wrapU,wrapD]<;>omega⟩⟩,?_⟩) (by repeat first | exact trivial | refine ⟨fun h=>h,SubC.refl rfl,rfl,?_⟩)
 obtain ⟨i,hi,htk⟩:=i
 refine X.go T48_ok 400 _ rfl Tryz.results48 ?_
 conv=>arg 2;cbv
 refine X.cond rfl (fun hlt=>?_) (fun hge=>?_)
 ·simp only [SB.T,SI.den] at hlt
  have hlt:i<n2:=by omega
  obtain ⟨x1,hx1⟩:∃ x,o1[i]?=some x:=⟨_,List.getElem?_eq_getElem (by omega)⟩
  obtain ⟨x2,hx2⟩:∃ x,o2[i]?=some x:=⟨_,List.getElem?_eq_getElem (by omega)⟩
  obtain ⟨b1,y1,w1,hp1,hr1,hm1⟩:=sa2.his hx1
  obtain ⟨b2,y2,w2,hp2,hr2,hm2⟩:=sb2.his hx2
  rw [←hime] at hm1 hm2
  obtain ⟨h,hh⟩:∃ h,h=B (x1.reply=x2.reply):=⟨_,rfl⟩
  obtain ⟨_,_,rfl,ha0,ga1⟩:=RepL.cons hr1
  obtain ⟨_,_,rfl,ha1,sa⟩:=RepL.cons ga1
  obtain ⟨_,_,rfl,hb0,gb1⟩:=RepL.cons hr2
  obtain ⟨_,_,rfl,hb1,sb⟩:=RepL.cons gb1
  cases RepC.int' ha0;cases RepC.int' ha1;cases RepC.int' hb0;cases RepC.int' hb1
  clear hr1 hr2 ga1 gb1 ha0 ha1 hb0 hb1
  have hc:=fun (w1:World) hi1=>sameReply_ok x1.reply x2.reply _ _ w1 (sa.later hime hi1) (sb.later hime hi1)
  rw [B_dec,←hh] at hc
  obtain ⟨pa,ca,rfl,_⟩:=RepP.open sa
  obtain ⟨pb,cb,rfl,_⟩:=RepP.open sb
  clear sa sb
  obtain ⟨na,hna⟩:∃ n,n=x1.reply.vars.length:=⟨_,rfl⟩
  obtain ⟨nb,hnb⟩:∃ n,n=x2.reply.vars.length:=⟨_,rfl⟩
  rw [←hna] at hm1 hc
  rw [←hnb] at hm2 hc
  refine X.see b1 (y1+i*6) [.int .u8 (.v x1.client),.int .u64 (.v x1.seq),.int .i64 (.v x1.reply.err),.int .u64 (.v x1.reply.inc),.int .i64 (.v x1.reply.state),.slv pa na ca] (see_of hm1 rfl) (by simp) (fun N1 hN1 hNl1=>?_)
  refine X.see b2 (y2+i*6) [.int .u8 (.v x2.client),.int .u64 (.v x2.seq),.int .i64 (.v x2.reply.err),.int .u64 (.v x2.reply.inc),.int .i64 (.v x2.reply.state),.slv pb nb cb] (see_of hm2 rfl) (by simp) (fun N2 hN2 hNl2=>?_)
  have hg1:(N2++[(⟨b2,y2+i*6,0⟩:Num)])[3]?=some ⟨b2,y2+i*6,0⟩:=num_last hNl2
  have hg0:(N2++[(⟨b2,y2+i*6,0⟩:Num)])[2]?=some ⟨b1,y1+i*6,0⟩:=num_old (hN2 2 _ (num_last hNl1))
  refine X.goP ([(80,.own 2 0),(86,.own 3 0),(94,.own 2 0),(100,.own 3 0),(109,.own 2 0),(115,.own 3 0),(118,.bool (.v h))]) T48_ok 400 _ rfl Tryz.results48 (fun pr fin hpr hfin=>?_)
  conv=>cbv
  have vo1:∀ {E:Env} {N0:Nums} {rg:List Rg} {f:Fr} {g:GK} {x ix:Operand} {kd:IntKind} {s:SI},evK f g x=some (.slv p2 n2 c2)→evK f g ix=some (.int kd s)→E.P=Tryz.prog→N0=(N2++[(⟨b2,y2+i*6,0⟩:Num)])→s=.nat i→ValOk E N0 rg f g (.indexAddr 30 x ix) (.own 2 0):=fun k1 k2 k3 k4 k5=>by subst k4 k5;exact ValOk.row k1 k2 (fun _=>rfl) (by rw [k3];exact Tryz.underlying30) (by rw [k3];exact Tryz.sizeOf94) hlt hp1 hg0 rfl rfl
  have vo2:∀ {E:Env} {N0:Nums} {rg:List Rg} {f:Fr} {g:GK} {x ix:Operand} {kd:IntKind} {s:SI},evK f g x=some (.slv r2 n2 d2)→evK f g ix=some (.int kd s)→E.P=Tryz.prog→N0=(N2++[(⟨b2,y2+i*6,0⟩:Num)])→s=.nat i→ValOk E N0 rg f g (.indexAddr 30 x ix) (.own 3 0):=fun k1 k2 k3 k4 k5=>by subst k4 k5;exact ValOk.row k1 k2 (fun _=>rfl) (by rw [k3];exact Tryz.underlying30) (by rw [k3];exact Tryz.sizeOf94) hlt hp2 hg1 rfl rfl
  refine ⟨hpr _ (.of Tryz.call80 [.agg _,.agg _] (.bool h) (fun _=>rfl) (fun _=>rfl) fun _ w1 hi1=>hc w1 hi1),hpr _ (vo2 rfl rfl rfl rfl rfl),hpr _ (vo1 rfl rfl rfl rfl rfl),hpr _ (vo2 rfl rfl rfl rfl rfl),hpr _ (vo1 rfl rfl rfl rfl rfl),hpr _ (vo2 rfl rfl rfl rfl rfl),hpr _ (vo1 rfl rfl rfl rfl rfl),hfin _ _ ?_⟩
  refine X.cond rfl (fun hne=>?_) (fun heq=>?_)
  ·simp only [SB.T,SB.F,SI.den] at hne
   refine X.go T48_ok 400 _ rfl Tryz.results48 ?_
   conv=>arg 2;cbv
   refine X.done T48_ok rfl (fun N w' v hN hS hv=>⟨fin_bool hv ?_,hS.chg.mono fun k o _ h=>inR_nil h⟩)
   rw [hq]
   refine (B_neg fun e=>?_).symm
   cases e
   rw [hx1] at hx2
   have:=Option.some.inj hx2
   subst this
   rw [B_pos rfl] at hh
   simp_all
  ·simp only [SB.T,SB.F,SI.den] at heq
   obtain ⟨⟨e1,e2⟩,e3⟩:=heq
   rw [hh,B_iff] at e3
   have hxx:x1=x2:=by
    cases x1;cases x2
    simp_all
   subst hxx
   refine X.go T48_ok 400 _ rfl Tryz.results48 ?_
   conv=>arg 2;cbv
   refine X.back (fun N a w' hN hf hS=>hq' ⟨i+1,by omega,take_next htk hx1 hx2⟩ a w' (by simp only;omega) ?_)
   exact At.again hf hS (by repeat first | exact trivial | refine ⟨⟨_,rfl,.inl ⟨rfl,rfl⟩⟩,?_⟩ | refine ⟨⟨_,rfl,.inr ⟨_,rfl,rfl⟩⟩,?_⟩ | refine ⟨⟨_,rfl,.inr ⟨_,rfl,by simp (disch:=omega) [SV.den,SI.den,wrapU,wrapD]<;>omega⟩⟩,?_⟩) (by repeat first | exact trivial | refine ⟨fun h=>h,SubC.refl rfl,rfl,?_⟩)
 simp only [SB.F,SI.den] at hge
 obtain rfl:n2=i:=by omega
 have halln2:=take_all htk hn2 ht2
 clear htk hi hge hq'
 refine X.go T48_ok 400 _ rfl Tryz.results48 ?_
 conv=>arg 2;cbv
 refine X.loop1 (fun i:{i:Nat // i≤n3∧u1.take i=u2.take i}=>⟨[(2,.val (.own 0 0)),(3,.val (.own 1 0)),(124,.val (.int .i64 (.nat n3))),(125,.val (.int .i64 (.nat i.1)))],[⟨true,[.int .u8 (.v k1),.int .u64 (.v i1),.int .i64 (.v s1),.slv p1 n1 c1,.slv p2 n2 c2,.slv p3 n3 c3,.int .u64 (.v l1),.slv p4 n4 c4],none⟩,⟨true,[.int .u8 (.v k1),.int .u64 (.v i1),.int .i64 (.v s1),.slv r1 t1 d1,.slv r2 n2 d2,.slv r3 n3 d3,.int .u64 (.v l1),.slv r4 n4 d4],none⟩]⟩) (fun i=>n3-i.1) (fun N a w' hN hf hS=>⟨⟨0,Nat.zero_le _,rfl⟩,?_⟩) (fun i q' hq'=>?_)
 ·exact At.again hf hS (by repeat first | exact trivial | refine ⟨⟨_,rfl,.inl ⟨rfl,rfl⟩⟩,?_⟩ | refine ⟨⟨_,rfl,.inr ⟨_,rfl,rfl⟩⟩,?_⟩ | refine ⟨⟨_,rfl,.inr ⟨_,rfl,by simp (disch:=omega) [SV.den,SI.den,wrapU,wrapD]<;>omega⟩⟩,?_⟩) (by repeat first | exact trivial | refine ⟨fun h=>h,SubC.refl rfl,rfl,?_⟩)
 obtain ⟨i,hi,htk⟩:=i
 refine X.go T48_ok 400 _ rfl Tryz.results48 ?_
 conv=>arg 2;cbv
 refine X.cond rfl (fun hlt=>?_) (fun hge=>?_)
 ·simp only [SB.T,SI.den] at hlt
  have hlt:i<n3:=by omega
  obtain ⟨x1,hx1⟩:∃ x,u1[i]?=some x:=⟨_,List.getElem?_eq_getElem (by omega)⟩
  obtain ⟨x2,hx2⟩:∃ x,u2[i]?=some x:=⟨_,List.getElem?_eq_getElem (by omega)⟩
  obtain ⟨b1,y1,w1,hp1,hr1,hm1⟩:=sa3.his hx1
  obtain ⟨b2,y2,w2,hp2,hr2,hm2⟩:=sb3.his hx2
  rw [←hime] at hm1 hm2
  rw [CellP.open hr1] at hm1
  rw [CellP.open hr2] at hm2
  obtain ⟨xa1,xb1,xc1,xd1⟩:=x1
  obtain ⟨xa2,xb2,xc2,xd2⟩:=x2
  refine X.see b1 (y1+i*4) [.int .u64 (.v xa1),.int .u8 (.v xb1),.int .i64 (.v xc1),.int .i64 (.v xd1)] (see_of hm1 rfl) (by simp) (fun N1 hN1 hNl1=>?_)
  refine X.see b2 (y2+i*4) [.int .u64 (.v xa2),.int .u8 (.v xb2),.int .i64 (.v xc2),.int .i64 (.v xd2)] (see_of hm2 rfl) (by simp) (fun N2 hN2 hNl2=>?_)
  have hg1:(N2++[(⟨b2,y2+i*4,0⟩:Num)])[3]?=some ⟨b2,y2+i*4,0⟩:=num_last hNl2
  have hg0:(N2++[(⟨b2,y2+i*4,0⟩:Num)])[2]?=some ⟨b1,y1+i*4,0⟩:=num_old (hN2 2 _ (num_last hNl1))
  refine X.goP ([(131,.own 2 0),(136,.own 3 0)]) T48_ok 400 _ rfl Tryz.results48 (fun pr fin hpr hfin=>?_)
  conv=>cbv
  refine ⟨hpr _ (ValOk.row rfl rfl (fun _=>rfl) Tryz.underlying31 Tryz.sizeOf148 hlt hp2 hg1 rfl rfl),hpr _ (ValOk.row rfl rfl (fun _=>rfl) Tryz.underlying31 Tryz.sizeOf148 hlt hp1 hg0 rfl rfl),hfin _ _ ?_⟩
  refine X.cond rfl (fun hne=>?_) (fun heq=>?_)
  ·simp only [SB.T,SB.F,SI.den] at hne
   refine X.go T48_ok 400 _ rfl Tryz.results48 ?_
   conv=>arg 2;cbv
   refine X.done T48_ok rfl (fun N w' v hN hS hv=>⟨fin_bool hv ?_,hS.chg.mono fun k o _ h=>inR_nil h⟩)
   rw [hq]
   refine (B_neg fun h=>?_).symm
   cases h
   rw [hx1] at hx2
   have:=Option.some.inj hx2
   simp_all
  ·simp only [SB.T,SB.F,SI.den] at heq
   obtain ⟨rfl,rfl,rfl,rfl⟩:=heq
   refine X.go T48_ok 400 _ rfl Tryz.results48 ?_
   conv=>arg 2;cbv
   refine X.back (fun N a w' hN hf hS=>hq' ⟨i+1,by omega,take_next htk hx1 hx2⟩ a w' (by simp only;omega) ?_)
   exact At.again hf hS (by repeat first | exact trivial | refine ⟨⟨_,rfl,.inl ⟨rfl,rfl⟩⟩,?_⟩ | refine ⟨⟨_,rfl,.inr ⟨_,rfl,rfl⟩⟩,?_⟩ | refine ⟨⟨_,rfl,.inr ⟨_,rfl,by simp (disch:=omega) [SV.den,SI.den,wrapU,wrapD]<;>omega⟩⟩,?_⟩) (by repeat first | exact trivial | refine ⟨fun h=>h,SubC.refl rfl,rfl,?_⟩)
 simp only [SB.F,SI.den] at hge
 obtain rfl:n3=i:=by omega
 have halln3:=take_all htk hn3 ht3
 clear htk hi hge hq'
 refine X.go T48_ok 400 _ rfl Tryz.results48 ?_
 conv=>arg 2;cbv
 refine X.loop1 (fun i:{i:Nat // i≤n4∧m1.take i=m2.take i}=>⟨[(2,.val (.own 0 0)),(3,.val (.own 1 0)),(142,.val (.int .i64 (.nat n4))),(143,.val (.int .i64 (.nat i.1)))],[⟨true,[.int .u8 (.v k1),.int .u64 (.v i1),.int .i64 (.v s1),.slv p1 n1 c1,.slv p2 n2 c2,.slv p3 n3 c3,.int .u64 (.v l1),.slv p4 n4 c4],none⟩,⟨true,[.int .u8 (.v k1),.int .u64 (.v i1),.int .i64 (.v s1),.slv r1 t1 d1,.slv r2 n2 d2,.slv r3 n3 d3,.int .u64 (.v l1),.slv r4 n4 d4],none⟩]⟩) (fun i=>n4-i.1) (fun N a w' hN hf hS=>⟨⟨0,Nat.zero_le _,rfl⟩,?_⟩) (fun i q' hq'=>?_)
 ·exact At.again hf hS (by repeat first | exact trivial | refine ⟨⟨_,rfl,.inl ⟨rfl,rfl⟩⟩,?_⟩ | refine ⟨⟨_,rfl,.inr ⟨_,rfl,rfl⟩⟩,?_⟩ | refine ⟨⟨_,rfl,.inr ⟨_,rfl,by simp (disch:=omega) [SV.den,SI.den,wrapU,wrapD]<;>omega⟩⟩,?_⟩) (by repeat first | exact trivial | refine ⟨fun h=>h,SubC.refl rfl,rfl,?_⟩)
 obtain ⟨i,hi,htk⟩:=i
 refine X.go T48_ok 400 _ rfl Tryz.results48 ?_
 conv=>arg 2;cbv
 refine X.cond rfl (fun hlt=>?_) (fun hge=>?_)
 ·simp only [SB.T,SI.den] at hlt
  have hlt:i<n4:=by omega
  obtain ⟨x1,hx1⟩:∃ x,m1[i]?=some x:=⟨_,List.getElem?_eq_getElem (by omega)⟩
  obtain ⟨x2,hx2⟩:∃ x,m2[i]?=some x:=⟨_,List.getElem?_eq_getElem (by omega)⟩
  obtain ⟨b1,y1,w1,hp1,hr1,hm1⟩:=sa4.his hx1
  obtain ⟨b2,y2,w2,hp2,hr2,hm2⟩:=sb4.his hx2
  rw [←hime] at hm1 hm2
  rw [MarkP.open hr1] at hm1
  rw [MarkP.open hr2] at hm2
  obtain ⟨xa1,xb1,xc1⟩:=x1
  obtain ⟨xa2,xb2,xc2⟩:=x2
  refine X.see b1 (y1+i*3) [.int .u8 (.v xa1),.int .u64 (.v xb1),.int .u64 (.v xc1)] (see_of hm1 rfl) (by simp) (fun N1 hN1 hNl1=>?_)
  refine X.see b2 (y2+i*3) [.int .u8 (.v xa2),.int .u64 (.v xb2),.int .u64 (.v xc2)] (see_of hm2 rfl) (by simp) (fun N2 hN2 hNl2=>?_)
  have hg1:(N2++[(⟨b2,y2+i*3,0⟩:Num)])[3]?=some ⟨b2,y2+i*3,0⟩:=num_last hNl2
  have hg0:(N2++[(⟨b2,y2+i*3,0⟩:Num)])[2]?=some ⟨b1,y1+i*3,0⟩:=num_old (hN2 2 _ (num_last hNl1))
  refine X.goP ([(149,.own 2 0),(154,.own 3 0)]) T48_ok 400 _ rfl Tryz.results48 (fun pr fin hpr hfin=>?_)
  conv=>cbv
  refine ⟨hpr _ (ValOk.row rfl rfl (fun _=>rfl) Tryz.underlying32 Tryz.sizeOf151 hlt hp2 hg1 rfl rfl),hpr _ (ValOk.row rfl rfl (fun _=>rfl) Tryz.underlying32 Tryz.sizeOf151 hlt hp1 hg0 rfl rfl),hfin _ _ ?_⟩
  refine X.cond rfl (fun hne=>?_) (fun heq=>?_)
  ·simp only [SB.T,SB.F,SI.den] at hne
   refine X.go T48_ok 400 _ rfl Tryz.results48 ?_
   conv=>arg 2;cbv
   refine X.done T48_ok rfl (fun N w' v hN hS hv=>⟨fin_bool hv ?_,hS.chg.mono fun k o _ h=>inR_nil h⟩)
   rw [hq]
   refine (B_neg fun h=>?_).symm
   cases h
   rw [hx1] at hx2
   have:=Option.some.inj hx2
   simp_all
  ·simp only [SB.T,SB.F,SI.den] at heq
   obtain ⟨rfl,rfl,rfl⟩:=heq
   refine X.go T48_ok 400 _ rfl Tryz.results48 ?_
   conv=>arg 2;cbv
   refine X.back (fun N a w' hN hf hS=>hq' ⟨i+1,by omega,take_next htk hx1 hx2⟩ a w' (by simp only;omega) ?_)
   exact At.again hf hS (by repeat first | exact trivial | refine ⟨⟨_,rfl,.inl ⟨rfl,rfl⟩⟩,?_⟩ | refine ⟨⟨_,rfl,.inr ⟨_,rfl,rfl⟩⟩,?_⟩ | refine ⟨⟨_,rfl,.inr ⟨_,rfl,by simp (disch:=omega) [SV.den,SI.den,wrapU,wrapD]<;>omega⟩⟩,?_⟩) (by repeat first | exact trivial | refine ⟨fun h=>h,SubC.refl rfl,rfl,?_⟩)
 simp only [SB.F,SI.den] at hge
 obtain rfl:n4=i:=by omega
 have halln4:=take_all htk hn4 ht4
 clear htk hi hge hq'
 refine X.go T48_ok 400 _ rfl Tryz.results48 ?_
 conv=>arg 2;cbv
 refine X.done T48_ok rfl (fun N w' v hN hS hv=>⟨fin_bool hv ?_,hS.chg.mono fun k o _ h=>inR_nil h⟩)
 rw [hq]
 subst halln2 halln3 halln4
 exact (B_pos rfl).symm
end Go.Proofs.YthaffebapmkppaaGreat
namespace Go.Proofs.YthaffebapmkppaaGreat
open Go Go.Eng Go.Lib
end Go.Proofs.YthaffebapmkppaaGreat
namespace Go.Proofs.YthaffebapmkppaaGreat
open Go Go.Eng
def DoneP.ok (d:DoneP):Prop:=1≤d.client∧d.client≤8∧d.seq≠0∧d.reply.may=true
def CellP.ok (last:Int) (c:CellP):Prop:=1≤c.n∧c.n≤last∧c.target≤15∧0≤c.action∧c.action≤31
def MarkP.ok (m:MarkP):Prop:=m.source≤15∧m.inc≠0∧m.cell≠0
def RiseR {α:Type} (ok:α→Prop) (key:α→Int) (l:List α):Prop:=∀ (i:Nat) (x:α),l[i]?=some x→ok x∧(0<i→∀ y,l[i-1]?=some y→key y<key x)
def RegP.lists (r:RegP):Prop:=(r.vars.length≤8∧r.done.length≤8∧r.out.length≤8∧r.marks.length≤16)∧RiseR DoneP.ok DoneP.client r.done∧RiseR (CellP.ok r.last) CellP.n r.out∧RiseR MarkP.ok MarkP.source r.marks
theorem lists_ok (a:RegP) (va:List Value) (w:World) (ha:RepL (wm w) a.toD va) :
  Calls Tryz.prog 105 #[.agg va.toArray] w fun e w'=>e=.returned (.bool (B a.lists))∧Chg (fun _ _=>False) w w':=by
 obtain ⟨p1,c1,p2,c2,p3,c3,p4,c4,rfl,sa1,sa2,sa3,sa4⟩:=RegP.open ha
 clear ha
 obtain ⟨k1,i1,s1,v1,o1,u1,l1,m1⟩:=a
 simp only at sa1 sa2 sa3 sa4 ⊢
 obtain ⟨q,hq⟩:∃ q:Bool,q=B (RegP.lists ⟨k1,i1,s1,v1,o1,u1,l1,m1⟩):=⟨_,rfl⟩
 rw [←hq]
 obtain ⟨n1,hn1⟩:∃ n,n=v1.length:=⟨_,rfl⟩
 obtain ⟨n2,hn2⟩:∃ n,n=o1.length:=⟨_,rfl⟩
 obtain ⟨n3,hn3⟩:∃ n,n=u1.length:=⟨_,rfl⟩
 obtain ⟨n4,hn4⟩:∃ n,n=m1.length:=⟨_,rfl⟩
 have hm:=maxLen_le
 have hl2:n2≤maxLen:=by rw [hn2];exact sa2.len
 have hl3:n3≤maxLen:=by rw [hn3];exact sa3.len
 have hl4:n4≤maxLen:=by rw [hn4];exact sa4.len
 rw [←hn1,←hn2,←hn3,←hn4]
 refine X.begin (rg:=[]) (N:=[]) (ss:=[.agg [.int .u8 (.v k1),.int .u64 (.v i1),.int .i64 (.v s1),.slv p1 n1 c1,.slv p2 n2 c2,.slv p3 n3 c3,.int .u64 (.v l1),.slv p4 n4 c4]]) Tryz.func105 rfl B105_ok rfl rfl Sat.std0 ?_
 obtain ⟨im,hime⟩:∃ im,im=elsewhere [] [] w:=⟨_,rfl⟩
 show X (mkE Tryz.prog Tryz.f105 _ w (InR [] []) (elsewhere [] [] w) (fun _ _=>False) (fun _=>True) [] B105) _ _
 rw [←hime]
 refine X.go T105_ok 400 _ rfl Tryz.results105 ?_
 conv=>arg 2;cbv
 refine X.cond rfl (fun hc=>?_) (fun hc=>?_)
 ·refine X.go T105_ok 400 _ rfl Tryz.results105 ?_
  conv=>arg 2;cbv
  refine X.done T105_ok rfl (fun N w' v hN hS hv=>⟨fin_bool hv ?_,hS.chg.mono fun k o _ h=>inR_nil h⟩)
  simp only [SB.T,SB.F,SI.den] at hc
  rw [hq]
  refine (B_neg fun h=>?_).symm
  have:=h.1
  simp only at this
  omega
 simp only [SB.T,SB.F,SI.den] at hc
 refine X.go T105_ok 400 _ rfl Tryz.results105 ?_
 conv=>arg 2;cbv
 refine X.loop1 (fun i:{i:Nat // i≤n2∧∀ (j:Nat) (x:_),j<i→o1[j]?=some x→DoneP.ok x∧(0<j→∀ y,o1[j-1]?=some y→DoneP.client y<DoneP.client x)}=>⟨[(1,.val (.own 0 0)),(33,.val (.int .i64 (.nat n2))),(34,.val (.int .i64 (.nat i.1)))],[⟨true,[.int .u8 (.v k1),.int .u64 (.v i1),.int .i64 (.v s1),.slv p1 n1 c1,.slv p2 n2 c2,.slv p3 n3 c3,.int .u64 (.v l1),.slv p4 n4 c4],none⟩]⟩) (fun i=>n2-i.1) (fun N a w' hN hf hS=>⟨⟨0,Nat.zero_le _,fun j x hj=>by omega⟩,?_⟩) (fun i q' hq'=>?_)
 ·exact At.again hf hS (by repeat first | exact trivial | refine ⟨⟨_,rfl,.inl ⟨rfl,rfl⟩⟩,?_⟩ | refine ⟨⟨_,rfl,.inr ⟨_,rfl,rfl⟩⟩,?_⟩ | refine ⟨⟨_,rfl,.inr ⟨_,rfl,by simp (disch:=omega) [SV.den,SI.den,wrapU,wrapD]<;>omega⟩⟩,?_⟩) (by repeat first | exact trivial | refine ⟨fun h=>h,SubC.refl rfl,rfl,?_⟩)
 obtain ⟨i,hi,hno⟩:=i
 refine X.go T105_ok 400 _ rfl Tryz.results105 ?_
 conv=>arg 2;cbv
 refine X.cond rfl (fun hlt=>?_) (fun hge=>?_)
 ·simp only [SB.T,SI.den] at hlt
  have hlt:i<n2:=by omega
  obtain ⟨k,hk⟩:∃ k,k=i-1:=⟨_,rfl⟩
  obtain ⟨x1,hx1⟩:∃ x,o1[i]?=some x:=⟨_,List.getElem?_eq_getElem (by omega)⟩
  obtain ⟨x2,hx2⟩:∃ x,o1[k]?=some x:=⟨_,List.getElem?_eq_getElem (by omega)⟩
  obtain ⟨b1,y1,w1,hp1,hr1,hm1⟩:=sa2.his hx1
  obtain ⟨b2,y2,w2,hp2,hr2,hm2⟩:=sa2.his hx2
  rw [←hime] at hm1 hm2
  obtain ⟨xa,xb,xr⟩:=x1
  obtain ⟨ya,yb,yr⟩:=x2
  obtain ⟨h,hh⟩:∃ h,h=xr.may:=⟨_,rfl⟩
  obtain ⟨pa,ca,rfl⟩:=DoneP.cells hr1
  obtain ⟨pb,cb,rfl⟩:=DoneP.cells hr2
  have hc:=fun (w1:World)=>reply06_ok xr pa ca w1
  rw [←hh] at hc
  obtain ⟨na,hna⟩:∃ n,n=xr.vars.length:=⟨_,rfl⟩
  rw [←hna] at hm1 hc
  refine X.see b1 (y1+i*6) [.int .u8 (.v xa),.int .u64 (.v xb),.int .i64 (.v xr.err),.int .u64 (.v xr.inc),.int .i64 (.v xr.state),.slv pa na ca] (see_of hm1 rfl) (by simp) (fun N1 hN1 hNl1=>?_)
  refine X.see b2 (y2+k*6) [.int .u8 (.v ya)] (one_see (hm2 0 _ rfl)) (by simp) (fun N2 hN2 hNl2=>?_)
  have hg2:(N2++[(⟨b2,y2+k*6,0⟩:Num)])[2]?=some ⟨b2,y2+k*6,0⟩:=num_last hNl2
  have hg1:(N2++[(⟨b2,y2+k*6,0⟩:Num)])[1]?=some ⟨b1,y1+i*6,0⟩:=num_old (hN2 1 _ (num_last hNl1))
  refine X.goP ([(40,.own 1 0),(58,.bool (.v h)),(69,.own 2 0)]) T105_ok 400 _ rfl Tryz.results105 (fun pr fin hpr hfin=>?_)
  conv=>cbv
  refine ⟨hpr _ (ValOk.row rfl rfl (fun h=>?_) Tryz.underlying30 Tryz.sizeOf94 (z:=k) (by omega) hp2 hg2 rfl rfl),hpr _ (.of Tryz.call138 [.agg _] (.bool h) (fun _=>rfl) (fun _=>rfl) fun _ w1 hi1=>hc w1),hpr _ (ValOk.row rfl rfl (fun _=>rfl) Tryz.underlying30 Tryz.sizeOf94 hlt hp1 hg1 rfl rfl),hfin _ _ ?_⟩
  ·have h:(SB.gt (SI.nat i) (SI.lit 0)).den=true:=h
   simp [SB.den,SI.den] at h
   simp [SI.den,IntKind.wrap,IntKind.bits,IntKind.signed]
   omega
  refine X.cond rfl (fun hbad=>?_) (fun hok=>?_)
  ·simp only [SB.T,SB.F,SI.den] at hbad
   refine X.go T105_ok 400 _ rfl Tryz.results105 ?_
   conv=>arg 2;cbv
   refine X.done T105_ok rfl (fun N w' v hN hS hv=>⟨fin_bool hv ?_,hS.chg.mono fun k o _ h=>inR_nil h⟩)
   rw [hq]
   refine (B_neg fun h=>?_).symm
   obtain ⟨g1,g2⟩:=h.2.1 i _ hx1
   have g3:=fun h0=>g2 h0 _ (by rw [←hk];exact hx2)
   simp only [DoneP.ok] at g1
   dsimp only at g3
   rw [←hh] at g1
   simp only [g1.2.2.2] at hbad
   simp at hbad
   omega
  ·simp only [SB.T,SB.F,SI.den] at hok
   refine X.go T105_ok 400 _ rfl Tryz.results105 ?_
   conv=>arg 2;cbv
   refine X.back (fun N a w' hN hf hS=>hq' ⟨i+1,by omega,fun j x' hj hj'=>?_⟩ a w' (by simp only;omega) ?_)
   ·by_cases e:j=i
    ·subst e
     rw [hx1] at hj'
     obtain rfl:=Option.some.inj hj'
     refine ⟨?_,fun h0 y' hy'=>?_⟩
     ·simp only [DoneP.ok]
      rw [←hh]
      exact ⟨by omega,by omega,by omega,by simp_all⟩
     ·rw [←hk,hx2] at hy'
      obtain rfl:=Option.some.inj hy'
      dsimp only
      omega
    ·exact hno j x' (by omega) hj'
   exact At.again hf hS (by repeat first | exact trivial | refine ⟨⟨_,rfl,.inl ⟨rfl,rfl⟩⟩,?_⟩ | refine ⟨⟨_,rfl,.inr ⟨_,rfl,rfl⟩⟩,?_⟩ | refine ⟨⟨_,rfl,.inr ⟨_,rfl,by simp (disch:=omega) [SV.den,SI.den,wrapU,wrapD]<;>omega⟩⟩,?_⟩) (by repeat first | exact trivial | refine ⟨fun h=>h,SubC.refl rfl,rfl,?_⟩)
 simp only [SB.F,SI.den] at hge
 obtain rfl:n2=i:=by omega
 have halln2:∀ (j:Nat) (x:_),o1[j]?=some x→DoneP.ok x∧(0<j→∀ y,o1[j-1]?=some y→DoneP.client y<DoneP.client x):=fun j x hj=>hno j x (by have:=(List.getElem?_eq_some_iff.1 hj).1;omega) hj
 clear hno hi hge hq'
 refine X.go T105_ok 400 _ rfl Tryz.results105 ?_
 conv=>arg 2;cbv
 refine X.loop1 (fun i:{i:Nat // i≤n3∧∀ (j:Nat) (x:_),j<i→u1[j]?=some x→CellP.ok l1 x∧(0<j→∀ y,u1[j-1]?=some y→CellP.n y<CellP.n x)}=>⟨[(1,.val (.own 0 0)),(80,.val (.int .i64 (.nat n3))),(81,.val (.int .i64 (.nat i.1)))],[⟨true,[.int .u8 (.v k1),.int .u64 (.v i1),.int .i64 (.v s1),.slv p1 n1 c1,.slv p2 n2 c2,.slv p3 n3 c3,.int .u64 (.v l1),.slv p4 n4 c4],none⟩]⟩) (fun i=>n3-i.1) (fun N a w' hN hf hS=>⟨⟨0,Nat.zero_le _,fun j x hj=>by omega⟩,?_⟩) (fun i q' hq'=>?_)
 ·exact At.again hf hS (by repeat first | exact trivial | refine ⟨⟨_,rfl,.inl ⟨rfl,rfl⟩⟩,?_⟩ | refine ⟨⟨_,rfl,.inr ⟨_,rfl,rfl⟩⟩,?_⟩ | refine ⟨⟨_,rfl,.inr ⟨_,rfl,by simp (disch:=omega) [SV.den,SI.den,wrapU,wrapD]<;>omega⟩⟩,?_⟩) (by repeat first | exact trivial | refine ⟨fun h=>h,SubC.refl rfl,rfl,?_⟩)
 obtain ⟨i,hi,hno⟩:=i
 refine X.go T105_ok 400 _ rfl Tryz.results105 ?_
 conv=>arg 2;cbv
 refine X.cond rfl (fun hlt=>?_) (fun hge=>?_)
 ·simp only [SB.T,SI.den] at hlt
  have hlt:i<n3:=by omega
  obtain ⟨k,hk⟩:∃ k,k=i-1:=⟨_,rfl⟩
  obtain ⟨x1,hx1⟩:∃ x,u1[i]?=some x:=⟨_,List.getElem?_eq_getElem (by omega)⟩
  obtain ⟨x2,hx2⟩:∃ x,u1[k]?=some x:=⟨_,List.getElem?_eq_getElem (by omega)⟩
  obtain ⟨b1,y1,w1,hp1,hr1,hm1⟩:=sa3.his hx1
  obtain ⟨b2,y2,w2,hp2,hr2,hm2⟩:=sa3.his hx2
  rw [←hime] at hm1 hm2
  obtain ⟨xa,xb,xc,xd⟩:=x1
  obtain ⟨ya,yb,yc,yd⟩:=x2
  rw [CellP.open hr1] at hm1
  rw [CellP.open hr2] at hm2
  refine X.see b1 (y1+i*4) [.int .u64 (.v xa),.int .u8 (.v xb),.int .i64 (.v xc),.int .i64 (.v xd)] (see_of hm1 rfl) (by simp) (fun N1 hN1 hNl1=>?_)
  refine X.see b2 (y2+k*4) [.int .u64 (.v ya)] (one_see (hm2 0 _ rfl)) (by simp) (fun N2 hN2 hNl2=>?_)
  have hg2:(N2++[(⟨b2,y2+k*4,0⟩:Num)])[2]?=some ⟨b2,y2+k*4,0⟩:=num_last hNl2
  have hg1:(N2++[(⟨b2,y2+k*4,0⟩:Num)])[1]?=some ⟨b1,y1+i*4,0⟩:=num_old (hN2 1 _ (num_last hNl1))
  refine X.goP ([(87,.own 1 0),(122,.own 2 0)]) T105_ok 400 _ rfl Tryz.results105 (fun pr fin hpr hfin=>?_)
  conv=>cbv
  refine ⟨hpr _ (ValOk.row rfl rfl (fun h=>?_) Tryz.underlying31 Tryz.sizeOf148 (z:=k) (by omega) hp2 hg2 rfl rfl),hpr _ (ValOk.row rfl rfl (fun _=>rfl) Tryz.underlying31 Tryz.sizeOf148 hlt hp1 hg1 rfl rfl),hfin _ _ ?_⟩
  ·have h:(SB.gt (SI.nat i) (SI.lit 0)).den=true:=h
   simp [SB.den,SI.den] at h
   simp [SI.den,IntKind.wrap,IntKind.bits,IntKind.signed]
   omega
  refine X.cond rfl (fun hbad=>?_) (fun hok=>?_)
  ·simp only [SB.T,SB.F,SI.den] at hbad
   refine X.go T105_ok 400 _ rfl Tryz.results105 ?_
   conv=>arg 2;cbv
   refine X.done T105_ok rfl (fun N w' v hN hS hv=>⟨fin_bool hv ?_,hS.chg.mono fun k o _ h=>inR_nil h⟩)
   rw [hq]
   refine (B_neg fun h=>?_).symm
   obtain ⟨g1,g2⟩:=h.2.2.1 i _ hx1
   have g3:=fun h0=>g2 h0 _ (by rw [←hk];exact hx2)
   simp only [CellP.ok] at g1
   dsimp only at g3
   omega
  ·simp only [SB.T,SB.F,SI.den] at hok
   refine X.go T105_ok 400 _ rfl Tryz.results105 ?_
   conv=>arg 2;cbv
   refine X.back (fun N a w' hN hf hS=>hq' ⟨i+1,by omega,fun j x' hj hj'=>?_⟩ a w' (by simp only;omega) ?_)
   ·by_cases e:j=i
    ·subst e
     rw [hx1] at hj'
     obtain rfl:=Option.some.inj hj'
     refine ⟨?_,fun h0 y' hy'=>?_⟩
     ·simp only [CellP.ok]
      omega
     ·rw [←hk,hx2] at hy'
      obtain rfl:=Option.some.inj hy'
      dsimp only
      omega
    ·exact hno j x' (by omega) hj'
   exact At.again hf hS (by repeat first | exact trivial | refine ⟨⟨_,rfl,.inl ⟨rfl,rfl⟩⟩,?_⟩ | refine ⟨⟨_,rfl,.inr ⟨_,rfl,rfl⟩⟩,?_⟩ | refine ⟨⟨_,rfl,.inr ⟨_,rfl,by simp (disch:=omega) [SV.den,SI.den,wrapU,wrapD]<;>omega⟩⟩,?_⟩) (by repeat first | exact trivial | refine ⟨fun h=>h,SubC.refl rfl,rfl,?_⟩)
 simp only [SB.F,SI.den] at hge
 obtain rfl:n3=i:=by omega
 have halln3:∀ (j:Nat) (x:_),u1[j]?=some x→CellP.ok l1 x∧(0<j→∀ y,u1[j-1]?=some y→CellP.n y<CellP.n x):=fun j x hj=>hno j x (by have:=(List.getElem?_eq_some_iff.1 hj).1;omega) hj
 clear hno hi hge hq'
 refine X.go T105_ok 400 _ rfl Tryz.results105 ?_
 conv=>arg 2;cbv
 refine X.loop1 (fun i:{i:Nat // i≤n4∧∀ (j:Nat) (x:_),j<i→m1[j]?=some x→MarkP.ok x∧(0<j→∀ y,m1[j-1]?=some y→MarkP.source y<MarkP.source x)}=>⟨[(1,.val (.own 0 0)),(133,.val (.int .i64 (.nat n4))),(134,.val (.int .i64 (.nat i.1)))],[⟨true,[.int .u8 (.v k1),.int .u64 (.v i1),.int .i64 (.v s1),.slv p1 n1 c1,.slv p2 n2 c2,.slv p3 n3 c3,.int .u64 (.v l1),.slv p4 n4 c4],none⟩]⟩) (fun i=>n4-i.1) (fun N a w' hN hf hS=>⟨⟨0,Nat.zero_le _,fun j x hj=>by omega⟩,?_⟩) (fun i q' hq'=>?_)
 ·exact At.again hf hS (by repeat first | exact trivial | refine ⟨⟨_,rfl,.inl ⟨rfl,rfl⟩⟩,?_⟩ | refine ⟨⟨_,rfl,.inr ⟨_,rfl,rfl⟩⟩,?_⟩ | refine ⟨⟨_,rfl,.inr ⟨_,rfl,by simp (disch:=omega) [SV.den,SI.den,wrapU,wrapD]<;>omega⟩⟩,?_⟩) (by repeat first | exact trivial | refine ⟨fun h=>h,SubC.refl rfl,rfl,?_⟩)
 obtain ⟨i,hi,hno⟩:=i
 refine X.go T105_ok 400 _ rfl Tryz.results105 ?_
 conv=>arg 2;cbv
 refine X.cond rfl (fun hlt=>?_) (fun hge=>?_)
 ·simp only [SB.T,SI.den] at hlt
  have hlt:i<n4:=by omega
  obtain ⟨k,hk⟩:∃ k,k=i-1:=⟨_,rfl⟩
  obtain ⟨x1,hx1⟩:∃ x,m1[i]?=some x:=⟨_,List.getElem?_eq_getElem (by omega)⟩
  obtain ⟨x2,hx2⟩:∃ x,m1[k]?=some x:=⟨_,List.getElem?_eq_getElem (by omega)⟩
  obtain ⟨b1,y1,w1,hp1,hr1,hm1⟩:=sa4.his hx1
  obtain ⟨b2,y2,w2,hp2,hr2,hm2⟩:=sa4.his hx2
  rw [←hime] at hm1 hm2
  obtain ⟨xa,xb,xc⟩:=x1
  obtain ⟨ya,yb,yc⟩:=x2
  rw [MarkP.open hr1] at hm1
  rw [MarkP.open hr2] at hm2
  refine X.see b1 (y1+i*3) [.int .u8 (.v xa),.int .u64 (.v xb),.int .u64 (.v xc)] (see_of hm1 rfl) (by simp) (fun N1 hN1 hNl1=>?_)
  refine X.see b2 (y2+k*3) [.int .u8 (.v ya)] (one_see (hm2 0 _ rfl)) (by simp) (fun N2 hN2 hNl2=>?_)
  have hg2:(N2++[(⟨b2,y2+k*3,0⟩:Num)])[2]?=some ⟨b2,y2+k*3,0⟩:=num_last hNl2
  have hg1:(N2++[(⟨b2,y2+k*3,0⟩:Num)])[1]?=some ⟨b1,y1+i*3,0⟩:=num_old (hN2 1 _ (num_last hNl1))
  refine X.goP ([(140,.own 1 0),(163,.own 2 0)]) T105_ok 400 _ rfl Tryz.results105 (fun pr fin hpr hfin=>?_)
  conv=>cbv
  refine ⟨hpr _ (ValOk.row rfl rfl (fun h=>?_) Tryz.underlying32 Tryz.sizeOf151 (z:=k) (by omega) hp2 hg2 rfl rfl),hpr _ (ValOk.row rfl rfl (fun _=>rfl) Tryz.underlying32 Tryz.sizeOf151 hlt hp1 hg1 rfl rfl),hfin _ _ ?_⟩
  ·have h:(SB.gt (SI.nat i) (SI.lit 0)).den=true:=h
   simp [SB.den,SI.den] at h
   simp [SI.den,IntKind.wrap,IntKind.bits,IntKind.signed]
   omega
  refine X.cond rfl (fun hbad=>?_) (fun hok=>?_)
  ·simp only [SB.T,SB.F,SI.den] at hbad
   refine X.go T105_ok 400 _ rfl Tryz.results105 ?_
   conv=>arg 2;cbv
   refine X.done T105_ok rfl (fun N w' v hN hS hv=>⟨fin_bool hv ?_,hS.chg.mono fun k o _ h=>inR_nil h⟩)
   rw [hq]
   refine (B_neg fun h=>?_).symm
   obtain ⟨g1,g2⟩:=h.2.2.2 i _ hx1
   have g3:=fun h0=>g2 h0 _ (by rw [←hk];exact hx2)
   simp only [MarkP.ok] at g1
   dsimp only at g3
   omega
  ·simp only [SB.T,SB.F,SI.den] at hok
   refine X.go T105_ok 400 _ rfl Tryz.results105 ?_
   conv=>arg 2;cbv
   refine X.back (fun N a w' hN hf hS=>hq' ⟨i+1,by omega,fun j x' hj hj'=>?_⟩ a w' (by simp only;omega) ?_)
   ·by_cases e:j=i
    ·subst e
     rw [hx1] at hj'
     obtain rfl:=Option.some.inj hj'
     refine ⟨?_,fun h0 y' hy'=>?_⟩
     ·simp only [MarkP.ok]
      omega
     ·rw [←hk,hx2] at hy'
      obtain rfl:=Option.some.inj hy'
      dsimp only
      omega
    ·exact hno j x' (by omega) hj'
   exact At.again hf hS (by repeat first | exact trivial | refine ⟨⟨_,rfl,.inl ⟨rfl,rfl⟩⟩,?_⟩ | refine ⟨⟨_,rfl,.inr ⟨_,rfl,rfl⟩⟩,?_⟩ | refine ⟨⟨_,rfl,.inr ⟨_,rfl,by simp (disch:=omega) [SV.den,SI.den,wrapU,wrapD]<;>omega⟩⟩,?_⟩) (by repeat first | exact trivial | refine ⟨fun h=>h,SubC.refl rfl,rfl,?_⟩)
 simp only [SB.F,SI.den] at hge
 obtain rfl:n4=i:=by omega
 have halln4:∀ (j:Nat) (x:_),m1[j]?=some x→MarkP.ok x∧(0<j→∀ y,m1[j-1]?=some y→MarkP.source y<MarkP.source x):=fun j x hj=>hno j x (by have:=(List.getElem?_eq_some_iff.1 hj).1;omega) hj
 clear hno hi hge hq'
 refine X.go T105_ok 400 _ rfl Tryz.results105 ?_
 conv=>arg 2;cbv
 refine X.done T105_ok rfl (fun N w' v hN hS hv=>⟨fin_bool hv ?_,hS.chg.mono fun k o _ h=>inR_nil h⟩)
 rw [hq]
 refine (B_pos ⟨?_,halln2,halln3,halln4⟩).symm
 simp only
 omega
def RegP.may (r:RegP):Prop:=(r.kind=0→r.inc=0∧r.state=0∧r.last=0∧r.vars.length=0∧r.done.length=0∧r.out.length=0∧r.marks.length=0) ∧
 (r.kind≠0→r.kind≤2∧(r.kind=2→r.state=0∧r.vars.length=0∧r.out.length=0)∧r.inc≠0∧0≤r.state∧r.state<32∧r.lists)
theorem may06_ok (a:RegP) (va:List Value) (w:World) (ha:RepL (wm w) a.toD va) :
  Calls Tryz.prog 79 #[.agg va.toArray] w fun e w'=>e=.returned (.bool (B a.may))∧Chg (fun _ _=>False) w w':=by
 have e1:=fun (w1:World) hi1=>lists_ok a va w1 (ha.later (im:=elsewhere [] [] w) rfl hi1)
 obtain ⟨p1,c1,p2,c2,p3,c3,p4,c4,rfl,_⟩:=RegP.open ha
 clear ha
 obtain ⟨h,hh⟩:∃ h,h=B a.lists:=⟨_,rfl⟩
 rw [←hh] at e1
 obtain ⟨k1,i1,s1,v1,o1,u1,l1,m1⟩:=a
 simp only at e1 ⊢
 obtain ⟨q,hq⟩:∃ q:Bool,q=B (RegP.may ⟨k1,i1,s1,v1,o1,u1,l1,m1⟩):=⟨_,rfl⟩
 rw [←hq]
 obtain ⟨n1,hn1⟩:∃ n,n=v1.length:=⟨_,rfl⟩
 obtain ⟨n2,hn2⟩:∃ n,n=o1.length:=⟨_,rfl⟩
 obtain ⟨n3,hn3⟩:∃ n,n=u1.length:=⟨_,rfl⟩
 obtain ⟨n4,hn4⟩:∃ n,n=m1.length:=⟨_,rfl⟩
 rw [←hn1,←hn2,←hn3,←hn4] at e1 ⊢
 refine X.begin (rg:=[]) (N:=[]) (ss:=[.agg [.int .u8 (.v k1),.int .u64 (.v i1),.int .i64 (.v s1),.slv p1 n1 c1,.slv p2 n2 c2,.slv p3 n3 c3,.int .u64 (.v l1),.slv p4 n4 c4]]) Tryz.func79 rfl B79_ok rfl rfl Sat.std0 ?_
 obtain ⟨im,hime⟩:∃ im,im=elsewhere [] [] w:=⟨_,rfl⟩
 show X (mkE Tryz.prog Tryz.f79 _ w (InR [] []) (elsewhere [] [] w) (fun _ _=>False) (fun _=>True) [] B79) _ _
 rw [←hime] at e1 ⊢
 refine X.go T79_ok 400 _ rfl Tryz.results79 ?_
 conv=>arg 2;cbv
 refine X.cond rfl (fun hc=>?_) (fun hc=>?_)
 ·refine X.go T79_ok 400 _ rfl Tryz.results79 ?_
  conv=>arg 2;cbv
  refine X.done T79_ok rfl (fun N w' v hN hS hv=>⟨fin_bool hv ?_,hS.chg.mono fun k o _ h=>inR_nil h⟩)
  refine den_of ?_
  simp only [SB.T,SB.F,SI.den] at hc ⊢
  rw [hq,B_iff]
  simp only [RegP.may,←hn1,←hn2,←hn3,←hn4]
  omega
 refine X.go T79_ok 400 _ rfl Tryz.results79 ?_
 conv=>arg 2;cbv
 simp only [SB.T,SB.F,SI.den] at hc
 refine X.cond rfl (fun hc2=>?_) (fun hc2=>?_)
 ·refine X.go T79_ok 400 _ rfl Tryz.results79 ?_
  conv=>arg 2;cbv
  refine X.done T79_ok rfl (fun N w' v hN hS hv=>⟨fin_bool hv ?_,hS.chg.mono fun k o _ h=>inR_nil h⟩)
  simp only [SB.T,SB.F,SI.den] at hc2
  rw [hq]
  refine (B_neg fun h=>?_).symm
  have:=h.2 hc
  simp only [←hn1,←hn2,←hn3,←hn4] at this
  omega
 simp only [SB.T,SB.F,SI.den] at hc2
 refine X.goP ([(83,.bool (.v h))]) T79_ok 400 _ rfl Tryz.results79 (fun pr fin hpr hfin=>?_)
 conv=>cbv
 refine ⟨hpr _ (.of Tryz.call105 [.agg _] (.bool h) (fun _=>rfl) (fun _=>rfl) fun _ w1 hi1=>e1 w1 hi1),hfin _ _ ?_⟩
 refine X.done T79_ok rfl (fun N w' v hN hS hv=>⟨fin_bool hv ?_,hS.chg.mono fun k o _ h=>inR_nil h⟩)
 refine den_of ?_
 simp only [SB.T,SB.F,SI.den]
 rw [hq,B_iff,hh,B_iff]
 simp only [RegP.may,←hn1,←hn2,←hn3,←hn4]
 constructor
 ·intro h
  exact ⟨fun h0=>absurd h0 hc,fun _=>⟨by omega,fun _=>by omega,by omega,by omega,by omega,h.2⟩⟩
 ·intro h
  obtain ⟨h1,h2,h3,h4,h5,h6⟩:=h.2 hc
  exact ⟨by omega,h6⟩
end Go.Proofs.YthaffebapmkppaaGreat
namespace Go.Eng
open Go
mutual
def SV.frr (L r:Nat):SV→Bool
 | .own q _=>Nat.blt q L&&!(Nat.beq q r)
 | .osl q _ _ _ _=>Nat.blt q L&&!(Nat.beq q r)
 | .mp q=>Nat.blt q L&&!(Nat.beq q r)
 | .ch q=>Nat.blt q L&&!(Nat.beq q r)
 | .agg cs=>SV.frrL L r cs
 | .tup cs=>SV.frrL L r cs
 | .fn _ cs=>SV.frrL L r cs
 | _=>true
def SV.frrL (L r:Nat):List SV→Bool
 | []=>true
 | c::cs=>c.frr L r&&SV.frrL L r cs
end
theorem num_swap {N:Nums} {q:Num} {L r i:Nat} (hN:N.length=L) (h:(Nat.blt i L&&!(Nat.beq i r))=true):(N++[q])[i]?=(N.set r q)[i]?:=by
 simp only [Bool.and_eq_true,Bool.not_eq_true',Nat.blt_eq] at h
 obtain ⟨h1,h2⟩:=h
 have hne:¬i=r:=fun e=>by subst e;simp at h2
 rw [List.getElem?_append_left (by omega),List.getElem?_set_ne (fun e=>hne e.symm)]
mutual
theorem SV.frr_den {N:Nums} {q:Num} {L r:Nat} (hN:N.length=L):∀ (s:SV),s.frr L r=true→s.den (N++[q])=s.den (N.set r q)
 | .int _ _,_=>rfl
 | .bool _,_=>rfl
 | .own i c,h=>by simp only [SV.den,num_swap hN h]
 | .ext _ _ _,_=>rfl
 | .sl _ _ _ _,_=>rfl
 | .slv _ _ _,_=>rfl
 | .raw _,_=>rfl
 | .big _,_=>rfl
 | .agg cs,h=>by simp only [SV.den,SV.frrL_den hN cs h]
 | .tup cs,h=>by simp only [SV.den,SV.frrL_den hN cs h]
 | .osl i c n z k,h=>by simp only [SV.den,num_swap hN h]
 | .fn f cs,h=>by simp only [SV.den,SV.frrL_den hN cs h]
 | .mp i,h=>by simp only [SV.den,num_swap hN h]
 | .ch i,h=>by simp only [SV.den,num_swap hN h]
theorem SV.frrL_den {N:Nums} {q:Num} {L r:Nat} (hN:N.length=L):∀ (s:List SV),SV.frrL L r s=true→SV.denL (N++[q]) s=SV.denL (N.set r q) s
 | [],_=>rfl
 | c::cs,h=>by
  simp only [SV.frrL,Bool.and_eq_true] at h
  simp only [SV.denL,SV.frr_den hN c h.1,SV.frrL_den hN cs h.2]
end
def frF (L r:Nat):Fr→Bool
 | []=>true
 | (_,.val v)::f=>v.frr L r&&frF L r f
 | _=>false
def FrP (L r:Nat):Fr→Prop
 | []=>True
 | (_,.val v)::f=>v.frr L r=true∧FrP L r f
 | _=>False
theorem FrP.sh {N:Nums} {q:Num} {L r:Nat} (hN:N.length=L):∀ {f:Fr},FrP L r f→Sh (N++[q]) (N.set r q) f f
 | [],_=>trivial
 | (_,.val v)::_,h=>⟨rfl,fun x hx=>by rw [←SV.frr_den hN v h.1];exact hx,FrP.sh hN h.2⟩
 | (_,.opt _ _ _)::_,h=>h.elim
 | (_,.dead)::_,h=>h.elim
def RgF (L r:Nat):Nat→List Rg→Prop
 | _,[]=>True
 | j,g::gs=>(j=r∨g.cells.all (SV.frr L r)=true)∧RgF L r (j+1) gs
theorem RgF.get {L r:Nat}:∀ {gs:List Rg} {j i:Nat} {g:Rg},RgF L r j gs→gs[i]?=some g→j+i≠r→g.cells.all (SV.frr L r)=true
 | [],_,_,_,_,h,_=>by simp at h
 | g0::gs,j,0,g,h,hi,hne=>by
  simp at hi
  subst hi
  exact h.1.resolve_left (by omega)
 | g0::gs,j,i+1,g,h,hi,hne=>RgF.get (j:=j+1) h.2 (by simpa using hi) (by omega)
theorem Sat.swap {E:Env} {N:Nums} {rg:List Rg} {w:World} {q:Num} {g0 g:Rg} {r:Nat} (h:Sat E (N++[q]) (rg++[g]) w) (hr:rg[r]?=some g0) (hc:RgF rg.length r 0 rg) (hg:g.cells.all (SV.frr rg.length r)=true)
  (ho:∀ g'∈rg++[g],g'.ob=none):Sat E (N.set r q) (rg.set r g) w:=by
 have hN:N.length=rg.length:=by have:=h.len;simp at this;exact this
 have hrl:r<rg.length:=(List.getElem?_eq_some_iff.1 hr).1
 have hl1:(rg++[g])[rg.length]?=some g:=by simp
 have hl2:(N++[q])[rg.length]?=some q:=by rw [←hN];simp
 -- where a region stood
 have back:∀ {i:Nat} {g':Rg} {p:Num},(rg.set r g)[i]?=some g'→(N.set r q)[i]?=some p→∃ j,(rg++[g])[j]?=some g'∧(N++[q])[j]?=some p∧(i=r∧j=rg.length∨i≠r∧j=i∧i<rg.length):=fun {i g' p} h1 h2=>by
  by_cases e:i=r
  ·subst e
   rw [List.getElem?_set_self hrl] at h1
   rw [List.getElem?_set_self (by omega)] at h2
   exact ⟨rg.length,by rw [hl1,h1],by rw [hl2,h2],.inl ⟨rfl,rfl⟩⟩
  ·rw [List.getElem?_set_ne (fun h=>e h.symm)] at h1 h2
   have hi:=(List.getElem?_eq_some_iff.1 h1).1
   exact ⟨i,by rw [List.getElem?_append_left hi];exact h1,by rw [List.getElem?_append_left (by omega)];exact h2,.inr ⟨e,rfl,hi⟩⟩
 have free:∀ {j:Nat} {g':Rg} {i:Nat},(rg++[g])[j]?=some g'→(i=r∧j=rg.length∨i≠r∧j=i∧i<rg.length)→g'.cells.all (SV.frr rg.length r)=true:=fun {j g' i} h1 h2=>by
  rcases h2 with ⟨_,rfl⟩ | ⟨h2,rfl,h3⟩
  ·rw [hl1] at h1;cases h1;exact hg
  ·rw [List.getElem?_append_left h3] at h1
   exact hc.get h1 (by omega)
 have noob:∀ {j:Nat} {g':Rg},(rg++[g])[j]?=some g'→g'.ob=none:=fun h=>ho _ (List.mem_of_getElem? h)
 exact { h with
  len:=by simp [hN]
  lt:=fun i p hp=>by
   by_cases e:i=r
   ·subst e
    rw [List.getElem?_set_self (by omega)] at hp
    cases hp
    exact h.lt _ _ hl2
   ·rw [List.getElem?_set_ne (fun h=>e h.symm)] at hp
    exact h.lt i p (by rw [List.getElem?_append_left (List.getElem?_eq_some_iff.1 hp).1];exact hp)
  cell:=fun i g' p h1 h2 j c hj=>by
   obtain ⟨k,k1,k2,k3⟩:=back h1 h2
   obtain ⟨v,hv,hw⟩:=h.cell k g' p k1 k2 j c hj
   have:=List.all_eq_true.1 (free k1 k3) c (List.mem_of_getElem? hj)
   exact ⟨v,by rw [←SV.frr_den hN c this];exact hv,hw⟩
  ext:=fun i g' p h1 h2=>by obtain ⟨k,k1,k2,_⟩:=back h1 h2;exact h.ext k g' p k1 k2
  room:=fun i g' p h1 h2=>by obtain ⟨k,k1,k2,_⟩:=back h1 h2;exact h.room k g' p k1 k2
  disj:=fun i i' g' g'' p p' h1 h2 h3 h4 hown hne=>by
   obtain ⟨k,k1,k2,k3⟩:=back h1 h2
   obtain ⟨l,l1,l2,l3⟩:=back h3 h4
   exact h.disj k l g' g'' p p' k1 k2 l1 l2 hown (by omega)
  obj:=fun i g' p ob h1 h2 h3=>by obtain ⟨k,k1,k2,_⟩:=back h1 h2;rw [noob k1] at h3;cases h3
  odisj:=fun i i' g' g'' p p' h1 h2 h3 h4 h5=>by obtain ⟨k,k1,k2,_⟩:=back h1 h2;rw [noob k1] at h5;cases h5
  imd:=fun i g' p h1 h2=>by obtain ⟨k,k1,k2,_⟩:=back h1 h2;exact h.imd k g' p k1 k2
  dd:=fun i g' p h1 h2=>by obtain ⟨k,k1,k2,_⟩:=back h1 h2;exact h.dd k g' p k1 k2
  foot:=fun i g' p h1 h2=>by obtain ⟨k,k1,k2,_⟩:=back h1 h2;exact h.foot k g' p k1 k2 }
section
variable {E:Ctx}
theorem X.swap {k:List It} (h0:E.N0=[]) {d n z:Nat} {f:Fr} {rg:List Rg} {g0 g:Rg} (r:Nat) (hr:rg[r]?=some g0) (hc:RgF rg.length r 0 rg) (hg:g.cells.all (SV.frr rg.length r)=true) (ho:∀ g'∈rg++[g],g'.ob=none) (hf:FrP rg.length r f)
  (h:X E k ⟨(d,.val (.osl r 0 n z none))::f,rg.set r g⟩):X E k ⟨(d,.val (.osl rg.length 0 n z none))::f,rg++[g]⟩:=by
 refine X.conv fun N a w hN hfr hS=>?_
 have hlen:=hS.len
 obtain ⟨M,q,rfl⟩:∃ M q,N=M++[q]:=by
  rcases List.eq_nil_or_concat N with h | ⟨M,q,h⟩
  ·subst h;simp at hlen
  ·exact ⟨M,q,by rw [h];simp⟩
 have hM:M.length=rg.length:=by simpa using hlen
 have hrl:r<rg.length:=(List.getElem?_eq_some_iff.1 hr).1
 refine ⟨E,⟨(d,.val (.osl r 0 n z none))::f,rg.set r g⟩,rfl,rfl,rfl,rfl,⟨M.set r q,by rw [h0];exact nil_le _,hfr.sh ⟨rfl,fun x hx=>?_,FrP.sh hM hf⟩,hS.swap hr hc hg ho⟩,h⟩
 have e1:(M++[q])[rg.length]?=some q:=by rw [←hM];simp
 have e2:(M.set r q)[r]?=some q:=List.getElem?_set_self (by omega)
 simp only [SV.den,e1] at hx
 simpa only [SV.den,e2] using hx
end
def gV (r n z:Nat):SV:=bif Nat.beq n 0 then .raw (.slice none 0 0) else .osl r 0 n z none
def eV (r n z:Nat):SV:=bif Nat.beq n 0 then .osl r 0 0 z (some 0) else .osl r 0 n z none
section
variable {E:Ctx}
theorem X.appG {T:Tab} (hT:TabOk E.P T) (h0:E.N0=[]) (kp:List Nat) {all:Array Oper} {i:Nat} {rest:List Nat} {k:List It} {s:St} {o:Oper} {x y:Operand} {ts tx e m n d r:Nat} {ti te:TI} {sx sy:SV} {cs new:List SV} {f1 f2:Fr} (ho:nth all.toList i=some o) (hg:sure all s.fr o=true)
  (hop:o.op=.call { callee:=.builtin .append,args:=#[x,y],argTypes:=#[ts,tx] }) (hx:ev s.fr x=some sx) (hy:ev s.fr y=some sy) (hti:lookT T ts=some ti) (hk:ti.kind=.slice e) (hte:lookT T e=some te)
  (hsx:sx=gV r n te.size∨sx=eV r n te.size∨sx=.osl r 0 n te.size none) (hr:nth s.rg r=some ⟨true,cs,none⟩) (hcs:cs.length=n*te.size) (hm:m≠0) (hsrc:appSrc T s.rg te sy tx=some (new,m)) (hok:appV.appOk te new n m=true)
  (hd:o.dst=some d) (hp:putO E.n s.fr (some d) (.val (.osl s.rg.length 0 (n+m) te.size none))=some f1) (hf:f1.filter (fun p=>kp.elem p.1)=(d,.val (.osl s.rg.length 0 (n+m) te.size none))::f2)
  (hfr:FrP s.rg.length r f2) (hcr:RgF s.rg.length r 0 s.rg) (hcn:(cs++new).all (SV.frr s.rg.length r)=true) (hob:s.rg.all (fun g=>g.ob.isNone)=true)
  (h:X E (.ops all rest::k) ⟨(d,.val (.osl r 0 (n+m) te.size none))::f2,s.rg.set r ⟨true,cs++new,none⟩⟩):X E (.ops all (i::rest)::k) s:=by
 have hr':s.rg[r]?=some ⟨true,cs,none⟩:=by rw [←nth_eq];exact hr
 have hrl:r<s.rg.length:=(List.getElem?_eq_some_iff.1 hr').1
 have hnob:∀ g'∈s.rg,g'.ob=none:=fun g' hg'=>by
  have:=List.all_eq_true.1 hob g' hg'
  cases h:g'.ob with
  | none=>rfl
  | some _=>rw [h] at this;cases this
 -- the last region of rg1,put in place r
 have fin:∀ rg1:List Rg,rg1.length=s.rg.length→(∀ g,rg1.set r g=s.rg.set r g)→(∃ g0,rg1[r]?=some g0)→RgF s.rg.length r 0 rg1→(∀ g'∈rg1,g'.ob=none)→X E (.ops all rest::k) ⟨f1,rg1++[⟨true,cs++new,none⟩]⟩:=fun rg1 e1 e2 ⟨g0,e3⟩ e4 e5=>by
  refine X.less kp ?_
  simp only [hf]
  rw [←e1]
  refine X.swap h0 r e3 (by rw [e1];exact e4) (by rw [e1];exact hcn) (fun g' hg'=>?_) (by rw [e1];exact hfr) (by rw [e2];exact h)
  rcases List.mem_append.1 hg' with h | h
  ·exact e5 g' h
  ·rw [List.mem_singleton.1 h]
 have late:X E (.ops all rest::k) ⟨f1,s.rg.set r ⟨false,[],none⟩++[⟨true,cs++new,none⟩]⟩:=by
  refine fin (s.rg.set r ⟨false,[],none⟩) (by simp) (fun g=>by simp) ⟨_,List.getElem?_set_self hrl⟩ ?_ (fun g' hg'=>?_)
  ·have key:∀ (gs:List Rg) (j i:Nat),RgF s.rg.length r j gs→j+i=r→RgF s.rg.length r j (gs.set i ⟨false,[],none⟩):=fun gs=>by
    induction gs with
    | nil=>intro j i h1 _;simpa using h1
    | cons g gs ih =>
     intro j i h1 h2
     cases i with
     | zero=>exact ⟨.inl (by omega),h1.2⟩
     | succ i=>exact ⟨h1.1,ih (j+1) i h1.2 (by omega)⟩
   exact key s.rg 0 r hcr (by omega)
  ·rcases List.mem_or_eq_of_mem_set hg' with h | h
   ·exact hnob g' h
   ·rw [h]
 by_cases hx3:sx=.osl r 0 n te.size none
 ·subst hx3
  exact X.opEq hT (opE_append ho hg hop hx hy hti hk hte hsrc (appV_hid hr hcs hm hok) (by rw [hd];exact hp)) late
 have hsx:sx=gV r n te.size∨sx=eV r n te.size:=by
  rcases hsx with h | h | h
  ·exact .inl h
  ·exact .inr h
  ·exact absurd h hx3
 by_cases hn:n=0
 ·subst hn
  have hcs0:cs=[]:=List.eq_nil_of_length_eq_zero (by rw [hcs,Nat.zero_mul])
  have happ:appV s.rg te sx new m=some (.osl s.rg.length 0 (0+m) te.size none,s.rg++[⟨true,cs++new,none⟩]):=by
   rw [hcs0,List.nil_append,Nat.zero_add]
   rcases hsx with rfl | rfl
   ·exact appV_nil hm hok
   ·exact appV_new hr hm hok
  refine X.opEq hT (opE_append ho hg hop hx hy hti hk hte hsrc happ (by rw [hd];exact hp)) ?_
  exact fin s.rg rfl (fun _=>rfl) ⟨_,hr'⟩ hcr hnob
 ·have hb:Nat.beq n 0=false:=by cases h:Nat.beq n 0 with | false=>rfl | true=>exact absurd (Nat.eq_of_beq_eq_true h) hn
  have hsx':sx=.osl r 0 n te.size none:=by
   rcases hsx with rfl | rfl
   ·simp only [gV,hb,cond_false]
   ·simp only [eV,hb,cond_false]
  subst hsx'
  refine X.opEq hT (opE_append ho hg hop hx hy hti hk hte hsrc (appV_hid hr hcs hm hok) (by rw [hd];exact hp)) ?_
  exact late
end
theorem vk_osl {E:Env} {N0:Nums} {rg:List Rg} {f:Fr} {g:GK} {t e:TypeId} {x ix:Operand} {n z q r c:Nat} {sx:SV} {kd:IntKind} {s:SI} (hx:evK f g x=some sx) (hsx:sx=gV r n q∨sx=eV r n q∨∃ k,sx=.osl r 0 n q k) (hix:evK f g ix=some (.int kd s)) (hz:g.T→s.den=(z:Int)) (hu:E.P.underlying t=some (.slice e)) (hq:∀ w,(sizeOf e).run E.P w=.ok q w)
  (hlt:g.T→z<n) (hc:c=z*q) (hr:r<rg.length):ValOk E N0 rg f g (.indexAddr t x ix) (.own r c):=by
 intro ht N ρ op w hN0 hop hρ hV
 have h1:=hρ _ _ hx
 have h2:=hρ _ _ hix
 have hlt:=hlt ht
 obtain ⟨p,hp⟩:∃ p,N[r]?=some p:=⟨_,List.getElem?_eq_getElem (by have:=hV.1.len;omega)⟩
 have hb:Nat.beq n 0=false:=by cases h:Nat.beq n 0 with | false=>rfl | true=>have:=Nat.eq_of_beq_eq_true h;omega
 obtain ⟨k,hk⟩:∃ k,ρ x=.slice (some ⟨p.b,p.o+0,none⟩) n k:=by
  rcases hsx with rfl | rfl | ⟨k,rfl⟩
  ·simp only [gV,hb,cond_false,SV.den,hp,Option.some.injEq] at h1;exact ⟨_,h1.symm⟩
  ·simp only [eV,hb,cond_false,SV.den,hp,Option.some.injEq] at h1;exact ⟨_,h1.symm⟩
  ·simp only [SV.den,hp,Option.some.injEq] at h1;exact ⟨_,h1.symm⟩
 simp only [SV.den,hz ht,Option.some.injEq] at h2
 refine ⟨.pointer (some ⟨p.b,p.o+c,none⟩),by simp only [SV.den,hp],fun w' _=>?_⟩
 simp only [execOp,hop,hk,←h2,Sem.run_bind,Result.andThen,Sem.run_pure]
 simp [Instr.indexAt,asIntOf,run_underlying hu,Result.andThen,hlt,hq,addr_add,hc]
theorem denL_cons {N:Nums} {c:SV} {cs:List SV} {l:List Value} (h:SV.denL N (c::cs)=some l):∃ v l',l=v::l'∧c.den N=some v∧SV.denL N cs=some l':=by
 simp only [SV.denL] at h
 split at h
 ·rename_i v hv
  split at h
  ·rename_i l' hl
   exact ⟨v,l',(Option.some.inj h).symm,hv,hl⟩
  ·cases h
 ·cases h
theorem denL_nil {N:Nums} {l:List Value} (h:SV.denL N []=some l):l=[]:=by
 simp only [SV.denL] at h
 exact (Option.some.inj h).symm
inductive STree where
 | nil
 | q (i:Nat) (blk:List Nat) (r:STree)
 | one (i:Nat) (r:STree)
 | two (i j:Nat) (x y:STree)
def only2 (l:List Nat) (i j:Nat):Bool:=match l with
 | [a,b]=>(Nat.beq a i&&Nat.beq b j) || (Nat.beq a j&&Nat.beq b i)
 | _=>false
theorem only2_spec {l:List Nat} {i j:Nat} (h:only2 l i j=true):l=[i,j]∨l=[j,i]:=by
 unfold only2 at h
 split at h
 ·simp only [Bool.or_eq_true,Bool.and_eq_true] at h
  rcases h with ⟨h1,h2⟩ | ⟨h1,h2⟩
  ·exact .inl (by rw [Nat.eq_of_beq_eq_true h1,Nat.eq_of_beq_eq_true h2])
  ·exact .inr (by rw [Nat.eq_of_beq_eq_true h1,Nat.eq_of_beq_eq_true h2])
 ·cases h
def treeOk (ops:Array Oper):STree→Nat→Array Bool→Bool
 | .nil,m,L=>Nat.beq m 0&&(Region.ready .any ops L).isEmpty
 | .q i blk r,m,L=>match m with
  | 0=>false
  | m+1=>(Region.ready .any ops L).contains i&&Region.free .any ops L i&&closedB ops i blk&&withinB L ops.size blk&&treeOk ops r m (L.setIfInBounds i true)
 | .one i r,m,L=>match m with
  | 0=>false
  | m+1=>only (Region.ready .any ops L) i&&treeOk ops r m (L.setIfInBounds i true)
 | .two i j x y,m,L=>match m with
  | 0=>false
  | m+1=>only2 (Region.ready .any ops L) i j&&treeOk ops x m (L.setIfInBounds i true)&&treeOk ops y m (L.setIfInBounds j true)
def prL (pr:Owe→Prop):List Owe→Prop→Prop
 | [],p=>p
 | o::os,p=>pr o∧prL pr os p
theorem prL_spec {pr:Owe→Prop}:∀ {os:List Owe} {p:Prop},prL pr os p→(∀ q∈os,pr q)∧p
 | [],_,h=>⟨fun _ h=>absurd h List.not_mem_nil,h⟩
 | o::os,p,⟨h1,h2⟩=>by
  obtain ⟨h3,h4⟩:=prL_spec h2
  exact ⟨fun q hq=>by rcases List.mem_cons.1 hq with rfl | h;exact h1;exact h3 q h,h4⟩
def stepT (pr:Owe→Prop) (td:List (Nat × SV)) (T:Tab) (n:Nat) (all:Array Oper) (K:KW) (i:Nat) (c:St→Prop) (s:St):Prop :=
 match qP td T n all s.rg i s.fr with
 | some (f,o)=>prL pr o (c ⟨f,s.rg⟩)
 | none=>match opE T n all i s with
  | some s'=>(match stR s.fr all i with | some k=>memN (lookK K i) k | none=>true)=true∧c s'
  | none=>match pcall td n all i s.fr with
   | some (f,gk,g,l,v)=>pr (.call s.rg gk g l v)∧c ⟨f,s.rg⟩
   | none=>False
structure Ef where
 r:List Rg→SV
 sets:List (Nat × Rg)
 news:List Rg
def setsE:List (Nat × Rg)→List Rg→List Rg
 | [],rg=>rg
 | (r,g)::l,rg=>setsE l (rg.set r g)
def snoc (rg:List Rg):List Rg→List Rg
 | []=>rg
 | g::l=>rg++(g::l)
def fsts:List (Nat × Rg)→List Nat
 | []=>[]
 | (r,_)::l=>r::fsts l
def Ef.up (e:Ef) (rg:List Rg):List Rg:=snoc (setsE e.sets rg) e.news
def Ef.ks (e:Ef):List Nat:=fsts e.sets
theorem snoc_eq (rg l:List Rg):snoc rg l=rg++l:=by cases l<;>simp [snoc]
theorem setsE_length:∀ (l:List (Nat × Rg)) (rg:List Rg),(setsE l rg).length=rg.length
 | [],_=>rfl
 | (r,g)::l,rg=>by simp [setsE,setsE_length l]
theorem setsE_get:∀ (l:List (Nat × Rg)) (rg:List Rg) (r:Nat),memN (fsts l) r=false→(setsE l rg)[r]?=rg[r]?
 | [],_,_,_=>rfl
 | (q,g)::l,rg,r,h=>by
  simp only [fsts,memN,Bool.or_eq_false_iff] at h
  have hne:q≠r:=fun e=>by subst e;simp at h
  rw [setsE,setsE_get l _ r h.2,List.getElem?_set_ne hne]
theorem Ef.keeps (e:Ef) (rg:List Rg):Agree e.ks rg (e.up rg)∧rg.length≤(e.up rg).length:=by
 constructor
 ·intro r g hg hm
  have hl:=(List.getElem?_eq_some_iff.1 hg).1
  rw [Ef.up,snoc_eq,List.getElem?_append_left (by rw [setsE_length];exact hl),setsE_get _ _ _ hm]
  exact hg
 ·rw [Ef.up,snoc_eq,List.length_append,setsE_length];omega
def Effs (P:Program) (ρ:Operand→Value) (o:Oper) (w:World) (K:Value→World→Prop):Prop :=
 (∃ v w',Yields P ρ o w v w'∧K v w')∨∃ g args,(execOp ρ o).run P w=.ok (.enter g args) w∧Calls P g args w fun e w'=>∃ v,e=.returned v∧K v w'
theorem wp_of_effs {P:Program} {o:Oper} {a:Act} {w:World} {K':Value→World→Prop} (h:Effs P a.eval o w K') {K:Act→World→Prop} {Q:Exit→Act→World→Prop} (hK:∀ v w',K' v w'→K (a.put o.dst v) w'):o.wp P a w K Q:=by
 rcases h with ⟨v,w',hy,hv⟩ | ⟨g,args,he,hc⟩
 ·exact wp_of_yields hy (hK v w' hv)
 ·unfold Oper.wp
  rw [he]
  refine Calls.mono hc fun e w' ⟨v,he,hv⟩=>?_
  subst he
  exact hK v w' hv
def EffOk (E:Env) (N0:Nums) (rg:List Rg) (f:Fr) (op:Op) (r:SV) (rg':List Rg):Prop :=
 ∀ (N:Nums) (ρ:Operand→Value) (o:Oper) (w:World),N0.le N→o.op=op→(∀ x s,ev f x=some s→s.den N=some (ρ x))→Sat E N rg w →
  Effs E.P ρ o w fun v w'=>∃ N',N.le N'∧r.den N'=some v∧Sat E N' rg' w'
def lookE:List (Nat × Ef)→Nat→Option Ef
 | [],_=>none
 | (k,v)::r,t=>bif Nat.beq k t then some v else lookE r t
def keyE (o:Oper) (i:Nat):Nat:=match o.dst with
 | some d=>d
 | none=>1000+i
def effQ (tx:List (Nat × Ef)) (n:Nat) (all:Array Oper) (i:Nat) (s:St):Option (Fr × Op × Ef) :=
 match nth all.toList i with
 | none=>none
 | some o=>match lookE tx (keyE o i) with
  | some e=>bif sure all s.fr o then match putO n s.fr o.dst (.val (e.r s.rg)) with
    | some f=>some (f,o.op,e)
    | none=>none
   else none
  | none=>none
theorem effQ_sound {E:Env} {tx:List (Nat × Ef)} {N N0:Nums} {s:St} {a:Act} {all:Array Oper} {i:Nat} {o:Oper} {w:World} {f:Fr} {op:Op} {e:Ef} (ho:all[i]?=some o) (hq:effQ tx E.n all i s=some (f,op,e))
  (hob:EffOk E N0 s.rg s.fr op (e.r s.rg) (e.up s.rg)) (hN0:N0.le N) (hf:FrOk E.n N s.fr a) (hS:Sat E N s.rg w) :
  Region.wanted o (yielded all a.tmps)=true∧∀ (K:Act→World→Prop) (Q:Exit→Act→World→Prop),(∀ N' x w',N.le N'→FrOk E.n N' f (a.put o.dst x)→Sat E N' (e.up s.rg) w'→K (a.put o.dst x) w')→o.wp E.P a w K Q:=by
 have ho':nth all.toList i=some o:=by rw [nth_eq];simpa using ho
 unfold effQ at hq
 simp only [ho'] at hq
 split at hq
 ·rename_i e0 _
  obtain ⟨hsu,hq⟩:=bif_none hq
  split at hq
  ·rename_i f1 hp
   simp only [Option.some.injEq,Prod.mk.injEq] at hq
   obtain ⟨rfl,rfl,rfl⟩:=hq
   refine ⟨sure_sound hf hsu,fun K Q hK=>?_⟩
   exact wp_of_effs (hob N a.eval o w hN0 rfl (fun x s hx=>ev_sound hf hx) hS) fun v w' ⟨N',h1,h2,h3⟩=>hK N' v w' h1 (putO_sound (hf.mono h1) h2 hp) h3
  ·cases hq
 ·cases hq
abbrev PE:=List Rg→Fr→Op→SV→List Rg→Prop
def stepX (pe:PE) (pr:Owe→Prop) (td:List (Nat × SV)) (tx:List (Nat × Ef)) (T:Tab) (n:Nat) (all:Array Oper) (K:KW) (i:Nat) (c:St→Prop) (s:St):Prop :=
 match effQ tx n all i s with
 | some (f,op,e)=>allN (lookK K i) e.ks=true∧pe s.rg s.fr op (e.r s.rg) (e.up s.rg)∧c ⟨f,e.up s.rg⟩
 | none=>stepT pr td T n all K i c s
def anyX (pe:PE) (pr:Owe→Prop) (fin:St→Prop) (td:List (Nat × SV)) (tx:List (Nat × Ef)) (T:Tab) (n:Nat) (all:Array Oper) (K:KW) (rg:List Rg):STree→St→Prop
 | .nil,s=>fin s
 | .q i blk r,s=>quietK K i=true∧match qP td T n all (maskRg (flatK (memB blk) K) rg 0) i s.fr with
  | some (f,o)=>prL pr o (anyX pe pr fin td tx T n all K rg r ⟨f,s.rg⟩)
  | none=>False
 | .one i r,s=>stepX pe pr td tx T n all K i (fun s'=>anyX pe pr fin td tx T n all K rg r s') s
 | .two i j x y,s=>stepX pe pr td tx T n all K i (fun s'=>anyX pe pr fin td tx T n all K rg x s') s∧stepX pe pr td tx T n all K j (fun s'=>anyX pe pr fin td tx T n all K rg y s') s
def dry1 (td:List (Nat × SV)) (tx:List (Nat × Ef)) (T:Tab) (n:Nat) (all:Array Oper) (i:Nat) (c:St→KW) (s:St):KW :=
 match effQ tx n all i s with
 | some (f,_,e)=>(i,e.ks)::c ⟨f,e.up s.rg⟩
 | none=>match qP td T n all s.rg i s.fr with
  | some (f,_)=>c ⟨f,s.rg⟩
  | none=>match opE T n all i s with
   | some s'=>match stR s.fr all i with
    | some k=>(i,[k])::c s'
    | none=>c s'
   | none=>match pcall td n all i s.fr with
    | some (f,_)=>c ⟨f,s.rg⟩
    | none=>[]
def addK (i:Nat) (ks:List Nat):KW→KW
 | []=>[(i,ks)]
 | (j,l)::r=>bif Nat.beq j i then (j,app ks l)::r else (j,l)::addK i ks r
def mergeK:KW→KW→KW
 | [],K=>K
 | (i,ks)::r,K=>mergeK r (addK i ks K)
def dryX (td:List (Nat × SV)) (tx:List (Nat × Ef)) (T:Tab) (n:Nat) (all:Array Oper):STree→St→KW
 | .nil,_=>[]
 | .q i _ r,s=>match qP td T n all s.rg i s.fr with
  | some (f,_)=>dryX td tx T n all r ⟨f,s.rg⟩
  | none=>[]
 | .one i r,s=>dry1 td tx T n all i (fun s'=>dryX td tx T n all r s') s
 | .two i j x y,s=>mergeK (dry1 td tx T n all i (fun s'=>dryX td tx T n all x s') s) (dry1 td tx T n all j (fun s'=>dryX td tx T n all y s') s)
theorem anyX_sound {E:Env} {T:Tab} (hT:TabOk E.P T) {td:List (Nat × SV)} {tx:List (Nat × Ef)} {all:Array Oper} (hsel:Region.noSelect all=true) {Q:Exit→Act→World→Prop} (hQ:PanicOk Q) {N0:Nums} {K:KW} {rg:List Rg} {fin:St→Prop} {Nf:Nums} (wf:World) (hV:Vis Nf rg wf):∀ (t:STree) (m:Nat) (listed:Array Bool) {s:St} {N:Nums} {a:Act} {w:World},
  treeOk all t m listed=true→listed.size=all.size→anyX (EffOk E N0) (Owe.Ok E N0) fin td tx T E.n all K rg t s→Nf.le N→N0.le N→FrOk E.n N s.fr a→Sat E N s.rg w→Agree (wrL K listed) rg s.rg→rg.length≤s.rg.length →
  (∀ s' N' a' w',fin s'→N.le N'→FrOk E.n N' s'.fr a'→Sat E N' s'.rg w'→Q .normal a' w')→wpF E.P all Q (fun L=>VI E.im Nf (maskRg (wrL K L) rg 0)) m listed a w:=by
 have emp:∀ {l:List Nat},l.isEmpty=true→l=[]:=by intro l h;cases l<;>simp at h ⊢
 have see:∀ (L:Array Bool) {N:Nums} {rg':List Rg} {w:World},Nf.le N→Agree (wrL K L) rg rg'→Sat E N rg' w→VI E.im Nf (maskRg (wrL K L) rg 0) w:=fun L _ _ _ hN ha hS=>⟨vis_of_agree (hV.mask _) hN ha hS,hS.imm⟩
 -- one operation that is ready
 have step:∀ (m:Nat) (listed:Array Bool) (i:Nat) (c:St→Prop) {s:St} {N:Nums} {a:Act} {w:World},i∈Region.ready .any all listed→listed.size=all.size→stepX (EffOk E N0) (Owe.Ok E N0) td tx T E.n all K i c s→Nf.le N→N0.le N→FrOk E.n N s.fr a→Sat E N s.rg w→Agree (wrL K listed) rg s.rg→rg.length≤s.rg.length →
   (∀ s' N' a' w',c s'→N.le N'→FrOk E.n N' s'.fr a'→Sat E N' s'.rg w'→Agree (wrL K (listed.setIfInBounds i true)) rg s'.rg→rg.length≤s'.rg.length→wpF E.P all Q (fun L=>VI E.im Nf (maskRg (wrL K L) rg 0)) m (listed.setIfInBounds i true) a' w') →
   wpOp E.P all Q i (fun a' w'=>VI E.im Nf (maskRg (wrL K (listed.setIfInBounds i true)) rg 0) w'∧wpF E.P all Q (fun L=>VI E.im Nf (maskRg (wrL K L) rg 0)) m (listed.setIfInBounds i true) a' w') a w:=by
  intro m listed i c s N a w hrm hn hg hN hN0 hf hS ha hl hk
  have hlt:i<listed.size:=by
   obtain ⟨_,o,ho,_⟩:=mem_ready.1 hrm
   rw [hn];exact (Array.getElem?_eq_some_iff.1 ho).1
  have hset:(listed.setIfInBounds i true).getD i false=true:=by simp [hlt]
  have grow:∀ r,memN (wrL K listed) r=true→memN (wrL K (listed.setIfInBounds i true)) r=true:=fun r h=>by
   obtain ⟨p,h1,h2,h3⟩:=memN_flat.1 h
   refine memN_flat.2 ⟨p,h1,?_,h3⟩
   by_cases e:i=p.1
   ·rw [←e];exact hset
   ·rw [getD_set_ne false e];exact h2
  have own:∀ k,memN (lookK K i) k=true→memN (wrL K (listed.setIfInBounds i true)) k=true:=fun k hk=>by
   obtain ⟨p,h1,h2,h3⟩:=lookK_mem hk
   exact memN_flat.2 ⟨p,h1,by rw [h2];exact hset,h3⟩
  have ha1:Agree (wrL K (listed.setIfInBounds i true)) rg s.rg:=ha.mono fun r hr=>by
   cases hx:memN (wrL K listed) r with
   | true=>rw [grow r hx] at hr;cases hr
   | false=>rfl
  obtain ⟨_,o,ho,_⟩:=mem_ready.1 hrm
  unfold stepX at hg
  unfold wpOp
  simp only [ho]
  split at hg
  ·rename_i f op e hq
   obtain ⟨hmk,hob,hg⟩:=hg
   obtain ⟨hw,hx⟩:=effQ_sound ho hq hob hN0 hf hS
   obtain ⟨hk1,hk2⟩:=e.keeps s.rg
   have ha2:Agree (wrL K (listed.setIfInBounds i true)) rg (e.up s.rg):=fun r g hg hr=>hk1 r g (ha1 r g hg hr) (allN_spec hmk r (by
    cases hx:memN (lookK K i) r with
    | true=>rw [own r hx] at hr;cases hr
    | false=>rfl))
   rw [hw,if_pos rfl]
   exact .inl (hx _ _ fun N' x w' hN' hf' hS'=>⟨see _ (hN.trans hN') ha2 hS',hk _ N' _ w' hg hN' hf' hS' ha2 (Nat.le_trans hl hk2)⟩)
  unfold stepT at hg
  split at hg
  ·rename_i f ob hq
   obtain ⟨hob,hg⟩:=prL_spec hg
   obtain ⟨v,hv,hfr⟩:=qP_sound hT ho hq hob hN0 hf hS.vi
   have hnext:=hk _ N _ w hg (Nums.le.refl N) hfr hS ha1 hl
   rcases hv with ⟨hw,hrun⟩ | ⟨hw,rfl⟩
   ·rw [hw,if_pos rfl]
    exact .inl (wp_of_yields (.inl (hrun w hS.vi)) ⟨see _ hN ha1 hS,hnext⟩)
   ·rw [hw]
    exact ⟨see _ hN ha1 hS,hnext⟩
  ·split at hg
   ·rename_i s1 he
    obtain ⟨hmk,hg2⟩:=hg
    obtain ⟨hw,N',x,w',hN',hy,hf',hS'⟩:=opE_sound hT (by simpa using ho) he hf hS
    have ha2:=stepE_agree (ks:=wrL K (listed.setIfInBounds i true)) ha1 hl (by
     split
     ·rename_i k hk'
      rw [hk'] at hmk
      exact own k hmk
     ·rfl) he
    rw [hw,if_pos rfl]
    exact .inl (wp_of_yields hy ⟨see _ (hN.trans hN') ha2.1 hS',hk _ N' _ _ hg2 hN' hf' hS' ha2.1 ha2.2⟩)
   ·split at hg
    ·rename_i f gk g l v hpc
     obtain ⟨hob,hg⟩:=hg
     rcases pcall_sound ho hpc hob hN0 hf hS with ⟨hw,hx⟩ | ⟨hw,hf'⟩
     ·rw [hw,if_pos rfl]
      exact .inl (hx _ _ fun x w' hf' hS'=>⟨see _ hN ha1 hS',hk _ N _ w' hg (Nums.le.refl N) hf' hS' ha1 hl⟩)
     ·rw [hw]
      exact ⟨see _ hN ha1 hS,hk _ N _ w hg (Nums.le.refl N) hf' hS ha1 hl⟩
    ·exact hg.elim
 intro t
 induction t with
 | nil =>
  intro m listed s N a w hs hn hg hN hN0 hf hS ha hl hk
  simp only [treeOk,Bool.and_eq_true] at hs
  obtain rfl:=Nat.eq_of_beq_eq_true hs.1
  exact wpF.done (emp hs.2) (hk s N a w hg (Nums.le.refl N) hf hS)
 | q i blk r ih =>
  intro m listed s N a w hs hn hg hN hN0 hf hS ha hl hk
  cases m with
  | zero=>simp [treeOk] at hs
  | succ m =>
   have hS0:=see listed hN ha hS
   simp only [treeOk,Bool.and_eq_true] at hs
   obtain ⟨⟨⟨⟨hr,hfree⟩,hclosed⟩,hwithin⟩,hs⟩:=hs
   simp only [anyX] at hg
   obtain ⟨hqk,hg⟩:=hg
   have hqk:=quietK_spec hqk
   have hrm:i∈Region.ready .any all listed:=by simpa using hr
   have hi0:listed.getD i false=false:=by
    have h1:=(mem_ready.1 hrm).1
    rcases Nat.lt_or_ge i listed.size with h' | h'
    ·simp [h'] at h1 ⊢;exact h1
    ·rw [Array.getD_eq_getD_getElem?,Array.getElem?_eq_none h'];rfl
   have same:∀ (L:Array Bool) (r:Nat),memN (wrL K (L.setIfInBounds i true)) r=true↔memN (wrL K L) r=true:=fun L r=>by
    simp only [wrL,memN_flat]
    constructor
    ·rintro ⟨p,h1,h2,h3⟩
     exact ⟨p,h1,by rwa [getD_set_ne false (fun e=>hqk p h1 e.symm)] at h2,h3⟩
    ·rintro ⟨p,h1,h2,h3⟩
     exact ⟨p,h1,by rwa [getD_set_ne false (fun e=>hqk p h1 e.symm)],h3⟩
   split at hg
   ·rename_i f ob hq
    obtain ⟨_,o,ho,_⟩:=mem_ready.1 hrm
    obtain ⟨hob,hg⟩:=prL_spec hg
    have wide:∀ {L':Array Bool} {w':World},Up all i listed L'→VI E.im Nf (maskRg (wrL K L') rg 0) w'→VI E.im Nf (maskRg (flatK (memB blk) K) rg 0) w':=fun hup hv =>
     ⟨hv.1.more fun r hr=>by
      obtain ⟨p,h1,h2,h3⟩:=memN_flat.1 hr
      exact memN_flat.2 ⟨p,h1,(hup.within hclosed hn hi0 hwithin).2.2 _ h2,h3⟩,hv.2⟩
    obtain ⟨v,hv,hfr⟩:=qP_sound hT ho hq hob hN0 hf ((wide .here hS0).mono hN)
    refine wpF.take (S:=fun L=>VI E.im Nf (maskRg (wrL K L) rg 0)) ho hsel hfree hr (fun c a w h=>hQ c a o.dst v w h) (fun L w=>⟨fun h=>⟨h.1.more fun r hr=>(same L r).1 hr,h.2⟩,fun h=>⟨h.1.more fun r hr=>(same L r).2 hr,h.2⟩⟩) ?_ hS0
     (ih m _ hs (by simpa using hn) hg hN hN0 hfr hS (fun r g hg hm=>ha r g hg (by
      cases hx:memN (wrL K listed) r with
      | true=>rw [(same listed r).2 hx] at hm;cases hm
      | false=>rfl)) hl hk)
    rcases hv with ⟨hw,hrun⟩ | ⟨hw,rfl⟩
    ·exact .inl ⟨hw,fun w ⟨L',hup,hw⟩=>hrun w ((wide hup hw).mono hN)⟩
    ·exact .inr ⟨hw,rfl⟩
   ·exact hg.elim
 | one i r ih =>
  intro m listed s N a w hs hn hg hN hN0 hf hS ha hl hk
  cases m with
  | zero=>simp [treeOk] at hs
  | succ m =>
   simp only [treeOk,Bool.and_eq_true] at hs
   have hr:=only_spec hs.1
   refine wpF.all hr (by simp) fun j hj=>?_
   simp only [List.mem_singleton] at hj;subst hj
   refine step m listed j _ (by rw [hr];simp) hn hg hN hN0 hf hS ha hl fun s' N' a' w' hc hN' hf' hS' ha' hl'=>?_
   exact ih m _ hs.2 (by simpa using hn) hc (hN.trans hN') (hN0.trans hN') hf' hS' ha' hl' fun s2 N2 a2 w2 h1 h2=>hk s2 N2 a2 w2 h1 (hN'.trans h2)
 | two i j x y ihx ihy =>
  intro m listed s N a w hs hn hg hN hN0 hf hS ha hl hk
  cases m with
  | zero=>simp [treeOk] at hs
  | succ m =>
   simp only [treeOk,Bool.and_eq_true] at hs
   obtain ⟨⟨h2,hx⟩,hy⟩:=hs
   have hr:=only2_spec h2
   have hmi:i∈Region.ready .any all listed:=by rcases hr with h | h<;>rw [h]<;>simp
   have hmj:j∈Region.ready .any all listed:=by rcases hr with h | h<;>rw [h]<;>simp
   have si:=step m listed i _ hmi hn hg.1 hN hN0 hf hS ha hl fun s' N' a' w' hc hN' hf' hS' ha' hl'=>ihx m _ hx (by simpa using hn) hc (hN.trans hN') (hN0.trans hN') hf' hS' ha' hl' fun s2 N2 a2 w2 h1 h2=>hk s2 N2 a2 w2 h1 (hN'.trans h2)
   have sj:=step m listed j _ hmj hn hg.2 hN hN0 hf hS ha hl fun s' N' a' w' hc hN' hf' hS' ha' hl'=>ihy m _ hy (by simpa using hn) hc (hN.trans hN') (hN0.trans hN') hf' hS' ha' hl' fun s2 N2 a2 w2 h1 h2=>hk s2 N2 a2 w2 h1 (hN'.trans h2)
   rcases hr with h | h
   ·exact wpF.all h (by simp) fun q hq=>by
     simp only [List.mem_cons,List.not_mem_nil,or_false] at hq
     rcases hq with rfl | rfl
     ·exact si
     ·exact sj
   ·exact wpF.all h (by simp) fun q hq=>by
     simp only [List.mem_cons,List.not_mem_nil,or_false] at hq
     rcases hq with rfl | rfl
     ·exact sj
     ·exact si
theorem X.goTX {P:Program} {fn:Func} {R:Ending→World→Prop} {W:World} {O:Nat→Nat→Prop} {im:Nat→Nat→Option Value} {D:Nat→Nat→Prop} {Rr:World→Prop} {N0:Nums} {B:SchT} {T:Tab} (td:List (Nat × SV)) (tx:List (Nat × Ef)) (hT:TabOk P T) (t:STree) (n:Nat) {id:Nat} {ops:Array Oper} {k:List It} {s:St}
  (hn:fn.ntmps=n) (hsel:Region.noSelect ops=true) (ht:treeOk ops t ops.size (Array.replicate ops.size false)=true)
  (h:∀ (pr:Owe→Prop) (pe:PE) (fin:St→Prop),(∀ q:Owe,q.Ok (mkE P fn R W O im D Rr N0 B).toEnv N0→pr q)→(∀ rg f op r rg',EffOk (mkE P fn R W O im D Rr N0 B).toEnv N0 rg f op r rg'→pe rg f op r rg')→(∀ s',X (mkE P fn R W O im D Rr N0 B) k s'→fin s')→anyX pe pr fin td tx T n ops (dryX td tx T n ops t s) s.rg t s):X (mkE P fn R W O im D Rr N0 B) (.code (.region id ops true)::k) s:=by
 subst hn
 intro N a w hN hf hS
 show _→Code.wp _ _ _ _ _
 intro _
 have hg:=h (Owe.Ok (mkE P fn R W O im D Rr N0 B).toEnv N0) (EffOk (mkE P fn R W O im D Rr N0 B).toEnv N0) (fun s'=>X (mkE P fn R W O im D Rr N0 B) k s') (fun _ h=>h) (fun _ _ _ _ _ h=>h) (fun _ h=>h)
 have hS':Sat (mkE P fn R W O im D Rr N0 B).toEnv N s.rg { w with drawn:=w.drawn+1 }:=hS.drew
 have hwf:=anyX_sound (E:=(mkE P fn R W O im D Rr N0 B).toEnv) hT hsel (PanicOk.sem (fun _ _ d _ _ h=>by cases d<;>exact h) k) _ hS'.vis t _ _ ht (by simp) hg (Nums.le.refl N) hN hf hS' (fun r g hg _=>hg) (Nat.le_refl _) (fun s' N' a' w' h1 h2 h3 h4=>h1 N' a' w' (hN.trans h2) h3 h4)
 exact wp_region_any hT.mixed hwf.any
def treeS:Sch→STree
 | []=>.nil
 | (i,some blk)::r=>.q i blk (treeS r)
 | (i,none)::r=>.one i (treeS r)
theorem treeS_ok {ops:Array Oper}:∀ (sch:Sch) (L:Array Bool),schOk ops sch L=true→treeOk ops (treeS sch) sch.length L=true
 | [],L,h=>by
  simp only [schOk] at h
  simp only [treeS,treeOk,List.length_nil]
  simp [h]
 | (i,some blk)::r,L,h=>by
  simp only [schOk,Bool.and_eq_true] at h
  simp only [treeS,treeOk,List.length_cons,Bool.and_eq_true]
  exact ⟨h.1,treeS_ok r _ h.2⟩
 | (i,none)::r,L,h=>by
  simp only [schOk,Bool.and_eq_true] at h
  simp only [treeS,treeOk,List.length_cons,Bool.and_eq_true]
  exact ⟨h.1,treeS_ok r _ h.2⟩
def runX (pe:PE) (pr:Owe→Prop) (fin:List It→St→Prop) (td:List (Nat × SV)) (tx:List (Nat × Ef)) (T:Tab) (B:SchT) (n:Nat) (rs:List ResultVar):Nat→List It→St→Prop
 | 0,t,s=>fin t s
 | m+1,t,s =>
  match t with
  | .ops all (i::rest)::k=>match effQ tx n all i s with
   | some (f,op,e)=>pe s.rg s.fr op (e.r s.rg) (e.up s.rg)∧runX pe pr fin td tx T B n rs m (.ops all rest::k) ⟨f,e.up s.rg⟩
   | none=>match qP td T n all s.rg i s.fr with
    | some (f,o)=>prL pr o (runX pe pr fin td tx T B n rs m (.ops all rest::k) ⟨f,s.rg⟩)
    | none=>match opE T n all i s with
     | some s'=>runX pe pr fin td tx T B n rs m (.ops all rest::k) s'
     | none=>match pcall td n all i s.fr with
      | some (f,gk,g,l,v)=>pr (.call s.rg gk g l v)∧runX pe pr fin td tx T B n rs m (.ops all rest::k) ⟨f,s.rg⟩
      | none=>fin t s
  | _=>match adv T n rs t s with
   | some (t',s')=>runX pe pr fin td tx T B n rs m t' s'
   | none=>match t with
    | .code c::k=>match c with
     | .region id ops d=>match d with
      | true=>match lookS B id with
       | some sch=>anyX pe pr (fun s'=>runX pe pr fin td tx T B n rs m k s') td tx T n ops (dryX td tx T n ops (treeS sch) s) s.rg (treeS sch) s
       | none=>fin t s
      | false=>fin t s
     | _=>fin t s
    | _=>fin t s
theorem runX_sound {td:List (Nat × SV)} {tx:List (Nat × Ef)} {T:Tab} {B:SchT} {n:Nat} {rs:List ResultVar} (E:Ctx) (e1:E.n=n) (e2:E.B=B) (e3:TabOk E.P T) (e4:PanicOk E.Q):∀ (m:Nat) (t:List It) (s:St),
  runX (EffOk E.toEnv E.N0) (Owe.Ok E.toEnv E.N0) (fun t s=>X E t s) td tx T B n rs m t s→X E t s:=by
 subst e1
 subst e2
 intro m
 induction m with
 | zero=>intro t s h;exact h
 | succ m ih =>
  intro t s h
  simp only [runX] at h
  split at h
  ·rename_i all i rest k
   have there:∀ {α:Type} {y:α} {f:Oper→Option α},(match nth all.toList i with | none=>none | some o=>f o)=some y→∃ op,all[i]?=some op:=fun {α y f} h=>by
    split at h
    ·cases h
    ·rename_i op hop;rw [nth_eq] at hop;exact ⟨op,by simpa using hop⟩
   split at h
   ·rename_i f op e hq
    obtain ⟨hob,h⟩:=h
    have hx:=ih _ _ h
    intro N a w hN hf hS
    show wpOps _ _ _ _ _ _
    obtain ⟨o,ho⟩:=there hq
    obtain ⟨hw,h2⟩:=effQ_sound (E:=E.toEnv) ho hq hob hN hf hS
    rw [wpOps_cons]
    unfold wpOp
    simp only [ho]
    rw [hw,if_pos rfl]
    exact .inl (h2 _ _ fun N' x w' hN' hf' hS'=>hx N' _ w' (hN.trans hN') hf' hS')
   ·split at h
    ·rename_i f o hq
     obtain ⟨hob,h⟩:=prL_spec h
     have hx:=ih _ _ h
     intro N a w hN hf hS
     show wpOps _ _ _ _ _ _
     obtain ⟨op,hop⟩:=there hq
     obtain ⟨v,hv,hfr⟩:=qP_sound e3 hop hq hob hN hf hS.vi
     rw [wpOps_cons]
     unfold wpOp
     simp only [hop]
     rcases hv with ⟨hw,hrun⟩ | ⟨hw,rfl⟩
     ·rw [hw,if_pos rfl]
      exact .inl (wp_of_yields (.inl (hrun w hS.vi)) (hx N _ w hN hfr hS))
     ·rw [hw]
      exact hx N _ w hN hfr hS
    ·split at h
     ·rename_i s1 he
      exact X.opEq e3 ⟨he⟩ (ih _ _ h)
     ·split at h
      ·rename_i f gk g l v hpc
       obtain ⟨hob,h⟩:=h
       have hx:=ih _ _ h
       intro N a w hN hf hS
       show wpOps _ _ _ _ _ _
       obtain ⟨op,hop⟩:=there hpc
       rw [wpOps_cons]
       unfold wpOp
       simp only [hop]
       rcases pcall_sound hop hpc hob hN hf hS with ⟨hw,hy⟩ | ⟨hw,hf'⟩
       ·rw [hw,if_pos rfl]
        exact .inl (hy _ _ fun x w' hf' hS'=>hx N _ w' hN hf' hS')
       ·rw [hw]
        exact hx N _ w hN hf' hS
      ·exact h
  ·split at h
   ·rename_i t1 s1 ha
    exact adv_sound e3 ha (ih _ _ h)
   ·split at h
    ·rename_i c k _
     split at h
     ·rename_i id ops d _
      split at h
      ·split at h
       ·rename_i sch hsch
        intro N a w hN hf hS
        show _→Code.wp _ _ _ _ _
        intro hreg
        simp only [regsB,hsch] at hreg
        have hS':Sat E.toEnv N s.rg { w with drawn:=w.drawn+1 }:=hS.drew
        simp only [anyOk,Bool.and_eq_true] at hreg
        obtain ⟨⟨hn,hlen⟩,hsch'⟩:=hreg
        have hlen:=Nat.eq_of_beq_eq_true hlen
        have:=anyX_sound (E:=E.toEnv) e3 hn (e4.sem _) _ hS'.vis (treeS sch) _ _ (treeS_ok sch _ hsch') (by simp) h (Nums.le.refl N) hN hf hS' (fun r g hg _=>hg) (Nat.le_refl _) (fun s' N' a' w' hx hN' hf' hS'=>ih _ _ hx N' a' w' (hN.trans hN') hf' hS')
        rw [hlen] at this
        exact wp_region_any e3.mixed this.any
       ·exact h
      ·exact h
     ·exact h
    ·exact h
theorem X.goX {P:Program} {fn:Func} {R:Ending→World→Prop} {W:World} {O:Nat→Nat→Prop} {im:Nat→Nat→Option Value} {D:Nat→Nat→Prop} {Rr:World→Prop} {N:Nums} {B:SchT} {T:Tab} (td:List (Nat × SV)) (tx:List (Nat × Ef)) (hT:TabOk P T) (m n:Nat) (hn:fn.ntmps=n) {t:List It} {s:St} {rs:Array ResultVar} (_hrs:fn.results=rs)
  (h:∀ (pr:Owe→Prop) (pe:PE) (fin:List It→St→Prop),(∀ q,q.Ok (mkE P fn R W O im D Rr N B).toEnv N→pr q)→(∀ rg f op r rg',EffOk (mkE P fn R W O im D Rr N B).toEnv N rg f op r rg'→pe rg f op r rg')→(∀ t s,X (mkE P fn R W O im D Rr N B) t s→fin t s)→runX pe pr fin td tx T B n rs.toList m t s):X (mkE P fn R W O im D Rr N B) t s:=by
 subst hn
 exact runX_sound (mkE P fn R W O im D Rr N B) rfl rfl hT (fun _ _ d _ _ h=>by cases d<;>exact h) m t s (h _ _ _ (fun _ h=>h) (fun _ _ _ _ _ h=>h) (fun _ _ h=>h))
theorem EffOk.step {E:Env} {N0:Nums} {T:Tab} (hT:TabOk E.P T) {rg rg':List Rg} {f:Fr} {op:Op} {r:SV} (h:stepE T rg (ev f) op=some (r,rg')):EffOk E N0 rg f op r rg':=by
 intro N a o w hN hop hf hS
 subst hop
 obtain ⟨N',x,w',h1,h2,h3,h4⟩:=stepE_sound hT hS hf h
 exact .inl ⟨x,w',h3,N',h1,h2,h4⟩
theorem EffOk.call {E:Env} {N0:Nums} {rg rg':List Rg} {f:Fr} {g:Nat} {xs:Array Operand} {ts:Array TypeId} {l:List SV} {r:SV} (hl:evL f xs.toList=some l) (hc:∀ args w,(callFunc g args).run E.P w=.ok (.enter g args) w)
  (h:∀ (N:Nums) (w:World) (args:List Value),N0.le N→Sat E N rg w→SV.denL N l=some args→Calls E.P g args.toArray w fun e w'=>∃ v,e=.returned v∧∃ N',N.le N'∧r.den N'=some v∧Sat E N' rg' w') :
  EffOk E N0 rg f (.call { callee:=.value (.func g),args:=xs,argTypes:=ts }) r rg':=by
 intro N ρ o w hN hop hf hS
 have hargs:SV.denL N l=some (xs.toList.map ρ):=by
  have key:∀ (ys:List Operand) {l:List SV},evL f ys=some l→SV.denL N l=some (ys.map ρ):=fun ys=>by
   induction ys with
   | nil=>intro l h;simp only [evL,Option.some.injEq] at h;subst h;rfl
   | cons y ys ih =>
    intro l h
    simp only [evL] at h
    split at h
    ·rename_i v q hv hq
     simp only [Option.some.injEq] at h;subst h
     simp [SV.denL,hf _ _ hv,ih hq]
    ·cases h
  exact key _ hl
 refine .inr ⟨g,(xs.toList.map ρ).toArray,?_,h N w _ hN hS hargs⟩
 have hfn:=hf (.func g) _ rfl
 simp only [SV.den,one?,if_true,Option.some.injEq] at hfn
 simp only [execOp,hop,resolve,←hfn,Deferred.ofValue,Sem.run_bind,Sem.run_pure,Result.andThen,invoke]
 rw [hc]
 congr 2
 apply Array.ext'
 simp
theorem EffOk.fresh {E:Env} {N0:Nums} {rg:List Rg} {f:Fr} {g n sz:Nat} {xs:Array Operand} {ts:Array TypeId} {l:List SV} {cs:List SV} (hl:evL f xs.toList=some l) (hc:∀ args w,(callFunc g args).run E.P w=.ok (.enter g args) w)
  (h:∀ (N:Nums) (w:World) (args:List Value),N0.le N→Sat E N rg w→SV.denL N l=some args→Calls E.P g args.toArray w (FreshRet cs n sz w)) :
  EffOk E N0 rg f (.call { callee:=.value (.func g),args:=xs,argTypes:=ts }) (.osl rg.length 0 n sz none) (rg++[⟨true,cs,none⟩]) :=
 EffOk.call hl hc fun N w args hN hS ha=>(h N w args hN hS ha).mono fun e w' hf=>by
  obtain ⟨p,v,h1,h2,_,h3⟩:=hf.sat hS
  exact ⟨v,h1,_,Nums.le_append _ _,h2,h3⟩
theorem Sat.cells {E:Env} {N:Nums} {rg:List Rg} {w w':World} {r:Nat} {g:Rg} {p:Num} (h:Sat E N rg w) (hg:rg[r]?=some g) (hp:N[r]?=some p) (ho:g.own=true)
  (hc:Chg (fun k o=>k=p.b∧p.o≤o∧o<p.o+p.x) w w') (cs':List SV) (hl:cs'.length≤p.x) (hcs:∀ (j:Nat) (c:SV),cs'[j]?=some c→∃ v,c.den N=some v∧w'.cell? ⟨p.b,p.o+j,none⟩=some v):Sat E N (rg.set r { g with cells:=cs' }) w':=by
 have hrl:r<rg.length:=(List.getElem?_eq_some_iff.1 hg).1
 have hnd:∀ k o,(k=p.b∧p.o≤o∧o<p.o+p.x)→¬E.D k o:=fun k o ⟨e1,e2,e3⟩ hd=>by
  subst e1
  have:=h.dd r g p hg hp ho (o-p.o) (by omega)
  rw [show p.o+(o-p.o)=o by omega] at this
  exact this hd
 have keepD:∀ k o,E.D k o→(w'.cell? ⟨k,o,none⟩=w.cell? ⟨k,o,none⟩∧w'.frozen? ⟨k,o,none⟩=w.frozen? ⟨k,o,none⟩)∧objAt w' k=objAt w k:=fun k o hd=>by
  have hlt:=(h.dlt k o hd).lt
  obtain ⟨x,hx⟩:∃ x,w.heap[k]?=some x:=⟨_,Array.getElem?_eq_getElem hlt⟩
  cases x with
  | cells c e f =>
   obtain ⟨c',h1,h2,h3⟩:=hc.cells k c e f hx
   have h4:=h3 o (fun e=>hnd k o e hd)
   refine ⟨⟨by simp [World.cell?,hx,h1,h4],by simp [World.frozen?,hx,h1]⟩,by simp [objAt,hx,h1]⟩
  | _ =>
   have hne:∀ o',¬(k=p.b∧p.o≤o'∧o'<p.o+p.x):=fun o' ⟨e1,e2,e3⟩=>by
    have:=(h.room r g p hg hp ho (o'-p.o) (by omega)).1
    rw [←e1] at this
    simp [World.cell?,hx] at this
   have e:=hc.same k hlt hne
   exact ⟨⟨by unfold World.cell?;simp only [e],by unfold World.frozen?;simp only [e]⟩,objAt_same e⟩
 refine h.after (m':=E.im) (D':=E.D) (R':=E.R) hc (fun k o _ ⟨e1,e2,e3⟩=>.inl ⟨r,g,p,hg,hp,ho,e1,e2,e3⟩) ⟨fun _ _ _ h=>h,fun k o v hv=>?_,fun _ _ _ h=>.inl h⟩
  (fun k o hd=>⟨.inl hd,(h.dlt k o hd).of (fun hs=>by rw [(keepD k o hd).1.1];exact hs) (keepD k o hd).2⟩) h.loc (h.loc w w' keepD hc.size h.res) (by simp) (fun q x x' pq hq1 hq2 hpq=>?_)
 ·refine cell_of_chg hc (fun ⟨e1,e2,e3⟩=>?_) (h.imm k o v hv)
  have:=h.imd r g p hg hp ho (o-p.o) (by omega)
  rw [show p.o+(o-p.o)=o by omega,←e1,hv] at this
  cases this
 ·rcases get_set hrl hq2 with ⟨rfl,rfl⟩ | ⟨hi,hq2⟩
  ·rw [hg] at hq1;cases hq1
   rw [hp] at hpq;cases hpq
   exact ⟨rfl,rfl,fun e=>(by rw [ho] at e;cases e),fun _=>hl,.inr hcs⟩
  ·rw [hq1] at hq2;cases hq2
   refine ⟨rfl,rfl,fun _=>rfl,fun e=>h.ext q x pq hq1 hpq e,.inl ⟨rfl,fun j hj ⟨e1,e2,e3⟩=>?_⟩⟩
   have hw:j<x.wid pq:=by
    unfold Rg.wid
    cases hxo:x.own with
    | true=>have:=h.ext q x pq hq1 hpq hxo;simp;omega
    | false=>simpa using hj
   rcases h.disj r q g x p pq hg hp hq1 hpq ho (fun e=>hi e.symm) j hw e1 with h1 | h1<;>omega
theorem EffOk.val {E:Env} {N0:Nums} {rg:List Rg} {f:Fr} {op:Op} {r:SV} (h:∀ (N:Nums) (ρ:Operand→Value) (o:Oper) (w:World),N0.le N→o.op=op→(∀ x s,ev f x=some s→s.den N=some (ρ x))→Sat E N rg w→∃ v,r.den N=some v∧(execOp ρ o).run E.P w=.ok (.value v) w):EffOk E N0 rg f op r rg :=
 fun N ρ o w hN hop hf hS=>by
  obtain ⟨v,h1,h2⟩:=h N ρ o w hN hop hf hS
  exact .inl ⟨v,w,.inl h2,N,Nums.le.refl N,h1,hS⟩
def Bnd (f:Fr) (g:GK) (o:Option Operand) (z:Option Nat):Prop:=match o,z with
 | none,none=>True
 | some p,some n=>∃ kd s,evK f g p=some (.int kd s)∧(g.T→s.den=(n:Int))
 | _,_=>False
theorem Bnd.run {N:Nums} {f:Fr} {g:GK} {o:Option Operand} {z:Option Nat} {ρ:Operand→Value} (h:Bnd f g o z) (ht:g.T) (hρ:∀ x s,evK f g x=some s→s.den N=some (ρ x)):(o=none∧z=none)∨∃ k n,o.map ρ=some (.int k (n:Nat))∧z=some n:=by
 cases o with
 | none=>cases z with
  | none=>exact .inl ⟨rfl,rfl⟩
  | some n=>exact h.elim
 | some p=>cases z with
  | none=>exact h.elim
  | some n =>
   obtain ⟨kd,s,h1,h2⟩:=h
   have:=hρ _ _ h1
   simp only [SV.den,h2 ht,Option.some.injEq] at this
   exact .inr ⟨kd,n,by simp [←this],rfl⟩
theorem vk_bin {E:Env} {N0:Nums} {rg:List Rg} {f:Fr} {g:GK} {op:BinOp} {t ty:TypeId} {x y:Operand} {kd:IntKind} {s1 s2:SI} {r r0:SV} (hx:evK f g x=some (.int kd s1)) (hy:evK f g y=some (.int kd s2)) (h:intOp op kd (.v s1.den) (.v s2.den)=some r0) (hd:g.T→∀ N v,r0.den N=some v→r.den N=some v):ValOk E N0 rg f g (.binOp op t x y ty) r:=by
 intro ht N ρ o w hN0 hop hρ hV
 have h1:=hρ _ _ hx
 have h2:=hρ _ _ hy
 simp only [SV.den,Option.some.injEq] at h1 h2
 obtain ⟨v,hv,_⟩:=intOp_sound (P:=E.P) (w:=w) (N:=N) h t
 refine ⟨v,hd ht N v hv,fun w' _=>?_⟩
 obtain ⟨v',hv',hrun⟩:=intOp_sound (P:=E.P) (w:=w') (N:=N) h t
 rw [hv] at hv';cases hv'
 simp only [SI.den] at hrun
 have h3:(do eqGuard op t x y (ρ x) (ρ y);binOp op t (ρ x) (ρ y):Sem Value).run E.P w'=.ok v w':=by
  rw [←h1,←h2]
  simp only [Sem.run_bind]
  rw [eqGuard_none _ _ _ _ (by simp) (by simp)]
  simp [Result.andThen,hrun]
 simp only [execOp,hop]
 rw [Sem.run_bind,h3]
 rfl
theorem putAt_eq {α:Type}:∀ (l:List α) (c:Nat) (s:α),c≤l.length→putAt l c s=l.take c++s::l.drop (c+1)
 | [],c,s,h=>by
  obtain rfl:c=0:=by simpa using h
  rfl
 | a::l,0,s,_=>rfl
 | a::l,c+1,s,h=>by simp [putAt,putAt_eq l c s (by simpa using h)]
theorem setRow_eq:∀ (r l:List SV) (c:Nat),c≤l.length→setRow l c r=l.take c++r++l.drop (c+r.length)
 | [],l,c,_=>by simp [setRow]
 | s::r,l,c,h=>by
  have h2:(l.take c++[s]).length=c+1:=by simp;omega
  have e:putAt l c s=(l.take c++[s])++l.drop (c+1):=by rw [putAt_eq l c s h];simp
  rw [setRow,setRow_eq r _ (c+1) (by rw [e,List.length_append,h2];omega),e,List.take_append_of_le_length (by omega),List.take_of_length_le (by omega),List.drop_append,h2,List.drop_of_length_le (by omega),List.nil_append,List.drop_drop]
  simp only [List.length_cons,List.append_assoc,List.cons_append,List.nil_append]
  congr 4
  omega
theorem Sat.perm {E:Env} {N N':Nums} {rg rg':List Rg} {w:World} (h:Sat E N rg w) (hl:N'.length=rg'.length) (σ:Nat→Nat) (hσ:∀ i j,σ i=σ j→i=j)
  (hm:∀ (i:Nat) (x:Rg) (p:Num),rg'[i]?=some x→N'[i]?=some p→∃ x0,rg[σ i]?=some x0∧N[σ i]?=some p∧x.own=x0.own∧x.cells.length=x0.cells.length∧x.ob=none∧∀ (j:Nat) (c:SV),x.cells[j]?=some c→∃ c0,x0.cells[j]?=some c0∧∀ v,c0.den N=some v→c.den N'=some v):Sat E N' rg' w:=by
 refine { h with len:=hl,lt:=?_,cell:=?_,ext:=?_,room:=?_,disj:=?_,obj:=?_,odisj:=?_,imd:=?_,dd:=?_,foot:=?_ }
 ·intro i p hp
  obtain ⟨x,hx⟩:∃ x,rg'[i]?=some x:=⟨_,List.getElem?_eq_getElem (by have:=(List.getElem?_eq_some_iff.1 hp).1;omega)⟩
  obtain ⟨x0,h1,h2,_⟩:=hm i x p hx hp
  exact h.lt _ _ h2
 ·intro i x p hx hp j c hj
  obtain ⟨x0,h1,h2,_,_,_,h6⟩:=hm i x p hx hp
  obtain ⟨c0,h7,h8⟩:=h6 j c hj
  obtain ⟨v,h9,h10⟩:=h.cell _ _ _ h1 h2 j c0 h7
  exact ⟨v,h8 v h9,h10⟩
 ·intro i x p hx hp ho
  obtain ⟨x0,h1,h2,h3,h4,_,_⟩:=hm i x p hx hp
  rw [h4];exact h.ext _ _ _ h1 h2 (by rw [←h3];exact ho)
 ·intro i x p hx hp ho
  obtain ⟨x0,h1,h2,h3,h4,_,_⟩:=hm i x p hx hp
  exact h.room _ _ _ h1 h2 (by rw [←h3];exact ho)
 ·intro i i' x x' p p' hx hp hx' hp' ho hne j hj hb
  obtain ⟨x0,h1,h2,h3,h4,_,_⟩:=hm i x p hx hp
  obtain ⟨x1,k1,k2,k3,k4,_,_⟩:=hm i' x' p' hx' hp'
  exact h.disj _ _ _ _ _ _ h1 h2 k1 k2 (by rw [←h3];exact ho) (fun e=>hne (hσ _ _ e)) j (by unfold Rg.wid at hj ⊢;rw [←k3,←k4];exact hj) hb
 ·intro i x p ob hx hp ho
  obtain ⟨x0,h1,h2,h3,h4,h5,_⟩:=hm i x p hx hp
  rw [h5] at ho;cases ho
 ·intro i i' x x' p p' hx hp hx' hp' ho _ _
  obtain ⟨x0,h1,h2,h3,h4,h5,_⟩:=hm i x p hx hp
  rw [h5] at ho;cases ho
 ·intro i x p hx hp ho
  obtain ⟨x0,h1,h2,h3,h4,_,_⟩:=hm i x p hx hp
  exact h.imd _ _ _ h1 h2 (by rw [←h3];exact ho)
 ·intro i x p hx hp ho
  obtain ⟨x0,h1,h2,h3,h4,_,_⟩:=hm i x p hx hp
  exact h.dd _ _ _ h1 h2 (by rw [←h3];exact ho)
 ·intro i x p hx hp ho
  obtain ⟨x0,h1,h2,h3,h4,_,_⟩:=hm i x p hx hp
  exact h.foot _ _ _ h1 h2 (by rw [←h3];exact ho)
def CellsTo (N N':Nums):List SV→List SV→Prop
 | [],[]=>True
 | c0::cs0,c::cs=>(∀ v,c0.den N=some v→c.den N'=some v)∧CellsTo N N' cs0 cs
 | _,_=>False
theorem CellsTo.same {N N':Nums}:∀ {cs:List SV},(∀ c∈cs,∀ v,c.den N=some v→c.den N'=some v)→CellsTo N N' cs cs
 | [],_=>trivial
 | c::cs,h=>⟨h c (by simp),CellsTo.same fun c hc=>h c (by simp [hc])⟩
end Go.Eng
