import Derived.Test.YthpbefahaghbjaaGreatRg6
import Derived.Test.YthpbefahaghbjaaGreatWbE
import Derived.Test.YthpbefahaghbjaaGreatRb3
open Bool renaming and_eq_true→aaS,not_eq_true'→aaT
open Go renaming Ending→aag,Operand→aaq
open Go.IntKind renaming wrap→aax,bits→aay,signed→aaz
open Go.Proofs.Tryz renaming prog→aac,results14→aad,results36→aaj,underlying22→aak,sizeOf45→aal,results38→aam,results16→aan,results34→aao,call33→aar,f14→aas,f38→aaH,f16→aaI,call38→aaJ,call37→aaK
open Int renaming toNat_of_nonneg→aaG
open List renaming getElem?_eq_getElem→aae,mem_of_getElem?→aah,getElem?_eq_some_iff→aai,mem_cons→aav,not_mem_nil→aaw,take_add_one→aaC,length_take→aaD,cons_append→aaE,nil_append→aaF,mem_append→aaN,take_of_length_le→aaO,getElem?_take→aaP,all_eq_true→aaQ,getElem?_map→aaR
open Nat renaming zero_le→aaf,zero_lt_succ→aap,add_zero→aau,beq→aaA,eq_of_beq_eq_true→aaB,sub_zero→aaL,le_refl→aaM
set_option maxHeartbeats 16000000
set_option maxRecDepth 100000
set_option cbv.maxSteps 100000000
namespace Go.Proofs.YthpbefahaghbjaaGreat
open Go Go.bU Go.Sort
theorem Va (l:List aI)(p:Option Addr)(c:Nat)(key b1 b2 b3:Int)(w:World)(qt:l.length<=1000)(hs:dC (wm w) p c 13 (l.map aI.toD)) :
  Calls aac 36 #[.slice p l.length c,.int .u8 key,.agg #[.int .u64 b1,.int .u8 b2,.int .u32 b3]] w fun e w'=>e=.returned (.bool (B (kB l key ⟨b1,b2,b3⟩)))/\aW (fun _ _=>False) w w':=by
 obtain⟨q,hq⟩:∃q,q=B (kB l key ⟨b1,b2,b3⟩):=⟨_,rfl⟩;obtain⟨n,hn⟩:∃n,n=l.length:=⟨_,rfl⟩;rw[<-hq,<-hn];refine X.begin (rg:=[]) (N:=[]) (ss:=[.ao p n c,.int .u8 (.v key),.agg [.int .u64 (.v b1),.int .u8 (.v b2),.int .u32 (.v b3)]]) Tryz.func36 rfl SR rfl rfl Sat.bp ?_;obtain⟨im,aV⟩:∃im,im=ab [] [] w:=⟨_,rfl⟩;show X (aK aac Tryz.f36 _ w (bq [] []) (ab [] [] w) (fun _ _=>False) (fun _=>True) [] B36) _ _;rw[<-aV];have KZ:n<=1000:=by omega
 refine X.go nC 400 _ rfl aaj ?_
 conv=>arg 2;cbv
 refine X.gB (fun i:{i:Nat // i<=n/\¬kB (l.take i) key ⟨b1,b2,b3⟩}=>⟨[(0,.val (.ao p n c)),(1,.val (.int .u8 (.v key))),(5,.val (.own 0 0)),(9,.val (.int .i64 (.nat n))),(10,.val (.int .i64 (.nat i.1)))],[⟨true,[.int .u64 (.v b1),.int .u8 (.v b2),.int .u32 (.v b3)],none⟩]⟩) (fun i=>n-i.1) (fun N a w' hN hf hS=>⟨⟨0,aaf _,fun⟨v,h,_⟩=>(by cases h)⟩,?_⟩) (fun i q' cF=>?_)
 ·exact At.eJ hf hS
 obtain⟨i,hi,kE⟩:=i;refine X.go nC 400 _ rfl aaj ?_
 conv=>arg 2;cbv
 refine X.cond rfl (fun aF=>?_) (fun cJ=>?_)
 ·simp only[SB.T,SI.den] at aF
  have aF:(i:Int)<(n:Int):=aF;have aF:i<n:=by omega
  obtain⟨x,hx⟩:∃x,l[i]?=some x:=⟨_,aae (by omega)⟩;obtain⟨b,y,v1,fE,jG,dM⟩:=hs.kM hx;rw[<-aV] at dM;obtain⟨t,rfl,e1,_⟩:=aI.cells jG;have x7:kB (l.take (i+1)) key ⟨b1,b2,b3⟩->x.key=key/\x.b=⟨b1,b2,b3⟩:=fun⟨v,h1,h2⟩=>by
   rw[aaC,hx] at h1;rcases aaN.1 h1 with h1|h1
   ·exact absurd ⟨v,h1,h2⟩ kE
   ·simp only[Option.toList_some,List.mem_singleton] at h1;subst h1
    exact h2
  have jH:x.key=key/\x.b=⟨b1,b2,b3⟩->q=true:=fun h=>by
   rw[hq];exact bP ⟨x,aah hx,h⟩
  rw[e1] at x7 jH;simp only[bW.mk.injEq] at x7 jH;obtain⟨k1,c1,c2,c3,⟨gk,gi,gs,gl,q1,q2,q3,q4,m1,m2,m3,m4,f1,f2,f3,f4⟩,ta⟩:=t;simp only at x7 jH;obtain⟨z1,jq⟩:∃z,z=y+i*13:=⟨_,rfl⟩;rw[<-jq] at dM;refine X.eL b z1 (aL.cH ⟨k1,c1,c2,c3,⟨gk,gi,gs,gl,q1,q2,q3,q4,m1,m2,m3,m4,f1,f2,f3,f4⟩,ta⟩) (eh dM rfl) (aap _) (fun N1 dQ dX=>?_);have tc:(N1++[(⟨b,z1,0⟩:aS)])[1]?=some ⟨b,z1,0⟩:=ax dX;have vo:∀{E:Env} {N0:af} {rg:List Rg} {f:Fr} {g:GK} {x ix:aaq} {kd:IntKind} {s:SI},hY f g x=some (.ao p n c)->hY f g ix=some (.int kd s)->E.P=aac->N0=(N1++[(⟨b,z1,0⟩:aS)])->s=.nat i->au E N0 rg f g (.indexAddr 27 x ix) (.own 1 0):=fun k1 k2 k3 k4 k5=>by subst k4 k5;exact au.row k1 k2 (fun _=>rfl) (by rw[k3];exact Tryz.underlying27) (by rw[k3];exact Tryz.sizeOf49) aF fE tc rfl jq
  refine X.dk ([(15,.own 1 0),(23,.own 1 0)]) nC 400 _ rfl aaj (fun pr fin aj ai=>?_)
  conv=>cbv
  refine⟨aj _ (vo rfl rfl rfl rfl rfl),aj _ (vo rfl rfl rfl rfl rfl),ai _ _ ?_⟩;clear aj ai vo;refine X.cond rfl (fun hT=>?_) (fun hF=>?_)
  ·simp only[SB.T,SB.F,SI.den] at hT
   refine X.go nC 400 _ rfl aaj ?_
   conv=>arg 2;cbv
   refine X.done nC rfl (fun N w' v hN hS hv=>⟨aw hv ?_,hS.aM.none⟩);rw[jH (by simpa using hT)];rfl
  ·simp only[SB.T,SB.F,SI.den] at hF
   refine X.go nC 400 _ rfl aaj ?_
   conv=>arg 2;cbv
   refine X.back (fun N a w' hN hf hS=>cF ⟨i+1,by omega,fun h=>?_⟩ a w' (by simp only;omega) ?_)
   ·have:=x7 h
    grind
   exact At.eJ hf hS
 simp only[SB.F,SI.den] at cJ;have cJ:(n:Int)<=(i:Int):=cJ;refine X.go nC 400 _ rfl aaj ?_
 conv=>arg 2;cbv
 refine X.done nC rfl (fun N w' v hN hS hv=>⟨aw hv ?_,hS.aM.none⟩);rw[aaO (by omega)] at kE;rw[hq,b_ kE];rfl
theorem oV (t:cy)(x:aO)(w:World)(ht:t.Of (wm w) x)(hx:x.Ok) :
  Calls aac 33 #[.agg t.aN.toArray] w fun e w'=>e=.returned (.bool (B x.cnt))/\aW (fun _ _=>False) w w':=by
 obtain⟨e1,e2,e3,e4,e5,e6,e7,e8⟩:=ht.e;have ho:=dC.yj (w:=w) ht.o fun _ _ _ h=>h
 have hn:=dC.yj (w:=w) ht.n fun _ _ _ h=>h
 have iC:=fun w1 (ct:∀k o v,ab [] [] w k o=some v->w1.cell? ⟨k,o,none⟩=some v)=>yE x.c.c.toNat t.op t.np x.c.c_.length x.c.new.length t.oc t.nc x.c.c_.toArray x.c.new.toArray w1 (by have:=hx.co.1;omega) (by have:=hx.cn.1;omega) (ho.im ct) (hn.im ct)
 have HI:((x.c.c.toNat:Nat):Int)=t.cc:=by rw[e2];exact aaG hx.c0
 rw[HI,<-e3,<-e4] at iC;obtain⟨mb,VB⟩:∃b,b=B (kG x.c.c.toNat x.c.c_.toArray x.c.new.toArray):=⟨_,rfl⟩;rw[<-VB] at iC;obtain⟨q,hq⟩:∃q,q=B x.cnt:=⟨_,rfl⟩;have iB:q=true↔(t.node<64/\t.key<16/\t.has=true/\¬(t.a1=0/\t.a2=0/\t.a3=0)/\mb=true):=by
  rw[hq,cT,VB,cT];unfold aO.cnt;rw[<-e1,<-e5,<-e6,e7];simp[cO.P_]
 rw[<-hq];clear ht hx ho hn VB HI e1 e2 e3 e4 e5 e6 e7 e8 hq;obtain⟨nd,cc,op,on,oc,np,nn,nc,ky,hs,s1,s2,s3,a1,a2,a3,⟨gk,gi,gs,gl,q1,q2,q3,q4,m1,m2,m3,m4,f1,f2,f3,f4⟩,ta⟩:=t;refine X.begin (rg:=[]) (N:=[]) (ss:=[.agg (cy.cH ⟨nd,cc,op,on,oc,np,nn,nc,ky,hs,s1,s2,s3,a1,a2,a3,⟨gk,gi,gs,gl,q1,q2,q3,q4,m1,m2,m3,m4,f1,f2,f3,f4⟩,ta⟩)]) Tryz.func33 rfl SO rfl rfl Sat.bp ?_;refine X.iA ([(26,.bool (.v mb))]) ([]) JE 400 _ rfl Tryz.results33 (fun pr pe fin aj bm ai=>?_)
 conv=>cbv
 refine⟨aj _ (.of Tryz.call65 [.agg _] (.bool mb) (fun _=>rfl) (fun _=>rfl) fun _ w1 bI=>iC w1 bI),ai _ _ ?_⟩;clear aj bm ai;refine X.done JE rfl (fun N w' v hN hS hv=>⟨aw hv ?_,hS.aM.none⟩);simp only[SB.den,SI.den];rw[Bool.eq_iff_iff,iB];simp
 grind
structure fQ (M:Mem) (po:Option Addr) (l:List aO) (ts:List cy):Prop where
 len:ts.length=l.length
 row:∀(i:Nat) (x:aO),l[i]?=some x->∃t b y,ts[i]?=some t/\t.Of M x/\po=some ⟨b,y,none⟩/\∀(j:Nat) (v:Value),t.aN[j]?=some v->M b (y+i*21+j)=some v
theorem fQ.mono {M M':Mem}{po:Option Addr}{l:List aO}{ts:List cy}(h:fQ M po l ts)(hM:∀k o v,M k o=some v->M' k o=some v):fQ M' po l ts:=⟨h.len,fun i x hx=>by
 obtain⟨t,b,y,h1,h2,h3,h4⟩:=h.row i x hx;exact⟨t,b,y,h1,h2.mono hM,h3,fun j v hj=>hM _ _ _ (h4 j v hj)⟩⟩
theorem fQ.take {M:Mem}{po:Option Addr}{l:List aO}{ts:List cy}(h:fQ M po l ts)(m:Nat):fQ M po (l.take m) (ts.take m):=⟨by rw[aaD,aaD,h.len],fun i x hx=>by
 rw[aaP] at hx
 split at hx
 ·rename_i ct
  obtain⟨t,b,y,h1,h2⟩:=h.row i x hx;exact⟨t,b,y,by rw[aaP,if_pos ct];exact h1,h2⟩
 ·cases hx⟩
theorem QA {M:Mem}{po:Option Addr}{c:Nat}{l:List aO}(hs:dC M po c 21 (l.map aO.toD)):∃ts,fQ M po l ts:=by
 have h:∀i,∃t:cy,∀x,l[i]?=some x->∃b y,t.Of M x/\po=some ⟨b,y,none⟩/\∀(j:Nat) (v:Value),t.aN[j]?=some v->M b (y+i*21+j)=some v:=fun i=>by
  cases hx:l[i]? with
  |none=>exact⟨⟨0,0,none,0,0,none,0,0,0,false,0,0,0,0,0,0,GV,0⟩,fun x h=>by cases h⟩
  |some x =>
   obtain⟨b,y,vs,h1,h2,h3⟩:=hs.row (i:=i) (d:=x.toD) (by simp[hx]);obtain⟨t,rfl,h4⟩:=aO.cells h2;exact⟨t,fun x' iD=>by cases iD;exact⟨b,y,h4,h1,h3⟩⟩
 obtain⟨g,hg⟩:=Classical.axiomOfChoice h;refine⟨(List.range l.length).map g,by simp,fun i x hx=>?_⟩;obtain⟨b,y,h1,h2,h3⟩:=hg i x hx;have:=(aai.1 hx).1;exact⟨g i,b,y,by simp[this],h1,h2,h3⟩
theorem fQ.cH {M:Mem}{b z:Nat}{t:cy}(h:∀(j:Nat) (v:Value),t.aN[j]?=some v->M b (z+j)=some v)(j:Nat)(c:SV)(hj:t.cH[j]?=some c):∃v,c.den []=some v/\M b (z+j)=some v:=by
 have hd:SV.ap [] t.cH=some t.aN:=rfl;obtain⟨_,k2⟩:=SV.aP (N:=[]) t.cH hd;obtain⟨v,k3,k4⟩:=k2 j c hj;exact⟨v,k3,h j v k4⟩
theorem Gd {t:cy}{x:aO}{M:Mem}(h:t.Of M x)(key b1 b2 b3:Int):x.sG key ⟨b1,b2,b3⟩↔B x.cnt=true/\t.key=key/\t.a1=b1/\t.a2=b2/\t.a3=b3:=by
 obtain⟨_,_,_,_,e5,_,e7,_⟩:=h.e;unfold aO.sG;rw[cT,e5,e7];simp
theorem Kl (l:List aO)(ts:List cy)(po:Option Addr)(cp:Nat)(key b1 b2 b3:Int)(i0:Nat)(f:aO)(t0:cy)(w:World)(hs:fQ (wm w) po l ts)(dm:∀x∈l,x.Ok)(HN:l.length<=60)(hf:l[i0]?=some f)(W1:ts[i0]?=some t0)(Vr:f.sG key ⟨b1,b2,b3⟩)(kE:∀j,j<i0->∀x,l[j]?=some x->¬x.sG key ⟨b1,b2,b3⟩) :
  Calls aac 34 #[.slice po l.length cp,.int .u8 key,.agg #[.int .u64 b1,.int .u8 b2,.int .u32 b3]] w fun e w'=>e=.returned (.agg t0.aN.toArray)/\aW (fun _ _=>False) w w':=by
 obtain⟨Q,hQ⟩:∃Q:aag->World->Prop,Q=fun e w'=>e=.returned (.agg t0.aN.toArray)/\aW (fun _ _=>False) w w':=⟨_,rfl⟩
 rw[<-hQ];obtain⟨n,hn⟩:∃n,n=l.length:=⟨_,rfl⟩;have tg:i0<n:=by rw[hn];exact(aai.1 hf).1
 rw[<-hn];refine X.begin (rg:=[]) (N:=[]) (ss:=[.ao po n cp,.int .u8 (.v key),.agg [.int .u64 (.v b1),.int .u8 (.v b2),.int .u32 (.v b3)]]) Tryz.func34 rfl SP rfl rfl Sat.bp ?_;obtain⟨im,aV⟩:∃im,im=ab [] [] w:=⟨_,rfl⟩;have ct:∀k o v,bU.wm w k o=some v->im k o=some v:=fun k o v h=>by rw[aV];exact kM h
 have Ng:=hs.mono ct;show X (aK aac Tryz.f34 Q w (bq [] []) (ab [] [] w) (fun _ _=>False) (fun _=>True) [] B34) _ _;rw[<-aV];refine X.go sM 400 _ rfl aao ?_
 conv=>arg 2;cbv
 refine X.gB (fun i:{i:Nat // i<=i0}=>⟨[(0,.val (.ao po n cp)),(1,.val (.int .u8 (.v key))),(5,.val (.own 0 0)),(6,.val (.own 1 0)),(9,.val (.int .i64 (.nat n))),(10,.val (.int .i64 (.nat i.1)))],[⟨true,[.int .u64 (.v b1),.int .u8 (.v b2),.int .u32 (.v b3)],none⟩,⟨true,A9.zero,none⟩]⟩) (fun i=>n-i.1) (fun N a w' hN hf hS=>⟨⟨0,aaf _⟩,?_⟩) (fun i q' cF=>?_)
 ·exact At.eJ hf hS
 obtain⟨i,hi⟩:=i;refine X.go sM 400 _ rfl aao ?_
 conv=>arg 2;cbv
 refine X.cond rfl (fun aF=>?_) (fun cJ=>?_)
 ·clear aF
  have aF:i<n:=by omega
  obtain⟨x,hx⟩:∃x,l[i]?=some x:=⟨_,aae (by omega)⟩;obtain⟨t,b,y,VU,Ck,fE,dM⟩:=Ng.row i x hx;have uy:=fun(w1:World) (bI:∀k o v,im k o=some v->w1.cell? ⟨k,o,none⟩=some v)=>oV t x w1 (Ck.mono bI) (dm x (aah hx))
  obtain⟨cb,sE⟩:∃c,c=B x.cnt:=⟨_,rfl⟩;have hh:=Gd Ck key b1 b2 b3;rw[<-sE] at uy hh;have jH:i=i0->x.sG key ⟨b1,b2,b3⟩/\t=t0:=fun h=>by
   subst h;rw[hf] at hx;cases hx;rw[W1] at VU;cases VU;exact⟨Vr,rfl⟩
  have EB:i≠i0->¬x.sG key ⟨b1,b2,b3⟩:=fun h=>kE i (by omega) x hx
  rw[hh] at jH EB;obtain⟨z1,jq⟩:∃z,z=y+i*21:=⟨_,rfl⟩;rw[<-jq] at dM;obtain⟨nd,cc,op,on,oc,np,nn,nc,ky,ml,s1,s2,s3,a1,a2,a3,⟨gk,gi,gs,gl,q1,q2,q3,q4,m1,m2,m3,m4,f1,f2,f3,f4⟩,ta⟩:=t;simp only at jH EB;refine X.eL b z1 (cy.cH ⟨nd,cc,op,on,oc,np,nn,nc,ky,ml,s1,s2,s3,a1,a2,a3,⟨gk,gi,gs,gl,q1,q2,q3,q4,m1,m2,m3,m4,f1,f2,f3,f4⟩,ta⟩) (fQ.cH dM) (aap _) (fun N1 dQ dX=>?_);have tc:(N1++[(⟨b,z1,0⟩:aS)])[2]?=some ⟨b,z1,0⟩:=ax dX;have vo:∀{E:Env} {N0:af} {rg:List Rg} {f:Fr} {g:GK} {x ix:aaq} {kd:IntKind} {s:SI},hY f g x=some (.ao po n cp)->hY f g ix=some (.int kd s)->E.P=aac->N0=(N1++[(⟨b,z1,0⟩:aS)])->s=.nat i->au E N0 rg f g (.indexAddr 22 x ix) (.own 2 0):=fun k1 k2 k3 k4 k5=>by subst k4 k5;exact au.row k1 k2 (fun _=>rfl) (by rw[k3];exact aak) (by rw[k3];exact aal) aF fE tc rfl jq
  refine X.dk ([(15,.own 2 0),(17,.bool (.v cb)),(21,.own 2 0),(30,.own 2 0)]) sM 400 _ rfl aao (fun pr fin aj ai=>?_)
  conv=>cbv
  refine⟨aj _ (vo rfl rfl rfl rfl rfl),aj _ (vo rfl rfl rfl rfl rfl),aj _ (.of aar [.agg _] (.bool cb) (fun _=>rfl) (fun _=>rfl) fun _ w1 bI=>uy w1 bI),aj _ (vo rfl rfl rfl rfl rfl),ai _ _ ?_⟩;clear aj ai;refine X.cond rfl (fun hT=>?_) (fun hF=>?_)
  ·simp only[SB.T,SB.F,SI.den] at hT
   refine X.dk ([(39,.own 2 0)]) sM 400 _ rfl aao (fun pr fin aj ai=>?_)
   conv=>cbv
   refine⟨aj _ (vo rfl rfl rfl rfl rfl),ai _ _ ?_⟩;clear aj ai vo;refine X.done sM rfl (fun N w' v hN hS hv=>?_);have hii:i=i0:=Classical.byContradiction fun h=>EB h ⟨hT.1.1,hT.1.2,hT.2⟩
   obtain⟨_,he⟩:=jH hii;have h2:(bz [SV.agg (cy.cH ⟨nd,cc,op,on,oc,np,nn,nc,ky,ml,s1,s2,s3,a1,a2,a3,⟨gk,gi,gs,gl,q1,q2,q3,q4,m1,m2,m3,m4,f1,f2,f3,f4⟩,ta⟩)]).den N=some (.agg (cy.aN ⟨nd,cc,op,on,oc,np,nn,nc,ky,ml,s1,s2,s3,a1,a2,a3,⟨gk,gi,gs,gl,q1,q2,q3,q4,m1,m2,m3,m4,f1,f2,f3,f4⟩,ta⟩).toArray):=rfl;have h3:some (Value.agg (cy.aN ⟨nd,cc,op,on,oc,np,nn,nc,ky,ml,s1,s2,s3,a1,a2,a3,⟨gk,gi,gs,gl,q1,q2,q3,q4,m1,m2,m3,m4,f1,f2,f3,f4⟩,ta⟩).toArray)=some v:=by rw[<-h2];exact hv
   rw[hQ,<-he];exact⟨by rw[Option.some.inj h3],hS.aM.none⟩
  ·simp only[SB.T,SB.F,SI.den] at hF
   refine X.go sM 400 _ rfl aao ?_
   conv=>arg 2;cbv
   refine X.back (fun N a w' hN hf hS=>cF ⟨i+1,?_⟩ a w' (by simp only;omega) ?_)
   ·have h1:i≠i0:=fun h=>by
     have:=(jH h).1
     grind
    omega
   exact At.eJ hf hS
 exfalso;simp only[SB.F,SI.den] at cJ;have cJ:(n:Int)<=(i:Int):=cJ;omega
theorem LF (l:List aO)(ts:List cy)(po:Option Addr)(cp:Nat)(key b1 b2 b3:Int)(w:World)(hs:fQ (wm w) po l ts)(dm:∀x∈l,x.Ok)(HN:l.length<=60) :
  Calls aac 38 #[.slice po l.length cp,.int .u8 key,.agg #[.int .u64 b1,.int .u8 b2,.int .u32 b3]] w fun e w'=>e=.returned (.int .u64 (cg l key ⟨b1,b2,b3⟩))/\aW (fun _ _=>False) w w':=by
 obtain⟨Q,hQ⟩:∃Q:aag->World->Prop,Q=fun e w'=>e=.returned (.int .u64 (cg l key ⟨b1,b2,b3⟩))/\aW (fun _ _=>False) w w':=⟨_,rfl⟩
 rw[<-hQ];obtain⟨K64,U2⟩:∃k,k=2 ^ 64:=⟨_,rfl⟩;obtain⟨n,hn⟩:∃n,n=l.length:=⟨_,rfl⟩;rw[<-hn];refine X.begin (rg:=[]) (N:=[]) (ss:=[.ao po n cp,.int .u8 (.v key),.agg [.int .u64 (.v b1),.int .u8 (.v b2),.int .u32 (.v b3)]]) Tryz.func38 rfl SU rfl rfl Sat.bp ?_;obtain⟨im,aV⟩:∃im,im=ab [] [] w:=⟨_,rfl⟩;have ct:∀k o v,bU.wm w k o=some v->im k o=some v:=fun k o v h=>by rw[aV];exact kM h
 have Ng:=hs.mono ct;show X (aK aac aaH Q w (bq [] []) (ab [] [] w) (fun _ _=>False) (fun _=>True) [] B38) _ _;rw[<-aV];have VE:n<=60:=by omega
 refine X.go qe 400 _ rfl aam ?_
 conv=>arg 2;cbv
 refine X.gB (fun i:{i:Nat × Nat // i.1<=n/\i.2=cg (l.take i.1) key ⟨b1,b2,b3⟩/\i.2<K64}=>⟨[(0,.val (.ao po n cp)),(1,.val (.int .u8 (.v key))),(5,.val (.own 0 0)),(7,.val (.int .u64 (.nat i.1.2))),(10,.val (.int .i64 (.nat n))),(11,.val (.int .i64 (.nat i.1.1)))],[⟨true,[.int .u64 (.v b1),.int .u8 (.v b2),.int .u32 (.v b3)],none⟩]⟩) (fun i=>n-i.1.1) (fun N a w' hN hf hS=>⟨⟨(0,0),aaf _,rfl,by rw[U2];decide⟩,?_⟩) (fun i q' cF=>?_)
 ·exact At.eJ hf hS
 obtain⟨⟨i,m⟩,hi,hm,VA⟩:=i;simp only at hi hm VA;show X (aK aac aaH Q w (bq [] []) im (fun _ _=>False) (fun _=>True) [] B38) _ ⟨[(0,.val (.ao po n cp)),(1,.val (.int .u8 (.v key))),(5,.val (.own 0 0)),(7,.val (.int .u64 (.nat m))),(10,.val (.int .i64 (.nat n))),(11,.val (.int .i64 (.nat i)))],[⟨true,[.int .u64 (.v b1),.int .u8 (.v b2),.int .u32 (.v b3)],none⟩]⟩;refine X.go qe 400 _ rfl aam ?_
 conv=>arg 2;cbv
 refine X.cond rfl (fun aF=>?_) (fun cJ=>?_)
 ·simp only[SB.T,SI.den] at aF
  have aF:(i:Int)<(n:Int):=aF;have aF:i<n:=by omega
  obtain⟨x,hx⟩:∃x,l[i]?=some x:=⟨_,aae (by omega)⟩;obtain⟨t,b,y,VU,Ck,fE,dM⟩:=Ng.row i x hx;have od:=dm x (aah hx);have uy:=fun(w1:World) (bI:∀k o v,im k o=some v->w1.cell? ⟨k,o,none⟩=some v)=>oV t x w1 (Ck.mono bI) od
  obtain⟨cb,sE⟩:∃c,c=B x.cnt:=⟨_,rfl⟩;have hh:=Gd Ck key b1 b2 b3;rw[<-sE] at uy hh;obtain⟨Wk,YS⟩:∃k,k=x.node.toNat:=⟨_,rfl⟩;have Rw:t.node=(Wk:Int):=by rw[Ck.e.1,YS];exact(aaG od.nd).symm
  have YJ:cb=true->Wk<64:=fun h=>by
   rw[sE,cT] at h;have:=h.1;omega
  have x7:cg (l.take (i+1)) key ⟨b1,b2,b3⟩=@ite _ (x.sG key ⟨b1,b2,b3⟩) (Classical.propDecidable _) (m |||2 ^ Wk) m:=by
   rw[aaC,hx];show cg (l.take i++[x]) key ⟨b1,b2,b3⟩=_;rw[mN,<-hm,YS]
  obtain⟨z1,jq⟩:∃z,z=y+i*21:=⟨_,rfl⟩;rw[<-jq] at dM;obtain⟨nd,cc,op,on,oc,np,nn,nc,ky,ml,s1,s2,s3,a1,a2,a3,⟨gk,gi,gs,gl,q1,q2,q3,q4,m1,m2,m3,m4,f1,f2,f3,f4⟩,ta⟩:=t;simp only at hh Rw;refine X.eL b z1 (cy.cH ⟨nd,cc,op,on,oc,np,nn,nc,ky,ml,s1,s2,s3,a1,a2,a3,⟨gk,gi,gs,gl,q1,q2,q3,q4,m1,m2,m3,m4,f1,f2,f3,f4⟩,ta⟩) (fQ.cH dM) (aap _) (fun N1 dQ dX=>?_);have tc:(N1++[(⟨b,z1,0⟩:aS)])[1]?=some ⟨b,z1,0⟩:=ax dX;have vo:∀{E:Env} {N0:af} {rg:List Rg} {f:Fr} {g:GK} {x ix:aaq} {kd:IntKind} {s:SI},hY f g x=some (.ao po n cp)->hY f g ix=some (.int kd s)->E.P=aac->N0=(N1++[(⟨b,z1,0⟩:aS)])->s=.nat i->au E N0 rg f g (.indexAddr 22 x ix) (.own 1 0):=fun k1 k2 k3 k4 k5=>by subst k4 k5;exact au.row k1 k2 (fun _=>rfl) (by rw[k3];exact aak) (by rw[k3];exact aal) aF fE tc rfl jq
  refine X.dk ([(16,.own 1 0),(18,.bool (.v cb)),(22,.own 1 0),(31,.own 1 0)]) qe 400 _ rfl aam (fun pr fin aj ai=>?_)
  conv=>cbv
  refine⟨aj _ (vo rfl rfl rfl rfl rfl),aj _ (vo rfl rfl rfl rfl rfl),aj _ (.of aar [.agg _] (.bool cb) (fun _=>rfl) (fun _=>rfl) fun _ w1 bI=>uy w1 bI),aj _ (vo rfl rfl rfl rfl rfl),ai _ _ ?_⟩;clear aj ai;refine X.cond rfl (fun hT=>?_) (fun hF=>?_)
  ·simp only[SB.T,SI.den] at hT
   have ye:=YJ hT.1.1;have U0:2 ^ Wk<2 ^ 64:=Nat.pow_lt_pow_right (by decide) ye;have KV:m<2 ^ 64:=by rw[<-U2];exact VA
   have Gf:m |||2 ^ Wk<K64:=by rw[U2];exact Nat.or_lt_two_pow KV U0
   have Re:=uI m (2 ^ Wk) KV U0;obtain⟨p2,fU⟩:∃k,k=2 ^ Wk:=⟨_,rfl⟩;rw[<-fU] at Re Gf x7;clear U0 KV;rw[if_pos (hh.2 ⟨hT.1.1,hT.1.2,hT.2⟩)] at x7;obtain⟨m2,fM⟩:∃k,k=m |||p2:=⟨_,rfl⟩
   refine X.dk ([(41,.own 1 0),(44,.int .u64 (.nat p2)),(45,.int .u64 (.nat m2))]) qe 400 _ rfl aam (fun pr fin aj ai=>?_)
   conv=>cbv
   refine⟨aj _ (Bp rfl rfl rfl fun _ N v hv=>by rw[<-hv];show some (Value.int .u64 ((m2:Nat):Int))=some (Value.int .u64 (ig .or .u64 m p2));rw[Re,fM]),aj _ (by rw[fU];exact sA rfl rfl rfl rfl (fun _=>Rw) ye),aj _ (vo rfl rfl rfl rfl rfl),ai _ _ ?_⟩;clear aj ai vo;refine X.back (fun N a w' hN hf hS=>cF ⟨(i+1,m2),by show i+1<=n;omega,by rw[fM];exact x7.symm,by rw[fM];exact Gf⟩ a w' (by simp only;omega) ?_);exact At.eJ hf hS
  ·simp only[SB.F,SI.den] at hF
   rw[if_neg (fun h=>by have:=hh.1 h;grind)] at x7;refine X.go qe 400 _ rfl aam ?_
   conv=>arg 2;cbv
   refine X.back (fun N a w' hN hf hS=>cF ⟨(i+1,m),by show i+1<=n;omega,x7.symm,VA⟩ a w' (by simp only;omega) ?_);exact At.eJ hf hS
 simp only[SB.F,SI.den] at cJ;have cJ:(n:Int)<=(i:Int):=cJ;refine X.go qe 400 _ rfl aam ?_
 conv=>arg 2;cbv
 refine X.done qe rfl (fun N w' v hN hS hv=>?_);rw[aaO (by omega)] at hm;rw[hQ,<-hm];exact⟨bB hv rfl,hS.aM.none⟩
def jO (L:List aL):List SV:=(L.map aL.cH).flatten
theorem mX (L:List aL)(x:aL):jO (L++[x])=jO L++x.cH:=by simp[jO]
theorem G7 {L:List aL}{c:SV}(h:c∈jO L):(∃k z,c=.int k (.v z))\/∃p n m,c=.ao p n m:=by
 obtain⟨r,h1,h2⟩:=List.mem_flatten.1 h;obtain⟨x,_,rfl⟩:=List.mem_map.1 h1;simp only[aL.cH,cQ.cH,aav,aaN,aaw,or_false] at h2;rcases h2 with h|h|h|h|(h|h|h|h|h|h|h|h)|h<;>subst h<;>first|exact .inl ⟨_,_,rfl⟩|exact .inr ⟨_,_,_,rfl⟩
theorem jf {L:List aL}{m:Nat}:(jO L).all (bd m)=true:=aaQ.2 fun c hc=>by
 rcases G7 hc with ⟨k,z,rfl⟩|⟨p,n,q,rfl⟩<;>rfl
theorem lq {L:List aL}{a b:Nat}:(jO L).all (SV.uM a b)=true:=aaQ.2 fun c hc=>by
 rcases G7 hc with ⟨k,z,rfl⟩|⟨p,n,q,rfl⟩<;>rfl
theorem A8 (N:af):∀L:List aL,SV.ap N (jO L)=some (kL L)
 | []=>rfl
 |x::L=>by
  have:=SV.dz (N:=N) x.cH (jO L) (aL.uX x N) (A8 N L)
  simpa[jO,kL] using this
theorem mY (L:List aL):(jO L).length=L.length*13:=by
 rw[<-(SV.aP _ (A8 [] L)).1,gN]
theorem G6 {L:List aL}{j:Nat}{v:Value}(h:(kL L)[j]?=some v):∃c,(jO L)[j]?=some c/\∀N,c.den N=some v:=by
 have hj:=(aai.1 h).1;obtain⟨c,hc⟩:∃c,(jO L)[j]?=some c:=⟨_,aae (by rw[mY,<-gN];exact hj)⟩;refine⟨c,hc,fun N=>?_⟩;obtain⟨u,h1,h2⟩:=(SV.aP _ (A8 N L)).2 j c hc;rw[h] at h2;cases h2;exact h1
structure eI (M:Mem) (L:List aL) (l:List aI):Prop where
 len:L.length=l.length
 row:∀(j:Nat) (x:aI),l[j]?=some x->∃t,L[j]?=some t/\az M x.toD t.aN
theorem eI.nil {M:Mem}:eI M [] []:=⟨rfl,fun j x h=>by simp at h⟩
theorem eI.add {M:Mem}{L:List aL}{l:List aI}{t:aL}{x:aI}(h:eI M L l)(hx:az M x.toD t.aN):eI M (L++[t]) (l++[x]):=⟨by simp[h.len],fun j y hj=>by
 rw[List.getElem?_append] at hj ⊢;rw[h.len]
 split at hj
 ·rename_i aF
  rw[if_pos aF];exact h.row j y hj
 ·rename_i aF
  rw[if_neg aF];have:=(aai.1 hj).1;simp at this;have h0:j-l.length=0:=by omega
  rw[h0] at hj ⊢;simp only[List.getElem?_cons_zero,aA] at hj ⊢;subst hj;exact⟨t,rfl,hx⟩⟩
theorem eI.mono {M M':Mem}{L:List aL}{l:List aI}(h:eI M L l)(hM:∀k o v,M k o=some v->M' k o=some v):eI M' L l:=⟨h.len,fun j x hj=>by
 obtain⟨t,h1,h2⟩:=h.row j x hj;exact⟨t,h1,h2.mono hM⟩⟩
theorem eI.slr {M:Mem}{L:List aL}{l:List aI}{b y c:Nat}(h:eI M L l)(hc:l.length<=c)(hm:l.length<=1000)(hA:∀(j:Nat) (v:Value),(kL L)[j]?=some v->M b (y+j)=some v):dC M (some ⟨b,y,none⟩) c 13 (l.map aI.toD):=by
 refine dC.of (K:=13) (bC:=L.map aL.aN) hc (by rw[dt];omega) (by simp[h.len]) (fun j x hj=>?_) (fun _=>⟨b,y,rfl,fun j vs hj k v hk=>?_⟩)
 ·obtain⟨t,h1,h2⟩:=h.row j x hj
  exact⟨t.aN,by rw[aaR,h1];rfl,h2⟩
 ·rw[aaR,Option.map_eq_some_iff] at hj
  obtain⟨t,ht,rfl⟩:=hj;rw[Nat.add_assoc];exact hA _ _ (s5 ht hk)
theorem v_ {E:Env}(hE:E.P=aac){N0:af}{rg:List Rg}{k:GK}{r m:Nat}{L:List aL}{l:List aI}{sx:SV}{key b1 b2 b3:Int}{hb:Bool}(hr:rg[r]?=some ⟨true,jO L,none⟩)(hL:eI E.im L l)(hm:l.length=m)(dM:m<=1000)(pQ:sx=eV r m 13)(pE:hb=B (kB l key ⟨b1,b2,b3⟩)) :
  nz E N0 rg k 36 [sx,.int .u8 (.v key),.agg [.int .u64 (.v b1),.int .u8 (.v b2),.int .u32 (.v b3)]] (.bool (.v hb)):=fun _=>⟨by rw[hE];exact Tryz.call36,fun N w args hN hS ha=>by
 obtain⟨p,hp⟩:∃p,N[r]?=some p:=⟨_,aae (by rw[hS.len];exact(aai.1 hr).1)⟩;obtain⟨v,hv⟩:∃v,sx.den N=some v:=by
  cases hd:sx.den N with
  |none=>simp[SV.ap,hd] at ha
  |some v=>exact⟨v,rfl⟩
 simp only[SV.ap,hv,SV.den,SI.den,aA] at ha;subst ha;rw[pQ] at hv;have hx:=hS.ext r _ p hr hp rfl;rw[mY,hL.len,hm] at hx;have jZ:∀(j:Nat) (v:Value),(kL L)[j]?=some v->w.cell? ⟨p.b,p.o+j,none⟩=some v:=fun j v hj=>by
  obtain⟨c,h1,h2⟩:=G6 hj;obtain⟨u,h3,h4⟩:=hS.cell r _ p hr hp j c h1;rw[h2] at h3;cases h3;exact h4
 have x_:∃c,v=.slice (some ⟨p.b,p.o,none⟩) m c/\m<=c:=by
  unfold eV at hv;cases h0:aaA m 0 with
  |true =>
   have:=aaB h0;subst this;rw[h0] at hv;simp only[cond_true,SV.den,hp,aS.cap,aau,aA] at hv;exact⟨_,hv.symm,aaf _⟩
  |false =>
   rw[h0] at hv;simp only[cond_false,SV.den,hp,aS.cap,aau,aaL,aA] at hv;exact⟨_,hv.symm,by omega⟩
 obtain⟨c,rfl,hmc⟩:=x_;rw[hE,pE,<-hm];exact(Va l (some ⟨p.b,p.o,none⟩) c key b1 b2 b3 w (by omega) ((hL.mono hS.cK).slr (by omega) (by omega) jZ)).mono fun e w' ⟨he,hc⟩=>⟨_,he,rfl,hc⟩⟩
def D2 (a b:WM)(s t:WP)(k o:Nat):Prop:=a.D s.seen.length k o\/b.D t.seen.length k o
structure W2 (a b:WM) (s t:WP) (Mo:Mem) (w:World):Prop where
 l:bZ a s Mo w
 r:bZ b t Mo w
theorem W2.loc {a b:WM}{s t:WP}{Mo:Mem}:bU.Loc (D2 a b s t) (W2 a b s t Mo):=fun u u' hs hle h=>⟨bZ.loc u u' (fun k o hd=>hs k o (.inl hd)) hle h.l,bZ.loc u u' (fun k o hd=>hs k o (.inr hd)) hle h.r⟩
structure afp (a b a' b':WM) (s t s' t':WP) (Mo eu:Mem) (w w':World):Prop where
 pa:a'.P 0=a.P 0
 pb:b'.P 0=b.P 0
 w2:W2 a' b' s' t' eu w'
 mo:∀k o v,eu k o=some v->w'.cell? ⟨k,o,none⟩=some v
 aM:aW (D2 a b s t) w w'
 d:∀k o,D2 a' b' s' t' k o->(D2 a b s t k o\/w.heap.size<=k)/\eG w' k o
 dis:∀k o,a'.D s'.seen.length k o->¬b'.D t'.seen.length k o
 c_:∀k o v,Mo k o=some v->eu k o=some v
 new:∀k o v,eu k o=some v->Mo k o=some v\/w.heap.size<=k
 md:∀k o,D2 a' b' s' t' k o->eu k o=none
def aO.z (x:aO):aO:=⟨x.node,x.c,x.key,x.s,0⟩
theorem aO.Ok.z {x:aO}(h:x.Ok):x.z.Ok:=⟨h.c0,h.co,h.cn,h.a8,h.nd,h.kw,h.a1,h.a2,h.a3⟩
theorem XU {α β:Type}(f:β->α->β)(z:β){l:List α}{i:Nat}{x:α}(h:l[i]?=some x):(l.take (i+1)).foldl f z=f ((l.take i).foldl f z) x:=by
 rw[aaC,h,List.foldl_append];rfl
theorem X.frame {P:Program}{fn:Func}{Q:aag->World->Prop}{W:World}{O:Nat->Nat->Prop}{im:Mem}{D:Nat->Nat->Prop}{Rr:World->Prop}{B:aH}{k:List It}{s:St}(f':Fr)(h1:∀N:af,ia N (N.take s.rg.length) s.rg.length s.fr f')(h2:∀N:af,nh N (N.take s.rg.length) s.rg.length s.rg s.rg)
  (h:X (aK P fn Q W O im D Rr [] B) k ⟨f',s.rg⟩):X (aK P fn Q W O im D Rr [] B) k s :=
 X.conv fun N a w hN hf hS=>⟨_,⟨f',s.rg⟩,rfl,rfl,rfl,rfl,At.mk hN hf hS (aaf _) (h1 N) (h2 N) (fun _ _ _ h=>h) hS.loc hS.fH,h⟩
structure afs (l0 r0:List aO) (base av ay bv by':Nat) (V7:Mem) where
 (i:Nat) (a b:WM) (s t:WP) (Mo:Mem)
 hi:i<=l0.length
 oks:s.Ok i
 okt:t.Ok i
 far:∀k o,D2 a b s t k o->base<=k
 md:∀k o,D2 a b s t k o->Mo k o=none
 dis:∀k o,a.D s.seen.length k o->¬b.D t.seen.length k o
 im:∀k o v,V7 k o=some v->Mo k o=some v
 pa:av=(a.P 0).b/\ay=(a.P 0).o
 pb:bv=(b.P 0).b/\by'=(b.P 0).o
 es:s=(l0.take i).foldl WP.pj WP.zero
 et:t=(r0.take i).foldl WP.pj WP.zero
theorem B0 (l:List aO):∀i,(ja l i).length<=i
 |0=>aaM _
 |i+1=>by
  have:=B0 l i;rw[ja]
  split
  ·omega
  ·split
   ·simp;omega
   ·omega
theorem B1 (l:List aO):∀i,(fS l i).length<=i
 |0=>aaM _
 |i+1=>by
  have:=B1 l i;rw[fS]
  split
  ·omega
  ·split
   ·omega
   ·split
    ·simp;omega
    ·omega
theorem zX {E:Env}{N0:af}{T:aQ}(hT:aq E.P T){rg:List Rg}{f:Fr}{x y:aaq}{ts tx e m q:Nat}{ti te:TI}{sx sy:SV}{c0 new:List SV}{r0:Rg}(hx:ev f x=some sx)(hy:ev f y=some sy)(BA:bo T ts=some ti)(hk:ti.kind=.slice e)(kN:bo T e=some te)
  (pQ:sx=eV 0 m te.size) (hr:nth rg 0=some ⟨true,c0,none⟩) (kX:c0.length=m*te.size) (pG:r0=if m=0 then ⟨true,[],none⟩ else ⟨false,[],none⟩) (lD:jD T rg te sy tx=some (new,1)) (dm:iZ.kz te new m 1=true) (hq:q=rg.length) :
  be E N0 rg f (.call { callee:=.builtin .append,args:=#[x,y],argTypes:=#[ts,tx] }) (.osl q 0 (m+1) te.size none) (rg.set 0 r0++[⟨true,c0++new,none⟩]):=by
 subst hq;refine be.step hT (iw hx hy BA hk kN lD ?_)
 by_cases hm:m=0
 ·subst hm
  rw[if_pos rfl] at pG;have hc:c0=[]:=List.eq_nil_of_length_eq_zero (by omega);subst hc;have ey:rg.set 0 r0=rg:=by
   rw[bT] at hr;obtain⟨h1,h2⟩:=aai.1 hr;rw[pG,<-h2];exact List.set_getElem_self h1
  rw[pQ,ey];exact ie hr (by decide) dm
 ·rw[if_neg hm] at pG
  have he:eV 0 m te.size=.osl 0 0 m te.size none:=by
   unfold eV;cases h:aaA m 0 with
   |true=>exact absurd (aaB h) hm
   |false=>rfl
  rw[pQ,he,pG];exact jk hr kX (by decide) dm
theorem LP {P:Program}{fn:Func}{R:aag->World->Prop}{w w':World}{im:Mem}{B:aH}{N:af}{rg:List Rg}{p0:aS}{Mo:Mem}{m:Nat}{L:List aL}{l:List aI}{c0:List SV}{sx:SV}{v:Value}(hS:Sat (aK P fn R w (bq [] []) im (fun _ _=>False) (fun _=>True) [] B).toEnv N rg w')(hr:rg[0]?=some ⟨true,c0,none⟩)(fJ:N[0]?=some p0)
  (hR:eI Mo L l) (kX:c0=jO L) (hm:l.length=m) (dM:m<=1000) (pQ:sx=eV 0 m 13) (hv:sx.den N=some v) :
  ∃p c,v=.slice p l.length c/\∀M:Mem,(∀k o v,Mo k o=some v->M k o=some v)->(∀k o v,w.heap.size<=k->w'.cell? ⟨k,o,none⟩=some v->M k o=some v)->dC M p c 13 (l.map aI.toD):=by
 have hx:=hS.ext 0 _ p0 hr fJ rfl;rw[kX,mY,hR.len,hm] at hx;have x_:∃c,v=.slice (some ⟨p0.b,p0.o,none⟩) m c/\m<=c:=by
  rw[pQ] at hv;unfold eV at hv;cases h0:aaA m 0 with
  |true =>
   have:=aaB h0;subst this;rw[h0] at hv;simp only[cond_true,SV.den,fJ,aS.cap,aau,aA] at hv;exact⟨_,hv.symm,aaf _⟩
  |false =>
   rw[h0] at hv;simp only[cond_false,SV.den,fJ,aS.cap,aau,aaL,aA] at hv;exact⟨_,hv.symm,by omega⟩
 obtain⟨c,rfl,hmc⟩:=x_;refine⟨some ⟨p0.b,p0.o,none⟩,c,by rw[hm],fun M h1 h2=>(hR.mono h1).slr (by omega) (by omega) fun j v hj=>?_⟩;have uT:=(aai.1 hj).1;rw[gN,hR.len,hm] at uT;have Rk:w.heap.size<=p0.b:=by
  rcases hS.dG 0 _ p0 hr fJ rfl with h|h
  ·exact h
  ·exact absurd (h 0 (by omega)) aB
 obtain⟨sc,k1,k2⟩:=G6 hj;obtain⟨u,k3,k4⟩:=hS.cell 0 _ p0 hr fJ j sc (by rw[kX];exact k1);rw[k2] at k3;cases k3;exact h2 _ _ _ Rk k4
theorem GJ {P:Program}{fn:Func}{R:aag->World->Prop}{w w':World}{im:Mem}{B:aH}{N:af}{rg:List Rg}{p0:aS}{Mo:Mem}{m:Nat}{L:List aL}{l:List aI}{c0:List SV}{sx:SV}{v:Value}(hS:Sat (aK P fn R w (bq [] []) im (fun _ _=>False) (fun _=>True) [] B).toEnv N rg w')(hr:rg[0]?=some ⟨true,c0,none⟩)(fJ:N[0]?=some p0)
  (aih:∀k o v,Mo k o=some v->w.cell? ⟨k,o,none⟩=some v) (hR:eI Mo L l) (kX:c0=jO L) (hm:l.length=m) (dM:m<=1000) (pQ:sx=eV 0 m 13) (hv:(bz [sx]).den N=some v):kr Mo l w (.returned v) w':=by
 obtain⟨p,c,h1,h2⟩:=LP hS hr fJ hR kX hm dM pQ hv;exact⟨⟨p,c,by rw[h1],h2⟩,hS.aM.none⟩
theorem Qq (l:List aO)(ts:List cy)(po:Option Addr)(cp:Nat)(Mo:Mem)(w:World)(qo:∀k o v,Mo k o=some v->w.cell? ⟨k,o,none⟩=some v)(hs:fQ Mo po l ts)(dm:∀x∈l,x.Ok)(HN:l.length<=60) :
  Calls aac 16 #[.slice po l.length cp] w (kr Mo (ja l l.length) w):=by
 obtain⟨Q,hQ⟩:∃Q:aag->World->Prop,Q=kr Mo (ja l l.length) w:=⟨_,rfl⟩;rw[<-hQ];obtain⟨n,hn⟩:∃n,n=l.length:=⟨_,rfl⟩;rw[<-hn];refine X.begin (rg:=[]) (N:=[]) (ss:=[.ao po n cp]) Tryz.func16 rfl SA rfl rfl Sat.bp ?_;obtain⟨im,aV⟩:∃im,im=ab [] [] w:=⟨_,rfl⟩;have ct:∀k o v,Mo k o=some v->im k o=some v:=fun k o v h=>by rw[aV];exact kM (qo k o v h)
 have Ng:=hs.mono ct;show X (aK aac aaI Q w (bq [] []) (ab [] [] w) (fun _ _=>False) (fun _=>True) [] B16) _ _;rw[<-aV];refine X.go nA 400 _ rfl aan ?_
 conv=>arg 2;cbv
 refine X.gB (fun g:{g:Nat × List aL // g.1<=n/\eI Mo g.2 (ja l g.1)}=>⟨[(0,.val (.ao po n cp)),(3,.val (eV 0 (ja l g.1.1).length 13)),(7,.val (.int .i64 (.nat n))),(8,.val (.int .i64 (.nat g.1.1)))],[⟨true,jO g.1.2,none⟩]⟩) (fun g=>n-g.1.1) (fun N a w' hN hf hS=>⟨⟨(0,[]),aaf _,eI.nil⟩,?_⟩) (fun g q' cF=>?_)
 ·show At _ ⟨[(0,.val (.ao po n cp)),(3,.val (.osl 0 0 0 13 (some 0))),(7,.val (.int .i64 (.nat n))),(8,.val (.int .i64 (.nat 0)))],[⟨true,[],none⟩]⟩ a w'
  exact At.eJ hf hS
 obtain⟨⟨i,L⟩,hi,hR⟩:=g;simp only at hi hR;show X (aK aac aaI Q w (bq [] []) im (fun _ _=>False) (fun _=>True) [] B16) _ ⟨[(0,.val (.ao po n cp)),(3,.val (eV 0 (ja l i).length 13)),(7,.val (.int .i64 (.nat n))),(8,.val (.int .i64 (.nat i)))],[⟨true,jO L,none⟩]⟩;obtain⟨A,hA⟩:∃A,A=ja l i:=⟨_,rfl⟩;obtain⟨m,hm⟩:∃m,m=(ja l i).length:=⟨_,rfl⟩;have EA:m<=i:=by rw[hm];exact B0 l i
 obtain⟨v1,j5⟩:∃v,v=eV 0 m 13:=⟨_,rfl⟩;obtain⟨c0,kX⟩:∃c,c=jO L:=⟨_,rfl⟩;have KF:c0.length=m*13:=by rw[kX,mY,hR.len,hm]
 have rF:∀m,c0.all (bd m)=true:=fun m=>by rw[kX];exact jf
 have Cn:bd 1 v1=true:=by rw[j5];exact kV (by decide)
 rw[<-hm,<-j5,<-kX];rw[<-hA] at hR hm;have VE:n<=60:=by omega
 refine X.go nA 400 _ rfl aan ?_
 conv=>arg 2;cbv
 refine X.cond rfl (fun aF=>?_) (fun cJ=>?_)
 ·simp only[SB.T,SI.den] at aF
  have aF:(i:Int)<(n:Int):=aF;have aF:i<n:=by omega
  obtain⟨x,hx⟩:∃x,l[i]?=some x:=⟨_,aae (by omega)⟩;obtain⟨t,b,y,VU,Ck,fE,dM⟩:=Ng.row i x hx;obtain⟨t',b',y',Lh,K5,_,_⟩:=hs.row i x hx;rw[VU] at Lh;cases Lh;have uy:=fun(w1:World) (bI:∀k o v,im k o=some v->w1.cell? ⟨k,o,none⟩=some v)=>oV t x w1 (Ck.mono bI) (dm x (aah hx))
  obtain⟨cb,sE⟩:∃c,c=B x.cnt:=⟨_,rfl⟩;obtain⟨hb,pE⟩:∃c,c=B (kB A x.key x.s.acc):=⟨_,rfl⟩;have gU:ja l (i+1)=if (cb&&!hb)=true then A++[⟨x.key,x.s.acc,x.s.a8,x.eY⟩] else A:=by
   rw[ja,hx,<-hA];simp only
   by_cases h:x.cnt/\¬kB A x.key x.s.acc
   ·rw[if_pos h,if_pos (by rw[sE,pE,bP h.1,b_ h.2];rfl)]
   ·rw[if_neg h,if_neg fun h2=>h ?_]
    simp only[aaS,aaT] at h2;refine⟨cT.1 (sE ▸ h2.1),fun h3=>?_⟩;rw[pE,bP h3] at h2;cases h2.2
  obtain⟨_,_,_,_,e5,_,e7,e8⟩:=Ck.e;have bM:az Mo (aI.toD ⟨x.key,x.s.acc,x.s.a8,x.eY⟩) (aL.aN ⟨t.key,t.a1,t.a2,t.a3,t.g,t.eY⟩):=by
   rw[<-e5,e7,<-e8];exact aI.shut K5.g
  rw[<-e5,e7] at pE;rw[<-sE] at uy;obtain⟨z1,jq⟩:∃z,z=y+i*21:=⟨_,rfl⟩;rw[<-jq] at dM;obtain⟨nd,cc,op,on,oc,np,nn,nc,ky,ml,s1,s2,s3,a1,a2,a3,⟨gk,gi,gs,gl,q1,q2,q3,q4,m1,m2,m3,m4,f1,f2,f3,f4⟩,ta⟩:=t;simp only at pE bM;refine X.eL b z1 (cy.cH ⟨nd,cc,op,on,oc,np,nn,nc,ky,ml,s1,s2,s3,a1,a2,a3,⟨gk,gi,gs,gl,q1,q2,q3,q4,m1,m2,m3,m4,f1,f2,f3,f4⟩,ta⟩) (fQ.cH dM) (aap _) (fun N1 dQ dX=>?_);have tc:(N1++[(⟨b,z1,0⟩:aS)])[1]?=some ⟨b,z1,0⟩:=ax dX;have vo:∀{E:Env} {N0:af} {rg:List Rg} {f:Fr} {g:GK} {x ix:aaq} {kd:IntKind} {s:SI},hY f g x=some (.ao po n cp)->hY f g ix=some (.int kd s)->E.P=aac->N0=(N1++[(⟨b,z1,0⟩:aS)])->s=.nat i->au E N0 rg f g (.indexAddr 22 x ix) (.own 1 0):=fun k1 k2 k3 k4 k5=>by subst k4 k5;exact au.row k1 k2 (fun _=>rfl) (by rw[k3];exact aak) (by rw[k3];exact aal) aF fE tc rfl jq
  refine X.iA ([(13,.own 1 0),(15,.bool (.v cb)),(20,.own 1 0),(25,.own 1 0),(29,.bool (.v hb))]) ([]) nA 400 _ rfl aan (fun pr pe fin aj bm ai=>?_)
  conv=>cbv
  refine⟨aj _ (vo rfl rfl rfl rfl rfl),aj _ (.of aar [.agg _] (.bool cb) (fun _=>rfl) (fun _=>rfl) fun _ w1 bI=>uy w1 bI),aj _ (vo rfl rfl rfl rfl rfl),aj _ (vo rfl rfl rfl rfl rfl),aj _ (v_ (L:=L) (r:=0) (m:=m) rfl (by rw[kX];rfl) (hR.mono ct) hm.symm (by omega) j5 pE),ai _ _ ?_⟩;clear aj bm ai;refine X.cond rfl (fun hT=>?_) (fun hF=>?_)
  ·simp only[SB.T,SB.F,SI.den] at hT
   rw[if_pos (by rw[hT.1,hT.2];rfl)] at gU;obtain⟨r0,pG⟩:∃r0,r0=if m=0 then (⟨true,[],none⟩:Rg) else ⟨false,[],none⟩:=⟨_,rfl⟩
   obtain⟨c1,iJ⟩:∃c,c=c0++aL.cH ⟨ky,a1,a2,a3,⟨gk,gi,gs,gl,q1,q2,q3,q4,m1,m2,m3,m4,f1,f2,f3,f4⟩,ta⟩:=⟨_,rfl⟩;refine X.iA ([(35,.own 1 0),(40,.own 1 0),(46,.own 1 0),(52,.own 1 0)]) ([(57,⟨fun _=>.osl 3 0 (m+1) 13 none,[(0,r0)],[⟨true,c1,none⟩]⟩)]) nA 400 _ rfl aan (fun pr pe fin aj bm ai=>?_)
   conv=>cbv
   refine⟨aj _ (vo rfl rfl rfl rfl rfl),aj _ (vo rfl rfl rfl rfl rfl),aj _ (vo rfl rfl rfl rfl rfl),aj _ (vo rfl rfl rfl rfl rfl),rfl,bm _ _ _ _ _ ?_,ai _ _ ?_⟩
   ·rw[iJ]
    exact zX (te:=fe) (m:=m) nA rfl rfl rfl rfl rfl j5 rfl KF pG (aY (g:=⟨true,aL.cH ⟨ky,a1,a2,a3,⟨gk,gi,gs,gl,q1,q2,q3,q4,m1,m2,m3,m4,f1,f2,f3,f4⟩,ta⟩,none⟩) rfl rfl rfl rfl) (bL (by decide) rfl rfl rfl (by show(2*(m+1)+256)*160<=_;omega) (by omega)) rfl
   clear aj bm ai vo;have rG:c1=jO (L++[⟨ky,a1,a2,a3,⟨gk,gi,gs,gl,q1,q2,q3,q4,m1,m2,m3,m4,f1,f2,f3,f4⟩,ta⟩]):=by rw[iJ,kX,mX]
   have rJ:eV 0 (m+1) 13=.osl 0 0 (m+1) 13 none:=rfl;have Gf:(A++[(⟨x.key,x.s.acc,x.s.a8,x.eY⟩:aI)]).length=m+1:=by simp[hm]
   refine X.lb ?_;have yg:∀q,r0.cells.all (bd q)=true:=fun q=>by rw[pG];split<;>rfl
   have pH:r0.ob=none:=by rw[pG];split<;>rfl
   have ux:∀q,c1.all (bd q)=true:=fun q=>by rw[rG];exact jf
   refine X.frame [(3,.val (.osl 3 0 (m+1) 13 none)),(0,.val (.ao po n cp)),(7,.val (.int .i64 (.nat n))),(8,.val (.int .i64 (.nat (i+1))))] (fun N=>(by repeat first|exact trivial|refine Dm rfl (by first|rfl|assumption) ?_|refine mi rfl rfl rfl ?_|refine mi rfl rfl (by simp (disch:=omega) [SV.den,SI.den,lv,lu]<;>omega) ?_|refine mi rfl rfl (by simp[SV.den,SI.den,aax,aay,aaz]<;>omega) ?_)) (fun N=>⟨fun h=>h,aR.refl (yg _),pH,fun h=>h,aR.refl rfl,rfl,fun h=>h,aR.refl rfl,rfl,fun h=>h,aR.refl (ux _),rfl,trivial⟩) ?_;refine X.swap (f:=[(0,.val (.ao po n cp)),(7,.val (.int .i64 (.nat n))),(8,.val (.int .i64 (.nat (i+1))))]) (rg:=[r0,⟨false,cy.cH ⟨nd,cc,op,on,oc,np,nn,nc,ky,ml,s1,s2,s3,a1,a2,a3,⟨gk,gi,gs,gl,q1,q2,q3,q4,m1,m2,m3,m4,f1,f2,f3,f4⟩,ta⟩,none⟩,⟨true,aL.cH ⟨ky,a1,a2,a3,⟨gk,gi,gs,gl,q1,q2,q3,q4,m1,m2,m3,m4,f1,f2,f3,f4⟩,ta⟩,none⟩]) (g:=⟨true,c1,none⟩) rfl 0 rfl ⟨.inl rfl,.inr rfl,.inr rfl,trivial⟩ (by rw[rG];exact lq) (fun g' eN=>?_) (by repeat first|exact trivial|refine⟨rfl,?_⟩|refine⟨by assumption,?_⟩) ?_
   ·simp only[aaE,aaF,aav,aaw,or_false] at eN
    rcases eN with h|rfl|rfl|rfl
    ·rw[h];exact pH
    ·rfl
    ·rfl
    ·rfl
   refine X.back (fun N a w' hN hf hS=>cF ⟨(i+1,L++[⟨ky,a1,a2,a3,⟨gk,gi,gs,gl,q1,q2,q3,q4,m1,m2,m3,m4,f1,f2,f3,f4⟩,ta⟩]),by show i+1<=n;omega,by rw[gU];exact hR.add bM⟩ a w' (by simp only;omega) ?_);show At _ ⟨[(0,.val (.ao po n cp)),(3,.val (eV 0 (ja l (i+1)).length 13)),(7,.val (.int .i64 (.nat n))),(8,.val (.int .i64 (.nat (i+1))))],[⟨true,jO (L++[⟨ky,a1,a2,a3,⟨gk,gi,gs,gl,q1,q2,q3,q4,m1,m2,m3,m4,f1,f2,f3,f4⟩,ta⟩]),none⟩]⟩ a w';rw[gU,Gf,<-rG,rJ];exact At.qX hf hS ⟨fun h=>h,aR.refl (by rw[rG];exact jf),rfl,trivial⟩
  ·simp only[SB.T,SB.F,SI.den] at hF
   rw[if_neg (by grind)] at gU;refine X.go nA 400 _ rfl aan ?_
   conv=>arg 2;cbv
   refine X.back (fun N a w' hN hf hS=>cF ⟨(i+1,L),by show i+1<=n;omega,by rw[gU];exact hR⟩ a w' (by simp only;omega) ?_);show At _ ⟨[(0,.val (.ao po n cp)),(3,.val (eV 0 (ja l (i+1)).length 13)),(7,.val (.int .i64 (.nat n))),(8,.val (.int .i64 (.nat (i+1))))],[⟨true,jO L,none⟩]⟩ a w';rw[gU,<-hm,<-j5,<-kX];exact At.qX hf hS ⟨fun h=>h,aR.refl (rF _),rfl,trivial⟩
 simp only[SB.F,SI.den] at cJ;have cJ:(n:Int)<=(i:Int):=cJ;have yd:i=n:=by omega
 subst yd;refine X.go nA 400 _ rfl aan ?_
 conv=>arg 2;cbv
 refine X.done nA rfl (fun N w' v hN hS hv=>?_);obtain⟨p0,fJ⟩:∃p,N[0]?=some p:=⟨_,aae (by rw[hS.len];show 0<1;omega)⟩;rw[hQ,<-hn,<-hA];exact GJ hS rfl fJ qo hR (by rw[kX]) hm.symm (by omega) j5 hv
theorem aO.Ok.u8 {x:aO}(h:x.Ok):U8 x.c.c_/\U8 x.c.new:=⟨fun z hz=>by have:=h.co.2 z hz;omega,fun z hz=>by have:=h.cn.2 z hz;omega⟩
theorem H_ {l:List aO}(dm:∀x∈l,x.Ok)(key:Int)(b:bW):cg l key b<2 ^ 64:=by
 apply Nat.lt_pow_two_of_testBit;intro j hj;cases h:(cg l key b).testBit j with
 |false=>rfl
 |true =>
  obtain⟨t,h1,h2,h3⟩:=(ES j).1 h;have:=h2.1.1;have:=(dm t h1).nd;omega
theorem HE {l:List aO}{key:Int}{b:bW}{f:aO}(h:bF l key b=some f):∃i0:Nat,l[i0]?=some f/\f.sG key b/\∀j:Nat,j<i0->∀x:aO,l[j]?=some x->¬x.sG key b:=by
 unfold bF at h;obtain⟨h1,i,hi,h2,h3⟩:=List.find?_eq_some_iff_getElem.1 h;have h4:=aae hi;rw[h2] at h4;refine⟨i,h4,cT.1 h1,fun j hj x hx hh=>?_⟩;have:=h3 j hj;have iD:l[j]=x:=by rw[aae (by omega)] at hx;exact Option.some.inj hx
 rw[iD,bP hh] at this;cases this
def Q3 (Mo:Mem)(l:List aI)(tb:Bool)(w:World):aag->World->Prop:=fun e w' =>
 (∃p c,e=.returned (.tuple #[.slice p l.length c,.bool tb])/\∀M:Mem,(∀k o v,Mo k o=some v->M k o=some v)->(∀k o v,w.heap.size<=k->w'.cell? ⟨k,o,none⟩=some v->M k o=some v)->dC M p c 13 (l.map aI.toD))/\aW (fun _ _=>False) w w'
theorem Qs (l:List aO)(ts:List cy)(po:Option Addr)(cp:Nat)(Mo:Mem)(w:World)(qo:∀k o v,Mo k o=some v->w.cell? ⟨k,o,none⟩=some v)(hs:fQ Mo po l ts)(dm:∀x∈l,x.Ok)(HN:l.length<=60)(hcp:l.length<=cp) :
  Calls aac 14 #[.slice po l.length cp] w (Q3 Mo (fS l l.length) (ik l l.length) w):=by
 obtain⟨Q,hQ⟩:∃Q:aag->World->Prop,Q=Q3 Mo (fS l l.length) (ik l l.length) w:=⟨_,rfl⟩;rw[<-hQ];obtain⟨n,hn⟩:∃n,n=l.length:=⟨_,rfl⟩;rw[<-hn];refine X.begin (rg:=[]) (N:=[]) (ss:=[.ao po n cp]) Tryz.func14 rfl Sy rfl rfl Sat.bp ?_;obtain⟨im,aV⟩:∃im,im=ab [] [] w:=⟨_,rfl⟩;have ct:∀k o v,Mo k o=some v->im k o=some v:=fun k o v h=>by rw[aV];exact kM (qo k o v h)
 have Ng:=hs.mono ct;show X (aK aac aas Q w (bq [] []) (ab [] [] w) (fun _ _=>False) (fun _=>True) [] Xk) _ _;rw[<-aV];refine X.go gR 400 _ rfl aad ?_
 conv=>arg 2;cbv
 refine X.gB (fun g:{g:Nat × List aL // g.1<=n/\eI Mo g.2 (fS l g.1)}=>⟨[(0,.val (.ao po n cp)),(4,.val (eV 0 (fS l g.1.1).length 13)),(5,.val (.bool (.v (ik l g.1.1)))),(11,.val (.int .i64 (.nat n))),(12,.val (.int .i64 (.nat g.1.1)))],[⟨true,jO g.1.2,none⟩]⟩) (fun g=>n-g.1.1) (fun N a w' hN hf hS=>⟨⟨(0,[]),aaf _,eI.nil⟩,?_⟩) (fun g q' cF=>?_)
 ·show At _ ⟨[(0,.val (.ao po n cp)),(4,.val (.osl 0 0 0 13 (some 0))),(5,.val (.bool (.v false))),(11,.val (.int .i64 (.nat n))),(12,.val (.int .i64 (.nat 0)))],[⟨true,[],none⟩]⟩ a w'
  exact At.eJ hf hS
 obtain⟨⟨i,L⟩,hi,hR⟩:=g;simp only at hi hR;show X (aK aac aas Q w (bq [] []) im (fun _ _=>False) (fun _=>True) [] Xk) _ ⟨[(0,.val (.ao po n cp)),(4,.val (eV 0 (fS l i).length 13)),(5,.val (.bool (.v (ik l i)))),(11,.val (.int .i64 (.nat n))),(12,.val (.int .i64 (.nat i)))],[⟨true,jO L,none⟩]⟩;obtain⟨A,hA⟩:∃A,A=fS l i:=⟨_,rfl⟩;obtain⟨tb,Gn⟩:∃b,b=ik l i:=⟨_,rfl⟩;obtain⟨m,hm⟩:∃m,m=(fS l i).length:=⟨_,rfl⟩;have EA:m<=i:=by rw[hm];exact B1 l i
 obtain⟨v1,j5⟩:∃v,v=eV 0 m 13:=⟨_,rfl⟩;obtain⟨c0,kX⟩:∃c,c=jO L:=⟨_,rfl⟩;have KF:c0.length=m*13:=by rw[kX,mY,hR.len,hm]
 have rF:∀m,c0.all (bd m)=true:=fun m=>by rw[kX];exact jf
 have Cn:bd 1 v1=true:=by rw[j5];exact kV (by decide)
 rw[<-hm,<-j5,<-kX,<-Gn];rw[<-hA] at hR hm;have VE:n<=60:=by omega
 refine X.go gR 400 _ rfl aad ?_
 conv=>arg 2;cbv
 refine X.cond rfl (fun aF=>?_) (fun cJ=>?_)
 ·simp only[SB.T,SI.den] at aF
  have aF:(i:Int)<(n:Int):=aF;have aF:i<n:=by omega
  obtain⟨x,hx⟩:∃x,l[i]?=some x:=⟨_,aae (by omega)⟩;have od:=dm x (aah hx);obtain⟨t,b,y,VU,Ck,fE,dM⟩:=Ng.row i x hx;obtain⟨t',b',y',Lh,K5,_,_⟩:=hs.row i x hx;rw[VU] at Lh;cases Lh;have uy:=fun(w1:World) (bI:∀k o v,im k o=some v->w1.cell? ⟨k,o,none⟩=some v)=>oV t x w1 (Ck.mono bI) od
  obtain⟨cb,sE⟩:∃c,c=B x.cnt:=⟨_,rfl⟩;rw[<-sE] at uy;obtain⟨z1,jq⟩:∃z,z=y+i*21:=⟨_,rfl⟩;rw[<-jq] at dM;have RG:cb=false->fS l (i+1)=A/\ik l (i+1)=tb:=fun h=>by
   have Rp:¬x.cnt:=fun hc=>by rw[sE,bP hc] at h;cases h
   rw[fS,ik,hx,<-hA,<-Gn];simp only;cases bF l x.key x.s.acc with
   |none=>exact⟨rfl,rfl⟩
   |some f =>
    simp only;rw[if_neg fun h=>Rp h.1,b_ fun h:_/\_=>Rp h.1,Bool.or_false];exact⟨rfl,rfl⟩
  have Ax:cb=true->∃f,bF l x.key x.s.acc=some f:=fun h=>mG (aah hx) ⟨cT.1 (sE ▸ h),rfl,rfl⟩
  obtain⟨_,_,_,_,e5,_,e7,e8⟩:=Ck.e;have Ye:=Ck.kP;have Yu:=Ck.g;obtain⟨nd,cc,op,on,oc,np,nn,nc,ky,ml,s1,s2,s3,a1,a2,a3,⟨gk,gi,gs,gl,q1,q2,q3,q4,m1,m2,m3,m4,f1,f2,f3,f4⟩,ta⟩:=t;simp only at e5 e7 e8;refine X.eL b z1 (cy.cH ⟨nd,cc,op,on,oc,np,nn,nc,ky,ml,s1,s2,s3,a1,a2,a3,⟨gk,gi,gs,gl,q1,q2,q3,q4,m1,m2,m3,m4,f1,f2,f3,f4⟩,ta⟩) (fQ.cH dM) (aap _) (fun N1 dQ dX=>?_);have tc:(N1++[(⟨b,z1,0⟩:aS)])[1]?=some ⟨b,z1,0⟩:=ax dX;refine X.iA ([(17,.own 1 0),(20,.bool (.v cb))]) ([]) gR 400 _ rfl aad (fun pr pe fin aj bm ai=>?_)
  conv=>cbv
  refine⟨aj _ (au.row rfl rfl (fun _=>rfl) aak aal aF fE tc rfl jq),aj _ (.of aar [.agg _] (.bool cb) (fun _=>rfl) (fun _=>rfl) fun _ w1 bI=>uy w1 bI),ai _ _ ?_⟩;clear aj bm ai;refine X.cond rfl (fun hT=>?_) (fun hF=>?_)
  ·simp only[SB.T,SB.F] at hT
   obtain⟨Vl,Ew⟩:=RG hT;refine X.go gR 400 _ rfl aad ?_
   conv=>arg 2;cbv
   refine X.back (fun N a w' hN hf hS=>cF ⟨(i+1,L),by show i+1<=n;omega,by rw[Vl];exact hR⟩ a w' (by simp only;omega) ?_);show At _ ⟨[(0,.val (.ao po n cp)),(4,.val (eV 0 (fS l (i+1)).length 13)),(5,.val (.bool (.v (ik l (i+1))))),(11,.val (.int .i64 (.nat n))),(12,.val (.int .i64 (.nat (i+1))))],[⟨true,jO L,none⟩]⟩ a w';rw[Vl,Ew,<-hm,<-j5,<-kX];exact At.qX hf hS ⟨fun h=>h,aR.refl (rF _),rfl,trivial⟩
  simp only[SB.T,SB.F] at hF;subst hF;obtain⟨f,hf⟩:=Ax rfl;have Gp:x.cnt:=cT.1 sE.symm;obtain⟨i0,tg,Vr,kE⟩:=HE hf;have MZ:=dm f (aah tg);obtain⟨t0,b0,y0,W1,Cl,_,_⟩:=Ng.row i0 f tg;obtain⟨t0',_,_,Zl,Rz,_,_⟩:=hs.row i0 f tg;rw[W1] at Zl;cases Zl;have Vo:=fun(w1:World) (bI:∀k o v,im k o=some v->w1.cell? ⟨k,o,none⟩=some v)=>Kl l ts po cp x.key x.s.acc.count x.s.acc.node x.s.acc.cR i0 f t0 w1 (Ng.mono bI) dm HN tg W1 Vr kE
  rw[<-e5,e7,<-hn] at Vo;simp only at Vo;obtain⟨cz,hcz⟩:∃c,c=B (f.c=x.c):=⟨_,rfl⟩;obtain⟨rz,hrz⟩:∃c,c=B (f.s.a8=x.s.a8):=⟨_,rfl⟩;have hsc:=fun(w1:World) (bI:∀k o v,im k o=some v->w1.cell? ⟨k,o,none⟩=some v)=>Ag f.c x.c _ _ w1 (Cl.kP.mono bI) (Ye.mono bI) MZ.u8.1 MZ.u8.2 od.u8.1 od.u8.2
  have hsr:=fun(w1:World) (bI:∀k o v,im k o=some v->w1.cell? ⟨k,o,none⟩=some v)=>ue f.s.a8 x.s.a8 _ _ w1 (Cl.g.mono bI) (Yu.mono bI)
  rw[<-hcz] at hsc;rw[<-hrz] at hsr;obtain⟨hb,pE⟩:∃c,c=B (kB A x.key x.s.acc):=⟨_,rfl⟩;obtain⟨i1,KP⟩:∃k,k=i+1:=⟨_,rfl⟩;have KQ:IntKind.i64.wrap ((i:Int)+1)=(i1:Int):=by rw[KP];simp[aax,aay,aaz];omega
  obtain⟨nx,hnx⟩:∃k,k=cg (l.take i1) x.key x.s.acc:=⟨_,rfl⟩;obtain⟨qb,AA⟩:∃k,k=B (f.c.jc x.key nx):=⟨_,rfl⟩;have K7:∀u∈l.take i1,u.Ok:=fun u hu=>dm u (List.mem_of_mem_take hu)
  have Rx:nx<2 ^ 64:=by rw[hnx];exact H_ K7 _ _
  have Zo:(l.take i1).length=i1:=by rw[aaD];omega
  have Az:=fun(w1:World) (bI:∀k o v,im k o=some v->w1.cell? ⟨k,o,none⟩=some v)=>LF (l.take i1) (ts.take i1) po cp x.key x.s.acc.count x.s.acc.node x.s.acc.cR w1 ((Ng.mono bI).take i1) K7 (by omega)
  have YU:cg (l.take i1) x.key ⟨x.s.acc.count,x.s.acc.node,x.s.acc.cR⟩=nx:=hnx.symm;rw[Zo,YU,<-e5,e7] at Az;simp only at Az;have EF:=fun w1 (bI:∀k o v,im k o=some v->w1.cell? ⟨k,o,none⟩=some v)=>C0 f.c.c.toNat nx t0.op t0.np f.c.c_.length f.c.new.length t0.oc t0.nc f.c.c_.toArray f.c.new.toArray x.key w1 MZ.co.1 MZ.cn.1 Rx (dC.yj Cl.o bI) (dC.yj Cl.n bI) (by simpa using MZ.co.2) (by simpa using MZ.cn.2)
  have Yl:((f.c.c.toNat:Nat):Int)=t0.cc:=by rw[Cl.e.2.1];exact aaG MZ.c0
  have EE:B (mQ f.c.c.toNat f.c.c_.toArray f.c.new.toArray x.key nx)=qb:=AA.symm;rw[Yl,<-Cl.e.2.2.1,<-Cl.e.2.2.2.1,EE,<-e5] at EF;have gU:fS l (i+1)=if (!hb&&qb)=true then A++[⟨x.key,x.s.acc,f.s.a8,x.eY⟩] else A:=by
   rw[fS,hx,<-hA];simp only[hf];rw[<-KP,<-hnx]
   by_cases h:¬kB A x.key x.s.acc/\f.c.jc x.key nx
   ·rw[if_pos ⟨Gp,h⟩,if_pos (by rw[pE,AA,b_ h.1,bP h.2];rfl)]
   ·rw[if_neg fun h2=>h h2.2,if_neg fun h2=>h ?_]
    simp only[aaS,aaT] at h2;refine⟨fun h3=>?_,cT.1 (AA ▸ h2.2)⟩;rw[pE,bP h3] at h2;cases h2.1
  have Ew:ik l (i+1)=(tb || !(cz&&rz)):=by
   rw[ik,hx,<-Gn];simp only[hf]
   congr 1
   rw[zK (q:=¬(f.c=x.c/\f.s.a8=x.s.a8)) ⟨And.right,fun h=>⟨Gp,h⟩⟩,hcz,hrz]
   by_cases h1:f.c=x.c
   ·by_cases h2:f.s.a8=x.s.a8
    ·rw[b_ (not_not_intro ⟨h1,h2⟩),bP h1,bP h2];rfl
    ·rw[bP fun h=>h2 h.2,b_ h2,Bool.and_false];rfl
   ·rw[bP fun h=>h1 h.1,b_ h1];rfl
  have bM:az Mo (aI.toD ⟨x.key,x.s.acc,f.s.a8,x.eY⟩) (aL.aN ⟨ky,a1,a2,a3,t0.g,ta⟩):=by
   rw[<-e5,e7,<-e8];exact aI.shut Rz.g
  rw[<-e5,e7] at pE;clear Cl Rz Yl EE Rx YU RG Ax uy Ye Yu;obtain⟨k_,WD,Xa,W_,W9,W8,AN,W7,sJ,HT,Xc,Xd,Xe,f_,gb,gd,⟨lM,lL,lO,lN,lg,lh,li,lj,iL,iM,iP,iQ,lH,lI,lJ,lK⟩,sK⟩:=t0;refine X.iA ([(28,.agg (cy.cH ⟨k_,WD,Xa,W_,W9,W8,AN,W7,sJ,HT,Xc,Xd,Xe,f_,gb,gd,⟨lM,lL,lO,lN,lg,lh,li,lj,iL,iM,iP,iQ,lH,lI,lJ,lK⟩,sK⟩)),(33,.bool (.v cz)),(42,.bool (.v rz))]) ([]) gR 400 _ rfl aad (fun pr pe fin aj bm ai=>?_)
  conv=>cbv
  refine⟨aj _ (.of Tryz.call34 [.slice po n cp,.int .u8 ky,.agg #[.int .u64 a1,.int .u8 a2,.int .u32 a3]] (.agg (cy.aN ⟨k_,WD,Xa,W_,W9,W8,AN,W7,sJ,HT,Xc,Xd,Xe,f_,gb,gd,⟨lM,lL,lO,lN,lg,lh,li,lj,iL,iM,iP,iQ,lH,lI,lJ,lK⟩,sK⟩).toArray) (fun _=>rfl) (fun _=>rfl) fun _ w1 bI=>Vo w1 bI),aj _ (.of Tryz.call35 [.agg _,.agg _] (.bool cz) (fun _=>rfl) (fun _=>rfl) fun _ w1 bI=>hsc w1 bI),aj _ (.of Tryz.call27 [.agg _,.agg _] (.bool rz) (fun _=>rfl) (fun _=>rfl) fun _ w1 bI=>hsr w1 bI),ai _ _ ?_⟩;clear aj bm ai;refine X.cond rfl (fun hU=>?_) (fun hU=>?_)
  ·simp only[SB.T,SB.F] at hU
   have Ew:ik l (i+1)=true:=by rw[Ew];revert hU;cases cz<;>cases rz<;>simp
   refine X.iA ([(51,.bool (.v hb)),(61,.ao po i1 cp),(67,.int .u64 (.nat nx)),(68,.bool (.v qb))]) ([]) gR 400 _ rfl aad (fun pr pe fin aj bm ai=>?_)
   conv=>cbv
   refine⟨aj _ (v_ (L:=L) (r:=0) (m:=m) rfl (by rw[kX];rfl) (hR.mono ct) hm.symm (by omega) j5 pE),aj _ (uY rfl rfl KQ (by omega) aak aal),aj _ (.of aaJ [.slice po i1 cp,.int .u8 ky,.agg #[.int .u64 a1,.int .u8 a2,.int .u32 a3]] (.int .u64 nx) (fun _=>rfl) (fun _=>rfl) fun _ w1 bI=>Az w1 bI),aj _ (.of aaK [.agg _,.int .u8 ky,.int .u64 nx] (.bool qb) (fun _=>rfl) (fun _=>rfl) fun _ w1 bI=>EF w1 bI),ai _ _ ?_⟩;clear aj bm ai;refine X.cond rfl (fun hT=>?_) (fun hF=>?_)
   ·simp only[SB.T,SB.F,SI.den] at hT
    rw[if_pos (by rw[hT.1,hT.2];rfl)] at gU;obtain⟨r0,pG⟩:∃r0,r0=if m=0 then (⟨true,[],none⟩:Rg) else ⟨false,[],none⟩:=⟨_,rfl⟩
    obtain⟨c1,iJ⟩:∃c,c=c0++aL.cH ⟨ky,a1,a2,a3,⟨lM,lL,lO,lN,lg,lh,li,lj,iL,iM,iP,iQ,lH,lI,lJ,lK⟩,ta⟩:=⟨_,rfl⟩;refine X.iA ([]) ([(83,⟨fun _=>.osl 5 0 (m+1) 13 none,[(0,r0)],[⟨true,c1,none⟩]⟩)]) gR 400 _ rfl aad (fun pr pe fin aj bm ai=>?_)
    conv=>cbv
    refine⟨bm _ _ _ _ _ ?_,ai _ _ ?_⟩
    ·rw[iJ]
     exact zX (te:=fe) (m:=m) gR rfl rfl rfl rfl rfl j5 rfl KF pG (aY (g:=⟨true,aL.cH ⟨ky,a1,a2,a3,⟨lM,lL,lO,lN,lg,lh,li,lj,iL,iM,iP,iQ,lH,lI,lJ,lK⟩,ta⟩,none⟩) rfl rfl rfl rfl) (bL (by decide) rfl rfl rfl (by show(2*(m+1)+256)*160<=_;omega) (by omega)) rfl
    clear aj bm ai;have rG:c1=jO (L++[⟨ky,a1,a2,a3,⟨lM,lL,lO,lN,lg,lh,li,lj,iL,iM,iP,iQ,lH,lI,lJ,lK⟩,ta⟩]):=by rw[iJ,kX,mX]
    have rJ:eV 0 (m+1) 13=.osl 0 0 (m+1) 13 none:=rfl;have Gf:(A++[(⟨x.key,x.s.acc,f.s.a8,x.eY⟩:aI)]).length=m+1:=by simp[hm]
    refine X.lb ?_;have yg:∀q,r0.cells.all (bd q)=true:=fun q=>by rw[pG];split<;>rfl
    have pH:r0.ob=none:=by rw[pG];split<;>rfl
    have ux:∀q,c1.all (bd q)=true:=fun q=>by rw[rG];exact jf
    refine X.frame [(4,.val (.osl 5 0 (m+1) 13 none)),(0,.val (.ao po n cp)),(5,.val (.bool (.lit true))),(11,.val (.int .i64 (.nat n))),(12,.val (.int .i64 (.nat (i+1))))] (fun N=>(by repeat first|exact trivial|refine Dm rfl (by first|rfl|assumption) ?_|refine mi rfl rfl rfl ?_|refine mi rfl rfl (by simp (disch:=omega) [SV.den,SI.den,lv,lu]<;>omega) ?_|refine mi rfl rfl (by simp[SV.den,SI.den,aax,aay,aaz]<;>omega) ?_)) (fun N=>⟨fun h=>h,aR.refl (yg _),pH,fun h=>h,aR.refl rfl,rfl,fun h=>h,aR.refl rfl,rfl,fun h=>h,aR.refl rfl,rfl,fun h=>h,aR.refl rfl,rfl,fun h=>h,aR.refl (ux _),rfl,trivial⟩) ?_;show X (aK aac aas Q w (bq [] []) im (fun _ _=>False) (fun _=>True) [] Xk) _ ⟨[(4,.val (.osl 5 0 (m+1) 13 none)),(0,.val (.ao po n cp)),(5,.val (.bool (.lit true))),(11,.val (.int .i64 (.nat n))),(12,.val (.int .i64 (.nat (i+1))))],[r0,⟨false,cy.cH ⟨nd,cc,op,on,oc,np,nn,nc,ky,ml,s1,s2,s3,a1,a2,a3,⟨gk,gi,gs,gl,q1,q2,q3,q4,m1,m2,m3,m4,f1,f2,f3,f4⟩,ta⟩,none⟩,⟨true,cy.cH ⟨nd,cc,op,on,oc,np,nn,nc,ky,ml,s1,s2,s3,a1,a2,a3,⟨gk,gi,gs,gl,q1,q2,q3,q4,m1,m2,m3,m4,f1,f2,f3,f4⟩,ta⟩,none⟩,⟨true,cy.cH ⟨k_,WD,Xa,W_,W9,W8,AN,W7,sJ,HT,Xc,Xd,Xe,f_,gb,gd,⟨lM,lL,lO,lN,lg,lh,li,lj,iL,iM,iP,iQ,lH,lI,lJ,lK⟩,sK⟩,none⟩,⟨true,aL.cH ⟨ky,a1,a2,a3,⟨lM,lL,lO,lN,lg,lh,li,lj,iL,iM,iP,iQ,lH,lI,lJ,lK⟩,ta⟩,none⟩]++[⟨true,c1,none⟩]⟩;refine X.swap (f:=[(0,.val (.ao po n cp)),(5,.val (.bool (.lit true))),(11,.val (.int .i64 (.nat n))),(12,.val (.int .i64 (.nat (i+1))))]) (rg:=[r0,⟨false,cy.cH ⟨nd,cc,op,on,oc,np,nn,nc,ky,ml,s1,s2,s3,a1,a2,a3,⟨gk,gi,gs,gl,q1,q2,q3,q4,m1,m2,m3,m4,f1,f2,f3,f4⟩,ta⟩,none⟩,⟨true,cy.cH ⟨nd,cc,op,on,oc,np,nn,nc,ky,ml,s1,s2,s3,a1,a2,a3,⟨gk,gi,gs,gl,q1,q2,q3,q4,m1,m2,m3,m4,f1,f2,f3,f4⟩,ta⟩,none⟩,⟨true,cy.cH ⟨k_,WD,Xa,W_,W9,W8,AN,W7,sJ,HT,Xc,Xd,Xe,f_,gb,gd,⟨lM,lL,lO,lN,lg,lh,li,lj,iL,iM,iP,iQ,lH,lI,lJ,lK⟩,sK⟩,none⟩,⟨true,aL.cH ⟨ky,a1,a2,a3,⟨lM,lL,lO,lN,lg,lh,li,lj,iL,iM,iP,iQ,lH,lI,lJ,lK⟩,ta⟩,none⟩]) (g:=⟨true,c1,none⟩) rfl 0 rfl ⟨.inl rfl,.inr rfl,.inr rfl,.inr rfl,.inr rfl,trivial⟩ (by rw[rG];exact lq) (fun g' eN=>?_) (by repeat first|exact trivial|refine⟨rfl,?_⟩|refine⟨by assumption,?_⟩) ?_
    ·simp only[aaE,aaF,aav,aaw,or_false] at eN
     rcases eN with h|rfl|rfl|rfl|rfl|rfl
     ·rw[h];exact pH
     ·rfl
     ·rfl
     ·rfl
     ·rfl
     ·rfl
    refine X.back (fun N a w' hN hf hS=>cF ⟨(i+1,L++[⟨ky,a1,a2,a3,⟨lM,lL,lO,lN,lg,lh,li,lj,iL,iM,iP,iQ,lH,lI,lJ,lK⟩,ta⟩]),by show i+1<=n;omega,by rw[gU];exact hR.add bM⟩ a w' (by simp only;omega) ?_);show At _ ⟨[(0,.val (.ao po n cp)),(4,.val (eV 0 (fS l (i+1)).length 13)),(5,.val (.bool (.v (ik l (i+1))))),(11,.val (.int .i64 (.nat n))),(12,.val (.int .i64 (.nat (i+1))))],[⟨true,jO (L++[⟨ky,a1,a2,a3,⟨lM,lL,lO,lN,lg,lh,li,lj,iL,iM,iP,iQ,lH,lI,lJ,lK⟩,ta⟩]),none⟩]⟩ a w';rw[gU,Gf,<-rG,rJ,Ew];exact At.qX hf hS ⟨fun h=>h,aR.refl (by rw[rG];exact jf),rfl,trivial⟩
   ·simp only[SB.T,SB.F,SI.den] at hF
    rw[if_neg (by grind)] at gU;refine X.go gR 400 _ rfl aad ?_
    conv=>arg 2;cbv
    refine X.back (fun N a w' hN hf hS=>cF ⟨(i+1,L),by show i+1<=n;omega,by rw[gU];exact hR⟩ a w' (by simp only;omega) ?_);show At _ ⟨[(0,.val (.ao po n cp)),(4,.val (eV 0 (fS l (i+1)).length 13)),(5,.val (.bool (.v (ik l (i+1))))),(11,.val (.int .i64 (.nat n))),(12,.val (.int .i64 (.nat (i+1))))],[⟨true,jO L,none⟩]⟩ a w';rw[gU,<-hm,<-j5,<-kX,Ew];exact At.qX hf hS ⟨fun h=>h,aR.refl (rF _),rfl,trivial⟩
  ·simp only[SB.T,SB.F] at hU
   have Ew:ik l (i+1)=tb:=by rw[Ew];revert hU;cases cz<;>cases rz<;>simp
   refine X.iA ([(51,.bool (.v hb)),(61,.ao po i1 cp),(67,.int .u64 (.nat nx)),(68,.bool (.v qb))]) ([]) gR 400 _ rfl aad (fun pr pe fin aj bm ai=>?_)
   conv=>cbv
   refine⟨aj _ (v_ (L:=L) (r:=0) (m:=m) rfl (by rw[kX];rfl) (hR.mono ct) hm.symm (by omega) j5 pE),aj _ (uY rfl rfl KQ (by omega) aak aal),aj _ (.of aaJ [.slice po i1 cp,.int .u8 ky,.agg #[.int .u64 a1,.int .u8 a2,.int .u32 a3]] (.int .u64 nx) (fun _=>rfl) (fun _=>rfl) fun _ w1 bI=>Az w1 bI),aj _ (.of aaK [.agg _,.int .u8 ky,.int .u64 nx] (.bool qb) (fun _=>rfl) (fun _=>rfl) fun _ w1 bI=>EF w1 bI),ai _ _ ?_⟩;clear aj bm ai;refine X.cond rfl (fun hT=>?_) (fun hF=>?_)
   ·simp only[SB.T,SB.F,SI.den] at hT
    rw[if_pos (by rw[hT.1,hT.2];rfl)] at gU;obtain⟨r0,pG⟩:∃r0,r0=if m=0 then (⟨true,[],none⟩:Rg) else ⟨false,[],none⟩:=⟨_,rfl⟩
    obtain⟨c1,iJ⟩:∃c,c=c0++aL.cH ⟨ky,a1,a2,a3,⟨lM,lL,lO,lN,lg,lh,li,lj,iL,iM,iP,iQ,lH,lI,lJ,lK⟩,ta⟩:=⟨_,rfl⟩;refine X.iA ([]) ([(83,⟨fun _=>.osl 5 0 (m+1) 13 none,[(0,r0)],[⟨true,c1,none⟩]⟩)]) gR 400 _ rfl aad (fun pr pe fin aj bm ai=>?_)
    conv=>cbv
    refine⟨bm _ _ _ _ _ ?_,ai _ _ ?_⟩
    ·rw[iJ]
     exact zX (te:=fe) (m:=m) gR rfl rfl rfl rfl rfl j5 rfl KF pG (aY (g:=⟨true,aL.cH ⟨ky,a1,a2,a3,⟨lM,lL,lO,lN,lg,lh,li,lj,iL,iM,iP,iQ,lH,lI,lJ,lK⟩,ta⟩,none⟩) rfl rfl rfl rfl) (bL (by decide) rfl rfl rfl (by show(2*(m+1)+256)*160<=_;omega) (by omega)) rfl
    clear aj bm ai;have rG:c1=jO (L++[⟨ky,a1,a2,a3,⟨lM,lL,lO,lN,lg,lh,li,lj,iL,iM,iP,iQ,lH,lI,lJ,lK⟩,ta⟩]):=by rw[iJ,kX,mX]
    have rJ:eV 0 (m+1) 13=.osl 0 0 (m+1) 13 none:=rfl;have Gf:(A++[(⟨x.key,x.s.acc,f.s.a8,x.eY⟩:aI)]).length=m+1:=by simp[hm]
    refine X.lb ?_;have yg:∀q,r0.cells.all (bd q)=true:=fun q=>by rw[pG];split<;>rfl
    have pH:r0.ob=none:=by rw[pG];split<;>rfl
    have ux:∀q,c1.all (bd q)=true:=fun q=>by rw[rG];exact jf
    refine X.frame [(4,.val (.osl 5 0 (m+1) 13 none)),(0,.val (.ao po n cp)),(5,.val (.bool (.v tb))),(11,.val (.int .i64 (.nat n))),(12,.val (.int .i64 (.nat (i+1))))] (fun N=>(by repeat first|exact trivial|refine Dm rfl (by first|rfl|assumption) ?_|refine mi rfl rfl rfl ?_|refine mi rfl rfl (by simp (disch:=omega) [SV.den,SI.den,lv,lu]<;>omega) ?_|refine mi rfl rfl (by simp[SV.den,SI.den,aax,aay,aaz]<;>omega) ?_)) (fun N=>⟨fun h=>h,aR.refl (yg _),pH,fun h=>h,aR.refl rfl,rfl,fun h=>h,aR.refl rfl,rfl,fun h=>h,aR.refl rfl,rfl,fun h=>h,aR.refl rfl,rfl,fun h=>h,aR.refl (ux _),rfl,trivial⟩) ?_;show X (aK aac aas Q w (bq [] []) im (fun _ _=>False) (fun _=>True) [] Xk) _ ⟨[(4,.val (.osl 5 0 (m+1) 13 none)),(0,.val (.ao po n cp)),(5,.val (.bool (.v tb))),(11,.val (.int .i64 (.nat n))),(12,.val (.int .i64 (.nat (i+1))))],[r0,⟨false,cy.cH ⟨nd,cc,op,on,oc,np,nn,nc,ky,ml,s1,s2,s3,a1,a2,a3,⟨gk,gi,gs,gl,q1,q2,q3,q4,m1,m2,m3,m4,f1,f2,f3,f4⟩,ta⟩,none⟩,⟨true,cy.cH ⟨nd,cc,op,on,oc,np,nn,nc,ky,ml,s1,s2,s3,a1,a2,a3,⟨gk,gi,gs,gl,q1,q2,q3,q4,m1,m2,m3,m4,f1,f2,f3,f4⟩,ta⟩,none⟩,⟨true,cy.cH ⟨k_,WD,Xa,W_,W9,W8,AN,W7,sJ,HT,Xc,Xd,Xe,f_,gb,gd,⟨lM,lL,lO,lN,lg,lh,li,lj,iL,iM,iP,iQ,lH,lI,lJ,lK⟩,sK⟩,none⟩,⟨true,aL.cH ⟨ky,a1,a2,a3,⟨lM,lL,lO,lN,lg,lh,li,lj,iL,iM,iP,iQ,lH,lI,lJ,lK⟩,ta⟩,none⟩]++[⟨true,c1,none⟩]⟩;refine X.swap (f:=[(0,.val (.ao po n cp)),(5,.val (.bool (.v tb))),(11,.val (.int .i64 (.nat n))),(12,.val (.int .i64 (.nat (i+1))))]) (rg:=[r0,⟨false,cy.cH ⟨nd,cc,op,on,oc,np,nn,nc,ky,ml,s1,s2,s3,a1,a2,a3,⟨gk,gi,gs,gl,q1,q2,q3,q4,m1,m2,m3,m4,f1,f2,f3,f4⟩,ta⟩,none⟩,⟨true,cy.cH ⟨nd,cc,op,on,oc,np,nn,nc,ky,ml,s1,s2,s3,a1,a2,a3,⟨gk,gi,gs,gl,q1,q2,q3,q4,m1,m2,m3,m4,f1,f2,f3,f4⟩,ta⟩,none⟩,⟨true,cy.cH ⟨k_,WD,Xa,W_,W9,W8,AN,W7,sJ,HT,Xc,Xd,Xe,f_,gb,gd,⟨lM,lL,lO,lN,lg,lh,li,lj,iL,iM,iP,iQ,lH,lI,lJ,lK⟩,sK⟩,none⟩,⟨true,aL.cH ⟨ky,a1,a2,a3,⟨lM,lL,lO,lN,lg,lh,li,lj,iL,iM,iP,iQ,lH,lI,lJ,lK⟩,ta⟩,none⟩]) (g:=⟨true,c1,none⟩) rfl 0 rfl ⟨.inl rfl,.inr rfl,.inr rfl,.inr rfl,.inr rfl,trivial⟩ (by rw[rG];exact lq) (fun g' eN=>?_) (by repeat first|exact trivial|refine⟨rfl,?_⟩|refine⟨by assumption,?_⟩) ?_
    ·simp only[aaE,aaF,aav,aaw,or_false] at eN
     rcases eN with h|rfl|rfl|rfl|rfl|rfl
     ·rw[h];exact pH
     ·rfl
     ·rfl
     ·rfl
     ·rfl
     ·rfl
    refine X.back (fun N a w' hN hf hS=>cF ⟨(i+1,L++[⟨ky,a1,a2,a3,⟨lM,lL,lO,lN,lg,lh,li,lj,iL,iM,iP,iQ,lH,lI,lJ,lK⟩,ta⟩]),by show i+1<=n;omega,by rw[gU];exact hR.add bM⟩ a w' (by simp only;omega) ?_);show At _ ⟨[(0,.val (.ao po n cp)),(4,.val (eV 0 (fS l (i+1)).length 13)),(5,.val (.bool (.v (ik l (i+1))))),(11,.val (.int .i64 (.nat n))),(12,.val (.int .i64 (.nat (i+1))))],[⟨true,jO (L++[⟨ky,a1,a2,a3,⟨lM,lL,lO,lN,lg,lh,li,lj,iL,iM,iP,iQ,lH,lI,lJ,lK⟩,ta⟩]),none⟩]⟩ a w';rw[gU,Gf,<-rG,rJ,Ew];exact At.qX hf hS ⟨fun h=>h,aR.refl (by rw[rG];exact jf),rfl,trivial⟩
   ·simp only[SB.T,SB.F,SI.den] at hF
    rw[if_neg (by grind)] at gU;refine X.go gR 400 _ rfl aad ?_
    conv=>arg 2;cbv
    refine X.back (fun N a w' hN hf hS=>cF ⟨(i+1,L),by show i+1<=n;omega,by rw[gU];exact hR⟩ a w' (by simp only;omega) ?_);show At _ ⟨[(0,.val (.ao po n cp)),(4,.val (eV 0 (fS l (i+1)).length 13)),(5,.val (.bool (.v (ik l (i+1))))),(11,.val (.int .i64 (.nat n))),(12,.val (.int .i64 (.nat (i+1))))],[⟨true,jO L,none⟩]⟩ a w';rw[gU,<-hm,<-j5,<-kX,Ew];exact At.qX hf hS ⟨fun h=>h,aR.refl (rF _),rfl,trivial⟩
 simp only[SB.F,SI.den] at cJ;have cJ:(n:Int)<=(i:Int):=cJ;have yd:i=n:=by omega
 subst yd;refine X.go gR 400 _ rfl aad ?_
 conv=>arg 2;cbv
 refine X.done gR rfl (fun N w' v hN hS hv=>?_);obtain⟨p0,fJ⟩:∃p,N[0]?=some p:=⟨_,aae (by rw[hS.len];show 0<1;omega)⟩;rw[hQ,<-hn,<-hA,<-Gn];obtain⟨u,hu⟩:∃u,v1.den N=some u:=by
  cases hd:v1.den N with
  |none=>simp[bz,SV.den,SV.ap,hd] at hv
  |some u=>exact⟨u,rfl⟩
 obtain⟨p,c,h1,h2⟩:=LP hS rfl fJ hR (by rw[kX]) hm.symm (by omega) j5 hu;have wj:v=.tuple #[u,.bool tb]:=by
  simp only[bz,SV.den,SV.ap,hu,SB.den,aA] at hv;exact hv.symm
 exact⟨⟨p,c,by rw[wj,h1],h2⟩,hS.aM.none⟩
end Go.Proofs.YthpbefahaghbjaaGreat
