import Derived.Test.YthpbefahaghbjaaGreatPd6
import Derived.Test.YthpbefahaghbjaaGreatPd2
import Derived.Shelf.SlSortCmp.NoneTotal
import Derived.Shelf.SlSorted.Search
import Derived.Shelf.SlicesE.Compact
import Derived.Shelf.SlicesE.Kit
open Go.Proofs.Tryz renaming prog→aac,results122→aad,results119→aae,isAgg5→aaf,results121→aag,f122→aah,f119→aai,f121→aal,underlying3→aao,isAgg3→aap,sizeOf3→aaq,zeroValue3→aar,underlying4→aas,isAgg4→aau,sizeOf4→aav,zeroValue4→aaw,underlying113→aax,isAgg113→aay,sizeOf113→aaz,zeroValue113→aaA,sizeOf5→aaD,underlying29→aaE,isAgg29→aaF,sizeOf29→aaG,zeroValue29→aaH,func60→aaK,func77→aaL,func78→aaM,underlying0→aaN,isAgg0→aaO,sizeOf0→aaP,zeroValue0→aaQ,underlying5→aaR,zeroValue5→aaS,underlying9→aaT,isAgg9→aaU,sizeOf9→aaV,zeroValue9→aaW,underlying33→aaX,isAgg33→aaY,sizeOf33→aaZ,zeroValue33→aa0,func92→aa1,func93→aa2,underlying140→aa3,isAgg140→aa4,sizeOf140→aa5,zeroValue140→aa6,underlying157→aa7,isAgg157→aa8,sizeOf157→aa9,zeroValue157→aba
open Go.Sort renaming scanUp→aaj,scanDown→aak,shiftUp→aam,shiftDown→aan,partition→aaB,partLoop→aaC,partitionEqual→aaI,scanSorted→aaJ
set_option maxHeartbeats 16000000
set_option maxRecDepth 100000
set_option cbv.maxSteps 100000000
namespace Go.Proofs.YthpbefahaghbjaaGreat
open Go Go.bU Go.Sort
theorem LQ (b y n c a e pv:Nat)(d:Array Int)(w:World)(hA:fh w b y d)(hn:d.size=n)(hap:a<=pv)(bm:pv<e)(Dv:e<=n)(fA:n<4611686018427387904) :
  Calls aac 122 #[.slice (some ⟨b,y,none⟩) n c,.int .i64 a,.int .i64 e,.int .i64 pv] w fun en w'=>en=.returned (.tuple #[.int .i64 (aaB ltInt d a e pv).1,.bool (aaB ltInt d a e pv).2.1])/\fh w' b y (aaB ltInt d a e pv).2.2/\aW (cW b y n) w w':=by
 obtain⟨R,hR⟩:∃R,R=aaB ltInt d a e pv:=⟨_,rfl⟩;rw[<-hR];obtain⟨p,hp⟩:∃p,p=some (Addr.mk b y none):=⟨_,rfl⟩;rw[<-hp];have sd:=hn;refine X.ly hA hn (ss:=[.ao p n c,.int .i64 (.nat a),.int .i64 (.nat e),.int .i64 (.nat pv)]) Tryz.func122 rfl FF rfl rfl ?_;refine X.go bE 400 _ rfl aad ?_
 conv=>arg 2;cbv
 obtain⟨d1,jT⟩:∃x,x=swp d a pv:=⟨_,rfl⟩;have jv:d1.size=n:=by rw[jT,bQ];exact sd
 refine X.join (ι:=Unit) (fun _=>aE aac aah _ w b y n (wm w) d1 [] nm) (fun _=>⟨[(0,.val (.ao p n c)),(1,.val (.int .i64 (.nat a))),(2,.val (.int .i64 (.nat e)))],[]⟩) (fun _=>⟨rfl,rfl,rfl⟩) (fun qj nj=>?_) (fun _=>?_)
 ·obtain⟨xi,gf⟩:∃x,d[a]! = x:=⟨_,rfl⟩
  obtain⟨xj,gZ⟩:∃x,d[pv]! = x:=⟨_,rfl⟩
  by_cases iK:a=pv
  ·refine X.oL hA hn sd (i:=a) (by omega) gf (by simp) (fun N1 _ dQ=>?_)
   have g0:(N1++[⟨b,y+a,1⟩]:af)[0]?=some ⟨b,y+a,1⟩:=ax dQ;refine X.dk ([(18,.own 0 0),(22,.own 0 0),(24,.own 0 0),(25,.own 0 0)]) bE 400 _ rfl aad (fun pr fin aj ai=>?_)
   conv=>cbv
   refine⟨aj _ (dg a rfl rfl hp g0),aj _ (dg a rfl rfl hp g0),aj _ (dg a rfl rfl hp g0),aj _ (dg a rfl rfl hp g0),ai _ _ ?_⟩;refine X.nW (i:=a) (r:=0) sd (by omega) gf rfl g0 ?_;refine X.back (fun N ac w' hN hf hS=>nj () ac w' ?_);rw[jT,<-iK,eX (by omega)];exact At.gG hf hS trivial
  ·refine X.jx hA hn sd (i:=a) (j:=pv) iK (by omega) (by omega) gf gZ (by simp) (fun N1 _ dQ=>?_)
   have g0:((N1++[⟨b,y+a,1⟩])++[⟨b,y+pv,1⟩]:af)[0]?=some ⟨b,y+a,1⟩:=b9 (ax dQ);have g1:((N1++[⟨b,y+a,1⟩])++[⟨b,y+pv,1⟩]:af)[1]?=some ⟨b,y+pv,1⟩:=ax (by simp[dQ]);refine X.dk ([(18,.own 1 0),(22,.own 0 0),(24,.own 0 0),(25,.own 1 0)]) bE 400 _ rfl aad (fun pr fin aj ai=>?_)
   conv=>cbv
   refine⟨aj _ (dg pv rfl rfl hp g1),aj _ (dg a rfl rfl hp g0),aj _ (dg a rfl rfl hp g0),aj _ (dg pv rfl rfl hp g1),ai _ _ ?_⟩;refine X.jo (i:=a) (j:=pv) (r:=0) sd iK (by omega) (by omega) gf gZ rfl rfl g0 g1 ?_;refine X.back (fun N ac w' hN hf hS=>nj () ac w' ?_);rw[jT];exact At.gG hf hS trivial
 refine X.go bE 400 _ rfl aad ?_
 conv=>arg 2;cbv
 obtain⟨i0,tg⟩:∃k,k=a+1:=⟨_,rfl⟩;obtain⟨j0,YA⟩:∃k,k=e-1:=⟨_,rfl⟩;obtain⟨i10,bI⟩:∃k,k=aaj (fun x=>ltInt x d1[a]!) d1 j0 i0:=⟨_,rfl⟩;refine X.loop (fun _=>aE aac aah _ w b y n (wm w) d1 [] nm) (fun g:{g:Nat // i0<=g/\g<=j0+1/\aaj (fun x=>ltInt x d1[a]!) d1 j0 g=i10}=>⟨[(0,.val (.ao p n c)),(1,.val (.int .i64 (.nat a))),(10,.val (.int .i64 (.nat g.1))),(11,.val (.int .i64 (.nat j0)))],[]⟩) (fun g=>j0+1-g.1) (fun _=>⟨rfl,rfl,rfl,rfl⟩) (fun N ac w' hN hf hS=>⟨⟨i0,by omega,by omega,bI.symm⟩,?_⟩) (fun g q hq=>?_)
 ·exact At.gG hf hS trivial
 obtain⟨i1,agu,agw,pI⟩:=g;obtain⟨xu,mq⟩:∃x,d1[i1]! = x:=⟨_,rfl⟩;obtain⟨xa,n_⟩:∃x,d1[a]! = x:=⟨_,rfl⟩;obtain⟨t,ht⟩:∃t,t=ltInt xu xa:=⟨_,rfl⟩;obtain⟨ou,yM⟩:∃o,o=y+i1:=⟨_,rfl⟩;obtain⟨oa,Cj⟩:∃o,o=y+a:=⟨_,rfl⟩;show X (aE aac aah _ w b y n (wm w) d1 [] nm) _ ⟨[(0,.val (.ao p n c)),(1,.val (.int .i64 (.nat a))),(10,.val (.int .i64 (.nat i1))),(11,.val (.int .i64 (.nat j0)))],[]⟩;refine X.dk ([(36,.ext b ou 0),(37,.int .u8 (.v xu)),(40,.ext b oa 0),(41,.int .u8 (.v xa)),(42,.bool (.v t))]) bE 400 _ rfl aad (fun pr fin aj ai=>?_)
 conv=>cbv
 refine⟨aj _ (dq rfl ht),aj _ (au.eC rfl aaf (fun _=>rfl) fun hT=>(by have hT:_=true:=hT;simp[SB.den,SI.den] at hT;(try replace hT:=of_decide_eq_true hT);(try simp (disch:=omega) only [SI.den,a_] at hT);rw[<-n_,Cj];exact bK (by omega))),aj _ (au.eC rfl aaf (fun _=>rfl) fun hT=>(by have hT:_=true:=hT;simp[SB.den,SI.den] at hT;(try replace hT:=of_decide_eq_true hT);(try simp (disch:=omega) only [SI.den,a_] at hT);rw[<-mq,yM];exact bK (by omega))),aj _ (zx a rfl rfl hp),aj _ (zx i1 rfl rfl hp),ai _ _ ?_⟩;refine X.cond rfl (fun hc=>?_) (fun hc=>?_)
 ·simp only[SB.T,SB.F,SI.den] at hc
  obtain⟨iJ,gn⟩:=hc;refine X.go bE 400 _ rfl aad ?_
  conv=>arg 2;cbv
  refine X.back (fun N ac w' hN hf hS=>hq ⟨i1+1,by omega,by omega,?_⟩ ac w' (by simp only;omega) ?_)
  ·rw[<-pI];conv=>rhs;rw[aaj,if_pos (by rw[mq,n_,<-ht,gn];simp;omega)]
  ·exact At.gG hf hS trivial
 simp only[SB.T,SB.F,SI.den] at hc;rw[aaj,if_neg (by rw[mq,n_,<-ht];rcases hc with h|h;simp;omega;simp[h])] at pI;have xi1:i1 > j0\/ltInt d1[i1]! d1[a]! = false:=by
  rcases hc with h|h
  ·left;omega
  ·right;rw[mq,n_,<-ht];exact h
 subst pI;clear hc mq n_ ht yM Cj hq;refine X.go bE 400 _ rfl aad ?_
 conv=>arg 2;cbv
 obtain⟨j10,WW⟩:∃k,k=aak (fun x=>!ltInt x d1[a]!) d1 i1 j0:=⟨_,rfl⟩;refine X.loop (fun _=>aE aac aah _ w b y n (wm w) d1 [] nm) (fun g:{g:Nat // g<=j0/\i1<=g+1/\aak (fun x=>!ltInt x d1[a]!) d1 i1 g=j10}=>⟨[(0,.val (.ao p n c)),(1,.val (.int .i64 (.nat a))),(10,.val (.int .i64 (.nat i1))),(11,.val (.int .i64 (.nat g.1)))],[]⟩) (fun g=>g.1) (fun _=>⟨rfl,rfl,rfl,rfl⟩) (fun N ac w' hN hf hS=>⟨⟨j0,by omega,by omega,WW.symm⟩,?_⟩) (fun g q hq=>?_)
 ·exact At.gG hf hS trivial
 obtain⟨j1,agv,agx,pI⟩:=g;obtain⟨xu,mq⟩:∃x,d1[j1]! = x:=⟨_,rfl⟩;obtain⟨xa,n_⟩:∃x,d1[a]! = x:=⟨_,rfl⟩;obtain⟨t,ht⟩:∃t,t=ltInt xu xa:=⟨_,rfl⟩;obtain⟨ou,yM⟩:∃o,o=y+j1:=⟨_,rfl⟩;obtain⟨oa,Cj⟩:∃o,o=y+a:=⟨_,rfl⟩;show X (aE aac aah _ w b y n (wm w) d1 [] nm) _ ⟨[(0,.val (.ao p n c)),(1,.val (.int .i64 (.nat a))),(10,.val (.int .i64 (.nat i1))),(11,.val (.int .i64 (.nat j1)))],[]⟩;refine X.dk ([(52,.ext b ou 0),(53,.int .u8 (.v xu)),(56,.ext b oa 0),(57,.int .u8 (.v xa)),(58,.bool (.v t))]) bE 400 _ rfl aad (fun pr fin aj ai=>?_)
 conv=>cbv
 refine⟨aj _ (dq rfl ht),aj _ (au.eC rfl aaf (fun _=>rfl) fun hT=>(by have hT:_=true:=hT;simp[SB.den,SI.den] at hT;(try replace hT:=of_decide_eq_true hT);(try simp (disch:=omega) only [SI.den,a_] at hT);rw[<-n_,Cj];exact bK (by omega))),aj _ (au.eC rfl aaf (fun _=>rfl) fun hT=>(by have hT:_=true:=hT;simp[SB.den,SI.den] at hT;(try replace hT:=of_decide_eq_true hT);(try simp (disch:=omega) only [SI.den,a_] at hT);rw[<-mq,yM];exact bK (by omega))),aj _ (zx a rfl rfl hp),aj _ (zx j1 rfl rfl hp),ai _ _ ?_⟩;refine X.cond rfl (fun hc=>?_) (fun hc=>?_)
 ·simp only[SB.T,SB.F,SI.den] at hc
  obtain⟨iJ,gn⟩:=hc;refine X.go bE 400 _ rfl aad ?_
  conv=>arg 2;cbv
  refine X.back (fun N ac w' hN hf hS=>hq ⟨j1-1,by omega,by omega,?_⟩ ac w' (by simp only;omega) ?_)
  ·obtain⟨v,rfl⟩:∃v,j1=v+1:=⟨j1-1,by omega⟩
   rw[<-pI];conv=>rhs;rw[aak,if_pos (by rw[mq,n_,<-ht,gn];simp;omega)]
   rfl
  ·exact At.gG hf hS trivial
 simp only[SB.T,SB.F,SI.den] at hc;have pI:j1=j10:=by
  cases j1 with
  |zero=>rw[<-pI];rfl
  |succ v=>rw[<-pI,aak,if_neg (by rw[mq,n_,<-ht];rcases hc with h|h;simp;omega;simp[h])]
 have xj1:i1 > j1\/ltInt d1[j1]! d1[a]! = true:=by
  rcases hc with h|h
  ·left;omega
  ·right;rw[mq,n_,<-ht];exact h
 subst pI;clear hc mq n_ ht yM Cj hq;refine X.go bE 400 _ rfl aad ?_
 conv=>arg 2;cbv
 have HG:R=(if i1 > j1 then (j1,true,swp d1 j1 a) else ((aaC ltInt a (i1+1) (j1-1) (swp d1 i1 j1)).1,false,swp (aaC ltInt a (i1+1) (j1-1) (swp d1 i1 j1)).2 (aaC ltInt a (i1+1) (j1-1) (swp d1 i1 j1)).1 a)):=by
  rw[hR];unfold aaB;simp only[<-jT,<-tg,<-YA,<-bI,<-WW]
 refine X.cond rfl (fun WU=>?_) (fun hle=>?_)
 ·simp only[SB.T,SI.den] at WU
  rw[if_pos (by omega)] at HG;refine X.go bE 400 _ rfl aad ?_
  conv=>arg 2;cbv
  obtain⟨d2,gT⟩:∃x,x=swp d1 j1 a:=⟨_,rfl⟩;have E8:d2.size=n:=by rw[gT,bQ];exact jv
  refine X.join (ι:=Unit) (fun _=>aE aac aah _ w b y n (wm w) d2 [] nm) (fun _=>⟨[(0,.val (.ao p n c)),(1,.val (.int .i64 (.nat a))),(11,.val (.int .i64 (.nat j1)))],[]⟩) (fun _=>⟨rfl,rfl,rfl⟩) (fun qj nj=>?_) (fun _=>?_)
  ·obtain⟨xi,gf⟩:∃x,d1[j1]! = x:=⟨_,rfl⟩
   obtain⟨xj,gZ⟩:∃x,d1[a]! = x:=⟨_,rfl⟩
   by_cases iK:j1=a
   ·refine X.oL hA hn jv (i:=j1) (by omega) gf (by simp) (fun N1 _ dQ=>?_)
    have g0:(N1++[⟨b,y+j1,1⟩]:af)[0]?=some ⟨b,y+j1,1⟩:=ax dQ;refine X.dk ([(72,.own 0 0),(76,.own 0 0),(78,.own 0 0),(79,.own 0 0)]) bE 400 _ rfl aad (fun pr fin aj ai=>?_)
    conv=>cbv
    refine⟨aj _ (dg j1 rfl rfl hp g0),aj _ (dg j1 rfl rfl hp g0),aj _ (dg j1 rfl rfl hp g0),aj _ (dg j1 rfl rfl hp g0),ai _ _ ?_⟩;refine X.nW (i:=j1) (r:=0) jv (by omega) gf rfl g0 ?_;refine X.back (fun N ac w' hN hf hS=>nj () ac w' ?_);rw[gT,<-iK,eX (by omega)];exact At.gG hf hS trivial
   ·refine X.jx hA hn jv (i:=j1) (j:=a) iK (by omega) (by omega) gf gZ (by simp) (fun N1 _ dQ=>?_)
    have g0:((N1++[⟨b,y+j1,1⟩])++[⟨b,y+a,1⟩]:af)[0]?=some ⟨b,y+j1,1⟩:=b9 (ax dQ);have g1:((N1++[⟨b,y+j1,1⟩])++[⟨b,y+a,1⟩]:af)[1]?=some ⟨b,y+a,1⟩:=ax (by simp[dQ]);refine X.dk ([(72,.own 1 0),(76,.own 0 0),(78,.own 0 0),(79,.own 1 0)]) bE 400 _ rfl aad (fun pr fin aj ai=>?_)
    conv=>cbv
    refine⟨aj _ (dg a rfl rfl hp g1),aj _ (dg j1 rfl rfl hp g0),aj _ (dg j1 rfl rfl hp g0),aj _ (dg a rfl rfl hp g1),ai _ _ ?_⟩;refine X.jo (i:=j1) (j:=a) (r:=0) jv iK (by omega) (by omega) gf gZ rfl rfl g0 g1 ?_;refine X.back (fun N ac w' hN hf hS=>nj () ac w' ?_);rw[gT];exact At.gG hf hS trivial
  refine X.go bE 400 _ rfl aad ?_
  conv=>arg 2;cbv
  refine X.done bE rfl (fun N w' v hN hS hv=>⟨?_,?_⟩)
  ·simp only[bz,SV.den,SV.ap,SI.den,SB.den,aA] at hv
   rw[<-hv,HG]
  ·rw[HG,<-gT]
   exact Sat.kK hS hA hn E8
 simp only[SB.F,SI.den] at hle;rw[if_neg (by omega)] at HG;refine X.go bE 400 _ rfl aad ?_
 conv=>arg 2;cbv
 obtain⟨d2,gT⟩:∃x,x=swp d1 i1 j1:=⟨_,rfl⟩;have E8:d2.size=n:=by rw[gT,bQ];exact jv
 refine X.join (ι:=Unit) (fun _=>aE aac aah _ w b y n (wm w) d2 [] nm) (fun _=>⟨[(0,.val (.ao p n c)),(1,.val (.int .i64 (.nat a))),(10,.val (.int .i64 (.nat i1))),(11,.val (.int .i64 (.nat j1)))],[]⟩) (fun _=>⟨rfl,rfl,rfl⟩) (fun qj nj=>?_) (fun _=>?_)
 ·obtain⟨xi,gf⟩:∃x,d1[i1]! = x:=⟨_,rfl⟩
  obtain⟨xj,gZ⟩:∃x,d1[j1]! = x:=⟨_,rfl⟩
  by_cases iK:i1=j1
  ·refine X.oL hA hn jv (i:=i1) (by omega) gf (by simp) (fun N1 _ dQ=>?_)
   have g0:(N1++[⟨b,y+i1,1⟩]:af)[0]?=some ⟨b,y+i1,1⟩:=ax dQ;refine X.dk ([(87,.own 0 0),(91,.own 0 0),(93,.own 0 0),(94,.own 0 0)]) bE 400 _ rfl aad (fun pr fin aj ai=>?_)
   conv=>cbv
   refine⟨aj _ (dg i1 rfl rfl hp g0),aj _ (dg i1 rfl rfl hp g0),aj _ (dg i1 rfl rfl hp g0),aj _ (dg i1 rfl rfl hp g0),ai _ _ ?_⟩;refine X.nW (i:=i1) (r:=0) jv (by omega) gf rfl g0 ?_;refine X.back (fun N ac w' hN hf hS=>nj () ac w' ?_);rw[gT,<-iK,eX (by omega)];exact At.gG hf hS trivial
  ·refine X.jx hA hn jv (i:=i1) (j:=j1) iK (by omega) (by omega) gf gZ (by simp) (fun N1 _ dQ=>?_)
   have g0:((N1++[⟨b,y+i1,1⟩])++[⟨b,y+j1,1⟩]:af)[0]?=some ⟨b,y+i1,1⟩:=b9 (ax dQ);have g1:((N1++[⟨b,y+i1,1⟩])++[⟨b,y+j1,1⟩]:af)[1]?=some ⟨b,y+j1,1⟩:=ax (by simp[dQ]);refine X.dk ([(87,.own 1 0),(91,.own 0 0),(93,.own 0 0),(94,.own 1 0)]) bE 400 _ rfl aad (fun pr fin aj ai=>?_)
   conv=>cbv
   refine⟨aj _ (dg j1 rfl rfl hp g1),aj _ (dg i1 rfl rfl hp g0),aj _ (dg i1 rfl rfl hp g0),aj _ (dg j1 rfl rfl hp g1),ai _ _ ?_⟩;refine X.jo (i:=i1) (j:=j1) (r:=0) jv iK (by omega) (by omega) gf gZ rfl rfl g0 g1 ?_;refine X.back (fun N ac w' hN hf hS=>nj () ac w' ?_);rw[gT];exact At.gG hf hS trivial
 have ajj:i1≠j1:=fun e=>by
  rcases xi1 with h|h
  ·omega
  ·rcases xj1 with h2|h2
   ·omega
   ·rw[e,h2] at h;cases h
 refine X.go bE 400 _ rfl aad ?_
 conv=>arg 2;cbv
 rw[<-gT] at HG;obtain⟨R1,Av⟩:∃r,r=aaC ltInt a (i1+1) (j1-1) d2:=⟨_,rfl⟩;rw[<-Av] at HG;refine X.loop (fun g:{g:(Nat × Nat) × Array Int // g.2.size=n/\(a<g.1.1/\g.1.1<=g.1.2+1/\g.1.2<e)/\aaC ltInt a g.1.1 g.1.2 g.2=R1}=>aE aac aah _ w b y n (wm w) g.1.2 [] nm) (fun g=>⟨[(0,.val (.ao p n c)),(1,.val (.int .i64 (.nat a))),(10,.val (.int .i64 (.nat g.1.1.1))),(11,.val (.int .i64 (.nat g.1.1.2)))],[]⟩) (fun g=>g.1.1.2+1-g.1.1.1) (fun _=>⟨rfl,rfl,rfl,rfl⟩) (fun N ac w' hN hf hS=>⟨⟨((i1+1,j1-1),d2),E8,by simp only;omega,Av.symm⟩,?_⟩) (fun g qm VJ=>?_)
 ·exact At.gG hf hS trivial
 obtain⟨⟨⟨i2,j2⟩,d3⟩,qT,⟨nX,mJ,Vp⟩,gO⟩:=g;simp only at qT nX mJ Vp gO;show X (aE aac aah _ w b y n (wm w) d3 [] nm) _ ⟨[(0,.val (.ao p n c)),(1,.val (.int .i64 (.nat a))),(10,.val (.int .i64 (.nat i2))),(11,.val (.int .i64 (.nat j2)))],[]⟩;refine X.go bE 400 _ rfl aad ?_
 conv=>arg 2;cbv
 obtain⟨i30,Yw⟩:∃k,k=aaj (fun x=>ltInt x d3[a]!) d3 j2 i2:=⟨_,rfl⟩;refine X.loop (fun _=>aE aac aah _ w b y n (wm w) d3 [] nm) (fun g:{g:Nat // i2<=g/\g<=j2+1/\aaj (fun x=>ltInt x d3[a]!) d3 j2 g=i30}=>⟨[(0,.val (.ao p n c)),(1,.val (.int .i64 (.nat a))),(10,.val (.int .i64 (.nat g.1))),(11,.val (.int .i64 (.nat j2)))],[]⟩) (fun g=>j2+1-g.1) (fun _=>⟨rfl,rfl,rfl,rfl⟩) (fun N ac w' hN hf hS=>⟨⟨i2,by omega,by omega,Yw.symm⟩,?_⟩) (fun g q hq=>?_)
 ·exact At.gG hf hS trivial
 obtain⟨i3,Zr,Zt,pI⟩:=g;obtain⟨xu,mq⟩:∃x,d3[i3]! = x:=⟨_,rfl⟩;obtain⟨xa,n_⟩:∃x,d3[a]! = x:=⟨_,rfl⟩;obtain⟨t,ht⟩:∃t,t=ltInt xu xa:=⟨_,rfl⟩;obtain⟨ou,yM⟩:∃o,o=y+i3:=⟨_,rfl⟩;obtain⟨oa,Cj⟩:∃o,o=y+a:=⟨_,rfl⟩;show X (aE aac aah _ w b y n (wm w) d3 [] nm) _ ⟨[(0,.val (.ao p n c)),(1,.val (.int .i64 (.nat a))),(10,.val (.int .i64 (.nat i3))),(11,.val (.int .i64 (.nat j2)))],[]⟩;refine X.dk ([(105,.ext b ou 0),(106,.int .u8 (.v xu)),(109,.ext b oa 0),(110,.int .u8 (.v xa)),(111,.bool (.v t))]) bE 400 _ rfl aad (fun pr fin aj ai=>?_)
 conv=>cbv
 refine⟨aj _ (dq rfl ht),aj _ (au.eC rfl aaf (fun _=>rfl) fun hT=>(by have hT:_=true:=hT;simp[SB.den,SI.den] at hT;(try replace hT:=of_decide_eq_true hT);(try simp (disch:=omega) only [SI.den,a_] at hT);rw[<-n_,Cj];exact bK (by omega))),aj _ (au.eC rfl aaf (fun _=>rfl) fun hT=>(by have hT:_=true:=hT;simp[SB.den,SI.den] at hT;(try replace hT:=of_decide_eq_true hT);(try simp (disch:=omega) only [SI.den,a_] at hT);rw[<-mq,yM];exact bK (by omega))),aj _ (zx a rfl rfl hp),aj _ (zx i3 rfl rfl hp),ai _ _ ?_⟩;refine X.cond rfl (fun hc=>?_) (fun hc=>?_)
 ·simp only[SB.T,SB.F,SI.den] at hc
  obtain⟨iJ,gn⟩:=hc;refine X.go bE 400 _ rfl aad ?_
  conv=>arg 2;cbv
  refine X.back (fun N ac w' hN hf hS=>hq ⟨i3+1,by omega,by omega,?_⟩ ac w' (by simp only;omega) ?_)
  ·rw[<-pI];conv=>rhs;rw[aaj,if_pos (by rw[mq,n_,<-ht,gn];simp;omega)]
  ·exact At.gG hf hS trivial
 simp only[SB.T,SB.F,SI.den] at hc;rw[aaj,if_neg (by rw[mq,n_,<-ht];rcases hc with h|h;simp;omega;simp[h])] at pI;have xi3:i3 > j2\/ltInt d3[i3]! d3[a]! = false:=by
  rcases hc with h|h
  ·left;omega
  ·right;rw[mq,n_,<-ht];exact h
 subst pI;clear hc mq n_ ht yM Cj hq;refine X.go bE 400 _ rfl aad ?_
 conv=>arg 2;cbv
 obtain⟨ZG,YB⟩:∃k,k=aak (fun x=>!ltInt x d3[a]!) d3 i3 j2:=⟨_,rfl⟩;refine X.loop (fun _=>aE aac aah _ w b y n (wm w) d3 [] nm) (fun g:{g:Nat // g<=j2/\i3<=g+1/\aak (fun x=>!ltInt x d3[a]!) d3 i3 g=ZG}=>⟨[(0,.val (.ao p n c)),(1,.val (.int .i64 (.nat a))),(10,.val (.int .i64 (.nat i3))),(11,.val (.int .i64 (.nat g.1)))],[]⟩) (fun g=>g.1) (fun _=>⟨rfl,rfl,rfl,rfl⟩) (fun N ac w' hN hf hS=>⟨⟨j2,by omega,by omega,YB.symm⟩,?_⟩) (fun g q hq=>?_)
 ·exact At.gG hf hS trivial
 obtain⟨j3,Zs,Zu,pI⟩:=g;obtain⟨xu,mq⟩:∃x,d3[j3]! = x:=⟨_,rfl⟩;obtain⟨xa,n_⟩:∃x,d3[a]! = x:=⟨_,rfl⟩;obtain⟨t,ht⟩:∃t,t=ltInt xu xa:=⟨_,rfl⟩;obtain⟨ou,yM⟩:∃o,o=y+j3:=⟨_,rfl⟩;obtain⟨oa,Cj⟩:∃o,o=y+a:=⟨_,rfl⟩;show X (aE aac aah _ w b y n (wm w) d3 [] nm) _ ⟨[(0,.val (.ao p n c)),(1,.val (.int .i64 (.nat a))),(10,.val (.int .i64 (.nat i3))),(11,.val (.int .i64 (.nat j3)))],[]⟩;refine X.dk ([(121,.ext b ou 0),(122,.int .u8 (.v xu)),(125,.ext b oa 0),(126,.int .u8 (.v xa)),(127,.bool (.v t))]) bE 400 _ rfl aad (fun pr fin aj ai=>?_)
 conv=>cbv
 refine⟨aj _ (dq rfl ht),aj _ (au.eC rfl aaf (fun _=>rfl) fun hT=>(by have hT:_=true:=hT;simp[SB.den,SI.den] at hT;(try replace hT:=of_decide_eq_true hT);(try simp (disch:=omega) only [SI.den,a_] at hT);rw[<-n_,Cj];exact bK (by omega))),aj _ (au.eC rfl aaf (fun _=>rfl) fun hT=>(by have hT:_=true:=hT;simp[SB.den,SI.den] at hT;(try replace hT:=of_decide_eq_true hT);(try simp (disch:=omega) only [SI.den,a_] at hT);rw[<-mq,yM];exact bK (by omega))),aj _ (zx a rfl rfl hp),aj _ (zx j3 rfl rfl hp),ai _ _ ?_⟩;refine X.cond rfl (fun hc=>?_) (fun hc=>?_)
 ·simp only[SB.T,SB.F,SI.den] at hc
  obtain⟨iJ,gn⟩:=hc;refine X.go bE 400 _ rfl aad ?_
  conv=>arg 2;cbv
  refine X.back (fun N ac w' hN hf hS=>hq ⟨j3-1,by omega,by omega,?_⟩ ac w' (by simp only;omega) ?_)
  ·obtain⟨v,rfl⟩:∃v,j3=v+1:=⟨j3-1,by omega⟩
   rw[<-pI];conv=>rhs;rw[aak,if_pos (by rw[mq,n_,<-ht,gn];simp;omega)]
   rfl
  ·exact At.gG hf hS trivial
 simp only[SB.T,SB.F,SI.den] at hc;have pI:j3=ZG:=by
  cases j3 with
  |zero=>rw[<-pI];rfl
  |succ v=>rw[<-pI,aak,if_neg (by rw[mq,n_,<-ht];rcases hc with h|h;simp;omega;simp[h])]
 have xj3:i3 > j3\/ltInt d3[j3]! d3[a]! = true:=by
  rcases hc with h|h
  ·left;omega
  ·right;rw[mq,n_,<-ht];exact h
 subst pI;clear hc mq n_ ht yM Cj hq;refine X.go bE 400 _ rfl aad ?_
 conv=>arg 2;cbv
 rw[partLoop_eq,<-Yw,<-YB] at gO;refine X.cond rfl (fun WU=>?_) (fun Vx=>?_)
 ·simp only[SB.T,SI.den] at WU
  rw[if_pos (by omega)] at gO;refine X.go bE 400 _ rfl aad ?_
  conv=>arg 2;cbv
  obtain⟨d4,tX⟩:∃x,x=swp d3 j3 a:=⟨_,rfl⟩;have r9:d4.size=n:=by rw[tX,bQ];exact qT
  refine X.join (ι:=Unit) (fun _=>aE aac aah _ w b y n (wm w) d4 [] nm) (fun _=>⟨[(0,.val (.ao p n c)),(1,.val (.int .i64 (.nat a))),(11,.val (.int .i64 (.nat j3)))],[]⟩) (fun _=>⟨rfl,rfl,rfl⟩) (fun qj nj=>?_) (fun _=>?_)
  ·obtain⟨xi,gf⟩:∃x,d3[j3]! = x:=⟨_,rfl⟩
   obtain⟨xj,gZ⟩:∃x,d3[a]! = x:=⟨_,rfl⟩
   by_cases iK:j3=a
   ·refine X.oL hA hn qT (i:=j3) (by omega) gf (by simp) (fun N1 _ dQ=>?_)
    have g0:(N1++[⟨b,y+j3,1⟩]:af)[0]?=some ⟨b,y+j3,1⟩:=ax dQ;refine X.dk ([(159,.own 0 0),(163,.own 0 0),(165,.own 0 0),(166,.own 0 0)]) bE 400 _ rfl aad (fun pr fin aj ai=>?_)
    conv=>cbv
    refine⟨aj _ (dg j3 rfl rfl hp g0),aj _ (dg j3 rfl rfl hp g0),aj _ (dg j3 rfl rfl hp g0),aj _ (dg j3 rfl rfl hp g0),ai _ _ ?_⟩;refine X.nW (i:=j3) (r:=0) qT (by omega) gf rfl g0 ?_;refine X.back (fun N ac w' hN hf hS=>nj () ac w' ?_);rw[tX,<-iK,eX (by omega)];exact At.gG hf hS trivial
   ·refine X.jx hA hn qT (i:=j3) (j:=a) iK (by omega) (by omega) gf gZ (by simp) (fun N1 _ dQ=>?_)
    have g0:((N1++[⟨b,y+j3,1⟩])++[⟨b,y+a,1⟩]:af)[0]?=some ⟨b,y+j3,1⟩:=b9 (ax dQ);have g1:((N1++[⟨b,y+j3,1⟩])++[⟨b,y+a,1⟩]:af)[1]?=some ⟨b,y+a,1⟩:=ax (by simp[dQ]);refine X.dk ([(159,.own 1 0),(163,.own 0 0),(165,.own 0 0),(166,.own 1 0)]) bE 400 _ rfl aad (fun pr fin aj ai=>?_)
    conv=>cbv
    refine⟨aj _ (dg a rfl rfl hp g1),aj _ (dg j3 rfl rfl hp g0),aj _ (dg j3 rfl rfl hp g0),aj _ (dg a rfl rfl hp g1),ai _ _ ?_⟩;refine X.jo (i:=j3) (j:=a) (r:=0) qT iK (by omega) (by omega) gf gZ rfl rfl g0 g1 ?_;refine X.back (fun N ac w' hN hf hS=>nj () ac w' ?_);rw[tX];exact At.gG hf hS trivial
  refine X.go bE 400 _ rfl aad ?_
  conv=>arg 2;cbv
  refine X.done bE rfl (fun N w' v hN hS hv=>⟨?_,?_⟩)
  ·simp only[bz,SV.den,SV.ap,SI.den,SB.den,aA] at hv
   rw[<-hv,HG,<-gO]
  ·rw[HG,<-gO,<-tX]
   exact Sat.kK hS hA hn r9
 simp only[SB.F,SI.den] at Vx;rw[if_neg (by omega)] at gO;refine X.go bE 400 _ rfl aad ?_
 conv=>arg 2;cbv
 obtain⟨d4,tX⟩:∃x,x=swp d3 i3 j3:=⟨_,rfl⟩;have r9:d4.size=n:=by rw[tX,bQ];exact qT
 refine X.join (ι:=Unit) (fun _=>aE aac aah _ w b y n (wm w) d4 [] nm) (fun _=>⟨[(0,.val (.ao p n c)),(1,.val (.int .i64 (.nat a))),(10,.val (.int .i64 (.nat i3))),(11,.val (.int .i64 (.nat j3)))],[]⟩) (fun _=>⟨rfl,rfl,rfl⟩) (fun qj nj=>?_) (fun _=>?_)
 ·obtain⟨xi,gf⟩:∃x,d3[i3]! = x:=⟨_,rfl⟩
  obtain⟨xj,gZ⟩:∃x,d3[j3]! = x:=⟨_,rfl⟩
  by_cases iK:i3=j3
  ·refine X.oL hA hn qT (i:=i3) (by omega) gf (by simp) (fun N1 _ dQ=>?_)
   have g0:(N1++[⟨b,y+i3,1⟩]:af)[0]?=some ⟨b,y+i3,1⟩:=ax dQ;refine X.dk ([(141,.own 0 0),(145,.own 0 0),(147,.own 0 0),(148,.own 0 0)]) bE 400 _ rfl aad (fun pr fin aj ai=>?_)
   conv=>cbv
   refine⟨aj _ (dg i3 rfl rfl hp g0),aj _ (dg i3 rfl rfl hp g0),aj _ (dg i3 rfl rfl hp g0),aj _ (dg i3 rfl rfl hp g0),ai _ _ ?_⟩;refine X.nW (i:=i3) (r:=0) qT (by omega) gf rfl g0 ?_;refine X.back (fun N ac w' hN hf hS=>nj () ac w' ?_);rw[tX,<-iK,eX (by omega)];exact At.gG hf hS trivial
  ·refine X.jx hA hn qT (i:=i3) (j:=j3) iK (by omega) (by omega) gf gZ (by simp) (fun N1 _ dQ=>?_)
   have g0:((N1++[⟨b,y+i3,1⟩])++[⟨b,y+j3,1⟩]:af)[0]?=some ⟨b,y+i3,1⟩:=b9 (ax dQ);have g1:((N1++[⟨b,y+i3,1⟩])++[⟨b,y+j3,1⟩]:af)[1]?=some ⟨b,y+j3,1⟩:=ax (by simp[dQ]);refine X.dk ([(141,.own 1 0),(145,.own 0 0),(147,.own 0 0),(148,.own 1 0)]) bE 400 _ rfl aad (fun pr fin aj ai=>?_)
   conv=>cbv
   refine⟨aj _ (dg j3 rfl rfl hp g1),aj _ (dg i3 rfl rfl hp g0),aj _ (dg i3 rfl rfl hp g0),aj _ (dg j3 rfl rfl hp g1),ai _ _ ?_⟩;refine X.jo (i:=i3) (j:=j3) (r:=0) qT iK (by omega) (by omega) gf gZ rfl rfl g0 g1 ?_;refine X.back (fun N ac w' hN hf hS=>nj () ac w' ?_);rw[tX];exact At.gG hf hS trivial
 have ada:i3≠j3:=fun e=>by
  rcases xi3 with h|h
  ·omega
  ·rcases xj3 with h2|h2
   ·omega
   ·rw[e,h2] at h;cases h
 refine X.go bE 400 _ rfl aad ?_
 conv=>arg 2;cbv
 refine X.back (fun N ac w' hN hf hS=>VJ ⟨((i3+1,j3-1),d4),r9,by simp only;omega,?_⟩ ac w' (by simp only;omega) ?_)
 ·rw[<-gO,tX]
 ·exact At.gG hf hS trivial
theorem EW (b y n c a e pv:Nat)(d:Array Int)(w:World)(hA:fh w b y d)(hn:d.size=n)(hap:a<=pv)(bm:pv<e)(Dv:e<=n)(fA:n<4611686018427387904) :
  Calls aac 121 #[.slice (some ⟨b,y,none⟩) n c,.int .i64 a,.int .i64 e,.int .i64 pv] w fun en w'=>en=.returned (.int .i64 (aaI ltInt d a e pv).1)/\fh w' b y (aaI ltInt d a e pv).2/\aW (cW b y n) w w':=by
 obtain⟨R,hR⟩:∃R,R=aaI ltInt d a e pv:=⟨_,rfl⟩;rw[<-hR];obtain⟨p,hp⟩:∃p,p=some (Addr.mk b y none):=⟨_,rfl⟩;rw[<-hp];have sd:=hn;refine X.ly hA hn (ss:=[.ao p n c,.int .i64 (.nat a),.int .i64 (.nat e),.int .i64 (.nat pv)]) Tryz.func121 rfl FE rfl rfl ?_;refine X.go dZ 400 _ rfl aag ?_
 conv=>arg 2;cbv
 obtain⟨d1,jT⟩:∃x,x=swp d a pv:=⟨_,rfl⟩;have jv:d1.size=n:=by rw[jT,bQ];exact sd
 refine X.join (ι:=Unit) (fun _=>aE aac aal _ w b y n (wm w) d1 [] u9) (fun _=>⟨[(0,.val (.ao p n c)),(1,.val (.int .i64 (.nat a))),(2,.val (.int .i64 (.nat e)))],[]⟩) (fun _=>⟨rfl,rfl,rfl⟩) (fun qj nj=>?_) (fun _=>?_)
 ·obtain⟨xi,gf⟩:∃x,d[a]! = x:=⟨_,rfl⟩
  obtain⟨xj,gZ⟩:∃x,d[pv]! = x:=⟨_,rfl⟩
  by_cases iK:a=pv
  ·refine X.oL hA hn sd (i:=a) (by omega) gf (by simp) (fun N1 _ dQ=>?_)
   have g0:(N1++[⟨b,y+a,1⟩]:af)[0]?=some ⟨b,y+a,1⟩:=ax dQ;refine X.dk ([(17,.own 0 0),(21,.own 0 0),(23,.own 0 0),(24,.own 0 0)]) dZ 400 _ rfl aag (fun pr fin aj ai=>?_)
   conv=>cbv
   refine⟨aj _ (dg a rfl rfl hp g0),aj _ (dg a rfl rfl hp g0),aj _ (dg a rfl rfl hp g0),aj _ (dg a rfl rfl hp g0),ai _ _ ?_⟩;refine X.nW (i:=a) (r:=0) sd (by omega) gf rfl g0 ?_;refine X.back (fun N ac w' hN hf hS=>nj () ac w' ?_);rw[jT,<-iK,eX (by omega)];exact At.gG hf hS trivial
  ·refine X.jx hA hn sd (i:=a) (j:=pv) iK (by omega) (by omega) gf gZ (by simp) (fun N1 _ dQ=>?_)
   have g0:((N1++[⟨b,y+a,1⟩])++[⟨b,y+pv,1⟩]:af)[0]?=some ⟨b,y+a,1⟩:=b9 (ax dQ);have g1:((N1++[⟨b,y+a,1⟩])++[⟨b,y+pv,1⟩]:af)[1]?=some ⟨b,y+pv,1⟩:=ax (by simp[dQ]);refine X.dk ([(17,.own 1 0),(21,.own 0 0),(23,.own 0 0),(24,.own 1 0)]) dZ 400 _ rfl aag (fun pr fin aj ai=>?_)
   conv=>cbv
   refine⟨aj _ (dg pv rfl rfl hp g1),aj _ (dg a rfl rfl hp g0),aj _ (dg a rfl rfl hp g0),aj _ (dg pv rfl rfl hp g1),ai _ _ ?_⟩;refine X.jo (i:=a) (j:=pv) (r:=0) sd iK (by omega) (by omega) gf gZ rfl rfl g0 g1 ?_;refine X.back (fun N ac w' hN hf hS=>nj () ac w' ?_);rw[jT];exact At.gG hf hS trivial
 refine X.go dZ 400 _ rfl aag ?_
 conv=>arg 2;cbv
 unfold aaI at hR;rw[<-jT] at hR;refine X.loop (fun g:{g:(Nat × Nat) × Array Int // g.2.size=n/\(a<g.1.1/\g.1.1<=g.1.2+1/\g.1.2<e)/\partEqLoop ltInt a g.1.1 g.1.2 g.2=R}=>aE aac aal _ w b y n (wm w) g.1.2 [] u9) (fun g=>⟨[(0,.val (.ao p n c)),(1,.val (.int .i64 (.nat a))),(9,.val (.int .i64 (.nat g.1.1.1))),(10,.val (.int .i64 (.nat g.1.1.2)))],[]⟩) (fun g=>g.1.1.2+1-g.1.1.1) (fun _=>⟨rfl,rfl,rfl,rfl⟩) (fun N ac w' hN hf hS=>⟨⟨((a+1,e-1),d1),jv,by simp only;omega,hR.symm⟩,?_⟩) (fun g qm VJ=>?_)
 ·exact At.gG hf hS trivial
 obtain⟨⟨⟨i2,j2⟩,d3⟩,qT,⟨nX,mJ,Vp⟩,gO⟩:=g;simp only at qT nX mJ Vp gO;show X (aE aac aal _ w b y n (wm w) d3 [] u9) _ ⟨[(0,.val (.ao p n c)),(1,.val (.int .i64 (.nat a))),(9,.val (.int .i64 (.nat i2))),(10,.val (.int .i64 (.nat j2)))],[]⟩;refine X.go dZ 400 _ rfl aag ?_
 conv=>arg 2;cbv
 obtain⟨i30,Yw⟩:∃k,k=aaj (fun x=>!ltInt d3[a]! x) d3 j2 i2:=⟨_,rfl⟩;refine X.loop (fun _=>aE aac aal _ w b y n (wm w) d3 [] u9) (fun g:{g:Nat // i2<=g/\g<=j2+1/\aaj (fun x=>!ltInt d3[a]! x) d3 j2 g=i30}=>⟨[(0,.val (.ao p n c)),(1,.val (.int .i64 (.nat a))),(9,.val (.int .i64 (.nat g.1))),(10,.val (.int .i64 (.nat j2)))],[]⟩) (fun g=>j2+1-g.1) (fun _=>⟨rfl,rfl,rfl,rfl⟩) (fun N ac w' hN hf hS=>⟨⟨i2,by omega,by omega,Yw.symm⟩,?_⟩) (fun g q hq=>?_)
 ·exact At.gG hf hS trivial
 obtain⟨i3,Zr,Zt,pI⟩:=g;obtain⟨xu,mq⟩:∃x,d3[i3]! = x:=⟨_,rfl⟩;obtain⟨xa,n_⟩:∃x,d3[a]! = x:=⟨_,rfl⟩;obtain⟨t,ht⟩:∃t,t=ltInt xa xu:=⟨_,rfl⟩;obtain⟨ou,yM⟩:∃o,o=y+i3:=⟨_,rfl⟩;obtain⟨oa,Cj⟩:∃o,o=y+a:=⟨_,rfl⟩;show X (aE aac aal _ w b y n (wm w) d3 [] u9) _ ⟨[(0,.val (.ao p n c)),(1,.val (.int .i64 (.nat a))),(9,.val (.int .i64 (.nat i3))),(10,.val (.int .i64 (.nat j2)))],[]⟩;refine X.dk ([(39,.ext b ou 0),(40,.int .u8 (.v xu)),(35,.ext b oa 0),(36,.int .u8 (.v xa)),(41,.bool (.v t))]) dZ 400 _ rfl aag (fun pr fin aj ai=>?_)
 conv=>cbv
 refine⟨aj _ (dq rfl ht),aj _ (au.eC rfl aaf (fun _=>rfl) fun hT=>(by have hT:_=true:=hT;simp[SB.den,SI.den] at hT;(try replace hT:=of_decide_eq_true hT);(try simp (disch:=omega) only [SI.den,a_] at hT);rw[<-mq,yM];exact bK (by omega))),aj _ (au.eC rfl aaf (fun _=>rfl) fun hT=>(by have hT:_=true:=hT;simp[SB.den,SI.den] at hT;(try replace hT:=of_decide_eq_true hT);(try simp (disch:=omega) only [SI.den,a_] at hT);rw[<-n_,Cj];exact bK (by omega))),aj _ (zx i3 rfl rfl hp),aj _ (zx a rfl rfl hp),ai _ _ ?_⟩;refine X.cond rfl (fun hc=>?_) (fun hc=>?_)
 ·simp only[SB.T,SB.F,SI.den] at hc
  obtain⟨iJ,gn⟩:=hc;refine X.go dZ 400 _ rfl aag ?_
  conv=>arg 2;cbv
  refine X.back (fun N ac w' hN hf hS=>hq ⟨i3+1,by omega,by omega,?_⟩ ac w' (by simp only;omega) ?_)
  ·rw[<-pI];conv=>rhs;rw[aaj,if_pos (by rw[mq,n_,<-ht,gn];simp;omega)]
  ·exact At.gG hf hS trivial
 simp only[SB.T,SB.F,SI.den] at hc;rw[aaj,if_neg (by rw[mq,n_,<-ht];rcases hc with h|h;simp;omega;simp[h])] at pI;have xi3:i3 > j2\/ltInt d3[a]! d3[i3]! = true:=by
  rcases hc with h|h
  ·left;omega
  ·right;rw[mq,n_,<-ht];exact h
 subst pI;clear hc mq n_ ht yM Cj hq;refine X.go dZ 400 _ rfl aag ?_
 conv=>arg 2;cbv
 obtain⟨ZG,YB⟩:∃k,k=aak (fun x=>ltInt d3[a]! x) d3 i3 j2:=⟨_,rfl⟩;refine X.loop (fun _=>aE aac aal _ w b y n (wm w) d3 [] u9) (fun g:{g:Nat // g<=j2/\i3<=g+1/\aak (fun x=>ltInt d3[a]! x) d3 i3 g=ZG}=>⟨[(0,.val (.ao p n c)),(1,.val (.int .i64 (.nat a))),(9,.val (.int .i64 (.nat i3))),(10,.val (.int .i64 (.nat g.1)))],[]⟩) (fun g=>g.1) (fun _=>⟨rfl,rfl,rfl,rfl⟩) (fun N ac w' hN hf hS=>⟨⟨j2,by omega,by omega,YB.symm⟩,?_⟩) (fun g q hq=>?_)
 ·exact At.gG hf hS trivial
 obtain⟨j3,Zs,Zu,pI⟩:=g;obtain⟨xu,mq⟩:∃x,d3[j3]! = x:=⟨_,rfl⟩;obtain⟨xa,n_⟩:∃x,d3[a]! = x:=⟨_,rfl⟩;obtain⟨t,ht⟩:∃t,t=ltInt xa xu:=⟨_,rfl⟩;obtain⟨ou,yM⟩:∃o,o=y+j3:=⟨_,rfl⟩;obtain⟨oa,Cj⟩:∃o,o=y+a:=⟨_,rfl⟩;show X (aE aac aal _ w b y n (wm w) d3 [] u9) _ ⟨[(0,.val (.ao p n c)),(1,.val (.int .i64 (.nat a))),(9,.val (.int .i64 (.nat i3))),(10,.val (.int .i64 (.nat j3)))],[]⟩;refine X.dk ([(56,.ext b ou 0),(57,.int .u8 (.v xu)),(52,.ext b oa 0),(53,.int .u8 (.v xa)),(58,.bool (.v t))]) dZ 400 _ rfl aag (fun pr fin aj ai=>?_)
 conv=>cbv
 refine⟨aj _ (dq rfl ht),aj _ (au.eC rfl aaf (fun _=>rfl) fun hT=>(by have hT:_=true:=hT;simp[SB.den,SI.den] at hT;(try replace hT:=of_decide_eq_true hT);(try simp (disch:=omega) only [SI.den,a_] at hT);rw[<-mq,yM];exact bK (by omega))),aj _ (au.eC rfl aaf (fun _=>rfl) fun hT=>(by have hT:_=true:=hT;simp[SB.den,SI.den] at hT;(try replace hT:=of_decide_eq_true hT);(try simp (disch:=omega) only [SI.den,a_] at hT);rw[<-n_,Cj];exact bK (by omega))),aj _ (zx j3 rfl rfl hp),aj _ (zx a rfl rfl hp),ai _ _ ?_⟩;refine X.cond rfl (fun hc=>?_) (fun hc=>?_)
 ·simp only[SB.T,SB.F,SI.den] at hc
  obtain⟨iJ,gn⟩:=hc;refine X.go dZ 400 _ rfl aag ?_
  conv=>arg 2;cbv
  refine X.back (fun N ac w' hN hf hS=>hq ⟨j3-1,by omega,by omega,?_⟩ ac w' (by simp only;omega) ?_)
  ·obtain⟨v,rfl⟩:∃v,j3=v+1:=⟨j3-1,by omega⟩
   rw[<-pI];conv=>rhs;rw[aak,if_pos (by rw[mq,n_,<-ht,gn];simp;omega)]
   rfl
  ·exact At.gG hf hS trivial
 simp only[SB.T,SB.F,SI.den] at hc;have pI:j3=ZG:=by
  cases j3 with
  |zero=>rw[<-pI];rfl
  |succ v=>rw[<-pI,aak,if_neg (by rw[mq,n_,<-ht];rcases hc with h|h;simp;omega;simp[h])]
 have xj3:i3 > j3\/ltInt d3[a]! d3[j3]! = false:=by
  rcases hc with h|h
  ·left;omega
  ·right;rw[mq,n_,<-ht];exact h
 subst pI;clear hc mq n_ ht yM Cj hq;refine X.go dZ 400 _ rfl aag ?_
 conv=>arg 2;cbv
 rw[partEqLoop_eq,<-Yw,<-YB] at gO;refine X.cond rfl (fun WU=>?_) (fun Vx=>?_)
 ·simp only[SB.T,SI.den] at WU
  rw[if_pos (by omega)] at gO;refine X.go dZ 400 _ rfl aag ?_
  conv=>arg 2;cbv
  refine X.done dZ rfl (fun N w' v hN hS hv=>⟨?_,?_⟩)
  ·simp only[bz,SV.den,SV.ap,SI.den,SB.den,aA] at hv
   rw[<-hv,<-gO]
  ·rw[<-gO]
   exact Sat.kK hS hA hn qT
 simp only[SB.F,SI.den] at Vx;rw[if_neg (by omega)] at gO;refine X.go dZ 400 _ rfl aag ?_
 conv=>arg 2;cbv
 obtain⟨d4,tX⟩:∃x,x=swp d3 i3 j3:=⟨_,rfl⟩;have r9:d4.size=n:=by rw[tX,bQ];exact qT
 refine X.join (ι:=Unit) (fun _=>aE aac aal _ w b y n (wm w) d4 [] u9) (fun _=>⟨[(0,.val (.ao p n c)),(1,.val (.int .i64 (.nat a))),(9,.val (.int .i64 (.nat i3))),(10,.val (.int .i64 (.nat j3)))],[]⟩) (fun _=>⟨rfl,rfl,rfl⟩) (fun qj nj=>?_) (fun _=>?_)
 ·obtain⟨xi,gf⟩:∃x,d3[i3]! = x:=⟨_,rfl⟩
  obtain⟨xj,gZ⟩:∃x,d3[j3]! = x:=⟨_,rfl⟩
  by_cases iK:i3=j3
  ·refine X.oL hA hn qT (i:=i3) (by omega) gf (by simp) (fun N1 _ dQ=>?_)
   have g0:(N1++[⟨b,y+i3,1⟩]:af)[0]?=some ⟨b,y+i3,1⟩:=ax dQ;refine X.dk ([(71,.own 0 0),(75,.own 0 0),(77,.own 0 0),(78,.own 0 0)]) dZ 400 _ rfl aag (fun pr fin aj ai=>?_)
   conv=>cbv
   refine⟨aj _ (dg i3 rfl rfl hp g0),aj _ (dg i3 rfl rfl hp g0),aj _ (dg i3 rfl rfl hp g0),aj _ (dg i3 rfl rfl hp g0),ai _ _ ?_⟩;refine X.nW (i:=i3) (r:=0) qT (by omega) gf rfl g0 ?_;refine X.back (fun N ac w' hN hf hS=>nj () ac w' ?_);rw[tX,<-iK,eX (by omega)];exact At.gG hf hS trivial
  ·refine X.jx hA hn qT (i:=i3) (j:=j3) iK (by omega) (by omega) gf gZ (by simp) (fun N1 _ dQ=>?_)
   have g0:((N1++[⟨b,y+i3,1⟩])++[⟨b,y+j3,1⟩]:af)[0]?=some ⟨b,y+i3,1⟩:=b9 (ax dQ);have g1:((N1++[⟨b,y+i3,1⟩])++[⟨b,y+j3,1⟩]:af)[1]?=some ⟨b,y+j3,1⟩:=ax (by simp[dQ]);refine X.dk ([(71,.own 1 0),(75,.own 0 0),(77,.own 0 0),(78,.own 1 0)]) dZ 400 _ rfl aag (fun pr fin aj ai=>?_)
   conv=>cbv
   refine⟨aj _ (dg j3 rfl rfl hp g1),aj _ (dg i3 rfl rfl hp g0),aj _ (dg i3 rfl rfl hp g0),aj _ (dg j3 rfl rfl hp g1),ai _ _ ?_⟩;refine X.jo (i:=i3) (j:=j3) (r:=0) qT iK (by omega) (by omega) gf gZ rfl rfl g0 g1 ?_;refine X.back (fun N ac w' hN hf hS=>nj () ac w' ?_);rw[tX];exact At.gG hf hS trivial
 have ada:i3≠j3:=fun e=>by
  rcases xi3 with h|h
  ·omega
  ·rcases xj3 with h2|h2
   ·omega
   ·rw[e,h2] at h;cases h
 refine X.go dZ 400 _ rfl aag ?_
 conv=>arg 2;cbv
 refine X.back (fun N ac w' hN hf hS=>VJ ⟨((i3+1,j3-1),d4),r9,by simp only;omega,?_⟩ ac w' (by simp only;omega) ?_)
 ·rw[<-gO,tX]
 ·exact At.gG hf hS trivial
theorem oJ:∀(j:Nat) (d:Array Int),(aan ltInt j d).size=d.size
 |0,d=>rfl
 |j+1,d=>by rw[aan];split;rfl;rw[oJ j,bQ]
theorem sk (e:Nat):∀(k j:Nat) (d:Array Int),e-j<=k->(aam ltInt e j d).size=d.size
 |0,j,d,h=>by rw[aam,if_neg (by omega)]
 |k+1,j,d,h=>by
  rw[aam]
  split
  ·split
   ·rfl
   ·rw[sk e k _ _ (by omega),bQ]
  ·rfl
theorem CN (b y n c a e:Nat)(d:Array Int)(w:World)(hA:fh w b y d)(hn:d.size=n)(Rc:a<e)(Dv:e<=n)(fA:n<4611686018427387904) :
  Calls aac 119 #[.slice (some ⟨b,y,none⟩) n c,.int .i64 a,.int .i64 e] w fun en w'=>en=.returned (.bool (partialInsertionSort ltInt d a e).2)/\fh w' b y (partialInsertionSort ltInt d a e).1/\aW (cW b y n) w w':=by
 obtain⟨R,hR⟩:∃R,R=partialInsertionSort ltInt d a e:=⟨_,rfl⟩;rw[<-hR];obtain⟨p,hp⟩:∃p,p=some (Addr.mk b y none):=⟨_,rfl⟩;rw[<-hp];unfold partialInsertionSort at hR;have sd:=hn;refine X.ly hA hn (ss:=[.ao p n c,.int .i64 (.nat a),.int .i64 (.nat e)]) Tryz.func119 rfl FC rfl rfl ?_;refine X.go bJ 400 _ rfl aae ?_
 conv=>arg 2;cbv
 refine X.loop (fun g:{g:(Nat × Nat) × Array Int // g.2.size=n/\(a+1<=g.1.2/\g.1.2<=e/\g.1.1<=5)/\partialIns ltInt a e (5-g.1.1) g.1.2 g.2=R}=>aE aac aai _ w b y n (wm w) g.1.2 [] pB) (fun g=>⟨[(0,.val (.ao p n c)),(1,.val (.int .i64 (.nat a))),(2,.val (.int .i64 (.nat e))),(7,.val (.int .i64 (.nat g.1.1.2))),(8,.val (.int .i64 (.nat g.1.1.1)))],[]⟩) (fun g=>5-g.1.1.1) (fun _=>⟨rfl,rfl,rfl,rfl⟩) (fun N ac w' hN hf hS=>⟨⟨((0,a+1),d),hn,by simp only;omega,hR.symm⟩,?_⟩) (fun g qm VJ=>?_)
 ·exact At.gG hf hS trivial
 obtain⟨⟨⟨cnt,i⟩,d1⟩,jv,⟨nX,mJ,Vp⟩,gO⟩:=g;simp only at jv nX mJ Vp gO;show X (aE aac aai _ w b y n (wm w) d1 [] pB) _ ⟨[(0,.val (.ao p n c)),(1,.val (.int .i64 (.nat a))),(2,.val (.int .i64 (.nat e))),(7,.val (.int .i64 (.nat i))),(8,.val (.int .i64 (.nat cnt)))],[]⟩;refine X.go bJ 400 _ rfl aae ?_
 conv=>arg 2;cbv
 refine X.cond rfl (fun WR=>?_) (fun WR=>?_)
 ·simp only[SB.T,SI.den] at WR
  rw[show 5-cnt=(4-cnt)+1 by omega,partialIns] at gO;refine X.go bJ 400 _ rfl aae ?_
  conv=>arg 2;cbv
  obtain⟨i20,yb⟩:∃k,k=aaJ ltInt d1 e i:=⟨_,rfl⟩;simp only[<-yb] at gO;refine X.loop (fun _=>aE aac aai _ w b y n (wm w) d1 [] pB) (fun g:{g:Nat // i<=g/\g<=e/\aaJ ltInt d1 e g=i20}=>⟨[(0,.val (.ao p n c)),(1,.val (.int .i64 (.nat a))),(2,.val (.int .i64 (.nat e))),(7,.val (.int .i64 (.nat g.1))),(8,.val (.int .i64 (.nat cnt)))],[]⟩) (fun g=>e-g.1) (fun _=>⟨rfl,rfl,rfl,rfl⟩) (fun N ac w' hN hf hS=>⟨⟨i,by omega,by omega,yb.symm⟩,?_⟩) (fun g q hq=>?_)
  ·exact At.gG hf hS trivial
  obtain⟨i2,hu1,hu2,pI⟩:=g;obtain⟨m,hm⟩:∃m,m=i2-1:=⟨_,rfl⟩;obtain⟨xu,mq⟩:∃x,d1[i2]! = x:=⟨_,rfl⟩;obtain⟨xm,Co⟩:∃x,d1[m]! = x:=⟨_,rfl⟩;obtain⟨t,ht⟩:∃t,t=ltInt xu xm:=⟨_,rfl⟩;obtain⟨ou,yM⟩:∃o,o=y+i2:=⟨_,rfl⟩;obtain⟨om,hom⟩:∃o,o=y+m:=⟨_,rfl⟩;show X (aE aac aai _ w b y n (wm w) d1 [] pB) _ ⟨[(0,.val (.ao p n c)),(1,.val (.int .i64 (.nat a))),(2,.val (.int .i64 (.nat e))),(7,.val (.int .i64 (.nat i2))),(8,.val (.int .i64 (.nat cnt)))],[]⟩;refine X.dk ([(23,.ext b ou 0),(24,.int .u8 (.v xu)),(28,.ext b om 0),(29,.int .u8 (.v xm)),(30,.bool (.v t))]) bJ 400 _ rfl aae (fun pr fin aj ai=>?_)
  conv=>cbv
  refine⟨aj _ (dq rfl ht),aj _ (au.eC rfl aaf (fun _=>rfl) fun hT=>(by have hT:_=true:=hT;simp[SB.den,SI.den] at hT;(try replace hT:=of_decide_eq_true hT);(try simp (disch:=omega) only [SI.den,a_] at hT);rw[<-Co,hom];exact bK (by omega))),aj _ (au.eC rfl aaf (fun _=>rfl) fun hT=>(by have hT:_=true:=hT;simp[SB.den,SI.den] at hT;(try replace hT:=of_decide_eq_true hT);(try simp (disch:=omega) only [SI.den,a_] at hT);rw[<-mq,yM];exact bK (by omega))),aj _ (zx m rfl rfl hp),aj _ (zx i2 rfl rfl hp),ai _ _ ?_⟩;refine X.cond rfl (fun hc=>?_) (fun hc=>?_)
  ·simp only[SB.T,SB.F,SI.den] at hc
   obtain⟨iJ,gn⟩:=hc;refine X.go bJ 400 _ rfl aae ?_
   conv=>arg 2;cbv
   refine X.back (fun N ac w' hN hf hS=>hq ⟨i2+1,by omega,by omega,?_⟩ ac w' (by simp only;omega) ?_)
   ·rw[<-pI];conv=>rhs;rw[aaJ,if_pos (by rw[<-hm,mq,Co,<-ht,gn];simp;omega)]
   ·exact At.gG hf hS trivial
  simp only[SB.T,SB.F,SI.den] at hc;rw[aaJ,if_neg (by rw[<-hm,mq,Co,<-ht];rcases hc with h|h;simp;omega;simp[h])] at pI;subst pI;clear hc mq Co ht yM hom hq;refine X.go bJ 400 _ rfl aae ?_
  conv=>arg 2;cbv
  refine X.cond rfl (fun PO=>?_) (fun PO=>?_)
  ·simp only[SB.T,SI.den] at PO
   rw[if_pos (by omega)] at gO;refine X.go bJ 400 _ rfl aae ?_
   conv=>arg 2;cbv
   refine X.done bJ rfl (fun N w' v hN hS hv=>⟨?_,?_⟩)
   ·simp only[bz,SV.den,SV.ap,SI.den,SB.den,aA] at hv
    rw[<-hv,<-gO]
   ·rw[<-gO]
    exact Sat.kK hS hA hn jv
  simp only[SB.F,SI.den] at PO;rw[if_neg (by omega)] at gO;refine X.go bJ 400 _ rfl aae ?_
  conv=>arg 2;cbv
  refine X.cond rfl (fun UZ=>?_) (fun UZ=>?_)
  ·simp (disch:=omega) only [SB.T,SI.den,a_] at UZ
   rw[if_pos (by omega)] at gO;refine X.go bJ 400 _ rfl aae ?_
   conv=>arg 2;cbv
   refine X.done bJ rfl (fun N w' v hN hS hv=>⟨?_,?_⟩)
   ·simp only[bz,SV.den,SV.ap,SI.den,SB.den,aA] at hv
    rw[<-hv,<-gO]
   ·rw[<-gO]
    exact Sat.kK hS hA hn jv
  simp (disch:=omega) only [SB.F,SI.den,a_] at UZ;rw[if_neg (by omega),<-hm] at gO;refine X.go bJ 400 _ rfl aae ?_
  conv=>arg 2;cbv
  obtain⟨d2,gT⟩:∃x,x=swp d1 i2 m:=⟨_,rfl⟩;have E8:d2.size=n:=by rw[gT,bQ];exact jv
  refine X.join (ι:=Unit) (fun _=>aE aac aai _ w b y n (wm w) d2 [] pB) (fun _=>⟨[(0,.val (.ao p n c)),(1,.val (.int .i64 (.nat a))),(2,.val (.int .i64 (.nat e))),(7,.val (.int .i64 (.nat i2))),(8,.val (.int .i64 (.nat cnt)))],[]⟩) (fun _=>⟨rfl,rfl,rfl⟩) (fun qj nj=>?_) (fun _=>?_)
  ·obtain⟨xi,gf⟩:∃x,d1[i2]! = x:=⟨_,rfl⟩
   obtain⟨xj,gZ⟩:∃x,d1[m]! = x:=⟨_,rfl⟩
   by_cases iK:i2=m
   ·refine X.oL hA hn jv (i:=i2) (by omega) gf (by simp) (fun N1 _ dQ=>?_)
    have g0:(N1++[⟨b,y+i2,1⟩]:af)[0]?=some ⟨b,y+i2,1⟩:=ax dQ;refine X.dk ([(50,.own 0 0),(54,.own 0 0),(56,.own 0 0),(57,.own 0 0)]) bJ 400 _ rfl aae (fun pr fin aj ai=>?_)
    conv=>cbv
    refine⟨aj _ (dg i2 rfl rfl hp g0),aj _ (dg i2 rfl rfl hp g0),aj _ (dg i2 rfl rfl hp g0),aj _ (dg i2 rfl rfl hp g0),ai _ _ ?_⟩;refine X.nW (i:=i2) (r:=0) jv (by omega) gf rfl g0 ?_;refine X.back (fun N ac w' hN hf hS=>nj () ac w' ?_);rw[gT,<-iK,eX (by omega)];exact At.gG hf hS trivial
   ·refine X.jx hA hn jv (i:=i2) (j:=m) iK (by omega) (by omega) gf gZ (by simp) (fun N1 _ dQ=>?_)
    have g0:((N1++[⟨b,y+i2,1⟩])++[⟨b,y+m,1⟩]:af)[0]?=some ⟨b,y+i2,1⟩:=b9 (ax dQ);have g1:((N1++[⟨b,y+i2,1⟩])++[⟨b,y+m,1⟩]:af)[1]?=some ⟨b,y+m,1⟩:=ax (by simp[dQ]);refine X.dk ([(50,.own 1 0),(54,.own 0 0),(56,.own 0 0),(57,.own 1 0)]) bJ 400 _ rfl aae (fun pr fin aj ai=>?_)
    conv=>cbv
    refine⟨aj _ (dg m rfl rfl hp g1),aj _ (dg i2 rfl rfl hp g0),aj _ (dg i2 rfl rfl hp g0),aj _ (dg m rfl rfl hp g1),ai _ _ ?_⟩;refine X.jo (i:=i2) (j:=m) (r:=0) jv iK (by omega) (by omega) gf gZ rfl rfl g0 g1 ?_;refine X.back (fun N ac w' hN hf hS=>nj () ac w' ?_);rw[gT];exact At.gG hf hS trivial
  rw[<-gT] at gO;refine X.go bJ 1 _ rfl aae ?_
  conv=>arg 2;cbv
  obtain⟨d3,pD⟩:∃x,x=(if i2-a >= 2 then aan ltInt m d2 else d2):=⟨_,rfl⟩;have qT:d3.size=n:=by rw[pD];split;rw[oJ];exact E8;exact E8
  rw[<-pD] at gO;refine X.join (ι:=Unit) (fun _=>aE aac aai _ w b y n (wm w) d3 [] pB) (fun _=>⟨[(0,.val (.ao p n c)),(1,.val (.int .i64 (.nat a))),(2,.val (.int .i64 (.nat e))),(7,.val (.int .i64 (.nat i2))),(8,.val (.int .i64 (.nat cnt)))],[]⟩) (fun _=>⟨rfl,rfl,rfl⟩) (fun qj nj=>?_) (fun _=>?_)
  ·refine X.go bJ 400 _ rfl aae ?_
   conv=>arg 2;cbv
   refine X.cond rfl (fun h2=>?_) (fun h2=>?_)
   ·simp (disch:=omega) only [SB.T,SI.den,a_] at h2
    rw[if_pos (by omega)] at pD;refine X.go bJ 400 _ rfl aae ?_
    conv=>arg 2;cbv
    refine X.loop (fun g:{g:Nat × Array Int // g.2.size=n/\g.1<=m/\aan ltInt g.1 g.2=d3}=>aE aac aai _ w b y n (wm w) g.1.2 [] pB) (fun g=>⟨[(0,.val (.ao p n c)),(1,.val (.int .i64 (.nat a))),(2,.val (.int .i64 (.nat e))),(7,.val (.int .i64 (.nat i2))),(8,.val (.int .i64 (.nat cnt))),(9,.val (.int .i64 (.nat g.1.1)))],[]⟩) (fun g=>g.1.1) (fun _=>⟨rfl,rfl,rfl,rfl⟩) (fun N ac w' hN hf hS=>⟨⟨(m,d2),E8,Nat.le_refl _,pD.symm⟩,?_⟩) (fun g q hq=>?_)
    ·exact At.gG hf hS trivial
    obtain⟨⟨j,dj⟩,Qw,WW,s7⟩:=g;simp only at Qw WW s7;show X (aE aac aai _ w b y n (wm w) dj [] pB) _ ⟨[(0,.val (.ao p n c)),(1,.val (.int .i64 (.nat a))),(2,.val (.int .i64 (.nat e))),(7,.val (.int .i64 (.nat i2))),(8,.val (.int .i64 (.nat cnt))),(9,.val (.int .i64 (.nat j)))],[]⟩;refine X.go bJ 400 _ rfl aae ?_
    conv=>arg 2;cbv
    refine X.cond rfl (fun hj=>?_) (fun hj=>?_)
    ·simp only[SB.T,SI.den] at hj
     obtain⟨k,M8⟩:∃k,j=k+1:=⟨j-1,by omega⟩;obtain⟨xj,gZ⟩:∃x,dj[j]! = x:=⟨_,rfl⟩;obtain⟨xk,yO⟩:∃x,dj[k]! = x:=⟨_,rfl⟩;obtain⟨t,ht⟩:∃t,t=ltInt xj xk:=⟨_,rfl⟩;obtain⟨oj,xI⟩:∃o,o=y+j:=⟨_,rfl⟩;obtain⟨ok,dm⟩:∃o,o=y+k:=⟨_,rfl⟩;refine X.dk ([(70,.ext b oj 0),(71,.int .u8 (.v xj)),(75,.ext b ok 0),(76,.int .u8 (.v xk)),(77,.bool (.v t))]) bJ 400 _ rfl aae (fun pr fin aj ai=>?_)
     conv=>cbv
     refine⟨aj _ (dq rfl ht),aj _ (au.eC rfl aaf (fun _=>rfl) fun _=>(by rw[<-yO,dm];exact bK (by omega))),aj _ (au.eC rfl aaf (fun _=>rfl) fun _=>(by rw[<-gZ,xI];exact bK (by omega))),aj _ (Nn k rfl rfl hp),aj _ (Nn j rfl rfl hp),ai _ _ ?_⟩;refine X.cond rfl (fun hb=>?_) (fun hb=>?_)
     ·simp only[SB.T,SB.F] at hb
      refine X.go bJ 400 _ rfl aae ?_
      conv=>arg 2;cbv
      refine X.back (fun N ac w' hN hf hS=>nj () ac w' ?_);rw[M8,aan,<-M8,gZ,yO,<-ht,hb,if_pos (by simp)] at s7;rw[<-s7];exact At.gG hf hS trivial
     ·simp only[SB.T,SB.F] at hb
      refine X.jx hA hn Qw (i:=j) (j:=k) (by omega) (by omega) (by omega) gZ yO (by simp) (fun N1 _ dQ=>?_);have g0:((N1++[⟨b,y+j,1⟩])++[⟨b,y+k,1⟩]:af)[0]?=some ⟨b,y+j,1⟩:=b9 (ax dQ);have g1:((N1++[⟨b,y+j,1⟩])++[⟨b,y+k,1⟩]:af)[1]?=some ⟨b,y+k,1⟩:=ax (by simp[dQ]);refine X.dk ([(87,.own 1 0),(91,.own 0 0),(93,.own 0 0),(94,.own 1 0)]) bJ 400 _ rfl aae (fun pr fin aj ai=>?_)
      conv=>cbv
      refine⟨aj _ (dg k rfl rfl hp g1),aj _ (dg j rfl rfl hp g0),aj _ (dg j rfl rfl hp g0),aj _ (dg k rfl rfl hp g1),ai _ _ ?_⟩;refine X.jo (i:=j) (j:=k) (r:=0) Qw (by omega) (by omega) (by omega) gZ yO rfl rfl g0 g1 ?_;refine X.back (fun N ac w' hN hf hS=>hq ⟨(k,swp dj j k),by rw[bQ];exact Qw,by simp only;omega,?_⟩ ac w' (by simp only;omega) ?_)
      ·rw[<-s7];conv=>rhs;rw[M8,aan,<-M8,gZ,yO,<-ht,hb,if_neg (by simp)]
      ·exact At.gG hf hS trivial
    ·simp only[SB.F,SI.den] at hj
     obtain rfl:j=0:=by omega
     refine X.go bJ 400 _ rfl aae ?_
     conv=>arg 2;cbv
     refine X.back (fun N ac w' hN hf hS=>nj () ac w' ?_);have s7:dj=d3:=s7;rw[<-s7];exact At.gG hf hS trivial
   ·simp (disch:=omega) only [SB.F,SI.den,a_] at h2
    rw[if_neg (by omega)] at pD;refine X.go bJ 400 _ rfl aae ?_
    conv=>arg 2;cbv
    refine X.back (fun N ac w' hN hf hS=>nj () ac w' ?_);rw[pD];exact At.gG hf hS trivial
  refine X.go bJ 400 _ rfl aae ?_
  conv=>arg 2;cbv
  obtain⟨d4,tX⟩:∃x,x=(if e-i2 >= 2 then aam ltInt e (i2+1) d3 else d3):=⟨_,rfl⟩;have r9:d4.size=n:=by rw[tX];split;rw[sk e _ _ _ (Nat.le_refl _)];exact qT;exact qT
  rw[<-tX] at gO;refine X.cond rfl (fun h2=>?_) (fun h2=>?_)
  ·simp (disch:=omega) only [SB.T,SI.den,a_] at h2
   rw[if_pos (by omega)] at tX;refine X.go bJ 400 _ rfl aae ?_
   conv=>arg 2;cbv
   refine X.loop (fun g:{g:Nat × Array Int // g.2.size=n/\(i2+1<=g.1/\g.1<=e)/\aam ltInt e g.1 g.2=d4}=>aE aac aai _ w b y n (wm w) g.1.2 [] pB) (fun g=>⟨[(0,.val (.ao p n c)),(1,.val (.int .i64 (.nat a))),(2,.val (.int .i64 (.nat e))),(7,.val (.int .i64 (.nat i2))),(8,.val (.int .i64 (.nat cnt))),(10,.val (.int .i64 (.nat g.1.1)))],[]⟩) (fun g=>e-g.1.1) (fun _=>⟨rfl,rfl,rfl,rfl⟩) (fun N ac w' hN hf hS=>⟨⟨(i2+1,d3),qT,by simp only;omega,tX.symm⟩,?_⟩) (fun g q hq=>?_)
   ·exact At.gG hf hS trivial
   obtain⟨⟨j,dj⟩,Qw,⟨WW,hj2⟩,s7⟩:=g;simp only at Qw WW hj2 s7;show X (aE aac aai _ w b y n (wm w) dj [] pB) _ ⟨[(0,.val (.ao p n c)),(1,.val (.int .i64 (.nat a))),(2,.val (.int .i64 (.nat e))),(7,.val (.int .i64 (.nat i2))),(8,.val (.int .i64 (.nat cnt))),(10,.val (.int .i64 (.nat j)))],[]⟩;refine X.go bJ 400 _ rfl aae ?_
   conv=>arg 2;cbv
   refine X.cond rfl (fun hj=>?_) (fun hj=>?_)
   ·simp only[SB.T,SI.den] at hj
    rw[aam,if_pos (by omega)] at s7;obtain⟨k,hk⟩:∃k,k=j-1:=⟨_,rfl⟩;obtain⟨xj,gZ⟩:∃x,dj[j]! = x:=⟨_,rfl⟩;obtain⟨xk,yO⟩:∃x,dj[k]! = x:=⟨_,rfl⟩;obtain⟨t,ht⟩:∃t,t=ltInt xj xk:=⟨_,rfl⟩;obtain⟨oj,xI⟩:∃o,o=y+j:=⟨_,rfl⟩;obtain⟨ok,dm⟩:∃o,o=y+k:=⟨_,rfl⟩;rw[<-hk,gZ,yO,<-ht] at s7;refine X.dk ([(108,.ext b oj 0),(109,.int .u8 (.v xj)),(113,.ext b ok 0),(114,.int .u8 (.v xk)),(115,.bool (.v t))]) bJ 400 _ rfl aae (fun pr fin aj ai=>?_)
    conv=>cbv
    refine⟨aj _ (dq rfl ht),aj _ (au.eC rfl aaf (fun _=>rfl) fun _=>(by rw[<-yO,dm];exact bK (by omega))),aj _ (au.eC rfl aaf (fun _=>rfl) fun _=>(by rw[<-gZ,xI];exact bK (by omega))),aj _ (Nn k rfl rfl hp),aj _ (Nn j rfl rfl hp),ai _ _ ?_⟩;refine X.cond rfl (fun hb=>?_) (fun hb=>?_)
    ·simp only[SB.T,SB.F] at hb
     refine X.go bJ 400 _ rfl aae ?_
     conv=>arg 2;cbv
     refine X.back (fun N ac w' hN hf hS=>VJ ⟨((cnt+1,i2),d4),r9,by simp only;omega,by rw[<-gO];show partialIns ltInt a e (5-(cnt+1)) i2 d4=_;rw[show 5-(cnt+1)=4-cnt by omega]⟩ ac w' (by simp only;omega) ?_);rw[hb,if_pos (by simp)] at s7;show At (aE aac aai _ w b y n (wm w) d4 [] pB) ⟨[(0,.val (.ao p n c)),(1,.val (.int .i64 (.nat a))),(2,.val (.int .i64 (.nat e))),(7,.val (.int .i64 (.nat i2))),(8,.val (.int .i64 (.nat (cnt+1))))],[]⟩ ac w';rw[<-s7];exact At.gG hf hS trivial
    ·simp only[SB.T,SB.F] at hb
     refine X.jx hA hn Qw (i:=j) (j:=k) (by omega) (by omega) (by omega) gZ yO (by simp) (fun N1 _ dQ=>?_);have g0:((N1++[⟨b,y+j,1⟩])++[⟨b,y+k,1⟩]:af)[0]?=some ⟨b,y+j,1⟩:=b9 (ax dQ);have g1:((N1++[⟨b,y+j,1⟩])++[⟨b,y+k,1⟩]:af)[1]?=some ⟨b,y+k,1⟩:=ax (by simp[dQ]);refine X.dk ([(125,.own 1 0),(129,.own 0 0),(131,.own 0 0),(132,.own 1 0)]) bJ 400 _ rfl aae (fun pr fin aj ai=>?_)
     conv=>cbv
     refine⟨aj _ (dg k rfl rfl hp g1),aj _ (dg j rfl rfl hp g0),aj _ (dg j rfl rfl hp g0),aj _ (dg k rfl rfl hp g1),ai _ _ ?_⟩;refine X.jo (i:=j) (j:=k) (r:=0) Qw (by omega) (by omega) (by omega) gZ yO rfl rfl g0 g1 ?_;refine X.back (fun N ac w' hN hf hS=>hq ⟨(j+1,swp dj j k),by rw[bQ];exact Qw,by simp only;omega,?_⟩ ac w' (by simp only;omega) ?_)
     ·rw[<-s7,hb,if_neg (by simp)]
     ·exact At.gG hf hS trivial
   ·simp only[SB.F,SI.den] at hj
    rw[aam,if_neg (by omega)] at s7;refine X.go bJ 400 _ rfl aae ?_
    conv=>arg 2;cbv
    refine X.back (fun N ac w' hN hf hS=>VJ ⟨((cnt+1,i2),d4),r9,by simp only;omega,by rw[<-gO];show partialIns ltInt a e (5-(cnt+1)) i2 d4=_;rw[show 5-(cnt+1)=4-cnt by omega]⟩ ac w' (by simp only;omega) ?_);show At (aE aac aai _ w b y n (wm w) d4 [] pB) ⟨[(0,.val (.ao p n c)),(1,.val (.int .i64 (.nat a))),(2,.val (.int .i64 (.nat e))),(7,.val (.int .i64 (.nat i2))),(8,.val (.int .i64 (.nat (cnt+1))))],[]⟩ ac w';rw[<-s7];exact At.gG hf hS trivial
  ·simp (disch:=omega) only [SB.F,SI.den,a_] at h2
   rw[if_neg (by omega)] at tX;refine X.go bJ 400 _ rfl aae ?_
   conv=>arg 2;cbv
   refine X.back (fun N ac w' hN hf hS=>VJ ⟨((cnt+1,i2),d4),r9,by simp only;omega,by rw[<-gO];show partialIns ltInt a e (5-(cnt+1)) i2 d4=_;rw[show 5-(cnt+1)=4-cnt by omega]⟩ ac w' (by simp only;omega) ?_);show At (aE aac aai _ w b y n (wm w) d4 [] pB) ⟨[(0,.val (.ao p n c)),(1,.val (.int .i64 (.nat a))),(2,.val (.int .i64 (.nat e))),(7,.val (.int .i64 (.nat i2))),(8,.val (.int .i64 (.nat (cnt+1))))],[]⟩ ac w';rw[tX];exact At.gG hf hS trivial
 simp only[SB.F,SI.den] at WR;obtain rfl:cnt=5:=by omega
 have gO:(d1,false)=R:=gO;refine X.go bJ 400 _ rfl aae ?_
 conv=>arg 2;cbv
 refine X.done bJ rfl (fun N w' v hN hS hv=>⟨?_,?_⟩)
 ·simp only[bz,SV.den,SV.ap,SI.den,SB.den,aA] at hv
  rw[<-hv,<-gO]
 ·rw[<-gO]
  exact Sat.kK hS hA hn jv
end Go.Proofs.YthpbefahaghbjaaGreat
namespace Go.Proofs
open Go.Shelf
def Tryz.IE:Go.Shelf.Ren:=⟨fun|6=>105|15=>60|14=>113|28=>77|29=>78|20=>124|21=>125|22=>126|23=>127|24=>128|25=>129|26=>130|27=>131|46=>135|47=>92|48=>93|49=>136|50=>137|57=>139|n=>n,fun|22=>135|24=>148|25=>155|3=>3|39=>113|0=>0|53=>33|55=>29|4=>4|46=>122|45=>121|50=>126|5=>5|9=>9|66=>140|70=>144|76=>157|77=>158|n=>n,fun|n=>n⟩
theorem Tryz.Mk:Go.Proofs.SlLaysF0.n6 aac Tryz.IE:={
 mixed:=(by kernel_rfl),
 f6:=⟨ "slices.SortFunc[[]scrutineer/api.Point,scrutineer/api.Point]",by decide,Tryz.func105.trans (congrArg some (by kernel_rfl))⟩,
 f14:=⟨ "slices.pdqsortCmpFunc[scrutineer/api.Point]",by decide,Tryz.func113.trans (congrArg some (by kernel_rfl))⟩,
 f15:=aaK.trans (congrArg some (by kernel_rfl)),
 f20:=⟨ "slices.insertionSortCmpFunc[scrutineer/api.Point]",by decide,Tryz.func124.trans (congrArg some (by kernel_rfl))⟩,
 f21:=⟨ "slices.heapSortCmpFunc[scrutineer/api.Point]",by decide,Tryz.func125.trans (congrArg some (by kernel_rfl))⟩,
 f22:=⟨ "slices.breakPatternsCmpFunc[scrutineer/api.Point]",by decide,Tryz.func126.trans (congrArg some (by kernel_rfl))⟩,
 f23:=⟨ "slices.choosePivotCmpFunc[scrutineer/api.Point]",by decide,Tryz.func127.trans (congrArg some (by kernel_rfl))⟩,
 f24:=⟨ "slices.reverseRangeCmpFunc[scrutineer/api.Point]",by decide,Tryz.func128.trans (congrArg some (by kernel_rfl))⟩,
 f25:=⟨ "slices.partialInsertionSortCmpFunc[scrutineer/api.Point]",by decide,Tryz.func129.trans (congrArg some (by kernel_rfl))⟩,
 f26:=⟨ "slices.partitionEqualCmpFunc[scrutineer/api.Point]",by decide,Tryz.func130.trans (congrArg some (by kernel_rfl))⟩,
 f27:=⟨ "slices.partitionCmpFunc[scrutineer/api.Point]",by decide,Tryz.func131.trans (congrArg some (by kernel_rfl))⟩,
 f28:=aaL.trans (congrArg some (by kernel_rfl)),
 f29:=aaM.trans (congrArg some (by kernel_rfl)),
 f46:=⟨ "slices.siftDownCmpFunc[scrutineer/api.Point]",by decide,Tryz.func135.trans (congrArg some (by kernel_rfl))⟩,
 f47:=aa1.trans (congrArg some (by kernel_rfl)),
 f48:=aa2.trans (congrArg some (by kernel_rfl)),
 f49:=⟨ "slices.medianAdjacentCmpFunc[scrutineer/api.Point]",by decide,Tryz.func136.trans (congrArg some (by kernel_rfl))⟩,
 f50:=⟨ "slices.medianCmpFunc[scrutineer/api.Point]",by decide,Tryz.func137.trans (congrArg some (by kernel_rfl))⟩,
 f57:=⟨ "slices.order2CmpFunc[scrutineer/api.Point]",by decide,Tryz.func139.trans (congrArg some (by kernel_rfl))⟩,
 t0:=aaN,
 a0:=aaO,
 z0:=aaP,
 v0:=aaQ,
 t3:=aao,
 a3:=aap,
 z3:=aaq,
 v3:=aar,
 t4:=aas,
 a4:=aau,
 z4:=aav,
 v4:=aaw,
 t5:=aaR,
 a5:=aaf,
 z5:=aaD,
 v5:=aaS,
 t9:=aaT,
 a9:=aaU,
 z9:=aaV,
 v9:=aaW,
 t22:=Tryz.underlying135,
 a22:=Tryz.isAgg135,
 z22:=Tryz.sizeOf135,
 v22:=Tryz.zeroValue135,
 t25:=Tryz.underlying155,
 a25:=Tryz.isAgg155,
 z25:=Tryz.sizeOf155,
 v25:=Tryz.zeroValue155,
 t39:=aax,
 a39:=aay,
 z39:=aaz,
 v39:=aaA,
 t45:=Tryz.underlying121,
 a45:=Tryz.isAgg121,
 z45:=Tryz.sizeOf121,
 v45:=Tryz.zeroValue121,
 t46:=Tryz.underlying122,
 a46:=Tryz.isAgg122,
 z46:=Tryz.sizeOf122,
 v46:=Tryz.zeroValue122,
 t50:=Tryz.underlying126,
 a50:=Tryz.isAgg126,
 z50:=Tryz.sizeOf126,
 v50:=Tryz.zeroValue126,
 t53:=aaX,
 a53:=aaY,
 z53:=aaZ,
 v53:=aa0,
 t55:=aaE,
 a55:=aaF,
 z55:=aaG,
 v55:=aaH,
 t66:=aa3,
 a66:=aa4,
 z66:=aa5,
 v66:=aa6,
 t70:=Tryz.underlying144,
 a70:=Tryz.isAgg144,
 z70:=Tryz.sizeOf144,
 v70:=Tryz.zeroValue144,
 t76:=aa7,
 a76:=aa8,
 z76:=aa9,
 v76:=aba,
 t77:=Tryz.underlying158,
 a77:=Tryz.isAgg158,
 z77:=Tryz.sizeOf158,
 v77:=Tryz.zeroValue158 }
def Tryz.MT:Go.Shelf.Ren:=⟨fun|48=>93|n=>n,fun|76=>157|55=>29|0=>0|66=>140|39=>113|n=>n,fun|n=>n⟩
theorem Tryz.ae3:Go.Proofs.SlLaysF0.n48 aac Tryz.MT:={
 mixed:=(by kernel_rfl),
 f48:=aa2.trans (congrArg some (by kernel_rfl)),
 t0:=aaN,
 a0:=aaO,
 z0:=aaP,
 v0:=aaQ,
 t39:=aax,
 a39:=aay,
 z39:=aaz,
 v39:=aaA,
 t55:=aaE,
 a55:=aaF,
 z55:=aaG,
 v55:=aaH,
 t66:=aa3,
 a66:=aa4,
 z66:=aa5,
 v66:=aa6,
 t76:=aa7,
 a76:=aa8,
 z76:=aa9,
 v76:=aba }
def Tryz.Ib:Go.Shelf.Ren:=⟨fun|47=>92|15=>60|28=>77|29=>78|n=>n,fun|3=>3|39=>113|53=>33|55=>29|4=>4|5=>5|9=>9|n=>n,fun|n=>n⟩
theorem Tryz.ZO:Go.Proofs.SlLaysF0.n47 aac Tryz.Ib:={
 mixed:=(by kernel_rfl),
 f15:=aaK.trans (congrArg some (by kernel_rfl)),
 f28:=aaL.trans (congrArg some (by kernel_rfl)),
 f29:=aaM.trans (congrArg some (by kernel_rfl)),
 f47:=aa1.trans (congrArg some (by kernel_rfl)),
 t3:=aao,
 a3:=aap,
 z3:=aaq,
 v3:=aar,
 t4:=aas,
 a4:=aau,
 z4:=aav,
 v4:=aaw,
 t5:=aaR,
 a5:=aaf,
 z5:=aaD,
 v5:=aaS,
 t9:=aaT,
 a9:=aaU,
 z9:=aaV,
 v9:=aaW,
 t39:=aax,
 a39:=aay,
 z39:=aaz,
 v39:=aaA,
 t53:=aaX,
 a53:=aaY,
 z53:=aaZ,
 v53:=aa0,
 t55:=aaE,
 a55:=aaF,
 z55:=aaG,
 v55:=aaH }
def Tryz.Lp:Go.Shelf.Ren:=⟨fun|15=>60|28=>77|29=>78|n=>n,fun|39=>113|3=>3|53=>33|55=>29|4=>4|5=>5|9=>9|n=>n,fun|n=>n⟩
theorem Tryz.aen:Go.Proofs.SlLaysF0.n15 aac Tryz.Lp:={
 mixed:=(by kernel_rfl),
 f15:=aaK.trans (congrArg some (by kernel_rfl)),
 f28:=aaL.trans (congrArg some (by kernel_rfl)),
 f29:=aaM.trans (congrArg some (by kernel_rfl)),
 t3:=aao,
 a3:=aap,
 z3:=aaq,
 v3:=aar,
 t4:=aas,
 a4:=aau,
 z4:=aav,
 v4:=aaw,
 t5:=aaR,
 a5:=aaf,
 z5:=aaD,
 v5:=aaS,
 t9:=aaT,
 a9:=aaU,
 z9:=aaV,
 v9:=aaW,
 t39:=aax,
 a39:=aay,
 z39:=aaz,
 v39:=aaA,
 t53:=aaX,
 a53:=aaY,
 z53:=aaZ,
 v53:=aa0,
 t55:=aaE,
 a55:=aaF,
 z55:=aaG,
 v55:=aaH }
def Tryz.Af:Go.Shelf.Ren:=⟨fun|43=>103|n=>n,fun|22=>30|23=>5|3=>3|4=>4|0=>0|n=>n,fun|n=>n⟩
theorem Tryz.J9:Go.Proofs.SlLaysE.n43 aac Tryz.Af:={
 mixed:=(by kernel_rfl),
 f43:=⟨ "slices.Compact[[]uint8,uint8]",by decide,Tryz.func103.trans (congrArg some (by kernel_rfl))⟩,
 t0:=aaN,
 a0:=aaO,
 z0:=aaP,
 v0:=aaQ,
 t3:=aao,
 a3:=aap,
 z3:=aaq,
 v3:=aar,
 t4:=aas,
 a4:=aau,
 z4:=aav,
 v4:=aaw,
 t22:=Tryz.underlying30,
 a22:=Tryz.isAgg30,
 z22:=Tryz.sizeOf30,
 v22:=Tryz.zeroValue30,
 a23:=aaf,
 z23:=aaD }
def Tryz.C5:Go.Shelf.Ren:=⟨fun|16=>101|n=>n,fun|3=>3|35=>152|4=>4|38=>113|n=>n,fun|n=>n⟩
theorem Tryz.Qx:Go.Proofs.SlLaysO.n16 aac Tryz.C5:={
 mixed:=(by kernel_rfl),
 f16:=Tryz.func101.trans (congrArg some (by kernel_rfl)),
 t3:=aao,
 a3:=aap,
 z3:=aaq,
 v3:=aar,
 t4:=aas,
 a4:=aau,
 z4:=aav,
 v4:=aaw,
 t35:=Tryz.underlying152,
 a35:=Tryz.isAgg152,
 z35:=Tryz.sizeOf152,
 v35:=Tryz.zeroValue152,
 t38:=aax,
 a38:=aay,
 z38:=aaz,
 v38:=aaA }
end Go.Proofs
