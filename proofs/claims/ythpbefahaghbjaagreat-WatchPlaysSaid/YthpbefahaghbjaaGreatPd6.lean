import Derived.Test.YthpbefahaghbjaaGreatPd2
import Derived.Sort.AssemblyPlain
import Derived.Sort.WalkB3
open Bool renaming not_false→aaD,not_true→aaE,false_eq_true→aaF
open Go.Addr renaming mk→aam
open Go.Calls renaming mono→aag
open Go.Proofs.Tryz renaming prog→aac,results117→aad,results132→aah,results115→aai,isAgg5→aal,results118→aan,f115→aao,results134→aap,call132→aar,results138→aas,call138→aau,call134→aav,call133→aaw,f118→aaA,f132→aaB,results133→aaC
open Go.Sort renaming median→aae,order2→aaf,reverseLoop→aax,choosePivot→aay
open Go.Value.int renaming injEq→aak
open Go.World renaming block_lt_of_cell?→aaq
open Int renaming tdiv_eq_ediv_of_nonneg→aaj
open Nat renaming succ_le_succ→aaz,le_trans→aaG
set_option maxHeartbeats 16000000
set_option maxRecDepth 100000
set_option cbv.maxSteps 100000000
namespace Go.Proofs.YthpbefahaghbjaaGreat
open Go Go.bU Go.Sort
theorem Nn {E:Env}{N0:af}{rg:List Rg}{f:Fr}{g:GK}{t e:TypeId}{x ix:Operand}{p:Option Addr}{n c q b y:Nat}{kd:IntKind}{s:SI}{o:Nat}(z:Nat)(hx:hY f g x=some (.ao p n c))(lB:hY f g ix=some (.int kd s))(hp:p=some ⟨b,y,none⟩)(hz:g.T->s.den=(z:Int):=by intro _;first|rfl|(simp (disch:=omega) only [SB.den,SI.den,a_]<;>omega))(hu:E.P.underlying t=some (.slice e):=by exact Tryz.underlying30)(hq:∀w,(sizeOf e).run E.P w=.ok q w:=by exact Tryz.sizeOf5)(aF:g.T->z<n:=by intro _;omega)(ho:o=y+z*q:=by omega):au E N0 rg f g (.indexAddr t x ix) (.ext b o 0):=au.at hx lB hz hu hq aF hp ho
theorem Qt (b y n c a e:Nat)(d:Array Int)(w:World)(hA:fh w b y d)(hn:d.size=n)(han:a<=n)(Dv:e<=n)(Vm:1<=e)(fA:n<4611686018427387904) :
  Calls aac 118 #[.slice (some ⟨b,y,none⟩) n c,.int .i64 a,.int .i64 e] w (yy b y n w (reverseRange d a e)):=by
 obtain⟨F,hF⟩:∃F,F=reverseRange d a e:=⟨_,rfl⟩;rw[<-hF];obtain⟨p,hp⟩:∃p,p=some (aam b y none):=⟨_,rfl⟩;rw[<-hp];refine X.ly hA hn (ss:=[.ao p n c,.int .i64 (.nat a),.int .i64 (.nat e)]) Tryz.func118 rfl FB rfl rfl ?_;refine X.go oQ 400 _ rfl aan ?_
 conv=>arg 2;cbv
 refine X.loop (fun g:{g:(Nat × Nat) × Array Int // g.2.size=n/\g.1.1<=n/\g.1.2<n/\aax g.1.1 g.1.2 g.2=F}=>aE aac aaA _ w b y n (wm w) g.1.2 [] Ji)
  (fun g=>⟨[(0,.val (.ao p n c)),(6,.val (.int .i64 (.nat g.1.1.1))),(7,.val (.int .i64 (.nat g.1.1.2)))],[]⟩) (fun g=>n-g.1.1.1) (fun _=>⟨rfl,rfl,rfl,rfl⟩)
  (fun N ac w' hN hf hS=>⟨⟨((a,e-1),d),hn,han,by simp only;omega,hF.symm⟩,?_⟩) (fun g q hq=>?_)
 ·exact At.eJ hf hS trivial
 obtain⟨⟨⟨i,j⟩,d1⟩,jT,hi,hj,gO⟩:=g;simp only at jT hi hj gO;obtain⟨xi,gf⟩:∃x,d1[i]! = x:=⟨_,rfl⟩;obtain⟨xj,gZ⟩:∃x,d1[j]! = x:=⟨_,rfl⟩;show X (aE aac aaA _ w b y n (wm w) d1 [] Ji) _ ⟨[(0,.val (.ao p n c)),(6,.val (.int .i64 (.nat i))),(7,.val (.int .i64 (.nat j)))],[]⟩;refine X.go oQ 400 _ rfl aan ?_
 conv=>arg 2;cbv
 refine X.cond rfl (fun aF=>?_) (fun cJ=>?_)
 ·simp only[SB.T,SI.den] at aF
  have aF:i<j:=by omega
  refine X.jx hA hn jT (i:=i) (j:=j) (by omega) (by omega) (by omega) gf gZ (by simp) (fun N1 _ dQ=>?_);have g0:((N1++[⟨b,y+i,1⟩])++[⟨b,y+j,1⟩]:af)[0]?=some ⟨b,y+i,1⟩:=b9 (ax dQ);have g1:((N1++[⟨b,y+i,1⟩])++[⟨b,y+j,1⟩]:af)[1]?=some ⟨b,y+j,1⟩:=ax (by simp[dQ]);refine X.dk ([(20,.own 1 0),(24,.own 0 0),(26,.own 0 0),(27,.own 1 0)]) oQ 400 _ rfl aan (fun pr fin aj ai=>?_)
  conv=>cbv
  refine⟨aj _ (dg j rfl rfl hp g1),aj _ (dg i rfl rfl hp g0),aj _ (dg i rfl rfl hp g0),aj _ (dg j rfl rfl hp g1),ai _ _ ?_⟩;refine X.jo (i:=i) (j:=j) (r:=0) jT (by omega) (by omega) (by omega) gf gZ rfl rfl g0 g1 ?_;refine X.back (fun N ac w' hN hf hS=>hq ⟨((i+1,j-1),swp d1 i j),by rw[bQ];exact jT,by simp only;omega,by simp only;omega,?_⟩ ac w' (by simp only;omega) ?_)
  ·rw[<-gO];conv=>rhs;rw[aax,if_pos aF]
  ·exact At.eJ hf hS trivial
 simp only[SB.F,SI.den] at cJ;refine X.go oQ 400 _ rfl aan ?_
 conv=>arg 2;cbv
 refine X.over oQ rfl (fun N w' v hN hS hv=>⟨?_,?_⟩)
 ·simp only[bz,SV.den,SV.ap,aA] at hv
  rw[<-hv]
 ·rw[aax,if_neg (by omega)] at gO
  rw[<-gO];exact Sat.kK hS hA hn jT
theorem wY (b y n c r0 hi f:Nat)(d:Array Int)(w:World)(hA:fh w b y d)(hn:d.size=n)(pG:r0<=n)(hfh:f+hi<=n)(fA:n<4611686018427387904) :
  Calls aac 132 #[.slice (some ⟨b,y,none⟩) n c,.int .i64 r0,.int .i64 hi,.int .i64 f] w (yy b y n w (siftDown ltInt hi f r0 d)):=by
 obtain⟨F,hF⟩:∃F,F=siftDown ltInt hi f r0 d:=⟨_,rfl⟩;rw[<-hF];obtain⟨p,hp⟩:∃p,p=some (aam b y none):=⟨_,rfl⟩;rw[<-hp];refine X.ly hA hn (ss:=[.ao p n c,.int .i64 (.nat r0),.int .i64 (.nat hi),.int .i64 (.nat f)]) Tryz.func132 rfl FG rfl rfl ?_;refine X.go fj 400 _ rfl aah ?_
 conv=>arg 2;cbv
 refine X.loop (fun g:{g:Nat × Array Int // g.2.size=n/\g.1<=n/\siftDown ltInt hi f g.1 g.2=F}=>aE aac aaB _ w b y n (wm w) g.1.2 [] Jj)
  (fun g=>⟨[(0,.val (.ao p n c)),(2,.val (.int .i64 (.nat hi))),(3,.val (.int .i64 (.nat f))),(8,.val (.int .i64 (.nat g.1.1)))],[]⟩) (fun g=>n-g.1.1) (fun _=>⟨rfl,rfl,rfl,rfl⟩)
  (fun N ac w' hN hf hS=>⟨⟨(r0,d),hn,pG,hF.symm⟩,?_⟩) (fun g q hq=>?_)
 ·exact At.eJ hf hS trivial
 obtain⟨⟨root,d1⟩,jT,Za,gO⟩:=g;simp only at jT Za gO;show X (aE aac aaB _ w b y n (wm w) d1 [] Jj) _ ⟨[(0,.val (.ao p n c)),(2,.val (.int .i64 (.nat hi))),(3,.val (.int .i64 (.nat f))),(8,.val (.int .i64 (.nat root)))],[]⟩;refine X.go fj 400 _ rfl aah ?_
 conv=>arg 2;cbv
 obtain⟨ch,bV⟩:∃k,k=2*root+1:=⟨_,rfl⟩;refine X.iR 9 (.int .i64 (.nat ch)) rfl (fun N _ v hv=>by rw[<-hv];simp (disch:=omega) only [SV.den,SI.den,a_,aaj,aA,aak,true_and]<;>omega) ?_;rw[siftDown,<-bV] at gO;refine X.cond rfl (fun cJ=>?_) (fun aF=>?_)
 ·simp (disch:=omega) only [SB.T,SI.den,a_] at cJ
  refine X.go fj 400 _ rfl aah ?_
  conv=>arg 2;cbv
  refine X.over fj rfl (fun N w' v hN hS hv=>⟨?_,?_⟩)
  ·simp only[bz,SV.den,SV.ap,aA] at hv
   rw[<-hv]
  ·rw[dif_pos (by omega)] at gO
   rw[<-gO];exact Sat.kK hS hA hn jT
 simp (disch:=omega) only [SB.F,SI.den,a_] at aF;have aF:ch<hi:=by omega
 rw[dif_neg (by omega)] at gO;obtain⟨x1,fK⟩:∃x,d1[f+ch]! = x:=⟨_,rfl⟩;obtain⟨x2,gJ⟩:∃x,d1[f+ch+1]! = x:=⟨_,rfl⟩;obtain⟨t,ht⟩:∃t,t=ltInt x1 x2:=⟨_,rfl⟩;obtain⟨o1,ho1⟩:∃o,o=y+(f+ch):=⟨_,rfl⟩;obtain⟨o2,yJ⟩:∃o,o=y+(f+ch+1):=⟨_,rfl⟩;refine X.dk ([(26,.ext b o1 0),(27,.int .u8 (.v x1)),(33,.ext b o2 0),(34,.int .u8 (.v x2)),(35,.bool (.v t))]) fj 400 _ rfl aah (fun pr fin aj ai=>?_)
 conv=>cbv
 refine⟨aj _ (dq rfl ht),aj _ (au.eC rfl aal (fun _=>rfl) fun hT=>(by have hT:_=true:=hT;simp[SB.den,SI.den] at hT;(try replace hT:=of_decide_eq_true hT);(try simp (disch:=omega) only [SI.den,a_] at hT);rw[<-gJ,yJ];exact bK (by omega))),aj _ (au.eC rfl aal (fun _=>rfl) fun hT=>(by have hT:_=true:=hT;simp[SB.den,SI.den] at hT;(try replace hT:=of_decide_eq_true hT);(try simp (disch:=omega) only [SI.den,a_] at hT);rw[<-fK,ho1];exact bK (by omega))),aj _ (zx (f+ch+1) rfl rfl hp),aj _ (zx (f+ch) rfl rfl hp),ai _ _ ?_⟩;refine X.cond rfl (fun hc=>?_) (fun hc=>?_)
 ·simp (disch:=omega) only [SB.T,SI.den,a_] at hc
  obtain⟨iJ,gn⟩:=hc;rw[fK,gJ,<-ht,gn,if_pos (by simp;omega),show 2*root+2=ch+1 by omega] at gO;have F5:(if (!ltInt d1[f+root]! d1[f+(ch+1)]!)=true then d1 else siftDown ltInt hi f (ch+1) (swp d1 (f+root) (f+(ch+1))))=F:=by
   rw[<-gO]
   split
   ·rfl
   ·rw[dif_pos (by omega)]
  obtain⟨c1,acM⟩:∃k,k=ch+1:=⟨_,rfl⟩;rw[<-acM] at F5;refine X.go fj 4 _ rfl aah ?_
  conv=>arg 2;cbv
  refine X.iR 9 (.int .i64 (.nat c1)) rfl (fun N _ v hv=>by rw[<-hv];simp (disch:=omega) only [SV.den,SI.den,a_,aaj,aA,aak,true_and]<;>omega) ?_;obtain⟨xr,Lj⟩:∃x,d1[f+root]! = x:=⟨_,rfl⟩;obtain⟨xc,Gp⟩:∃x,d1[f+c1]! = x:=⟨_,rfl⟩;obtain⟨t2,nk⟩:∃t,t=ltInt xr xc:=⟨_,rfl⟩;obtain⟨or,La⟩:∃o,o=y+(f+root):=⟨_,rfl⟩;obtain⟨oc,Ry⟩:∃o,o=y+(f+c1):=⟨_,rfl⟩;refine X.dk ([(43,.ext b or 0),(44,.int .u8 (.v xr)),(49,.ext b oc 0),(50,.int .u8 (.v xc)),(51,.bool (.v t2))]) fj 400 _ rfl aah (fun pr fin aj ai=>?_)
  conv=>cbv
  refine⟨aj _ (dq rfl nk),aj _ (au.eC rfl aal (fun _=>rfl) fun _=>(by rw[<-Gp,Ry];exact bK (by omega))),aj _ (au.eC rfl aal (fun _=>rfl) fun _=>(by rw[<-Lj,La];exact bK (by omega))),aj _ (Nn (f+c1) rfl rfl hp),aj _ (Nn (f+root) rfl rfl hp),ai _ _ ?_⟩;refine X.cond rfl (fun hr=>?_) (fun hr=>?_)
  ·simp only[SB.T,SB.F] at hr
   subst hr;refine X.go fj 400 _ rfl aah ?_
   conv=>arg 2;cbv
   refine X.done fj rfl (fun N w' v hN hS hv=>⟨?_,?_⟩)
   ·simp only[bz,SV.den,SV.ap,aA] at hv
    rw[<-hv]
   ·rw[Lj,Gp,<-nk] at F5
    simp only[aaD,if_true] at F5;rw[<-F5];exact Sat.kK hS hA hn jT
  ·simp only[SB.T,SB.F] at hr
   subst hr;refine X.jx hA hn jT (i:=f+root) (j:=f+c1) (by omega) (by omega) (by omega) Lj Gp (by simp) (fun N1 _ dQ=>?_);have g0:((N1++[⟨b,y+(f+root),1⟩])++[⟨b,y+(f+c1),1⟩]:af)[0]?=some ⟨b,y+(f+root),1⟩:=b9 (ax dQ);have g1:((N1++[⟨b,y+(f+root),1⟩])++[⟨b,y+(f+c1),1⟩]:af)[1]?=some ⟨b,y+(f+c1),1⟩:=ax (by simp[dQ]);refine X.dk ([(65,.own 1 0),(71,.own 0 0),(73,.own 0 0),(74,.own 1 0)]) fj 400 _ rfl aah (fun pr fin aj ai=>?_)
   conv=>cbv
   refine⟨aj _ (dg (f+c1) rfl rfl hp g1),aj _ (dg (f+root) rfl rfl hp g0),aj _ (dg (f+root) rfl rfl hp g0),aj _ (dg (f+c1) rfl rfl hp g1),ai _ _ ?_⟩;refine X.jo (i:=f+root) (j:=f+c1) (r:=0) jT (by omega) (by omega) (by omega) Lj Gp rfl rfl g0 g1 ?_;refine X.back (fun N ac w' hN hf hS=>hq ⟨(c1,swp d1 (f+root) (f+c1)),by rw[bQ];exact jT,by simp only;omega,?_⟩ ac w' (by simp only;omega) ?_)
   ·rw[Lj,Gp,<-nk] at F5
    simp only[aaE,aaF,if_false] at F5;exact F5
   ·exact At.eJ hf hS trivial
 ·simp (disch:=omega) only [SB.F,SI.den,a_] at hc
  rw[fK,gJ,<-ht,if_neg (by rcases hc with h|h;simp;omega;simp[h])] at gO;have F5:(if (!ltInt d1[f+root]! d1[f+ch]!)=true then d1 else siftDown ltInt hi f ch (swp d1 (f+root) (f+ch)))=F:=by
   rw[fK];exact gO
  obtain⟨xr,Lj⟩:∃x,d1[f+root]! = x:=⟨_,rfl⟩;obtain⟨xc,Gp⟩:∃x,d1[f+ch]! = x:=⟨_,rfl⟩;obtain⟨t2,nk⟩:∃t,t=ltInt xr xc:=⟨_,rfl⟩;obtain⟨or,La⟩:∃o,o=y+(f+root):=⟨_,rfl⟩;obtain⟨oc,Ry⟩:∃o,o=y+(f+ch):=⟨_,rfl⟩;refine X.dk ([(43,.ext b or 0),(44,.int .u8 (.v xr)),(49,.ext b oc 0),(50,.int .u8 (.v xc)),(51,.bool (.v t2))]) fj 400 _ rfl aah (fun pr fin aj ai=>?_)
  conv=>cbv
  refine⟨aj _ (dq rfl nk),aj _ (au.eC rfl aal (fun _=>rfl) fun _=>(by rw[<-Gp,Ry];exact bK (by omega))),aj _ (au.eC rfl aal (fun _=>rfl) fun _=>(by rw[<-Lj,La];exact bK (by omega))),aj _ (Nn (f+ch) rfl rfl hp),aj _ (Nn (f+root) rfl rfl hp),ai _ _ ?_⟩;refine X.cond rfl (fun hr=>?_) (fun hr=>?_)
  ·simp only[SB.T,SB.F] at hr
   subst hr;refine X.go fj 400 _ rfl aah ?_
   conv=>arg 2;cbv
   refine X.done fj rfl (fun N w' v hN hS hv=>⟨?_,?_⟩)
   ·simp only[bz,SV.den,SV.ap,aA] at hv
    rw[<-hv]
   ·rw[Lj,Gp,<-nk] at F5
    simp only[aaD,if_true] at F5;rw[<-F5];exact Sat.kK hS hA hn jT
  ·simp only[SB.T,SB.F] at hr
   subst hr;refine X.jx hA hn jT (i:=f+root) (j:=f+ch) (by omega) (by omega) (by omega) Lj Gp (by simp) (fun N1 _ dQ=>?_);have g0:((N1++[⟨b,y+(f+root),1⟩])++[⟨b,y+(f+ch),1⟩]:af)[0]?=some ⟨b,y+(f+root),1⟩:=b9 (ax dQ);have g1:((N1++[⟨b,y+(f+root),1⟩])++[⟨b,y+(f+ch),1⟩]:af)[1]?=some ⟨b,y+(f+ch),1⟩:=ax (by simp[dQ]);refine X.dk ([(65,.own 1 0),(71,.own 0 0),(73,.own 0 0),(74,.own 1 0)]) fj 400 _ rfl aah (fun pr fin aj ai=>?_)
   conv=>cbv
   refine⟨aj _ (dg (f+ch) rfl rfl hp g1),aj _ (dg (f+root) rfl rfl hp g0),aj _ (dg (f+root) rfl rfl hp g0),aj _ (dg (f+ch) rfl rfl hp g1),ai _ _ ?_⟩;refine X.jo (i:=f+root) (j:=f+ch) (r:=0) jT (by omega) (by omega) (by omega) Lj Gp rfl rfl g0 g1 ?_;refine X.back (fun N ac w' hN hf hS=>hq ⟨(ch,swp d1 (f+root) (f+ch)),by rw[bQ];exact jT,by simp only;omega,?_⟩ ac w' (by simp only;omega) ?_)
   ·rw[Lj,Gp,<-nk] at F5
    simp only[aaE,aaF,if_false] at F5;exact F5
   ·exact At.eJ hf hS trivial
theorem KL (b y n c a e:Nat)(d:Array Int)(w:World)(hA:fh w b y d)(hn:d.size=n)(Rc:a<=e)(Dv:e<=n)(fA:n<4611686018427387904) :
  Calls aac 115 #[.slice (some ⟨b,y,none⟩) n c,.int .i64 a,.int .i64 e] w (yy b y n w (heapSort ltInt d a e)):=by
 obtain⟨F,hF⟩:∃F,F=heapSort ltInt d a e:=⟨_,rfl⟩;rw[<-hF];unfold heapSort at hF;obtain⟨p,hp⟩:∃p,p=some (aam b y none):=⟨_,rfl⟩;obtain⟨hi,PM⟩:∃h,h=e-a:=⟨_,rfl⟩;rw[<-PM] at hF;rw[<-hp];refine X.ly hA hn (ss:=[.ao p n c,.int .i64 (.nat a),.int .i64 (.nat e)]) Tryz.func115 rfl Fy rfl rfl ?_;refine X.go gj 400 _ rfl aai ?_
 conv=>arg 2;cbv
 refine X.iR 8 (.int .i64 (.nat hi)) rfl (fun N _ v hv=>by rw[<-hv];simp (disch:=omega) only [SV.den,SI.den,a_,aaj,aA,aak,true_and]<;>omega) ?_;have hh:=half_start (a:=a) (b:=e) Rc;rw[<-PM] at hh;refine X.iR 9 (.int .i64 (.v ((((hi-1) / 2+1:Nat):Int)-1))) rfl (fun N _ v hv=>by rw[<-hv];simp (disch:=omega) only [SV.den,SI.den,a_];rw[hh]) ?_;refine X.loop (fun g:{g:Nat × Array Int // g.2.size=n/\g.1<=n+1/\heapPop ltInt a hi (heapBuild ltInt hi a g.1 g.2)=F}=>aE aac aao _ w b y n (wm w) g.1.2 [] DG)
  (fun g=>⟨[(0,.val (.ao p n c)),(6,.val (.int .i64 (.nat a))),(7,.val (.int .i64 (.lit 0))),(8,.val (.int .i64 (.nat hi))),(9,.val (.int .i64 (.v ((g.1.1:Int)-1))))],[]⟩) (fun g=>g.1.1) (fun _=>⟨rfl,rfl,rfl,rfl⟩)
  (fun N ac w' hN hf hS=>⟨⟨((hi-1) / 2+1,d),hn,by simp only;omega,hF.symm⟩,?_⟩) (fun g q hq=>?_)
 ·exact At.gG hf hS trivial
 obtain⟨⟨k,d1⟩,jT,hk,gO⟩:=g;simp only at jT hk gO;obtain⟨z,hz⟩:∃z,z=(k:Int)-1:=⟨_,rfl⟩;show X (aE aac aao _ w b y n (wm w) d1 [] DG) _ ⟨[(0,.val (.ao p n c)),(6,.val (.int .i64 (.nat a))),(7,.val (.int .i64 (.lit 0))),(8,.val (.int .i64 (.nat hi))),(9,.val (.int .i64 (.v ((k:Int)-1))))],[]⟩;rw[<-hz];refine X.go gj 400 _ rfl aai ?_
 conv=>arg 2;cbv
 refine X.cond rfl (fun cJ=>?_) (fun aF=>?_)
 ·simp only[SB.T,SI.den] at cJ
  obtain⟨m,rfl⟩:∃m,k=m+1:=⟨k-1,by omega⟩;refine X.go gj 400 _ rfl aai ?_
  conv=>arg 2;cbv
  refine X.call rfl rfl rfl rfl aar (fun N w1 args hN hS ha=>?_);have ha:args=[.slice p n c,.int .i64 z,.int .i64 hi,.int .i64 a]:=(Option.some.inj ha).symm;rw[ha];have key:=wY b y n c m hi a d1 w1 (Sat.kK hS hA hn jT).1 jT (by omega) (by omega) fA;rw[<-hp,<-(show z=(m:Int) by omega)] at key;refine aag key fun e w' ⟨he,s6,iB⟩=>⟨_,he,Goes.kK hN hS jT (by rw[size_siftDown _ _ _ hi _ _ (by omega)];exact jT) s6 iB (by simp) (r:=.tup []) rfl rfl ?_⟩
  refine X.go gj 400 _ rfl aai ?_
  conv=>arg 2;cbv
  refine X.back (fun N ac w' hN hf hS=>hq ⟨(m,siftDown ltInt hi a m d1),by simp only;rw[size_siftDown _ _ _ hi _ _ (by omega)];exact jT,by simp only;omega,by rw[<-gO];rfl⟩ ac w' (by simp only;omega) ?_);exact At.gG hf hS trivial
 simp only[SB.F,SI.den] at aF;obtain rfl:k=0:=by omega
 refine X.go gj 400 _ rfl aai ?_
 conv=>arg 2;cbv
 have gO:heapPop ltInt a hi d1=F:=gO;refine X.loop (fun g:{g:Nat × Array Int // g.2.size=n/\g.1<=hi/\heapPop ltInt a g.1 g.2=F}=>aE aac aao _ w b y n (wm w) g.1.2 [] DG)
  (fun g=>⟨[(0,.val (.ao p n c)),(6,.val (.int .i64 (.nat a))),(7,.val (.int .i64 (.lit 0))),(10,.val (.int .i64 (.v ((g.1.1:Int)-1))))],[]⟩) (fun g=>g.1.1) (fun _=>⟨rfl,rfl,rfl,rfl⟩)
  (fun N ac w' hN hf hS=>⟨⟨(hi,d1),jT,Nat.le_refl _,gO⟩,?_⟩) (fun g q hq=>?_)
 ·exact At.gG hf hS trivial
 obtain⟨⟨k,d2⟩,gT,o5,s7⟩:=g;simp only at gT o5 s7;obtain⟨z2,V4⟩:∃z,z=(k:Int)-1:=⟨_,rfl⟩;show X (aE aac aao _ w b y n (wm w) d2 [] DG) _ ⟨[(0,.val (.ao p n c)),(6,.val (.int .i64 (.nat a))),(7,.val (.int .i64 (.lit 0))),(10,.val (.int .i64 (.v ((k:Int)-1))))],[]⟩;rw[<-V4];refine X.go gj 400 _ rfl aai ?_
 conv=>arg 2;cbv
 refine X.cond rfl (fun cJ=>?_) (fun nr=>?_)
 ·simp only[SB.T,SI.den] at cJ
  obtain⟨m,rfl⟩:∃m,k=m+1:=⟨k-1,by omega⟩;obtain⟨xi,gf⟩:∃x,d2[a]! = x:=⟨_,rfl⟩;obtain⟨xj,gZ⟩:∃x,d2[a+m]! = x:=⟨_,rfl⟩
  by_cases hm:m=0
  ·refine X.oL hA hn gT (i:=a) (by omega) gf (by simp) (fun N1 _ dQ=>?_)
   have g0:(N1++[⟨b,y+a,1⟩]:af)[0]?=some ⟨b,y+a,1⟩:=ax dQ;refine X.dk ([(43,.own 0 0),(47,.own 0 0),(49,.own 0 0),(50,.own 0 0)]) gj 400 _ rfl aai (fun pr fin aj ai=>?_)
   conv=>cbv
   refine⟨aj _ (dg a rfl rfl hp g0),aj _ (dg a rfl rfl hp g0),aj _ (dg a rfl rfl hp g0),aj _ (dg a rfl rfl hp g0),ai _ _ ?_⟩;refine X.nW (i:=a) (r:=0) gT (by omega) gf rfl g0 ?_;refine X.call rfl rfl rfl rfl aar (fun N w1 args hN hS ha=>?_);have ha:args=[.slice p n c,.int .i64 0,.int .i64 z2,.int .i64 a]:=(Option.some.inj ha).symm;rw[ha];have hsf:swp d2 a (a+m)=d2:=by rw[hm];exact eX (by omega)
   have key:=wY b y n c 0 m a d2 w1 (Sat.kK hS hA hn gT).1 gT (by omega) (by omega) fA;rw[<-hp,<-(show z2=(m:Int) by omega)] at key;refine aag key fun e w' ⟨he,s6,iB⟩=>⟨_,he,Goes.kK hN hS gT (by rw[size_siftDown _ _ _ m _ _ (by omega)];exact gT) s6 iB (by simp) (r:=.tup []) rfl rfl ?_⟩
   refine X.go gj 400 _ rfl aai ?_
   conv=>arg 2;cbv
   refine X.back (fun N ac w' hN hf hS=>hq ⟨(m,siftDown ltInt m a 0 d2),by simp only;rw[size_siftDown _ _ _ m _ _ (by omega)];exact gT,by simp only;omega,by rw[<-s7];show heapPop ltInt a m (siftDown ltInt m a 0 d2)=_;conv=>rhs;rw[heapPop,hsf]⟩ ac w' (by simp only;omega) ?_);exact At.gG hf hS trivial
  ·refine X.jx hA hn gT (i:=a) (j:=a+m) (by omega) (by omega) (by omega) gf gZ (by simp) (fun N1 _ dQ=>?_)
   have g0:((N1++[⟨b,y+a,1⟩])++[⟨b,y+(a+m),1⟩]:af)[0]?=some ⟨b,y+a,1⟩:=b9 (ax dQ);have g1:((N1++[⟨b,y+a,1⟩])++[⟨b,y+(a+m),1⟩]:af)[1]?=some ⟨b,y+(a+m),1⟩:=ax (by simp[dQ]);refine X.dk ([(43,.own 1 0),(47,.own 0 0),(49,.own 0 0),(50,.own 1 0)]) gj 400 _ rfl aai (fun pr fin aj ai=>?_)
   conv=>cbv
   refine⟨aj _ (dg (a+m) rfl rfl hp g1),aj _ (dg a rfl rfl hp g0),aj _ (dg a rfl rfl hp g0),aj _ (dg (a+m) rfl rfl hp g1),ai _ _ ?_⟩;refine X.jo (i:=a) (j:=a+m) (r:=0) gT (by omega) (by omega) (by omega) gf gZ rfl rfl g0 g1 ?_;refine X.call rfl rfl rfl rfl aar (fun N w1 args hN hS ha=>?_);have ha:args=[.slice p n c,.int .i64 0,.int .i64 z2,.int .i64 a]:=(Option.some.inj ha).symm;rw[ha];have pD:(swp d2 a (a+m)).size=n:=by rw[bQ];exact gT
   have key:=wY b y n c 0 m a (swp d2 a (a+m)) w1 (Sat.kK hS hA hn pD).1 pD (by omega) (by omega) fA;rw[<-hp,<-(show z2=(m:Int) by omega)] at key;refine aag key fun e w' ⟨he,s6,iB⟩=>⟨_,he,Goes.kK hN hS pD (by rw[size_siftDown _ _ _ m _ _ (by omega)];exact pD) s6 iB (by simp) (r:=.tup []) rfl rfl ?_⟩
   refine X.go gj 400 _ rfl aai ?_
   conv=>arg 2;cbv
   refine X.back (fun N ac w' hN hf hS=>hq ⟨(m,siftDown ltInt m a 0 (swp d2 a (a+m))),by simp only;rw[size_siftDown _ _ _ m _ _ (by omega)];exact pD,by simp only;omega,by rw[<-s7,heapPop]⟩ ac w' (by simp only;omega) ?_);exact At.gG hf hS trivial
 simp only[SB.F,SI.den] at nr;obtain rfl:k=0:=by omega
 refine X.go gj 400 _ rfl aai ?_
 conv=>arg 2;cbv
 refine X.over gj rfl (fun N w' v hN hS hv=>⟨?_,?_⟩)
 ·simp only[bz,SV.den,SV.ap,aA] at hv
  rw[<-hv]
 ·have s7:d2=F:=s7
  rw[<-s7];exact Sat.kK hS hA hn gT
theorem fh.aM {w w':World}{b y:Nat}{d:Array Int}{O:Nat->Nat->Prop}(h:fh w b y d)(hc:aW O w w')(hO:∀q,q<d.size->¬O b (y+q)):fh w' b y d:=fun k hk=>by
 obtain⟨h1,h2⟩:=h k hk;exact⟨bw hc (hO k hk) h1,by rw[jh hc _ (by rw[h1];rfl)];exact h2⟩
theorem V8 {w:World}{b y bs os q:Nat}{d:Array Int}{cs:List SV}(hA:fh w b y d)(hb:bs≠b)(hq:q<d.size):ab [⟨bs,os,1⟩] [⟨true,cs,none⟩] w b (y+q)=some (.int .u8 d[q]!):=by
 rw[pM (fun⟨r,g,p,hg,hp,_,h1,_⟩=>by
  cases r with
  |zero=>simp at hp;subst hp;exact hb h1.symm
  |succ r=>simp at hg)]
 exact(hA q hq).1
def FM (bs os s:Nat)(w:World)(v:Value):Ending->World->Prop:=fun e w'=>e=.returned v/\w'.cell? ⟨bs,os,none⟩=some (.int .i64 s)/\aW (fun k i=>k=bs/\os<=i/\i<os+1) w w'
theorem order2_lt {d:Array Int}{i j s n:Nat}(hi:i<n)(hj:j<n):(aaf ltInt d i j s).1<n/\(aaf ltInt d i j s).2.1<n/\(aaf ltInt d i j s).2.2<=s+1:=by
 unfold aaf
 split<;>exact⟨by assumption,by assumption,by simp⟩
theorem tz (b y n c i j bs os s:Nat)(d:Array Int)(w:World)(hA:fh w b y d)(hn:d.size=n)(hi:i<n)(hj:j<n)(fA:n<4611686018427387904)(hb:bs≠b)(hs:s<1000)(h1:w.cell? ⟨bs,os,none⟩=some (.int .i64 s))(h2:w.frozen? ⟨bs,os,none⟩=false) :
  Calls aac 138 #[.slice (some ⟨b,y,none⟩) n c,.int .i64 i,.int .i64 j,.pointer (some ⟨bs,os,none⟩)] w (FM bs os (aaf ltInt d i j s).2.2 w (.tuple #[.int .i64 (aaf ltInt d i j s).1,.int .i64 (aaf ltInt d i j s).2.1])):=by
 obtain⟨p,hp⟩:∃p,p=some (aam b y none):=⟨_,rfl⟩;rw[<-hp];refine X.begin (rg:=[⟨true,[.int .i64 (.nat s)],none⟩]) (N:=[⟨bs,os,1⟩]) (ss:=[.ao p n c,.int .i64 (.nat i),.int .i64 (.nat j),.own 0 0]) Tryz.func138 rfl FK rfl rfl (Sat.w_ true (aaq _ _ h1) (fun q c hq=>by cases q with
  |zero=>simp at hq;subst hq;exact⟨_,rfl,h1⟩
  |succ q=>simp at hq) (fun _ q hq=>by simp at hq;subst hq;exact h2)) ?_
 obtain⟨im,aV⟩:∃im,im=ab [⟨bs,os,1⟩] [⟨true,[.int .i64 (.nat s)],none⟩] w:=⟨_,rfl⟩;have ct:∀q,q<d.size->im b (y+q)=some (.int .u8 d[q]!):=fun q hq=>by rw[aV];exact V8 hA hb hq
 show X (aK aac Tryz.f138 _ w (bq [⟨bs,os,1⟩] [⟨true,[.int .i64 (.nat s)],none⟩]) (ab [⟨bs,os,1⟩] [⟨true,[.int .i64 (.nat s)],none⟩] w) (fun _ _=>False) (fun _=>True) _ NL) _ _;rw[<-aV];obtain⟨xi,gf⟩:∃x,d[i]! = x:=⟨_,rfl⟩;obtain⟨xj,gZ⟩:∃x,d[j]! = x:=⟨_,rfl⟩;obtain⟨t,ht⟩:∃t,t=ltInt xj xi:=⟨_,rfl⟩;obtain⟨oi,pP⟩:∃o,o=y+i:=⟨_,rfl⟩;obtain⟨oj,xI⟩:∃o,o=y+j:=⟨_,rfl⟩;refine X.dk ([(12,.ext b oj 0),(13,.int .u8 (.v xj)),(16,.ext b oi 0),(17,.int .u8 (.v xi)),(18,.bool (.v t))]) oT 400 _ rfl aas (fun pr fin aj ai=>?_)
 conv=>cbv
 refine⟨aj _ (dq rfl ht),aj _ (au.eC rfl aal (fun _=>rfl) fun _=>(by rw[<-gf,pP];exact ct _ (by omega))),aj _ (au.eC rfl aal (fun _=>rfl) fun _=>(by rw[<-gZ,xI];exact ct _ (by omega))),aj _ (Nn i rfl rfl hp),aj _ (Nn j rfl rfl hp),ai _ _ ?_⟩;have ho:aaf ltInt d i j s=if t=true then (j,i,s+1) else (i,j,s):=by unfold aaf;rw[gf,gZ,<-ht]
 refine X.cond rfl (fun hT=>?_) (fun hT=>?_)
 ·simp only[SB.T] at hT
  rw[if_pos hT] at ho;rw[ho];refine X.go oT 400 _ rfl aas ?_
  conv=>arg 2;cbv
  refine X.done oT rfl (fun N w' v hN hS hv=>⟨?_,?_,hS.aM.Xb⟩)
  ·simp only[bz,SV.den,SV.ap,SI.den,aA] at hv
   rw[<-hv]
  ·obtain⟨v0,k1,k2⟩:=hS.cell 0 _ _ rfl (hN 0 _ rfl) 0 _ rfl
   simp (disch:=omega) only [SV.den,SI.den,a_,aA] at k1;subst k1;exact k2
 ·simp only[SB.F] at hT
  rw[if_neg (by rw[hT];simp)] at ho;rw[ho];refine X.go oT 400 _ rfl aas ?_
  conv=>arg 2;cbv
  refine X.done oT rfl (fun N w' v hN hS hv=>⟨?_,?_,hS.aM.Xb⟩)
  ·simp only[bz,SV.den,SV.ap,SI.den,aA] at hv
   rw[<-hv]
  ·obtain⟨v0,k1,k2⟩:=hS.cell 0 _ _ rfl (hN 0 _ rfl) 0 _ rfl
   simp only[SV.den,SI.den,aA] at k1;subst k1;exact k2
theorem qD (b y n c i j k bs os s:Nat)(d:Array Int)(w:World)(hA:fh w b y d)(hn:d.size=n)(hi:i<n)(hj:j<n)(hk:k<n)(fA:n<4611686018427387904)(hb:bs≠b)(hs:s<900)(h1:w.cell? ⟨bs,os,none⟩=some (.int .i64 s))(h2:w.frozen? ⟨bs,os,none⟩=false) :
  Calls aac 134 #[.slice (some ⟨b,y,none⟩) n c,.int .i64 i,.int .i64 j,.int .i64 k,.pointer (some ⟨bs,os,none⟩)] w (FM bs os (aae ltInt d i j k s).2 w (.int .i64 (aae ltInt d i j k s).1)):=by
 obtain⟨p,hp⟩:∃p,p=some (aam b y none):=⟨_,rfl⟩;obtain⟨r1,jG⟩:∃r,r=aaf ltInt d i j s:=⟨_,rfl⟩;obtain⟨r2,nZ⟩:∃r,r=aaf ltInt d r1.2.1 k r1.2.2:=⟨_,rfl⟩;obtain⟨r3,HR⟩:∃r,r=aaf ltInt d r1.1 r2.1 r2.2.2:=⟨_,rfl⟩;have hm:aae ltInt d i j k s=(r3.2.1,r3.2.2):=by unfold aae;simp only[<-jG,<-nZ,<-HR]
 have b1:=order2_lt (d:=d) (s:=s) hi hj;rw[<-jG] at b1;have b2:=order2_lt (d:=d) (s:=r1.2.2) b1.2.1 hk;rw[<-nZ] at b2;have b3:=order2_lt (d:=d) (s:=r2.2.2) b1.1 b2.1;rw[<-HR] at b3;have c1:∀w1,fh w1 b y d->_:=fun w1 jF=>tz b y n c i j bs os s d w1 jF hn hi hj fA hb (by omega)
 have c2:∀w1,fh w1 b y d->_:=fun w1 jF=>tz b y n c r1.2.1 k bs os r1.2.2 d w1 jF hn b1.2.1 hk fA hb (by omega)
 have c3:∀w1,fh w1 b y d->_:=fun w1 jF=>tz b y n c r1.1 r2.1 bs os r2.2.2 d w1 jF hn b1.1 b2.1 fA hb (by omega)
 rw[<-jG] at c1;rw[<-nZ] at c2;rw[<-HR] at c3;rw[<-hp] at c1 c2 c3;rw[hm,<-hp];clear hm jG nZ HR;obtain⟨i1,j1,s1⟩:=r1;obtain⟨i2,j2,s2⟩:=r2;obtain⟨i3,j3,s3⟩:=r3;simp only at b1 b2 b3 c1 c2 c3 ⊢;refine X.begin (rg:=[⟨true,[.int .i64 (.nat s)],none⟩]) (N:=[⟨bs,os,1⟩]) (ss:=[.ao p n c,.int .i64 (.nat i),.int .i64 (.nat j),.int .i64 (.nat k),.own 0 0]) Tryz.func134 rfl FJ rfl rfl (Sat.w_ true (aaq _ _ h1) (fun q c hq=>by cases q with
  |zero=>simp at hq;subst hq;exact⟨_,rfl,h1⟩
  |succ q=>simp at hq) (fun _ q hq=>by simp at hq;subst hq;exact h2)) ?_
 have inv:∀{N:af} {rg:List Rg} {w1:World} {im:Mem},Sat (aK aac Tryz.f134 (FM bs os s3 w (.int .i64 j3)) w (bq [⟨bs,os,1⟩] [⟨true,[.int .i64 (.nat s)],none⟩]) im (fun _ _=>False) (fun _=>True) [⟨bs,os,1⟩] NH).toEnv N rg w1->fh w1 b y d/\w1.frozen? ⟨bs,os,none⟩=false:=fun hS=>⟨hA.aM hS.aM.Xb (fun q _ h=>hb h.1.symm),il hS.aM (by rw[h1];rfl) h2⟩
 refine X.go oS 400 _ rfl aap ?_
 conv=>arg 2;cbv
 refine X.call rfl rfl rfl rfl aau (fun N w1 args hN hS ha=>?_);have fJ:N[0]?=some ⟨bs,os,1⟩:=hN 0 _ rfl;have ii:w1.cell? ⟨bs,os,none⟩=some (.int .i64 s):=by
  obtain⟨v0,k1,k2⟩:=hS.cell 0 _ _ rfl fJ 0 _ rfl;simp only[SV.den,SI.den,aA] at k1;subst k1;exact k2
 simp only[SV.ap,SV.den,fJ,SI.den,aA] at ha;subst ha;obtain⟨jF,jq⟩:=inv hS;refine aag (c1 w1 jF ii jq) fun e w' ⟨he,bD,iB⟩=>⟨_,he,Goes.cells (r:=0) hN hS rfl fJ rfl iB [.int .i64 (.nat s1)] (by simp) (fun q c hq=>by cases q with
  |zero=>simp at hq;subst hq;exact⟨_,rfl,bD⟩
  |succ q=>simp at hq) (rv:=.tup [.int .i64 (.nat i1),.int .i64 (.nat j1)]) rfl rfl ?_⟩
 refine X.go oS 400 _ rfl aap ?_
 conv=>arg 2;cbv
 refine X.call rfl rfl rfl rfl aau (fun N w1 args hN hS ha=>?_);have fJ:N[0]?=some ⟨bs,os,1⟩:=hN 0 _ rfl;have ii:w1.cell? ⟨bs,os,none⟩=some (.int .i64 s1):=by
  obtain⟨v0,k1,k2⟩:=hS.cell 0 _ _ rfl fJ 0 _ rfl;simp only[SV.den,SI.den,aA] at k1;subst k1;exact k2
 simp only[SV.ap,SV.den,fJ,SI.den,aA] at ha;subst ha;obtain⟨jF,jq⟩:=inv hS;refine aag (c2 w1 jF ii jq) fun e w' ⟨he,bD,iB⟩=>⟨_,he,Goes.cells (r:=0) hN hS rfl fJ rfl iB [.int .i64 (.nat s2)] (by simp) (fun q c hq=>by cases q with
  |zero=>simp at hq;subst hq;exact⟨_,rfl,bD⟩
  |succ q=>simp at hq) (rv:=.tup [.int .i64 (.nat i2),.int .i64 (.nat j2)]) rfl rfl ?_⟩
 refine X.go oS 400 _ rfl aap ?_
 conv=>arg 2;cbv
 refine X.call rfl rfl rfl rfl aau (fun N w1 args hN hS ha=>?_);have fJ:N[0]?=some ⟨bs,os,1⟩:=hN 0 _ rfl;have ii:w1.cell? ⟨bs,os,none⟩=some (.int .i64 s2):=by
  obtain⟨v0,k1,k2⟩:=hS.cell 0 _ _ rfl fJ 0 _ rfl;simp only[SV.den,SI.den,aA] at k1;subst k1;exact k2
 simp only[SV.ap,SV.den,fJ,SI.den,aA] at ha;subst ha;obtain⟨jF,jq⟩:=inv hS;refine aag (c3 w1 jF ii jq) fun e w' ⟨he,bD,iB⟩=>⟨_,he,Goes.cells (r:=0) hN hS rfl fJ rfl iB [.int .i64 (.nat s3)] (by simp) (fun q c hq=>by cases q with
  |zero=>simp at hq;subst hq;exact⟨_,rfl,bD⟩
  |succ q=>simp at hq) (rv:=.tup [.int .i64 (.nat i3),.int .i64 (.nat j3)]) rfl rfl ?_⟩
 refine X.go oS 400 _ rfl aap ?_
 conv=>arg 2;cbv
 refine X.done oS rfl (fun N w' v hN hS hv=>⟨?_,?_,hS.aM.Xb⟩)
 ·simp only[bz,SV.den,SV.ap,SI.den,aA] at hv
  rw[<-hv]
 ·obtain⟨v0,k1,k2⟩:=hS.cell 0 _ _ rfl (hN 0 _ rfl) 0 _ rfl
  simp only[SV.den,SI.den,aA] at k1;subst k1;exact k2
theorem zV (b y n c i bs os s:Nat)(d:Array Int)(w:World)(hA:fh w b y d)(hn:d.size=n)(bI:1<=i)(hi:i+1<n)(fA:n<4611686018427387904)(hb:bs≠b)(hs:s<900)(h1:w.cell? ⟨bs,os,none⟩=some (.int .i64 s))(h2:w.frozen? ⟨bs,os,none⟩=false) :
  Calls aac 133 #[.slice (some ⟨b,y,none⟩) n c,.int .i64 i,.pointer (some ⟨bs,os,none⟩)] w (FM bs os (medianAdjacent ltInt d i s).2 w (.int .i64 (medianAdjacent ltInt d i s).1)):=by
 obtain⟨p,hp⟩:∃p,p=some (aam b y none):=⟨_,rfl⟩;obtain⟨r1,jG⟩:∃r,r=medianAdjacent ltInt d i s:=⟨_,rfl⟩;obtain⟨i0,tg⟩:∃r,r=i-1:=⟨_,rfl⟩;obtain⟨i2,yb⟩:∃r,r=i+1:=⟨_,rfl⟩;have c1:∀w1,fh w1 b y d->_:=fun w1 jF=>qD b y n c i0 i i2 bs os s d w1 jF hn (by omega) (by omega) (by omega) fA hb (by omega)
 rw[<-jG];unfold medianAdjacent at jG;rw[<-tg,<-yb] at jG;rw[<-jG,<-hp] at c1;rw[<-hp];clear jG;obtain⟨m1,s1⟩:=r1;simp only at c1 ⊢;refine X.begin (rg:=[⟨true,[.int .i64 (.nat s)],none⟩]) (N:=[⟨bs,os,1⟩]) (ss:=[.ao p n c,.int .i64 (.nat i),.own 0 0]) Tryz.func133 rfl FH rfl rfl (Sat.w_ true (aaq _ _ h1) (fun q c hq=>by cases q with
  |zero=>simp at hq;subst hq;exact⟨_,rfl,h1⟩
  |succ q=>simp at hq) (fun _ q hq=>by simp at hq;subst hq;exact h2)) ?_
 refine X.go uH 400 _ rfl aaC ?_
 conv=>arg 2;cbv
 refine X.iR 9 (.int .i64 (.nat i0)) rfl (fun N _ v hv=>by rw[<-hv];simp (disch:=omega) only [SV.den,SI.den,a_,aaj,aA,aak,true_and]<;>omega) ?_;refine X.iR 12 (.int .i64 (.nat i2)) rfl (fun N _ v hv=>by rw[<-hv];simp (disch:=omega) only [SV.den,SI.den,a_,aaj,aA,aak,true_and]<;>omega) ?_;refine X.call rfl rfl rfl rfl aav (fun N w1 args hN hS ha=>?_);have fJ:N[0]?=some ⟨bs,os,1⟩:=hN 0 _ rfl;have ii:w1.cell? ⟨bs,os,none⟩=some (.int .i64 s):=by
  obtain⟨v0,k1,k2⟩:=hS.cell 0 _ _ rfl fJ 0 _ rfl;simp only[SV.den,SI.den,aA] at k1;subst k1;exact k2
 simp only[SV.ap,SV.den,fJ,SI.den,aA] at ha;subst ha;have jF:=hA.aM hS.aM.Xb (fun q _ h=>hb h.1.symm);have jq:w1.frozen? ⟨bs,os,none⟩=false:=il hS.aM (by rw[h1];rfl) h2;refine aag (c1 w1 jF ii jq) fun e w' ⟨he,bD,iB⟩=>⟨_,he,Goes.cells (r:=0) hN hS rfl fJ rfl iB [.int .i64 (.nat s1)] (by simp) (fun q c hq=>by cases q with
  |zero=>simp at hq;subst hq;exact⟨_,rfl,bD⟩
  |succ q=>simp at hq) (rv:=.int .i64 (.nat m1)) rfl rfl ?_⟩
 refine X.go uH 400 _ rfl aaC ?_
 conv=>arg 2;cbv
 refine X.done uH rfl (fun N w' v hN hS hv=>⟨?_,?_,hS.aM.Xb⟩)
 ·simp only[bz,SV.den,SV.ap,SI.den,aA] at hv
  rw[<-hv]
 ·obtain⟨v0,k1,k2⟩:=hS.cell 0 _ _ rfl (hN 0 _ rfl) 0 _ rfl
  simp only[SV.den,SI.den,aA] at k1;subst k1;exact k2
theorem tt {d:Array Int}{i j k s n:Nat}(hi:i<n)(hj:j<n)(hk:k<n):(aae ltInt d i j k s).1<n/\(aae ltInt d i j k s).2<=s+3:=by
 have b1:=order2_lt (d:=d) (s:=s) hi hj;have b2:=order2_lt (d:=d) (s:=(aaf ltInt d i j s).2.2) b1.2.1 hk;have b3:=order2_lt (d:=d) (s:=(aaf ltInt d (aaf ltInt d i j s).2.1 k (aaf ltInt d i j s).2.2).2.2) b1.1 b2.1;unfold aae;exact⟨b3.2.1,aaG b3.2.2 (aaG (aaz b2.2.2) (aaz (aaz b1.2.2)))⟩
def Gc:Hint->Int
 | .unknown=>0
 | .increasing=>1
 | .decreasing=>2
theorem Il (b y n c a e:Nat)(d:Array Int)(w:World)(hA:fh w b y d)(hn:d.size=n)(Rc:a<e)(Dv:e<=n)(fA:n<4611686018427387904) :
  Calls aac 117 #[.slice (some ⟨b,y,none⟩) n c,.int .i64 a,.int .i64 e] w fun en w'=>en=.returned (.tuple #[.int .i64 (aay ltInt d a e).1,.int .i64 (Gc (aay ltInt d a e).2)])/\aW (fun _ _=>False) w w':=by
 obtain⟨p,hp⟩:∃p,p=some (aam b y none):=⟨_,rfl⟩;obtain⟨l,hl⟩:∃l,l=e-a:=⟨_,rfl⟩;obtain⟨i0,tg⟩:∃r,r=a+l / 4*1:=⟨_,rfl⟩;obtain⟨j0,YA⟩:∃r,r=a+l / 4*2:=⟨_,rfl⟩;obtain⟨k0,hk0⟩:∃r,r=a+l / 4*3:=⟨_,rfl⟩;have KE:b<w.heap.size:=aaq _ _ (hA 0 (by omega)).1;unfold aay;simp only[<-hl,<-tg,<-YA,<-hk0];rw[<-hp];obtain⟨Q,hQ⟩:∃Q:Ending->World->Prop,Q=fun en w'=>en=.returned (.tuple #[.int .i64 (if l >= 8 then if l >= 50 then aae ltInt d (medianAdjacent ltInt d i0 0).1 (medianAdjacent ltInt d j0 (medianAdjacent ltInt d i0 0).2).1 (medianAdjacent ltInt d k0 (medianAdjacent ltInt d j0 (medianAdjacent ltInt d i0 0).2).2).1 (medianAdjacent ltInt d k0 (medianAdjacent ltInt d j0 (medianAdjacent ltInt d i0 0).2).2).2 else aae ltInt d i0 j0 k0 0 else (j0,0)).1,
  .int .i64 (Gc (if (if l >= 8 then if l >= 50 then aae ltInt d (medianAdjacent ltInt d i0 0).1 (medianAdjacent ltInt d j0 (medianAdjacent ltInt d i0 0).2).1 (medianAdjacent ltInt d k0 (medianAdjacent ltInt d j0 (medianAdjacent ltInt d i0 0).2).2).1 (medianAdjacent ltInt d k0 (medianAdjacent ltInt d j0 (medianAdjacent ltInt d i0 0).2).2).2 else aae ltInt d i0 j0 k0 0 else (j0,0)).2=0 then .increasing else if (if l >= 8 then if l >= 50 then aae ltInt d (medianAdjacent ltInt d i0 0).1 (medianAdjacent ltInt d j0 (medianAdjacent ltInt d i0 0).2).1 (medianAdjacent ltInt d k0 (medianAdjacent ltInt d j0 (medianAdjacent ltInt d i0 0).2).2).1 (medianAdjacent ltInt d k0 (medianAdjacent ltInt d j0 (medianAdjacent ltInt d i0 0).2).2).2 else aae ltInt d i0 j0 k0 0 else (j0,0)).2=12 then .decreasing else .unknown))])/\aW (fun _ _=>False) w w':=⟨_,rfl⟩
 suffices hs:Calls aac 117 #[.slice p n c,.int .i64 a,.int .i64 e] w Q by rw[hQ] at hs;exact hs
 have fin:∀(m s:Nat),(if l >= 8 then if l >= 50 then aae ltInt d (medianAdjacent ltInt d i0 0).1 (medianAdjacent ltInt d j0 (medianAdjacent ltInt d i0 0).2).1 (medianAdjacent ltInt d k0 (medianAdjacent ltInt d j0 (medianAdjacent ltInt d i0 0).2).2).1 (medianAdjacent ltInt d k0 (medianAdjacent ltInt d j0 (medianAdjacent ltInt d i0 0).2).2).2 else aae ltInt d i0 j0 k0 0 else (j0,0))=(m,s)->Q=fun en w'=>en=.returned (.tuple #[.int .i64 m,.int .i64 (Gc (if s=0 then .increasing else if s=12 then .decreasing else .unknown))])/\aW (fun _ _=>False) w w':=fun m s h=>by rw[hQ,h]
 clear hQ;refine X.begin (rg:=[]) (N:=[]) (ss:=[.ao p n c,.int .i64 (.nat a),.int .i64 (.nat e)]) Tryz.func117 rfl FA rfl rfl Sat.bp ?_;refine X.go cx 400 _ rfl aad ?_
 conv=>arg 2;cbv
 refine X.iR 8 (.int .i64 (.nat l)) rfl (fun N _ v hv=>by rw[<-hv];simp (disch:=omega) only [SV.den,SI.den,a_,aaj,aA,aak,true_and]<;>omega) ?_;refine X.iR 10 (.int .i64 (.nat i0)) rfl (fun N _ v hv=>by rw[<-hv];simp (disch:=omega) only [SV.den,SI.den,a_,aaj,aA,aak,true_and]<;>omega) ?_;refine X.iR 11 (.int .i64 (.nat j0)) rfl (fun N _ v hv=>by rw[<-hv];simp (disch:=omega) only [SV.den,SI.den,a_,aaj,aA,aak,true_and]<;>omega) ?_;refine X.iR 12 (.int .i64 (.nat k0)) rfl (fun N _ v hv=>by rw[<-hv];simp (disch:=omega) only [SV.den,SI.den,a_,aaj,aA,aak,true_and]<;>omega) ?_;refine X.LA (fun N=>∃pn:aS,N[0]?=some pn/\pn.b≠b/\1<=pn.x) (fun N w1 _ hS=>?_) (fun N1 _ _ hP=>?_)
 ·obtain⟨pn,Bz⟩:∃pn,N[0]?=some pn:=⟨_,List.getElem?_eq_getElem (by rw[hS.len];simp)⟩
  refine⟨pn,Bz,?_,hS.ext 0 _ pn rfl Bz rfl⟩;rcases hS.dG 0 _ pn rfl Bz rfl with h|h
  ·intro e
   have h:w.heap.size<=pn.b:=h;omega
  ·exact(aB (h 0 (hS.ext 0 _ pn rfl Bz rfl))).elim
 obtain⟨pn,VH,Bx,fK⟩:=hP;refine X.cond rfl (fun h8=>?_) (fun h8=>?_)
 ·simp (disch:=omega) only [SB.T,SI.den,a_] at h8
  refine X.go cx 400 _ rfl aad ?_
  conv=>arg 2;cbv
  refine X.cond rfl (fun UZ=>?_) (fun UZ=>?_)
  ·simp (disch:=omega) only [SB.T,SI.den,a_] at UZ
   have c1:∀w1,fh w1 b y d->_:=fun w1 jF=>zV b y n c i0 pn.b pn.o 0 d w1 jF hn (by omega) (by omega) fA Bx (by omega)
   obtain⟨r1,jG⟩:∃r,r=medianAdjacent ltInt d i0 0:=⟨_,rfl⟩;have b1:r1.1<n/\r1.2<=0+3:=by rw[jG];exact tt (by omega) (by omega) (by omega)
   have c2:∀w1,fh w1 b y d->_:=fun w1 jF=>zV b y n c j0 pn.b pn.o r1.2 d w1 jF hn (by omega) (by omega) fA Bx (by omega)
   obtain⟨r2,nZ⟩:∃r,r=medianAdjacent ltInt d j0 r1.2:=⟨_,rfl⟩;have b2:r2.1<n/\r2.2<=r1.2+3:=by rw[nZ];exact tt (by omega) (by omega) (by omega)
   have c3:∀w1,fh w1 b y d->_:=fun w1 jF=>zV b y n c k0 pn.b pn.o r2.2 d w1 jF hn (by omega) (by omega) fA Bx (by omega)
   obtain⟨r3,HR⟩:∃r,r=medianAdjacent ltInt d k0 r2.2:=⟨_,rfl⟩;have b3:r3.1<n/\r3.2<=r2.2+3:=by rw[HR];exact tt (by omega) (by omega) (by omega)
   have c4:∀w1,fh w1 b y d->_:=fun w1 jF=>qD b y n c r1.1 r2.1 r3.1 pn.b pn.o r3.2 d w1 jF hn b1.1 b2.1 b3.1 fA Bx (by omega)
   obtain⟨r4,Ld⟩:∃r,r=aae ltInt d r1.1 r2.1 r3.1 r3.2:=⟨_,rfl⟩;rw[<-jG,<-hp] at c1;rw[<-nZ,<-hp] at c2;rw[<-HR,<-hp] at c3;rw[<-Ld,<-hp] at c4;have fin:=fin r4.1 r4.2 (by rw[if_pos (by omega),if_pos (by omega),<-jG,<-nZ,<-HR,<-Ld]);clear jG nZ HR Ld;obtain⟨m1,s1⟩:=r1;obtain⟨m2,s2⟩:=r2;obtain⟨m3,s3⟩:=r3;obtain⟨m4,s4⟩:=r4;simp only at c1 c2 c3 c4 fin b1 b2 b3;rw[fin];refine X.go cx 400 _ rfl aad ?_
   conv=>arg 2;cbv
   refine X.call rfl rfl rfl rfl aaw (fun N w1 args hN hS ha=>?_);have fJ:N[0]?=some pn:=hN 0 _ VH;have ii:w1.cell? ⟨pn.b,pn.o,none⟩=some (.int .i64 ((0:Nat):Int)):=by
    obtain⟨v0,k1,k2⟩:=hS.cell 0 _ _ rfl fJ 0 _ rfl;simp only[SV.den,SI.den,aA] at k1;subst k1;exact k2
   have jq:w1.frozen? ⟨pn.b,pn.o,none⟩=false:=(hS.room 0 _ _ rfl fJ rfl 0 fK).2;simp only[SV.ap,SV.den,fJ,SI.den,aA] at ha;subst ha;have jF:=hA.aM hS.aM (fun q _ h=>aB h);refine aag (c1 w1 jF ii jq) fun e w' ⟨he,bD,iB⟩=>⟨_,he,Goes.cells (r:=0) hN hS rfl fJ rfl (iB.mono fun k o _ ⟨e1,e2,e3⟩=>⟨e1,e2,by omega⟩) [.int .i64 (.nat s1)] fK (fun q c hq=>by cases q with
    |zero=>simp at hq;subst hq;exact⟨_,rfl,bD⟩
    |succ q=>simp at hq) (rv:=.int .i64 (.nat m1)) rfl rfl ?_⟩
   refine X.go cx 400 _ rfl aad ?_
   conv=>arg 2;cbv
   refine X.call rfl rfl rfl rfl aaw (fun N w1 args hN hS ha=>?_);have fJ:N[0]?=some pn:=hN 0 _ VH;have ii:w1.cell? ⟨pn.b,pn.o,none⟩=some (.int .i64 s1):=by
    obtain⟨v0,k1,k2⟩:=hS.cell 0 _ _ rfl fJ 0 _ rfl;simp only[SV.den,SI.den,aA] at k1;subst k1;exact k2
   have jq:w1.frozen? ⟨pn.b,pn.o,none⟩=false:=(hS.room 0 _ _ rfl fJ rfl 0 fK).2;simp only[SV.ap,SV.den,fJ,SI.den,aA] at ha;subst ha;have jF:=hA.aM hS.aM (fun q _ h=>aB h);refine aag (c2 w1 jF ii jq) fun e w' ⟨he,bD,iB⟩=>⟨_,he,Goes.cells (r:=0) hN hS rfl fJ rfl (iB.mono fun k o _ ⟨e1,e2,e3⟩=>⟨e1,e2,by omega⟩) [.int .i64 (.nat s2)] fK (fun q c hq=>by cases q with
    |zero=>simp at hq;subst hq;exact⟨_,rfl,bD⟩
    |succ q=>simp at hq) (rv:=.int .i64 (.nat m2)) rfl rfl ?_⟩
   refine X.go cx 400 _ rfl aad ?_
   conv=>arg 2;cbv
   refine X.call rfl rfl rfl rfl aaw (fun N w1 args hN hS ha=>?_);have fJ:N[0]?=some pn:=hN 0 _ VH;have ii:w1.cell? ⟨pn.b,pn.o,none⟩=some (.int .i64 s2):=by
    obtain⟨v0,k1,k2⟩:=hS.cell 0 _ _ rfl fJ 0 _ rfl;simp only[SV.den,SI.den,aA] at k1;subst k1;exact k2
   have jq:w1.frozen? ⟨pn.b,pn.o,none⟩=false:=(hS.room 0 _ _ rfl fJ rfl 0 fK).2;simp only[SV.ap,SV.den,fJ,SI.den,aA] at ha;subst ha;have jF:=hA.aM hS.aM (fun q _ h=>aB h);refine aag (c3 w1 jF ii jq) fun e w' ⟨he,bD,iB⟩=>⟨_,he,Goes.cells (r:=0) hN hS rfl fJ rfl (iB.mono fun k o _ ⟨e1,e2,e3⟩=>⟨e1,e2,by omega⟩) [.int .i64 (.nat s3)] fK (fun q c hq=>by cases q with
    |zero=>simp at hq;subst hq;exact⟨_,rfl,bD⟩
    |succ q=>simp at hq) (rv:=.int .i64 (.nat m3)) rfl rfl ?_⟩
   refine X.go cx 400 _ rfl aad ?_
   conv=>arg 2;cbv
   refine X.call rfl rfl rfl rfl aav (fun N w1 args hN hS ha=>?_);have fJ:N[0]?=some pn:=hN 0 _ VH;have ii:w1.cell? ⟨pn.b,pn.o,none⟩=some (.int .i64 s3):=by
    obtain⟨v0,k1,k2⟩:=hS.cell 0 _ _ rfl fJ 0 _ rfl;simp only[SV.den,SI.den,aA] at k1;subst k1;exact k2
   have jq:w1.frozen? ⟨pn.b,pn.o,none⟩=false:=(hS.room 0 _ _ rfl fJ rfl 0 fK).2;simp only[SV.ap,SV.den,fJ,SI.den,aA] at ha;subst ha;have jF:=hA.aM hS.aM (fun q _ h=>aB h);refine aag (c4 w1 jF ii jq) fun e w' ⟨he,bD,iB⟩=>⟨_,he,Goes.cells (r:=0) hN hS rfl fJ rfl (iB.mono fun k o _ ⟨e1,e2,e3⟩=>⟨e1,e2,by omega⟩) [.int .i64 (.nat s4)] fK (fun q c hq=>by cases q with
    |zero=>simp at hq;subst hq;exact⟨_,rfl,bD⟩
    |succ q=>simp at hq) (rv:=.int .i64 (.nat m4)) rfl rfl ?_⟩
   refine X.go cx 400 _ rfl aad ?_
   conv=>arg 2;cbv
   refine X.cond rfl (fun hT=>?_) (fun hT=>?_)
   ·simp only[SB.T,SI.den] at hT
    refine X.go cx 400 _ rfl aad ?_
    conv=>arg 2;cbv
    refine X.done cx rfl (fun N w' v hN hS hv=>⟨?_,hS.aM.mono fun k o _ h=>aB h⟩);simp only[bz,SV.den,SV.ap,SI.den,aA] at hv;rw[<-hv,if_pos (by omega)];rfl
   refine X.go cx 400 _ rfl aad ?_
   conv=>arg 2;cbv
   refine X.cond rfl (fun hU=>?_) (fun hU=>?_)
   ·simp only[SB.T,SB.F,SI.den] at hT hU
    refine X.go cx 400 _ rfl aad ?_
    conv=>arg 2;cbv
    refine X.done cx rfl (fun N w' v hN hS hv=>⟨?_,hS.aM.mono fun k o _ h=>aB h⟩);simp only[bz,SV.den,SV.ap,SI.den,aA] at hv;rw[<-hv,if_neg (by omega),if_pos (by omega)];rfl
   ·simp only[SB.F,SI.den] at hT hU
    refine X.go cx 400 _ rfl aad ?_
    conv=>arg 2;cbv
    refine X.done cx rfl (fun N w' v hN hS hv=>⟨?_,hS.aM.mono fun k o _ h=>aB h⟩);simp only[bz,SV.den,SV.ap,SI.den,aA] at hv;rw[<-hv,if_neg (by omega),if_neg (by omega)];rfl
  ·simp (disch:=omega) only [SB.F,SI.den,a_] at UZ
   have c4:∀w1,fh w1 b y d->_:=fun w1 jF=>qD b y n c i0 j0 k0 pn.b pn.o 0 d w1 jF hn (by omega) (by omega) (by omega) fA Bx (by omega)
   obtain⟨r4,Ld⟩:∃r,r=aae ltInt d i0 j0 k0 0:=⟨_,rfl⟩;rw[<-Ld,<-hp] at c4;have fin:=fin r4.1 r4.2 (by rw[if_pos (by omega),if_neg (by omega),<-Ld]);clear Ld;obtain⟨m4,s4⟩:=r4;simp only at c4 fin;rw[fin];refine X.go cx 400 _ rfl aad ?_
   conv=>arg 2;cbv
   refine X.call rfl rfl rfl rfl aav (fun N w1 args hN hS ha=>?_);have fJ:N[0]?=some pn:=hN 0 _ VH;have ii:w1.cell? ⟨pn.b,pn.o,none⟩=some (.int .i64 ((0:Nat):Int)):=by
    obtain⟨v0,k1,k2⟩:=hS.cell 0 _ _ rfl fJ 0 _ rfl;simp only[SV.den,SI.den,aA] at k1;subst k1;exact k2
   have jq:w1.frozen? ⟨pn.b,pn.o,none⟩=false:=(hS.room 0 _ _ rfl fJ rfl 0 fK).2;simp only[SV.ap,SV.den,fJ,SI.den,aA] at ha;subst ha;have jF:=hA.aM hS.aM (fun q _ h=>aB h);refine aag (c4 w1 jF ii jq) fun e w' ⟨he,bD,iB⟩=>⟨_,he,Goes.cells (r:=0) hN hS rfl fJ rfl (iB.mono fun k o _ ⟨e1,e2,e3⟩=>⟨e1,e2,by omega⟩) [.int .i64 (.nat s4)] fK (fun q c hq=>by cases q with
    |zero=>simp at hq;subst hq;exact⟨_,rfl,bD⟩
    |succ q=>simp at hq) (rv:=.int .i64 (.nat m4)) rfl rfl ?_⟩
   refine X.go cx 400 _ rfl aad ?_
   conv=>arg 2;cbv
   refine X.cond rfl (fun hT=>?_) (fun hT=>?_)
   ·simp only[SB.T,SI.den] at hT
    refine X.go cx 400 _ rfl aad ?_
    conv=>arg 2;cbv
    refine X.done cx rfl (fun N w' v hN hS hv=>⟨?_,hS.aM.mono fun k o _ h=>aB h⟩);simp only[bz,SV.den,SV.ap,SI.den,aA] at hv;rw[<-hv,if_pos (by omega)];rfl
   refine X.go cx 400 _ rfl aad ?_
   conv=>arg 2;cbv
   refine X.cond rfl (fun hU=>?_) (fun hU=>?_)
   ·simp only[SB.T,SB.F,SI.den] at hT hU
    refine X.go cx 400 _ rfl aad ?_
    conv=>arg 2;cbv
    refine X.done cx rfl (fun N w' v hN hS hv=>⟨?_,hS.aM.mono fun k o _ h=>aB h⟩);simp only[bz,SV.den,SV.ap,SI.den,aA] at hv;rw[<-hv,if_neg (by omega),if_pos (by omega)];rfl
   ·simp only[SB.F,SI.den] at hT hU
    refine X.go cx 400 _ rfl aad ?_
    conv=>arg 2;cbv
    refine X.done cx rfl (fun N w' v hN hS hv=>⟨?_,hS.aM.mono fun k o _ h=>aB h⟩);simp only[bz,SV.den,SV.ap,SI.den,aA] at hv;rw[<-hv,if_neg (by omega),if_neg (by omega)];rfl
 ·simp (disch:=omega) only [SB.F,SI.den,a_] at h8
  rw[fin j0 0 (by rw[if_neg (by omega)])];refine X.go cx 400 _ rfl aad ?_
  conv=>arg 2;cbv
  refine X.done cx rfl (fun N w' v hN hS hv=>⟨?_,hS.aM.mono fun k o _ h=>aB h⟩);simp only[bz,SV.den,SV.ap,SI.den,aA] at hv;rw[<-hv,if_pos rfl];rfl
end Go.Proofs.YthpbefahaghbjaaGreat
