import Derived.Test.YthpbefahaghbjaaGreatLy
import Derived.Shelf.SlicesE.Compact
import Derived.Shelf.SlicesE.Kit
import Derived.Test.YthpbefahaghbjaaGreatEC
open Array renaming getElem?_modify→aaQ,getElem?_append_left→aaR,ext_getElem?→aa8,getElem?_mapIdx→aa9,getElem?_eq_none→aba
open BitVec renaming ofInt→aan
open Go.Calls renaming mono→aae
open Go.IntKind renaming u64→aaq,wrap→aaY,bits→aaZ,signed→aa0
open Go.Lib renaming compareInt→aaj
open Go.Proofs renaming ltOf→aag
open Go.Proofs.Tryz renaming prog→aac,results107→aad,results89→aah,f89→aai,results116→aak,f107→aam,results21→aap,f116→aas,results63→aax,results62→aay,results61→aaz,isAgg5→aaH,call107→aaI,results90→aaJ,func21→aaK,underlying30→aaL,call80→aaU,call79→aaV,call104→aaW,call105→aaX
open Go.Sort renaming PermIn→aao,SortedIn→aaB,size_flatK→aaC
open Go.Value.int renaming injEq→aaD
open Int renaming tdiv_eq_ediv_of_nonneg→aaA,ofNat→aa1
open List renaming getElem?_eq_getElem→aau,mem_cons→aav,not_mem_nil→aaw,length_append→aaE,length_map→aaM,length_filter_le→aaN,replicate→aaO,size_toArray→aaP,foldl→aa2,getElem?_eq_some_iff→aa3,getElem?_map→aa4,all_eq_true→aa5,flatMap_cons→aa6,append_assoc→aa7
open Nat renaming le_refl→aal,le_trans→aar,add_zero→aaF,zero_le→aaG,one_shiftLeft→aaS,not_lt_zero→aaT
open Option renaming some→aaf
set_option maxHeartbeats 16000000
set_option maxRecDepth 100000
set_option cbv.maxSteps 100000000
namespace Go.Proofs.YthpbefahaghbjaaGreat
open Go Go.bU Go.Sort
theorem aW.drewN {w:World}(k:Nat):aW (fun _ _=>False) w (w.drewN k):=⟨rfl,rfl,rfl,aal _,Nat.le_add_right _ _,fun _ _ _=>rfl,fun _ c _ _ h=>⟨c,h,rfl,fun _ _=>rfl⟩⟩
theorem Qe (n:Nat)(hn:n<4611686018427387904)(w:World):Calls aac 92 #[.int .i64 n] w fun e w'=>e=.returned (.int .u64 ((1 <<< bitsLen n:Nat):Int))/\w'=w :=
 AnyF.nextPowerOfTwo Tryz.ZO n hn w
theorem Qd (rb ro X:Nat)(hX:X<18446744073709551616)(w:World)(hc:w.cell? ⟨rb,ro,none⟩=some (.int .u64 X))(hf:w.frozen? ⟨rb,ro,none⟩=false) :
  Calls aac 93 #[.pointer (some ⟨rb,ro,none⟩)] w fun e w'=>∃r:Nat,r<18446744073709551616/\e=.returned (.int .u64 r)/\w'.cell? ⟨rb,ro,none⟩=some (.int .u64 r)/\aW (fun k i=>k=rb/\ro<=i/\i<ro+1) w w':=by
 refine aae (AnyF.xorshift_Next Tryz.ae3 rb ro X hX w hc hf) fun e w' ⟨h1,h2⟩=>⟨xorNextN X,?_,h1,?_,?_⟩
 ·exact xorNextN_lt X hX
 ·rw[h2];exact World.cell?_setCell_same _ _ _ hc
 ·rw[h2];exact((aW.refl _ w).setCell (.inr ⟨rfl,aal _,by omega⟩) _).trans ((aW.drewN 3).mono (fun _ _ _ h=>h.elim)) (fun _ _ _ h=>h)
theorem zB (z:Int)(h:0<=z)(h2:z<18446744073709551616):aaq.wrap z=z:=by
 simp[aaY,aaZ,aa0];omega
theorem Hn (x:Int)(m:Nat)(hm:m<4611686018427387904):∃o:Nat,o<=m/\ig .and .u64 x (m:Int)=(o:Int):=by
 refine⟨(aan 64 x &&& aan 64 (m:Int)).toNat,?_,?_⟩
 ·rw[BitVec.toNat_and]
  refine aar Nat.and_le_right ?_;simp[aan,BitVec.toNat_ofNat];omega
 ·have h:(aan 64 x &&& aan 64 (m:Int)).toNat<18446744073709551616:=(aan 64 x &&& aan 64 (m:Int)).isLt
  show aaq.wrap ((aan 64 x &&& aan 64 (m:Int)).toNat:Int)=_;exact zB _ (Int.natCast_nonneg _) (by omega)
theorem O8 (b y n c a e:Nat)(d:Array Int)(w:World)(hA:fh w b y d)(hn:d.size=n)(Rc:a<=e)(Dv:e<=n)(fA:n<2305843009213693952) :
  Calls aac 116 #[.slice (some ⟨b,y,none⟩) n c,.int .i64 a,.int .i64 e] w fun en w'=>∃d',aao a e d d'/\yy b y n w d' en w':=by
 obtain⟨p,hp⟩:∃p,p=some (Addr.mk b y none):=⟨_,rfl⟩;obtain⟨l,hl⟩:∃l,l=e-a:=⟨_,rfl⟩;rw[<-hp];have sd:=hn;refine X.ly hA hn (ss:=[.ao p n c,.int .i64 (.nat a),.int .i64 (.nat e)]) Tryz.func116 rfl Fz rfl rfl ?_;refine X.go eM 400 _ rfl aak ?_
 conv=>arg 2;cbv
 refine X.iR 6 (.int .i64 (.nat l)) rfl (fun N _ v hv=>by rw[<-hv];simp (disch:=omega) only [SV.den,SI.den,a_,aaA,aA,aaD,true_and]<;>omega) ?_;refine X.cond rfl (fun h8=>?_) (fun h8=>?_)
 ·simp (disch:=omega) only [SB.T,SI.den,a_] at h8
  refine X.go eM 400 _ rfl aak ?_
  conv=>arg 2;cbv
  refine X.call rfl rfl rfl rfl Tryz.call92 (fun N w1 args hN hS ha=>?_);have ha:args=[.int .i64 l]:=(aaf.inj ha).symm;rw[ha];obtain⟨M,hM⟩:∃M,M=1 <<< bitsLen l:=⟨_,rfl⟩;have U3:1<=M:=by rw[hM,aaS];exact Nat.one_le_two_pow
  have Ky:M<=2*l:=by rw[hM,aaS];exact two_pow_bitsLen_le (by omega)
  have key:=Qe l (by omega) w1;rw[<-hM] at key;refine aae key fun en w' ⟨he,hw⟩=>⟨_,he,?_⟩
  subst hw;refine Goes.same hN hS (aW.refl _ _) (r:=.int .u64 (.nat M)) rfl rfl ?_;refine X.Qp 0 0 (.int .u64 (.nat l)) rfl rfl (fun N _ v hv=>by rw[<-hv];simp (disch:=omega) only [SV.den,SI.den,a_,zB]) ?_;clear hM key;refine X.go eM 400 _ rfl aak ?_
  conv=>arg 2;cbv
  refine X.loop (fun g:{g:(Nat × Nat) × Array Int // g.2.size=n/\(a+l / 4*2-1<=g.1.1/\g.1.1<=a+l / 4*2+2/\g.1.2<18446744073709551616)/\aao a e d g.2}=>aE aac aas _ w b y n (wm w) g.1.2 [] zE) (fun g=>⟨[(0,.val (.ao p n c)),(1,.val (.int .i64 (.nat a))),(6,.val (.int .i64 (.nat l))),(7,.val (.own 0 0)),(8,.val (.int .u64 (.nat M))),(9,.val (.int .i64 (.nat g.1.1.1)))],[⟨true,[.int .u64 (.nat g.1.1.2)],none⟩]⟩) (fun g=>a+l / 4*2+2-g.1.1.1) (fun _=>⟨rfl,rfl,rfl,rfl⟩) (fun N ac w' hN hf hS=>⟨⟨((a+l / 4*2-1,l),d),hn,by simp only;omega,permIn_refl d a e⟩,?_⟩) (fun g q hq=>?_)
  ·refine At.again hf hS (by repeat first|exact trivial|refine Dm rfl rfl ?_|refine mi rfl rfl rfl ?_|refine mi rfl rfl (by simp (disch:=omega) only [SV.den,SI.den,a_,aaA,aA,aaD,true_and];omega) ?_) (by repeat first|exact trivial|refine⟨fun h=>h,aR.refl rfl,rfl,?_⟩)
  obtain⟨⟨⟨i,r⟩,d1⟩,jv,⟨bI,yb,hr⟩,Dp⟩:=g;simp only at jv bI yb hr Dp;show X (aE aac aas _ w b y n (wm w) d1 [] zE) _ ⟨[(0,.val (.ao p n c)),(1,.val (.int .i64 (.nat a))),(6,.val (.int .i64 (.nat l))),(7,.val (.own 0 0)),(8,.val (.int .u64 (.nat M))),(9,.val (.int .i64 (.nat i)))],[⟨true,[.int .u64 (.nat r)],none⟩]⟩;refine X.LA (fun N=>∃pn:aS,N[0]?=some pn/\1<=pn.x) (fun N w1 _ hS=>?_) (fun N1 _ hNl hP=>?_)
  ·obtain⟨pn,Bz⟩:∃pn,N[0]?=some pn:=⟨_,aau (by rw[hS.len];simp)⟩
   exact⟨pn,Bz,hS.ext 0 _ pn rfl Bz rfl⟩
  obtain⟨pn,VH,fK⟩:=hP;refine X.go eM 400 _ rfl aak ?_
  conv=>arg 2;cbv
  refine X.cond rfl (fun hle=>?_) (fun WU=>?_)
  ·simp (disch:=omega) only [SB.T,SI.den,a_,aaA] at hle
   refine X.go eM 400 _ rfl aak ?_
   conv=>arg 2;cbv
   refine X.call rfl rfl rfl rfl Tryz.call93 (fun N w1 args hN hS ha=>?_);have fJ:N[0]?=some pn:=hN 0 _ VH;have ii:w1.cell? ⟨pn.b,pn.o,none⟩=some (.int .u64 r):=by
    obtain⟨v0,k1,k2⟩:=hS.cell 0 _ _ rfl fJ 0 _ rfl;simp only[SV.den,SI.den,aA] at k1;subst k1;exact k2
   have jq:w1.frozen? ⟨pn.b,pn.o,none⟩=false:=(hS.room 0 _ _ rfl fJ rfl 0 fK).2;simp only[SV.ap,SV.den,fJ,SI.den,aA] at ha;subst ha;refine aae (Qd pn.b pn.o r hr w1 ii jq) fun en w' ⟨r',Na,he,bD,iB⟩=>⟨_,he,Goes.cells (r:=0) hN hS rfl fJ rfl (iB.mono fun k o _ ⟨e1,e2,e3⟩=>⟨e1,e2,by omega⟩) [.int .u64 (.nat r')] fK (fun q c hq=>by cases q with
    |zero=>simp at hq;subst hq;exact⟨_,rfl,bD⟩
    |succ q=>simp at hq) (rv:=.int .u64 (.nat r')) rfl rfl ?_⟩
   refine X.go eM 400 _ rfl aak ?_
   conv=>arg 2;cbv
   obtain⟨o,ho1,yJ⟩:=Hn (r':Int) (M-1) (by omega);refine X.iR 10 (.int .i64 (.nat o)) rfl (fun N _ v hv=>by rw[<-hv];simp (disch:=omega) only [SV.den,SI.den,zB,show(M:Int)-1=((M-1:Nat):Int) by omega,yJ,a_]) ?_;refine X.cond rfl (fun PU=>?_) (fun PU=>?_)
   ·simp (disch:=omega) only [SB.T,SI.den,zB,show(M:Int)-1=((M-1:Nat):Int) by omega,yJ,a_] at PU
    obtain⟨o2,YV⟩:∃k,k=o-l:=⟨_,rfl⟩;refine X.go eM 5 _ rfl aak ?_
    conv=>arg 2;cbv
    refine X.iR 10 (.int .i64 (.nat o2)) rfl (fun N _ v hv=>by rw[<-hv];simp (disch:=omega) only [SV.den,SI.den,a_,aaA,aA,aaD,true_and]<;>omega) ?_;obtain⟨xi,gf⟩:∃x,d1[i]! = x:=⟨_,rfl⟩;obtain⟨xj,gZ⟩:∃x,d1[a+o2]! = x:=⟨_,rfl⟩;have Y4:aao a e d1 (swp d1 i (a+o2)):=swp_permIn d1 a e i (a+o2) (by omega) (by omega) (by omega) (by omega) (by omega)
    by_cases iK:i=a+o2
    ·refine X.oL hA hn jv (i:=i) (by omega) gf (by simp) (fun N2 pC rN=>?_)
     have g0:(N2++[⟨b,y+i,1⟩]:af)[1]?=some ⟨b,y+i,1⟩:=ax rN;refine X.dk ([(57,.own 1 0),(61,.own 1 0),(63,.own 1 0),(64,.own 1 0)]) eM 400 _ rfl aak (fun pr fin aj ai=>?_)
     conv=>cbv
     refine⟨aj _ (dg i rfl rfl hp g0),aj _ (dg i rfl rfl hp g0),aj _ (dg i rfl rfl hp g0),aj _ (dg i rfl rfl hp g0),ai _ _ ?_⟩;refine X.nW (i:=i) (r:=1) jv (by omega) gf rfl g0 ?_;refine X.back (fun N ac w' hN hf hS=>hq ⟨((i+1,r'),swp d1 i (a+o2)),by rw[bQ];exact jv,by simp only;omega,permIn_trans _ _ _ a e Dp Y4⟩ ac w' (by simp only;omega) ?_);show At (aE aac aas _ w b y n (wm w) (swp d1 i (a+o2)) [] zE) ⟨[(0,.val (.ao p n c)),(1,.val (.int .i64 (.nat a))),(6,.val (.int .i64 (.nat l))),(7,.val (.own 0 0)),(8,.val (.int .u64 (.nat M))),(9,.val (.int .i64 (.nat (i+1))))],[⟨true,[.int .u64 (.nat r')],none⟩]⟩ ac w';rw[<-iK,eX (by omega)];exact At.gG hf hS
    ·refine X.jx hA hn jv (i:=i) (j:=a+o2) iK (by omega) (by omega) gf gZ (by simp) (fun N2 pC rN=>?_)
     have g0:((N2++[⟨b,y+i,1⟩])++[⟨b,y+(a+o2),1⟩]:af)[1]?=some ⟨b,y+i,1⟩:=b9 (ax rN);have g1:((N2++[⟨b,y+i,1⟩])++[⟨b,y+(a+o2),1⟩]:af)[2]?=some ⟨b,y+(a+o2),1⟩:=ax (by simp[rN]);refine X.dk ([(57,.own 2 0),(61,.own 1 0),(63,.own 1 0),(64,.own 2 0)]) eM 400 _ rfl aak (fun pr fin aj ai=>?_)
     conv=>cbv
     refine⟨aj _ (dg (a+o2) rfl rfl hp g1),aj _ (dg i rfl rfl hp g0),aj _ (dg i rfl rfl hp g0),aj _ (dg (a+o2) rfl rfl hp g1),ai _ _ ?_⟩;refine X.jo (i:=i) (j:=a+o2) (r:=1) jv iK (by omega) (by omega) gf gZ rfl rfl g0 g1 ?_;refine X.back (fun N ac w' hN hf hS=>hq ⟨((i+1,r'),swp d1 i (a+o2)),by rw[bQ];exact jv,by simp only;omega,permIn_trans _ _ _ a e Dp Y4⟩ ac w' (by simp only;omega) ?_);show At (aE aac aas _ w b y n (wm w) (swp d1 i (a+o2)) [] zE) ⟨[(0,.val (.ao p n c)),(1,.val (.int .i64 (.nat a))),(6,.val (.int .i64 (.nat l))),(7,.val (.own 0 0)),(8,.val (.int .u64 (.nat M))),(9,.val (.int .i64 (.nat (i+1))))],[⟨true,[.int .u64 (.nat r')],none⟩]⟩ ac w';exact At.gG hf hS
   ·simp (disch:=omega) only [SB.F,SI.den,zB,show(M:Int)-1=((M-1:Nat):Int) by omega,yJ,a_] at PU
    obtain⟨xi,gf⟩:∃x,d1[i]! = x:=⟨_,rfl⟩;obtain⟨xj,gZ⟩:∃x,d1[a+o]! = x:=⟨_,rfl⟩;have Y4:aao a e d1 (swp d1 i (a+o)):=swp_permIn d1 a e i (a+o) (by omega) (by omega) (by omega) (by omega) (by omega)
    by_cases iK:i=a+o
    ·refine X.oL hA hn jv (i:=i) (by omega) gf (by simp) (fun N2 pC rN=>?_)
     have g0:(N2++[⟨b,y+i,1⟩]:af)[1]?=some ⟨b,y+i,1⟩:=ax rN;refine X.dk ([(57,.own 1 0),(61,.own 1 0),(63,.own 1 0),(64,.own 1 0)]) eM 400 _ rfl aak (fun pr fin aj ai=>?_)
     conv=>cbv
     refine⟨aj _ (dg i rfl rfl hp g0),aj _ (dg i rfl rfl hp g0),aj _ (dg i rfl rfl hp g0),aj _ (dg i rfl rfl hp g0),ai _ _ ?_⟩;refine X.nW (i:=i) (r:=1) jv (by omega) gf rfl g0 ?_;refine X.back (fun N ac w' hN hf hS=>hq ⟨((i+1,r'),swp d1 i (a+o)),by rw[bQ];exact jv,by simp only;omega,permIn_trans _ _ _ a e Dp Y4⟩ ac w' (by simp only;omega) ?_);show At (aE aac aas _ w b y n (wm w) (swp d1 i (a+o)) [] zE) ⟨[(0,.val (.ao p n c)),(1,.val (.int .i64 (.nat a))),(6,.val (.int .i64 (.nat l))),(7,.val (.own 0 0)),(8,.val (.int .u64 (.nat M))),(9,.val (.int .i64 (.nat (i+1))))],[⟨true,[.int .u64 (.nat r')],none⟩]⟩ ac w';rw[<-iK,eX (by omega)];exact At.gG hf hS
    ·refine X.jx hA hn jv (i:=i) (j:=a+o) iK (by omega) (by omega) gf gZ (by simp) (fun N2 pC rN=>?_)
     have g0:((N2++[⟨b,y+i,1⟩])++[⟨b,y+(a+o),1⟩]:af)[1]?=some ⟨b,y+i,1⟩:=b9 (ax rN);have g1:((N2++[⟨b,y+i,1⟩])++[⟨b,y+(a+o),1⟩]:af)[2]?=some ⟨b,y+(a+o),1⟩:=ax (by simp[rN]);refine X.dk ([(57,.own 2 0),(61,.own 1 0),(63,.own 1 0),(64,.own 2 0)]) eM 400 _ rfl aak (fun pr fin aj ai=>?_)
     conv=>cbv
     refine⟨aj _ (dg (a+o) rfl rfl hp g1),aj _ (dg i rfl rfl hp g0),aj _ (dg i rfl rfl hp g0),aj _ (dg (a+o) rfl rfl hp g1),ai _ _ ?_⟩;refine X.jo (i:=i) (j:=a+o) (r:=1) jv iK (by omega) (by omega) gf gZ rfl rfl g0 g1 ?_;refine X.back (fun N ac w' hN hf hS=>hq ⟨((i+1,r'),swp d1 i (a+o)),by rw[bQ];exact jv,by simp only;omega,permIn_trans _ _ _ a e Dp Y4⟩ ac w' (by simp only;omega) ?_);show At (aE aac aas _ w b y n (wm w) (swp d1 i (a+o)) [] zE) ⟨[(0,.val (.ao p n c)),(1,.val (.int .i64 (.nat a))),(6,.val (.int .i64 (.nat l))),(7,.val (.own 0 0)),(8,.val (.int .u64 (.nat M))),(9,.val (.int .i64 (.nat (i+1))))],[⟨true,[.int .u64 (.nat r')],none⟩]⟩ ac w';exact At.gG hf hS
  ·refine X.go eM 400 _ rfl aak ?_
   conv=>arg 2;cbv
   refine X.over eM rfl (fun N w' v hN hS hv=>⟨d1,Dp,?_,?_⟩)
   ·simp only[bz,SV.den,SV.ap,aA] at hv
    rw[<-hv]
   ·exact Sat.kK hS hA hn jv
 ·refine X.go eM 400 _ rfl aak ?_
  conv=>arg 2;cbv
  refine X.over eM rfl (fun N w' v hN hS hv=>⟨d,permIn_refl d a e,?_,?_⟩)
  ·simp only[bz,SV.den,SV.ap,aA] at hv
   rw[<-hv]
  ·exact Sat.kK hS hA hn hn
theorem Mp:SWO ltInt where
 irrefl x:=by simp[ltInt]
 trans x y z h1 h2:=by simp[ltInt] at *;omega
 ntrans x y z h1 h2:=by simp[ltInt] at *;omega
theorem X.XE {E:eR}{k:List It}{s:St}(t:Nat){c:SB}(hl:bU.look s.fr t=FV.val (SV.bool c))(h:∀x:Bool,X E k ⟨(t,.val (.bool (.v x)))::s.fr,s.rg⟩):X E k s :=
 X.iR t (.bool (.v c.den)) hl (fun N _ x hx=>hx) (h _)
def mw (b y n a e:Nat)(d:Array Int)(w:World):Ending->World->Prop:=fun en w'=>∃d',(aao a e d d'/\aaB ltInt a e d')/\yy b y n w d' en w'
structure PG (n a e lim:Nat) (d:Array Int) (a1 e1 l1:Nat) (d1:Array Int):Prop where
 sz:d1.size=n
 lo:a<=a1
 mid:a1<=e1
 hi:e1<=e
 lim:l1<=lim
 below:Below ltInt a1 e1 d1
 ends:∀ R,aao a1 e1 d1 R→aaB ltInt a1 e1 R→aao a e d R∧aaB ltInt a e R
theorem PG.perm {n a e lim:Nat}{d:Array Int}{a1 e1 l1 l2:Nat}{d1 d2:Array Int}(g:PG n a e lim d a1 e1 l1 d1)(Dv:e<=n)(h:aao a1 e1 d1 d2)(hl:l2<=l1):PG n a e lim d a1 e1 l2 d2 :=
 ⟨h.1.trans g.sz,g.lo,g.mid,g.hi,aar hl g.lim,g.below.perm (by have:=g.hi;have:=g.sz;omega) h,fun R hR hs=>g.ends R (permIn_trans _ _ _ _ _ h hR) hs⟩
theorem Ij (b y n c m:Nat)(fA:n<2305843009213693952)(ih:∀(a e lim:Nat) (d:Array Int) (w:World),e-a<m->fh w b y d->d.size=n->a<=e->e<=n->lim<4611686018427387904->Below ltInt a e d->Calls aac 107 #[.slice (some ⟨b,y,none⟩) n c,.int .i64 a,.int .i64 e,.int .i64 lim] w (mw b y n a e d w))
  (a e lim:Nat) (d:Array Int) (w:World) (hm:e-a<=m) (hA:fh w b y d) (hn:d.size=n) (Rc:a<=e) (Dv:e<=n) (aju:lim<4611686018427387904) (hB:Below ltInt a e d) :
  Calls aac 107 #[.slice (some ⟨b,y,none⟩) n c,.int .i64 a,.int .i64 e,.int .i64 lim] w (mw b y n a e d w):=by
 obtain⟨p,hp⟩:∃p,p=some (Addr.mk b y none):=⟨_,rfl⟩;rw[<-hp] at ih ⊢;refine X.ly hA hn (ss:=[.ao p n c,.int .i64 (.nat a),.int .i64 (.nat e),.int .i64 (.nat lim)]) Tryz.func107 rfl zD rfl rfl ?_;refine X.go bg 400 _ rfl aad ?_
 conv=>arg 2;cbv
 refine X.loop (fun g:{g:((Nat × Nat × Nat) × (Bool × Bool)) × Array Int // PG n a e lim d g.1.1.1 g.1.1.2.1 g.1.1.2.2 g.2}=>aE aac aam _ w b y n (wm w) g.1.2 [] um)
  (fun g=>⟨[(0,.val (.ao p n c)),(1,.val (.int .i64 (.nat g.1.1.1.1))),(2,.val (.int .i64 (.nat g.1.1.1.2.1))),(3,.val (.int .i64 (.nat g.1.1.1.2.2))),(8,.val (.bool (.v g.1.1.2.1))),(9,.val (.bool (.v g.1.1.2.2)))],[]⟩) (fun g=>g.1.1.1.2.1-g.1.1.1.1) (fun _=>⟨rfl,rfl,rfl,rfl⟩)
  (fun N ac w' hN hf hS=>⟨⟨(((a,e,lim),(true,true)),d),⟨hn,aal _,Rc,aal _,aal _,hB,fun R h1 h2=>⟨h1,h2⟩⟩⟩,?_⟩) (fun g q hq=>?_)
 ·exact At.gG hf hS trivial
 obtain⟨⟨⟨⟨a1,e1,l1⟩,⟨wb,wp⟩⟩,d1⟩,G⟩:=g;have G:PG n a e lim d a1 e1 l1 d1:=G;have glo:=G.lo;have UY:=G.mid;have ghi:=G.hi;have Ku:=G.lim;have jv:=G.sz;show X (aE aac aam _ w b y n (wm w) d1 [] um) _ ⟨[(0,.val (.ao p n c)),(1,.val (.int .i64 (.nat a1))),(2,.val (.int .i64 (.nat e1))),(3,.val (.int .i64 (.nat l1))),(8,.val (.bool (.v wb))),(9,.val (.bool (.v wp)))],[]⟩;refine X.go bg 400 _ rfl aad ?_
 conv=>arg 2;cbv
 obtain⟨l,hl⟩:∃l,l=e1-a1:=⟨_,rfl⟩;refine X.iR 10 (.int .i64 (.nat l)) rfl (fun N _ v hv=>by rw[<-hv];simp (disch:=omega) only [SV.den,SI.den,a_,aaA,aA,aaD,true_and]<;>omega) ?_;refine X.cond rfl (fun h12=>?_) (fun h12=>?_)
 ·refine X.go bg 400 _ rfl aad ?_
  conv=>arg 2;cbv
  refine X.call rfl rfl rfl rfl Tryz.call114 (fun N w1 args hN hS ha=>?_);have ha:args=[.slice p n c,.int .i64 a1,.int .i64 e1]:=(aaf.inj ha).symm;rw[ha];obtain⟨h1,h2⟩:=insertionSort_holds Mp d1 a1 e1 UY (by omega);have key:=P3 b y n c a1 e1 d1 w1 (Sat.kK hS hA hn jv).1 jv (by omega) (by omega) (by omega);rw[<-hp] at key;refine aae key fun en w' ⟨he,s6,iB⟩=>⟨_,he,Goes.kK hN hS jv (h1.1.trans jv) s6 iB (by simp) (r:=.tup []) rfl rfl ?_⟩
  refine X.go bg 400 _ rfl aad ?_
  conv=>arg 2;cbv
  refine X.done bg rfl (fun N w' v hN hS hv=>⟨_,G.ends _ h1 h2,?_,?_⟩)
  ·simp only[bz,SV.den,SV.ap,aA] at hv
   rw[<-hv]
  ·exact Sat.kK hS hA hn (h1.1.trans jv)
 simp (disch:=omega) only [SB.F,SI.den,a_] at h12;refine X.go bg 400 _ rfl aad ?_
 conv=>arg 2;cbv
 refine X.cond rfl (fun h0=>?_) (fun h0=>?_)
 ·refine X.go bg 400 _ rfl aad ?_
  conv=>arg 2;cbv
  refine X.call rfl rfl rfl rfl Tryz.call115 (fun N w1 args hN hS ha=>?_);have ha:args=[.slice p n c,.int .i64 a1,.int .i64 e1]:=(aaf.inj ha).symm;rw[ha];obtain⟨h1,h2⟩:=heapSort_holds Mp d1 a1 e1 UY (by omega);have key:=KL b y n c a1 e1 d1 w1 (Sat.kK hS hA hn jv).1 jv (by omega) (by omega) (by omega);rw[<-hp] at key;refine aae key fun en w' ⟨he,s6,iB⟩=>⟨_,he,Goes.kK hN hS jv (h1.1.trans jv) s6 iB (by simp) (r:=.tup []) rfl rfl ?_⟩
  refine X.go bg 400 _ rfl aad ?_
  conv=>arg 2;cbv
  refine X.done bg rfl (fun N w' v hN hS hv=>⟨_,G.ends _ h1 h2,?_,?_⟩)
  ·simp only[bz,SV.den,SV.ap,aA] at hv
   rw[<-hv]
  ·exact Sat.kK hS hA hn (h1.1.trans jv)
 simp only[SB.F,SI.den] at h0;refine X.go bg 2 _ rfl aad ?_
 conv=>arg 2;cbv
 refine X.join (ι:={x:Array Int × Nat // PG n a e lim d a1 e1 x.2 x.1}) (fun x=>aE aac aam _ w b y n (wm w) x.1.1 [] um) (fun x=>⟨[(0,.val (.ao p n c)),(1,.val (.int .i64 (.nat a1))),(2,.val (.int .i64 (.nat e1))),(3,.val (.int .i64 (.nat x.1.2))),(8,.val (.bool (.v wb))),(9,.val (.bool (.v wp))),(10,.val (.int .i64 (.nat l)))],[]⟩) (fun _=>⟨rfl,rfl,rfl⟩) (fun qj nj=>?_) (fun x=>?_)
 ·refine X.go bg 400 _ rfl aad ?_
  conv=>arg 2;cbv
  refine X.cond rfl (fun hb=>?_) (fun hb=>?_)
  ·refine X.go bg 400 _ rfl aad ?_
   conv=>arg 2;cbv
   refine X.call rfl rfl rfl rfl Tryz.call116 (fun N w1 args hN hS ha=>?_);have ha:args=[.slice p n c,.int .i64 a1,.int .i64 e1]:=(aaf.inj ha).symm;rw[ha];have key:=O8 b y n c a1 e1 d1 w1 (Sat.kK hS hA hn jv).1 jv (by omega) (by omega) fA;rw[<-hp] at key;refine aae key fun en w' ⟨d2,h1,he,s6,iB⟩=>⟨_,he,Goes.kK hN hS jv (h1.1.trans jv) s6 iB (by simp) (r:=.tup []) rfl rfl ?_⟩
   refine X.go bg 400 _ rfl aad ?_
   conv=>arg 2;cbv
   refine X.back (fun N ac w' hN hf hS=>nj ⟨(d2,l1-1),G.perm Dv h1 (by omega)⟩ ac w' ?_);exact At.gG hf hS trivial
  ·refine X.go bg 400 _ rfl aad ?_
   conv=>arg 2;cbv
   refine X.back (fun N ac w' hN hf hS=>nj ⟨(d1,l1),G⟩ ac w' ?_);exact At.gG hf hS trivial
 clear G jv Ku;obtain⟨⟨d2,l2⟩,G⟩:=x;have G:PG n a e lim d a1 e1 l2 d2:=G;have Ku:=G.lim;have E8:=G.sz;show X (aE aac aam _ w b y n (wm w) d2 [] um) _ ⟨[(0,.val (.ao p n c)),(1,.val (.int .i64 (.nat a1))),(2,.val (.int .i64 (.nat e1))),(3,.val (.int .i64 (.nat l2))),(8,.val (.bool (.v wb))),(9,.val (.bool (.v wp))),(10,.val (.int .i64 (.nat l)))],[]⟩;refine X.go bg 1 _ rfl aad ?_
 conv=>arg 2;cbv
 obtain⟨pv,lP⟩:∃x,x=(choosePivot ltInt d2 a1 e1).1:=⟨_,rfl⟩;obtain⟨hz,WV⟩:∃x,x=Gc (choosePivot ltInt d2 a1 e1).2:=⟨_,rfl⟩;have adM:a1<=pv/\pv<e1:=by rw[lP];exact choosePivot_holds ltInt d2 a1 e1 (by omega)
 refine X.join (ι:=Unit) (fun x=>aE aac aam _ w b y n (wm w) d2 [] um) (fun x=>⟨[(0,.val (.ao p n c)),(1,.val (.int .i64 (.nat a1))),(2,.val (.int .i64 (.nat e1))),(3,.val (.int .i64 (.nat l2))),(8,.val (.bool (.v wb))),(9,.val (.bool (.v wp))),(10,.val (.int .i64 (.nat l))),(11,.val (.int .i64 (.nat pv))),(12,.val (.int .i64 (.v (hz))))],[]⟩) (fun _=>⟨rfl,rfl,rfl⟩) (fun qj nj=>?_) (fun x=>?_)
 ·refine X.go bg 400 _ rfl aad ?_
  conv=>arg 2;cbv
  refine X.call rfl rfl rfl rfl Tryz.call117 (fun N w1 args hN hS ha=>?_);have ha:args=[.slice p n c,.int .i64 a1,.int .i64 e1]:=(aaf.inj ha).symm;rw[ha];have key:=Il b y n c a1 e1 d2 w1 (Sat.kK hS hA hn E8).1 E8 (by omega) (by omega) (by omega);rw[<-hp,<-lP,<-WV] at key;refine aae key fun en w' ⟨he,iB⟩=>⟨_,he,Goes.same hN hS iB (r:=.tup [.int .i64 (.nat pv),.int .i64 (.v hz)]) rfl rfl ?_⟩
  refine X.go bg 400 _ rfl aad ?_
  conv=>arg 2;cbv
  refine X.back (fun N ac w' hN hf hS=>nj () ac w' ?_);exact At.gG hf hS trivial
 clear lP WV;refine X.go bg 1 _ rfl aad ?_
 conv=>arg 2;cbv
 refine X.join (ι:={x:(Array Int × Nat) × Int // PG n a e lim d a1 e1 l2 x.1.1/\a1<=x.1.2/\x.1.2<e1}) (fun x=>aE aac aam _ w b y n (wm w) x.1.1.1 [] um) (fun x=>⟨[(0,.val (.ao p n c)),(1,.val (.int .i64 (.nat a1))),(2,.val (.int .i64 (.nat e1))),(3,.val (.int .i64 (.nat l2))),(8,.val (.bool (.v wb))),(9,.val (.bool (.v wp))),(10,.val (.int .i64 (.nat l))),(11,.val (.int .i64 (.nat x.1.1.2))),(12,.val (.int .i64 (.v (x.1.2))))],[]⟩) (fun _=>⟨rfl,rfl,rfl⟩) (fun qj nj=>?_) (fun x=>?_)
 ·refine X.go bg 400 _ rfl aad ?_
  conv=>arg 2;cbv
  refine X.cond rfl (fun hb=>?_) (fun hb=>?_)
  ·refine X.go bg 400 _ rfl aad ?_
   conv=>arg 2;cbv
   refine X.call rfl rfl rfl rfl Tryz.call118 (fun N w1 args hN hS ha=>?_);have ha:args=[.slice p n c,.int .i64 a1,.int .i64 e1]:=(aaf.inj ha).symm;rw[ha];have h1:=reverseRange_holds d2 a1 e1 UY (by omega);have key:=Qt b y n c a1 e1 d2 w1 (Sat.kK hS hA hn E8).1 E8 (by omega) (by omega) (by omega) (by omega);rw[<-hp] at key;refine aae key fun en w' ⟨he,s6,iB⟩=>⟨_,he,Goes.kK hN hS E8 (h1.1.trans E8) s6 iB (by simp) (r:=.tup []) rfl rfl ?_⟩
   refine X.go bg 400 _ rfl aad ?_
   conv=>arg 2;cbv
   refine X.back (fun N ac w' hN hf hS=>nj ⟨((reverseRange d2 a1 e1,(e1-1)-(pv-a1)),1),G.perm Dv h1 (aal _),by simp only;omega,by simp only;omega⟩ ac w' ?_);exact At.gG hf hS trivial
  ·refine X.go bg 400 _ rfl aad ?_
   conv=>arg 2;cbv
   refine X.back (fun N ac w' hN hf hS=>nj ⟨((d2,pv),hz),G,by simp only;omega,by simp only;omega⟩ ac w' ?_);exact At.gG hf hS trivial
 clear G E8 adM;obtain⟨⟨⟨d3,GR⟩,hz3⟩,G,fE,fU⟩:=x;have G:PG n a e lim d a1 e1 l2 d3:=G;have fE:a1<=GR:=fE;have fU:GR<e1:=fU;have qT:=G.sz;show X (aE aac aam _ w b y n (wm w) d3 [] um) _ ⟨[(0,.val (.ao p n c)),(1,.val (.int .i64 (.nat a1))),(2,.val (.int .i64 (.nat e1))),(3,.val (.int .i64 (.nat l2))),(8,.val (.bool (.v wb))),(9,.val (.bool (.v wp))),(10,.val (.int .i64 (.nat l))),(11,.val (.int .i64 (.nat GR))),(12,.val (.int .i64 (.v (hz3))))],[]⟩;refine X.go bg 1 _ rfl aad ?_
 conv=>arg 2;cbv
 refine X.join (ι:={x:Array Int // PG n a e lim d a1 e1 l2 x}) (fun x=>aE aac aam _ w b y n (wm w) x.1 [] um) (fun x=>⟨[(0,.val (.ao p n c)),(1,.val (.int .i64 (.nat a1))),(2,.val (.int .i64 (.nat e1))),(3,.val (.int .i64 (.nat l2))),(8,.val (.bool (.v wb))),(9,.val (.bool (.v wp))),(10,.val (.int .i64 (.nat l))),(11,.val (.int .i64 (.nat GR)))],[]⟩) (fun _=>⟨rfl,rfl,rfl⟩) (fun qj nj=>?_) (fun x=>?_)
 ·refine X.go bg 400 _ rfl aad ?_
  conv=>arg 2;cbv
  refine X.cond rfl (fun hb=>?_) (fun hb=>?_)
  ·refine X.go bg 400 _ rfl aad ?_
   conv=>arg 2;cbv
   refine X.call rfl rfl rfl rfl Tryz.call119 (fun N w1 args hN hS ha=>?_);have ha:args=[.slice p n c,.int .i64 a1,.int .i64 e1]:=(aaf.inj ha).symm;rw[ha];obtain⟨h1,h2⟩:=partialInsertionSort_holds Mp d3 a1 e1 (by omega) (by omega) G.below;have key:=CN b y n c a1 e1 d3 w1 (Sat.kK hS hA hn qT).1 qT (by omega) (by omega) (by omega);rw[<-hp] at key;obtain⟨R,hR⟩:∃R,R=partialInsertionSort ltInt d3 a1 e1:=⟨_,rfl⟩;rw[<-hR] at h1 h2 key;clear hR;obtain⟨d4,dn⟩:=R;simp only at h1 h2 key;refine aae key fun en w' ⟨he,s6,iB⟩=>⟨_,he,Goes.kK hN hS qT (h1.1.trans qT) s6 iB (by simp) (r:=.bool (.v dn)) rfl rfl ?_⟩
   refine X.go bg 400 _ rfl aad ?_
   conv=>arg 2;cbv
   refine X.cond rfl (fun hd=>?_) (fun hd=>?_)
   ·simp only[SB.T] at hd
    refine X.go bg 400 _ rfl aad ?_
    conv=>arg 2;cbv
    refine X.done bg rfl (fun N w' v hN hS hv=>⟨_,G.ends _ h1 (h2 hd),?_,?_⟩)
    ·simp only[bz,SV.den,SV.ap,aA] at hv
     rw[<-hv]
    ·exact Sat.kK hS hA hn (h1.1.trans qT)
   ·refine X.go bg 400 _ rfl aad ?_
    conv=>arg 2;cbv
    refine X.back (fun N ac w' hN hf hS=>nj ⟨d4,G.perm Dv h1 (aal _)⟩ ac w' ?_);exact At.gG hf hS trivial
  ·refine X.go bg 400 _ rfl aad ?_
   conv=>arg 2;cbv
   refine X.back (fun N ac w' hN hf hS=>nj ⟨d3,G⟩ ac w' ?_);exact At.gG hf hS trivial
 clear G qT;obtain⟨d4,G⟩:=x;have r9:=G.sz;show X (aE aac aam _ w b y n (wm w) d4 [] um) _ ⟨[(0,.val (.ao p n c)),(1,.val (.int .i64 (.nat a1))),(2,.val (.int .i64 (.nat e1))),(3,.val (.int .i64 (.nat l2))),(8,.val (.bool (.v wb))),(9,.val (.bool (.v wp))),(10,.val (.int .i64 (.nat l))),(11,.val (.int .i64 (.nat GR)))],[]⟩;obtain⟨m1,dM⟩:∃m,m=a1-1:=⟨_,rfl⟩;obtain⟨x1,fK⟩:∃x,d4[m1]! = x:=⟨_,rfl⟩;obtain⟨x2,gJ⟩:∃x,d4[GR]! = x:=⟨_,rfl⟩;obtain⟨t,ht⟩:∃t,t=ltInt x1 x2:=⟨_,rfl⟩;obtain⟨o1,ho1⟩:∃o,o=y+m1:=⟨_,rfl⟩;obtain⟨o2,yJ⟩:∃o,o=y+GR:=⟨_,rfl⟩;refine X.dk ([(79,.ext b o1 0),(80,.int .u8 (.v x1)),(83,.ext b o2 0),(84,.int .u8 (.v x2)),(85,.bool (.v t))]) bg 400 _ rfl aad (fun pr fin aj ai=>?_)
 conv=>cbv
 refine⟨aj _ (dq rfl ht),aj _ (au.eC rfl aaH (fun _=>rfl) fun hT=>(by have hT:_=true:=hT;simp[SB.den,SI.den] at hT;(try replace hT:=of_decide_eq_true hT);(try simp (disch:=omega) only [SI.den,a_] at hT);rw[<-gJ,yJ];exact bK (by omega))),aj _ (au.eC rfl aaH (fun _=>rfl) fun hT=>(by have hT:_=true:=hT;simp[SB.den,SI.den] at hT;(try replace hT:=of_decide_eq_true hT);(try simp (disch:=omega) only [SI.den,a_] at hT);rw[<-fK,ho1];exact bK (by omega))),aj _ (zx GR rfl rfl hp),aj _ (zx m1 rfl rfl hp),ai _ _ ?_⟩;refine X.cond rfl (fun hc=>?_) (fun hc=>?_)
 ·simp only[SB.T,SB.F,SI.den] at hc
  obtain⟨iJ,gn⟩:=hc;refine X.go bg 400 _ rfl aad ?_
  conv=>arg 2;cbv
  refine X.call rfl rfl rfl rfl Tryz.call121 (fun N w1 args hN hS ha=>?_);have ha:args=[.slice p n c,.int .i64 a1,.int .i64 e1,.int .i64 GR]:=(aaf.inj ha).symm;rw[ha];have key:=EW b y n c a1 e1 GR d4 w1 (Sat.kK hS hA hn r9).1 r9 fE fU (by omega) (by omega);rw[<-hp] at key;obtain⟨R,hR⟩:∃R,R=partitionEqual ltInt d4 a1 e1 GR:=⟨_,rfl⟩;rw[<-hR] at key;obtain⟨mid,d5⟩:=R;obtain⟨r1,r2,r3,r4,r5⟩:=round_eq Mp (partitionEqual_holds ltInt) (by omega) fE fU (by omega) G.below (by rw[<-dM,fK,gJ,<-ht,gn]) hR.symm;refine aae key fun en w' ⟨he,s6,iB⟩=>⟨_,he,Goes.kK hN hS r9 (r3.trans r9) s6 iB (by simp) (r:=.int .i64 (.nat mid)) rfl rfl ?_⟩
  refine X.go bg 400 _ rfl aad ?_
  conv=>arg 2;cbv
  refine X.back (fun N ac w' hN hf hS=>hq ⟨(((mid,e1,l2),(wb,wp)),d5),⟨r3.trans r9,by simp only;omega,r2,ghi,Ku,r4,fun R h1 h2=>G.ends R (r5 R h1 h2).1 (r5 R h1 h2).2⟩⟩ ac w' (by simp only;omega) ?_);exact At.gG hf hS trivial
 ·refine X.go bg 400 _ rfl aad ?_
  conv=>arg 2;cbv
  refine X.call rfl rfl rfl rfl Tryz.call122 (fun N w1 args hN hS ha=>?_);have ha:args=[.slice p n c,.int .i64 a1,.int .i64 e1,.int .i64 GR]:=(aaf.inj ha).symm;rw[ha];have key:=LQ b y n c a1 e1 GR d4 w1 (Sat.kK hS hA hn r9).1 r9 fE fU (by omega) (by omega);rw[<-hp] at key;obtain⟨R,hR⟩:∃R,R=partition ltInt d4 a1 e1 GR:=⟨_,rfl⟩;rw[<-hR] at key;obtain⟨mid,al,d5⟩:=R;obtain⟨r1,r2,r3,r4,r5,r6,r7⟩:=round_part Mp (partition_holds ltInt) fE fU (by omega) G.below hR.symm;refine aae key fun en w' ⟨he,s6,iB⟩=>⟨_,he,Goes.kK hN hS r9 (r3.trans r9) s6 iB (by simp) (r:=.tup [.int .i64 (.nat mid),.bool (.v al)]) rfl rfl ?_⟩
  refine X.go bg 400 _ rfl aad ?_
  conv=>arg 2;cbv
  refine X.cond rfl (fun aF=>?_) (fun cJ=>?_)
  ·refine X.go bg 400 _ rfl aad ?_
   conv=>arg 2;cbv
   refine X.call rfl rfl rfl rfl aaI (fun N w1 args hN hS ha=>?_);have ha:args=[.slice p n c,.int .i64 a1,.int .i64 mid,.int .i64 l2]:=(aaf.inj ha).symm;rw[ha];refine aae (ih a1 mid l2 d5 w1 (by omega) (Sat.kK hS hA hn (r3.trans r9)).1 (r3.trans r9) r1 (by omega) (by omega) r4) fun en w' ⟨L,⟨h1,h2⟩,he,s6,iB⟩=>⟨_,he,Goes.kK hN hS (r3.trans r9) (h1.1.trans (r3.trans r9)) s6 iB (by simp) (r:=.tup []) rfl rfl ?_⟩
   refine X.go bg 400 _ rfl aad ?_
   conv=>arg 2;cbv
   refine X.XE 8 rfl (fun wb'=>?_);obtain⟨k1,k2⟩:=r6 L h1 h2;refine X.back (fun N ac w' hN hf hS=>hq ⟨(((mid+1,e1,l2),(wb',al)),L),⟨h1.1.trans (r3.trans r9),by simp only;omega,by simp only;omega,ghi,Ku,k1,fun R h3 h4=>G.ends R (k2 R h3 h4).1 (k2 R h3 h4).2⟩⟩ ac w' (by simp only;omega) ?_);exact At.gG hf hS trivial
  ·refine X.go bg 400 _ rfl aad ?_
   conv=>arg 2;cbv
   obtain⟨md1,ajA⟩:∃k,k=mid+1:=⟨_,rfl⟩;refine X.call rfl rfl rfl rfl aaI (fun N w1 args hN hS ha=>?_);have ha:args=[.slice p n c,.int .i64 (IntKind.i64.wrap ((mid:Int)+1)),.int .i64 e1,.int .i64 l2]:=(aaf.inj ha).symm;rw[a_ _ (by omega) (by omega),show(mid:Int)+1=((mid+1:Nat):Int) by omega] at ha;rw[ha];refine aae (ih (mid+1) e1 l2 d5 w1 (by omega) (Sat.kK hS hA hn (r3.trans r9)).1 (r3.trans r9) (by omega) (by omega) (by omega) r5) fun en w' ⟨L,⟨h1,h2⟩,he,s6,iB⟩=>⟨_,he,Goes.kK hN hS (r3.trans r9) (h1.1.trans (r3.trans r9)) s6 iB (by simp) (r:=.tup []) rfl rfl ?_⟩
   refine X.go bg 400 _ rfl aad ?_
   conv=>arg 2;cbv
   refine X.XE 8 rfl (fun wb'=>?_);obtain⟨k1,k2⟩:=r7 L h1 h2;refine X.back (fun N ac w' hN hf hS=>hq ⟨(((a1,mid,l2),(wb',al)),L),⟨h1.1.trans (r3.trans r9),glo,r1,by simp only;omega,Ku,k1,fun R h3 h4=>G.ends R (k2 R h3 h4).1 (k2 R h3 h4).2⟩⟩ ac w' (by simp only;omega) ?_);exact At.gG hf hS trivial
theorem GM (b y n c:Nat)(fA:n<2305843009213693952):∀(m a e lim:Nat) (d:Array Int) (w:World),e-a<m->fh w b y d->d.size=n->a<=e->e<=n->lim<4611686018427387904->Below ltInt a e d ->
  Calls aac 107 #[.slice (some ⟨b,y,none⟩) n c,.int .i64 a,.int .i64 e,.int .i64 lim] w (mw b y n a e d w)
 |0,_,_,_,_,_,h,_,_,_,_,_,_=>absurd h (aaT _)
 |m+1,a,e,lim,d,w,h,hA,hn,Rc,Dv,hl,hB=>Ij b y n c m fA (fun a e lim d w h=>GM b y n c fA m a e lim d w h) a e lim d w (Nat.le_of_lt_succ h) hA hn Rc Dv hl hB
theorem Lq (n:Nat)(hn:n<4611686018427387904)(w:World):Calls aac 60 #[.int .u64 n] w fun e w'=>∃k:Nat,k<=62/\e=.returned (.int .i64 k)/\w'=w:=by
 have h:=Any.bits_Len (SlLaysF0.n15.bits Tryz.aen) (n:Int) w (by omega) (by omega);refine aae h fun e w' ⟨h1,h2⟩=>⟨_,?_,h1,h2⟩
 rw[Int.toNat_natCast,bitLen_eq _ (by omega)];exact(bitsLen_le_iff n 62).2 (by omega)
theorem C7 (b y n c:Nat)(d:Array Int)(w:World)(hA:fh w b y d)(hn:d.size=n)(fA:n<2305843009213693952) :
  Calls aac 90 #[.slice (some ⟨b,y,none⟩) n c] w (mw b y n 0 n d w):=by
 obtain⟨p,hp⟩:∃p,p=some (Addr.mk b y none):=⟨_,rfl⟩;rw[<-hp];refine X.ly hA hn (ss:=[.ao p n c]) Tryz.func90 rfl DR rfl rfl ?_;refine X.go mB 400 _ rfl aaJ ?_
 conv=>arg 2;cbv
 refine X.call rfl rfl rfl rfl Tryz.call60 (fun N w1 args hN hS ha=>?_);have ha:args=[.int .u64 (aaq.wrap n)]:=(aaf.inj ha).symm;rw[zB _ (by omega) (by omega)] at ha;rw[ha];refine aae (Lq n (by omega) w1) fun e w' ⟨k,hk,he,hw⟩=>⟨_,he,?_⟩
 subst hw;refine Goes.same hN hS (aW.refl _ _) (r:=.int .i64 (.nat k)) rfl rfl ?_;refine X.go mB 400 _ rfl aaJ ?_
 conv=>arg 2;cbv
 refine X.call rfl rfl rfl rfl aaI (fun N w1 args hN hS ha=>?_);have ha:args=[.slice p n c,.int .i64 ((0:Nat):Int),.int .i64 n,.int .i64 k]:=(aaf.inj ha).symm;rw[ha];have key:=GM b y n c fA (n+1) 0 n k d w1 (by omega) (Sat.kK hS hA hn hn).1 hn (by omega) (aal _) (by omega) (.inl rfl);rw[<-hp] at key;refine aae key fun en w' ⟨L,⟨h1,h2⟩,he,s6,iB⟩=>⟨_,he,Goes.kK hN hS hn (h1.1.trans hn) s6 iB (by simp) (r:=.tup []) rfl rfl ?_⟩
 refine X.go mB 400 _ rfl aaJ ?_
 conv=>arg 2;cbv
 refine X.over mB rfl (fun N w' v hN hS hv=>⟨L,⟨h1,h2⟩,?_,?_⟩)
 ·simp only[bz,SV.den,SV.ap,aA] at hv
  rw[<-hv]
 ·exact Sat.kK hS hA hn (h1.1.trans hn)
theorem rn {w:World}{b y n:Nat}{f:Array Value->Array Value}(hs:∀c,(f c).size=c.size)(ho:∀c o,¬(y<=o/\o<y+n)->(f c)[o]?=c[o]?):aW (cW b y n) w (Go.Sort.mapBlock w b f):=by
 refine⟨rfl,rfl,rfl,by simp[Go.Sort.mapBlock],aal _,fun k hk kE=>?_,fun k c e fr hc=>?_⟩
 ·show(w.heap.modify b _)[k]?=_
  rw[aaQ]
  by_cases e:b=k
  ·subst e
   rw[if_pos rfl];cases hx:w.heap[b]? with
   |none=>rfl
   |some x =>
    cases x with
    |cells c e fr =>
     have:f c=c:=by
      apply aa8;intro o;exact ho c o fun h=>kE o ⟨rfl,h.1,h.2⟩
     simp[Go.Sort.onCells,this]
    |_=>rfl
  ·rw[if_neg e]
 ·by_cases e':b=k
  ·subst e'
   refine⟨f c,?_,hs c,fun o h=>ho c o fun h2=>h ⟨rfl,h2.1,h2.2⟩⟩;show(w.heap.modify b _)[b]?=_;rw[aaQ,if_pos rfl,hc];rfl
  ·refine⟨c,?_,rfl,fun _ _=>rfl⟩
   show(w.heap.modify b _)[k]?=_;rw[aaQ,if_neg e'];exact hc
theorem Ec {w:World}(q b y:Nat)(d:Array Int):aW (cW b y d.size) w (Go.Sort.putRow (Value.int .u8) (Go.Sort.ahead w q) b y d):=by
 have h:aW (cW b y d.size) (Go.Sort.ahead w q) (Go.Sort.putRow (Value.int .u8) (Go.Sort.ahead w q) b y d):=by
  refine rn (fun c=>by simp[Go.Sort.putCells]) (fun c o ho=>?_);simp only[Go.Sort.putCells,aa9];cases c[o]? with
  |none=>rfl
  |some x=>simp[ho]
 exact((aW.drewN (w:=w) q).mono fun _ _ _ h=>h.elim).trans h (fun _ _ _ h=>h)
theorem BT (b y n c:Nat)(d:Array Int)(w:World)(hA:fh w b y d)(hn:d.size=n)(fA:n<2305843009213693952)(Rp:n<=c) :
  Calls aac 103 #[.slice (some ⟨b,y,none⟩) n c] w fun e w'=>e=.returned (.slice (some ⟨b,y,none⟩) (Go.Lib.compactUpTo d n).length c)/\fh w' b y (Go.Lib.compactUpTo d n).toArray/\aW (cW b y n) w w':=by
 have key:=AnyE.slices_Compact Tryz.J9 (Value.int .u8) (fun _=>rfl) (EqlAt.intD _ _ .u8) (NeqAt.intD _ _ .u8) 0 (by exact Tryz.zeroValue5) b y c d w hA (by omega) (by omega);subst hn;refine aae key fun e w' ⟨h1,q,h2⟩=>⟨h1,?_,?_⟩
 ·have AC:(Go.Lib.compactUpTo d d.size).length<=d.size:=by
   unfold Go.Lib.compactUpTo;rw[aaM];exact aar (aaN _ _) (by simp)
  have hh:=Go.Sort.holds_putRow (Value.int .u8) (Go.Sort.ahead w q) b y d (Go.Lib.compactUpTo d d.size++aaO (d.size-(Go.Lib.compactUpTo d d.size).length) (0:Int)).toArray hA (by simp;omega);rw[h2];intro k hk;have hk:k<(Go.Lib.compactUpTo d d.size).length:=by simpa using hk
  have:=hh k (by simp;omega);rw[show((Go.Lib.compactUpTo d d.size++aaO (d.size-(Go.Lib.compactUpTo d d.size).length) (0:Int)).toArray)[k]! = ((Go.Lib.compactUpTo d d.size).toArray)[k]! by
   simp[List.getElem?_append_left hk]] at this
  exact this
 ·have:=Ec (w:=w) q b y (Go.Lib.compactUpTo d d.size++aaO (d.size-(Go.Lib.compactUpTo d d.size).length) (0:Int)).toArray
  have AC:(Go.Lib.compactUpTo d d.size).length<=d.size:=by
   unfold Go.Lib.compactUpTo;rw[aaM];exact aar (aaN _ _) (by simp)
  rw[h2];refine this.mono fun k o _ ⟨e1,e2,e3⟩=>⟨e1,e2,?_⟩
  simp at e3;omega
end Go.Proofs.YthpbefahaghbjaaGreat
namespace Go.Proofs.YthpbefahaghbjaaGreat
open Go Go.bU
def sC (a b:Int):Int:=ig .xor .u64 a b
def uB (a b:Int):Int:=aaq.wrap (a*b)
def AR (l:List Int):Int:=l.foldl (fun h c=>uB (sC h (aaq.wrap c)) 1099511628211) 14695981039346656037
def G4 (h:Int):Int:=sC (uB (sC h (h.fdiv (2 ^ 32))) 14029467366897019727) ((uB (sC h (h.fdiv (2 ^ 32))) 14029467366897019727).fdiv (2 ^ 29))
def lE (n v:Int):Int:=G4 (AR [110,n,v])
def mL (k:Int):Int:=G4 (AR [107,k])
theorem ZQ:uB (sC 14695981039346656037 (aaq.wrap 110)) 1099511628211=aa1 12638194897137039473:=by decide +kernel
theorem ZP:uB (sC 14695981039346656037 (aaq.wrap 107)) 1099511628211=aa1 12638198195671924106:=by decide +kernel
theorem CT (n v:Int)(w:World):Calls aac 104 #[.int .u8 n,.int .u8 v] w fun e w'=>e=.returned (.int .u64 (lE n v))/\aW (fun _ _=>False) w w':=by
 refine X.begin (rg:=[]) (N:=[]) (ss:=[.int .u8 (.v n),.int .u8 (.v v)]) Tryz.func104 rfl Fv rfl rfl Sat.bp ?_;refine X.Dn ep true zQ 4000 _ rfl Tryz.results104 ?_
 conv=>arg 2;cbv
 refine X.done zQ rfl (fun N w' v hN hS hv=>⟨bB hv ?_,hS.aM.mono fun k o _ h=>aB h⟩);simp only[SI.den];unfold lE AR;simp only[aa2,ZQ];rfl
theorem Wd (k:Int)(w:World):Calls aac 100 #[.int .u8 k] w fun e w'=>e=.returned (.int .u64 (mL k))/\aW (fun _ _=>False) w w':=by
 refine X.begin (rg:=[]) (N:=[]) (ss:=[.int .u8 (.v k)]) Tryz.func100 rfl Fu rfl rfl Sat.bp ?_;refine X.Dn ep true zP 4000 _ rfl Tryz.results100 ?_
 conv=>arg 2;cbv
 refine X.done zP rfl (fun N w' v hN hS hv=>⟨bB hv ?_,hS.aM.mono fun k o _ h=>aB h⟩);simp only[SI.den];unfold mL AR;simp only[aa2,ZP];rfl
end Go.Proofs.YthpbefahaghbjaaGreat
namespace Go.Proofs.YthpbefahaghbjaaGreat
open Go Go.bU Go.Sort
theorem _root_.Go.bU.aW.grown {w w':World}(h:aW (fun _ _=>False) w w'):∃q yp,w'=Go.Sort.grow (w.drewN q) yp:=by
 refine⟨w'.drawn-w.drawn,w'.heap.extract w.heap.size w'.heap.size,?_⟩;have hh:w'.heap=w.heap++w'.heap.extract w.heap.size w'.heap.size:=by
  apply aa8;intro i
  by_cases hi:i<w.heap.size
  ·rw[aaR hi]
   exact h.same i hi (fun _ ho=>ho)
  ·rw[Array.getElem?_append_right (by omega),Array.getElem?_extract]
   split
   ·congr 1;omega
   ·exact aba (by omega)
 have hd:w.drawn+(w'.drawn-w.drawn)=w'.drawn:=by have:=h.dr;omega
 have h1:=h.os;have h2:=h.tape;have h3:=h.output;cases w;cases w';simp only[Go.Sort.grow,World.drewN] at *
 subst h1 h2 h3;rw[<-hh,hd]
theorem Pa (x y:Int)(w:World):Calls aac 63 #[.int .u8 x,.int .u8 y] w fun e w'=>e=.returned (.int .i64 (aaj x y))/\aW (fun _ _=>False) w w':=by
 refine X.begin (rg:=[]) (N:=[]) (ss:=[.int .u8 (.v x),.int .u8 (.v y)]) Tryz.func63 rfl DM rfl rfl Sat.bp ?_;refine X.dk ([(8,.bool (.lit false)),(10,.bool (.lit false))]) fP 400 _ rfl aax (fun pr fin aj ai=>?_)
 conv=>cbv
 refine⟨aj _ (.of aaU [.int .u8 y] (.bool false) (fun _=>rfl) (fun _=>rfl) fun _ w1 _=>AM y w1),aj _ (.of aaU [.int .u8 x] (.bool false) (fun _=>rfl) (fun _=>rfl) fun _ w1 _=>AM x w1),ai _ _ ?_⟩;refine X.cond rfl (fun aF=>?_) (fun cJ=>?_)
 ·simp only[SB.T,SI.den] at aF
  have aF:x<y:=aF;refine X.go fP 400 _ rfl aax ?_
  conv=>arg 2;cbv
  refine X.done fP rfl (fun N w' v hN hS hv=>⟨bB hv ?_,hS.aM.mono fun k o _ h=>aB h⟩);simp[SI.den,aaj,aF]
 ·simp only[SB.F,SI.den] at cJ
  have cJ:y<=x:=by omega
  refine X.go fP 400 _ rfl aax ?_
  conv=>arg 2;cbv
  refine X.cond rfl (fun aF=>?_) (fun rL=>?_)
  ·simp only[SB.T,SI.den] at aF
   have aF:y<x:=by omega
   have h2:¬x<y:=by omega
   refine X.go fP 400 _ rfl aax ?_
   conv=>arg 2;cbv
   refine X.done fP rfl (fun N w' v hN hS hv=>⟨bB hv ?_,hS.aM.mono fun k o _ h=>aB h⟩);simp[SI.den,aaj,aF,h2]
  ·simp only[SB.F,SI.den] at rL
   have h1:¬y<x:=by omega
   have h2:¬x<y:=by omega
   refine X.go fP 400 _ rfl aax ?_
   conv=>arg 2;cbv
   refine X.done fP rfl (fun N w' v hN hS hv=>⟨bB hv ?_,hS.aM.mono fun k o _ h=>aB h⟩);simp[SI.den,aaj,h1,h2]
theorem CG (x:Int)(w:World):Calls aac 79 #[.int .u64 x] w fun e w'=>e=.returned (.bool false)/\aW (fun _ _=>False) w w':=by
 refine X.begin (rg:=[]) (N:=[]) (ss:=[.int .u64 (.v x)]) Tryz.func79 rfl DN rfl rfl Sat.bp ?_;refine X.go vj 400 _ rfl Tryz.results79 ?_
 conv=>arg 2;cbv
 refine X.done vj rfl (fun N w' v hN hS hv=>⟨aw hv ?_,hS.aM.mono fun k o _ h=>aB h⟩);simp[SB.den,SI.den]
theorem J7 (x y:Int)(w:World):Calls aac 62 #[.int .u64 x,.int .u64 y] w fun e w'=>e=.returned (.int .i64 (aaj x y))/\aW (fun _ _=>False) w w':=by
 refine X.begin (rg:=[]) (N:=[]) (ss:=[.int .u64 (.v x),.int .u64 (.v y)]) Tryz.func62 rfl DL rfl rfl Sat.bp ?_;refine X.dk ([(8,.bool (.lit false)),(10,.bool (.lit false))]) fO 400 _ rfl aay (fun pr fin aj ai=>?_)
 conv=>cbv
 refine⟨aj _ (.of aaV [.int .u64 y] (.bool false) (fun _=>rfl) (fun _=>rfl) fun _ w1 _=>CG y w1),aj _ (.of aaV [.int .u64 x] (.bool false) (fun _=>rfl) (fun _=>rfl) fun _ w1 _=>CG x w1),ai _ _ ?_⟩;refine X.cond rfl (fun aF=>?_) (fun cJ=>?_)
 ·simp only[SB.T,SI.den] at aF
  have aF:x<y:=aF;refine X.go fO 400 _ rfl aay ?_
  conv=>arg 2;cbv
  refine X.done fO rfl (fun N w' v hN hS hv=>⟨bB hv ?_,hS.aM.mono fun k o _ h=>aB h⟩);simp[SI.den,aaj,aF]
 ·simp only[SB.F,SI.den] at cJ
  have cJ:y<=x:=by omega
  refine X.go fO 400 _ rfl aay ?_
  conv=>arg 2;cbv
  refine X.cond rfl (fun aF=>?_) (fun rL=>?_)
  ·simp only[SB.T,SI.den] at aF
   have aF:y<x:=by omega
   have h2:¬x<y:=by omega
   refine X.go fO 400 _ rfl aay ?_
   conv=>arg 2;cbv
   refine X.done fO rfl (fun N w' v hN hS hv=>⟨bB hv ?_,hS.aM.mono fun k o _ h=>aB h⟩);simp[SI.den,aaj,aF,h2]
  ·simp only[SB.F,SI.den] at rL
   have h1:¬y<x:=by omega
   have h2:¬x<y:=by omega
   refine X.go fO 400 _ rfl aay ?_
   conv=>arg 2;cbv
   refine X.done fO rfl (fun N w' v hN hS hv=>⟨bB hv ?_,hS.aM.mono fun k o _ h=>aB h⟩);simp[SI.den,aaj,h1,h2]
theorem Wm (b y cp:Nat)(u v:Int)(w:World)(h0:w.cell? ⟨b,y,none⟩=some (.int .i64 u))(h1:w.cell? ⟨b,y+1,none⟩=some (.int .i64 v)) :
  Calls aac 61 #[.slice (some ⟨b,y,none⟩) 2 cp] w fun e w'=>e=.returned (.int .i64 (if u=0 then v else u))/\aW (fun _ _=>False) w w':=by
 refine X.begin (rg:=[⟨false,[.int .i64 (.v u),.int .i64 (.v v)],none⟩]) (N:=[⟨b,y,2⟩]) (ss:=[.osl 0 0 2 1 (some cp)]) Tryz.func61 rfl DK rfl rfl
  (Sat.w_ false (World.block_lt_of_cell? _ _ h0) (fun j c hj=>by
   match j,hj with
   |0,hj=>simp at hj;subst hj;exact⟨_,rfl,h0⟩
   |1,hj=>simp at hj;subst hj;exact⟨_,rfl,h1⟩) (fun h=>by cases h)) ?_
 refine X.Dn ep true eS 4000 _ rfl aaz ?_
 conv=>arg 2;cbv
 refine X.cond rfl (fun aF=>?_) (fun cJ=>?_)
 ·simp only[SB.T,SI.den] at aF
  have aF:¬u=0:=aF;refine X.Dn ep true eS 4000 _ rfl aaz ?_
  conv=>arg 2;cbv
  refine X.done eS rfl (fun N w' v hN hS hv=>⟨bB hv ?_,hS.aM.ZW⟩);simp[SI.den,aF]
 ·simp only[SB.F,SI.den] at cJ
  have cJ:u=0:=by omega
  refine X.Dn ep true eS 4000 _ rfl aaz ?_
  conv=>arg 2;cbv
  refine X.cond rfl (fun aF=>?_) (fun cJ=>?_)
  ·refine X.go eS 400 _ rfl aaz ?_
   conv=>arg 2;cbv
   refine X.done eS rfl (fun N w' v hN hS hv=>⟨bB hv ?_,hS.aM.ZW⟩);simp[SI.den,cJ]
  ·simp only[SB.F,SI.den] at cJ
   refine X.Dn ep true eS 4000 _ rfl aaz ?_
   conv=>arg 2;cbv
   refine X.done eS rfl (fun N w' v hN hS hv=>⟨bB hv ?_,hS.aM.ZW⟩);simp[SI.den];omega
def DD (x:Int × Int):List Value:=[.int .u64 x.1,.int .u8 x.2]
def nR (x y:Int × Int):Int:=if aaj x.1 y.1=0 then aaj x.2 y.2 else aaj x.1 y.1
theorem Qj {E:Env}(hE:E.P=aac){N0:af}{rg:List Rg}{k:GK}{r:Nat}{ow:Bool}{a b u:Int}(hr:rg[r]?=some ⟨ow,[.int .i64 (.v a),.int .i64 (.v b)],none⟩)(hu:u=if a=0 then b else a)(cp:Option Nat):nz E N0 rg k 61 [.osl r 0 2 1 cp] (.int .i64 (.v u)):=fun _=>⟨by rw[hE];exact Tryz.call61,fun N w args hN hS ha=>by
  obtain⟨p,hp⟩:∃p,N[r]?=some p:=⟨_,aau (by rw[hS.len];exact(aa3.1 hr).1)⟩;obtain⟨_,e0,c0⟩:=hS.cell r _ p hr hp 0 _ rfl;obtain⟨_,e1,c1⟩:=hS.cell r _ p hr hp 1 _ rfl;simp only[SV.den,SI.den,aA] at e0 e1;subst e0 e1;have mI:∃c,args=[.slice (some ⟨p.b,p.o+0,none⟩) 2 c]:=by
   simp only[SV.ap,SV.den,hp] at ha;exact⟨_,(aaf.inj ha).symm⟩
  obtain⟨c,rfl⟩:=mI;rw[hE,hu];exact(Wm p.b p.o c a b w c0 c1).mono fun e w' ⟨h1,h2⟩=>⟨_,h1,rfl,h2⟩⟩
theorem Ek (x y:Int × Int)(w:World):Calls aac 106 #[.agg (DD x).toArray,.agg (DD y).toArray] w fun e w'=>e=.returned (.int .i64 (nR x y))/\aW (fun _ _=>False) w w':=by
 obtain⟨x1,x2⟩:=x;obtain⟨y1,y2⟩:=y;obtain⟨c1,iJ⟩:∃c,c=aaj x1 y1:=⟨_,rfl⟩;obtain⟨c2,gn⟩:∃c,c=aaj x2 y2:=⟨_,rfl⟩;obtain⟨u,hu⟩:∃u,u=if c1=0 then c2 else c1:=⟨_,rfl⟩
 refine X.begin (rg:=[]) (N:=[]) (ss:=[.agg [.int .u64 (.v x1),.int .u8 (.v x2)],.agg [.int .u64 (.v y1),.int .u8 (.v y2)]]) Tryz.func106 rfl Fw rfl rfl Sat.bp ?_;refine X.dk ([(9,.int .i64 (.v c1)),(14,.int .i64 (.v c2)),(16,.int .i64 (.v u))]) zR 400 _ rfl Tryz.results106 (fun pr fin aj ai=>?_)
 conv=>cbv
 refine⟨aj _ (Qj rfl rfl hu _),aj _ (.of Tryz.call63 [.int .u8 x2,.int .u8 y2] (.int .i64 c2) (fun _=>rfl) (fun _=>rfl) fun _ w1 _=>by rw[gn];exact Pa x2 y2 w1),aj _ (.of Tryz.call62 [.int .u64 x1,.int .u64 y1] (.int .i64 c1) (fun _=>rfl) (fun _=>rfl) fun _ w1 _=>by rw[iJ];exact J7 x1 y1 w1),ai _ _ ?_⟩;refine X.done zR rfl (fun N w' v hN hS hv=>⟨bB hv ?_,hS.aM.mono fun k o _ h=>aB h⟩);simp only[SI.den];rw[hu,iJ,gn];rfl
theorem J8 (gH off size:Nat)(w:World):CmpLays aac 106 #[] DD 2 nR gH off size w :=
 fun _ _ _ _ x y=>(Ek x y _).mono fun _ _ ⟨h1,h2⟩=>⟨h1,h2.grown⟩
def Q5 (d:Array Int):List SV:=d.toList.map fun x=>.int .u8 (.v x)
theorem FR {d:Array Int}{j:Nat}{c:SV}(h:(Q5 d)[j]?=some c):j<d.size/\c=.int .u8 (.v d[j]!):=by
 unfold Q5 at h;rw[aa4] at h;obtain⟨q,h1,h2⟩:=Option.map_eq_some_iff.1 h;obtain⟨h3,h4⟩:=aa3.1 h1;have h3':j<d.size:=by simpa using h3
 rw[getElem!_pos d j h3'];subst h4;exact⟨h3',by rw[<-h2];simp⟩
theorem O9 (d:Array Int):(Q5 d).length=d.size:=by simp[Q5]
theorem O_ (d:Array Int):(Q5 d).all SV.one=true:=by
 rw[aa5];intro c hc;obtain⟨j,hj⟩:=List.mem_iff_getElem?.1 hc;rw[(FR hj).2];rfl
theorem UO {d:Array Int}{j:Nat}(h:j<d.size):(Q5 d)[j]?=some (.int .u8 (.v d[j]!)):=by
 unfold Q5;rw[aa4,getElem!_pos d j h];simp[h]
def Xs (w:World)(b y:Nat)(d:Array Int):Prop:=∀j,j<d.size->w.cell? ⟨b,y+j,none⟩=some (.int .u8 d[j]!)
def TW (b y c:Nat)(d:Array Int)(w:World)(e:Ending)(w':World):Prop:=e=.returned (.slice (some ⟨b,y,none⟩) d.size c)/\(0<d.size->w.heap.size<=b)/\d.size<=c/\fh w' b y d/\aW (fun _ _=>False) w w'
theorem Ed (b y n cp:Nat)(d:Array Int)(w:World)(hn:d.size=n)(h0:n≠0)(hle:n<=1000)(hA:Xs w b y d) :
  Calls aac 21 #[.slice (some ⟨b,y,none⟩) n cp] w fun e w'=>∃b' y' c',TW b' y' c' d w e w':=by
 obtain⟨cs,dS⟩:∃cs,cs=Q5 d:=⟨_,rfl⟩;have hlen:cs.length=n:=by rw[dS,O9,hn]
 have s6:∀(j:Nat) (c:SV),cs[j]?=some c->∃v,c.den [⟨b,y,cs.length⟩]=some v/\w.cell? ⟨b,y+j,none⟩=some v:=fun j c hj=>by
  rw[dS] at hj;obtain⟨h1,rfl⟩:=FR hj;exact⟨_,rfl,hA j h1⟩
 refine X.begin (rg:=[⟨false,cs,none⟩]) (N:=[⟨b,y,cs.length⟩]) (ss:=[.osl 0 0 n 1 (some cp)]) aaK rfl zF rfl rfl
  (Sat.w_ false (World.block_lt_of_cell? _ _ (hA 0 (by omega))) s6 (fun h=>by cases h)) ?_
 refine X.go iS 16 _ rfl aap ?_
 conv=>arg 2;cbv
 apply X.oD (T:=T21) iS
 ·exact du (te:=fo) (new:=cs) (m:=n) rfl rfl rfl rfl rfl rfl rfl rfl (aY (g:=⟨false,cs,none⟩) rfl rfl rfl (by show cs.length=n*1;omega))
   (ie (te:=fo) rfl h0 (bL (by decide) rfl (by show cs.length=n*1;omega) (by rw[dS];exact O_ d) (by show(2*(0+n)+256)*1<=_;omega) (by omega))) rfl
 refine X.go iS 400 _ rfl aap ?_
 conv=>arg 2;cbv
 refine X.done iS rfl (fun N w' v hN hS hv=>?_);obtain⟨p,hp⟩:∃p,N[2]?=some p:=⟨_,aau (by rw[hS.len];simp)⟩;have gI:=hS.ext 2 ⟨true,cs,none⟩ p rfl hp rfl;simp only[hlen] at gI;simp only[bz,SV.den,hp,aS.cap,aA] at hv;refine⟨p.b,p.o,_,by rw[<-hv,hn,aaF],?_,?_,fun j hj=>?_,hS.aM.ZW⟩
 ·intro _
  rcases hS.dG 2 ⟨true,cs,none⟩ p rfl hp rfl with h|h
  ·exact h
  ·exact absurd (h 0 (by omega)) Ma
 ·rw[hn];simpa using gI
 ·have Cf:cs[j]?=some (.int .u8 (.v d[j]!)):=by rw[dS];exact UO hj
  obtain⟨_,e0,c0⟩:=hS.cell 2 _ p rfl hp j _ Cf;simp only[SV.den,SI.den,aA] at e0;subst e0;exact⟨c0,(hS.room 2 _ p rfl hp rfl j (by omega)).2⟩
theorem BR (a:Addr)(cp:Nat)(w:World) :
  Calls aac 21 #[.slice (some a) 0 cp] w fun e w'=>∃b' y' c',TW b' y' c' #[] w e w':=by
 refine X.begin (rg:=[]) (N:=[]) (ss:=[.ao (some a) 0 cp]) aaK rfl zF rfl rfl Sat.bp ?_;refine X.go iS 400 _ rfl aap ?_
 conv=>arg 2;cbv
 refine X.nU false rfl rfl rfl rfl aaL (fun N _ _=>⟨_,_,_,rfl,rfl⟩) rfl ?_;refine X.go iS 400 _ rfl aap ?_
 conv=>arg 2;cbv
 refine X.JR iS rfl rfl rfl rfl rfl rfl rfl rfl rfl rfl (by decide) rfl (by decide) rfl ?_;refine X.go iS 400 _ rfl aap ?_
 conv=>arg 2;cbv
 refine X.done iS rfl (fun N w' v hN hS hv=>?_);obtain⟨p,hp⟩:∃p,N[0]?=some p:=⟨_,aau (by rw[hS.len];simp)⟩;simp only[bz,SV.den,hp,aS.cap,aA] at hv;refine⟨p.b,p.o+0,_,by rw[<-hv];rfl,fun h=>absurd h (Nat.lt_irrefl 0),aaG _,fun j hj=>absurd hj (aaT _),hS.aM.none⟩
def nf (po:Option Addr)(n:Nat)(d:Array Int)(w:World):Prop:=d.size=n/\(0<n->∃b y,po=some ⟨b,y,none⟩/\Xs w b y d)
theorem nf.stays {po:Option Addr}{n:Nat}{d:Array Int}{w w':World}(h:nf po n d w)(hc:aW (fun _ _=>False) w w'):nf po n d w':=⟨h.1,fun hn=>by
 obtain⟨b,y,h1,h2⟩:=h.2 hn;exact⟨b,y,h1,fun j hj=>bw hc (fun h=>h) (h2 j hj)⟩⟩
theorem vE (po:Option Addr)(n cp:Nat)(d:Array Int)(w:World)(hs:po≠none)(hle:n<=1000)(hA:nf po n d w) :
  Calls aac 21 #[.slice po n cp] w fun e w'=>∃b' y' c',TW b' y' c' d w e w':=by
 obtain⟨hn,hA⟩:=hA
 by_cases h0:n=0
 ·subst h0
  have:d=#[]:=Array.size_eq_zero_iff.1 hn;subst this;cases po with
  |none=>exact absurd rfl hs
  |some a=>exact BR _ _ _
 ·obtain⟨b,y,rfl,hB⟩:=hA (by omega)
  exact Ed b y n cp d w hn h0 hle hB
theorem vF (cp:Nat)(w:World):Calls aac 21 #[.slice none 0 cp] w fun e w'=>e=.returned (.slice none 0 0)/\aW (fun _ _=>False) w w':=by
 refine X.begin (rg:=[]) (N:=[]) (ss:=[.ao none 0 cp]) aaK rfl zF rfl rfl Sat.bp ?_;refine X.go iS 400 _ rfl aap ?_
 conv=>arg 2;cbv
 refine X.nU true rfl rfl rfl rfl aaL (fun N _ _=>⟨_,_,_,rfl,rfl⟩) rfl ?_;refine X.go iS 400 _ rfl aap ?_
 conv=>arg 2;cbv
 refine X.done iS rfl (fun N w' v hN hS hv=>?_);simp[bz,SV.den,bc] at hv;exact⟨by rw[<-hv],hS.aM.none⟩
def gY (d:Array Int):Array Int:=(d.toList.mergeSort fun x y=>!ltInt y x).toArray
def rc (d:Array Int):Array Int:=(Go.Lib.compactUpTo (gY d) d.size).toArray
def dL (n:Int)(v:Nat):List (Int × Int):=(List.range v).map fun v:Nat=>(lE n v,n)
def ed (n:Int):List (Int × Int):=dL n 8
def gX (a:Array Int)(i:Nat):List (Int × Int):=(a.toList.take i).flatMap ed
def ju (a:Array Int):List (Int × Int):=a.toList.flatMap ed
def cP (d:Array Int):List (Int × Int):=(ju (rc d)).mergeSort fun x y=>!aag nR y x
theorem G0 {d L:Array Int}{n:Nat}(hn:d.size=n)(h1:aao 0 n d L)(h2:aaB ltInt 0 n L):L=gY d:=by
 subst hn;apply Array.toList_inj.1;rw[sorted_unique_holds swo_ltInt (fun x y h1 h2=>by simp[ltInt] at h1 h2;omega) d L h1 h2];rfl
theorem hG (d:Array Int):(gY d).size=d.size:=by simp[gY]
theorem yA (d:Array Int):(rc d).size<=d.size:=by
 simp only[rc,Go.Lib.compactUpTo,aaP,aaM];exact aar (aaN _ _) (by simp)
def EZ (x:Int × Int):List SV:=[.int .u64 (.v x.1),.int .u8 (.v x.2)]
def ez (L:List (Int × Int)):List SV:=L.flatMap EZ
theorem kI (L:List (Int × Int)):(ez L).length=L.length*2:=by
 induction L with
 |nil=>rfl
 |cons x L ih=>simp only[ez,aa6,aaE] at ih ⊢;rw[ih];simp[EZ];omega
theorem wH {L:List (Int × Int)}{c:SV}(h:c∈ez L):∃k z,c=.int k (.v z):=by
 obtain⟨x,_,hc⟩:=List.mem_flatMap.1 h;simp[EZ] at hc;rcases hc with rfl|rfl<;>exact⟨_,_,rfl⟩
theorem gP {L:List (Int × Int)}{m:Nat}:(ez L).all (bd m)=true:=aa5.2 fun c hc=>by
 obtain⟨k,z,rfl⟩:=wH hc;rfl
theorem ir (L:List (Int × Int))(x:Int × Int):ez (L++[x])=ez L++EZ x:=by simp[ez]
theorem kH {L:List (Int × Int)}{c:SV}{N N':af}{v:Value}(h:c∈ez L)(hv:c.den N=some v):c.den N'=some v:=by
 obtain⟨k,z,rfl⟩:=wH h;exact hv
theorem xB {v:Nat}(h:v<256):IntKind.u8.wrap (v:Int)=v:=by
 simp[aaY,aaZ,aa0];omega
def pY (L:List (Int × Int)):SV:=match L with | []=>.raw (.slice none 0 0)|_::_=>.osl 0 0 L.length 2 none
def pX (L:List (Int × Int)):List Rg:=match L with | []=>[]|_::_=>[⟨true,ez L,none⟩]
theorem pf {L:List (Int × Int)}(h:L≠[]):pY L=.osl 0 0 L.length 2 none:=by cases L with|nil=>exact absurd rfl h|cons=>rfl
theorem pd {L:List (Int × Int)}(h:L≠[]):pX L=[⟨true,ez L,none⟩]:=by cases L with|nil=>exact absurd rfl h|cons=>rfl
theorem qE (x:Int)(v:Nat):dL x (v+1)=dL x v++[(lE x v,x)]:=by simp[dL,List.range_succ]
theorem mg (x:Int)(v:Nat):(dL x v).length=v:=by simp[dL]
theorem mT (a:Array Int)(i:Nat)(h:i<=a.size):(gX a i).length=i*8:=by
 have:∀l:List Int,(l.flatMap ed).length=l.length*8:=fun l=>by
  induction l with
  |nil=>rfl
  |cons x l ih=>rw[aa6,aaE,ih,ed,mg];simp;omega
 rw[gX,this];simp;omega
theorem C3 (a:Array Int)(i:Nat)(h:i<a.size):gX a (i+1)=gX a i++dL a[i]! 8:=by
 unfold gX;rw[List.take_add_one,List.flatMap_append,aau (by simpa using h),getElem!_pos a i h];simp[ed]
theorem qF (a:Array Int):gX a a.size=ju a:=by
 unfold gX ju;rw[List.take_of_length_le (by simp)]
def fN (L:List (Int × Int))(w:World)(e:Ending)(w':World):Prop :=
 ∃p c,e=.returned (.slice p L.length c)/\(L=[]\/∃b o,p=some ⟨b,o,none⟩/\w.heap.size<=b/\HoldsK DD 2 w' b o L.toArray)/\aW (fun _ _=>False) w w'
theorem fh.loc {b y n:Nat}{d:Array Int}(h:d.size<=n):bU.Loc (cW b y n) (fun w=>fh w b y d):=bU.Loc.cells fun w w' hs _ hA k hk=>by
 obtain⟨h1,h2⟩:=hs b (y+k) ⟨rfl,by omega,by omega⟩;rw[h1,h2];exact hA k hk
theorem fh.there {b y n:Nat}{d:Array Int}{w:World}(h:n<=d.size)(hA:fh w b y d){k o:Nat}(hk:cW b y n k o):eG w k o:=by
 obtain⟨rfl,h2,h3⟩:=hk;have:=(hA (o-y) (by omega)).1;rw[show y+(o-y)=o by omega] at this;exact .inl (by rw[this];rfl)
theorem FZ {w:World}{k o:Nat}(h:w.heap.size<=k):ab [] [] w k o=none:=by
 unfold ab
 split
 ·rfl
 ·simp[World.cell?,aba h]
theorem dD {w:World}{k o:Nat}:ab [] [] w k o=w.cell? ⟨k,o,none⟩:=by
 unfold ab;rw[if_neg (fun h=>aB h)]
theorem X.aeE {P:Program}{fn:Func}{Q:Ending->World->Prop}{W:World}{O:Nat->Nat->Prop}{im:Mem}{N0:af}{B:aH}{b y n:Nat}{d:Array Int}{k:List It}{s:St}(hd:d.size<=n)
  (h:X (aK P fn Q W O (nO im b y d) (cW b y n) (fun w=>fh w b y d) N0 B) k s):X (aK P fn Q W O im (cW b y n) (fun w=>fh w b y d) N0 B) k s:=by
 refine X.conv fun N a w hN hf hS=>⟨aK P fn Q W O (nO im b y d) (cW b y n) (fun w=>fh w b y d) N0 B,s,rfl,rfl,rfl,rfl,⟨N,hN,hf,Sat.wo (E:=(aK P fn Q W O im (cW b y n) (fun w=>fh w b y d) N0 B).toEnv) hS fun k o v hv=>?_⟩,h⟩
 rcases oU hv with ⟨⟨e1,e2,e3⟩,e4⟩|⟨_,e⟩
 ·have hA:fh w b y d:=hS.fH
  refine .inr ⟨⟨e1,e2,by omega⟩,?_⟩;have:=(hA (o-y) (by omega)).1;rw[show y+(o-y)=o by omega] at this;rw[e1,e4,this]
 ·exact .inl e
theorem Gw (x y:Int × Int):aag nR x y=decide (x.1<y.1\/(x.1=y.1/\x.2<y.2)):=by
 obtain⟨x1,x2⟩:=x;obtain⟨y1,y2⟩:=y;unfold aag nR aaj;simp only
 by_cases h1:x1<y1
 ·simp[h1]
 ·by_cases h2:y1<x1
  ·have:¬x1=y1:=by omega
   simp[h1,h2,this]
  ·have:x1=y1:=by omega
   subst this
   by_cases h3:x2<y2
   ·simp[h3]
   ·by_cases h4:y2<x2<;>simp[h3,h4]
theorem aeI:SWO (aag nR) where
 irrefl x:=by rw[Gw];simp
 trans x y z h1 h2:=by rw[Gw] at *;simp only[decide_eq_true_eq] at *;omega
 ntrans x y z h1 h2:=by rw[Gw] at *;simp only[decide_eq_false_iff_not] at *;omega
theorem aeO (x y:Int × Int)(h1:aag nR x y=false)(h2:aag nR y x=false):x=y:=by
 rw[Gw] at *
 simp only[decide_eq_false_iff_not] at *
 exact Prod.ext (by omega) (by omega)
theorem rp {w:World}(b y:Nat)(F:Array Value):aW (cW b y F.size) w (Go.Sort.putRow id w b y F):=by
 refine rn (fun c=>by simp[Go.Sort.putCells]) (fun c o ho=>?_);simp only[Go.Sort.putCells,aa9];cases c[o]? with
 |none=>rfl
 |some x=>simp[ho]
theorem rj (w:World)(os:Array Obj):aW (fun _ _=>False) w (Go.Sort.grow w os):=by
 refine⟨rfl,rfl,rfl,by simp[Go.Sort.grow],aal _,fun k hk _=>?_,fun k c e f hc=>⟨c,?_,rfl,fun _ _=>rfl⟩⟩
 ·simp[Go.Sort.grow,aaR hk]
 ·have hk:k<w.heap.size:=(Array.getElem?_eq_some_iff.1 hc).1
  simp[Go.Sort.grow,aaR hk,hc]
theorem Hv {w:World}(b y m:Nat)(d:Array (Int × Int))(os:Array Obj):aW (cW b y (d.size*2)) w (sortWorldK DD 2 w b y m d os):=by
 have h:=rp (w:=Go.Sort.ahead w m) b y (flatK DD 2 d);rw[aaC] at h;exact(((aW.drewN (w:=w) m).mono fun _ _ _ h=>h.elim).trans h fun _ _ _ h=>h).trans (rj _ os) fun _ _ _ h=>h.elim
theorem HoldsK.loc {b y n:Nat}{d:Array (Int × Int)}(h:d.size*2<=n):bU.Loc (cW b y n) (fun w=>HoldsK DD 2 w b y d):=bU.Loc.cells fun w w' hs _ hA k hk=>by
 have oZ:k<d.size*2:=by rw[aaC] at hk;exact hk
 obtain⟨h1,h2⟩:=hs b (y+k) ⟨rfl,by omega,by omega⟩;rw[h1,h2];exact hA k hk
theorem CW:∀(L:List (Int × Int)) (j:Nat),j<L.length*2->∃c,(ez L)[j]?=some c/\∀N,c.den N=some (flatK DD 2 L.toArray)[j]!
 | [],j,h=>absurd h (by simp)
 |x::L,0,_=>⟨_,rfl,fun N=>by rw[get_flatK _ _ _ _ (by simp)];rfl⟩
 |x::L,1,_=>⟨_,rfl,fun N=>by rw[get_flatK _ _ _ _ (by simp;omega)];rfl⟩
 |x::L,j+2,h=>by
  have h':j<L.length*2:=by simp at h;omega
  obtain⟨c,h1,h2⟩:=CW L j h';refine⟨c,by rw[<-h1];rfl,fun N=>?_⟩;rw[h2 N,get_flatK _ _ L.toArray _ (by simpa using h'),get_flatK _ _ (x::L).toArray _ (by simpa using h)];rw[show(j+2) / 2=j / 2+1 by omega,show(j+2) % 2=j % 2 by omega]
  congr 3
  have:j / 2<L.length:=by omega
  simp[this]
theorem Ht (p0:Option Addr)(n cp:Nat)(d:Array Int)(w:World)(hs:p0≠none)(hle:n<=1000)(hA:nf p0 n d w) :
  Calls aac 89 #[.slice p0 n cp] w (fN (cP d) w):=by
 have hn:=hA.1;refine X.begin (rg:=[]) (N:=[]) (ss:=[.ao p0 n cp]) Tryz.func89 rfl DQ rfl rfl Sat.bp ?_;refine X.go di 400 _ rfl aah ?_
 conv=>arg 2;cbv
 refine X.call rfl rfl rfl rfl Tryz.call21 (fun N w1 args hN hS ha=>?_);have ha:args=[.slice p0 n cp]:=(aaf.inj ha).symm;rw[ha];refine(vE p0 n cp d w1 hs hle (hA.stays hS.aM.none)).mono fun e w2 ⟨b1,y1,c1,he,de,hdc,jF,bV⟩=>⟨_,he,?_⟩
 have Rk:0<n->w.heap.size<=b1:=fun h=>aar hS.aM.size (de (by omega))
 have hDw:∀k o,cW b1 y1 n k o->w.heap.size<=k:=fun k o ⟨e1,e2,e3⟩=>by rw[e1];exact Rk (by omega)
 refine Goes.turn (r:=.ao (some ⟨b1,y1,none⟩) d.size c1) (cW b1 y1 n) (fun w=>fh w b1 y1 d) hN hS bV (fun _ _ h=>h.elim) (fun _ _ h=>h.elim) (by simp) (fun k o hk=>⟨.inr (by obtain⟨e1,e2,e3⟩:=hk;rw[e1];exact de (by omega)),jF.there (by omega) hk⟩) (fh.loc (by omega)) jF rfl rfl ?_;clear jF bV de he ha hS hN hA;obtain⟨p1,fE⟩:∃p,p=some (Addr.mk b1 y1 none):=⟨_,rfl⟩;rw[hn,<-fE];show X (aK aac aai (fN (cP d) w) w (bq [] []) (ab [] [] w) (cW b1 y1 n) (fun w=>fh w b1 y1 d) [] BD) _ _;refine X.go di 400 _ rfl aah ?_
 conv=>arg 2;cbv
 refine X.call rfl rfl rfl rfl Tryz.call90 (fun N w1 args hN hS ha=>?_);have ha:args=[.slice p1 n c1]:=(aaf.inj ha).symm;rw[ha,fE];refine(C7 b1 y1 n c1 d w1 hS.fH hn (by omega)).mono fun e w2 ⟨L,⟨h1,h2⟩,he,jF,bV⟩=>⟨_,he,?_⟩
 have hL:=G0 hn h1 h2;subst hL;have t_:(gY d).size=n:=by rw[hG,hn]
 refine Goes.turn (r:=.tup []) (cW b1 y1 n) (fun w=>fh w b1 y1 (gY d)) hN hS bV (fun k o h=>.inl (hDw k o h)) (fun k o h=>FZ (hDw k o h)) (by simp) (fun k o hk=>⟨.inl hk,jF.there (by omega) hk⟩) (fh.loc (by omega)) jF rfl rfl ?_;clear jF bV he ha hS hN h1 h2;show X (aK aac aai (fN (cP d) w) w (bq [] []) (ab [] [] w) (cW b1 y1 n) (fun w=>fh w b1 y1 (gY d)) [] BD) _ _;refine X.go di 400 _ rfl aah ?_
 conv=>arg 2;cbv
 refine X.call rfl rfl rfl rfl Tryz.call103 (fun N w1 args hN hS ha=>?_);have ha:args=[.slice (some ⟨b1,y1,none⟩) n c1]:=(aaf.inj ha).symm;rw[ha];have hAs:fh w1 b1 y1 (gY d):=hS.fH;refine(BT b1 y1 n c1 (gY d) w1 hAs t_ (by omega) (by omega)).mono fun e w2 ⟨he,jF,bV⟩=>⟨_,he,?_⟩
 obtain⟨a,ha⟩:∃a,a=rc d:=⟨_,rfl⟩;rw[show(Go.Lib.compactUpTo (gY d) n).toArray=a by rw[ha,rc,hn]] at jF;obtain⟨m,hm⟩:∃m,m=a.size:=⟨_,rfl⟩;rw[show(Go.Lib.compactUpTo (gY d) n).length=m by rw[hm,ha,rc,hn];simp];have Gg:m<=n:=by rw[hm,ha,<-hn];exact yA d
 refine Goes.turn (r:=.ao (some ⟨b1,y1,none⟩) m c1) (cW b1 y1 n) (fun w=>fh w b1 y1 a) hN hS bV (fun k o h=>.inl (hDw k o h)) (fun k o h=>FZ (hDw k o h)) (by simp) (fun k o hk=>⟨.inl hk,?_⟩) (fh.loc (by omega)) jF rfl rfl ?_
 ·obtain⟨rfl,h2,h3⟩:=hk
  have:=(hAs (o-y1) (by omega)).1;rw[show y1+(o-y1)=o by omega] at this;exact .inl (C6 bV o (by rw[this];rfl))
 rw[show cP d=(ju a).mergeSort fun x y=>!aag nR y x by rw[ha];rfl];clear jF bV he hS hN t_ hAs;rw[<-fE];show X (aK aac aai (fN _ w) w (bq [] []) (ab [] [] w) (cW b1 y1 n) (fun w=>fh w b1 y1 a) [] BD) _ _;refine X.aeE (by omega) ?_;obtain⟨im,ct⟩:∃im,im=nO (ab [] [] w) b1 y1 a:=⟨_,rfl⟩;rw[<-ct];have hld:∀i,i<m->im b1 (y1+i)=some (.int .u8 a[i]!):=fun i hi=>by rw[ct];exact bK (by omega)
 refine X.go di 400 _ rfl aah ?_
 conv=>arg 2;cbv
 refine X.loop (fun _:{i:Nat // i<=m}=>aK aac aai (fN ((ju a).mergeSort fun x y=>!aag nR y x) w) w (bq [] []) im (cW b1 y1 n) (fun w=>fh w b1 y1 a) [] BD)
  (fun g=>⟨[(4,.val (pY (gX a g.1))),(13,.val (.ao p1 m c1)),(14,.val (.int .i64 (.nat m))),(15,.val (.int .i64 (.nat g.1)))],pX (gX a g.1)⟩) (fun g=>m-g.1) (fun _=>⟨rfl,rfl,rfl,rfl⟩) (fun N ac w' hN hf hS=>⟨⟨0,aaG _⟩,?_⟩) (fun g q hq=>?_)
 ·exact At.eJ hf hS trivial
 obtain⟨i,hi⟩:=g;obtain⟨L0,WL⟩:∃L,L=gX a i:=⟨_,rfl⟩;obtain⟨vs,BB⟩:∃V,V=pY L0:=⟨_,rfl⟩;obtain⟨rs,hrs⟩:∃V,V=pX L0:=⟨_,rfl⟩;show X (aK aac aai (fN ((ju a).mergeSort fun x y=>!aag nR y x) w) w (bq [] []) im (cW b1 y1 n) (fun w=>fh w b1 y1 a) [] BD) _ ⟨[(4,.val (pY (gX a i))),(13,.val (.ao p1 m c1)),(14,.val (.int .i64 (.nat m))),(15,.val (.int .i64 (.nat i)))],pX (gX a i)⟩;rw[<-WL,<-BB,<-hrs];refine X.go di 400 _ rfl aah ?_
 conv=>arg 2;cbv
 refine X.cond rfl (fun aF=>?_) (fun cJ=>?_)
 ·simp only[SB.T,SI.den] at aF
  have aF:i<m:=by omega
  obtain⟨x,hx⟩:∃x,a[i]! = x:=⟨_,rfl⟩;obtain⟨oi,pP⟩:∃o,o=y1+i:=⟨_,rfl⟩;refine X.dk ([(17,.ext b1 oi 0),(18,.int .u8 (.v x))]) di 400 _ rfl aah (fun pr fin aj ai=>?_)
  conv=>cbv
  refine⟨aj _ (au.eC rfl aaH (fun _=>rfl) fun _=>by rw[<-hx,aaF,pP];exact hld i aF),aj _ (au.at (z:=i) rfl rfl (fun _=>rfl) aaL Tryz.sizeOf5 (fun _=>aF) fE (by omega)),ai _ _ ?_⟩;refine X.loop (fun _:{v:Nat // v<=8}=>aK aac aai (fN ((ju a).mergeSort fun x y=>!aag nR y x) w) w (bq [] []) im (cW b1 y1 n) (fun w=>fh w b1 y1 a) [] BD)
   (fun g=>⟨[(4,.val (pY (L0++dL x g.1))),(6,.val (.int .u8 (.v x))),(13,.val (.ao p1 m c1)),(14,.val (.int .i64 (.nat m))),(15,.val (.int .i64 (.nat i))),(19,.val (.int .i64 (.nat g.1)))],pX (L0++dL x g.1)⟩) (fun g=>8-g.1) (fun _=>⟨rfl,rfl,rfl,rfl⟩) (fun N ac w' hN hf hS=>⟨⟨0,aaG _⟩,?_⟩) (fun g q2 jM=>?_)
  ·show At (aK aac aai (fN ((ju a).mergeSort fun x y=>!aag nR y x) w) w (bq [] []) im (cW b1 y1 n) (fun w=>fh w b1 y1 a) [] BD) ⟨[(4,.val (pY (L0++dL x 0))),(6,.val (.int .u8 (.v x))),(13,.val (.ao p1 m c1)),(14,.val (.int .i64 (.nat m))),(15,.val (.int .i64 (.nat i))),(19,.val (.int .i64 (.nat 0)))],pX (L0++dL x 0)⟩ ac w'
   rw[show L0++dL x 0=L0 from List.append_nil _];subst BB hrs;cases L0 with
   |nil=>exact At.eJ hf hS trivial
   |cons z L1=>exact At.eJ hf hS ⟨fun h=>h,aR.refl gP,rfl,trivial⟩
  obtain⟨v,hv⟩:=g;obtain⟨L,hL⟩:∃L,L=L0++dL x v:=⟨_,rfl⟩;have hlen:L.length=i*8+v:=by rw[hL,aaE,WL,mT a i (by omega),mg]
  show X (aK aac aai (fN ((ju a).mergeSort fun x y=>!aag nR y x) w) w (bq [] []) im (cW b1 y1 n) (fun w=>fh w b1 y1 a) [] BD) _ ⟨[(4,.val (pY (L0++dL x v))),(6,.val (.int .u8 (.v x))),(13,.val (.ao p1 m c1)),(14,.val (.int .i64 (.nat m))),(15,.val (.int .i64 (.nat i))),(19,.val (.int .i64 (.nat v)))],pX (L0++dL x v)⟩;rw[<-hL];clear BB hrs;obtain⟨h,hh⟩:∃h,h=lE x v:=⟨_,rfl⟩
  by_cases hz:L=[]
  ·rw[hz]
   rw[hz] at hlen hL;have hlen:0=i*8+v:=hlen;have yN:v=0:=by omega
   show X (aK aac aai (fN ((ju a).mergeSort fun x y=>!aag nR y x) w) w (bq [] []) im (cW b1 y1 n) (fun w=>fh w b1 y1 a) [] BD) _ ⟨[(4,.val (.raw (.slice none 0 0))),(6,.val (.int .u8 (.v x))),(13,.val (.ao p1 m c1)),(14,.val (.int .i64 (.nat m))),(15,.val (.int .i64 (.nat i))),(19,.val (.int .i64 (.nat v)))],[]⟩;refine X.go di 400 _ rfl aah ?_
   conv=>arg 2;cbv
   refine X.cond rfl (fun nr=>?_) (fun rL=>?_)
   ·have adu:v<8:=by simp only[SB.T,SI.den] at nr;omega
    refine X.dk ([(26,.int .u64 (.v h))]) di 17 _ rfl aah (fun pr fin aj ai=>?_)
    conv=>cbv
    refine⟨aj _ (.of aaW [.int .u8 x,.int .u8 v] (.int .u64 h) (fun N=>by simp (disch:=omega) [SV.ap,SV.den,SI.den,xB]) (fun _=>rfl) fun _ w1 _=>by rw[hh];exact CT x v w1),ai _ _ ?_⟩;refine X.oD (T:=Xy) di (du (te:=dB) (new:=EZ (h,x)) (m:=1) rfl rfl rfl rfl rfl rfl rfl rfl (aY (g:=⟨true,EZ (h,x),none⟩) rfl rfl rfl rfl) (q9 (by decide) (bL (by decide) rfl rfl rfl (by decide) (by decide))) rfl) ?_;refine X.go di 400 _ rfl aah ?_
    conv=>arg 2;cbv
    refine X.less [4,6,13,14,15,19] ?_;refine X.shift (rg:=[⟨true,EZ (h,x),none⟩]) rfl [(19,.val (.int .i64 (.wrap .i64 (.add (.nat v) (.lit 1))))),(4,.val (.osl 0 0 1 2 none)),(6,.val (.int .u8 (.v x))),(13,.val (.ao p1 m c1)),(14,.val (.int .i64 (.nat m))),(15,.val (.int .i64 (.nat i)))] (fun p0 N=>⟨rfl,fun _ h=>h,rfl,fun _ h=>h,rfl,fun _ h=>h,rfl,fun _ h=>h,rfl,fun _ h=>h,rfl,fun _ h=>h,trivial⟩) (fun g hg c hc p0 N v hv=>?_) (fun g hg=>?_) ?_
    ·simp only[aav,aaw,or_false] at hg
     subst hg;exact kH (L:=[(h,x)]) hc hv
    ·simp only[aav,aaw,or_false] at hg
     subst hg;rfl
    simp only[SB.T,SI.den] at nr;refine X.back (fun N ac w' hN hf hS=>jM ⟨v+1,by omega⟩ ac w' (by simp only;omega) ?_);show At (aK aac aai (fN ((ju a).mergeSort fun x y=>!aag nR y x) w) w (bq [] []) im (cW b1 y1 n) (fun w=>fh w b1 y1 a) [] BD) ⟨[(4,.val (pY (L0++dL x (v+1)))),(6,.val (.int .u8 (.v x))),(13,.val (.ao p1 m c1)),(14,.val (.int .i64 (.nat m))),(15,.val (.int .i64 (.nat i))),(19,.val (.int .i64 (.nat (v+1))))],pX (L0++dL x (v+1))⟩ ac w';rw[show L0++dL x (v+1)=[(h,x)] by rw[qE,<-aa7,<-hL,hh];rfl];exact At.eJ hf hS ⟨fun h=>h,aR.refl rfl,rfl,trivial⟩
   ·simp only[SB.F,SI.den] at rL
    omega
  ·rw[pf hz,pd hz]
   obtain⟨cs,dS⟩:∃c,c=ez L:=⟨_,rfl⟩;rw[<-dS];obtain⟨ll,qS⟩:∃q,q=L.length:=⟨_,rfl⟩;rw[<-qS] at hlen ⊢;have jZ:cs.length=ll*2:=by rw[dS,kI,qS]
   refine X.go di 400 _ rfl aah ?_
   conv=>arg 2;cbv
   refine X.cond rfl (fun nr=>?_) (fun rL=>?_)
   ·have adu:v<8:=by simp only[SB.T,SI.den] at nr;omega
    refine X.dk ([(26,.int .u64 (.v h))]) di 17 _ rfl aah (fun pr fin aj ai=>?_)
    conv=>cbv
    refine⟨aj _ (.of aaW [.int .u8 x,.int .u8 v] (.int .u64 h) (fun N=>by simp (disch:=omega) [SV.ap,SV.den,SI.den,xB]) (fun _=>rfl) fun _ w1 _=>by rw[hh];exact CT x v w1),ai _ _ ?_⟩;refine X.oD (T:=Xy) di (du (te:=dB) (new:=EZ (h,x)) (m:=1) rfl rfl rfl rfl rfl rfl rfl rfl (aY (g:=⟨true,EZ (h,x),none⟩) rfl rfl rfl rfl) (jk (te:=dB) (cs:=cs) rfl jZ (by decide) (bL (by decide) rfl rfl rfl (by show(2*(ll+1)+256)*16<=_;omega) (by omega))) rfl) ?_;obtain⟨Q8,KH⟩:∃c,c=cs++EZ (h,x):=⟨_,rfl⟩;rw[<-KH];refine X.go di 400 _ rfl aah ?_
    conv=>arg 2;cbv
    refine X.less [4,6,13,14,15,19] ?_;have gn:Q8=ez (L++[(h,x)]):=by rw[KH,dS,ir]
    refine X.shift (rg:=[⟨true,EZ (h,x),none⟩,⟨true,Q8,none⟩]) rfl [(19,.val (.int .i64 (.wrap .i64 (.add (.nat v) (.lit 1))))),(4,.val (.osl 1 0 (ll+1) 2 none)),(6,.val (.int .u8 (.v x))),(13,.val (.ao p1 m c1)),(14,.val (.int .i64 (.nat m))),(15,.val (.int .i64 (.nat i)))] (fun p0 N=>⟨rfl,fun _ h=>h,rfl,fun _ h=>h,rfl,fun _ h=>h,rfl,fun _ h=>h,rfl,fun _ h=>h,rfl,fun _ h=>h,trivial⟩) (fun g hg c hc p0 N v hv=>?_) (fun g hg=>?_) ?_
    ·simp only[aav,aaw,or_false] at hg
     rcases hg with rfl|rfl
     ·exact kH (L:=[(h,x)]) hc hv
     ·exact kH (L:=L++[(h,x)]) (by rw[<-gn];exact hc) hv
    ·simp only[aav,aaw,or_false] at hg
     rcases hg with rfl|rfl<;>rfl
    refine X.shift (rg:=[⟨true,Q8,none⟩]) rfl [(19,.val (.int .i64 (.wrap .i64 (.add (.nat v) (.lit 1))))),(4,.val (.osl 0 0 (ll+1) 2 none)),(6,.val (.int .u8 (.v x))),(13,.val (.ao p1 m c1)),(14,.val (.int .i64 (.nat m))),(15,.val (.int .i64 (.nat i)))] (fun p0 N=>⟨rfl,fun _ h=>h,rfl,fun _ h=>h,rfl,fun _ h=>h,rfl,fun _ h=>h,rfl,fun _ h=>h,rfl,fun _ h=>h,trivial⟩) (fun g hg c hc p0 N v hv=>?_) (fun g hg=>?_) ?_
    ·simp only[aav,aaw,or_false] at hg
     subst hg;exact kH (L:=L++[(h,x)]) (by rw[<-gn];exact hc) hv
    ·simp only[aav,aaw,or_false] at hg
     subst hg;rfl
    simp only[SB.T,SI.den] at nr;refine X.back (fun N ac w' hN hf hS=>jM ⟨v+1,by omega⟩ ac w' (by simp only;omega) ?_);show At (aK aac aai (fN ((ju a).mergeSort fun x y=>!aag nR y x) w) w (bq [] []) im (cW b1 y1 n) (fun w=>fh w b1 y1 a) [] BD) ⟨[(4,.val (pY (L0++dL x (v+1)))),(6,.val (.int .u8 (.v x))),(13,.val (.ao p1 m c1)),(14,.val (.int .i64 (.nat m))),(15,.val (.int .i64 (.nat i))),(19,.val (.int .i64 (.nat (v+1))))],pX (L0++dL x (v+1))⟩ ac w';rw[show L0++dL x (v+1)=L++[(h,x)] by rw[qE,<-aa7,<-hL,hh],pf (by simp),pd (by simp),<-gn,aaE,<-qS];exact At.eJ hf hS ⟨fun h=>h,aR.refl (by rw[gn];exact gP),rfl,trivial⟩
   ·simp only[SB.F,SI.den] at rL
    have hv8:v=8:=by omega
    refine X.go di 400 _ rfl aah ?_
    conv=>arg 2;cbv
    refine X.back (fun N ac w' hN hf hS=>hq ⟨i+1,by omega⟩ ac w' (by simp only;omega) ?_);show At (aK aac aai (fN ((ju a).mergeSort fun x y=>!aag nR y x) w) w (bq [] []) im (cW b1 y1 n) (fun w=>fh w b1 y1 a) [] BD) ⟨[(4,.val (pY (gX a (i+1)))),(13,.val (.ao p1 m c1)),(14,.val (.int .i64 (.nat m))),(15,.val (.int .i64 (.nat (i+1))))],pX (gX a (i+1))⟩ ac w';rw[show gX a (i+1)=L by rw[C3 a i (by omega),hx,<-WL,hL,hv8],pf hz,pd hz,<-dS,<-qS];exact At.eJ hf hS ⟨fun h=>h,aR.refl (by rw[dS];exact gP),rfl,trivial⟩
 ·simp only[SB.F,SI.den] at cJ
  have PO:i=m:=by omega
  have hLU:L0=ju a:=by rw[WL,PO,hm,qF]
  rw[<-hLU];subst BB hrs;have adt:L0.length<=8000:=by rw[WL,mT a i (by omega)];omega
  clear WL hLU;obtain⟨S,hSo⟩:∃S,S=L0.mergeSort fun x y=>!aag nR y x:=⟨_,rfl⟩
  rw[<-hSo];have X6:S.length=L0.length:=by rw[hSo,List.length_mergeSort]
  by_cases hz:L0=[]
  ·rw[hz] at X6 ⊢
   have hSn:S=[]:=List.eq_nil_of_length_eq_zero X6;show X (aK aac aai (fN S w) w (bq [] []) im (cW b1 y1 n) (fun w=>fh w b1 y1 a) [] BD) _ ⟨[(16,.val (.bool (.lt (.nat i) (.nat m)))),(4,.val (.raw (.slice none 0 0))),(13,.val (.ao p1 m c1)),(14,.val (.int .i64 (.nat m))),(15,.val (.int .i64 (.nat i)))],[]⟩;refine X.go di 400 _ rfl aah ?_
   conv=>arg 2;cbv
   refine X.call rfl rfl rfl rfl aaX (fun N w1 args hN hS ha=>?_);have ha:args=[.slice none 0 0,.func (.func 106) #[] #[]]:=(aaf.inj ha).symm;rw[ha];have key:=AnyF.slices_SortFunc_none (P:=aac) { Tryz.Mk with } none 0 (.func (.func 106) #[] #[]) w1;refine aae key fun e w2 ⟨he,hw⟩=>⟨_,he,?_⟩
   subst hw;refine Goes.same hN hS (aW.refl _ _) (r:=.tup []) rfl rfl ?_;refine X.go di 400 _ rfl aah ?_
   conv=>arg 2;cbv
   refine X.done di rfl (fun N w' v hN hS hv=>?_);simp[bz,SV.den,bc] at hv;exact⟨none,0,by rw[<-hv,hSn];rfl,.inl hSn,hS.aM.none⟩
  ·rw[pf hz,pd hz]
   obtain⟨cs,dS⟩:∃c,c=ez L0:=⟨_,rfl⟩;obtain⟨ll,qS⟩:∃q,q=L0.length:=⟨_,rfl⟩;rw[<-dS,<-qS];have jZ:cs.length=ll*2:=by rw[dS,kI,qS]
   have Vv:0<ll:=by rw[qS];exact List.length_pos_iff.2 hz
   have hlen:ll<=8000:=by rw[qS];exact adt
   refine X.go di 400 _ rfl aah ?_
   conv=>arg 2;cbv
   refine X.call rfl rfl rfl rfl aaX (fun N w1 args hN hS ha=>?_);obtain⟨p,hp⟩:∃p,N[0]?=some p:=⟨_,aau (by rw[hS.len];simp)⟩;obtain⟨c,ha⟩:∃c,args=[.slice (some ⟨p.b,p.o,none⟩) L0.toArray.size c,.func (.func 106) #[] #[]]:=by
    simp only[SV.ap,SV.den,hp] at ha;exact⟨p.cap 0 2 none,by rw[<-aaf.inj ha,qS,aaF,aaP]⟩
   rw[ha];have gI:=hS.ext 0 _ p rfl hp rfl;have hH:HoldsK DD 2 w1 p.b p.o L0.toArray:=fun j hj=>by
    have hj:j<L0.length*2:=by rw[aaC] at hj;exact hj
    obtain⟨c,h1,h2⟩:=CW L0 j hj;obtain⟨v,h3,h4⟩:=hS.cell 0 _ p rfl hp j c (by rw[<-h1,dS]);rw[h2] at h3;cases h3;exact⟨h4,(hS.room 0 _ p rfl hp rfl j (by simp only at gI;omega)).2⟩
   have key:=AnyQ.slices_SortFunc_total Tryz.Mk 2 Tryz.isAgg148 Tryz.sizeOf148 DD (fun _=>rfl) (fun x v hv=>by simp[DD] at hv;rcases hv with rfl|rfl<;>rfl) nR aeI 106 #[] p.b p.o c L0.toArray w1 Tryz.call106 (J8 p.b p.o L0.toArray.size w1) hH (hS.lt 0 p hp) (by simp;omega) aeO;refine aae key fun e w2 ⟨he,q,os,hw⟩=>⟨_,he,?_⟩
   rw[show(L0.toArray.toList.mergeSort fun x y=>!aag nR y x)=S by rw[hSo]] at hw;have bV:aW (cW p.b p.o (ll*2)) w1 w2:=by
    have:=Hv (w:=w1) p.b p.o q S.toArray os;rw[<-hw,aaP,X6,<-qS] at this;exact this
   have Av:HoldsK DD 2 w2 p.b p.o S.toArray:=by
    rw[hw];exact holdsK_sortWorldK_c DD 2 w1 p.b p.o L0.toArray S.toArray q os hH (hS.lt 0 p hp) (by simp[X6])
   have Rk:w.heap.size<=p.b:=by
    rcases hS.dG 0 _ p rfl hp rfl with h|h
    ·exact h
    ·exact absurd (h 0 (by simp only at gI;omega)) (fun h=>aB h)
   have s1:=Sat.Pr hS (r:=0) rfl hp rfl (cW p.b p.o (ll*2)) (fun _=>True) (fun k o ⟨e1,e2,e3⟩=>.inr ⟨e1,e2,by simp only at gI;omega⟩) (fun _ _ _ _ _=>trivial) trivial;have s2:=Sat.turn s1 (D':=cW p.b p.o (ll*2)) (R':=fun w=>HoldsK DD 2 w p.b p.o S.toArray) bV (fun k o ⟨e1,_,_⟩=>.inl (by rw[e1];exact Rk)) (fun k o ⟨e1,e2,e3⟩=>by
    have:=hS.lR 0 _ p rfl hp rfl (o-p.o) (by simp only at gI;omega);rw[show p.o+(o-p.o)=o by omega] at this;rw[e1];exact this) (by simp) (fun k o hk=>⟨.inl hk,by
    obtain⟨rfl,e2,e3⟩:=hk;have:=(Av (o-p.o) (by rw[aaC];simp;omega)).1;rw[show p.o+(o-p.o)=o by omega] at this;exact .inl (by rw[this];rfl)⟩) (HoldsK.loc (by simp;omega)) Av
   refine⟨aK aac aai (fN S w) w (bq [] []) im (cW p.b p.o (ll*2)) (fun w=>HoldsK DD 2 w p.b p.o S.toArray) N BD,N,.tup [],_,_,rfl,rfl,rfl,rfl,af.le.refl N,af.le.refl N,s2.env rfl rfl rfl rfl rfl,rfl,rfl,?_⟩;refine X.go di 400 _ rfl aah ?_
   conv=>arg 2;cbv
   refine X.done di rfl (fun N' w' v hN hS hv=>?_);have lC:=hN 0 p hp;simp only[bz,SV.den,lC,aA] at hv;exact⟨some ⟨p.b,p.o,none⟩,_,by rw[<-hv,X6,<-qS];rfl,.inr ⟨p.b,p.o,rfl,Rk,hS.fH⟩,hS.aM.none⟩
end Go.Proofs.YthpbefahaghbjaaGreat
