import Derived.Test.YthpbefahaghbjaaGreatWbL
import Derived.Test.YthpbefahaghbjaaGreatWbE
import Derived.Test.YthpbefahaghbjaaGreatWa2
open Go.Calls renaming mono→aaj
open Go.IntKind renaming bits→aal,signed→aam,wrap→aan
open Go.Proofs.Tryz renaming prog→aac,f5→aad,results17→aae,results5→aaf,f17→aag,sizeOf49→aah,underlying27→aai,underlying22→aav,sizeOf45→aaz,call11→aaA,isAgg49→aaI,func5→aaJ,call6→aaK,call7→aaL
open List renaming mem_cons→aak,foldl_cons→aao,Perm→aap,getElem?_eq_getElem→aaq,cons_append→aar,nil_append→aas,not_mem_nil→aau,pairwise_cons→aax,length_take→aay,append_nil→aaC,filter_append→aaD,getElem?_eq_some_iff→aaE,take_add_one→aaF,foldl_append→aaG,take_of_length_le→aaH
open Nat renaming zero_le→aaw,zero_lt_succ→aaB,le_trans→aaM
set_option maxHeartbeats 16000000
set_option maxRecDepth 100000
set_option cbv.maxSteps 100000000
namespace Go.Proofs.YthpbefahaghbjaaGreat
open Go Go.bU Go.Sort
def p9 (x:aI)(s:Bool × List aI)(y:aI):Bool × List aI:=if (!s.1&&x.b.less y.b)=true then (true,s.2++[x]++[y]) else (s.1,s.2++[y])
def EN (x:aI)(out:List aI):List aI:=if (out.foldl (p9 x) (false,[])).1=true then (out.foldl (p9 x) (false,[])).2 else (out.foldl (p9 x) (false,[])).2++[x]
def xb (key:Int)(out:List aI)(x:aI):List aI:=if x.key=key then EN x out else out
def nT (l:List aI)(key:Int):List aI:=l.foldl (xb key) []
def ym (x:aI):List aI->List aI
 | []=>[x]
 |y::t=>if x.b.less y.b=true then x::y::t else y::ym x t
theorem C_ (x:aI):∀(l acc:List aI),l.foldl (p9 x) (true,acc)=(true,acc++l)
 | [],acc=>by simp
 |y::l,acc=>by
  rw[aao,show p9 x (true,acc) y=(true,acc++[y]) from rfl,C_ x l];simp
theorem G1 (x:aI):∀(l acc:List aI),(l.foldl (p9 x) (false,acc)=(true,acc++ym x l))\/(l.foldl (p9 x) (false,acc)=(false,acc++l)/\ym x l=l++[x])
 | [],acc=>.inr ⟨by simp,rfl⟩
 |y::l,acc=>by
  by_cases h:x.b.less y.b=true
  ·left
   have e1:p9 x (false,acc) y=(true,acc++[x]++[y]):=by unfold p9;rw[if_pos (by simp[h])]
   rw[aao,e1,C_,ym,if_pos h];simp
  ·have e1:p9 x (false,acc) y=(false,acc++[y]):=by unfold p9;rw[if_neg (by simp[h])]
   rw[aao,e1,ym,if_neg h];rcases G1 x l (acc++[y]) with h1|⟨h1,h2⟩
   ·left;rw[h1];simp
   ·right;rw[h1,h2];simp
theorem Gs (x:aI)(out:List aI):EN x out=ym x out:=by
 unfold EN;rcases G1 x out [] with h|⟨h1,h2⟩
 ·rw[h,if_pos rfl];rfl
 ·rw[h1,if_neg (by simp),h2];rfl
theorem CA (a b:bW):a.less b=true↔BN a.count a.node a.cR b.count b.node b.cR:=by
 unfold bW.less BN
 by_cases h1:a.count=b.count
 ·by_cases h2:a.node=b.node
  ·simp[h1,h2]
  ·simp[h1,h2]
 ·simp[h1]
theorem o9 (x:aI):∀l,(ym x l).Perm (x::l)
 | []=>aap.refl _
 |y::l=>by
  rw[ym]
  split
  ·exact aap.refl _
  ·exact((o9 x l).cons y).trans (List.Perm.swap x y l)
theorem Cu (x:aI):∀{l:List aI},l.Pairwise (fun x y=>¬BN y.b.count y.b.node y.b.cR x.b.count x.b.node x.b.cR)->(ym x l).Pairwise (fun x y=>¬BN y.b.count y.b.node y.b.cR x.b.count x.b.node x.b.cR)
 | [],_=>List.pairwise_singleton _ _
 |y::l,h=>by
  obtain⟨h1,h2⟩:=aax.1 h;rw[ym]
  split
  ·rename_i hl
   rw[CA] at hl;refine aax.2 ⟨fun z hz=>?_,h⟩;rcases aak.1 hz with rfl|hz
   ·unfold BN at hl ⊢;omega
   ·have:=h1 z hz
    unfold BN at hl this ⊢;omega
  ·rename_i hl
   refine aax.2 ⟨fun z hz=>?_,Cu x h2⟩;rcases aak.1 ((o9 x l).mem_iff.1 hz) with rfl|hz
   ·exact fun hb=>hl ((CA _ _).2 hb)
   ·exact h1 z hz
theorem vN (l:List aI)(key:Int):mu l key (nT l key):=by
 have h:∀(l pre out:List aI),mu pre key out->mu (pre++l) key (l.foldl (xb key) out):=fun l=>by
  induction l with
  |nil=>intro pre out h;rw[aaC];exact h
  |cons x l ih =>
   intro pre out h;have:=ih (pre++[x]) (xb key out x) (by
    unfold xb
    by_cases hk:x.key=key
    ·rw[if_pos hk,Gs]
     refine⟨(o9 x out).trans ?_,Cu x h.srt⟩;rw[aaD,show [x].filter (rR key)=[x] by simp[rR,hk]];exact(h.perm.cons x).trans (List.perm_append_comm (l₁:=[x]))
    ·rw[if_neg hk]
     refine⟨?_,h.srt⟩;rw[aaD,show [x].filter (rR key)=[] by simp[rR,hk],aaC];exact h.perm)
   rw[List.append_assoc] at this;exact this
 exact h l [] [] ⟨aap.refl _,List.Pairwise.nil⟩
theorem G2 (x:aI):∀(l acc:List aI) (b:Bool),(l.foldl (p9 x) (b,acc)).2.length<=acc.length+2*l.length
 | [],acc,b=>by simp
 |y::l,acc,b=>by
  rw[aao];have h:∃b' OV,p9 x (b,acc) y=(b',OV)/\OV.length<=acc.length+2:=by
   unfold p9
   split
   ·exact⟨_,_,rfl,by simp⟩
   ·exact⟨_,_,rfl,by simp⟩
  obtain⟨b',OV,h1,h2⟩:=h;rw[h1];have:=G2 x l OV b';simp only[List.length_cons];omega
theorem Ll (x:aI)(out:List aI):(EN x out).length=out.length+1:=by rw[Gs,(o9 x out).length_eq];rfl
theorem Ke (l:List aI)(key:Int):(nT l key).length<=l.length:=by
 rw[(vN l key).perm.length_eq];exact List.length_filter_le _ _
theorem vy {E:Env}{N0:af}{T:aQ}(hT:aq E.P T){rg:List Rg}{f:Fr}{x y:Operand}{ts tx e m q r:Nat}{ti te:TI}{sx sy:SV}{c0 new:List SV}{r0:Rg}(hx:ev f x=some sx)(hy:ev f y=some sy)(BA:bo T ts=some ti)(hk:ti.kind=.slice e)(kN:bo T e=some te)
  (pQ:sx=eV r m te.size) (hr:nth rg r=some ⟨true,c0,none⟩) (kX:c0.length=m*te.size) (pG:r0=if m=0 then ⟨true,[],none⟩ else ⟨false,[],none⟩) (lD:jD T rg te sy tx=some (new,1)) (dm:iZ.kz te new m 1=true) (hq:q=rg.length) :
  be E N0 rg f (.call { callee:=.builtin .append,args:=#[x,y],argTypes:=#[ts,tx] }) (.osl q 0 (m+1) te.size none) (rg.set r r0++[⟨true,c0++new,none⟩]):=by
 subst hq;refine be.step hT (iw hx hy BA hk kN lD ?_)
 by_cases hm:m=0
 ·subst hm
  rw[if_pos rfl] at pG;have hc:c0=[]:=List.eq_nil_of_length_eq_zero (by omega);subst hc;have ey:rg.set r r0=rg:=by
   rw[bT] at hr;obtain⟨h1,h2⟩:=aaE.1 hr;rw[pG,<-h2];exact List.set_getElem_self h1
  rw[pQ,ey];exact ie hr (by decide) dm
 ·rw[if_neg hm] at pG
  have he:eV r m te.size=.osl r 0 m te.size none:=by
   unfold eV;cases h:Nat.beq m 0 with
   |true=>exact absurd (Nat.eq_of_beq_eq_true h) hm
   |false=>rfl
  rw[pQ,he,pG];exact jk hr kX (by decide) dm
theorem Mn:∀{L:List aL} {i:Nat} {t:aL},L[i]?=some t->∀(j:Nat) (c:SV),t.cH[j]?=some c->(jO L)[i*13+j]?=some c
 | [],i,t,h,j,c,hj=>by simp at h
 |x::L,0,t,h,j,c,hj=>by
  simp only[List.getElem?_cons_zero,aA] at h;subst h;have hl:=(aaE.1 hj).1;show(x.cH++jO L)[0*13+j]?=_;rw[Nat.zero_mul,Nat.zero_add,List.getElem?_append_left hl];exact hj
 |x::L,i+1,t,h,j,c,hj=>by
  rw[List.getElem?_cons_succ] at h;have hl:x.cH.length=13:=rfl;show(x.cH++jO L)[(i+1)*13+j]?=_;rw[List.getElem?_append_right (by omega),hl,show(i+1)*13+j-13=i*13+j by omega];exact Mn h j c hj
theorem aI.bal {M:Mem}{x:aI}{t:aL}(h:az M x.toD t.aN):x.b=⟨t.b1,t.b2,t.b3⟩:=by
 obtain⟨t',h1,h2,_⟩:=aI.cells h;have e1:=congrArg (fun l:List Value=>l[1]?) h1;have e2:=congrArg (fun l:List Value=>l[2]?) h1;have e3:=congrArg (fun l:List Value=>l[3]?) h1;simp[aL.aN] at e1 e2 e3;rw[h2,e1,e2,e3]
theorem Qr (l:List aI)(po:Option Addr)(cp:Nat)(key:Int)(Mo:Mem)(w:World)(qo:∀k o v,Mo k o=some v->w.cell? ⟨k,o,none⟩=some v)(hs:dC Mo po cp 13 (l.map aI.toD))(HN:l.length<=100) :
  Calls aac 17 #[.slice po l.length cp,.int .u8 key] w (kr Mo (nT l key) w):=by
 obtain⟨Q,hQ⟩:∃Q:Ending->World->Prop,Q=kr Mo (nT l key) w:=⟨_,rfl⟩;rw[<-hQ];obtain⟨n,hn⟩:∃n,n=l.length:=⟨_,rfl⟩;rw[<-hn];refine X.begin (rg:=[]) (N:=[]) (ss:=[.ao po n cp,.int .u8 (.v key)]) Tryz.func17 rfl SC rfl rfl Sat.bp ?_;obtain⟨im,aV⟩:∃im,im=ab [] [] w:=⟨_,rfl⟩;have ct:∀k o v,Mo k o=some v->im k o=some v:=fun k o v h=>by rw[aV];exact kM (qo k o v h)
 show X (aK aac aag Q w (bq [] []) (ab [] [] w) (fun _ _=>False) (fun _=>True) [] NN) _ _;rw[<-aV];refine X.go fy 400 _ rfl aae ?_
 conv=>arg 2;cbv
 refine X.gB (fun g:{g:Nat × List aL // g.1<=n/\eI Mo g.2 (nT (l.take g.1) key)}=>⟨[(0,.val (.ao po n cp)),(1,.val (.int .u8 (.v key))),(5,.val (eV 0 (nT (l.take g.1.1) key).length 13)),(12,.val (.int .i64 (.nat n))),(13,.val (.int .i64 (.nat g.1.1)))],[⟨true,jO g.1.2,none⟩]⟩) (fun g=>n-g.1.1) (fun N a w' hN hf hS=>⟨⟨(0,[]),aaw _,eI.nil⟩,?_⟩) (fun g q' cF=>?_)
 ·show At _ ⟨[(0,.val (.ao po n cp)),(1,.val (.int .u8 (.v key))),(5,.val (.osl 0 0 0 13 (some 0))),(12,.val (.int .i64 (.nat n))),(13,.val (.int .i64 (.nat 0)))],[⟨true,[],none⟩]⟩ a w'
  exact At.eJ hf hS
 obtain⟨⟨i,L⟩,hi,hR⟩:=g;simp only at hi hR;show X (aK aac aag Q w (bq [] []) im (fun _ _=>False) (fun _=>True) [] NN) _ ⟨[(0,.val (.ao po n cp)),(1,.val (.int .u8 (.v key))),(5,.val (eV 0 (nT (l.take i) key).length 13)),(12,.val (.int .i64 (.nat n))),(13,.val (.int .i64 (.nat i)))],[⟨true,jO L,none⟩]⟩;obtain⟨A,hA⟩:∃A,A=nT (l.take i) key:=⟨_,rfl⟩;obtain⟨m,hm⟩:∃m,m=(nT (l.take i) key).length:=⟨_,rfl⟩;have EA:m<=i:=by
  have:=Ke (l.take i) key;rw[aay] at this;omega
 obtain⟨v1,j5⟩:∃v,v=eV 0 m 13:=⟨_,rfl⟩;obtain⟨c0,kX⟩:∃c,c=jO L:=⟨_,rfl⟩;have KF:c0.length=m*13:=by rw[kX,mY,hR.len,hm]
 have rF:∀m,c0.all (bd m)=true:=fun m=>by rw[kX];exact jf
 have Cn:∀q,0<q->bd q v1=true:=fun q hq=>by rw[j5];exact kV hq
 have VW:∀q r,0<q->0≠r->v1.uM q r=true:=fun q r h1 h2=>by rw[j5];exact An h1 h2
 have agz:=Cn 1 (by decide);have agE:=Cn 6 (by decide);have agF:=Cn 8 (by decide);have agI:=VW 7 2 (by decide) (by decide);have agG:=VW 5 2 (by decide) (by decide);have agD:=Cn 3 (by decide);rw[<-hm,<-j5,<-kX];rw[<-hA] at hR hm;have agd:n<=100:=by omega
 refine X.go fy 400 _ rfl aae ?_
 conv=>arg 2;cbv
 refine X.cond rfl (fun aF=>?_) (fun cJ=>?_)
 ·simp only[SB.T,SI.den] at aF
  have aF:(i:Int)<(n:Int):=aF;have aF:i<n:=by omega
  obtain⟨x,hx⟩:∃x,l[i]?=some x:=⟨_,aaq (by omega)⟩;obtain⟨b,y,vs,fE,jG,dM⟩:=hs.row (i:=i) (d:=x.toD) (by simp[hx]);obtain⟨t,rfl,e1,hgx⟩:=aI.cells jG;have gU:nT (l.take (i+1)) key=xb key A x:=by
   rw[aaF,hx,hA];unfold nT;rw[aaG];rfl
  have hmx:az Mo x.toD t.aN:=jG;have yO:x.key=t.key:=by rw[e1]
  have hxb:x.b=⟨t.b1,t.b2,t.b3⟩:=by rw[e1]
  obtain⟨z1,jq⟩:∃z,z=y+i*13:=⟨_,rfl⟩;rw[<-jq] at dM;have VR:∀(j:Nat) (c:SV),t.cH[j]?=some c->∃v,c.den []=some v/\im b (z1+j)=some v:=fun j c hj=>by
   obtain⟨v,k1,k2⟩:=(SV.aP _ (aL.uX t [])).2 j c hj;exact⟨v,k1,ct _ _ _ (dM j v k2)⟩
  obtain⟨ky,a1,a2,a3,⟨gk,gi,gs,gl,q1,q2,q3,q4,m1,m2,m3,m4,f1,f2,f3,f4⟩,ta⟩:=t;simp only at yO hxb;refine X.eL b z1 (aL.cH ⟨ky,a1,a2,a3,⟨gk,gi,gs,gl,q1,q2,q3,q4,m1,m2,m3,m4,f1,f2,f3,f4⟩,ta⟩) VR (aaB _) (fun N1 dQ dX=>?_);have tc:(N1++[(⟨b,z1,0⟩:aS)])[1]?=some ⟨b,z1,0⟩:=ax dX;refine X.iA ([(18,.own 1 0)]) ([]) fy 400 _ rfl aae (fun pr pe fin aj bm ai=>?_)
  conv=>cbv
  refine⟨aj _ (au.row rfl rfl (fun _=>rfl) aai aah aF fE tc rfl jq),ai _ _ ?_⟩;clear aj bm ai;refine X.cond rfl (fun hT=>?_) (fun hF=>?_)
  ·simp only[SB.T,SB.F,SI.den] at hT
   have wi:nT (l.take (i+1)) key=A:=by
    rw[gU];unfold xb;rw[if_neg (by rw[yO];simpa using hT)]
   refine X.go fy 400 _ rfl aae ?_
   conv=>arg 2;cbv
   refine X.back (fun N a w' hN hf hS=>cF ⟨(i+1,L),by show i+1<=n;omega,by rw[wi];exact hR⟩ a w' (by simp only;omega) ?_);show At _ ⟨[(0,.val (.ao po n cp)),(1,.val (.int .u8 (.v key))),(5,.val (eV 0 (nT (l.take (i+1)) key).length 13)),(12,.val (.int .i64 (.nat n))),(13,.val (.int .i64 (.nat (i+1))))],[⟨true,jO L,none⟩]⟩ a w';rw[wi,<-hm,<-j5,<-kX];exact At.qX hf hS ⟨fun h=>h,aR.refl (rF _),rfl,trivial⟩
  simp only[SB.T,SB.F,SI.den] at hF;have wi:nT (l.take (i+1)) key=EN x A:=by
   rw[gU];unfold xb;rw[if_pos (by rw[yO];simpa using hF)]
  refine X.lb ?_;refine X.drop 1 (by show 1<2;omega) ?_;show X (aK aac aag Q w (bq [] []) im (fun _ _=>False) (fun _=>True) [] NN) _ _;refine X.iA ([(25,.int .i64 (.nat m))]) ([]) fy 400 _ rfl aae (fun pr pe fin aj bm ai=>?_)
  conv=>cbv
  refine⟨aj _ (Fo rfl (.inr j5) aai (Nat.lt_of_sub_eq_succ rfl)),ai _ _ ?_⟩;clear aj bm ai;refine X.gB (fun g:{g:Nat × List aL // g.1<=m/\eI Mo g.2 ((A.take g.1).foldl (p9 x) (false,[])).2}=>⟨[(0,.val (.ao po n cp)),(1,.val (.int .u8 (.v key))),(5,.val v1),(6,.val (.int .i64 (.nat i))),(7,.val (eV 2 ((A.take g.1.1).foldl (p9 x) (false,[])).2.length 13)),(8,.val (.bool (.v ((A.take g.1.1).foldl (p9 x) (false,[])).1))),(12,.val (.int .i64 (.nat n))),(13,.val (.int .i64 (.nat i))),(25,.val (.int .i64 (.nat m))),(26,.val (.int .i64 (.nat g.1.1)))],[⟨true,c0,none⟩,⟨false,[],none⟩,⟨true,jO g.1.2,none⟩]⟩) (fun g=>m-g.1.1) (fun N a w' hN hf hS=>⟨⟨(0,[]),aaw _,eI.nil⟩,?_⟩) (fun g q'' Y5=>?_)
  ·show At _ ⟨[(0,.val (.ao po n cp)),(1,.val (.int .u8 (.v key))),(5,.val v1),(6,.val (.int .i64 (.nat i))),(7,.val (.osl 2 0 0 13 (some 0))),(8,.val (.bool (.v false))),(12,.val (.int .i64 (.nat n))),(13,.val (.int .i64 (.nat i))),(25,.val (.int .i64 (.nat m))),(26,.val (.int .i64 (.nat 0)))],[⟨true,c0,none⟩,⟨false,[],none⟩,⟨true,[],none⟩]⟩ a w'
   exact At.qX hf hS ⟨fun h=>h,aR.refl (rF _),rfl,fun h=>h,aR.refl rfl,rfl,fun h=>h,aR.refl rfl,rfl,trivial⟩
  obtain⟨⟨k,L2⟩,hk,Av⟩:=g;simp only at hk Av;show X (aK aac aag Q w (bq [] []) im (fun _ _=>False) (fun _=>True) [] NN) _ ⟨[(0,.val (.ao po n cp)),(1,.val (.int .u8 (.v key))),(5,.val v1),(6,.val (.int .i64 (.nat i))),(7,.val (eV 2 ((A.take k).foldl (p9 x) (false,[])).2.length 13)),(8,.val (.bool (.v ((A.take k).foldl (p9 x) (false,[])).1))),(12,.val (.int .i64 (.nat n))),(13,.val (.int .i64 (.nat i))),(25,.val (.int .i64 (.nat m))),(26,.val (.int .i64 (.nat k)))],[⟨true,c0,none⟩,⟨false,[],none⟩,⟨true,jO L2,none⟩]⟩;obtain⟨pt,th⟩:∃b,b=((A.take k).foldl (p9 x) (false,[])).1:=⟨_,rfl⟩;obtain⟨R2,Px⟩:∃r,r=((A.take k).foldl (p9 x) (false,[])).2:=⟨_,rfl⟩;obtain⟨mm,HO⟩:∃m,m=((A.take k).foldl (p9 x) (false,[])).2.length:=⟨_,rfl⟩;have ajB:mm<=2*k:=by
   have:=G2 x (A.take k) [] false;rw[<-HO,aay] at this;simp at this;omega
  obtain⟨v2,wj⟩:∃v,v=eV 2 mm 13:=⟨_,rfl⟩;obtain⟨c2,gn⟩:∃c,c=jO L2:=⟨_,rfl⟩;have PF:c2.length=mm*13:=by rw[gn,mY,Av.len,HO]
  have x9:∀m,c2.all (bd m)=true:=fun m=>by rw[gn];exact jf
  have ad0:bd 3 v2=true:=by rw[wj];exact kV (by decide)
  rw[<-th,<-HO,<-wj,<-gn];rw[<-Px] at Av HO;have rK:∀y,A[k]?=some y->(A.take (k+1)).foldl (p9 x) (false,[])=p9 x (pt,R2) y:=fun y hy=>by
   rw[aaF,hy,aaG,th,Px];rfl
  refine X.go fy 400 _ rfl aae ?_
  conv=>arg 2;cbv
  refine X.cond rfl (fun nr=>?_) (fun rL=>?_)
  ·simp only[SB.T,SI.den] at nr
   have nr:(k:Int)<(m:Int):=nr;have nr:k<m:=by omega
   obtain⟨u,hu⟩:∃u,A[k]?=some u:=⟨_,aaq (by omega)⟩;obtain⟨t',ht',hru⟩:=hR.row k u hu;have rK:=rK u hu;have hub:=aI.bal hru;obtain⟨zk,hzk⟩:∃z,z=k*13:=⟨_,rfl⟩;have n5:∀(j:Nat) (c:SV),t'.cH[j]?=some c->c0[zk+j]?=some c:=fun j c hj=>by rw[kX,hzk];exact Mn ht' j c hj
   obtain⟨ls,PQ⟩:∃b,b=x.b.less u.b:=⟨_,rfl⟩;have KT:=fun w1=>P7 x.b u.b w1
   rw[<-PQ,hxb,hub] at KT;obtain⟨sJ,f_,gb,gd,⟨lM,lL,lO,lN,lg,lh,li,lj,iL,iM,iP,iQ,lH,lI,lJ,lK⟩,sK⟩:=t';simp only at KT;refine X.eL b z1 (aL.cH ⟨ky,a1,a2,a3,⟨gk,gi,gs,gl,q1,q2,q3,q4,m1,m2,m3,m4,f1,f2,f3,f4⟩,ta⟩) VR (aaB _) (fun N1 dQ dX=>?_);have Vq:(N1++[(⟨b,z1,0⟩:aS)])[3]?=some ⟨b,z1,0⟩:=ax dX;have vo:∀{E:Env} {N0:af} {rg:List Rg} {f:Fr} {g:GK} {x ix:Operand} {kd:IntKind} {s:SI},hY f g x=some (.ao po n cp)->hY f g ix=some (.int kd s)->E.P=aac->N0=(N1++[(⟨b,z1,0⟩:aS)])->s=.nat i->au E N0 rg f g (.indexAddr 27 x ix) (.own 3 0):=fun k1 k2 k3 k4 k5=>by subst k4 k5;exact au.row k1 k2 (fun _=>rfl) (by rw[k3];exact aai) (by rw[k3];exact aah) aF fE Vq rfl jq
   refine X.iA ([(34,.own 3 0),(39,.own 0 zk),(41,.agg [.int .u64 (.v f_),.int .u8 (.v gb),.int .u32 (.v gd)]),(42,.bool (.v ls))]) ([]) fy 400 _ rfl aae (fun pr pe fin aj bm ai=>?_)
   conv=>cbv
   refine⟨aj _ (vo rfl rfl rfl rfl rfl),aj _ (jJ (z:=k) rfl (.inr (.inl j5)) rfl (fun _=>rfl) aai aah (fun _=>nr) hzk (by simp)),aj _ (fZ (c:=zk+1) (z:=3) (gg:=⟨true,c0,none⟩) (row:=[.int .u64 (.v f_),.int .u8 (.v gb),.int .u32 (.v gd)]) rfl Tryz.isAgg35 Tryz.sizeOf35 rfl rfl (fun j c hj=>by
    rw[Nat.add_assoc];refine n5 (1+j) c ?_
    match j,hj with
    |0,hj=>exact hj
    |1,hj=>exact hj
    |2,hj=>exact hj)),aj _ (.of Tryz.call39 [.agg #[.int .u64 a1,.int .u8 a2,.int .u32 a3],.agg #[.int .u64 f_,.int .u8 gb,.int .u32 gd]] (.bool ls) (fun _=>rfl) (fun _=>rfl) fun _ w1 _=>KT w1),ai _ _ ?_⟩
   clear aj bm ai;obtain⟨r0,pG⟩:∃r0,r0=if mm=0 then (⟨true,[],none⟩:Rg) else ⟨false,[],none⟩:=⟨_,rfl⟩
   have yg:∀q,r0.cells.all (bd q)=true:=fun q=>by rw[pG];split<;>rfl
   have pH:r0.ob=none:=by rw[pG];split<;>rfl
   have hcf:∀q r,c0.all (SV.uM q r)=true:=fun q r=>by rw[kX];exact lq
   refine X.cond rfl (fun hT=>?_) (fun hT=>?_)
   ·simp only[SB.T,SB.F] at hT
    have qy:p9 x (pt,R2) u=(true,R2++[x]++[u]):=by unfold p9;rw[if_pos (by rw[<-PQ];simp[hT])]
    obtain⟨c3,B_⟩:∃c,c=c2++aL.cH ⟨ky,a1,a2,a3,⟨gk,gi,gs,gl,q1,q2,q3,q4,m1,m2,m3,m4,f1,f2,f3,f4⟩,ta⟩:=⟨_,rfl⟩;obtain⟨c4,Bv⟩:∃c,c=c3++aL.cH ⟨sJ,f_,gb,gd,⟨lM,lL,lO,lN,lg,lh,li,lj,iL,iM,iP,iQ,lH,lI,lJ,lK⟩,sK⟩:=⟨_,rfl⟩;have acP:c3.length=(mm+1)*13:=by rw[B_,List.length_append,PF];show mm*13+13=_;omega
    refine X.iA ([(47,.own 3 0),(54,.own 0 zk),(55,.agg (aL.cH ⟨sJ,f_,gb,gd,⟨lM,lL,lO,lN,lg,lh,li,lj,iL,iM,iP,iQ,lH,lI,lJ,lK⟩,sK⟩))]) ([(50,⟨fun _=>.osl 5 0 (mm+1) 13 none,[(2,r0)],[⟨true,c3,none⟩]⟩),(57,⟨fun _=>.osl 7 0 (mm+1+1) 13 none,[(5,⟨false,[],none⟩)],[⟨true,c4,none⟩]⟩)]) fy 400 _ rfl aae (fun pr pe fin aj bm ai=>?_)
    conv=>cbv
    refine⟨aj _ (vo rfl rfl rfl rfl rfl),bm _ _ _ _ _ ?_,aj _ (jJ (z:=k) rfl (.inr (.inl j5)) rfl (fun _=>rfl) aai aah (fun _=>nr) hzk (by simp)),aj _ (fZ (c:=zk) (z:=13) (gg:=⟨true,c0,none⟩) (row:=aL.cH ⟨sJ,f_,gb,gd,⟨lM,lL,lO,lN,lg,lh,li,lj,iL,iM,iP,iQ,lH,lI,lJ,lK⟩,sK⟩) rfl aaI aah rfl rfl n5),bm _ _ _ _ _ ?_,ai _ _ ?_⟩
    ·rw[B_]
     exact vy (te:=fe) (m:=mm) (r:=2) fy rfl rfl rfl rfl rfl wj rfl PF pG (aY (g:=⟨true,aL.cH ⟨ky,a1,a2,a3,⟨gk,gi,gs,gl,q1,q2,q3,q4,m1,m2,m3,m4,f1,f2,f3,f4⟩,ta⟩,none⟩) rfl rfl rfl rfl) (bL (by decide) rfl rfl rfl (by show(2*(mm+1)+256)*160<=_;omega) (by omega)) rfl
    ·rw[Bv]
     exact be.step fy (iw (te:=fe) (new:=aL.cH ⟨sJ,f_,gb,gd,⟨lM,lL,lO,lN,lg,lh,li,lj,iL,iM,iP,iQ,lH,lI,lJ,lK⟩,sK⟩) (m:=1) rfl rfl rfl rfl rfl (aY (g:=⟨true,aL.cH ⟨sJ,f_,gb,gd,⟨lM,lL,lO,lN,lg,lh,li,lj,iL,iM,iP,iQ,lH,lI,lJ,lK⟩,sK⟩,none⟩) rfl rfl rfl rfl) (jk (te:=fe) (n:=mm+1) (cs:=c3) rfl acP (by decide) (bL (by decide) rfl rfl rfl (by show(2*(mm+1+1)+256)*160<=_;omega) (by omega))))
    clear aj bm ai vo;have wa:c4=jO (L2++[⟨ky,a1,a2,a3,⟨gk,gi,gs,gl,q1,q2,q3,q4,m1,m2,m3,m4,f1,f2,f3,f4⟩,ta⟩]++[⟨sJ,f_,gb,gd,⟨lM,lL,lO,lN,lg,lh,li,lj,iL,iM,iP,iQ,lH,lI,lJ,lK⟩,sK⟩]):=by rw[Bv,B_,gn,mX,mX]
    have rH:∀q,c4.all (bd q)=true:=fun q=>by rw[wa];exact jf
    have Gf:(R2++[x]++[u]).length=mm+1+1:=by simp[HO]
    refine X.lb ?_;refine X.frame ((7,.val (.osl 7 0 (mm+1+1) 13 none))::[(0,.val (.ao po n cp)),(1,.val (.int .u8 (.v key))),(5,.val v1),(6,.val (.int .i64 (.nat i))),(8,.val (.bool (.v true))),(12,.val (.int .i64 (.nat n))),(13,.val (.int .i64 (.nat i))),(25,.val (.int .i64 (.nat m))),(26,.val (.int .i64 (.nat (k+1))))]) (fun N=>(by repeat first|exact trivial|refine Dm rfl (by first|rfl|assumption) ?_|refine mi rfl rfl rfl ?_|refine mi rfl rfl (by simp (disch:=omega) [SV.den,SI.den,lv,lu]<;>omega) ?_|refine mi rfl rfl (by simp[SV.den,SI.den,aan,aal,aam]<;>omega) ?_)) (fun N=>⟨fun h=>h,aR.refl (rF _),rfl,fun h=>h,aR.refl rfl,rfl,fun h=>h,aR.refl (yg _),pH,fun h=>h,aR.refl rfl,rfl,fun h=>h,aR.refl rfl,rfl,fun h=>h,aR.refl rfl,rfl,fun h=>h,aR.refl rfl,rfl,fun h=>h,aR.refl (rH _),rfl,trivial⟩) ?_;show X (aK aac aag Q w (bq [] []) im (fun _ _=>False) (fun _=>True) [] NN) _ ⟨(7,.val (.osl 7 0 (mm+1+1) 13 none))::[(0,.val (.ao po n cp)),(1,.val (.int .u8 (.v key))),(5,.val v1),(6,.val (.int .i64 (.nat i))),(8,.val (.bool (.v true))),(12,.val (.int .i64 (.nat n))),(13,.val (.int .i64 (.nat i))),(25,.val (.int .i64 (.nat m))),(26,.val (.int .i64 (.nat (k+1))))],[⟨true,c0,none⟩,⟨false,[],none⟩,r0,⟨false,aL.cH ⟨ky,a1,a2,a3,⟨gk,gi,gs,gl,q1,q2,q3,q4,m1,m2,m3,m4,f1,f2,f3,f4⟩,ta⟩,none⟩,⟨true,aL.cH ⟨ky,a1,a2,a3,⟨gk,gi,gs,gl,q1,q2,q3,q4,m1,m2,m3,m4,f1,f2,f3,f4⟩,ta⟩,none⟩,⟨false,[],none⟩,⟨true,aL.cH ⟨sJ,f_,gb,gd,⟨lM,lL,lO,lN,lg,lh,li,lj,iL,iM,iP,iQ,lH,lI,lJ,lK⟩,sK⟩,none⟩]++[⟨true,c4,none⟩]⟩;refine X.swap (f:=[(0,.val (.ao po n cp)),(1,.val (.int .u8 (.v key))),(5,.val v1),(6,.val (.int .i64 (.nat i))),(8,.val (.bool (.v true))),(12,.val (.int .i64 (.nat n))),(13,.val (.int .i64 (.nat i))),(25,.val (.int .i64 (.nat m))),(26,.val (.int .i64 (.nat (k+1))))]) (rg:=[⟨true,c0,none⟩,⟨false,[],none⟩,r0,⟨false,aL.cH ⟨ky,a1,a2,a3,⟨gk,gi,gs,gl,q1,q2,q3,q4,m1,m2,m3,m4,f1,f2,f3,f4⟩,ta⟩,none⟩,⟨true,aL.cH ⟨ky,a1,a2,a3,⟨gk,gi,gs,gl,q1,q2,q3,q4,m1,m2,m3,m4,f1,f2,f3,f4⟩,ta⟩,none⟩,⟨false,[],none⟩,⟨true,aL.cH ⟨sJ,f_,gb,gd,⟨lM,lL,lO,lN,lg,lh,li,lj,iL,iM,iP,iQ,lH,lI,lJ,lK⟩,sK⟩,none⟩]) (g:=⟨true,c4,none⟩) rfl 2 rfl ⟨.inr (hcf _ _),.inr rfl,.inl rfl,.inr rfl,.inr rfl,.inr rfl,.inr rfl,trivial⟩ (by rw[wa];exact lq) (fun g' eN=>?_) (by repeat first|exact trivial|refine⟨rfl,?_⟩|refine⟨by assumption,?_⟩) ?_
    ·simp only[aar,aas,aak,aau,or_false] at eN
     rcases eN with rfl|rfl|h|rfl|rfl|rfl|rfl|rfl
     all_goals first|rfl|(rw[h];exact pH)
    refine X.back (fun N a w' hN hf hS=>Y5 ⟨(k+1,L2++[⟨ky,a1,a2,a3,⟨gk,gi,gs,gl,q1,q2,q3,q4,m1,m2,m3,m4,f1,f2,f3,f4⟩,ta⟩]++[⟨sJ,f_,gb,gd,⟨lM,lL,lO,lN,lg,lh,li,lj,iL,iM,iP,iQ,lH,lI,lJ,lK⟩,sK⟩]),by show k+1<=m;omega,by rw[rK,qy];exact(Av.add hmx).add hru⟩ a w' (by simp only;omega) ?_);show At _ ⟨[(0,.val (.ao po n cp)),(1,.val (.int .u8 (.v key))),(5,.val v1),(6,.val (.int .i64 (.nat i))),(7,.val (eV 2 ((A.take (k+1)).foldl (p9 x) (false,[])).2.length 13)),(8,.val (.bool (.v ((A.take (k+1)).foldl (p9 x) (false,[])).1))),(12,.val (.int .i64 (.nat n))),(13,.val (.int .i64 (.nat i))),(25,.val (.int .i64 (.nat m))),(26,.val (.int .i64 (.nat (k+1))))],[⟨true,c0,none⟩,⟨false,[],none⟩,⟨true,jO (L2++[⟨ky,a1,a2,a3,⟨gk,gi,gs,gl,q1,q2,q3,q4,m1,m2,m3,m4,f1,f2,f3,f4⟩,ta⟩]++[⟨sJ,f_,gb,gd,⟨lM,lL,lO,lN,lg,lh,li,lj,iL,iM,iP,iQ,lH,lI,lJ,lK⟩,sK⟩]),none⟩]⟩ a w';rw[rK,qy];show At _ ⟨[(0,.val (.ao po n cp)),(1,.val (.int .u8 (.v key))),(5,.val v1),(6,.val (.int .i64 (.nat i))),(7,.val (eV 2 (R2++[x]++[u]).length 13)),(8,.val (.bool (.v true))),(12,.val (.int .i64 (.nat n))),(13,.val (.int .i64 (.nat i))),(25,.val (.int .i64 (.nat m))),(26,.val (.int .i64 (.nat (k+1))))],[⟨true,c0,none⟩,⟨false,[],none⟩,⟨true,jO (L2++[⟨ky,a1,a2,a3,⟨gk,gi,gs,gl,q1,q2,q3,q4,m1,m2,m3,m4,f1,f2,f3,f4⟩,ta⟩]++[⟨sJ,f_,gb,gd,⟨lM,lL,lO,lN,lg,lh,li,lj,iL,iM,iP,iQ,lH,lI,lJ,lK⟩,sK⟩]),none⟩]⟩ a w';rw[Gf,<-wa];exact At.qX hf hS ⟨fun h=>h,aR.refl (rF _),rfl,fun h=>h,aR.refl rfl,rfl,fun h=>h,aR.refl (rH _),rfl,trivial⟩
   ·simp only[SB.T,SB.F] at hT
    have qy:p9 x (pt,R2) u=(pt,R2++[u]):=by
     unfold p9;rw[if_neg (by rw[<-PQ];grind)]
    obtain⟨c4,Bv⟩:∃c,c=c2++aL.cH ⟨sJ,f_,gb,gd,⟨lM,lL,lO,lN,lg,lh,li,lj,iL,iM,iP,iQ,lH,lI,lJ,lK⟩,sK⟩:=⟨_,rfl⟩;refine X.iA ([(54,.own 0 zk),(55,.agg (aL.cH ⟨sJ,f_,gb,gd,⟨lM,lL,lO,lN,lg,lh,li,lj,iL,iM,iP,iQ,lH,lI,lJ,lK⟩,sK⟩))]) ([(57,⟨fun _=>.osl 5 0 (mm+1) 13 none,[(2,r0)],[⟨true,c4,none⟩]⟩)]) fy 400 _ rfl aae (fun pr pe fin aj bm ai=>?_)
    conv=>cbv
    refine⟨aj _ (jJ (z:=k) rfl (.inr (.inl j5)) rfl (fun _=>rfl) aai aah (fun _=>nr) hzk (by simp)),aj _ (fZ (c:=zk) (z:=13) (gg:=⟨true,c0,none⟩) (row:=aL.cH ⟨sJ,f_,gb,gd,⟨lM,lL,lO,lN,lg,lh,li,lj,iL,iM,iP,iQ,lH,lI,lJ,lK⟩,sK⟩) rfl aaI aah rfl rfl n5),bm _ _ _ _ _ ?_,ai _ _ ?_⟩
    ·rw[Bv]
     exact vy (te:=fe) (m:=mm) (r:=2) fy rfl rfl rfl rfl rfl wj rfl PF pG (aY (g:=⟨true,aL.cH ⟨sJ,f_,gb,gd,⟨lM,lL,lO,lN,lg,lh,li,lj,iL,iM,iP,iQ,lH,lI,lJ,lK⟩,sK⟩,none⟩) rfl rfl rfl rfl) (bL (by decide) rfl rfl rfl (by show(2*(mm+1)+256)*160<=_;omega) (by omega)) rfl
    clear aj bm ai vo;have wa:c4=jO (L2++[⟨sJ,f_,gb,gd,⟨lM,lL,lO,lN,lg,lh,li,lj,iL,iM,iP,iQ,lH,lI,lJ,lK⟩,sK⟩]):=by rw[Bv,gn,mX]
    have rH:∀q,c4.all (bd q)=true:=fun q=>by rw[wa];exact jf
    have Gf:(R2++[u]).length=mm+1:=by simp[HO]
    refine X.lb ?_;refine X.frame ((7,.val (.osl 5 0 (mm+1) 13 none))::[(0,.val (.ao po n cp)),(1,.val (.int .u8 (.v key))),(5,.val v1),(6,.val (.int .i64 (.nat i))),(8,.val (.bool (.v pt))),(12,.val (.int .i64 (.nat n))),(13,.val (.int .i64 (.nat i))),(25,.val (.int .i64 (.nat m))),(26,.val (.int .i64 (.nat (k+1))))]) (fun N=>(by repeat first|exact trivial|refine Dm rfl (by first|rfl|assumption) ?_|refine mi rfl rfl rfl ?_|refine mi rfl rfl (by simp (disch:=omega) [SV.den,SI.den,lv,lu]<;>omega) ?_|refine mi rfl rfl (by simp[SV.den,SI.den,aan,aal,aam]<;>omega) ?_)) (fun N=>⟨fun h=>h,aR.refl (rF _),rfl,fun h=>h,aR.refl rfl,rfl,fun h=>h,aR.refl (yg _),pH,fun h=>h,aR.refl rfl,rfl,fun h=>h,aR.refl rfl,rfl,fun h=>h,aR.refl (rH _),rfl,trivial⟩) ?_;show X (aK aac aag Q w (bq [] []) im (fun _ _=>False) (fun _=>True) [] NN) _ ⟨(7,.val (.osl 5 0 (mm+1) 13 none))::[(0,.val (.ao po n cp)),(1,.val (.int .u8 (.v key))),(5,.val v1),(6,.val (.int .i64 (.nat i))),(8,.val (.bool (.v pt))),(12,.val (.int .i64 (.nat n))),(13,.val (.int .i64 (.nat i))),(25,.val (.int .i64 (.nat m))),(26,.val (.int .i64 (.nat (k+1))))],[⟨true,c0,none⟩,⟨false,[],none⟩,r0,⟨false,aL.cH ⟨ky,a1,a2,a3,⟨gk,gi,gs,gl,q1,q2,q3,q4,m1,m2,m3,m4,f1,f2,f3,f4⟩,ta⟩,none⟩,⟨true,aL.cH ⟨sJ,f_,gb,gd,⟨lM,lL,lO,lN,lg,lh,li,lj,iL,iM,iP,iQ,lH,lI,lJ,lK⟩,sK⟩,none⟩]++[⟨true,c4,none⟩]⟩;refine X.swap (f:=[(0,.val (.ao po n cp)),(1,.val (.int .u8 (.v key))),(5,.val v1),(6,.val (.int .i64 (.nat i))),(8,.val (.bool (.v pt))),(12,.val (.int .i64 (.nat n))),(13,.val (.int .i64 (.nat i))),(25,.val (.int .i64 (.nat m))),(26,.val (.int .i64 (.nat (k+1))))]) (rg:=[⟨true,c0,none⟩,⟨false,[],none⟩,r0,⟨false,aL.cH ⟨ky,a1,a2,a3,⟨gk,gi,gs,gl,q1,q2,q3,q4,m1,m2,m3,m4,f1,f2,f3,f4⟩,ta⟩,none⟩,⟨true,aL.cH ⟨sJ,f_,gb,gd,⟨lM,lL,lO,lN,lg,lh,li,lj,iL,iM,iP,iQ,lH,lI,lJ,lK⟩,sK⟩,none⟩]) (g:=⟨true,c4,none⟩) rfl 2 rfl ⟨.inr (hcf _ _),.inr rfl,.inl rfl,.inr rfl,.inr rfl,trivial⟩ (by rw[wa];exact lq) (fun g' eN=>?_) (by repeat first|exact trivial|refine⟨rfl,?_⟩|refine⟨by assumption,?_⟩) ?_
    ·simp only[aar,aas,aak,aau,or_false] at eN
     rcases eN with rfl|rfl|h|rfl|rfl|rfl
     all_goals first|rfl|(rw[h];exact pH)
    refine X.back (fun N a w' hN hf hS=>Y5 ⟨(k+1,L2++[⟨sJ,f_,gb,gd,⟨lM,lL,lO,lN,lg,lh,li,lj,iL,iM,iP,iQ,lH,lI,lJ,lK⟩,sK⟩]),by show k+1<=m;omega,by rw[rK,qy];exact Av.add hru⟩ a w' (by simp only;omega) ?_);show At _ ⟨[(0,.val (.ao po n cp)),(1,.val (.int .u8 (.v key))),(5,.val v1),(6,.val (.int .i64 (.nat i))),(7,.val (eV 2 ((A.take (k+1)).foldl (p9 x) (false,[])).2.length 13)),(8,.val (.bool (.v ((A.take (k+1)).foldl (p9 x) (false,[])).1))),(12,.val (.int .i64 (.nat n))),(13,.val (.int .i64 (.nat i))),(25,.val (.int .i64 (.nat m))),(26,.val (.int .i64 (.nat (k+1))))],[⟨true,c0,none⟩,⟨false,[],none⟩,⟨true,jO (L2++[⟨sJ,f_,gb,gd,⟨lM,lL,lO,lN,lg,lh,li,lj,iL,iM,iP,iQ,lH,lI,lJ,lK⟩,sK⟩]),none⟩]⟩ a w';rw[rK,qy];show At _ ⟨[(0,.val (.ao po n cp)),(1,.val (.int .u8 (.v key))),(5,.val v1),(6,.val (.int .i64 (.nat i))),(7,.val (eV 2 (R2++[u]).length 13)),(8,.val (.bool (.v pt))),(12,.val (.int .i64 (.nat n))),(13,.val (.int .i64 (.nat i))),(25,.val (.int .i64 (.nat m))),(26,.val (.int .i64 (.nat (k+1))))],[⟨true,c0,none⟩,⟨false,[],none⟩,⟨true,jO (L2++[⟨sJ,f_,gb,gd,⟨lM,lL,lO,lN,lg,lh,li,lj,iL,iM,iP,iQ,lH,lI,lJ,lK⟩,sK⟩]),none⟩]⟩ a w';rw[Gf,<-wa];exact At.qX hf hS ⟨fun h=>h,aR.refl (rF _),rfl,fun h=>h,aR.refl rfl,rfl,fun h=>h,aR.refl (rH _),rfl,trivial⟩
  simp only[SB.F,SI.den] at rL;have rL:(m:Int)<=(k:Int):=rL;have hAk:A.take k=A:=aaH (by omega);rw[hAk] at th Px;have rM:EN x A=if pt=true then R2 else R2++[x]:=by unfold EN;rw[<-th,<-Px]
  refine X.go fy 400 _ rfl aae ?_
  conv=>arg 2;cbv
  have yc:=Ll x A;have hcf:∀q r,c2.all (SV.uM q r)=true:=fun q r=>by rw[gn];exact lq
  refine X.cond rfl (fun hT=>?_) (fun hT=>?_)
  ·simp only[SB.T,SB.F] at hT
   rw[if_neg (by rw[hT];simp)] at rM;obtain⟨r0,pG⟩:∃r0,r0=if mm=0 then (⟨true,[],none⟩:Rg) else ⟨false,[],none⟩:=⟨_,rfl⟩
   have yg:∀q,r0.cells.all (bd q)=true:=fun q=>by rw[pG];split<;>rfl
   have pH:r0.ob=none:=by rw[pG];split<;>rfl
   have adP:r0.cells.all (SV.uM 5 0)=true:=by rw[pG];split<;>rfl
   obtain⟨c4,Bv⟩:∃c,c=c2++aL.cH ⟨ky,a1,a2,a3,⟨gk,gi,gs,gl,q1,q2,q3,q4,m1,m2,m3,m4,f1,f2,f3,f4⟩,ta⟩:=⟨_,rfl⟩;refine X.eL b z1 (aL.cH ⟨ky,a1,a2,a3,⟨gk,gi,gs,gl,q1,q2,q3,q4,m1,m2,m3,m4,f1,f2,f3,f4⟩,ta⟩) VR (aaB _) (fun N1 dQ dX=>?_);have Vq:(N1++[(⟨b,z1,0⟩:aS)])[3]?=some ⟨b,z1,0⟩:=ax dX;refine X.iA ([(64,.own 3 0)]) ([(67,⟨fun _=>.osl 5 0 (mm+1) 13 none,[(2,r0)],[⟨true,c4,none⟩]⟩)]) fy 400 _ rfl aae (fun pr pe fin aj bm ai=>?_)
   conv=>cbv
   refine⟨aj _ (au.row rfl rfl (fun _=>rfl) aai aah aF fE Vq rfl jq),bm _ _ _ _ _ ?_,ai _ _ ?_⟩
   ·rw[Bv]
    exact vy (te:=fe) (m:=mm) (r:=2) fy rfl rfl rfl rfl rfl wj rfl PF pG (aY (g:=⟨true,aL.cH ⟨ky,a1,a2,a3,⟨gk,gi,gs,gl,q1,q2,q3,q4,m1,m2,m3,m4,f1,f2,f3,f4⟩,ta⟩,none⟩) rfl rfl rfl rfl) (bL (by decide) rfl rfl rfl (by show(2*(mm+1)+256)*160<=_;omega) (by omega)) rfl
   clear aj bm ai;have wa:c4=jO (L2++[⟨ky,a1,a2,a3,⟨gk,gi,gs,gl,q1,q2,q3,q4,m1,m2,m3,m4,f1,f2,f3,f4⟩,ta⟩]):=by rw[Bv,gn,mX]
   have rH:∀q,c4.all (bd q)=true:=fun q=>by rw[wa];exact jf
   have Gf:(R2++[x]).length=mm+1:=by simp[HO]
   refine X.lb ?_;refine X.frame ((5,.val (.osl 5 0 (mm+1) 13 none))::[(0,.val (.ao po n cp)),(1,.val (.int .u8 (.v key))),(12,.val (.int .i64 (.nat n))),(13,.val (.int .i64 (.nat (i+1))))]) (fun N=>(by repeat first|exact trivial|refine Dm rfl (by first|rfl|assumption) ?_|refine mi rfl rfl rfl ?_|refine mi rfl rfl (by simp (disch:=omega) [SV.den,SI.den,lv,lu]<;>omega) ?_|refine mi rfl rfl (by simp[SV.den,SI.den,aan,aal,aam]<;>omega) ?_)) (fun N=>⟨fun h=>h,aR.refl (rF _),rfl,fun h=>h,aR.refl rfl,rfl,fun h=>h,aR.refl (yg _),pH,fun h=>h,aR.refl rfl,rfl,fun h=>h,aR.refl rfl,rfl,fun h=>h,aR.refl (rH _),rfl,trivial⟩) ?_;show X (aK aac aag Q w (bq [] []) im (fun _ _=>False) (fun _=>True) [] NN) _ ⟨(5,.val (.osl 5 0 (mm+1) 13 none))::[(0,.val (.ao po n cp)),(1,.val (.int .u8 (.v key))),(12,.val (.int .i64 (.nat n))),(13,.val (.int .i64 (.nat (i+1))))],[⟨true,c0,none⟩,⟨false,[],none⟩,r0,⟨false,aL.cH ⟨ky,a1,a2,a3,⟨gk,gi,gs,gl,q1,q2,q3,q4,m1,m2,m3,m4,f1,f2,f3,f4⟩,ta⟩,none⟩,⟨true,aL.cH ⟨ky,a1,a2,a3,⟨gk,gi,gs,gl,q1,q2,q3,q4,m1,m2,m3,m4,f1,f2,f3,f4⟩,ta⟩,none⟩]++[⟨true,c4,none⟩]⟩;refine X.swap (f:=[(0,.val (.ao po n cp)),(1,.val (.int .u8 (.v key))),(12,.val (.int .i64 (.nat n))),(13,.val (.int .i64 (.nat (i+1))))]) (rg:=[⟨true,c0,none⟩,⟨false,[],none⟩,r0,⟨false,aL.cH ⟨ky,a1,a2,a3,⟨gk,gi,gs,gl,q1,q2,q3,q4,m1,m2,m3,m4,f1,f2,f3,f4⟩,ta⟩,none⟩,⟨true,aL.cH ⟨ky,a1,a2,a3,⟨gk,gi,gs,gl,q1,q2,q3,q4,m1,m2,m3,m4,f1,f2,f3,f4⟩,ta⟩,none⟩]) (g:=⟨true,c4,none⟩) rfl 0 rfl ⟨.inl rfl,.inr rfl,.inr adP,.inr rfl,.inr rfl,trivial⟩ (by rw[wa];exact lq) (fun g' eN=>?_) (by repeat first|exact trivial|refine⟨rfl,?_⟩|refine⟨by assumption,?_⟩) ?_
   ·simp only[aar,aas,aak,aau,or_false] at eN
    rcases eN with rfl|rfl|h|rfl|rfl|rfl
    all_goals first|rfl|(rw[h];exact pH)
   refine X.back (fun N a w' hN hf hS=>cF ⟨(i+1,L2++[⟨ky,a1,a2,a3,⟨gk,gi,gs,gl,q1,q2,q3,q4,m1,m2,m3,m4,f1,f2,f3,f4⟩,ta⟩]),by show i+1<=n;omega,by rw[wi,rM];exact Av.add hmx⟩ a w' (by simp only;omega) ?_);show At _ ⟨[(0,.val (.ao po n cp)),(1,.val (.int .u8 (.v key))),(5,.val (eV 0 (nT (l.take (i+1)) key).length 13)),(12,.val (.int .i64 (.nat n))),(13,.val (.int .i64 (.nat (i+1))))],[⟨true,jO (L2++[⟨ky,a1,a2,a3,⟨gk,gi,gs,gl,q1,q2,q3,q4,m1,m2,m3,m4,f1,f2,f3,f4⟩,ta⟩]),none⟩]⟩ a w';rw[wi,rM,Gf,<-wa,show eV 0 (mm+1) 13=.osl 0 0 (mm+1) 13 none from rfl];exact At.qX hf hS ⟨fun h=>h,aR.refl (rH _),rfl,trivial⟩
  ·simp only[SB.T,SB.F] at hT
   rw[if_pos hT] at rM;have YN:mm=m+1:=by rw[HO,hm,<-rM,yc]
   have VY:v2=.osl 2 0 (m+1) 13 none:=by rw[wj,YN];rfl
   rw[VY];refine X.go fy 400 _ rfl aae ?_
   conv=>arg 2;cbv
   refine X.frame ((5,.val (.osl 2 0 (m+1) 13 none))::[(0,.val (.ao po n cp)),(1,.val (.int .u8 (.v key))),(12,.val (.int .i64 (.nat n))),(13,.val (.int .i64 (.nat (i+1))))]) (fun N=>(by repeat first|exact trivial|refine Dm rfl (by first|rfl|assumption) ?_|refine mi rfl rfl rfl ?_|refine mi rfl rfl (by simp (disch:=omega) [SV.den,SI.den,lv,lu]<;>omega) ?_|refine mi rfl rfl (by simp[SV.den,SI.den,aan,aal,aam]<;>omega) ?_)) (fun N=>⟨fun h=>h,aR.refl (rF _),rfl,fun h=>h,aR.refl rfl,rfl,fun h=>h,aR.refl (x9 _),rfl,trivial⟩) ?_;show X (aK aac aag Q w (bq [] []) im (fun _ _=>False) (fun _=>True) [] NN) _ ⟨(5,.val (.osl 2 0 (m+1) 13 none))::[(0,.val (.ao po n cp)),(1,.val (.int .u8 (.v key))),(12,.val (.int .i64 (.nat n))),(13,.val (.int .i64 (.nat (i+1))))],[⟨true,c0,none⟩,⟨false,[],none⟩]++[⟨true,c2,none⟩]⟩;refine X.swap (f:=[(0,.val (.ao po n cp)),(1,.val (.int .u8 (.v key))),(12,.val (.int .i64 (.nat n))),(13,.val (.int .i64 (.nat (i+1))))]) (rg:=[⟨true,c0,none⟩,⟨false,[],none⟩]) (g:=⟨true,c2,none⟩) rfl 0 rfl ⟨.inl rfl,.inr rfl,trivial⟩ (hcf _ _) (fun g' eN=>?_) (by repeat first|exact trivial|refine⟨rfl,?_⟩|refine⟨by assumption,?_⟩) ?_
   ·simp only[aar,aas,aak,aau,or_false] at eN
    rcases eN with rfl|rfl|rfl
    all_goals rfl
   refine X.back (fun N a w' hN hf hS=>cF ⟨(i+1,L2),by show i+1<=n;omega,by rw[wi,rM];exact Av⟩ a w' (by simp only;omega) ?_);show At _ ⟨[(0,.val (.ao po n cp)),(1,.val (.int .u8 (.v key))),(5,.val (eV 0 (nT (l.take (i+1)) key).length 13)),(12,.val (.int .i64 (.nat n))),(13,.val (.int .i64 (.nat (i+1))))],[⟨true,jO L2,none⟩]⟩ a w';rw[wi,rM,<-HO,YN,<-gn,show eV 0 (m+1) 13=.osl 0 0 (m+1) 13 none from rfl];exact At.qX hf hS ⟨fun h=>h,aR.refl (x9 _),rfl,trivial⟩
 simp only[SB.F,SI.den] at cJ;have cJ:(n:Int)<=(i:Int):=cJ;have yd:i=n:=by omega
 subst yd;refine X.go fy 400 _ rfl aae ?_
 conv=>arg 2;cbv
 refine X.done fy rfl (fun N w' v hN hS hv=>?_);obtain⟨p0,fJ⟩:∃p,N[0]?=some p:=⟨_,aaq (by rw[hS.len];show 0<1;omega)⟩;rw[aaH (by omega)] at hA;rw[hQ,<-hA];exact GJ hS rfl fJ qo hR (by rw[kX]) hm.symm (by omega) j5 hv
structure TY (l:List aO) (base pb py:Nat) (V7:Mem) where
 (i:Nat) (wd:WM) (s:WP) (Mo:Mem)
 hi:i<=l.length
 ok:s.Ok i
 far:∀k o,wd.D s.seen.length k o->base<=k
 md:∀k o,wd.D s.seen.length k o->Mo k o=none
 im:∀k o v,V7 k o=some v->Mo k o=some v
 p0:pb=(wd.P 0).b/\py=(wd.P 0).o
 es:s=(l.take i).foldl WP.pj WP.zero
theorem Im (l:List aO)(po:Option Addr)(cp:Nat)(key:Int)(w:World)(hs:dC (bU.wm w) po cp 21 (l.map aO.toD))(hg:oX l) :
  Calls aac 5 #[.slice po l.length cp,.int .u8 key] w fun e w'=>e=.returned (.bool true)/\aW (fun _ _=>False) w w':=by
 obtain⟨n,hn⟩:∃n,n=l.length:=⟨_,rfl⟩;rw[<-hn];refine X.begin (rg:=[]) (N:=[]) (ss:=[.ao po n cp,.int .u8 (.v key)]) aaJ rfl QW rfl rfl Sat.bp ?_;refine X.iA ([(10,.bool (.lit true))]) ([]) iG 400 _ rfl aaf (fun pr pe fin aj bm ai=>?_)
 conv=>cbv
 refine⟨aj _ (.of aaK [.slice po n cp] (.bool true) (fun _=>rfl) (fun _=>rfl) fun _ w1 bI=>?_),ai _ _ ?_⟩
 ·have M0:=vY l po cp w1 (hs.mono fun k o v hk=>bI _ _ _ (kM hk))
  rw[<-hn,bP hg] at M0;exact M0
 clear aj bm ai;refine X.call rfl rfl rfl rfl aaL (fun N w1 args hN hS ha=>?_);obtain rfl:([]:List Value)=args:=Option.some.inj ha;refine(vz w1).mono fun e w2 ⟨he,hc⟩=>⟨_,he,Goes.same (r:=.bool (.lit true)) hN hS hc rfl rfl ?_⟩
 refine X.go iG 400 _ rfl aaf ?_
 conv=>arg 2;cbv
 refine X.done iG rfl (fun N w' v hN hS hv=>?_);exact⟨aw hv rfl,hS.aM.none⟩
theorem LW (l:List aO)(po:Option Addr)(cp:Nat)(key:Int)(w:World)(hs:dC (bU.wm w) po cp 21 (l.map aO.toD))(hng:¬oX l)(dm:∀x∈l,x.Ok)(HN:l.length<=60) :
  Calls aac 5 #[.slice po l.length cp,.int .u8 key] w fun e w'=>e=.returned (.bool true)/\aW (fun _ _=>False) w w':=by
 obtain⟨Q,hQ⟩:∃Q:Ending->World->Prop,Q=fun e w'=>e=.returned (.bool true)/\aW (fun _ _=>False) w w':=⟨_,rfl⟩
 rw[<-hQ];obtain⟨n,hn⟩:∃n,n=l.length:=⟨_,rfl⟩;have ajC:n<=cp:=by have:=hs.1.1;simp at this;omega
 rw[<-hn];refine X.begin (rg:=[]) (N:=[]) (ss:=[.ao po n cp,.int .u8 (.v key)]) aaJ rfl QW rfl rfl Sat.bp ?_;obtain⟨im,aV⟩:∃im,im=ab [] [] w:=⟨_,rfl⟩;have ct:∀k o v,bU.wm w k o=some v->im k o=some v:=fun k o v h=>by rw[aV];exact kM h
 have Yz:∀k o,w.heap.size<=k->im k o=none:=fun k o h=>by
  rw[aV];unfold ab;rw[if_neg aB];cases hc:w.cell? ⟨k,o,none⟩ with
  |none=>rfl
  |some v=>have:=World.block_lt_of_cell? _ _ hc;simp only at this;omega
 obtain⟨ts,W5⟩:=QA hs;have W5:=W5.mono ct;show X (aK aac aad Q w (bq [] []) (ab [] [] w) (fun _ _=>False) (fun _=>True) [] B5) _ _;rw[<-aV];refine X.iA ([(10,.bool (.lit false))]) ([]) iG 400 _ rfl aaf (fun pr pe fin aj bm ai=>?_)
 conv=>cbv
 refine⟨aj _ (.of aaK [.slice po n cp] (.bool false) (fun _=>rfl) (fun _=>rfl) fun _ w1 bI=>?_),ai _ _ ?_⟩
 ·have M0:=vY l po cp w1 (hs.mono fun k o v hk=>bI _ _ _ (ct _ _ _ hk))
  rw[<-hn,b_ hng] at M0;exact M0
 clear aj bm ai;refine X.call rfl rfl rfl rfl Tryz.call8 (fun N w1 args hN hS ha=>?_);obtain rfl:([]:List Value)=args:=Option.some.inj ha;refine(Hh im w1 hS.cK).mono fun e w2 ⟨wd,he,F6,bM,hc⟩=>⟨_,he,?_⟩
 have yh:w.heap.size<=w1.heap.size:=hS.aM.size;obtain⟨pb,Bx⟩:∃z,z=(wd.P 0).b:=⟨_,rfl⟩;obtain⟨py,M_⟩:∃z,z=(wd.P 0).o:=⟨_,rfl⟩;refine Goes.turn (r:=.ext pb py 0) (wd.D 0) (bZ wd WP.zero im) hN hS (hc.mono fun _ _ _ h=>h.elim) (fun _ _ h=>h.elim) (fun _ _ h=>h.elim) (fun g hg=>by simp at hg) (fun k o hk=>⟨.inr (bM k o hk),F6.there hk⟩) (bZ.loc (wm:=wd) (s:=WP.zero) (Mo:=im)) F6.r (by rw[Bx,M_];rfl) rfl ?_;have hO:∀k o,wd.D 0 k o->w.heap.size<=k:=fun k o h=>aaM yh (bM k o h)
 have YM:∀k o,wd.D 0 k o->im k o=none:=fun k o h=>Yz k o (hO k o h)
 clear ha he hc hS hN F6 bM yh Yz;show X (aK aac aad Q w (bq [] []) im (wd.D 0) (bZ wd WP.zero im) [] B5) _ _;refine X.go iG 400 _ rfl aaf ?_
 conv=>arg 2;cbv
 refine X.loop (E:=aK aac aad Q w (bq [] []) im (wd.D 0) (bZ wd WP.zero im) [] B5) (fun g:TY l w.heap.size pb py im=>aK aac aad Q w (bq [] []) g.Mo (g.wd.D g.s.seen.length) (bZ g.wd g.s g.Mo) [] B5)
  (fun g=>⟨[(0,.val (.ao po n cp)),(1,.val (.int .u8 (.v key))),(4,.val (.bool (.lit false))),(5,.val (.ext pb py 0)),(6,.val (.int .i64 (.nat g.i)))],[]⟩) (fun g=>n-g.i) (fun g=>⟨rfl,rfl,rfl,rfl⟩) (fun N a w' hN hf hS=>?_) (fun g q hq=>?_)
 ·refine⟨⟨0,wd,WP.zero,im,aaw _,Bu,hO,YM,fun _ _ _ h=>h,⟨Bx,M_⟩,rfl⟩,?_⟩
  exact At.eJ hf hS trivial
 clear hO YM Bx M_;clear wd;obtain⟨i,wd,s,Mo,hi,ok,hO,Jb,hold,hP,hes⟩:=g;show X (aK aac aad Q w (bq [] []) Mo (wd.D s.seen.length) (bZ wd s Mo) [] B5) _ _;have VE:n<=60:=by omega
 refine X.go iG 400 _ rfl aaf ?_
 conv=>arg 2;cbv
 refine X.cond rfl (fun aF=>?_) (fun cJ=>?_)
 ·simp only[SB.T,SI.den] at aF
  have aF:(i:Int)<(n:Int):=aF;have aF:i<n:=by omega
  refine X.go iG 400 _ rfl aaf ?_
  conv=>arg 2;cbv
  obtain⟨x,hx⟩:∃x,l[i]?=some x:=⟨_,aaq (by omega)⟩;obtain⟨b,y,vs,hpo,uz,bD⟩:=hs.row (i:=i) (d:=x.toD) (by simp[hx]);obtain⟨t,rfl,Ck⟩:=aO.cells uz;obtain⟨z,hz⟩:∃z,z=y+i*21:=⟨_,rfl⟩;rw[<-hz] at bD;have K5:t.Of Mo x:=Ck.mono fun k o v h=>hold _ _ _ (ct _ _ _ h)
  have Vy:∀j,j<21->b<w.heap.size:=fun j hj=>by
   obtain⟨v,hv⟩:∃v,t.aN[0]?=some v:=⟨_,rfl⟩;have:=World.block_lt_of_cell? _ _ (bD 0 v hv)
   simpa using this
  obtain⟨nd,cc,op,on,oc,np,nn,nc,ky,ml,s1,s2,s3,a1,a2,a3,⟨gk,gi,gs,gl,q1,q2,q3,q4,m1,m2,m3,m4,f1,f2,f3,f4⟩,ta⟩:=t;refine X.eL b z (cy.cH ⟨nd,cc,op,on,oc,np,nn,nc,ky,ml,s1,s2,s3,a1,a2,a3,⟨gk,gi,gs,gl,q1,q2,q3,q4,m1,m2,m3,m4,f1,f2,f3,f4⟩,ta⟩) (fQ.cH fun j v hj=>hold _ _ _ (ct _ _ _ (bD j v hj))) (by simp[cy.cH]) (fun N1 dQ dX=>?_);have nX:(N1++[(⟨b,z,0⟩:aS)])[0]?=some ⟨b,z,0⟩:=ax dX;show X (aK aac aad Q w (bq [] []) Mo (wd.D s.seen.length) (bZ wd s Mo) (N1++[⟨b,z,0⟩]) B5) _ _;refine X.XY [(22,.own 0 0),(27,.own 0 0),(32,.own 0 0),(37,.own 0 0),(42,.own 0 0)] [] iG (.q 0 [1,2,3,4,5,6,7,8,9,10,11,12,13,14,15,16,17,18,19,20,21,22,23,24,25] (.q 1 [0,2,6,7,8,9,10,11,12,13,14,15,16,17,18,19,20,21,22,23,24,25] (.q 2 [0,1,6,7,8,9,10,11,12,13,14,15,16,17,18,19,20,21,22,23,24,25] (.q 3 [0,1,2,6,7,8,9,10,11,12,13,14,15,16,17,18,19,20,21,22,23,24,25] (.q 4 [0,1,2,3,6,7,8,9,10,11,12,13,14,15,16,17,18,19,20,21,22,23,24,25] (.q 6 [0,1,2,3,4,5,7,11,12,13,14,15,16,17,18,19,20,21,22,23,24,25] (.q 7 [0,1,2,3,4,5,6,11,12,13,14,15,16,17,18,19,20,21,22,23,24,25] (.q 8 [0,1,2,3,4,5,6,7,11,12,13,14,15,16,17,18,19,20,21,22,23,24,25] (.q 9 [0,1,2,3,4,5,6,7,8,11,12,13,14,15,16,17,18,19,20,21,22,23,24,25] (.q 11 [0,1,2,3,4,5,6,7,8,9,10,12,16,17,18,19,20,21,22,23,24,25] (.q 12 [0,1,2,3,4,5,6,7,8,9,10,11,16,17,18,19,20,21,22,23,24,25] (.q 13 [0,1,2,3,4,5,6,7,8,9,10,11,12,16,17,18,19,20,21,22,23,24,25] (.q 14 [0,1,2,3,4,5,6,7,8,9,10,11,12,13,16,17,18,19,20,21,22,23,24,25] (.q 16 [0,1,2,3,4,5,6,7,8,9,10,11,12,13,14,15,17,21,22,23,24,25] (.q 17 [0,1,2,3,4,5,6,7,8,9,10,11,12,13,14,15,16,21,22,23,24,25] (.q 18 [0,1,2,3,4,5,6,7,8,9,10,11,12,13,14,15,16,17,21,22,23,24,25] (.q 19 [0,1,2,3,4,5,6,7,8,9,10,11,12,13,14,15,16,17,18,21,22,23,24,25] (.q 21 [0,1,2,3,4,5,6,7,8,9,10,11,12,13,14,15,16,17,18,19,20,22] (.q 22 [0,1,2,3,4,5,6,7,8,9,10,11,12,13,14,15,16,17,18,19,20,21] (.q 23 [0,1,2,3,4,5,6,7,8,9,10,11,12,13,14,15,16,17,18,19,20,21,22] (.q 24 [0,1,2,3,4,5,6,7,8,9,10,11,12,13,14,15,16,17,18,19,20,21,22,23] (.q 5 [0,1,2,3,4,6,7,8,9,10,11,12,13,14,15,16,17,18,19,20,21,22,23,24,25] (.q 10 [0,1,2,3,4,5,6,7,8,9,11,12,13,14,15,16,17,18,19,20,21,22,23,24,25] (.q 15 [0,1,2,3,4,5,6,7,8,9,10,11,12,13,14,16,17,18,19,20,21,22,23,24,25] (.q 20 [0,1,2,3,4,5,6,7,8,9,10,11,12,13,14,15,16,17,18,19,21,22,23,24,25] (.one 25 (.one 26 (.nil)))))))))))))))))))))))))))) 97 26 [] rfl (by kernel_rfl) (by kernel_rfl) (fun pr pe fin H aj bm ai hH=>?_)
  conv=>cbv
  have dH:∀j,j<21->¬wd.D s.seen.length b (z+j):=fun j hj hd=>by
   have h1:=hO _ _ hd;have h2:=Vy j hj;omega
  have vo:∀{E:Env} {N0:af} {rg:List Rg} {f:Fr} {g:GK} {x ix:Operand} {kd:IntKind} {s:SI},hY f g x=some (.ao po n cp)->hY f g ix=some (.int kd s)->E.P=aac->N0=(N1++[(⟨b,z,0⟩:aS)])->s=.nat i->au E N0 rg f g (.indexAddr 22 x ix) (.own 0 0):=fun k1 k2 k3 k4 k5=>by subst k4 k5;exact au.row k1 k2 (fun _=>rfl) (by rw[k3];exact aav) (by rw[k3];exact aaz) aF hpo nX rfl hz
  refine⟨aj _ (vo rfl rfl rfl rfl rfl),aj _ (vo rfl rfl rfl rfl rfl),aj _ (vo rfl rfl rfl rfl rfl),aj _ (vo rfl rfl rfl rfl rfl),aj _ (vo rfl rfl rfl rfl rfl),?_⟩;refine hH _ _ ⟨_,_,_,_,_,rfl,rfl,rfl,rfl,Tryz.call9,fun N w1 args hN hS ha=>?_⟩;obtain rfl:=fk (vs:=(Iz (wd.P 0).b (wd.P 0).o ⟨nd,cc,op,on,oc,np,nn,nc,ky,ml,s1,s2,s3,a1,a2,a3,⟨gk,gi,gs,gl,q1,q2,q3,q4,m1,m2,m3,m4,f1,f2,f3,f4⟩,ta⟩).toList) (by rw[<-hP.1,<-hP.2];rfl) ha;have od:=dm x (List.mem_of_getElem? hx);have Cm:=Me wd s i Mo w1 _ x (hS.fH.at hS.cK) ok (by omega) K5 od;have wg:=ok.pj od;obtain⟨s',Jd⟩:∃s',s'=s.pj x:=⟨_,rfl⟩;have PL:s'=(l.take (i+1)).foldl WP.pj WP.zero:=by rw[XU WP.pj WP.zero hx,<-hes,Jd]
  rw[<-Jd] at Cm wg;refine aaj Cm fun e w2 ⟨he,qc,eu,x8,hP',bV,vZ,Vm,Cc⟩=>?_
  have fE:=hN 0 _ nX;refine⟨_,he,aK aac aad Q w (bq [] []) eu (qc.D s'.seen.length) (bZ qc s' eu) (N1++[⟨b,z,0⟩]) B5,.tup [],_,[],[],rfl,rfl,rfl,rfl,Vm,hN,hS.Hf (qc.D s'.seen.length) (bZ qc s' eu) eu bV (fun k o hk=>.inl (hO k o hk)) Jb (fun r g p hg hp=>?_) (fun k o hk=>⟨vZ k o hk,x8.there hk⟩) bZ.loc x8.r x8.mo Cc,rfl,rfl,fun pr pe fin aj bm ai=>?_⟩
  ·match r,hg with
   |0,hg =>
    cases hg;rw[fE] at hp;cases hp;exact .inr fun j hj=>dH j hj
  have hO':∀k o,qc.D s'.seen.length k o->w.heap.size<=k:=fun k o h=>by
   rcases vZ k o h with h1|h1
   ·exact hO k o h1
   ·exact aaM hS.aM.size h1
  have YL:=x8.md;have Dp:pb=(qc.P 0).b/\py=(qc.P 0).o:=by rw[hP'];exact hP
  have yK:∀k o v,im k o=some v->eu k o=some v:=fun k o v h=>Vm _ _ _ (hold _ _ _ h)
  clear ha he hS hN fE x8 Cm bV vZ Vm Cc hP' K5 Ck dH
  conv=>cbv
  refine ai _ ?_;clear aj bm ai hH vo;refine X.lb ?_;refine X.drop 0 (by show 0<1;omega) ?_;show X (aK aac aad Q w (bq [] []) eu (qc.D s'.seen.length) (bZ qc s' eu) [] B5) _ _;have PX:iE (qc.P 0)=.pointer (some ⟨pb,py+0,none⟩):=by rw[Dp.1,Dp.2];rfl
  obtain⟨i1,KP⟩:∃k,k=i+1:=⟨_,rfl⟩;have KQ:IntKind.i64.wrap ((i:Int)+1)=(i1:Int):=by rw[KP];simp[aan,aal,aam];omega
  rw[<-KP] at wg PL;have Zo:(l.take i1).length=i1:=by rw[aay];omega
  have PK:=Ka (l.take i1);rw[<-PL] at PK;have dV:=PK.l';have dT:=PK.t;have dA:=PK.a;have K7:∀u∈l.take i1,u.Ok:=fun u hu=>dm u (List.mem_of_mem_take hu)
  obtain⟨tb,Gn⟩:∃b,b=s'.da:=⟨_,rfl⟩;obtain⟨nv,xH⟩:∃k,k=s'.l.length:=⟨_,rfl⟩;obtain⟨na,Dx⟩:∃k,k=s'.all.length:=⟨_,rfl⟩;have sH:=PK.w.nd;have qt:=wg.l;refine X.go iG 400 _ rfl aaf ?_
  conv=>arg 2;cbv
  refine X.cond rfl (fun _=>?_) (fun _=>?_)
  ·refine X.iA ([(60,.ao po i1 cp)]) ([]) iG 400 _ rfl aaf (fun pr pe fin aj bm ai=>?_)
   conv=>cbv
   refine⟨aj _ (uY rfl rfl KQ (by omega) aav aaz),ai _ _ ?_⟩;clear aj bm ai;refine X.call rfl rfl rfl rfl Tryz.call14 (fun N w1 args hN hS ha=>?_);obtain rfl:=fk (vs:=[.slice po i1 cp]) rfl ha;have Nb:=Qs (l.take i1) (ts.take i1) po cp eu w1 hS.cK ((W5.mono yK).take i1) K7 (by omega) (by omega);rw[Zo] at Nb;rw[Zo] at dV dT dA;rw[<-dV,<-dT] at Nb;refine aaj Nb fun e w2 ⟨⟨pV,UP,he,hm⟩,bV⟩=>?_
   rw[<-xH,<-Gn] at he;refine⟨_,he,Goes.cZ hN hS bV (r:=.tup [.ao pV nv UP,.bool (.v tb)]) rfl rfl (fun K_ K1=>?_)⟩;obtain⟨M1,U3⟩:∃M,M=bx eu w1 w2:=⟨_,rfl⟩;show X (aK aac aad Q w (bq [] []) (bx eu w1 w2) (qc.D s'.seen.length) (bZ qc s' eu) [] B5) _ _;rw[<-U3] at K_ K1 ⊢;have Nc:dC M1 pV UP 13 (s'.l.map aI.toD):=hm M1 K_ K1;clear ha he bV hS hN U3 K1 hm Nb;have hra:=fun(w1:World) (qo:∀k o v,eu k o=some v->w1.cell? ⟨k,o,none⟩=some v)=>Qq (l.take i1) (ts.take i1) po cp eu w1 qo ((W5.mono yK).take i1) K7 (by omega)
   rw[Zo,<-dA] at hra;have hrc:=fun(w1:World) (M:Mem) (h:dC M pV UP 13 (s'.l.map aI.toD)) (hM:∀k o v,M k o=some v->w1.cell? ⟨k,o,none⟩=some v)=>Qr s'.l pV UP key M w1 hM h (by omega)
   rw[<-xH] at hrc;refine X.go iG 400 _ rfl aaf ?_
   conv=>arg 2;cbv
   refine X.goN 5 [(67,.bool (.lit true)),(75,.ao po i1 cp),(77,.bool (.lit true)),(82,.bool (.v tb)),(84,.bool (.lit false)),(93,.bool (.lit true))] [] iG (.q 0 [2] (.q 2 [0,1] (.one 1 (.one 3 (.q 4 [0,1,2,3] (.q 5 [0,1,2,3,4] (.q 6 [0,1,2,3,4,5,8,9,10,11] (.q 8 [0,1,2,3,4,5,6,7,9,10] (.q 9 [0,1,2,3,4,5,6,7,8] (.q 10 [0,1,2,3,4,5,6,7,8,9] (.q 11 [0,1,2,3,4,5,6,7,8,9,10] (.one 7 (.one 12 (.one 13 (.q 14 [0,1,2,3,4,5,6,7,8,9,10,11,12,13] (.q 15 [0,1,2,3,4,5,6,7,8,9,10,11,12,13,14] (.q 16 [0,1,2,3,4,5,6,7,8,9,10,11,12,13,14,15] (.q 17 [0,1,2,3,4,5,6,7,8,9,10,11,12,13,14,15,16,19] (.q 19 [0,1,2,3,4,5,6,7,8,9,10,11,12,13,14,15,16,17,18] (.one 18 (.q 20 [0,1,2,3,4,5,6,7,8,9,10,11,12,13,14,15,16,17,18,19] (.q 21 [0,1,2,3,4,5,6,7,8,9,10,11,12,13,14,15,16,17,18,19,20] (.q 22 [0,1,2,3,4,5,6,7,8,9,10,11,12,13,14,15,16,17,18,19,20,21] (.q 23 [0,1,2,3,4,5,6,7,8,9,10,11,12,13,14,15,16,17,18,19,20,21,22,24,26,27] (.q 24 [0,1,2,3,4,5,6,7,8,9,10,11,12,13,14,15,16,17,18,19,20,21,22,23,26,27] (.q 26 [0,1,2,3,4,5,6,7,8,9,10,11,12,13,14,15,16,17,18,19,20,21,22,23,24,25,27] (.q 27 [0,1,2,3,4,5,6,7,8,9,10,11,12,13,14,15,16,17,18,19,20,21,22,23,24,25,26] (.one 25 (.one 28 (.one 29 (.q 30 [0,1,2,3,4,5,6,7,8,9,10,11,12,13,14,15,16,17,18,19,20,21,22,23,24,25,26,27,28,29] (.q 31 [0,1,2,3,4,5,6,7,8,9,10,11,12,13,14,15,16,17,18,19,20,21,22,23,24,25,26,27,28,29,30] (.nil))))))))))))))))))))))))))))))))) 97 [1,7,12,25,28] [] rfl (by kernel_rfl) (by kernel_rfl) (fun pr pe fin H aj bm ai hH=>?_)
   conv=>cbv
   have hB1:∀k o v,eu k o=some v->M1 k o=some v:=K_;refine hH _ _ _ ⟨_,_,_,_,_,rfl,rfl,rfl,rfl,Tryz.call10,fun N w1 args hN hS ha=>?_⟩;obtain rfl:=fk (vs:=[iE (qc.P 0)]) (by rw[PX];rfl) ha;refine aaj (ul qc s' i1 eu w1 (hS.fH.at fun k o v hk=>hS.cK _ _ _ (hB1 _ _ _ hk)) wg (by omega)) fun e w2 ⟨⟨p1,c1,he,dM⟩,bV⟩=>?_
   rw[<-xH] at he;obtain⟨M2,Ky⟩:∃M,M=bx M1 w1 w2:=⟨_,rfl⟩;have K8:∀k o v,M1 k o=some v->M2 k o=some v:=fun k o v h=>by rw[Ky];exact dE h
   have Rq:∀k o v,w1.heap.size<=k->w2.cell? ⟨k,o,none⟩=some v->M2 k o=some v:=fun k o v hk hc=>by rw[Ky];exact cA (fun k o v h=>(hS.bu bV).cK _ _ _ h) hk hc
   have Q_:∀k o v,eu k o=some v->M2 k o=some v:=fun k o v hk=>K8 _ _ _ (hB1 _ _ _ hk)
   have WZ:=dM M2 Q_ Rq;have Nc:=Nc.mono K8;refine⟨_,he,aK aac aad Q w (bq [] []) M2 (qc.D s'.seen.length) (bZ qc s' eu) [] B5,.ao p1 nv c1,_,[(67,.bool (.lit true)),(75,.ao po i1 cp),(77,.bool (.lit true)),(82,.bool (.v tb)),(84,.bool (.lit false)),(93,.bool (.lit true))],[],rfl,rfl,rfl,rfl,K8,hN,by rw[Ky];exact Sat.cZ hS (hS.bu bV),rfl,rfl,fun pr pe fin H aj bm ai hH=>?_⟩;clear ha he bV hS hN Ky Rq dM
   conv=>cbv
   refine⟨aj _ (.of aaA [.slice p1 nv c1,.slice pV nv UP] (.bool true) (fun _=>rfl) (fun _=>rfl) fun _ w1 bI=>by have h:=tE s'.l s'.l p1 pV c1 UP w1 (WZ.mono bI) (Nc.mono bI);rw[<-xH,bP rfl] at h;exact h),aj _ (uY rfl rfl KQ (by omega) aav aaz),?_⟩;refine hH _ _ _ ⟨_,_,_,_,_,rfl,rfl,rfl,rfl,Tryz.call15,fun N w1 args hN hS ha=>?_⟩;obtain rfl:=fk (vs:=[iE (qc.P 0)]) (by rw[PX];rfl) ha;refine aaj (BJ qc s' i1 eu w1 (hS.fH.at fun k o v hk=>hS.cK _ _ _ (Q_ _ _ _ hk)) wg (by omega)) fun e w2 ⟨⟨p2,c2,he,fM⟩,bV⟩=>?_
   rw[<-Dx] at he;obtain⟨M3,U4⟩:∃M,M=bx M2 w1 w2:=⟨_,rfl⟩;have wh:∀k o v,M2 k o=some v->M3 k o=some v:=fun k o v h=>by rw[U4];exact dE h
   have Rs:∀k o v,w1.heap.size<=k->w2.cell? ⟨k,o,none⟩=some v->M3 k o=some v:=fun k o v hk hc=>by rw[U4];exact cA (fun k o v h=>(hS.bu bV).cK _ _ _ h) hk hc
   have hB3:∀k o v,eu k o=some v->M3 k o=some v:=fun k o v hk=>wh _ _ _ (Q_ _ _ _ hk)
   have qy:=fM M3 hB3 Rs;have Nc:=Nc.mono wh;refine⟨_,he,aK aac aad Q w (bq [] []) M3 (qc.D s'.seen.length) (bZ qc s' eu) [] B5,.ao p2 na c2,_,[(67,.bool (.lit true)),(75,.ao po i1 cp),(77,.bool (.lit true)),(82,.bool (.v tb)),(84,.bool (.lit false)),(93,.bool (.lit true))],[],rfl,rfl,rfl,rfl,wh,hN,by rw[U4];exact Sat.cZ hS (hS.bu bV),rfl,rfl,fun pr pe fin H aj bm ai hH=>?_⟩;clear ha he bV hS hN U4 Rs fM
   conv=>cbv
   refine hH _ _ _ ⟨_,_,_,_,_,rfl,rfl,rfl,rfl,Tryz.call16,fun N w1 args hN hS ha=>?_⟩;obtain rfl:=fk (vs:=[.slice po i1 cp]) rfl ha;refine aaj (hra w1 fun k o v hk=>hS.cK _ _ _ (hB3 _ _ _ hk)) fun e w2 ⟨⟨p3,c3,he,Dw⟩,bV⟩=>?_
   rw[<-Dx] at he;obtain⟨M4,hM4⟩:∃M,M=bx M3 w1 w2:=⟨_,rfl⟩;have Gi:∀k o v,M3 k o=some v->M4 k o=some v:=fun k o v h=>by rw[hM4];exact dE h
   have Rt:∀k o v,w1.heap.size<=k->w2.cell? ⟨k,o,none⟩=some v->M4 k o=some v:=fun k o v hk hc=>by rw[hM4];exact cA (fun k o v h=>(hS.bu bV).cK _ _ _ h) hk hc
   have hB4:∀k o v,eu k o=some v->M4 k o=some v:=fun k o v hk=>Gi _ _ _ (hB3 _ _ _ hk)
   have hs3:=Dw M4 hB4 Rt;have qy:=qy.mono Gi;have Nc:=Nc.mono Gi;refine⟨_,he,aK aac aad Q w (bq [] []) M4 (qc.D s'.seen.length) (bZ qc s' eu) [] B5,.ao p3 na c3,_,[(67,.bool (.lit true)),(75,.ao po i1 cp),(77,.bool (.lit true)),(82,.bool (.v tb)),(84,.bool (.lit false)),(93,.bool (.lit true))],[],rfl,rfl,rfl,rfl,Gi,hN,by rw[hM4];exact Sat.cZ hS (hS.bu bV),rfl,rfl,fun pr pe fin H aj bm ai hH=>?_⟩;clear ha he bV hS hN hM4 Rt Dw
   conv=>cbv
   refine⟨aj _ (.of aaA [.slice p2 na c2,.slice p3 na c3] (.bool true) (fun _=>rfl) (fun _=>rfl) fun _ w1 bI=>by have h:=tE s'.all s'.all p2 p3 c2 c3 w1 (qy.mono bI) (hs3.mono bI);rw[<-Dx,bP rfl] at h;exact h),aj _ (fun _=>⟨Tryz.call13,fun N w1 args hN hS ha=>?_⟩),aj _ (QN iG rfl rfl rfl fun _ N v hv=>by rw[<-hv];cases tb<;>rfl),?_⟩
   ·obtain rfl:=fk (vs:=[iE (qc.P 0)]) (by rw[PX];rfl) ha
    exact(He qc s' eu w1 (hS.fH.at fun k o v hk=>hS.cK _ _ _ (hB4 _ _ _ hk))).mono fun e w2 ⟨he,bV⟩=>⟨_,he,by rw[<-Gn];rfl,bV⟩
   refine hH _ _ _ ⟨_,_,_,_,_,rfl,rfl,rfl,rfl,Tryz.call12,fun N w1 args hN hS ha=>?_⟩;obtain rfl:=fk (vs:=[iE (qc.P 0),.int .u8 key]) (by rw[PX];rfl) ha;refine aaj (J6 qc s' i1 eu w1 (hS.fH.at fun k o v hk=>hS.cK _ _ _ (hB4 _ _ _ hk)) wg (by omega) key) fun e w2 ⟨cc,HI,⟨p4,c4,he,M9⟩,bV⟩=>?_
   obtain⟨nc0,Rp⟩:∃k,k=cc.length:=⟨_,rfl⟩;rw[<-Rp] at he;obtain⟨M5,hM5⟩:∃M,M=bx M4 w1 w2:=⟨_,rfl⟩;have K9:∀k o v,M4 k o=some v->M5 k o=some v:=fun k o v h=>by rw[hM5];exact dE h
   have Ru:∀k o v,w1.heap.size<=k->w2.cell? ⟨k,o,none⟩=some v->M5 k o=some v:=fun k o v hk hc=>by rw[hM5];exact cA (fun k o v h=>(hS.bu bV).cK _ _ _ h) hk hc
   have hB5:∀k o v,eu k o=some v->M5 k o=some v:=fun k o v hk=>K9 _ _ _ (hB4 _ _ _ hk)
   have Zb:=M9 M5 hB5 Ru;have Nc:=Nc.mono K9;refine⟨_,he,aK aac aad Q w (bq [] []) M5 (qc.D s'.seen.length) (bZ qc s' eu) [] B5,.ao p4 nc0 c4,_,[(67,.bool (.lit true)),(75,.ao po i1 cp),(77,.bool (.lit true)),(82,.bool (.v tb)),(84,.bool (.lit false)),(93,.bool (.lit true))],[],rfl,rfl,rfl,rfl,K9,hN,by rw[hM5];exact Sat.cZ hS (hS.bu bV),rfl,rfl,fun pr pe fin H aj bm ai hH=>?_⟩;clear ha he bV hS hN hM5 Ru M9
   conv=>cbv
   refine hH _ _ _ ⟨_,_,_,_,_,rfl,rfl,rfl,rfl,Tryz.call17,fun N w1 args hN hS ha=>?_⟩;obtain rfl:=fk (vs:=[.slice pV nv UP,.int .u8 key]) rfl ha;refine aaj (hrc w1 M5 Nc hS.cK) fun e w2 ⟨⟨p5,c5,he,Vz⟩,bV⟩=>?_
   have hce:cc=nT s'.l key:=J5 HI (vN s'.l key) (aap.refl _) sH;rw[<-hce,<-Rp] at he;rw[<-hce] at Vz;obtain⟨M6,hM6⟩:∃M,M=bx M5 w1 w2:=⟨_,rfl⟩;have Gj:∀k o v,M5 k o=some v->M6 k o=some v:=fun k o v h=>by rw[hM6];exact dE h
   have Rv:∀k o v,w1.heap.size<=k->w2.cell? ⟨k,o,none⟩=some v->M6 k o=some v:=fun k o v hk hc=>by rw[hM6];exact cA (fun k o v h=>(hS.bu bV).cK _ _ _ h) hk hc
   have hs5:=Vz M6 Gj Rv;have Zb:=Zb.mono Gj;refine⟨_,he,aK aac aad Q w (bq [] []) M6 (qc.D s'.seen.length) (bZ qc s' eu) [] B5,.ao p5 nc0 c5,_,[(67,.bool (.lit true)),(75,.ao po i1 cp),(77,.bool (.lit true)),(82,.bool (.v tb)),(84,.bool (.lit false)),(93,.bool (.lit true))],[],rfl,rfl,rfl,rfl,Gj,hN,by rw[hM6];exact Sat.cZ hS (hS.bu bV),rfl,rfl,fun pr pe fin H aj bm ai hH=>?_⟩;clear ha he bV hS hN hM6 Rv Vz
   conv=>cbv
   refine⟨aj _ (.of aaA [.slice p4 nc0 c4,.slice p5 nc0 c5] (.bool true) (fun _=>rfl) (fun _=>rfl) fun _ w1 bI=>by have h:=tE cc cc p4 p5 c4 c5 w1 (Zb.mono bI) (hs5.mono bI);rw[<-Rp,bP rfl] at h;exact h),ai _ ?_⟩;clear aj bm ai hH;have hB6:∀k o v,eu k o=some v->M6 k o=some v:=fun k o v hk=>Gj _ _ _ (hB5 _ _ _ hk)
   refine X.go iG 400 _ rfl aaf ?_
   conv=>arg 2;cbv
   refine X.back (fun N a w' hN hf hS=>hq ⟨i1,qc,s',eu,by omega,wg,hO',YL,yK,Dp,PL⟩ a w' (by simp only;omega) ?_);exact At.mk (N0:=[]) (nil_le N) hf hS (aaw _) (by repeat first|exact trivial|refine Dm rfl rfl ?_|refine mi rfl rfl rfl ?_|refine mi rfl rfl (by simp (disch:=omega) [SV.den,SI.den,lv,lu]<;>omega) ?_) trivial hB6 hS.loc hS.fH
  ·refine X.go iG 400 _ rfl aaf ?_
   conv=>arg 2;cbv
   refine X.back (fun N a w' hN hf hS=>hq ⟨i1,qc,s',eu,by omega,wg,hO',YL,yK,Dp,PL⟩ a w' (by simp only;omega) ?_);exact At.eJ hf hS trivial
 simp only[SB.F,SI.den] at cJ;refine X.go iG 400 _ rfl aaf ?_
 conv=>arg 2;cbv
 refine X.call rfl rfl rfl rfl aaL (fun N w1 args hN hS ha=>?_);obtain rfl:([]:List Value)=args:=Option.some.inj ha;refine(vz w1).mono fun e w2 ⟨he,hc⟩=>⟨_,he,Goes.same (r:=.bool (.lit true)) hN hS hc rfl rfl ?_⟩
 refine X.go iG 400 _ rfl aaf ?_
 conv=>arg 2;cbv
 refine X.done iG rfl (fun N w' v hN hS hv=>?_);rw[hQ];exact⟨aw hv rfl,hS.aM.none⟩
end Go.Proofs.YthpbefahaghbjaaGreat
namespace Go.Proofs.YthpbefahaghbjaaGreat
open Go Go.bU Go.ChangeShapes Go.WideShapes Go.ChangeAt Go.RowKit
def Wv:List CK:=[.int .u8,.int .u64,.slice 5,.slice 5,.int .u8,.bool,.int .u64,.int .u8,.int .u32,.int .u64,.int .u8,.int .u32,.int .u8,.int .u64,.int .i64,.slice 2,.slice 89,.slice 96,.int .u64,.slice 99,.int .i64]
theorem ZI:eO aac 8 45=some Wv:=by kernel_rfl
structure aO.Wf (x:aO):Prop where
 c0:0<=x.c.c
 co:U8 x.c.c_
 cn:U8 x.c.new
 nd:0<=x.node
 kw:(Lit.int .u8 x.key).wf=true
 a1:(Lit.int .u64 x.s.acc.count).wf=true
 a2:(Lit.int .u8 x.s.acc.node).wf=true
 a3:(Lit.int .u32 x.s.acc.cR).wf=true
theorem Ph {m:Nat}{r:List Dt}(h:cB aac (m+2) Wv r):∃x:aO,r=x.toD/\x.Wf:=by
 unfold Wv at h;obtain⟨_,_,rfl,h1,h⟩:=cB.cons h;obtain⟨_,_,rfl,h2,h⟩:=cB.cons h;obtain⟨_,_,rfl,h3,h⟩:=cB.cons h;obtain⟨_,_,rfl,h4,h⟩:=cB.cons h;obtain⟨_,_,rfl,h5,h⟩:=cB.cons h;obtain⟨_,_,rfl,h6,h⟩:=cB.cons h;obtain⟨_,_,rfl,h7,h⟩:=cB.cons h;obtain⟨_,_,rfl,h8,h⟩:=cB.cons h;obtain⟨_,_,rfl,h9,h⟩:=cB.cons h;obtain⟨_,_,rfl,X1,h⟩:=cB.cons h;obtain⟨_,_,rfl,h11,h⟩:=cB.cons h;obtain⟨_,_,rfl,h12,h⟩:=cB.cons h;obtain⟨_,_,rfl,h13,h⟩:=cB.cons h;obtain⟨_,_,rfl,h14,h⟩:=cB.cons h;obtain⟨_,_,rfl,h15,h⟩:=cB.cons h;obtain⟨_,_,rfl,h16,h⟩:=cB.cons h;obtain⟨_,_,rfl,h17,h⟩:=cB.cons h;obtain⟨_,_,rfl,h18,h⟩:=cB.cons h;obtain⟨_,_,rfl,h19,h⟩:=cB.cons h;obtain⟨_,_,rfl,h20,h⟩:=cB.cons h;obtain⟨_,_,rfl,h21,h⟩:=cB.cons h;cases cB.nil h;obtain⟨z1,rfl,w1⟩:=h1.cG;obtain⟨z2,rfl,w2⟩:=h2.cG;obtain⟨l3,rfl,u3⟩:=Kq h3;obtain⟨l4,rfl,u4⟩:=Kq h4;obtain⟨z5,rfl,w5⟩:=h5.cG;obtain⟨z6,rfl⟩:=h6.BP;obtain⟨z7,rfl,w7⟩:=h7.cG;obtain⟨z8,rfl,w8⟩:=h8.cG;obtain⟨z9,rfl,w9⟩:=h9.cG;obtain⟨z10,rfl,w10⟩:=X1.cG;obtain⟨z11,rfl,w11⟩:=h11.cG;obtain⟨z12,rfl,w12⟩:=h12.cG;obtain⟨z13,rfl,w13⟩:=h13.cG;obtain⟨z14,rfl,w14⟩:=h14.cG;obtain⟨z15,rfl,w15⟩:=h15.cG;obtain⟨l1,rfl⟩:=F2 h16;obtain⟨l2,rfl⟩:=Kn h17;obtain⟨l5,rfl⟩:=Km h18;obtain⟨z19,rfl,w19⟩:=h19.cG;obtain⟨l6,rfl⟩:=Ko h20;obtain⟨z21,rfl,w21⟩:=h21.cG;have c0:0<=z2:=by
  simp[Lit.wf,IntKind.min,IntKind.max,aal,aam] at w2;omega
 exact⟨⟨z1,⟨z2,l3,l4⟩,z5,⟨z6,⟨z7,z8,z9⟩,⟨z10,z11,z12⟩,⟨z13,z14,z15,l1,l2,l5,z19,l6⟩⟩,z21⟩,rfl,⟨c0,u3,u4,(R4 w1).1,w5,w10,w11,w12⟩⟩
theorem JS {W:World}{v:Value}(h:pK aac W 22 v):∃(l:List aO) (p:Option Addr) (c:Nat),v=.slice p l.length c/\dC (wm W) p c 21 (l.map aO.toD)/\∀x∈l,x.Wf:=by
 obtain⟨⟨r,b0,h1⟩,_⟩:=id h;obtain⟨po,n,cp,rfl⟩:=okWide_slice aav h1;obtain⟨ds,k1,k2⟩:=h.nu (ks:=[.slice 45]) (by kernel_rfl) (m:=4) (by kernel_rfl);obtain⟨d,_,rfl,k3,k4⟩:=cB.cons k1;cases cB.nil k4;obtain⟨rows,rfl,k5⟩:=k3.tG ZI;obtain⟨l,rfl,hl⟩:=qC (f:=aO.toD) (p:=aO.Wf) (rows:=rows) fun r hr=>Ph (k5 r hr)
 obtain⟨v',_,k6,k7,k8⟩:=az.cons k2;obtain⟨p,c,rfl,hs⟩:=k7.list Wu;simp only[Value.cells,List.cons.injEq,Value.slice.injEq] at k6;obtain⟨⟨rfl,rfl,rfl⟩,_⟩:=k6;rw[List.length_map];exact⟨l,po,cp,rfl,hs,hl⟩
theorem Hb {l:List aO}(hl:∀x∈l,x.Wf)(hg:¬oX l):(∀x∈l,x.Ok)/\l.length<=60:=by
 refine⟨fun x hx=>?_,by have:¬60<l.length:=fun h=>hg (.inl h);omega⟩;have hb:¬x.big:=fun h=>by
  obtain⟨i,hi⟩:=List.mem_iff_getElem?.1 hx;exact hg (.inr ⟨i,x,hi,h⟩)
 have b1:¬20<x.c.c_.length:=fun h=>hb (.inl h)
 have b2:¬20<x.c.new.length:=fun h=>hb (.inr (.inl h))
 have b3:¬x.s.a8.iI:=fun h=>hb (.inr (.inr h))
 have hw:=hl x hx;exact⟨hw.c0,⟨by omega,fun z hz=>by have:=hw.co z hz;omega⟩,⟨by omega,fun z hz=>by have:=hw.cn z hz;omega⟩,b3,hw.nd,hw.kw,hw.a1,hw.a2,hw.a3⟩
theorem tK (W:World)(args:Array Value)(hn:args.size=2)(ha:∀(j:Nat) t v,aad.params[j]?=some t->args[j]?=some v->pK aac W t v) :
  Calls aac 5 args W fun e w'=>e=.returned (.bool true)/\aW (fun _ _=>False) W w':=by
 obtain⟨a,b,rfl⟩:∃a b,args=#[a,b]:=⟨args[0],args[1],by apply Array.ext (by simp[hn]);intro i h1 h2;match i,h1 with|0,_|1,_=>rfl⟩;obtain⟨l,p,cp,rfl,hs,hu⟩:=JS (ha 0 22 a rfl rfl);obtain⟨key,rfl,_⟩:=(ha 1 5 b rfl rfl).int Tryz.underlying5
 by_cases hg:oX l
 ·exact Im l p cp key W hs hg
 ·exact LW l p cp key W hs hg (Hb hu hg).1 (Hb hu hg).2
end Go.Proofs.YthpbefahaghbjaaGreat
