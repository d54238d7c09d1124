import Derived.Test.YthpbefahaghbjaaGreatRecordSameCalls
import Derived.Conc.LoneSelectN
import Derived.Test.YthpbefahaghbjaaGreatTab
import Derived.Test.YthpbefahaghbjaaGreatRg6
import Derived.Lib.Overlaps
open Go renaming Program→aal,Ending→aam
open Go.Proofs.Tryz renaming prog→aad,results22→aae,f22→aai,results44→aap,results45→aaq,results46→aar,results47→aas,underlying37→aax,func44→aaE,call44→aaF,func45→aaG,call45→aaH,func46→aaI,call46→aaJ,func47→aaK,call47→aaL,underlying36→aaS,underlying38→aaT,underlying39→aaU,sizeOf89→aaV
open Go.World renaming cell?→aaD
open List renaming getElem?_eq_getElem→aaf,eq_nil_of_length_eq_zero→aag,getElem?_eq_some_iff→aah,all_eq_true→aaj,getElem?_map→aak,mem_of_getElem?→aan,getElem?_set→aao,length_set→aay,mem_map→aaA,prefix_refl→aaB,length_append→aaC,getElem?_append_left→aaQ,mem_cons_self→aa1,mem_cons_of_mem→aa2,flatten_cons→aa3,range→aa4,getElem?_take→aa5,mem_or_eq_of_mem_set→aa6
open Nat renaming succ_pos→aac,eq_zero_or_pos→aau,lt_irrefl→aav,mul_comm→aaw,div_eq_of_lt→aaM,mod_eq_of_lt→aaN,div_add_mod→aaO,add_assoc→aaP,mul_add_div→aaW,mul_add_mod→aaX,succ_mul→aaY,mul_le_mul_right→aaZ,one_pos→aa0
open Option renaming map_eq_some_iff→aaz,bind_some→aaR,bind_eq_some_iff→aa7
set_option maxHeartbeats 16000000
set_option maxRecDepth 100000
set_option cbv.maxSteps 100000000
namespace Go.Proofs.YthpbefahaghbjaaGreat
open Go Go.bU Go.ChangeShapes Go.WideShapes Go.ChangeAt Go.RowKit
structure BF where
 (kind E9 to key kP:Int) (b:bW) (ok:Bool) (acc:bW) (a8:dJ) (next:bW) (max:Int)
def BF.toD (x:BF):List Dt:=.int .u8 x.kind::.int .u8 x.E9::.int .u8 x.to::.int .u8 x.key::.int .u64 x.kP::(x.b.toD++.bool x.ok::(x.acc.toD++(x.a8.toD++(x.next.toD++[.int .u64 x.max]))))
theorem _root_.Go.bU.kO.BP {P:aal}{m:Nat}{d:Dt}(h:kO P m .bool d):∃b,d=.bool b:=by
 cases m<;>simpa only [kO] using h
theorem BF.open {x:BF}{M:Mem}{vs:List Value}(h:az M x.toD vs):∃rv,vs=.int .u8 x.kind::.int .u8 x.E9::.int .u8 x.to::.int .u8 x.key::.int .u64 x.kP::.int .u64 x.b.count::.int .u8 x.b.node::.int .u32 x.b.cR::.bool x.ok::.int .u64 x.acc.count::.int .u8 x.acc.node::.int .u32 x.acc.cR::(rv++[.int .u64 x.next.count,.int .u8 x.next.node,.int .u32 x.next.cR,.int .u64 x.max])/\az M x.a8.toD rv:=by
 unfold BF.toD at h;obtain⟨_,_,rfl,h1,h⟩:=az.cons h;obtain⟨_,_,rfl,h2,h⟩:=az.cons h;obtain⟨_,_,rfl,h3,h⟩:=az.cons h;obtain⟨_,_,rfl,h4,h⟩:=az.cons h;obtain⟨_,_,rfl,h5,h⟩:=az.cons h;obtain⟨bv,_,rfl,h6,h⟩:=h.split;obtain⟨_,_,rfl,h7,h⟩:=az.cons h;obtain⟨av,_,rfl,h8,h⟩:=h.split;obtain⟨rv,_,rfl,h9,h⟩:=h.split;obtain⟨nv,_,rfl,X1,h⟩:=h.split;obtain⟨_,_,rfl,h11,h⟩:=az.cons h;have hn:=az.nil h;subst hn;rw[bj.cG h1,bj.cG h2,bj.cG h3,bj.cG h4,bj.cG h5,bj.BP h7,bj.cG h11,bW.open h6,bW.open h8,bW.open X1];exact⟨rv,by simp,h9⟩
structure OpP where
 (kind key ij seq sN ZU arg source inc cell:Int)
def OpP.aN (o:OpP):List Value:=[.int .u8 o.kind,.int .u8 o.key,.int .u8 o.ij,.int .u64 o.seq,.int .i64 o.sN,.int .i64 o.ZU,.int .i64 o.arg,.int .u8 o.source,.int .u64 o.inc,.int .u64 o.cell]
end Go.Proofs.YthpbefahaghbjaaGreat
namespace Go.bU
open Go
abbrev ZT:=List (Nat × SV)
def Gu:ZT->Nat->Option SV
 | [],_=>none
 |(k,v)::r,t=>bif Nat.beq k t then some v else Gu r t
def ZOk (P:aal):ZT->Prop
 | []=>True
 |(t,s)::r=>(∃z,(∀w,(zeroValue t).run P w=.ok z w)/\∀N,s.den N=some z)/\ZOk P r
theorem ZOk.look {P:aal}:∀{Z:ZT},ZOk P Z->∀{t:Nat} {s:SV},Gu Z t=some s->∃z,(∀w,(zeroValue t).run P w=.ok z w)/\∀N,s.den N=some z
 | [],_,t,s,h=>by simp[Gu] at h
 |(k,v)::r,⟨h1,h2⟩,t,s,h=>by
  simp only[Gu] at h
  by_cases hk:k=t
  ·subst hk;simp at h;subst h;exact h1
  ·simp only[gS hk,cond_false] at h;exact ZOk.look h2 h
end Go.bU
namespace Go.Proofs.YthpbefahaghbjaaGreat
open Go Go.bU
theorem Dj {P:aal}{F:FT}(hF:uo P F){g:Nat}{fi:FI}(hg:c8 P g fi)(m:Nat)(ss:List SV){args:Array Value}(ha:SV.ap [] ss=some args.toList)(hle:Nat.ble args.size fi.n=true){l:List SV}{v:Value}(hv:∀N,(bz l).den N=some v)
  (h:A0 fi.T fi.rs (oH F true m fi.T fi.B fi.n fi.rs [] [.code fi.body] ⟨kU ss 0,[]⟩)=some l) (w:World):Calls P g args w fun e w'=>e=.returned v/\aW (fun _ _=>False) w w' :=
 (aeD hF hg m true ss ha hle h w).mono fun e w' ⟨N,u,h1,h2,h3⟩=>by
  rw[hv N] at h2;cases h2;exact⟨h1,h3⟩
structure Js where
 (k s t y c b1 b2 b3:Int) (ok:Bool) (a1 a2 a3 rk ri rs:Int) (p1:Option Addr) (n1 c1:Nat) (p2:Option Addr) (n2 c2:Nat) (p3:Option Addr) (n3 c3:Nat) (rl:Int) (p4:Option Addr) (n4 c4:Nat) (x1 x2 x3 mx:Int)
def Js.aN (m:Js):List Value:=[.int .u8 m.k,.int .u8 m.s,.int .u8 m.t,.int .u8 m.y,.int .u64 m.c,.int .u64 m.b1,.int .u8 m.b2,.int .u32 m.b3,.bool m.ok,.int .u64 m.a1,.int .u8 m.a2,.int .u32 m.a3,.int .u8 m.rk,.int .u64 m.ri,.int .i64 m.rs,.slice m.p1 m.n1 m.c1,.slice m.p2 m.n2 m.c2,.slice m.p3 m.n3 m.c3,.int .u64 m.rl,.slice m.p4 m.n4 m.c4,.int .u64 m.x1,.int .u8 m.x2,.int .u32 m.x3,.int .u64 m.mx]
def Js.a8 (m:Js):List Value:=[.int .u8 m.rk,.int .u64 m.ri,.int .i64 m.rs,.slice m.p1 m.n1 m.c1,.slice m.p2 m.n2 m.c2,.slice m.p3 m.n3 m.c3,.int .u64 m.rl,.slice m.p4 m.n4 m.c4]
theorem BF.cells {x:BF}{M:Mem}{vs:List Value}(h:az M x.toD vs):∃m:Js,vs=m.aN/\az M x.a8.toD m.a8:=by
 obtain⟨rv,rfl,hr⟩:=BF.open h;obtain⟨p1,c1,p2,c2,p3,c3,p4,c4,rfl,_⟩:=dJ.open hr;exact⟨⟨x.kind,x.E9,x.to,x.key,x.kP,x.b.count,x.b.node,x.b.cR,x.ok,x.acc.count,x.acc.node,x.acc.cR,x.a8.kind,x.a8.inc,x.a8.state,p1,_,c1,p2,_,c2,p3,_,c3,x.a8.last,p4,_,c4,x.next.count,x.next.node,x.next.cR,x.max⟩,rfl,hr⟩
end Go.Proofs.YthpbefahaghbjaaGreat
namespace Go.Proofs.YthpbefahaghbjaaGreat
open Go Go.bU Go.Sort
theorem AO (a b c:Int)(w:World):Calls aad 19 #[.agg #[.int .u64 a,.int .u8 b,.int .u32 c]] w fun e w'=>e=.returned (.bool (decide (a=0/\b=0/\c=0)))/\aW (fun _ _=>False) w w':=by
 refine X.begin (rg:=[]) (N:=[]) (ss:=[.agg [.int .u64 (.v a),.int .u8 (.v b),.int .u32 (.v c)]]) Tryz.func19 rfl SE rfl rfl Sat.bp ?_;refine X.go Jy 400 _ rfl Tryz.results19 ?_
 conv=>arg 2;cbv
 refine X.done Jy rfl (fun N w' v hN hS hv=>⟨aw hv ?_,hS.aM.mono fun k o _ h=>aB h⟩);simp only[SB.den,SI.den]
 by_cases h1:a=0<;>by_cases h2:b=0<;>by_cases h3:c=0<;>simp[h1,h2,h3]
end Go.Proofs.YthpbefahaghbjaaGreat
namespace Go.bU
open Go
theorem QN {E:Env}{N0:af}{rg:List Rg}{f:Fr}{g:GK}{T:aQ}(hT:aq E.P T){op:BinOp}{t ty:TypeId}{x y:Operand}{sx sy r r0:SV}(hx:hY f g x=some sx)(hy:hY f g y=some sy)(h:O7 T op t sx sy=some r0)(hd:g.T->∀N v,r0.den N=some v->r.den N=some v):au E N0 rg f g (.binOp op t x y ty) r:=by
 intro ht N ρ o w ck cC df hV;have h1:=df _ _ hx;have h2:=df _ _ hy;obtain⟨v,hv,_⟩:=qk (w:=w) hT.ok h1 h2 h x y;refine⟨v,hd ht N v hv,fun w' _=>?_⟩;obtain⟨v',Nh,a6⟩:=qk (w:=w') hT.ok h1 h2 h x y;rw[hv] at Nh;cases Nh;have h3:((do eqGuard op t x y (ρ x) (ρ y);binOp op t (ρ x) (ρ y)):Sem Value).run E.P w'=.ok v w':=a6;simp only[execOp,cC];rw[Sem.run_bind,h3];rfl
end Go.bU
namespace Go.Proofs.YthpbefahaghbjaaGreat
open Go Go.bU Go.Sort
def InM (p:Option Addr)(n:Nat)(l:List Int)(M:Mem):Prop:=n=l.length/\(0<n->∃b y,p=some ⟨b,y,none⟩/\∀j,j<n->M b (y+j)=some (.int .u8 l[j]!))
theorem InM.nil (p:Option Addr)(M:Mem):InM p 0 [] M:=⟨rfl,fun h=>absurd h (aav 0)⟩
section
variable {P:aal} {fn:Func} {Q:aam->World->Prop} {w w':World} {im:Mem} {D:Nat->Nat->Prop} {Rr:World->Prop} {B:aH} {N:af} {rg tB:List Rg} {p1:aS} {g0 g1:Rg} {b y K n r:Nat} {cs lz:List SV} {v:Value}
end
end Go.Proofs.YthpbefahaghbjaaGreat
namespace Go.Proofs.YthpbefahaghbjaaGreat
open Go Go.bU
def a7 (vs:List Value):List SV:=vs.map .raw
theorem bN (vs:List Value):(a7 vs).length=vs.length:=by simp[a7]
theorem oF {vs:List Value}(h:vs.all bc=true):(a7 vs).all SV.one=true:=by
 rw[aaj] at h ⊢;intro c hc;obtain⟨v,hv,rfl⟩:=aaA.1 hc;rfl
theorem mh {vs:List Value}{c:SV}(hc:c∈a7 vs){N N':af}{v:Value}(h:c.den N=some v):c.den N'=some v:=by
 obtain⟨u,_,rfl⟩:=aaA.1 hc;exact h
theorem Hw (b y n cp:Nat)(vs:List Value)(w:World)(hn:vs.length=n*1)(h0:n≠0)(hle:n<=1000)(h1:vs.all bc=true)(hA:∀(j:Nat) (v:Value),vs[j]?=some v->w.cell? ⟨b,y+j,none⟩=some v) :
  Calls aad 44 #[.slice (some ⟨b,y,none⟩) n cp] w (gF (a7 vs) n 1 w):=by
 obtain⟨cs,dS⟩:∃cs,cs=a7 vs:=⟨_,rfl⟩;have hlen:cs.length=n*1:=by rw[dS,bN,hn]
 rw[<-dS];refine X.begin (rg:=[]) (N:=[]) (ss:=[.ao (some ⟨b,y,none⟩) n cp]) aaE rfl zG rfl rfl Sat.bp ?_;refine X.tN [(0,.val (.osl 0 0 n 1 (some cp)))] b y (cs:=cs) (by omega) (fun j x hj=>?_) (fun N hN=>?_) ?_
 ·rw[dS] at hj
  simp only[a7,aak,aaz] at hj;obtain⟨v,hv,rfl⟩:=hj;have ho:bc v=true:=aaj.1 h1 v (aan hv);exact⟨v,fun _=>by simp[SV.den,ho],kM (hA j v hv)⟩
 ·obtain rfl:N=[]:=aag hN
  refine⟨rfl,fun x h=>?_,trivial⟩
  simpa[SV.den,aS.cap] using h
 refine X.go iU 16 _ rfl aap ?_
 conv=>arg 2;cbv
 apply X.oD (T:=T44) iU
 ·exact du (te:=Mv) (new:=cs) (m:=n) rfl rfl rfl rfl rfl rfl rfl rfl (aY (g:=⟨false,cs,none⟩) rfl rfl rfl (by show cs.length=n*1;omega))
   (ie (te:=Mv) rfl h0 (bL (by decide) rfl (by show cs.length=n*1;omega) (by rw[dS];exact oF h1) (by show(2*(0+n)+256)*8<=_;omega) (by omega))) rfl
 refine X.go iU 400 _ rfl aap ?_
 conv=>arg 2;cbv
 refine X.done iU rfl (fun N w' v hN hS hv=>?_);exact jn hS (r:=2) rfl (by rw[hlen];omega) (aaB _) (fun c hc N N' v h=>mh (by rw[<-dS];exact hc) h) hv
theorem Eg (a:Addr)(cp:Nat)(w:World):Calls aad 44 #[.slice (some a) 0 cp] w (BH [] 0 w):=by
 refine X.begin (rg:=[]) (N:=[]) (ss:=[.ao (some a) 0 cp]) aaE rfl zG rfl rfl Sat.bp ?_;refine X.go iU 400 _ rfl aap ?_
 conv=>arg 2;cbv
 refine X.nU false rfl rfl rfl rfl aaS (fun N _ _=>⟨_,_,_,rfl,rfl⟩) rfl ?_;refine X.go iU 400 _ rfl aap ?_
 conv=>arg 2;cbv
 refine X.JR iU rfl rfl rfl rfl rfl rfl rfl rfl rfl rfl (by decide) rfl (by decide) rfl ?_;refine X.go iU 400 _ rfl aap ?_
 conv=>arg 2;cbv
 refine X.done iU rfl (fun N w' v hN hS hv=>?_);obtain⟨p,hp⟩:∃p,N[0]?=some p:=⟨_,aaf (by rw[hS.len];simp)⟩;simp only[bz,SV.den,hp,aS.cap,aA] at hv;exact⟨p.b,p.o+0,_,by rw[<-hv],fun h=>absurd h (aav 0),hS.lt 0 p hp,fun j c hj=>by simp at hj,hS.aM.none⟩
theorem Eh (cp:Nat)(w:World):Calls aad 44 #[.slice none 0 cp] w fun e w'=>e=.returned (.slice none 0 0)/\aW (fun _ _=>False) w w':=by
 refine X.begin (rg:=[]) (N:=[]) (ss:=[.ao none 0 cp]) aaE rfl zG rfl rfl Sat.bp ?_;refine X.go iU 400 _ rfl aap ?_
 conv=>arg 2;cbv
 refine X.nU true rfl rfl rfl rfl aaS (fun N _ _=>⟨_,_,_,rfl,rfl⟩) rfl ?_;refine X.go iU 400 _ rfl aap ?_
 conv=>arg 2;cbv
 refine X.done iU rfl (fun N w' v hN hS hv=>?_);simp[bz,SV.den,bc] at hv;exact⟨by rw[<-hv],hS.aM.none⟩
theorem Ei {E:Env}{N0:af}{rg:List Rg}{f:Fr}{po:Option Addr}{n co:Nat}{vs:List Value}{t:Nat}{cl:List SV}(hP:E.P=aad)(jZ:cl=a7 vs)(hp:po≠none)(hle:n<=1000)(hn:vs.length=n*1)(h1:vs.all bc=true)(hA:0<n->∃b y,po=some ⟨b,y,none⟩/\∀w:World,(∀k o v,E.im k o=some v->w.cell? ⟨k,o,none⟩=some v)->∀(j:Nat) (v:Value),vs[j]?=some v->w.cell? ⟨b,y+j,none⟩=some v)(rJ:ev f (.tmp t)=some (.ao po n co)) :
  be E N0 rg f (.call { callee:=.value (.func 44),args:=#[.tmp t],argTypes:=#[36] }) (.osl rg.length 0 n 1 none) (rg++[⟨decide (n≠0),cl,none⟩]):=by
 by_cases h0:n=0
 ·subst h0
  have ho:vs=[]:=aag (by omega);subst ho;obtain rfl:cl=[]:=jZ;refine be.call (l:=[.ao po 0 co]) (by simp[tU,rJ]) (by rw[hP];exact aaF) fun N w1 args hN hS ha=>?_
  simp only[SV.ap,SV.den,aA] at ha;rw[<-ha,hP];cases po with
  |none=>exact absurd rfl hp
  |some a =>
   refine(Eg a co w1).mono fun e w' hr=>?_
   obtain⟨N',v,h1,h2,h3,h4⟩:=hr.Qu (sz:=1) (by decide) hS;exact⟨v,h1,N',h2,h3,h4⟩
 ·rw[decide_eq_true h0]
  obtain⟨b,y,rfl,hB⟩:=hA (by omega);refine be.fresh (l:=[.ao (some ⟨b,y,none⟩) n co]) (by simp[tU,rJ]) (by rw[hP];exact aaF) fun N w1 args hN hS ha=>?_
  simp only[SV.ap,SV.den,aA] at ha;rw[<-ha,hP,jZ];exact Hw b y n co vs w1 hn h0 hle h1 (hB w1 hS.cK)
theorem Aa (b y n cp:Nat)(vs:List Value)(w:World)(hn:vs.length=n*4)(h0:n≠0)(hle:n<=1000)(h1:vs.all bc=true)(hA:∀(j:Nat) (v:Value),vs[j]?=some v->w.cell? ⟨b,y+j,none⟩=some v) :
  Calls aad 45 #[.slice (some ⟨b,y,none⟩) n cp] w (gF (a7 vs) n 4 w):=by
 obtain⟨cs,dS⟩:∃cs,cs=a7 vs:=⟨_,rfl⟩;have hlen:cs.length=n*4:=by rw[dS,bN,hn]
 rw[<-dS];refine X.begin (rg:=[]) (N:=[]) (ss:=[.ao (some ⟨b,y,none⟩) n cp]) aaG rfl zH rfl rfl Sat.bp ?_;refine X.tN [(0,.val (.osl 0 0 n 4 (some cp)))] b y (cs:=cs) (by omega) (fun j x hj=>?_) (fun N hN=>?_) ?_
 ·rw[dS] at hj
  simp only[a7,aak,aaz] at hj;obtain⟨v,hv,rfl⟩:=hj;have ho:bc v=true:=aaj.1 h1 v (aan hv);exact⟨v,fun _=>by simp[SV.den,ho],kM (hA j v hv)⟩
 ·obtain rfl:N=[]:=aag hN
  refine⟨rfl,fun x h=>?_,trivial⟩
  simpa[SV.den,aS.cap] using h
 refine X.go iV 16 _ rfl aaq ?_
 conv=>arg 2;cbv
 apply X.oD (T:=T45) iV
 ·exact du (te:=A_) (new:=cs) (m:=n) rfl rfl rfl rfl rfl rfl rfl rfl (aY (g:=⟨false,cs,none⟩) rfl rfl rfl (by show cs.length=n*4;omega))
   (ie (te:=A_) rfl h0 (bL (by decide) rfl (by show cs.length=n*4;omega) (by rw[dS];exact oF h1) (by show(2*(0+n)+256)*32<=_;omega) (by omega))) rfl
 refine X.go iV 400 _ rfl aaq ?_
 conv=>arg 2;cbv
 refine X.done iV rfl (fun N w' v hN hS hv=>?_);exact jn hS (r:=2) rfl (by rw[hlen];omega) (aaB _) (fun c hc N N' v h=>mh (by rw[<-dS];exact hc) h) hv
theorem xP (a:Addr)(cp:Nat)(w:World):Calls aad 45 #[.slice (some a) 0 cp] w (BH [] 0 w):=by
 refine X.begin (rg:=[]) (N:=[]) (ss:=[.ao (some a) 0 cp]) aaG rfl zH rfl rfl Sat.bp ?_;refine X.go iV 400 _ rfl aaq ?_
 conv=>arg 2;cbv
 refine X.nU false rfl rfl rfl rfl aaT (fun N _ _=>⟨_,_,_,rfl,rfl⟩) rfl ?_;refine X.go iV 400 _ rfl aaq ?_
 conv=>arg 2;cbv
 refine X.JR iV rfl rfl rfl rfl rfl rfl rfl rfl rfl rfl (by decide) rfl (by decide) rfl ?_;refine X.go iV 400 _ rfl aaq ?_
 conv=>arg 2;cbv
 refine X.done iV rfl (fun N w' v hN hS hv=>?_);obtain⟨p,hp⟩:∃p,N[0]?=some p:=⟨_,aaf (by rw[hS.len];simp)⟩;simp only[bz,SV.den,hp,aS.cap,aA] at hv;exact⟨p.b,p.o+0,_,by rw[<-hv],fun h=>absurd h (aav 0),hS.lt 0 p hp,fun j c hj=>by simp at hj,hS.aM.none⟩
theorem xQ (cp:Nat)(w:World):Calls aad 45 #[.slice none 0 cp] w fun e w'=>e=.returned (.slice none 0 0)/\aW (fun _ _=>False) w w':=by
 refine X.begin (rg:=[]) (N:=[]) (ss:=[.ao none 0 cp]) aaG rfl zH rfl rfl Sat.bp ?_;refine X.go iV 400 _ rfl aaq ?_
 conv=>arg 2;cbv
 refine X.nU true rfl rfl rfl rfl aaT (fun N _ _=>⟨_,_,_,rfl,rfl⟩) rfl ?_;refine X.go iV 400 _ rfl aaq ?_
 conv=>arg 2;cbv
 refine X.done iV rfl (fun N w' v hN hS hv=>?_);simp[bz,SV.den,bc] at hv;exact⟨by rw[<-hv],hS.aM.none⟩
theorem xR {E:Env}{N0:af}{rg:List Rg}{f:Fr}{po:Option Addr}{n co:Nat}{vs:List Value}{t:Nat}{cl:List SV}(hP:E.P=aad)(jZ:cl=a7 vs)(hp:po≠none)(hle:n<=1000)(hn:vs.length=n*4)(h1:vs.all bc=true)(hA:0<n->∃b y,po=some ⟨b,y,none⟩/\∀w:World,(∀k o v,E.im k o=some v->w.cell? ⟨k,o,none⟩=some v)->∀(j:Nat) (v:Value),vs[j]?=some v->w.cell? ⟨b,y+j,none⟩=some v)(rJ:ev f (.tmp t)=some (.ao po n co)) :
  be E N0 rg f (.call { callee:=.value (.func 45),args:=#[.tmp t],argTypes:=#[38] }) (.osl rg.length 0 n 4 none) (rg++[⟨decide (n≠0),cl,none⟩]):=by
 by_cases h0:n=0
 ·subst h0
  have ho:vs=[]:=aag (by omega);subst ho;obtain rfl:cl=[]:=jZ;refine be.call (l:=[.ao po 0 co]) (by simp[tU,rJ]) (by rw[hP];exact aaH) fun N w1 args hN hS ha=>?_
  simp only[SV.ap,SV.den,aA] at ha;rw[<-ha,hP];cases po with
  |none=>exact absurd rfl hp
  |some a =>
   refine(xP a co w1).mono fun e w' hr=>?_
   obtain⟨N',v,h1,h2,h3,h4⟩:=hr.Qu (sz:=4) (by decide) hS;exact⟨v,h1,N',h2,h3,h4⟩
 ·rw[decide_eq_true h0]
  obtain⟨b,y,rfl,hB⟩:=hA (by omega);refine be.fresh (l:=[.ao (some ⟨b,y,none⟩) n co]) (by simp[tU,rJ]) (by rw[hP];exact aaH) fun N w1 args hN hS ha=>?_
  simp only[SV.ap,SV.den,aA] at ha;rw[<-ha,hP,jZ];exact Aa b y n co vs w1 hn h0 hle h1 (hB w1 hS.cK)
theorem Ae (b y n cp:Nat)(vs:List Value)(w:World)(hn:vs.length=n*3)(h0:n≠0)(hle:n<=1000)(h1:vs.all bc=true)(hA:∀(j:Nat) (v:Value),vs[j]?=some v->w.cell? ⟨b,y+j,none⟩=some v) :
  Calls aad 46 #[.slice (some ⟨b,y,none⟩) n cp] w (gF (a7 vs) n 3 w):=by
 obtain⟨cs,dS⟩:∃cs,cs=a7 vs:=⟨_,rfl⟩;have hlen:cs.length=n*3:=by rw[dS,bN,hn]
 rw[<-dS];refine X.begin (rg:=[]) (N:=[]) (ss:=[.ao (some ⟨b,y,none⟩) n cp]) aaI rfl zI rfl rfl Sat.bp ?_;refine X.tN [(0,.val (.osl 0 0 n 3 (some cp)))] b y (cs:=cs) (by omega) (fun j x hj=>?_) (fun N hN=>?_) ?_
 ·rw[dS] at hj
  simp only[a7,aak,aaz] at hj;obtain⟨v,hv,rfl⟩:=hj;have ho:bc v=true:=aaj.1 h1 v (aan hv);exact⟨v,fun _=>by simp[SV.den,ho],kM (hA j v hv)⟩
 ·obtain rfl:N=[]:=aag hN
  refine⟨rfl,fun x h=>?_,trivial⟩
  simpa[SV.den,aS.cap] using h
 refine X.go iW 16 _ rfl aar ?_
 conv=>arg 2;cbv
 apply X.oD (T:=T46) iW
 ·exact du (te:=Ba) (new:=cs) (m:=n) rfl rfl rfl rfl rfl rfl rfl rfl (aY (g:=⟨false,cs,none⟩) rfl rfl rfl (by show cs.length=n*3;omega))
   (ie (te:=Ba) rfl h0 (bL (by decide) rfl (by show cs.length=n*3;omega) (by rw[dS];exact oF h1) (by show(2*(0+n)+256)*24<=_;omega) (by omega))) rfl
 refine X.go iW 400 _ rfl aar ?_
 conv=>arg 2;cbv
 refine X.done iW rfl (fun N w' v hN hS hv=>?_);exact jn hS (r:=2) rfl (by rw[hlen];omega) (aaB _) (fun c hc N N' v h=>mh (by rw[<-dS];exact hc) h) hv
theorem xV (a:Addr)(cp:Nat)(w:World):Calls aad 46 #[.slice (some a) 0 cp] w (BH [] 0 w):=by
 refine X.begin (rg:=[]) (N:=[]) (ss:=[.ao (some a) 0 cp]) aaI rfl zI rfl rfl Sat.bp ?_;refine X.go iW 400 _ rfl aar ?_
 conv=>arg 2;cbv
 refine X.nU false rfl rfl rfl rfl aaU (fun N _ _=>⟨_,_,_,rfl,rfl⟩) rfl ?_;refine X.go iW 400 _ rfl aar ?_
 conv=>arg 2;cbv
 refine X.JR iW rfl rfl rfl rfl rfl rfl rfl rfl rfl rfl (by decide) rfl (by decide) rfl ?_;refine X.go iW 400 _ rfl aar ?_
 conv=>arg 2;cbv
 refine X.done iW rfl (fun N w' v hN hS hv=>?_);obtain⟨p,hp⟩:∃p,N[0]?=some p:=⟨_,aaf (by rw[hS.len];simp)⟩;simp only[bz,SV.den,hp,aS.cap,aA] at hv;exact⟨p.b,p.o+0,_,by rw[<-hv],fun h=>absurd h (aav 0),hS.lt 0 p hp,fun j c hj=>by simp at hj,hS.aM.none⟩
theorem xW (cp:Nat)(w:World):Calls aad 46 #[.slice none 0 cp] w fun e w'=>e=.returned (.slice none 0 0)/\aW (fun _ _=>False) w w':=by
 refine X.begin (rg:=[]) (N:=[]) (ss:=[.ao none 0 cp]) aaI rfl zI rfl rfl Sat.bp ?_;refine X.go iW 400 _ rfl aar ?_
 conv=>arg 2;cbv
 refine X.nU true rfl rfl rfl rfl aaU (fun N _ _=>⟨_,_,_,rfl,rfl⟩) rfl ?_;refine X.go iW 400 _ rfl aar ?_
 conv=>arg 2;cbv
 refine X.done iW rfl (fun N w' v hN hS hv=>?_);simp[bz,SV.den,bc] at hv;exact⟨by rw[<-hv],hS.aM.none⟩
theorem xX {E:Env}{N0:af}{rg:List Rg}{f:Fr}{po:Option Addr}{n co:Nat}{vs:List Value}{t:Nat}{cl:List SV}(hP:E.P=aad)(jZ:cl=a7 vs)(hp:po≠none)(hle:n<=1000)(hn:vs.length=n*3)(h1:vs.all bc=true)(hA:0<n->∃b y,po=some ⟨b,y,none⟩/\∀w:World,(∀k o v,E.im k o=some v->w.cell? ⟨k,o,none⟩=some v)->∀(j:Nat) (v:Value),vs[j]?=some v->w.cell? ⟨b,y+j,none⟩=some v)(rJ:ev f (.tmp t)=some (.ao po n co)) :
  be E N0 rg f (.call { callee:=.value (.func 46),args:=#[.tmp t],argTypes:=#[39] }) (.osl rg.length 0 n 3 none) (rg++[⟨decide (n≠0),cl,none⟩]):=by
 by_cases h0:n=0
 ·subst h0
  have ho:vs=[]:=aag (by omega);subst ho;obtain rfl:cl=[]:=jZ;refine be.call (l:=[.ao po 0 co]) (by simp[tU,rJ]) (by rw[hP];exact aaJ) fun N w1 args hN hS ha=>?_
  simp only[SV.ap,SV.den,aA] at ha;rw[<-ha,hP];cases po with
  |none=>exact absurd rfl hp
  |some a =>
   refine(xV a co w1).mono fun e w' hr=>?_
   obtain⟨N',v,h1,h2,h3,h4⟩:=hr.Qu (sz:=3) (by decide) hS;exact⟨v,h1,N',h2,h3,h4⟩
 ·rw[decide_eq_true h0]
  obtain⟨b,y,rfl,hB⟩:=hA (by omega);refine be.fresh (l:=[.ao (some ⟨b,y,none⟩) n co]) (by simp[tU,rJ]) (by rw[hP];exact aaJ) fun N w1 args hN hS ha=>?_
  simp only[SV.ap,SV.den,aA] at ha;rw[<-ha,hP,jZ];exact Ae b y n co vs w1 hn h0 hle h1 (hB w1 hS.cK)
theorem Ac (b y n cp:Nat)(vs:List Value)(w:World)(hn:vs.length=n*6)(h0:n≠0)(hle:n<=1000)(h1:vs.all bc=true)(hA:∀(j:Nat) (v:Value),vs[j]?=some v->w.cell? ⟨b,y+j,none⟩=some v) :
  Calls aad 47 #[.slice (some ⟨b,y,none⟩) n cp] w (gF (a7 vs) n 6 w):=by
 obtain⟨cs,dS⟩:∃cs,cs=a7 vs:=⟨_,rfl⟩;have hlen:cs.length=n*6:=by rw[dS,bN,hn]
 rw[<-dS];refine X.begin (rg:=[]) (N:=[]) (ss:=[.ao (some ⟨b,y,none⟩) n cp]) aaK rfl zJ rfl rfl Sat.bp ?_;refine X.tN [(0,.val (.osl 0 0 n 6 (some cp)))] b y (cs:=cs) (by omega) (fun j x hj=>?_) (fun N hN=>?_) ?_
 ·rw[dS] at hj
  simp only[a7,aak,aaz] at hj;obtain⟨v,hv,rfl⟩:=hj;have ho:bc v=true:=aaj.1 h1 v (aan hv);exact⟨v,fun _=>by simp[SV.den,ho],kM (hA j v hv)⟩
 ·obtain rfl:N=[]:=aag hN
  refine⟨rfl,fun x h=>?_,trivial⟩
  simpa[SV.den,aS.cap] using h
 refine X.go iX 16 _ rfl aas ?_
 conv=>arg 2;cbv
 apply X.oD (T:=T47) iX
 ·exact du (te:=yw) (new:=cs) (m:=n) rfl rfl rfl rfl rfl rfl rfl rfl (aY (g:=⟨false,cs,none⟩) rfl rfl rfl (by show cs.length=n*6;omega))
   (ie (te:=yw) rfl h0 (bL (by decide) rfl (by show cs.length=n*6;omega) (by rw[dS];exact oF h1) (by show(2*(0+n)+256)*64<=_;omega) (by omega))) rfl
 refine X.go iX 400 _ rfl aas ?_
 conv=>arg 2;cbv
 refine X.done iX rfl (fun N w' v hN hS hv=>?_);exact jn hS (r:=2) rfl (by rw[hlen];omega) (aaB _) (fun c hc N N' v h=>mh (by rw[<-dS];exact hc) h) hv
theorem xS (a:Addr)(cp:Nat)(w:World):Calls aad 47 #[.slice (some a) 0 cp] w (BH [] 0 w):=by
 refine X.begin (rg:=[]) (N:=[]) (ss:=[.ao (some a) 0 cp]) aaK rfl zJ rfl rfl Sat.bp ?_;refine X.go iX 400 _ rfl aas ?_
 conv=>arg 2;cbv
 refine X.nU false rfl rfl rfl rfl aax (fun N _ _=>⟨_,_,_,rfl,rfl⟩) rfl ?_;refine X.go iX 400 _ rfl aas ?_
 conv=>arg 2;cbv
 refine X.JR iX rfl rfl rfl rfl rfl rfl rfl rfl rfl rfl (by decide) rfl (by decide) rfl ?_;refine X.go iX 400 _ rfl aas ?_
 conv=>arg 2;cbv
 refine X.done iX rfl (fun N w' v hN hS hv=>?_);obtain⟨p,hp⟩:∃p,N[0]?=some p:=⟨_,aaf (by rw[hS.len];simp)⟩;simp only[bz,SV.den,hp,aS.cap,aA] at hv;exact⟨p.b,p.o+0,_,by rw[<-hv],fun h=>absurd h (aav 0),hS.lt 0 p hp,fun j c hj=>by simp at hj,hS.aM.none⟩
theorem xT (cp:Nat)(w:World):Calls aad 47 #[.slice none 0 cp] w fun e w'=>e=.returned (.slice none 0 0)/\aW (fun _ _=>False) w w':=by
 refine X.begin (rg:=[]) (N:=[]) (ss:=[.ao none 0 cp]) aaK rfl zJ rfl rfl Sat.bp ?_;refine X.go iX 400 _ rfl aas ?_
 conv=>arg 2;cbv
 refine X.nU true rfl rfl rfl rfl aax (fun N _ _=>⟨_,_,_,rfl,rfl⟩) rfl ?_;refine X.go iX 400 _ rfl aas ?_
 conv=>arg 2;cbv
 refine X.done iX rfl (fun N w' v hN hS hv=>?_);simp[bz,SV.den,bc] at hv;exact⟨by rw[<-hv],hS.aM.none⟩
theorem xU {E:Env}{N0:af}{rg:List Rg}{f:Fr}{po:Option Addr}{n co:Nat}{vs:List Value}{t:Nat}{cl:List SV}(hP:E.P=aad)(jZ:cl=a7 vs)(hp:po≠none)(hle:n<=1000)(hn:vs.length=n*6)(h1:vs.all bc=true)(hA:0<n->∃b y,po=some ⟨b,y,none⟩/\∀w:World,(∀k o v,E.im k o=some v->w.cell? ⟨k,o,none⟩=some v)->∀(j:Nat) (v:Value),vs[j]?=some v->w.cell? ⟨b,y+j,none⟩=some v)(rJ:ev f (.tmp t)=some (.ao po n co)) :
  be E N0 rg f (.call { callee:=.value (.func 47),args:=#[.tmp t],argTypes:=#[37] }) (.osl rg.length 0 n 6 none) (rg++[⟨decide (n≠0),cl,none⟩]):=by
 by_cases h0:n=0
 ·subst h0
  have ho:vs=[]:=aag (by omega);subst ho;obtain rfl:cl=[]:=jZ;refine be.call (l:=[.ao po 0 co]) (by simp[tU,rJ]) (by rw[hP];exact aaL) fun N w1 args hN hS ha=>?_
  simp only[SV.ap,SV.den,aA] at ha;rw[<-ha,hP];cases po with
  |none=>exact absurd rfl hp
  |some a =>
   refine(xS a co w1).mono fun e w' hr=>?_
   obtain⟨N',v,h1,h2,h3,h4⟩:=hr.Qu (sz:=6) (by decide) hS;exact⟨v,h1,N',h2,h3,h4⟩
 ·rw[decide_eq_true h0]
  obtain⟨b,y,rfl,hB⟩:=hA (by omega);refine be.fresh (l:=[.ao (some ⟨b,y,none⟩) n co]) (by simp[tU,rJ]) (by rw[hP];exact aaL) fun N w1 args hN hS ha=>?_
  simp only[SV.ap,SV.den,aA] at ha;rw[<-ha,hP,jZ];exact Ac b y n co vs w1 hn h0 hle h1 (hB w1 hS.cK)
end Go.Proofs.YthpbefahaghbjaaGreat
namespace Go.bU
open Go
theorem ew {α:Type}{K:Nat}(hK:0<K):∀{bC:List (List α)},(∀v∈bC,v.length=K)->∀(j:Nat),bC.flatten[j]?=(bC[j / K]?).bind fun vs=>vs[j % K]?
 | [],_,j=>by simp
 |a::l,h,j=>by
  have ha:a.length=K:=h a aa1;have ih:=ew hK (bC:=l) fun v hv=>h v (aa2 _ hv)
  rw[aa3]
  by_cases hj:j<K
  ·rw[aaQ (by omega),aaM hj,aaN hj]
   rfl
  ·obtain⟨m,rfl⟩:∃m,j=m+K:=⟨j-K,by omega⟩
   rw[List.getElem?_append_right (by omega),ha,Nat.add_sub_cancel,ih m,Nat.add_div_right _ hK,Nat.add_mod_right];rfl
theorem bO {α:Type}{K:Nat}:∀{bC:List (List α)},(∀v∈bC,v.length=K)->bC.flatten.length=bC.length*K
 | [],_=>by simp
 |a::l,h=>by
  rw[aa3,aaC,bO fun v hv=>h v (aa2 _ hv),h a aa1,List.length_cons,Nat.add_mul];omega
theorem dC.rows {α:Type}{f:α->List Dt}{l:List α}{M:Mem}{p:Option Addr}{c K:Nat}(hs:dC M p c K (l.map f))(hK:∀x:α,∀vs,az M (f x) vs->vs.length=K) :
  ∃bC:List (List Value),bC.length=l.length/\(∀v∈bC,v.length=K)/\(∀(i:Nat) (x:α),l[i]?=some x->∃vs,bC[i]?=some vs/\az M (f x) vs) /\
   (0<l.length->∃b y,p=some ⟨b,y,none⟩/\∀(i:Nat) (vs:List Value),bC[i]?=some vs->∀(j:Nat) (v:Value),vs[j]?=some v->M b (y+i*K+j)=some v):=by
 obtain⟨_,h|⟨b,y,hp,h⟩⟩:=hs
 ·have hl:l=[]:=List.map_eq_nil_iff.1 h
  subst hl;exact⟨[],rfl,fun v hv=>by simp at hv,fun i x hx=>by simp at hx,fun h=>absurd h (aav 0)⟩
 ·have bV:∀i:Nat,∃vs:List Value,∀x,l[i]?=some x->az M (f x) vs/\∀(j:Nat) (v:Value),vs[j]?=some v->M b (y+i*K+j)=some v:=fun i=>by
   cases hx:l[i]? with
   |none=>exact⟨[],fun x e=>by cases e⟩
   |some x =>
    obtain⟨vs,h1,h2⟩:=h i (f x) (by rw[aak,hx];rfl);exact⟨vs,fun x' e=>by cases e;exact⟨h1,h2⟩⟩
  obtain⟨g,hg⟩:=Classical.axiomOfChoice bV;have ef:∀i x,l[i]?=some x->((aa4 l.length).map g)[i]?=some (g i):=fun i x hx=>by
   have:=(aah.1 hx).1;simp[this]
  refine⟨(aa4 l.length).map g,by simp,fun v hv=>?_,fun i x hx=>⟨g i,ef i x hx,(hg i x hx).1⟩,fun _=>⟨b,y,hp,fun i vs hi j v hj=>?_⟩⟩
  ·obtain⟨i,hi,rfl⟩:=aaA.1 hv
   have hi:i<l.length:=List.mem_range.1 hi;exact hK l[i] _ (hg i l[i] (aaf hi)).1
  ·have yc:i<l.length:=by
    have:=(aah.1 hi).1
    simpa using this
   have e:=ef i l[i] (aaf yc);rw[e] at hi;cases hi;exact(hg i l[i] (aaf yc)).2 j v hj
theorem dC.of {α:Type}{f:α->List Dt}{l:List α}{M:Mem}{p:Option Addr}{c K:Nat}{bC:List (List Value)}(hc:l.length<=c)(hm:l.length<=maxLen)(hl:bC.length=l.length)(hr:∀(i:Nat) (x:α),l[i]?=some x->∃vs,bC[i]?=some vs/\az M (f x) vs)
  (hM:0<l.length->∃b y,p=some ⟨b,y,none⟩/\∀(i:Nat) (vs:List Value),bC[i]?=some vs->∀(j:Nat) (v:Value),vs[j]?=some v->M b (y+i*K+j)=some v):dC M p c K (l.map f):=by
 refine⟨⟨by simpa using hc,by simpa using hm⟩,?_⟩
 by_cases h0:l=[]
 ·exact .inl (by simp[h0])
 ·obtain⟨b,y,hp,h⟩:=hM (List.length_pos_iff.2 h0)
  refine .inr ⟨b,y,hp,fun i d hd=>?_⟩;rw[aak,aaz] at hd;obtain⟨x,hx,rfl⟩:=hd;obtain⟨vs,h1,h2⟩:=hr i x hx;exact⟨vs,h2,h i vs h1⟩
end Go.bU
namespace Go.Proofs.YthpbefahaghbjaaGreat
open Go Go.bU
theorem l8 {x:Int}{M:Mem}{vs:List Value}(h:az M (jI x) vs):vs.length=1/\vs.all bc=true/\∀M',az M' (jI x) vs:=by
 rw[jI.open h];exact⟨rfl,rfl,fun M'=>by simp[jI,az,bj]⟩
theorem sT {x:ek}{M:Mem}{vs:List Value}(h:az M x.toD vs):vs.length=4/\vs.all bc=true/\∀M',az M' x.toD vs:=by
 rw[ek.open h];exact⟨rfl,rfl,fun M'=>by simp[ek.toD,az,bj]⟩
theorem tr {x:er}{M:Mem}{vs:List Value}(h:az M x.toD vs):vs.length=3/\vs.all bc=true/\∀M',az M' x.toD vs:=by
 rw[er.open h];exact⟨rfl,rfl,fun M'=>by simp[er.toD,az,bj]⟩
theorem yF {x:cE}{M:Mem}{vs:List Value}(h:az M x.toD vs):vs.length=6/\vs.all bc=true:=by
 obtain⟨p,c,rfl⟩:=cE.cells h;exact⟨rfl,rfl⟩
def cV (p:Option Addr)(r n K:Nat):SV:=match p with
 |none=>.raw (.slice none 0 0)
 |some _=>.osl r 0 n K none
end Go.Proofs.YthpbefahaghbjaaGreat
namespace Go.bU
open Go
theorem lm {T:aQ}{rg:List Rg}{f:Fr}{t:TypeId}{x y:Operand}{r c:Nat}{v:SV}{ti:TI}{g:Rg}(hx:ev f x=some (.own r c))(hy:ev f y=some v)(ht:bo T t=some ti)(hg:nth rg r=some g)(qu:g.own=true)(hl:Nat.beq v.cells.length ti.size=true)(hle:c+ti.size<=g.cells.length)(h1:v.cells.all SV.one=true) :
  nl T rg (ev f) (.store t x y)=some (.tup [],rg.set r { g with cells:=setRow g.cells c v.cells }):=by
 have Vb:Nat.ble (c+ti.size) g.cells.length=true:=Nat.ble_eq_true_of_le hle;simp only[nl,hx,hy,ht,hg,qu,hl,Vb,h1,Bool.and_self,cond_true]
theorem au.conv {E:Env}{N0:af}{rg:List Rg}{f:Fr}{g:GK}{op:Op}{r r':SV}(h:au E N0 rg f g op r)(hr:∀N v,r.den N=some v->r'.den N=some v):au E N0 rg f g op r':=fun ht N ρ o w h1 h2 h3 h4=>by
 obtain⟨v,k1,k2⟩:=h ht N ρ o w h1 h2 h3 h4;exact⟨v,hr N v k1,k2⟩
theorem QO {E:Env}{N0:af}{rg:List Rg}{f:Fr}{g:GK}{x:Operand}{ts e n:Nat}{sx:SV}(hx:hY f g x=some sx)(hs:∀N v,sx.den N=some v->∃p c,v=.slice p n c)(hu:E.P.underlying ts=some (.slice e)):au E N0 rg f g (.call { callee:=.builtin .len,args:=#[x],argTypes:=#[ts] }) (.int .i64 (.nat n)):=by
 intro ht N ρ op w ck cC df hV;obtain⟨q,k,hk⟩:=hs N _ (df _ _ hx);refine⟨.int .i64 n,rfl,fun w' _=>?_⟩;have h2:(Builtin.len_ #[ts] op.type #[.slice q n k]).run E.P w'=.ok (.int .i64 n) w':=by simp[Builtin.len_,run_underlying hu,Result.andThen,goInt]
 simp[execOp,cC,resolve,invoke,builtin,hk,h2]
theorem Sat.Wh {P:aal}{fn:Func}{R:aam->World->Prop}{W:World}{O:Nat->Nat->Prop}{im m':Mem}{D:Nat->Nat->Prop}{Rr:World->Prop}{N0 N:af}{B:aH}{rg:List Rg}{w:World}(h:Sat (aK P fn R W O im D Rr N0 B).toEnv N rg w)
  (h1:∀k o v,m' k o=some v->w.cell? ⟨k,o,none⟩=some v) (h2:∀(r:Nat) (g:Rg) (p:aS),rg[r]?=some g->N[r]?=some p->g.own=true->∀j,j<p.x->m' p.b (p.o+j)=none):Sat (aK P fn R W O m' D Rr N0 B).toEnv N rg w :=
 ⟨h.len,h.lt,h.cell,h.ext,h.room,h.eT,h.obj,h.fG,h1,h2,h.dd,h.mj,h.loc,h.fH,h.aM,h.dG⟩
theorem At.seal {P:aal}{fn:Func}{R:aam->World->Prop}{W:World}{O:Nat->Nat->Prop}{im m':Mem}{D:Nat->Nat->Prop}{Rr:World->Prop}{N:af}{B:aH}{s s':St}{a:Act}{w:World}{ow:Bool}{cs:List SV}{q:aS}{k:Nat}{tB:List Rg}
  (hf:aX fn.ntmps N s.fr a) (hS:Sat (aK P fn R W O im D Rr [] B).toEnv N s.rg w) (hs:s.rg=tB++[⟨ow,cs,none⟩]) (hk:k=tB.length) (hq:N[k]?=some q) (oZ:s'.rg.length=k) (h1:ia N (N.take k) k s.fr s'.fr)
  (h2:∀(i:Nat) (x:Rg) (p:aS),s'.rg[i]?=some x->N[i]?=some p->∃x0,tB[i]?=some x0/\x.own=x0.own/\x.cells.length=x0.cells.length/\x.ob=none/\∀(j:Nat) (c:SV),x.cells[j]?=some c->∃c0,x0.cells[j]?=some c0/\∀v,c0.den N=some v->c.den (N.take k)=some v)
  (hm:m'=fun k o=>match im k o with|some v=>some v|none=>if ow=true/\k=q.b/\q.o<=o/\o<q.o+cs.length then w.cell? ⟨k,o,none⟩ else none) :
  At (aK P fn R W O m' D Rr [] B) s' a w:=by
 have hlen:=hS.len;rw[hs,aaC,List.length_singleton] at hlen;have hNt:(N.take k).length=s'.rg.length:=by rw[List.length_take,oZ];omega
 have hP:Sat (aK P fn R W O im D Rr [] B).toEnv (N.take k) s'.rg w:=by
  refine hS.perm hNt (fun i=>i) (fun i j h=>h) fun i x p hx hp=>?_
  have hi:i<k:=by have:=(aah.1 hx).1;omega
  rw[aa5,if_pos hi] at hp;obtain⟨x0,k1,k2,k3,k4,k5⟩:=h2 i x p hx hp;have tg:i<tB.length:=by omega
  exact⟨x0,by show s.rg[i]?=some x0;rw[hs,aaQ tg];exact k1,hp,k2,k3,k4,k5⟩
 have hR:=hP.Wh (m':=m') (fun k o v hv=>?_) (fun r g p hg hp ho j hj=>?_)
 ·refine⟨N.take k,by intro r p hp;simp at hp,?_,hR⟩
  exact hf.sub h1
 ·rw[hm] at hv
  simp only at hv
  split at hv
  ·rename_i u hu
   cases hv;exact hS.cK _ _ _ hu
  ·split at hv
   ·exact hv
   ·cases hv
 ·rw[hm]
  have e:=hP.lR r g p hg hp ho j hj;have e':im p.b (p.o+j)=none:=e;simp only[e'];rw[if_neg]
  rintro⟨yJ,hb,h3,h4⟩
  have hr:r<k:=by have:=(aah.1 hg).1;omega
  have lC:=hp;rw[aa5,if_pos hr] at lC;obtain⟨x0,k1,k2,k3,_,_⟩:=h2 r g p hg lC;have kD:s.rg[r]?=some x0:=by rw[hs,aaQ (by omega)];exact k1
  have I8:s.rg[k]?=some ⟨ow,cs,none⟩:=by rw[hs,hk];simp
  have hx:=hS.ext k _ q I8 hq yJ;have hw:(p.o+j)-q.o<Rg.wid ⟨ow,cs,none⟩ q:=by
   unfold Rg.wid;simp only[yJ];simp only at hx
   first|omega|(simp;omega)
  have:=hS.eT r k x0 _ p q kD lC I8 hq (by rw[<-k2];exact ho) (by omega) ((p.o+j)-q.o) hw hb.symm;omega
end Go.bU
namespace Go.Proofs.YthpbefahaghbjaaGreat
open Go Go.bU
theorem yC {E:Env}{N0:af}{rg:List Rg}{f:Fr}{po:Option Addr}{n co:Nat}{vs:List Value}{t:Nat}{cl:List SV}{ow:Bool}(hP:E.P=aad)(jZ:cl=a7 vs)(how:ow=decide (n≠0))(hle:n<=1000)(hn:vs.length=n*1)(h1:vs.all bc=true)(hA:0<n->∃b y,po=some ⟨b,y,none⟩/\∀w:World,(∀k o v,E.im k o=some v->w.cell? ⟨k,o,none⟩=some v)->∀(j:Nat) (v:Value),vs[j]?=some v->w.cell? ⟨b,y+j,none⟩=some v)(rJ:ev f (.tmp t)=some (.ao po n co))(bH:0<rg.length) :
  be E N0 rg f (.call { callee:=.value (.func 44),args:=#[.tmp t],argTypes:=#[36] }) (cV po rg.length n 1) (rg++[⟨ow,cl,none⟩]):=by
 subst how;cases po with
 |some a=>exact Ei hP jZ (by simp) hle hn h1 hA rJ
 |none =>
  have h0:n=0:=by
   rcases aau n with h|h
   ·exact h
   ·obtain⟨b,y,hb,_⟩:=hA h
    cases hb
  subst h0;have ho:vs=[]:=aag (by omega);subst ho;obtain rfl:cl=[]:=jZ;refine be.call (l:=[.ao none 0 co]) (by simp[tU,rJ]) (by rw[hP];exact aaF) fun N w1 args hN hS ha=>?_
  simp only[SV.ap,SV.den,aA] at ha;rw[<-ha,hP];refine(Eh co w1).mono fun e w' ⟨he,hc⟩=>?_
  obtain⟨p0,fJ⟩:∃p,N[0]?=some p:=⟨_,aaf (by rw[hS.len];exact bH)⟩;have h':=hS.bu hc;exact⟨_,he,N++[⟨p0.b,0,0⟩],af.aZ _ _,by simp[cV,SV.den,bc],Sat.vu h' (s0:=w'.heap.size) (fun r p hp=>h'.lt r p hp) (fun h=>absurd h (by simp)) (h'.lt 0 p0 fJ) (fun j c hj=>by simp at hj)⟩
theorem z_ {E:Env}{N0:af}{rg:List Rg}{f:Fr}{po:Option Addr}{n co:Nat}{vs:List Value}{t:Nat}{cl:List SV}{ow:Bool}(hP:E.P=aad)(jZ:cl=a7 vs)(how:ow=decide (n≠0))(hle:n<=1000)(hn:vs.length=n*4)(h1:vs.all bc=true)(hA:0<n->∃b y,po=some ⟨b,y,none⟩/\∀w:World,(∀k o v,E.im k o=some v->w.cell? ⟨k,o,none⟩=some v)->∀(j:Nat) (v:Value),vs[j]?=some v->w.cell? ⟨b,y+j,none⟩=some v)(rJ:ev f (.tmp t)=some (.ao po n co))(bH:0<rg.length) :
  be E N0 rg f (.call { callee:=.value (.func 45),args:=#[.tmp t],argTypes:=#[38] }) (cV po rg.length n 4) (rg++[⟨ow,cl,none⟩]):=by
 subst how;cases po with
 |some a=>exact xR hP jZ (by simp) hle hn h1 hA rJ
 |none =>
  have h0:n=0:=by
   rcases aau n with h|h
   ·exact h
   ·obtain⟨b,y,hb,_⟩:=hA h
    cases hb
  subst h0;have ho:vs=[]:=aag (by omega);subst ho;obtain rfl:cl=[]:=jZ;refine be.call (l:=[.ao none 0 co]) (by simp[tU,rJ]) (by rw[hP];exact aaH) fun N w1 args hN hS ha=>?_
  simp only[SV.ap,SV.den,aA] at ha;rw[<-ha,hP];refine(xQ co w1).mono fun e w' ⟨he,hc⟩=>?_
  obtain⟨p0,fJ⟩:∃p,N[0]?=some p:=⟨_,aaf (by rw[hS.len];exact bH)⟩;have h':=hS.bu hc;exact⟨_,he,N++[⟨p0.b,0,0⟩],af.aZ _ _,by simp[cV,SV.den,bc],Sat.vu h' (s0:=w'.heap.size) (fun r p hp=>h'.lt r p hp) (fun h=>absurd h (by simp)) (h'.lt 0 p0 fJ) (fun j c hj=>by simp at hj)⟩
theorem Ad {E:Env}{N0:af}{rg:List Rg}{f:Fr}{po:Option Addr}{n co:Nat}{vs:List Value}{t:Nat}{cl:List SV}{ow:Bool}(hP:E.P=aad)(jZ:cl=a7 vs)(how:ow=decide (n≠0))(hle:n<=1000)(hn:vs.length=n*3)(h1:vs.all bc=true)(hA:0<n->∃b y,po=some ⟨b,y,none⟩/\∀w:World,(∀k o v,E.im k o=some v->w.cell? ⟨k,o,none⟩=some v)->∀(j:Nat) (v:Value),vs[j]?=some v->w.cell? ⟨b,y+j,none⟩=some v)(rJ:ev f (.tmp t)=some (.ao po n co))(bH:0<rg.length) :
  be E N0 rg f (.call { callee:=.value (.func 46),args:=#[.tmp t],argTypes:=#[39] }) (cV po rg.length n 3) (rg++[⟨ow,cl,none⟩]):=by
 subst how;cases po with
 |some a=>exact xX hP jZ (by simp) hle hn h1 hA rJ
 |none =>
  have h0:n=0:=by
   rcases aau n with h|h
   ·exact h
   ·obtain⟨b,y,hb,_⟩:=hA h
    cases hb
  subst h0;have ho:vs=[]:=aag (by omega);subst ho;obtain rfl:cl=[]:=jZ;refine be.call (l:=[.ao none 0 co]) (by simp[tU,rJ]) (by rw[hP];exact aaJ) fun N w1 args hN hS ha=>?_
  simp only[SV.ap,SV.den,aA] at ha;rw[<-ha,hP];refine(xW co w1).mono fun e w' ⟨he,hc⟩=>?_
  obtain⟨p0,fJ⟩:∃p,N[0]?=some p:=⟨_,aaf (by rw[hS.len];exact bH)⟩;have h':=hS.bu hc;exact⟨_,he,N++[⟨p0.b,0,0⟩],af.aZ _ _,by simp[cV,SV.den,bc],Sat.vu h' (s0:=w'.heap.size) (fun r p hp=>h'.lt r p hp) (fun h=>absurd h (by simp)) (h'.lt 0 p0 fJ) (fun j c hj=>by simp at hj)⟩
theorem Ab {E:Env}{N0:af}{rg:List Rg}{f:Fr}{po:Option Addr}{n co:Nat}{vs:List Value}{t:Nat}{cl:List SV}{ow:Bool}(hP:E.P=aad)(jZ:cl=a7 vs)(how:ow=decide (n≠0))(hle:n<=1000)(hn:vs.length=n*6)(h1:vs.all bc=true)(hA:0<n->∃b y,po=some ⟨b,y,none⟩/\∀w:World,(∀k o v,E.im k o=some v->w.cell? ⟨k,o,none⟩=some v)->∀(j:Nat) (v:Value),vs[j]?=some v->w.cell? ⟨b,y+j,none⟩=some v)(rJ:ev f (.tmp t)=some (.ao po n co))(bH:0<rg.length) :
  be E N0 rg f (.call { callee:=.value (.func 47),args:=#[.tmp t],argTypes:=#[37] }) (cV po rg.length n 6) (rg++[⟨ow,cl,none⟩]):=by
 subst how;cases po with
 |some a=>exact xU hP jZ (by simp) hle hn h1 hA rJ
 |none =>
  have h0:n=0:=by
   rcases aau n with h|h
   ·exact h
   ·obtain⟨b,y,hb,_⟩:=hA h
    cases hb
  subst h0;have ho:vs=[]:=aag (by omega);subst ho;obtain rfl:cl=[]:=jZ;refine be.call (l:=[.ao none 0 co]) (by simp[tU,rJ]) (by rw[hP];exact aaL) fun N w1 args hN hS ha=>?_
  simp only[SV.ap,SV.den,aA] at ha;rw[<-ha,hP];refine(xT co w1).mono fun e w' ⟨he,hc⟩=>?_
  obtain⟨p0,fJ⟩:∃p,N[0]?=some p:=⟨_,aaf (by rw[hS.len];exact bH)⟩;have h':=hS.bu hc;exact⟨_,he,N++[⟨p0.b,0,0⟩],af.aZ _ _,by simp[cV,SV.den,bc],Sat.vu h' (s0:=w'.heap.size) (fun r p hp=>h'.lt r p hp) (fun h=>absurd h (by simp)) (h'.lt 0 p0 fJ) (fun j c hj=>by simp at hj)⟩
theorem rY {α:Type}{f:α->List Dt}{l:List α}{M:Mem}{bC:List (List Value)}(hl:bC.length=l.length)(hr:∀(i:Nat) (x:α),l[i]?=some x->∃vs,bC[i]?=some vs/\az M (f x) vs)(h1:∀x vs,az M (f x) vs->vs.all bc=true):bC.flatten.all bc=true:=by
 rw[aaj];intro v hv;obtain⟨vs,h2,h3⟩:=List.mem_flatten.1 hv;obtain⟨i,hi,rfl⟩:=List.getElem_of_mem h2;obtain⟨Fp,h4,h5⟩:=hr i l[i] (aaf (by omega));rw[aaf hi] at h4;cases h4;exact aaj.1 (h1 _ _ h5) v h3
def mU (w:World)(Mo im:Mem):Mem:=fun k o=>match Mo k o with
 |some v=>some v
 |none=>if w.heap.size<=k then im k o else none
theorem Lu {w:World}{Mo im:Mem}:∀k o v,Mo k o=some v->mU w Mo im k o=some v:=fun k o v h=>by simp[mU,h]
theorem Gx {w:World}{Mo im:Mem}(h:∀k o v,Mo k o=some v->im k o=some v):∀k o v,mU w Mo im k o=some v->im k o=some v:=fun k o v hv=>by
 unfold mU at hv
 split at hv
 ·rename_i u hu
  cases hv;exact h _ _ _ hu
 ·split at hv
  ·exact hv
  ·cases hv
theorem AJ {w:World}{Mo im pT:Mem}(h:∀k o v,im k o=some v->pT k o=some v):∀k o v,mU w Mo im k o=some v->mU w Mo pT k o=some v:=fun k o v hv=>by
 unfold mU at hv ⊢
 split at hv
 ·rename_i u hu
  simp only[hv]
 ·rename_i hu
  split at hv
  ·rename_i hk
   simp only[hk,if_true];exact h _ _ _ hv
  ·cases hv
theorem XH {p:Option Addr}{r n K:Nat}{N:af}{v:Value}(h0:p=none->n=0)(hv:(cV p r n K).den N=some v):∃q c,v=.slice q n c:=by
 cases p with
 |none =>
  rw[h0 rfl] at hv ⊢;simp[cV,SV.den,bc] at hv;exact⟨none,0,hv.symm⟩
 |some a =>
  simp only[cV,SV.den] at hv;cases hp:N[r]? with
  |none=>simp[hp] at hv
  |some q =>
   simp only[hp,aA] at hv;exact⟨_,_,hv.symm⟩
structure ClI (w:World) (Mo V7:Mem) (l:List cE) (im:Mem) (bC:List (List Value)):Prop where
 ct:∀k o v,V7 k o=some v->im k o=some v
 len:bC.length=l.length
 six:∀v∈bC,v.length=6
 nu:∀(j:Nat) (x:cE),l[j]?=some x->∃vs,bC[j]?=some vs/\az (mU w Mo im) x.toD vs
theorem gx {vs:List Value}{m:Nat}:(a7 vs).all (bd m)=true:=aaj.2 fun c hc=>by
 obtain⟨v,_,rfl⟩:=aaA.1 hc;rfl
theorem J2 (p:Option Addr)(r n K:Nat):(cV p r n K).cells=[cV p r n K]/\SV.one (cV p r n K)=true:=by
 cases p<;>exact⟨rfl,rfl⟩
theorem Kr {α:Type}{K:Nat}(hK:0<K){bC:List (List α)}(h:∀v∈bC,v.length=K){i k:Nat}{vs:List α}(hi:bC[i]?=some vs)(hk:k<K)(u:α):(bC.set i (vs.set k u)).flatten=bC.flatten.set (i*K+k) u:=by
 have yc:=(aah.1 hi).1;have BB:vs.length=K:=h vs (aan hi);have h':∀v∈bC.set i (vs.set k u),v.length=K:=fun v hv=>by
  rcases aa6 hv with h1|rfl
  ·exact h v h1
  ·rw[aay,BB]
 have hd:∀j,(i*K+k=j↔i=j / K/\k=j % K):=fun j=>by
  constructor
  ·rintro rfl
   rw[aaw,aaW hK,aaX,aaM hk,aaN hk];exact⟨rfl,rfl⟩
  ·rintro⟨rfl,rfl⟩
   rw[aaw];exact aaO j K
 refine List.ext_getElem? fun j=>?_
 rw[ew hK h',aao,aao,ew hK h,bO h]
 by_cases hj:i*K+k=j
 ·obtain⟨h1,h2⟩:=(hd j).1 hj
  rw[if_pos hj,if_pos h1,if_pos yc,if_pos]
  ·rw[aaR,aao,if_pos h2,if_pos (by omega)]
  ·have:i*K+K<=bC.length*K:=by rw[<-aaY];exact aaZ K yc
   omega
 ·rw[if_neg hj]
  by_cases h1:i=j / K
  ·rw[if_pos h1,if_pos yc,<-h1,hi,aaR,aaR,aao,if_neg fun h2=>hj ((hd j).2 ⟨h1,h2⟩)]
  ·rw[if_neg h1]
theorem cE.nu {x:cE}{M:Mem}{p:Option Addr}{c:Nat}(h:dC M p c 1 (x.cD.vars.map jI)):az M x.toD [.int .u8 x.ij,.int .u64 x.seq,.int .i64 x.cD.err,.int .u64 x.cD.inc,.int .i64 x.cD.state,.slice p x.cD.vars.length c]:=by
 simp only[cE.toD,jz.toD,az];exact⟨_,_,rfl,by simp[bj],_,_,rfl,by simp[bj],_,_,rfl,by simp[bj],_,_,rfl,by simp[bj],_,_,rfl,by simp[bj],_,_,rfl,bj.mk (by simp) xd h,rfl⟩
def Eb (p:Option Addr)(c:Nat):Nat:=match p with
 |none=>0
 |some _=>c
theorem vD {p:Option Addr}{r n K:Nat}{N:af}{q:aS}(hq:N[r]?=some q)(h0:p=none->n=0):(cV p r n K).den N=some (.slice (p.map fun _=>⟨q.b,q.o,none⟩) n (Eb p (q.x / K))):=by
 cases p with
 |none=>rw[h0 rfl];simp[cV,Eb,SV.den,bc]
 |some a=>simp[cV,Eb,SV.den,hq,aS.cap]
theorem vG {α:Type}{f:α->List Dt}{l:List α}{P:aal}{fn:Func}{Q:aam->World->Prop}{w w':World}{im:Mem}{D:Nat->Nat->Prop}{Rr:World->Prop}{N0 N:af}{B:aH}{rg:List Rg}{r n K:Nat}{q:aS}{p:Option Addr}{bC:List (List Value)}{M:Mem}
  (hS:Sat (aK P fn Q w (bq [] []) im D Rr N0 B).toEnv N rg w') (hr:rg[r]?=some ⟨decide (n≠0),a7 bC.flatten,none⟩) (hq:N[r]?=some q) (hK:0<K) (hn:n=l.length) (hle:n<=maxLen) (hl:bC.length=l.length) (hk:∀v∈bC,v.length=K) (hp:p=none->n=0)
  (uz:∀(i:Nat) (x:α),l[i]?=some x->∃vs,bC[i]?=some vs/\az M (f x) vs) (hM:∀j v,w.heap.size<=q.b->w'.cell? ⟨q.b,q.o+j,none⟩=some v->j<n*K->M q.b (q.o+j)=some v):dC M (p.map fun _=>⟨q.b,q.o,none⟩) (Eb p (q.x / K)) K (l.map f):=by
 have xD:(a7 bC.flatten).length=n*K:=by rw[bN,bO hk,hl,hn]
 cases p with
 |none =>
  have h0:=hp rfl;have:l=[]:=aag (by omega);subst this;exact⟨⟨by simp,by simp⟩,.inl rfl⟩
 |some a =>
  by_cases h0:n=0
  ·have:l=[]:=aag (by omega)
   subst this;exact⟨⟨by simp,by simp⟩,.inl rfl⟩
  rw[decide_eq_true h0] at hr;have hx:=hS.ext r _ q hr hq rfl;rw[xD] at hx;refine dC.of (bC:=bC) (by rw[<-hn];exact(Nat.le_div_iff_mul_le hK).2 hx) (by omega) hl uz fun _=>⟨q.b,q.o,rfl,fun i vs hi j v hj=>?_⟩
  have hb:w.heap.size<=q.b:=by
   rcases hS.dG r _ _ hr hq rfl with h|h
   ·exact h
   ·exact absurd (h 0 (by have:0<n*K:=Nat.mul_pos (by omega) hK;omega)) aB
  have yc:=(aah.1 hi).1;have hjK:j<K:=by
   have h1:=(aah.1 hj).1
   rwa [hk vs (aan hi)] at h1
  have hf:bC.flatten[i*K+j]?=some v:=by
   rw[ew hK hk,show(i*K+j) / K=i by rw[aaw i K,aaW hK,aaM hjK,Nat.add_zero],show(i*K+j) % K=j by rw[aaw i K,aaX,aaN hjK],hi];exact hj
  obtain⟨u,h1,h2⟩:=hS.cell r _ q hr hq (i*K+j) (.raw v) (by show(a7 bC.flatten)[i*K+j]?=_;rw[a7,aak,hf];rfl);have hu:u=v:=by
   simp only[SV.den] at h1
   split at h1
   ·exact(Option.some.inj h1).symm
   ·cases h1
  rw[aaP];refine hM _ _ hb (by rw[h2,hu]) ?_;have:i*K+K<=n*K:=by rw[<-aaY];exact aaZ K (by omega)
  omega
theorem dJ.nu {k i s l:Int}{v:List Int}{o:List cE}{u:List ek}{m:List er}{M:Mem}{p1 p2 p3 p4:Option Addr}{c1 c2 c3 c4:Nat}(h1:dC M p1 c1 1 (v.map jI))(h2:dC M p2 c2 6 (o.map cE.toD))(h3:dC M p3 c3 4 (u.map ek.toD))(h4:dC M p4 c4 3 (m.map er.toD)) :
  az M (dJ.toD ⟨k,i,s,v,o,u,l,m⟩) [.int .u8 k,.int .u64 i,.int .i64 s,.slice p1 v.length c1,.slice p2 o.length c2,.slice p3 u.length c3,.int .u64 l,.slice p4 m.length c4]:=by
 simp only[dJ.toD,az];exact⟨_,_,rfl,by simp[bj],_,_,rfl,by simp[bj],_,_,rfl,by simp[bj],_,_,rfl,bj.mk (by simp) xd h1,_,_,rfl,bj.mk (by simp) G9 h2,_,_,rfl,bj.mk (by simp) G8 h3,_,_,rfl,by simp[bj],_,_,rfl,bj.mk (by simp) G_ h4,rfl⟩
def abJ (a:dJ)(Mo:Mem)(w:World):aam->World->Prop:=fun e w' =>
 (∃vb,e=.returned (.agg vb.toArray)/\∀M:Mem,(∀k o v,Mo k o=some v->M k o=some v)->(∀k o v,w.heap.size<=k->w'.cell? ⟨k,o,none⟩=some v->M k o=some v)->az M a.toD vb)/\aW (fun _ _=>False) w w'
def Oy (w w':World)(p:Option Addr)(l:List Int):Prop:=l≠[]->∃b y,p=some ⟨b,y,none⟩/\w.heap.size<=b/\∀(j:Nat) (z:Int),l[j]?=some z->w'.cell? ⟨b,y+j,none⟩=some (.int .i64 z)/\w'.frozen? ⟨b,y+j,none⟩=false
def QZ (a:dJ)(Mo:Mem)(w:World)(e:aam)(w':World):Prop :=
 (∃vb,e=.returned (.agg vb.toArray)/\(∀M:Mem,(∀k o v,Mo k o=some v->M k o=some v)->(∀k o v,w.heap.size<=k->w'.cell? ⟨k,o,none⟩=some v->M k o=some v)->az M a.toD vb)/\∃p c,vb[3]?=some (.slice p a.vars.length c)/\Oy w w' p a.vars)/\aW (fun _ _=>False) w w'
theorem rZ (a:dJ)(va:List Value)(Mo:Mem)(w:World)(qo:∀k o v,Mo k o=some v->w.cell? ⟨k,o,none⟩=some v)(ha:az Mo a.toD va)(M0:¬a.iI) :
  Calls aad 22 #[.agg va.toArray] w (QZ a Mo w):=by
 obtain⟨Q,hQ⟩:∃Q:aam->World->Prop,Q=QZ a Mo w:=⟨_,rfl⟩;rw[<-hQ];obtain⟨p1,c1,p2,c2,p3,c3,p4,c4,rfl,A4,xK,Ix,Iy⟩:=dJ.open ha;clear ha;obtain⟨k1,i1,s1,v1,o1,u1,l1,m1⟩:=a;simp only[dJ.iI,not_or,Nat.not_lt,not_exists,not_and] at M0;simp only at A4 xK Ix Iy ⊢;obtain⟨g1,g2,g3,g4,g5⟩:=M0;obtain⟨vs1,qt,xF,jG,dM⟩:=A4.rows (K:=1) fun x vs h=>(l8 h).1
 obtain⟨vs2,rN,o5,nZ,fM⟩:=xK.rows (K:=6) fun x vs h=>(yF h).1
 obtain⟨vs3,Vw,hk3,HR,Dw⟩:=Ix.rows (K:=4) fun x vs h=>(sT h).1
 obtain⟨vs4,hl4,hk4,Ld,M9⟩:=Iy.rows (K:=3) fun x vs h=>(tr h).1
 obtain⟨n1,pO⟩:∃n,n=v1.length:=⟨_,rfl⟩;obtain⟨n2,jy⟩:∃n,n=o1.length:=⟨_,rfl⟩;obtain⟨n3,Cg⟩:∃n,n=u1.length:=⟨_,rfl⟩;obtain⟨n4,Ch⟩:∃n,n=m1.length:=⟨_,rfl⟩;rw[<-pO,<-jy,<-Cg,<-Ch];obtain⟨d1,jT⟩:∃c,c=a7 vs1.flatten:=⟨_,rfl⟩;obtain⟨d2,gT⟩:∃c,c=a7 vs2.flatten:=⟨_,rfl⟩;obtain⟨d3,pD⟩:∃c,c=a7 vs3.flatten:=⟨_,rfl⟩;obtain⟨d4,tX⟩:∃c,c=a7 vs4.flatten:=⟨_,rfl⟩;obtain⟨w1,Dz⟩:∃b,b=decide (n1≠0):=⟨_,rfl⟩;obtain⟨w2,V2⟩:∃b,b=decide (n2≠0):=⟨_,rfl⟩;obtain⟨w3,HW⟩:∃b,b=decide (n3≠0):=⟨_,rfl⟩;obtain⟨w4,Li⟩:∃b,b=decide (n4≠0):=⟨_,rfl⟩;refine X.begin (rg:=[]) (N:=[]) (ss:=[.agg [.int .u8 (.v k1),.int .u64 (.v i1),.int .i64 (.v s1),.ao p1 n1 c1,.ao p2 n2 c2,.ao p3 n3 c3,.int .u64 (.v l1),.ao p4 n4 c4]]) Tryz.func22 rfl Jk rfl rfl Sat.bp ?_;obtain⟨im,aV⟩:∃im,im=ab [] [] w:=⟨_,rfl⟩;have ct:∀k o v,Mo k o=some v->im k o=some v:=fun k o v h=>by rw[aV];exact kM (qo k o v h)
 have hA:∀{p:Option Addr} {n K:Nat} {bC:List (List Value)} {m:Nat},0<K->(∀v∈bC,v.length=K)->m=n->(0<m->∃b y,p=some ⟨b,y,none⟩/\∀(i:Nat) (vs:List Value),bC[i]?=some vs->∀(j:Nat) (v:Value),vs[j]?=some v->Mo b (y+i*K+j)=some v) ->
   (0<n->∃b y,p=some ⟨b,y,none⟩/\∀w':World,(∀k o v,im k o=some v->w'.cell? ⟨k,o,none⟩=some v)->∀(j:Nat) (v:Value),bC.flatten[j]?=some v->w'.cell? ⟨b,y+j,none⟩=some v):=fun {p n K bC m} hK hv Gg h hp=>by
  subst Gg;obtain⟨b,y,hb,h2⟩:=h hp;refine⟨b,y,hb,fun w' hw j v hj=>?_⟩;rw[ew hK hv,aa7] at hj;obtain⟨vs,h3,h4⟩:=hj;have:=hw _ _ _ (ct _ _ _ (h2 _ _ h3 _ _ h4))
  rwa [aaP,aaw,aaO] at this
 show X (aK aad aai Q w (bq [] []) (ab [] [] w) (fun _ _=>False) (fun _=>True) [] DH) _ _;rw[<-aV];refine X.go dF 400 _ rfl aae ?_
 conv=>arg 2;cbv
 refine(fun(h:∀k,X (aK aad aai Q w (bq [] []) im (fun _ _=>False) (fun _=>True) [] DH) k ⟨[(2,.val (.own 1 0)),(1,.val (.own 0 0))],[⟨true,[.int .u8 (.v k1),.int .u64 (.v i1),.int .i64 (.v s1),cV p1 2 n1 1,cV p2 5 n2 6,cV p3 3 n3 4,.int .u64 (.v l1),cV p4 4 n4 3],none⟩,⟨true,[.int .u8 (.lit 0),.int .u64 (.lit 0),.int .i64 (.lit 0),.raw (.slice none 0 0),.raw (.slice none 0 0),.raw (.slice none 0 0),.int .u64 (.lit 0),.raw (.slice none 0 0)],none⟩,⟨w1,d1,none⟩,⟨w3,d3,none⟩,⟨w4,d4,none⟩,⟨w2,d2,none⟩]⟩->X (aK aad aai Q w (bq [] []) im (fun _ _=>False) (fun _=>True) [] DH) (It.code _::k) _)=>h _ ?_) (fun k hk=>?_)
 rotate_left
 ·have e1:=fun {rg:List Rg} {f:Fr} {t:Nat}=>yC (E:=(aK aad aai Q w (bq [] []) im (fun _ _=>False) (fun _=>True) [] DH).toEnv) (N0:=[]) (rg:=rg) (f:=f) (t:=t) (po:=p1) (co:=c1) rfl jT Dz (by omega) (by rw[bO xF];omega) (rY qt jG fun x vs h=>(l8 h).2.1) (hA (by decide) xF pO.symm dM)
  have e2:=fun {rg:List Rg} {f:Fr} {t:Nat}=>Ab (E:=(aK aad aai Q w (bq [] []) im (fun _ _=>False) (fun _=>True) [] DH).toEnv) (N0:=[]) (rg:=rg) (f:=f) (t:=t) (po:=p2) (co:=c2) rfl gT V2 (by omega) (by rw[bO o5];omega) (rY rN nZ fun x vs h=>(yF h).2) (hA (by decide) o5 jy.symm fM)
  have e3:=fun {rg:List Rg} {f:Fr} {t:Nat}=>z_ (E:=(aK aad aai Q w (bq [] []) im (fun _ _=>False) (fun _=>True) [] DH).toEnv) (N0:=[]) (rg:=rg) (f:=f) (t:=t) (po:=p3) (co:=c3) rfl pD HW (by omega) (by rw[bO hk3];omega) (rY Vw HR fun x vs h=>(sT h).2.1) (hA (by decide) hk3 Cg.symm Dw)
  have e4:=fun {rg:List Rg} {f:Fr} {t:Nat}=>Ad (E:=(aK aad aai Q w (bq [] []) im (fun _ _=>False) (fun _=>True) [] DH).toEnv) (N0:=[]) (rg:=rg) (f:=f) (t:=t) (po:=p4) (co:=c4) rfl tX Li (by omega) (by rw[bO hk4];omega) (rY hl4 Ld fun x vs h=>(tr h).2.1) (hA (by decide) hk4 Ch.symm M9)
  clear hA ct qo A4 xK Ix Iy jG nZ HR Ld dM fM Dw M9 hQ aV;rcases p1 with _|a1<;>rcases p3 with _|a3<;>rcases p4 with _|a4<;>rcases p2 with _|a2
  ·skip
   refine X.iA ([]) ([(6,⟨fun rg=>cV none rg.length n1 1,[],[⟨w1,d1,none⟩]⟩),(9,⟨fun rg=>cV none rg.length n3 4,[],[⟨w3,d3,none⟩]⟩),(12,⟨fun rg=>cV none rg.length n4 3,[],[⟨w4,d4,none⟩]⟩),(15,⟨fun rg=>cV none rg.length n2 6,[],[⟨w2,d2,none⟩]⟩)]) dF 1 _ rfl aae (fun pr pe fin aj bm ai=>?_)
   conv=>cbv
   refine⟨bm _ _ _ _ _ (e1 rfl (aac _)),bm _ _ _ _ _ (e3 rfl (aac _)),bm _ _ _ _ _ (e4 rfl (aac _)),bm _ _ _ _ _ (e2 rfl (aac _)),?_⟩
   repeat refine⟨rfl,?_⟩
   exact ai _ _ (X.less [1,2] hk)
  ·skip
   refine X.iA ([]) ([(6,⟨fun rg=>cV none rg.length n1 1,[],[⟨w1,d1,none⟩]⟩),(9,⟨fun rg=>cV none rg.length n3 4,[],[⟨w3,d3,none⟩]⟩),(12,⟨fun rg=>cV none rg.length n4 3,[],[⟨w4,d4,none⟩]⟩),(15,⟨fun rg=>cV (some a2) rg.length n2 6,[],[⟨w2,d2,none⟩]⟩)]) dF 1 _ rfl aae (fun pr pe fin aj bm ai=>?_)
   conv=>cbv
   refine⟨bm _ _ _ _ _ (e1 rfl (aac _)),bm _ _ _ _ _ (e3 rfl (aac _)),bm _ _ _ _ _ (e4 rfl (aac _)),bm _ _ _ _ _ (e2 rfl (aac _)),?_⟩
   repeat refine⟨rfl,?_⟩
   exact ai _ _ (X.less [1,2] hk)
  ·skip
   refine X.iA ([]) ([(6,⟨fun rg=>cV none rg.length n1 1,[],[⟨w1,d1,none⟩]⟩),(9,⟨fun rg=>cV none rg.length n3 4,[],[⟨w3,d3,none⟩]⟩),(12,⟨fun rg=>cV (some a4) rg.length n4 3,[],[⟨w4,d4,none⟩]⟩),(15,⟨fun rg=>cV none rg.length n2 6,[],[⟨w2,d2,none⟩]⟩)]) dF 1 _ rfl aae (fun pr pe fin aj bm ai=>?_)
   conv=>cbv
   refine⟨bm _ _ _ _ _ (e1 rfl (aac _)),bm _ _ _ _ _ (e3 rfl (aac _)),bm _ _ _ _ _ (e4 rfl (aac _)),bm _ _ _ _ _ (e2 rfl (aac _)),?_⟩
   repeat refine⟨rfl,?_⟩
   exact ai _ _ (X.less [1,2] hk)
  ·skip
   refine X.iA ([]) ([(6,⟨fun rg=>cV none rg.length n1 1,[],[⟨w1,d1,none⟩]⟩),(9,⟨fun rg=>cV none rg.length n3 4,[],[⟨w3,d3,none⟩]⟩),(12,⟨fun rg=>cV (some a4) rg.length n4 3,[],[⟨w4,d4,none⟩]⟩),(15,⟨fun rg=>cV (some a2) rg.length n2 6,[],[⟨w2,d2,none⟩]⟩)]) dF 1 _ rfl aae (fun pr pe fin aj bm ai=>?_)
   conv=>cbv
   refine⟨bm _ _ _ _ _ (e1 rfl (aac _)),bm _ _ _ _ _ (e3 rfl (aac _)),bm _ _ _ _ _ (e4 rfl (aac _)),bm _ _ _ _ _ (e2 rfl (aac _)),?_⟩
   repeat refine⟨rfl,?_⟩
   exact ai _ _ (X.less [1,2] hk)
  ·skip
   refine X.iA ([]) ([(6,⟨fun rg=>cV none rg.length n1 1,[],[⟨w1,d1,none⟩]⟩),(9,⟨fun rg=>cV (some a3) rg.length n3 4,[],[⟨w3,d3,none⟩]⟩),(12,⟨fun rg=>cV none rg.length n4 3,[],[⟨w4,d4,none⟩]⟩),(15,⟨fun rg=>cV none rg.length n2 6,[],[⟨w2,d2,none⟩]⟩)]) dF 1 _ rfl aae (fun pr pe fin aj bm ai=>?_)
   conv=>cbv
   refine⟨bm _ _ _ _ _ (e1 rfl (aac _)),bm _ _ _ _ _ (e3 rfl (aac _)),bm _ _ _ _ _ (e4 rfl (aac _)),bm _ _ _ _ _ (e2 rfl (aac _)),?_⟩
   repeat refine⟨rfl,?_⟩
   exact ai _ _ (X.less [1,2] hk)
  ·skip
   refine X.iA ([]) ([(6,⟨fun rg=>cV none rg.length n1 1,[],[⟨w1,d1,none⟩]⟩),(9,⟨fun rg=>cV (some a3) rg.length n3 4,[],[⟨w3,d3,none⟩]⟩),(12,⟨fun rg=>cV none rg.length n4 3,[],[⟨w4,d4,none⟩]⟩),(15,⟨fun rg=>cV (some a2) rg.length n2 6,[],[⟨w2,d2,none⟩]⟩)]) dF 1 _ rfl aae (fun pr pe fin aj bm ai=>?_)
   conv=>cbv
   refine⟨bm _ _ _ _ _ (e1 rfl (aac _)),bm _ _ _ _ _ (e3 rfl (aac _)),bm _ _ _ _ _ (e4 rfl (aac _)),bm _ _ _ _ _ (e2 rfl (aac _)),?_⟩
   repeat refine⟨rfl,?_⟩
   exact ai _ _ (X.less [1,2] hk)
  ·skip
   refine X.iA ([]) ([(6,⟨fun rg=>cV none rg.length n1 1,[],[⟨w1,d1,none⟩]⟩),(9,⟨fun rg=>cV (some a3) rg.length n3 4,[],[⟨w3,d3,none⟩]⟩),(12,⟨fun rg=>cV (some a4) rg.length n4 3,[],[⟨w4,d4,none⟩]⟩),(15,⟨fun rg=>cV none rg.length n2 6,[],[⟨w2,d2,none⟩]⟩)]) dF 1 _ rfl aae (fun pr pe fin aj bm ai=>?_)
   conv=>cbv
   refine⟨bm _ _ _ _ _ (e1 rfl (aac _)),bm _ _ _ _ _ (e3 rfl (aac _)),bm _ _ _ _ _ (e4 rfl (aac _)),bm _ _ _ _ _ (e2 rfl (aac _)),?_⟩
   repeat refine⟨rfl,?_⟩
   exact ai _ _ (X.less [1,2] hk)
  ·skip
   refine X.iA ([]) ([(6,⟨fun rg=>cV none rg.length n1 1,[],[⟨w1,d1,none⟩]⟩),(9,⟨fun rg=>cV (some a3) rg.length n3 4,[],[⟨w3,d3,none⟩]⟩),(12,⟨fun rg=>cV (some a4) rg.length n4 3,[],[⟨w4,d4,none⟩]⟩),(15,⟨fun rg=>cV (some a2) rg.length n2 6,[],[⟨w2,d2,none⟩]⟩)]) dF 1 _ rfl aae (fun pr pe fin aj bm ai=>?_)
   conv=>cbv
   refine⟨bm _ _ _ _ _ (e1 rfl (aac _)),bm _ _ _ _ _ (e3 rfl (aac _)),bm _ _ _ _ _ (e4 rfl (aac _)),bm _ _ _ _ _ (e2 rfl (aac _)),?_⟩
   repeat refine⟨rfl,?_⟩
   exact ai _ _ (X.less [1,2] hk)
  ·skip
   refine X.iA ([]) ([(6,⟨fun rg=>cV (some a1) rg.length n1 1,[],[⟨w1,d1,none⟩]⟩),(9,⟨fun rg=>cV none rg.length n3 4,[],[⟨w3,d3,none⟩]⟩),(12,⟨fun rg=>cV none rg.length n4 3,[],[⟨w4,d4,none⟩]⟩),(15,⟨fun rg=>cV none rg.length n2 6,[],[⟨w2,d2,none⟩]⟩)]) dF 1 _ rfl aae (fun pr pe fin aj bm ai=>?_)
   conv=>cbv
   refine⟨bm _ _ _ _ _ (e1 rfl (aac _)),bm _ _ _ _ _ (e3 rfl (aac _)),bm _ _ _ _ _ (e4 rfl (aac _)),bm _ _ _ _ _ (e2 rfl (aac _)),?_⟩
   repeat refine⟨rfl,?_⟩
   exact ai _ _ (X.less [1,2] hk)
  ·skip
   refine X.iA ([]) ([(6,⟨fun rg=>cV (some a1) rg.length n1 1,[],[⟨w1,d1,none⟩]⟩),(9,⟨fun rg=>cV none rg.length n3 4,[],[⟨w3,d3,none⟩]⟩),(12,⟨fun rg=>cV none rg.length n4 3,[],[⟨w4,d4,none⟩]⟩),(15,⟨fun rg=>cV (some a2) rg.length n2 6,[],[⟨w2,d2,none⟩]⟩)]) dF 1 _ rfl aae (fun pr pe fin aj bm ai=>?_)
   conv=>cbv
   refine⟨bm _ _ _ _ _ (e1 rfl (aac _)),bm _ _ _ _ _ (e3 rfl (aac _)),bm _ _ _ _ _ (e4 rfl (aac _)),bm _ _ _ _ _ (e2 rfl (aac _)),?_⟩
   repeat refine⟨rfl,?_⟩
   exact ai _ _ (X.less [1,2] hk)
  ·skip
   refine X.iA ([]) ([(6,⟨fun rg=>cV (some a1) rg.length n1 1,[],[⟨w1,d1,none⟩]⟩),(9,⟨fun rg=>cV none rg.length n3 4,[],[⟨w3,d3,none⟩]⟩),(12,⟨fun rg=>cV (some a4) rg.length n4 3,[],[⟨w4,d4,none⟩]⟩),(15,⟨fun rg=>cV none rg.length n2 6,[],[⟨w2,d2,none⟩]⟩)]) dF 1 _ rfl aae (fun pr pe fin aj bm ai=>?_)
   conv=>cbv
   refine⟨bm _ _ _ _ _ (e1 rfl (aac _)),bm _ _ _ _ _ (e3 rfl (aac _)),bm _ _ _ _ _ (e4 rfl (aac _)),bm _ _ _ _ _ (e2 rfl (aac _)),?_⟩
   repeat refine⟨rfl,?_⟩
   exact ai _ _ (X.less [1,2] hk)
  ·skip
   refine X.iA ([]) ([(6,⟨fun rg=>cV (some a1) rg.length n1 1,[],[⟨w1,d1,none⟩]⟩),(9,⟨fun rg=>cV none rg.length n3 4,[],[⟨w3,d3,none⟩]⟩),(12,⟨fun rg=>cV (some a4) rg.length n4 3,[],[⟨w4,d4,none⟩]⟩),(15,⟨fun rg=>cV (some a2) rg.length n2 6,[],[⟨w2,d2,none⟩]⟩)]) dF 1 _ rfl aae (fun pr pe fin aj bm ai=>?_)
   conv=>cbv
   refine⟨bm _ _ _ _ _ (e1 rfl (aac _)),bm _ _ _ _ _ (e3 rfl (aac _)),bm _ _ _ _ _ (e4 rfl (aac _)),bm _ _ _ _ _ (e2 rfl (aac _)),?_⟩
   repeat refine⟨rfl,?_⟩
   exact ai _ _ (X.less [1,2] hk)
  ·skip
   refine X.iA ([]) ([(6,⟨fun rg=>cV (some a1) rg.length n1 1,[],[⟨w1,d1,none⟩]⟩),(9,⟨fun rg=>cV (some a3) rg.length n3 4,[],[⟨w3,d3,none⟩]⟩),(12,⟨fun rg=>cV none rg.length n4 3,[],[⟨w4,d4,none⟩]⟩),(15,⟨fun rg=>cV none rg.length n2 6,[],[⟨w2,d2,none⟩]⟩)]) dF 1 _ rfl aae (fun pr pe fin aj bm ai=>?_)
   conv=>cbv
   refine⟨bm _ _ _ _ _ (e1 rfl (aac _)),bm _ _ _ _ _ (e3 rfl (aac _)),bm _ _ _ _ _ (e4 rfl (aac _)),bm _ _ _ _ _ (e2 rfl (aac _)),?_⟩
   repeat refine⟨rfl,?_⟩
   exact ai _ _ (X.less [1,2] hk)
  ·skip
   refine X.iA ([]) ([(6,⟨fun rg=>cV (some a1) rg.length n1 1,[],[⟨w1,d1,none⟩]⟩),(9,⟨fun rg=>cV (some a3) rg.length n3 4,[],[⟨w3,d3,none⟩]⟩),(12,⟨fun rg=>cV none rg.length n4 3,[],[⟨w4,d4,none⟩]⟩),(15,⟨fun rg=>cV (some a2) rg.length n2 6,[],[⟨w2,d2,none⟩]⟩)]) dF 1 _ rfl aae (fun pr pe fin aj bm ai=>?_)
   conv=>cbv
   refine⟨bm _ _ _ _ _ (e1 rfl (aac _)),bm _ _ _ _ _ (e3 rfl (aac _)),bm _ _ _ _ _ (e4 rfl (aac _)),bm _ _ _ _ _ (e2 rfl (aac _)),?_⟩
   repeat refine⟨rfl,?_⟩
   exact ai _ _ (X.less [1,2] hk)
  ·skip
   refine X.iA ([]) ([(6,⟨fun rg=>cV (some a1) rg.length n1 1,[],[⟨w1,d1,none⟩]⟩),(9,⟨fun rg=>cV (some a3) rg.length n3 4,[],[⟨w3,d3,none⟩]⟩),(12,⟨fun rg=>cV (some a4) rg.length n4 3,[],[⟨w4,d4,none⟩]⟩),(15,⟨fun rg=>cV none rg.length n2 6,[],[⟨w2,d2,none⟩]⟩)]) dF 1 _ rfl aae (fun pr pe fin aj bm ai=>?_)
   conv=>cbv
   refine⟨bm _ _ _ _ _ (e1 rfl (aac _)),bm _ _ _ _ _ (e3 rfl (aac _)),bm _ _ _ _ _ (e4 rfl (aac _)),bm _ _ _ _ _ (e2 rfl (aac _)),?_⟩
   repeat refine⟨rfl,?_⟩
   exact ai _ _ (X.less [1,2] hk)
  ·skip
   refine X.iA ([]) ([(6,⟨fun rg=>cV (some a1) rg.length n1 1,[],[⟨w1,d1,none⟩]⟩),(9,⟨fun rg=>cV (some a3) rg.length n3 4,[],[⟨w3,d3,none⟩]⟩),(12,⟨fun rg=>cV (some a4) rg.length n4 3,[],[⟨w4,d4,none⟩]⟩),(15,⟨fun rg=>cV (some a2) rg.length n2 6,[],[⟨w2,d2,none⟩]⟩)]) dF 1 _ rfl aae (fun pr pe fin aj bm ai=>?_)
   conv=>cbv
   refine⟨bm _ _ _ _ _ (e1 rfl (aac _)),bm _ _ _ _ _ (e3 rfl (aac _)),bm _ _ _ _ _ (e4 rfl (aac _)),bm _ _ _ _ _ (e2 rfl (aac _)),?_⟩
   repeat refine⟨rfl,?_⟩
   exact ai _ _ (X.less [1,2] hk)
 refine X.iA ([(22,.int .i64 (.nat n2))]) ([]) dF 400 _ rfl aae (fun pr pe fin aj bm ai=>?_)
 conv=>cbv
 have acW:∀(N:af) (v:Value),(cV p2 5 n2 6).den N=some v->∃p c,v=.slice p n2 c:=fun N v hv=>XH (fun h=>by
  rcases aau n2 with h0|h0
  ·exact h0
  ·obtain⟨b,y,hb,_⟩:=fM (by omega)
   rw[h] at hb;cases hb) hv
 refine⟨aj _ (QO (sx:=cV p2 5 n2 6) rfl acW aax),ai _ _ ?_⟩;clear aj bm ai;refine X.loop (fun g:{g:Nat × Mem × List (List Value) // g.1<=n2/\ClI w Mo im o1 g.2.1 g.2.2}=>aK aad aai Q w (bq [] []) g.1.2.1 (fun _ _=>False) (fun _=>True) [] DH)
  (fun g=>⟨[(2,.val (.own 1 0)),(1,.val (.own 0 0)),(22,.val (.int .i64 (.nat n2))),(23,.val (.int .i64 (.nat g.1.1)))],[⟨true,[.int .u8 (.v k1),.int .u64 (.v i1),.int .i64 (.v s1),cV p1 2 n1 1,cV p2 5 n2 6,cV p3 3 n3 4,.int .u64 (.v l1),cV p4 4 n4 3],none⟩,⟨true,[.int .u8 (.lit 0),.int .u64 (.lit 0),.int .i64 (.lit 0),.raw (.slice none 0 0),.raw (.slice none 0 0),.raw (.slice none 0 0),.int .u64 (.lit 0),.raw (.slice none 0 0)],none⟩,⟨w1,d1,none⟩,⟨w3,d3,none⟩,⟨w4,d4,none⟩,⟨w2,a7 g.1.2.2.flatten,none⟩]⟩) (fun g=>n2-g.1.1) (fun _=>⟨rfl,rfl,rfl,rfl⟩) (fun N ac w' hN hf hS=>⟨⟨(0,im,vs2),Nat.zero_le _,⟨fun _ _ _ h=>h,rN,o5,fun j x hx=>?_⟩⟩,?_⟩) (fun g q hq=>?_)
 ·obtain⟨vs,h1,h2⟩:=nZ j x hx
  exact⟨vs,h1,h2.mono Lu⟩
 ·show At (aK aad aai Q w (bq [] []) im (fun _ _=>False) (fun _=>True) [] DH) ⟨[(2,.val (.own 1 0)),(1,.val (.own 0 0)),(22,.val (.int .i64 (.nat n2))),(23,.val (.int .i64 (.nat 0)))],[⟨true,[.int .u8 (.v k1),.int .u64 (.v i1),.int .i64 (.v s1),cV p1 2 n1 1,cV p2 5 n2 6,cV p3 3 n3 4,.int .u64 (.v l1),cV p4 4 n4 3],none⟩,⟨true,[.int .u8 (.lit 0),.int .u64 (.lit 0),.int .i64 (.lit 0),.raw (.slice none 0 0),.raw (.slice none 0 0),.raw (.slice none 0 0),.int .u64 (.lit 0),.raw (.slice none 0 0)],none⟩,⟨w1,d1,none⟩,⟨w3,d3,none⟩,⟨w4,d4,none⟩,⟨w2,a7 vs2.flatten,none⟩]⟩ ac w'
  have X5:[SV.int .u8 (.v k1),.int .u64 (.v i1),.int .i64 (.v s1),cV p1 2 n1 1,cV p2 5 n2 6,cV p3 3 n3 4,.int .u64 (.v l1),cV p4 4 n4 3].all (bd 6)=true:=by cases p1<;>cases p2<;>cases p3<;>cases p4<;>rfl
  exact At.eJ hf hS ⟨fun h=>h,aR.refl X5,rfl,fun h=>h,aR.refl rfl,rfl,fun h=>h,aR.refl (by rw[jT];exact gx),rfl,fun h=>h,aR.refl (by rw[pD];exact gx),rfl,fun h=>h,aR.refl (by rw[tX];exact gx),rfl,fun h=>h,(by rw[gT];exact aR.refl gx),rfl,trivial⟩
 obtain⟨⟨i,eC,bC⟩,hi,hI⟩:=g;simp only at hi hI;show X (aK aad aai Q w (bq [] []) eC (fun _ _=>False) (fun _=>True) [] DH) _ ⟨[(2,.val (.own 1 0)),(1,.val (.own 0 0)),(22,.val (.int .i64 (.nat n2))),(23,.val (.int .i64 (.nat i)))],[⟨true,[.int .u8 (.v k1),.int .u64 (.v i1),.int .i64 (.v s1),cV p1 2 n1 1,cV p2 5 n2 6,cV p3 3 n3 4,.int .u64 (.v l1),cV p4 4 n4 3],none⟩,⟨true,[.int .u8 (.lit 0),.int .u64 (.lit 0),.int .i64 (.lit 0),.raw (.slice none 0 0),.raw (.slice none 0 0),.raw (.slice none 0 0),.int .u64 (.lit 0),.raw (.slice none 0 0)],none⟩,⟨w1,d1,none⟩,⟨w3,d3,none⟩,⟨w4,d4,none⟩,⟨w2,a7 bC.flatten,none⟩]⟩;obtain⟨dl,s_⟩:∃d,d=a7 bC.flatten:=⟨_,rfl⟩;rw[<-s_];refine X.go dF 400 _ rfl aae ?_
 conv=>arg 2;cbv
 refine X.cond rfl (fun aF=>?_) (fun cJ=>?_)
 ·simp only[SB.T,SI.den] at aF
  have aF:i<n2:=by omega
  obtain⟨x,hx⟩:∃x,o1[i]?=some x:=⟨_,aaf (by omega)⟩;obtain⟨R5,ZB,hri⟩:=hI.nu i x hx;obtain⟨pa,ca,V0,VR⟩:=cE.open hri;obtain⟨na,Dx⟩:∃n,n=x.cD.vars.length:=⟨_,rfl⟩;have age:na<=50:=by rw[Dx];exact g5 i x hx
  obtain⟨b2,y2,fU,_⟩:=fM (by omega);obtain rfl:w2=true:=by rw[V2];exact decide_eq_true (by omega)
  obtain⟨vsv,hlv,Ja,Nb,hmv⟩:=VR.rows (K:=1) fun x vs h=>(l8 h).1
  obtain⟨z,hz⟩:∃z,z=i*6:=⟨_,rfl⟩;have bD:dl[z+2+3]?=some (.raw (.slice pa na ca)):=by
   rw[s_,a7,aak,ew (by decide) hI.six,hz,show(i*6+2+3) / 6=i by omega,show(i*6+2+3) % 6=5 by omega,ZB,V0,<-Dx];rfl
  have HJ:z+2+3<dl.length:=(aah.1 bD).1;obtain⟨dv,Vl⟩:∃d,d=a7 vsv.flatten:=⟨_,rfl⟩;obtain⟨wv,hwv⟩:∃b,b=decide (na≠0):=⟨_,rfl⟩;obtain⟨Kd,KJ⟩:∃d,d=setRow dl (z+2+3) [cV pa 6 na 1]:=⟨_,rfl⟩;have pF:∀k o v,Mo k o=some v->eC k o=some v:=fun k o v h=>hI.ct _ _ _ (ct _ _ _ h)
  have hAv:0<na->∃b y,pa=some ⟨b,y,none⟩/\∀w':World,(∀k o v,eC k o=some v->w'.cell? ⟨k,o,none⟩=some v)->∀(j:Nat) (v:Value),vsv.flatten[j]?=some v->w'.cell? ⟨b,y+j,none⟩=some v:=fun hp=>by
   obtain⟨b,y,hb,h2⟩:=hmv (by omega);refine⟨b,y,hb,fun w' hw j v hj=>?_⟩;rw[ew (by decide) Ja,aa7] at hj;obtain⟨vs,h3,h4⟩:=hj;have:=hw _ _ _ (Gx pF _ _ _ (h2 _ _ h3 _ _ h4))
   rwa [aaP,aaw,aaO] at this
  have eV:=fun {rg:List Rg} {f:Fr} {t:Nat}=>yC (E:=(aK aad aai Q w (bq [] []) eC (fun _ _=>False) (fun _=>True) [] DH).toEnv) (N0:=[]) (rg:=rg) (f:=f) (t:=t) (po:=pa) (co:=ca) rfl Vl hwv (by omega) (by rw[bO Ja];omega) (rY hlv Nb fun x vs h=>(l8 h).2.1) hAv
  refine X.iA ([(32,.own 5 z),(35,.ao pa na ca),(37,.own 5 z)]) ([(36,⟨fun rg=>cV pa rg.length na 1,[],[⟨wv,dv,none⟩]⟩),(1014,⟨fun _=>.tup [],[(5,⟨true,Kd,none⟩)],[]⟩)]) dF 400 _ rfl aae (fun pr pe fin aj bm ai=>?_)
  conv=>cbv
  refine⟨aj _ (jJ (sx:=cV p2 5 n2 6) rfl (.inr (.inr ⟨none,by rw[fU];rfl⟩)) rfl (fun _=>rfl) aax aaV (fun _=>aF) hz (by simp)),aj _ ((xw (gg:=⟨true,dl,none⟩) rfl Tryz.isAgg36 rfl bD).conv fun N v h=>by simpa[SV.den,bc] using h),bm _ _ _ _ _ (eV rfl (aac _)),aj _ (jJ (sx:=cV p2 5 n2 6) rfl (.inr (.inr ⟨none,by rw[fU];rfl⟩)) rfl (fun _=>rfl) aax aaV (fun _=>aF) hz (by simp)),bm _ _ _ _ _ ?_,ai _ _ ?_⟩
  ·have iJ:=J2 pa 6 na 1
   refine be.step dF ?_;rw[lm (v:=cV pa 6 na 1) (g:=⟨true,dl,none⟩) (ti:=yu) rfl rfl rfl rfl rfl (by rw[iJ.1];rfl) HJ (by rw[iJ.1];simp[iJ.2]),iJ.1,<-KJ];rfl
  clear aj bm ai;refine X.back (fun N ac w' hN hf hS=>?_);obtain⟨q6,Y6⟩:∃p,N[6]?=some p:=⟨_,aaf (by rw[hS.len];show 6<7;omega)⟩;have Y0:pa=none->na=0:=fun h=>by
   rcases aau na with h0|h0
   ·exact h0
   ·obtain⟨b,y,hb,_⟩:=hAv h0
    rw[h] at hb;cases hb
  have hv5:=vD (K:=1) Y6 Y0;obtain⟨v5,VZ⟩:∃v:Value,v=.slice (pa.map fun _=>⟨q6.b,q6.o,none⟩) na (Eb pa (q6.x / 1)):=⟨_,rfl⟩;rw[<-VZ] at hv5;obtain⟨m',KU⟩:∃m':Mem,m'=fun k o=>match eC k o with|some v=>some v|none=>if wv=true/\k=q6.b/\q6.o<=o/\o<q6.o+dv.length then w'.cell? ⟨k,o,none⟩ else none:=⟨_,rfl⟩
  have HO:∀k o v,eC k o=some v->m' k o=some v:=fun k o v h=>by rw[KU];simp only[h]
  have ad4:R5.length=6:=by rw[V0];rfl
  have WT:=Kr (K:=6) (by decide) hI.six ZB (k:=5) (by decide) v5;have hI':ClI w Mo im o1 m' (bC.set i (R5.set 5 v5)):=by
   refine⟨fun k o v h=>HO _ _ _ (hI.ct _ _ _ h),by rw[aay];exact hI.len,fun v hv=>?_,fun j y hy=>?_⟩
   ·rcases aa6 hv with h1|rfl
    ·exact hI.six v h1
    ·rw[aay,ad4]
   ·by_cases hj:i=j
    ·subst hj
     rw[hx] at hy;cases hy;refine⟨_,by rw[aao,if_pos rfl,if_pos (by rw[hI.len];omega)],?_⟩;rw[V0,VZ,Dx];refine cE.nu ?_;refine vG (M:=mU w Mo m') (bC:=vsv) (n:=na) hS (by rw[<-hwv,<-Vl];rfl) Y6 aa0 Dx (by rw[dt];omega) hlv Ja Y0 (fun k y hy=>?_) (fun k u hb hc hk=>?_)
     ·obtain⟨vs,h1,h2⟩:=Nb k y hy
      exact⟨vs,h1,(l8 h2).2.2 _⟩
     ·have acw:Mo q6.b (q6.o+k)=none:=by
       cases hMk:Mo q6.b (q6.o+k) with
       |none=>rfl
       |some u'=>have:=World.block_lt_of_cell? _ _ (qo _ _ _ hMk);simp at this;omega
      have h0:na≠0:=fun h=>by subst h;omega
      have hwt:wv=true:=by rw[hwv];exact decide_eq_true h0
      have adb:eC q6.b (q6.o+k)=none:=by
       have hx6:=hS.ext 6 ⟨wv,dv,none⟩ q6 rfl Y6 hwt;simp only[Vl,bN,bO Ja] at hx6;exact hS.lR 6 ⟨wv,dv,none⟩ q6 rfl Y6 hwt k (by omega)
      unfold mU;simp only[acw,hb,if_true,KU,adb];rw[if_pos ⟨hwt,trivial,by omega,by rw[Vl,bN,bO Ja];omega⟩];exact hc
    ·obtain⟨vs,h1,h2⟩:=hI.nu j y hy
     exact⟨vs,by rw[aao,if_neg hj];exact h1,h2.mono (AJ HO)⟩
  refine hq ⟨(i+1,m',bC.set i (R5.set 5 v5)),aF,hI'⟩ ac w' (by simp only;omega) ?_;show At (aK aad aai Q w (bq [] []) m' (fun _ _=>False) (fun _=>True) [] DH) ⟨[(2,.val (.own 1 0)),(1,.val (.own 0 0)),(22,.val (.int .i64 (.nat n2))),(23,.val (.int .i64 (.nat (i+1))))],[⟨true,[.int .u8 (.v k1),.int .u64 (.v i1),.int .i64 (.v s1),cV p1 2 n1 1,cV p2 5 n2 6,cV p3 3 n3 4,.int .u64 (.v l1),cV p4 4 n4 3],none⟩,⟨true,[.int .u8 (.lit 0),.int .u64 (.lit 0),.int .i64 (.lit 0),.raw (.slice none 0 0),.raw (.slice none 0 0),.raw (.slice none 0 0),.int .u64 (.lit 0),.raw (.slice none 0 0)],none⟩,⟨w1,d1,none⟩,⟨w3,d3,none⟩,⟨w4,d4,none⟩,⟨true,a7 (bC.set i (R5.set 5 v5)).flatten,none⟩]⟩ ac w';have X5:[SV.int .u8 (.v k1),.int .u64 (.v i1),.int .i64 (.v s1),cV p1 2 n1 1,cV p2 5 n2 6,cV p3 3 n3 4,.int .u64 (.v l1),cV p4 4 n4 3].all (bd 6)=true:=by cases p1<;>cases p2<;>cases p3<;>cases p4<;>rfl
  have keep:∀{cs:List SV},cs.all (bd 6)=true->∀(j:Nat) (c:SV),cs[j]?=some c->∃c0,cs[j]?=some c0/\∀v,c0.den N=some v->c.den (N.take 6)=some v:=fun h j c hj=>⟨c,hj,fun v hv=>rq (aaj.1 h c (aan hj)) hv⟩
  have ey:Kd=dl.set (z+2+3) (cV pa 6 na 1):=by
   rw[KJ,pu _ _ _ (by omega),List.set_eq_take_append_cons_drop,if_pos HJ];simp
  have bM:a7 (bC.set i (R5.set 5 v5)).flatten=dl.set (z+2+3) (.raw v5):=by
   rw[WT,a7,List.map_set,<-a7,<-s_,hz]
  refine At.seal (k:=6) (q:=q6) (ow:=wv) (cs:=dv) (tB:=[⟨true,[.int .u8 (.v k1),.int .u64 (.v i1),.int .i64 (.v s1),cV p1 2 n1 1,cV p2 5 n2 6,cV p3 3 n3 4,.int .u64 (.v l1),cV p4 4 n4 3],none⟩,⟨true,[.int .u8 (.lit 0),.int .u64 (.lit 0),.int .i64 (.lit 0),.raw (.slice none 0 0),.raw (.slice none 0 0),.raw (.slice none 0 0),.int .u64 (.lit 0),.raw (.slice none 0 0)],none⟩,⟨w1,d1,none⟩,⟨w3,d3,none⟩,⟨w4,d4,none⟩,⟨true,Kd,none⟩]) hf hS rfl rfl Y6 rfl (by repeat first|exact trivial|refine Dm rfl rfl ?_|refine mi rfl rfl rfl ?_|refine mi rfl rfl (by simp (disch:=omega) [SV.den,SI.den,lv,lu]<;>omega) ?_) (fun r y p hy hp=>?_) KU;have hr6:r<6:=(aah.1 hy).1;have:r=0\/r=1\/r=2\/r=3\/r=4\/r=5:=by omega
  rcases this with rfl|rfl|rfl|rfl|rfl|rfl
  ·cases hy;exact⟨_,rfl,rfl,rfl,rfl,keep X5⟩
  ·cases hy;exact⟨_,rfl,rfl,rfl,rfl,keep rfl⟩
  ·cases hy;exact⟨_,rfl,rfl,rfl,rfl,keep (by rw[jT];exact gx)⟩
  ·cases hy;exact⟨_,rfl,rfl,rfl,rfl,keep (by rw[pD];exact gx)⟩
  ·cases hy;exact⟨_,rfl,rfl,rfl,rfl,keep (by rw[tX];exact gx)⟩
  ·cases hy
   refine⟨_,rfl,rfl,by show(a7 _).length=Kd.length;rw[bM,ey,aay,aay],rfl,fun j c hj=>?_⟩;have hj:(a7 (bC.set i (R5.set 5 v5)).flatten)[j]?=some c:=hj;show ∃c0,Kd[j]?=some c0/\_;rw[bM,aao] at hj;rw[ey,aao]
   by_cases P0:z+2+3=j
   ·rw[if_pos P0,if_pos (by omega)] at hj ⊢
    cases hj;refine⟨_,rfl,fun v hv=>?_⟩;rw[hv5] at hv;cases hv;rw[VZ];simp[SV.den,bc]
   ·rw[if_neg P0] at hj ⊢
    refine⟨c,hj,fun v hv=>rq ?_ hv⟩;have fI:dl.all (bd 6)=true:=by rw[s_];exact gx
    exact aaj.1 fI c (aan hj)
 ·simp only[SB.F,SI.den] at cJ
  obtain rfl:i=n2:=by omega
  refine X.iA ([]) ([(1001,⟨fun _=>.tup [],[(1,⟨true,[.int .u8 (.v k1),.int .u64 (.v i1),.int .i64 (.v s1),cV p1 2 n1 1,cV p2 5 i 6,cV p3 3 n3 4,.int .u64 (.v l1),cV p4 4 n4 3],none⟩)],[]⟩)]) dF 400 _ rfl aae (fun pr pe fin aj bm ai=>?_)
  conv=>cbv
  refine⟨bm _ _ _ _ _ ?_,ai _ _ ?_⟩
  ·refine be.step dF ?_
   rw[lm (v:=.agg [.int .u8 (.v k1),.int .u64 (.v i1),.int .i64 (.v s1),cV p1 2 n1 1,cV p2 5 i 6,cV p3 3 n3 4,.int .u64 (.v l1),cV p4 4 n4 3]) (g:=⟨true,[.int .u8 (.lit 0),.int .u64 (.lit 0),.int .i64 (.lit 0),.raw (.slice none 0 0),.raw (.slice none 0 0),.raw (.slice none 0 0),.int .u64 (.lit 0),.raw (.slice none 0 0)],none⟩) (ti:=tJ) rfl rfl rfl rfl rfl rfl (by decide) (by cases p1<;>cases p2<;>cases p3<;>cases p4<;>rfl)];rfl
  refine X.done dF rfl (fun N w' v hN hS hv=>?_);rw[hQ];obtain⟨q2,jM⟩:∃p,N[2]?=some p:=⟨_,aaf (by rw[hS.len];show 2<6;omega)⟩;obtain⟨q3,PY⟩:∃p,N[3]?=some p:=⟨_,aaf (by rw[hS.len];show 3<6;omega)⟩;obtain⟨q4,hq4⟩:∃p,N[4]?=some p:=⟨_,aaf (by rw[hS.len];show 4<6;omega)⟩;obtain⟨q5,hq5⟩:∃p,N[5]?=some p:=⟨_,aaf (by rw[hS.len];show 5<6;omega)⟩;have Ci:∀{p:Option Addr} {n m:Nat} {bC:List (List Value)} {K:Nat},n=m->(0<m->∃b y,p=some ⟨b,y,none⟩/\∀(i:Nat) (vs:List Value),bC[i]?=some vs->∀(j:Nat) (v:Value),vs[j]?=some v->Mo b (y+i*K+j)=some v)->p=none->n=0:=fun hnm h hp=>by
   rcases aau _ with h0|h0
   ·exact h0
   ·obtain⟨b,y,hb,_⟩:=h (by omega)
    rw[hp] at hb;cases hb
  have z1:=Ci pO dM;have z2:=Ci jy fM;have z3:=Ci Cg Dw;have z4:=Ci Ch M9;have hv:(bz [.agg [.int .u8 (.v k1),.int .u64 (.v i1),.int .i64 (.v s1),cV p1 2 n1 1,cV p2 5 i 6,cV p3 3 n3 4,.int .u64 (.v l1),cV p4 4 n4 3]]).den N=some v:=hv;simp only[bz,SV.den,SV.ap,SI.den,vD jM z1,vD hq5 z2,vD PY z3,vD hq4 z4,aA] at hv;refine⟨⟨_,congrArg Ending.returned hv.symm,fun M hM bM=>?_,p1.map (fun _=>⟨q2.b,q2.o,none⟩),Eb p1 (q2.x / 1),congrArg (fun n=>some (Value.slice (p1.map fun _=>⟨q2.b,q2.o,none⟩) n (Eb p1 (q2.x / 1)))) pO,fun h0=>?_⟩,hS.aM.none⟩
  rotate_left
  ·have h0:v1≠[]:=h0
   have Ro:n1≠0:=fun h=>h0 (aag (by omega))
   have fE:p1.map (fun _=>(⟨q2.b,q2.o,none⟩:Addr))=some ⟨q2.b,q2.o,none⟩:=by
    cases p1 with
    |none=>exact absurd (z1 rfl) Ro
    |some a=>rfl
   have V1:w1=true:=by rw[Dz];exact decide_eq_true Ro
   have acX:d1.length=n1*1:=by rw[jT,bN,bO xF,qt,pO]
   have gJ:=hS.ext 2 ⟨w1,d1,none⟩ q2 rfl jM V1;simp only[acX] at gJ;refine⟨q2.b,q2.o,fE,?_,fun j z hj=>?_⟩
   ·rcases hS.dG 2 ⟨w1,d1,none⟩ q2 rfl jM V1 with h1|h1
    ·exact h1
    ·exact absurd (h1 0 (by omega)) aB
   ·have uT:j<v1.length:=(aah.1 hj).1
    obtain⟨vs,y1,y2⟩:=jG j z hj;obtain rfl:vs=[.int .i64 z]:=jI.open y2;refine⟨?_,(hS.room 2 ⟨w1,d1,none⟩ q2 rfl jM V1 j (by omega)).2⟩;have PH:d1[j]?=some (.raw (.int .i64 z)):=by
     rw[jT,a7,aak,ew (by decide) xF,Nat.div_one,Nat.mod_one,y1];rfl
    obtain⟨v,k1',k2⟩:=hS.cell 2 ⟨w1,d1,none⟩ q2 rfl jM j _ PH;have k1':some (Value.int .i64 z)=some v:=k1';rw[k2,<-k1']
  have hmx:=dt;have VQ:∀k o v,mU w Mo eC k o=some v->M k o=some v:=fun k o v h=>by
   unfold mU at h
   split at h
   ·rename_i u hu
    cases h;exact hM _ _ _ hu
   ·split at h
    ·rename_i hk
     exact bM _ _ _ hk (hS.cK _ _ _ h)
    ·cases h
  have f1:=vG (M:=M) (bC:=vs1) (n:=n1) (r:=2) hS (by rw[<-Dz,<-jT];rfl) jM aa0 pO (by omega) qt xF z1 (fun k y hy=>by obtain⟨vs,h1,h2⟩:=jG k y hy;exact⟨vs,h1,(l8 h2).2.2 _⟩) (fun j v hb hc _=>bM _ _ _ hb hc);have f3:=vG (M:=M) (bC:=vs3) (n:=n3) (r:=3) (K:=4) hS (by rw[<-HW,<-pD];rfl) PY (by decide) Cg (by omega) Vw hk3 z3 (fun k y hy=>by obtain⟨vs,h1,h2⟩:=HR k y hy;exact⟨vs,h1,(sT h2).2.2 _⟩) (fun j v hb hc _=>bM _ _ _ hb hc);have f4:=vG (M:=M) (bC:=vs4) (n:=n4) (r:=4) (K:=3) hS (by rw[<-Li,<-tX];rfl) hq4 (by decide) Ch (by omega) hl4 hk4 z4 (fun k y hy=>by obtain⟨vs,h1,h2⟩:=Ld k y hy;exact⟨vs,h1,(tr h2).2.2 _⟩) (fun j v hb hc _=>bM _ _ _ hb hc);have f2:=vG (M:=M) (bC:=bC) (n:=i) (r:=5) (K:=6) hS (by rw[<-V2,<-s_];rfl) hq5 (by decide) jy (by omega) hI.len hI.six z2 (fun k y hy=>by obtain⟨vs,h1,h2⟩:=hI.nu k y hy;exact⟨vs,h1,h2.mono VQ⟩) (fun j v hb hc _=>bM _ _ _ hb hc);have:=dJ.nu (k:=k1) (i:=i1) (s:=s1) (l:=l1) f1 f2 f3 f4;rw[<-pO,<-jy,<-Cg,<-Ch] at this;exact this
theorem jt (a:dJ)(va:List Value)(Mo:Mem)(w:World)(qo:∀k o v,Mo k o=some v->w.cell? ⟨k,o,none⟩=some v)(ha:az Mo a.toD va)(M0:¬a.iI) :
  Calls aad 22 #[.agg va.toArray] w (abJ a Mo w):=(rZ a va Mo w qo ha M0).mono fun _ _ ⟨⟨vb,h1,h2,_⟩,h3⟩=>⟨⟨vb,h1,h2⟩,h3⟩
end Go.Proofs.YthpbefahaghbjaaGreat
namespace Go.Proofs.YthpbefahaghbjaaGreat
open Go Go.bU Go.ChangeShapes Go.WideShapes
structure WM where
 (m:Nat) (P:Nat->aS)
def mK (p:aS)(k o:Nat):Prop:=k=p.b/\p.o<=o/\o<p.o+p.x
def WM.D (wm:WM)(ne:Nat)(k o:Nat):Prop:=k=wm.m\/∃r,r<3+ne/\mK (wm.P r) k o
def gC (p:aS)(n:Nat):Value:=if n=0 then .slice none 0 0 else .slice (some ⟨p.b,p.o,none⟩) n (p.x / 13)
def Cz (key:Int)(b:bW):Value:=.agg #[.int .u8 key,.int .u64 b.count,.int .u8 b.node,.int .u32 b.cR]
def iE (p:aS):Value:=.pointer (some ⟨p.b,p.o,none⟩)
def zM (p:aS)(w:World):Prop:=p.b<w.heap.size/\∀j,j<p.x->(w.cell? ⟨p.b,p.o+j,none⟩).isSome=true/\w.frozen? ⟨p.b,p.o+j,none⟩=false
def lx (p:aS)(vs:List Value)(w:World):Prop:=∀(j:Nat) (v:Value),vs[j]?=some v->w.cell? ⟨p.b,p.o+j,none⟩=some v
def fC (M:Mem)(p:aS)(l:List aI)(w:World):Prop :=
 l.length*13<=p.x/\(l=[]->p.x=0)/\∃bC:List (List Value),bC.length=l.length/\(∀(i:Nat) (x:aI),l[i]?=some x->∃vs,bC[i]?=some vs/\az M x.toD vs)/\lx p bC.flatten w
def h_ (M:Mem)(p:aS)(e:fu)(w:World):Prop :=
 13<=p.x/\∃cv rv,az M e.c.toD cv/\az M e.a8.toD rv/\lx p (cv++(rv++[.int .u64 e.nodes,.bool e.eE])) w
abbrev cM:TypeId:=64
structure bX (wm:WM) (s:WP) (Mo:Mem) (w:World):Prop where
 room:∀r,r<3+s.seen.length->zM (wm.P r) w
 sep:∀r r',r<3+s.seen.length->r'<3+s.seen.length->r≠r'->∀k o,mK (wm.P r) k o->¬mK (wm.P r') k o
 mp:∃g,eD aad cM wm.m g w/\(∀i e,s.seen[i]?=some e->g (Cz e.key e.b)=some (iE (wm.P (3+i))))/\∀key b,s.pos key b=none->g (Cz key b)=none
 hd:4<=(wm.P 0).x/\lx (wm.P 0) [.map (some wm.m),gC (wm.P 1) s.l.length,gC (wm.P 2) s.all.length,.bool s.da] w
 l:fC Mo (wm.P 1) s.l w
 a:fC Mo (wm.P 2) s.all w
 en:∀i e,s.seen[i]?=some e->h_ Mo (wm.P (3+i)) e w
 mo:∀k o v,Mo k o=some v->w.cell? ⟨k,o,none⟩=some v
 md:∀k o,wm.D s.seen.length k o->Mo k o=none
structure fu.Ok (e:fu):Prop where
 c0:0<=e.c.c
 co:e.c.c_.length<=100/\∀x∈e.c.c_,0<=x/\x<256
 cn:e.c.new.length<=100/\∀x∈e.c.new,0<=x/\x<256
 nodes:e.nodes<2 ^ 64
 a8:¬e.a8.iI
structure WP.Ok (s:WP) (n:Nat):Prop where
 en:∀e∈s.seen,e.Ok
 l:s.l.length<=n
 a:s.all.length<=n
 vl:∀x∈s.l,¬x.a8.iI
 va:∀x∈s.all,¬x.a8.iI
theorem C4 {O:Nat->Nat->Prop}{w w':World}(h:aW O w w'){k o:Nat}(hc:(w.cell? ⟨k,o,none⟩).isSome=true):(w'.cell? ⟨k,o,none⟩).isSome=true:=by
 cases hh:w.heap[k]? with
 |none=>simp[aaD,hh] at hc
 |some x =>
  cases x with
  |cells c e f =>
   obtain⟨c',h1,h2,_⟩:=h.cells k c e f hh;simp[aaD,hh] at hc;simp[aaD,h1,h2];exact hc
  |_=>simp[aaD,hh] at hc
theorem zM.aM {p:aS}{w w':World}{O:Nat->Nat->Prop}(h:zM p w)(hc:aW O w w'):zM p w':=⟨Nat.lt_of_lt_of_le h.1 hc.size,fun j hj=>by
 obtain⟨h1,h2⟩:=h.2 j hj;exact⟨C4 hc h1,by rw[jh hc _ h1];exact h2⟩⟩
theorem lx.aM {p:aS}{vs:List Value}{w w':World}{O:Nat->Nat->Prop}(h:lx p vs w)(hc:aW O w w')(hl:vs.length<=p.x)(hO:∀k o,mK p k o->¬O k o):lx p vs w':=fun j v hj =>
 bw hc (hO _ _ ⟨rfl,by omega,by have:=(aah.1 hj).1;omega⟩) (h j v hj)
theorem fC.aM {M:Mem}{p:aS}{l:List aI}{w w':World}{O:Nat->Nat->Prop}(h:fC M p l w)(hc:aW O w w')(hO:∀k o,mK p k o->¬O k o):fC M p l w':=by
 obtain⟨h1,h2,bC,h3,h4,h5⟩:=h;refine⟨h1,h2,bC,h3,h4,h5.aM hc ?_ hO⟩;rw[bO (K:=13) fun v hv=>?_,h3]
 ·exact h1
 ·obtain⟨i,hi⟩:=List.mem_iff_getElem?.1 hv
  obtain⟨x,hx⟩:∃x,l[i]?=some x:=⟨_,aaf (by rw[<-h3];exact(aah.1 hi).1)⟩;obtain⟨vs,k1,k2⟩:=h4 i x hx;rw[hi] at k1;cases k1;rw[k2.len];rfl
theorem h_.aM {M:Mem}{p:aS}{e:fu}{w w':World}{O:Nat->Nat->Prop}(h:h_ M p e w)(hc:aW O w w')(hO:∀k o,mK p k o->¬O k o):h_ M p e w':=by
 obtain⟨h1,cv,rv,h2,h3,h4⟩:=h;refine⟨h1,cv,rv,h2,h3,h4.aM hc ?_ hO⟩;rw[aaC,aaC,h2.len,h3.len];exact h1
theorem fC.mono {M M':Mem}{p:aS}{l:List aI}{w:World}(h:fC M p l w)(hM:∀k o v,M k o=some v->M' k o=some v):fC M' p l w:=by
 obtain⟨h1,h2,bC,h3,h4,h5⟩:=h;exact⟨h1,h2,bC,h3,fun i x hx=>by obtain⟨vs,k1,k2⟩:=h4 i x hx;exact⟨vs,k1,k2.mono hM⟩,h5⟩
theorem h_.mono {M M':Mem}{p:aS}{e:fu}{w:World}(h:h_ M p e w)(hM:∀k o v,M k o=some v->M' k o=some v):h_ M' p e w:=by
 obtain⟨h1,cv,rv,h2,h3,h4⟩:=h;exact⟨h1,cv,rv,h2.mono hM,h3.mono hM,h4⟩
theorem bX.there {wm:WM}{s:WP}{Mo:Mem}{w:World}(h:bX wm s Mo w){k o:Nat}(hd:wm.D s.seen.length k o):eG w k o:=by
 rcases hd with rfl|⟨r,hr,e1,e2,e3⟩
 ·obtain⟨g,h1,_⟩:=h.mp
  exact .inr h1.ob
 ·have:=((h.room r hr).2 (o-(wm.P r).o) (by omega)).1
  rw[show(wm.P r).o+(o-(wm.P r).o)=o by omega,<-e1] at this;exact .inl this
theorem bX.lt {wm:WM}{s:WP}{Mo:Mem}{w:World}(h:bX wm s Mo w){k o:Nat}(hd:wm.D s.seen.length k o):k<w.heap.size:=(h.there hd).lt
theorem bX.ne {wm:WM}{s:WP}{Mo:Mem}{w:World}(h:bX wm s Mo w){r k o:Nat}(hr:r<3+s.seen.length)(hi:mK (wm.P r) k o):k≠wm.m:=fun e=>by
 obtain⟨g,h1,_⟩:=h.mp;obtain⟨x,hx⟩:=Option.isSome_iff_exists.1 h1.ob;have:=((h.room r hr).2 (o-(wm.P r).o) (by have:=hi.2;omega)).1;rw[show(wm.P r).o+(o-(wm.P r).o)=o by have:=hi.2;omega,<-hi.1,e,rh hx] at this;cases this
theorem bX.aM {wm:WM}{s:WP}{Mo:Mem}{w w':World}{O:Nat->Nat->Prop}(h:bX wm s Mo w)(hc:aW O w w')(hO:∀k o,wm.D s.seen.length k o->¬O k o)(hM:∀k o v,Mo k o=some v->¬O k o):bX wm s Mo w':=by
 have hP:∀r,r<3+s.seen.length->∀k o,mK (wm.P r) k o->¬O k o:=fun r hr k o hi=>hO k o (.inr ⟨r,hr,hi⟩)
 obtain⟨g,g1,g2⟩:=h.mp;refine⟨fun r hr=>(h.room r hr).aM hc,h.sep,⟨g,g1.at (Ic hc g1.ob fun o=>hO _ _ (.inl rfl)),g2⟩,⟨h.hd.1,h.hd.2.aM hc h.hd.1 (hP 0 (by omega))⟩,h.l.aM hc (hP 1 (by omega)),h.a.aM hc (hP 2 (by omega)),fun i e he=>(h.en i e he).aM hc (hP (3+i) (by have:=(aah.1 he).1;omega)),fun k o v hk=>bw hc (hM k o v hk) (h.mo k o v hk),h.md⟩
def mv (wm:WM)(s s':WP)(Mo:Mem)(w:World)(e:aam)(w':World):Prop :=
 e=.returned (.tuple #[])/\∃jP eu,bX jP s' eu w'/\jP.P 0=wm.P 0/\aW (wm.D s.seen.length) w w'/\(∀k o,jP.D s'.seen.length k o->wm.D s.seen.length k o\/w.heap.size<=k)/\(∀k o v,Mo k o=some v->eu k o=some v)/\∀k o v,eu k o=some v->Mo k o=some v\/w.heap.size<=k
end Go.Proofs.YthpbefahaghbjaaGreat
