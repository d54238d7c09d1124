import Derived.Test.YthpbefahaghbjaaGreatWa2
import Derived.Test.YthpbefahaghbjaaGreatRecordSameCalls
open Array renaming getElem?_eq_some_iff→aaT
open Bool renaming and_eq_true→aar,false_eq_true→aaz
open Go renaming Oper→aaf,mem_ready→aaq
open Go.Lit renaming int→aah
open Go.Proofs.Tryz renaming prog→aac,results9→aad,results6→aag,results61→aai,f9→aak,results62→aan,results63→aao,results64→aap,call79→aaC,call80→aaD,call81→aaE,func9→aaF,call19→aaG,call20→aaH,call25→aaI,call22→aaJ
open Go.Region renaming ready→aam,noSelect→aaR,wanted→aaS
open Int renaming toNat_of_nonneg→aay
open List renaming getElem?_eq_some_iff→aae,getElem?_eq_getElem→aal,mem_iff_getElem?→aas,getElem?_set_ne→aau,getElem?_append_left→aaK,getElem?_append_right→aaL,mem_cons→aaM,not_mem_nil→aaN,all_cons→aaO,set_getElem_self→aaP
open Nat renaming beq→aaj,add_zero→aav,le_trans→aaA,eq_of_beq_eq_true→aaB,lt_or_ge→aaQ
open Option renaming some→aaw,isSome_none→aax
set_option maxHeartbeats 16000000
set_option maxRecDepth 100000
set_option cbv.maxSteps 100000000
namespace Go.Proofs.YthpbefahaghbjaaGreat
open Go Go.bU
def jE (a b:Int):Int:=if a<b then -1 else if b<a then 1 else 0
def Nl (a b c:Int):Int:=if a≠0 then a else if b≠0 then b else c
theorem GC (a:Int)(w:World):Calls aac 79 #[.int .u64 a] w fun e w'=>e=.returned (.bool false)/\aW (fun _ _=>False) w w':=by
 refine X.begin (rg:=[]) (N:=[]) (ss:=[.int .u64 (.v a)]) Tryz.func79 rfl DN rfl rfl Sat.bp ?_;refine X.go vj 400 _ rfl Tryz.results79 ?_
 conv=>arg 2;cbv
 refine X.done vj rfl (fun N w' v hN hS hv=>⟨?_,hS.aM.none⟩);exact aw hv (by simp[SB.den,SI.den])
theorem Pc (a b:Int)(w:World):Calls aac 62 #[.int .u64 a,.int .u64 b] w fun e w'=>e=.returned (.int .i64 (jE a b))/\aW (fun _ _=>False) w w':=by
 refine X.begin (rg:=[]) (N:=[]) (ss:=[.int .u64 (.v a),.int .u64 (.v b)]) Tryz.func62 rfl DL rfl rfl Sat.bp ?_;refine X.iA ([(8,.bool (.lit false)),(10,.bool (.lit false))]) ([]) fO 400 _ rfl aan (fun pr pe fin aj bm ai=>?_)
 conv=>cbv
 refine⟨aj _ (.of aaC [.int .u64 a] (.bool false) (fun _=>rfl) (fun _=>rfl) fun _ w1 _=>GC a w1),aj _ (.of aaC [.int .u64 b] (.bool false) (fun _=>rfl) (fun _=>rfl) fun _ w1 _=>GC b w1),ai _ _ ?_⟩;clear aj bm ai;refine X.cond rfl (fun h1=>?_) (fun h1=>?_)
 ·simp only[SB.T,SI.den] at h1
  refine X.go fO 400 _ rfl aan ?_
  conv=>arg 2;cbv
  refine X.done fO rfl (fun N w' v hN hS hv=>⟨?_,hS.aM.none⟩);exact bB hv (by rw[jE,if_pos h1];rfl)
 simp only[SB.F,SI.den] at h1;refine X.go fO 400 _ rfl aan ?_
 conv=>arg 2;cbv
 refine X.cond rfl (fun h2=>?_) (fun h2=>?_)
 ·simp only[SB.T,SI.den] at h2
  refine X.go fO 400 _ rfl aan ?_
  conv=>arg 2;cbv
  refine X.done fO rfl (fun N w' v hN hS hv=>⟨?_,hS.aM.none⟩);exact bB hv (by rw[jE,if_neg (by omega),if_pos (by omega)];rfl)
 simp only[SB.F,SI.den] at h2;refine X.go fO 400 _ rfl aan ?_
 conv=>arg 2;cbv
 refine X.done fO rfl (fun N w' v hN hS hv=>⟨?_,hS.aM.none⟩);exact bB hv (by rw[jE,if_neg (by omega),if_neg (by omega)];rfl)
theorem LB (a:Int)(w:World):Calls aac 80 #[.int .u8 a] w fun e w'=>e=.returned (.bool false)/\aW (fun _ _=>False) w w':=by
 refine X.begin (rg:=[]) (N:=[]) (ss:=[.int .u8 (.v a)]) Tryz.func80 rfl DP rfl rfl Sat.bp ?_;refine X.go vm 400 _ rfl Tryz.results80 ?_
 conv=>arg 2;cbv
 refine X.done vm rfl (fun N w' v hN hS hv=>⟨?_,hS.aM.none⟩);exact aw hv (by simp[SB.den,SI.den])
theorem UR (a b:Int)(w:World):Calls aac 63 #[.int .u8 a,.int .u8 b] w fun e w'=>e=.returned (.int .i64 (jE a b))/\aW (fun _ _=>False) w w':=by
 refine X.begin (rg:=[]) (N:=[]) (ss:=[.int .u8 (.v a),.int .u8 (.v b)]) Tryz.func63 rfl DM rfl rfl Sat.bp ?_;refine X.iA ([(8,.bool (.lit false)),(10,.bool (.lit false))]) ([]) fP 400 _ rfl aao (fun pr pe fin aj bm ai=>?_)
 conv=>cbv
 refine⟨aj _ (.of aaD [.int .u8 a] (.bool false) (fun _=>rfl) (fun _=>rfl) fun _ w1 _=>LB a w1),aj _ (.of aaD [.int .u8 b] (.bool false) (fun _=>rfl) (fun _=>rfl) fun _ w1 _=>LB b w1),ai _ _ ?_⟩;clear aj bm ai;refine X.cond rfl (fun h1=>?_) (fun h1=>?_)
 ·simp only[SB.T,SI.den] at h1
  refine X.go fP 400 _ rfl aao ?_
  conv=>arg 2;cbv
  refine X.done fP rfl (fun N w' v hN hS hv=>⟨?_,hS.aM.none⟩);exact bB hv (by rw[jE,if_pos h1];rfl)
 simp only[SB.F,SI.den] at h1;refine X.go fP 400 _ rfl aao ?_
 conv=>arg 2;cbv
 refine X.cond rfl (fun h2=>?_) (fun h2=>?_)
 ·simp only[SB.T,SI.den] at h2
  refine X.go fP 400 _ rfl aao ?_
  conv=>arg 2;cbv
  refine X.done fP rfl (fun N w' v hN hS hv=>⟨?_,hS.aM.none⟩);exact bB hv (by rw[jE,if_neg (by omega),if_pos (by omega)];rfl)
 simp only[SB.F,SI.den] at h2;refine X.go fP 400 _ rfl aao ?_
 conv=>arg 2;cbv
 refine X.done fP rfl (fun N w' v hN hS hv=>⟨?_,hS.aM.none⟩);exact bB hv (by rw[jE,if_neg (by omega),if_neg (by omega)];rfl)
theorem GB (a:Int)(w:World):Calls aac 81 #[.int .u32 a] w fun e w'=>e=.returned (.bool false)/\aW (fun _ _=>False) w w':=by
 refine X.begin (rg:=[]) (N:=[]) (ss:=[.int .u32 (.v a)]) Tryz.func81 rfl Ti rfl rfl Sat.bp ?_;refine X.go JK 400 _ rfl Tryz.results81 ?_
 conv=>arg 2;cbv
 refine X.done JK rfl (fun N w' v hN hS hv=>⟨?_,hS.aM.none⟩);exact aw hv (by simp[SB.den,SI.den])
theorem Pb (a b:Int)(w:World):Calls aac 64 #[.int .u32 a,.int .u32 b] w fun e w'=>e=.returned (.int .i64 (jE a b))/\aW (fun _ _=>False) w w':=by
 refine X.begin (rg:=[]) (N:=[]) (ss:=[.int .u32 (.v a),.int .u32 (.v b)]) Tryz.func64 rfl Tb rfl rfl Sat.bp ?_;refine X.iA ([(8,.bool (.lit false)),(10,.bool (.lit false))]) ([]) nG 400 _ rfl aap (fun pr pe fin aj bm ai=>?_)
 conv=>cbv
 refine⟨aj _ (.of aaE [.int .u32 a] (.bool false) (fun _=>rfl) (fun _=>rfl) fun _ w1 _=>GB a w1),aj _ (.of aaE [.int .u32 b] (.bool false) (fun _=>rfl) (fun _=>rfl) fun _ w1 _=>GB b w1),ai _ _ ?_⟩;clear aj bm ai;refine X.cond rfl (fun h1=>?_) (fun h1=>?_)
 ·simp only[SB.T,SI.den] at h1
  refine X.go nG 400 _ rfl aap ?_
  conv=>arg 2;cbv
  refine X.done nG rfl (fun N w' v hN hS hv=>⟨?_,hS.aM.none⟩);exact bB hv (by rw[jE,if_pos h1];rfl)
 simp only[SB.F,SI.den] at h1;refine X.go nG 400 _ rfl aap ?_
 conv=>arg 2;cbv
 refine X.cond rfl (fun h2=>?_) (fun h2=>?_)
 ·simp only[SB.T,SI.den] at h2
  refine X.go nG 400 _ rfl aap ?_
  conv=>arg 2;cbv
  refine X.done nG rfl (fun N w' v hN hS hv=>⟨?_,hS.aM.none⟩);exact bB hv (by rw[jE,if_neg (by omega),if_pos (by omega)];rfl)
 simp only[SB.F,SI.den] at h2;refine X.go nG 400 _ rfl aap ?_
 conv=>arg 2;cbv
 refine X.done nG rfl (fun N w' v hN hS hv=>⟨?_,hS.aM.none⟩);exact bB hv (by rw[jE,if_neg (by omega),if_neg (by omega)];rfl)
theorem Wn (b y c:Nat)(z1 z2 z3:Int)(w:World)(h1:w.cell? ⟨b,y,none⟩=some (.int .i64 z1))(h2:w.cell? ⟨b,y+1,none⟩=some (.int .i64 z2))(h3:w.cell? ⟨b,y+2,none⟩=some (.int .i64 z3)):Calls aac 61 #[.slice (some ⟨b,y,none⟩) 3 c] w fun e w'=>e=.returned (.int .i64 (Nl z1 z2 z3))/\aW (fun _ _=>False) w w':=by
 refine X.begin (rg:=[]) (N:=[]) (ss:=[.ao (some ⟨b,y,none⟩) 3 c]) Tryz.func61 rfl DK rfl rfl Sat.bp ?_;refine X.tN [(0,.val (.osl 0 0 3 1 (some c)))] b y (cs:=[.int .i64 (.v z1),.int .i64 (.v z2),.int .i64 (.v z3)]) (by simp) (fun j x hj=>?_) (fun N hN=>?_) ?_
 ·match j,hj with
  |0,hj=>cases hj;exact⟨_,fun _=>rfl,kM h1⟩
  |1,hj=>cases hj;exact⟨_,fun _=>rfl,kM h2⟩
  |2,hj=>cases hj;exact⟨_,fun _=>rfl,kM h3⟩
  |j+3,hj=>simp at hj
 ·obtain rfl:N=[]:=List.eq_nil_of_length_eq_zero hN
  refine⟨rfl,fun x h=>?_,trivial⟩
  simpa[SV.den,aS.cap] using h
 refine X.Dn ep true eS 4000 _ rfl aai ?_
 conv=>arg 2;cbv
 refine X.cond rfl (fun h1=>?_) (fun h1=>?_)
 ·simp only[SB.T,SB.F,SI.den] at h1
  have h1:¬z1=0:=h1;refine X.Dn ep true eS 4000 _ rfl aai ?_
  conv=>arg 2;cbv
  refine X.done eS rfl (fun N w' v hN hS hv=>⟨bB hv ?_,hS.aM.none⟩);simp[SI.den,Nl,h1]
 simp only[SB.T,SB.F,SI.den] at h1;have h1:z1=0:=by omega
 refine X.Dn ep true eS 4000 _ rfl aai ?_
 conv=>arg 2;cbv
 refine X.cond rfl (fun h2=>?_) (fun h2=>?_)
 ·simp only[SB.T,SB.F,SI.den] at h2
  have h2:¬z2=0:=h2;refine X.Dn ep true eS 4000 _ rfl aai ?_
  conv=>arg 2;cbv
  refine X.done eS rfl (fun N w' v hN hS hv=>⟨bB hv ?_,hS.aM.none⟩);simp[SI.den,Nl,h1,h2]
 simp only[SB.T,SB.F,SI.den] at h2;have h2:z2=0:=by omega
 refine X.Dn ep true eS 4000 _ rfl aai ?_
 conv=>arg 2;cbv
 refine X.cond rfl (fun h3=>?_) (fun h3=>?_)
 ·simp only[SB.T,SB.F,SI.den] at h3
  have h3:¬z3=0:=h3;refine X.Dn ep true eS 4000 _ rfl aai ?_
  conv=>arg 2;cbv
  refine X.done eS rfl (fun N w' v hN hS hv=>⟨bB hv ?_,hS.aM.none⟩);simp[SI.den,Nl,h1,h2,h3]
 simp only[SB.T,SB.F,SI.den] at h3;have h3:z3=0:=by omega
 refine X.Dn ep true eS 4000 _ rfl aai ?_
 conv=>arg 2;cbv
 refine X.done eS rfl (fun N w' v hN hS hv=>⟨bB hv ?_,hS.aM.none⟩);simp[SI.den,Nl,h1,h2,h3]
theorem BO (a1 a2 a3 b1 b2 b3:Int)(w:World):Calls aac 32 #[.agg #[.int .u64 a1,.int .u8 a2,.int .u32 a3],.agg #[.int .u64 b1,.int .u8 b2,.int .u32 b3]] w fun e w'=>e=.returned (.int .i64 (Nl (jE a1 b1) (jE a2 b2) (jE a3 b3)))/\aW (fun _ _=>False) w w':=by
 obtain⟨z1,h1⟩:∃z,z=jE a1 b1:=⟨_,rfl⟩;obtain⟨z2,h2⟩:∃z,z=jE a2 b2:=⟨_,rfl⟩;obtain⟨z3,h3⟩:∃z,z=jE a3 b3:=⟨_,rfl⟩;obtain⟨q,hq⟩:∃z,z=Nl z1 z2 z3:=⟨_,rfl⟩;rw[<-h1,<-h2,<-h3,<-hq];refine X.begin (rg:=[]) (N:=[]) (ss:=[.agg [.int .u64 (.v a1),.int .u8 (.v a2),.int .u32 (.v a3)],.agg [.int .u64 (.v b1),.int .u8 (.v b2),.int .u32 (.v b3)]]) Tryz.func32 rfl SN rfl rfl Sat.bp ?_;refine X.iA ([(9,.int .i64 (.v z1)),(14,.int .i64 (.v z2)),(19,.int .i64 (.v z3)),(21,.int .i64 (.v q))]) ([]) JD 400 _ rfl Tryz.results32 (fun pr pe fin aj bm ai=>?_)
 conv=>cbv
 refine⟨aj _ (.of Tryz.call62 [.int .u64 a1,.int .u64 b1] (.int .i64 z1) (fun _=>rfl) (fun _=>rfl) fun _ w1 _=>h1 ▸ Pc a1 b1 w1),aj _ (.of Tryz.call63 [.int .u8 a2,.int .u8 b2] (.int .i64 z2) (fun _=>rfl) (fun _=>rfl) fun _ w1 _=>h2 ▸ UR a2 b2 w1),aj _ (.of Tryz.call64 [.int .u32 a3,.int .u32 b3] (.int .i64 z3) (fun _=>rfl) (fun _=>rfl) fun _ w1 _=>h3 ▸ Pb a3 b3 w1),rfl,aj _ fun _=>⟨Tryz.call61,fun N w1 args hN hS ha=>?_⟩,ai _ _ ?_⟩
 ·obtain⟨p,hp⟩:∃p,N[2]?=some p:=⟨_,aal (by rw[hS.len];show 2<3;omega)⟩
  have ha:args=[.slice (some ⟨p.b,p.o,none⟩) 3 3]:=by
   simp only[SV.ap,SV.den,hp,aS.cap,aav,aA] at ha;exact ha.symm
  rw[ha];have hc:∀(j:Nat) (z:Int),[SV.int .i64 (.v z1),.int .i64 (.v z2),.int .i64 (.v z3)][j]?=some (.int .i64 (.v z))->w1.cell? ⟨p.b,p.o+j,none⟩=some (.int .i64 z):=fun j z hj=>by
   obtain⟨v,k1,k2⟩:=hS.cell 2 _ _ rfl hp j _ hj;simp only[SV.den,SI.den,aA] at k1;rw[k2,<-k1]
  exact(Wn p.b p.o 3 z1 z2 z3 w1 (hc 0 z1 rfl) (hc 1 z2 rfl) (hc 2 z3 rfl)).mono fun e w' ⟨he,bV⟩=>⟨_,he,by rw[hq];rfl,bV⟩
 refine X.done JD rfl (fun N w' v hN hS hv=>⟨bB hv rfl,hS.aM.none⟩)
structure Xw where
 (kind fr to key C b1 b2 b3:Int) (ok:Bool) (a1 a2 a3:Int) (a8:dJ) (x1 x2 x3 mx:Int)
def Xw.aN (m:Xw)(va:List Value):List Value:=[.int .u8 m.kind,.int .u8 m.fr,.int .u8 m.to,.int .u8 m.key,.int .u64 m.C,.int .u64 m.b1,.int .u8 m.b2,.int .u32 m.b3,.bool m.ok,.int .u64 m.a1,.int .u8 m.a2,.int .u32 m.a3]++(va++[.int .u64 m.x1,.int .u8 m.x2,.int .u32 m.x3,.int .u64 m.mx])
end Go.Proofs.YthpbefahaghbjaaGreat
namespace Go.bU
open Go
end Go.bU
namespace Go.Proofs.YthpbefahaghbjaaGreat
open Go Go.bU Go.Sort
structure cQ where
 (k i s l:Int) (q1 q2 q3 q4:Option Addr) (m1 m2 m3 m4 e1 e2 e3 e4:Nat)
def cQ.aN (r:cQ):List Value:=[.int .u8 r.k,.int .u64 r.i,.int .i64 r.s,.slice r.q1 r.m1 r.e1,.slice r.q2 r.m2 r.e2,.slice r.q3 r.m3 r.e3,.int .u64 r.l,.slice r.q4 r.m4 r.e4]
def cQ.cH (r:cQ):List SV:=[.int .u8 (.v r.k),.int .u64 (.v r.i),.int .i64 (.v r.s),.ao r.q1 r.m1 r.e1,.ao r.q2 r.m2 r.e2,.ao r.q3 r.m3 r.e3,.int .u64 (.v r.l),.ao r.q4 r.m4 r.e4]
structure Jv where
 (key:Int) (C:Nat) (p1:Option Addr) (n1 c1:Nat) (p2:Option Addr) (n2 c2:Nat) (b1 b2 b3:Int) (al:Bool) (ph:Int) (got:Nat) (a1 a2 a3:Int) (a8:cQ) (x1 x2 x3 mx:Int)
def Jv.aN (r:Jv):List Value:=[.int .u8 r.key,.int .u64 r.C,.slice r.p1 r.n1 r.c1,.slice r.p2 r.n2 r.c2,.int .u64 r.b1,.int .u8 r.b2,.int .u32 r.b3,.bool r.al,.int .u8 r.ph,.int .u64 r.got,.int .u64 r.a1,.int .u8 r.a2,.int .u32 r.a3]++(r.a8.aN++[.int .u64 r.x1,.int .u8 r.x2,.int .u32 r.x3,.int .u64 r.mx])
end Go.Proofs.YthpbefahaghbjaaGreat
namespace Go.bU
open Go
section
variable {E:eR} {T:aQ} {all:Array aaf} {z:Nat} {zs:List Nat} {k:List It} {s:St} {o:aaf} {f:Fr} {tB:List Rg} {ks:List Nat}
end
end Go.bU
namespace Go.Proofs.YthpbefahaghbjaaGreat
open Go Go.bU Go.Sort
theorem cQ.of {a:dJ}{M:Mem}{vb:List Value}(h:az M a.toD vb):∃g:cQ,vb=g.aN:=by
 obtain⟨p1,c1,p2,c2,p3,c3,p4,c4,rfl,_⟩:=dJ.open h;exact⟨⟨a.kind,a.inc,a.state,a.last,p1,p2,p3,p4,_,_,_,_,c1,c2,c3,c4⟩,rfl⟩
def Jv.put (r:Jv)(ph:Int)(got:Nat)(a1 a2 a3:Int)(g:cQ)(mx:Int):Jv:=⟨r.key,r.C,r.p1,r.n1,r.c1,r.p2,r.n2,r.c2,r.b1,r.b2,r.b3,r.al,ph,got,a1,a2,a3,g,r.x1,r.x2,r.x3,mx⟩
end Go.Proofs.YthpbefahaghbjaaGreat
namespace Go.Proofs.YthpbefahaghbjaaGreat
open Go Go.bU
structure cy where
 (node cc:Int) (op:Option Addr) (on oc:Nat) (np:Option Addr) (nn nc:Nat) (key:Int) (has:Bool) (p1 p2 p3 a1 a2 a3:Int) (g:cQ) (eY:Int)
def cy.cV (t:cy):List Value:=[.int .u64 t.cc,.slice t.op t.on t.oc,.slice t.np t.nn t.nc]
def cy.sV (t:cy):List Value:=.bool t.has::.int .u64 t.p1::.int .u8 t.p2::.int .u32 t.p3::.int .u64 t.a1::.int .u8 t.a2::.int .u32 t.a3::t.g.aN
def cy.cS (t:cy):List SV:=[.int .u64 (.v t.cc),.ao t.op t.on t.oc,.ao t.np t.nn t.nc]
def cy.sS (t:cy):List SV:=.bool (.v t.has)::.int .u64 (.v t.p1)::.int .u8 (.v t.p2)::.int .u32 (.v t.p3)::.int .u64 (.v t.a1)::.int .u8 (.v t.a2)::.int .u32 (.v t.a3)::t.g.cH
def cy.aN (t:cy):List Value:=.int .u8 t.node::(t.cV++(.int .u8 t.key::(t.sV++[.int .i64 t.eY])))
def cy.cH (t:cy):List SV:=.int .u8 (.v t.node)::(t.cS++(.int .u8 (.v t.key)::(t.sS++[.int .i64 (.v t.eY)])))
structure cy.Of (M:Mem) (t:cy) (x:aO):Prop where
 e:t.node=x.node/\t.cc=x.c.c/\t.on=x.c.c_.length/\t.nn=x.c.new.length/\t.key=x.key/\t.has=x.s.has/\x.s.acc=⟨t.a1,t.a2,t.a3⟩/\t.eY=x.eY
 o:dC M t.op t.oc 1 (x.c.c_.map qU)
 n:dC M t.np t.nc 1 (x.c.new.map qU)
 g:az M x.s.a8.toD t.g.aN
theorem aO.cells {x:aO}{M:Mem}{vs:List Value}(h:az M x.toD vs):∃t:cy,vs=t.aN/\t.Of M x:=by
 obtain⟨cv,sv,rfl,hc,hs⟩:=aO.open h;obtain⟨op,oc,np,nc,rfl,ho,hn⟩:=cO.open hc;obtain⟨rv,rfl,hr⟩:=lS.open hs;obtain⟨g,rfl⟩:=cQ.of hr;exact⟨⟨x.node,x.c.c,op,_,oc,np,_,nc,x.key,x.s.has,x.s.promise.count,x.s.promise.node,x.s.promise.cR,x.s.acc.count,x.s.acc.node,x.s.acc.cR,g,x.eY⟩,rfl,⟨rfl,rfl,rfl,rfl,rfl,rfl,rfl,rfl⟩,ho,hn,hr⟩
def aO.big (x:aO):Prop:=20<x.c.c_.length\/20<x.c.new.length\/x.s.a8.iI
def oX (l:List aO):Prop:=60<l.length\/∃(i:Nat) (x:aO),l[i]?=some x/\x.big
theorem vY (l:List aO)(p:Option Addr)(c:Nat)(w:World)(hs:dC (wm w) p c 21 (l.map aO.toD)) :
  Calls aac 6 #[.slice p l.length c] w fun e w'=>e=.returned (.bool (B (oX l)))/\aW (fun _ _=>False) w w':=by
 obtain⟨q,hq⟩:∃q,q=B (oX l):=⟨_,rfl⟩;obtain⟨n,hn⟩:∃n,n=l.length:=⟨_,rfl⟩;have hm:=dt;have hl:n<=maxLen:=by rw[hn];exact hs.len
 rw[<-hq,<-hn];refine X.begin (rg:=[]) (N:=[]) (ss:=[.ao p n c]) Tryz.func6 rfl Xn rfl rfl Sat.bp ?_;obtain⟨im,aV⟩:∃im,im=ab [] [] w:=⟨_,rfl⟩;show X (aK aac Tryz.f6 _ w (bq [] []) (ab [] [] w) (fun _ _=>False) (fun _=>True) [] B6) _ _;rw[<-aV];refine X.go nJ 400 _ rfl aag ?_
 conv=>arg 2;cbv
 refine X.cond rfl (fun hc=>?_) (fun hc=>?_)
 ·refine X.go nJ 400 _ rfl aag ?_
  conv=>arg 2;cbv
  refine X.done nJ rfl (fun N w' v hN hS hv=>⟨aw hv ?_,hS.aM.mono fun k o _ h=>aB h⟩);simp only[SB.T,SB.F,SI.den] at hc;rw[hq];exact(bP (.inl (by omega))).symm
 simp only[SB.T,SB.F,SI.den] at hc;refine X.go nJ 400 _ rfl aag ?_
 conv=>arg 2;cbv
 refine X.gB (fun i:{i:Nat // i<=n/\∀(j:Nat) (x:aO),j<i->l[j]?=some x->¬x.big}=>⟨[(0,.val (.ao p n c)),(8,.val (.int .i64 (.nat n))),(9,.val (.int .i64 (.nat i.1)))],[]⟩) (fun i=>n-i.1) (fun N a w' hN hf hS=>⟨⟨0,Nat.zero_le _,fun j x hj=>by omega⟩,?_⟩) (fun i q' cF=>?_)
 ·exact At.eJ hf hS trivial
 obtain⟨i,hi,kE⟩:=i;refine X.go nJ 400 _ rfl aag ?_
 conv=>arg 2;cbv
 refine X.cond rfl (fun aF=>?_) (fun cJ=>?_)
 ·simp only[SB.T,SI.den] at aF
  have aF:i<n:=by omega
  obtain⟨x1,fK⟩:∃x,l[i]?=some x:=⟨_,aal (by omega)⟩;obtain⟨b1,y1,w1,fE,jG,dM⟩:=hs.kM fK;rw[<-aV] at dM;obtain⟨t,rfl,ht⟩:=aO.cells jG;obtain⟨h,hh⟩:∃h,h=B x1.s.a8.iI:=⟨_,rfl⟩;have hc:=fun(w1:World) bI=>Er x1.s.a8 _ w1 (ht.g.eU aV bI)
  rw[<-hh] at hc;obtain⟨e1,e2,e3,e4,e5,e6,e7,e8⟩:=ht.e;clear ht;obtain⟨nd,cc,op,on,oc,np,nn,nc,ky,Jd,s1,s2,s3,a1,a2,a3,⟨gk,gi,gs,gl,q1,q2,q3,q4,m1,m2,m3,m4,f1,f2,f3,f4⟩,ta⟩:=t;refine X.eL b1 (y1+i*21) (cy.cH ⟨nd,cc,op,on,oc,np,nn,nc,ky,Jd,s1,s2,s3,a1,a2,a3,⟨gk,gi,gs,gl,q1,q2,q3,q4,m1,m2,m3,m4,f1,f2,f3,f4⟩,ta⟩) (eh dM rfl) (Nat.zero_lt_succ _) (fun N1 dQ dX=>?_);have nX:(N1++[(⟨b1,y1+i*21,0⟩:aS)])[0]?=some ⟨b1,y1+i*21,0⟩:=ax dX;have vo:∀{E:Env} {N0:af} {rg:List Rg} {f:Fr} {g:GK} {x ix:Operand} {kd:IntKind} {s:SI},hY f g x=some (.ao p n c)->hY f g ix=some (.int kd s)->E.P=aac->N0=(N1++[(⟨b1,y1+i*21,0⟩:aS)])->s=.nat i->au E N0 rg f g (.indexAddr 22 x ix) (.own 0 0):=fun k1 k2 k3 k4 k5=>by subst k4 k5;exact au.row k1 k2 (fun _=>rfl) (by rw[k3];exact Tryz.underlying22) (by rw[k3];exact Tryz.sizeOf45) aF fE nX rfl rfl
  refine X.dk ([(14,.own 0 0),(23,.own 0 0),(33,.own 0 0),(37,.bool (.v h))]) nJ 400 _ rfl aag (fun pr fin aj ai=>?_)
  conv=>cbv
  refine⟨aj _ (.of Tryz.call18 [.agg _] (.bool h) (fun _=>rfl) (fun _=>rfl) fun _ w1 bI=>hc w1 bI),aj _ (vo rfl rfl rfl rfl rfl),aj _ (vo rfl rfl rfl rfl rfl),aj _ (vo rfl rfl rfl rfl rfl),ai _ _ ?_⟩;refine X.cond rfl (fun HH=>?_) (fun dm=>?_)
  ·simp only[SB.T,SB.F,SI.den] at HH
   refine X.go nJ 400 _ rfl aag ?_
   conv=>arg 2;cbv
   refine X.done nJ rfl (fun N w' v hN hS hv=>⟨aw hv ?_,hS.aM.mono fun k o _ h=>aB h⟩);rw[hq];refine(bP (.inr ⟨i,x1,fK,?_⟩)).symm;rw[hh,cT] at HH;simp only at e3 e4;unfold aO.big
   grind
  ·simp only[SB.T,SB.F,SI.den] at dm
   refine X.go nJ 400 _ rfl aag ?_
   conv=>arg 2;cbv
   refine X.back (fun N a w' hN hf hS=>cF ⟨i+1,by omega,fun j x' hj Cf=>?_⟩ a w' (by simp only;omega) ?_)
   ·by_cases e:j=i
    ·subst e
     rw[fK] at Cf;obtain rfl:=aaw.inj Cf;simp only at e3 e4
     rintro (e|e|e)
     ·omega
     ·omega
     ·rw[bP e] at hh
      rw[hh] at dm;simp at dm
    ·exact kE j x' (by omega) Cf
   exact At.eJ hf hS trivial
 simp only[SB.F,SI.den] at cJ;obtain rfl:i=n:=by omega
 refine X.go nJ 400 _ rfl aag ?_
 conv=>arg 2;cbv
 refine X.done nJ rfl (fun N w' v hN hS hv=>⟨aw hv ?_,hS.aM.mono fun k o _ h=>aB h⟩);rw[hq];refine(b_ fun h=>?_).symm;rcases h with h|⟨j,d,hj,hd⟩
 ·omega
 ·exact kE j d (by have:=(aae.1 hj).1;omega) hj hd
def Iz (b y:Nat)(t:cy):Array Value:=#[.pointer (some ⟨b,y,none⟩),.int .u8 t.node,.agg t.cV.toArray,.int .u8 t.key,.agg t.sV.toArray,.int .i64 t.eY]
def Mc (p:SV)(t:cy):List SV:=[p,.int .u8 (.v t.node),.agg t.cS,.int .u8 (.v t.key),.agg t.sS,.int .i64 (.v t.eY)]
structure aO.Ok (x:aO):Prop where
 c0:0<=x.c.c
 co:x.c.c_.length<=100/\∀z∈x.c.c_,0<=z/\z<256
 cn:x.c.new.length<=100/\∀z∈x.c.new,0<=z/\z<256
 a8:¬x.s.a8.iI
 nd:0<=x.node
 kw:(aah .u8 x.key).wf=true
 a1:(aah .u64 x.s.acc.count).wf=true
 a2:(aah .u8 x.s.acc.node).wf=true
 a3:(aah .u32 x.s.acc.cR).wf=true
theorem dC.yj {M:Mem}{p:Option Addr}{c:Nat}{l:List Int}{w:World}(h:dC M p c 1 (l.map qU))(hM:∀k o v,M k o=some v->w.cell? ⟨k,o,none⟩=some v):nf p l.length l.toArray w:=by
 refine⟨by simp,fun h0=>?_⟩;rcases h.2 with h1|⟨b,y,hp,hr⟩
 ·have:l=[]:=by simpa using h1
  subst this;simp at h0
 ·refine⟨b,y,hp,fun j hj=>?_⟩
  have hj:j<l.length:=by simpa using hj
  obtain⟨vs,k1,k2⟩:=hr j (qU l[j]) (by simp[hj]);obtain rfl:=qU.open k1;have:=hM _ _ _ (k2 0 _ rfl);rw[Nat.mul_one,aav] at this
  simpa[hj] using this
theorem Md (b y:Nat)(t:cy)(x:aO)(w:World)(ht:t.Of (wm w) x)(hx:x.Ok)(hc:¬x.cnt) :
  Calls aac 9 (Iz b y t) w fun e w'=>e=.returned (.tuple #[])/\aW (fun _ _=>False) w w':=by
 obtain⟨e1,e2,e3,e4,e5,e6,e7,e8⟩:=ht.e;have ho:=dC.yj (w:=w) ht.o fun _ _ _ h=>h
 have hn:=dC.yj (w:=w) ht.n fun _ _ _ h=>h
 have iC:=fun w1 (ct:∀k o v,ab [] [] w k o=some v->w1.cell? ⟨k,o,none⟩=some v)=>uK x.c.c.toNat t.op t.np x.c.c_.length x.c.new.length t.oc t.nc x.c.c_.toArray x.c.new.toArray w1 (by have:=hx.co.1;omega) (by have:=hx.cn.1;omega) (ho.im ct) (hn.im ct) (by simpa using hx.co.2) (by simpa using hx.cn.2)
 have HI:((x.c.c.toNat:Nat):Int)=t.cc:=by rw[e2];exact aay hx.c0
 rw[HI,<-e3,<-e4] at iC;obtain⟨mb,VB⟩:∃b,b=B (kG x.c.c.toNat x.c.c_.toArray x.c.new.toArray):=⟨_,rfl⟩;rw[<-VB] at iC;have iB:¬(t.node<64/\t.key<16/\t.has=true/\¬(t.a1=0/\t.a2=0/\t.a3=0)/\mb=true):=fun⟨k1,k2,k3,k4,k5⟩=>hc ⟨by omega,by omega,by rw[<-e6];exact k3,by rw[e7];simpa using k4,by rw[VB,cT] at k5;exact k5⟩
 clear ht hx hc ho hn VB HI e1 e2 e3 e4 e5 e6 e7 e8;obtain⟨nd,cc,op,on,oc,np,nn,nc,ky,hs,s1,s2,s3,a1,a2,a3,⟨gk,gi,gs,gl,q1,q2,q3,q4,m1,m2,m3,m4,f1,f2,f3,f4⟩,ta⟩:=t;refine X.begin (rg:=[]) (N:=[]) (ss:=Mc (.ext b y 0) ⟨nd,cc,op,on,oc,np,nn,nc,ky,hs,s1,s2,s3,a1,a2,a3,⟨gk,gi,gs,gl,q1,q2,q3,q4,m1,m2,m3,m4,f1,f2,f3,f4⟩,ta⟩) aaF rfl Jn rfl rfl Sat.bp ?_;obtain⟨nb,HP⟩:∃b,b=decide (a1=0/\a2=0/\a3=0):=⟨_,rfl⟩;refine X.iA ([(33,.bool (.v nb)),(37,.bool (.v mb))]) ([]) cI 400 _ rfl aad (fun pr pe fin aj bm ai=>?_)
 conv=>cbv
 refine⟨aj _ (.of aaG [.agg #[.int .u64 a1,.int .u8 a2,.int .u32 a3]] (.bool nb) (fun _=>rfl) (fun _=>rfl) fun _ w1 _=>by rw[HP];exact AO a1 a2 a3 w1),aj _ (.of aaH [.agg _] (.bool mb) (fun _=>rfl) (fun _=>rfl) fun _ w1 bI=>iC w1 bI),ai _ _ ?_⟩;clear aj bm ai;refine X.cond rfl (fun h=>?_) (fun h=>?_)
 ·refine X.go cI 400 _ rfl aad ?_
  conv=>arg 2;cbv
  refine X.done cI rfl (fun N w' v hN hS hv=>⟨?_,hS.aM.none⟩);simp only[bz,SV.den,SV.ap,aA] at hv;rw[<-hv]
 ·exfalso
  simp only[SB.F,SB.T,SI.den] at h;refine iB ?_;simp at HP
  grind
end Go.Proofs.YthpbefahaghbjaaGreat
namespace Go.Proofs.YthpbefahaghbjaaGreat
open Go Go.bU Go.ChangeShapes Go.WideShapes
def WM.put (wm:WM)(i:Nat)(pl pa pe:aS):WM:=⟨wm.m,fun r=>if r=1 then pl else if r=2 then pa else if r=3+i then pe else wm.P r⟩
structure FN (wm jP:WM) (len ne i:Nat) (seen:List fu) (Mo eu im:Mem) (w w':World):Prop where
 c_:∀k o v,Mo k o=some v->eu k o=some v
 new:∀k o v,eu k o=some v->Mo k o=some v\/w.heap.size<=k
 put:∀k o v,w.heap.size<=k->¬jP.D ne k o->w'.cell? ⟨k,o,none⟩=some v->eu k o=some v
 mo:∀k o v,eu k o=some v->w'.cell? ⟨k,o,none⟩=some v
 md:∀k o,jP.D ne k o->eu k o=none
 room:∀r,r<3+ne->zM (jP.P r) w'
 sep:∀r r',r<3+ne->r'<3+ne->r≠r'->∀k o,mK (jP.P r) k o->¬mK (jP.P r') k o
 inD:∀k o,jP.D ne k o->wm.D len k o\/w.heap.size<=k
 aM:aW (wm.D len) w w'
 en:∀j e,j≠i->seen[j]?=some e->h_ eu (jP.P (3+j)) e w'
 imn:∀k o,w.heap.size<=k->jP.D ne k o->im k o=none
theorem wU {fn:Func}{Q:Ending->World->Prop}{O D:Nat->Nat->Prop}{R:World->Prop}{im:Mem}{N0 N:af}{B:aH}{rg:List Rg}{w w':World}{wm:WM}{s:WP}{Mo:Mem}(h:bX wm s Mo w)(hS:Sat (aK aac fn Q w O im D R N0 B).toEnv N rg w')
  (i ne:Nat) (hi:i<s.seen.length/\ne=s.seen.length\/i=s.seen.length/\ne=s.seen.length+1) (hO:∀k o,O k o->k=wm.m\/∃r,(r<3\/r=3+i/\i<s.seen.length)/\mK (wm.P r) k o)
  (rl ra re:Nat) {pl pa pe:aS} {g0 gl ga ge:Rg} (h0:N[0]?=some (wm.P 0)) (hl:N[rl]?=some pl) (ha:N[ra]?=some pa) (he:N[re]?=some pe) (k0:rg[0]?=some g0) (kl:rg[rl]?=some gl) (ka:rg[ra]?=some ga) (ke:rg[re]?=some ge)
  (o0:g0.own=true) (ol:gl.own=true) (oa:ga.own=true) (oe:ge.own=true) (d1:0<rl) (d2:0<ra) (d3:0<re) (d4:rl≠ra) (d5:rl≠re) (d6:ra≠re):∃eu,FN wm (wm.put i pl pa pe) s.seen.length ne i s.seen Mo eu im w w':=by
 obtain⟨jP,V3⟩:∃x,x=wm.put i pl pa pe:=⟨_,rfl⟩;rw[<-V3];have KU:jP.m=wm.m:=by rw[V3];rfl
 have MW:jP.P 0=wm.P 0:=by
  rw[V3];simp only[WM.put];rw[if_neg (by omega),if_neg (by omega),if_neg (by omega)]
 have Dp:jP.P 1=pl:=by rw[V3];simp[WM.put]
 have hP2:jP.P 2=pa:=by rw[V3];simp[WM.put]
 have hPe:jP.P (3+i)=pe:=by
  rw[V3];simp only[WM.put];rw[if_neg (by omega),if_neg (by omega),if_pos trivial]
 have U6:∀r,3<=r->r≠3+i->jP.P r=wm.P r:=fun r h1 h2=>by
  rw[V3];simp only[WM.put];rw[if_neg (by omega),if_neg (by omega),if_neg h2]
 -- the aa_ of its own
 have own:∀r,r<3\/r=3+i->∃ix g,rg[ix]?=some g/\g.own=true/\N[ix]?=some (jP.P r)/\ix=(if r=0 then 0 else if r=1 then rl else if r=2 then ra else re):=fun r hr=>by
  rcases (by omega:r=0\/r=1\/r=2\/r=3+i) with rfl|rfl|rfl|rfl
  ·exact⟨0,g0,k0,o0,by rw[MW];exact h0,by simp⟩
  ·exact⟨rl,gl,kl,ol,by rw[Dp];exact hl,by simp⟩
  ·exact⟨ra,ga,ka,oa,by rw[hP2];exact ha,by simp⟩
  ·exact⟨re,ge,ke,oe,by rw[hPe];exact he,by rw[if_neg (by omega),if_neg (by omega),if_neg (by omega)]⟩
 have WO:∀k o,O k o->wm.D s.seen.length k o:=fun k o ho=>by
  rcases hO k o ho with e|⟨r,hr,ni⟩
  ·exact .inl e
  ·exact .inr ⟨r,by omega,ni⟩
 have dG:∀r,r<3\/r=3+i->∀k o,mK (jP.P r) k o->w.heap.size<=k\/O k o:=fun r hr k o ⟨e1,e2,e3⟩=>by
  obtain⟨ix,g,q1,q2,q3,_⟩:=own r hr;rcases hS.dG ix g _ q1 q3 q2 with h1|h1
  ·left;rw[e1];exact h1
  ·right
   have:=h1 (o-(jP.P r).o) (by omega);rw[show(jP.P r).o+(o-(jP.P r).o)=o by omega,<-e1] at this;exact this
 have RP:∀r,r<3+s.seen.length->∀k o,mK (wm.P r) k o->k<w.heap.size:=fun r hr k o ni=>h.lt (.inr ⟨r,hr,ni⟩)
 have WE:∀r,r<3+ne->(r<3\/r=3+i)\/(3<=r/\r≠3+i/\r<3+s.seen.length):=fun r hr=>by omega
 have ZS:∀r,3<=r->r≠3+i->r<3+s.seen.length->∀k o,mK (wm.P r) k o->¬O k o:=fun r h1 h2 h3 k o ni ho=>by
  rcases hO k o ho with e|⟨r',Na,yb⟩
  ·exact h.ne h3 ni e
  ·exact h.sep r r' h3 (by omega) (by omega) k o ni yb
 have inD:∀k o,jP.D ne k o->wm.D s.seen.length k o\/w.heap.size<=k:=fun k o hd=>by
  rcases hd with e|⟨r,hr,ni⟩
  ·exact .inl (.inl (by rw[<-KU];exact e))
  ·rcases WE r hr with h1|⟨h1,h2,h3⟩
   ·exact(dG r h1 k o ni).symm.imp (WO k o) id
   ·rw[U6 r h1 h2] at ni
    exact .inl (.inr ⟨r,h3,ni⟩)
 obtain⟨eu,Kz⟩:∃M:Mem,M=fun k o=>open Classical in if (Mo k o).isSome then Mo k o else if w.heap.size<=k/\¬jP.D ne k o then w'.cell? ⟨k,o,none⟩ else none:=⟨_,rfl⟩
 have c_:∀k o v,Mo k o=some v->eu k o=some v:=fun k o v hk=>by rw[Kz];simp[hk]
 have Jb:∀k o,jP.D ne k o->Mo k o=none:=fun k o hd=>by
  rcases inD k o hd with h1|h1
  ·exact h.md k o h1
  ·cases hk:Mo k o with
   |none=>rfl
   |some v =>
    have:=World.block_lt_of_cell? _ _ (h.mo k o v hk);simp only at this;omega
 have Ve:aW (wm.D s.seen.length) w w':=hS.aM.mono fun k o _ ho=>WO k o ho
 refine⟨eu,c_,fun k o v hk=>?_,fun k o v h1 h2 h3=>?_,fun k o v hk=>?_,fun k o hd=>?_,fun r hr=>?_,fun r r' hr Na bH k o h1 h2=>?_,inD,Ve,fun j e hj hje=>?_,fun k o hk hd=>?_⟩
 ·cases o5:Mo k o with
  |some u=>rw[c_ k o u o5] at hk;exact .inl hk
  |none =>
   rw[Kz] at hk;simp only[o5,aax,aaz,if_false] at hk
   split at hk
   ·rename_i h1;exact .inr h1.1
   ·cases hk
 ·cases o5:Mo k o with
  |some u =>
   have:=World.block_lt_of_cell? _ _ (h.mo k o u o5);simp only at this;omega
  |none =>
   rw[Kz];simp only[o5,aax,aaz,if_false];rw[if_pos ⟨h1,h2⟩];exact h3
 ·cases o5:Mo k o with
  |some u =>
   have e1:=c_ k o u o5;rw[hk] at e1;cases e1;exact bw Ve (fun hd=>by rw[h.md k o hd] at o5;cases o5) (h.mo k o v o5)
  |none =>
   rw[Kz] at hk;simp only[o5,aax,aaz,if_false] at hk
   split at hk
   ·exact hk
   ·cases hk
 ·rw[Kz]
  simp only[Jb k o hd,aax,aaz,if_false];rw[if_neg (fun h=>h.2 hd)]
 ·rcases WE r hr with h1|⟨h1,h2,h3⟩
  ·obtain⟨ix,g,q1,q2,q3,_⟩:=own r h1
   exact⟨hS.lt ix _ q3,hS.room ix g _ q1 q3 q2⟩
  ·rw[U6 r h1 h2]
   exact(h.room r h3).aM Ve
 ·have mix:∀a b,(a<3\/a=3+i)->(3<=b/\b≠3+i/\b<3+s.seen.length)->mK (jP.P a) k o->mK (jP.P b) k o->False:=fun a b ha hb h1 h2=>by
   rw[U6 b hb.1 hb.2.1] at h2;rcases dG a ha k o h1 with q|q
   ·have:=RP b hb.2.2 k o h2
    omega
   ·exact ZS b hb.1 hb.2.1 hb.2.2 k o h2 q
  rcases WE r hr with c1|c1
  ·rcases WE r' Na with c2|c2
   ·obtain⟨ix,g,q1,q2,q3,q4⟩:=own r c1
    obtain⟨ix',g',lg,lh,li,lj⟩:=own r' c2;have lB:ix≠ix':=by
     rw[q4,lj];rcases (by omega:r=0\/r=1\/r=2\/r=3+i) with rfl|rfl|rfl|rfl<;>rcases (by omega:r'=0\/r'=1\/r'=2\/r'=3+i) with rfl|rfl|rfl|rfl <;>
      (repeat first|rw[if_pos rfl]|rw[if_neg (by omega)])<;>omega
    have:=hS.eT ix ix' g g' _ _ q1 q3 lg li q2 lB (o-(jP.P r').o) (by unfold Rg.wid;rw[lh];have:=h2.2;simp;omega) (by rw[<-h1.1,<-h2.1]);have a1:=h1.2;have a2:=h2.2;omega
   ·exact mix r r' c1 c2 h1 h2
  ·rcases WE r' Na with c2|c2
   ·exact mix r' r c2 c1 h2 h1
   ·rw[U6 r c1.1 c1.2.1] at h1
    rw[U6 r' c2.1 c2.2.1] at h2;exact h.sep r r' c1.2.2 c2.2.2 bH k o h1 h2
 ·have uT:=(aae.1 hje).1
  rw[U6 (3+j) (by omega) (by omega)];exact((h.en j e hje).aM hS.aM (ZS (3+j) (by omega) (by omega) (by omega))).mono c_
 ·rcases hd with e|⟨r,hr,ni⟩
  ·rw[KU] at e
   obtain⟨g,g1,_⟩:=h.mp;have:=ov g1.ob;omega
  ·rcases WE r hr with h1|⟨h1,h2,h3⟩
   ·obtain⟨ix,g,q1,q2,q3,_⟩:=own r h1
    have:=hS.lR ix g _ q1 q3 q2 (o-(jP.P r).o) (by have:=ni.2;omega);rw[show(jP.P r).o+(o-(jP.P r).o)=o by have:=ni.2;omega,<-ni.1] at this;exact this
   ·rw[U6 r h1 h2] at ni
    have:=RP r h3 k o ni;omega
theorem A5 {wm:WM}{s s':WP}{Mo eu im:Mem}{w w':World}{i ne:Nat}{pl pa pe:aS}{e':fu}(h:bX wm s Mo w)(c:FN wm (wm.put i pl pa pe) s.seen.length ne i s.seen Mo eu im w w')(hlen:s'.seen.length=ne)(hi:s'.seen[i]?=some e')(ho:∀j e,j≠i->s'.seen[j]?=some e->s.seen[j]?=some e)
  (hd:lx (wm.P 0) [.map (some wm.m),gC pl s'.l.length,gC pa s'.all.length,.bool s'.da] w') (hl:fC eu pl s'.l w') (ha:fC eu pa s'.all w') (he:h_ eu pe e' w')
  (hm:∃g,eD aac cM wm.m g w'/\(∀j e,s'.seen[j]?=some e->g (Cz e.key e.b)=some (iE ((wm.put i pl pa pe).P (3+j))))/\∀key b,s'.pos key b=none->g (Cz key b)=none):mv wm s s' Mo w (.returned (.tuple #[])) w':=by
 have MW:(wm.put i pl pa pe).P 0=wm.P 0:=by
  simp only[WM.put];rw[if_neg (by omega),if_neg (by omega),if_neg (by omega)]
 have Dp:(wm.put i pl pa pe).P 1=pl:=by simp[WM.put]
 have hP2:(wm.put i pl pa pe).P 2=pa:=by simp[WM.put]
 have hPe:(wm.put i pl pa pe).P (3+i)=pe:=by
  simp only[WM.put];rw[if_neg (by omega),if_neg (by omega),if_pos trivial]
 refine⟨rfl,wm.put i pl pa pe,eu,⟨by rw[hlen];exact c.room,by rw[hlen];exact c.sep,hm,⟨by rw[MW];exact h.hd.1,by rw[MW,Dp,hP2];exact hd⟩,by rw[Dp];exact hl,by rw[hP2];exact ha,fun j e hj=>?_,c.mo,by rw[hlen];exact c.md⟩,MW,c.aM,by rw[hlen];exact c.inD,c.c_,c.new⟩
 by_cases e1:j=i
 ·subst e1
  rw[hi] at hj;cases hj;rw[hPe];exact he
 ·exact c.en j e e1 (ho j e e1 hj)
theorem fl {E:Env}{N:af}{rg:List Rg}{w:World}(hS:Sat E N rg w){r:Nat}{g:Rg}{p:aS}{vs:List Value}(hg:rg[r]?=some g)(hp:N[r]?=some p)(hd:SV.ap N g.cells=some vs):lx p vs w:=fun j v hj=>by
 obtain⟨h1,h2⟩:=SV.aP _ hd;obtain⟨c,hc⟩:∃c,g.cells[j]?=some c:=⟨_,aal (by rw[<-h1];exact(aae.1 hj).1)⟩;obtain⟨v',h3,h4⟩:=h2 j c hc;rw[hj] at h4;cases h4;obtain⟨v'',h5,h6⟩:=hS.cell r g p hg hp j c hc;rw[h3] at h5;cases h5;exact h6
theorem fC.snoc {M:Mem}{p:aS}{l:List aI}{w:World}{bC:List (List Value)}{x:aI}{vs:List Value}(h1:bC.length=l.length)(h2:∀(i:Nat) (x:aI),l[i]?=some x->∃vs,bC[i]?=some vs/\az M x.toD vs)(h3:az M x.toD vs)(h4:lx p (bC.flatten++vs) w)(h5:(l.length+1)*13<=p.x):fC M p (l++[x]) w:=by
 refine⟨by simpa using h5,fun h=>by simp at h,bC++[vs],by simp[h1],fun i y hi=>?_,by simpa using h4⟩;rcases aaQ i l.length with hl|hl
 ·rw[aaK hl] at hi
  obtain⟨us,k1,k2⟩:=h2 i y hi;exact⟨us,by rw[aaK (by omega)];exact k1,k2⟩
 ·rw[aaL hl] at hi
  have:i-l.length=0:=by
   have:=(aae.1 hi).1;simp at this;omega
  rw[this] at hi;simp at hi;subst hi;exact⟨vs,by rw[aaL (by omega),h1,this];rfl,h3⟩
theorem fC.same {M:Mem}{p:aS}{l:List aI}{w:World}{bC:List (List Value)}(h1:bC.length=l.length)(h2:∀(i:Nat) (x:aI),l[i]?=some x->∃vs,bC[i]?=some vs/\az M x.toD vs)(h4:lx p bC.flatten w)(h5:l.length*13<=p.x)(h6:l=[]->p.x=0):fC M p l w:=⟨h5,h6,bC,h1,h2,h4⟩
end Go.Proofs.YthpbefahaghbjaaGreat
namespace Go.bU
open Go
theorem eZ.IZ {P:Program}{ops:Array aaf}{Q:Exit->Act->World->Prop}{S S':Array Bool->World->Prop}(hS:∀L w,S L w->S' L w):∀(m:Nat) (L:Array Bool) (a:Act) (w:World),eZ P ops Q S m L a w->eZ P ops Q S' m L a w
 |0,_,_,_,h=>h
 |m+1,_,_,_,h=>⟨h.1,fun i hi=>wpOp_mono (fun a' w' h'=>⟨hS _ _ h'.1,eZ.IZ hS m _ a' w' h'.2⟩) (h.2 i hi)⟩
def zW (pe:PE)(pr:hZ->Prop)(fin:St->Prop)(td:List (Nat × SV))(tx:List (Nat × Ef))(T:aQ)(n:Nat)(all:Array aaf)(K:KW)(rg:List Rg)(hz:Nat)(H:dK->St->Prop):dK->St->Prop
 | .nil,s=>fin s
 | .q i gH r,s=>lF K i=true/\match qP td T n all (aJ (flatK (mM gH) K) rg 0) i s.fr with
  |some (f,o)=>RQ pr o (zW pe pr fin td tx T n all K rg hz H r ⟨f,s.rg⟩)
  |none=>False
 | .one i r,s=>bif aaj i hz then H r s else jw pe pr td tx T n all K i (fun s'=>zW pe pr fin td tx T n all K rg hz H r s') s
 | .two i j x y,s=>(bif aaj i hz then H x s else jw pe pr td tx T n all K i (fun s'=>zW pe pr fin td tx T n all K rg hz H x s') s)/\(bif aaj j hz then H y s else jw pe pr td tx T n all K j (fun s'=>zW pe pr fin td tx T n all K rg hz H y s') s)
theorem D3 {E:Env}{T:aQ}(hT:aq E.P T){td:List (Nat × SV)}{tx:List (Nat × Ef)}{all:Array aaf}(jb:aaR all=true){Q:Exit->Act->World->Prop}(hQ:bR Q){N0:af}{K:KW}{rg:List Rg}{fin:St->Prop}{hz:Nat}{H:dK->St->Prop}{Nf:af}(wf:World)(hV:jg Nf rg wf)
  (hH:∀(m:Nat) (ad:Array Bool) (r:dK) {s:St} {N:af} {a:Act} {w:World},bA all r m (ad.setIfInBounds hz true)=true->hz∈aam .any all ad->ad.size=all.size->H r s->Nf.le N->N0.le N->aX E.n N s.fr a->Sat E N s.rg w->bG (bS K (ad.setIfInBounds hz true)) rg s.rg->rg.length<=s.rg.length ->
   wpOp E.P all Q hz (fun a' w'=>VI E.im Nf (aJ (bS K (ad.setIfInBounds hz true)) rg 0) w'/\eZ E.P all Q (fun L=>VI E.im Nf (aJ (bS K L) rg 0)) m (ad.setIfInBounds hz true) a' w') a w):∀(t:dK) (m:Nat) (ad:Array Bool) {s:St} {N:af} {a:Act} {w:World},
  bA all t m ad=true->ad.size=all.size->zW (be E N0) (hZ.Ok E N0) fin td tx T E.n all K rg hz H t s->Nf.le N->N0.le N->aX E.n N s.fr a->Sat E N s.rg w->bG (bS K ad) rg s.rg->rg.length<=s.rg.length ->
  (∀s' N' a' w',fin s'->N.le N'->aX E.n N' s'.fr a'->Sat E N' s'.rg w'->Q .normal a' w')->eZ E.P all Q (fun L=>VI E.im Nf (aJ (bS K L) rg 0)) m ad a w:=by
 have I4:∀{l:List Nat},l.isEmpty=true->l=[]:=by intro l h;cases l<;>simp at h ⊢
 have eL:∀(L:Array Bool) {N:af} {cN:List Rg} {w:World},Nf.le N->bG (bS K L) rg cN->Sat E N cN w->VI E.im Nf (aJ (bS K L) rg 0) w:=fun L _ _ _ hN ha hS=>⟨dx (hV.AK _) hN ha hS,hS.cK⟩
 -- one operation that is ready
 have step:∀(m:Nat) (ad:Array Bool) (i:Nat) (c:St->Prop) {s:St} {N:af} {a:Act} {w:World},i∈aam .any all ad->ad.size=all.size->jw (be E N0) (hZ.Ok E N0) td tx T E.n all K i c s->Nf.le N->N0.le N->aX E.n N s.fr a->Sat E N s.rg w->bG (bS K ad) rg s.rg->rg.length<=s.rg.length ->
   (∀s' N' a' w',c s'->N.le N'->aX E.n N' s'.fr a'->Sat E N' s'.rg w'->bG (bS K (ad.setIfInBounds i true)) rg s'.rg->rg.length<=s'.rg.length->eZ E.P all Q (fun L=>VI E.im Nf (aJ (bS K L) rg 0)) m (ad.setIfInBounds i true) a' w') ->
   wpOp E.P all Q i (fun a' w'=>VI E.im Nf (aJ (bS K (ad.setIfInBounds i true)) rg 0) w'/\eZ E.P all Q (fun L=>VI E.im Nf (aJ (bS K L) rg 0)) m (ad.setIfInBounds i true) a' w') a w:=by
  intro m ad i c s N a w jp hn hg hN ck hf hS ha hl hk;have aF:i<ad.size:=by
   obtain⟨_,o,ho,_⟩:=aaq.1 jp;rw[hn];exact(aaT.1 ho).1
  have ey:(ad.setIfInBounds i true).getD i false=true:=by simp[aF]
  have grow:∀r,aU (bS K ad) r=true->aU (bS K (ad.setIfInBounds i true)) r=true:=fun r h=>by
   obtain⟨p,h1,h2,h3⟩:=aG.1 h;refine aG.2 ⟨p,h1,?_,h3⟩
   by_cases e:i=p.1
   ·rw[<-e];exact ey
   ·rw[getD_set_ne false e];exact h2
  have own:∀k,aU (eW K i) k=true->aU (bS K (ad.setIfInBounds i true)) k=true:=fun k hk=>by
   obtain⟨p,h1,h2,h3⟩:=fw hk;exact aG.2 ⟨p,h1,by rw[h2];exact ey,h3⟩
  have fT:bG (bS K (ad.setIfInBounds i true)) rg s.rg:=ha.mono fun r hr=>by
   cases hx:aU (bS K ad) r with
   |true=>rw[grow r hx] at hr;cases hr
   |false=>rfl
  obtain⟨_,o,ho,_⟩:=aaq.1 jp;unfold jw at hg;unfold wpOp;simp only[ho]
  split at hg
  ·rename_i f op e hq
   obtain⟨xG,fm,hg⟩:=hg;obtain⟨hw,hx⟩:=mF ho hq fm ck hf hS;obtain⟨xF,o5⟩:=e.keeps s.rg;have sD:bG (bS K (ad.setIfInBounds i true)) rg (e.up s.rg):=fun r g hg hr=>xF r g (fT r g hg hr) (iY xG r (by
    cases hx:aU (eW K i) r with
    |true=>rw[own r hx] at hr;cases hr
    |false=>rfl))
   rw[hw,if_pos rfl];exact .inl (hx _ _ fun N' x w' db d_ cL=>⟨eL _ (hN.trans db) sD cL,hk _ N' _ w' hg db d_ cL sD (aaA hl o5)⟩)
  unfold stepT at hg
  split at hg
  ·rename_i f ob hq
   obtain⟨fm,hg⟩:=gL hg;obtain⟨v,hv,de⟩:=fv hT ho hq fm ck hf hS.vi;have gz:=hk _ N _ w hg (af.le.refl N) de hS fT hl;rcases hv with ⟨hw,a6⟩|⟨hw,rfl⟩
   ·rw[hw,if_pos rfl]
    exact .inl (bi (.inl (a6 w hS.vi)) ⟨eL _ hN fT hS,gz⟩)
   ·rw[hw]
    exact⟨eL _ hN fT hS,gz⟩
  ·split at hg
   ·rename_i s1 he
    obtain⟨xG,mJ⟩:=hg;obtain⟨hw,N',x,w',db,hy,d_,cL⟩:=gu hT (by simpa using ho) he hf hS;have sD:=eA (ks:=bS K (ad.setIfInBounds i true)) fT hl (by
     split
     ·rename_i k oZ
      rw[oZ] at xG;exact own k xG
     ·rfl) he
    rw[hw,if_pos rfl];exact .inl (bi hy ⟨eL _ (hN.trans db) sD.1 cL,hk _ N' _ _ mJ db d_ cL sD.1 sD.2⟩)
   ·split at hg
    ·rename_i f gk g l v qw
     obtain⟨fm,hg⟩:=hg;rcases fV ho qw fm ck hf hS with ⟨hw,hx⟩|⟨hw,d_⟩
     ·rw[hw,if_pos rfl]
      exact .inl (hx _ _ fun x w' d_ cL=>⟨eL _ hN fT cL,hk _ N _ w' hg (af.le.refl N) d_ cL fT hl⟩)
     ·rw[hw]
      exact⟨eL _ hN fT hS,hk _ N _ w hg (af.le.refl N) d_ hS fT hl⟩
    ·exact hg.elim
 have Kv:∀(ad:Array Bool) (i:Nat),i<ad.size->∀r,aU (bS K ad) r=true->aU (bS K (ad.setIfInBounds i true)) r=true:=fun ad i aF r h=>by
  obtain⟨p,h1,h2,h3⟩:=aG.1 h;refine aG.2 ⟨p,h1,?_,h3⟩
  by_cases e:i=p.1
  ·rw[<-e];simp[aF]
  ·rw[getD_set_ne false e];exact h2
 have hand:∀(m:Nat) (ad:Array Bool) (i:Nat) (r:dK) (c:St->Prop) {s:St} {N:af} {a:Act} {w:World},i∈aam .any all ad->ad.size=all.size->bA all r m (ad.setIfInBounds i true)=true->(bif aaj i hz then H r s else jw (be E N0) (hZ.Ok E N0) td tx T E.n all K i c s)->Nf.le N->N0.le N->aX E.n N s.fr a->Sat E N s.rg w->bG (bS K ad) rg s.rg->rg.length<=s.rg.length ->
   (∀s' N' a' w',c s'->N.le N'->aX E.n N' s'.fr a'->Sat E N' s'.rg w'->bG (bS K (ad.setIfInBounds i true)) rg s'.rg->rg.length<=s'.rg.length->eZ E.P all Q (fun L=>VI E.im Nf (aJ (bS K L) rg 0)) m (ad.setIfInBounds i true) a' w') ->
   wpOp E.P all Q i (fun a' w'=>VI E.im Nf (aJ (bS K (ad.setIfInBounds i true)) rg 0) w'/\eZ E.P all Q (fun L=>VI E.im Nf (aJ (bS K L) rg 0)) m (ad.setIfInBounds i true) a' w') a w:=by
  intro m ad i r c s N a w jp hn ht hg hN ck hf hS ha hl hk;cases hb:aaj i hz with
  |true =>
   rw[hb] at hg;obtain rfl:=aaB hb;have aF:i<ad.size:=by
    obtain⟨_,o,ho,_⟩:=aaq.1 jp;rw[hn];exact(aaT.1 ho).1
   exact hH m ad r ht jp hn hg hN ck hf hS (ha.mono fun r hr=>by
    cases hx:aU (bS K ad) r with
    |true=>rw[Kv ad i aF r hx] at hr;cases hr
    |false=>rfl) hl
  |false =>
   rw[hb] at hg;exact step m ad i c jp hn hg hN ck hf hS ha hl hk
 intro t
 induction t with
 |nil =>
  intro m ad s N a w hs hn hg hN ck hf hS ha hl hk;simp only[bA,aar] at hs;obtain rfl:=aaB hs.1;exact eZ.done (I4 hs.2) (hk s N a w hg (af.le.refl N) hf hS)
 |q i gH r ih =>
  intro m ad s N a w hs hn hg hN ck hf hS ha hl hk;cases m with
  |zero=>simp[bA] at hs
  |succ m =>
   have yI:=eL ad hN ha hS;simp only[bA,aar] at hs;obtain⟨⟨⟨⟨hr,jL⟩,gp⟩,gq⟩,hs⟩:=hs;simp only[zW] at hg;obtain⟨o8,hg⟩:=hg;have o8:=ff o8;have jp:i∈aam .any all ad:=by simpa using hr
   have tg:ad.getD i false=false:=by
    have h1:=(aaq.1 jp).1;rcases aaQ i ad.size with h'|h'
    ·simp[h'] at h1 ⊢;exact h1
    ·rw[Array.getD_eq_getD_getElem?,Array.getElem?_eq_none h'];rfl
   have same:∀(L:Array Bool) (r:Nat),aU (bS K (L.setIfInBounds i true)) r=true↔aU (bS K L) r=true:=fun L r=>by
    simp only[bS,aG];constructor
    ·rintro⟨p,h1,h2,h3⟩
     exact⟨p,h1,by rwa [getD_set_ne false (fun e=>o8 p h1 e.symm)] at h2,h3⟩
    ·rintro⟨p,h1,h2,h3⟩
     exact⟨p,h1,by rwa [getD_set_ne false (fun e=>o8 p h1 e.symm)],h3⟩
   split at hg
   ·rename_i f ob hq
    obtain⟨_,o,ho,_⟩:=aaq.1 jp;obtain⟨fm,hg⟩:=gL hg;have wide:∀{L':Array Bool} {w':World},Up all i ad L'->VI E.im Nf (aJ (bS K L') rg 0) w'->VI E.im Nf (aJ (flatK (mM gH) K) rg 0) w':=fun sI hv =>
     ⟨hv.1.more fun r hr=>by
      obtain⟨p,h1,h2,h3⟩:=aG.1 hr;exact aG.2 ⟨p,h1,(sI.within gp hn tg gq).2.2 _ h2,h3⟩,hv.2⟩
    obtain⟨v,hv,de⟩:=fv hT ho hq fm ck hf ((wide .here yI).mono hN);refine eZ.take (S:=fun L=>VI E.im Nf (aJ (bS K L) rg 0)) ho jb jL hr (fun c a w h=>hQ c a o.dst v w h) (fun L w=>⟨fun h=>⟨h.1.more fun r hr=>(same L r).1 hr,h.2⟩,fun h=>⟨h.1.more fun r hr=>(same L r).2 hr,h.2⟩⟩) ?_ yI
     (ih m _ hs (by simpa using hn) hg hN ck de hS (fun r g hg hm=>ha r g hg (by
      cases hx:aU (bS K ad) r with
      |true=>rw[(same ad r).2 hx] at hm;cases hm
      |false=>rfl)) hl hk)
    rcases hv with ⟨hw,a6⟩|⟨hw,rfl⟩
    ·exact .inl ⟨hw,fun w ⟨L',sI,hw⟩=>a6 w ((wide sI hw).mono hN)⟩
    ·exact .inr ⟨hw,rfl⟩
   ·exact hg.elim
 |one i r ih =>
  intro m ad s N a w hs hn hg hN ck hf hS ha hl hk;cases m with
  |zero=>simp[bA] at hs
  |succ m =>
   simp only[bA,aar] at hs;have hr:=gr hs.1;refine eZ.all hr (by simp) fun j hj=>?_
   simp only[List.mem_singleton] at hj;subst hj;simp only[zW] at hg;refine hand m ad j _ _ (by rw[hr];simp) hn hs.2 hg hN ck hf hS ha hl fun s' N' a' w' hc db d_ cL mI o6=>?_
   exact ih m _ hs.2 (by simpa using hn) hc (hN.trans db) (ck.trans db) d_ cL mI o6 fun s2 N2 a2 w2 h1 h2=>hk s2 N2 a2 w2 h1 (db.trans h2)
 |two i j x y V5 V6 =>
  intro m ad s N a w hs hn hg hN ck hf hS ha hl hk;cases m with
  |zero=>simp[bA] at hs
  |succ m =>
   simp only[bA,aar] at hs;obtain⟨⟨h2,hx⟩,hy⟩:=hs;have hr:=mO h2;have EA:i∈aam .any all ad:=by rcases hr with h|h<;>rw[h]<;>simp
   have VC:j∈aam .any all ad:=by rcases hr with h|h<;>rw[h]<;>simp
   simp only[zW] at hg;have si:=hand m ad i _ _ EA hn hx hg.1 hN ck hf hS ha hl fun s' N' a' w' hc db d_ cL mI o6=>V5 m _ hx (by simpa using hn) hc (hN.trans db) (ck.trans db) d_ cL mI o6 fun s2 N2 a2 w2 h1 h2=>hk s2 N2 a2 w2 h1 (db.trans h2)
   have sj:=hand m ad j _ _ VC hn hy hg.2 hN ck hf hS ha hl fun s' N' a' w' hc db d_ cL mI o6=>V6 m _ hy (by simpa using hn) hc (hN.trans db) (ck.trans db) d_ cL mI o6 fun s2 N2 a2 w2 h1 h2=>hk s2 N2 a2 w2 h1 (db.trans h2)
   rcases hr with h|h
   ·exact eZ.all h (by simp) fun q hq=>by
     simp only[aaM,aaN,or_false] at hq;rcases hq with rfl|rfl
     ·exact si
     ·exact sj
   ·exact eZ.all h (by simp) fun q hq=>by
     simp only[aaM,aaN,or_false] at hq;rcases hq with rfl|rfl
     ·exact sj
     ·exact si
def Xu (E:eR)(k:List It)(T:aQ)(n:Nat)(all:Array aaf)(K:KW)(rg:List Rg)(r:dK)(N:af)(fr:Fr)(L8:List Rg)(d:Option Nat)(v:Value)(w':World):Prop :=
 ∃(E':eR) (rv:SV) (f':Fr) (td:List (Nat × SV)) (tx:List (Nat × Ef)),E'.P=E.P/\E'.n=E.n/\E'.B=E.B/\E'.Q=E.Q/\(∀k o v,E.im k o=some v->E'.im k o=some v)/\E'.N0.le N/\Sat E'.toEnv N L8 w'/\rv.den N=some v/\eK n fr d (.val rv)=some f' /\
  ∀(pr:hZ->Prop) (pe:PE) (fin:St->Prop),(∀q:hZ,q.Ok E'.toEnv E'.N0->pr q)->(∀rg f op r cN,be E'.toEnv E'.N0 rg f op r cN->pe rg f op r cN)->(∀s',X E' k s'->fin s')->BL pe pr fin td tx T n all K rg r ⟨f',L8⟩
def Jq (E:eR)(k:List It)(T:aQ)(n:Nat)(all:Array aaf)(K:KW)(rg:List Rg)(hz:Nat)(r:dK)(s:St):Prop :=
 ∃(o:aaf) (g:FuncId) (xs:Array Operand) (ts:Array TypeId) (l:List SV),nth all.toList hz=some o/\o.guard=none/\o.op=.call { callee:=.value (.func g),args:=xs,argTypes:=ts }/\tU s.fr xs.toList=some l/\(∀args w,(callFunc g args).run E.P w=.ok (.enter g args) w) /\
  ∀(N:af) (w:World) (args:List Value),E.N0.le N->Sat E.toEnv N s.rg w->SV.ap N l=some args->Calls E.P g args.toArray w fun e w'=>∃v,e=.returned v/\Xu E k T n all K rg r N s.fr s.rg o.dst v w'
theorem X.XY {P:Program}{fn:Func}{R:Ending->World->Prop}{W:World}{O:Nat->Nat->Prop}{im:Nat->Nat->Option Value}{D:Nat->Nat->Prop}{Rr:World->Prop}{N0:af}{B:aH}{T:aQ}(td:List (Nat × SV))(tx:List (Nat × Ef))(hT:aq P T)(t:dK)(n:Nat)(hz:Nat)(K:KW){id:Nat}{ops:Array aaf}{k:List It}{s:St}
  (hn:fn.ntmps=n) (jb:aaR ops=true) (ht:bA ops t ops.size (Array.replicate ops.size false)=true)
  (h:∀(pr:hZ->Prop) (pe:PE) (fin:St->Prop) (H:dK->St->Prop),(∀q:hZ,q.Ok (aK P fn R W O im D Rr N0 B).toEnv N0->pr q)->(∀rg f op r cN,be (aK P fn R W O im D Rr N0 B).toEnv N0 rg f op r cN->pe rg f op r cN)->(∀s',X (aK P fn R W O im D Rr N0 B) k s'->fin s') ->
   (∀r s',Jq (aK P fn R W O im D Rr N0 B) k T n ops K s.rg hz r s'->H r s')->zW pe pr fin td tx T n ops K s.rg hz H t s):X (aK P fn R W O im D Rr N0 B) (.code (.region id ops true)::k) s:=by
 subst hn;intro N a w hN hf hS;show _->Code.wp _ _ _ _ _;intro _;have hg:=h (hZ.Ok (aK P fn R W O im D Rr N0 B).toEnv N0) (be (aK P fn R W O im D Rr N0 B).toEnv N0) (fun s'=>X (aK P fn R W O im D Rr N0 B) k s') (Jq (aK P fn R W O im D Rr N0 B) k T fn.ntmps ops K s.rg hz) (fun _ h=>h) (fun _ _ _ _ _ h=>h) (fun _ h=>h) (fun _ _ h=>h);have cL:Sat (aK P fn R W O im D Rr N0 B).toEnv N s.rg { w with drawn:=w.drawn+1 }:=hS.drew;have hQ:=bR.ms (P:=P) (B:=B) (Q:=bodyPost P fn R) (fun _ _ d _ _ h=>by cases d<;>exact h) k;have PZ:=D3 (E:=(aK P fn R W O im D Rr N0 B).toEnv) (H:=Jq (aK P fn R W O im D Rr N0 B) k T fn.ntmps ops K s.rg hz) hT jb hQ _ cL.xt (fun m ad r s1 N1 a1 w1 htr jp K2 hh Ra dQ MY hS1 fT qt=>by
  obtain⟨o,g,xs,ts,l,ho,Yt,cC,hl,hb,hc⟩:=hh;have kR:ops[hz]?=some o:=by rw[bT] at ho;simpa using ho
  have fD:=lW MY _ hl;have hc:=hc N1 w1 _ dQ hS1 fD;have a6:(execOp a1.eval o).run P w1=.ok (.enter g (xs.toList.map a1.eval).toArray) w1:=by
   simp only[execOp,cC,resolve,Act.eval,Deferred.ofValue,Sem.run_bind,Sem.run_pure,Result.andThen,invoke];rw[hb]
   congr 2
   apply Array.ext';simp
  unfold wpOp;simp only[kR];have hw:aaS o (yielded ops a1.tmps)=true:=by simp[aaS,Yt]
  rw[hw,if_pos rfl];refine .inl ?_;unfold Oper.wp;rw[a6];refine Calls.mono hc fun e w' ⟨v,he,hv⟩=>?_
  subst he;obtain⟨⟨⟨P2,n2,Q2,W2,O2,iz,D2,R2⟩,N2,B2⟩,rv,f',td2,tx2,e1,e2,e3,e4,ct,KA,Py,hr,hp,hx⟩:=hv
  change P2=P at e1
  change n2=fn.ntmps at e2
  change B2=B at e3
  change Q2=bodyPost P fn R at e4
  subst e1;subst e2;subst e3;have hx:=hx _ _ (fun s'=>X ⟨⟨P2,fn.ntmps,Q2,W2,O2,iz,D2,R2⟩,N2,B2⟩ k s') (fun _ h=>h) (fun _ _ _ _ _ h=>h) (fun _ h=>h);have d_:aX fn.ntmps N1 f' (a1.put o.dst v):=cu MY hr hp;have PZ:=vw hT jb hQ _ cL.xt r m _ htr (by simpa using K2) hx Ra KA d_ Py fT qt (fun s3 N3 a3 w3 h1 h2 h3 h4=>by
   have:=h1 N3 a3 w3 (KA.trans h2) h3 h4;rw[<-e4];exact this)
  exact⟨⟨dx (cL.xt.AK _) Ra fT Py,fun k o v h=>Py.cK k o v (ct k o v h)⟩,eZ.IZ (fun L w h=>⟨h.1,fun k o v hk=>h.2 k o v (ct k o v hk)⟩) m _ _ _ PZ⟩) t _ _ ht (by simp) hg (af.le.refl N) hN hf cL (fun r g hg _=>hg) (Nat.le_refl _) (fun s' N' a' w' h1 h2 h3 h4=>h1 N' a' w' (hN.trans h2) h3 h4)
 exact wp_region_any hT.mixed PZ.any
end Go.bU
namespace Go.Proofs.YthpbefahaghbjaaGreat
open Go Go.bU Go.ChangeShapes Go.WideShapes
theorem wN {M:Mem}:∀{ds:List Dt} {vs:List Value},az M ds vs->vs.all bc=true
 | [],vs,h=>by rw[az.nil h];rfl
 |d::ds,vs,h=>by
  obtain⟨v,r,rfl,h1,h2⟩:=az.cons h;rw[aaO,wN h2,Bool.and_true];cases d with
  |int k z=>rw[bj.cG h1];rfl
  |bool b=>rw[bj.BP h1];rfl
  |str s=>simp only[bj] at h1;rw[h1];rfl
  |list rows=>simp only[bj] at h1;obtain⟨p,c,h1,_⟩:=h1;rw[h1];rfl
structure vg where
 (cc:Int) (op:Option Addr) (on oc:Nat) (np:Option Addr) (nn nc:Nat) (g:cQ) (nodes:Nat) (eE:Bool)
def vg.cH (e:vg):List SV:=.int .u64 (.v e.cc)::.ao e.op e.on e.oc::.ao e.np e.nn e.nc::(e.g.cH++[.int .u64 (.nat e.nodes),.bool (.v e.eE)])
def vg.aN (e:vg):List Value:=.int .u64 e.cc::.slice e.op e.on e.oc::.slice e.np e.nn e.nc::(e.g.aN++[.int .u64 e.nodes,.bool e.eE])
theorem vg.den (e:vg)(N:af):SV.ap N e.cH=some e.aN:=rfl
theorem h_.cells {M:Mem}{p:aS}{e:fu}{w:World}(h:h_ M p e w):∃c:vg,c.cc=e.c.c/\c.on=e.c.c_.length/\c.nn=e.c.new.length/\c.nodes=e.nodes/\c.eE=e.eE/\az M e.c.toD [.int .u64 c.cc,.slice c.op c.on c.oc,.slice c.np c.nn c.nc]/\az M e.a8.toD c.g.aN/\13<=p.x/\lx p c.aN w/\dC M c.op c.oc 1 (e.c.c_.map qU)/\dC M c.np c.nc 1 (e.c.new.map qU):=by
 obtain⟨h1,cv,rv,h2,h3,h4⟩:=h;obtain⟨op,oc,np,nc,rfl,k1,k2⟩:=cO.open h2;obtain⟨g,rfl⟩:=cQ.of h3;exact⟨⟨e.c.c,op,_,oc,np,_,nc,g,e.nodes,e.eE⟩,rfl,rfl,rfl,rfl,rfl,h2,h3,h1,h4,k1,k2⟩
theorem h_.of {M:Mem}{p:aS}{e:fu}{w:World}(c:vg)(h1:az M e.c.toD [.int .u64 c.cc,.slice c.op c.on c.oc,.slice c.np c.nn c.nc])(h2:az M e.a8.toD c.g.aN)(h3:c.nodes=e.nodes)(h4:c.eE=e.eE)(h5:13<=p.x)(h6:lx p c.aN w):h_ M p e w :=
 ⟨h5,_,_,h1,h2,by rw[<-h3,<-h4];exact h6⟩
theorem mS {w:World}{N:af}{p:aS}{cs:List SV}{vs:List Value}(hr:zM p w)(hc:lx p vs w)(hd:SV.ap N cs=some vs)(hl:vs.length<=p.x):Jt w N p ⟨true,cs,none⟩:=by
 obtain⟨h1,h2⟩:=SV.aP _ hd;refine⟨hr.1,rfl,fun j c hj=>?_,fun _=>by show cs.length<=p.x;rw[<-h1];exact hl,fun _=>hr.2⟩;obtain⟨v,h3,h4⟩:=h2 j c hj;exact⟨v,h3,hc j v h4⟩
theorem c9 {vs:List Value}(h:vs.all bc=true)(N:af):SV.ap N (a7 vs)=some vs:=by
 induction vs with
 |nil=>rfl
 |cons v vs ih =>
  simp only[aaO,aar] at h;show SV.ap N (.raw v::a7 vs)=_;simp only[SV.ap,SV.den,h.1,if_true,ih h.2]
theorem jV {p p':aS}{g g':Rg}(hg:g.own=true)(eN:g'.own=true)(h:∀k o,mK p k o->¬mK p' k o):zN p g p' g':=fun _ j j' hj Cf ⟨e1,e2⟩=>by
 unfold Rg.wid at hj Cf;rw[hg] at hj;rw[eN] at Cf;exact h p.b (p.o+j) ⟨rfl,by omega,by simpa using hj⟩ ⟨e1,by omega,by simp at Cf;omega⟩
theorem fC.cells {M:Mem}{p:aS}{l:List aI}{w:World}(h:fC M p l w):∃bC:List (List Value),bC.length=l.length/\(∀(i:Nat) (x:aI),l[i]?=some x->∃vs,bC[i]?=some vs/\az M x.toD vs)/\lx p bC.flatten w/\bC.flatten.length=l.length*13/\bC.flatten.all bc=true:=by
 obtain⟨h1,h2,bC,h3,h4,h5⟩:=h;have hx:∀vs∈bC,∃x:aI,az M x.toD vs:=fun vs hv=>by
  obtain⟨i,hi⟩:=aas.1 hv;obtain⟨x,hx⟩:∃x,l[i]?=some x:=⟨_,aal (by rw[<-h3];exact(aae.1 hi).1)⟩;obtain⟨Fp,k1,k2⟩:=h4 i x hx;rw[hi] at k1;cases k1;exact⟨x,k2⟩
 refine⟨bC,h3,h4,h5,?_,?_⟩
 ·rw[bO (K:=13) fun v hv=>by obtain⟨x,hx⟩:=hx v hv;rw[hx.len];rfl,h3]
 ·rw[List.all_flatten,List.all_eq_true]
  exact fun v hv=>by obtain⟨x,hx⟩:=hx v hv;exact wN hx
theorem LY {s:WP}{key:Int}{b:bW}{i:Nat}{e:fu}(h:s.pos key b=some i)(he:s.seen[i]?=some e):e.key=key/\e.b=b:=by
 unfold WP.pos at h;obtain⟨h1,h2,_⟩:=List.findIdx?_eq_some_iff_getElem.1 h;rw[aal h1] at he;obtain rfl:=aaw.inj he
 simpa[fu.eY] using h2
theorem cy.Of.kP {M:Mem}{t:cy}{x:aO}(h:t.Of M x):az M x.c.toD [.int .u64 t.cc,.slice t.op t.on t.oc,.slice t.np t.nn t.nc]:=by
 obtain⟨e1,e2,e3,e4,_⟩:=h.e;unfold cO.toD;simp only[az];exact⟨_,_,rfl,by rw[e2];simp only[bj],_,_,rfl,bj.mk (by rw[e3];simp) zr h.o,_,_,rfl,bj.mk (by rw[e4];simp) zr h.n,rfl⟩
theorem dz {N:af}:∀{a b:List SV} {u v:List Value},SV.ap N a=some u->SV.ap N b=some v->SV.ap N (a++b)=some (u++v)
 | [],b,u,v,h,k=>by simp only[SV.ap,aA] at h;subst h;exact k
 |c::a,b,u,v,h,k=>by
  simp only[SV.ap] at h;cases hc:c.den N with
  |none=>simp[hc] at h
  |some x =>
   cases ha:SV.ap N a with
   |none=>simp[hc,ha] at h
   |some y =>
    simp only[hc,ha,aA] at h;subst h;simp only[List.cons_append,SV.ap,hc,dz ha k]
theorem wF:WideMaps.KeyLaw aac cM:=deep_law_laid (by kernel_rfl) (m:=4) (by omega) (of_decide_eq_true (by kernel_rfl)) (by kernel_rfl) (by kernel_rfl)
theorem CS {key:Int}{b:bW}(h0:(aah .u8 key).wf=true)(h1:(aah .u64 b.count).wf=true)(h2:(aah .u8 b.node).wf=true)(h3:(aah .u32 b.cR).wf=true):∃l,keyOf aac cM (Cz key b)=some l:=by
 obtain⟨c,nd,lf⟩:=b;have u1:aac.underlying cM=_:=Tryz.underlying64;have u2:=Tryz.underlying35;have c0:aac.cellsOf cM=4:=by kernel_rfl
 have c1:aac.cellsOf 35=3:=by kernel_rfl
 have c2:aac.cellsOf 5=1:=by kernel_rfl
 have c3:aac.cellsOf 29=1:=by kernel_rfl
 have c4:aac.cellsOf 33=1:=by kernel_rfl
 obtain⟨D,hD⟩:∃D,aac.types.size+1=D+3:=⟨aac.types.size-2,by have:2<=aac.types.size:=of_decide_eq_true (by kernel_rfl);omega⟩;have hk:aac.keyLits (D+3) cM [.int .u8 key,.int .u64 c,.int .u8 nd,.int .u32 lf]=some [.int .u8 key,.int .u64 c,.int .u8 nd,.int .u32 lf]:=by
  simp[Program.keyLits,u1,u2,c0,c1,c2,c3,c4,Tryz.underlying5,Tryz.underlying29,Tryz.underlying33,h0,h1,h2,h3];rw[if_pos (fun i hi=>by match i,hi with|0,_|1,_|2,_=>simp)];rfl
 have hf:(Cz key ⟨c,nd,lf⟩).formed aac cM=true:=by
  simp[Value.formed,Cz,u1,c0]
 have ht:aac.keyType cM=true:=by kernel_rfl
 unfold keyOf;rw[u1];simp only[ht,hf,Bool.and_self,if_true,hD];have jZ:(Cz key ⟨c,nd,lf⟩).cells.toList=[.int .u8 key,.int .u64 c,.int .u8 nd,.int .u32 lf]:=rfl;rw[jZ,hk];exact⟨_,rfl⟩
theorem IA (wm:WM)(s:WP)(n:Nat)(Mo:Mem)(w:World)(t:cy)(x:aO)(i:Nat)(e:fu)(h:bX wm s Mo w)(ok:s.Ok n)(hn:n<=1000)(ht:t.Of Mo x)(hx:x.Ok)(hc:x.cnt)(hp:s.pos x.key x.s.acc=some i)(he:s.seen[i]?=some e) :
  Calls aac 9 (Iz (wm.P 0).b (wm.P 0).o t) w (mv wm s (s.told i e x) Mo w):=by
 obtain⟨Q,hQ⟩:∃Q:Ending->World->Prop,Q=mv wm s (s.told i e x) Mo w:=⟨_,rfl⟩;rw[<-hQ];have yc:i<s.seen.length:=(aae.1 he).1;obtain⟨hek,heb⟩:=LY hp he;obtain⟨e1,e2,e3,e4,e5,e6,e7,e8⟩:=ht.e;have ho:=dC.yj (w:=w) ht.o h.mo;have hnw:=dC.yj (w:=w) ht.n h.mo;have HI:((x.c.c.toNat:Nat):Int)=t.cc:=by rw[e2];exact aay hx.c0
 obtain⟨ec,f1,f2,f3,f4,f5,f6,f7,f8,f9,f10,f11⟩:=(h.en i e he).cells;obtain⟨vl,l1,l2,l3,l4,l5⟩:=h.l.cells;obtain⟨va,a1,a2,a3,a4,a5⟩:=h.a.cells;obtain⟨gm,m1,m2,m3⟩:=h.mp;obtain⟨jT,gT⟩:=h.hd;obtain⟨O,WQ⟩:∃O:Nat->Nat->Prop,O=fun k o=>k=wm.m\/∃r,(r<3\/r=3+i/\i<s.seen.length)/\mK (wm.P r) k o:=⟨_,rfl⟩
 have hO:∀k o,O k o->k=wm.m\/∃r,(r<3\/r=3+i/\i<s.seen.length)/\mK (wm.P r) k o:=fun k o ho=>by rw[WQ] at ho;exact ho
 have U5:∀r,(r<3\/r=3+i)->∀k o,mK (wm.P r) k o->O k o:=fun r hr k o hi=>by rw[WQ];exact .inr ⟨r,by omega,hi⟩
 have WO:∀k o,O k o->wm.D s.seen.length k o:=fun k o ho=>by
  rcases hO k o ho with e|⟨r,hr,ni⟩
  ·exact .inl e
  ·exact .inr ⟨r,by omega,ni⟩
 obtain⟨im,aV⟩:∃im,im=outside O w:=⟨_,rfl⟩;have s8:∀k o v,Mo k o=some v->im k o=some v:=fun k o v hk=>by
  rw[aV,lc (fun hd=>by rw[h.md k o (WO k o hd)] at hk;cases hk)];exact h.mo k o v hk
 obtain⟨sl,EG⟩:∃sl,sl=gV 1 s.l.length 13:=⟨_,rfl⟩;obtain⟨sa,W0⟩:∃sl,sl=gV 2 s.all.length 13:=⟨_,rfl⟩;obtain⟨cl,jZ⟩:∃c,c=a7 vl.flatten:=⟨_,rfl⟩;obtain⟨ca,Ca⟩:∃c,c=a7 va.flatten:=⟨_,rfl⟩;obtain⟨tn,Zp⟩:∃b,b=s.da:=⟨_,rfl⟩;obtain⟨N0,ck⟩:∃N,N=[wm.P 0,wm.P 1,wm.P 2,wm.P (3+i)]:=⟨_,rfl⟩;have lA:∀(N:af) (r n:Nat) (p:aS),N[r]?=some p->(gV r n 13).den N=some (gC p n):=fun N r n p hp=>by
  by_cases h0:n=0
  ·subst h0;simp[gV,gC,SV.den,bc]
  ·have hb:aaj n 0=false:=by cases h:aaj n 0 with|false=>rfl|true=>exact absurd (aaB h) h0
   simp only[gV,hb,cond_false,SV.den,hp,aS.cap,gC,if_neg h0,aav,Nat.sub_zero]
 have xE:SV.ap N0 [.raw (.map (some wm.m)),sl,sa,.bool (.v tn)]=some [.map (some wm.m),gC (wm.P 1) s.l.length,gC (wm.P 2) s.all.length,.bool s.da]:=by
  simp only[SV.ap,EG,W0,Zp,lA N0 1 s.l.length (wm.P 1) (by rw[ck];rfl),lA N0 2 s.all.length (wm.P 2) (by rw[ck];rfl)];rfl
 have kF:zC (Jt w N0) N0 [⟨true,[.raw (.map (some wm.m)),sl,sa,.bool (.v tn)],none⟩,⟨true,cl,none⟩,⟨true,ca,none⟩,⟨true,ec.cH,none⟩]:=by
  rw[ck];refine⟨mS (h.room 0 (by omega)) gT (by rw[<-ck];exact xE) jT,mS (h.room 1 (by omega)) l3 (by rw[jZ];exact c9 l5 _) (by rw[l4];exact h.l.1),mS (h.room 2 (by omega)) a3 (by rw[Ca];exact c9 a5 _) (by rw[a4];exact h.a.1),mS (h.room (3+i) (by omega)) f9 (ec.den _) f8,trivial⟩
 have aj:tM N0 [⟨true,[.raw (.map (some wm.m)),sl,sa,.bool (.v tn)],none⟩,⟨true,cl,none⟩,⟨true,ca,none⟩,⟨true,ec.cH,none⟩]:=by
  rw[ck];have q:=fun r r' h1 h2 h3=>h.sep r r' h1 h2 h3
  exact⟨⟨jV rfl rfl (q 0 1 (by omega) (by omega) (by omega)),jV rfl rfl (q 0 2 (by omega) (by omega) (by omega)),jV rfl rfl (q 0 (3+i) (by omega) (by omega) (by omega)),trivial⟩,⟨jV rfl rfl (q 1 2 (by omega) (by omega) (by omega)),jV rfl rfl (q 1 (3+i) (by omega) (by omega) (by omega)),trivial⟩,⟨jV rfl rfl (q 2 (3+i) (by omega) (by omega) (by omega)),trivial⟩,trivial,trivial⟩
 have qu:∀(r:Nat) (g:Rg) (p:aS),([⟨true,[.raw (.map (some wm.m)),sl,sa,.bool (.v tn)],none⟩,⟨true,cl,none⟩,⟨true,ca,none⟩,⟨true,ec.cH,none⟩]:List Rg)[r]?=some g->N0[r]?=some p->∃r',(r'<3\/r'=3+i)/\p=wm.P r':=fun r g p hg hp=>by
  rw[ck] at hp
  match r,hp with
  |0,hp=>cases hp;exact⟨0,by omega,rfl⟩
  |1,hp=>cases hp;exact⟨1,by omega,rfl⟩
  |2,hp=>cases hp;exact⟨2,by omega,rfl⟩
  |3,hp=>cases hp;exact⟨3+i,by omega,rfl⟩
  |r+4,hp=>simp at hp
 have hSt:Sat (aK aac aak Q w O im (fun k _=>k=wm.m) (eD aac cM wm.m gm) N0 B9).toEnv N0 [⟨true,[.raw (.map (some wm.m)),sl,sa,.bool (.v tn)],none⟩,⟨true,cl,none⟩,⟨true,ca,none⟩,⟨true,ec.cH,none⟩] w:=by
  refine Sat.RS _ _ _ kF aj (fun k o e=>.inr (by subst e;exact m1.ob)) eD.loc m1 (fun k o v hk=>?_) (fun r g p hg hp ho j hj=>?_) O (fun r g p hg hp ho j hj=>?_)
  ·rw[aV] at hk
   by_cases hd:O k o
   ·rw[mP hd] at hk;cases hk
   ·rw[lc hd] at hk;exact hk
  ·obtain⟨r',h1,rfl⟩:=qu r g p hg hp
   have h2:mK (wm.P r') (wm.P r').b ((wm.P r').o+j):=⟨rfl,by omega,by omega⟩;exact⟨h.ne (by omega) h2,by rw[aV];exact mP (U5 r' h1 _ _ h2)⟩
  ·obtain⟨r',h1,rfl⟩:=qu r g p hg hp
   exact U5 r' h1 _ _ ⟨rfl,by omega,by omega⟩
 obtain⟨kl,HM⟩:=CS hx.kw hx.a1 hx.a2 hx.a3;have Ja:Cz x.key x.s.acc=.agg #[.int .u8 t.key,.int .u64 t.a1,.int .u8 t.a2,.int .u32 t.a3]:=by rw[e7,e5];rfl
 rw[Ja] at HM;have Rl:gm (.agg #[.int .u8 t.key,.int .u64 t.a1,.int .u8 t.a2,.int .u32 t.a3])=some (iE (wm.P (3+i))):=by
  rw[<-Ja,<-hek,<-heb];exact m2 i e he
 have hP3:N0[3]?=some (wm.P (3+i)):=by rw[ck];rfl
 have MW:N0[0]?=some (wm.P 0):=by rw[ck];rfl
 obtain⟨AN,HQ⟩:∃z,z=e.nodes |||2 ^ x.node.toNat:=⟨_,rfl⟩
 obtain⟨t2,nk⟩:∃z,z=2 ^ x.node.toNat:=⟨_,rfl⟩;obtain⟨qb,AA⟩:∃b,b=B (e.c.jc x.key AN):=⟨_,rfl⟩;have ajc:x.key=t.key:=e5.symm;have ye:x.node.toNat<64:=by have:=hc.1;have:=hx.nd;omega
 have K0:t.node=((x.node.toNat:Nat):Int):=by rw[e1];exact(aay hx.nd).symm
 have fU:t2<2 ^ 64:=by rw[nk];exact Nat.pow_lt_pow_right (by decide) ye
 have dm:=ok.en e (List.mem_of_getElem? he);have La:=uI ec.nodes t2 (by rw[f4];exact dm.nodes) fU;have K2:AN<2 ^ 64:=by rw[HQ,<-nk];exact Nat.or_lt_two_pow dm.nodes fU
 rw[f4,nk,<-HQ,<-f4,<-nk] at La;have EF:=fun w1 (bI:∀k o v,im k o=some v->w1.cell? ⟨k,o,none⟩=some v)=>zd e.c.c.toNat AN ec.op ec.np e.c.c_.length e.c.new.length ec.oc ec.nc e.c.c_.toArray e.c.new.toArray t.key w1 dm.co.1 dm.cn.1 K2 (dC.yj f10 fun k o v hk=>bI _ _ _ (s8 _ _ _ hk)) (dC.yj f11 fun k o v hk=>bI _ _ _ (s8 _ _ _ hk)) (by simpa using dm.co.2) (by simpa using dm.cn.2)
 have ac0:((e.c.c.toNat:Nat):Int)=ec.cc:=by rw[f1];exact aay dm.c0
 have EE:B (mQ e.c.c.toNat e.c.c_.toArray e.c.new.toArray t.key AN)=qb:=by rw[e5];exact AA.symm
 rw[ac0,<-f2,<-f3,EE] at EF;obtain⟨nd,cc,op,on,oc,np,nn,nc,ky,hs,s1,s2,s3,f_,gb,gd,⟨gk,gi,gs,gl,q1,q2,q3,q4,iL,iM,iP,iQ,fa,fb,fc,fd⟩,ta⟩:=t;have tZ:∀(k_:Nat) (mC:Bool) (sx:List aI) (tb:Bool) key b,WP.pos ⟨s.seen.set i ⟨e.key,e.b,e.c,e.a8,k_,mC⟩,sx,s.all,tb⟩ key b=none->s.pos key b=none:=fun k_ mC sx tb key b hp=>by
  unfold WP.pos at hp ⊢;rw[List.findIdx?_eq_none_iff] at hp ⊢;intro y hy;obtain⟨j,hj⟩:=aas.1 hy
  by_cases e1:j=i
  ·subst e1
   rw[he] at hj;cases hj;exact hp ⟨e.key,e.b,e.c,e.a8,k_,mC⟩ (aas.2 ⟨j,by simp[yc]⟩)
  ·exact hp y (aas.2 ⟨j,by rw[aau (by omega)];exact hj⟩)
 have RF:∀(k_:Nat) (mC:Bool) j y,(s.seen.set i ⟨e.key,e.b,e.c,e.a8,k_,mC⟩)[j]?=some y->gm (Cz y.key y.b)=some (iE (wm.P (3+j))):=fun k_ mC j y hj=>by
  by_cases e1:j=i
  ·subst e1
   simp[yc] at hj;rw[<-hj];exact m2 j e he
  ·rw[aau (by omega)] at hj
   exact m2 j y hj
 have qx:∀(pl pa:aS) j,(wm.put i pl pa (wm.P (3+i))).P (3+j)=wm.P (3+j):=fun pl pa j=>by
  simp only[WM.put];rw[if_neg (by omega),if_neg (by omega)]
  split
  ·rename_i e1;rw[e1]
  ·rfl
 have hec:∀(M:Mem) (w':World) (N:af) (rg:List Rg) (ce:List SV) (pT:Mem) (k_:Nat) (mC:Bool),(∀k o v,Mo k o=some v->M k o=some v)->Sat (aK aac aak Q w O pT (fun k _=>k=wm.m) (eD aac cM wm.m gm) N0 B9).toEnv N rg w'->N[3]?=some (wm.P (3+i))->rg[3]?=some ⟨true,ce,none⟩->SV.ap N ce=some (vg.aN ⟨ec.cc,ec.op,ec.on,ec.oc,ec.np,ec.nn,ec.nc,ec.g,k_,mC⟩)->h_ M (wm.P (3+i)) ⟨e.key,e.b,e.c,e.a8,k_,mC⟩ w':=fun M w' N rg ce pT k_ mC hM hS q3 k3 kd=>by
  refine h_.of ⟨ec.cc,ec.op,ec.on,ec.oc,ec.np,ec.nn,ec.nc,ec.g,k_,mC⟩ (f6.mono hM) (f7.mono hM) rfl rfl f8 (fl hS k3 q3 kd)
 have Pg:∀(N:af) (w':World) (rg:List Rg) (ce:List SV) (c3:SV) (tb:Bool) (k_:Nat) (mC:Bool),af.le N0 N->Sat (aK aac aak Q w O im (fun k _=>k=wm.m) (eD aac cM wm.m gm) N0 B9).toEnv N rg w'->rg[0]?=some ⟨true,[.raw (.map (some wm.m)),sl,sa,c3],none⟩->rg[1]?=some ⟨true,cl,none⟩->rg[2]?=some ⟨true,ca,none⟩ ->
   rg[3]?=some ⟨true,ce,none⟩->SV.ap N ce=some (vg.aN ⟨ec.cc,ec.op,ec.on,ec.oc,ec.np,ec.nn,ec.nc,ec.g,k_,mC⟩)->c3.den N=some (.bool tb)->mv wm s ⟨s.seen.set i ⟨e.key,e.b,e.c,e.a8,k_,mC⟩,s.l,s.all,tb⟩ Mo w (.returned (.tuple #[])) w':=fun N w' rg ce c3 tb k_ mC hN hS k0 k1 k2 k3 kd B_=>by
  have q0:=hN 0 _ (by rw[ck];rfl:N0[0]?=some (wm.P 0));have q1:=hN 1 _ (by rw[ck];rfl:N0[1]?=some (wm.P 1));have q2:=hN 2 _ (by rw[ck];rfl:N0[2]?=some (wm.P 2));have q3:=hN 3 _ (by rw[ck];rfl:N0[3]?=some (wm.P (3+i)));obtain⟨eu,c⟩:=wU h hS i s.seen.length (.inl ⟨yc,rfl⟩) hO 1 2 3 q0 q1 q2 q3 k0 k1 k2 k3 rfl rfl rfl rfl (by omega) (by omega) (by omega) (by omega) (by omega) (by omega);refine A5 h c (by simp) (e':=⟨e.key,e.b,e.c,e.a8,k_,mC⟩) (by simp[yc]) (fun j y e1 hj=>by rwa [aau (by omega)] at hj) (fl hS k0 q0 ?_) (.same l1 (fun j y hj=>by obtain⟨vs,z1,z2⟩:=l2 j y hj;exact⟨vs,z1,z2.mono c.c_⟩) (fl hS k1 q1 (by rw[jZ];exact c9 l5 _)) h.l.1 h.l.2.1) (.same a1 (fun j y hj=>by obtain⟨vs,z1,z2⟩:=a2 j y hj;exact⟨vs,z1,z2.mono c.c_⟩) (fl hS k2 q2 (by rw[Ca];exact c9 a5 _)) h.a.1 h.a.2.1) (hec eu w' N rg ce im k_ mC c.c_ hS q3 k3 kd) ⟨gm,hS.fH,fun j y hj=>by rw[qx];exact RF k_ mC j y hj,fun key b hp=>m3 key b (tZ k_ mC _ tb key b hp)⟩;simp only[SV.ap,EG,W0,lA N 1 s.l.length _ q1,lA N 2 s.all.length _ q2,B_];rfl
 have XP:∀(N:af) (w':World) (rg:List Rg) (ce:List SV) (c3:SV) (tb:Bool) (k_:Nat) (mC:Bool) (pT:Mem) (rl:Nat) (wy:List SV) (wz:List Value),af.le N0 N->Sat (aK aac aak Q w O pT (fun k _=>k=wm.m) (eD aac cM wm.m gm) N0 B9).toEnv N rg w'->3<rl->rg[0]?=some ⟨true,[.raw (.map (some wm.m)),.osl rl 0 (s.l.length+1) 13 none,sa,c3],none⟩->rg[rl]?=some ⟨true,cl++wy,none⟩->rg[2]?=some ⟨true,ca,none⟩ ->
   rg[3]?=some ⟨true,ce,none⟩->SV.ap N ce=some (vg.aN ⟨ec.cc,ec.op,ec.on,ec.oc,ec.np,ec.nn,ec.nc,ec.g,k_,mC⟩)->c3.den N=some (.bool tb)->SV.ap N wy=some wz->wz.length=13->(∀M:Mem,(∀k o v,Mo k o=some v->M k o=some v)->(∀k o v,w.heap.size<=k->pT k o=some v->M k o=some v)->az M (aI.toD ⟨x.key,x.s.acc,e.a8,x.eY⟩) wz) ->
   mv wm s ⟨s.seen.set i ⟨e.key,e.b,e.c,e.a8,k_,mC⟩,s.l++[⟨x.key,x.s.acc,e.a8,x.eY⟩],s.all,tb⟩ Mo w (.returned (.tuple #[])) w':=fun N w' rg ce c3 tb k_ mC pT rl wy wz hN hS lQ k0 k1 k2 k3 kd B_ sH K2 uz=>by
  have q0:=hN 0 _ (by rw[ck];rfl:N0[0]?=some (wm.P 0));have q2:=hN 2 _ (by rw[ck];rfl:N0[2]?=some (wm.P 2));have q3:=hN 3 _ (by rw[ck];rfl:N0[3]?=some (wm.P (3+i)));obtain⟨pl,q1⟩:∃p,N[rl]?=some p:=⟨_,aal (by rw[hS.len];exact(aae.1 k1).1)⟩;obtain⟨eu,c⟩:=wU h hS i s.seen.length (.inl ⟨yc,rfl⟩) hO rl 2 3 q0 q1 q2 q3 k0 k1 k2 k3 rfl rfl rfl rfl (by omega) (by omega) (by omega) (by omega) (by omega) (by omega);have uS:SV.ap N (cl++wy)=some (vl.flatten++wz):=dz (by rw[jZ];exact c9 l5 _) sH;have gI:=hS.ext rl _ pl k1 q1 rfl;have AC:(cl++wy).length=s.l.length*13+13:=by
   obtain⟨z1,_⟩:=SV.aP _ uS;rw[<-z1,List.length_append,l4,K2]
  refine A5 h c (by simp) (e':=⟨e.key,e.b,e.c,e.a8,k_,mC⟩) (by simp[yc]) (fun j y e1 hj=>by rwa [aau (by omega)] at hj) (fl hS k0 q0 ?_) (.snoc l1 (fun j y hj=>by obtain⟨vs,z1,z2⟩:=l2 j y hj;exact⟨vs,z1,z2.mono c.c_⟩) (uz eu c.c_ fun k o v hk hv=>c.put k o v hk (fun hd=>by rw[c.imn k o hk hd] at hv;cases hv) (hS.cK k o v hv)) (fl hS k1 q1 uS) (by simp only at gI;omega)) (.same a1 (fun j y hj=>by obtain⟨vs,z1,z2⟩:=a2 j y hj;exact⟨vs,z1,z2.mono c.c_⟩) (fl hS k2 q2 (by rw[Ca];exact c9 a5 _)) h.a.1 h.a.2.1) (hec eu w' N rg ce pT k_ mC c.c_ hS q3 k3 kd) ⟨gm,hS.fH,fun j y hj=>by rw[qx];exact RF k_ mC j y hj,fun key b hp=>m3 key b (tZ k_ mC _ tb key b hp)⟩;have Ys:gC pl (s.l++[(⟨x.key,x.s.acc,e.a8,x.eY⟩:aI)]).length=.slice (some ⟨pl.b,pl.o,none⟩) (s.l.length+1) (pl.x / 13):=by simp[gC]
  simp only[SV.ap,SV.den,q1,aS.cap,W0,lA N 2 s.all.length _ q2,B_,Ys];rfl
 have hcR:=cy.Of.kP ht;obtain⟨sm1,Zh⟩:∃b,b=B (e.c=x.c):=⟨_,rfl⟩;obtain⟨sm2,Zi⟩:∃b,b=B (e.a8=x.s.a8):=⟨_,rfl⟩;obtain⟨ecc,eop,eon,eoc,enp,enn,uv,⟨hk,hi,Jd,o6,r1,r2,r3,r4,o1,o2,o3,o4,j1,j2,j3,j4⟩,ens,eag⟩:=ec;refine X.FQ (ss:=Mc (.own 0 0) ⟨nd,cc,op,on,oc,np,nn,nc,ky,hs,s1,s2,s3,f_,gb,gd,⟨gk,gi,gs,gl,q1,q2,q3,q4,iL,iM,iP,iQ,fa,fb,fc,fd⟩,ta⟩) O (fun k _=>k=wm.m) (eD aac cM wm.m gm) im aaF rfl Jn rfl (by simp only[Mc,SV.ap,SV.den,MW];rfl) hSt ?_;have iC:=fun w1 (bI:∀k o v,im k o=some v->w1.cell? ⟨k,o,none⟩=some v)=>uK x.c.c.toNat op np x.c.c_.length x.c.new.length oc nc x.c.c_.toArray x.c.new.toArray w1 (by have:=hx.co.1;omega) (by have:=hx.cn.1;omega) (dC.yj ht.o fun k o v hk=>bI _ _ _ (s8 _ _ _ hk)) (dC.yj ht.n fun k o v hk=>bI _ _ _ (s8 _ _ _ hk)) (by simpa using hx.co.2) (by simpa using hx.cn.2)
 obtain⟨y1,y2,y3,y4,y5⟩:=hc;rw[show(kG x.c.c.toNat x.c.c_.toArray x.c.new.toArray)=x.c.P_ from rfl,bP y5,HI,<-e3,<-e4] at iC;simp only at e1 e5 e6 e7 e8 Rl;have K4:¬(f_=0/\gb=0/\gd=0):=fun⟨z1,z2,z3⟩=>y4 (by rw[e7,z1,z2,z3])
 refine X.iA ([(33,.bool (.lit false)),(37,.bool (.lit true))]) ([]) cI 400 _ rfl aad (fun pr pe fin aj bm ai=>?_)
 conv=>cbv
 refine⟨aj _ (.of aaG [.agg #[.int .u64 f_,.int .u8 gb,.int .u32 gd]] (.bool false) (fun _=>rfl) (fun _=>rfl) fun _ w1 _=>by have:=AO f_ gb gd w1;rwa [decide_eq_false K4] at this),aj _ (.of aaH [.agg _] (.bool true) (fun _=>rfl) (fun _=>rfl) fun _ w1 bI=>iC w1 bI),ai _ _ ?_⟩;clear aj bm ai;refine X.cond rfl (fun hT=>?_) (fun hF=>?_)
 ·exfalso
  simp only[SB.T,SB.F,SI.den] at hT;rw[e6,y3] at hT;simp at hT;omega
 clear hF;refine X.iA ([(97,.bool (.v sm1)),(106,.bool (.v sm2))]) ([(50,⟨fun _=>.tup [.own 3 0,.bool (.lit true)],[],[]⟩)]) cI 400 _ rfl aad (fun pr pe fin aj bm ai=>?_)
 conv=>cbv
 refine⟨bm _ _ _ _ _ (be.Gv wF Tryz.underlying58 (fun w=>Tryz.zeroValue65 w) rfl rfl (fun _=>rfl) HM (fun _ h=>h) (fun N hN=>?_) ?_),aj _ (.of Tryz.call23 [.agg _,.agg _] (.bool sm1) (fun _=>rfl) (fun _=>rfl) fun _ w1 bI=>?_),aj _ (.of Tryz.call24 [.agg _,.agg _] (.bool sm2) (fun _=>rfl) (fun _=>rfl) fun _ w1 bI=>?_),ai _ _ ?_⟩
 ·have q3:=hN 3 _ hP3
  show _=some ((gm (.agg #[.int .u8 ky,.int .u64 f_,.int .u8 gb,.int .u32 gd])).getD (.pointer none));rw[Rl];simp only[SV.den,q3,Option.getD_some,iE,aav]
 ·show true=(gm (.agg #[.int .u8 ky,.int .u64 f_,.int .u8 gb,.int .u32 gd])).isSome
  rw[Rl];rfl
 ·rw[Zh]
  exact tQ e.c x.c _ _ w1 (f6.mono fun k o v hk=>bI _ _ _ (s8 _ _ _ hk)) (hcR.mono fun k o v hk=>bI _ _ _ (s8 _ _ _ hk))
 ·rw[Zi]
  exact wL e.a8 x.s.a8 _ _ w1 (f7.mono fun k o v hk=>bI _ _ _ (s8 _ _ _ hk)) (ht.g.mono fun k o v hk=>bI _ _ _ (s8 _ _ _ hk))
 clear aj bm ai;have RE:B (¬(e.c=x.c/\e.a8=x.s.a8))=!(sm1&&sm2):=by
  rw[Zh,Zi]
  by_cases z1:e.c=x.c<;>by_cases z2:e.a8=x.s.a8<;>simp[z1,z2,bP,b_]
 refine X.cond rfl (fun hT=>?_) (fun hF=>?_)
 ·simp only[SB.T,SB.F,SI.den] at hT
  have EI:(s.da ||B (¬(e.c=x.c/\e.a8=x.s.a8)))=true:=by
   rw[RE];rcases hT with z|z<;>simp[z]
  refine X.go cI 400 _ rfl aad ?_
  conv=>arg 2;cbv
  refine X.cond rfl (fun Kx=>?_) (fun Kx=>?_)
  ·simp only[SB.T] at Kx
   subst Kx;refine X.go cI 400 _ rfl aad ?_
   conv=>arg 2;cbv
   refine X.done cI rfl (fun N w' v hN hS hv=>?_);simp only[bz,SV.den,SV.ap,aA] at hv;rw[hQ,<-hv];have:=Pg N w' _ _ _ true e.nodes e.eE hN hS rfl rfl rfl rfl (by rw[<-f4,<-f5];rfl) rfl;unfold WP.told;rw[if_pos (by rw[<-f5]),EI]
   rwa [show s.seen.set i ⟨e.key,e.b,e.c,e.a8,e.nodes,e.eE⟩=s.seen from by
    obtain⟨z1,z2⟩:=aae.1 he;rw[<-z2];exact aaP z1] at this
  ·simp only[SB.F] at Kx
   subst Kx;refine X.iA ([(121,.int .u64 (.nat t2)),(122,.int .u64 (.nat AN)),(134,.bool (.v qb))]) ([]) cI 400 _ rfl aad (fun pr pe fin aj bm ai=>?_)
   conv=>cbv
   refine⟨aj _ (by rw[nk];exact sA rfl rfl rfl rfl (fun _=>K0) ye),aj _ (Bp rfl rfl rfl fun _ N v hv=>by rw[<-hv];simp only[SV.den,lU,SI.den,La]),aj _ (.of aaI [.agg _,.int .u8 ky,.int .u64 AN] (.bool qb) (fun _=>rfl) (fun _=>rfl) fun _ w1 bI=>EF w1 bI),ai _ _ ?_⟩;clear aj bm ai;refine X.cond rfl (fun Au=>?_) (fun Au=>?_)
   ·simp only[SB.T] at Au
    subst Au;refine X.go cI 400 _ rfl aad ?_
    conv=>arg 2;cbv
    refine X.XY [] [] cI (.q 0 [1,2,3,4,5,6,7,8,9,10,11,12,13,14,15,16] (.q 1 [0,5,6,7,8,9,10,11,12,13,14,15] (.q 2 [0,1,5,6,7,8,9,10,11,12,13,14,15] (.q 3 [0,1,2,5,6,7,8,9,10,11,12,13,14,15] (.q 5 [0,1,2,3,4,6,7,8,9,10,11,12,13] (.q 6 [0,1,2,3,4,5,8,9,10,11,12,13] (.q 8 [0,1,2,3,4,5,6,7,13] (.q 9 [0,1,2,3,4,5,6,7,8,13] (.q 10 [0,1,2,3,4,5,6,7,8,9,13] (.q 13 [0,1,2,3,4,5,6,7,8,9,10,11,12] (.q 4 [0,1,2,3,5,6,7,8,9,10,11,12,13,14,15] (.q 7 [0,1,2,3,4,5,6,8,9,10,11,12,13] (.one 11 (.one 12 (.q 14 [0,1,2,3,4,5,6,7,8,9,10,11,12,13] (.one 15 (.one 16 (.q 17 [0,1,2,3,4,5,6,7,8,9,10,11,12,13,14,15,16] (.q 18 [0,1,2,3,4,5,6,7,8,9,10,11,12,13,14,15,16,17] (.one 19 (.nil))))))))))))))))))))) 157 12 [(16,[1]),(19,[0])] rfl (by kernel_rfl) (by kernel_rfl) (fun pr pe fin H aj bm ai hH=>?_)
    conv=>cbv
    refine hH _ _ ⟨_,_,_,_,_,rfl,rfl,rfl,rfl,aaJ,fun N w1 args hN hS ha=>?_⟩;obtain rfl:args=[.agg (cQ.aN ⟨hk,hi,Jd,o6,r1,r2,r3,r4,o1,o2,o3,o4,j1,j2,j3,j4⟩).toArray]:=(aaw.inj ha).symm;refine(jt e.a8 _ Mo w1 (fun k o v hk=>hS.cK _ _ _ (s8 _ _ _ hk)) f7 dm.a8).mono fun e2 w2 ⟨⟨vb,Cc,kQ⟩,bV⟩=>?_
    obtain⟨g2,rfl⟩:=cQ.of (kQ (fun k o=>w2.cell? ⟨k,o,none⟩) (fun k o v hk=>(hS.bu bV).cK _ _ _ (s8 _ _ _ hk)) (fun k o v _ h=>h));obtain⟨uO,uN,uQ,uP,u1,u2,u3,u4,v1,v2,v3,v4,uZ,u0,u5,u6⟩:=g2;have yh:w.heap.size<=w1.heap.size:=hS.aM.size;have yd:∀k o v,w1.heap.size<=k->w2.cell? ⟨k,o,none⟩=some v->bx im w1 w2 k o=some v:=fun k o v hk hc=>cA (fun k o v h=>(hS.bu bV).cK _ _ _ h) hk hc
    obtain⟨nl1,K3⟩:∃z,z=s.l.length+1:=⟨_,rfl⟩;obtain⟨c2,gn⟩:∃c,c=cl++[.int .u8 (.v ky),.int .u64 (.v f_),.int .u8 (.v gb),.int .u32 (.v gd),.int .u8 (.v uO),.int .u64 (.v uN),.int .i64 (.v uQ),.ao u1 v1 uZ,.ao u2 v2 u0,.ao u3 v3 u5,.int .u64 (.v uP),.ao u4 v4 u6,.int .i64 (.v ta)]:=⟨_,rfl⟩;refine⟨_,Cc,aK aac aak Q w O (bx im w1 w2) (fun k _=>k=wm.m) (eD aac cM wm.m gm) N0 B9,.agg (cQ.cH ⟨uO,uN,uQ,uP,u1,u2,u3,u4,v1,v2,v3,v4,uZ,u0,u5,u6⟩),_,[],[(154,⟨fun rg=>.osl rg.length 0 nl1 13 none,[(1,⟨false,[],none⟩)],[⟨true,c2,none⟩]⟩)],rfl,rfl,rfl,rfl,fun k o v h=>dE h,hN,Sat.cZ hS (hS.bu bV),rfl,rfl,fun pr pe fin aj bm ai=>?_⟩;have uz:∀M:Mem,(∀k o v,Mo k o=some v->M k o=some v)->(∀k o v,w.heap.size<=k->bx im w1 w2 k o=some v->M k o=some v)->az M (aI.toD ⟨x.key,x.s.acc,e.a8,x.eY⟩) (.int .u8 ky::.int .u64 f_::.int .u8 gb::.int .u32 gd::(cQ.aN ⟨uO,uN,uQ,uP,u1,u2,u3,u4,v1,v2,v3,v4,uZ,u0,u5,u6⟩++[.int .i64 ta])):=fun M h1 h2=>by
     have:=aI.shut (x:=⟨ky,⟨f_,gb,gd⟩,e.a8,ta⟩) (kQ M h1 fun k o v hk hc=>h2 k o v (aaA yh hk) (yd k o v hk hc));rw[e7,<-e5,<-e8];exact this
    clear Cc bV ha hS kQ yd
    conv=>cbv
    refine⟨rfl,bm _ _ _ _ _ (be.uu (te:=fe) (r:=1) (n:=s.l.length) (m:=1) (cs:=cl) (new:=[.int .u8 (.v ky),.int .u64 (.v f_),.int .u8 (.v gb),.int .u32 (.v gd),.int .u8 (.v uO),.int .u64 (.v uN),.int .i64 (.v uQ),.ao u1 v1 uZ,.ao u2 v2 u0,.ao u3 v3 u5,.int .u64 (.v uP),.ao u4 v4 u6,.int .i64 (.v ta)]) cI rfl EG rfl rfl rfl rfl rfl (by rw[jZ,bN];exact l4) (by decide) (aY (g:=⟨true,[.int .u8 (.v ky),.int .u64 (.v f_),.int .u8 (.v gb),.int .u32 (.v gd),.int .u8 (.v uO),.int .u64 (.v uN),.int .i64 (.v uQ),.ao u1 v1 uZ,.ao u2 v2 u0,.ao u3 v3 u5,.int .u64 (.v uP),.ao u4 v4 u6,.int .i64 (.v ta)],none⟩) rfl rfl rfl rfl) (bL (by decide) rfl rfl rfl (by show(2*(s.l.length+1)+256)*_<=_;simp only[fe];have:=ok.l;omega) (by have:=ok.l;omega)) K3 gn),rfl,ai _ ?_⟩;clear aj bm ai hH;subst gn K3;refine X.over cI rfl (fun N w' v hN hS hv=>?_);simp only[bz,SV.den,SV.ap,aA] at hv;rw[hQ,<-hv];have:=XP N w' _ _ _ true AN true (bx im w1 w2) 8 _ _ hN hS (by omega) rfl rfl rfl rfl rfl rfl rfl rfl uz;unfold WP.told;rw[if_neg (by rw[<-f5];simp),EI,<-HQ,if_pos (cT.1 AA.symm)];exact this
   ·simp only[SB.F] at Au
    subst Au;refine X.go cI 400 _ rfl aad ?_
    conv=>arg 2;cbv
    refine X.over cI rfl (fun N w' v hN hS hv=>?_);simp only[bz,SV.den,SV.ap,aA] at hv;rw[hQ,<-hv];have:=Pg N w' _ _ _ true AN false hN hS rfl rfl rfl rfl rfl rfl;unfold WP.told;rw[if_neg (by rw[<-f5];simp),EI,<-HQ,if_neg (fun hz=>by rw[bP hz] at AA;cases AA)];exact this
 ·simp only[SB.T,SB.F,SI.den] at hF
  have EI:(s.da ||B (¬(e.c=x.c/\e.a8=x.s.a8)))=tn:=by
   rw[RE,Zp];simp[hF.1,hF.2]
  refine X.go cI 400 _ rfl aad ?_
  conv=>arg 2;cbv
  refine X.cond rfl (fun Kx=>?_) (fun Kx=>?_)
  ·simp only[SB.T] at Kx
   subst Kx;refine X.go cI 400 _ rfl aad ?_
   conv=>arg 2;cbv
   refine X.done cI rfl (fun N w' v hN hS hv=>?_);simp only[bz,SV.den,SV.ap,aA] at hv;rw[hQ,<-hv];have:=Pg N w' _ _ _ tn e.nodes e.eE hN hS rfl rfl rfl rfl (by rw[<-f4,<-f5];rfl) rfl;unfold WP.told;rw[if_pos (by rw[<-f5]),EI]
   rwa [show s.seen.set i ⟨e.key,e.b,e.c,e.a8,e.nodes,e.eE⟩=s.seen from by
    obtain⟨z1,z2⟩:=aae.1 he;rw[<-z2];exact aaP z1] at this
  ·simp only[SB.F] at Kx
   subst Kx;refine X.iA ([(121,.int .u64 (.nat t2)),(122,.int .u64 (.nat AN)),(134,.bool (.v qb))]) ([]) cI 400 _ rfl aad (fun pr pe fin aj bm ai=>?_)
   conv=>cbv
   refine⟨aj _ (by rw[nk];exact sA rfl rfl rfl rfl (fun _=>K0) ye),aj _ (Bp rfl rfl rfl fun _ N v hv=>by rw[<-hv];simp only[SV.den,lU,SI.den,La]),aj _ (.of aaI [.agg _,.int .u8 ky,.int .u64 AN] (.bool qb) (fun _=>rfl) (fun _=>rfl) fun _ w1 bI=>EF w1 bI),ai _ _ ?_⟩;clear aj bm ai;refine X.cond rfl (fun Au=>?_) (fun Au=>?_)
   ·simp only[SB.T] at Au
    subst Au;refine X.go cI 400 _ rfl aad ?_
    conv=>arg 2;cbv
    refine X.XY [] [] cI (.q 0 [1,2,3,4,5,6,7,8,9,10,11,12,13,14,15,16] (.q 1 [0,5,6,7,8,9,10,11,12,13,14,15] (.q 2 [0,1,5,6,7,8,9,10,11,12,13,14,15] (.q 3 [0,1,2,5,6,7,8,9,10,11,12,13,14,15] (.q 5 [0,1,2,3,4,6,7,8,9,10,11,12,13] (.q 6 [0,1,2,3,4,5,8,9,10,11,12,13] (.q 8 [0,1,2,3,4,5,6,7,13] (.q 9 [0,1,2,3,4,5,6,7,8,13] (.q 10 [0,1,2,3,4,5,6,7,8,9,13] (.q 13 [0,1,2,3,4,5,6,7,8,9,10,11,12] (.q 4 [0,1,2,3,5,6,7,8,9,10,11,12,13,14,15] (.q 7 [0,1,2,3,4,5,6,8,9,10,11,12,13] (.one 11 (.one 12 (.q 14 [0,1,2,3,4,5,6,7,8,9,10,11,12,13] (.one 15 (.one 16 (.q 17 [0,1,2,3,4,5,6,7,8,9,10,11,12,13,14,15,16] (.q 18 [0,1,2,3,4,5,6,7,8,9,10,11,12,13,14,15,16,17] (.one 19 (.nil))))))))))))))))))))) 157 12 [(16,[1]),(19,[0])] rfl (by kernel_rfl) (by kernel_rfl) (fun pr pe fin H aj bm ai hH=>?_)
    conv=>cbv
    refine hH _ _ ⟨_,_,_,_,_,rfl,rfl,rfl,rfl,aaJ,fun N w1 args hN hS ha=>?_⟩;obtain rfl:args=[.agg (cQ.aN ⟨hk,hi,Jd,o6,r1,r2,r3,r4,o1,o2,o3,o4,j1,j2,j3,j4⟩).toArray]:=(aaw.inj ha).symm;refine(jt e.a8 _ Mo w1 (fun k o v hk=>hS.cK _ _ _ (s8 _ _ _ hk)) f7 dm.a8).mono fun e2 w2 ⟨⟨vb,Cc,kQ⟩,bV⟩=>?_
    obtain⟨g2,rfl⟩:=cQ.of (kQ (fun k o=>w2.cell? ⟨k,o,none⟩) (fun k o v hk=>(hS.bu bV).cK _ _ _ (s8 _ _ _ hk)) (fun k o v _ h=>h));obtain⟨uO,uN,uQ,uP,u1,u2,u3,u4,v1,v2,v3,v4,uZ,u0,u5,u6⟩:=g2;have yh:w.heap.size<=w1.heap.size:=hS.aM.size;have yd:∀k o v,w1.heap.size<=k->w2.cell? ⟨k,o,none⟩=some v->bx im w1 w2 k o=some v:=fun k o v hk hc=>cA (fun k o v h=>(hS.bu bV).cK _ _ _ h) hk hc
    obtain⟨nl1,K3⟩:∃z,z=s.l.length+1:=⟨_,rfl⟩;obtain⟨c2,gn⟩:∃c,c=cl++[.int .u8 (.v ky),.int .u64 (.v f_),.int .u8 (.v gb),.int .u32 (.v gd),.int .u8 (.v uO),.int .u64 (.v uN),.int .i64 (.v uQ),.ao u1 v1 uZ,.ao u2 v2 u0,.ao u3 v3 u5,.int .u64 (.v uP),.ao u4 v4 u6,.int .i64 (.v ta)]:=⟨_,rfl⟩;refine⟨_,Cc,aK aac aak Q w O (bx im w1 w2) (fun k _=>k=wm.m) (eD aac cM wm.m gm) N0 B9,.agg (cQ.cH ⟨uO,uN,uQ,uP,u1,u2,u3,u4,v1,v2,v3,v4,uZ,u0,u5,u6⟩),_,[],[(154,⟨fun rg=>.osl rg.length 0 nl1 13 none,[(1,⟨false,[],none⟩)],[⟨true,c2,none⟩]⟩)],rfl,rfl,rfl,rfl,fun k o v h=>dE h,hN,Sat.cZ hS (hS.bu bV),rfl,rfl,fun pr pe fin aj bm ai=>?_⟩;have uz:∀M:Mem,(∀k o v,Mo k o=some v->M k o=some v)->(∀k o v,w.heap.size<=k->bx im w1 w2 k o=some v->M k o=some v)->az M (aI.toD ⟨x.key,x.s.acc,e.a8,x.eY⟩) (.int .u8 ky::.int .u64 f_::.int .u8 gb::.int .u32 gd::(cQ.aN ⟨uO,uN,uQ,uP,u1,u2,u3,u4,v1,v2,v3,v4,uZ,u0,u5,u6⟩++[.int .i64 ta])):=fun M h1 h2=>by
     have:=aI.shut (x:=⟨ky,⟨f_,gb,gd⟩,e.a8,ta⟩) (kQ M h1 fun k o v hk hc=>h2 k o v (aaA yh hk) (yd k o v hk hc));rw[e7,<-e5,<-e8];exact this
    clear Cc bV ha hS kQ yd
    conv=>cbv
    refine⟨rfl,bm _ _ _ _ _ (be.uu (te:=fe) (r:=1) (n:=s.l.length) (m:=1) (cs:=cl) (new:=[.int .u8 (.v ky),.int .u64 (.v f_),.int .u8 (.v gb),.int .u32 (.v gd),.int .u8 (.v uO),.int .u64 (.v uN),.int .i64 (.v uQ),.ao u1 v1 uZ,.ao u2 v2 u0,.ao u3 v3 u5,.int .u64 (.v uP),.ao u4 v4 u6,.int .i64 (.v ta)]) cI rfl EG rfl rfl rfl rfl rfl (by rw[jZ,bN];exact l4) (by decide) (aY (g:=⟨true,[.int .u8 (.v ky),.int .u64 (.v f_),.int .u8 (.v gb),.int .u32 (.v gd),.int .u8 (.v uO),.int .u64 (.v uN),.int .i64 (.v uQ),.ao u1 v1 uZ,.ao u2 v2 u0,.ao u3 v3 u5,.int .u64 (.v uP),.ao u4 v4 u6,.int .i64 (.v ta)],none⟩) rfl rfl rfl rfl) (bL (by decide) rfl rfl rfl (by show(2*(s.l.length+1)+256)*_<=_;simp only[fe];have:=ok.l;omega) (by have:=ok.l;omega)) K3 gn),rfl,ai _ ?_⟩;clear aj bm ai hH;subst gn K3;refine X.over cI rfl (fun N w' v hN hS hv=>?_);simp only[bz,SV.den,SV.ap,aA] at hv;rw[hQ,<-hv];have:=XP N w' _ _ _ tn AN true (bx im w1 w2) 8 _ _ hN hS (by omega) rfl rfl rfl rfl rfl rfl rfl rfl uz;unfold WP.told;rw[if_neg (by rw[<-f5];simp),EI,<-HQ,if_pos (cT.1 AA.symm)];exact this
   ·simp only[SB.F] at Au
    subst Au;refine X.go cI 400 _ rfl aad ?_
    conv=>arg 2;cbv
    refine X.over cI rfl (fun N w' v hN hS hv=>?_);simp only[bz,SV.den,SV.ap,aA] at hv;rw[hQ,<-hv];have:=Pg N w' _ _ _ tn AN false hN hS rfl rfl rfl rfl rfl rfl;unfold WP.told;rw[if_neg (by rw[<-f5];simp),EI,<-HQ,if_neg (fun hz=>by rw[bP hz] at AA;cases AA)];exact this
end Go.Proofs.YthpbefahaghbjaaGreat
