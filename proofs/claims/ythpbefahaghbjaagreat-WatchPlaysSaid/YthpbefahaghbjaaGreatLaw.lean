import Derived.Test.YthpbefahaghbjaaGreatEC
import Derived.MapKept
import Derived.Conc.LoneCalls
import Derived.Deep.Slices
import Derived.ChangeArms
import Derived.KernelRfl
import Derived.Test.YthpbefahaghbjaaGreatEB
import Derived.ProofKit
open Array renaming getElem?_eq_some_iff→aav,getElem?_eq_getElem→aaC
open Go renaming Oper→aac,Program→aad,Obj→aaf,TypeId→aai,MemPlace→aal,Ending→aan
open Go.DataW renaming TrodAll→aak
open Go.World renaming cell?→aag,block_lt_of_cell?→aau,frozen?→aaA,cells?_some→aaB
open List renaming getElem?_eq_some_iff→aah,getElem?_eq_getElem→aam,mem_of_getElem?→aao,mem_cons_self→aaq,filter→aaw,range→aax,length_cons→aay,mem_cons_of_mem→aaz
open Nat renaming beq→aae,eq_of_beq_eq_true→aaj,lt_or_ge→aar,le_refl→aas
open Option renaming isSome_iff_exists→aap
namespace Go.bU
def zC (P:aS->Rg->Prop):af->List Rg->Prop
 | [],[]=>True
 |p::N,g::rg=>P p g/\zC P N rg
 |_,_=>False
def zN (p:aS)(g:Rg)(p':aS)(g':Rg):Prop:=g.own=true\/g'.own=true->∀j j',j<g.wid p->j'<g'.wid p'->¬(p.b=p'.b/\p.o+j=p'.o+j')
def tM:af->List Rg->Prop
 | [],[]=>True
 |p::N,g::rg=>zC (fun p' g'=>zN p g p' g') N rg/\tM N rg
 |_,_=>False
structure Jt (w:World) (N:af) (p:aS) (g:Rg):Prop where
 lt:p.b<w.heap.size
 ob:g.ob=none
 cell:∀(j:Nat) (c:SV),g.cells[j]?=some c->∃v,c.den N=some v/\w.cell? ⟨p.b,p.o+j,none⟩=some v
 ext:g.own=true->g.cells.length<=p.x
 room:g.own=true->∀j,j<p.x->(w.cell? ⟨p.b,p.o+j,none⟩).isSome=true/\w.frozen? ⟨p.b,p.o+j,none⟩=false
theorem zC.get {P:aS->Rg->Prop}:∀{N:af} {rg:List Rg},zC P N rg->N.length=rg.length/\∀(r:Nat) (g:Rg) (p:aS),rg[r]?=some g->N[r]?=some p->P p g
 | [],[],_=>⟨rfl,fun r g p h=>by simp at h⟩
 |p::N,g::rg,h=>by
  obtain⟨h1,h2⟩:=h;obtain⟨k1,k2⟩:=zC.get h2;refine⟨by simp[k1],fun r g' p' hg hp=>?_⟩;cases r with
  |zero=>simp at hg hp;subst hg;subst hp;exact h1
  |succ r=>exact k2 r g' p' (by simpa using hg) (by simpa using hp)
 | [],_::_,h=>h.elim
 |_::_,[],h=>h.elim
theorem zN.symm {p p':aS}{g g':Rg}(h:zN p g p' g'):zN p' g' p g:=fun ho j j' hj Cf ⟨e1,e2⟩=>h ho.symm j' j Cf hj ⟨e1.symm,e2.symm⟩
theorem tM.get:∀{N:af} {rg:List Rg},tM N rg->∀(r r':Nat) (g g':Rg) (p p':aS),rg[r]?=some g->N[r]?=some p->rg[r']?=some g'->N[r']?=some p'->r≠r'->zN p g p' g'
 | [],[],_,r,_,_,_,_,_,h,_,_,_,_=>by simp at h
 |p::N,g::rg,h,r,r',g1,g2,p1,p2,hg,hp,eN,lC,bH=>by
  obtain⟨h1,h2⟩:=h;cases r with
  |zero =>
   simp at hg hp;subst hg;subst hp;cases r' with
   |zero=>exact absurd rfl bH
   |succ r'=>exact h1.get.2 r' g2 p2 (by simpa using eN) (by simpa using lC)
  |succ r =>
   cases r' with
   |zero =>
    simp at eN lC;subst eN;subst lC;exact(h1.get.2 r g1 p1 (by simpa using hg) (by simpa using hp)).symm
   |succ r'=>exact tM.get h2 r r' g1 g2 p1 p2 (by simpa using hg) (by simpa using hp) (by simpa using eN) (by simpa using lC) (by omega)
 | [],_::_,h,_,_,_,_,_,_,_,_,_,_,_=>h.elim
 |_::_,[],h,_,_,_,_,_,_,_,_,_,_,_=>h.elim
theorem Sat.Z0 {P:aad}{fn:Func}{R:aan->World->Prop}{w:World}{N:af}{rg:List Rg}{B:aH}(h:zC (Jt w N) N rg)(hs:tM N rg):Sat (bU.Jf P fn R w N rg B).toEnv N rg w:=by
 obtain⟨h1,h2⟩:=h.get;have get:∀{r:Nat} {p:aS},N[r]?=some p->∃g,rg[r]?=some g:=fun {r p} hp=>⟨_,aam (by have:=(aah.1 hp).1;omega)⟩
 have aca:∀{r:Nat} {g:Rg},rg[r]?=some g->∃p,N[r]?=some p:=fun {r p} hp=>⟨_,aam (by have:=(aah.1 hp).1;omega)⟩
 refine Sat.Jf h1 (fun r p hp=>?_) (fun r g p hg hp=>(h2 r g p hg hp).cell) (fun r g p hg hp=>(h2 r g p hg hp).ext) (fun r g p hg hp=>(h2 r g p hg hp).room) (fun r r' g g' p p' hg hp eN lC ho bH j hj hb=>?_) (fun r g hg=>?_)
 ·obtain⟨g,hg⟩:=get hp
  exact(h2 r g p hg hp).lt
 ·have:=hs.get r r' g g' p p' hg hp eN lC bH (.inl ho) (p'.o+j-p.o) j
  unfold Rg.wid at this;rw[ho] at this;simp only[cond_true] at this;rcases aar (p'.o+j) p.o with h3|h3
  ·exact .inl h3
  ·refine .inr ?_
   rcases aar (p'.o+j) (p.o+p.x) with h4|h4
   ·exact absurd ⟨hb.symm,by omega⟩ (this (by omega) hj)
   ·exact h4
 ·obtain⟨p,hp⟩:=aca hg
  exact(h2 r g p hg hp).ob
theorem aB {rg:List Rg}{k o:Nat}:¬bq [] rg k o:=by
 rintro⟨r,g,p,_,hp,_⟩
 simp at hp
theorem Cr {p:aS}{N:af}{g:Rg}{rg:List Rg}{k o:Nat}(h:bq (p::N) (g::rg) k o):(g.own=true/\k=p.b/\p.o<=o/\o<p.o+p.x)\/bq N rg k o:=by
 obtain⟨r,g',p',hg,hp,h1,h2,h3,h4⟩:=h;cases r with
 |zero=>simp at hg hp;subst hg;subst hp;exact .inl ⟨h1,h2,h3,h4⟩
 |succ r=>exact .inr ⟨r,g',p',by simpa using hg,by simpa using hp,h1,h2,h3,h4⟩
theorem pM {N:af}{rg:List Rg}{w:World}{k o:Nat}(h:¬bq N rg k o):ab N rg w k o=w.cell? ⟨k,o,none⟩:=by
 unfold ab;rw[if_neg h]
theorem C6 {O:Nat->Nat->Prop}{w w':World}(h:aW O w w'){k:Nat}(o:Nat)(hc:(w.cell? ⟨k,o,none⟩).isSome=true):(w'.cell? ⟨k,o,none⟩).isSome=true:=by
 cases hh:w.heap[k]? with
 |none=>simp[aag,hh] at hc
 |some x =>
  cases x with
  |cells c e f =>
   obtain⟨c',h1,h2,_⟩:=h.cells k c e f hh;simp only[aag,hh,h1] at hc ⊢;have:o<c.size:=by
    have:=aap.1 hc;obtain⟨v,hv⟩:=this;exact(aav.1 hv).1
   rw[aaC (by omega)];rfl
  |_=>simp[aag,hh] at hc
section
variable {E:eR} {T:aQ} {all:Array aac} {i:Nat} {rest:List Nat} {k:List It} {s:St} {o:aac} {f:Fr}
theorem X.names (h:∀N:af,E.N0.le N->N.length=s.rg.length->X { E with N0:=N } k s):X E k s:=by
 refine X.conv fun N a w hN hf hS=>?_
 exact⟨{ E with N0:=N },s,rfl,rfl,rfl,rfl,⟨N,af.le.refl _,hf,hS.env rfl rfl rfl rfl rfl⟩,h N hN hS.len⟩
end
theorem Sat.mR {E:Env}{N:af}{rg:List Rg}{w:World}(h:Sat E N rg w){r:Nat}{g:Rg}{lz:List SV}(hg:rg[r]?=some g)(hl:lz.length=g.cells.length)(hd:∀(j:Nat) (c c':SV),g.cells[j]?=some c->lz[j]?=some c'->∀v,c.den N=some v->c'.den N=some v):Sat E N (rg.set r { g with cells:=lz }) w:=by
 have lQ:r<rg.length:=(aah.1 hg).1;have c_:∀{i:Nat} {x:Rg},(rg.set r { g with cells:=lz })[i]?=some x->∃x0,rg[i]?=some x0/\x0.own=x.own/\x0.ob=x.ob/\x0.cells.length=x.cells.length/\∀(j:Nat) (c:SV),x.cells[j]?=some c->∃c0,x0.cells[j]?=some c0/\∀v,c0.den N=some v->c.den N=some v:=by
  intro i x hx;rcases dP lQ hx with ⟨rfl,rfl⟩|⟨hi,hx⟩
  ·refine⟨g,hg,rfl,rfl,hl.symm,fun j c hc=>?_⟩
   have hc:lz[j]?=some c:=hc;obtain⟨c0,h0⟩:∃c0,g.cells[j]?=some c0:=⟨_,aam (by rw[<-hl];exact(aah.1 hc).1)⟩;exact⟨c0,h0,hd j c0 c h0 hc⟩
  ·exact⟨x,hx,rfl,rfl,rfl,fun j c hc=>⟨c,hc,fun v hv=>hv⟩⟩
 refine⟨by simp[h.len],h.lt,?_,?_,?_,?_,?_,?_,h.cK,?_,?_,h.mj,h.loc,h.fH,h.aM,?_⟩
 ·intro i x q hx hq j c hc
  obtain⟨x0,k1,_,_,_,k5⟩:=c_ hx;obtain⟨c0,k6,k7⟩:=k5 j c hc;obtain⟨v,k8,k9⟩:=h.cell i x0 q k1 hq j c0 k6;exact⟨v,k7 v k8,k9⟩
 ·intro i x q hx hq ho
  obtain⟨x0,k1,k2,_,k4,_⟩:=c_ hx;rw[<-k4];exact h.ext i x0 q k1 hq (k2.trans ho)
 ·intro i x q hx hq ho
  obtain⟨x0,k1,k2,_⟩:=c_ hx;exact h.room i x0 q k1 hq (k2.trans ho)
 ·intro i i' x x' q q' hx hq iD cF ho bH j hj
  obtain⟨x0,k1,k2,_⟩:=c_ hx;obtain⟨x1,m1,m2,_,m4,_⟩:=c_ iD;refine h.eT i i' x0 x1 q q' k1 hq m1 cF (k2.trans ho) bH j ?_;unfold Rg.wid at hj ⊢;rw[m2,m4];exact hj
 ·intro i x q ob hx hq ho
  obtain⟨x0,k1,_,k3,_⟩:=c_ hx;exact h.obj i x0 q ob k1 hq (k3.trans ho)
 ·intro i i' x x' q q' hx hq iD cF ho kR bH
  obtain⟨x0,k1,_,k3,_⟩:=c_ hx;obtain⟨x1,m1,_,m3,_⟩:=c_ iD;exact h.fG i i' x0 x1 q q' k1 hq m1 cF (by rw[k3];exact ho) (by rw[m3];exact kR) bH
 ·intro i x q hx hq ho
  obtain⟨x0,k1,k2,_⟩:=c_ hx;exact h.lR i x0 q k1 hq (k2.trans ho)
 ·intro i x q hx hq ho
  obtain⟨x0,k1,k2,_⟩:=c_ hx;exact h.dd i x0 q k1 hq (k2.trans ho)
 ·intro i x q hx hq ho
  obtain⟨x0,k1,k2,_⟩:=c_ hx;exact h.dG i x0 q k1 hq (k2.trans ho)
theorem X.mR {E:eR}{k:List It}{s:St}(r:Nat)(g:Rg)(lz:List SV)(hg:s.rg[r]?=some g)(hl:lz.length=g.cells.length)(hd:∀N,E.N0.le N->∀(j:Nat) (c c':SV),g.cells[j]?=some c->lz[j]?=some c'->∀v,c.den N=some v->c'.den N=some v)(h:X E k ⟨s.fr,s.rg.set r { g with cells:=lz }⟩):X E k s:=by
 refine X.conv fun N a w hN hf hS=>?_
 exact⟨E,⟨s.fr,s.rg.set r { g with cells:=lz }⟩,rfl,rfl,rfl,rfl,⟨N,hN,hf,hS.mR hg hl (hd N hN)⟩,h⟩
theorem X.less {E:eR}{k:List It}{s:St}(ts:List Nat)(h:X E k ⟨s.fr.filter fun p=>ts.elem p.1,s.rg⟩):X E k s:=by
 refine X.conv fun N a w hN hf hS=>?_
 refine⟨E,⟨s.fr.filter fun p=>ts.elem p.1,s.rg⟩,rfl,rfl,rfl,rfl,⟨N,hN,⟨hf.size,hf.defers,fun t=>?_⟩,hS⟩,h⟩;have:=hf.ok t;have key:∀f:Fr,look (f.filter fun p=>ts.elem p.1) t=look f t\/look (f.filter fun p=>ts.elem p.1) t=.dead:=fun f=>by
  induction f with
  |nil=>exact .inl rfl
  |cons p f ih =>
   obtain⟨k,v⟩:=p;simp only[aaw];cases he:ts.elem k with
   |true =>
    simp only[look];cases aae k t with
    |true=>exact .inl rfl
    |false=>exact ih
   |false =>
    simp only[look];cases hk:aae k t with
    |false=>exact ih
    |true =>
     have hk:=aaj hk;subst hk;refine .inr ?_;clear ih
     induction f with
     |nil=>rfl
     |cons p f ih =>
      obtain⟨k',v'⟩:=p;simp only[aaw];cases he':ts.elem k' with
      |true =>
       simp only[look];cases oZ:aae k' k with
       |false=>exact ih
       |true =>
        have oZ:=aaj oZ;subst oZ;rw[he] at he';cases he'
      |false=>exact ih
 rcases key s.fr with e|e
 ·rw[e];exact this
 ·rw[e];trivial
theorem X.drop {E:eR}{k:List It}{s:St}(r:Nat)(hr:r<s.rg.length)(h:X E k ⟨s.fr,s.rg.set r ⟨false,[],none⟩⟩):X E k s:=by
 refine X.conv fun N a w hN hf hS=>?_
 exact⟨E,⟨s.fr,s.rg.set r ⟨false,[],none⟩⟩,rfl,rfl,rfl,rfl,⟨N,hN,hf,hS.wO hr⟩,h⟩
theorem nil_le (N:af):af.le [] N:=fun r p h=>by simp at h
theorem X.Qp {E:eR}{k:List It}{s:St}(r j:Nat){g:Rg}{c:SV}(c':SV)(hg:s.rg[r]?=some g)(hj:g.cells[j]?=some c)(hd:∀N,E.N0.le N->∀v,c.den N=some v->c'.den N=some v)(h:X E k ⟨s.fr,s.rg.set r { g with cells:=g.cells.set j c' }⟩):X E k s:=by
 refine X.mR r g (g.cells.set j c') hg (by simp) (fun N hN q d d' h1 h2 v hv=>?_) h;have uT:j<g.cells.length:=(aah.1 hj).1;rcases dP uT h2 with ⟨rfl,rfl⟩|⟨_,h2⟩
 ·rw[hj] at h1;cases h1
  exact hd N hN v hv
 ·rw[h1] at h2;cases h2
  exact hv
structure Told (b:SB) (v:Bool):Prop where
 eq:b.den=v
def aeo (T:aQ)(n:Nat)(all:Array aac):List (Nat × Nat × Bool)->Nat->Fr->Option (Fr × Prop)
 | [],_,_=>none
 |(j,t,v)::l,i,f=>bif aae i j then
   match LM T n all [] i f with
   |some f'=>match look f' t with
    | .val (.bool b)=>some (AH t v f',Told b v)
    |_=>none
   |none=>none
  else aeo T n all l i f
structure Xx where
 (j x lo hi d t zl zh:Nat) (sx r:SV)
def Xx.ok (ops:Array aac)(q:Xx):Bool:=match nth ops.toList q.j with
 |some o=>(match o.op with | .slice t' (.tmp x) (some (.tmp lo)) (some (.tmp hi)) none=>aae t' q.t&&(aae x q.x&&(aae lo q.lo&&aae hi q.hi))|_=>false)&&(match o.dst with|some d=>aae d q.d|none=>false)
 |none=>false
theorem X.join {E:eR}{ι:Type}(En:ι->eR)(S:ι->St){c1 c2:Code}{k:List It}{s:St}(hEn:∀i,(En i).P=E.P/\(En i).Q=E.Q/\(En i).B=E.B)
  (h1:∀q:Act->World->Prop,(∀i a w,At (En i) (S i) a w->q a w)->X E (.code c1::.lp q::k) s) (h2:∀i,X (En i) (.code c2::k) (S i)):X E (.code c1::.code c2::k) s:=by
 have:=h1 (fun a w=>ms E.P E.B (.code c2::k) E.Q .normal a w) (fun i a w ⟨N,q1,q2,q3⟩=>by
  have:=h2 i N a w q1 q2 q3;rw[(hEn i).1,(hEn i).2.1,(hEn i).2.2] at this;exact this)
 exact this
end Go.bU
namespace Go.bU
open Go.MapKept
def gK:aaf->Prop
 | .cells _ _ _=>False
 |_=>True
def hC (w:World)(b:Nat)(x:aaf):World:={ w with heap:=w.heap.setIfInBounds b x }
theorem ov {w:World}{b:Nat}(h:(b8 w b).isSome=true):b<w.heap.size:=by
 obtain⟨x,hx⟩:=aap.1 h;exact(aav.1 (kC hx)).1
theorem pN {w:World}{b:Nat}{x:aaf}(h:b<w.heap.size):(hC w b x).heap[b]?=some x:=by simp[hC,h]
theorem kY {w:World}{b k:Nat}{x:aaf}(h:k≠b):(hC w b x).heap[k]?=w.heap[k]?:=by
 simp only[hC];rw[Array.getElem?_setIfInBounds_ne (fun e=>h e.symm)]
theorem Mj {w:World}{b:Nat}{x:aaf}:(hC w b x).heap.size=w.heap.size:=by simp[hC]
theorem oA {w:World}{k:Nat}{x:aaf}(h:w.heap[k]?=some x)(hn:gK x):b8 w k=some x :=
 EU h (fun c e f e'=>by subst e';exact hn)
theorem oB {w:World}{b:Nat}{x:aaf}(h:b<w.heap.size)(hn:gK x):b8 (hC w b x) b=some x:=oA (pN h) hn
theorem AP {w:World}{b k:Nat}{x:aaf}(h:k≠b):b8 (hC w b x) k=b8 w k:=gW (kY h)
theorem rh {w:World}{b o:Nat}{x:aaf}(h:b8 w b=some x):w.cell? ⟨b,o,none⟩=none:=by
 unfold b8 at h;unfold aag
 split at h
 ·cases h
 ·simp only[h]
  cases x with
  |cells c e f=>rename_i hn;exact absurd h (fun h'=>hn c e f h')
  |_=>rfl
theorem J4 {w:World}{b:Nat}{x:aaf}(h:(b8 w b).isSome=true)(hn:gK x)(k o:Nat):(hC w b x).cell? ⟨k,o,none⟩=w.cell? ⟨k,o,none⟩:=by
 by_cases e:k=b
 ·subst e
  obtain⟨y,hy⟩:=aap.1 h;rw[rh (oB (ov h) hn),rh hy]
 ·unfold aag;simp only[kY e]
theorem eG.put {w:World}{b:Nat}{x:aaf}(h:(b8 w b).isSome=true)(hn:gK x){k o:Nat}(ht:eG w k o):eG (hC w b x) k o:=by
 rcases ht with ht|ht
 ·exact .inl (by rw[J4 h hn];exact ht)
 ·right
  by_cases e:k=b
  ·subst e;rw[oB (ov h) hn];rfl
  ·rw[AP e];exact ht
theorem aW.put {O:Nat->Nat->Prop}{w:World}{b:Nat}{x:aaf}(h:(b8 w b).isSome=true)(ho:∃o,O b o):aW O w (hC w b x):=by
 refine⟨rfl,rfl,rfl,by rw[Mj];exact aas _,aas _,fun k hk hn=>?_,fun k c e f hc=>?_⟩
 ·refine kY (fun e=>?_)
  subst e;obtain⟨o,ho⟩:=ho;exact hn o ho
 ·have bH:k≠b:=fun e'=>by
   subst e';unfold b8 at h;rw[hc] at h;cases h
  exact⟨c,by rw[kY bH];exact hc,rfl,fun _ _=>rfl⟩
theorem DZ (w:World)(x:aaf):(w.alloc x).heap=w.heap.push x:=rfl
theorem yY (w:World)(x:aaf)(hn:gK x):b8 (w.alloc x) w.heap.size=some x:=oA (by rw[DZ];simp) hn
theorem Ic {O:Nat->Nat->Prop}{w w':World}(h:aW O w w'){k:Nat}(hk:(b8 w k).isSome=true)(ho:∀o,¬O k o):b8 w' k=b8 w k :=
 gW (h.same k (ov hk) ho)
section
variable {E:eR} {T:aQ} {all:Array aac} {i:Nat} {rest:List Nat} {k:List It} {s:St} {o:aac} {f:Fr}
theorem Sat.aeC {N:af}{rg:List Rg}{w:World}{b:Nat}{x:aaf}{R':World->Prop}(h:Sat E.toEnv N rg w)(hb:(b8 w b).isSome=true)(hn:gK x)(hD:∃o,E.D b o)(hO:∀k o,E.D k o->E.W.heap.size<=k\/E.O k o)(ct:∀k o,E.D k o->E.im k o=none)
  (kF:∀g∈rg,g.own=true\/g.cells=[]) (hl:Loc E.D R') (hR:R' (hC w b x)):Sat (E.MP R').toEnv N rg (hC w b x) :=
 h.turn (aW.put hb hD) hO ct kF (fun _ _ hk=>⟨.inl hk,eG.put hb hn (h.mj _ _ hk)⟩) hl hR
theorem X.ZV (R':World->Prop)(b:Nat)(ho:nth all.toList i=some o)(hg:o.guard=none)(hD:∃o,E.D b o)(hO:∀k o,E.D k o->E.W.heap.size<=k\/E.O k o)(ct:∀k o,E.D k o->E.im k o=none)(kF:∀g∈s.rg,g.own=true\/g.cells=[])(hl:Loc E.D R')
  (hex:∀N a w,E.N0.le N->aX E.n N s.fr a->Sat E.toEnv N s.rg w->∃x,(execOp a.eval o).run E.P w=.ok .skip (hC w b x)/\(b8 w b).isSome=true/\gK x/\R' (hC w b x))
  (hp:eK E.n s.fr o.dst (.val (.tup []))=some f) (hk:X (E.MP R') (.ops all rest::k) ⟨f,s.rg⟩):X E (.ops all (i::rest)::k) s:=by
 refine X.oper ho hg fun N a w hN de hS=>?_
 obtain⟨x,h1,h2,h3,h4⟩:=hex N a w hN de hS;unfold Oper.wp;rw[h1];exact hk N _ _ hN (cu (x:=undef) de rfl hp) (hS.aeC h2 h3 hD hO ct kF hl h4)
theorem X.aev (x:aaf)(hn:gK x)(mk:Nat->Value)(xG:∀b,bc (mk b)=true)(ho:nth all.toList i=some o)(hg:o.guard=none)
  (hex:∀N a w,E.N0.le N->aX E.n N s.fr a->Sat E.toEnv N s.rg w->(execOp a.eval o).run E.P w=.ok (.value (mk w.heap.size)) (w.alloc x)) {F:Nat->Fr} (hp:∀b,eK E.n s.fr o.dst (.val (.raw (mk b)))=some (F b))
  (hk:∀b,E.W.heap.size<=b->(∀o,E.im b o=none)->(∀o,¬E.D b o)->X (E.mZ (fun k o=>E.D k o\/k=b) (fun w=>E.R w/\b8 w b=some x)) (.ops all rest::k) ⟨F b,s.rg⟩):X E (.ops all (i::rest)::k) s:=by
 refine X.oper ho hg fun N a w hN de hS=>?_
 unfold Oper.wp;rw[hex N a w hN de hS];have adD:∀o,E.im w.heap.size o=none:=fun o=>by
  cases hi:E.im w.heap.size o with
  |none=>rfl
  |some v=>have:=aau _ _ (hS.cK _ _ _ hi);simp at this
 have sH:∀o,¬E.D w.heap.size o:=fun o hd=>Nat.lt_irrefl _ (hS.mj _ _ hd).lt
 have hA:=hS.JP x ⟨false,[],none⟩ 0 (fun j c hj=>by simp at hj) (fun h=>by cases h) (fun h=>by cases h) (fun ob h=>by cases h);have hle:N.le (N++[⟨w.heap.size,0,0⟩]):=af.aZ _ _;have cL:Sat (E.mZ (fun k o=>E.D k o\/k=w.heap.size) (fun w'=>E.R w'/\b8 w' w.heap.size=some x)).toEnv N s.rg (w.alloc x):=by
  have hc:aW (fun _ _=>False) w (w.alloc x):=(aW.refl _ w).alloc x;have h0:=hS.bu hc;refine { h0 with dd:=?_,mj:=?_,obj:=?_,loc:=?_,fH:=⟨h0.fH,yY w x hn⟩ }
  ·intro r g p ob hr hp fm
   obtain⟨k1,k2,k3⟩:=h0.obj r g p ob hr hp fm;refine⟨k1,k2,fun o hd=>hd.elim (k3 o) (fun e=>?_)⟩;have:=hS.lt r p hp;omega
  ·intro r g p hr hp qu j hj hd
   rcases hd with hd|e
   ·exact h0.dd r g p hr hp qu j hj hd
   ·have:=hS.lt r p hp
    omega
  ·intro k o hd
   rcases hd with hd|rfl
   ·exact h0.mj k o hd
   ·exact .inr (by rw[yY w x hn];rfl)
  ·intro w1 w2 hs hle ⟨h1,h2⟩
   exact⟨hS.loc w1 w2 (fun k o hd=>hs k o (.inl hd)) hle h1,by rw[(hs w.heap.size 0 (.inr rfl)).2];exact h2⟩
 exact hk w.heap.size hS.aM.size adD sH N _ _ hN (cu de (by simp[SV.den,xG]) (hp _)) cL
def Ig (P:aad)(ops:Array aac)(Q:Exit->Act->World->Prop)(l:List Nat)(a:Act)(w:World):Prop :=
 ∀(b:Frame) (k:List Item) (cs:List Frame),∃e a' w',Q e a' w'/\Arrives P (lone (b.at a (.inRegion ops l::k)) cs w) b k cs e a' w'
theorem Ig.region {P:aad}{ops:Array aac}{Q:Exit->Act->World->Prop}{id:Nat}{a:Act}{w:World}(h:Ig P ops Q (aax ops.size) a w):(Code.region id ops false).wp P Q a w :=
 fun b k cs=>let ⟨e,a',w',q,r⟩:=h b k cs;⟨e,a',w',q,.of_steps (.one step_region) r⟩
theorem Dl {o:aac}{ops:Array aac}{t:Array Value}(hg:o.guard=none):Region.wanted o (yielded ops t)=true:=by simp[Region.wanted,hg]
theorem Ig.value {P:aad}{ops:Array aac}{Q:Exit->Act->World->Prop}{i:Nat}{rest:List Nat}{o:aac}{a:Act}{w w':World}{v:Value}(ho:ops[i]?=some o)(hg:o.guard=none)(hr:(execOp a.eval o).run P w=.ok (.value v) w')
  (h:Ig P ops Q rest (a.put o.dst v) w'):Ig P ops Q (i::rest) a w:=by
 intro b k cs;obtain⟨e,a',w'',hq,uw⟩:=h b k cs;refine⟨e,a',w'',hq,.of_steps (.one (step_lone_go ?_)) uw⟩;have hs:=stepG_op (P:=P) (b:=b) (k:=k) (cs:=cs) (w:=w) (rest:=rest) ho (Dl (t:=a.tmps) hg);have ai:(b.at a (.inRegion ops (i::rest)::k)).finish v=b.at (a.put o.dst v) (.inRegion ops rest::k):=by
  rw[Frame.finish_at,ho];rfl
 rw[hs,<-ai];simp[stepG.apply,hr]
def XS (E:eR)(all:Array aac)(rest:List Nat)(k:List It)(s:St):Prop :=
 ∀(N:af) (a:Act) (w:World),E.N0.le N->aX E.n N s.fr a->Sat E.toEnv N s.rg w->Ig E.P all (ms E.P E.B k E.Q) rest a w
theorem X.a8 {id:Nat}(h:XS E all (aax all.size) k s):X E (.code (.region id all false)::k) s:=by
 intro N a w hN hf hS;show _->Code.wp _ _ _ _ _;intro _;exact(h N a w hN hf hS).region
theorem Qf {o:aac}(ho:nth all.toList i=some o):all[i]?=some o:=by rw[bT] at ho;simpa using ho
theorem XS.val (ho:nth all.toList i=some o)(hg:o.guard=none)(r:SV)(hp:eK E.n s.fr o.dst (.val r)=some f)
  (h:∀(N:af) (a:Act) (w:World),E.N0.le N->aX E.n N s.fr a->Sat E.toEnv N s.rg w->∃x,r.den N=some x/\(execOp a.eval o).run E.P w=.ok (.value x) w)
  (hk:XS E all rest k ⟨f,s.rg⟩):XS E all (i::rest) k s:=fun N a w hN hf hS=>by
 obtain⟨x,h1,h2⟩:=h N a w hN hf hS;exact .value (Qf ho) hg h2 (hk N _ _ hN (cu hf h1 hp) hS)
end
def Ox (es:List MapEntry):Prop:=∀x∈es,∃i,x.key=.int .i64 i
open Classical in
noncomputable def ZN:List MapEntry->Int->Option Value
 | [],_=>none
 |e::es,i=>if e.key=.int .i64 i then some e.val else ZN es i
def Jr (m:Nat)(g:Int->Option Value)(w:World):Prop:=∃es clock,w.heap[m]?=some (.map es clock)/\Ox es.toList/\∀i,ZN es.toList i=g i
theorem Jr.at {m:Nat}{g:Int->Option Value}{w w':World}(h:Jr m g w)(hs:b8 w' m=b8 w m):Jr m g w':=by
 obtain⟨es,clock,h1,h2⟩:=h;rw[oA h1 trivial] at hs;exact⟨es,clock,kC hs,h2⟩
section
variable {E:eR} {T:aQ} {all:Array aac} {i:Nat} {rest:List Nat} {k:List It} {s:St} {o:aac} {f:Fr}
end
end Go.bU
namespace Go.bU
theorem Sat.vt {E:Env}{N:af}{rg:List Rg}{w:World}(h:Sat E N rg w){b o x s0:Nat}{cs:List SV}(hN:∀(r:Nat) (p:aS),N[r]?=some p->p.b<s0)(Je:s0<=b)(hE:E.W.heap.size<=s0)(hb:b<w.heap.size)(hx:cs.length<=x)
  (dS:∀(j:Nat) (c:SV),cs[j]?=some c->∃v,c.den N=some v/\w.cell? ⟨b,o+j,none⟩=some v) (hro:∀j,j<x->(w.cell? ⟨b,o+j,none⟩).isSome=true/\w.frozen? ⟨b,o+j,none⟩=false)
  (ct:∀i,E.im b i=none) (hD:∀i,¬E.D b i):Sat E (N++[⟨b,o,x⟩]) (rg++[⟨true,cs,none⟩]) w:=by
 have hle:N.le (N++[⟨b,o,x⟩]):=af.aZ _ _;refine⟨by simp[h.len],?_,?_,?_,?_,?_,?_,?_,h.cK,?_,?_,h.mj,h.loc,h.fH,h.aM,?_⟩
 ·intro i q hq
  rcases aar i N.length with hi|hi
  ·rw[List.getElem?_append_left hi] at hq;exact h.lt i q hq
  ·rw[List.getElem?_append_right hi] at hq
   have hz:i-N.length=0:=by
    have:=(aah.1 hq).1;simp at this;omega
   rw[hz] at hq;simp at hq;subst hq;exact hb
 ·intro i g q hg hq j d hj
  rcases aC h.len hg hq with ⟨a,b⟩|⟨_,rfl,rfl⟩
  ·obtain⟨v,h1,h2⟩:=h.cell i g q a b j d hj
   exact⟨v,SV.bf hle d h1,h2⟩
  ·obtain⟨v,h1,h2⟩:=dS j d hj
   exact⟨v,SV.bf hle d h1,h2⟩
 ·intro i g q hg hq ho
  rcases aC h.len hg hq with ⟨a,b⟩|⟨_,rfl,rfl⟩
  ·exact h.ext i g q a b ho
  ·exact hx
 ·intro i g q hg hq ho
  rcases aC h.len hg hq with ⟨a,b⟩|⟨_,rfl,rfl⟩
  ·exact h.room i g q a b ho
  ·exact hro
 ·intro i i' g g' q q' hg hq eN cF ho bH j hj Dq
  rcases aC h.len hg hq with ⟨a1,a2⟩|⟨a0,rfl,rfl⟩<;>rcases aC h.len eN cF with ⟨b1,b2⟩|⟨b0,rfl,rfl⟩
  ·exact h.eT i i' g g' q q' a1 a2 b1 b2 ho bH j hj Dq
  ·have:=hN i q a2;simp at Dq;omega
  ·have:=hN i' q' b2;simp at Dq;omega
  ·omega
 ·intro i g q ob hg hq ho
  rcases aC h.len hg hq with ⟨a,b⟩|⟨_,rfl,rfl⟩
  ·obtain⟨⟨o',k1,k2⟩,k3⟩:=h.obj i g q ob a b ho
   exact⟨⟨o',Ob.bf hle ob k1,k2⟩,k3⟩
  ·simp at ho
 ·intro i i' g g' q q' hg hq eN cF ho kR bH
  rcases aC h.len hg hq with ⟨a1,a2⟩|⟨a0,rfl,rfl⟩
  ·rcases aC h.len eN cF with ⟨b1,b2⟩|⟨b0,rfl,rfl⟩
   ·exact h.fG i i' g g' q q' a1 a2 b1 b2 ho kR bH
   ·simp at kR
  ·simp at ho
 ·intro i g q hg hq ho
  rcases aC h.len hg hq with ⟨a,b⟩|⟨_,rfl,rfl⟩
  ·exact h.lR i g q a b ho
  ·exact fun j _=>ct _
 ·intro i g q hg hq ho
  rcases aC h.len hg hq with ⟨a,b⟩|⟨_,rfl,rfl⟩
  ·exact h.dd i g q a b ho
  ·exact fun j _=>hD _
 ·intro i g q hg hq ho
  rcases aC h.len hg hq with ⟨a,b⟩|⟨_,rfl,rfl⟩
  ·exact h.dG i g q a b ho
  ·exact .inl (Nat.le_trans hE Je)
def gF (cs:List SV)(n sz:Nat)(w:World)(e:aan)(w':World):Prop :=
 ∃b o x:Nat,e=.returned (.slice (some ⟨b,o,none⟩) n (x / sz))/\w.heap.size<=b/\cs.length<=x/\0<x/\(∀(j:Nat) (c:SV),cs[j]?=some c->∃v,c.den []=some v/\w'.cell? ⟨b,o+j,none⟩=some v) /\
  (∀j,j<x->(w'.cell? ⟨b,o+j,none⟩).isSome=true/\w'.frozen? ⟨b,o+j,none⟩=false)/\aW (fun _ _=>False) w w'
theorem gF.Qu {E:Env}{N:af}{rg:List Rg}{w w':World}{cs:List SV}{n sz:Nat}{e:aan}(hf:gF cs n sz w e w')(h:Sat E N rg w) :
  ∃(p:aS) (v:Value),e=.returned v/\(SV.osl rg.length 0 n sz none).den (N++[p])=some v/\w.heap.size<=p.b/\Sat E (N++[p]) (rg++[⟨true,cs,none⟩]) w':=by
 obtain⟨b,o,x,he,h1,h2,h3,h4,h5,hc⟩:=hf;have ef:(N++[⟨b,o,x⟩])[rg.length]?=some ⟨b,o,x⟩:=by rw[<-h.len];simp
 refine⟨⟨b,o,x⟩,_,he,by simp only[SV.den,ef,aS.cap];simp,h1,?_⟩;have h0:=h.bu hc;refine h0.vt (s0:=w.heap.size) (fun r p hp=>h.lt r p hp) h1 h.aM.size ?_ h2 (fun j c hj=>?_) h5 (fun i=>?_) (fun i hd=>?_)
 ·obtain⟨v,hv⟩:=aap.1 (h5 0 h3).1
  exact aau _ _ hv
 ·obtain⟨v,k1,k2⟩:=h4 j c hj
  exact⟨v,SV.bf (N:=[]) (N':=N) (fun r p h=>by simp at h) c k1,k2⟩
 ·cases hi:E.im b i with
  |none=>rfl
  |some v=>have:=aau _ _ (h.cK _ _ _ hi);simp at this;omega
 ·have:=(h.mj _ _ hd).lt
  omega
section
variable {E:eR} {T:aQ} {all:Array aac} {i:Nat} {rest:List Nat} {k:List It} {s:St} {o:aac} {f:Fr}
theorem Goes.fresh {N:af}{k:List It}{s:St}{d:Option Nat}{w w':World}{cs:List SV}{n sz:Nat}{e:aan}(hN:E.N0.le N)(h:Sat E.toEnv N s.rg w)(hf:gF cs n sz w e w'){f':Fr}(hp:eK E.n s.fr d (.val (.osl s.rg.length 0 n sz none))=some f')
  (hx:X E k ⟨f',s.rg++[⟨true,cs,none⟩]⟩):∃v,e=.returned v/\Goes E N k s.fr d v w':=by
 obtain⟨p,v,h1,h2,_,h3⟩:=hf.Qu h;exact⟨v,h1,E,N++[p],_,_,f',rfl,rfl,rfl,rfl,af.aZ _ _,hN.trans (af.aZ _ _),h3,h2,hp,hx⟩
end
theorem X.iR {E:eR}{k:List It}{s:St}(t:Nat){v:SV}(v':SV)(hl:look s.fr t=.val v)(hd:∀N,E.N0.le N->∀x,v.den N=some x->v'.den N=some x)(h:X E k ⟨(t,.val v')::s.fr,s.rg⟩):X E k s:=by
 refine X.conv fun N a w hN hf hS=>?_
 refine⟨E,⟨(t,.val v')::s.fr,s.rg⟩,rfl,rfl,rfl,rfl,⟨N,hN,⟨hf.size,hf.defers,fun t'=>?_⟩,hS⟩,h⟩;simp only[look];cases e:aae t t' with
 |false=>exact hf.ok t'
 |true =>
  have e:=aaj e;subst e;have dm:=hf.ok t;rw[hl] at dm;obtain⟨x,h1,h2⟩:=dm;exact⟨x,hd N hN x h1,h2⟩
theorem Goes.cells {E:eR}{N:af}{k:List It}{s:St}{d:Option Nat}{v:Value}{w w':World}{r:Nat}{g:Rg}{p:aS}(hN:E.N0.le N)(h:Sat E.toEnv N s.rg w)(hg:s.rg[r]?=some g)(hp:N[r]?=some p)(ho:g.own=true)
  (hc:aW (fun k o=>k=p.b/\p.o<=o/\o<p.o+p.x) w w') (lz:List SV) (hl:lz.length<=p.x) (dS:∀(j:Nat) (c:SV),lz[j]?=some c->∃v,c.den N=some v/\w'.cell? ⟨p.b,p.o+j,none⟩=some v)
  {rv:SV} (hr:rv.den N=some v) {f':Fr} (hpo:eK E.n s.fr d (.val rv)=some f') (hx:X E k ⟨f',s.rg.set r { g with cells:=lz }⟩):Goes E N k s.fr d v w':=by
 refine⟨E,N,rv,_,f',rfl,rfl,rfl,rfl,af.le.refl N,hN,?_,hr,hpo,hx⟩;have lQ:r<s.rg.length:=(aah.1 hg).1;have sH:∀k o,(k=p.b/\p.o<=o/\o<p.o+p.x)->¬E.D k o:=fun k o ⟨e1,e2,e3⟩ hd=>by
  subst e1;have:=h.dd r g p hg hp ho (o-p.o) (by omega);rw[show p.o+(o-p.o)=o by omega] at this;exact this hd
 have wq:∀k o,E.D k o->(w'.cell? ⟨k,o,none⟩=w.cell? ⟨k,o,none⟩/\w'.frozen? ⟨k,o,none⟩=w.frozen? ⟨k,o,none⟩)/\b8 w' k=b8 w k:=fun k o hd=>by
  have aF:=(h.mj k o hd).lt;obtain⟨x,hx⟩:∃x,w.heap[k]?=some x:=⟨_,aaC aF⟩;cases x with
  |cells c e f =>
   obtain⟨c',h1,h2,h3⟩:=hc.cells k c e f hx;have h4:=h3 o (fun e=>sH k o e hd);refine⟨⟨by simp[aag,hx,h1,h4],by simp[aaA,hx,h1]⟩,by simp[b8,hx,h1]⟩
  |_ =>
   have bH:∀o',¬(k=p.b/\p.o<=o'/\o'<p.o+p.x):=fun o' ⟨e1,e2,e3⟩=>by
    have:=(h.room r g p hg hp ho (o'-p.o) (by omega)).1;rw[<-e1] at this;simp[aag,hx] at this
   have e:=hc.same k aF bH;exact⟨⟨by unfold aag;simp only[e],by unfold aaA;simp only[e]⟩,gW e⟩
 refine h.after (m':=E.im) (D':=E.D) (R':=E.R) hc (fun k o _ ⟨e1,e2,e3⟩=>.inl ⟨r,g,p,hg,hp,ho,e1,e2,e3⟩) ⟨fun _ _ _ h=>h,fun k o v hv=>?_,fun _ _ _ h=>.inl h⟩
  (fun k o hd=>⟨.inl hd,(h.mj k o hd).of (fun hs=>by rw[(wq k o hd).1.1];exact hs) (wq k o hd).2⟩) h.loc (h.loc w w' wq hc.size h.fH) (by simp) (fun q x x' pq nY jM yf=>?_)
 ·refine bw hc (fun⟨e1,e2,e3⟩=>?_) (h.cK k o v hv)
  have:=h.lR r g p hg hp ho (o-p.o) (by omega);rw[show p.o+(o-p.o)=o by omega,<-e1,hv] at this;cases this
 ·rcases dP lQ jM with ⟨rfl,rfl⟩|⟨hi,jM⟩
  ·rw[hg] at nY;cases nY
   rw[hp] at yf;cases yf;exact⟨rfl,rfl,fun e=>(by rw[ho] at e;cases e),fun _=>hl,.inr dS⟩
  ·rw[nY] at jM;cases jM
   refine⟨rfl,rfl,fun _=>rfl,fun e=>h.ext q x pq nY yf e,.inl ⟨rfl,fun j hj ⟨e1,e2,e3⟩=>?_⟩⟩;have hw:j<x.wid pq:=by
    unfold Rg.wid;cases od:x.own with
    |true=>have:=h.ext q x pq nY yf od;simp;omega
    |false=>simpa using hj
   rcases h.eT r q g x p pq hg hp nY yf ho (fun e=>hi e.symm) j hw e1 with h1|h1<;>omega
theorem X.LA {E:eR}{k:List It}{s:St}(P:af->Prop)(hP:∀(N:af) (w:World),E.N0.le N->Sat E.toEnv N s.rg w->P N)(h:∀N:af,E.N0.le N->N.length=s.rg.length->P N->X { E with N0:=N } k s):X E k s:=by
 refine X.conv fun N a w hN hf hS=>?_
 exact⟨{ E with N0:=N },s,rfl,rfl,rfl,rfl,⟨N,af.le.refl _,hf,hS.env rfl rfl rfl rfl rfl⟩,h N hN hS.len (hP N w hN hS)⟩
def MQ (P:aad)(ops:Array aac)(I:World->Prop)(Q:Exit->Act->World->Prop):List Nat->Act->World->Prop
 | [],a,w=>Q .normal a w
 |z::zs,a,w=>wpOp P ops Q z (fun a' w'=>I w'/\MQ P ops I Q zs a' w') a w
def XI (tB:List Rg)(ks:List Nat)(all:Array aac)(k:List It):List Nat->eR->St->Prop
 | [],E,s=>X E k s
 |z::zs,E,s=>∀(N:af) (a:Act) (w:World),E.N0.le N->aX E.n N s.fr a->Sat E.toEnv N s.rg w->wpOp E.P all (ms E.P E.B k E.Q) z (fun a' w'=>∃(E':eR) (N':af) (s':St),E'.P=E.P/\E'.n=E.n/\E'.Q=E.Q/\E'.B=E.B/\N.le N'/\E'.N0.le N'/\aX E'.n N' s'.fr a'/\Sat E'.toEnv N' s'.rg w'/\bG ks tB s'.rg/\XI tB ks all k zs E' s') a w
theorem XI.ops {tB:List Rg}{ks:List Nat}{all:Array aac}{k:List It}{Nf:af}{w0:World}(h0:jg Nf (aJ ks tB 0) w0):∀(zs:List Nat) (E:eR) (s:St),XI tB ks all k zs E s->∀(N:af) (a:Act) (w:World),Nf.le N->E.N0.le N->aX E.n N s.fr a->Sat E.toEnv N s.rg w ->
  MQ E.P all (fun w'=>jg Nf (aJ ks tB 0) w') (ms E.P E.B k E.Q) zs a w
 | [],E,s,h,N,a,w,_,hN,hf,hS=>h N a w hN hf hS
 |z::zs,E,s,h,N,a,w,Ra,hN,hf,hS=>by
  refine wpOp_mono (fun a' w' ⟨E',N',s',e1,e2,e3,e4,db,ck,d_,cL,ha,hx⟩=>⟨dx h0 (Ra.trans db) ha cL,?_⟩) (h N a w hN hf hS);have:=XI.ops h0 zs E' s' hx N' a' w' (Ra.trans db) ck d_ cL;rw[e1,e3,e4] at this;exact this
section
variable {E:eR} {T:aQ} {all:Array aac} {zs:List Nat} {k:List It} {s:St} {o:aac} {f:Fr} {tB:List Rg} {ks:List Nat}
theorem XI.done (h:X E k s):XI tB ks all k [] E s:=h
theorem Sat.aaa {E:Env}{N:af}{rg:List Rg}{w w':World}{D':Nat->Nat->Prop}{R':World->Prop}(h:Sat E N rg w)(hc:aW E.D w w')(hO:∀k o,E.D k o->E.W.heap.size<=k\/E.O k o)(ct:∀k o,E.D k o->E.im k o=none)
  (kF:∀(r:Nat) (g:Rg) (p:aS),rg[r]?=some g->N[r]?=some p->g.own=true\/∀j,j<g.cells.length->¬E.D p.b (p.o+j)) (hD:∀k o,D' k o->(E.D k o\/w.heap.size<=k)/\eG w' k o) (hl:Loc D' R') (hR:R' w'):Sat { E with D:=D',R:=R' } N rg w':=by
 refine h.after (cN:=rg) (m':=E.im) hc (fun k o _ hd=>.inr ⟨hd,hO k o hd⟩) ⟨fun _ _ _ h=>h,fun k o v hv=>?_,fun _ _ _ h=>.inl h⟩ hD hl hR rfl (fun r g g' p hg eN hp=>?_)
 ·refine bw hc (fun hd=>?_) (h.cK k o v hv)
  rw[ct k o hd] at hv;cases hv
 ·rw[hg] at eN;cases eN
  refine⟨rfl,rfl,fun _=>rfl,fun ho=>h.ext r g p hg hp ho,.inl ⟨rfl,fun j hj=>?_⟩⟩;rcases kF r g p hg hp with ho|ho
  ·exact h.dd r g p hg hp ho j (Nat.lt_of_lt_of_le hj (h.ext r g p hg hp ho))
  ·exact ho j hj
end
structure XA where
 (j d:Nat) (r:SV) (pre:Fr->Prop)
def XA.ok (ops:Array aac)(q:XA):Bool:=match nth ops.toList q.j with
 |some o=>(match o.dst with|some d=>aae d q.d|none=>false)
 |none=>false
theorem CX {α:Type}:∀(l:List α) (c:Nat) (s:α) (j:Nat),c<l.length->(putAt l c s)[j]?=if j=c then some s else l[j]?
 | [],_,_,_,h=>by simp at h
 |x::l,0,s,j,_=>by cases j<;>simp[putAt]
 |x::l,c+1,s,j,h=>by
  cases j with
  |zero=>simp[putAt]
  |succ j=>simp[putAt,CX l c s j (by simpa using h)]
theorem zm (l:List SV)(c:Nat)(r:List SV)(j:Nat)(h:c+r.length<=l.length):(setRow l c r)[j]?=if c<=j/\j<c+r.length then r[j-c]? else l[j]?:=by
 induction r generalizing l c with
 |nil=>simp[setRow];omega
 |cons s r ih =>
  simp only[aay] at h;rw[setRow,ih _ _ (by rw[gv _ _ _ (by omega)];omega),CX _ _ _ _ (by omega)];simp only[aay]
  by_cases h1:c+1<=j/\j<c+1+r.length
  ·rw[if_pos h1,if_pos (by omega),show j-c=j-(c+1)+1 by omega,List.getElem?_cons_succ]
  ·rw[if_neg h1]
   by_cases h2:j=c
   ·subst h2;rw[if_pos rfl,if_pos (by omega)];simp
   ·rw[if_neg h2,if_neg (by omega)]
section
variable {E:eR} {T:aQ} {all:Array aac} {z:Nat} {zs:List Nat} {k:List It} {s:St} {o:aac} {f:Fr} {tB:List Rg} {ks:List Nat}
theorem XI.value (ho:nth all.toList z=some o)(hg:o.guard=none)(r:SV)(hp:eK E.n s.fr o.dst (.val r)=some f)
  (h:∀(N:af) (a:Act) (w:World),E.N0.le N->aX E.n N s.fr a->Sat E.toEnv N s.rg w->∃x,r.den N=some x/\(execOp a.eval o).run E.P w=.ok (.value x) w) (ha:bG ks tB s.rg)
  (hk:XI tB ks all k zs E ⟨f,s.rg⟩):XI tB ks all k (z::zs) E s:=by
 intro N a w hN de hS;have kR:all[z]?=some o:=by rw[bT] at ho;simpa using ho
 obtain⟨x,h1,h2⟩:=h N a w hN de hS;unfold wpOp;simp only[kR,Region.wanted,hg,if_true];refine .inl ?_;unfold Oper.wp;rw[h2];exact⟨E,N,⟨f,s.rg⟩,rfl,rfl,rfl,rfl,af.le.refl N,hN,cu de h1 hp,hS,ha,hk⟩
end
structure Xz where
 (j d:Nat) (r:SV) (pre:List Rg->Fr->Prop)
def Xz.ok (ops:Array aac)(q:Xz):Bool:=match nth ops.toList q.j with
 |some o=>(match o.dst with|some d=>aae d q.d|none=>false)
 |none=>false
theorem Sat.tail {E:Env}{p0:aS}{N:af}{g0:Rg}{rg:List Rg}{w:World}(h:Sat E (p0::N) (g0::rg) w)(hc:∀g∈rg,∀c∈g.cells,∀v,c.den (p0::N)=some v->c.den N=some v)(fm:∀g∈rg,g.ob=none):Sat E N rg w:=by
 have gs:∀{r:Nat} {g:Rg},rg[r]?=some g->(g0::rg)[r+1]?=some g:=fun h=>by simpa using h
 have ns:∀{r:Nat} {p:aS},N[r]?=some p->(p0::N)[r+1]?=some p:=fun h=>by simpa using h
 refine⟨by have:=h.len;simpa using this,fun r p hp=>h.lt (r+1) p (ns hp),fun r g p hg hp j c hj=>?_,fun r g p hg hp=>h.ext (r+1) g p (gs hg) (ns hp),fun r g p hg hp=>h.room (r+1) g p (gs hg) (ns hp),
  fun r r' g g' p p' hg hp eN lC ho bH=>h.eT (r+1) (r'+1) g g' p p' (gs hg) (ns hp) (gs eN) (ns lC) ho (by omega),fun r g p ob hg hp ho=>?_,fun r r' g g' p p' hg hp eN lC ho _ _=>?_,h.cK,fun r g p hg hp=>h.lR (r+1) g p (gs hg) (ns hp),fun r g p hg hp=>h.dd (r+1) g p (gs hg) (ns hp),h.mj,h.loc,h.fH,h.aM,fun r g p hg hp=>h.dG (r+1) g p (gs hg) (ns hp)⟩
 ·obtain⟨v,h1,h2⟩:=h.cell (r+1) g p (gs hg) (ns hp) j c hj
  exact⟨v,hc g (aao hg) c (aao hj) v h1,h2⟩
 ·rw[fm g (aao hg)] at ho;cases ho
 ·rw[fm g (aao hg)] at ho;cases ho
def Sh (N N':af):Fr->Fr->Prop
 | [],[]=>True
 |(t,.val v)::f,(t',.val v')::f'=>t=t'/\(∀x,v.den N=some x->v'.den N'=some x)/\Sh N N' f f'
 |_,_=>False
theorem Sh.look {N N':af}:∀{f f':Fr},Sh N N' f f'->∀t,look f t=look [] t/\look f' t=look [] t\/∃v v',look f t=.val v/\look f' t=.val v'/\∀x,v.den N=some x->v'.den N'=some x
 | [],[],_,t=>.inl ⟨rfl,rfl⟩
 |(t0,.val v)::f,(t1,.val v')::f',h,t=>by
  obtain⟨rfl,h1,h2⟩:=h;simp only[bU.look];cases aae t0 t with
  |true=>exact .inr ⟨v,v',rfl,rfl,h1⟩
  |false=>exact Sh.look h2 t
 | [],_::_,h,_=>by simp[Sh] at h
 |_::_,[],h,_=>by simp[Sh] at h
 |(_,.dead)::_,_::_,h,_=>by simp[Sh] at h
 |(_,.xJ _ _ _)::_,_::_,h,_=>by simp[Sh] at h
 |(_,.val _)::_,(_,.dead)::_,h,_=>by simp[Sh] at h
 |(_,.val _)::_,(_,.xJ _ _ _)::_,h,_=>by simp[Sh] at h
theorem aX.sh {n:Nat}{N N':af}{f f':Fr}{a:Act}(h:aX n N f a)(hs:Sh N N' f f'):aX n N' f' a:=by
 refine⟨h.size,h.defers,fun t=>?_⟩;have dm:=h.ok t;rcases hs.look t with ⟨h1,h2⟩|⟨v,v',h1,h2,h3⟩
 ·rw[h2];rw[h1] at dm
  exact dm
 ·rw[h2];rw[h1] at dm
  obtain⟨x,k1,k2⟩:=dm;exact⟨x,h3 x k1,k2⟩
theorem X.shift {E:eR}{k:List It}(h0:E.N0=[]){f:Fr}(f':Fr){g0:Rg}{rg:List Rg}(hs:∀p0 N,Sh (p0::N) N f f')(hc:∀g∈rg,∀c∈g.cells,∀(p0:aS) (N:af) (v:Value),c.den (p0::N)=some v->c.den N=some v)(fm:∀g∈rg,g.ob=none)(h:X E k ⟨f',rg⟩):X E k ⟨f,g0::rg⟩:=by
 refine X.conv fun N a w hN hf hS=>?_
 cases N with
 |nil=>have:=hS.len;simp at this
 |cons p0 N=>exact⟨E,⟨f',rg⟩,rfl,rfl,rfl,rfl,⟨N,by rw[h0];exact fun r p h=>by simp at h,hf.sh (hs p0 N),hS.tail (fun g hg c iB v=>hc g hg c iB p0 N v) fm⟩,h⟩
inductive CK where
 |int (k:IntKind)
 |bool
 |str
 |slice (e:Nat)
 |ptr (e:Nat)
def Rd (P:aad)(w:World)(base:Nat)(t:Nat)(cs:List Value):Prop :=
 ∃(H:Type) (uv:aai × Value->H) (sp:Nat->Bool) (held:Bool) (Pn:Nat) (x:DataW H × List aal),DataW.trod uv P w base sp held Pn t cs=some x
def TZ (P:aad)(w:World)(base:Nat)(b y:Nat)(e:Nat):Prop :=
 base<=b/\∃cs,cs.length=P.cellsOf e/\(∀(j:Nat) (v:Value),cs[j]?=some v->w.cell? ⟨b,y+j,none⟩=some v)/\Rd P w base e cs
def u_ (P:aad)(w:World)(base:Nat):CK->Value->Prop
 | .int k,v=>∃n,v=.int k n/\(Lit.int k n).wf=true
 | .bool,v=>∃b,v=.bool b
 | .str,v=>∃s,v=.string s/\s.size<=maxLen
 | .slice e,v=>∃p n c,v=.slice p n c/\n<=c/\c<=maxLen/\(0<P.cellsOf e->0<n->∃b x,p=some ⟨b,x,none⟩/\∀i,i<n->TZ P w base b (x+i*P.cellsOf e) e)
 | .ptr e,v=>∃p,v=.pointer p/\(0<P.cellsOf e->∀a,p=some a->∃b x,a=⟨b,x,none⟩/\TZ P w base b x e)
def eo (P:aad)(w:World)(base:Nat):List CK->List Value->Prop
 | [],[]=>True
 |k::ks,v::vs=>u_ P w base k v/\eo P w base ks vs
 |_,_=>False
def rS (P:aad)(sh:Nat->Option (List CK)):List Field->Nat->Option (List CK)
 | [],_=>some []
 |f::fs,o=>bif aae f.offset o then
   match sh f.type with
   |some s=>bif aae (P.cellsOf f.type) s.length then
     match rS P sh fs (o+s.length) with
     |some r=>some (s++r)
     |none=>none
    else none
   |none=>none
  else none
def eO (P:aad):Nat->Nat->Option (List CK)
 |0,_=>none
 |m+1,t=>match P.underlying t with
  |some (.int k)=>some [.int k]
  |some .bool=>some [.bool]
  |some .string=>some [.str]
  |some (.slice e)=>some [.slice e]
  |some (.pointer e)=>some [.ptr e]
  |some (.struct fs)=>match rS P (eO P m) fs.toList 0 with
   |some s=>bif aae (P.cellsOf t) s.length then some s else none
   |none=>none
  |_=>none
theorem eo.append {P:aad}{w:World}{base:Nat}:∀{ks ls:List CK} {us vs:List Value},eo P w base ks us->eo P w base ls vs->eo P w base (ks++ls) (us++vs)
 | [],_,[],_,_,h=>h
 |_::_,_,_::_,_,h,k=>⟨h.1,eo.append h.2 k⟩
 | [],_,_::_,_,h,_=>h.elim
 |_::_,_,[],_,h,_=>h.elim
theorem II {w:World}{a:Addr}{v:Value}(h:w.cell? a=some v):a=⟨a.block,a.off,none⟩:=by
 unfold aag at h
 split at h
 ·split at h
  ·cases h
  ·rename_i hs
   obtain⟨b,o,s⟩:=a;cases s<;>simp_all
 ·cases h
theorem C8 {w:World}{base:Nat}{a:Addr}{q:Nat}{cs:List Value}(hp:0<q)(h:w.cells? base a q=some cs):a=⟨a.block,a.off,none⟩:=by
 obtain⟨_,h2,h3⟩:=aaB h;have h30:=h3 0 hp;have aF:0<cs.length:=by omega
 rw[aam aF] at h30;have:a.add 0=a:=by simp[Addr.add]
 rw[this] at h30;exact II h30
theorem add_plain (b o j:Nat):(Addr.mk b o none).add j=⟨b,o+j,none⟩:=by
 unfold Addr.add
 by_cases h:j=0
 ·subst h;simp
 ·simp[h]
theorem GU {P:aad}{w:World}{base:Nat}{b x e:Nat}{cs:List Value}(h:w.cells? base ⟨b,x,none⟩ (P.cellsOf e)=some cs)(hr:Rd P w base e cs):TZ P w base b x e:=by
 obtain⟨h1,h2,h3⟩:=aaB h;refine⟨h1,cs,h2,fun j v hj=>?_,hr⟩;have Cf:j<P.cellsOf e:=by rw[<-h2];exact(aah.1 hj).1
 have:=h3 j Cf;rw[add_plain] at this;rw[this,hj]
theorem pU {P:aad}{w:World}{base:Nat}{sh:Nat->Option (List CK)}(ih:∀t ks cs,sh t=some ks->Rd P w base t cs->eo P w base ks cs)(all:List Value) :
  ∀(fs:List Field) (o:Nat) (ks:List CK),rS P sh fs o=some ks->(all.drop o).length=ks.length->(∀f∈fs,Rd P w base f.type ((all.drop f.offset).take (P.cellsOf f.type)))->eo P w base ks (all.drop o)
 | [],o,ks,h,hl,_=>by
  simp only[rS,aA] at h;subst h;have:all.drop o=[]:=List.eq_nil_of_length_eq_zero (by rw[hl];rfl);rw[this];trivial
 |f::fs,o,ks,h,hl,hr=>by
  simp only[rS] at h;cases hb:aae f.offset o with
  |false=>rw[hb] at h;simp at h
  |true =>
   rw[hb] at h;simp only[cond_true] at h;have K6:=aaj hb
   split at h
   ·rename_i s hs
    cases hc:aae (P.cellsOf f.type) s.length with
    |false=>rw[hc] at h;simp at h
    |true =>
     rw[hc] at h;simp only[cond_true] at h;have AC:=aaj hc
     split at h
     ·rename_i r hrr
      simp only[aA] at h;subst h;rw[List.length_append] at hl;have h1:=hr f aaq;rw[K6,AC] at h1;have k1:=ih _ _ _ hs h1;have k2:=pU ih all fs (o+s.length) r hrr (by rw[List.length_drop] at hl ⊢;omega) (fun g hg=>hr g (aaz _ hg));have VN:all.drop o=(all.drop o).take s.length++all.drop (o+s.length):=by
       rw[<-List.drop_drop,List.take_append_drop]
      rw[VN];exact k1.append k2
     ·cases h
   ·cases h
theorem ji {P:aad}{w:World}{base:Nat}:∀(m t:Nat) (ks:List CK) (cs:List Value),eO P m t=some ks->Rd P w base t cs->eo P w base ks cs:=by
 intro m
 induction m with
 |zero=>intro t ks cs h;simp[eO] at h
 |succ m ih =>
  intro t ks cs h hr;obtain⟨H,uv,sp,held,Pn,x,hx⟩:=hr;simp only[eO] at h
  split at h
  ·rename_i k hu
   simp only[aA] at h;subst h;obtain⟨n,rfl,_,hw⟩:=DataW.trod_int hu hx;exact⟨⟨n,rfl,hw⟩,trivial⟩
  ·rename_i hu
   simp only[aA] at h;subst h;obtain⟨b,rfl,_⟩:=DataW.trod_bool hu hx;exact⟨⟨b,rfl⟩,trivial⟩
  ·rename_i hu
   simp only[aA] at h;subst h;obtain⟨s,rfl,_,hs⟩:=DataW.trod_string hu hx;exact⟨⟨s,rfl,hs⟩,trivial⟩
  ·rename_i e hu
   simp only[aA] at h;subst h;rcases Go.Deep.open_slice hu hx with ⟨rfl,_⟩|⟨a,len,cap,m',n,D,Pl,rfl,hb,hl,hm,KU,_,hel⟩
   ·exact⟨⟨none,0,0,rfl,aas _,Nat.zero_le _,fun _ h=>absurd h (by omega)⟩,trivial⟩
   ·refine⟨⟨some a,len,cap,rfl,hl,hm,fun hp hn=>?_⟩,trivial⟩
    have hle:len<=m':=by rw[KU];split<;>omega
    obtain⟨cs0,h0,_⟩:=hel 0 (by omega);have ha:a.add (0*P.cellsOf e)=a:=by simp[Addr.add]
    rw[ha] at h0;have hs:=C8 hp h0;refine⟨a.block,a.off,by rw[<-hs],fun i hi=>?_⟩;obtain⟨lz,h1,h2⟩:=hel i (by omega);rw[hs,add_plain] at h1;exact GU h1 ⟨H,uv,sp,held,n,_,h2⟩
  ·rename_i e hu
   simp only[aA] at h;subst h;rcases DataW.trod_pointer hu hx with ⟨rfl,_⟩|⟨a,lz,y,n,_,rfl,_,hc,hy⟩
   ·exact⟨⟨none,rfl,fun _ a h=>by cases h⟩,trivial⟩
   ·refine⟨⟨some a,rfl,fun hp a' h=>?_⟩,trivial⟩
    cases h;have hs:=C8 hp hc;refine⟨a.block,a.off,hs,?_⟩;rw[hs] at hc;exact GU hc ⟨H,uv,sp,held,n,_,hy⟩
  ·rename_i fs hu
   split at h
   ·rename_i s hs
    cases hc:aae (P.cellsOf t) s.length with
    |false=>rw[hc] at h;simp at h
    |true =>
     rw[hc] at h;simp only[cond_true,aA] at h;subst h;have AC:=aaj hc;obtain⟨xs,n,_,_,hl,HY,hel⟩:=DataW.trod_struct hu hx;have:=pU (base:=base) ih cs fs.toList 0 s hs (by simp[hl,AC]) (fun f hf=>by
      obtain⟨i,hi⟩:=List.mem_iff_getElem?.1 hf;have ni:fs[i]?=some f:=by simpa using hi
      have aF:i<xs.length:=by rw[HY];exact(aav.1 ni).1
      have:=hel i f ni;rw[aam aF] at this;exact⟨H,uv,sp,held,n,_,this⟩)
     simpa using this
   ·cases h
  ·cases h
end Go.bU
namespace Go.bU
open Go.ChangeShapes Go.WideShapes Go.ChangeAt Go.RowKit
theorem aW.below {w w':World}(h:aW (fun _ _=>False) w w'):Below w.heap.size w w':=⟨h.os,h.tape,h.output,h.size,fun k hk=>h.same k hk (fun _ ho=>ho)⟩
section
variable {H:Type} {uv:aai × Value->H} {P:aad}
theorem qa (hl:laidOutB P=true){W W':World}{sp:Nat->Bool}(hb:Below W.heap.size W W'):∀{ts:List aai} {vs:List Value} {ds:List (DataW H)} {ps:List aal},aak uv P W 0 (fun _=>true) true ts vs ds ps ->
  (∀t∈ts,P.readableRec t=true/\t<P.types.size)->(∀p∈ps,p.block<W.heap.size)->(∀p∈ps,sp p.block=true)->aak uv P W' 0 sp true ts vs ds ps
 | [],[],[],_,h,_,_,_=>h
 |t::ts,v::vs,d::ds,ps,h,ht,aF,EH=>by
  obtain⟨p,q,h1,h2,rfl⟩:=h;refine⟨p,q,?_,?_,rfl⟩
  ·exact WideElems.Trod_stays hl (ht t aaq).1 (ht t aaq).2 h1 (fun x hx=>hb.same (aF x (by simp[hx]))) (fun x hx=>EH x (by simp[hx]))
  ·exact qa hl hb h2 (fun u hu=>ht u (aaz _ hu)) (fun x hx=>aF x (by simp[hx])) (fun x hx=>EH x (by simp[hx]))
 | [],[],_::_,_,h,_,_,_=>h.elim
 | [],_::_,_,_,h,_,_,_=>h.elim
 |_::_,[],_,_,h,_,_,_=>h.elim
 |_::_,_::_,[],_,h,_,_,_=>h.elim
theorem Lo {f:Func}{s:ChangeSpec}{apart fresh handsOn again:Bool}{W W':World}{args:Array Value}{ds gs:List (DataW H)}{before:List aal}{tb:aai}(hl:laidOutB P=true)
  (hW:DataW.Whole uv P f.params.toList s.vars apart W args.toList ds gs before) (hv:s.vars=[]) (fD:(s.fn H (ds++gs)).args=ds) (VK:(s.fn H (ds++gs)).results=[.lit (.bool true)]) (Zz:(s.fn H (ds++gs)).vars=[])
  (hrt:f.resultTypes=#[tb]) (Gn:P.underlying tb=some .bool) (W5:∀t∈f.params.toList,P.readableRec t=true/\t<P.types.size) (hb:Below W.heap.size W W') :
  s.post uv P f apart fresh handsOn again W args (.bool true) W':=by
 have aF:=hW.lt;have hW0:=hW;obtain⟨p,q,hA,hV,rfl,hz,hn⟩:=hW;rw[hv] at hV;have hq:q=[]/\gs=[]:=by
  cases gs with
  |nil=>exact⟨hV,rfl⟩
  |cons g gs=>exact hV.elim
 obtain⟨rfl,rfl⟩:=hq;have hr:∀(b:Nat) (sp:Nat->Bool) (hd:Bool),aak uv P W' b sp hd f.resultTypes.toList ((Value.bool true).resultList f.resultTypes.size) (s.fn H (ds++[])).results []:=by
  intro b sp hd;rw[hrt,VK];exact trodAll_mk1 (shut_bool Gn true)
 have ha:∀sp:Nat->Bool,(∀x∈p,sp x.block=true)->aak uv P W' 0 sp true f.params.toList args.toList (s.fn H (ds++[])).args p:=by
  intro sp EH;rw[fD];exact qa hl hb hA W5 (fun x hx=>aF x (by simpa using hx)) EH
 have hvv:∀sp:Nat->Bool,DataW.TrodVars uv P W' sp s.vars (s.fn H (ds++[])).vars []:=by
  intro sp;rw[hv,Zz];rfl
 refine⟨ds,[],p++[],[],p,[],hW0,hr _ _ _,ha _ (fun x hx=>by simpa using aF x (by simpa using hx)),hvv _,World.keptBut_mono (fun x hx=>⟨hx,.inr (by simpa using hx)⟩) (hb.frame _),fun _=>?_⟩;refine⟨?_,_,_,([]++p)++[],⟨[]++p,[],trodAll_append (ha _ (fun _ _=>rfl)) (hr _ _ _),hvv _,rfl,?_,?_⟩,?_⟩
 ·exact ok_one hrt rfl (okWide_bool_mk Gn true)
 ·intro b off hp
  have hbl:b<W.heap.size:=aF (.cell b off) (by simpa using hp);rw[hb.frozen (p:=⟨b,off,none⟩) hbl];exact hz b off (by simpa using hp)
 ·intro hap
  have:=hn hap
  simpa using this
 ·intro x hx _
  simpa using hx
def pK (P:aad)(W:World)(t:Nat)(v:Value):Prop:=(∃r base,Value.okWide P W r base t v)/\Rd P W 0 t v.cells.toList
theorem L5 {W:World}{sp:Nat->Bool}{hd:Bool}:∀{ts:List aai} {vs:List Value} {ds:List (DataW H)} {ps:List aal},aak uv P W 0 sp hd ts vs ds ps ->
  ∀(j:Nat) t v,ts[j]?=some t->vs[j]?=some v->Rd P W 0 t v.cells.toList
 | [],[],_,_,_,j,t,v,h,_=>by simp at h
 |t::ts,v::vs,d::ds,ps,h,j,t',v',ht,hv=>by
  obtain⟨p,q,h1,h2,rfl⟩:=h;cases j with
  |zero =>
   simp at ht hv;subst ht;subst hv;obtain⟨Pn,h⟩:=h1;exact⟨H,uv,_,_,Pn,_,h⟩
  |succ j=>exact L5 h2 j t' v' (by simpa using ht) (by simpa using hv)
 | [],_::_,_,_,_,j,t,v,h,_=>by simp at h
 |_::_,[],_,_,_,j,t,v,_,h=>by simp at h
 |_::_,_::_,[],_,h,_,_,_,_,_=>h.elim
theorem uk {W:World}{sp:Nat->Bool}{hd:Bool}:∀{ts:List aai} {vs:List Value} {ds:List (DataW H)} {ps:List aal},aak uv P W 0 sp hd ts vs ds ps->vs.length=ts.length/\ds.length=ts.length
 | [],[],[],_,_=>⟨rfl,rfl⟩
 |t::ts,v::vs,d::ds,ps,h=>by
  obtain⟨p,q,_,h2,_⟩:=h;have:=uk h2;simp[this]
 | [],[],_::_,_,h=>h.elim
 | [],_::_,_,_,h=>h.elim
 |_::_,[],_,_,h=>h.elim
 |_::_,_::_,[],_,h=>h.elim
theorem pK.int {W:World}{t:Nat}{k:IntKind}{v:Value}(h:pK P W t v)(hu:P.underlying t=some (.int k)):∃n,v=.int k n/\(Lit.int k n).wf=true:=by
 obtain⟨⟨r,b,h1⟩,h2⟩:=h;obtain⟨n,rfl⟩:=okWide_int hu h1;have:=ji 1 t [.int k] _ (by simp[eO,hu]) h2;obtain⟨m,hm,hw⟩:=this.1;simp at hm;subst hm;exact⟨_,rfl,hw⟩
theorem pK.bool {W:World}{t:Nat}{v:Value}(h:pK P W t v)(hu:P.underlying t=some .bool):∃b,v=.bool b :=
 let ⟨⟨_,_,h1⟩,_⟩:=h;okWide_bool hu h1
theorem pK.slice {W:World}{t e:Nat}{v:Value}(h:pK P W t v)(hu:P.underlying t=some (.slice e)):u_ P W 0 (.slice e) v:=by
 obtain⟨⟨r,b,h1⟩,h2⟩:=h;obtain⟨p,n,c,rfl⟩:=okWide_slice hu h1;exact(ji 1 t [.slice e] _ (by simp[eO,hu]) h2).1
theorem eo.cons {P:aad}{w:World}{base:Nat}{k:CK}{ks:List CK}{cs:List Value}(h:eo P w base (k::ks) cs):∃v vs,cs=v::vs/\u_ P w base k v/\eo P w base ks vs:=by
 cases cs with
 |nil=>exact h.elim
 |cons v vs=>exact⟨v,vs,rfl,h.1,h.2⟩
theorem eo.nil {P:aad}{w:World}{base:Nat}{cs:List Value}(h:eo P w base [] cs):cs=[]:=by
 cases cs with
 |nil=>rfl
 |cons v vs=>exact h.elim
end
end Go.bU
