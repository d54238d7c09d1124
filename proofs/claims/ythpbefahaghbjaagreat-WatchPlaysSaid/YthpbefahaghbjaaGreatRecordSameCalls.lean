import Derived.Test.YthpbefahaghbjaaGreatRg6
import Derived.DeepKeys4
import Derived.Test.YthpbefahaghbjaaGreatPd2
import Derived.Laws.BytesArg
import Derived.Lib.Bytes
import Derived.Test.YthpbefahaghbjaaGreatLaw
open Array renaming toList_push→aaK
open Go renaming Program→aaf,TypeId→aag,maxLen→aah,Operand→aam,keyOf→aav
open Go.Instr renaming lookup→aaJ,mapUpdate→aaQ
open Go.Proofs.Tryz renaming prog→aac,results27→aae,results57→aal,results48→aan,results51→aao,results53→aap,results54→aaq,results52→aar,results18→aas,underlying30→aau,results39→aaw,underlying37→aax,sizeOf89→aay,underlying36→aaB,sizeOf2→aaC,underlying38→aaD,sizeOf96→aaE,underlying39→aaF,sizeOf99→aaG,underlying5→aaH,underlying9→aaI,sizeOf5→aaS,call51→aaT,call48→aaU,call57→aaV
open Go.Result renaming andThen→aak
open Go.WideMaps renaming KeyLaw→aaA
open List renaming getElem?_eq_getElem→aad,getElem?_eq_some_iff→aaz,mem_of_getElem?→aaM,mem_singleton→aaN,mem_cons_self→aaO,mem_cons_of_mem→aaP
open Nat renaming zero_le→aai,beq→aaL,zero_lt_one→aaR
open Option renaming some→aaj
set_option maxHeartbeats 16000000
set_option maxRecDepth 100000
set_option cbv.maxSteps 100000000
namespace Go.bU
open Go
theorem be.clear {E:Env}{N0:af}{T:aQ}(hT:aq E.P T){rg:List Rg}{f:Fr}{x:aam}{ts e r c n:Nat}{ti te:TI}{k:Option Nat}{g:Rg}{lz:List SV}(hx:ev f x=some (.osl r c n te.size k))(BA:bo T ts=some ti)(hk:ti.kind=.slice e)(kN:bo T e=some te)(hz:te.zero.length=te.size)(ZC:0<te.size)
  (hg:rg[r]?=some g) (ho:g.own=true) (hn:n≠0) (hc:c<=g.cells.length) (h1:(nu n te.zero).all SV.one=true) (hp:∀(N:af) (p:aS),N0.le N->N[r]?=some p->g.cells.length<=p.x->c+n*te.size<=p.x) (dS:lz=setRow g.cells c (nu n te.zero)) :
  be E N0 rg f (.call { callee:=.builtin .clear,args:=#[x],argTypes:=#[ts] }) (.tup []) (rg.set r { g with cells:=lz }):=by
 intro N ρ o w hN cC hf h;have ok:=(hT.ok ts ti BA).kind;rw[hk] at ok;have j6:E.P.underlying ts=some (.slice e):=ok;have l_:=hT.ok e te kN;obtain⟨z,hzr,EJ⟩:=l_.zero;have oh:SV.ap N te.zero=some z.cells.toList:=SV.ej (N:=[]) (N':=N) (fun r p h=>by simp at h) _ EJ;have z2:z.cells.size=te.size:=by
  have:=(SV.aP _ oh).1;simp at this;omega
 have hd:=hf _ _ hx;obtain⟨p,Bz⟩:∃p,N[r]?=some p:=⟨_,aad (by rw[h.len];exact(aaz.1 hg).1)⟩;have gI:=h.ext r g p hg Bz ho;have hpx:=hp N p hN Bz gI;simp only[SV.den,Bz,aA] at hd;have Ev:=nS oh n;obtain⟨w',gU,rO⟩:=Sat.store Bz c (nu n te.zero) (kS n z.cells.toList) 0 h hg ho (by omega) (by rw[GW,hz];omega) Ev (ma h1 Ev);have a6:(Builtin.clear_ #[ts] o.type #[ρ x]).run E.P w=.ok (.tuple #[]) w':=by
  rw[<-hd];simp only[Builtin.clear_,List.getElem?_toArray,List.getElem?_cons_zero,Sem.run_bind,run_underlying j6,aak];cases n with
  |zero=>exact absurd rfl hn
  |succ n =>
   simp only[Sem.run_bind,hzr,aak,Builtin.zeroCells];rw[oO (by omega),gU];rfl
 subst dS;refine .inl ⟨_,w',.inl ?_,N,af.le.refl N,by simp only[SV.den,SV.ap];rfl,by simpa using rO⟩;simp[execOp,cC,resolve,invoke,builtin,a6]
theorem Sat.perm {E:Env}{N N':af}{rg cN:List Rg}{w:World}(h:Sat E N rg w)(hl:N'.length=cN.length)(σ:Nat->Nat)(hσ:∀i j,σ i=σ j->i=j)
  (hm:∀(i:Nat) (x:Rg) (p:aS),cN[i]?=some x->N'[i]?=some p->∃x0,rg[σ i]?=some x0/\N[σ i]?=some p/\x.own=x0.own/\x.cells.length=x0.cells.length/\x.ob=none/\∀(j:Nat) (c:SV),x.cells[j]?=some c->∃c0,x0.cells[j]?=some c0/\∀v,c0.den N=some v->c.den N'=some v):Sat E N' cN w:=by
 refine { h with len:=hl,lt:=?_,cell:=?_,ext:=?_,room:=?_,eT:=?_,obj:=?_,fG:=?_,lR:=?_,dd:=?_,dG:=?_ }
 ·intro i p hp
  obtain⟨x,hx⟩:∃x,cN[i]?=some x:=⟨_,aad (by have:=(aaz.1 hp).1;omega)⟩;obtain⟨x0,h1,h2,_⟩:=hm i x p hx hp;exact h.lt _ _ h2
 ·intro i x p hx hp j c hj
  obtain⟨x0,h1,h2,_,_,_,h6⟩:=hm i x p hx hp;obtain⟨c0,h7,h8⟩:=h6 j c hj;obtain⟨v,h9,X1⟩:=h.cell _ _ _ h1 h2 j c0 h7;exact⟨v,h8 v h9,X1⟩
 ·intro i x p hx hp ho
  obtain⟨x0,h1,h2,h3,h4,_,_⟩:=hm i x p hx hp;rw[h4];exact h.ext _ _ _ h1 h2 (by rw[<-h3];exact ho)
 ·intro i x p hx hp ho
  obtain⟨x0,h1,h2,h3,h4,_,_⟩:=hm i x p hx hp;exact h.room _ _ _ h1 h2 (by rw[<-h3];exact ho)
 ·intro i i' x x' p p' hx hp iD lC ho bH j hj hb
  obtain⟨x0,h1,h2,h3,h4,_,_⟩:=hm i x p hx hp;obtain⟨x1,k1,k2,k3,k4,_,_⟩:=hm i' x' p' iD lC;exact h.eT _ _ _ _ _ _ h1 h2 k1 k2 (by rw[<-h3];exact ho) (fun e=>bH (hσ _ _ e)) j (by unfold Rg.wid at hj ⊢;rw[<-k3,<-k4];exact hj) hb
 ·intro i x p ob hx hp ho
  obtain⟨x0,h1,h2,h3,h4,h5,_⟩:=hm i x p hx hp;rw[h5] at ho;cases ho
 ·intro i i' x x' p p' hx hp iD lC ho _ _
  obtain⟨x0,h1,h2,h3,h4,h5,_⟩:=hm i x p hx hp;rw[h5] at ho;cases ho
 ·intro i x p hx hp ho
  obtain⟨x0,h1,h2,h3,h4,_,_⟩:=hm i x p hx hp;exact h.lR _ _ _ h1 h2 (by rw[<-h3];exact ho)
 ·intro i x p hx hp ho
  obtain⟨x0,h1,h2,h3,h4,_,_⟩:=hm i x p hx hp;exact h.dd _ _ _ h1 h2 (by rw[<-h3];exact ho)
 ·intro i x p hx hp ho
  obtain⟨x0,h1,h2,h3,h4,_,_⟩:=hm i x p hx hp;exact h.dG _ _ _ h1 h2 (by rw[<-h3];exact ho)
def uG (N N':af):List SV->List SV->Prop
 | [],[]=>True
 |c0::cs0,c::cs=>(∀v,c0.den N=some v->c.den N'=some v)/\uG N N' cs0 cs
 |_,_=>False
theorem uG.same {N N':af}:∀{cs:List SV},(∀c∈cs,∀v,c.den N=some v->c.den N'=some v)->uG N N' cs cs
 | [],_=>trivial
 |c::cs,h=>⟨h c (by simp),uG.same fun c hc=>h c (by simp[hc])⟩
end Go.bU
namespace Go.bU
open Go Go.ChangeShapes Go.WideShapes
def eD (P:aaf)(kt:aag)(m:Nat)(g:Value->Option Value)(w:World):Prop :=
 ∃es clock,w.heap[m]?=some (.map es clock)/\(∀e∈es.toList,(∃l,aav P kt e.key=some l)/\g e.key=some e.val)/\∀v u,g v=some u->∃e∈es.toList,e.key=v
theorem eD.ob {P:aaf}{kt:aag}{m:Nat}{g:Value->Option Value}{w:World}(h:eD P kt m g w):(b8 w m).isSome=true:=by
 obtain⟨es,clock,h1,_⟩:=h;rw[oA h1 trivial];rfl
theorem eD.at {P:aaf}{kt:aag}{m:Nat}{g:Value->Option Value}{w w':World}(h:eD P kt m g w)(hs:b8 w' m=b8 w m):eD P kt m g w':=by
 obtain⟨es,clock,h1,h2⟩:=h;rw[oA h1 trivial] at hs;exact⟨es,clock,kC hs,h2⟩
theorem eD.loc {P:aaf}{kt:aag}{m:Nat}{g:Value->Option Value}:Loc (fun k _=>k=m) (eD P kt m g):=fun w1 w2 hs _ h=>h.at ((hs m 0 rfl).2)
theorem eD.empty {P:aaf}{kt:aag}{m:Nat}{w:World}{clock:Nat}(h:w.heap[m]?=some (.map #[] clock)):eD P kt m (fun _=>none) w:=⟨_,_,h,fun e he=>by simp at he,fun v u hv=>by cases hv⟩
theorem wS {P:aaf}{m:Nat}{g:Value->Option Value}{w:World}{mt kt et:aag}(K:aaA P kt)(h:eD P kt m g w){z x:Value}{l:Lit}(hu:P.underlying mt=some (.map kt et))(hz:∀w,(zeroValue et).run P w=.ok z w)(hx:aav P kt x=some l) :
  (aaJ mt (.map (some m)) x true).run P w=.ok (.tuple #[(g x).getD z,.bool (g x).isSome]) w:=by
 obtain⟨es,clock,h1,h2,h3⟩:=h;have hc:=fun em=>K.check w em hx
 rcases K.find w hx es.toList (fun e he=>(h2 e he).1) with ⟨hf,bH⟩|⟨j,e,hf,he,hk⟩
 ·have hg:g x=none:=by
   cases hgx:g x with
   |none=>rfl
   |some u=>obtain⟨e,he,hk⟩:=h3 x u hgx;exact absurd hk (bH e he)
  simp[aaJ,run_underlying hu,Go.MapKept.run_getObj_map h1,hc,hf,hz,aak,hg]
 ·have hg:=(h2 e (aaM he)).2
  rw[hk] at hg;simp[aaJ,run_underlying hu,Go.MapKept.run_getObj_map h1,hc,hf,aak,hg]
theorem wT {P:aaf}{m:Nat}{g:Value->Option Value}{w:World}{mt kt et:aag}(K:aaA P kt)(h:eD P kt m g w){x:Value}{l:Lit}(hu:P.underlying mt=some (.map kt et))(hx:aav P kt x=some l)(hg:g x=none)(v:Value) :
  ∃ob,(aaQ mt (.map (some m)) x v).run P w=.ok () (hC w m ob)/\gK ob/\eD P kt m (fun q=>open Classical in if q=x then some v else g q) (hC w m ob):=by
 have hm:=ov h.ob;obtain⟨es,clock,h1,h2,h3⟩:=h;have hc:=fun em=>K.check w em hx
 rcases K.find w hx es.toList (fun e he=>(h2 e he).1) with ⟨hf,bH⟩|⟨j,e,hf,he,hk⟩
 ·refine⟨.map (es.push { key:=x,val:=v,born:=clock }) (clock+1),?_,trivial,_,_,pN hm,fun e he=>?_,fun q u hq=>?_⟩
  ·simp[aaQ,run_underlying hu,Go.MapKept.run_getObj_map h1,hc,hf,Go.MapKept.run_setObj_map _ h1,aak,hC]
  ·simp only[aaK,List.mem_append,aaN] at he
   rcases he with he|rfl
   ·refine⟨(h2 e he).1,?_⟩
    simp only;rw[if_neg (bH e he)];exact(h2 e he).2
   ·exact⟨⟨l,hx⟩,by simp⟩
  ·simp only at hq
   by_cases e1:q=x
   ·exact⟨_,by rw[aaK];exact List.mem_append_right _ (aaN.2 rfl),e1.symm⟩
   ·rw[if_neg e1] at hq
    obtain⟨e,he,hk⟩:=h3 q u hq;exact⟨e,by rw[aaK];exact List.mem_append_left _ he,hk⟩
 ·have:=(h2 e (aaM he)).2
  rw[hk,hg] at this;cases this
theorem be.Gv {E:Env}{N0:af}{rg:List Rg}{f:Fr}{mt kt et:aag}{x y:aam}{m:Nat}{g:Value->Option Value}{ks:SV}{kv z:Value}{l:Lit}{v:SV}{b:Bool}(K:aaA E.P kt)(hu:E.P.underlying mt=some (.map kt et))(hz:∀w,(zeroValue et).run E.P w=.ok z w)(hx:ev f x=some (.raw (.map (some m))))(hy:ev f y=some ks)
  (hk:∀N,ks.den N=some kv) (hl:aav E.P kt kv=some l) (hm:∀w,E.R w->eD E.P kt m g w) (hv:∀N,N0.le N->v.den N=some ((g kv).getD z)) (hb:b=(g kv).isSome):be E N0 rg f (.lookup mt x y true) (.tup [v,.bool (.lit b)]) rg :=
 be.val fun N ρ o w hN cC df hS=>by
  have h1:=df _ _ hx;have h2:=df _ _ hy;rw[hk N] at h2;simp only[SV.den,bc,if_true,aA] at h1 h2;refine⟨.tuple #[(g kv).getD z,.bool (g kv).isSome],by simp[SV.den,SV.ap,hv N hN,SB.den,hb],?_⟩;simp[execOp,cC,<-h1,<-h2,wS K (hm w hS.fH) hu hz hl,aak]
section
variable {E:eR} {T:aQ} {all:Array Oper} {i:Nat} {rest:List Nat} {k:List It} {s:St} {o:Oper} {f:Fr}
theorem X.P9 (R':World->Prop){mt kt et:aag}{x y u:aam}{m:Nat}{ks v:SV}{kv:Value}{l:Lit}(g:Value->Option Value)(K:aaA E.P kt)(ho:nth all.toList i=some o)(hg:o.guard=none)(cC:o.op=.mapUpdate mt x y u)(hu:E.P.underlying mt=some (.map kt et))
  (hx:ev s.fr x=some (.raw (.map (some m)))) (hy:ev s.fr y=some ks) (oZ:∀N,ks.den N=some kv) (HM:aav E.P kt kv=some l) (hgn:g kv=none) (hv:ev s.fr u=some v) (hD:∃o,E.D m o) (hO:∀k o,E.D k o->E.W.heap.size<=k\/E.O k o) (ct:∀k o,E.D k o->E.im k o=none) (kF:∀g∈s.rg,g.own=true\/g.cells=[]) (hl:Loc E.D R')
  (hm:∀w,E.R w->eD E.P kt m g w) (hR:∀N w c ob,E.N0.le N->Sat E.toEnv N s.rg w->v.den N=some c->gK ob->eD E.P kt m (fun q=>open Classical in if q=kv then some c else g q) (hC w m ob)->R' (hC w m ob))
  (hp:eK E.n s.fr o.dst (.val (.tup []))=some f) (hk:X (E.MP R') (.ops all rest::k) ⟨f,s.rg⟩):X E (.ops all (i::rest)::k) s:=by
 refine X.ZV R' m ho hg hD hO ct kF hl (fun N a w hN de hS=>?_) hp hk;have h1:=cX de hx;have h2:=cX de hy;have h3:=cX de hv;rw[oZ N] at h2;simp only[SV.den,bc,if_true,aA] at h1 h2;obtain⟨ob,k1,k2,k3⟩:=wT (P:=E.P) K (hm w hS.fH) hu HM hgn (a.eval u);refine⟨ob,?_,(hm w hS.fH).ob,k2,hR N w _ ob hN hS h3 k2 k3⟩;simp[execOp,cC,<-h1,<-h2,k1,aak]
end
theorem Sat.RS {P:aaf}{fn:Func}{Q:Ending->World->Prop}{w:World}{N:af}{rg:List Rg}{B:aH}(D:Nat->Nat->Prop)(R:World->Prop)(im:Mem)(h:zC (Jt w N) N rg)(hs:tM N rg)(hD:∀k o,D k o->eG w k o)(hl:Loc D R)(hR:R w)
  (hi:∀k o v,im k o=some v->w.cell? ⟨k,o,none⟩=some v) (hd:∀(r:Nat) (g:Rg) (p:aS),rg[r]?=some g->N[r]?=some p->g.own=true->∀j,j<p.x->¬D p.b (p.o+j)/\im p.b (p.o+j)=none) (O:Nat->Nat->Prop) (hO:∀(r:Nat) (g:Rg) (p:aS),rg[r]?=some g->N[r]?=some p->g.own=true->∀j,j<p.x->O p.b (p.o+j)) :
  Sat (aK P fn Q w O im D R N B).toEnv N rg w:=by
 have hS:=Sat.Z0 (P:=P) (fn:=fn) (R:=Q) (B:=B) h hs;refine⟨hS.len,hS.lt,hS.cell,hS.ext,hS.room,hS.eT,fun r g p ob hg hp ho=>?_,hS.fG,hi,fun r g p hg hp ho j hj=>(hd r g p hg hp ho j hj).2,fun r g p hg hp ho j hj=>(hd r g p hg hp ho j hj).1,hD,hl,hR,aW.refl _ _,fun r g p hg hp ho=>.inr fun j hj=>hO r g p hg hp ho j hj⟩;obtain⟨_,h2,_⟩:=hS.obj r g p ob hg hp ho;have:=hS.lt r p hp;have h2:w.heap.size<=p.b:=h2;omega
theorem X.FQ {P:aaf}{f:FuncId}{fn:Func}{c:Code}{args:Array Value}{w:World}{Q:Ending->World->Prop}{N:af}{rg:List Rg}{ss:List SV}(O D:Nat->Nat->Prop)(R:World->Prop)(im:Mem)(hf:P.funcs[f]?=some fn)(hb:fn.body=some c){B:aH}(dH:aD B fn.body=true)
  (hle:Nat.ble args.size fn.ntmps=true) (ha:SV.ap N ss=some args.toList) (hS:Sat (aK P fn Q w O im D R N B).toEnv N rg w) (h:X (aK P fn Q w O im D R N B) [.code c] ⟨kU ss 0,rg⟩):Calls P f args w Q :=
 X.enter (aK P fn Q w O im D R N B) hf hb rfl rfl rfl (by rw[hb] at dH;exact dH) (Nat.le_of_ble_eq_true hle) ha hS h
theorem be.uu {E:Env}{N0:af}{T:aQ}(hT:aq E.P T){rg:List Rg}{f:Fr}{x y:aam}{ts tx e n m nn r:Nat}{ti te:TI}{sx sy:SV}{cs new lz:List SV}(hx:ev f x=some sx)(pQ:sx=gV r n te.size)(hy:ev f y=some sy)(BA:bo T ts=some ti)(hk:ti.kind=.slice e)(kN:bo T e=some te)
  (hr:rg[r]?=some ⟨true,cs,none⟩) (dS:cs.length=n*te.size) (hm:m≠0) (lD:jD T rg te sy tx=some (new,m)) (dm:iZ.kz te new n m=true) (Bw:nn=n+m) (acT:lz=cs++new) :
  be E N0 rg f (.call { callee:=.builtin .append,args:=#[x,y],argTypes:=#[ts,tx] }) (.osl rg.length 0 nn te.size none) (rg.set r ⟨false,[],none⟩++[⟨true,lz,none⟩]):=by
 subst Bw acT;have lQ:r<rg.length:=(aaz.1 hr).1
 by_cases hn:n=0
 ·subst hn
  have Vh:cs=[]:=List.eq_nil_of_length_eq_zero (by rw[dS,Nat.zero_mul]);have pQ:sx=.raw (.slice none 0 0):=pQ;subst pQ Vh;have h1:be E N0 rg f (.call { callee:=.builtin .append,args:=#[x,y],argTypes:=#[ts,tx] }) (.osl rg.length 0 m te.size none) (rg++[⟨true,new,none⟩]):=be.step hT (iw hx hy BA hk kN lD (q9 hm dm));intro N ρ o w hN cC hf hS;have h2:=h1 N ρ o w hN cC hf hS;rw[Nat.zero_add,List.nil_append];have IZ:∀v w',(∃N',N.le N'/\(SV.osl rg.length 0 m te.size none).den N'=some v/\Sat E N' (rg++[⟨true,new,none⟩]) w')->∃N',N.le N'/\(SV.osl rg.length 0 m te.size none).den N'=some v/\Sat E N' (rg.set r ⟨false,[],none⟩++[⟨true,new,none⟩]) w':=fun v w' ⟨N',k1,k2,k3⟩=>by
   refine⟨N',k1,k2,?_⟩;have:=k3.wO (r:=r) (by simp;omega)
   rwa [List.set_append_left _ _ lQ] at this
  rcases h2 with ⟨v,w',Cp,hv⟩|⟨g,args,he,hc⟩
  ·exact .inl ⟨v,w',Cp,IZ v w' hv⟩
  ·exact .inr ⟨g,args,he,hc.mono fun e w' ⟨v,e1,hv⟩=>⟨v,e1,IZ v w' hv⟩⟩
 ·have hb:aaL n 0=false:=by cases h:aaL n 0 with|false=>rfl|true=>exact absurd (Nat.eq_of_beq_eq_true h) hn
  have VS:sx=.osl r 0 n te.size none:=by rw[pQ];simp only[gV,hb,cond_false]
  subst VS;exact be.step hT (iw hx hy BA hk kN lD (jk (by rw[bT];exact hr) dS hm dm))
end Go.bU
namespace Go.Proofs.YthpbefahaghbjaaGreat
open Go.bU
theorem r8 (a b:jz)(va vb:List Value)(w:World)(ha:az (wm w) a.toD va)(hb:az (wm w) b.toD vb) :
  Calls aac 57 #[.agg va.toArray,.agg vb.toArray] w fun e w'=>e=.returned (.bool (decide (a=b)))/\aW (fun _ _=>False) w w':=by
 obtain⟨pa,ca,rfl,sa⟩:=jz.open ha;obtain⟨pb,cb,rfl,sb⟩:=jz.open hb;clear ha hb;obtain⟨e1,i1,s1,l1⟩:=a;obtain⟨e2,i2,s2,l2⟩:=b;obtain⟨n1,pO⟩:∃n,n=l1.length:=⟨_,rfl⟩;obtain⟨n2,jy⟩:∃n,n=l2.length:=⟨_,rfl⟩;obtain⟨q,hq⟩:∃q:Bool,q=decide ((⟨e1,i1,s1,l1⟩:jz)=⟨e2,i2,s2,l2⟩):=⟨_,rfl⟩;have hm:=dt;have qt:n1<=aah:=by rw[pO];exact sa.len
 simp only[<-pO,<-jy,<-hq];refine X.begin (rg:=[]) (N:=[]) (ss:=[.agg [.int .i64 (.v e1),.int .u64 (.v i1),.int .i64 (.v s1),.ao pa n1 ca],.agg [.int .i64 (.v e2),.int .u64 (.v i2),.int .i64 (.v s2),.ao pb n2 cb]]) Tryz.func57 rfl S_ rfl rfl Sat.bp ?_;obtain⟨im,aV⟩:∃im,im=ab [] [] w:=⟨_,rfl⟩;show X (aK aac Tryz.f57 _ w (bq [] []) (ab [] [] w) (fun _ _=>False) (fun _=>True) [] B57) _ _;rw[<-aV];refine X.go jB 400 _ rfl aal ?_
 conv=>arg 2;cbv
 refine X.cond rfl (fun hc=>?_) (fun hc=>?_)
 ·refine X.go jB 400 _ rfl aal ?_
  conv=>arg 2;cbv
  refine X.done jB rfl (fun N w' v hN hS hv=>⟨aw hv ?_,hS.aM.mono fun k o _ h=>aB h⟩);simp only[SB.T,SB.F,SI.den] at hc;rw[hq];symm;refine decide_eq_false fun h=>?_
  cases h;omega
 simp only[SB.T,SB.F,SI.den] at hc;obtain⟨⟨⟨rfl,rfl⟩,rfl⟩,Bw⟩:=hc;obtain rfl:n1=n2:=by omega
 refine X.go jB 400 _ rfl aal ?_
 conv=>arg 2;cbv
 refine X.gB (fun i:{i:Nat // i<=n1/\l1.take i=l2.take i}=>⟨[(2,.val (.own 0 0)),(3,.val (.own 1 0)),(36,.val (.int .i64 (.nat n1))),(37,.val (.int .i64 (.nat i.1)))],[⟨true,[.int .i64 (.v e1),.int .u64 (.v i1),.int .i64 (.v s1),.ao pa n1 ca],none⟩,⟨true,[.int .i64 (.v e1),.int .u64 (.v i1),.int .i64 (.v s1),.ao pb n1 cb],none⟩]⟩) (fun i=>n1-i.1) (fun N a w' hN hf hS=>⟨⟨0,aai _,rfl⟩,?_⟩) (fun i q' cF=>?_)
 ·exact At.eJ hf hS
 obtain⟨i,hi,l7⟩:=i;refine X.go jB 400 _ rfl aal ?_
 conv=>arg 2;cbv
 refine X.cond rfl (fun aF=>?_) (fun cJ=>?_)
 ·simp only[SB.T,SI.den] at aF
  have aF:i<n1:=by omega
  refine X.go jB 400 _ rfl aal ?_
  conv=>arg 2;cbv
  obtain⟨x1,fK⟩:∃x,l1[i]?=some x:=⟨_,aad (by omega)⟩;obtain⟨x2,gJ⟩:∃x,l2[i]?=some x:=⟨_,aad (by omega)⟩;obtain⟨b1,y1,_,fE,jG,dM⟩:=sa.kM fK;obtain⟨b2,y2,_,fU,nZ,fM⟩:=sb.kM gJ;rw[jI.open jG,<-aV] at dM;rw[jI.open nZ,<-aV] at fM;refine X.eL b1 (y1+i*1) [.int .i64 (.v x1)] (GG (dM 0 _ rfl)) aaR (fun N1 dQ dX=>?_);refine X.eL b2 (y2+i*1) [.int .i64 (.v x2)] (GG (fM 0 _ rfl)) aaR (fun N2 pC mH=>?_);have Vp:(N2++[(⟨b2,y2+i*1,0⟩:aS)])[3]?=some ⟨b2,y2+i*1,0⟩:=ax mH;have mJ:(N2++[(⟨b2,y2+i*1,0⟩:aS)])[2]?=some ⟨b1,y1+i*1,0⟩:=b9 (pC 2 _ (ax dX));refine X.dk ([(43,.own 2 0),(48,.own 3 0)]) jB 400 _ rfl aal (fun pr fin aj ai=>?_)
  conv=>cbv
  refine⟨aj _ (au.row rfl rfl (fun _=>rfl) aaB aaC aF fU Vp rfl rfl),aj _ (au.row rfl rfl (fun _=>rfl) aaB aaC aF fE mJ rfl rfl),ai _ _ ?_⟩;refine X.cond rfl (fun bH=>?_) (fun qp=>?_)
  ·simp only[SB.T,SI.den] at bH
   refine X.go jB 400 _ rfl aal ?_
   conv=>arg 2;cbv
   refine X.done jB rfl (fun N w' v hN hS hv=>⟨aw hv ?_,hS.aM.mono fun k o _ h=>aB h⟩);rw[hq];symm;refine decide_eq_false fun h=>bH ?_
   cases h;rw[fK] at gJ;exact aaj.inj gJ
  ·simp only[SB.F,SI.den] at qp
   subst qp;refine X.go jB 400 _ rfl aal ?_
   conv=>arg 2;cbv
   refine X.back (fun N a w' hN hf hS=>cF ⟨i+1,by omega,gy l7 fK gJ⟩ a w' (by simp only;omega) ?_);exact At.eJ hf hS
 simp only[SB.F,SI.den] at cJ;obtain rfl:i=n1:=by omega
 refine X.go jB 400 _ rfl aal ?_
 conv=>arg 2;cbv
 refine X.done jB rfl (fun N w' v hN hS hv=>⟨aw hv ?_,hS.aM.mono fun k o _ h=>aB h⟩);rw[hq];symm;refine decide_eq_true ?_;rw[iy l7 pO jy]
def bW.none (b:bW):Bool:=b.count == 0&&(b.node == 0&&b.cR == 0)
def bW.less (a b:bW):Bool:=if a.count≠b.count then decide (a.count<b.count) else if a.node≠b.node then decide (a.node<b.node) else decide (a.cR<b.cR)
def jz.may (r:jz):Bool:=decide (0<=r.err)&&(decide (r.err<=99)&&(decide (0<=r.state)&&(decide (r.state<32)&&decide (r.vars.length<=8))))
def bW.aN (b:bW):List Value:=[.int .u64 b.count,.int .u8 b.node,.int .u32 b.cR]
theorem P7 (a b:bW)(w:World):Calls aac 39 #[.agg a.aN.toArray,.agg b.aN.toArray] w fun e w'=>e=.returned (.bool (a.less b))/\aW (fun _ _=>False) w w':=by
 obtain⟨c,n,l⟩:=a;obtain⟨c2,n2,l2⟩:=b;obtain⟨q,hq⟩:∃q,q=bW.less ⟨c,n,l⟩ ⟨c2,n2,l2⟩:=⟨_,rfl⟩;rw[<-hq];refine X.begin (rg:=[]) (N:=[]) (ss:=[.agg [.int .u64 (.v c),.int .u8 (.v n),.int .u32 (.v l)],.agg [.int .u64 (.v c2),.int .u8 (.v n2),.int .u32 (.v l2)]]) Tryz.func39 rfl SX rfl rfl Sat.bp ?_;refine X.go nD 400 _ rfl aaw ?_
 conv=>arg 2;cbv
 refine X.cond rfl (fun hc=>?_) (fun hc=>?_)
 ·refine X.go nD 400 _ rfl aaw ?_
  conv=>arg 2;cbv
  refine X.done nD rfl (fun N w' v hN hS hv=>⟨aw hv ?_,hS.aM.mono fun k o _ h=>aB h⟩);simp only[SB.T,SB.F,SI.den] at hc;simp only[SB.den,SI.den,hq,bW.less,ne_eq,hc,not_false_eq_true,if_true];exact decide_eq_decide.2 Iff.rfl
 refine X.go nD 400 _ rfl aaw ?_
 conv=>arg 2;cbv
 refine X.cond rfl (fun hd=>?_) (fun hd=>?_)
 ·refine X.go nD 400 _ rfl aaw ?_
  conv=>arg 2;cbv
  refine X.done nD rfl (fun N w' v hN hS hv=>⟨aw hv ?_,hS.aM.mono fun k o _ h=>aB h⟩);simp only[SB.T,SB.F,SI.den] at hc hd;simp only[SB.den,SI.den,hq,bW.less,ne_eq,hc,hd,not_false_eq_true,not_true_eq_false,if_true,if_false];exact decide_eq_decide.2 Iff.rfl
 refine X.go nD 400 _ rfl aaw ?_
 conv=>arg 2;cbv
 refine X.done nD rfl (fun N w' v hN hS hv=>⟨aw hv ?_,hS.aM.mono fun k o _ h=>aB h⟩);simp only[SB.T,SB.F,SI.den] at hc hd;simp only[SB.den,SI.den,hq,bW.less,ne_eq,hc,hd,not_false_eq_true,not_true_eq_false,if_true,if_false];exact decide_eq_decide.2 Iff.rfl
def RO (l:List Int):Prop:=∀(i:Nat) (x:Int),l[i]?=some x->x<=63/\(0<i->∀y,l[i-1]?=some y->y<x)
noncomputable def AV (l m:List Int):Nat->Nat
 |0=>0
 |n+1=>AV l m n+(match l[n]? with|some x=>if B (x∈m) then 0 else 1|none=>0)
theorem F1 (l m:List Int)(p p2:Option Addr)(c c2:Nat)(w:World)(hs:dC (wm w) p c 1 (l.map qU))(qy:dC (wm w) p2 c2 1 (m.map qU)) :
  Calls aac 48 #[.slice p l.length c,.slice p2 m.length c2] w fun e w'=>e=.returned (.bool (B (l=m)))/\aW (fun _ _=>False) w w':=by
 obtain⟨q,hq⟩:∃q,q=B (l=m):=⟨_,rfl⟩;obtain⟨n,hn⟩:∃n,n=l.length:=⟨_,rfl⟩;obtain⟨n2,jy⟩:∃n,n=m.length:=⟨_,rfl⟩;have hm:=dt;have hl:n<=aah:=by rw[hn];exact hs.len
 rw[<-hq,<-hn,<-jy];refine X.begin (rg:=[]) (N:=[]) (ss:=[.ao p n c,.ao p2 n2 c2]) Tryz.func48 rfl S2 rfl rfl Sat.bp ?_;obtain⟨im,aV⟩:∃im,im=ab [] [] w:=⟨_,rfl⟩;show X (aK aac Tryz.f48 _ w (bq [] []) (ab [] [] w) (fun _ _=>False) (fun _=>True) [] B48) _ _;rw[<-aV];refine X.go kf 400 _ rfl aan ?_
 conv=>arg 2;cbv
 refine X.cond rfl (fun hc=>?_) (fun hc=>?_)
 ·refine X.go kf 400 _ rfl aan ?_
  conv=>arg 2;cbv
  refine X.done kf rfl (fun N w' v hN hS hv=>⟨aw hv ?_,hS.aM.mono fun k o _ h=>aB h⟩);simp only[SB.T,SB.F,SI.den] at hc;rw[hq];refine(b_ fun h=>?_).symm;subst h;omega
 simp only[SB.T,SB.F,SI.den] at hc;obtain rfl:n=n2:=by omega
 refine X.go kf 400 _ rfl aan ?_
 conv=>arg 2;cbv
 refine X.gB (fun i:{i:Nat // i<=n/\l.take i=m.take i}=>⟨[(0,.val (.ao p n c)),(1,.val (.ao p2 n c2)),(12,.val (.int .i64 (.nat n))),(13,.val (.int .i64 (.nat i.1)))],[]⟩) (fun i=>n-i.1) (fun N a w' hN hf hS=>⟨⟨0,aai _,rfl⟩,?_⟩) (fun i q' cF=>?_)
 ·exact At.eJ hf hS trivial
 obtain⟨i,hi,l7⟩:=i;refine X.go kf 400 _ rfl aan ?_
 conv=>arg 2;cbv
 refine X.cond rfl (fun aF=>?_) (fun cJ=>?_)
 ·simp only[SB.T,SI.den] at aF
  have aF:i<n:=by omega
  obtain⟨x1,fK⟩:∃x,l[i]?=some x:=⟨_,aad (by omega)⟩;obtain⟨x2,gJ⟩:∃x,m[i]?=some x:=⟨_,aad (by omega)⟩;obtain⟨b1,y1,_,fE,jG,dM⟩:=hs.kM fK;obtain⟨b2,y2,_,fU,nZ,fM⟩:=qy.kM gJ;rw[qU.open jG,<-aV] at dM;rw[qU.open nZ,<-aV] at fM
  skip
  skip
  refine X.eL b1 (y1+i*1) [.int .u8 (.v x1)] (eh dM rfl) (by simp) (fun N1 dQ dX=>?_);refine X.eL b2 (y2+i*1) [.int .u8 (.v x2)] (eh fM rfl) (by simp) (fun N2 pC mH=>?_);have nX:(N2++[(⟨b2,y2+i*1,0⟩:aS)])[1]?=some ⟨b2,y2+i*1,0⟩:=ax mH;have kD:(N2++[(⟨b2,y2+i*1,0⟩:aS)])[0]?=some ⟨b1,y1+i*1,0⟩:=b9 (pC 0 _ (ax dX));refine X.dk ([(18,.own 0 0),(22,.own 1 0)]) kf 400 _ rfl aan (fun pr fin aj ai=>?_)
  conv=>cbv
  refine⟨aj _ (au.row rfl rfl (fun _=>rfl) aau aaS aF fU nX rfl rfl),aj _ (au.row rfl rfl (fun _=>rfl) aau aaS aF fE kD rfl rfl),ai _ _ ?_⟩;refine X.cond rfl (fun bH=>?_) (fun qp=>?_)
  ·simp only[SB.T,SB.F,SI.den] at bH
   refine X.go kf 400 _ rfl aan ?_
   conv=>arg 2;cbv
   refine X.done kf rfl (fun N w' v hN hS hv=>⟨aw hv ?_,hS.aM.mono fun k o _ h=>aB h⟩);rw[hq];refine(b_ fun h=>?_).symm;subst h;rw[fK] at gJ;have:=aaj.inj gJ
   simp_all
  ·simp only[SB.T,SB.F,SI.den] at qp
   subst qp;refine X.go kf 400 _ rfl aan ?_
   conv=>arg 2;cbv
   refine X.back (fun N a w' hN hf hS=>cF ⟨i+1,by omega,gy l7 fK gJ⟩ a w' (by simp only;omega) ?_);exact At.eJ hf hS trivial
 simp only[SB.F,SI.den] at cJ;obtain rfl:i=n:=by omega
 refine X.go kf 400 _ rfl aan ?_
 conv=>arg 2;cbv
 refine X.done kf rfl (fun N w' v hN hS hv=>⟨aw hv ?_,hS.aM.mono fun k o _ h=>aB h⟩);rw[hq];exact(bP (iy l7 hn jy)).symm
theorem B3 (l m:List Int)(p p2:Option Addr)(c c2:Nat)(w:World)(hs:dC (wm w) p c 1 (l.map jI))(qy:dC (wm w) p2 c2 1 (m.map jI)) :
  Calls aac 51 #[.slice p l.length c,.slice p2 m.length c2] w fun e w'=>e=.returned (.bool (B (l=m)))/\aW (fun _ _=>False) w w':=by
 obtain⟨q,hq⟩:∃q,q=B (l=m):=⟨_,rfl⟩;obtain⟨n,hn⟩:∃n,n=l.length:=⟨_,rfl⟩;obtain⟨n2,jy⟩:∃n,n=m.length:=⟨_,rfl⟩;have hm:=dt;have hl:n<=aah:=by rw[hn];exact hs.len
 rw[<-hq,<-hn,<-jy];refine X.begin (rg:=[]) (N:=[]) (ss:=[.ao p n c,.ao p2 n2 c2]) Tryz.func51 rfl S5 rfl rfl Sat.bp ?_;obtain⟨im,aV⟩:∃im,im=ab [] [] w:=⟨_,rfl⟩;show X (aK aac Tryz.f51 _ w (bq [] []) (ab [] [] w) (fun _ _=>False) (fun _=>True) [] B51) _ _;rw[<-aV];refine X.go kg 400 _ rfl aao ?_
 conv=>arg 2;cbv
 refine X.cond rfl (fun hc=>?_) (fun hc=>?_)
 ·refine X.go kg 400 _ rfl aao ?_
  conv=>arg 2;cbv
  refine X.done kg rfl (fun N w' v hN hS hv=>⟨aw hv ?_,hS.aM.mono fun k o _ h=>aB h⟩);simp only[SB.T,SB.F,SI.den] at hc;rw[hq];refine(b_ fun h=>?_).symm;subst h;omega
 simp only[SB.T,SB.F,SI.den] at hc;obtain rfl:n=n2:=by omega
 refine X.go kg 400 _ rfl aao ?_
 conv=>arg 2;cbv
 refine X.gB (fun i:{i:Nat // i<=n/\l.take i=m.take i}=>⟨[(0,.val (.ao p n c)),(1,.val (.ao p2 n c2)),(12,.val (.int .i64 (.nat n))),(13,.val (.int .i64 (.nat i.1)))],[]⟩) (fun i=>n-i.1) (fun N a w' hN hf hS=>⟨⟨0,aai _,rfl⟩,?_⟩) (fun i q' cF=>?_)
 ·exact At.eJ hf hS trivial
 obtain⟨i,hi,l7⟩:=i;refine X.go kg 400 _ rfl aao ?_
 conv=>arg 2;cbv
 refine X.cond rfl (fun aF=>?_) (fun cJ=>?_)
 ·simp only[SB.T,SI.den] at aF
  have aF:i<n:=by omega
  obtain⟨x1,fK⟩:∃x,l[i]?=some x:=⟨_,aad (by omega)⟩;obtain⟨x2,gJ⟩:∃x,m[i]?=some x:=⟨_,aad (by omega)⟩;obtain⟨b1,y1,_,fE,jG,dM⟩:=hs.kM fK;obtain⟨b2,y2,_,fU,nZ,fM⟩:=qy.kM gJ;rw[jI.open jG,<-aV] at dM;rw[jI.open nZ,<-aV] at fM
  skip
  skip
  refine X.eL b1 (y1+i*1) [.int .i64 (.v x1)] (eh dM rfl) (by simp) (fun N1 dQ dX=>?_);refine X.eL b2 (y2+i*1) [.int .i64 (.v x2)] (eh fM rfl) (by simp) (fun N2 pC mH=>?_);have nX:(N2++[(⟨b2,y2+i*1,0⟩:aS)])[1]?=some ⟨b2,y2+i*1,0⟩:=ax mH;have kD:(N2++[(⟨b2,y2+i*1,0⟩:aS)])[0]?=some ⟨b1,y1+i*1,0⟩:=b9 (pC 0 _ (ax dX));refine X.dk ([(18,.own 0 0),(22,.own 1 0)]) kg 400 _ rfl aao (fun pr fin aj ai=>?_)
  conv=>cbv
  refine⟨aj _ (au.row rfl rfl (fun _=>rfl) aaB aaC aF fU nX rfl rfl),aj _ (au.row rfl rfl (fun _=>rfl) aaB aaC aF fE kD rfl rfl),ai _ _ ?_⟩;refine X.cond rfl (fun bH=>?_) (fun qp=>?_)
  ·simp only[SB.T,SB.F,SI.den] at bH
   refine X.go kg 400 _ rfl aao ?_
   conv=>arg 2;cbv
   refine X.done kg rfl (fun N w' v hN hS hv=>⟨aw hv ?_,hS.aM.mono fun k o _ h=>aB h⟩);rw[hq];refine(b_ fun h=>?_).symm;subst h;rw[fK] at gJ;have:=aaj.inj gJ
   simp_all
  ·simp only[SB.T,SB.F,SI.den] at qp
   subst qp;refine X.go kg 400 _ rfl aao ?_
   conv=>arg 2;cbv
   refine X.back (fun N a w' hN hf hS=>cF ⟨i+1,by omega,gy l7 fK gJ⟩ a w' (by simp only;omega) ?_);exact At.eJ hf hS trivial
 simp only[SB.F,SI.den] at cJ;obtain rfl:i=n:=by omega
 refine X.go kg 400 _ rfl aao ?_
 conv=>arg 2;cbv
 refine X.done kg rfl (fun N w' v hN hS hv=>⟨aw hv ?_,hS.aM.mono fun k o _ h=>aB h⟩);rw[hq];exact(bP (iy l7 hn jy)).symm
theorem HA (l m:List ek)(p p2:Option Addr)(c c2:Nat)(w:World)(hs:dC (wm w) p c 4 (l.map ek.toD))(qy:dC (wm w) p2 c2 4 (m.map ek.toD)) :
  Calls aac 53 #[.slice p l.length c,.slice p2 m.length c2] w fun e w'=>e=.returned (.bool (B (l=m)))/\aW (fun _ _=>False) w w':=by
 obtain⟨q,hq⟩:∃q,q=B (l=m):=⟨_,rfl⟩;obtain⟨n,hn⟩:∃n,n=l.length:=⟨_,rfl⟩;obtain⟨n2,jy⟩:∃n,n=m.length:=⟨_,rfl⟩;have hm:=dt;have hl:n<=aah:=by rw[hn];exact hs.len
 rw[<-hq,<-hn,<-jy];refine X.begin (rg:=[]) (N:=[]) (ss:=[.ao p n c,.ao p2 n2 c2]) Tryz.func53 rfl S7 rfl rfl Sat.bp ?_;obtain⟨im,aV⟩:∃im,im=ab [] [] w:=⟨_,rfl⟩;show X (aK aac Tryz.f53 _ w (bq [] []) (ab [] [] w) (fun _ _=>False) (fun _=>True) [] B53) _ _;rw[<-aV];refine X.go kj 400 _ rfl aap ?_
 conv=>arg 2;cbv
 refine X.cond rfl (fun hc=>?_) (fun hc=>?_)
 ·refine X.go kj 400 _ rfl aap ?_
  conv=>arg 2;cbv
  refine X.done kj rfl (fun N w' v hN hS hv=>⟨aw hv ?_,hS.aM.mono fun k o _ h=>aB h⟩);simp only[SB.T,SB.F,SI.den] at hc;rw[hq];refine(b_ fun h=>?_).symm;subst h;omega
 simp only[SB.T,SB.F,SI.den] at hc;obtain rfl:n=n2:=by omega
 refine X.go kj 400 _ rfl aap ?_
 conv=>arg 2;cbv
 refine X.gB (fun i:{i:Nat // i<=n/\l.take i=m.take i}=>⟨[(0,.val (.ao p n c)),(1,.val (.ao p2 n c2)),(12,.val (.int .i64 (.nat n))),(13,.val (.int .i64 (.nat i.1)))],[]⟩) (fun i=>n-i.1) (fun N a w' hN hf hS=>⟨⟨0,aai _,rfl⟩,?_⟩) (fun i q' cF=>?_)
 ·exact At.eJ hf hS trivial
 obtain⟨i,hi,l7⟩:=i;refine X.go kj 400 _ rfl aap ?_
 conv=>arg 2;cbv
 refine X.cond rfl (fun aF=>?_) (fun cJ=>?_)
 ·simp only[SB.T,SI.den] at aF
  have aF:i<n:=by omega
  obtain⟨x1,fK⟩:∃x,l[i]?=some x:=⟨_,aad (by omega)⟩;obtain⟨x2,gJ⟩:∃x,m[i]?=some x:=⟨_,aad (by omega)⟩;obtain⟨b1,y1,_,fE,jG,dM⟩:=hs.kM fK;obtain⟨b2,y2,_,fU,nZ,fM⟩:=qy.kM gJ;rw[ek.open jG,<-aV] at dM;rw[ek.open nZ,<-aV] at fM;obtain⟨n1,t1,a1,r1⟩:=x1;obtain⟨n2,t2,a2,r2⟩:=x2;refine X.eL b1 (y1+i*4) [.int .u64 (.v n1),.int .u8 (.v t1),.int .i64 (.v a1),.int .i64 (.v r1)] (eh dM rfl) (by simp) (fun N1 dQ dX=>?_);refine X.eL b2 (y2+i*4) [.int .u64 (.v n2),.int .u8 (.v t2),.int .i64 (.v a2),.int .i64 (.v r2)] (eh fM rfl) (by simp) (fun N2 pC mH=>?_);have nX:(N2++[(⟨b2,y2+i*4,0⟩:aS)])[1]?=some ⟨b2,y2+i*4,0⟩:=ax mH;have kD:(N2++[(⟨b2,y2+i*4,0⟩:aS)])[0]?=some ⟨b1,y1+i*4,0⟩:=b9 (pC 0 _ (ax dX));refine X.dk ([(18,.own 0 0),(22,.own 1 0)]) kj 400 _ rfl aap (fun pr fin aj ai=>?_)
  conv=>cbv
  refine⟨aj _ (au.row rfl rfl (fun _=>rfl) aaD aaE aF fU nX rfl rfl),aj _ (au.row rfl rfl (fun _=>rfl) aaD aaE aF fE kD rfl rfl),ai _ _ ?_⟩;refine X.cond rfl (fun bH=>?_) (fun qp=>?_)
  ·simp only[SB.T,SB.F,SI.den] at bH
   refine X.go kj 400 _ rfl aap ?_
   conv=>arg 2;cbv
   refine X.done kj rfl (fun N w' v hN hS hv=>⟨aw hv ?_,hS.aM.mono fun k o _ h=>aB h⟩);rw[hq];refine(b_ fun h=>?_).symm;subst h;rw[fK] at gJ;have:=aaj.inj gJ
   simp_all
  ·simp only[SB.T,SB.F,SI.den] at qp
   obtain⟨rfl,rfl,rfl,rfl⟩:=qp;refine X.go kj 400 _ rfl aap ?_
   conv=>arg 2;cbv
   refine X.back (fun N a w' hN hf hS=>cF ⟨i+1,by omega,gy l7 fK gJ⟩ a w' (by simp only;omega) ?_);exact At.eJ hf hS trivial
 simp only[SB.F,SI.den] at cJ;obtain rfl:i=n:=by omega
 refine X.go kj 400 _ rfl aap ?_
 conv=>arg 2;cbv
 refine X.done kj rfl (fun N w' v hN hS hv=>⟨aw hv ?_,hS.aM.mono fun k o _ h=>aB h⟩);rw[hq];exact(bP (iy l7 hn jy)).symm
theorem HC (l m:List er)(p p2:Option Addr)(c c2:Nat)(w:World)(hs:dC (wm w) p c 3 (l.map er.toD))(qy:dC (wm w) p2 c2 3 (m.map er.toD)) :
  Calls aac 54 #[.slice p l.length c,.slice p2 m.length c2] w fun e w'=>e=.returned (.bool (B (l=m)))/\aW (fun _ _=>False) w w':=by
 obtain⟨q,hq⟩:∃q,q=B (l=m):=⟨_,rfl⟩;obtain⟨n,hn⟩:∃n,n=l.length:=⟨_,rfl⟩;obtain⟨n2,jy⟩:∃n,n=m.length:=⟨_,rfl⟩;have hm:=dt;have hl:n<=aah:=by rw[hn];exact hs.len
 rw[<-hq,<-hn,<-jy];refine X.begin (rg:=[]) (N:=[]) (ss:=[.ao p n c,.ao p2 n2 c2]) Tryz.func54 rfl S8 rfl rfl Sat.bp ?_;obtain⟨im,aV⟩:∃im,im=ab [] [] w:=⟨_,rfl⟩;show X (aK aac Tryz.f54 _ w (bq [] []) (ab [] [] w) (fun _ _=>False) (fun _=>True) [] B54) _ _;rw[<-aV];refine X.go km 400 _ rfl aaq ?_
 conv=>arg 2;cbv
 refine X.cond rfl (fun hc=>?_) (fun hc=>?_)
 ·refine X.go km 400 _ rfl aaq ?_
  conv=>arg 2;cbv
  refine X.done km rfl (fun N w' v hN hS hv=>⟨aw hv ?_,hS.aM.mono fun k o _ h=>aB h⟩);simp only[SB.T,SB.F,SI.den] at hc;rw[hq];refine(b_ fun h=>?_).symm;subst h;omega
 simp only[SB.T,SB.F,SI.den] at hc;obtain rfl:n=n2:=by omega
 refine X.go km 400 _ rfl aaq ?_
 conv=>arg 2;cbv
 refine X.gB (fun i:{i:Nat // i<=n/\l.take i=m.take i}=>⟨[(0,.val (.ao p n c)),(1,.val (.ao p2 n c2)),(12,.val (.int .i64 (.nat n))),(13,.val (.int .i64 (.nat i.1)))],[]⟩) (fun i=>n-i.1) (fun N a w' hN hf hS=>⟨⟨0,aai _,rfl⟩,?_⟩) (fun i q' cF=>?_)
 ·exact At.eJ hf hS trivial
 obtain⟨i,hi,l7⟩:=i;refine X.go km 400 _ rfl aaq ?_
 conv=>arg 2;cbv
 refine X.cond rfl (fun aF=>?_) (fun cJ=>?_)
 ·simp only[SB.T,SI.den] at aF
  have aF:i<n:=by omega
  obtain⟨x1,fK⟩:∃x,l[i]?=some x:=⟨_,aad (by omega)⟩;obtain⟨x2,gJ⟩:∃x,m[i]?=some x:=⟨_,aad (by omega)⟩;obtain⟨b1,y1,_,fE,jG,dM⟩:=hs.kM fK;obtain⟨b2,y2,_,fU,nZ,fM⟩:=qy.kM gJ;rw[er.open jG,<-aV] at dM;rw[er.open nZ,<-aV] at fM;obtain⟨s1,j1,c1x⟩:=x1;obtain⟨s2,j2,c2x⟩:=x2;refine X.eL b1 (y1+i*3) [.int .u8 (.v s1),.int .u64 (.v j1),.int .u64 (.v c1x)] (eh dM rfl) (by simp) (fun N1 dQ dX=>?_);refine X.eL b2 (y2+i*3) [.int .u8 (.v s2),.int .u64 (.v j2),.int .u64 (.v c2x)] (eh fM rfl) (by simp) (fun N2 pC mH=>?_);have nX:(N2++[(⟨b2,y2+i*3,0⟩:aS)])[1]?=some ⟨b2,y2+i*3,0⟩:=ax mH;have kD:(N2++[(⟨b2,y2+i*3,0⟩:aS)])[0]?=some ⟨b1,y1+i*3,0⟩:=b9 (pC 0 _ (ax dX));refine X.dk ([(18,.own 0 0),(22,.own 1 0)]) km 400 _ rfl aaq (fun pr fin aj ai=>?_)
  conv=>cbv
  refine⟨aj _ (au.row rfl rfl (fun _=>rfl) aaF aaG aF fU nX rfl rfl),aj _ (au.row rfl rfl (fun _=>rfl) aaF aaG aF fE kD rfl rfl),ai _ _ ?_⟩;refine X.cond rfl (fun bH=>?_) (fun qp=>?_)
  ·simp only[SB.T,SB.F,SI.den] at bH
   refine X.go km 400 _ rfl aaq ?_
   conv=>arg 2;cbv
   refine X.done km rfl (fun N w' v hN hS hv=>⟨aw hv ?_,hS.aM.mono fun k o _ h=>aB h⟩);rw[hq];refine(b_ fun h=>?_).symm;subst h;rw[fK] at gJ;have:=aaj.inj gJ
   simp_all
  ·simp only[SB.T,SB.F,SI.den] at qp
   obtain⟨rfl,rfl,rfl⟩:=qp;refine X.go km 400 _ rfl aaq ?_
   conv=>arg 2;cbv
   refine X.back (fun N a w' hN hf hS=>cF ⟨i+1,by omega,gy l7 fK gJ⟩ a w' (by simp only;omega) ?_);exact At.eJ hf hS trivial
 simp only[SB.F,SI.den] at cJ;obtain rfl:i=n:=by omega
 refine X.go km 400 _ rfl aaq ?_
 conv=>arg 2;cbv
 refine X.done km rfl (fun N w' v hN hS hv=>⟨aw hv ?_,hS.aM.mono fun k o _ h=>aB h⟩);rw[hq];exact(bP (iy l7 hn jy)).symm
theorem QY {p:Prop}[Decidable p]:decide p=B p:=by
 by_cases h:p
 ·rw[bP h,decide_eq_true h]
 ·rw[b_ h,decide_eq_false h]
theorem _root_.Go.bU.dC.eU {α:Type}{f:α->List Dt}{l:List α}{w w':World}{p:Option Addr}{c q:Nat}{im:Mem}(hs:dC (wm w) p c q (l.map f))(aV:im=ab [] [] w)(h:∀k o v,im k o=some v->w'.cell? ⟨k,o,none⟩=some v):dC (wm w') p c q (l.map f) :=
 hs.mono fun k o v hv=>h k o v (by rw[aV];exact kM hv)
theorem _root_.Go.bU.az.eU {ds:List Dt}{vs:List Value}{w w':World}{im:Mem}(hs:az (wm w) ds vs)(aV:im=ab [] [] w)(h:∀k o v,im k o=some v->w'.cell? ⟨k,o,none⟩=some v):az (wm w') ds vs :=
 hs.mono (fun k o v hv=>h k o v (by rw[aV];exact kM hv))
theorem Iq (a b:jz)(va vb:List Value)(w:World)(ha:az (wm w) a.toD va)(hb:az (wm w) b.toD vb) :
  Calls aac 50 #[.agg va.toArray,.agg vb.toArray] w fun e w'=>e=.returned (.bool (B (a=b)))/\aW (fun _ _=>False) w w':=by
 obtain⟨pa,ca,rfl,sa⟩:=jz.open ha;obtain⟨pb,cb,rfl,sb⟩:=jz.open hb;clear ha hb;obtain⟨e1,i1,s1,l1⟩:=a;obtain⟨e2,i2,s2,l2⟩:=b;obtain⟨n1,pO⟩:∃n,n=l1.length:=⟨_,rfl⟩;obtain⟨n2,jy⟩:∃n,n=l2.length:=⟨_,rfl⟩;obtain⟨q,hq⟩:∃q:Bool,q=B ((⟨e1,i1,s1,l1⟩:jz)=⟨e2,i2,s2,l2⟩):=⟨_,rfl⟩;simp only[<-pO,<-jy,<-hq];refine X.begin (rg:=[]) (N:=[]) (ss:=[.agg [.int .i64 (.v e1),.int .u64 (.v i1),.int .i64 (.v s1),.ao pa n1 ca],.agg [.int .i64 (.v e2),.int .u64 (.v i2),.int .i64 (.v s2),.ao pb n2 cb]]) Tryz.func50 rfl S4 rfl rfl Sat.bp ?_;obtain⟨im,aV⟩:∃im,im=ab [] [] w:=⟨_,rfl⟩;show X (aK aac Tryz.f50 _ w (bq [] []) (ab [] [] w) (fun _ _=>False) (fun _=>True) [] B50) _ _;rw[<-aV];obtain⟨h,hh⟩:∃h,h=B (l1=l2):=⟨_,rfl⟩;refine X.dk ([(29,.bool (.v h))]) JJ 400 _ rfl Tryz.results50 (fun pr fin aj ai=>?_)
 conv=>cbv
 refine⟨aj _ (.of aaT [.slice pa l1.length ca,.slice pb l2.length cb] (.bool h) (fun _=>by rw[<-pO,<-jy];rfl) (fun _=>rfl) fun _ w1 bI=>hh ▸ B3 l1 l2 pa pb ca cb w1 (sa.eU aV bI) (sb.eU aV bI)),ai _ _ ?_⟩;refine X.done JJ rfl (fun N w' v hN hS hv=>⟨aw hv ?_,hS.aM.mono fun k o _ h=>aB h⟩);refine i_ ?_;subst hh hq;simp only[SB.T,SI.den,cT,jz.mk.injEq,and_assoc]
theorem Kf (a b:cE)(va vb:List Value)(w:World)(ha:az (wm w) a.toD va)(hb:az (wm w) b.toD vb) :
  Calls aac 49 #[.agg va.toArray,.agg vb.toArray] w fun e w'=>e=.returned (.bool (B (a=b)))/\aW (fun _ _=>False) w w':=by
 obtain⟨k1,j1,r1⟩:=a;obtain⟨k2,j2,r2⟩:=b;obtain⟨_,_,rfl,X8,ha⟩:=az.cons ha;obtain⟨_,_,rfl,fT,sa⟩:=az.cons ha;obtain⟨_,_,rfl,X_,hb⟩:=az.cons hb;obtain⟨_,_,rfl,Dr,sb⟩:=az.cons hb;cases bj.cG X8;cases bj.cG fT;cases bj.cG X_;cases bj.cG Dr;clear ha hb X8 fT X_ Dr;obtain⟨pa,ca,rfl,_⟩:=jz.open sa;obtain⟨pb,cb,rfl,_⟩:=jz.open sb;obtain⟨n1,pO⟩:∃n,n=r1.vars.length:=⟨_,rfl⟩;obtain⟨n2,jy⟩:∃n,n=r2.vars.length:=⟨_,rfl⟩;obtain⟨q,hq⟩:∃q:Bool,q=B ((⟨k1,j1,r1⟩:cE)=⟨k2,j2,r2⟩):=⟨_,rfl⟩;obtain⟨h,hh⟩:∃h,h=B (r1=r2):=⟨_,rfl⟩;rw[<-hq];simp only[<-pO,<-jy] at sa sb ⊢;have hc:=fun(w1:World) bI=>Iq r1 r2 _ _ w1 (sa.eU (im:=ab [] [] w) rfl bI) (sb.eU rfl bI)
 rw[<-hh] at hc;clear sa sb;obtain⟨e1,i1,s1,l1⟩:=r1;obtain⟨e2,i2,s2,l2⟩:=r2;refine X.begin (rg:=[]) (N:=[]) (ss:=[.agg [.int .u8 (.v k1),.int .u64 (.v j1),.int .i64 (.v e1),.int .u64 (.v i1),.int .i64 (.v s1),.ao pa n1 ca],.agg [.int .u8 (.v k2),.int .u64 (.v j2),.int .i64 (.v e2),.int .u64 (.v i2),.int .i64 (.v s2),.ao pb n2 cb]]) Tryz.func49 rfl S3 rfl rfl Sat.bp ?_;obtain⟨im,aV⟩:∃im,im=ab [] [] w:=⟨_,rfl⟩;show X (aK aac Tryz.f49 _ w (bq [] []) (ab [] [] w) (fun _ _=>False) (fun _=>True) [] B49) _ _;rw[<-aV] at hc ⊢;refine X.dk ([(22,.bool (.v h))]) JI 400 _ rfl Tryz.results49 (fun pr fin aj ai=>?_)
 conv=>cbv
 refine⟨aj _ (.of Tryz.call50 [.agg _,.agg _] (.bool h) (fun _=>rfl) (fun _=>rfl) fun _ w1 bI=>hc w1 bI),ai _ _ ?_⟩;refine X.done JI rfl (fun N w' v hN hS hv=>⟨aw hv ?_,hS.aM.mono fun k o _ h=>aB h⟩);refine i_ ?_;subst hh hq;simp only[SB.T,SI.den,cT,cE.mk.injEq,and_assoc]
theorem cE.cells {x:cE}{M:Mem}{vs:List Value}(h:az M x.toD vs):∃p c,vs=[.int .u8 x.ij,.int .u64 x.seq,.int .i64 x.cD.err,.int .u64 x.cD.inc,.int .i64 x.cD.state,.slice p x.cD.vars.length c]:=by
 obtain⟨p,c,h,_⟩:=cE.open h;exact⟨p,c,h⟩
theorem HB (l m:List cE)(p p2:Option Addr)(c c2:Nat)(w:World)(hs:dC (wm w) p c 6 (l.map cE.toD))(qy:dC (wm w) p2 c2 6 (m.map cE.toD)) :
  Calls aac 52 #[.slice p l.length c,.slice p2 m.length c2,.func (.func 49) #[] #[]] w fun e w'=>e=.returned (.bool (B (l=m)))/\aW (fun _ _=>False) w w':=by
 obtain⟨q,hq⟩:∃q,q=B (l=m):=⟨_,rfl⟩;obtain⟨n,hn⟩:∃n,n=l.length:=⟨_,rfl⟩;obtain⟨n2,jy⟩:∃n,n=m.length:=⟨_,rfl⟩;have hm:=dt;have hl:n<=aah:=by rw[hn];exact hs.len
 rw[<-hq,<-hn,<-jy];refine X.begin (rg:=[]) (N:=[]) (ss:=[.ao p n c,.ao p2 n2 c2,.fn 49 []]) Tryz.func52 rfl S6 rfl rfl Sat.bp ?_;obtain⟨im,aV⟩:∃im,im=ab [] [] w:=⟨_,rfl⟩;show X (aK aac Tryz.f52 _ w (bq [] []) (ab [] [] w) (fun _ _=>False) (fun _=>True) [] B52) _ _;rw[<-aV];refine X.go ki 400 _ rfl aar ?_
 conv=>arg 2;cbv
 refine X.cond rfl (fun hc=>?_) (fun hc=>?_)
 ·refine X.go ki 400 _ rfl aar ?_
  conv=>arg 2;cbv
  refine X.done ki rfl (fun N w' v hN hS hv=>⟨aw hv ?_,hS.aM.mono fun k o _ h=>aB h⟩);simp only[SB.T,SB.F,SI.den] at hc;rw[hq];refine(b_ fun h=>?_).symm;subst h;omega
 simp only[SB.T,SB.F,SI.den] at hc;obtain rfl:n=n2:=by omega
 refine X.go ki 400 _ rfl aar ?_
 conv=>arg 2;cbv
 refine X.gB (fun i:{i:Nat // i<=n/\l.take i=m.take i}=>⟨[(0,.val (.ao p n c)),(1,.val (.ao p2 n c2)),(2,.val (.fn 49 [])),(15,.val (.ao p n c)),(16,.val (.int .i64 (.nat n))),(17,.val (.int .i64 (.nat i.1)))],[]⟩) (fun i=>n-i.1) (fun N a w' hN hf hS=>⟨⟨0,aai _,rfl⟩,?_⟩) (fun i q' cF=>?_)
 ·exact At.eJ hf hS trivial
 obtain⟨i,hi,l7⟩:=i;refine X.go ki 400 _ rfl aar ?_
 conv=>arg 2;cbv
 refine X.cond rfl (fun aF=>?_) (fun cJ=>?_)
 ·simp only[SB.T,SI.den] at aF
  have aF:i<n:=by omega
  obtain⟨x1,fK⟩:∃x,l[i]?=some x:=⟨_,aad (by omega)⟩;obtain⟨x2,gJ⟩:∃x,m[i]?=some x:=⟨_,aad (by omega)⟩;obtain⟨b1,y1,v1,fE,jG,dM⟩:=hs.kM fK;obtain⟨b2,y2,v2,fU,nZ,fM⟩:=qy.kM gJ;rw[<-aV] at dM fM;obtain⟨h,hh⟩:∃h,h=B (x1=x2):=⟨_,rfl⟩;have hc:=fun(w1:World) bI=>Kf x1 x2 _ _ w1 (jG.eU aV bI) (nZ.eU aV bI)
  rw[<-hh] at hc;obtain⟨pa,ca,rfl⟩:=cE.cells jG;obtain⟨pb,cb,rfl⟩:=cE.cells nZ;obtain⟨na,Dx⟩:∃n,n=x1.cD.vars.length:=⟨_,rfl⟩;obtain⟨nb,HP⟩:∃n,n=x2.cD.vars.length:=⟨_,rfl⟩;rw[<-Dx] at dM hc;rw[<-HP] at fM hc;refine X.eL b1 (y1+i*6) [.int .u8 (.v x1.ij),.int .u64 (.v x1.seq),.int .i64 (.v x1.cD.err),.int .u64 (.v x1.cD.inc),.int .i64 (.v x1.cD.state),.ao pa na ca] (eh dM rfl) (by simp) (fun N1 dQ dX=>?_);refine X.eL b2 (y2+i*6) [.int .u8 (.v x2.ij),.int .u64 (.v x2.seq),.int .i64 (.v x2.cD.err),.int .u64 (.v x2.cD.inc),.int .i64 (.v x2.cD.state),.ao pb nb cb] (eh fM rfl) (by simp) (fun N2 pC mH=>?_);have nX:(N2++[(⟨b2,y2+i*6,0⟩:aS)])[1]?=some ⟨b2,y2+i*6,0⟩:=ax mH;have kD:(N2++[(⟨b2,y2+i*6,0⟩:aS)])[0]?=some ⟨b1,y1+i*6,0⟩:=b9 (pC 0 _ (ax dX));refine X.dk ([(20,.own 0 0),(24,.own 1 0),(29,.bool (.v h))]) ki 400 _ rfl aar (fun pr fin aj ai=>?_)
  conv=>cbv
  refine⟨aj _ (.of Tryz.call49 [.agg _,.agg _] (.bool h) (fun _=>rfl) (fun _=>rfl) fun _ w1 bI=>hc w1 bI),aj _ (au.row rfl rfl (fun _=>rfl) aax aay aF fU nX rfl rfl),aj _ (au.row rfl rfl (fun _=>rfl) aax aay aF fE kD rfl rfl),ai _ _ ?_⟩;refine X.cond rfl (fun bH=>?_) (fun qp=>?_)
  ·simp only[SB.T,SB.F] at bH
   refine X.go ki 400 _ rfl aar ?_
   conv=>arg 2;cbv
   refine X.done ki rfl (fun N w' v hN hS hv=>⟨aw hv ?_,hS.aM.mono fun k o _ h=>aB h⟩);rw[hq];refine(b_ fun e=>?_).symm;subst e;rw[fK] at gJ;rw[hh,bP (aaj.inj gJ)] at bH;cases bH
  ·simp only[SB.T,SB.F] at qp
   rw[hh,cT] at qp;subst qp;refine X.go ki 400 _ rfl aar ?_
   conv=>arg 2;cbv
   refine X.back (fun N a w' hN hf hS=>cF ⟨i+1,by omega,gy l7 fK gJ⟩ a w' (by simp only;omega) ?_);exact At.eJ hf hS trivial
 simp only[SB.F,SI.den] at cJ;obtain rfl:i=n:=by omega
 refine X.go ki 400 _ rfl aar ?_
 conv=>arg 2;cbv
 refine X.done ki rfl (fun N w' v hN hS hv=>⟨aw hv ?_,hS.aM.mono fun k o _ h=>aB h⟩);rw[hq];exact(bP (iy l7 hn jy)).symm
theorem wL (a b:dJ)(va vb:List Value)(w:World)(ha:az (wm w) a.toD va)(hb:az (wm w) b.toD vb) :
  Calls aac 24 #[.agg va.toArray,.agg vb.toArray] w fun e w'=>e=.returned (.bool (B (a=b)))/\aW (fun _ _=>False) w w':=by
 obtain⟨p1,c1,p2,c2,p3,c3,p4,c4,rfl,A4,xK,Ix,Iy⟩:=dJ.open ha;obtain⟨r1,d1,r2,d2,r3,d3,r4,d4,rfl,IB,IC,Xf,Xg⟩:=dJ.open hb;clear ha hb;obtain⟨k1,i1,s1,v1,o1,u1,l1,m1⟩:=a;obtain⟨k2,i2,s2,v2,o2,u2,l2,m2⟩:=b;simp only at A4 xK Ix Iy IB IC Xf Xg ⊢;obtain⟨q,hq⟩:∃q:Bool,q=B ((⟨k1,i1,s1,v1,o1,u1,l1,m1⟩:dJ)=⟨k2,i2,s2,v2,o2,u2,l2,m2⟩):=⟨_,rfl⟩;rw[<-hq];obtain⟨n1,pO⟩:∃n,n=v1.length:=⟨_,rfl⟩;obtain⟨n2,jy⟩:∃n,n=o1.length:=⟨_,rfl⟩;obtain⟨n3,Cg⟩:∃n,n=u1.length:=⟨_,rfl⟩;obtain⟨n4,Ch⟩:∃n,n=m1.length:=⟨_,rfl⟩;obtain⟨t1,Lg⟩:∃n,n=v2.length:=⟨_,rfl⟩;obtain⟨t2,nk⟩:∃n,n=o2.length:=⟨_,rfl⟩;obtain⟨t3,W3⟩:∃n,n=u2.length:=⟨_,rfl⟩;obtain⟨t4,W4⟩:∃n,n=m2.length:=⟨_,rfl⟩;obtain⟨h1,Ay⟩:∃h,h=B (v1=v2):=⟨_,rfl⟩;obtain⟨h2,M7⟩:∃h,h=B (o1=o2):=⟨_,rfl⟩;obtain⟨h3,hh3⟩:∃h,h=B (u1=u2):=⟨_,rfl⟩;obtain⟨h4,hh4⟩:∃h,h=B (m1=m2):=⟨_,rfl⟩;have e1:=fun(w1:World) bI=>B3 v1 v2 p1 r1 c1 d1 w1 (A4.eU (im:=ab [] [] w) rfl bI) (IB.eU rfl bI)
 have e2:=fun(w1:World) bI=>HB o1 o2 p2 r2 c2 d2 w1 (xK.eU (im:=ab [] [] w) rfl bI) (IC.eU rfl bI)
 have e3:=fun(w1:World) bI=>HA u1 u2 p3 r3 c3 d3 w1 (Ix.eU (im:=ab [] [] w) rfl bI) (Xf.eU rfl bI)
 have e4:=fun(w1:World) bI=>HC m1 m2 p4 r4 c4 d4 w1 (Iy.eU (im:=ab [] [] w) rfl bI) (Xg.eU rfl bI)
 rw[<-pO,<-Lg,<-Ay] at e1;rw[<-jy,<-nk,<-M7] at e2;rw[<-Cg,<-W3,<-hh3] at e3;rw[<-Ch,<-W4,<-hh4] at e4;rw[<-pO,<-jy,<-Cg,<-Ch,<-Lg,<-nk,<-W3,<-W4];clear A4 xK Ix Iy IB IC Xf Xg;refine X.begin (rg:=[]) (N:=[]) (ss:=[.agg [.int .u8 (.v k1),.int .u64 (.v i1),.int .i64 (.v s1),.ao p1 n1 c1,.ao p2 n2 c2,.ao p3 n3 c3,.int .u64 (.v l1),.ao p4 n4 c4],.agg [.int .u8 (.v k2),.int .u64 (.v i2),.int .i64 (.v s2),.ao r1 t1 d1,.ao r2 t2 d2,.ao r3 t3 d3,.int .u64 (.v l2),.ao r4 t4 d4]]) Tryz.func24 rfl SH rfl rfl Sat.bp ?_;obtain⟨im,aV⟩:∃im,im=ab [] [] w:=⟨_,rfl⟩;show X (aK aac Tryz.f24 _ w (bq [] []) (ab [] [] w) (fun _ _=>False) (fun _=>True) [] B24) _ _;rw[<-aV] at e1 e2 e3 e4 ⊢;refine X.dk ([(37,.bool (.v h1)),(45,.bool (.v h2)),(52,.bool (.v h3)),(59,.bool (.v h4))]) JA 400 _ rfl Tryz.results24 (fun pr fin aj ai=>?_)
 conv=>cbv
 refine⟨aj _ (.of Tryz.call54 [.slice _ _ _,.slice _ _ _] (.bool h4) (fun _=>rfl) (fun _=>rfl) fun _ w1 bI=>e4 w1 bI),aj _ (.of Tryz.call53 [.slice _ _ _,.slice _ _ _] (.bool h3) (fun _=>rfl) (fun _=>rfl) fun _ w1 bI=>e3 w1 bI),aj _ (.of Tryz.call52 [.slice _ _ _,.slice _ _ _,.func _ _ _] (.bool h2) (fun _=>rfl) (fun _=>rfl) fun _ w1 bI=>e2 w1 bI),aj _ (.of aaT [.slice _ _ _,.slice _ _ _] (.bool h1) (fun _=>rfl) (fun _=>rfl) fun _ w1 bI=>e1 w1 bI),ai _ _ ?_⟩;refine X.done JA rfl (fun N w' v hN hS hv=>⟨aw hv ?_,hS.aM.mono fun k o _ h=>aB h⟩);refine i_ ?_;subst Ay M7 hh3 hh4 hq;simp only[SB.T,SI.den,cT,dJ.mk.injEq,and_assoc];exact⟨fun⟨a,b,c,d,e,f,g,h⟩=>⟨a,b,c,e,f,g,d,h⟩,fun⟨a,b,c,e,f,g,d,h⟩=>⟨a,b,c,d,e,f,g,h⟩⟩
theorem tQ (a b:cO)(va vb:List Value)(w:World)(ha:az (wm w) a.toD va)(hb:az (wm w) b.toD vb) :
  Calls aac 23 #[.agg va.toArray,.agg vb.toArray] w fun e w'=>e=.returned (.bool (B (a=b)))/\aW (fun _ _=>False) w w':=by
 obtain⟨p1,c1,p2,c2,rfl,A4,xK⟩:=cO.open ha;obtain⟨r1,d1,r2,d2,rfl,IB,IC⟩:=cO.open hb;clear ha hb;obtain⟨k1,o1,m1⟩:=a;obtain⟨k2,o2,m2⟩:=b;simp only at A4 xK IB IC ⊢;obtain⟨q,hq⟩:∃q:Bool,q=B ((⟨k1,o1,m1⟩:cO)=⟨k2,o2,m2⟩):=⟨_,rfl⟩;rw[<-hq];obtain⟨n1,pO⟩:∃n,n=o1.length:=⟨_,rfl⟩;obtain⟨n2,jy⟩:∃n,n=m1.length:=⟨_,rfl⟩;obtain⟨t1,Lg⟩:∃n,n=o2.length:=⟨_,rfl⟩;obtain⟨t2,nk⟩:∃n,n=m2.length:=⟨_,rfl⟩;obtain⟨h1,Ay⟩:∃h,h=B (o1=o2):=⟨_,rfl⟩;obtain⟨h2,M7⟩:∃h,h=B (m1=m2):=⟨_,rfl⟩;have e1:=fun(w1:World) bI=>F1 o1 o2 p1 r1 c1 d1 w1 (A4.eU (im:=ab [] [] w) rfl bI) (IB.eU rfl bI)
 have e2:=fun(w1:World) bI=>F1 m1 m2 p2 r2 c2 d2 w1 (xK.eU (im:=ab [] [] w) rfl bI) (IC.eU rfl bI)
 rw[<-pO,<-Lg,<-Ay] at e1;rw[<-jy,<-nk,<-M7] at e2;rw[<-pO,<-jy,<-Lg,<-nk];clear A4 xK IB IC;refine X.begin (rg:=[]) (N:=[]) (ss:=[.agg [.int .u64 (.v k1),.ao p1 n1 c1,.ao p2 n2 c2],.agg [.int .u64 (.v k2),.ao r1 t1 d1,.ao r2 t2 d2]]) Tryz.func23 rfl SG rfl rfl Sat.bp ?_;obtain⟨im,aV⟩:∃im,im=ab [] [] w:=⟨_,rfl⟩;show X (aK aac Tryz.f23 _ w (bq [] []) (ab [] [] w) (fun _ _=>False) (fun _=>True) [] B23) _ _;rw[<-aV] at e1 e2 ⊢;refine X.dk ([(15,.bool (.v h1)),(22,.bool (.v h2))]) Jz 400 _ rfl Tryz.results23 (fun pr fin aj ai=>?_)
 conv=>cbv
 refine⟨aj _ (.of aaU [.slice _ _ _,.slice _ _ _] (.bool h2) (fun _=>rfl) (fun _=>rfl) fun _ w1 bI=>e2 w1 bI),aj _ (.of aaU [.slice _ _ _,.slice _ _ _] (.bool h1) (fun _=>rfl) (fun _=>rfl) fun _ w1 bI=>e1 w1 bI),ai _ _ ?_⟩;refine X.done Jz rfl (fun N w' v hN hS hv=>⟨aw hv ?_,hS.aM.mono fun k o _ h=>aB h⟩);refine i_ ?_;subst Ay M7 hq;simp only[SB.T,SI.den,cT,cO.mk.injEq,and_assoc]
theorem ue (a b:dJ)(va vb:List Value)(w:World)(ha:az (wm w) a.toD va)(hb:az (wm w) b.toD vb) :
  Calls aac 27 #[.agg va.toArray,.agg vb.toArray] w fun e w'=>e=.returned (.bool (B (a=b)))/\aW (fun _ _=>False) w w':=by
 obtain⟨p1,c1,p2,c2,p3,c3,p4,c4,rfl,A4,xK,Ix,Iy⟩:=dJ.open ha;obtain⟨r1,d1,r2,d2,r3,d3,r4,d4,rfl,IB,IC,Xf,Xg⟩:=dJ.open hb;clear ha hb;obtain⟨k1,i1,s1,v1,o1,u1,l1,m1⟩:=a;obtain⟨k2,i2,s2,v2,o2,u2,l2,m2⟩:=b;simp only at A4 xK Ix Iy IB IC Xf Xg ⊢;obtain⟨q,hq⟩:∃q:Bool,q=B ((⟨k1,i1,s1,v1,o1,u1,l1,m1⟩:dJ)=⟨k2,i2,s2,v2,o2,u2,l2,m2⟩):=⟨_,rfl⟩;rw[<-hq];obtain⟨n1,pO⟩:∃n,n=v1.length:=⟨_,rfl⟩;obtain⟨n2,jy⟩:∃n,n=o1.length:=⟨_,rfl⟩;obtain⟨n3,Cg⟩:∃n,n=u1.length:=⟨_,rfl⟩;obtain⟨n4,Ch⟩:∃n,n=m1.length:=⟨_,rfl⟩;obtain⟨t1,Lg⟩:∃n,n=v2.length:=⟨_,rfl⟩;obtain⟨t2,nk⟩:∃n,n=o2.length:=⟨_,rfl⟩;obtain⟨t3,W3⟩:∃n,n=u2.length:=⟨_,rfl⟩;obtain⟨t4,W4⟩:∃n,n=m2.length:=⟨_,rfl⟩;have hm:=dt;have rN:n2<=aah:=by rw[jy];exact xK.len
 have Vw:n3<=aah:=by rw[Cg];exact Ix.len
 have hl4:n4<=aah:=by rw[Ch];exact Iy.len
 obtain⟨h1,Ay⟩:∃h,h=B (v1=v2):=⟨_,rfl⟩;have yN:∀{M:Mem} {v:List Int} {p:Option Addr} {c:Nat},dC M p c 1 (v.map jI)->az M (jz.toD ⟨0,0,0,v⟩) [.int .i64 0,.int .u64 0,.int .i64 0,.slice p v.length c]:=fun hs=>by
  refine⟨_,_,rfl,rfl,?_⟩;refine⟨_,_,rfl,rfl,?_⟩;refine⟨_,_,rfl,rfl,?_⟩;exact⟨_,_,rfl,bj.mk (List.length_map ..).symm xd hs,rfl⟩
 have e1:=fun(w1:World) bI=>r8 ⟨0,0,0,v1⟩ ⟨0,0,0,v2⟩ _ _ w1 (yN (A4.eU (im:=ab [] [] w) rfl bI)) (yN (IB.eU rfl bI))
 rw[QY,show B ((⟨0,0,0,v1⟩:jz)=⟨0,0,0,v2⟩)=h1 by rw[Ay];exact zK (by simp),<-pO,<-Lg] at e1;rw[<-pO,<-jy,<-Cg,<-Ch,<-Lg,<-nk,<-W3,<-W4];refine X.begin (rg:=[]) (N:=[]) (ss:=[.agg [.int .u8 (.v k1),.int .u64 (.v i1),.int .i64 (.v s1),.ao p1 n1 c1,.ao p2 n2 c2,.ao p3 n3 c3,.int .u64 (.v l1),.ao p4 n4 c4],.agg [.int .u8 (.v k2),.int .u64 (.v i2),.int .i64 (.v s2),.ao r1 t1 d1,.ao r2 t2 d2,.ao r3 t3 d3,.int .u64 (.v l2),.ao r4 t4 d4]]) Tryz.func27 rfl SK rfl rfl Sat.bp ?_;obtain⟨im,aV⟩:∃im,im=ab [] [] w:=⟨_,rfl⟩;show X (aK aac Tryz.f27 _ w (bq [] []) (ab [] [] w) (fun _ _=>False) (fun _=>True) [] B27) _ _;rw[<-aV] at e1 ⊢;refine X.dk ([(68,.bool (.v h1))]) dW 400 _ rfl aae (fun pr fin aj ai=>?_)
 conv=>cbv
 refine⟨aj _ (.of aaV [.agg _,.agg _] (.bool h1) (fun _=>rfl) (fun _=>rfl) fun _ w1 bI=>e1 w1 bI),ai _ _ ?_⟩;refine X.cond rfl (fun hc=>?_) (fun hc=>?_)
 ·refine X.go dW 400 _ rfl aae ?_
  conv=>arg 2;cbv
  refine X.done dW rfl (fun N w' v hN hS hv=>⟨aw hv ?_,hS.aM.mono fun k o _ h=>aB h⟩);simp only[SB.T,SB.F,SI.den] at hc;rw[hq];refine(b_ fun h=>?_).symm;cases h;rw[bP rfl] at Ay;subst Ay;simp only[jy,nk,Cg,W3,Ch,W4] at hc;simp at hc
 simp only[SB.T,SB.F,SI.den] at hc;obtain⟨⟨⟨⟨⟨⟨⟨rfl,rfl⟩,rfl⟩,rfl⟩,ai3⟩,ai4⟩,ai5⟩,Yf⟩:=hc;rw[Ay,cT] at Yf;subst Yf;obtain rfl:n2=t2:=by omega
 obtain rfl:n3=t3:=by omega
 obtain rfl:n4=t4:=by omega
 refine X.go dW 400 _ rfl aae ?_
 conv=>arg 2;cbv
 refine X.gB (fun i:{i:Nat // i<=n2/\o1.take i=o2.take i}=>⟨[(2,.val (.own 0 0)),(3,.val (.own 1 0)),(73,.val (.int .i64 (.nat n2))),(74,.val (.int .i64 (.nat i.1)))],[⟨true,[.int .u8 (.v k1),.int .u64 (.v i1),.int .i64 (.v s1),.ao p1 n1 c1,.ao p2 n2 c2,.ao p3 n3 c3,.int .u64 (.v l1),.ao p4 n4 c4],none⟩,⟨true,[.int .u8 (.v k1),.int .u64 (.v i1),.int .i64 (.v s1),.ao r1 t1 d1,.ao r2 n2 d2,.ao r3 n3 d3,.int .u64 (.v l1),.ao r4 n4 d4],none⟩]⟩) (fun i=>n2-i.1) (fun N a w' hN hf hS=>⟨⟨0,aai _,rfl⟩,?_⟩) (fun i q' cF=>?_)
 ·exact At.eJ hf hS
 obtain⟨i,hi,l7⟩:=i;refine X.go dW 400 _ rfl aae ?_
 conv=>arg 2;cbv
 refine X.cond rfl (fun aF=>?_) (fun cJ=>?_)
 ·simp only[SB.T,SI.den] at aF
  have aF:i<n2:=by omega
  obtain⟨x1,fK⟩:∃x,o1[i]?=some x:=⟨_,aad (by omega)⟩;obtain⟨x2,gJ⟩:∃x,o2[i]?=some x:=⟨_,aad (by omega)⟩;obtain⟨b1,y1,w1,fE,jG,dM⟩:=xK.kM fK;obtain⟨b2,y2,w2,fU,nZ,fM⟩:=IC.kM gJ;rw[<-aV] at dM fM;obtain⟨h,hh⟩:∃h,h=B (x1.cD=x2.cD):=⟨_,rfl⟩;obtain⟨_,_,rfl,X8,ga1⟩:=az.cons jG;obtain⟨_,_,rfl,fT,sa⟩:=az.cons ga1;obtain⟨_,_,rfl,X_,gb1⟩:=az.cons nZ;obtain⟨_,_,rfl,Dr,sb⟩:=az.cons gb1;cases bj.cG X8;cases bj.cG fT;cases bj.cG X_;cases bj.cG Dr;clear jG nZ ga1 gb1 X8 fT X_ Dr;have hc:=fun(w1:World) bI=>r8 x1.cD x2.cD _ _ w1 (sa.eU aV bI) (sb.eU aV bI)
  rw[QY,<-hh] at hc;obtain⟨pa,ca,rfl,_⟩:=jz.open sa;obtain⟨pb,cb,rfl,_⟩:=jz.open sb;clear sa sb;obtain⟨na,Dx⟩:∃n,n=x1.cD.vars.length:=⟨_,rfl⟩;obtain⟨nb,HP⟩:∃n,n=x2.cD.vars.length:=⟨_,rfl⟩;rw[<-Dx] at dM hc;rw[<-HP] at fM hc;refine X.eL b1 (y1+i*6) [.int .u8 (.v x1.ij),.int .u64 (.v x1.seq),.int .i64 (.v x1.cD.err),.int .u64 (.v x1.cD.inc),.int .i64 (.v x1.cD.state),.ao pa na ca] (eh dM rfl) (by simp) (fun N1 dQ dX=>?_);refine X.eL b2 (y2+i*6) [.int .u8 (.v x2.ij),.int .u64 (.v x2.seq),.int .i64 (.v x2.cD.err),.int .u64 (.v x2.cD.inc),.int .i64 (.v x2.cD.state),.ao pb nb cb] (eh fM rfl) (by simp) (fun N2 pC mH=>?_);have nX:(N2++[(⟨b2,y2+i*6,0⟩:aS)])[3]?=some ⟨b2,y2+i*6,0⟩:=ax mH;have kD:(N2++[(⟨b2,y2+i*6,0⟩:aS)])[2]?=some ⟨b1,y1+i*6,0⟩:=b9 (pC 2 _ (ax dX));refine X.dk ([(80,.own 2 0),(86,.own 3 0),(94,.own 2 0),(100,.own 3 0),(109,.own 2 0),(115,.own 3 0),(118,.bool (.v h))]) dW 400 _ rfl aae (fun pr fin aj ai=>?_)
  conv=>cbv
  have vo1:∀{E:Env} {N0:af} {rg:List Rg} {f:Fr} {g:GK} {x ix:aam} {kd:IntKind} {s:SI},hY f g x=some (.ao p2 n2 c2)->hY f g ix=some (.int kd s)->E.P=aac->N0=(N2++[(⟨b2,y2+i*6,0⟩:aS)])->s=.nat i->au E N0 rg f g (.indexAddr 37 x ix) (.own 2 0):=fun k1 k2 k3 k4 k5=>by subst k4 k5;exact au.row k1 k2 (fun _=>rfl) (by rw[k3];exact aax) (by rw[k3];exact aay) aF fE kD rfl rfl
  have QP:∀{E:Env} {N0:af} {rg:List Rg} {f:Fr} {g:GK} {x ix:aam} {kd:IntKind} {s:SI},hY f g x=some (.ao r2 n2 d2)->hY f g ix=some (.int kd s)->E.P=aac->N0=(N2++[(⟨b2,y2+i*6,0⟩:aS)])->s=.nat i->au E N0 rg f g (.indexAddr 37 x ix) (.own 3 0):=fun k1 k2 k3 k4 k5=>by subst k4 k5;exact au.row k1 k2 (fun _=>rfl) (by rw[k3];exact aax) (by rw[k3];exact aay) aF fU nX rfl rfl
  refine⟨aj _ (.of aaV [.agg _,.agg _] (.bool h) (fun _=>rfl) (fun _=>rfl) fun _ w1 bI=>hc w1 bI),aj _ (QP rfl rfl rfl rfl rfl),aj _ (vo1 rfl rfl rfl rfl rfl),aj _ (QP rfl rfl rfl rfl rfl),aj _ (vo1 rfl rfl rfl rfl rfl),aj _ (QP rfl rfl rfl rfl rfl),aj _ (vo1 rfl rfl rfl rfl rfl),ai _ _ ?_⟩;refine X.cond rfl (fun bH=>?_) (fun qp=>?_)
  ·simp only[SB.T,SB.F,SI.den] at bH
   refine X.go dW 400 _ rfl aae ?_
   conv=>arg 2;cbv
   refine X.done dW rfl (fun N w' v hN hS hv=>⟨aw hv ?_,hS.aM.mono fun k o _ h=>aB h⟩);rw[hq];refine(b_ fun e=>?_).symm;cases e;rw[fK] at gJ;have:=aaj.inj gJ;subst this;rw[bP rfl] at hh
   simp_all
  ·simp only[SB.T,SB.F,SI.den] at qp
   obtain⟨⟨e1,e2⟩,e3⟩:=qp;rw[hh,cT] at e3;have hxx:x1=x2:=by
    cases x1;cases x2
    simp_all
   subst hxx;refine X.go dW 400 _ rfl aae ?_
   conv=>arg 2;cbv
   refine X.back (fun N a w' hN hf hS=>cF ⟨i+1,by omega,gy l7 fK gJ⟩ a w' (by simp only;omega) ?_);exact At.eJ hf hS
 simp only[SB.F,SI.den] at cJ;obtain rfl:n2=i:=by omega
 have U7:=iy l7 jy nk;clear l7 hi cJ cF;refine X.go dW 400 _ rfl aae ?_
 conv=>arg 2;cbv
 refine X.gB (fun i:{i:Nat // i<=n3/\u1.take i=u2.take i}=>⟨[(2,.val (.own 0 0)),(3,.val (.own 1 0)),(124,.val (.int .i64 (.nat n3))),(125,.val (.int .i64 (.nat i.1)))],[⟨true,[.int .u8 (.v k1),.int .u64 (.v i1),.int .i64 (.v s1),.ao p1 n1 c1,.ao p2 n2 c2,.ao p3 n3 c3,.int .u64 (.v l1),.ao p4 n4 c4],none⟩,⟨true,[.int .u8 (.v k1),.int .u64 (.v i1),.int .i64 (.v s1),.ao r1 t1 d1,.ao r2 n2 d2,.ao r3 n3 d3,.int .u64 (.v l1),.ao r4 n4 d4],none⟩]⟩) (fun i=>n3-i.1) (fun N a w' hN hf hS=>⟨⟨0,aai _,rfl⟩,?_⟩) (fun i q' cF=>?_)
 ·exact At.eJ hf hS
 obtain⟨i,hi,l7⟩:=i;refine X.go dW 400 _ rfl aae ?_
 conv=>arg 2;cbv
 refine X.cond rfl (fun aF=>?_) (fun cJ=>?_)
 ·simp only[SB.T,SI.den] at aF
  have aF:i<n3:=by omega
  obtain⟨x1,fK⟩:∃x,u1[i]?=some x:=⟨_,aad (by omega)⟩;obtain⟨x2,gJ⟩:∃x,u2[i]?=some x:=⟨_,aad (by omega)⟩;obtain⟨b1,y1,w1,fE,jG,dM⟩:=Ix.kM fK;obtain⟨b2,y2,w2,fU,nZ,fM⟩:=Xf.kM gJ;rw[<-aV] at dM fM;rw[ek.open jG] at dM;rw[ek.open nZ] at fM;obtain⟨xa1,Xh,xc1,xd1⟩:=x1;obtain⟨xa2,Xi,xc2,xd2⟩:=x2;refine X.eL b1 (y1+i*4) [.int .u64 (.v xa1),.int .u8 (.v Xh),.int .i64 (.v xc1),.int .i64 (.v xd1)] (eh dM rfl) (by simp) (fun N1 dQ dX=>?_);refine X.eL b2 (y2+i*4) [.int .u64 (.v xa2),.int .u8 (.v Xi),.int .i64 (.v xc2),.int .i64 (.v xd2)] (eh fM rfl) (by simp) (fun N2 pC mH=>?_);have nX:(N2++[(⟨b2,y2+i*4,0⟩:aS)])[3]?=some ⟨b2,y2+i*4,0⟩:=ax mH;have kD:(N2++[(⟨b2,y2+i*4,0⟩:aS)])[2]?=some ⟨b1,y1+i*4,0⟩:=b9 (pC 2 _ (ax dX));refine X.dk ([(131,.own 2 0),(136,.own 3 0)]) dW 400 _ rfl aae (fun pr fin aj ai=>?_)
  conv=>cbv
  refine⟨aj _ (au.row rfl rfl (fun _=>rfl) aaD aaE aF fU nX rfl rfl),aj _ (au.row rfl rfl (fun _=>rfl) aaD aaE aF fE kD rfl rfl),ai _ _ ?_⟩;refine X.cond rfl (fun bH=>?_) (fun qp=>?_)
  ·simp only[SB.T,SB.F,SI.den] at bH
   refine X.go dW 400 _ rfl aae ?_
   conv=>arg 2;cbv
   refine X.done dW rfl (fun N w' v hN hS hv=>⟨aw hv ?_,hS.aM.mono fun k o _ h=>aB h⟩);rw[hq];refine(b_ fun h=>?_).symm;cases h;rw[fK] at gJ;have:=aaj.inj gJ
   simp_all
  ·simp only[SB.T,SB.F,SI.den] at qp
   obtain⟨rfl,rfl,rfl,rfl⟩:=qp;refine X.go dW 400 _ rfl aae ?_
   conv=>arg 2;cbv
   refine X.back (fun N a w' hN hf hS=>cF ⟨i+1,by omega,gy l7 fK gJ⟩ a w' (by simp only;omega) ?_);exact At.eJ hf hS
 simp only[SB.F,SI.den] at cJ;obtain rfl:n3=i:=by omega
 have U9:=iy l7 Cg W3;clear l7 hi cJ cF;refine X.go dW 400 _ rfl aae ?_
 conv=>arg 2;cbv
 refine X.gB (fun i:{i:Nat // i<=n4/\m1.take i=m2.take i}=>⟨[(2,.val (.own 0 0)),(3,.val (.own 1 0)),(142,.val (.int .i64 (.nat n4))),(143,.val (.int .i64 (.nat i.1)))],[⟨true,[.int .u8 (.v k1),.int .u64 (.v i1),.int .i64 (.v s1),.ao p1 n1 c1,.ao p2 n2 c2,.ao p3 n3 c3,.int .u64 (.v l1),.ao p4 n4 c4],none⟩,⟨true,[.int .u8 (.v k1),.int .u64 (.v i1),.int .i64 (.v s1),.ao r1 t1 d1,.ao r2 n2 d2,.ao r3 n3 d3,.int .u64 (.v l1),.ao r4 n4 d4],none⟩]⟩) (fun i=>n4-i.1) (fun N a w' hN hf hS=>⟨⟨0,aai _,rfl⟩,?_⟩) (fun i q' cF=>?_)
 ·exact At.eJ hf hS
 obtain⟨i,hi,l7⟩:=i;refine X.go dW 400 _ rfl aae ?_
 conv=>arg 2;cbv
 refine X.cond rfl (fun aF=>?_) (fun cJ=>?_)
 ·simp only[SB.T,SI.den] at aF
  have aF:i<n4:=by omega
  obtain⟨x1,fK⟩:∃x,m1[i]?=some x:=⟨_,aad (by omega)⟩;obtain⟨x2,gJ⟩:∃x,m2[i]?=some x:=⟨_,aad (by omega)⟩;obtain⟨b1,y1,w1,fE,jG,dM⟩:=Iy.kM fK;obtain⟨b2,y2,w2,fU,nZ,fM⟩:=Xg.kM gJ;rw[<-aV] at dM fM;rw[er.open jG] at dM;rw[er.open nZ] at fM;obtain⟨xa1,Xh,xc1⟩:=x1;obtain⟨xa2,Xi,xc2⟩:=x2;refine X.eL b1 (y1+i*3) [.int .u8 (.v xa1),.int .u64 (.v Xh),.int .u64 (.v xc1)] (eh dM rfl) (by simp) (fun N1 dQ dX=>?_);refine X.eL b2 (y2+i*3) [.int .u8 (.v xa2),.int .u64 (.v Xi),.int .u64 (.v xc2)] (eh fM rfl) (by simp) (fun N2 pC mH=>?_);have nX:(N2++[(⟨b2,y2+i*3,0⟩:aS)])[3]?=some ⟨b2,y2+i*3,0⟩:=ax mH;have kD:(N2++[(⟨b2,y2+i*3,0⟩:aS)])[2]?=some ⟨b1,y1+i*3,0⟩:=b9 (pC 2 _ (ax dX));refine X.dk ([(149,.own 2 0),(154,.own 3 0)]) dW 400 _ rfl aae (fun pr fin aj ai=>?_)
  conv=>cbv
  refine⟨aj _ (au.row rfl rfl (fun _=>rfl) aaF aaG aF fU nX rfl rfl),aj _ (au.row rfl rfl (fun _=>rfl) aaF aaG aF fE kD rfl rfl),ai _ _ ?_⟩;refine X.cond rfl (fun bH=>?_) (fun qp=>?_)
  ·simp only[SB.T,SB.F,SI.den] at bH
   refine X.go dW 400 _ rfl aae ?_
   conv=>arg 2;cbv
   refine X.done dW rfl (fun N w' v hN hS hv=>⟨aw hv ?_,hS.aM.mono fun k o _ h=>aB h⟩);rw[hq];refine(b_ fun h=>?_).symm;cases h;rw[fK] at gJ;have:=aaj.inj gJ
   simp_all
  ·simp only[SB.T,SB.F,SI.den] at qp
   obtain⟨rfl,rfl,rfl⟩:=qp;refine X.go dW 400 _ rfl aae ?_
   conv=>arg 2;cbv
   refine X.back (fun N a w' hN hf hS=>cF ⟨i+1,by omega,gy l7 fK gJ⟩ a w' (by simp only;omega) ?_);exact At.eJ hf hS
 simp only[SB.F,SI.den] at cJ;obtain rfl:n4=i:=by omega
 have U_:=iy l7 Ch W4;clear l7 hi cJ cF;refine X.go dW 400 _ rfl aae ?_
 conv=>arg 2;cbv
 refine X.done dW rfl (fun N w' v hN hS hv=>⟨aw hv ?_,hS.aM.mono fun k o _ h=>aB h⟩);rw[hq];subst U7 U9 U_;exact(bP rfl).symm
end Go.Proofs.YthpbefahaghbjaaGreat
namespace Go.Proofs.YthpbefahaghbjaaGreat
open Go Go.bU Go.Lib
def U8 (l:List Int):Prop:=∀x∈l,0<=x/\x<=255
theorem G5 {l m:List Int}(hl:U8 l)(hm:U8 m):((strOfNums l).toList == (strOfNums m).toList)=B (l=m):=by
 rw[strOfNums_toList,strOfNums_toList]
 by_cases h:l=m
 ·subst h
  rw[bP rfl];simp
 ·rw[b_ h]
  refine beq_eq_false_iff_ne.2 fun e=>h ?_
  have key:∀(l m:List Int),U8 l->U8 m->bytesOf l=bytesOf m->l=m:=by
   intro l
   induction l with
   |nil=>intro m _ _ e;cases m with
    |nil=>rfl
    |cons y m=>simp[bytesOf] at e
   |cons x l ih=>intro m hl hm e;cases m with
    |nil=>simp[bytesOf] at e
    |cons y m =>
     simp only[bytesOf,List.map_cons,List.cons.injEq] at e;have h1:=hl x aaO;have h2:=hm y aaO;have:=congrArg UInt8.toNat e.1;simp only[UInt8.toNat_ofNat'] at this;rw[ih m (fun z hz=>hl z (aaP _ hz)) (fun z hz=>hm z (aaP _ hz)) e.2,show x=y by omega]
  exact key l m hl hm e
theorem _root_.Go.bU.au.str {E:Env}{N0:af}{rg:List Rg}{f:Fr}{g:GK}{src e dst:aag}{x:aam}{p:Option Addr}{n c:Nat}{l:List Int}{w:World}(hx:hY f g x=some (.ao p n c))(hn:n=l.length)(hs:E.P.underlying src=some (.slice e))(he:E.P.underlying e=some (.int .u8))(hd:E.P.underlying dst=some .string)
  (hl:dC (wm w) p c 1 (l.map qU)) (aV:E.im=ab [] [] w):au E N0 rg f g (.convert src dst x) (.raw (.string (strOfNums l))):=by
 intro ht N ρ o w0 ck cC df hV;have h1:=df _ _ hx;simp only[SV.den,aA] at h1;refine⟨.string (strOfNums l),by simp[SV.den,bc],fun w' Pz=>?_⟩;have Jd:dC (wm w') p c 1 (l.map qU):=hl.eU aV Pz.2;have:(convert src dst (.slice p n c)).run E.P w'=.ok (.string (strOfNums l)) w':=by
  subst hn;cases l with
  |nil =>
   cases p with
   |none=>exact run_convert_bytes_nil w' src e hs he _ _ dst hd
   |some a =>
    rw[run_convert_bytes_string w' src dst e _ _ _ hs he hd];exact run_bytesToString w' a 0 c [] (by simp[loadCells,loadCellsFrom,Sem.run_pure])
  |cons y l =>
   obtain⟨b,z,_,rfl,_⟩:=Jd.elem (i:=0) (x:=y) rfl;refine run_convert_bytes_arg w' src e hs he b z _ c (y::l) rfl (fun j hj=>?_) dst hd;obtain⟨v,hv⟩:∃v,(y::l)[j]?=some v:=⟨_,aad hj⟩;obtain⟨b',z',us,hp,hr,hc⟩:=Jd.elem hv;obtain⟨rfl,rfl⟩:b=b'/\z=z':=by cases hp;exact⟨rfl,rfl⟩
   rw[qU.open hr] at hc;have:=hc 0 _ rfl;rw[Nat.mul_one,Nat.add_zero] at this;rw[show w'.cell? ⟨b,z+j,none⟩=some (.int .u8 v) from this,List.getD_eq_getElem?_getD,hv];rfl
 simp only[execOp,cC,<-h1,this,Sem.run_bind,aak,Sem.run_pure]
theorem _root_.Go.bU.au.UU {E:Env}{N0:af}{rg:List Rg}{f:Fr}{g:GK}{t:aag}{x y:aam}{u v:ByteArray}{b:Bool}(hx:hY f g x=some (.raw (.string u)))(hy:hY f g y=some (.raw (.string v)))(hb:(u.toList == v.toList)=b) :
  au E N0 rg f g (.binOp .eql t x y t) (.bool (.v b)):=by
 intro ht N ρ o w0 ck cC df hV;have h1:=df _ _ hx;have h2:=df _ _ hy;simp only[SV.den,bc,if_true,aA] at h1 h2;refine⟨_,rfl,fun w' _=>?_⟩;have Dq:∀w',(binOp .eql t (.string u) (.string v)).run E.P w'=.ok (.bool (u.toList == v.toList)) w':=fun w'=>by
  simp[binOp,Op.stringOp]
 simp[execOp,cC,<-h1,<-h2,aak,dN,Dq,SB.den,hb]
theorem Ag (a b:cO)(va vb:List Value)(w:World)(ha:az (wm w) a.toD va)(hb:az (wm w) b.toD vb)(u1:U8 a.c_)(u2:U8 a.new)(u3:U8 b.c_)(u4:U8 b.new) :
  Calls aac 35 #[.agg va.toArray,.agg vb.toArray] w fun e w'=>e=.returned (.bool (B (a=b)))/\aW (fun _ _=>False) w w':=by
 obtain⟨p1,c1,p2,c2,rfl,A4,xK⟩:=cO.open ha;obtain⟨r1,d1,r2,d2,rfl,IB,IC⟩:=cO.open hb;clear ha hb;obtain⟨k1,o1,m1⟩:=a;obtain⟨k2,o2,m2⟩:=b;simp only at A4 xK IB IC u1 u2 u3 u4 ⊢;obtain⟨q,hq⟩:∃q:Bool,q=B ((⟨k1,o1,m1⟩:cO)=⟨k2,o2,m2⟩):=⟨_,rfl⟩;rw[<-hq];obtain⟨n1,pO⟩:∃n,n=o1.length:=⟨_,rfl⟩;obtain⟨n2,jy⟩:∃n,n=m1.length:=⟨_,rfl⟩;obtain⟨t1,Lg⟩:∃n,n=o2.length:=⟨_,rfl⟩;obtain⟨t2,nk⟩:∃n,n=m2.length:=⟨_,rfl⟩;obtain⟨h1,Ay⟩:∃h,h=B (o1=o2):=⟨_,rfl⟩;obtain⟨h2,M7⟩:∃h,h=B (m1=m2):=⟨_,rfl⟩;rw[<-pO,<-jy,<-Lg,<-nk];refine X.begin (rg:=[]) (N:=[]) (ss:=[.agg [.int .u64 (.v k1),.ao p1 n1 c1,.ao p2 n2 c2],.agg [.int .u64 (.v k2),.ao r1 t1 d1,.ao r2 t2 d2]]) Tryz.func35 rfl SQ rfl rfl Sat.bp ?_;obtain⟨im,aV⟩:∃im,im=ab [] [] w:=⟨_,rfl⟩;show X (aK aac Tryz.f35 _ w (bq [] []) (ab [] [] w) (fun _ _=>False) (fun _=>True) [] B35) _ _;rw[<-aV];obtain⟨z1,jq⟩:∃z,z=strOfNums o1:=⟨_,rfl⟩;obtain⟨z2,V4⟩:∃z,z=strOfNums o2:=⟨_,rfl⟩;obtain⟨z3,hz3⟩:∃z,z=strOfNums m1:=⟨_,rfl⟩;obtain⟨z4,hz4⟩:∃z,z=strOfNums m2:=⟨_,rfl⟩;refine X.dk ([(13,.raw (.string z1)),(16,.raw (.string z2)),(17,.bool (.v h1)),(22,.raw (.string z3)),(25,.raw (.string z4)),(26,.bool (.v h2))]) JF 400 _ rfl Tryz.results35 (fun pr fin aj ai=>?_)
 conv=>cbv
 refine⟨aj _ (au.UU rfl rfl (by rw[hz3,hz4,M7];exact G5 u2 u4)),aj _ (by rw[hz4];exact au.str rfl nk aau aaH aaI IC aV),
  aj _ (by rw[hz3];exact au.str rfl jy aau aaH aaI xK aV),aj _ (au.UU rfl rfl (by rw[jq,V4,Ay];exact G5 u1 u3)),
  aj _ (by rw[V4];exact au.str rfl Lg aau aaH aaI IB aV),aj _ (by rw[jq];exact au.str rfl pO aau aaH aaI A4 aV),ai _ _ ?_⟩
 refine X.done JF rfl (fun N w' v hN hS hv=>⟨aw hv ?_,hS.aM.mono fun k o _ h=>aB h⟩);refine i_ ?_;subst Ay M7 hq;simp only[SB.T,SI.den,cT,cO.mk.injEq,and_assoc]
end Go.Proofs.YthpbefahaghbjaaGreat
namespace Go.Proofs.YthpbefahaghbjaaGreat
open Go Go.bU
def cE.ok (d:cE):Prop:=1<=d.ij/\d.ij<=8/\d.seq≠0/\d.cD.may=true
def ek.ok (last:Int)(c:ek):Prop:=1<=c.n/\c.n<=last/\c.target<=15/\0<=c.sN/\c.sN<=31
def er.ok (m:er):Prop:=m.source<=15/\m.inc≠0/\m.cell≠0
def Ju {α:Type}(ok:α->Prop)(key:α->Int)(l:List α):Prop:=∀(i:Nat) (x:α),l[i]?=some x->ok x/\(0<i->∀y,l[i-1]?=some y->key y<key x)
def dJ.lists (r:dJ):Prop:=(r.vars.length<=8/\r.done.length<=8/\r.out.length<=8/\r.marks.length<=16)/\Ju cE.ok cE.ij r.done/\Ju (ek.ok r.last) ek.n r.out/\Ju er.ok er.source r.marks
def dJ.may (r:dJ):Prop:=(r.kind=0->r.inc=0/\r.state=0/\r.last=0/\r.vars.length=0/\r.done.length=0/\r.out.length=0/\r.marks.length=0) /\
 (r.kind≠0->r.kind<=2/\(r.kind=2->r.state=0/\r.vars.length=0/\r.out.length=0)/\r.inc≠0/\0<=r.state/\r.state<32/\r.lists)
def cO.may (c:cO):Prop:=c.new.length≠0/\RO c.new/\(c.c.tmod 2=0->c.c_.length=0)/\(c.c.tmod 2≠0->0<c.c_.length/\RO c.c_/\AV c.c_ c.new c.c_.length+AV c.new c.c_ c.new.length=1)
def dJ.zero:dJ:=⟨0,0,0,[],[],[],0,[]⟩
def cO.zero:cO:=⟨0,[],[]⟩
def bW.zero:bW:=⟨0,0,0⟩
def aer (kind key jK cR rk:Int)(np na rz cz ls rm cm:Bool):Prop :=
 (kind≠1->np=true/\na=true/\rz=true)/\(kind≠3->jK=0)/\(kind≠4->cR=0)/\(kind≠5->cz=true)/\(2<kind->key=0)/\key<=15 /\
  (kind=1/\np=false/\ls=false/\rm=true/\(rk=0\/na=false)\/kind=2\/kind=3/\jK≠0\/kind=4/\cR≠0\/kind=5/\cm=true)
def ur.may (r:ur):Prop:=aer r.kind r.key r.jK r.cR r.a8.kind r.promise.none r.acc.none (B (r.a8=dJ.zero)) (B (r.kP=cO.zero)) (r.promise.less r.acc) (B r.a8.may) (B r.kP.may)
end Go.Proofs.YthpbefahaghbjaaGreat
namespace Go.bU
open Go
end Go.bU
namespace Go.Proofs.YthpbefahaghbjaaGreat
open Go Go.bU
structure ng where
 (has:Bool) (pc pn pl ac an al k inc st:Int) (vp:Option Addr) (vn vc:Nat) (dp:Option Addr) (dn dc:Nat) (op:Option Addr) (on oc:Nat) (last:Int) (mp:Option Addr) (mn mc:Nat)
structure ve where
 (c:Int) (op:Option Addr) (on oc:Nat) (np:Option Addr) (nn nc:Nat)
structure zO where
 (zp:Nat->ng) (jK cR:Int) (cf:ve)
structure T0 where
 (kind key:Int) (sl:ng) (jK cR:Int) (cf:ve)
def ng.aN (x:ng):List Value:=[.bool x.has,.int .u64 x.pc,.int .u8 x.pn,.int .u32 x.pl,.int .u64 x.ac,.int .u8 x.an,.int .u32 x.al,.int .u8 x.k,.int .u64 x.inc,.int .i64 x.st,.slice x.vp x.vn x.vc,.slice x.dp x.dn x.dc,.slice x.op x.on x.oc,.int .u64 x.last,.slice x.mp x.mn x.mc]
def ve.aN (x:ve):List Value:=[.int .u64 x.c,.slice x.op x.on x.oc,.slice x.np x.nn x.nc]
def cat {α:Type}(f:Nat->List α):Nat->Nat->List α
 |_,0=>[]
 |i,n+1=>f i++cat f (i+1) n
def zO.aN (s:zO):List Value:=cat (fun i=>(s.zp i).aN) 0 16++(.int .u64 s.jK::.int .u32 s.cR::s.cf.aN)
def T0.aN (r:T0):List Value:=.int .u8 r.kind::.int .u8 r.key::(r.sl.aN.tail++(.int .u64 r.jK::.int .u32 r.cR::r.cf.aN))
def upd {α:Type}(f:Nat->α)(k:Nat)(x:α):Nat->α:=fun i=>bif aaL i k then x else f i
def ng.zero:ng:=⟨false,0,0,0,0,0,0,0,0,0,none,0,0,none,0,0,none,0,0,0,none,0,0⟩
def ve.zero:ve:=⟨0,none,0,0,none,0,0⟩
def zO.zero:zO:=⟨fun _=>ng.zero,0,0,ve.zero⟩
def ng.put (x:ng):ng:={ x with has:=true }
def dJ.iI (r:dJ):Prop:=50<r.vars.length\/50<r.done.length\/50<r.out.length\/50<r.marks.length\/∃(i:Nat) (d:cE),r.done[i]?=some d/\50<d.cD.vars.length
def iI (l:List ur):Prop:=60<l.length\/∃(i:Nat) (r:ur),l[i]?=some r/\(r.a8.iI\/80<r.kP.c_.length\/80<r.kP.new.length)
theorem Er (a:dJ)(va:List Value)(w:World)(ha:az (wm w) a.toD va) :
  Calls aac 18 #[.agg va.toArray] w fun e w'=>e=.returned (.bool (B a.iI))/\aW (fun _ _=>False) w w':=by
 obtain⟨p1,c1,p2,c2,p3,c3,p4,c4,rfl,A4,xK,Ix,Iy⟩:=dJ.open ha;clear ha;obtain⟨k1,i1,s1,v1,o1,u1,l1,m1⟩:=a;simp only at A4 xK Ix Iy ⊢;obtain⟨q,hq⟩:∃q:Bool,q=B (dJ.iI ⟨k1,i1,s1,v1,o1,u1,l1,m1⟩):=⟨_,rfl⟩;rw[<-hq];obtain⟨n1,pO⟩:∃n,n=v1.length:=⟨_,rfl⟩;obtain⟨n2,jy⟩:∃n,n=o1.length:=⟨_,rfl⟩;obtain⟨n3,Cg⟩:∃n,n=u1.length:=⟨_,rfl⟩;obtain⟨n4,Ch⟩:∃n,n=m1.length:=⟨_,rfl⟩;have hm:=dt;have rN:n2<=aah:=by rw[jy];exact xK.len
 rw[<-pO,<-jy,<-Cg,<-Ch];refine X.begin (rg:=[]) (N:=[]) (ss:=[.agg [.int .u8 (.v k1),.int .u64 (.v i1),.int .i64 (.v s1),.ao p1 n1 c1,.ao p2 n2 c2,.ao p3 n3 c3,.int .u64 (.v l1),.ao p4 n4 c4]]) Tryz.func18 rfl SD rfl rfl Sat.bp ?_;obtain⟨im,aV⟩:∃im,im=ab [] [] w:=⟨_,rfl⟩;show X (aK aac Tryz.f18 _ w (bq [] []) (ab [] [] w) (fun _ _=>False) (fun _=>True) [] B18) _ _;rw[<-aV];refine X.go kc 400 _ rfl aas ?_
 conv=>arg 2;cbv
 refine X.cond rfl (fun hc=>?_) (fun hc=>?_)
 ·refine X.go kc 400 _ rfl aas ?_
  conv=>arg 2;cbv
  refine X.done kc rfl (fun N w' v hN hS hv=>⟨aw hv ?_,hS.aM.mono fun k o _ h=>aB h⟩);simp only[SB.T,SB.F,SI.den] at hc;rw[hq];refine(bP ?_).symm;simp only[dJ.iI,<-pO,<-jy,<-Cg,<-Ch];omega
 simp only[SB.T,SB.F,SI.den] at hc;refine X.go kc 400 _ rfl aas ?_
 conv=>arg 2;cbv
 refine X.gB (fun i:{i:Nat // i<=n2/\∀(j:Nat) (x:cE),j<i->o1[j]?=some x->x.cD.vars.length<=50}=>⟨[(1,.val (.own 0 0)),(28,.val (.int .i64 (.nat n2))),(29,.val (.int .i64 (.nat i.1)))],[⟨true,[.int .u8 (.v k1),.int .u64 (.v i1),.int .i64 (.v s1),.ao p1 n1 c1,.ao p2 n2 c2,.ao p3 n3 c3,.int .u64 (.v l1),.ao p4 n4 c4],none⟩]⟩) (fun i=>n2-i.1) (fun N a w' hN hf hS=>⟨⟨0,aai _,fun j x hj=>by omega⟩,?_⟩) (fun i q' cF=>?_)
 ·exact At.eJ hf hS
 obtain⟨i,hi,kE⟩:=i;refine X.go kc 400 _ rfl aas ?_
 conv=>arg 2;cbv
 refine X.cond rfl (fun aF=>?_) (fun cJ=>?_)
 ·simp only[SB.T,SI.den] at aF
  have aF:i<n2:=by omega
  obtain⟨x1,fK⟩:∃x,o1[i]?=some x:=⟨_,aad (by omega)⟩;obtain⟨b1,y1,w1,fE,jG,dM⟩:=xK.kM fK;rw[<-aV] at dM;obtain⟨pa,ca,rfl⟩:=cE.cells jG;obtain⟨na,Dx⟩:∃n,n=x1.cD.vars.length:=⟨_,rfl⟩;rw[<-Dx] at dM;refine X.eL b1 (y1+i*6) [.int .u8 (.v x1.ij),.int .u64 (.v x1.seq),.int .i64 (.v x1.cD.err),.int .u64 (.v x1.cD.inc),.int .i64 (.v x1.cD.state),.ao pa na ca] (eh dM rfl) (by simp) (fun N1 dQ dX=>?_);have nX:(N1++[(⟨b1,y1+i*6,0⟩:aS)])[1]?=some ⟨b1,y1+i*6,0⟩:=ax dX;refine X.dk ([(35,.own 1 0)]) kc 400 _ rfl aas (fun pr fin aj ai=>?_)
  conv=>cbv
  refine⟨aj _ (au.row rfl rfl (fun _=>rfl) aax aay aF fE nX rfl rfl),ai _ _ ?_⟩;refine X.cond rfl (fun HH=>?_) (fun dm=>?_)
  ·simp only[SB.T,SB.F,SI.den] at HH
   refine X.go kc 400 _ rfl aas ?_
   conv=>arg 2;cbv
   refine X.done kc rfl (fun N w' v hN hS hv=>⟨aw hv ?_,hS.aM.mono fun k o _ h=>aB h⟩);rw[hq];refine(bP ?_).symm;exact .inr (.inr (.inr (.inr ⟨i,x1,fK,by omega⟩)))
  ·simp only[SB.T,SB.F,SI.den] at dm
   refine X.go kc 400 _ rfl aas ?_
   conv=>arg 2;cbv
   refine X.back (fun N a w' hN hf hS=>cF ⟨i+1,by omega,fun j x' hj Cf=>?_⟩ a w' (by simp only;omega) ?_)
   ·by_cases e:j=i
    ·subst e
     rw[fK] at Cf;obtain rfl:=aaj.inj Cf;omega
    ·exact kE j x' (by omega) Cf
   exact At.eJ hf hS
 simp only[SB.F,SI.den] at cJ;obtain rfl:n2=i:=by omega
 refine X.go kc 400 _ rfl aas ?_
 conv=>arg 2;cbv
 refine X.done kc rfl (fun N w' v hN hS hv=>⟨aw hv ?_,hS.aM.mono fun k o _ h=>aB h⟩);rw[hq];refine(b_ fun h=>?_).symm;simp only[dJ.iI,<-pO,<-jy,<-Cg,<-Ch] at h;rcases h with h|h|h|h|⟨j,d,hj,hd⟩
 ·omega
 ·omega
 ·omega
 ·omega
 ·have:=kE j d (by have:=(aaz.1 hj).1;omega) hj
  omega
theorem ur.cells {x:ur}{M:Mem}{vs:List Value}(h:az M x.toD vs):∃r:T0,vs=r.aN/\az M x.a8.toD (r.sl.aN.drop 7)/\az M x.kP.toD r.cf.aN/\r.kind=x.kind/\r.key=x.key:=by
 obtain⟨rv,cv,rfl,hr,hc⟩:=ur.open h;obtain⟨p1,c1,p2,c2,p3,c3,p4,c4,rfl,_⟩:=dJ.open hr;obtain⟨p5,c5,p6,c6,rfl,_⟩:=cO.open hc;exact⟨⟨x.kind,x.key,⟨true,x.promise.count,x.promise.node,x.promise.cR,x.acc.count,x.acc.node,x.acc.cR,x.a8.kind,x.a8.inc,x.a8.state,p1,_,c1,p2,_,c2,p3,_,c3,x.a8.last,p4,_,c4⟩,x.jK,x.cR,⟨x.kP.c,p5,_,c5,p6,_,c6⟩⟩,rfl,hr,hc,rfl,rfl⟩
theorem lS.cells {x:lS}{M:Mem}{c:ng}(h:az M x.toD c.aN):c.has=x.has/\c.pc=x.promise.count/\c.pn=x.promise.node/\c.pl=x.promise.cR/\c.ac=x.acc.count/\c.an=x.acc.node/\c.al=x.acc.cR/\az M x.a8.toD (c.aN.drop 7):=by
 obtain⟨rv,he,hr⟩:=lS.open h;simp only[ng.aN,List.cons.injEq,Value.bool.injEq,Value.int.injEq,true_and] at he;obtain⟨h1,h2,h3,h4,h5,h6,h7,h8⟩:=he;exact⟨h1,h2,h3,h4,h5,h6,h7,by rw[<-h8] at hr;exact hr⟩
structure StP where
 (zp:Nat->lS) (jK cR:Int) (kP:cO)
def StP.same (x y:StP):Prop:=(∀i,i<16->x.zp i=y.zp i)/\x.jK=y.jK/\x.cR=y.cR/\x.kP=y.kP
end Go.Proofs.YthpbefahaghbjaaGreat
namespace Go.bU
open Go
end Go.bU
namespace Go.Proofs.YthpbefahaghbjaaGreat
open Go Go.bU
def StP.zero:StP:=⟨fun _=>⟨false,bW.zero,bW.zero,dJ.zero⟩,0,0,cO.zero⟩
end Go.Proofs.YthpbefahaghbjaaGreat
namespace Go.Proofs.YthpbefahaghbjaaGreat
open Go Go.bU Go.Lib
end Go.Proofs.YthpbefahaghbjaaGreat
namespace Go.Proofs.YthpbefahaghbjaaGreat
open Go Go.bU Go.ChangeShapes Go.WideShapes Go.ChangeAt Go.RowKit
theorem _root_.Go.bU.cB.cons {P:aaf}{m:Nat}{k:CK}{ks:List CK}{ds:List Dt}(h:cB P m (k::ks) ds):∃d r,ds=d::r/\kO P m k d/\cB P m ks r:=by simpa only [cB] using h
theorem _root_.Go.bU.cB.nil {P:aaf}{m:Nat}{ds:List Dt}(h:cB P m [] ds):ds=[]:=by simpa only [cB] using h
theorem _root_.Go.bU.kO.cG {P:aaf}{m:Nat}{k:IntKind}{d:Dt}(h:kO P m (.int k) d):∃z,d=.int k z/\(Lit.int k z).wf=true:=by
 cases m<;>simpa only [kO] using h
theorem _root_.Go.bU.kO.tG {P:aaf}{m e:Nat}{ks:List CK}(hk:eO P 8 e=some ks){d:Dt}(h:kO P (m+1) (.slice e) d):∃rows,d=.list rows/\∀r∈rows,cB P m ks r:=by
 simp only[kO] at h;obtain⟨rows,rfl,_,h⟩:=h;exact⟨rows,rfl,fun r hr=>by
  obtain⟨ZK,h1,h2⟩:=h r hr;rw[hk] at h1;cases h1;exact h2⟩
theorem R4 {z:Int}(h:(Lit.int .u8 z).wf=true):0<=z/\z<=255:=by
 simp[Lit.wf,IntKind.min,IntKind.max,IntKind.bits,IntKind.signed] at h;omega
def aei:List CK:=[.int .i64]
def u8K:List CK:=[.int .u8]
def XN:List CK:=[.int .u8,.int .u64,.int .i64,.int .u64,.int .i64,.slice 2]
def XK:List CK:=[.int .u64,.int .u8,.int .i64,.int .i64]
def ZM:List CK:=[.int .u8,.int .u64,.int .u64]
theorem ZH:eO aac 8 2=some aei:=by kernel_rfl
theorem aek:eO aac 8 5=some u8K:=by kernel_rfl
theorem Wb:eO aac 8 89=some XN:=by kernel_rfl
theorem Wa:eO aac 8 96=some XK:=by kernel_rfl
theorem Wc:eO aac 8 99=some ZM:=by kernel_rfl
theorem F2 {m:Nat}{d:Dt}(h:kO aac (m+1) (.slice 2) d):∃l:List Int,d=.list (l.map jI):=by
 obtain⟨rows,rfl,n9⟩:=h.tG ZH;obtain⟨xs,rfl,_⟩:=qC (f:=jI) (p:=fun _=>True) (rows:=rows) fun r hr=>by
  obtain⟨_,_,rfl,h1,h2⟩:=cB.cons (n9 r hr);obtain⟨z,rfl,_⟩:=h1.cG;cases cB.nil h2;exact⟨z,rfl,trivial⟩
 exact⟨xs,rfl⟩
theorem Kq {m:Nat}{d:Dt}(h:kO aac (m+1) (.slice 5) d):∃l:List Int,d=.list (l.map qU)/\U8 l:=by
 obtain⟨rows,rfl,n9⟩:=h.tG aek;obtain⟨xs,rfl,hx⟩:=qC (f:=qU) (p:=fun z=>0<=z/\z<=255) (rows:=rows) fun r hr=>by
  obtain⟨_,_,rfl,h1,h2⟩:=cB.cons (n9 r hr);obtain⟨z,rfl,hz⟩:=h1.cG;cases cB.nil h2;exact⟨z,rfl,R4 hz⟩
 exact⟨xs,rfl,hx⟩
theorem Kn {m:Nat}{d:Dt}(h:kO aac (m+2) (.slice 89) d):∃l:List cE,d=.list (l.map cE.toD):=by
 obtain⟨rows,rfl,n9⟩:=h.tG Wb;obtain⟨xs,rfl,_⟩:=qC (f:=cE.toD) (p:=fun _=>True) (rows:=rows) fun r hr=>by
  obtain⟨_,_,rfl,h1,h⟩:=cB.cons (n9 r hr);obtain⟨_,_,rfl,h2,h⟩:=cB.cons h;obtain⟨_,_,rfl,h3,h⟩:=cB.cons h;obtain⟨_,_,rfl,h4,h⟩:=cB.cons h;obtain⟨_,_,rfl,h5,h⟩:=cB.cons h;obtain⟨_,_,rfl,h6,h⟩:=cB.cons h;cases cB.nil h;obtain⟨z1,rfl,_⟩:=h1.cG;obtain⟨z2,rfl,_⟩:=h2.cG;obtain⟨z3,rfl,_⟩:=h3.cG;obtain⟨z4,rfl,_⟩:=h4.cG;obtain⟨z5,rfl,_⟩:=h5.cG;obtain⟨l,rfl⟩:=F2 h6;exact⟨⟨z1,z2,⟨z3,z4,z5,l⟩⟩,rfl,trivial⟩
 exact⟨xs,rfl⟩
theorem Km {m:Nat}{d:Dt}(h:kO aac (m+1) (.slice 96) d):∃l:List ek,d=.list (l.map ek.toD):=by
 obtain⟨rows,rfl,n9⟩:=h.tG Wa;obtain⟨xs,rfl,_⟩:=qC (f:=ek.toD) (p:=fun _=>True) (rows:=rows) fun r hr=>by
  obtain⟨_,_,rfl,h1,h⟩:=cB.cons (n9 r hr);obtain⟨_,_,rfl,h2,h⟩:=cB.cons h;obtain⟨_,_,rfl,h3,h⟩:=cB.cons h;obtain⟨_,_,rfl,h4,h⟩:=cB.cons h;cases cB.nil h;obtain⟨z1,rfl,_⟩:=h1.cG;obtain⟨z2,rfl,_⟩:=h2.cG;obtain⟨z3,rfl,_⟩:=h3.cG;obtain⟨z4,rfl,_⟩:=h4.cG;exact⟨⟨z1,z2,z3,z4⟩,rfl,trivial⟩
 exact⟨xs,rfl⟩
theorem Ko {m:Nat}{d:Dt}(h:kO aac (m+1) (.slice 99) d):∃l:List er,d=.list (l.map er.toD):=by
 obtain⟨rows,rfl,n9⟩:=h.tG Wc;obtain⟨xs,rfl,_⟩:=qC (f:=er.toD) (p:=fun _=>True) (rows:=rows) fun r hr=>by
  obtain⟨_,_,rfl,h1,h⟩:=cB.cons (n9 r hr);obtain⟨_,_,rfl,h2,h⟩:=cB.cons h;obtain⟨_,_,rfl,h3,h⟩:=cB.cons h;cases cB.nil h;obtain⟨z1,rfl,_⟩:=h1.cG;obtain⟨z2,rfl,_⟩:=h2.cG;obtain⟨z3,rfl,_⟩:=h3.cG;exact⟨⟨z1,z2,z3⟩,rfl,trivial⟩
 exact⟨xs,rfl⟩
end Go.Proofs.YthpbefahaghbjaaGreat
