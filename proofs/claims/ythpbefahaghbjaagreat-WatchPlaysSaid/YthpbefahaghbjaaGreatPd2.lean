import Derived.Test.YthpbefahaghbjaaGreatLaw
import Derived.Test.YthpbefahaghbjaaGreatTab
import Derived.Test.YthpbefahaghbjaaGreatEC
import Derived.Sort.Defs
open Array renaming getElem?_setIfInBounds_ne→aaP,getElem_setIfInBounds→aaQ
open Bool renaming and_eq_true→aau
open Go renaming Oper→aad,Program→aae,Ending→aaf,Func→aag,Operand→aak,maxLen→aam,mem_ready→aav,ResultVar→aaA
open Go.IntKind renaming i64→aaF,wrap→aaG,bits→aaH,signed→aaI
open Go.Proofs.Tryz renaming prog→aaj,results114→aal,f114→aaz,isAgg5→aaY
open Go.Region renaming wanted→aac,ready→aaK
open Go.Result renaming andThen→aao
open Go.Sem renaming run_bind→aax,run_pure→aay
open Go.World renaming block_lt_of_cell?→aaJ
open List renaming length_map→aai,mem_singleton→aap,mem_cons_of_mem→aaq,mem_cons_self→aar,mem_map→aas,mem_append_right→aaC,mem_append_left→aaD,getElem?_cons_zero→aaE,mem_cons→aaR,cons_append→aaS,take_add_one→aaT,take_of_length_le→aaU,getElem?_append_left→aaV,getElem?_eq_some_iff→aaW,mem_iff_getElem?→aaX
open Nat renaming beq→aan,add_zero→aaw,le_refl→aaB,le_of_ble_eq_true→aaL,eq_of_beq_eq_true→aaM,zero_mul→aaN,add_mul→aaO
open Prod.mk renaming injEq→aah
set_option maxHeartbeats 16000000
set_option maxRecDepth 100000
set_option cbv.maxSteps 100000000
namespace Go.bU
open Go
inductive GK where
 |BC|no
 |may (k:Nat) (w:Bool) (b:SB)
def Po (all:Array aad)(f:Fr)(o:aad):Option GK :=
 match o.guard with
 |none=>some .BC
 |some (gi,want)=>match vQ all gi with
  |none=>none
  |some k=>match look f k with
   | .val (.bool (.lit b))=>some (bif b == want then .BC else .no)
   | .val (.bool b)=>some (.may k want b)
   | .val v=>bif W6 v then some .no else none
   | .xJ _ _ (.bool b)=>some (.may k want b)
   |_=>none
def GK.Ok (g:GK)(all:Array aad)(o:aad)(a:Act):Prop:=match g with
 | .BC=>aac o (yielded all a.tmps)=true
 | .no=>aac o (yielded all a.tmps)=false
 | .may k w b=>(aac o (yielded all a.tmps)=true↔a.tmps[k]?=some (.bool w))/\(a.tmps[k]?=some (.bool w)->b.den=w)
def GK.T:GK->Prop
 | .may _ w b=>b.den=w
 |_=>True
theorem vX {n:Nat}{N:af}{f:Fr}{a:Act}{all:Array aad}{o:aad}{g:GK}(hf:aX n N f a)(h:Po all f o=some g):g.Ok all o a:=by
 unfold Po at h;cases hg:o.guard with
 |none =>
  simp only[hg,aA] at h;subst h;simp[GK.Ok,aac,hg]
 |some gw =>
  obtain⟨gi,want⟩:=gw;simp only[hg] at h;cases hd:vQ all gi with
  |none=>simp[hd] at h
  |some k =>
   simp only[hd] at h;have Nk:=qR hd a.tmps;have pR:aac o (yielded all a.tmps)=(yielded all a.tmps gi == some want):=by simp[aac,hg]
   have iC:(aac o (yielded all a.tmps)=true↔a.tmps[k]?=some (.bool want)):=by
    rw[pR,Nk];cases ht:a.tmps[k]? with
    |none=>simp
    |some u=>cases u<;>simp
   have dm:=hf.ok k
   split at h
   ·rename_i b hl
    rw[hl] at dm;obtain⟨x,hx,hm⟩:=dm;simp only[SV.den,SB.den,aA] at hx;subst hx;simp only[aA] at h;subst h;cases KE:(b == want) with
    |true=>show aac _ _=true;rw[pR,Nk,hm];simpa using KE
    |false=>show aac _ _=false;rw[pR,Nk,hm];simpa using KE
   ·rename_i b _ hl
    rw[hl] at dm;obtain⟨x,hx,hm⟩:=dm;simp only[SV.den,aA] at hx;subst hx;simp only[aA] at h;subst h;exact⟨iC,fun e=>by rw[hm] at e;simpa using e⟩
   ·rename_i v _ _ hl
    rw[hl] at dm;obtain⟨x,hx,hm⟩:=dm;cases hu:W6 v with
    |false=>rw[hu] at h;simp at h
    |true =>
     rw[hu] at h;simp only[cond_true,aA] at h;subst h;have:v=.tup []:=by unfold W6 at hu;split at hu<;>first|rfl|simp at hu
     subst this;simp only[SV.den,SV.ap,aA] at hx;subst hx;show aac _ _=false;rw[pR,Nk,hm];rfl
   ·rename_i j w' b hl
    rw[hl] at dm;simp only[aA] at h;subst h;refine⟨iC,fun e=>?_⟩
    by_cases hj:a.tmps[j]?=some (.bool w')
    ·obtain⟨x,hx,hm⟩:=dm.1 hj
     simp only[SV.den,aA] at hx;subst hx;rw[hm] at e;simpa using e
    ·rw[dm.2 hj] at e;cases e
   ·cases h
def hY (f:Fr):GK->aak->Option SV
 | .may k w _=>WG f k w
 |_=>ev f
theorem yG {n:Nat}{N:af}{f:Fr}{a:Act}{all:Array aad}{o:aad}{g:GK}(hf:aX n N f a)(h:g.Ok all o a)(hw:aac o (yielded all a.tmps)=true){x:aak}{s:SV}(he:hY f g x=some s):s.den N=some (a.eval x):=by
 cases g with
 |BC=>exact cX hf he
 |no=>exact cX hf he
 |may k w b=>exact jY hf (h.1.1 hw) he
theorem GK.Ok.t {g:GK}{all:Array aad}{o:aad}{a:Act}(h:g.Ok all o a)(hw:aac o (yielded all a.tmps)=true):g.T:=by
 cases g with
 |BC=>trivial
 |no=>trivial
 |may k w b=>exact h.2 (h.1.1 hw)
def LZ (n:Nat)(f:Fr)(d:Option Nat)(g:GK)(r:SV):Option Fr:=match g with
 | .BC=>eK n f d (.val r)
 | .no=>eK n f d (.val (.tup []))
 | .may k w _=>match d with
  |some d=>bif aan d k then none else eK n f (some d) (.xJ k w r)
  |none=>some f
theorem wJ {n:Nat}{N:af}{f f':Fr}{a:Act}{all:Array aad}{o:aad}{g:GK}{d:Option Nat}{r:SV}(hf:aX n N f a)(h:g.Ok all o a)(hp:LZ n f d g r=some f') :
  (aac o (yielded all a.tmps)=true->∀x,r.den N=some x->aX n N f' (a.put d x))/\(aac o (yielded all a.tmps)=false->aX n N f' (a.put d undef)):=by
 cases g with
 |BC=>exact⟨fun _ x hx=>cu hf hx hp,fun hw=>(by have h:aac _ _=true:=h;rw[hw] at h;cases h)⟩
 |no=>exact⟨fun hw=>(by have h:aac _ _=false:=h;rw[hw] at h;cases h),fun _=>cu hf (x:=undef) rfl hp⟩
 |may k w b =>
  have h:aac o (yielded all a.tmps)=true↔a.tmps[k]?=some (.bool w):=h.1;cases d with
  |none=>simp only[LZ,aA] at hp;subst hp;exact⟨fun _ _ _=>hf,fun _=>hf⟩
  |some d =>
   simp only[LZ] at hp;cases Vj:aan d k with
   |true=>rw[Vj] at hp;simp at hp
   |false =>
    rw[Vj] at hp;simp only[cond_false,eK] at hp;have KI:d≠k:=fun e=>by subst e;simp at Vj
    cases hb:Nat.blt d n with
    |false=>rw[hb] at hp;simp at hp
    |true =>
     rw[hb] at hp;simp only[cond_true,aA] at hp;subst hp;have KK:d<n:=aaL hb;refine⟨fun hw x hx=>?_,fun hw=>?_⟩
     ·have oZ:=h.1 hw
      have e1:(a.put (some d) x).tmps[k]?=a.tmps[k]?:=by simp only[Act.put];rw[aaP KI]
      exact hf.put KK ⟨fun _=>⟨x,hx,by simp[Act.put,hf.size,KK]⟩,fun hn=>absurd (by rw[e1];exact oZ) hn⟩
     ·have oZ:¬a.tmps[k]?=some (.bool w):=fun e=>by rw[h.2 e] at hw;cases hw
      have e1:(a.put (some d) undef).tmps[k]?=a.tmps[k]?:=by simp only[Act.put];rw[aaP KI]
      exact hf.put KK ⟨fun e=>absurd (by rw[<-e1];exact e) oZ,fun _=>by simp[Act.put,hf.size,KK]⟩
inductive hZ where
 |call (rg:List Rg) (k:GK) (g:Nat) (l:List SV) (r:SV)
 |val (rg:List Rg) (f:Fr) (g:GK) (op:Op) (r:SV)
def nz (E:Env)(N0:af)(rg:List Rg)(k:GK)(g:Nat)(l:List SV)(r:SV):Prop :=
 k.T->(∀args w,(callFunc g args).run E.P w=.ok (.enter g args) w)/\∀(N:af) (w:World) (args:List Value),N0.le N->Sat E N rg w->SV.ap N l=some args ->
  Calls E.P g args.toArray w fun e w'=>∃v,e=.returned v/\r.den N=some v/\aW (fun _ _=>False) w w'
def VI (im:Nat->Nat->Option Value)(N:af)(rg:List Rg)(w:World):Prop:=jg N rg w/\∀k o v,im k o=some v->w.cell? ⟨k,o,none⟩=some v
theorem VI.mono {im:Nat->Nat->Option Value}{N N':af}{rg:List Rg}{w:World}(h:VI im N rg w)(hN:N.le N'):VI im N' rg w:=⟨h.1.mono hN,h.2⟩
theorem Sat.vi {E:Env}{N:af}{rg:List Rg}{w:World}(h:Sat E N rg w):VI E.im N rg w:=⟨h.xt,h.cK⟩
def au (E:Env)(N0:af)(rg:List Rg)(f:Fr)(g:GK)(op:Op)(r:SV):Prop :=
 g.T->∀(N:af) (ρ:aak->Value) (o:aad) (w:World),N0.le N->o.op=op->(∀x s,hY f g x=some s->s.den N=some (ρ x))->VI E.im N rg w->∃v,r.den N=some v/\∀w',VI E.im N rg w'->(execOp ρ o).run E.P w'=.ok (.value v) w'
def hZ.Ok (E:Env)(N0:af):hZ->Prop
 | .call rg k g l r=>nz E N0 rg k g l r
 | .val rg f g op r=>au E N0 rg f g op r
def Lt:List (Nat × SV)->Nat->Option SV
 | [],_=>none
 |(k,v)::r,t=>bif aan k t then some v else Lt r t
def V_:Op->Bool
 | .call c=>match c.callee with
  | .value _=>true
  |_=>false
 |_=>false
def qP (td:List (Nat × SV))(T:aQ)(n:Nat)(all:Array aad)(rg:List Rg)(i:Nat)(f:Fr):Option (Fr × List hZ) :=
 match nth all.toList i with
 |none=>none
 |some o=>match (match V_ o.op,o.dst with|false,some d=>Lt td d|_,_=>none) with
  |some r=>match Po all f o with
   |some g=>match LZ n f o.dst g r with
    |some f'=>some (f',match g with | .no=>[]|g=>[.val rg f g o.op r])
    |none=>none
   |none=>none
  |none=>match LM T n all rg i f with
   |some f'=>some (f',[])
   |none=>none
theorem fv {E:Env}{T:aQ}(hT:aq E.P T){td:List (Nat × SV)}{n:Nat}{N N0:af}{rg:List Rg}{f f':Fr}{a:Act}{all:Array aad}{i:Nat}{o:aad}{w0:World}{os:List hZ}(ho:all[i]?=some o)(hq:qP td T n all rg i f=some (f',os))(Jc:∀q∈os,q.Ok E N0)(ck:N0.le N)(hf:aX n N f a)(h0:VI E.im N rg w0) :
  ∃v,((aac o (yielded all a.tmps)=true/\∀w,VI E.im N rg w->(execOp a.eval o).run E.P w=.ok (.value v) w)\/(aac o (yielded all a.tmps)=false/\v=undef))/\aX n N f' (a.put o.dst v):=by
 have kR:nth all.toList i=some o:=by rw[bT];simpa using ho
 unfold qP at hq;simp only[kR] at hq
 split at hq
 ·rename_i r hr
  split at hq
  ·rename_i g hg
   split at hq
   ·rename_i f1 hp
    simp only[aA,aah] at hq;obtain⟨rfl,rfl⟩:=hq;have I8:=vX hf hg;obtain⟨p1,p2⟩:=wJ hf I8 hp;cases hw:aac o (yielded all a.tmps) with
    |false=>exact⟨undef,.inr ⟨rfl,rfl⟩,p2 hw⟩
    |true =>
     have hgn:∀{P:Prop},g=.no->P:=fun e=>by subst e;have h:aac _ _=false:=I8;rw[hw] at h;cases h
     have fm:au E N0 rg f g o.op r:=by
      cases g with
      |no=>exact hgn rfl
      |BC=>exact Jc _ (aap.2 rfl)
      |may k w b=>exact Jc _ (aap.2 rfl)
     obtain⟨v,h1,h2⟩:=fm (I8.t hw) N a.eval o w0 ck rfl (fun x s hx=>yG hf I8 hw hx) h0;exact⟨v,.inl ⟨rfl,h2⟩,p1 hw v h1⟩
   ·cases hq
  ·cases hq
 ·split at hq
  ·rename_i f1 nY
   simp only[aA,aah] at hq;obtain⟨rfl,rfl⟩:=hq;obtain⟨v,h1,h2⟩:=me hT ho nY hf h0.1;exact⟨v,h1.imp (fun h=>⟨h.1,fun w hw=>h.2 w hw.1⟩) id,h2⟩
  ·cases hq
def pcQ (ρ:aak->Option SV)(op:Op):Option (Nat × List SV) :=
 match op with
 | .call c=>match c.callee with
  | .value x=>match ρ x with
   |some v=>match Pk v with
    |some (g,cs)=>match HD ρ c.args.toList with
     |some l=>some (g,l++cs)
     |none=>none
    |none=>none
   |none=>none
  |_=>none
 |_=>none
def oE (td:List (Nat × SV))(n:Nat)(all:Array aad)(i:Nat)(f:Fr):Option (Fr × GK × Nat × List SV × SV) :=
 match nth all.toList i with
 |none=>none
 |some o=>match (match o.dst with|some d=>Lt td d|none=>none) with
  |some r=>match Po all f o with
   |some g=>match pcQ (hY f g) o.op with
    |some (h,l)=>match LZ n f o.dst g r with
     |some f'=>some (f',g,h,l,r)
     |none=>none
    |none=>none
   |none=>none
  |none=>none
theorem fV {E:Env}{td:List (Nat × SV)}{N N0:af}{rg:List Rg}{f f':Fr}{a:Act}{all:Array aad}{i:Nat}{o:aad}{w:World}{g:Nat}{k:GK}{l:List SV}{r:SV}(ho:all[i]?=some o)(hq:oE td E.n all i f=some (f',k,g,l,r))(fm:nz E N0 rg k g l r)(ck:N0.le N)(hf:aX E.n N f a)(hS:Sat E N rg w) :
  (aac o (yielded all a.tmps)=true/\∀(K:Act->World->Prop) (Q:Exit->Act->World->Prop),(∀x w',aX E.n N f' (a.put o.dst x)->Sat E N rg w'->K (a.put o.dst x) w')->o.wp E.P a w K Q) \/
  (aac o (yielded all a.tmps)=false/\aX E.n N f' (a.put o.dst undef)):=by
 have kR:nth all.toList i=some o:=by rw[bT];simpa using ho
 unfold oE at hq;simp only[kR] at hq
 split at hq
 case h_2=>cases hq
 rename_i r0 _
 split at hq
 ·rename_i gk hg
  split at hq
  ·rename_i h0 l0 qw
   split at hq
   ·rename_i f1 hp
    simp only[aA,aah] at hq;obtain⟨rfl,rfl,rfl,rfl,rfl⟩:=hq;have I8:=vX hf hg;obtain⟨p1,p2⟩:=wJ hf I8 hp;cases hw:aac o (yielded all a.tmps) with
    |false=>exact .inr ⟨rfl,p2 hw⟩
    |true =>
     refine .inl ⟨rfl,fun K Q hK=>?_⟩;unfold pcQ at qw
     split at qw
     ·rename_i c cC
      split at qw
      ·rename_i x jS
       split at qw
       ·rename_i v hv
        split at qw
        ·rename_i g' cs I7
         split at qw
         ·rename_i l' hl
          ·simp only[aA,aah] at qw
           obtain⟨rfl,rfl⟩:=qw;have df:∀x s,hY f gk x=some s->s.den N=some (a.eval x):=fun x s hx=>yG hf I8 hw hx
           have Es:=ql df _ hl;obtain⟨cl,jZ,uS⟩:=vV (df _ _ hv) I7;have fD:=SV.dz _ _ Es uS;have KM:(execOp a.eval o).run E.P w=.ok (.enter g' (c.args.toList.map a.eval++cl).toArray) w:=by
            obtain⟨callee,args,argTypes⟩:=c;simp only at jS hl;subst jS;simp only[execOp,cC,resolve,jZ,Deferred.ofValue,aax,aay,aao,invoke];rw[(fm (I8.t hw)).1]
            congr 2
            apply Array.ext';simp
           unfold Oper.wp;rw[KM];refine Calls.mono ((fm (I8.t hw)).2 N w _ ck hS fD) fun e w' ⟨v,he,hv,hc⟩=>?_
           subst he;exact hK v w' (p1 hw v hv) (hS.bu hc)
         ·cases qw
        ·cases qw
       ·cases qw
      ·cases qw
     ·cases qw
   ·cases hq
  ·cases hq
 ·cases hq
def Kh (td:List (Nat × SV))(T:aQ)(n:Nat)(all:Array aad):qd->St->KW
 | [],_=>[]
 |(i,_)::r,s=>match qP td T n all s.rg i s.fr with
  |some (f,_)=>Kh td T n all r ⟨f,s.rg⟩
  |none=>match uW T n all i s with
   |some s'=>match xL s.fr all i with
    |some k=>(i,[k])::Kh td T n all r s'
    |none=>Kh td T n all r s'
   |none=>match oE td n all i s.fr with
    |some (f,_)=>Kh td T n all r ⟨f,s.rg⟩
    |none=>[]
def sP (td:List (Nat × SV))(T:aQ)(n:Nat)(all:Array aad)(K:KW)(rg:List Rg):qd->St->List hZ->Option (St × List hZ)
 | [],s,os=>some (s,os)
 |(i,some gH)::r,s,os=>bif lF K i then
   match qP td T n all (aJ (flatK (mM gH) K) rg 0) i s.fr with
   |some (f,o)=>sP td T n all K rg r ⟨f,s.rg⟩ (o++os)
   |none=>none
  else none
 |(i,none)::r,s,os=>match qP td T n all s.rg i s.fr with
  |some (f,o)=>sP td T n all K rg r ⟨f,s.rg⟩ (o++os)
  |none=>match uW T n all i s with
   |some s'=>bif (match xL s.fr all i with|some k=>aU (eW K i) k|none=>true) then sP td T n all K rg r s' os else none
   |none=>match oE td n all i s.fr with
    |some (f,gk,g,l,v)=>sP td T n all K rg r ⟨f,s.rg⟩ (.call s.rg gk g l v::os)
    |none=>none
theorem qY {td:List (Nat × SV)}{T:aQ}{n:Nat}{all:Array aad}{K:KW}{rg:List Rg}:∀(fX:qd) (s:St) (os:List hZ) {s':St} {yp:List hZ},sP td T n all K rg fX s os=some (s',yp)->∀q∈os,q∈yp:=by
 intro fX
 induction fX with
 |nil=>intro s os s' yp h q hq;simp only[sP,aA,aah] at h;obtain⟨rfl,rfl⟩:=h;exact hq
 |cons p r ih =>
  obtain⟨i,b⟩:=p;intro s os s' yp h q hq;cases b with
  |some gH =>
   simp only[sP] at h;obtain⟨_,h⟩:=fR h
   split at h
   ·exact ih _ _ h q (aaC _ hq)
   ·cases h
  |none =>
   simp only[sP] at h
   split at h
   ·exact ih _ _ h q (aaC _ hq)
   ·split at h
    ·obtain⟨_,h⟩:=fR h
     exact ih _ _ h q hq
    ·split at h
     ·exact ih _ _ h q (aaq _ hq)
     ·cases h
theorem D5 {E:Env}{T:aQ}(hT:aq E.P T){td:List (Nat × SV)}{all:Array aad}(jb:Region.noSelect all=true){Q:Exit->Act->World->Prop}(hQ:bR Q){N0:af}{K:KW}{rg:List Rg}{s':St}{yp:List hZ}(Jc:∀q∈yp,q.Ok E N0){Nf:af}(wf:World)(hV:jg Nf rg wf):∀(fX:qd) (ad:Array Bool) {s:St} {os:List hZ} {N:af} {a:Act} {w:World},
  jN all fX ad=true->ad.size=all.size->sP td T E.n all K rg fX s os=some (s',yp)->Nf.le N->N0.le N->aX E.n N s.fr a->Sat E N s.rg w->bG (bS K ad) rg s.rg->rg.length<=s.rg.length ->
  (∀N' a' w',N.le N'->aX E.n N' s'.fr a'->Sat E N' s'.rg w'->Q .normal a' w')->eZ E.P all Q (fun L=>VI E.im Nf (aJ (bS K L) rg 0)) fX.length ad a w:=by
 have I4:∀{l:List Nat},l.isEmpty=true->l=[]:=by intro l h;cases l<;>simp at h ⊢
 have eL:∀(L:Array Bool) {N:af} {cN:List Rg} {w:World},Nf.le N->bG (bS K L) rg cN->Sat E N cN w->VI E.im Nf (aJ (bS K L) rg 0) w:=fun L _ _ _ hN ha hS=>⟨dx (hV.AK _) hN ha hS,hS.cK⟩
 intro fX
 induction fX with
 |nil =>
  intro ad s os N a w hs hn hg hN ck hf hS ha hl hk;simp only[sP,aA,aah] at hg;obtain⟨rfl,rfl⟩:=hg;exact eZ.done (I4 hs) (hk N a w (af.le.refl N) hf hS)
 |cons p r ih =>
  obtain⟨i,q⟩:=p;intro ad s os N a w hs hn hg hN ck hf hS ha hl hk;have yI:=eL ad hN ha hS;cases q with
  |some gH =>
   simp only[jN,aau] at hs;obtain⟨⟨⟨⟨hr,jL⟩,gp⟩,gq⟩,hs⟩:=hs;simp only[sP] at hg;obtain⟨o8,hg⟩:=fR hg;have o8:=ff o8;have jp:i∈aaK .any all ad:=by simpa using hr
   have tg:ad.getD i false=false:=by
    have h1:=(aav.1 jp).1;rcases Nat.lt_or_ge i ad.size with h'|h'
    ·simp[h'] at h1 ⊢;exact h1
    ·rw[Array.getD_eq_getD_getElem?,Array.getElem?_eq_none h'];rfl
   have same:∀(L:Array Bool) (r:Nat),aU (bS K (L.setIfInBounds i true)) r=true↔aU (bS K L) r=true:=fun L r=>by
    simp only[bS,aG];constructor
    ·rintro⟨p,h1,h2,h3⟩
     exact⟨p,h1,by rwa [getD_set_ne false (fun e=>o8 p h1 e.symm)] at h2,h3⟩
    ·rintro⟨p,h1,h2,h3⟩
     exact⟨p,h1,by rwa [getD_set_ne false (fun e=>o8 p h1 e.symm)],h3⟩
   split at hg
   ·rename_i f ob hq
    obtain⟨_,o,ho,_⟩:=aav.1 jp
    -- Hg may have XM up ahead of it is of gH
    have wide:∀{L':Array Bool} {w':World},Up all i ad L'->VI E.im Nf (aJ (bS K L') rg 0) w'->VI E.im Nf (aJ (flatK (mM gH) K) rg 0) w':=fun sI hv =>
     ⟨hv.1.more fun r hr=>by
      obtain⟨p,h1,h2,h3⟩:=aG.1 hr;exact aG.2 ⟨p,h1,(sI.within gp hn tg gq).2.2 _ h2,h3⟩,hv.2⟩
    have fm:∀q∈ob,q.Ok E N0:=fun q hq=>Jc q (qY _ _ _ hg q (aaD _ hq))
    obtain⟨v,hv,de⟩:=fv hT ho hq fm ck hf ((wide .here yI).mono hN);refine eZ.take (S:=fun L=>VI E.im Nf (aJ (bS K L) rg 0)) ho jb jL hr (fun c a w h=>hQ c a o.dst v w h) (fun L w=>⟨fun h=>⟨h.1.more fun r hr=>(same L r).1 hr,h.2⟩,fun h=>⟨h.1.more fun r hr=>(same L r).2 hr,h.2⟩⟩) ?_ yI
     (ih _ hs (by simpa using hn) hg hN ck de hS (fun r g hg hm=>ha r g hg (by
      cases hx:aU (bS K ad) r with
      |true=>rw[(same ad r).2 hx] at hm;cases hm
      |false=>rfl)) hl hk)
    rcases hv with ⟨hw,a6⟩|⟨hw,rfl⟩
    ·exact .inl ⟨hw,fun w ⟨L',sI,hw⟩=>a6 w ((wide sI hw).mono hN)⟩
    ·exact .inr ⟨hw,rfl⟩
   ·cases hg
  |none =>
   simp only[jN,aau] at hs;obtain⟨hr,hs⟩:=hs;have hr:=gr hr;have jp:i∈aaK .any all ad:=by rw[hr];simp
   have aF:i<ad.size:=by
    obtain⟨_,o,ho,_⟩:=aav.1 jp;rw[hn];exact(Array.getElem?_eq_some_iff.1 ho).1
   have ey:(ad.setIfInBounds i true).getD i false=true:=by simp[aF]
   have grow:∀r,aU (bS K ad) r=true->aU (bS K (ad.setIfInBounds i true)) r=true:=fun r h=>by
    obtain⟨p,h1,h2,h3⟩:=aG.1 h;refine aG.2 ⟨p,h1,?_,h3⟩
    by_cases e:i=p.1
    ·rw[<-e];exact ey
    ·rw[getD_set_ne false e];exact h2
   have own:∀k,aU (eW K i) k=true->aU (bS K (ad.setIfInBounds i true)) k=true:=fun k hk=>by
    obtain⟨p,h1,h2,h3⟩:=fw hk;exact aG.2 ⟨p,h1,by rw[h2];exact ey,h3⟩
   have fT:bG (bS K (ad.setIfInBounds i true)) rg s.rg:=ha.mono fun r hr=>by
    cases hx:aU (bS K ad) r with
    |true=>rw[grow r hx] at hr;cases hr
    |false=>rfl
   obtain⟨_,o,ho,_⟩:=aav.1 jp;simp only[sP] at hg
   split at hg
   ·rename_i f ob hq
    have fm:∀q∈ob,q.Ok E N0:=fun q hq=>Jc q (qY _ _ _ hg q (aaD _ hq))
    obtain⟨v,hv,de⟩:=fv hT ho hq fm ck hf hS.vi;refine eZ.all hr (by simp) fun j hj=>?_
    simp only[aap] at hj;subst hj;unfold wpOp;simp only[ho];have gz:=ih _ hs (by simpa using hn) hg hN ck de hS fT hl hk;rcases hv with ⟨hw,a6⟩|⟨hw,rfl⟩
    ·rw[hw,if_pos rfl]
     exact .inl (bi (.inl (a6 w hS.vi)) ⟨eL _ hN fT hS,gz⟩)
    ·rw[hw]
     exact⟨eL _ hN fT hS,gz⟩
   ·split at hg
    ·rename_i s1 he
     obtain⟨xG,mJ⟩:=fR hg;obtain⟨hw,N',x,w',db,hy,d_,cL⟩:=gu hT (by simpa using ho) he hf hS;have sD:=eA (ks:=bS K (ad.setIfInBounds i true)) fT hl (by
      split
      ·rename_i k oZ
       rw[oZ] at xG;exact own k xG
      ·rfl) he
     refine eZ.all hr (by simp) fun j hj=>?_
     simp only[aap] at hj;subst hj;unfold wpOp;simp only[ho];rw[hw,if_pos rfl];exact .inl (bi hy ⟨eL _ (hN.trans db) sD.1 cL,ih _ hs (by simpa using hn) mJ (hN.trans db) (ck.trans db) d_ cL sD.1 sD.2 (fun N2 a2 w2 h1 h2 h3=>hk N2 a2 w2 (db.trans h1) h2 h3)⟩)
    ·split at hg
     ·rename_i f gk g l v qw
      have fm:nz E N0 s.rg gk g l v:=Jc _ (qY _ _ _ hg _ aar);refine eZ.all hr (by simp) fun j hj=>?_
      simp only[aap] at hj;subst hj;unfold wpOp;simp only[ho];rcases fV ho qw fm ck hf hS with ⟨hw,hx⟩|⟨hw,d_⟩
      ·rw[hw,if_pos rfl]
       exact .inl (hx _ _ fun x w' d_ cL=>⟨eL _ hN fT cL,ih _ hs (by simpa using hn) hg hN ck d_ cL fT hl hk⟩)
      ·rw[hw]
       exact⟨eL _ hN fT hS,ih _ hs (by simpa using hn) hg hN ck d_ hS fT hl hk⟩
     ·cases hg
def yq (td:List (Nat × SV)):Nat->aQ->aH->Nat->List aaA->List It->St->List hZ->List It × St × List hZ
 |0,_,_,_,_,t,s,os=>(t,s,os)
 |m+1,T,B,n,rs,t,s,os =>
  match t with
  | .ops all (i::rest)::k=>match qP td T n all s.rg i s.fr with
   |some (f,o)=>yq td m T B n rs (.ops all rest::k) ⟨f,s.rg⟩ (o++os)
   |none=>match uW T n all i s with
    |some s'=>yq td m T B n rs (.ops all rest::k) s' os
    |none=>match oE td n all i s.fr with
     |some (f,gk,g,l,v)=>yq td m T B n rs (.ops all rest::k) ⟨f,s.rg⟩ (.call s.rg gk g l v::os)
     |none=>(t,s,os)
  |_=>match UK T n rs t s with
   |some (t',s')=>yq td m T B n rs t' s' os
   |none=>match t with
    | .code c::k=>match c with
     | .region id ops d=>match d with
      |true=>match yS B id with
       |some fX=>match sP td T n ops (Kh td T n ops fX s) s.rg fX s os with
        |some (s',yp)=>yq td m T B n rs k s' yp
        |none=>(t,s,os)
       |none=>(t,s,os)
      |false=>(t,s,os)
     |_=>(t,s,os)
    |_=>(t,s,os)
theorem E6 {td:List (Nat × SV)}:∀(m:Nat) (T:aQ) (B:aH) (n:Nat) (rs:List aaA) (t:List It) (s:St) (os:List hZ) (t':List It) (s':St) (yp:List hZ),yq td m T B n rs t s os=(t',s',yp) ->
  (∀q∈os,q∈yp)/\∀(E:eR),E.n=n->E.B=B->aq E.P T->bR E.Q->(∀q∈yp,q.Ok E.toEnv E.N0)->X E t' s'->X E t s:=by
 intro m
 induction m with
 |zero =>
  intro T B n rs t s os t' s' yp h;simp only[yq,aah] at h;obtain⟨rfl,rfl,rfl⟩:=h;exact⟨fun _ h=>h,fun E _ _ _ _ _ h=>h⟩
 |succ m ih =>
  intro T B n rs t s os t' s' yp h;have same:(t,s,os)=(t',s',yp)->(∀q∈os,q∈yp)/\∀(E:eR),E.n=n->E.B=B->aq E.P T->bR E.Q->(∀q∈yp,q.Ok E.toEnv E.N0)->X E t' s'->X E t s:=by
   intro h;simp only[aah] at h;obtain⟨rfl,rfl,rfl⟩:=h;exact⟨fun _ h=>h,fun E _ _ _ _ _ h=>h⟩
  simp only[yq] at h
  split at h
  ·rename_i all i rest k
   split at h
   ·rename_i f o hq
    obtain⟨h1,h2⟩:=ih _ _ _ _ _ _ _ _ _ _ h;refine⟨fun q cF=>h1 q (aaC _ cF),fun E e1 e2 e3 e4 e5 e6=>?_⟩;have hx:=h2 E e1 e2 e3 e4 e5 e6;subst e1;intro N a w hN hf hS;show wpOps _ _ _ _ _ _;obtain⟨op,cC⟩:∃op,all[i]?=some op:=by
     unfold qP at hq
     split at hq
     ·cases hq
     ·rename_i op cC;rw[bT] at cC;exact⟨op,by simpa using cC⟩
    obtain⟨v,hv,de⟩:=fv e3 cC hq (fun q cF=>e5 q (h1 q (aaD _ cF))) hN hf hS.vi;rw[wpOps_cons];unfold wpOp;simp only[cC];rcases hv with ⟨hw,a6⟩|⟨hw,rfl⟩
    ·rw[hw,if_pos rfl]
     exact .inl (bi (.inl (a6 w hS.vi)) (hx N _ w hN de hS))
    ·rw[hw]
     exact hx N _ w hN de hS
   ·split at h
    ·rename_i s1 he
     obtain⟨h1,h2⟩:=ih _ _ _ _ _ _ _ _ _ _ h;refine⟨h1,fun E e1 e2 e3 e4 e5 e6=>?_⟩;have hx:=h2 E e1 e2 e3 e4 e5 e6;subst e1;exact X.oD e3 ⟨he⟩ hx
    ·split at h
     ·rename_i f gk g l v qw
      obtain⟨h1,h2⟩:=ih _ _ _ _ _ _ _ _ _ _ h;refine⟨fun q cF=>h1 q (aaq _ cF),fun E e1 e2 e3 e4 e5 e6=>?_⟩;have hx:=h2 E e1 e2 e3 e4 e5 e6;subst e1;intro N a w hN hf hS;show wpOps _ _ _ _ _ _;obtain⟨op,cC⟩:∃op,all[i]?=some op:=by
       unfold oE at qw
       split at qw
       ·cases qw
       ·rename_i op cC;rw[bT] at cC;exact⟨op,by simpa using cC⟩
      rw[wpOps_cons];unfold wpOp;simp only[cC];rcases fV cC qw (e5 _ (h1 _ aar)) hN hf hS with ⟨hw,hy⟩|⟨hw,d_⟩
      ·rw[hw,if_pos rfl]
       exact .inl (hy _ _ fun x w' d_ cL=>hx N _ w' hN d_ cL)
      ·rw[hw]
       exact hx N _ w hN d_ hS
     ·exact same h
  ·split at h
   ·rename_i t1 s1 ha
    obtain⟨h1,h2⟩:=ih _ _ _ _ _ _ _ _ _ _ h;refine⟨h1,fun E e1 e2 e3 e4 e5 e6=>?_⟩;subst e1;exact sO e3 ha (h2 E rfl e2 e3 e4 e5 e6)
   ·split at h
    ·rename_i c k _
     split at h
     ·rename_i id ops d _
      split at h
      ·split at h
       ·rename_i fX AB
        split at h
        ·rename_i s1 os1 hd
         obtain⟨h1,h2⟩:=ih _ _ _ _ _ _ _ _ _ _ h;refine⟨fun q cF=>h1 q (qY _ _ _ hd q cF),fun E e1 e2 e3 e4 e5 e6=>?_⟩;have hx:=h2 E e1 e2 e3 e4 e5 e6;subst e1;subst e2;intro N a w hN hf hS;show _->Code.wp _ _ _ _ _;intro dH;simp only[iu,AB] at dH;have cL:Sat E.toEnv N s.rg { w with drawn:=w.drawn+1 }:=hS.drew;simp only[tP,aau] at dH;obtain⟨⟨hn,hlen⟩,Le⟩:=dH;have hlen:=aaM hlen;have:=D5 e3 hn (e4.ms _) (fun q cF=>e5 q (h1 q cF)) _ cL.xt fX _ Le (by simp) hd (af.le.refl N) hN hf cL (fun r g hg _=>hg) (aaB _) (fun N' a' w' db d_ cL=>hx N' a' w' (hN.trans db) d_ cL);rw[hlen] at this;exact wp_region_any e3.mixed this.any
        ·exact same h
       ·exact same h
      ·exact same h
     ·exact same h
    ·exact same h
def XO.US (pr:hZ->Prop)(fin:List It->St->Prop)(p:List It × St × List hZ):List hZ->Prop
 | []=>fin p.1 p.2.1
 |q::r=>pr q/\XO.US pr fin p r
def XO (pr:hZ->Prop)(fin:List It->St->Prop)(p:List It × St × List hZ):Prop:=XO.US pr fin p p.2.2
theorem XO.split {pr:hZ->Prop}{fin:List It->St->Prop}{p:List It × St × List hZ}:∀{os:List hZ},XO.US pr fin p os->(∀q∈os,pr q)/\fin p.1 p.2.1
 | [],h=>⟨fun _ h=>by simp at h,h⟩
 |q::r,h=>by
  obtain⟨h1,h2⟩:=XO.split (os:=r) h.2;exact⟨fun q' hq=>by
   rcases aaR.1 hq with e|e
   ·rw[e];exact h.1
   ·exact h1 q' e,h2⟩
theorem X.dk {P:aae}{fn:aag}{R:aaf->World->Prop}{W:World}{O:Nat->Nat->Prop}{im:Nat->Nat->Option Value}{D:Nat->Nat->Prop}{Rr:World->Prop}{N:af}{B:aH}{T:aQ}(td:List (Nat × SV))(hT:aq P T)(m n:Nat)(hn:fn.ntmps=n){t:List It}{s:St}{rs:Array aaA}(OU:fn.results=rs)
  (h:∀(pr:hZ->Prop) (fin:List It->St->Prop),(∀q,q.Ok (aK P fn R W O im D Rr N B).toEnv N->pr q)->(∀t s,X (aK P fn R W O im D Rr N B) t s->fin t s)->XO pr fin (yq td m T B n rs.toList t s [])):X (aK P fn R W O im D Rr N B) t s:=by
 subst hn;have:=h (fun q=>q.Ok (aK P fn R W O im D Rr N B).toEnv N) (fun t s=>X (aK P fn R W O im D Rr N B) t s) (fun _ h=>h) (fun _ _ h=>h);obtain⟨h1,h2⟩:=XO.split this;obtain⟨⟨t',s',yp⟩,hr⟩:∃p,yq td m T B fn.ntmps rs.toList t s []=p:=⟨_,rfl⟩;rw[hr] at h1 h2;exact(E6 m T B _ _ _ _ _ _ _ _ hr).2 (aK P fn R W O im D Rr N B) rfl rfl hT (fun _ _ d _ _ h=>by cases d<;>exact h) h1 h2
theorem nz.of {E:Env}{N0:af}{rg:List Rg}{k:GK}{g:Nat}{l:List SV}{r:SV}(hc:∀args w,(callFunc g args).run E.P w=.ok (.enter g args) w)(vs:List Value)(v:Value)(hl:∀N,SV.ap N l=some vs)(hr:∀N,r.den N=some v)
  (h:k.T->∀w,(∀k o v,E.im k o=some v->w.cell? ⟨k,o,none⟩=some v)->Calls E.P g vs.toArray w fun e w'=>e=.returned v/\aW (fun _ _=>False) w w'):nz E N0 rg k g l r:=fun hk =>
 ⟨hc,fun N w args _ hS ha=>by
  rw[hl N] at ha;cases ha;exact(h hk w hS.cK).mono fun e w' ⟨h1,h2⟩=>⟨v,h1,hr N,h2⟩⟩
theorem au.row {E:Env}{N0:af}{rg:List Rg}{f:Fr}{g:GK}{t e:TypeId}{x ix:aak}{p:Option Addr}{n c z q b y r:Nat}{kd:IntKind}{s:SI}{np:aS}(hx:hY f g x=some (.ao p n c))(lB:hY f g ix=some (.int kd s))(hz:g.T->s.den=(z:Int))(hu:E.P.underlying t=some (.slice e))(hq:∀w,(sizeOf e).run E.P w=.ok q w)(aF:z<n)
  (hp:p=some ⟨b,y,none⟩) (hN:N0[r]?=some np) (hb:np.b=b) (ho:np.o=y+z*q):au E N0 rg f g (.indexAddr t x ix) (.own r 0):=by
 intro ht N ρ o w ck cC df hV;have h1:=df _ _ hx;have h2:=df _ _ lB;simp only[SV.den,hz ht,aA] at h1 h2;have hr:=ck r np hN;subst hb;refine⟨.pointer (some ⟨np.b,np.o+0,none⟩),by simp only[SV.den,hr],fun w' _=>?_⟩;simp only[execOp,cC,<-h1,<-h2,aax,aao,aay];subst hp;simp[Instr.indexAt,asIntOf,run_underlying hu,aao,aF,hq,dy,ho]
inductive Dt where
 |int (k:IntKind) (z:Int)
 |bool (b:Bool)
 |str (s:ByteArray)
 |list (rows:List (List Dt))
mutual
def bj (M:Mem):Dt->Value->Prop
 | .int k z,v=>v=.int k z
 | .bool b,v=>v=.bool b
 | .str s,v=>v=.string s
 | .list rows,v=>∃p c,v=.slice p rows.length c/\(rows.length<=c/\rows.length<=aam)/\(rows=[]\/∃b y,p=some ⟨b,y,none⟩/\eI M b y rows)
def az (M:Mem):List Dt->List Value->Prop
 | [],vs=>vs=[]
 |d::ds,vs=>∃v r,vs=v::r/\bj M d v/\az M ds r
def eI (M:Mem)(b:Nat)(y:Nat):List (List Dt)->Prop
 | []=>True
 |d::rows=>(∃vs,az M d vs/\∀(j:Nat) (v:Value),vs[j]?=some v->M b (y+j)=some v)/\eI M b (y+d.length) rows
end
mutual
theorem bj.mono {M M':Mem}(h:∀k o v,M k o=some v->M' k o=some v):∀(d:Dt) {v:Value},bj M d v->bj M' d v
 | .int k z,v,hd=>by simpa[bj] using hd
 | .bool b,v,hd=>by simpa[bj] using hd
 | .str s,v,hd=>by simpa[bj] using hd
 | .list rows,v,hd=>by
  simp only[bj] at hd ⊢;obtain⟨p,c,h1,h2,h3⟩:=hd;exact⟨p,c,h1,h2,h3.imp id fun⟨b,y,h4,h5⟩=>⟨b,y,h4,eI.mono h rows h5⟩⟩
theorem az.mono {M M':Mem}(h:∀k o v,M k o=some v->M' k o=some v):∀(ds:List Dt) {vs:List Value},az M ds vs->az M' ds vs
 | [],vs,hd=>by simpa[az] using hd
 |d::ds,vs,hd=>by
  simp only[az] at hd ⊢;obtain⟨v,r,h1,h2,h3⟩:=hd;exact⟨v,r,h1,bj.mono h d h2,az.mono h ds h3⟩
theorem eI.mono {M M':Mem}(h:∀k o v,M k o=some v->M' k o=some v){b:Nat}:∀(rows:List (List Dt)) {y:Nat},eI M b y rows->eI M' b y rows
 | [],y,_=>by simp[eI]
 |d::rows,y,hd=>by
  simp only[eI] at hd ⊢;obtain⟨⟨vs,h1,h2⟩,h3⟩:=hd;exact⟨⟨vs,az.mono h d h1,fun j v hj=>h _ _ _ (h2 j v hj)⟩,eI.mono h rows h3⟩
end
theorem az.len {M:Mem}:∀{ds:List Dt} {vs:List Value},az M ds vs->vs.length=ds.length
 | [],vs,h=>by simp only[az] at h;rw[h];rfl
 |d::ds,vs,h=>by
  simp only[az] at h;obtain⟨v,r,rfl,_,h3⟩:=h;simp[az.len h3]
theorem az.append {M:Mem}:∀{ds es:List Dt} {vs us:List Value},az M ds vs->az M es us->az M (ds++es) (vs++us)
 | [],es,vs,us,h,k=>by simp only[az] at h;subst h;exact k
 |d::ds,es,vs,us,h,k=>by
  simp only[az] at h;obtain⟨v,r,rfl,h2,h3⟩:=h;simp only[aaS,az];exact⟨v,r++us,rfl,h2,az.append h3 k⟩
theorem az.split {M:Mem}:∀{ds es:List Dt} {vs:List Value},az M (ds++es) vs->∃us ws,vs=us++ws/\az M ds us/\az M es ws
 | [],es,vs,h=>⟨[],vs,rfl,by simp[az],h⟩
 |d::ds,es,vs,h=>by
  simp only[aaS,az] at h;obtain⟨v,r,rfl,h2,h3⟩:=h;obtain⟨us,ws,rfl,h4,h5⟩:=az.split h3;exact⟨v::us,ws,rfl,by simp only[az];exact⟨v,us,rfl,h2,h4⟩,h5⟩
theorem eI.get {M:Mem}{b q:Nat}:∀{rows:List (List Dt)} {y:Nat},eI M b y rows->(∀d∈rows,d.length=q)->∀{i:Nat} {d:List Dt},rows[i]?=some d->∃vs,az M d vs/\∀(j:Nat) (v:Value),vs[j]?=some v->M b (y+i*q+j)=some v
 | [],_,_,_,i,d,hi=>by simp at hi
 |r::rows,y,h,hq,i,d,hi=>by
  simp only[eI] at h;obtain⟨⟨vs,h1,h2⟩,h3⟩:=h;cases i with
  |zero =>
   simp only[aaE,aA] at hi;subst hi;exact⟨vs,h1,fun j v hj=>by rw[aaN,aaw];exact h2 j v hj⟩
  |succ i =>
   simp only[List.getElem?_cons_succ] at hi;obtain⟨us,h4,h5⟩:=eI.get h3 (fun d hd=>hq d (aaq _ hd)) hi;refine⟨us,h4,fun j v hj=>?_⟩;have:=h5 j v hj;rw[hq r aar] at this;rw[show y+(i+1)*q+j=y+q+i*q+j by rw[aaO];omega];exact this
theorem eI.of {M:Mem}{b q:Nat}:∀{rows:List (List Dt)} {y:Nat},(∀d∈rows,d.length=q)->(∀(i:Nat) (d:List Dt),rows[i]?=some d->∃vs,az M d vs/\∀(j:Nat) (v:Value),vs[j]?=some v->M b (y+i*q+j)=some v)->eI M b y rows
 | [],_,_,_=>by simp[eI]
 |r::rows,y,hq,h=>by
  simp only[eI];obtain⟨vs,h1,h2⟩:=h 0 r rfl;refine⟨⟨vs,h1,fun j v hj=>by have:=h2 j v hj;rwa [aaN,aaw] at this⟩,eI.of (fun d hd=>hq d (aaq _ hd)) fun i d hi=>?_⟩;obtain⟨us,h3,h4⟩:=h (i+1) d (by simpa using hi);refine⟨us,h3,fun j v hj=>?_⟩;have:=h4 j v hj;rw[hq r aar];rw[show y+(i+1)*q+j=y+q+i*q+j by rw[aaO];omega] at this;exact this
def wm (w:World):Mem:=fun k o=>w.cell? ⟨k,o,none⟩
def dC (M:Mem)(p:Option Addr)(c q:Nat)(rows:List (List Dt)):Prop:=(rows.length<=c/\rows.length<=aam)/\(rows=[]\/∃b y,p=some ⟨b,y,none⟩/\∀(i:Nat) (d:List Dt),rows[i]?=some d->∃vs,az M d vs/\∀(j:Nat) (v:Value),vs[j]?=some v->M b (y+i*q+j)=some v)
theorem bj.list {M:Mem}{rows:List (List Dt)}{v:Value}(h:bj M (.list rows) v){q:Nat}(hq:∀d∈rows,d.length=q):∃p c,v=.slice p rows.length c/\dC M p c q rows:=by
 simp only[bj] at h;obtain⟨p,c,h1,h2,h3⟩:=h;exact⟨p,c,h1,h2,h3.imp id fun⟨b,y,h4,h5⟩=>⟨b,y,h4,fun i d hi=>eI.get h5 hq hi⟩⟩
theorem bj.mk {M:Mem}{rows:List (List Dt)}{p:Option Addr}{n c q:Nat}(hn:n=rows.length)(hq:∀d∈rows,d.length=q)(h:dC M p c q rows):bj M (.list rows) (.slice p n c):=by
 simp only[bj];exact⟨p,c,by rw[hn],h.1,h.2.imp id fun⟨b,y,h4,h5⟩=>⟨b,y,h4,eI.of hq h5⟩⟩
theorem dC.mono {M M':Mem}(h:∀k o v,M k o=some v->M' k o=some v){p:Option Addr}{c q:Nat}{rows:List (List Dt)}(hs:dC M p c q rows):dC M' p c q rows :=
 ⟨hs.1,hs.2.imp id fun⟨b,y,h4,h5⟩=>⟨b,y,h4,fun i d hi=>by
  obtain⟨vs,h6,h7⟩:=h5 i d hi;exact⟨vs,az.mono h d h6,fun j v hj=>h _ _ _ (h7 j v hj)⟩⟩⟩
theorem dC.row {M:Mem}{p:Option Addr}{c q:Nat}{rows:List (List Dt)}(hs:dC M p c q rows){i:Nat}{d:List Dt}(hi:rows[i]?=some d):∃b y vs,p=some ⟨b,y,none⟩/\az M d vs/\∀(j:Nat) (v:Value),vs[j]?=some v->M b (y+i*q+j)=some v:=by
 rcases hs.2 with rfl|⟨b,y,h4,h5⟩
 ·simp at hi
 ·obtain⟨vs,h6,h7⟩:=h5 i d hi
  exact⟨b,y,vs,h4,h6,h7⟩
theorem dC.len {α:Type}{f:α->List Dt}{l:List α}{M:Mem}{p:Option Addr}{c q:Nat}(hs:dC M p c q (l.map f)):l.length<=aam:=by
 have:=hs.1.2;rwa [aai] at this
theorem dt:aam=9223372036854775807:=by decide
theorem dC.elem {M:Mem}{α:Type}{f:α->List Dt}{l:List α}{p:Option Addr}{c q:Nat}(hs:dC M p c q (l.map f)){i:Nat}{x:α}(hi:l[i]?=some x):∃b y vs,p=some ⟨b,y,none⟩/\az M (f x) vs/\∀(j:Nat) (v:Value),vs[j]?=some v->M b (y+i*q+j)=some v :=
 hs.row (by rw[List.getElem?_map,hi];rfl)
theorem kM {w:World}{k o:Nat}{v:Value}(h:wm w k o=some v):ab [] [] w k o=some v:=by rw[pM aB];exact h
theorem dC.kM {α:Type}{f:α->List Dt}{l:List α}{w:World}{p:Option Addr}{c q:Nat}(hs:dC (wm w) p c q (l.map f)){i:Nat}{x:α}(hi:l[i]?=some x):∃b y vs,p=some ⟨b,y,none⟩/\az (wm w) (f x) vs/\∀(j:Nat) (v:Value),vs[j]?=some v->ab [] [] w b (y+i*q+j)=some v:=by
 obtain⟨b,y,vs,h1,h2,h3⟩:=hs.elem hi;exact⟨b,y,vs,h1,h2,fun j v hj=>bU.kM (h3 j v hj)⟩
theorem lv (i:Nat)(h:i<9223372036854775807):aaF.wrap ((i:Int)+1)=((i+1:Nat):Int):=by
 simp[aaG,aaH,aaI];omega
theorem a_ (z:Int)(h:-9223372036854775808<=z)(h2:z<9223372036854775808):aaF.wrap z=z:=by
 simp[aaG,aaH,aaI];omega
theorem lu (i:Nat)(h:1<=i)(h2:i<9223372036854775807):aaF.wrap ((i:Int)-1)=((i-1:Nat):Int):=by
 simp[aaG,aaH,aaI];omega
theorem gy {α:Type}{l m:List α}{i:Nat}{x:α}(h:l.take i=m.take i)(h1:l[i]?=some x)(h2:m[i]?=some x):l.take (i+1)=m.take (i+1):=by
 rw[aaT,aaT,h,h1,h2]
theorem iy {α:Type}{l m:List α}{i:Nat}(h:l.take i=m.take i)(h1:i=l.length)(h2:i=m.length):l=m:=by
 rw[aaU (by omega),aaU (by omega)] at h;exact h
theorem ax {N:af}{p:aS}{n:Nat}(h:N.length=n):(N++[p])[n]?=some p:=by subst h;simp
theorem b9 {N:af}{p q:aS}{i:Nat}(h:N[i]?=some q):(N++[p])[i]?=some q:=by
 rw[aaV (aaW.1 h).1];exact h
theorem GG {im:Mem}{b o:Nat}{v:Value}{s:SV}(h:im b (o+0)=some v)(hs:s.den []=some v:=by rfl):∀(j:Nat) (c:SV),[s][j]?=some c->∃v,c.den []=some v/\im b (o+j)=some v:=fun j c hj=>by
 match j,hj with
 |0,hj=>simp only[aaE,aA] at hj;subst hj;exact⟨v,hs,h⟩
 |j+1,hj=>simp at hj
theorem eh {im:Mem}{b o:Nat}{vs:List Value}{ss:List SV}(h:∀(j:Nat) (v:Value),vs[j]?=some v->im b (o+j)=some v)(hs:SV.ap [] ss=some vs):∀(j:Nat) (c:SV),ss[j]?=some c->∃v,c.den []=some v/\im b (o+j)=some v:=fun j c hj=>by
 obtain⟨v,h1,h2⟩:=(SV.aP ss hs).2 j c hj;exact⟨v,h1,h j v h2⟩
theorem aw {c:SB}{N:af}{v:Value}{q:Bool}(hv:(bz [.bool c]).den N=some v)(h:c.den=q):Ending.returned v=.returned (.bool q):=by
 simp only[bz,SV.den,aA] at hv;rw[<-hv,h]
theorem bB {c:SI}{k:IntKind}{N:af}{v:Value}{q:Int}(hv:(bz [.int k c]).den N=some v)(h:c.den=q):Ending.returned v=.returned (.int k q):=by
 simp only[bz,SV.den,aA] at hv;rw[<-hv,h]
theorem i_ {c:SB}{q:Bool}(h:c.T↔q=true):c.den=q:=by
 cases q with
 |true=>exact(SB.TF c).1.2 (h.2 rfl)
 |false=>exact(SB.TF c).2.2 (by
   cases hc:c.den with
   |true=>exact absurd (h.1 ((SB.TF c).1.1 hc)) (by simp)
   |false=>exact(SB.TF c).2.1 hc)
noncomputable def B (p:Prop):Bool:=@decide p (Classical.propDecidable p)
theorem cT {p:Prop}:B p=true↔p:=by unfold B;exact @decide_eq_true_iff p (Classical.propDecidable p)
theorem bP {p:Prop}(h:p):B p=true:=cT.2 h
theorem b_ {p:Prop}(h:¬p):B p=false:=by
 cases hb:B p with
 |false=>rfl
 |true=>exact absurd (cT.1 hb) h
theorem zK {p q:Prop}(h:p↔q):B p=B q:=by
 by_cases hq:q
 ·rw[bP hq,bP (h.2 hq)]
 ·rw[b_ hq,b_ fun hp=>hq (h.1 hp)]
theorem At.again {P:aae}{fn:aag}{R:aaf->World->Prop}{W:World}{O:Nat->Nat->Prop}{im:Mem}{D:Nat->Nat->Prop}{Rr:World->Prop}{N0 N:af}{B:aH}{s s':St}{a:Act}{w:World}
  (hf:aX fn.ntmps N s.fr a) (hS:Sat (aK P fn R W O im D Rr N0 B).toEnv N s.rg w) (h1:ia N (N.take s'.rg.length) s'.rg.length s.fr s'.fr) (h2:nh N (N.take s'.rg.length) s'.rg.length s.rg s'.rg) :
  At (aK P fn R W O im D Rr [] B) s' a w:=by
 have cL:Sat (aK P fn R W O im D Rr [] B).toEnv N s.rg w:=hS.env rfl rfl rfl rfl rfl;exact At.mk (N0:=[]) (nil_le N) hf cL (Nat.zero_le _) h1 h2 (fun _ _ _ h=>h) cL.loc cL.fH
theorem At.gG {P:aae}{fn:aag}{R:aaf->World->Prop}{W:World}{O:Nat->Nat->Prop}{im:Mem}{D:Nat->Nat->Prop}{Rr:World->Prop}{N0 N:af}{B:aH}{s s':St}{a:Act}{w:World}
  (hf:aX fn.ntmps N s.fr a) (hS:Sat (aK P fn R W O im D Rr N0 B).toEnv N s.rg w) (h2:nh N (N.take s'.rg.length) s'.rg.length s.rg s'.rg:=by repeat first|exact trivial|refine⟨fun h=>h,aR.refl rfl,rfl,?_⟩) (h1:ia N (N.take s'.rg.length) s'.rg.length s.fr s'.fr:=by repeat first|exact trivial|refine Dm rfl rfl ?_|refine mi rfl rfl rfl ?_|refine mi rfl rfl (by first|(simp (disch:=omega) only [SV.den,SI.den,a_,aA,Value.int.injEq,true_and];done)|(simp (disch:=omega) only [SV.den,SI.den,a_,aA,Value.int.injEq,true_and];omega)) ?_) :
  At (aK P fn R W O im D Rr [] B) s' a w:=At.again hf hS h1 h2
theorem At.eJ {P:aae}{fn:aag}{R:aaf->World->Prop}{W:World}{O:Nat->Nat->Prop}{im:Mem}{D:Nat->Nat->Prop}{Rr:World->Prop}{N0 N:af}{B:aH}{s s':St}{a:Act}{w:World}
  (hf:aX fn.ntmps N s.fr a) (hS:Sat (aK P fn R W O im D Rr N0 B).toEnv N s.rg w) (h2:nh N (N.take s'.rg.length) s'.rg.length s.rg s'.rg:=by repeat first|exact trivial|refine⟨fun h=>h,aR.refl rfl,rfl,?_⟩) (h1:ia N (N.take s'.rg.length) s'.rg.length s.fr s'.fr:=by repeat first|exact trivial|refine Dm rfl rfl ?_|refine mi rfl rfl rfl ?_|refine mi rfl rfl (by simp (disch:=omega) [SV.den,SI.den,lv,lu]<;>omega) ?_) :
  At (aK P fn R W O im D Rr [] B) s' a w:=At.again hf hS h1 h2
theorem At.qX {P:aae}{fn:aag}{R:aaf->World->Prop}{W:World}{O:Nat->Nat->Prop}{im:Mem}{D:Nat->Nat->Prop}{Rr:World->Prop}{N0 N:af}{B:aH}{s s':St}{a:Act}{w:World}
  (hf:aX fn.ntmps N s.fr a) (hS:Sat (aK P fn R W O im D Rr N0 B).toEnv N s.rg w) (h2:nh N (N.take s'.rg.length) s'.rg.length s.rg s'.rg:=by repeat first|exact trivial|refine⟨fun h=>h,aR.refl rfl,rfl,?_⟩) (h1:ia N (N.take s'.rg.length) s'.rg.length s.fr s'.fr:=by repeat first|exact trivial|refine Dm rfl (by first|rfl|assumption) ?_|refine mi rfl rfl rfl ?_|refine mi rfl rfl (by simp (disch:=omega) [SV.den,SI.den,lv,lu]<;>omega) ?_|refine mi rfl rfl (by simp[SV.den,SI.den,IntKind.wrap,IntKind.bits,IntKind.signed]<;>omega) ?_) :
  At (aK P fn R W O im D Rr [] B) s' a w:=At.again hf hS h1 h2
mutual
def kO (P:aae):Nat->CK->Dt->Prop
 |_,.int k,d=>∃z,d=.int k z/\(Lit.int k z).wf=true
 |_,.bool,d=>∃b,d=.bool b
 |_,.str,d=>∃s,d=.str s/\s.size<=aam
 |0,.slice _,_=>False
 |m+1,.slice e,d=>∃rows,d=.list rows/\rows.length<=aam/\∀r∈rows,∃ks,eO P 8 e=some ks/\cB P m ks r
 |_,.ptr _,_=>False
def cB (P:aae):Nat->List CK->List Dt->Prop
 |_,[],ds=>ds=[]
 |m,k::ks,ds=>∃d r,ds=d::r/\kO P m k d/\cB P m ks r
end
def tS (P:aae):Nat->CK->Bool
 |0,.slice _=>false
 |m+1,.slice e=>bif aan (P.cellsOf e) 0 then false else match eO P 8 e with
  |some ks=>aan (P.cellsOf e) ks.length&&ks.all (tS P m)
  |none=>false
 |_,.ptr _=>false
 |_,_=>true
theorem cB.len {P:aae}{m:Nat}:∀{ks:List CK} {ds:List Dt},cB P m ks ds->ds.length=ks.length
 | [],ds,h=>by simp only[cB] at h;rw[h];rfl
 |k::ks,ds,h=>by
  simp only[cB] at h;obtain⟨d,r,rfl,_,h3⟩:=h;simp[cB.len h3]
theorem Aq {P:aae}{w:World}{m:Nat}(ih:∀(k:CK) (v:Value),tS P m k=true->u_ P w 0 k v->∃d,kO P m k d/\bj (wm w) d v) :
  ∀(ks:List CK) (cs:List Value),ks.all (tS P m)=true->eo P w 0 ks cs->∃ds,cB P m ks ds/\az (wm w) ds cs
 | [],cs,_,h=>⟨[],by simp[cB],by have:=eo.nil h;subst this;simp[az]⟩
 |k::ks,cs,hd,h=>by
  simp only[List.all_cons,aau] at hd;obtain⟨v,vs,rfl,h1,h2⟩:=eo.cons h;obtain⟨d,k1,k2⟩:=ih k v hd.1 h1;obtain⟨ds,k3,k4⟩:=Aq ih ks vs hd.2 h2;exact⟨d::ds,by simp only[cB];exact⟨d,ds,rfl,k1,k3⟩,by simp only[az];exact⟨v,vs,rfl,k2,k4⟩⟩
theorem Ik {α:Type}{n:Nat}{p:Nat->α->Prop}(h:∀i,i<n->∃x,p i x):∃l:List α,l.length=n/\∀i x,l[i]?=some x->p i x:=by
 induction n with
 |zero=>exact⟨[],rfl,fun i x h=>by simp at h⟩
 |succ n ih =>
  obtain⟨l,h1,h2⟩:=ih fun i hi=>h i (by omega)
  obtain⟨x,hx⟩:=h n (by omega);refine⟨l++[x],by simp[h1],fun i y hy=>?_⟩
  by_cases hi:i<n
  ·rw[aaV (by omega)] at hy;exact h2 i y hy
  ·rw[List.getElem?_append_right (by omega)] at hy
   have:i-l.length=0:=by
    have:=(aaW.1 hy).1;simp at this;omega
   rw[this] at hy;simp only[aaE,aA] at hy;subst hy;have:i=n:=by omega
   subst this;exact hx
theorem Kp {P:aae}{w:World}:∀(m:Nat) (k:CK) (v:Value),tS P m k=true->u_ P w 0 k v->∃d,kO P m k d/\bj (wm w) d v
 |m,.int k,v,_,h=>by
  obtain⟨z,rfl,hz⟩:=h;exact⟨.int k z,by unfold kO;exact⟨z,rfl,hz⟩,by simp[bj]⟩
 |m,.bool,v,_,h=>by
  obtain⟨b,rfl⟩:=h;exact⟨.bool b,by unfold kO;exact⟨b,rfl⟩,by simp[bj]⟩
 |m,.str,v,_,h=>by
  obtain⟨s,rfl,hs⟩:=h;exact⟨.str s,by unfold kO;exact⟨s,rfl,hs⟩,by simp[bj]⟩
 |m,.ptr e,v,hd,_=>by cases m<;>simp[tS] at hd
 |0,.slice e,v,hd,_=>by simp[tS] at hd
 |m+1,.slice e,v,hd,h=>by
  obtain⟨p,n,c,rfl,Rp,hcm,hr⟩:=h;simp only[tS] at hd;cases h0:aan (P.cellsOf e) 0 with
  |true=>rw[h0] at hd;simp at hd
  |false =>
   rw[h0] at hd;simp only[cond_false] at hd;have Y1:0<P.cellsOf e:=by
    rcases Nat.eq_zero_or_pos (P.cellsOf e) with h|h
    ·rw[h] at h0;cases h0
    ·exact h
   split at hd
   ·rename_i ks hks
    simp only[aau] at hd;have hq:=aaM hd.1;have rows:=Ik (n:=n) (p:=fun i (d:List Dt)=>cB P m ks d/\∃b x vs,p=some ⟨b,x,none⟩/\az (wm w) d vs/\∀(j:Nat) (v:Value),vs[j]?=some v->wm w b (x+i*P.cellsOf e+j)=some v) fun i hi=>by
     obtain⟨b,x,hp,hx⟩:=hr Y1 (by omega);obtain⟨_,cs,hl,hc,hrd⟩:=hx i hi;obtain⟨ds,k1,k2⟩:=Aq (Kp m) ks cs hd.2 (ji 8 e ks cs hks hrd);exact⟨ds,k1,b,x,cs,hp,k2,hc⟩
    obtain⟨rows,hl,n5⟩:=rows;refine⟨.list rows,?_,bj.mk (q:=P.cellsOf e) hl.symm (fun d Ri=>?_) ⟨⟨by omega,by omega⟩,?_⟩⟩
    ·unfold kO
     refine⟨rows,rfl,by omega,fun r Na=>?_⟩;obtain⟨i,hi⟩:=aaX.1 Na;exact⟨ks,hks,(n5 i r hi).1⟩
    ·obtain⟨i,hi⟩:=aaX.1 Ri
     rw[(n5 i d hi).1.len,hq]
    ·cases rows with
     |nil=>exact .inl rfl
     |cons r rs =>
      obtain⟨_,b,x,_,hp,_,_⟩:=n5 0 r rfl;refine .inr ⟨b,x,hp,fun i d hi=>?_⟩;obtain⟨_,b',x',vs,lC,k2,k3⟩:=n5 i d hi;rw[hp] at lC;cases lC;exact⟨vs,k2,k3⟩
   ·cases hd
theorem pK.nu {P:aae}{W:World}{t:Nat}{v:Value}(h:pK P W t v){ks:List CK}(hk:eO P 8 t=some ks){m:Nat}(hd:ks.all (tS P m)=true):∃ds,cB P m ks ds/\az (wm W) ds v.cells.toList :=
 Aq (Kp m) ks _ hd (ji 8 t ks _ hk h.2)
theorem qC {α β:Type}{f:α->β}{p:α->Prop}:∀{rows:List β},(∀r∈rows,∃x,r=f x/\p x)->∃xs:List α,rows=xs.map f/\∀x∈xs,p x
 | [],_=>⟨[],rfl,fun x h=>by simp at h⟩
 |r::rows,h=>by
  obtain⟨x,rfl,hx⟩:=h r aar;obtain⟨xs,rfl,hxs⟩:=qC (rows:=rows) fun r hr=>h r (aaq _ hr)
  exact⟨x::xs,rfl,fun y hy=>by
   rcases aaR.1 hy with rfl|hy
   ·exact hx
   ·exact hxs y hy⟩
def bx (im:Mem)(w w':World):Mem:=fun k o=>match im k o with
 |some u=>some u
 |none=>if w.heap.size<=k then w'.cell? ⟨k,o,none⟩ else none
theorem dE {im:Mem}{w w':World}{k o:Nat}{u:Value}(h:im k o=some u):bx im w w' k o=some u:=by simp[bx,h]
theorem cA {im:Mem}{w w':World}{k o:Nat}{u:Value}(hi:∀k o v,im k o=some v->w'.cell? ⟨k,o,none⟩=some v)(hk:w.heap.size<=k)(h:w'.cell? ⟨k,o,none⟩=some u):bx im w w' k o=some u:=by
 unfold bx;cases hv:im k o with
 |some v =>
  have:=hi k o v hv;rw[h] at this;exact this.symm
 |none =>
  simp only;rw[if_pos hk];exact h
theorem Sat.cZ {E:Env}{N:af}{rg:List Rg}{w w':World}(h0:Sat E N rg w)(h:Sat E N rg w'):Sat { E with im:=bx E.im w w' } N rg w' :=
 { h with
  cK:=fun k o v hv=>by
   have hv:bx E.im w w' k o=some v:=hv;unfold bx at hv;cases hu:E.im k o with
   |some u =>
    rw[hu] at hv;cases hv;exact h.cK k o _ hu
   |none =>
    rw[hu] at hv;simp only at hv
    by_cases hk:w.heap.size<=k
    ·rw[if_pos hk] at hv;exact hv
    ·rw[if_neg hk] at hv;cases hv
  lR:=fun r g p hg hp ho j hj=>by
   have h1:=h.lR r g p hg hp ho j hj;have h2:=h0.lt r p hp;show bx E.im w w' p.b (p.o+j)=none;unfold bx;rw[h1];simp only;rw[if_neg (by omega)] }
theorem Goes.cZ {E:eR}{N:af}{k:List It}{s:St}{d:Option Nat}{v:Value}{w w':World}(hN:E.N0.le N)(h:Sat E.toEnv N s.rg w)(hc:aW (fun _ _=>False) w w'){r:SV}(hr:r.den N=some v){f':Fr}(hp:eK E.n s.fr d (.val r)=some f')
  (hx:(∀k o u,E.im k o=some u->bx E.im w w' k o=some u)->(∀k o u,w.heap.size<=k->w'.cell? ⟨k,o,none⟩=some u->bx E.im w w' k o=some u)->X { E with im:=bx E.im w w' } k ⟨f',s.rg⟩):Goes E N k s.fr d v w':=by
 have h':=h.bu hc;refine⟨{ E with im:=bx E.im w w' },N,r,s.rg,f',rfl,rfl,rfl,rfl,fun _ _ h=>h,hN,Sat.cZ h h',hr,hp,?_⟩;exact hx (fun k o u hu=>dE hu) (fun k o u hk hu=>cA h'.cK hk hu)
theorem Sat.wo {E:Env}{N:af}{rg:List Rg}{w:World}(h:Sat E N rg w){m':Mem}(hm:∀k o v,m' k o=some v->E.im k o=some v\/(E.D k o/\w.cell? ⟨k,o,none⟩=some v)):Sat { E with im:=m' } N rg w :=
 { h with
  cK:=fun k o v hv=>(hm k o v hv).elim (h.cK k o v) fun h=>h.2
  lR:=fun r g p hg hp ho j hj=>by
   show m' p.b (p.o+j)=none;cases hv:m' p.b (p.o+j) with
   |none=>rfl
   |some v =>
    rcases hm _ _ _ hv with h1|h1
    ·rw[h.lR r g p hg hp ho j hj] at h1;cases h1
    ·exact absurd h1.1 (h.dd r g p hg hp ho j hj) }
theorem il {O:Nat->Nat->Prop}{W w:World}(hc:aW O W w){b o:Nat}(hs:(W.cell? ⟨b,o,none⟩).isSome=true)(hf:W.frozen? ⟨b,o,none⟩=false):w.frozen? ⟨b,o,none⟩=false:=by
 rw[jh hc _ hs];exact hf
theorem au.at {E:Env}{N0:af}{rg:List Rg}{f:Fr}{g:GK}{t e:TypeId}{x ix:aak}{p:Option Addr}{n c z q b y:Nat}{kd:IntKind}{s:SI}(hx:hY f g x=some (.ao p n c))(lB:hY f g ix=some (.int kd s))(hz:g.T->s.den=(z:Int))(hu:E.P.underlying t=some (.slice e))(hq:∀w,(sizeOf e).run E.P w=.ok q w)(aF:g.T->z<n)
  (hp:p=some ⟨b,y,none⟩) {o:Nat} (ho:o=y+z*q):au E N0 rg f g (.indexAddr t x ix) (.ext b o 0):=by
 intro ht N ρ o' w ck cC df hV;have h1:=df _ _ hx;have h2:=df _ _ lB;simp only[SV.den,hz ht,aA] at h1 h2;refine⟨.pointer (some ⟨b,o+0,none⟩),by simp only[SV.den],fun w' _=>?_⟩;simp only[execOp,cC,<-h1,<-h2,aax,aao,aay];subst hp;have aF:=aF ht;simp[Instr.indexAt,asIntOf,run_underlying hu,aao,aF,hq,dy,ho]
theorem au.eC {E:Env}{N0:af}{rg:List Rg}{f:Fr}{g:GK}{t:TypeId}{x:aak}{b y c:Nat}{r:SV}{v:Value}(hx:hY f g x=some (.ext b y c))(ha:∀w,(isAgg t).run E.P w=.ok false w)(hr:∀N,r.den N=some v)(ct:g.T->E.im b (y+c)=some v):au E N0 rg f g (.load t x) r:=by
 intro ht N ρ o w ck cC df hV;have h1:=df _ _ hx;simp only[SV.den,aA] at h1;refine⟨v,hr N,fun w' Pz=>?_⟩;have hc:=Pz.2 _ _ _ (ct ht);simp only[execOp,cC,<-h1,Instr.loadAt,Instr.sureAddr,loadVar,aax,aay,aao,ha,Bool.false_eq_true,if_false];simp[hc]
end Go.bU
namespace Go.Proofs.YthpbefahaghbjaaGreat
open Go Go.bU
theorem zx {E:Env}{N0:af}{rg:List Rg}{f:Fr}{g:GK}{t e:TypeId}{x ix:Operand}{p:Option Addr}{n c q b y:Nat}{kd:IntKind}{s:SI}{o:Nat}(z:Nat)(hx:hY f g x=some (.ao p n c))(lB:hY f g ix=some (.int kd s))(hp:p=some ⟨b,y,none⟩)(hz:g.T->s.den=(z:Int):=by intro hT;have hT:_=true:=hT;simp[SB.den,SI.den] at hT;(try replace hT:=of_decide_eq_true hT);(try simp (disch:=omega) only [SI.den,a_] at hT);first|omega|(simp (disch:=omega) only [SI.den,a_]<;>omega))(hu:E.P.underlying t=some (.slice e):=by exact Tryz.underlying30)(hq:∀w,(sizeOf e).run E.P w=.ok q w:=by exact Tryz.sizeOf5)(aF:g.T->z<n:=by intro hT;have hT:_=true:=hT;simp[SB.den,SI.den] at hT;(try replace hT:=of_decide_eq_true hT);(try simp (disch:=omega) only [SI.den,a_] at hT);first|omega|(simp (disch:=omega) only [SI.den,a_]<;>omega))(ho:o=y+z*q:=by omega):au E N0 rg f g (.indexAddr t x ix) (.ext b o 0):=au.at hx lB hz hu hq aF hp ho
theorem dg {E:Env}{N0:af}{rg:List Rg}{f:Fr}{g:GK}{t e:TypeId}{x ix:Operand}{p:Option Addr}{n c q b y r:Nat}{kd:IntKind}{s:SI}{np:aS}(z:Nat)(hx:hY f g x=some (.ao p n c))(lB:hY f g ix=some (.int kd s))(hp:p=some ⟨b,y,none⟩)(hN:N0[r]?=some np)(hz:g.T->s.den=(z:Int):=by intro _;first|rfl|(simp (disch:=omega) only [SB.den,SI.den,a_]<;>omega))(hu:E.P.underlying t=some (.slice e):=by exact Tryz.underlying30)(hq:∀w,(sizeOf e).run E.P w=.ok q w:=by exact Tryz.sizeOf5)(aF:z<n:=by omega)(hb:np.b=b:=by rfl)(ho:np.o=y+z*q:=by simp):au E N0 rg f g (.indexAddr t x ix) (.own r 0):=au.row hx lB hz hu hq aF hp hN hb ho
structure bW where
 (count node cR:Int)
 deriving DecidableEq
structure jz where
 (err inc state:Int) (vars:List Int)
 deriving DecidableEq
structure cE where
 (ij seq:Int) (cD:jz)
 deriving DecidableEq
structure ek where
 (n target sN arg:Int)
 deriving DecidableEq
structure er where
 (source inc cell:Int)
 deriving DecidableEq
structure dJ where
 (kind inc state:Int) (vars:List Int) (done:List cE) (out:List ek) (last:Int) (marks:List er)
 deriving DecidableEq
structure cO where
 (c:Int) (c_ new:List Int)
 deriving DecidableEq
structure ur where
 (kind key:Int) (promise acc:bW) (a8:dJ) (jK cR:Int) (kP:cO)
 deriving DecidableEq
structure lS where
 (has:Bool) (promise acc:bW) (a8:dJ)
 deriving DecidableEq
structure Jw where
 (zp:List lS) (jK cR:Int) (kP:cO)
 deriving DecidableEq
def jI (z:Int):List Dt:=[.int .i64 z]
def qU (z:Int):List Dt:=[.int .u8 z]
def bW.toD (x:bW):List Dt:=[.int .u64 x.count,.int .u8 x.node,.int .u32 x.cR]
def jz.toD (x:jz):List Dt:=[.int .i64 x.err,.int .u64 x.inc,.int .i64 x.state,.list (x.vars.map jI)]
def cE.toD (x:cE):List Dt:=.int .u8 x.ij::.int .u64 x.seq::x.cD.toD
def ek.toD (x:ek):List Dt:=[.int .u64 x.n,.int .u8 x.target,.int .i64 x.sN,.int .i64 x.arg]
def er.toD (x:er):List Dt:=[.int .u8 x.source,.int .u64 x.inc,.int .u64 x.cell]
def dJ.toD (x:dJ):List Dt:=[.int .u8 x.kind,.int .u64 x.inc,.int .i64 x.state,.list (x.vars.map jI),.list (x.done.map cE.toD),.list (x.out.map ek.toD),.int .u64 x.last,.list (x.marks.map er.toD)]
def cO.toD (x:cO):List Dt:=[.int .u64 x.c,.list (x.c_.map qU),.list (x.new.map qU)]
def ur.toD (x:ur):List Dt:=.int .u8 x.kind::.int .u8 x.key::(x.promise.toD++(x.acc.toD++(x.a8.toD++.int .u64 x.jK::.int .u32 x.cR::x.kP.toD)))
def lS.toD (x:lS):List Dt:=.bool x.has::(x.promise.toD++(x.acc.toD++x.a8.toD))
def Jw.toD (x:Jw):List Dt:=(x.zp.map lS.toD).flatten++.int .u64 x.jK::.int .u32 x.cR::x.kP.toD
theorem xd {l:List Int}:∀d∈l.map jI,d.length=1:=fun d hd=>by obtain⟨x,_,rfl⟩:=aas.1 hd;rfl
theorem zr {l:List Int}:∀d∈l.map qU,d.length=1:=fun d hd=>by obtain⟨x,_,rfl⟩:=aas.1 hd;rfl
theorem G9 {l:List cE}:∀d∈l.map cE.toD,d.length=6:=fun d hd=>by obtain⟨x,_,rfl⟩:=aas.1 hd;rfl
theorem G8 {l:List ek}:∀d∈l.map ek.toD,d.length=4:=fun d hd=>by obtain⟨x,_,rfl⟩:=aas.1 hd;rfl
theorem G_ {l:List er}:∀d∈l.map er.toD,d.length=3:=fun d hd=>by obtain⟨x,_,rfl⟩:=aas.1 hd;rfl
variable {M:Mem} {vs:List Value}
theorem jI.open {x:Int}(h:az M (jI x) vs):vs=[.int .i64 x]:=by
 simp only[jI,az,bj] at h;obtain⟨_,_,rfl,rfl,rfl⟩:=h;rfl
theorem qU.open {x:Int}(h:az M (qU x) vs):vs=[.int .u8 x]:=by
 simp only[qU,az,bj] at h;obtain⟨_,_,rfl,rfl,rfl⟩:=h;rfl
theorem bW.open {x:bW}(h:az M x.toD vs):vs=[.int .u64 x.count,.int .u8 x.node,.int .u32 x.cR]:=by
 simp only[bW.toD,az,bj] at h;obtain⟨_,_,rfl,rfl,_,_,rfl,rfl,_,_,rfl,rfl,rfl⟩:=h;rfl
theorem ek.open {x:ek}(h:az M x.toD vs):vs=[.int .u64 x.n,.int .u8 x.target,.int .i64 x.sN,.int .i64 x.arg]:=by
 simp only[ek.toD,az,bj] at h;obtain⟨_,_,rfl,rfl,_,_,rfl,rfl,_,_,rfl,rfl,_,_,rfl,rfl,rfl⟩:=h;rfl
theorem er.open {x:er}(h:az M x.toD vs):vs=[.int .u8 x.source,.int .u64 x.inc,.int .u64 x.cell]:=by
 simp only[er.toD,az,bj] at h;obtain⟨_,_,rfl,rfl,_,_,rfl,rfl,_,_,rfl,rfl,rfl⟩:=h;rfl
theorem az.cons {d:Dt}{ds:List Dt}(h:az M (d::ds) vs):∃v r,vs=v::r/\bj M d v/\az M ds r:=by simpa only [az] using h
theorem az.nil (h:az M [] vs):vs=[]:=by simpa only [az] using h
theorem bj.cG {k:IntKind}{z:Int}{v:Value}(h:bj M (.int k z) v):v=.int k z:=by simpa only [bj] using h
theorem bj.BP {b:Bool}{v:Value}(h:bj M (.bool b) v):v=.bool b:=by simpa only [bj] using h
theorem jz.open {x:jz}(h:az M x.toD vs):∃p c,vs=[.int .i64 x.err,.int .u64 x.inc,.int .i64 x.state,.slice p x.vars.length c]/\dC M p c 1 (x.vars.map jI):=by
 unfold jz.toD at h;obtain⟨_,_,rfl,h0,h⟩:=az.cons h;obtain⟨_,_,rfl,h1,h⟩:=az.cons h;obtain⟨_,_,rfl,h2,h⟩:=az.cons h;obtain⟨_,_,rfl,h3,h⟩:=az.cons h;have hn:=az.nil h;subst hn;obtain⟨p,c,rfl,hs⟩:=h3.list xd;rw[bj.cG h0,bj.cG h1,bj.cG h2,aai];exact⟨p,c,rfl,hs⟩
theorem cE.open {x:cE}(h:az M x.toD vs):∃p c,vs=[.int .u8 x.ij,.int .u64 x.seq,.int .i64 x.cD.err,.int .u64 x.cD.inc,.int .i64 x.cD.state,.slice p x.cD.vars.length c]/\dC M p c 1 (x.cD.vars.map jI):=by
 unfold cE.toD at h;obtain⟨_,_,rfl,h0,h⟩:=az.cons h;obtain⟨_,_,rfl,h1,h⟩:=az.cons h;obtain⟨p,c,rfl,hs⟩:=jz.open h;rw[bj.cG h0,bj.cG h1];exact⟨p,c,rfl,hs⟩
theorem dJ.open {x:dJ}(h:az M x.toD vs):∃vp vc dp dc op oc mp mc,vs=[.int .u8 x.kind,.int .u64 x.inc,.int .i64 x.state,.slice vp x.vars.length vc,.slice dp x.done.length dc,.slice op x.out.length oc,.int .u64 x.last,.slice mp x.marks.length mc] /\
  dC M vp vc 1 (x.vars.map jI)/\dC M dp dc 6 (x.done.map cE.toD)/\dC M op oc 4 (x.out.map ek.toD)/\dC M mp mc 3 (x.marks.map er.toD):=by
 unfold dJ.toD at h;obtain⟨_,_,rfl,h0,h⟩:=az.cons h;obtain⟨_,_,rfl,h1,h⟩:=az.cons h;obtain⟨_,_,rfl,h2,h⟩:=az.cons h;obtain⟨_,_,rfl,h3,h⟩:=az.cons h;obtain⟨_,_,rfl,h4,h⟩:=az.cons h;obtain⟨_,_,rfl,h5,h⟩:=az.cons h;obtain⟨_,_,rfl,h6,h⟩:=az.cons h;obtain⟨_,_,rfl,h7,h⟩:=az.cons h;have hn:=az.nil h;subst hn;obtain⟨p3,c3,rfl,hs3⟩:=h3.list xd;obtain⟨p4,c4,rfl,Zb⟩:=h4.list G9;obtain⟨p5,c5,rfl,hs5⟩:=h5.list G8;obtain⟨p7,c7,rfl,hs7⟩:=h7.list G_;rw[bj.cG h0,bj.cG h1,bj.cG h2,bj.cG h6,aai,aai,aai,aai];exact⟨p3,c3,p4,c4,p5,c5,p7,c7,rfl,hs3,Zb,hs5,hs7⟩
theorem cO.open {x:cO}(h:az M x.toD vs):∃op oc np nc,vs=[.int .u64 x.c,.slice op x.c_.length oc,.slice np x.new.length nc]/\dC M op oc 1 (x.c_.map qU)/\dC M np nc 1 (x.new.map qU):=by
 unfold cO.toD at h;obtain⟨_,_,rfl,h0,h⟩:=az.cons h;obtain⟨_,_,rfl,h1,h⟩:=az.cons h;obtain⟨_,_,rfl,h2,h⟩:=az.cons h;have hn:=az.nil h;subst hn;obtain⟨p1,c1,rfl,WZ⟩:=h1.list zr;obtain⟨p2,c2,rfl,qy⟩:=h2.list zr;rw[bj.cG h0,aai,aai];exact⟨p1,c1,p2,c2,rfl,WZ,qy⟩
theorem ur.open {x:ur}(h:az M x.toD vs):∃rv cv,vs=.int .u8 x.kind::.int .u8 x.key::.int .u64 x.promise.count::.int .u8 x.promise.node::.int .u32 x.promise.cR::.int .u64 x.acc.count::.int .u8 x.acc.node::.int .u32 x.acc.cR::(rv++.int .u64 x.jK::.int .u32 x.cR::cv) /\
  az M x.a8.toD rv/\az M x.kP.toD cv:=by
 unfold ur.toD at h;obtain⟨_,_,rfl,h0,h⟩:=az.cons h;obtain⟨_,_,rfl,h1,h⟩:=az.cons h;obtain⟨pv,_,rfl,h2,h⟩:=h.split;obtain⟨av,_,rfl,h3,h⟩:=h.split;obtain⟨rv,_,rfl,h4,h⟩:=h.split;obtain⟨_,_,rfl,h5,h⟩:=az.cons h;obtain⟨_,cv,rfl,h6,h⟩:=az.cons h;rw[bj.cG h0,bj.cG h1,bj.cG h5,bj.cG h6,bW.open h2,bW.open h3];exact⟨rv,cv,rfl,h4,h⟩
theorem lS.open {x:lS}(h:az M x.toD vs):∃rv,vs=.bool x.has::.int .u64 x.promise.count::.int .u8 x.promise.node::.int .u32 x.promise.cR::.int .u64 x.acc.count::.int .u8 x.acc.node::.int .u32 x.acc.cR::rv/\az M x.a8.toD rv:=by
 unfold lS.toD at h;obtain⟨_,_,rfl,h0,h⟩:=az.cons h;obtain⟨pv,_,rfl,h2,h⟩:=h.split;obtain⟨av,rv,rfl,h3,h⟩:=h.split;rw[bj.BP h0,bW.open h2,bW.open h3];exact⟨rv,rfl,h⟩
end Go.Proofs.YthpbefahaghbjaaGreat
namespace Go.Proofs.YthpbefahaghbjaaGreat
open Go Go.bU Go.Sort
def fh (w:World)(b y:Nat)(d:Array Int):Prop:=∀k,k<d.size->w.cell? ⟨b,y+k,none⟩=some (.int .u8 d[k]!)/\w.frozen? ⟨b,y+k,none⟩=false
def nO (m0:Mem)(b y:Nat)(d:Array Int):Mem:=fun k o=>if k=b/\y<=o/\o<y+d.size then some (.int .u8 d[o-y]!) else m0 k o
theorem bK {m0:Mem}{b y i:Nat}{d:Array Int}(h:i<d.size):nO m0 b y d b (y+i)=some (.int .u8 d[i]!):=by
 unfold nO;rw[if_pos (by omega),Nat.add_sub_cancel_left]
theorem oU {m0:Mem}{b y k o:Nat}{d:Array Int}{v:Value}(h:nO m0 b y d k o=some v):((k=b/\y<=o/\o<y+d.size)/\v=.int .u8 d[o-y]!)\/(¬(k=b/\y<=o/\o<y+d.size)/\m0 k o=some v):=by
 unfold nO at h
 by_cases e:k=b/\y<=o/\o<y+d.size
 ·rw[if_pos e] at h
  exact .inl ⟨e,(Option.some.inj h).symm⟩
 ·rw[if_neg e] at h
  exact .inr ⟨e,h⟩
@[reducible] noncomputable def aE (P:aae) (fn:aag) (Q:aaf->World->Prop) (w:World) (b y n:Nat) (m0:Mem) (d:Array Int) (N0:af) (B:aH):eR :=
 aK P fn Q w (cW b y n) (nO m0 b y d) (cW b y n) (fun _=>True) N0 B
def q_ (b y n i j:Nat):Nat->Nat->Prop:=fun k o=>k=b/\y<=o/\o<y+n/\o≠y+i/\o≠y+j
def iH (m0:Mem)(b y i j:Nat)(d:Array Int):Mem:=fun k o=>if k=b/\(o=y+i\/o=y+j) then none else nO m0 b y d k o
theorem X.ly {P:aae}{f:FuncId}{fn:aag}{c:Code}{args:Array Value}{w:World}{Q:aaf->World->Prop}{b y n:Nat}{d:Array Int}(hA:fh w b y d)(hn:d.size=n){ss:List SV}(hf:P.funcs[f]?=some fn)(hb:fn.body=some c){B:aH}(dH:aD B fn.body=true)
  (hle:Nat.ble args.size fn.ntmps=true) (ha:SV.ap [] ss=some args.toList) (h:X (aE P fn Q w b y n (wm w) d [] B) [.code c] ⟨kU ss 0,[]⟩):Calls P f args w Q:=by
 refine X.enter (aE P fn Q w b y n (wm w) d [] B) hf hb rfl rfl rfl (by rw[hb] at dH;exact dH) (aaL hle) ha ?_ h;refine⟨rfl,by simp,by simp,by simp,by simp,by simp,by simp,by simp,fun k o v hv=>?_,by simp,by simp,?_,fun _ _ _ _ _=>trivial,trivial,aW.refl _ _,by simp⟩
 ·rcases oU hv with ⟨⟨e1,e2,e3⟩,e4⟩|⟨_,e⟩
  ·have:=(hA (o-y) (by omega)).1
   rw[show y+(o-y)=o by omega] at this;rw[e1,this,e4]
  ·exact e
 ·rintro k o ⟨rfl,e2,e3⟩
  have:=(hA (o-y) (by omega)).1;rw[show y+(o-y)=o by omega] at this;exact .inl (by rw[this];rfl)
section
variable {P:aae} {fn:aag} {Q:aaf->World->Prop} {W:World} {b y n:Nat} {m0:Mem} {d d0:Array Int} {N0:af} {B:aH} {k:List It} {s:St}
theorem X.jx (hA:fh W b y d0)(h0:d0.size=n)(hn:d.size=n){i j:Nat}{xi xj:Int}(iK:i≠j)(hi:i<n)(hj:j<n)(gf:d[i]! = xi)(gZ:d[j]! = xj)(kF:∀g∈s.rg,g.own=true\/g.cells=[])
  (h:∀N:af,N0.le N->N.length=s.rg.length->X (aK P fn Q W (cW b y n) (iH m0 b y i j d) (q_ b y n i j) (fun _=>True) ((N++[⟨b,y+i,1⟩])++[⟨b,y+j,1⟩]) B) k ⟨s.fr,(s.rg++[⟨true,[.int .u8 (.v xi)],none⟩])++[⟨true,[.int .u8 (.v xj)],none⟩]⟩) :
  X (aE P fn Q W b y n m0 d N0 B) k s:=by
 refine X.conv fun N a w hN hf hS=>?_
 refine⟨aK P fn Q W (cW b y n) (iH m0 b y i j d) (q_ b y n i j) (fun _=>True) ((N++[⟨b,y+i,1⟩])++[⟨b,y+j,1⟩]) B,⟨s.fr,(s.rg++[⟨true,[.int .u8 (.v xi)],none⟩])++[⟨true,[.int .u8 (.v xj)],none⟩]⟩,rfl,rfl,rfl,rfl,⟨_,af.le.refl _,(hf.mono (af.aZ N [⟨b,y+i,1⟩])).mono (af.aZ _ _),?_⟩,h N hN hS.len⟩;have ci:w.cell? ⟨b,y+i,none⟩=some (.int .u8 xi):=by rw[<-gf];exact hS.cK _ _ _ (bK (by omega))
 have cj:w.cell? ⟨b,y+j,none⟩=some (.int .u8 xj):=by rw[<-gZ];exact hS.cK _ _ _ (bK (by omega))
 have fz:∀q,q<n->w.frozen? ⟨b,y+q,none⟩=false:=fun q hq=>by
  obtain⟨h1,h2⟩:=hA q (by omega);exact il hS.aM (by rw[h1];rfl) h2
 have s1:Sat { (aE P fn Q W b y n m0 d N0 B).toEnv with im:=iH m0 b y i j d } N s.rg w:=Sat.wo hS fun k o v hv=>.inl (by
  unfold iH at hv
  split at hv
  ·cases hv
  ·exact hv)
 have s2:=s1.focus (b:=b) (o:=y+i) (cs:=[.int .u8 (.v xi)]) (fun k o=>cW b y n k o/\o≠y+i) (fun _=>True) (aaJ _ _ ci)
  (fun q c hq=>by cases q with
   |zero=>simp at hq;subst hq;exact⟨_,rfl,ci⟩
   |succ q=>simp at hq)
  (fun q hq=>by simp at hq;subst hq;exact fz i hi) (fun q hq=>by simp at hq;subst hq;exact⟨rfl,by omega,by omega⟩)
  (fun k o ⟨h1,h2⟩=>⟨h1,by simp;intro _ _;omega⟩) (.inr fun q hq=>by simp at hq;subst hq;exact⟨rfl,by omega,by omega⟩)
  (fun q hq=>by simp at hq;subst hq;simp[iH]) kF (fun _ _ _ _ _=>trivial) trivial
 have s3:=s2.focus (b:=b) (o:=y+j) (cs:=[.int .u8 (.v xj)]) (q_ b y n i j) (fun _=>True) (aaJ _ _ cj)
  (fun q c hq=>by cases q with
   |zero=>simp at hq;subst hq;exact⟨_,rfl,cj⟩
   |succ q=>simp at hq)
  (fun q hq=>by simp at hq;subst hq;exact fz j hj) (fun q hq=>by simp at hq;subst hq;exact⟨⟨rfl,by omega,by omega⟩,by omega⟩)
  (fun k o ⟨h1,h2,h3,h4,h5⟩=>⟨⟨⟨h1,h2,h3⟩,h4⟩,by simp;intro _ _;omega⟩) (.inr fun q hq=>by simp at hq;subst hq;exact⟨rfl,by omega,by omega⟩)
  (fun q hq=>by simp at hq;subst hq;simp[iH]) (fun g hg=>by
   rcases List.mem_append.1 hg with hg|hg
   ·exact kF g hg
   ·simp at hg;subst hg;exact .inl rfl) (fun _ _ _ _ _=>trivial) trivial
 exact s3
theorem Df {i j q:Nat}(hi:i<d.size)(hj:j<d.size)(hq:q<d.size):(swp d i j)[q]! = if q=j then d[i]! else if q=i then d[j]! else d[q]! := by
 have hs:q<(swp d i j).size:=by simpa[swp] using hq
 have h1:∀(x:Array Int) (h:q<x.size),x[q]! = x[q]:=fun x h=>getElem!_pos x q h
 rw[h1 _ hs];simp only[swp];rw[aaQ (by simpa using hq)]
 by_cases e:q=j
 ·subst e;simp
 ·rw[if_neg (fun h=>e h.symm),if_neg e,aaQ hq]
  by_cases e2:q=i
  ·subst e2;simp
  ·rw[if_neg (fun h=>e2 h.symm),if_neg e2,h1 _ hq]
theorem bQ (d:Array Int)(i j:Nat):(swp d i j).size=d.size:=by simp[swp]
theorem X.jo {i j r:Nat}{xi xj:Int}(hn:d.size=n)(iK:i≠j)(hi:i<n)(hj:j<n)(gf:d[i]! = xi)(gZ:d[j]! = xj){N:af}(h1:s.rg[r]?=some ⟨true,[.int .u8 (.v xj)],none⟩)(h2:s.rg[r+1]?=some ⟨true,[.int .u8 (.v xi)],none⟩)(p1:N[r]?=some ⟨b,y+i,1⟩)(p2:N[r+1]?=some ⟨b,y+j,1⟩)
  (h:X (aE P fn Q W b y n m0 (swp d i j) N B) k ⟨s.fr,(s.rg.set r ⟨false,[],none⟩).set (r+1) ⟨false,[],none⟩⟩) :
  X (aK P fn Q W (cW b y n) (iH m0 b y i j d) (q_ b y n i j) (fun _=>True) N B) k s:=by
 refine X.conv fun N' a w hN hf hS=>?_
 refine⟨aE P fn Q W b y n m0 (swp d i j) N B,⟨s.fr,(s.rg.set r ⟨false,[],none⟩).set (r+1) ⟨false,[],none⟩⟩,rfl,rfl,rfl,rfl,⟨N',hN,hf,?_⟩,h⟩;have q1:=hN r _ p1;have q2:=hN _ _ p2;have c1:=hS.cell r _ _ h1 q1 0 _ rfl;have c2:=hS.cell _ _ _ h2 q2 0 _ rfl;simp only[SV.den,SI.den,aA,aaw] at c1 c2;obtain⟨_,rfl,c1⟩:=c1;obtain⟨_,rfl,c2⟩:=c2;have s1:=Sat.Pr hS h1 q1 rfl (fun k o=>q_ b y n i j k o\/(k=b/\o=y+i)) (fun _=>True) (fun k o hk=>hk.imp id fun⟨e1,e2⟩=>⟨e1,by show y+i<=o;omega,by show o<y+i+1;omega⟩) (fun _ _ _ _ _=>trivial) trivial;have h2':(s.rg.set r ⟨false,[],none⟩)[r+1]?=some ⟨true,[.int .u8 (.v xi)],none⟩:=by rw[List.getElem?_set_ne (by omega)];exact h2
 have s2:=Sat.Pr s1 h2' q2 rfl (cW b y n) (fun _=>True) (fun k o ⟨e1,e2,e3⟩=>by
  by_cases a1:o=y+j
  ·exact .inr ⟨e1,by show y+j<=o;omega,by show o<y+j+1;omega⟩
  ·by_cases a2:o=y+i
   ·exact .inl (.inr ⟨e1,a2⟩)
   ·exact .inl (.inl ⟨e1,e2,e3,a2,a1⟩)) (fun _ _ _ _ _=>trivial) trivial
 refine Sat.wo (m':=nO m0 b y (swp d i j)) s2 fun k o v hv=>?_
 show iH m0 b y i j d k o=some v\/_;rcases oU hv with ⟨⟨e1,e2,e3⟩,e4⟩|⟨e,hv⟩
 ·rw[bQ] at e3
  have hq:o-y<d.size:=by omega
  rw[Df (by omega) (by omega) hq] at e4
  by_cases a1:o=y+j
  ·refine .inr ⟨⟨e1,e2,by omega⟩,?_⟩
   rw[if_pos (by omega),gf] at e4;rw[e1,a1,c2,e4]
  ·by_cases a2:o=y+i
   ·refine .inr ⟨⟨e1,e2,by omega⟩,?_⟩
    rw[if_neg (by omega),if_pos (by omega),gZ] at e4;rw[e1,a2,c1,e4]
   ·left
    rw[if_neg (by omega),if_neg (by omega)] at e4;unfold iH nO;rw[if_neg (by rintro⟨_,e|e⟩;exact a2 e;exact a1 e),if_pos ⟨e1,e2,e3⟩,e4]
 ·left
  rw[bQ] at e;unfold iH nO;rw[if_neg (by rintro⟨e1,e2|e2⟩<;>exact e ⟨e1,by omega,by omega⟩),if_neg e];exact hv
theorem eX {i:Nat}(hi:i<d.size):swp d i i=d:=by
 apply Array.ext
 ·simp[swp]
 ·intro q h1 h2
  have:=Df (d:=d) hi hi (q:=q) (by simpa[swp] using h1);rw[getElem!_pos _ q h1,getElem!_pos d q h2] at this;rw[this]
  split
  ·rename_i e;subst e;rw[getElem!_pos d _ hi]
  ·rfl
theorem X.oL (hA:fh W b y d0)(h0:d0.size=n)(hn:d.size=n){i:Nat}{xi:Int}(hi:i<n)(gf:d[i]! = xi)(kF:∀g∈s.rg,g.own=true\/g.cells=[])
  (h:∀N:af,N0.le N->N.length=s.rg.length->X (aK P fn Q W (cW b y n) (iH m0 b y i i d) (q_ b y n i i) (fun _=>True) (N++[⟨b,y+i,1⟩]) B) k ⟨s.fr,s.rg++[⟨true,[.int .u8 (.v xi)],none⟩]⟩) :
  X (aE P fn Q W b y n m0 d N0 B) k s:=by
 refine X.conv fun N a w hN hf hS=>?_
 refine⟨aK P fn Q W (cW b y n) (iH m0 b y i i d) (q_ b y n i i) (fun _=>True) (N++[⟨b,y+i,1⟩]) B,⟨s.fr,s.rg++[⟨true,[.int .u8 (.v xi)],none⟩]⟩,rfl,rfl,rfl,rfl,⟨_,af.le.refl _,hf.mono (af.aZ _ _),?_⟩,h N hN hS.len⟩;have ci:w.cell? ⟨b,y+i,none⟩=some (.int .u8 xi):=by rw[<-gf];exact hS.cK _ _ _ (bK (by omega))
 have fz:w.frozen? ⟨b,y+i,none⟩=false:=by
  obtain⟨h1,h2⟩:=hA i (by omega);exact il hS.aM (by rw[h1];rfl) h2
 have s1:Sat { (aE P fn Q W b y n m0 d N0 B).toEnv with im:=iH m0 b y i i d } N s.rg w:=Sat.wo hS fun k o v hv=>.inl (by
  unfold iH at hv
  split at hv
  ·cases hv
  ·exact hv)
 exact s1.focus (b:=b) (o:=y+i) (cs:=[.int .u8 (.v xi)]) (q_ b y n i i) (fun _=>True) (aaJ _ _ ci)
  (fun q c hq=>by cases q with
   |zero=>simp at hq;subst hq;exact⟨_,rfl,ci⟩
   |succ q=>simp at hq)
  (fun q hq=>by simp at hq;subst hq;exact fz) (fun q hq=>by simp at hq;subst hq;exact⟨rfl,by omega,by omega⟩)
  (fun k o ⟨h1,h2,h3,h4,h5⟩=>⟨⟨h1,h2,h3⟩,by simp;intro _ _;omega⟩) (.inr fun q hq=>by simp at hq;subst hq;exact⟨rfl,by omega,by omega⟩)
  (fun q hq=>by simp at hq;subst hq;simp[iH]) kF (fun _ _ _ _ _=>trivial) trivial
theorem X.nW {i r:Nat}{xi:Int}(hn:d.size=n)(hi:i<n)(gf:d[i]! = xi){N:af}(h1:s.rg[r]?=some ⟨true,[.int .u8 (.v xi)],none⟩)(p1:N[r]?=some ⟨b,y+i,1⟩)
  (h:X (aE P fn Q W b y n m0 d N B) k ⟨s.fr,s.rg.set r ⟨false,[],none⟩⟩) :
  X (aK P fn Q W (cW b y n) (iH m0 b y i i d) (q_ b y n i i) (fun _=>True) N B) k s:=by
 refine X.conv fun N' a w hN hf hS=>?_
 refine⟨aE P fn Q W b y n m0 d N B,⟨s.fr,s.rg.set r ⟨false,[],none⟩⟩,rfl,rfl,rfl,rfl,⟨N',hN,hf,?_⟩,h⟩;have q1:=hN r _ p1;have c1:=hS.cell r _ _ h1 q1 0 _ rfl;simp only[SV.den,SI.den,aA,aaw] at c1;obtain⟨_,rfl,c1⟩:=c1;have s2:=Sat.Pr hS h1 q1 rfl (cW b y n) (fun _=>True) (fun k o ⟨e1,e2,e3⟩=>by
  by_cases a1:o=y+i
  ·exact .inr ⟨e1,by show y+i<=o;omega,by show o<y+i+1;omega⟩
  ·exact .inl ⟨e1,e2,e3,a1,a1⟩) (fun _ _ _ _ _=>trivial) trivial
 refine Sat.wo (m':=nO m0 b y d) s2 fun k o v hv=>?_
 show iH m0 b y i i d k o=some v\/_
 by_cases e:k=b/\o=y+i
 ·have hv:nO m0 b y d k o=some v:=hv
  rw[e.1,e.2,bK (by omega),gf] at hv;exact .inr ⟨⟨e.1,by omega,by omega⟩,by rw[e.1,e.2,c1,hv]⟩
 ·left
  unfold iH;rw[if_neg (by rintro⟨e1,e2|e2⟩<;>exact e ⟨e1,e2⟩)];exact hv
theorem Goes.kK {N:af}{dst:Option Nat}{v:Value}{w w':World}{d':Array Int}(hN:N0.le N)(hS:Sat (aE P fn Q W b y n m0 d N0 B).toEnv N s.rg w)(hn:d.size=n)(hn':d'.size=n)(hA:fh w' b y d')(hc:aW (cW b y n) w w')(kF:∀g∈s.rg,g.own=true\/g.cells=[])
  {r:SV} (hr:r.den N=some v) {f':Fr} (hp:eK fn.ntmps s.fr dst (.val r)=some f') (h:X (aE P fn Q W b y n m0 d' N0 B) k ⟨f',s.rg⟩):Goes (aE P fn Q W b y n m0 d N0 B) N k s.fr dst v w':=by
 refine⟨aE P fn Q W b y n m0 d' N0 B,N,r,s.rg,f',rfl,rfl,rfl,rfl,af.le.refl N,hN,?_,hr,hp,h⟩;have s1:Sat { (aE P fn Q W b y n m0 d N0 B).toEnv with im:=fun k o=>if k=b/\y<=o/\o<y+n then none else m0 k o } N s.rg w:=Sat.wo hS fun k o v hv=>.inl (by
  by_cases e:k=b/\y<=o/\o<y+n
  ·rw[if_pos e] at hv;cases hv
  ·rw[if_neg e] at hv
   show nO m0 b y d k o=some v;unfold nO;rw[hn,if_neg e];exact hv)
 have s2:=Sat.turn s1 (w':=w') (D':=cW b y n) (R':=fun _=>True) hc (fun k o h=>.inr h) (fun k o h=>if_pos h) kF (fun k o hd=>⟨.inl hd,by
  obtain⟨rfl,e2,e3⟩:=hd;have:=(hA (o-y) (by omega)).1;rw[show y+(o-y)=o by omega] at this;exact .inl (by rw[this];rfl)⟩) (fun _ _ _ _ _=>trivial) trivial
 refine Sat.wo (m':=nO m0 b y d') s2 fun k o v hv=>?_
 rcases oU hv with ⟨⟨e1,e2,e3⟩,e4⟩|⟨e,hv⟩
 ·refine .inr ⟨⟨e1,e2,by omega⟩,?_⟩
  have:=(hA (o-y) (by omega)).1;rw[show y+(o-y)=o by omega] at this;rw[e1,this,e4]
 ·left
  show(if k=b/\y<=o/\o<y+n then none else m0 k o)=some v;rw[if_neg (by rw[<-hn'];exact e)];exact hv
theorem Sat.kK {N:af}{w:World}{rg:List Rg}(hS:Sat (aE P fn Q W b y n m0 d N0 B).toEnv N rg w)(hA:fh W b y d0)(h0:d0.size=n)(hn:d.size=n):fh w b y d/\aW (cW b y n) W w:=by
 refine⟨fun q hq=>⟨hS.cK _ _ _ (bK hq),?_⟩,hS.aM⟩;obtain⟨h1,h2⟩:=hA q (by omega);exact il hS.aM (by rw[h1];rfl) h2
def yy (b y n:Nat)(w:World)(d':Array Int):aaf->World->Prop:=fun e w'=>e=.returned (.tuple #[])/\fh w' b y d'/\aW (cW b y n) w w'
end
theorem AM (x:Int)(w:World):Calls aaj 80 #[.int .u8 x] w fun e w'=>e=.returned (.bool false)/\aW (fun _ _=>False) w w':=by
 refine X.begin (rg:=[]) (N:=[]) (ss:=[.int .u8 (.v x)]) Tryz.func80 rfl DP rfl rfl Sat.bp ?_;refine X.go vm 400 _ rfl Tryz.results80 ?_
 conv=>arg 2;cbv
 refine X.done vm rfl (fun N w' v hN hS hv=>⟨aw hv ?_,hS.aM.mono fun k o _ h=>aB h⟩);simp[SB.den,SI.den]
theorem Lr (x y:Int)(w:World):Calls aaj 120 #[.int .u8 x,.int .u8 y] w fun e w'=>e=.returned (.bool (ltInt x y))/\aW (fun _ _=>False) w w':=by
 refine X.begin (rg:=[]) (N:=[]) (ss:=[.int .u8 (.v x),.int .u8 (.v y)]) Tryz.func120 rfl FD rfl rfl Sat.bp ?_;refine X.dk ([(6,.bool (.lit false))]) zT 400 _ rfl Tryz.results120 (fun pr fin aj ai=>?_)
 conv=>cbv
 refine⟨aj _ (.of Tryz.call80 [.int .u8 x] (.bool false) (fun _=>rfl) (fun _=>rfl) fun _ w1 _=>AM x w1),ai _ _ ?_⟩;refine X.done zT rfl (fun N w' v hN hS hv=>⟨aw hv ?_,hS.aM.mono fun k o _ h=>aB h⟩);simp only[SB.den,SI.den,ltInt];exact decide_eq_decide.2 Iff.rfl
theorem dq {E:Env}(hE:E.P=aaj){N0:af}{rg:List Rg}{k:GK}{x y:Int}{q:Bool}(hq:q=ltInt x y):nz E N0 rg k 120 [.int .u8 (.v x),.int .u8 (.v y)] (.bool (.v q)):=by
 refine .of (by rw[hE];exact Tryz.call120) [.int .u8 x,.int .u8 y] (.bool q) (fun _=>rfl) (fun _=>rfl) fun _ w1 _=>?_
 rw[hE,hq];exact Lr x y w1
theorem P3 (b y n c a e:Nat)(d:Array Int)(w:World)(hA:fh w b y d)(hn:d.size=n)(han:a<=n)(Dv:e<=n)(fA:n<4611686018427387904) :
  Calls aaj 114 #[.slice (some ⟨b,y,none⟩) n c,.int .i64 a,.int .i64 e] w (yy b y n w (insertionSort ltInt d a e)):=by
 obtain⟨F,hF⟩:∃F,F=insertionSort ltInt d a e:=⟨_,rfl⟩;rw[<-hF];obtain⟨p,hp⟩:∃p,p=some (Addr.mk b y none):=⟨_,rfl⟩;rw[<-hp];refine X.ly hA hn (ss:=[.ao p n c,.int .i64 (.nat a),.int .i64 (.nat e)]) Tryz.func114 rfl Fx rfl rfl ?_;refine X.go jQ 400 _ rfl aal ?_
 conv=>arg 2;cbv
 refine X.loop (fun g:{g:Nat × Array Int // g.2.size=n/\a+1<=g.1/\g.1<=n+1/\insOuter ltInt a e g.1 g.2=F}=>aE aaj aaz _ w b y n (wm w) g.1.2 [] DF)
  (fun g=>⟨[(0,.val (.ao p n c)),(1,.val (.int .i64 (.nat a))),(2,.val (.int .i64 (.nat e))),(6,.val (.int .i64 (.nat g.1.1)))],[]⟩) (fun g=>n+1-g.1.1) (fun _=>⟨rfl,rfl,rfl,rfl⟩)
  (fun N ac w' hN hf hS=>⟨⟨(a+1,d),hn,aaB _,by omega,hF.symm⟩,?_⟩) (fun g q' cF=>?_)
 ·exact At.eJ hf hS trivial
 obtain⟨⟨i,d1⟩,jT,bI,yb,gO⟩:=g;simp only at jT bI yb gO;show X (aE aaj aaz _ w b y n (wm w) d1 [] DF) _ ⟨[(0,.val (.ao p n c)),(1,.val (.int .i64 (.nat a))),(2,.val (.int .i64 (.nat e))),(6,.val (.int .i64 (.nat i)))],[]⟩;refine X.go jQ 400 _ rfl aal ?_
 conv=>arg 2;cbv
 refine X.cond rfl (fun aF=>?_) (fun cJ=>?_)
 ·simp only[SB.T,SI.den] at aF
  have aF:i<e:=by omega
  refine X.go jQ 400 _ rfl aal ?_
  conv=>arg 2;cbv
  rw[insOuter,if_pos aF] at gO;refine X.loop (fun g:{g:Nat × Array Int // g.2.size=n/\g.1<=i/\insOuter ltInt a e (i+1) (insInner ltInt a g.1 g.2)=F}=>aE aaj aaz _ w b y n (wm w) g.1.2 [] DF)
   (fun g=>⟨[(0,.val (.ao p n c)),(1,.val (.int .i64 (.nat a))),(2,.val (.int .i64 (.nat e))),(6,.val (.int .i64 (.nat i))),(7,.val (.int .i64 (.nat g.1.1)))],[]⟩) (fun g=>g.1.1) (fun _=>⟨rfl,rfl,rfl,rfl⟩)
   (fun N ac w' hN hf hS=>⟨⟨(i,d1),jT,aaB _,gO⟩,?_⟩) (fun g q2 jM=>?_)
  ·exact At.eJ hf hS trivial
  obtain⟨⟨j,d2⟩,gT,I9,s7⟩:=g;simp only at gT I9 s7;obtain⟨m,hm⟩:∃m,m=j-1:=⟨_,rfl⟩;obtain⟨xj,gZ⟩:∃x,d2[j]! = x:=⟨_,rfl⟩;obtain⟨xm,Co⟩:∃x,d2[m]! = x:=⟨_,rfl⟩;obtain⟨t,ht⟩:∃t,t=ltInt xj xm:=⟨_,rfl⟩;obtain⟨oj,xI⟩:∃o,o=y+j:=⟨_,rfl⟩;obtain⟨om,hom⟩:∃o,o=y+m:=⟨_,rfl⟩;show X (aE aaj aaz _ w b y n (wm w) d2 [] DF) _ ⟨[(0,.val (.ao p n c)),(1,.val (.int .i64 (.nat a))),(2,.val (.int .i64 (.nat e))),(6,.val (.int .i64 (.nat i))),(7,.val (.int .i64 (.nat j)))],[]⟩;refine X.dk ([(22,.ext b oj 0),(23,.int .u8 (.v xj)),(27,.ext b om 0),(28,.int .u8 (.v xm)),(29,.bool (.v t))]) jQ 400 _ rfl aal (fun pr fin aj ai=>?_)
  conv=>cbv
  refine⟨aj _ (dq rfl ht),aj _ (au.eC rfl aaY (fun _=>rfl) fun hT=>(by have hT:_=true:=hT;simp[SB.den,SI.den] at hT;(try replace hT:=of_decide_eq_true hT);(try simp (disch:=omega) only [SI.den,a_] at hT);rw[<-Co,hom];exact bK (by omega))),aj _ (au.eC rfl aaY (fun _=>rfl) fun hT=>(by have hT:_=true:=hT;simp[SB.den,SI.den] at hT;(try replace hT:=of_decide_eq_true hT);(try simp (disch:=omega) only [SI.den,a_] at hT);rw[<-gZ,xI];exact bK (by omega))),aj _ (zx m rfl rfl hp),aj _ (zx j rfl rfl hp),ai _ _ ?_⟩;refine X.cond rfl (fun nr=>?_) (fun rL=>?_)
  ·simp only[SB.T,SI.den] at nr
   obtain⟨hja,Zq⟩:=nr;have hjm:j=m+1:=by omega
   refine X.jx hA hn gT (i:=j) (j:=m) (by omega) (by omega) (by omega) gZ Co (by simp) (fun N1 _ dQ=>?_);have g0:((N1++[⟨b,y+j,1⟩])++[⟨b,y+m,1⟩]:af)[0]?=some ⟨b,y+j,1⟩:=b9 (ax dQ);have g1:((N1++[⟨b,y+j,1⟩])++[⟨b,y+m,1⟩]:af)[1]?=some ⟨b,y+m,1⟩:=ax (by simp[dQ]);refine X.dk ([(41,.own 1 0),(45,.own 0 0),(47,.own 0 0),(48,.own 1 0)]) jQ 400 _ rfl aal (fun pr fin aj ai=>?_)
   conv=>cbv
   refine⟨aj _ (dg m rfl rfl hp g1),aj _ (dg j rfl rfl hp g0),aj _ (dg j rfl rfl hp g0),aj _ (dg m rfl rfl hp g1),ai _ _ ?_⟩;refine X.jo (i:=j) (j:=m) (r:=0) gT (by omega) (by omega) (by omega) gZ Co rfl rfl g0 g1 ?_;refine X.back (fun N ac w' hN hf hS=>jM ⟨(m,swp d2 j m),by rw[bQ];exact gT,by omega,?_⟩ ac w' (by simp only;omega) ?_)
   ·rw[<-s7,hjm,insInner,if_pos ?_]
    rw[<-hjm,gZ,Co,<-ht,Zq];simp;omega
   ·exact At.eJ hf hS trivial
  ·refine X.go jQ 400 _ rfl aal ?_
   conv=>arg 2;cbv
   refine X.back (fun N ac w' hN hf hS=>cF ⟨(i+1,d2),gT,by omega,by omega,?_⟩ ac w' (by simp only;omega) ?_)
   ·simp only[SB.F,SI.den] at rL
    rw[<-s7];cases j with
    |zero=>rw[insInner]
    |succ j =>
     rw[insInner,if_neg ?_];obtain rfl:m=j:=by omega
     rw[gZ,Co,<-ht];rcases rL with h|h
     ·simp;omega
     ·simp[h]
   ·exact At.eJ hf hS trivial
 simp only[SB.F,SI.den] at cJ;refine X.go jQ 400 _ rfl aal ?_
 conv=>arg 2;cbv
 refine X.over jQ rfl (fun N w' v hN hS hv=>⟨?_,?_⟩)
 ·simp only[bz,SV.den,SV.ap,aA] at hv
  rw[<-hv]
 ·rw[insOuter,if_neg (by omega)] at gO
  rw[<-gO];exact Sat.kK hS hA hn jT
end Go.Proofs.YthpbefahaghbjaaGreat
