import Derived.Test.YthpbefahaghbjaaGreatEB
open Array renaming getElem?_eq_some_iff→aay,getD_eq_getD_getElem?→aaQ,getElem?_eq_none→aaR,ext'→aaS,replicate→aaT
open Bool renaming and_eq_true→aag,and_self→aaF,or_eq_false_iff→aaO
open Go renaming Oper→aac,Program→aae,ResultVar→aak,mem_ready→aal,Ending→aar,wp_region_any→aaL
open Go.Region renaming ready→aaj,wanted→aaq,noSelect→aaP
open Go.Result renaming andThen→aaB
open Go.Sem renaming run_bind→aaz,run_pure→aaA
open List renaming mem_singleton→aan,getElem?_eq_some_iff→aao,mem_of_getElem?→aaH,getElem?_append_left→aaI,getElem?_append_right→aaJ,getElem?_eq_getElem→aaK,drop_zero→aaU,take_length→aaV,length_append→aaW,cons_append→aaX,length_cons→aaY
open Nat renaming beq→aad,eq_of_beq_eq_true→aah,lt_or_ge→aai,ble→aam,le_refl→aap,le_trans→aas,beq_refl→aau,zero_add→aav,add_mul→aaw,one_mul→aax,le_of_ble_eq_true→aaC,mul_le_mul_right→aaD,ble_eq_true_of_le→aaE,lt_of_lt_of_le→aaM,add_right_comm→aaN
open Option renaming map_eq_some_iff→aaG
open Prod.mk renaming injEq→aaf
namespace Go.bU
structure FI where
 body:Code
 n:Nat
 rs:List aak
 T:aQ
 B:aH
def FI.of (fn:Func)(T:aQ)(B:aH):FI:=⟨fn.body.getD .skip,fn.ntmps,fn.results.toList,T,B⟩
structure c8 (P:aae) (g:Nat) (fi:FI):Prop where
 ex:∃fn c,P.funcs[g]?=some fn/\fn.body=some c/\fi.body=c/\fi.n=fn.ntmps/\fi.rs=fn.results.toList/\iu fi.B c=true
 tab:aq P fi.T
 call:∀args w,(callFunc g args).run P w=.ok (.enter g args) w
theorem c8.of {P:aae}{g:Nat}{fn:Func}{T:aQ}{c:Code}(h:P.funcs[g]?=some fn)(hb:fn.body=some c)(hT:aq P T){B:aH}(hB:aD B fn.body=true)(hc:∀args w,(callFunc g args).run P w=.ok (.enter g args) w):c8 P g (FI.of fn T B) :=
 ⟨⟨fn,c,h,hb,by simp[FI.of,hb],rfl,rfl,by rw[hb] at hB;exact hB⟩,hT,hc⟩
abbrev FT:=List (Nat × FI)
def CC:FT->Nat->Option FI
 | [],_=>none
 |(k,v)::r,t=>bif aad k t then some v else CC r t
inductive uo (P:aae):FT->Prop
 |nil:uo P []
 |cons {g:Nat} {fi:FI} {F:FT}:c8 P g fi->uo P F->uo P ((g,fi)::F)
theorem uo.look {P:aae}:∀{F:FT},uo P F->∀{g:Nat} {fi:FI},CC F g=some fi->c8 P g fi
 |_,.nil,g,fi,h=>by simp[CC] at h
 |(k,v)::r,.cons h1 h2,g,fi,h=>by
  simp only[CC] at h
  by_cases hk:k=g
  ·subst hk;simp at h;subst h;exact h1
  ·simp only[gS hk,cond_false] at h;exact uo.look h2 h
def pL (a b:List Nat):List Nat :=
 match a with
 | []=>b
 |x::r=>x::pL r b
abbrev DU:=aQ->aH->Nat->List aak->List It->St->List It × St × List Nat
def Pk:SV->Option (Nat × List SV)
 | .fn g cs=>some (g,cs)
 | .raw (.func (.func g) ⟨[]⟩ ⟨[]⟩)=>some (g,[])
 |_=>none
theorem vV {N:af}{v:SV}{x:Value}{g:Nat}{cs:List SV}(hv:v.den N=some x)(h:Pk v=some (g,cs)):∃cl,x=.func (.func g) #[] (List.toArray cl)/\SV.ap N cs=some cl:=by
 unfold Pk at h
 split at h
 ·simp only[aA,aaf] at h
  obtain⟨rfl,rfl⟩:=h;simp only[SV.den] at hv
  rename_i cs
  cases hl:SV.ap N cs with
  |none=>simp[hl] at hv
  |some l=>simp only[hl,aA] at hv;exact⟨l,hv.symm,rfl⟩
 ·simp only[aA,aaf] at h
  obtain⟨rfl,rfl⟩:=h;simp only[SV.den,bc,if_true,aA] at hv;exact⟨[],hv.symm,rfl⟩
 ·cases h
def Q7 (F:FT)(all:Array aac)(i:Nat)(s:St):Option (FI × List SV × Option Nat) :=
 match nth all.toList i with
 |none=>none
 |some o=>bif sure all s.fr o then
   match o.op with
   | .call c=>match c.callee with
    | .value f=>match ev s.fr f with
     |some v=>match Pk v with
      |some (g,cs)=>match CC F g,tU s.fr c.args.toList with
       |some fi,some l=>bif aam (l++cs).length fi.n then some (fi,l++cs,o.dst) else none
       |_,_=>none
      |none=>none
     |none=>none
    |_=>none
   |_=>none
  else none
def Pf (n:Nat)(f:Fr)(d:Option Nat)(fi:FI)(s2:St)(ws:List Nat):Option (St × List Nat) :=
 match oG fi.T s2 fi.rs with
 |some r=>match eK n f d (.val (bz r)) with
  |some f'=>some (⟨f',s2.rg⟩,ws)
  |none=>none
 |none=>none
def FU (F:FT)(run:DU)(n:Nat)(all:Array aac)(i:Nat)(s:St):Option (St × List Nat) :=
 match Q7 F all i s with
 |some (fi,l,d)=>match run fi.T fi.B fi.n fi.rs [.code fi.body] ⟨kU l 0,s.rg⟩ with
  |(.fH _::_,s2,ws)=>Pf n s.fr d fi s2 ws
  |([],s2,ws)=>Pf n s.fr d fi s2 ws
  |_=>none
 |none=>none
abbrev j8:=Nat->St->Option (St × List Nat)
abbrev KW:=List (Nat × List Nat)
def Pe (T:aQ)(n:Nat)(all:Array aac)(call:j8):qd->St->KW
 | [],_=>[]
 |(i,_)::r,s =>
  match tw T n all i s with
  |some s'=>match xL s.fr all i with
   |some k=>(i,[k])::Pe T n all call r s'
   |none=>Pe T n all call r s'
  |none=>match call i s with
   |some (s',ws)=>(i,ws)::Pe T n all call r s'
   |none=>[]
def Hm (ks:List Nat):List Nat->Bool
 | []=>true
 |w::ws=>aU ks w&&Hm ks ws
def flatK (f:Nat->Bool):KW->List Nat
 | []=>[]
 |(j,ks)::r=>bif f j then pL ks (flatK f r) else flatK f r
def lF:KW->Nat->Bool
 | [],_=>true
 |(j,_)::r,i=>!aad j i&&lF r i
def eW:KW->Nat->List Nat
 | [],_=>[]
 |(j,ks)::r,i=>bif aad j i then ks else eW r i
def sQ (T:aQ)(n:Nat)(all:Array aac)(K:KW)(rg:List Rg)(call:j8):qd->St->Option St
 | [],s=>some s
 |(i,some gH)::r,s=>bif lF K i then
   match LM T n all (aJ (flatK (mM gH) K) rg 0) i s.fr with
   |some f=>sQ T n all K rg call r ⟨f,s.rg⟩
   |none=>none
  else none
 |(i,none)::r,s=>match LM T n all s.rg i s.fr with
  |some f=>sQ T n all K rg call r ⟨f,s.rg⟩
  |none=>match uW T n all i s with
   |some s'=>bif (match xL s.fr all i with|some k=>aU (eW K i) k|none=>true) then sQ T n all K rg call r s' else none
   |none=>match call i s with
    |some (s',ws)=>bif Hm (eW K i) ws then sQ T n all K rg call r s' else none
    |none=>none
def OW:qd->Bool
 | []=>true
 |(_,q)::r=>q.isSome&&OW r
def sW (T:aQ)(n:Nat)(all:Array aac)(call:j8)(fX:qd)(s:St)(K:KW):Option (St × List Nat) :=
 match sQ T n all K s.rg call fX s with
 |some s'=>some (s',flatK (fun _=>true) K)
 |none=>none
def vO (T:aQ)(n:Nat)(all:Array aac)(call:j8)(fX:qd)(s:St):Option (St × List Nat) :=
 bif OW fX then sW T n all call fX s [] else sW T n all call fX s (Pe T n all call fX s)
def wrs (t:List It)(s:St):List Nat :=
 match t with
 | .ops all (i::_)::_=>match xL s.fr all i with
  |some r=>[r]
  |none=>[]
 |_=>[]
def oH (F:FT)(u:Bool):Nat->aQ->aH->Nat->List aak->List Nat->List It->St->List It × St × List Nat
 |0,_,_,_,_,ws,t,s=>(t,s,ws)
 |m+1,T,B,n,rs,ws,t,s =>
  match UK T n rs t s with
  |some (t',s')=>oH F u m T B n rs (pL (wrs t s) ws) t' s'
  |none=>match t with
   | .ops all (i::rest)::k=>match FU F (fun T B n rs t s=>oH F u m T B n rs [] t s) n all i s with
    |some (s',Hi)=>oH F u m T B n rs (pL Hi ws) (.ops all rest::k) s'
    |none=>(t,s,ws)
   | .code c::k=>match c with
    | .region id ops d=>match d with
     |true=>match yS B id with
      |some fX=>match vO T n ops (fun i s=>FU F (fun T B n rs t s=>oH F u m T B n rs [] t s) n ops i s) fX s with
       |some (s',Hi)=>oH F u m T B n rs (pL Hi ws) k s'
       |none=>(t,s,ws)
      |none=>(t,s,ws)
     |false=>(t,s,ws)
    | .loop c=>match u with
     |true=>oH F u m T B n rs ws (.code c::.inl c::k) s
     |false=>(t,s,ws)
    |_=>(t,s,ws)
   | .inl c::k=>oH F u m T B n rs ws (.code c::.inl c::k) s
   |_=>(t,s,ws)
theorem CF (a b:List Nat)(r:Nat):aU (pL a b) r=(aU a r ||aU b r):=by
 induction a with
 |nil=>rfl
 |cons x a ih=>simp[pL,aU,ih,Bool.or_assoc]
theorem bG.refl (ks:List Nat)(rg:List Rg):bG ks rg rg:=fun _ _ h _=>h
theorem bG.trans {a b:List Nat}{x y z:List Rg}(h:bG a x y)(k:bG b y z):bG (pL b a) x z:=fun r g hg hm=>by
 rw[CF,aaO] at hm;exact k r g (h r g hg hm.2) hm.1
theorem bG.mono {a b:List Nat}{x y:List Rg}(h:bG a x y)(k:∀r,aU b r=false->aU a r=false):bG b x y:=fun r g hg hm=>h r g hg (k r hm)
theorem iY {ks:List Nat}:∀{ws:List Nat},Hm ks ws=true->∀r,aU ks r=false->aU ws r=false
 | [],_,r,_=>rfl
 |w::ws,h,r,hr=>by
  simp only[Hm,aag] at h;simp only[aU,aaO];refine⟨?_,iY h.2 r hr⟩;cases e:aad w r with
  |false=>rfl
  |true=>have:=aah e;subst this;rw[h.1] at hr;cases hr
structure dw (ks:List Nat) (rg cN:List Rg):Prop where
 agree:bG ks rg cN
 len:rg.length<=cN.length
theorem dw.refl (ks:List Nat)(rg:List Rg):dw ks rg rg:=⟨bG.refl _ _,aap _⟩
theorem dw.trans {a b:List Nat}{x y z:List Rg}(h:dw a x y)(k:dw b y z):dw (pL b a) x z:=⟨h.agree.trans k.agree,aas h.len k.len⟩
theorem Ie {T:aQ}{n:Nat}{all:Array aac}{i:Nat}{s s':St}(he:uW T n all i s=some s'):dw (match xL s.fr all i with|some r=>[r]|none=>[]) s.rg s'.rg:=by
 have key:(match xL s.fr all i with|some k=>aU (match xL s.fr all i with|some r=>[r]|none=>[]) k|none=>true)=true:=by
  cases gU:xL s.fr all i with
  |some k=>simp[aU]
  |none=>rfl
 obtain⟨h1,h2⟩:=eA (bG.refl _ _) (aap _) key he;exact⟨h1,h2⟩
theorem AS {T:aQ}{n:Nat}{all:Array aac}{i:Nat}{s s':St}(he:tw T n all i s=some s'):dw (match xL s.fr all i with|some r=>[r]|none=>[]) s.rg s'.rg:=by
 unfold tw at he
 split at he
 ·simp only[aA] at he;subst he;exact dw.refl _ _
 ·exact Ie he
theorem fR {b:Bool}{α:Type}{x:Option α}{y:α}(h:(bif b then x else none)=some y):b=true/\x=some y:=by
 cases b with
 |true=>exact⟨rfl,h⟩
 |false=>simp at h
theorem Hl {T:aQ}{n:Nat}{rs:List aak}{t t':List It}{s s':St}(h:UK T n rs t s=some (t',s')):dw (wrs t s) s.rg s'.rg:=by
 unfold UK at h
 split at h
 ·cases h
 ·cases h
 ·cases h
 ·cases h
 ·simp only[aA,aaf] at h;obtain⟨_,rfl⟩:=h;exact dw.refl _ _
 ·simp only[aA,aaf] at h;obtain⟨_,rfl⟩:=h;exact dw.refl _ _
 ·split at h
  ·rename_i s1 hs
   simp only[aA,aaf] at h;obtain⟨_,rfl⟩:=h;exact AS hs
  ·cases h
 ·split at h
  ·simp only[aA,aaf] at h;obtain⟨_,rfl⟩:=h;exact dw.refl _ _
  ·simp only[aA,aaf] at h;obtain⟨_,rfl⟩:=h;exact dw.refl _ _
  ·simp only[aA,aaf] at h;obtain⟨_,rfl⟩:=h;exact dw.refl _ _
  ·simp only[aA,aaf] at h;obtain⟨_,rfl⟩:=h;exact dw.refl _ _
  ·split at h
   ·simp only[aA,aaf] at h;obtain⟨_,rfl⟩:=h;exact dw.refl _ _
   ·cases h
  ·split at h
   ·simp only[aA,aaf] at h;obtain⟨_,rfl⟩:=h;exact dw.refl _ _
   ·cases h
  ·split at h
   ·simp only[aA,aaf] at h;obtain⟨_,rfl⟩:=h;exact dw.refl _ _
   ·cases h
  ·split at h
   ·simp only[aA,aaf] at h;obtain⟨_,rfl⟩:=h;exact dw.refl _ _
   ·cases h
  ·cases h
def j9 (P:aae)(n:Nat)(all:Array aac)(call:j8):Prop :=
 ∀i s s' ws,call i s=some (s',ws)->dw ws s.rg s'.rg/\∃o,all[i]?=some o/\∀(E:Env) (N:af) (a:Act) (w:World),E.P=P->E.n=n->aX n N s.fr a->Sat E N s.rg w->aaq o (yielded all a.tmps)=true /\
  ∀(K:Act->World->Prop) (Q:Exit->Act->World->Prop),(∀N' x w',N.le N'->aX n N' s'.fr (a.put o.dst x)->Sat E N' s'.rg w'->K (a.put o.dst x) w')->o.wp P a w K Q
theorem aG {f:Nat->Bool}:∀{K:KW} {r:Nat},aU (flatK f K) r=true↔∃p∈K,f p.1=true/\aU p.2 r=true
 | [],r=>by simp[flatK,aU]
 |(j,ks)::K,r=>by
  simp only[flatK];cases hf:f j with
  |true=>simp[CF,aG (K:=K),hf]
  |false=>simp[aG (K:=K),hf]
theorem fw:∀{K:KW} {i r:Nat},aU (eW K i) r=true->∃p∈K,p.1=i/\aU p.2 r=true
 | [],i,r,h=>by simp[eW,aU] at h
 |(j,ks)::K,i,r,h=>by
  simp only[eW] at h;cases hj:aad j i with
  |true=>rw[hj] at h;exact⟨(j,ks),by simp,aah hj,h⟩
  |false =>
   rw[hj] at h;obtain⟨p,h1,h2⟩:=fw (K:=K) h;exact⟨p,by simp[h1],h2⟩
theorem ff:∀{K:KW} {i:Nat},lF K i=true->∀p∈K,p.1≠i
 | [],i,h,p,hp=>by simp at hp
 |(j,ks)::K,i,h,p,hp=>by
  simp only[lF,aag,Bool.not_eq_true'] at h;rcases List.mem_cons.1 hp with rfl|hp
  ·intro e
   simp only at e;subst e;have:=h.1;simp at this
  ·exact ff h.2 p hp
theorem jg.more {N:af}{rg:List Rg}{w:World}{ks ZK:List Nat}(h:jg N (aJ ks rg 0) w)(hk:∀r,aU ks r=true->aU ZK r=true):jg N (aJ ZK rg 0) w:=by
 have one:∀(r:Nat) (g:Rg),(aJ ZK rg 0)[r]?=some g->g=⟨false,[],none⟩\/(aJ ks rg 0)[r]?=some g:=by
  intro r g hg;rw[g_] at hg;obtain⟨g0,h1,h2⟩:=aaG.1 hg;cases hm:aU ZK (0+r) with
  |true=>rw[hm] at h2;simp at h2;exact .inl h2.symm
  |false =>
   rw[hm] at h2;simp at h2;subst h2;right;rw[g_,h1];have:aU ks (0+r)=false:=by
    cases hks:aU ks (0+r) with
    |true=>rw[hk _ hks] at hm;cases hm
    |false=>rfl
   rw[aav] at this;simp[this]
 refine⟨by have:=h.len;rwa [jj] at this ⊢,fun r g p hg hp j c hc=>?_,fun r g p hg hp ho=>?_⟩
 ·rcases one r g hg with rfl|hg
  ·simp at hc
  ·exact h.cell r g p hg hp j c hc
 ·rcases one r g hg with rfl|hg
  ·simp at ho
  ·exact h.ext r g p hg hp ho
theorem ku {P:aae}{T:aQ}{n:Nat}{all:Array aac}{K:KW}{tB:List Rg}{call:j8}(hc:j9 P n all call):∀(fX:qd) {s s':St},sQ T n all K tB call fX s=some s'->dw (flatK (fun _=>true) K) s.rg s'.rg
 | [],s,s',h=>by
  simp only[sQ,aA] at h;subst h;exact dw.refl _ _
 |(i,some gH)::r,s,s',h=>by
  simp only[sQ] at h;obtain⟨_,h⟩:=fR h
  split at h
  ·have h2:=ku hc r h
   exact h2
  ·cases h
 |(i,none)::r,s,s',h=>by
  have up:∀k,aU (eW K i) k=true->aU (flatK (fun _=>true) K) k=true:=fun k hk=>by
   obtain⟨p,h1,_,h3⟩:=fw hk;exact aG.2 ⟨p,h1,rfl,h3⟩
  simp only[sQ] at h
  split at h
  ·have h2:=ku hc r h
   exact h2
  ·split at h
   ·rename_i s1 he
    obtain⟨hm,h⟩:=fR h;have h1:=eA (bG.refl (flatK (fun _=>true) K) s.rg) (aap _) (by cases gU:xL s.fr all i with|some k=>rw[gU] at hm;exact up k hm|none=>rfl) he;have h2:=ku hc r h;exact⟨fun r g hg hr=>h2.agree r g (h1.1 r g hg hr) hr,aas h1.2 h2.len⟩
   ·split at h
    ·rename_i s1 ws he
     obtain⟨hm,h⟩:=fR h;obtain⟨h1,_⟩:=hc _ _ _ _ he;have h2:=ku hc r h;refine⟨fun r g hg hr=>h2.agree r g (h1.agree r g hg (iY hm r ?_)) hr,aas h1.len h2.len⟩;cases hl:aU (eW K i) r with
     |true=>rw[up r hl] at hr;cases hr
     |false=>rfl
    ·cases h
theorem gr {l:List Nat}{i:Nat}(h:only l i=true):l=[i]:=by
 unfold only at h
 split at h
 ·rw[aah h]
 ·cases h
abbrev bS (K:KW) (L:Array Bool):List Nat:=flatK (fun j=>L.getD j false) K
theorem D6 {E:Env}{T:aQ}(hT:aq E.P T){all:Array aac}(jb:aaP all=true){Q:Exit->Act->World->Prop}(hQ:bR Q){call:j8}(hc:j9 E.P E.n all call){K:KW}{rg:List Rg}{Nf:af}(wf:World)(hV:jg Nf rg wf):∀(fX:qd) (ad:Array Bool) {s s':St} {N:af} {a:Act} {w:World},
  jN all fX ad=true->ad.size=all.size->sQ T E.n all K rg call fX s=some s'->Nf.le N->aX E.n N s.fr a->Sat E N s.rg w->bG (bS K ad) rg s.rg->rg.length<=s.rg.length ->
  (∀N' a' w',N.le N'->aX E.n N' s'.fr a'->Sat E N' s'.rg w'->Q .normal a' w')->eZ E.P all Q (fun L=>jg Nf (aJ (bS K L) rg 0)) fX.length ad a w:=by
 have I4:∀{l:List Nat},l.isEmpty=true->l=[]:=by intro l h;cases l<;>simp at h ⊢
 have eL:∀(L:Array Bool) {N:af} {cN:List Rg} {w:World},Nf.le N->bG (bS K L) rg cN->Sat E N cN w->jg Nf (aJ (bS K L) rg 0) w:=fun L _ _ _ hN ha hS=>dx (hV.AK _) hN ha hS
 intro fX
 induction fX with
 |nil =>
  intro ad s s' N a w hs hn hg hN hf hS ha hl hk;simp only[sQ,aA] at hg;subst hg;exact eZ.done (I4 hs) (hk N a w (af.le.refl N) hf hS)
 |cons p r ih =>
  obtain⟨i,q⟩:=p;intro ad s s' N a w hs hn hg hN hf hS ha hl hk;have yI:=eL ad hN ha hS;cases q with
  |some gH =>
   simp only[jN,aag] at hs;obtain⟨⟨⟨⟨hr,jL⟩,gp⟩,gq⟩,hs⟩:=hs;simp only[sQ] at hg;obtain⟨o8,hg⟩:=fR hg;have o8:=ff o8;have jp:i∈aaj .any all ad:=by simpa using hr
   have tg:ad.getD i false=false:=by
    have h1:=(aal.1 jp).1;rcases aai i ad.size with h'|h'
    ·simp[h'] at h1 ⊢;exact h1
    ·rw[aaQ,aaR h'];rfl
   have same:∀(L:Array Bool) (r:Nat),aU (bS K (L.setIfInBounds i true)) r=true↔aU (bS K L) r=true:=fun L r=>by
    simp only[bS,aG];constructor
    ·rintro⟨p,h1,h2,h3⟩
     exact⟨p,h1,by rwa [getD_set_ne false (fun e=>o8 p h1 e.symm)] at h2,h3⟩
    ·rintro⟨p,h1,h2,h3⟩
     exact⟨p,h1,by rwa [getD_set_ne false (fun e=>o8 p h1 e.symm)],h3⟩
   split at hg
   ·rename_i f hq
    have xI:∃o,all[i]?=some o:=by
     cases ho:all[i]? with
     |some o=>exact⟨o,rfl⟩
     |none=>unfold LM at hq;rw[bT] at hq;simp[ho] at hq
    obtain⟨o,ho⟩:=xI
    -- Hg may have XM up ahead of it is of gH
    have wide:∀{L':Array Bool} {w':World},Up all i ad L'->jg Nf (aJ (bS K L') rg 0) w'->jg Nf (aJ (flatK (mM gH) K) rg 0) w':=fun sI hv =>
     hv.more fun r hr=>by
      obtain⟨p,h1,h2,h3⟩:=aG.1 hr;exact aG.2 ⟨p,h1,(sI.within gp hn tg gq).2.2 _ h2,h3⟩
    obtain⟨v,hv,de⟩:=me hT ho hq hf ((wide .here yI).mono hN);refine eZ.take ho jb jL hr (fun c a w h=>hQ c a o.dst v w h) (fun L w=>⟨fun h=>h.more fun r hr=>(same L r).1 hr,fun h=>h.more fun r hr=>(same L r).2 hr⟩) ?_ yI
     (ih _ hs (by simpa using hn) hg hN de hS (fun r g hg hm=>ha r g hg (by
      cases hx:aU (bS K ad) r with
      |true=>rw[(same ad r).2 hx] at hm;cases hm
      |false=>rfl)) hl hk)
    rcases hv with ⟨hw,a6⟩|⟨hw,rfl⟩
    ·exact .inl ⟨hw,fun w ⟨L',sI,hw⟩=>a6 w ((wide sI hw).mono hN)⟩
    ·exact .inr ⟨hw,rfl⟩
   ·cases hg
  |none =>
   simp only[jN,aag] at hs;obtain⟨hr,hs⟩:=hs;have hr:=gr hr;have jp:i∈aaj .any all ad:=by rw[hr];simp
   have aF:i<ad.size:=by
    obtain⟨_,o,ho,_⟩:=aal.1 jp;rw[hn];exact(aay.1 ho).1
   have ey:(ad.setIfInBounds i true).getD i false=true:=by simp[aF]
   have grow:∀r,aU (bS K ad) r=true->aU (bS K (ad.setIfInBounds i true)) r=true:=fun r h=>by
    obtain⟨p,h1,h2,h3⟩:=aG.1 h;refine aG.2 ⟨p,h1,?_,h3⟩
    by_cases e:i=p.1
    ·rw[<-e];exact ey
    ·rw[getD_set_ne false e];exact h2
   have own:∀k,aU (eW K i) k=true->aU (bS K (ad.setIfInBounds i true)) k=true:=fun k hk=>by
    obtain⟨p,h1,h2,h3⟩:=fw hk;exact aG.2 ⟨p,h1,by rw[h2];exact ey,h3⟩
   have fT:bG (bS K (ad.setIfInBounds i true)) rg s.rg:=ha.mono fun r hr=>by
    cases hx:aU (bS K ad) r with
    |true=>rw[grow r hx] at hr;cases hr
    |false=>rfl
   simp only[sQ] at hg
   split at hg
   ·rename_i f hq
    have xI:∃o,all[i]?=some o:=by
     cases ho:all[i]? with
     |some o=>exact⟨o,rfl⟩
     |none=>unfold LM at hq;rw[bT] at hq;simp[ho] at hq
    obtain⟨o,ho⟩:=xI;obtain⟨v,hv,de⟩:=me hT ho hq hf hS.xt;refine eZ.all hr (by simp) fun j hj=>?_
    simp only[aan] at hj;subst hj;unfold wpOp;simp only[ho];have gz:=ih _ hs (by simpa using hn) hg hN de hS fT hl hk;rcases hv with ⟨hw,a6⟩|⟨hw,rfl⟩
    ·rw[hw,if_pos rfl]
     exact .inl (bi (.inl (a6 w hS.xt)) ⟨eL _ hN fT hS,gz⟩)
    ·rw[hw]
     exact⟨eL _ hN fT hS,gz⟩
   ·split at hg
    ·rename_i s1 he
     obtain⟨hm,mJ⟩:=fR hg;have pP:∃o,all[i]?=some o:=by
      cases ho:all[i]? with
      |some o=>exact⟨o,rfl⟩
      |none=>unfold uW at he;rw[bT] at he;simp[ho] at he
     obtain⟨o,ho⟩:=pP;obtain⟨hw,N',x,w',h1,h2,h3,h4⟩:=gu hT ho he hf hS;obtain⟨mI,o6⟩:=eA fT hl (by cases gU:xL s.fr all i with|some k=>rw[gU] at hm;exact own k hm|none=>rfl) he;refine eZ.all hr (by simp) fun j hj=>?_
     simp only[aan] at hj;subst hj;unfold wpOp;simp only[ho,hw,if_true];exact .inl (bi h2 ⟨eL _ (hN.trans h1) mI h4,ih _ hs (by simpa using hn) mJ (hN.trans h1) h3 h4 mI o6 (fun N2 a2 w2 pC=>hk N2 a2 w2 (h1.trans pC))⟩)
    ·split at hg
     ·rename_i s1 ws he
      obtain⟨hm,mJ⟩:=fR hg;obtain⟨h1,o,ho,h2⟩:=hc _ _ _ _ he;obtain⟨hw,h3⟩:=h2 E N a w rfl rfl hf hS;refine eZ.all hr (by simp) fun j hj=>?_
      simp only[aan] at hj;subst hj;unfold wpOp;simp only[ho,hw,if_true];refine .inl (h3 _ _ fun N' x w' db d_ cL=>?_);have mI:bG (bS K (ad.setIfInBounds j true)) rg s1.rg:=fun r g hg hr=>h1.agree r g (fT r g hg hr) (iY hm r (by
       cases hx:aU (eW K j) r with
       |true=>rw[own r hx] at hr;cases hr
       |false=>rfl))
      exact⟨eL _ (hN.trans db) mI cL,ih _ hs (by simpa using hn) mJ (hN.trans db) d_ cL mI (aas hl h1.len) (fun N2 a2 w2 pC=>hk N2 a2 w2 (db.trans pC))⟩
     ·cases hg
theorem ru {E:Env}{T:aQ}(hT:aq E.P T){id:Nat}{all:Array aac}{call:j8}(hc:j9 E.P E.n all call){fX:qd}(dm:tP all fX=true){K:KW}{s s':St}{ws:List Nat}(hd:sW T E.n all call fX s K=some (s',ws)){Q:Exit->Act->World->Prop}(hQ:bR Q){N:af}{a:Act}{w:World}(hf:aX E.n N s.fr a)(hS:Sat E N s.rg w)
  (hk:∀N' a' w',N.le N'->aX E.n N' s'.fr a'->Sat E N' s'.rg w'->Q .normal a' w'):(Code.region id all true).wp E.P Q a w:=by
 have cL:Sat E N s.rg { w with drawn:=w.drawn+1 }:=hS.drew;simp only[tP,aag] at dm;obtain⟨⟨hn,hlen⟩,AB⟩:=dm;have hlen:=aah hlen;unfold sW at hd
 split at hd
 ·rename_i s1 h
  simp only[aA,aaf] at hd;obtain⟨rfl,_⟩:=hd;have:=D6 hT hn hQ hc _ cL.xt fX _ AB (by simp) h (af.le.refl N) hf cL (fun r g hg _=>hg) (aap _) hk;rw[hlen] at this;exact aaL hT.mixed this.any
 ·cases hd
theorem Am {E:Env}{T:aQ}(hT:aq E.P T){id:Nat}{all:Array aac}{call:j8}(hc:j9 E.P E.n all call){fX:qd}(dm:tP all fX=true){s s':St}{ws:List Nat}(hd:vO T E.n all call fX s=some (s',ws)){Q:Exit->Act->World->Prop}(hQ:bR Q){N:af}{a:Act}{w:World}(hf:aX E.n N s.fr a)(hS:Sat E N s.rg w)
  (hk:∀N' a' w',N.le N'->aX E.n N' s'.fr a'->Sat E N' s'.rg w'->Q .normal a' w'):(Code.region id all true).wp E.P Q a w:=by
 unfold vO at hd;cases hq:OW fX with
 |true=>rw[hq] at hd;exact ru hT hc dm hd hQ hf hS hk
 |false=>rw[hq] at hd;exact ru hT hc dm hd hQ hf hS hk
theorem rr {P:aae}{T:aQ}{n:Nat}{all:Array aac}{call:j8}(hc:j9 P n all call){fX:qd}{K:KW}{s s':St}{ws:List Nat}(hd:sW T n all call fX s K=some (s',ws)):dw ws s.rg s'.rg:=by
 unfold sW at hd
 split at hd
 ·rename_i s1 h
  simp only[aA,aaf] at hd;obtain⟨rfl,rfl⟩:=hd;exact ku hc _ h
 ·cases hd
theorem Al {P:aae}{T:aQ}{n:Nat}{all:Array aac}{call:j8}(hc:j9 P n all call){fX:qd}{s s':St}{ws:List Nat}(hd:vO T n all call fX s=some (s',ws)):dw ws s.rg s'.rg:=by
 unfold vO at hd;cases hq:OW fX with
 |true=>rw[hq] at hd;exact rr hc hd
 |false=>rw[hq] at hd;exact rr hc hd
theorem Sat.env {E E':Env}{N:af}{rg:List Rg}{w:World}(h:Sat E N rg w)(h1:E'.W=E.W)(h2:E'.O=E.O)(h3:E'.im=E.im)(h4:E'.D=E.D)(h5:E'.R=E.R):Sat E' N rg w:=by
 obtain⟨P,n,Q,W,O,im,D,R⟩:=E;obtain⟨P',n',Q',W',O',pT,D',R'⟩:=E';simp only at h1 h2 h3 h4 h5;subst h1 h2 h3 h4 h5;exact⟨h.len,h.lt,h.cell,h.ext,h.room,h.eT,h.obj,h.fG,h.cK,h.lR,h.dd,h.mj,h.loc,h.fH,h.aM,h.dG⟩
def Q0 (P:aae)(run:DU):Prop :=
 ∀T B n rs t s t' s' ws,run T B n rs t s=(t',s',ws)->dw ws s.rg s'.rg/\∀(E:eR),E.P=P->E.n=n->E.B=B->aq P T->bR E.Q->X E t' s'->X E t s
theorem BQ {P:aae}{F:FT}(hF:uo P F){run:DU}(hr:Q0 P run)(n:Nat)(all:Array aac):j9 P n all (FU F run n all):=by
 intro i s s' ws h;unfold FU at h
 split at h
 ·rename_i fi l d hq
  have main:∀{t2:List It} {s2:St} {ws2:List Nat},run fi.T fi.B fi.n fi.rs [.code fi.body] ⟨kU l 0,s.rg⟩=(t2,s2,ws2)->(t2=[]\/∃r k,t2=.fH r::k)->Pf n s.fr d fi s2 ws2=some (s',ws) ->
    dw ws s.rg s'.rg/\∃o,all[i]?=some o/\∀(E:Env) (N:af) (a:Act) (w:World),E.P=P->E.n=n->aX n N s.fr a->Sat E N s.rg w->aaq o (yielded all a.tmps)=true /\
  ∀(K:Act->World->Prop) (Q:Exit->Act->World->Prop),(∀N' x w',N.le N'->aX n N' s'.fr (a.put o.dst x)->Sat E N' s'.rg w'->K (a.put o.dst x) w')->o.wp P a w K Q:=by
   intro t2 s2 ws2 a6 ht he;unfold Pf at he
   split at he
   ·rename_i r VK
    split at he
    ·rename_i f' qx
     simp only[aA,aaf] at he;obtain⟨rfl,rfl⟩:=he;obtain⟨tZ,VM⟩:=hr _ _ _ _ _ _ _ _ _ a6;refine⟨tZ,?_⟩;unfold Q7 at hq
     split at hq
     ·cases hq
     ·rename_i o ho
      rw[bT] at ho;refine⟨o,by simpa using ho,fun E N a w hP hn hf hS=>?_⟩;cases Gm:sure all s.fr o with
      |false=>rw[Gm] at hq;simp at hq
      |true =>
       rw[Gm] at hq;simp only[cond_true] at hq;refine⟨mW hf Gm,fun K Q hK=>?_⟩
       split at hq
       ·rename_i c cC
        split at hq
        ·rename_i f jS
         split at hq
         ·rename_i vf hvf
          split at hq
          ·rename_i g cs I7
           split at hq
           ·rename_i fi' l' hfi hl
            cases hb:aam (l'++cs).length fi'.n with
            |false=>rw[hb] at hq;simp at hq
            |true =>
             rw[hb] at hq;simp only[cond_true,aA,aaf] at hq;obtain⟨rfl,rfl,rfl⟩:=hq;obtain⟨⟨fn,cd,k1,k2,k3,k4,k5,k6⟩,HU,Rh⟩:=hF.look hfi;subst hP;subst hn;have Es:=lW hf _ hl;obtain⟨cl,jZ,uS⟩:=vV (cX hf hvf) I7;have fD:=SV.dz _ _ Es uS;have KM:(execOp a.eval o).run E.P w=.ok (.enter g (c.args.toList.map a.eval++cl).toArray) w:=by
              obtain⟨callee,args,argTypes⟩:=c;simp only at jS hl;subst jS;simp only[execOp,cC,resolve,jZ,Deferred.ofValue,aaz,aaA,aaB,invoke];rw[Rh]
              congr 2
              apply aaS;simp
             unfold Oper.wp;rw[KM];show Calls _ _ _ _ _
             let R:aar->World->Prop:=fun e w'=>∃v N',e=.returned v/\N.le N'/\(bz r).den N'=some v/\Sat E N' s2.rg w'
             let E':eR:={ E with n:=fi'.n,Q:=bodyPost E.P fn R,N0:=N,B:=fi'.B }
             have hX:X E' [.code cd] ⟨kU (l'++cs) 0,s.rg⟩:=by
              rw[<-k3];refine VM E' rfl rfl rfl HU (fun _ _ d _ _ h=>by cases d<;>exact h) ?_;have RC:oG fi'.T s2 fn.results.toList=some r:=by rw[<-k5];exact VK
              rcases ht with rfl|⟨r0,k0,rfl⟩
              ·exact X.fin (E:=E') HU (fn:=fn) (R:=R) rfl RC (fun N' w' v db cL hv=>⟨v,N',rfl,db,hv,cL.env rfl rfl rfl rfl rfl⟩)
              ·intro N' a' w' db d_ cL
               obtain⟨v,q1,q2⟩:=lk (E:=E'.toEnv) rfl HU d_ cL RC;exact jU k0 ⟨d_.defers,v,q2,v,N',rfl,db,q1,cL.env rfl rfl rfl rfl rfl⟩
             have hlen:(c.args.toList.map a.eval++cl).toArray.size<=fn.ntmps:=by
              rw[<-k4];have h1:=(SV.aP _ fD).1;have h2:=aaC hb;simp at h1 h2 ⊢;omega
             have:=X.enter (P:=E.P) E' k1 k2 (R:=R) rfl rfl k4 k6 hlen (ss:=l'++cs) (rg:=s.rg) fD (hS.env rfl rfl rfl rfl rfl) hX;refine Calls.mono this fun e w' ⟨v,N',hv,db,Ri,cL⟩=>?_
             subst hv;exact hK N' v w' db (cu (hf.mono db) Ri qx) cL
           ·cases hq
          ·cases hq
         ·cases hq
        ·cases hq
       ·cases hq
    ·cases he
   ·cases he
  split at h
  ·rename_i r k s2 ws2 a6
   exact main a6 (.inr ⟨_,_,rfl⟩) h
  ·rename_i s2 ws2 a6
   exact main a6 (.inl rfl) h
  ·cases h
 ·cases h
theorem GX {P:aae}{F:FT}(hF:uo P F)(u:Bool):∀(m:Nat) (T:aQ) (B:aH) (n:Nat) (rs:List aak) (ws:List Nat) (t:List It) (s:St) (t':List It) (s':St) (Hi:List Nat),oH F u m T B n rs ws t s=(t',s',Hi) ->
  (∃I2,Hi=pL I2 ws/\dw I2 s.rg s'.rg)/\∀(E:eR),E.P=P->E.n=n->E.B=B->aq P T->bR E.Q->X E t' s'->X E t s:=by
 have Ho:∀a b c:List Nat,pL a (pL b c)=pL (pL a b) c:=by
  intro a b c
  induction a with
  |nil=>rfl
  |cons x a ih=>simp[pL,ih]
 have OY:∀a:List Nat,pL a []=a:=by
  intro a
  induction a with
  |nil=>rfl
  |cons x a ih=>simp[pL,ih]
 intro m
 induction m with
 |zero =>
  intro T B n rs ws t s t' s' Hi h;simp only[oH,aaf] at h;obtain⟨rfl,rfl,rfl⟩:=h;exact⟨⟨[],rfl,dw.refl _ _⟩,fun E _ _ _ _ _ h=>h⟩
 |succ m ih =>
  intro T B n rs ws t s t' s' Hi h;have a6:Q0 P (fun T B n rs t s=>oH F u m T B n rs [] t s):=by
   intro T B n rs t s t' s' Hi h;obtain⟨⟨I2,h1,h2⟩,h3⟩:=ih T B n rs [] t s t' s' Hi h;rw[OY] at h1;subst h1;exact⟨h2,h3⟩
  have same:(t,s,ws)=(t',s',Hi)->(∃I2,Hi=pL I2 ws/\dw I2 s.rg s'.rg)/\∀(E:eR),E.P=P->E.n=n->E.B=B->aq P T->bR E.Q->X E t' s'->X E t s:=by
   intro h;simp only[aaf] at h;obtain⟨rfl,rfl,rfl⟩:=h;exact⟨⟨[],rfl,dw.refl _ _⟩,fun E _ _ _ _ _ h=>h⟩
  have next:∀{w1:List Nat} {t1:List It} {s1:St},oH F u m T B n rs (pL w1 ws) t1 s1=(t',s',Hi)->dw w1 s.rg s1.rg->(∀(E:eR),E.P=P->E.n=n->E.B=B->aq P T->bR E.Q->X E t1 s1->X E t s) ->
    (∃I2,Hi=pL I2 ws/\dw I2 s.rg s'.rg)/\∀(E:eR),E.P=P->E.n=n->E.B=B->aq P T->bR E.Q->X E t' s'->X E t s:=by
   intro w1 t1 s1 h hk hx;obtain⟨⟨I2,h1,h2⟩,h3⟩:=ih _ _ _ _ _ _ _ _ _ _ h;exact⟨⟨pL I2 w1,by rw[h1,Ho],hk.trans h2⟩,fun E e1 e2 e0 e3 e4 e5=>hx E e1 e2 e0 e3 e4 (h3 E e1 e2 e0 e3 e4 e5)⟩
  simp only[oH] at h
  split at h
  ·rename_i t1 s1 ha
   exact next (w1:=wrs t s) h (Hl ha) (fun E e1 e2 e0 e3 e4 e5=>by subst e1;subst e2;subst e0;exact sO e3 ha e5)
  ·split at h
   ·rename_i all i rest k _
    split at h
    ·rename_i s1 I2 hc
     obtain⟨h1,o,ho,h2⟩:=BQ hF a6 n all _ _ _ _ hc;refine next h h1 (fun E e1 e2 e0 e3 e4 e5=>?_);subst e1;subst e2;subst e0;intro N a w hN hf hS;obtain⟨hw,h3⟩:=h2 E.toEnv N a w rfl rfl hf hS;show wpOps _ _ _ _ _ _;simp only[wpOps,ho];rw[hw,if_pos rfl];exact .inl (h3 _ _ fun N' x w' db d_ cL=>e5 N' _ w' (hN.trans db) d_ cL)
    ·exact same h
   ·rename_i c k _
    split at h
    ·rename_i id ops d _
     split at h
     ·split at h
      ·rename_i fX AB
       split at h
       ·rename_i s1 I2 hd
        have hc:=BQ hF a6 n ops;refine next h (Al hc hd) (fun E e1 e2 e0 e3 e4 e5=>?_);subst e1;subst e2;subst e0;intro N a w hN hf hS;show _->Code.wp _ _ _ _ _;intro dH;simp only[iu,AB] at dH;exact Am e3 hc dH hd (e4.ms k) hf hS (fun N' a' w' db d_ cL=>e5 N' a' w' (hN.trans db) d_ cL)
       ·exact same h
      ·exact same h
     ·exact same h
    ·rename_i c
     split at h
     ·refine next (w1:=[]) h (dw.refl _ _) (fun E e1 e2 e0 e3 e4 e5=>?_)
      intro N a w hN hf hS;intro dH;exact I0 (wp_mono (e5 N a w hN hf hS dH) (fun e a w hq=>by cases e<;>first|exact hq dH|exact hq))
     ·exact same h
    ·exact same h
   ·rename_i c k _
    refine next (w1:=[]) h (dw.refl _ _) (fun E e1 e2 e0 e3 e4 e5=>?_);intro N a w hN hf hS;intro dH;exact Fq (wp_mono (e5 N a w hN hf hS dH) (fun e a w hq=>by cases e<;>first|exact hq dH|exact hq))
   ·exact same h
abbrev XQ (E:eR) (p:List It × St × List Nat):Prop:=X E p.1 p.2.1
theorem X.Dn {P:aae}{fn:Func}{R:aar->World->Prop}{W:World}{O:Nat->Nat->Prop}{im:Nat->Nat->Option Value}{D:Nat->Nat->Prop}{Rr:World->Prop}{N:af}{B:aH}{F:FT}(hF:uo P F)(u:Bool){T:aQ}(hT:aq P T)(m n:Nat)(hn:fn.ntmps=n){t:List It}{s:St}{rs:Array aak}(OU:fn.results=rs)
  (h:XQ (aK P fn R W O im D Rr N B) (oH F u m T B n rs.toList [] t s)):X (aK P fn R W O im D Rr N B) t s :=
 (GX hF u m T B n rs.toList [] t s _ _ _ rfl).2 (aK P fn R W O im D Rr N B) rfl hn rfl hT (fun _ _ d _ _ h=>by cases d<;>exact h) h
theorem X.go {P:aae}{fn:Func}{R:aar->World->Prop}{W:World}{O:Nat->Nat->Prop}{im:Nat->Nat->Option Value}{D:Nat->Nat->Prop}{Rr:World->Prop}{N:af}{B:aH}{T:aQ}(hT:aq P T)(m n:Nat)(hn:fn.ntmps=n){t:List It}{s:St}{rs:Array aak}(OU:fn.results=rs)
  (h:XQ (aK P fn R W O im D Rr N B) (oH [] false m T B n rs.toList [] t s)):X (aK P fn R W O im D Rr N B) t s:=X.Dn .nil false hT m n hn OU h
def A0 (T:aQ)(rs:List aak)(p:List It × St × List Nat):Option (List SV) :=
 match p with
 |(.fH _::_,s,_)=>oG T s rs
 |([],s,_)=>oG T s rs
 |_=>none
theorem aeD {P:aae}{F:FT}(hF:uo P F){g:Nat}{fi:FI}(hg:c8 P g fi)(m:Nat)(u:Bool)(ss:List SV){args:Array Value}(ha:SV.ap [] ss=some args.toList)(hle:aam args.size fi.n=true){l:List SV}
  (h:A0 fi.T fi.rs (oH F u m fi.T fi.B fi.n fi.rs [] [.code fi.body] ⟨kU ss 0,[]⟩)=some l) (w:World) :
  Calls P g args w fun e w'=>∃N v,e=.returned v/\(bz l).den N=some v/\aW (fun _ _=>False) w w':=by
 obtain⟨⟨fn,cd,k1,k2,k3,k4,k5,k6⟩,HU,Rh⟩:=hg
 let R:aar->World->Prop:=fun e w'=>∃N v,e=.returned v/\(bz l).den N=some v/\aW (fun _ _=>False) w w'
 let E:eR:=Jf P fn R w [] [] fi.B
 refine X.enter (P:=P) (R:=R) E k1 k2 rfl rfl rfl k6 (by rw[<-k4];exact aaC hle) (ss:=ss) (rg:=[]) ha Sat.bp ?_;have a6:∃t s ws,oH F u m fi.T fi.B fi.n fi.rs [] [.code fi.body] ⟨kU ss 0,[]⟩=(t,s,ws):=⟨_,_,_,rfl⟩;obtain⟨t,s,ws,hr⟩:=a6;rw[hr] at h;rw[k3] at hr;refine(GX hF u m fi.T fi.B fi.n fi.rs [] _ _ _ _ _ hr).2 E rfl k4.symm rfl HU (fun _ _ d _ _ h=>by cases d<;>exact h) ?_;have fin:∀(s:St) (N:af) (a:Act) (w':World),oG fi.T s fi.rs=some l->aX E.n N s.fr a->Sat E.toEnv N s.rg w'->bodyPost P fn R .ret a w':=by
  intro s N a w' hl hf hS;rw[k5] at hl;obtain⟨v,q1,q2⟩:=lk (E:=E.toEnv) rfl HU hf hS hl;exact⟨hf.defers,v,q2,N,v,rfl,q1,hS.aM.none⟩
 unfold A0 at h
 split at h
 ·intro N a w' hN hf hS
  rename_i r k s0 ws0 he
  cases he;exact jU _ (fin _ N a w' h hf hS)
 ·intro N a w' hN hf hS
  rename_i s0 ws0 he
  cases he;exact fin _ N a w' h hf hS
 ·cases h
section
variable {E:eR} {T:aQ} {all:Array aac} {i:Nat} {rest:List Nat} {k:List It} {s:St} {o:aac} {f:Fr}
theorem X.conv (h:∀(N:af) (a:Act) (w:World),E.N0.le N->aX E.n N s.fr a->Sat E.toEnv N s.rg w->∃(E':eR) (s':St),E'.P=E.P/\E'.n=E.n/\E'.Q=E.Q/\E'.B=E.B/\At E' s' a w/\X E' k s'):X E k s:=by
 intro N a w hN hf hS;obtain⟨E',s',e1,e2,e3,e4,⟨N',h1,h2,h3⟩,hx⟩:=h N a w hN hf hS;have:=hx N' a w h1 h2 h3;rw[e1,e3,e4] at this;exact this
@[reducible] def eR.MP (E:eR) (R':World->Prop):eR:={ E with R:=R' }
@[reducible] def eR.mZ (E:eR) (D':Nat->Nat->Prop) (R':World->Prop):eR:={ E with D:=D',R:=R' }
theorem Sat.turn {E:Env}{N:af}{rg:List Rg}{w w':World}{D':Nat->Nat->Prop}{R':World->Prop}(h:Sat E N rg w)(hc:aW E.D w w')(hO:∀k o,E.D k o->E.W.heap.size<=k\/E.O k o)(ct:∀k o,E.D k o->E.im k o=none)
  (kF:∀g∈rg,g.own=true\/g.cells=[]) (hD:∀k o,D' k o->(E.D k o\/w.heap.size<=k)/\eG w' k o) (hl:Loc D' R') (hR:R' w'):Sat { E with D:=D',R:=R' } N rg w':=by
 refine h.after (cN:=rg) (m':=E.im) hc (fun k o _ hd=>.inr ⟨hd,hO k o hd⟩) ⟨fun _ _ _ h=>h,fun k o v hv=>?_,fun _ _ _ h=>.inl h⟩ hD hl hR rfl (fun r g g' p hg eN hp=>?_)
 ·refine bw hc (fun hd=>?_) (h.cK k o v hv)
  rw[ct k o hd] at hv;cases hv
 ·rw[hg] at eN;cases eN
  refine⟨rfl,rfl,fun _=>rfl,fun ho=>h.ext r g p hg hp ho,.inl ⟨rfl,fun j hj=>?_⟩⟩;rcases kF g (aaH hg) with ho|ho
  ·exact h.dd r g p hg hp ho j (aaM hj (h.ext r g p hg hp ho))
  ·rw[ho] at hj;simp at hj
theorem Sat.focus {E:Env}{N:af}{rg:List Rg}{w:World}(h:Sat E N rg w){b o:Nat}{cs:List SV}(D':Nat->Nat->Prop)(R':World->Prop)(hb:b<w.heap.size)
  (dS:∀(j:Nat) (c:SV),cs[j]?=some c->∃v,c.den N=some v/\w.cell? ⟨b,o+j,none⟩=some v) (Yr:∀j,j<cs.length->w.frozen? ⟨b,o+j,none⟩=false)
  (hD:∀j,j<cs.length->E.D b (o+j)) (vZ:∀k i,D' k i->E.D k i/\¬(k=b/\o<=i/\i<o+cs.length)) (hO:E.W.heap.size<=b\/∀j,j<cs.length->E.O b (o+j)) (ct:∀j,j<cs.length->E.im b (o+j)=none)
  (kF:∀g∈rg,g.own=true\/g.cells=[]) (hl:Loc D' R') (hR:R' w):Sat { E with D:=D',R:=R' } (N++[⟨b,o,cs.length⟩]) (rg++[⟨true,cs,none⟩]) w:=by
 have hle:N.le (N++[⟨b,o,cs.length⟩]):=af.aZ _ _;refine⟨by simp[h.len],?_,?_,?_,?_,?_,?_,?_,h.cK,?_,?_,fun k i hk=>h.mj k i (vZ k i hk).1,hl,hR,h.aM,?_⟩
 ·intro i q hq
  rcases aai i N.length with hi|hi
  ·rw[aaI hi] at hq;exact h.lt i q hq
  ·rw[aaJ hi] at hq
   have hz:i-N.length=0:=by
    have:=(aao.1 hq).1;simp at this;omega
   rw[hz] at hq;simp at hq;subst hq;exact hb
 ·intro i x q hx hq j d hj
  rcases aC h.len hx hq with ⟨a,b⟩|⟨_,rfl,rfl⟩
  ·obtain⟨v,h1,h2⟩:=h.cell i x q a b j d hj
   exact⟨v,SV.bf hle d h1,h2⟩
  ·obtain⟨v,h1,h2⟩:=dS j d hj
   exact⟨v,SV.bf hle d h1,h2⟩
 ·intro i x q hx hq dU
  rcases aC h.len hx hq with ⟨a,b⟩|⟨_,rfl,rfl⟩
  ·exact h.ext i x q a b dU
  ·exact aap _
 ·intro i x q hx hq dU
  rcases aC h.len hx hq with ⟨a,b⟩|⟨_,rfl,rfl⟩
  ·exact h.room i x q a b dU
  ·exact fun j hj=>⟨by
    obtain⟨c,PH⟩:∃c,cs[j]?=some c:=⟨_,aaK hj⟩;obtain⟨v,_,hv⟩:=dS j c PH;rw[hv];rfl,Yr j hj⟩
 ·intro i i' x x' q q' hx hq iD cF dU bH j hj hb
  rcases aC h.len hx hq with ⟨a1,a2⟩|⟨a0,rfl,rfl⟩<;>rcases aC h.len iD cF with ⟨b1,b2⟩|⟨b0,rfl,rfl⟩
  ·exact h.eT i i' x x' q q' a1 a2 b1 b2 dU bH j hj hb
  ·simp[Rg.wid] at hj hb ⊢
   have h1:=hD j hj;rcases aai (o+j) q.o with h2|h2
   ·exact .inl h2
   ·right
    rcases aai (o+j) (q.o+q.x) with h3|h3
    ·exfalso
     have:=h.dd i x q a1 a2 dU (o+j-q.o) (by omega);rw[<-hb,show q.o+(o+j-q.o)=o+j by omega] at this;exact this h1
    ·exact h3
  ·simp at hb ⊢
   rcases kF x' (aaH b1) with kR|kR
   ·unfold Rg.wid at hj
    rw[kR] at hj;simp only[cond_true] at hj;have h4:=h.dd i' x' q' b1 b2 kR j hj;rw[hb] at h4;rcases aai (q'.o+j) o with h2|h2
    ·exact .inl h2
    ·right
     rcases aai (q'.o+j) (o+cs.length) with h3|h3
     ·exfalso
      have h1:=hD (q'.o+j-o) (by omega);rw[show o+(q'.o+j-o)=q'.o+j by omega] at h1;exact h4 h1
     ·exact h3
   ·unfold Rg.wid at hj
    rw[kR] at hj;cases od:x'.own with
    |false=>rw[od] at hj;simp at hj
    |true =>
     rw[od] at hj;simp only[cond_true] at hj;have h4:=h.dd i' x' q' b1 b2 od j hj;rw[hb] at h4;rcases aai (q'.o+j) o with h2|h2
     ·exact .inl h2
     ·right
      rcases aai (q'.o+j) (o+cs.length) with h3|h3
      ·exfalso
       have h1:=hD (q'.o+j-o) (by omega);rw[show o+(q'.o+j-o)=q'.o+j by omega] at h1;exact h4 h1
      ·exact h3
  ·omega
 ·intro i x q ob hx hq od
  rcases aC h.len hx hq with ⟨a,b⟩|⟨_,rfl,rfl⟩
  ·obtain⟨⟨o',k1,k2⟩,k3⟩:=h.obj i x q ob a b od
   exact⟨⟨o',Ob.bf hle ob k1,k2⟩,k3.1,fun o hd=>k3.2 o (vZ _ _ hd).1⟩
  ·simp at od
 ·intro i i' x x' q q' hx hq iD cF dU qv bH
  rcases aC h.len hx hq with ⟨a1,a2⟩|⟨a0,rfl,rfl⟩
  ·rcases aC h.len iD cF with ⟨b1,b2⟩|⟨b0,rfl,rfl⟩
   ·exact h.fG i i' x x' q q' a1 a2 b1 b2 dU qv bH
   ·simp at qv
  ·simp at dU
 ·intro i x q hx hq dU
  rcases aC h.len hx hq with ⟨a,b⟩|⟨_,rfl,rfl⟩
  ·exact h.lR i x q a b dU
  ·exact ct
 ·intro i x q hx hq dU j hj hd
  rcases aC h.len hx hq with ⟨a,b⟩|⟨_,rfl,rfl⟩
  ·exact h.dd i x q a b dU j hj (vZ _ _ hd).1
  ·exact(vZ _ _ hd).2 ⟨rfl,by simp,by simp at hj ⊢;omega⟩
 ·intro i x q hx hq dU
  rcases aC h.len hx hq with ⟨a,b⟩|⟨_,rfl,rfl⟩
  ·exact h.dG i x q a b dU
  ·exact hO
theorem Sat.Pr {E:Env}{N:af}{rg:List Rg}{w:World}(h:Sat E N rg w){r:Nat}{g:Rg}{p:aS}(hg:rg[r]?=some g)(hp:N[r]?=some p)(ho:g.own=true)(D':Nat->Nat->Prop)(R':World->Prop)
  (vZ:∀k i,D' k i->E.D k i\/(k=p.b/\p.o<=i/\i<p.o+p.x)) (hl:Loc D' R') (hR:R' w):Sat { E with D:=D',R:=R' } N (rg.set r ⟨false,[],none⟩) w:=by
 have lQ:r<rg.length:=(aao.1 hg).1;have hr:=h.wO lQ;refine { hr with dd:=?_,mj:=?_,obj:=?_,loc:=hl,fH:=hR }
 ·intro i x q ob hx hq od
  rcases dP lQ hx with ⟨rfl,rfl⟩|⟨hi,hx⟩
  ·cases od
  ·obtain⟨⟨o',k1,k2⟩,k3⟩:=h.obj i x q ob hx hq od
   refine⟨⟨o',k1,k2⟩,k3.1,fun o hd=>?_⟩;rcases vZ _ _ hd with hd|⟨e1,e2,e3⟩
   ·exact k3.2 o hd
   ·have:=(h.room r g p hg hp ho (o-p.o) (by omega)).1
    rw[<-e1] at this;unfold World.cell? at this;simp only[k2] at this;cases ob<;>simp only[Ob.den] at k1<;>split at k1<;>first|(cases k1;done)|(cases k1;simp at this)
 ·intro i x q hx hq dU j hj hd
  rcases dP lQ hx with ⟨rfl,rfl⟩|⟨hi,hx⟩
  ·simp at dU
  ·rcases vZ _ _ hd with hd|⟨e1,e2,e3⟩
   ·exact h.dd i x q hx hq dU j hj hd
   ·have:=h.eT i r x g q p hx hq hg hp dU hi (q.o+j-p.o) (by simp[Rg.wid,ho];omega) e1.symm
    omega
 ·intro k i hk
  rcases vZ k i hk with hd|⟨rfl,e2,e3⟩
  ·exact h.mj k i hd
  ·have:=(h.room r g p hg hp ho (i-p.o) (by omega)).1
   rw[show p.o+(i-p.o)=i by omega] at this;exact .inl this
end
theorem Goes.turn {E:eR}{N:af}{k:List It}{s:St}{d:Option Nat}{v:Value}{w w':World}(D':Nat->Nat->Prop)(R':World->Prop)(hN:E.N0.le N)(h:Sat E.toEnv N s.rg w)(hc:aW E.D w w')(hO:∀k o,E.D k o->E.W.heap.size<=k\/E.O k o)(ct:∀k o,E.D k o->E.im k o=none)
  (kF:∀g∈s.rg,g.own=true\/g.cells=[]) (hD:∀k o,D' k o->(E.D k o\/w.heap.size<=k)/\eG w' k o) (hl:Loc D' R') (hR:R' w') {r:SV} (hr:r.den N=some v) {f':Fr} (hp:eK E.n s.fr d (.val r)=some f') (hx:X (E.mZ D' R') k ⟨f',s.rg⟩):Goes E N k s.fr d v w' :=
 ⟨E.mZ D' R',N,r,s.rg,f',rfl,rfl,rfl,rfl,af.le.refl N,hN,h.turn hc hO ct kF hD hl hR,hr,hp,hx⟩
open Classical in
noncomputable def outside (D:Nat->Nat->Prop)(w:World):Nat->Nat->Option Value:=fun k o=>if D k o then none else w.cell? ⟨k,o,none⟩
theorem mP {D:Nat->Nat->Prop}{w:World}{k o:Nat}(h:D k o):outside D w k o=none:=by simp[outside,h]
theorem lc {D:Nat->Nat->Prop}{w:World}{k o:Nat}(h:¬D k o):outside D w k o=w.cell? ⟨k,o,none⟩:=by simp[outside,h]
def Ft (b y sz n:Nat)(f:Nat->List Value)(w:World):Prop :=
 ∀s,s<n->(f s).length=sz/\∀(q:Nat) (v:Value),(f s)[q]?=some v->w.cell? ⟨b,y+(s*sz+q),none⟩=some v/\w.frozen? ⟨b,y+(s*sz+q),none⟩=false
def Jh (b y sz n i:Nat)(f:Nat->List Value)(w:World):Prop :=
 ∀s,s<n->s≠i->(f s).length=sz/\∀(q:Nat) (v:Value),(f s)[q]?=some v->w.cell? ⟨b,y+(s*sz+q),none⟩=some v/\w.frozen? ⟨b,y+(s*sz+q),none⟩=false
def cW (b y m:Nat):Nat->Nat->Prop:=fun k o=>k=b/\y<=o/\o<y+m
def OZ (b y m i sz:Nat):Nat->Nat->Prop:=fun k o=>k=b/\y<=o/\o<y+m/\¬(y+i*sz<=o/\o<y+i*sz+sz)
theorem EK {s n sz q:Nat}(hs:s<n)(hq:q<sz):s*sz+q<n*sz:=by
 have:(s+1)*sz<=n*sz:=aaD _ hs;rw[aaw,aax] at this;omega
theorem HZ {s i sz q:Nat}(hs:s≠i)(hq:q<sz):¬(i*sz<=s*sz+q/\s*sz+q<i*sz+sz):=by
 rintro⟨h1,h2⟩
 rcases aai s i with h|h
 ·have:(s+1)*sz<=i*sz:=aaD _ h
  rw[aaw,aax] at this;omega
 ·have h':i<s:=by omega
  have:(i+1)*sz<=s*sz:=aaD _ h';rw[aaw,aax] at this;omega
theorem Ft.loc {b y sz n:Nat}{f:Nat->List Value}:Loc (cW b y (n*sz)) (Ft b y sz n f):=by
 refine Loc.cells fun w w' hk _ h s hs=>?_
 obtain⟨h1,h2⟩:=h s hs;refine⟨h1,fun q v hq=>?_⟩;have aF:q<sz:=by rw[<-h1];exact(aao.1 hq).1
 have hi:=EK (sz:=sz) hs aF;obtain⟨e1,e2⟩:=hk b (y+(s*sz+q)) ⟨rfl,by omega,by omega⟩;rw[e1,e2];exact h2 q v hq
theorem Jh.loc {b y sz n i:Nat}{f:Nat->List Value}:Loc (OZ b y (n*sz) i sz) (Jh b y sz n i f):=by
 refine Loc.cells fun w w' hk _ h s hs bH=>?_
 obtain⟨h1,h2⟩:=h s hs bH;refine⟨h1,fun q v hq=>?_⟩;have aF:q<sz:=by rw[<-h1];exact(aao.1 hq).1
 have hi:=EK (sz:=sz) hs aF;have ha:=HZ (sz:=sz) bH aF;obtain⟨e1,e2⟩:=hk b (y+(s*sz+q)) ⟨rfl,by omega,by omega,by omega⟩;rw[e1,e2];exact h2 q v hq
theorem Ft.cells {b y sz n:Nat}{f:Nat->List Value}{w:World}(h:Ft b y sz n f w){i:Nat}(hi:i<n){cs:List SV}(hd:SV.ap [] cs=some (f i)){N:af}:∀(j:Nat) (c:SV),cs[j]?=some c->∃v,c.den N=some v/\w.cell? ⟨b,y+i*sz+j,none⟩=some v:=fun j c hj=>by
 obtain⟨v,h1,h2⟩:=(SV.aP _ hd).2 j c hj;exact⟨v,SV.bf (N:=[]) (N':=N) (fun r p h=>by simp at h) c h1,by rw[Nat.add_assoc];exact((h i hi).2 j v h2).1⟩
def XT {α:Type}(f:Nat->List α):Nat->List α
 |0=>[]
 |n+1=>XT f n++f n
section
variable {E:eR} {all:Array aac} {i:Nat} {rest:List Nat} {k:List It} {s:St} {o:aac}
def FV.lit (t:Nat)(b:Bool):FV->FV
 | .xJ j w v=>bif aad j t then (bif w == b then .val v else .val (.tup [])) else .xJ j w v
 |e=>e
def AH (t:Nat)(b:Bool):Fr->Fr
 | []=>[]
 |(k,v)::r=>(k,bif aad k t then .val (.bool (.lit b)) else v.lit t b)::AH t b r
theorem yT (t:Nat)(b:Bool)(t':Nat):∀f:Fr,(t'=t->look (AH t b f) t'=.dead\/look (AH t b f) t'=.val (.bool (.lit b)))/\(t'≠t->look (AH t b f) t'=(look f t').lit t b)
 | []=>⟨fun _=>.inl rfl,fun _=>rfl⟩
 |(k,v)::r=>by
  obtain⟨h1,h2⟩:=yT t b t' r;simp only[AH,look]
  by_cases hk:k=t'
  ·subst hk
   simp only[aau,cond_true];refine⟨fun e=>?_,fun e=>?_⟩
   ·subst e;simp
   ·simp only[gS e,cond_false]
  ·simp only[gS hk,cond_false]
   exact⟨h1,h2⟩
theorem X.lit (t:Nat){b:SB}(hl:look s.fr t=.val (.bool b))(ht:b.T->X E k ⟨AH t true s.fr,s.rg⟩)(hf:b.F->X E k ⟨AH t false s.fr,s.rg⟩):X E k s:=by
 intro N a w hN de hS;have dm:=de.ok t;rw[hl] at dm;obtain⟨x,h1,h2⟩:=dm;simp only[SV.den,aA] at h1;have same:∀c:Bool,b.den=c->aX E.n N (AH t c s.fr) a:=fun c hc=>by
  rw[<-h1,hc] at h2;refine⟨de.size,de.defers,fun t'=>?_⟩;obtain⟨k1,k2⟩:=yT t c t' s.fr
  by_cases e:t'=t
  ·subst e
   rcases k1 rfl with q|q<;>rw[q]
   ·trivial
   ·exact⟨_,rfl,h2⟩
  ·rw[k2 e]
   have:=de.ok t';cases hv:look s.fr t' with
   |val v=>rw[hv] at this;exact this
   |dead=>trivial
   |xJ j w v =>
    rw[hv] at this;simp only[FV.lit];cases hj:aad j t with
    |false=>exact this
    |true =>
     have hj:=aah hj;subst hj;obtain⟨q1,q2⟩:=this;simp only[cond_true];cases hw:(w == c) with
     |true =>
      have hw:w=c:=by simpa using hw
      subst hw;exact q1 h2
     |false =>
      refine⟨undef,rfl,q2 (fun h=>?_)⟩;rw[h2] at h;simp only[aA,Value.bool.injEq] at h;subst h;simp at hw
 cases hb:b.den with
 |true=>exact ht (b.TF.1.1 hb) N a w hN (same _ hb) hS
 |false=>exact hf (b.TF.2.1 hb) N a w hN (same _ hb) hS
end
abbrev DT:=List Rg->Nat->Fr->Option (Fr × Prop)
def sL (P:aae)(n:Nat)(all:Array aac)(N0:af)(oq:DT):Prop :=
 ∀(rg:List Rg) (i:Nat) (f f':Fr) (p:Prop) (N:af) (a:Act) (w0:World) (o:aac),all[i]?=some o->oq rg i f=some (f',p)->p->N0.le N->aX n N f a->jg N rg w0 ->
  ∃v,((aaq o (yielded all a.tmps)=true/\∀w,jg N rg w->(execOp a.eval o).run P w=.ok (.value v) w)\/(aaq o (yielded all a.tmps)=false/\v=undef))/\aX n N f' (a.put o.dst v)
abbrev kT:=Nat->St->Option (St × List Nat × Prop)
def oP (P:aae)(n:Nat)(all:Array aac)(Rr:World->Prop)(im:Nat->Nat->Option Value)(call:kT):Prop :=
 ∀i s s' ws (p:Prop),call i s=some (s',ws,p)->p->dw ws s.rg s'.rg/\∃o,all[i]?=some o/\∀(E:Env) (N:af) (a:Act) (w:World),E.P=P->E.n=n->E.R=Rr->E.im=im->aX n N s.fr a->Sat E N s.rg w->aaq o (yielded all a.tmps)=true /\
  ∀(K:Act->World->Prop) (Q:Exit->Act->World->Prop),(∀N' x w',N.le N'->aX n N' s'.fr (a.put o.dst x)->Sat E N' s'.rg w'->K (a.put o.dst x) w')->o.wp P a w K Q
def BK (oq:DT)(T:aQ)(n:Nat)(all:Array aac)(K:KW)(rg:List Rg)(call:kT)(fin:St->Prop):qd->St->Prop
 | [],s=>fin s
 |(i,some gH)::r,s=>lF K i=true /\
   match oq (aJ (flatK (mM gH) K) rg 0) i s.fr with
   |some (f,p)=>p/\BK oq T n all K rg call fin r ⟨f,s.rg⟩
   |none=>False
 |(i,none)::r,s=>match oq s.rg i s.fr with
  |some (f,p)=>p/\BK oq T n all K rg call fin r ⟨f,s.rg⟩
  |none=>match uW T n all i s with
   |some s'=>(match xL s.fr all i with|some k=>aU (eW K i) k|none=>true)=true/\BK oq T n all K rg call fin r s'
   |none=>match call i s with
    |some (s',ws,p)=>p/\Hm (eW K i) ws=true/\BK oq T n all K rg call fin r s'
    |none=>False
def Kg (oq:DT)(T:aQ)(n:Nat)(all:Array aac)(call:kT):qd->St->KW
 | [],_=>[]
 |(i,_)::r,s =>
  match oq s.rg i s.fr with
  |some (f,_)=>Kg oq T n all call r ⟨f,s.rg⟩
  |none=>match uW T n all i s with
   |some s'=>match xL s.fr all i with
    |some k=>(i,[k])::Kg oq T n all call r s'
    |none=>Kg oq T n all call r s'
   |none=>match call i s with
    |some (s',ws,_)=>(i,ws)::Kg oq T n all call r s'
    |none=>[]
def LN (Wo:Nat->Fr->Option (Fr × Prop))(T:aQ)(n:Nat)(all:Array aac):DT:=fun rg i f =>
 match Wo i f with
 |some f'=>some f'
 |none=>match LM T n all rg i f with
  |some f'=>some (f',True)
  |none=>none
theorem LO {P:aae}{T:aQ}(hT:aq P T){n:Nat}{all:Array aac}{N0:af}{Wo:Nat->Fr->Option (Fr × Prop)}(h:sL P n all N0 (fun _=>Wo)):sL P n all N0 (LN Wo T n all):=by
 intro rg i f f' p N a w0 o ho hq hp hN hf hv;unfold LN at hq
 split at hq
 ·rename_i q cF
  simp only[aA] at hq;subst hq;exact h rg i f _ p N a w0 o ho cF hp hN hf hv
 ·split at hq
  ·simp only[aA,aaf] at hq
   obtain⟨rfl,rfl⟩:=hq;exact me hT ho ‹_› hf hv
  ·cases hq
def LD:kT:=fun _ _=>none
theorem H9 {P:aae}{n:Nat}{all:Array aac}{Rr:World->Prop}{im:Nat->Nat->Option Value}:oP P n all Rr im LD:=fun _ _ _ _ _ h=>by cases h
structure Xv where
 (j x ix d:Nat) (r:SV)
def Xv.ok (ops:Array aac)(t:TypeId)(q:Xv):Bool:=match nth ops.toList q.j with
 |some o=>(match o.guard with|none=>true|some _=>false)&&(match o.op with | .indexAddr t' (.tmp x) (.tmp ix)=>aad t' t&&(aad x q.x&&aad ix q.ix)|_=>false)&&decide (o.dst=some q.d)
 |none=>false
section
variable {E:eR} {all:Array aac} {i:Nat} {rest:List Nat} {k:List It} {s:St} {o:aac}
theorem Sat.eL {E:Env}{N:af}{rg:List Rg}{w:World}(h:Sat E N rg w){b o:Nat}{cs:List SV}(hb:b<w.heap.size)(dS:∀(j:Nat) (c:SV),cs[j]?=some c->∃v,c.den N=some v/\E.im b (o+j)=some v) :
  Sat E (N++[⟨b,o,0⟩]) (rg++[⟨false,cs,none⟩]) w:=by
 have hle:N.le (N++[⟨b,o,0⟩]):=af.aZ _ _;refine⟨by simp[h.len],?_,?_,?_,?_,?_,?_,?_,h.cK,?_,?_,h.mj,h.loc,h.fH,h.aM,?_⟩
 ·intro i q hq
  rcases aai i N.length with hi|hi
  ·rw[aaI hi] at hq;exact h.lt i q hq
  ·rw[aaJ hi] at hq
   have hz:i-N.length=0:=by
    have:=(aao.1 hq).1;simp at this;omega
   rw[hz] at hq;simp at hq;subst hq;exact hb
 ·intro i x q hx hq j d hj
  rcases aC h.len hx hq with ⟨a,b⟩|⟨_,rfl,rfl⟩
  ·obtain⟨v,h1,h2⟩:=h.cell i x q a b j d hj
   exact⟨v,SV.bf hle d h1,h2⟩
  ·obtain⟨v,h1,h2⟩:=dS j d hj
   exact⟨v,SV.bf hle d h1,h.cK _ _ _ h2⟩
 ·intro i x q hx hq dU
  rcases aC h.len hx hq with ⟨a,b⟩|⟨_,rfl,rfl⟩
  ·exact h.ext i x q a b dU
  ·simp at dU
 ·intro i x q hx hq dU
  rcases aC h.len hx hq with ⟨a,b⟩|⟨_,rfl,rfl⟩
  ·exact h.room i x q a b dU
  ·simp at dU
 ·intro i i' x x' q q' hx hq iD cF dU bH j hj hb
  rcases aC h.len hx hq with ⟨a1,a2⟩|⟨a0,rfl,rfl⟩
  ·rcases aC h.len iD cF with ⟨b1,b2⟩|⟨b0,rfl,rfl⟩
   ·exact h.eT i i' x x' q q' a1 a2 b1 b2 dU bH j hj hb
   ·simp[Rg.wid] at hj hb ⊢
    obtain⟨c,hc⟩:∃c,cs[j]?=some c:=⟨_,aaK hj⟩;obtain⟨v,_,h2⟩:=dS j c hc;rcases aai (o+j) q.o with h3|h3
    ·exact .inl h3
    ·right
     rcases aai (o+j) (q.o+q.x) with h4|h4
     ·exfalso
      have:=h.lR i x q a1 a2 dU (o+j-q.o) (by omega);rw[<-hb,show q.o+(o+j-q.o)=o+j by omega,h2] at this;cases this
     ·exact h4
  ·simp at dU
 ·intro i x q ob hx hq od
  rcases aC h.len hx hq with ⟨a,b⟩|⟨_,rfl,rfl⟩
  ·obtain⟨⟨o',k1,k2⟩,k3⟩:=h.obj i x q ob a b od
   exact⟨⟨o',Ob.bf hle ob k1,k2⟩,k3⟩
  ·simp at od
 ·intro i i' x x' q q' hx hq iD cF dU qv bH
  rcases aC h.len hx hq with ⟨a1,a2⟩|⟨a0,rfl,rfl⟩
  ·rcases aC h.len iD cF with ⟨b1,b2⟩|⟨b0,rfl,rfl⟩
   ·exact h.fG i i' x x' q q' a1 a2 b1 b2 dU qv bH
   ·simp at qv
  ·simp at dU
 ·intro i x q hx hq dU
  rcases aC h.len hx hq with ⟨a,b⟩|⟨_,rfl,rfl⟩
  ·exact h.lR i x q a b dU
  ·simp at dU
 ·intro i x q hx hq dU j hj hd
  rcases aC h.len hx hq with ⟨a,b⟩|⟨_,rfl,rfl⟩
  ·exact h.dd i x q a b dU j hj hd
  ·simp at dU
 ·intro i x q hx hq dU
  rcases aC h.len hx hq with ⟨a,b⟩|⟨_,rfl,rfl⟩
  ·exact h.dG i x q a b dU
  ·simp at dU
theorem X.eL {E:eR}{k:List It}{s:St}(b o:Nat)(cs:List SV)(dS:∀(j:Nat) (c:SV),cs[j]?=some c->∃v,c.den []=some v/\E.im b (o+j)=some v)(bH:0<cs.length)
  (h:∀N:af,E.N0.le N->N.length=s.rg.length->X { E with N0:=N++[⟨b,o,0⟩] } k ⟨s.fr,s.rg++[⟨false,cs,none⟩]⟩):X E k s:=by
 refine X.conv fun N a w hN hf hS=>?_
 refine⟨{ E with N0:=N++[⟨b,o,0⟩] },⟨s.fr,s.rg++[⟨false,cs,none⟩]⟩,rfl,rfl,rfl,rfl,⟨_,af.le.refl _,hf.mono (af.aZ _ _),?_⟩,h N hN hS.len⟩;have hb:b<w.heap.size:=by
  obtain⟨c0,kX⟩:∃c,cs[0]?=some c:=⟨_,aaK bH⟩;obtain⟨v,_,hv⟩:=dS 0 c0 kX;exact World.block_lt_of_cell? _ _ (hS.cK _ _ _ hv)
 refine Sat.eL (E:=E.toEnv) hS hb fun j c hj=>?_
 obtain⟨v,h1,h2⟩:=dS j c hj;exact⟨v,SV.bf (N:=[]) (N':=N) (fun r p h=>by simp at h) c h1,h2⟩
structure TX (T:aQ) (n:Nat) (all:Array aac) (i:Nat) (s s1:St):Prop where
 eq:uW T n all i s=some s1
theorem X.oD {T:aQ}(hT:aq E.P T){s1:St}(h:TX T E.n all i s s1)(hk:X E (.ops all rest::k) s1):X E (.ops all (i::rest)::k) s:=by
 intro N a w hN de hS;show wpOps _ _ _ _ _ _;have pP:∃o,all[i]?=some o:=by
  cases ho:all[i]? with
  |some o=>exact⟨o,rfl⟩
  |none=>have:=h.eq;unfold uW at this;rw[bT] at this;simp[ho] at this
 obtain⟨o,ho⟩:=pP;obtain⟨hw,N',x,w',h1,h2,h3,h4⟩:=gu hT ho h.eq de hS;simp only[wpOps,ho,hw,if_true];exact .inl (bi h2 (hk N' _ w' (hN.trans h1) h3 h4))
end
theorem du {T:aQ}{n:Nat}{all:Array aac}{i:Nat}{s:St}{o:aac}{x y:Operand}{ts tx e m:Nat}{ti te:TI}{sx sy r:SV}{new:List SV}{cN:List Rg}{f:Fr}(ho:nth all.toList i=some o)(hg:sure all s.fr o=true)
  (cC:o.op=.call { callee:=.builtin .append,args:=#[x,y],argTypes:=#[ts,tx] }) (hx:ev s.fr x=some sx) (hy:ev s.fr y=some sy) (BA:bo T ts=some ti) (hk:ti.kind=.slice e) (kN:bo T e=some te)
  (lD:jD T s.rg te sy tx=some (new,m)) (KB:iZ s.rg te sx new m=some (r,cN)) (hp:eK n s.fr o.dst (.val r)=some f):TX T n all i s ⟨f,cN⟩:=by
 refine⟨?_⟩;unfold uW;simp only[ho,hg,cond_true,cC,nl,hx,hy,BA,hk,kN,lD,KB,hp]
theorem bL {te:TI}{new:List SV}{n m:Nat}(h0:0<te.size)(h1:te.zero.length=te.size)(h2:new.length=m*te.size)(h3:new.all SV.one=true)(h4:(2*(n+m)+256)*te.bytes<=281474976710656)(h5:n+m<=1099511627776):iZ.kz te new n m=true:=by
 unfold iZ.kz;simp[h0,h1,h2,h3,h4,h5]
theorem jk {rg:List Rg}{te:TI}{r n m:Nat}{cs new:List SV}(hr:nth rg r=some ⟨true,cs,none⟩)(dS:cs.length=n*te.size)(hm:m≠0)(dm:iZ.kz te new n m=true) :
  iZ rg te (.osl r 0 n te.size none) new m=some (.osl rg.length 0 (n+m) te.size none,rg.set r ⟨false,[],none⟩++[⟨true,cs++new,none⟩]):=by
 have e1:aad m 0=false:=by cases h:aad m 0 with|false=>rfl|true=>exact absurd (aah h) hm
 have e2:aam (0+n*te.size) cs.length=true:=by rw[dS];exact aaE (by omega)
 have e3:aad te.size te.size=true:=aau _;simp only[iZ,hr,dm,e1,e2,e3,aaF,cond_true,cond_false,aaU];rw[<-dS,aaV]
theorem q9 {rg:List Rg}{te:TI}{m:Nat}{new:List SV}(hm:m≠0)(dm:iZ.kz te new 0 m=true) :
  iZ rg te (.raw (.slice none 0 0)) new m=some (.osl rg.length 0 m te.size none,rg++[⟨true,new,none⟩]):=by
 have e1:aad m 0=false:=by cases h:aad m 0 with|false=>rfl|true=>exact absurd (aah h) hm
 simp only[iZ,dm,e1,cond_true,cond_false]
theorem ie {rg:List Rg}{te:TI}{r m:Nat}{g:Rg}{new:List SV}(hr:nth rg r=some g)(hm:m≠0)(dm:iZ.kz te new 0 m=true) :
  iZ rg te (.osl r 0 0 te.size (some 0)) new m=some (.osl rg.length 0 m te.size none,rg++[⟨true,new,none⟩]):=by
 have e1:aam (0+m) 0=false:=by
  cases h:aam (0+m) 0 with
  |false=>rfl
  |true=>have:=aaC h;omega
 have e2:aam (0+0*te.size) g.cells.length=true:=aaE (by omega);have e3:aad te.size te.size=true:=aau _;simp only[iZ,hr,dm,e1,e2,e3,aaF,cond_true,cond_false];simp
theorem aY {T:aQ}{rg:List Rg}{te ti:TI}{tx e r n:Nat}{g:Rg}{k:Option Nat}(ht:bo T tx=some ti)(hk:ti.kind=.slice e)(hr:nth rg r=some g)(dS:g.cells.length=n*te.size):jD T rg te (.osl r 0 n te.size k) tx=some (g.cells,n):=by
 have e2:aam (0+n*te.size) g.cells.length=true:=by rw[dS];exact aaE (by omega)
 have e3:aad te.size te.size=true:=aau _;simp only[jD,ht,hk,C9,hr,e2,e3,aaF,cond_true,aaU];rw[<-dS,aaV]
theorem Ma {p:aS}{cs:List SV}{k o:Nat}:¬bq [p] [⟨false,cs,none⟩] k o:=by
 rintro⟨r,g,q,hg,_,ho,_⟩
 cases r with
 |zero=>simp at hg;subst hg;cases ho
 |succ r=>simp at hg
section
variable {E:eR} {T:aQ} {all:Array aac} {i:Nat} {rest:List Nat} {k:List It} {s:St} {o:aac} {f:Fr}
theorem X.nU {t e:TypeId}{x:Operand}{sx:SV}(b:Bool)(ho:nth all.toList i=some o)(hg:o.guard=none)(cC:o.op=.binOp .eql t x (.const (.slice none 0 0)) t)(hx:ev s.fr x=some sx)(hu:E.P.underlying t=some (.slice e))
  (hd:∀N,E.N0.le N->N.length=s.rg.length->∃p n c,sx.den N=some (.slice p n c)/\p.isNone=b) (hp:eK E.n s.fr o.dst (.val (.bool (.lit b)))=some f) (hk:X E (.ops all rest::k) ⟨f,s.rg⟩):X E (.ops all (i::rest)::k) s:=by
 refine X.value ho hg (.bool (.lit b)) hp (fun N a w hN de hS=>?_) hk;obtain⟨p,n,c,h1,h2⟩:=hd N hN hS.len;have iD:=cX de hx;rw[h1] at iD;simp only[aA] at iD;refine⟨_,rfl,?_⟩;have Yt:=dN (w:=w) (P:=E.P) .eql t x (.const (.slice none 0 0)) (a:=.slice p n c) (b:=.slice none 0 0) (fun _ _ h=>by cases h) (fun h=>by cases h);have acU:a.eval (.const (.slice none 0 0))=.slice none 0 0:=rfl;simp only[execOp,cC,<-iD,acU,aaz,Yt,aaB,binOp,pZ hu,h2,SB.den,aaA]
theorem X.JR (hT:aq E.P T){x y:Operand}{ts tx e e' r0 c:Nat}{ti te tj:TI}{p:Option Addr}(ho:nth all.toList i=some o)(hg:o.guard=none)(cC:o.op=.call { callee:=.builtin .append,args:=#[x,y],argTypes:=#[ts,tx] })
  (hx:ev s.fr x=some (.osl r0 0 0 te.size (some 0))) (hy:ev s.fr y=some (.ao p 0 c)) (BA:bo T ts=some ti) (hk:ti.kind=.slice e) (kN:bo T e=some te) (htj:bo T tx=some tj) (hkj:tj.kind=.slice e') (h0:0<te.size) (hz:te.zero.length=te.size)
  (hb:256*te.bytes<=281474976710656)
  (hp:eK E.n s.fr o.dst (.val (.osl r0 0 0 te.size (some 0)))=some f) (hX:X E (.ops all rest::k) ⟨f,s.rg⟩):X E (.ops all (i::rest)::k) s:=by
 refine X.value ho hg _ hp (fun N a w hN de hS=>?_) hX;have iD:=cX de hx;have Cp:=cX de hy;refine⟨_,iD,?_⟩;simp only[SV.den,aA] at Cp;have HV:∃base,a.eval x=.slice base 0 0:=by
  simp only[SV.den] at iD;cases hr:N[r0]? with
  |none=>simp[hr] at iD
  |some q=>simp only[hr,aA] at iD;exact⟨_,iD.symm⟩
 obtain⟨base,HV⟩:=HV;have ok:=(hT.ok ts ti BA).kind;rw[hk] at ok;have j6:E.P.underlying ts=some (.slice e):=ok;have okj:=(hT.ok tx tj htj).kind;rw[hkj] at okj;have aeA:E.P.underlying tx=some (.slice e'):=okj;have l_:=hT.ok e te kN;obtain⟨z,hzv,EJ⟩:=l_.zero;obtain⟨inf,hi,Vs⟩:=l_.info;have pS:z.cells.size=te.size:=by
  have:=(SV.aP _ EJ).1;simp at this;omega
 have a6:=fW (P:=E.P) (w:=w) (ta:=#[ts,tx]) (ty:=o.type) (zero:=z) (s:=.slice base 0 0) (x:=.slice p 0 c) (base:=base) (n:=0) (cap:=0) (m:=0) (c_:=[]) (vs:=[]) (wf:=w) rfl rfl j6 hi (fun w=>by rw[pS];exact l_.size w) hzv (by omega) rfl
  ⟨.inr ⟨⟨_,aeA,fun k h=>by cases h⟩,fun w=>rfl⟩,by omega⟩ (by rw[Vs];omega) (by omega)
  (fun w' _ _=>by
   cases p with
   |none=>rfl
   |some a=>simp[Builtin.firstCells,loadCells,loadCellsFrom]) (fun h=>by omega) (fun _=>by cases base<;>rfl)
 have a6:=a6.1 (by omega);rw[HV];simp only[execOp,cC,resolve,aaz,aaA,aaB,invoke,builtin];have hm:Array.map a.eval #[x,y]=#[.slice base 0 0,.slice p 0 c]:=by
  apply aaS;simp[HV,<-Cp]
 rw[hm,a6]
end
def ze {α:Type}(f:Nat->List α):Nat->List α
 |0=>[]
 |n+1=>ze f n++f n
theorem pg {α:Type}{f:Nat->List α}{sz:Nat}(hf:∀i,(f i).length=sz):∀n,(ze f n).length=n*sz
 |0=>by simp[ze]
 |n+1=>by rw[ze,aaW,pg hf n,hf,aaw,aax]
theorem Mb {α:Type}{f:Nat->List α}{sz:Nat}(hf:∀i,(f i).length=sz){j:Nat}(hj:j<sz):∀{n i:Nat},i<n->(ze f n)[i*sz+j]?=(f i)[j]?
 |n+1,i,hi=>by
  rw[ze]
  by_cases e:i=n
  ·subst e
   rw[aaJ (by rw[pg hf];omega),pg hf]
   congr 1;omega
  ·have aF:i<n:=by omega
   have:=EK (sz:=sz) aF hj;rw[aaI (by rw[pg hf];exact this)];exact Mb hf hj aF
structure BE where
 (j x ix d t z:Nat) (sx r:SV)
def P1 (n:Nat):List BE->Nat->Fr->Option (Fr × Prop)
 | [],_,_=>none
 |q::l,i,f=>bif aad i q.j then
   match eK n f (some q.d) (.val q.r) with
   |some f'=>some (f',ev f (.tmp q.x)=some q.sx/\∃kd e,ev f (.tmp q.ix)=some (.int kd e)/\e.den=(q.z:Int))
   |none=>none
  else P1 n l i f
def BE.ok (ops:Array aac)(q:BE):Bool:=match nth ops.toList q.j with
 |some o=>(match o.guard with|none=>true|some _=>false)&&(match o.op with | .indexAddr t' (.tmp x) (.tmp ix)=>aad t' q.t&&(aad x q.x&&aad ix q.ix)|_=>false)&&(match o.dst with|some d=>aad d q.d|none=>false)
 |none=>false
def BE.acb (P:aae)(N0:af)(q:BE):Prop:=∀N,N0.le N->∃a v,q.sx.den N=some a/\q.r.den N=some v/\∀kd w,(Instr.indexAt q.t a (.int kd (q.z:Nat))).run P w=.ok v w
theorem Gq {P:aae}{n:Nat}{ops:Array aac}{N0:af}:∀(l:List BE),l.all (BE.ok ops)=true->(∀q∈l,q.acb P N0)->sL P n ops N0 (fun _=>P1 n l)
 | [],_,_=>fun _ _ _ _ _ _ _ _ _ _ h=>by cases h
 |q::l,hl,hr=>by
  intro rg i f f' pr N a w0 o ho hf aj hN de hv;simp only[List.all_cons,aag] at hl;simp only[P1] at hf;cases hi:aad i q.j with
  |false =>
   rw[hi] at hf;exact Gq l hl.2 (fun q hq=>hr q (by simp[hq])) rg i f f' pr N a w0 o ho hf aj hN de hv
  |true =>
   rw[hi] at hf;have hi:=aah hi;subst hi;simp only[cond_true] at hf
   split at hf
   ·rename_i f1 qx
    simp only[aA,aaf] at hf;obtain⟨rfl,rfl⟩:=hf;obtain⟨hx,kd,ee,lB,hez⟩:=aj;have dm:=hl.1;unfold BE.ok at dm;rw[bT,Array.getElem?_toList,ho] at dm;simp only[aag] at dm;obtain⟨⟨hg,cC⟩,hd⟩:=dm;have hd:o.dst=some q.d:=by
     split at hd
     ·rename_i d h;rw[h,aah hd]
     ·cases hd
    have hg:o.guard=none:=by cases h:o.guard with|none=>rfl|some _=>rw[h] at hg;simp at hg
    obtain⟨t',ht⟩:∃t',o.op=.indexAddr t' (.tmp q.x) (.tmp q.ix)/\t'=q.t:=by
     split at cC
     ·rename_i t' x ix h
      simp only[aag] at cC;have e1:=aah cC.2.1;have e2:=aah cC.2.2;subst e1;subst e2;exact⟨_,h,aah cC.1⟩
     ·cases cC
    obtain⟨adJ,rfl⟩:=ht;have h1:=cX de hx;have h2:=cX de lB;simp only[SV.den,aA] at h2;obtain⟨va,vr,g1,g2,g3⟩:=hr q (by simp) N hN;rw[g1] at h1;simp only[aA] at h1;refine⟨vr,.inl ⟨by simp[aaq,hg],fun w _=>?_⟩,by rw[hd];exact cu de g2 qx⟩;have:=g3 kd w;simp only[execOp,adJ,<-h1,<-h2,hez,aaz,this,aaB,aaA,Sem.run_map]
   ·cases hf
section
variable {E:eR} {T:aQ} {all:Array aac} {i:Nat} {rest:List Nat} {k:List It} {s:St} {o:aac} {f:Fr}
end
open Classical in
noncomputable def grow (m:Mem)(D':Nat->Nat->Prop)(w w':World):Mem:=fun k o=>match m k o with
 |some v=>some v
 |none=>if w.heap.size<=k/\¬D' k o then w'.cell? ⟨k,o,none⟩ else none
theorem Kw {m:Mem}{D':Nat->Nat->Prop}{w w':World}{k o:Nat}{v:Value}(h:m k o=some v):grow m D' w w' k o=some v:=by unfold grow;rw[h]
theorem Goes.grow {E:eR}{N:af}{k:List It}{s:St}{d:Option Nat}{v:Value}{w w':World}(D':Nat->Nat->Prop)(R':World->Prop)(hN:E.N0.le N)(h:Sat E.toEnv N s.rg w)(hc:aW E.D w w')(hO:∀k o,E.D k o->E.W.heap.size<=k\/E.O k o)(ct:∀k o,E.D k o->E.im k o=none)
  (kF:∀g∈s.rg,g.own=true\/g.cells=[]) (hD:∀k o,D' k o->(E.D k o\/w.heap.size<=k)/\eG w' k o) (hl:Loc D' R') (hR:R' w') {r:SV} (hr:r.den N=some v) {f':Fr} (hp:eK E.n s.fr d (.val r)=some f')
  (hx:(∀k o,D' k o->bU.grow E.im D' w w' k o=none)->(∀k o,w.heap.size<=k->E.im k o=none)->X { E with D:=D',R:=R',im:=bU.grow E.im D' w w' } k ⟨f',s.rg⟩):Goes E N k s.fr d v w':=by
 have bM:∀k o,w.heap.size<=k->E.im k o=none:=fun k o hk=>by
  cases hm:E.im k o with
  |none=>rfl
  |some u =>
   have:=World.block_lt_of_cell? _ _ (h.cK k o u hm);simp only at this;omega
 refine⟨{ E with D:=D',R:=R',im:=bU.grow E.im D' w w' },N,r,s.rg,f',rfl,rfl,rfl,rfl,af.le.refl N,hN,?_,hr,hp,hx (fun k o hk=>?_) bM⟩
 ·refine h.after (cN:=s.rg) (m':=bU.grow E.im D' w w') hc (fun k o _ hd=>.inr ⟨hd,hO k o hd⟩) ⟨fun k o v hv=>Kw hv,fun k o v hv=>?_,fun k o v hv=>?_⟩ hD hl hR rfl (fun r g g' p hg eN hp=>?_)
  ·unfold bU.grow at hv
   split at hv
   ·rename_i u hu
    simp only[aA] at hv;subst hv;refine bw hc (fun hd=>?_) (h.cK k o _ hu);rw[ct k o hd] at hu;cases hu
   ·split at hv
    ·exact hv
    ·cases hv
  ·unfold bU.grow at hv
   split at hv
   ·rename_i u hu
    simp only[aA] at hv;subst hv;exact .inl hu
   ·split at hv
    ·rename_i hk;exact .inr hk.1
    ·cases hv
  ·rw[hg] at eN;cases eN
   refine⟨rfl,rfl,fun _=>rfl,fun ho=>h.ext r g p hg hp ho,.inl ⟨rfl,fun j hj=>?_⟩⟩;rcases kF g (aaH hg) with ho|ho
   ·exact h.dd r g p hg hp ho j (aaM hj (h.ext r g p hg hp ho))
   ·rw[ho] at hj;simp at hj
 ·unfold bU.grow
  split
  ·rename_i u hu
   rcases (hD k o hk).1 with hd|hd
   ·rw[ct k o hd] at hu;cases hu
   ·rw[bM k o hd] at hu;cases hu
  ·rw[if_neg fun h=>h.2 hk]
def oK (ops:Array aac):List Nat->Array Bool->Bool
 | [],L=>(aaj .any ops L).isEmpty
 |z::zs,L=>only (aaj .any ops L) z&&oK ops zs (L.setIfInBounds z true)
def oI (ops:Array aac):qd->Array Bool->Bool
 | [],_=>true
 |(i,some gH)::r,ad=>(aaj .any ops ad).contains i&&Region.free .any ops ad i&&uJ ops i gH&&u7 ad ops.size gH&&oI ops r (ad.setIfInBounds i true)
 |(i,none)::r,ad=>only (aaj .any ops ad) i&&oI ops r (ad.setIfInBounds i true)
def qH:qd->Array Bool->Array Bool
 | [],L=>L
 |(i,_)::r,L=>qH r (L.setIfInBounds i true)
theorem tF {ops:Array aac}{t:qd}:∀(s:qd) (L:Array Bool),jN ops (s++t) L=true->oI ops s L=true
 | [],_,_=>rfl
 |(i,some gH)::r,L,h=>by
  simp only[aaX,jN,aag] at h;simp only[oI,aag];exact⟨h.1,tF r _ h.2⟩
 |(i,none)::r,L,h=>by
  simp only[aaX,jN,aag] at h;simp only[oI,aag];exact⟨h.1,tF r _ h.2⟩
theorem xv {Nf:af}{rg:List Rg}{wf w:World}(hV:jg Nf rg wf){ks:List Nat}(fI:∀r,r<rg.length->aU ks r=true):jg Nf (aJ ks rg 0) w:=by
 refine⟨by rw[jj];exact hV.len,fun r g p hg hp j c hc=>?_,fun r g p hg hp ho=>?_⟩
 ·rw[g_] at hg
  obtain⟨g0,k1,k2⟩:=aaG.1 hg;rw[aav,fI r (aao.1 k1).1] at k2;simp at k2;subst k2;simp at hc
 ·rw[g_] at hg
  obtain⟨g0,k1,k2⟩:=aaG.1 hg;rw[aav,fI r (aao.1 k1).1] at k2;simp at k2;subst k2;simp
theorem MR {K:KW}{L:Array Bool}{z r:Nat}(hz:z<L.size)(h:aU (bS K L) r=true):aU (bS K (L.setIfInBounds z true)) r=true:=by
 obtain⟨p,h1,h2,h3⟩:=aG.1 h;refine aG.2 ⟨p,h1,?_,h3⟩
 by_cases e:z=p.1
 ·rw[<-e];simp[hz]
 ·rw[getD_set_ne false e];exact h2
theorem xe {P:aae}{all:Array aac}{Q:Exit->Act->World->Prop}{K:KW}{rg:List Rg}{Nf:af}{wf:World}(hV:jg Nf rg wf):∀(zs:List Nat) (L:Array Bool) (a:Act) (w:World),L.size=all.size->oK all zs L=true->(∀r,r<rg.length->aU (bS K L) r=true) ->
  wpOps P all Q zs a w->eZ P all Q (fun L=>jg Nf (aJ (bS K L) rg 0)) zs.length L a w
 | [],L,a,w,_,h,_,hk=>eZ.done (by unfold oK at h;cases hr:aaj .any all L with|nil=>rfl|cons _ _=>rw[hr] at h;cases h) hk
 |z::zs,L,a,w,hn,h,hm,hk=>by
  simp only[oK,aag] at h;have hr:=gr h.1;have jp:z∈aaj .any all L:=by rw[hr];simp
  have aF:z<L.size:=by
   obtain⟨_,o,ho,_⟩:=aal.1 jp;rw[hn];exact(aay.1 ho).1
  have KU:∀r,r<rg.length->aU (bS K (L.setIfInBounds z true)) r=true:=fun r hr=>MR aF (hm r hr)
  refine eZ.all hr (by simp) fun j hj=>?_
  simp only[aan] at hj;subst hj;rw[wpOps_cons] at hk;exact wpOp_mono (fun a' w' h'=>⟨xv hV KU,xe hV zs _ a' w' (by simpa using hn) h.2 KU h'⟩) hk
theorem D4 {E:Env}{T:aQ}(hT:aq E.P T){all:Array aac}(jb:aaP all=true){Q:Exit->Act->World->Prop}(hQ:bR Q){call:kT}(hc:oP E.P E.n all E.R E.im call){oq:DT}{N0:af}(hoq:sL E.P E.n all N0 oq){K:KW}{rg:List Rg}{fin:St->Prop}{Nf:af}(wf:World)(hV:jg Nf rg wf){z:Nat}{zs:List Nat}(hK:∀r,r<rg.length->aU (eW K z) r=true):∀(fX:qd) (ad:Array Bool) {s:St} {N:af} {a:Act} {w:World},
  oI all fX ad=true->oK all (z::zs) (qH fX ad)=true->ad.size=all.size->BK oq T E.n all K rg call fin fX s->Nf.le N->N0.le N->aX E.n N s.fr a->Sat E N s.rg w->bG (bS K ad) rg s.rg->rg.length<=s.rg.length ->
  (∀s' N' a' w',fin s'->N.le N'->aX E.n N' s'.fr a'->Sat E N' s'.rg w'->wpOps E.P all Q (z::zs) a' w')->eZ E.P all Q (fun L=>jg Nf (aJ (bS K L) rg 0)) (fX.length+(zs.length+1)) ad a w:=by
 have I4:∀{l:List Nat},l.isEmpty=true->l=[]:=by intro l h;cases l<;>simp at h ⊢
 have eL:∀(L:Array Bool) {N:af} {cN:List Rg} {w:World},Nf.le N->bG (bS K L) rg cN->Sat E N cN w->jg Nf (aJ (bS K L) rg 0) w:=fun L _ _ _ hN ha hS=>dx (hV.AK _) hN ha hS
 intro fX
 induction fX with
 |nil =>
  intro ad s N a w hs ht hn hg hN ck hf hS ha hl hk;simp only[qH,oK,aag] at ht;obtain⟨hr,ht⟩:=ht;have hr:=gr hr;have jp:z∈aaj .any all ad:=by rw[hr];simp
  have aF:z<ad.size:=by
   obtain⟨_,o,ho,_⟩:=aal.1 jp;rw[hn];exact(aay.1 ho).1
  have ey:(ad.setIfInBounds z true).getD z false=true:=by simp[aF]
  have fI:∀r,r<rg.length->aU (bS K (ad.setIfInBounds z true)) r=true:=fun r hr=>by
   obtain⟨p,h1,h2,h3⟩:=fw (hK r hr);exact aG.2 ⟨p,h1,by rw[h2];exact ey,h3⟩
  have oZ:=hk s N a w hg (af.le.refl N) hf hS;rw[wpOps_cons] at oZ;rw[List.length_nil,aav];refine eZ.all hr (by simp) fun j hj=>?_
  simp only[aan] at hj;subst hj;exact wpOp_mono (fun a' w' h=>⟨xv hV fI,xe hV zs _ a' w' (by simpa using hn) ht fI h⟩) oZ
 |cons p r ih =>
  obtain⟨i,q⟩:=p;intro ad s N a w hs ht hn hg hN ck hf hS ha hl hk;have yI:=eL ad hN ha hS;cases q with
  |some gH =>
   simp only[oI,aag] at hs;rw[aaY,aaN];simp only[qH] at ht;obtain⟨⟨⟨⟨hr,jL⟩,gp⟩,gq⟩,hs⟩:=hs;simp only[BK] at hg;obtain⟨o8,hg⟩:=hg;have o8:=ff o8;have jp:i∈aaj .any all ad:=by simpa using hr
   have tg:ad.getD i false=false:=by
    have h1:=(aal.1 jp).1;rcases aai i ad.size with h'|h'
    ·simp[h'] at h1 ⊢;exact h1
    ·rw[aaQ,aaR h'];rfl
   have same:∀(L:Array Bool) (r:Nat),aU (bS K (L.setIfInBounds i true)) r=true↔aU (bS K L) r=true:=fun L r=>by
    simp only[bS,aG];constructor
    ·rintro⟨p,h1,h2,h3⟩
     exact⟨p,h1,by rwa [getD_set_ne false (fun e=>o8 p h1 e.symm)] at h2,h3⟩
    ·rintro⟨p,h1,h2,h3⟩
     exact⟨p,h1,by rwa [getD_set_ne false (fun e=>o8 p h1 e.symm)],h3⟩
   split at hg
   ·rename_i f hq
    obtain⟨_,o,ho,_⟩:=aal.1 jp;obtain⟨hp,hg⟩:=hg
    -- Hg may have XM up ahead of it is of gH
    have wide:∀{L':Array Bool} {w':World},Up all i ad L'->jg Nf (aJ (bS K L') rg 0) w'->jg Nf (aJ (flatK (mM gH) K) rg 0) w':=fun sI hv =>
     hv.more fun r hr=>by
      obtain⟨p,h1,h2,h3⟩:=aG.1 hr;exact aG.2 ⟨p,h1,(sI.within gp hn tg gq).2.2 _ h2,h3⟩
    obtain⟨v,hv,de⟩:=hoq _ i _ _ _ _ _ _ _ ho hq hp ck hf ((wide .here yI).mono hN);refine eZ.take ho jb jL hr (fun c a w h=>hQ c a o.dst v w h) (fun L w=>⟨fun h=>h.more fun r hr=>(same L r).1 hr,fun h=>h.more fun r hr=>(same L r).2 hr⟩) ?_ yI
     (ih _ hs ht (by simpa using hn) hg hN ck de hS (fun r g hg hm=>ha r g hg (by
      cases hx:aU (bS K ad) r with
      |true=>rw[(same ad r).2 hx] at hm;cases hm
      |false=>rfl)) hl hk)
    rcases hv with ⟨hw,a6⟩|⟨hw,rfl⟩
    ·exact .inl ⟨hw,fun w ⟨L',sI,hw⟩=>a6 w ((wide sI hw).mono hN)⟩
    ·exact .inr ⟨hw,rfl⟩
   ·exact hg.elim
  |none =>
   simp only[oI,aag] at hs;rw[aaY,aaN];simp only[qH] at ht;obtain⟨hr,hs⟩:=hs;have hr:=gr hr;have jp:i∈aaj .any all ad:=by rw[hr];simp
   have aF:i<ad.size:=by
    obtain⟨_,o,ho,_⟩:=aal.1 jp;rw[hn];exact(aay.1 ho).1
   have ey:(ad.setIfInBounds i true).getD i false=true:=by simp[aF]
   have grow:∀r,aU (bS K ad) r=true->aU (bS K (ad.setIfInBounds i true)) r=true:=fun r h=>by
    obtain⟨p,h1,h2,h3⟩:=aG.1 h;refine aG.2 ⟨p,h1,?_,h3⟩
    by_cases e:i=p.1
    ·rw[<-e];exact ey
    ·rw[getD_set_ne false e];exact h2
   have own:∀k,aU (eW K i) k=true->aU (bS K (ad.setIfInBounds i true)) k=true:=fun k hk=>by
    obtain⟨p,h1,h2,h3⟩:=fw hk;exact aG.2 ⟨p,h1,by rw[h2];exact ey,h3⟩
   have fT:bG (bS K (ad.setIfInBounds i true)) rg s.rg:=ha.mono fun r hr=>by
    cases hx:aU (bS K ad) r with
    |true=>rw[grow r hx] at hr;cases hr
    |false=>rfl
   simp only[BK] at hg
   split at hg
   ·rename_i f hq
    obtain⟨_,o,ho,_⟩:=aal.1 jp;obtain⟨hp,hg⟩:=hg;obtain⟨v,hv,de⟩:=hoq _ i _ _ _ _ _ _ _ ho hq hp ck hf hS.xt;refine eZ.all hr (by simp) fun j hj=>?_
    simp only[aan] at hj;subst hj;unfold wpOp;simp only[ho];have gz:=ih _ hs ht (by simpa using hn) hg hN ck de hS fT hl hk;rcases hv with ⟨hw,a6⟩|⟨hw,rfl⟩
    ·rw[hw,if_pos rfl]
     exact .inl (bi (.inl (a6 w hS.xt)) ⟨eL _ hN fT hS,gz⟩)
    ·rw[hw]
     exact⟨eL _ hN fT hS,gz⟩
   ·split at hg
    ·rename_i s1 he
     obtain⟨hm,mJ⟩:=hg;have pP:∃o,all[i]?=some o:=by
      cases ho:all[i]? with
      |some o=>exact⟨o,rfl⟩
      |none=>unfold uW at he;rw[bT] at he;simp[ho] at he
     obtain⟨o,ho⟩:=pP;obtain⟨hw,N',x,w',h1,h2,h3,h4⟩:=gu hT ho he hf hS;obtain⟨mI,o6⟩:=eA fT hl (by cases gU:xL s.fr all i with|some k=>rw[gU] at hm;exact own k hm|none=>rfl) he;refine eZ.all hr (by simp) fun j hj=>?_
     simp only[aan] at hj;subst hj;unfold wpOp;simp only[ho,hw,if_true];exact .inl (bi h2 ⟨eL _ (hN.trans h1) mI h4,ih _ hs ht (by simpa using hn) mJ (hN.trans h1) (ck.trans h1) h3 h4 mI o6 (fun s2 N2 a2 w2 qy pC=>hk s2 N2 a2 w2 qy (h1.trans pC))⟩)
    ·split at hg
     ·rename_i s1 ws p he
      obtain⟨hp,hm,mJ⟩:=hg;obtain⟨h1,o,ho,h2⟩:=hc _ _ _ _ _ he hp;obtain⟨hw,h3⟩:=h2 E N a w rfl rfl rfl rfl hf hS;refine eZ.all hr (by simp) fun j hj=>?_
      simp only[aan] at hj;subst hj;unfold wpOp;simp only[ho,hw,if_true];refine .inl (h3 _ _ fun N' x w' db d_ cL=>?_);have mI:bG (bS K (ad.setIfInBounds j true)) rg s1.rg:=fun r g hg hr=>h1.agree r g (fT r g hg hr) (iY hm r (by
       cases hx:aU (eW K j) r with
       |true=>rw[own r hx] at hr;cases hr
       |false=>rfl))
      exact⟨eL _ (hN.trans db) mI cL,ih _ hs ht (by simpa using hn) mJ (hN.trans db) (ck.trans db) d_ cL mI (aas hl h1.len) (fun s2 N2 a2 w2 qy pC=>hk s2 N2 a2 w2 qy (db.trans pC))⟩
     ·exact hg.elim
def OX:Nat->List Nat
 |0=>[]
 |n+1=>n::OX n
theorem yW:∀{n r:Nat},r<n->aU (OX n) r=true
 |n+1,r,h=>by
  simp only[OX,aU]
  by_cases e:n=r
  ·subst e;simp
  ·rw[yW (by omega)];simp
def Aj (oq:DT)(T:aQ)(n:Nat)(all:Array aac)(call:kT)(fin:St->Prop)(z:Nat)(fX:qd)(s:St):Prop :=
 BK oq T n all ((z,OX s.rg.length)::Kg oq T n all call fX s) s.rg call fin fX s
theorem Ak {E:Env}{T:aQ}(hT:aq E.P T){id:Nat}{all:Array aac}{call:kT}(hc:oP E.P E.n all E.R E.im call){oq:DT}{N0:af}(hoq:sL E.P E.n all N0 oq){z:Nat}{zs:List Nat}{fX ZY:qd}(dm:tP all (fX++ZY)=true)(hz:oK all (z::zs) (qH fX (aaT all.size false))=true)(hlz:ZY.length=zs.length+1){fin:St->Prop}{s:St}(hd:Aj oq T E.n all call fin z fX s){Q:Exit->Act->World->Prop}(hQ:bR Q){N:af}{a:Act}{w:World}(ck:N0.le N)(hf:aX E.n N s.fr a)(hS:Sat E N s.rg w)
  (hk:∀s' N' a' w',fin s'->N.le N'->aX E.n N' s'.fr a'->Sat E N' s'.rg w'->wpOps E.P all Q (z::zs) a' w'):(Code.region id all true).wp E.P Q a w:=by
 have cL:Sat E N s.rg { w with drawn:=w.drawn+1 }:=hS.drew;simp only[tP,aag] at dm;obtain⟨⟨hn,hlen⟩,AB⟩:=dm;have hlen:=aah hlen;have:=D4 hT hn hQ hc hoq _ cL.xt (z:=z) (zs:=zs) (fun r hr=>by simp only[eW,aau,cond_true];exact yW hr) fX _ (tF fX _ AB) hz (by simp) hd (af.le.refl N) ck hf cL (fun r g hg _=>hg) (aap _) hk;rw[aaW,hlz] at hlen;rw[hlen] at this;exact aaL hT.mixed this.any
theorem X.Aj {P:aae}{fn:Func}{R:aar->World->Prop}{W:World}{O:Nat->Nat->Prop}{im:Nat->Nat->Option Value}{D:Nat->Nat->Prop}{Rr:World->Prop}{N:af}{B:aH}{T:aQ}(hT:aq P T){id:Nat}{ops:Array aac}{k:List It}{s:St}(call:kT)(Wo:Nat->Fr->Option (Fr × Prop))(z:Nat)(zs:List Nat){Mg:qd}(j:Nat)
  (hl:yS B id=some Mg) (hz:oK ops (z::zs) (qH (Mg.take j) (aaT ops.size false))=true) (hj:(Mg.drop j).length=zs.length+1) (hc:oP P fn.ntmps ops Rr im call) (ho:sL P fn.ntmps ops N (fun _=>Wo)) (n:Nat) (hn:fn.ntmps=n) (h:bU.Aj (LN Wo T n ops) T n ops call (fun s'=>X (aK P fn R W O im D Rr N B) (.ops ops (z::zs)::k) s') z (Mg.take j) s):X (aK P fn R W O im D Rr N B) (.code (.region id ops true)::k) s:=by
 subst hn;intro N' a w hN hf hS;show _->Code.wp _ _ _ _ _;intro dH;simp only[iu,hl] at dH;rw[<-List.take_append_drop j Mg] at dH;exact Ak (E:=(aK P fn R W O im D Rr N B).toEnv) hT hc (LO hT ho) dH hz hj h (bR.ms (fun _ _ d _ _ h=>by cases d<;>exact h) k) hN hf hS (fun s2 N2 a2 w2 h pC hf2 Py=>h N2 a2 w2 (hN.trans pC) hf2 Py)
end Go.bU
