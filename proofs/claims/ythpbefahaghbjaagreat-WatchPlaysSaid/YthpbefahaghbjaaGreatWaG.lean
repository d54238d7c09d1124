import Derived.Test.YthpbefahaghbjaaGreatWa7
import Derived.Test.YthpbefahaghbjaaGreatRi5
import Derived.Test.YthpbefahaghbjaaGreatRecordSameCalls
open Array renaming getElem?_eq_some_iff→aaQ
open Bool renaming and_eq_true→aay
open Go renaming Ending→aan,mem_ready→aap,Program→aav,bodyPost→aaG
open Go.Proofs.Tryz renaming prog→aac,f9→aae,results26→aah,results9→aak,results11→aal,underlying27→aas,f26→aau,call22→aaC,sizeOf49→aaD,results56→aaE,underlying58→aa1,call21→aa2,func56→aa3,func26→aa4,call56→aa5
open Go.Region renaming ready→aam,noSelect→aaF
open List renaming getElem?_eq_some_iff→aad,getElem?_eq_getElem→aag,length_append→aaj,mem_singleton→aaq,mem_of_getElem?→aar,mem_append→aaz,all_eq_true→aaA,getElem?_set→aaB,getElem?_map→aaK,findIdx?_eq_none_iff→aaL,getElem?_append→aaM,mem_or_eq_of_mem_set→aaN,length_singleton→aaO,append_assoc→aaP,mem_cons→aaU,not_mem_nil→aaV,mem_iff_getElem?→aaW,take_add_one→aaX,take_of_length_le→aaY,eq_nil_of_length_eq_zero→aaZ,all_flatten→aa0
open Nat renaming le_succ_of_le→aaf,le_trans→aao,add_zero→aaw,zero_or→aax,sub_zero→aaH,pow_lt_pow_right→aaI,succ_le_succ→aaJ,eq_of_beq_eq_true→aaR,zero_le→aaS,zero_lt_succ→aaT
open Option renaming some→aai,map_eq_some_iff→aa6
set_option maxHeartbeats 16000000
set_option maxRecDepth 100000
set_option cbv.maxSteps 100000000
namespace Go.bU
open Go
def xN (pe:PE)(pr:hZ->Prop)(fin:St->Prop)(td:List (Nat × SV))(tx:List (Nat × Ef))(T:aQ)(n:Nat)(all:Array Oper)(K:KW)(rg:List Rg)(pS:List Nat)(H:Nat->dK->St->Prop):dK->St->Prop
 | .nil,s=>fin s
 | .q i gH r,s=>lF K i=true/\match qP td T n all (aJ (flatK (mM gH) K) rg 0) i s.fr with
  |some (f,o)=>RQ pr o (xN pe pr fin td tx T n all K rg pS H r ⟨f,s.rg⟩)
  |none=>False
 | .one i r,s=>bif aU pS i then H i r s else jw pe pr td tx T n all K i (fun s'=>xN pe pr fin td tx T n all K rg pS H r s') s
 | .two i j x y,s=>(bif aU pS i then H i x s else jw pe pr td tx T n all K i (fun s'=>xN pe pr fin td tx T n all K rg pS H x s') s)/\(bif aU pS j then H j y s else jw pe pr td tx T n all K j (fun s'=>xN pe pr fin td tx T n all K rg pS H y s') s)
theorem vv {E:Env}{T:aQ}(hT:aq E.P T){td:List (Nat × SV)}{tx:List (Nat × Ef)}{all:Array Oper}(jb:aaF all=true){Q:Exit->Act->World->Prop}(hQ:bR Q){N0:af}{K:KW}{rg:List Rg}{fin:St->Prop}{pS:List Nat}{H:Nat->dK->St->Prop}{Nf:af}(wf:World)(hV:jg Nf rg wf)
  (hH:∀(m:Nat) (ad:Array Bool) (hz:Nat) (r:dK) {s:St} {N:af} {a:Act} {w:World},bA all r m (ad.setIfInBounds hz true)=true->hz∈aam .any all ad->ad.size=all.size->H hz r s->Nf.le N->N0.le N->aX E.n N s.fr a->Sat E N s.rg w->bG (bS K (ad.setIfInBounds hz true)) rg s.rg->rg.length<=s.rg.length ->
   wpOp E.P all Q hz (fun a' w'=>VI E.im Nf (aJ (bS K (ad.setIfInBounds hz true)) rg 0) w'/\eZ E.P all Q (fun L=>VI E.im Nf (aJ (bS K L) rg 0)) m (ad.setIfInBounds hz true) a' w') a w):∀(t:dK) (m:Nat) (ad:Array Bool) {s:St} {N:af} {a:Act} {w:World},
  bA all t m ad=true->ad.size=all.size->xN (be E N0) (hZ.Ok E N0) fin td tx T E.n all K rg pS H t s->Nf.le N->N0.le N->aX E.n N s.fr a->Sat E N s.rg w->bG (bS K ad) rg s.rg->rg.length<=s.rg.length ->
  (∀s' N' a' w',fin s'->N.le N'->aX E.n N' s'.fr a'->Sat E N' s'.rg w'->Q .normal a' w')->eZ E.P all Q (fun L=>VI E.im Nf (aJ (bS K L) rg 0)) m ad a w:=by
 have I4:∀{l:List Nat},l.isEmpty=true->l=[]:=by intro l h;cases l<;>simp at h ⊢
 have eL:∀(L:Array Bool) {N:af} {cN:List Rg} {w:World},Nf.le N->bG (bS K L) rg cN->Sat E N cN w->VI E.im Nf (aJ (bS K L) rg 0) w:=fun L _ _ _ hN ha hS=>⟨dx (hV.AK _) hN ha hS,hS.cK⟩
 -- one operation that is ready
 have step:∀(m:Nat) (ad:Array Bool) (i:Nat) (c:St->Prop) {s:St} {N:af} {a:Act} {w:World},i∈aam .any all ad->ad.size=all.size->jw (be E N0) (hZ.Ok E N0) td tx T E.n all K i c s->Nf.le N->N0.le N->aX E.n N s.fr a->Sat E N s.rg w->bG (bS K ad) rg s.rg->rg.length<=s.rg.length ->
   (∀s' N' a' w',c s'->N.le N'->aX E.n N' s'.fr a'->Sat E N' s'.rg w'->bG (bS K (ad.setIfInBounds i true)) rg s'.rg->rg.length<=s'.rg.length->eZ E.P all Q (fun L=>VI E.im Nf (aJ (bS K L) rg 0)) m (ad.setIfInBounds i true) a' w') ->
   wpOp E.P all Q i (fun a' w'=>VI E.im Nf (aJ (bS K (ad.setIfInBounds i true)) rg 0) w'/\eZ E.P all Q (fun L=>VI E.im Nf (aJ (bS K L) rg 0)) m (ad.setIfInBounds i true) a' w') a w:=by
  intro m ad i c s N a w jp hn hg hN ck hf hS ha hl hk;have aF:i<ad.size:=by
   obtain⟨_,o,ho,_⟩:=aap.1 jp;rw[hn];exact(aaQ.1 ho).1
  have ey:(ad.setIfInBounds i true).getD i false=true:=by simp[aF]
  have grow:∀r,aU (bS K ad) r=true->aU (bS K (ad.setIfInBounds i true)) r=true:=fun r h=>by
   obtain⟨p,h1,h2,h3⟩:=aG.1 h;refine aG.2 ⟨p,h1,?_,h3⟩
   by_cases e:i=p.1
   ·rw[<-e];exact ey
   ·rw[getD_set_ne false e];exact h2
  have own:∀k,aU (eW K i) k=true->aU (bS K (ad.setIfInBounds i true)) k=true:=fun k hk=>by
   obtain⟨p,h1,h2,h3⟩:=fw hk;exact aG.2 ⟨p,h1,by rw[h2];exact ey,h3⟩
  have fT:bG (bS K (ad.setIfInBounds i true)) rg s.rg:=ha.mono fun r hr=>by
   cases hx:aU (bS K ad) r with
   |true=>rw[grow r hx] at hr;cases hr
   |false=>rfl
  obtain⟨_,o,ho,_⟩:=aap.1 jp;unfold jw at hg;unfold wpOp;simp only[ho]
  split at hg
  ·rename_i f op e hq
   obtain⟨xG,fm,hg⟩:=hg;obtain⟨hw,hx⟩:=mF ho hq fm ck hf hS;obtain⟨xF,o5⟩:=e.keeps s.rg;have sD:bG (bS K (ad.setIfInBounds i true)) rg (e.up s.rg):=fun r g hg hr=>xF r g (fT r g hg hr) (iY xG r (by
    cases hx:aU (eW K i) r with
    |true=>rw[own r hx] at hr;cases hr
    |false=>rfl))
   rw[hw,if_pos rfl];exact .inl (hx _ _ fun N' x w' db d_ cL=>⟨eL _ (hN.trans db) sD cL,hk _ N' _ w' hg db d_ cL sD (aao hl o5)⟩)
  unfold stepT at hg
  split at hg
  ·rename_i f ob hq
   obtain⟨fm,hg⟩:=gL hg;obtain⟨v,hv,de⟩:=fv hT ho hq fm ck hf hS.vi;have gz:=hk _ N _ w hg (af.le.refl N) de hS fT hl;rcases hv with ⟨hw,a6⟩|⟨hw,rfl⟩
   ·rw[hw,if_pos rfl]
    exact .inl (bi (.inl (a6 w hS.vi)) ⟨eL _ hN fT hS,gz⟩)
   ·rw[hw]
    exact⟨eL _ hN fT hS,gz⟩
  ·split at hg
   ·rename_i s1 he
    obtain⟨xG,mJ⟩:=hg;obtain⟨hw,N',x,w',db,hy,d_,cL⟩:=gu hT (by simpa using ho) he hf hS;have sD:=eA (ks:=bS K (ad.setIfInBounds i true)) fT hl (by
     split
     ·rename_i k oZ
      rw[oZ] at xG;exact own k xG
     ·rfl) he
    rw[hw,if_pos rfl];exact .inl (bi hy ⟨eL _ (hN.trans db) sD.1 cL,hk _ N' _ _ mJ db d_ cL sD.1 sD.2⟩)
   ·split at hg
    ·rename_i f gk g l v qw
     obtain⟨fm,hg⟩:=hg;rcases fV ho qw fm ck hf hS with ⟨hw,hx⟩|⟨hw,d_⟩
     ·rw[hw,if_pos rfl]
      exact .inl (hx _ _ fun x w' d_ cL=>⟨eL _ hN fT cL,hk _ N _ w' hg (af.le.refl N) d_ cL fT hl⟩)
     ·rw[hw]
      exact⟨eL _ hN fT hS,hk _ N _ w hg (af.le.refl N) d_ hS fT hl⟩
    ·exact hg.elim
 have Kv:∀(ad:Array Bool) (i:Nat),i<ad.size->∀r,aU (bS K ad) r=true->aU (bS K (ad.setIfInBounds i true)) r=true:=fun ad i aF r h=>by
  obtain⟨p,h1,h2,h3⟩:=aG.1 h;refine aG.2 ⟨p,h1,?_,h3⟩
  by_cases e:i=p.1
  ·rw[<-e];simp[aF]
  ·rw[getD_set_ne false e];exact h2
 have hand:∀(m:Nat) (ad:Array Bool) (i:Nat) (r:dK) (c:St->Prop) {s:St} {N:af} {a:Act} {w:World},i∈aam .any all ad->ad.size=all.size->bA all r m (ad.setIfInBounds i true)=true->(bif aU pS i then H i r s else jw (be E N0) (hZ.Ok E N0) td tx T E.n all K i c s)->Nf.le N->N0.le N->aX E.n N s.fr a->Sat E N s.rg w->bG (bS K ad) rg s.rg->rg.length<=s.rg.length ->
   (∀s' N' a' w',c s'->N.le N'->aX E.n N' s'.fr a'->Sat E N' s'.rg w'->bG (bS K (ad.setIfInBounds i true)) rg s'.rg->rg.length<=s'.rg.length->eZ E.P all Q (fun L=>VI E.im Nf (aJ (bS K L) rg 0)) m (ad.setIfInBounds i true) a' w') ->
   wpOp E.P all Q i (fun a' w'=>VI E.im Nf (aJ (bS K (ad.setIfInBounds i true)) rg 0) w'/\eZ E.P all Q (fun L=>VI E.im Nf (aJ (bS K L) rg 0)) m (ad.setIfInBounds i true) a' w') a w:=by
  intro m ad i r c s N a w jp hn ht hg hN ck hf hS ha hl hk;cases hb:aU pS i with
  |true =>
   rw[hb] at hg;have aF:i<ad.size:=by
    obtain⟨_,o,ho,_⟩:=aap.1 jp;rw[hn];exact(aaQ.1 ho).1
   exact hH m ad i r ht jp hn hg hN ck hf hS (ha.mono fun r hr=>by
    cases hx:aU (bS K ad) r with
    |true=>rw[Kv ad i aF r hx] at hr;cases hr
    |false=>rfl) hl
  |false =>
   rw[hb] at hg;exact step m ad i c jp hn hg hN ck hf hS ha hl hk
 intro t
 induction t with
 |nil =>
  intro m ad s N a w hs hn hg hN ck hf hS ha hl hk;simp only[bA,aay] at hs;obtain rfl:=aaR hs.1;exact eZ.done (I4 hs.2) (hk s N a w hg (af.le.refl N) hf hS)
 |q i gH r ih =>
  intro m ad s N a w hs hn hg hN ck hf hS ha hl hk;cases m with
  |zero=>simp[bA] at hs
  |succ m =>
   have yI:=eL ad hN ha hS;simp only[bA,aay] at hs;obtain⟨⟨⟨⟨hr,jL⟩,gp⟩,gq⟩,hs⟩:=hs;simp only[xN] at hg;obtain⟨o8,hg⟩:=hg;have o8:=ff o8;have jp:i∈aam .any all ad:=by simpa using hr
   have tg:ad.getD i false=false:=by
    have h1:=(aap.1 jp).1;rcases Nat.lt_or_ge i ad.size with h'|h'
    ·simp[h'] at h1 ⊢;exact h1
    ·rw[Array.getD_eq_getD_getElem?,Array.getElem?_eq_none h'];rfl
   have same:∀(L:Array Bool) (r:Nat),aU (bS K (L.setIfInBounds i true)) r=true↔aU (bS K L) r=true:=fun L r=>by
    simp only[bS,aG];constructor
    ·rintro⟨p,h1,h2,h3⟩
     exact⟨p,h1,by rwa [getD_set_ne false (fun e=>o8 p h1 e.symm)] at h2,h3⟩
    ·rintro⟨p,h1,h2,h3⟩
     exact⟨p,h1,by rwa [getD_set_ne false (fun e=>o8 p h1 e.symm)],h3⟩
   split at hg
   ·rename_i f ob hq
    obtain⟨_,o,ho,_⟩:=aap.1 jp;obtain⟨fm,hg⟩:=gL hg;have wide:∀{L':Array Bool} {w':World},Up all i ad L'->VI E.im Nf (aJ (bS K L') rg 0) w'->VI E.im Nf (aJ (flatK (mM gH) K) rg 0) w':=fun sI hv =>
     ⟨hv.1.more fun r hr=>by
      obtain⟨p,h1,h2,h3⟩:=aG.1 hr;exact aG.2 ⟨p,h1,(sI.within gp hn tg gq).2.2 _ h2,h3⟩,hv.2⟩
    obtain⟨v,hv,de⟩:=fv hT ho hq fm ck hf ((wide .here yI).mono hN);refine eZ.take (S:=fun L=>VI E.im Nf (aJ (bS K L) rg 0)) ho jb jL hr (fun c a w h=>hQ c a o.dst v w h) (fun L w=>⟨fun h=>⟨h.1.more fun r hr=>(same L r).1 hr,h.2⟩,fun h=>⟨h.1.more fun r hr=>(same L r).2 hr,h.2⟩⟩) ?_ yI
     (ih m _ hs (by simpa using hn) hg hN ck de hS (fun r g hg hm=>ha r g hg (by
      cases hx:aU (bS K ad) r with
      |true=>rw[(same ad r).2 hx] at hm;cases hm
      |false=>rfl)) hl hk)
    rcases hv with ⟨hw,a6⟩|⟨hw,rfl⟩
    ·exact .inl ⟨hw,fun w ⟨L',sI,hw⟩=>a6 w ((wide sI hw).mono hN)⟩
    ·exact .inr ⟨hw,rfl⟩
   ·exact hg.elim
 |one i r ih =>
  intro m ad s N a w hs hn hg hN ck hf hS ha hl hk;cases m with
  |zero=>simp[bA] at hs
  |succ m =>
   simp only[bA,aay] at hs;have hr:=gr hs.1;refine eZ.all hr (by simp) fun j hj=>?_
   simp only[aaq] at hj;subst hj;simp only[xN] at hg;refine hand m ad j _ _ (by rw[hr];simp) hn hs.2 hg hN ck hf hS ha hl fun s' N' a' w' hc db d_ cL mI o6=>?_
   exact ih m _ hs.2 (by simpa using hn) hc (hN.trans db) (ck.trans db) d_ cL mI o6 fun s2 N2 a2 w2 h1 h2=>hk s2 N2 a2 w2 h1 (db.trans h2)
 |two i j x y V5 V6 =>
  intro m ad s N a w hs hn hg hN ck hf hS ha hl hk;cases m with
  |zero=>simp[bA] at hs
  |succ m =>
   simp only[bA,aay] at hs;obtain⟨⟨h2,hx⟩,hy⟩:=hs;have hr:=mO h2;have EA:i∈aam .any all ad:=by rcases hr with h|h<;>rw[h]<;>simp
   have VC:j∈aam .any all ad:=by rcases hr with h|h<;>rw[h]<;>simp
   simp only[xN] at hg;have si:=hand m ad i _ _ EA hn hx hg.1 hN ck hf hS ha hl fun s' N' a' w' hc db d_ cL mI o6=>V5 m _ hx (by simpa using hn) hc (hN.trans db) (ck.trans db) d_ cL mI o6 fun s2 N2 a2 w2 h1 h2=>hk s2 N2 a2 w2 h1 (db.trans h2)
   have sj:=hand m ad j _ _ VC hn hy hg.2 hN ck hf hS ha hl fun s' N' a' w' hc db d_ cL mI o6=>V6 m _ hy (by simpa using hn) hc (hN.trans db) (ck.trans db) d_ cL mI o6 fun s2 N2 a2 w2 h1 h2=>hk s2 N2 a2 w2 h1 (db.trans h2)
   rcases hr with h|h
   ·exact eZ.all h (by simp) fun q hq=>by
     simp only[aaU,aaV,or_false] at hq;rcases hq with rfl|rfl
     ·exact si
     ·exact sj
   ·exact eZ.all h (by simp) fun q hq=>by
     simp only[aaU,aaV,or_false] at hq;rcases hq with rfl|rfl
     ·exact sj
     ·exact si
def FL (P:aav)(n:Nat)(B:aH)(Q:Exit->Act->World->Prop)(k:List It)(T:aQ)(all:Array Oper)(K:KW)(rg:List Rg)(pS:List Nat):Nat->eR->Nat->dK->St->Prop
 |0,_,_,_,_=>False
 |d+1,E,hz,r,s=>∃(o:Oper) (g:FuncId) (xs:Array Operand) (ts:Array TypeId) (l:List SV),nth all.toList hz=some o/\sure all s.fr o=true/\o.op=.call { callee:=.value (.func g),args:=xs,argTypes:=ts }/\tU s.fr xs.toList=some l/\(∀args w,(callFunc g args).run P w=.ok (.enter g args) w) /\
  ∀(N:af) (w:World) (args:List Value),E.N0.le N->Sat E.toEnv N s.rg w->SV.ap N l=some args->Calls P g args.toArray w fun e w'=>∃v,e=.returned v /\
   ∃(E':eR) (rv:SV) (f':Fr) (td:List (Nat × SV)) (tx:List (Nat × Ef)),E'.P=P/\E'.n=n/\E'.B=B/\E'.Q=Q/\(∀k o v,E.im k o=some v->E'.im k o=some v)/\E'.N0.le N/\Sat E'.toEnv N s.rg w'/\rv.den N=some v/\eK n s.fr o.dst (.val rv)=some f' /\
    ∀(pr:hZ->Prop) (pe:PE) (fin:St->Prop) (H:Nat->dK->St->Prop),(∀q:hZ,q.Ok E'.toEnv E'.N0->pr q)->(∀rg f op r cN,be E'.toEnv E'.N0 rg f op r cN->pe rg f op r cN)->(∀s',X E' k s'->fin s')->(∀hz r s',FL P n B Q k T all K rg pS d E' hz r s'->H hz r s') ->
     xN pe pr fin td tx T n all K rg pS H r ⟨f',s.rg⟩
theorem tW {P:aav}{n:Nat}{B:aH}{Q:Exit->Act->World->Prop}{k:List It}{T:aQ}(hT:aq P T){all:Array Oper}(jb:aaF all=true){K:KW}{rg:List Rg}{pS:List Nat}(hQ:bR (ms P B k Q)){Nf:af}(wf:World)(hV:jg Nf rg wf) :
  ∀(d:Nat) {E:eR} (m:Nat) (ad:Array Bool) (hz:Nat) (r:dK) {s:St} {N:af} {a:Act} {w:World},E.P=P->E.n=n->E.B=B->E.Q=Q->bA all r m (ad.setIfInBounds hz true)=true->hz∈aam .any all ad->ad.size=all.size->FL P n B Q k T all K rg pS d E hz r s->Nf.le N->E.N0.le N->aX n N s.fr a->Sat E.toEnv N s.rg w ->
   bG (bS K (ad.setIfInBounds hz true)) rg s.rg->rg.length<=s.rg.length ->
   wpOp P all (ms P B k Q) hz (fun a' w'=>VI E.im Nf (aJ (bS K (ad.setIfInBounds hz true)) rg 0) w'/\eZ P all (ms P B k Q) (fun L=>VI E.im Nf (aJ (bS K L) rg 0)) m (ad.setIfInBounds hz true) a' w') a w
 |0,_,_,_,_,_,_,_,_,_,_,_,_,_,_,_,_,hh,_,_,_,_,_,_=>hh.elim
 |d+1,E,m,ad,hz,r,s,N1,a1,w1,eP,en,eB,eQ,htr,jp,K2,hh,Ra,dQ,MY,hS1,fT,qt=>by
  obtain⟨o,g,xs,ts,l,ho,Yt,cC,hl,hb,hc⟩:=hh;have kR:all[hz]?=some o:=by rw[bT] at ho;simpa using ho
  have fD:=lW MY _ hl;have hc:=hc N1 w1 _ dQ hS1 fD;have a6:(execOp a1.eval o).run P w1=.ok (.enter g (xs.toList.map a1.eval).toArray) w1:=by
   simp only[execOp,cC,resolve,Act.eval,Deferred.ofValue,Sem.run_bind,Sem.run_pure,Result.andThen,invoke];rw[hb]
   congr 2
   apply Array.ext';simp
  unfold wpOp;simp only[kR];have hw:Region.wanted o (yielded all a1.tmps)=true:=mW MY Yt;rw[hw,if_pos rfl];refine .inl ?_;unfold Oper.wp;rw[a6];refine Calls.mono hc fun e w' ⟨v,he,hv⟩=>?_
  subst he;obtain⟨⟨⟨P2,n2,Q2,W2,O2,iz,D2,R2⟩,N2,B2⟩,rv,f',td2,tx2,e1,e2,e3,e4,ct,KA,Py,hr,hp,hx⟩:=hv
  change P2=P at e1
  change n2=n at e2
  change B2=B at e3
  change Q2=Q at e4
  subst e1;subst e2;subst e3;subst e4;have hx:=hx (hZ.Ok ⟨P2,n2,Q2,W2,O2,iz,D2,R2⟩ N2) (be ⟨P2,n2,Q2,W2,O2,iz,D2,R2⟩ N2) (fun s'=>X ⟨⟨P2,n2,Q2,W2,O2,iz,D2,R2⟩,N2,B2⟩ k s') _ (fun _ h=>h) (fun _ _ _ _ _ h=>h) (fun _ h=>h) (fun _ _ _ h=>h);have d_:aX n2 N1 f' (a1.put o.dst v):=cu MY hr hp;have PZ:=vv (E:=⟨P2,n2,Q2,W2,O2,iz,D2,R2⟩) hT jb hQ wf hV (fun m' AG RL r' {s'} {N'} {a'} {w''} t1 t2 t3 t4 t5 t6 t7 t8 t9 t10=>tW hT jb hQ wf hV d (E:=⟨⟨P2,n2,Q2,W2,O2,iz,D2,R2⟩,N2,B2⟩) m' AG RL r' rfl rfl rfl rfl t1 t2 t3 t4 t5 t6 t7 t8 t9 t10) r m _ htr (by simpa using K2) hx Ra KA d_ Py fT qt (fun s3 N3 a3 w3 h1 h2 h3 h4=>h1 N3 a3 w3 (KA.trans h2) h3 h4);exact⟨⟨dx (hV.AK _) Ra fT Py,fun k o v h=>Py.cK k o v (ct k o v h)⟩,eZ.IZ (fun L w h=>⟨h.1,fun k o v hk=>h.2 k o v (ct k o v hk)⟩) m _ _ _ PZ⟩
theorem X.goN {P:aav}{fn:Func}{R:aan->World->Prop}{W:World}{O:Nat->Nat->Prop}{im:Nat->Nat->Option Value}{D:Nat->Nat->Prop}{Rr:World->Prop}{N0:af}{B:aH}{T:aQ}(d:Nat)(td:List (Nat × SV))(tx:List (Nat × Ef))(hT:aq P T)(t:dK)(n:Nat)(pS:List Nat)(K:KW){id:Nat}{ops:Array Oper}{k:List It}{s:St}
  (hn:fn.ntmps=n) (jb:aaF ops=true) (ht:bA ops t ops.size (Array.replicate ops.size false)=true)
  (h:∀(pr:hZ->Prop) (pe:PE) (fin:St->Prop) (H:Nat->dK->St->Prop),(∀q:hZ,q.Ok (aK P fn R W O im D Rr N0 B).toEnv N0->pr q)->(∀rg f op r cN,be (aK P fn R W O im D Rr N0 B).toEnv N0 rg f op r cN->pe rg f op r cN)->(∀s',X (aK P fn R W O im D Rr N0 B) k s'->fin s') ->
   (∀hz r s',FL P n B (aaG P fn R) k T ops K s.rg pS d (aK P fn R W O im D Rr N0 B) hz r s'->H hz r s')->xN pe pr fin td tx T n ops K s.rg pS H t s):X (aK P fn R W O im D Rr N0 B) (.code (.region id ops true)::k) s:=by
 subst hn;intro N a w hN hf hS;show _->Code.wp _ _ _ _ _;intro _;have hg:=h (hZ.Ok (aK P fn R W O im D Rr N0 B).toEnv N0) (be (aK P fn R W O im D Rr N0 B).toEnv N0) (fun s'=>X (aK P fn R W O im D Rr N0 B) k s') (FL P fn.ntmps B (aaG P fn R) k T ops K s.rg pS d (aK P fn R W O im D Rr N0 B)) (fun _ h=>h) (fun _ _ _ _ _ h=>h) (fun _ h=>h) (fun _ _ _ h=>h);have cL:Sat (aK P fn R W O im D Rr N0 B).toEnv N s.rg { w with drawn:=w.drawn+1 }:=hS.drew;have hQ:=bR.ms (P:=P) (B:=B) (Q:=aaG P fn R) (fun _ _ d _ _ h=>by cases d<;>exact h) k;have PZ:=vv (E:=(aK P fn R W O im D Rr N0 B).toEnv) hT jb hQ _ cL.xt (fun m' AG RL r' {s'} {N'} {a'} {w''} t1 t2 t3 t4 t5 t6 t7 t8 t9 t10=>tW hT jb hQ _ cL.xt d (E:=aK P fn R W O im D Rr N0 B) m' AG RL r' rfl rfl rfl rfl t1 t2 t3 t4 t5 t6 t7 t8 t9 t10) t _ _ ht (by simp) hg (af.le.refl N) hN hf cL (fun r g hg _=>hg) (Nat.le_refl _) (fun s' N' a' w' h1 h2 h3 h4=>h1 N' a' w' (hN.trans h2) h3 h4);exact wp_region_any hT.mixed PZ.any
end Go.bU
namespace Go.Proofs.YthpbefahaghbjaaGreat
open Go Go.bU Go.ChangeShapes Go.WideShapes
def abH (l:List Int)(w:World)(e:aan)(w':World):Prop :=
 ∃p c,e=.returned (.slice p l.length c)/\(∀M:Mem,(∀k o v,w.heap.size<=k->w'.cell? ⟨k,o,none⟩=some v->M k o=some v)->dC M p c 1 (l.map qU))/\aW (fun _ _=>False) w w'
theorem yD (l:List Int)(po:Option Addr)(co:Nat)(w:World)(hs:dC (wm w) po co 1 (l.map qU))(hle:l.length<=1000):Calls aac 21 #[.slice po l.length co] w (abH l w):=by
 have hm:l.length<=maxLen:=hs.len;cases po with
 |none =>
  have hl:l=[]:=by
   rcases hs.2 with h|⟨b,y,h,_⟩
   ·simpa using h
   ·cases h
  subst hl;exact(vF co w).mono fun e w' ⟨he,hc⟩=>⟨none,0,he,fun M _=>⟨⟨by simp,by simp⟩,.inl (by simp)⟩,hc⟩
 |some a =>
  refine(vE (some a) l.length co l.toArray w (by simp) hle (dC.yj hs fun _ _ _ h=>h)).mono fun e w' ⟨b,y,c,he,hb,hc,hA,bV⟩=>?_
  refine⟨some ⟨b,y,none⟩,c,by simpa using he,fun M hM=>?_,bV⟩;refine dC.of (K:=1) (bC:=l.map fun z=>[Value.int .u8 z]) (by simpa using hc) hm (by simp) (fun i z hz=>⟨[.int .u8 z],by simp[hz],by simp[qU,az,bj]⟩) (fun h0=>⟨b,y,rfl,fun i vs hi j v hj=>?_⟩);rw[aaK,aa6] at hi;obtain⟨z,hz,rfl⟩:=hi;have yc:=(aad.1 hz).1;obtain rfl:j=0:=by have:=(aad.1 hj).1;simp at this;omega
  simp only[List.getElem?_cons_zero,aA] at hj;subst hj;refine hM _ _ _ (hb (by simpa using h0)) ?_;have:=(hA i (by simpa using yc)).1;rw[Nat.mul_one,aaw,this];simp[(aad.1 hz).2,yc]
theorem Qv (wm:WM)(s:WP)(n:Nat)(Mo:Mem)(w:World)(t:cy)(x:aO)(e0:fu)(h:bX wm s Mo w)(ok:s.Ok n)(hn:n<=1000)(ht:t.Of Mo x)(hx:x.Ok)(hc:x.cnt)(hp:s.pos x.key x.s.acc=none)(he0:e0=⟨x.key,x.s.acc,x.c,x.s.a8,0,false⟩) :
  Calls aac 9 (Iz (wm.P 0).b (wm.P 0).o t) w (mv wm s (WP.told ⟨s.seen++[e0],s.l,s.all++[⟨x.key,x.s.acc,x.s.a8,x.eY⟩],s.da⟩ s.seen.length e0 x) Mo w):=by
 obtain⟨Q,hQ⟩:∃Q:aan->World->Prop,Q=mv wm s (WP.told ⟨s.seen++[e0],s.l,s.all++[⟨x.key,x.s.acc,x.s.a8,x.eY⟩],s.da⟩ s.seen.length e0 x) Mo w:=⟨_,rfl⟩;rw[<-hQ];obtain⟨e1,e2,e3,e4,e5,e6,e7,e8⟩:=ht.e;have ho:=dC.yj (w:=w) ht.o h.mo;have hnw:=dC.yj (w:=w) ht.n h.mo;have HI:((x.c.c.toNat:Nat):Int)=t.cc:=by rw[e2];exact Int.toNat_of_nonneg hx.c0
 obtain⟨vl,l1,l2,l3,l4,l5⟩:=h.l.cells;obtain⟨va,a1,a2,a3,a4,a5⟩:=h.a.cells;obtain⟨gm,m1,m2,m3⟩:=h.mp;obtain⟨jT,gT⟩:=h.hd;obtain⟨i,hi⟩:∃i,i=s.seen.length:=⟨_,rfl⟩;obtain⟨O,WQ⟩:∃O:Nat->Nat->Prop,O=fun k o=>k=wm.m\/∃r,(r<3\/r=3+i/\i<s.seen.length)/\mK (wm.P r) k o:=⟨_,rfl⟩
 have hO:∀k o,O k o->k=wm.m\/∃r,(r<3\/r=3+i/\i<s.seen.length)/\mK (wm.P r) k o:=fun k o ho=>by rw[WQ] at ho;exact ho
 have U5:∀r,r<3->∀k o,mK (wm.P r) k o->O k o:=fun r hr k o hi=>by rw[WQ];exact .inr ⟨r,by omega,hi⟩
 have WO:∀k o,O k o->wm.D s.seen.length k o:=fun k o ho=>by
  rcases hO k o ho with e|⟨r,hr,ni⟩
  ·exact .inl e
  ·exact .inr ⟨r,by omega,ni⟩
 obtain⟨im,aV⟩:∃im,im=outside O w:=⟨_,rfl⟩;have s8:∀k o v,Mo k o=some v->im k o=some v:=fun k o v hk=>by
  rw[aV,lc (fun hd=>by rw[h.md k o (WO k o hd)] at hk;cases hk)];exact h.mo k o v hk
 obtain⟨sl,EG⟩:∃sl,sl=gV 1 s.l.length 13:=⟨_,rfl⟩;obtain⟨sa,W0⟩:∃sl,sl=gV 2 s.all.length 13:=⟨_,rfl⟩;obtain⟨cl,jZ⟩:∃c,c=a7 vl.flatten:=⟨_,rfl⟩;obtain⟨ca,Ca⟩:∃c,c=a7 va.flatten:=⟨_,rfl⟩;obtain⟨tn,Zp⟩:∃b,b=s.da:=⟨_,rfl⟩;obtain⟨N0,ck⟩:∃N,N=[wm.P 0,wm.P 1,wm.P 2]:=⟨_,rfl⟩;have lA:∀(N:af) (r n:Nat) (p:aS),N[r]?=some p->(gV r n 13).den N=some (gC p n):=fun N r n p hp=>by
  by_cases h0:n=0
  ·subst h0;simp[gV,gC,SV.den,bc]
  ·have hb:Nat.beq n 0=false:=by cases h:Nat.beq n 0 with|false=>rfl|true=>exact absurd (aaR h) h0
   simp only[gV,hb,cond_false,SV.den,hp,aS.cap,gC,if_neg h0,aaw,aaH]
 have xE:SV.ap N0 [.raw (.map (some wm.m)),sl,sa,.bool (.v tn)]=some [.map (some wm.m),gC (wm.P 1) s.l.length,gC (wm.P 2) s.all.length,.bool s.da]:=by
  simp only[SV.ap,EG,W0,Zp,lA N0 1 s.l.length (wm.P 1) (by rw[ck];rfl),lA N0 2 s.all.length (wm.P 2) (by rw[ck];rfl)];rfl
 have kF:zC (Jt w N0) N0 [⟨true,[.raw (.map (some wm.m)),sl,sa,.bool (.v tn)],none⟩,⟨true,cl,none⟩,⟨true,ca,none⟩]:=by
  rw[ck];refine⟨mS (h.room 0 (by omega)) gT (by rw[<-ck];exact xE) jT,mS (h.room 1 (by omega)) l3 (by rw[jZ];exact c9 l5 _) (by rw[l4];exact h.l.1),mS (h.room 2 (by omega)) a3 (by rw[Ca];exact c9 a5 _) (by rw[a4];exact h.a.1),trivial⟩
 have aj:tM N0 [⟨true,[.raw (.map (some wm.m)),sl,sa,.bool (.v tn)],none⟩,⟨true,cl,none⟩,⟨true,ca,none⟩]:=by
  rw[ck];have q:=fun r r' h1 h2 h3=>h.sep r r' h1 h2 h3
  exact⟨⟨jV rfl rfl (q 0 1 (by omega) (by omega) (by omega)),jV rfl rfl (q 0 2 (by omega) (by omega) (by omega)),trivial⟩,⟨jV rfl rfl (q 1 2 (by omega) (by omega) (by omega)),trivial⟩,trivial,trivial⟩
 have qu:∀(r:Nat) (g:Rg) (p:aS),([⟨true,[.raw (.map (some wm.m)),sl,sa,.bool (.v tn)],none⟩,⟨true,cl,none⟩,⟨true,ca,none⟩]:List Rg)[r]?=some g->N0[r]?=some p->∃r',r'<3/\p=wm.P r':=fun r g p hg hp=>by
  rw[ck] at hp
  match r,hp with
  |0,hp=>cases hp;exact⟨0,by omega,rfl⟩
  |1,hp=>cases hp;exact⟨1,by omega,rfl⟩
  |2,hp=>cases hp;exact⟨2,by omega,rfl⟩
  |r+3,hp=>simp at hp
 have hSt:Sat (aK aac aae Q w O im (fun k _=>k=wm.m) (eD aac cM wm.m gm) N0 B9).toEnv N0 [⟨true,[.raw (.map (some wm.m)),sl,sa,.bool (.v tn)],none⟩,⟨true,cl,none⟩,⟨true,ca,none⟩] w:=by
  refine Sat.RS _ _ _ kF aj (fun k o e=>.inr (by subst e;exact m1.ob)) eD.loc m1 (fun k o v hk=>?_) (fun r g p hg hp ho j hj=>?_) O (fun r g p hg hp ho j hj=>?_)
  ·rw[aV] at hk
   by_cases hd:O k o
   ·rw[mP hd] at hk;cases hk
   ·rw[lc hd] at hk;exact hk
  ·obtain⟨r',h1,rfl⟩:=qu r g p hg hp
   have h2:mK (wm.P r') (wm.P r').b ((wm.P r').o+j):=⟨rfl,by omega,by omega⟩;exact⟨h.ne (by omega) h2,by rw[aV];exact mP (U5 r' h1 _ _ h2)⟩
  ·obtain⟨r',h1,rfl⟩:=qu r g p hg hp
   exact U5 r' h1 _ _ ⟨rfl,by omega,by omega⟩
 obtain⟨kl,HM⟩:=CS hx.kw hx.a1 hx.a2 hx.a3;have Ja:Cz x.key x.s.acc=.agg #[.int .u8 t.key,.int .u64 t.a1,.int .u8 t.a2,.int .u32 t.a3]:=by rw[e7,e5];rfl
 rw[Ja] at HM;have Rl:gm (.agg #[.int .u8 t.key,.int .u64 t.a1,.int .u8 t.a2,.int .u32 t.a3])=none:=by
  rw[<-Ja];exact m3 _ _ hp
 have MW:N0[0]?=some (wm.P 0):=by rw[ck];rfl
 have hcR:=cy.Of.kP ht;have ye:x.node.toNat<64:=by have:=hc.1;have:=hx.nd;omega
 have K0:t.node=((x.node.toNat:Nat):Int):=by rw[e1];exact(Int.toNat_of_nonneg hx.nd).symm
 obtain⟨t2,nk⟩:∃z,z=2 ^ x.node.toNat:=⟨_,rfl⟩;have fU:t2<2 ^ 64:=by rw[nk];exact aaI (by decide) ye
 have La:ig .or .u64 0 (t2:Int)=(t2:Int):=by
  have:=uI 0 t2 (by decide) fU;rw[aax] at this;exact this
 obtain⟨qb,AA⟩:∃b,b=B (x.c.jc x.key t2):=⟨_,rfl⟩;have EE:B (mQ x.c.c.toNat x.c.c_.toArray x.c.new.toArray t.key t2)=qb:=by rw[e5];exact AA.symm
 have iC:=fun w1 (bI:∀k o v,im k o=some v->w1.cell? ⟨k,o,none⟩=some v)=>uK x.c.c.toNat t.op t.np x.c.c_.length x.c.new.length t.oc t.nc x.c.c_.toArray x.c.new.toArray w1 (by have:=hx.co.1;omega) (by have:=hx.cn.1;omega) (dC.yj ht.o fun k o v hk=>bI _ _ _ (s8 _ _ _ hk)) (dC.yj ht.n fun k o v hk=>bI _ _ _ (s8 _ _ _ hk)) (by simpa using hx.co.2) (by simpa using hx.cn.2)
 have Vu:Cz x.key x.s.acc=.agg #[.int .u8 t.key,.int .u64 t.a1,.int .u8 t.a2,.int .u32 t.a3]:=Ja;have Y2:∀(j:Nat) (y:fu),s.seen[j]?=some y->¬(y.key=x.key/\y.b=x.s.acc):=fun j y hj hz=>by
  unfold WP.pos at hp;rw[aaL] at hp;have:=hp y (aaW.2 ⟨j,hj⟩);simp[fu.eY,hz] at this
 have YG:∀(k1 k2:Int) (z1 z2:bW),Cz k1 z1=Cz k2 z2->k1=k2/\z1=z2:=fun k1 k2 z1 z2 hz=>by
  obtain⟨p1,p2,p3⟩:=z1;obtain⟨r1,r2,r3⟩:=z2;simp only[Cz,Value.agg.injEq,Array.mk.injEq,List.cons.injEq,Value.int.injEq,true_and,and_true] at hz;obtain⟨k1,k2,k3,k4⟩:=hz;exact⟨k1,by rw[k2,k3,k4]⟩
 have XR:∀(N:af) (w':World) (rg:List Rg) (pT:Mem) (N1:af) (I5:Value->Option Value) (pt:aS) (rl:Nat) (sl':SV) (cl' ce wy:List SV) (pl:aS) (l':List aI) (k_:Nat) (mC:Bool) (wz:List Value) (cv rv:List Value),Sat (aK aac aae Q w O pT (fun k _=>k=wm.m) (eD aac cM wm.m I5) N1 B9).toEnv N rg w'->N[0]?=some (wm.P 0)->N[6]?=some pt->I5=(fun q=>open Classical in if q=.agg #[.int .u8 t.key,.int .u64 t.a1,.int .u8 t.a2,.int .u32 t.a3] then some (iE pt) else gm q) ->
   0<rl->rl≠8->rl≠6->rg[0]?=some ⟨true,[.raw (.map (some wm.m)),sl',.osl 8 0 (s.all.length+1) 13 none,.bool (.v tn)],none⟩->rg[rl]?=some ⟨true,cl',none⟩->N[rl]?=some pl->rg[8]?=some ⟨true,ca++wy,none⟩->rg[6]?=some ⟨true,ce,none⟩->sl'.den N=some (gC pl l'.length)->(∀M:Mem,(∀k o v,Mo k o=some v->M k o=some v)->(∀k o v,w.heap.size<=k->pT k o=some v->M k o=some v)->fC M pl l' w') ->
   SV.ap N wy=some wz->wz.length=13->(∀M:Mem,(∀k o v,Mo k o=some v->M k o=some v)->(∀k o v,w.heap.size<=k->pT k o=some v->M k o=some v)->az M (aI.toD ⟨x.key,x.s.acc,x.s.a8,x.eY⟩) wz)->(∀M:Mem,(∀k o v,Mo k o=some v->M k o=some v)->(∀k o v,w.heap.size<=k->pT k o=some v->M k o=some v)->az M x.c.toD cv/\az M x.s.a8.toD rv) ->
   SV.ap N ce=some (cv++(rv++[.int .u64 k_,.bool mC]))->mv wm s ⟨s.seen++[⟨x.key,x.s.acc,x.c,x.s.a8,k_,mC⟩],l',s.all++[⟨x.key,x.s.acc,x.s.a8,x.eY⟩],tn⟩ Mo w (.returned (.tuple #[])) w':=by
  intro N w' rg pT N1 I5 pt rl sl' cl' ce wy pl l' k_ mC wz cv rv hS q0 q6 HL z1 z2 z3 k0 k1 q1 k8 k6 s_ n9 sH K2 Y_ ac1 kd;obtain⟨pa,q8⟩:∃p,N[8]?=some p:=⟨_,aag (by rw[hS.len];exact(aad.1 k8).1)⟩;obtain⟨eu,c⟩:=wU h hS i (s.seen.length+1) (.inr ⟨hi,rfl⟩) hO rl 8 6 q0 q1 q8 q6 k0 k1 k8 k6 rfl rfl rfl rfl z1 (by omega) (by omega) z2 z3 (by omega);have Lc:∀k o v,w.heap.size<=k->pT k o=some v->eu k o=some v:=fun k o v hk hv=>c.put k o v hk (fun hd=>by rw[c.imn k o hk hd] at hv;cases hv) (hS.cK k o v hv)
  have uS:SV.ap N (ca++wy)=some (va.flatten++wz):=dz (by rw[Ca];exact c9 a5 _) sH;have gI:=hS.ext 8 _ pa k8 q8 rfl;have AC:(ca++wy).length=s.all.length*13+13:=by
   obtain⟨y1,_⟩:=SV.aP _ uS;rw[<-y1,aaj,a4,K2]
  have hx6:=hS.ext 6 _ pt k6 q6 rfl;obtain⟨Yf,Nb⟩:=ac1 eu c.c_ Lc;have hex:13<=pt.x:=by
   obtain⟨y1,_⟩:=SV.aP _ kd;rw[aaj,aaj,Yf.len,Nb.len] at y1;have y1:13=ce.length:=y1;simp only at hx6;omega
  refine A5 h c (by simp) (e':=⟨x.key,x.s.acc,x.c,x.s.a8,k_,mC⟩) (by simp[hi]) (fun j y e1 hj=>?_) (fl hS k0 q0 ?_) (n9 eu c.c_ Lc) (.snoc a1 (fun j y hj=>by obtain⟨vs,y1,y2⟩:=a2 j y hj;exact⟨vs,y1,y2.mono c.c_⟩) (Y_ eu c.c_ Lc) (fl hS k8 q8 uS) (by simp only at gI;omega)) ⟨hex,cv,rv,Yf,Nb,fl hS k6 q6 kd⟩ ⟨I5,hS.fH,fun j y hj=>?_,fun key b PW=>?_⟩
  ·rw[aaM] at hj
   split at hj
   ·exact hj
   ·have:=(aad.1 hj).1
    simp at this;omega
  ·have Ys:gC pa (s.all++[(⟨x.key,x.s.acc,x.s.a8,x.eY⟩:aI)]).length=.slice (some ⟨pa.b,pa.o,none⟩) (s.all.length+1) (pa.x / 13):=by simp[gC]
   simp only[SV.ap,s_,SV.den,q8,aS.cap,Ys];rfl
  ·rw[HL]
   simp only;rw[aaM] at hj
   split at hj
   ·rename_i uT
    rw[if_neg (fun hz=>Y2 j y hj (by rw[<-Vu] at hz;exact YG _ _ _ _ hz)),m2 j y hj];simp only[WM.put];rw[if_neg (by omega),if_neg (by omega),if_neg (by omega)]
   ·rename_i uT
    have YA:j-s.seen.length=0:=by
     have:=(aad.1 hj).1;simp at this;omega
    rw[YA] at hj;simp at hj;subst hj;rw[if_pos Vu];have:j=i:=by omega
    subst this;simp only[WM.put];rw[if_neg (by omega),if_neg (by omega),if_pos trivial]
  ·unfold WP.pos at PW
   rw[aaL] at PW;have h1:=PW ⟨x.key,x.s.acc,x.c,x.s.a8,k_,mC⟩ (by simp);rw[HL];simp only;rw[if_neg (fun hz=>by
    rw[<-Vu] at hz;obtain⟨z4,z5⟩:=YG _ _ _ _ hz;simp[fu.eY,z4,z5] at h1)]
   refine m3 key b ?_;unfold WP.pos;rw[aaL];exact fun y hy=>PW y (by simp[hy])
 obtain⟨y1,y2,y3,y4,y5⟩:=hc;rw[show(kG x.c.c.toNat x.c.c_.toArray x.c.new.toArray)=x.c.P_ from rfl,bP y5,HI,<-e3,<-e4] at iC;obtain⟨nd,cc,op,on,oc,np,nn,nc,ky,hs,s1,s2,s3,f_,gb,gd,⟨gk,gi,gs,gl,q1,q2,q3,q4,iL,iM,iP,iQ,fa,fb,fc,fd⟩,ta⟩:=t;refine X.FQ (ss:=Mc (.own 0 0) ⟨nd,cc,op,on,oc,np,nn,nc,ky,hs,s1,s2,s3,f_,gb,gd,⟨gk,gi,gs,gl,q1,q2,q3,q4,iL,iM,iP,iQ,fa,fb,fc,fd⟩,ta⟩) O (fun k _=>k=wm.m) (eD aac cM wm.m gm) im Tryz.func9 rfl Jn rfl (by simp only[Mc,SV.ap,SV.den,MW];rfl) hSt ?_;simp only at e1 e2 e3 e4 e5 e6 e7 e8 Rl K0 EE HI;have K4:¬(f_=0/\gb=0/\gd=0):=fun⟨z1,z2,z3⟩=>y4 (by rw[e7,z1,z2,z3])
 refine X.iA ([(33,.bool (.lit false)),(37,.bool (.lit true))]) ([]) cI 400 _ rfl aak (fun pr pe fin aj bm ai=>?_)
 conv=>cbv
 refine⟨aj _ (.of Tryz.call19 [.agg #[.int .u64 f_,.int .u8 gb,.int .u32 gd]] (.bool false) (fun _=>rfl) (fun _=>rfl) fun _ w1 _=>by have:=AO f_ gb gd w1;rwa [decide_eq_false K4] at this),aj _ (.of Tryz.call20 [.agg _] (.bool true) (fun _=>rfl) (fun _=>rfl) fun _ w1 bI=>iC w1 bI),ai _ _ ?_⟩;clear aj bm ai;refine X.cond rfl (fun hT=>?_) (fun hF=>?_)
 ·exfalso
  simp only[SB.T,SB.F,SI.den] at hT;rw[e6,y3] at hT;simp at hT;omega
 clear hF;refine X.iA ([]) ([(50,⟨fun _=>.tup [.raw (.pointer none),.bool (.lit false)],[],[]⟩)]) cI 14 _ rfl aak (fun pr pe fin aj bm ai=>?_)
 conv=>cbv
 refine⟨bm _ _ _ _ _ (be.Gv wF aa1 (fun w=>Tryz.zeroValue65 w) rfl rfl (fun _=>rfl) HM (fun _ h=>h) (fun N hN=>?_) ?_),ai _ _ ?_⟩
 ·show _=some ((gm (.agg #[.int .u8 ky,.int .u64 f_,.int .u8 gb,.int .u32 gd])).getD (.pointer none))
  rw[Rl];rfl
 ·show false=(gm (.agg #[.int .u8 ky,.int .u64 f_,.int .u8 gb,.int .u32 gd])).isSome
  rw[Rl];rfl
 clear aj bm ai
 -- the aat data: three calls that make memory
 refine X.go cI 400 _ rfl aak ?_
 conv=>arg 2;cbv
 refine X.goN 3 [] [] cI (.q 0 [2,3,4,5,6,7,9,10,11] (.q 2 [0,1,5,6,9,10] (.q 5 [0,1,2,3,4,9,10] (.q 9 [0,1,2,3,4,5,6,7,8] (.q 1 [0,2,3,4,5,6,7,9,10,11] (.q 3 [0,1,2,5,6,9,10] (.q 6 [0,1,2,3,4,5,9,10] (.q 10 [0,1,2,3,4,5,6,7,8,9] (.one 4 (.one 7 (.q 8 [0,1,2,3,4,5,6,7,9,10,11] (.one 11 (.q 12 [0,1,2,3,4,5,6,7,8,9,10,11] (.one 13 (.q 14 [0,1,2,3,4,5,6,7,8,9,10,11,12,13] (.nil)))))))))))))))) 157 [4,7,11] [] rfl (by kernel_rfl) (by kernel_rfl) (fun pr pe fin H aj bm ai hH=>?_)
 conv=>cbv
 refine hH _ _ _ ⟨_,_,_,_,_,rfl,rfl,rfl,rfl,aa2,fun N w1 args hN hS ha=>?_⟩;obtain rfl:args=[.slice op on oc]:=(aai.inj ha).symm;have Vf:=yD x.c.c_ op oc w1 (ht.o.mono fun k o v hk=>hS.cK _ _ _ (s8 _ _ _ hk)) (by have:=hx.co.1;omega);rw[<-e3] at Vf;refine Vf.mono fun ea w2 ⟨b1,c1,Du,dM,bV⟩=>?_
 rw[<-e3] at Du;have ad6:w.heap.size<=w1.heap.size:=hS.aM.size;obtain⟨eC,F9⟩:∃z,z=bx im w1 w2:=⟨_,rfl⟩;have pF:∀k o v,im k o=some v->eC k o=some v:=fun k o v h=>by rw[F9];exact dE h
 have Ym:∀k o v,w1.heap.size<=k->w2.cell? ⟨k,o,none⟩=some v->eC k o=some v:=fun k o v hk hc=>by rw[F9];exact cA (fun k o v h=>(hS.bu bV).cK _ _ _ h) hk hc
 have Ze:∀M:Mem,(∀k o v,w.heap.size<=k->eC k o=some v->M k o=some v)->dC M b1 c1 1 (x.c.c_.map qU):=fun M hM=>dM M fun k o v hk hc=>hM k o v (aao ad6 hk) (Ym k o v hk hc)
 refine⟨_,Du,aK aac aae Q w O eC (fun k _=>k=wm.m) (eD aac cM wm.m gm) N0 B9,.ao b1 on c1,_,[],[],rfl,rfl,rfl,rfl,pF,hN,by rw[F9];exact Sat.cZ hS (hS.bu bV),rfl,rfl,fun pr pe fin H aj bm ai hH=>?_⟩;clear Du dM bV ha hS Ym F9 Vf
 conv=>cbv
 refine hH _ _ _ ⟨_,_,_,_,_,rfl,rfl,rfl,rfl,aa2,fun N w1 args hN hS ha=>?_⟩;obtain rfl:args=[.slice np nn nc]:=(aai.inj ha).symm;have Vg:=yD x.c.new np nc w1 (ht.n.mono fun k o v hk=>hS.cK _ _ _ (pF _ _ _ (s8 _ _ _ hk))) (by have:=hx.cn.1;omega);rw[<-e4] at Vg;refine Vg.mono fun ea w2 ⟨b2,c2,Du,fM,bV⟩=>?_
 rw[<-e4] at Du;have ad7:w.heap.size<=w1.heap.size:=hS.aM.size;obtain⟨iz,F_⟩:∃z,z=bx eC w1 w2:=⟨_,rfl⟩;have eg:∀k o v,eC k o=some v->iz k o=some v:=fun k o v h=>by rw[F_];exact dE h
 have Yn:∀k o v,w1.heap.size<=k->w2.cell? ⟨k,o,none⟩=some v->iz k o=some v:=fun k o v hk hc=>by rw[F_];exact cA (fun k o v h=>(hS.bu bV).cK _ _ _ h) hk hc
 have Zf:∀M:Mem,(∀k o v,w.heap.size<=k->iz k o=some v->M k o=some v)->dC M b2 c2 1 (x.c.new.map qU):=fun M hM=>fM M fun k o v hk hc=>hM k o v (aao ad7 hk) (Yn k o v hk hc)
 refine⟨_,Du,aK aac aae Q w O iz (fun k _=>k=wm.m) (eD aac cM wm.m gm) N0 B9,.ao b2 nn c2,_,[],[],rfl,rfl,rfl,rfl,eg,hN,by rw[F_];exact Sat.cZ hS (hS.bu bV),rfl,rfl,fun pr pe fin H aj bm ai hH=>?_⟩;clear Du fM bV ha hS Yn F_ Vg
 conv=>cbv
 refine hH _ _ _ ⟨_,_,_,_,_,rfl,rfl,rfl,rfl,aaC,fun N w1 args hN hS ha=>?_⟩;obtain rfl:args=[.agg (cQ.aN ⟨gk,gi,gs,gl,q1,q2,q3,q4,iL,iM,iP,iQ,fa,fb,fc,fd⟩).toArray]:=(aai.inj ha).symm;refine(jt x.s.a8 _ Mo w1 (fun k o v hk=>hS.cK _ _ _ (eg _ _ _ (pF _ _ _ (s8 _ _ _ hk)))) ht.g hx.a8).mono fun ea w2 ⟨⟨vb,Du,Dw⟩,bV⟩=>?_
 obtain⟨g3,rfl⟩:=cQ.of (Dw (fun k o=>w2.cell? ⟨k,o,none⟩) (fun k o v hk=>(hS.bu bV).cK _ _ _ (eg _ _ _ (pF _ _ _ (s8 _ _ _ hk)))) (fun k o v _ h=>h));obtain⟨gk3,gi3,gs3,gl3,QB,QC,QD,QE,QG,QH,QI,QJ,QR,QS,QT,QU⟩:=g3;have ad8:w.heap.size<=w1.heap.size:=hS.aM.size;obtain⟨Lk,Ce⟩:∃z,z=bx iz w1 w2:=⟨_,rfl⟩;have Cd:∀k o v,iz k o=some v->Lk k o=some v:=fun k o v h=>by rw[Ce];exact dE h
 have Yo:∀k o v,w1.heap.size<=k->w2.cell? ⟨k,o,none⟩=some v->Lk k o=some v:=fun k o v hk hc=>by rw[Ce];exact cA (fun k o v h=>(hS.bu bV).cK _ _ _ h) hk hc
 have adR:∀M:Mem,(∀k o v,Mo k o=some v->M k o=some v)->(∀k o v,w.heap.size<=k->Lk k o=some v->M k o=some v)->az M x.s.a8.toD (cQ.aN ⟨gk3,gi3,gs3,gl3,QB,QC,QD,QE,QG,QH,QI,QJ,QR,QS,QT,QU⟩):=fun M h1 h2=>Dw M h1 fun k o v hk hc=>h2 k o v (aao ad8 hk) (Yo k o v hk hc)
 have adz:∀o,Lk wm.m o=none:=fun o=>by
  cases hv:Lk wm.m o with
  |none=>rfl
  |some v =>
   have h1:=(Sat.cZ hS (hS.bu bV)).cK _ _ _ (by rw[Ce] at hv;exact hv);obtain⟨z,hz⟩:=Option.isSome_iff_exists.1 (eD.ob (Sat.cZ hS (hS.bu bV)).fH);rw[rh hz] at h1;cases h1
 refine⟨_,Du,aK aac aae Q w O Lk (fun k _=>k=wm.m) (eD aac cM wm.m gm) N0 B9,.agg (cQ.cH ⟨gk3,gi3,gs3,gl3,QB,QC,QD,QE,QG,QH,QI,QJ,QR,QS,QT,QU⟩),_,[],[],rfl,rfl,rfl,rfl,Cd,hN,by rw[Ce];exact Sat.cZ hS (hS.bu bV),rfl,rfl,fun pr pe fin H aj bm ai hH=>?_⟩;clear Du Dw bV ha hS Yo Ce
 conv=>cbv
 refine⟨rfl,ai _ ?_⟩;clear aj bm ai hH;refine X.names fun N1 dQ dX=>?_
 have ED:=dQ 0 _ MW;obtain⟨pt,th⟩:∃p,N1[6]?=some p:=⟨_,aag (by rw[dX];show 6<7;omega)⟩;obtain⟨I5,HL⟩:∃g:Value->Option Value,g=fun q=>open Classical in if q=.agg #[.int .u8 ky,.int .u64 f_,.int .u8 gb,.int .u32 gd] then some (iE pt) else gm q:=⟨_,rfl⟩
 show X (aK aac aae Q w O Lk (fun k _=>k=wm.m) (eD aac cM wm.m gm) N1 B9) _ _;refine X.go cI 400 _ rfl aak ?_
 conv=>arg 2;cbv
 refine X.Aj (fn:=aae) cI LD (P1 157 []) 6 [] 6 rfl (by kernel_rfl) rfl H9 (Gq _ (by kernel_rfl) (fun q hq=>by simp at hq)) 157 rfl ?_
 generalize ai:(fun s'=>X (aK aac aae Q w O Lk (fun k _=>k=wm.m) (eD aac cM wm.m gm) N1 B9) _ s')=fin
 conv=>cbv
 repeat (first|refine⟨rfl,?_⟩|refine⟨⟨_,_,rfl,rfl⟩,?_⟩|refine⟨⟨rfl,_,_,rfl,rfl⟩,?_⟩)
 subst ai;refine X.P9 (eD aac cM wm.m I5) gm wF rfl rfl rfl aa1 rfl rfl (fun _=>rfl) HM Rl rfl ⟨0,rfl⟩ (fun k o e=>.inr (by subst e;show O _ _;rw[WQ];exact .inl rfl)) (fun k o e=>by subst e;exact adz o) (fun g hg=>by simp at hg;rcases hg with rfl|rfl|rfl|rfl|rfl|rfl|rfl<;>exact .inl rfl) eD.loc (fun w h=>h) (fun N w2 c ob hN hS hc _ hM=>?_) rfl ?_
 ·have:=hN 6 _ th
  simp only[SV.den,this,aA] at hc;rw[HL,iE];rw[<-hc] at hM;exact hM
 show X (aK aac aae Q w O Lk (fun k _=>k=wm.m) (eD aac cM wm.m I5) N1 B9) _ _;refine X.go cI 400 _ rfl aak ?_
 conv=>arg 2;cbv
 refine X.XY [] [] cI (.q 0 [1,2,3,4,5,6,7,8,9,10,11,12,13,14] (.q 1 [0,5,6,7,8,9,10,11,12,13] (.q 2 [0,1,5,6,7,8,9,10,11,12,13] (.q 3 [0,1,2,5,6,7,8,9,10,11,12,13] (.q 5 [0,1,2,3,4,6,7,8,9,10,11] (.q 6 [0,1,2,3,4,5,8,9,10,11] (.q 8 [0,1,2,3,4,5,6,7,11] (.q 11 [0,1,2,3,4,5,6,7,8,9,10] (.q 4 [0,1,2,3,5,6,7,8,9,10,11,12,13] (.q 7 [0,1,2,3,4,5,6,8,9,10,11] (.one 9 (.one 10 (.q 12 [0,1,2,3,4,5,6,7,8,9,10,11] (.one 13 (.one 14 (.q 15 [0,1,2,3,4,5,6,7,8,9,10,11,12,13,14] (.q 16 [0,1,2,3,4,5,6,7,8,9,10,11,12,13,14,15] (.one 17 (.nil))))))))))))))))))) 157 10 [(14,[2]),(17,[0])] rfl (by kernel_rfl) (by kernel_rfl) (fun pr pe fin H aj bm ai hH=>?_)
 conv=>cbv
 refine hH _ _ ⟨_,_,_,_,_,rfl,rfl,rfl,rfl,aaC,fun N w1 args hN hS ha=>?_⟩;obtain rfl:args=[.agg (cQ.aN ⟨gk,gi,gs,gl,q1,q2,q3,q4,iL,iM,iP,iQ,fa,fb,fc,fd⟩).toArray]:=(aai.inj ha).symm;refine(jt x.s.a8 _ Mo w1 (fun k o v hk=>hS.cK _ _ _ (Cd _ _ _ (eg _ _ _ (pF _ _ _ (s8 _ _ _ hk))))) ht.g hx.a8).mono fun ea w2 ⟨⟨vb,Du,M9⟩,bV⟩=>?_
 obtain⟨g4,rfl⟩:=cQ.of (M9 (fun k o=>w2.cell? ⟨k,o,none⟩) (fun k o v hk=>(hS.bu bV).cK _ _ _ (Cd _ _ _ (eg _ _ _ (pF _ _ _ (s8 _ _ _ hk))))) (fun k o v _ h=>h));obtain⟨XW,XV,XZ,XX,MB,MC,MD,ME,MF,MG,MH,MI,ML,MM,MN,MO⟩:=g4;have ad9:w.heap.size<=w1.heap.size:=hS.aM.size;obtain⟨Cq,Ga⟩:∃z,z=bx Lk w1 w2:=⟨_,rfl⟩;have Ex:∀k o v,Lk k o=some v->Cq k o=some v:=fun k o v h=>by rw[Ga];exact dE h
 have Yp:∀k o v,w1.heap.size<=k->w2.cell? ⟨k,o,none⟩=some v->Cq k o=some v:=fun k o v hk hc=>by rw[Ga];exact cA (fun k o v h=>(hS.bu bV).cK _ _ _ h) hk hc
 have RB:∀M:Mem,(∀k o v,Mo k o=some v->M k o=some v)->(∀k o v,w.heap.size<=k->Cq k o=some v->M k o=some v)->az M (aI.toD ⟨x.key,x.s.acc,x.s.a8,x.eY⟩) (.int .u8 ky::.int .u64 f_::.int .u8 gb::.int .u32 gd::(cQ.aN ⟨XW,XV,XZ,XX,MB,MC,MD,ME,MF,MG,MH,MI,ML,MM,MN,MO⟩++[.int .i64 ta])):=fun M h1 h2=>by
  have:=aI.shut (x:=⟨ky,⟨f_,gb,gd⟩,x.s.a8,ta⟩) (M9 M h1 fun k o v hk hc=>h2 k o v (aao ad9 hk) (Yp k o v hk hc));rw[e7,<-e5,<-e8];exact this
 obtain⟨nl4,VF⟩:∃z,z=s.all.length+1:=⟨_,rfl⟩;obtain⟨c4,Bv⟩:∃c,c=ca++[.int .u8 (.v ky),.int .u64 (.v f_),.int .u8 (.v gb),.int .u32 (.v gd),.int .u8 (.v XW),.int .u64 (.v XV),.int .i64 (.v XZ),.ao MB MF ML,.ao MC MG MM,.ao MD MH MN,.int .u64 (.v XX),.ao ME MI MO,.int .i64 (.v ta)]:=⟨_,rfl⟩;refine⟨_,Du,aK aac aae Q w O Cq (fun k _=>k=wm.m) (eD aac cM wm.m I5) N1 B9,.agg (cQ.cH ⟨XW,XV,XZ,XX,MB,MC,MD,ME,MF,MG,MH,MI,ML,MM,MN,MO⟩),_,[],[(89,⟨fun rg=>.osl rg.length 0 nl4 13 none,[(2,⟨false,[],none⟩)],[⟨true,c4,none⟩]⟩)],rfl,rfl,rfl,rfl,Ex,hN,by rw[Ga];exact Sat.cZ hS (hS.bu bV),rfl,rfl,fun pr pe fin aj bm ai=>?_⟩;clear Du M9 bV ha hS Yp Ga
 conv=>cbv
 refine⟨rfl,bm _ _ _ _ _ (be.uu (te:=fe) (r:=2) (n:=s.all.length) (m:=1) (cs:=ca) (new:=[.int .u8 (.v ky),.int .u64 (.v f_),.int .u8 (.v gb),.int .u32 (.v gd),.int .u8 (.v XW),.int .u64 (.v XV),.int .i64 (.v XZ),.ao MB MF ML,.ao MC MG MM,.ao MD MH MN,.int .u64 (.v XX),.ao ME MI MO,.int .i64 (.v ta)]) cI rfl W0 rfl rfl rfl rfl rfl (by rw[Ca,bN];exact a4) (by decide) (aY (g:=⟨true,[.int .u8 (.v ky),.int .u64 (.v f_),.int .u8 (.v gb),.int .u32 (.v gd),.int .u8 (.v XW),.int .u64 (.v XV),.int .i64 (.v XZ),.ao MB MF ML,.ao MC MG MM,.ao MD MH MN,.int .u64 (.v XX),.ao ME MI MO,.int .i64 (.v ta)],none⟩) rfl rfl rfl rfl) (bL (by decide) rfl rfl rfl (by show(2*(s.all.length+1)+256)*_<=_;simp only[fe];have:=ok.a;omega) (by have:=ok.a;omega)) VF Bv),rfl,ai _ ?_⟩;clear aj bm ai hH;show X (aK aac aae Q w O Cq (fun k _=>k=wm.m) (eD aac cM wm.m I5) N1 B9) _ _;have Eu:∀M:Mem,(∀k o v,w.heap.size<=k->Cq k o=some v->M k o=some v)->az M x.c.toD [.int .u64 cc,.slice b1 on c1,.slice b2 nn c2]:=fun M hM=>by
  unfold cO.toD;simp only[az];exact⟨_,_,rfl,by rw[e2];simp only[bj],_,_,rfl,bj.mk (by rw[e3];simp) zr (Ze M fun k o v hk hv=>hM k o v hk (Ex _ _ _ (Cd _ _ _ (eg _ _ _ hv)))),_,_,rfl,bj.mk (by rw[e4];simp) zr (Zf M fun k o v hk hv=>hM k o v hk (Ex _ _ _ (Cd _ _ _ hv))),rfl⟩
 have Gl:∀M:Mem,(∀k o v,Mo k o=some v->M k o=some v)->(∀k o v,w.heap.size<=k->Cq k o=some v->M k o=some v)->az M x.s.a8.toD (cQ.aN ⟨gk3,gi3,gs3,gl3,QB,QC,QD,QE,QG,QH,QI,QJ,QR,QS,QT,QU⟩):=fun M h1 h2=>adR M h1 fun k o v hk hv=>h2 k o v hk (Ex _ _ _ hv)
 have Pw:∀k o v,Mo k o=some v->Cq k o=some v:=fun k o v hk=>Ex _ _ _ (Cd _ _ _ (eg _ _ _ (pF _ _ _ (s8 _ _ _ hk))))
 refine X.iA ([(97,.bool (.lit true)),(106,.bool (.lit true)),(121,.int .u64 (.nat t2)),(122,.int .u64 (.nat t2)),(134,.bool (.v qb))]) ([]) cI 400 _ rfl aak (fun pr pe fin aj bm ai=>?_)
 conv=>cbv
 refine⟨aj _ (.of Tryz.call23 [.agg _,.agg _] (.bool true) (fun _=>rfl) (fun _=>rfl) fun _ w1 bI=>?_),aj _ (.of Tryz.call24 [.agg _,.agg _] (.bool true) (fun _=>rfl) (fun _=>rfl) fun _ w1 bI=>?_),aj _ (by rw[nk];exact sA rfl rfl rfl rfl (fun _=>K0) ye),aj _ (Bp rfl rfl rfl fun _ N v hv=>by rw[<-hv];simp only[SV.den,lU,SI.den,La]),aj _ (.of Tryz.call25 [.agg _,.int .u8 ky,.int .u64 t2] (.bool qb) (fun _=>rfl) (fun _=>rfl) fun _ w1 bI=>?_),ai _ _ ?_⟩
 ·have:=tQ x.c x.c _ _ w1 (Eu (bU.wm w1) fun k o v _ hk=>bI _ _ _ hk) (hcR.mono fun k o v hk=>bI _ _ _ (Pw _ _ _ hk))
  rwa [bP rfl] at this
 ·have:=wL x.s.a8 x.s.a8 _ _ w1 (Gl (bU.wm w1) (fun k o v hk=>bI _ _ _ (Pw _ _ _ hk)) fun k o v _ hk=>bI _ _ _ hk) (ht.g.mono fun k o v hk=>bI _ _ _ (Pw _ _ _ hk))
  rwa [bP rfl] at this
 ·have:=zd x.c.c.toNat t2 b1 b2 x.c.c_.length x.c.new.length c1 c2 x.c.c_.toArray x.c.new.toArray ky w1 hx.co.1 hx.cn.1 fU (dC.yj (Ze Cq fun k o v _ hk=>Ex _ _ _ (Cd _ _ _ (eg _ _ _ hk))) bI) (dC.yj (Zf Cq fun k o v _ hk=>Ex _ _ _ (Cd _ _ _ hk)) bI) (by simpa using hx.co.2) (by simpa using hx.cn.2)
  rwa [HI,<-e3,<-e4,EE] at this
 clear aj bm ai;have RJ:∀k_ mC l',(mC=true↔qb=true)->l'=(if qb=true then s.l++[(⟨x.key,x.s.acc,x.s.a8,x.eY⟩:aI)] else s.l)->k_=t2->WP.told ⟨s.seen++[e0],s.l,s.all++[⟨x.key,x.s.acc,x.s.a8,x.eY⟩],s.da⟩ s.seen.length e0 x=⟨s.seen++[⟨x.key,x.s.acc,x.c,x.s.a8,k_,mC⟩],l',s.all++[⟨x.key,x.s.acc,x.s.a8,x.eY⟩],tn⟩:=fun k_ mC l' h1 h2 h3=>by
  subst h2 he0;rw[h3];unfold WP.told;rw[if_neg (by simp)];simp only[aax,<-nk];have hB:(s.da ||B (¬(True/\True)))=tn:=by rw[b_ (by simp),Bool.or_false,Zp]
  rw[hB];have h02:(0:Nat) |||2 ^ x.node.toNat=t2:=by rw[aax,nk]
  by_cases hq:x.c.jc x.key t2
  ·rw[if_pos (by rw[h02];exact hq),if_pos (by rw[AA];exact bP hq)]
   rw[h1.2 (by rw[AA];exact bP hq)];simp
  ·rw[if_neg (by rw[h02];exact hq),if_neg (by rw[AA,b_ hq];simp)]
   have:mC=false:=by
    cases mC with
    |false=>rfl
    |true=>have:=h1.1 rfl;rw[AA,b_ hq] at this;cases this
   rw[this];simp
 refine X.cond rfl (fun Au=>?_) (fun Au=>?_)
 ·simp only[SB.T] at Au
  refine X.go cI 400 _ rfl aak ?_
  conv=>arg 2;cbv
  obtain⟨Mf,X3⟩:∃M:Mem,M=fun k o=>if w.heap.size<=k then Cq k o else Mo k o:=⟨_,rfl⟩
  have X4:∀k o v,Mf k o=some v->Cq k o=some v:=fun k o v hk=>by
   rw[X3] at hk;simp only at hk
   split at hk
   ·exact hk
   ·exact Pw _ _ _ hk
  have acr:∀k o v,Mo k o=some v->Mf k o=some v:=fun k o v hk=>by
   have:=World.block_lt_of_cell? _ _ (h.mo k o v hk);simp only at this;rw[X3];simp only;rw[if_neg (by omega)];exact hk
  have acs:∀k o v,w.heap.size<=k->Cq k o=some v->Mf k o=some v:=fun k o v h1 h2=>by
   rw[X3];simp only;rw[if_pos h1];exact h2
  have acu:∀(M:Mem),(∀k o v,Mo k o=some v->M k o=some v)->(∀k o v,w.heap.size<=k->Cq k o=some v->M k o=some v)->∀k o v,Mf k o=some v->M k o=some v:=fun M h1 h2 k o v hk=>by
   rw[X3] at hk;simp only at hk
   split at hk
   ·exact h2 k o v (by assumption) hk
   ·exact h1 k o v hk
  clear X3;refine X.XY [] [] cI (.q 0 [1,2,3,4,5,6,7,8,9,10,11,12,13,14,15,16] (.q 1 [0,5,6,7,8,9,10,11,12,13,14,15] (.q 2 [0,1,5,6,7,8,9,10,11,12,13,14,15] (.q 3 [0,1,2,5,6,7,8,9,10,11,12,13,14,15] (.q 5 [0,1,2,3,4,6,7,8,9,10,11,12,13] (.q 6 [0,1,2,3,4,5,8,9,10,11,12,13] (.q 8 [0,1,2,3,4,5,6,7,13] (.q 9 [0,1,2,3,4,5,6,7,8,13] (.q 10 [0,1,2,3,4,5,6,7,8,9,13] (.q 13 [0,1,2,3,4,5,6,7,8,9,10,11,12] (.q 4 [0,1,2,3,5,6,7,8,9,10,11,12,13,14,15] (.q 7 [0,1,2,3,4,5,6,8,9,10,11,12,13] (.one 11 (.one 12 (.q 14 [0,1,2,3,4,5,6,7,8,9,10,11,12,13] (.one 15 (.one 16 (.q 17 [0,1,2,3,4,5,6,7,8,9,10,11,12,13,14,15,16] (.q 18 [0,1,2,3,4,5,6,7,8,9,10,11,12,13,14,15,16,17] (.one 19 (.nil))))))))))))))))))))) 157 12 [(16,[1]),(19,[0])] rfl (by kernel_rfl) (by kernel_rfl) (fun pr pe fin H aj bm ai hH=>?_)
  conv=>cbv
  refine hH _ _ ⟨_,_,_,_,_,rfl,rfl,rfl,rfl,aaC,fun N w1 args hN hS ha=>?_⟩;obtain rfl:args=[.agg (cQ.aN ⟨gk3,gi3,gs3,gl3,QB,QC,QD,QE,QG,QH,QI,QJ,QR,QS,QT,QU⟩).toArray]:=(aai.inj ha).symm;refine(jt x.s.a8 _ Mf w1 (fun k o v hk=>hS.cK _ _ _ (X4 _ _ _ hk)) (Gl Mf acr acs) hx.a8).mono fun ea w2 ⟨⟨vb,Du,Vz⟩,bV⟩=>?_
  obtain⟨g5,rfl⟩:=cQ.of (Vz (fun k o=>w2.cell? ⟨k,o,none⟩) (fun k o v hk=>(hS.bu bV).cK _ _ _ (X4 _ _ _ hk)) (fun k o v _ h=>h));obtain⟨Ps,Pq,Pu,Pt,Bd,Be,Bf,Bg,Bi,Bj,Bk,Bl,Bq,Br,Bs,Bt⟩:=g5;have ad_:w.heap.size<=w1.heap.size:=hS.aM.size;obtain⟨ZE,Gb⟩:∃z,z=bx Cq w1 w2:=⟨_,rfl⟩;have KR:∀k o v,Cq k o=some v->ZE k o=some v:=fun k o v h=>by rw[Gb];exact dE h
  have Yq:∀k o v,w1.heap.size<=k->w2.cell? ⟨k,o,none⟩=some v->ZE k o=some v:=fun k o v hk hc=>by rw[Gb];exact cA (fun k o v h=>(hS.bu bV).cK _ _ _ h) hk hc
  have Y9:∀M:Mem,(∀k o v,Mf k o=some v->M k o=some v)->(∀k o v,w.heap.size<=k->ZE k o=some v->M k o=some v)->az M (aI.toD ⟨x.key,x.s.acc,x.s.a8,x.eY⟩) (.int .u8 ky::.int .u64 f_::.int .u8 gb::.int .u32 gd::(cQ.aN ⟨Ps,Pq,Pu,Pt,Bd,Be,Bf,Bg,Bi,Bj,Bk,Bl,Bq,Br,Bs,Bt⟩++[.int .i64 ta])):=fun M h1 h2=>by
   have:=aI.shut (x:=⟨ky,⟨f_,gb,gd⟩,x.s.a8,ta⟩) (Vz M h1 fun k o v hk hc=>h2 k o v (aao ad_ hk) (Yq k o v hk hc));rw[e7,<-e5,<-e8];exact this
  obtain⟨nl5,YR⟩:∃z,z=s.l.length+1:=⟨_,rfl⟩;obtain⟨c5,WR⟩:∃c,c=cl++[.int .u8 (.v ky),.int .u64 (.v f_),.int .u8 (.v gb),.int .u32 (.v gd),.int .u8 (.v Ps),.int .u64 (.v Pq),.int .i64 (.v Pu),.ao Bd Bi Bq,.ao Be Bj Br,.ao Bf Bk Bs,.int .u64 (.v Pt),.ao Bg Bl Bt,.int .i64 (.v ta)]:=⟨_,rfl⟩;refine⟨_,Du,aK aac aae Q w O ZE (fun k _=>k=wm.m) (eD aac cM wm.m I5) N1 B9,.agg (cQ.cH ⟨Ps,Pq,Pu,Pt,Bd,Be,Bf,Bg,Bi,Bj,Bk,Bl,Bq,Br,Bs,Bt⟩),_,[],[(154,⟨fun rg=>.osl rg.length 0 nl5 13 none,[(1,⟨false,[],none⟩)],[⟨true,c5,none⟩]⟩)],rfl,rfl,rfl,rfl,KR,hN,by rw[Gb];exact Sat.cZ hS (hS.bu bV),rfl,rfl,fun pr pe fin aj bm ai=>?_⟩;clear Du Vz bV ha hS Yq Gb
  conv=>cbv
  refine⟨rfl,bm _ _ _ _ _ (be.uu (te:=fe) (r:=1) (n:=s.l.length) (m:=1) (cs:=cl) (new:=[.int .u8 (.v ky),.int .u64 (.v f_),.int .u8 (.v gb),.int .u32 (.v gd),.int .u8 (.v Ps),.int .u64 (.v Pq),.int .i64 (.v Pu),.ao Bd Bi Bq,.ao Be Bj Br,.ao Bf Bk Bs,.int .u64 (.v Pt),.ao Bg Bl Bt,.int .i64 (.v ta)]) cI rfl EG rfl rfl rfl rfl rfl (by rw[jZ,bN];exact l4) (by decide) (aY (g:=⟨true,[.int .u8 (.v ky),.int .u64 (.v f_),.int .u8 (.v gb),.int .u32 (.v gd),.int .u8 (.v Ps),.int .u64 (.v Pq),.int .i64 (.v Pu),.ao Bd Bi Bq,.ao Be Bj Br,.ao Bf Bk Bs,.int .u64 (.v Pt),.ao Bg Bl Bt,.int .i64 (.v ta)],none⟩) rfl rfl rfl rfl) (bL (by decide) rfl rfl rfl (by show(2*(s.l.length+1)+256)*_<=_;simp only[fe];have:=ok.l;omega) (by have:=ok.l;omega)) YR WR),rfl,ai _ ?_⟩;clear aj bm ai hH;subst Bv VF WR YR;refine X.over cI rfl (fun N w' v hN hS hv=>?_);simp only[bz,SV.den,SV.ap,aA] at hv;rw[hQ,<-hv,RJ t2 true (s.l++[⟨x.key,x.s.acc,x.s.a8,x.eY⟩]) (by rw[Au]) (by rw[Au];simp) rfl];obtain⟨pl,q1⟩:∃p,N[10]?=some p:=⟨_,aag (by rw[hS.len];show 10<11;omega)⟩;have uS:SV.ap N (cl++([.int .u8 (.v ky),.int .u64 (.v f_),.int .u8 (.v gb),.int .u32 (.v gd),.int .u8 (.v Ps),.int .u64 (.v Pq),.int .i64 (.v Pu),.ao Bd Bi Bq,.ao Be Bj Br,.ao Bf Bk Bs,.int .u64 (.v Pt),.ao Bg Bl Bt,.int .i64 (.v ta)]:List SV))=some (vl.flatten++((.int .u8 ky::.int .u64 f_::.int .u8 gb::.int .u32 gd::(cQ.aN ⟨Ps,Pq,Pu,Pt,Bd,Be,Bf,Bg,Bi,Bj,Bk,Bl,Bq,Br,Bs,Bt⟩++[.int .i64 ta])):List Value)):=dz (by rw[jZ];exact c9 l5 _) rfl;have gI:=hS.ext 10 ⟨true,cl++[.int .u8 (.v ky),.int .u64 (.v f_),.int .u8 (.v gb),.int .u32 (.v gd),.int .u8 (.v Ps),.int .u64 (.v Pq),.int .i64 (.v Pu),.ao Bd Bi Bq,.ao Be Bj Br,.ao Bf Bk Bs,.int .u64 (.v Pt),.ao Bg Bl Bt,.int .i64 (.v ta)],none⟩ pl rfl q1 rfl;have AC:(cl++([.int .u8 (.v ky),.int .u64 (.v f_),.int .u8 (.v gb),.int .u32 (.v gd),.int .u8 (.v Ps),.int .u64 (.v Pq),.int .i64 (.v Pu),.ao Bd Bi Bq,.ao Be Bj Br,.ao Bf Bk Bs,.int .u64 (.v Pt),.ao Bg Bl Bt,.int .i64 (.v ta)]:List SV)).length=s.l.length*13+13:=by
   obtain⟨z1,_⟩:=SV.aP _ uS;rw[<-z1,aaj,l4];rfl
  have Ys:gC pl (s.l++[(⟨x.key,x.s.acc,x.s.a8,x.eY⟩:aI)]).length=.slice (some ⟨pl.b,pl.o,none⟩) (s.l.length+1) (pl.x / 13):=by simp[gC]
  refine XR N w' _ ZE N1 I5 pt 10 (.osl 10 0 (s.l.length+1) 13 none) _ _ _ pl _ t2 true _ _ _ hS (hN 0 _ ED) (hN 6 _ th) HL (by omega) (by omega) (by omega) rfl rfl q1 rfl rfl ?_ (fun M h1 h2=>.snoc l1 (fun j y hj=>by obtain⟨vs,z1,z2⟩:=l2 j y hj;exact⟨vs,z1,z2.mono h1⟩) (Y9 M (acu M h1 fun k o v hk hv=>h2 k o v hk (KR _ _ _ hv)) h2) (fl hS (r:=10) rfl q1 uS) (by simp only at gI;omega)) rfl rfl (fun M h1 h2=>RB M h1 fun k o v hk hv=>h2 k o v hk (KR _ _ _ hv)) (fun M h1 h2=>⟨Eu M fun k o v hk hv=>h2 k o v hk (KR _ _ _ hv),Gl M h1 fun k o v hk hv=>h2 k o v hk (KR _ _ _ hv)⟩) rfl;rw[Ys];simp only[SV.den,q1,aS.cap,aaw,aaH]
 ·simp only[SB.F] at Au
  refine X.go cI 400 _ rfl aak ?_
  conv=>arg 2;cbv
  subst Bv VF;refine X.over cI rfl (fun N w' v hN hS hv=>?_);simp only[bz,SV.den,SV.ap,aA] at hv;rw[hQ,<-hv,RJ t2 false s.l (by rw[Au]) (by rw[Au];simp) rfl];have q1:=hN 1 _ (dQ 1 _ (by rw[ck];rfl:N0[1]?=some (wm.P 1)));exact XR N w' _ Cq N1 I5 pt 1 sl cl _ _ (wm.P 1) s.l t2 false _ _ _ hS (hN 0 _ ED) (hN 6 _ th) HL (by omega) (by omega) (by omega) rfl rfl q1 rfl rfl (by rw[EG];exact lA N 1 s.l.length _ q1) (fun M h1 h2=>.same l1 (fun j y hj=>by obtain⟨vs,z1,z2⟩:=l2 j y hj;exact⟨vs,z1,z2.mono h1⟩) (fl hS (r:=1) rfl q1 (by rw[jZ];exact c9 l5 _)) h.l.1 h.l.2.1) rfl rfl RB (fun M h1 h2=>⟨Eu M h2,Gl M h1 h2⟩) rfl
end Go.Proofs.YthpbefahaghbjaaGreat
namespace Go.Proofs.YthpbefahaghbjaaGreat
open Go Go.bU
theorem cy.Of.mono {M M':Mem}{t:cy}{x:aO}(h:t.Of M x)(hM:∀k o v,M k o=some v->M' k o=some v):t.Of M' x:=⟨h.e,h.o.mono hM,h.n.mono hM,h.g.mono hM⟩
theorem Me (wm:WM)(s:WP)(n:Nat)(Mo:Mem)(w:World)(t:cy)(x:aO)(h:bX wm s Mo w)(ok:s.Ok n)(hn:n<=1000)(ht:t.Of Mo x)(hx:x.Ok) :
  Calls aac 9 (Iz (wm.P 0).b (wm.P 0).o t) w (mv wm s (s.pj x) Mo w):=by
 unfold WP.pj
 by_cases hc:x.cnt
 ·rw[if_neg (not_not_intro hc)]
  cases hp:s.pos x.key x.s.acc with
  |none=>exact Qv wm s n Mo w t x _ h ok hn ht hx hc hp rfl
  |some i =>
   simp only;obtain⟨e,he⟩:∃e,s.seen[i]?=some e:=by
    unfold WP.pos at hp;obtain⟨h1,_⟩:=List.findIdx?_eq_some_iff_getElem.1 hp;exact⟨_,aag h1⟩
   rw[he];exact IA wm s n Mo w t x i e h ok hn ht hx hc hp he
 ·rw[if_pos hc]
  exact(Md (wm.P 0).b (wm.P 0).o t x w (ht.mono h.mo) hx hc).mono fun e w' ⟨he,bV⟩=>⟨he,wm,Mo,h.aM bV (fun _ _ _ h=>h) (fun _ _ _ _ h=>h),rfl,bV.mono fun _ _ _ h=>h.elim,fun _ _ h=>.inl h,fun _ _ _ h=>h,fun _ _ _ h=>.inl h⟩
theorem WP.Ok.told {s:WP}{n i:Nat}{e:fu}{x:aO}(ok:s.Ok n)(he:e.Ok)(hx:x.Ok)(ye:x.node<64):(s.told i e x).Ok (n+1):=by
 have hp:2 ^ x.node.toNat<2 ^ 64:=aaI (by decide) (by have:=hx.nd;omega);have kE:e.nodes |||2 ^ x.node.toNat<2 ^ 64:=Nat.or_lt_two_pow he.nodes hp
 have ey:∀(b:Bool) (y:fu),y∈s.seen.set i ⟨e.key,e.b,e.c,e.a8,e.nodes |||2 ^ x.node.toNat,b⟩->y.Ok:=fun b y hy=>by
  rcases aaN hy with h|rfl
  ·exact ok.en y h
  ·exact⟨he.c0,he.co,he.cn,kE,he.a8⟩
 unfold WP.told
 split
 ·exact⟨ok.en,aaf ok.l,aaf ok.a,ok.vl,ok.va⟩
 ·simp only
  split
  ·refine⟨ey true,by simp only[aaj,aaO];exact aaJ ok.l,aaf ok.a,fun y hy=>?_,ok.va⟩
   rcases aaz.1 hy with h|h
   ·exact ok.vl y h
   ·simp only[aaq] at h;subst h;exact he.a8
  ·exact⟨ey false,aaf ok.l,aaf ok.a,ok.vl,ok.va⟩
theorem WP.Ok.pj {s:WP}{n:Nat}{x:aO}(ok:s.Ok n)(hx:x.Ok):(s.pj x).Ok (n+1):=by
 unfold WP.pj
 by_cases hc:x.cnt
 ·rw[if_neg (not_not_intro hc)]
  split
  ·split
   ·rename_i he
    exact ok.told (ok.en _ (aar he)) hx hc.1
   ·exact⟨ok.en,aaf ok.l,aaf ok.a,ok.vl,ok.va⟩
  ·have he:fu.Ok ⟨x.key,x.s.acc,x.c,x.s.a8,0,false⟩:=⟨hx.c0,hx.co,hx.cn,by show(0:Nat)<2 ^ 64;decide,hx.a8⟩
   have j6:WP.Ok ⟨s.seen++[⟨x.key,x.s.acc,x.c,x.s.a8,0,false⟩],s.l,s.all++[⟨x.key,x.s.acc,x.s.a8,x.eY⟩],s.da⟩ (n+1):=by
    refine⟨fun y hy=>?_,aaf ok.l,by simp only[aaj,aaO];exact aaJ ok.a,ok.vl,fun y hy=>?_⟩
    ·rcases aaz.1 hy with h|h
     ·exact ok.en y h
     ·simp only[aaq] at h;subst h;exact he
    ·rcases aaz.1 hy with h|h
     ·exact ok.va y h
     ·simp only[aaq] at h;subst h;exact hx.a8
   have hp:2 ^ x.node.toNat<2 ^ 64:=aaI (by decide) (by have:=hx.nd;have:=hc.1;omega);unfold WP.told;rw[if_neg (by simp)];have ey:∀(b:Bool) (y:fu),y∈(s.seen++[(⟨x.key,x.s.acc,x.c,x.s.a8,0,false⟩:fu)]).set s.seen.length ⟨x.key,x.s.acc,x.c,x.s.a8,0 |||2 ^ x.node.toNat,b⟩->y.Ok:=fun b y hy=>by
    rcases aaN hy with h|rfl
    ·exact j6.en y h
    ·exact⟨hx.c0,hx.co,hx.cn,by rw[aax];exact hp,hx.a8⟩
   simp only
   split
   ·refine⟨ey true,by simp only[aaj,aaO];exact aaJ ok.l,j6.a,fun y hy=>?_,j6.va⟩
    rcases aaz.1 hy with h|h
    ·exact ok.vl y h
    ·simp only[aaq] at h;subst h;exact hx.a8
   ·exact⟨ey false,aaf ok.l,j6.a,ok.vl,j6.va⟩
 ·rw[if_pos hc]
  exact⟨ok.en,aaf ok.l,aaf ok.a,ok.vl,ok.va⟩
structure aL where
 (key b1 b2 b3:Int) (g:cQ) (eY:Int)
def aL.aN (t:aL):List Value:=.int .u8 t.key::.int .u64 t.b1::.int .u8 t.b2::.int .u32 t.b3::(t.g.aN++[.int .i64 t.eY])
def aL.cH (t:aL):List SV:=.int .u8 (.v t.key)::.int .u64 (.v t.b1)::.int .u8 (.v t.b2)::.int .u32 (.v t.b3)::(t.g.cH++[.int .i64 (.v t.eY)])
theorem aI.cells {x:aI}{M:Mem}{vs:List Value}(h:az M x.toD vs):∃t:aL,vs=t.aN/\x=⟨t.key,⟨t.b1,t.b2,t.b3⟩,x.a8,t.eY⟩/\az M x.a8.toD t.g.aN:=by
 obtain⟨rv,rfl,hr⟩:=aI.open h;obtain⟨g,rfl⟩:=cQ.of hr;exact⟨⟨x.key,x.b.count,x.b.node,x.b.cR,g,x.eY⟩,rfl,rfl,hr⟩
theorem tE (a b:List aI)(pa pb:Option Addr)(ca cb:Nat)(w:World)(ha:dC (wm w) pa ca 13 (a.map aI.toD))(hb:dC (wm w) pb cb 13 (b.map aI.toD)) :
  Calls aac 11 #[.slice pa a.length ca,.slice pb b.length cb] w fun e w'=>e=.returned (.bool (B (a=b)))/\aW (fun _ _=>False) w w':=by
 obtain⟨q,hq⟩:∃q,q=B (a=b):=⟨_,rfl⟩;obtain⟨n,hn⟩:∃n,n=a.length:=⟨_,rfl⟩;obtain⟨n2,jy⟩:∃n,n=b.length:=⟨_,rfl⟩;have hm:=dt;have hl:n<=maxLen:=by rw[hn];exact ha.len
 rw[<-hq,<-hn,<-jy];refine X.begin (rg:=[]) (N:=[]) (ss:=[.ao pa n ca,.ao pb n2 cb]) Tryz.func11 rfl Se rfl rfl Sat.bp ?_;obtain⟨im,aV⟩:∃im,im=ab [] [] w:=⟨_,rfl⟩;show X (aK aac Tryz.f11 _ w (bq [] []) (ab [] [] w) (fun _ _=>False) (fun _=>True) [] B11) _ _;rw[<-aV];refine X.go j_ 400 _ rfl aal ?_
 conv=>arg 2;cbv
 refine X.cond rfl (fun hc=>?_) (fun hc=>?_)
 ·refine X.go j_ 400 _ rfl aal ?_
  conv=>arg 2;cbv
  refine X.done j_ rfl (fun N w' v hN hS hv=>⟨aw hv ?_,hS.aM.mono fun k o _ h=>aB h⟩);simp only[SB.T,SB.F,SI.den] at hc;rw[hq];exact(b_ (fun h=>by subst h;omega)).symm
 simp only[SB.T,SB.F,SI.den] at hc;have Bw:n2=n:=by omega
 clear hc;subst Bw;refine X.go j_ 400 _ rfl aal ?_
 conv=>arg 2;cbv
 refine X.gB (fun i:{i:Nat // i<=n2/\a.take i=b.take i}=>⟨[(0,.val (.ao pa n2 ca)),(1,.val (.ao pb n2 cb)),(12,.val (.int .i64 (.nat n2))),(13,.val (.int .i64 (.nat i.1)))],[]⟩) (fun i=>n2-i.1) (fun N a w' hN hf hS=>⟨⟨0,aaS _,rfl⟩,?_⟩) (fun i q' cF=>?_)
 ·exact At.eJ hf hS trivial
 obtain⟨i,hi,kE⟩:=i;refine X.go j_ 400 _ rfl aal ?_
 conv=>arg 2;cbv
 refine X.cond rfl (fun aF=>?_) (fun cJ=>?_)
 ·simp only[SB.T,SI.den] at aF
  have aF:i<n2:=by omega
  obtain⟨x1,fK⟩:∃x,a[i]?=some x:=⟨_,aag (by omega)⟩;obtain⟨x2,gJ⟩:∃x,b[i]?=some x:=⟨_,aag (by omega)⟩;obtain⟨b1,y1,w1,fE,jG,dM⟩:=ha.kM fK;obtain⟨b2,y2,w2,fU,nZ,fM⟩:=hb.kM gJ;rw[<-aV] at dM fM;obtain⟨t1,rfl,e1,nX⟩:=aI.cells jG;obtain⟨t2,rfl,e2,mJ⟩:=aI.cells nZ;obtain⟨h,hh⟩:∃h,h=B (x1.a8=x2.a8):=⟨_,rfl⟩;have hc:=fun(w1:World) bI=>ue x1.a8 x2.a8 _ _ w1 (nX.eU aV bI) (mJ.eU aV bI)
  rw[<-hh] at hc;obtain⟨k1,c1,c2,c3,⟨gk,gi,gs,gl,q1,q2,q3,q4,m1,m2,m3,m4,f1,f2,f3,f4⟩,ta⟩:=t1;obtain⟨k2,d1,d2,d3,⟨hk,ni,hs,o6,r1,r2,r3,r4,o1,o2,o3,o4,j1,j2,j3,j4⟩,tb⟩:=t2;obtain⟨z1,jq⟩:∃z,z=y1+i*13:=⟨_,rfl⟩;obtain⟨z2,V4⟩:∃z,z=y2+i*13:=⟨_,rfl⟩;rw[<-jq] at dM;rw[<-V4] at fM;refine X.eL b1 z1 (aL.cH ⟨k1,c1,c2,c3,⟨gk,gi,gs,gl,q1,q2,q3,q4,m1,m2,m3,m4,f1,f2,f3,f4⟩,ta⟩) (eh dM rfl) (aaT _) (fun N1 dQ dX=>?_);have tc:(N1++[(⟨b1,z1,0⟩:aS)])[0]?=some ⟨b1,z1,0⟩:=ax dX;refine X.eL b2 z2 (aL.cH ⟨k2,d1,d2,d3,⟨hk,ni,hs,o6,r1,r2,r3,r4,o1,o2,o3,o4,j1,j2,j3,j4⟩,tb⟩) (eh fM rfl) (aaT _) (fun N2 pC mH=>?_);have ac7:(N2++[(⟨b2,z2,0⟩:aS)])[1]?=some ⟨b2,z2,0⟩:=ax mH;have Yv:(N2++[(⟨b2,z2,0⟩:aS)])[0]?=some ⟨b1,z1,0⟩:=b9 (pC 0 _ tc);have vo:∀{E:Env} {N0:af} {rg:List Rg} {f:Fr} {g:GK} {x ix:Operand} {kd:IntKind} {s:SI},hY f g x=some (.ao pa n2 ca)->hY f g ix=some (.int kd s)->E.P=aac->N0=(N2++[(⟨b2,z2,0⟩:aS)])->s=.nat i->au E N0 rg f g (.indexAddr 27 x ix) (.own 0 0):=fun k1 k2 k3 k4 k5=>by subst k4 k5;exact au.row k1 k2 (fun _=>rfl) (by rw[k3];exact aas) (by rw[k3];exact aaD) aF fE Yv rfl jq
  have QP:∀{E:Env} {N0:af} {rg:List Rg} {f:Fr} {g:GK} {x ix:Operand} {kd:IntKind} {s:SI},hY f g x=some (.ao pb n2 cb)->hY f g ix=some (.int kd s)->E.P=aac->N0=(N2++[(⟨b2,z2,0⟩:aS)])->s=.nat i->au E N0 rg f g (.indexAddr 27 x ix) (.own 1 0):=fun k1 k2 k3 k4 k5=>by subst k4 k5;exact au.row k1 k2 (fun _=>rfl) (by rw[k3];exact aas) (by rw[k3];exact aaD) aF fU ac7 rfl V4
  refine X.dk ([(18,.own 0 0),(23,.own 1 0),(30,.own 0 0),(35,.own 1 0),(43,.own 0 0),(48,.own 1 0),(56,.own 0 0),(61,.own 1 0),(64,.bool (.v h))]) j_ 400 _ rfl aal (fun pr fin aj ai=>?_)
  conv=>cbv
  refine⟨aj _ (.of Tryz.call27 [.agg _,.agg _] (.bool h) (fun _=>rfl) (fun _=>rfl) fun _ w1 bI=>hc w1 bI),aj _ (QP rfl rfl rfl rfl rfl),aj _ (vo rfl rfl rfl rfl rfl),aj _ (QP rfl rfl rfl rfl rfl),aj _ (vo rfl rfl rfl rfl rfl),aj _ (QP rfl rfl rfl rfl rfl),aj _ (vo rfl rfl rfl rfl rfl),aj _ (QP rfl rfl rfl rfl rfl),aj _ (vo rfl rfl rfl rfl rfl),ai _ _ ?_⟩;clear aj ai vo QP;refine X.cond rfl (fun HH=>?_) (fun dm=>?_)
  ·simp only[SB.T,SB.F,SI.den] at HH
   refine X.go j_ 400 _ rfl aal ?_
   conv=>arg 2;cbv
   refine X.done j_ rfl (fun N w' v hN hS hv=>⟨aw hv ?_,hS.aM.mono fun k o _ h=>aB h⟩);rw[hq];refine(b_ fun e=>?_).symm;subst e;rw[fK] at gJ;obtain rfl:=aai.inj gJ;rw[e1] at e2;simp only[aI.mk.injEq,bW.mk.injEq] at e2;rw[bP rfl] at hh
   grind
  ·simp only[SB.T,SB.F,SI.den] at dm
   have hxx:x1=x2:=by
    rw[e1,e2];simp only[aI.mk.injEq,bW.mk.injEq];have:h=true:=by grind
    rw[hh,cT] at this
    grind
   refine X.go j_ 400 _ rfl aal ?_
   conv=>arg 2;cbv
   refine X.back (fun N a w' hN hf hS=>cF ⟨i+1,by omega,?_⟩ a w' (by simp only;omega) ?_)
   ·rw[aaX,aaX,kE,fK,gJ,hxx]
   exact At.eJ hf hS trivial
 simp only[SB.F,SI.den] at cJ;obtain rfl:i=n2:=by omega
 refine X.go j_ 400 _ rfl aal ?_
 conv=>arg 2;cbv
 refine X.done j_ rfl (fun N w' v hN hS hv=>⟨aw hv ?_,hS.aM.mono fun k o _ h=>aB h⟩);rw[hq];refine(bP ?_).symm;rw[aaY (by omega),aaY (by omega)] at kE;exact kE
theorem Hx (b y n cp:Nat)(vs:List Value)(w:World)(hn:vs.length=n*13)(h0:n≠0)(hle:n<=1000)(h1:vs.all bc=true)(hA:∀(j:Nat) (v:Value),vs[j]?=some v->w.cell? ⟨b,y+j,none⟩=some v) :
  Calls aac 56 #[.slice (some ⟨b,y,none⟩) n cp] w (gF (a7 vs) n 13 w):=by
 obtain⟨cs,dS⟩:∃cs,cs=a7 vs:=⟨_,rfl⟩;have hlen:cs.length=n*13:=by rw[dS,bN,hn]
 rw[<-dS];refine X.begin (rg:=[]) (N:=[]) (ss:=[.ao (some ⟨b,y,none⟩) n cp]) aa3 rfl DJ rfl rfl Sat.bp ?_;refine X.tN [(0,.val (.osl 0 0 n 13 (some cp)))] b y (cs:=cs) (by omega) (fun j x hj=>?_) (fun N hN=>?_) ?_
 ·rw[dS] at hj
  simp only[a7,aaK,aa6] at hj;obtain⟨v,hv,rfl⟩:=hj;have ho:bc v=true:=aaA.1 h1 v (aar hv);exact⟨v,fun _=>by simp[SV.den,ho],kM (hA j v hv)⟩
 ·obtain rfl:N=[]:=aaZ hN
  refine⟨rfl,fun x h=>?_,trivial⟩
  simpa[SV.den,aS.cap] using h
 refine X.go nF 16 _ rfl aaE ?_
 conv=>arg 2;cbv
 apply X.oD (T:=T56) nF
 ·exact du (te:=fe) (new:=cs) (m:=n) rfl rfl rfl rfl rfl rfl rfl rfl (aY (g:=⟨false,cs,none⟩) rfl rfl rfl (by show cs.length=n*13;omega))
   (ie (te:=fe) rfl h0 (bL (by decide) rfl (by show cs.length=n*13;omega) (by rw[dS];exact oF h1) (by show(2*(0+n)+256)*_<=_;simp only[fe];omega) (by omega))) rfl
 refine X.go nF 400 _ rfl aaE ?_
 conv=>arg 2;cbv
 refine X.done nF rfl (fun N w' v hN hS hv=>?_);exact jn hS (r:=2) rfl (by rw[hlen];omega) (List.prefix_refl _) (fun c hc N N' v h=>mh (by rw[<-dS];exact hc) h) hv
theorem Ej (cp:Nat)(w:World):Calls aac 56 #[.slice none 0 cp] w fun e w'=>e=.returned (.slice none 0 0)/\aW (fun _ _=>False) w w':=by
 refine X.begin (rg:=[]) (N:=[]) (ss:=[.ao none 0 cp]) aa3 rfl DJ rfl rfl Sat.bp ?_;refine X.go nF 400 _ rfl aaE ?_
 conv=>arg 2;cbv
 refine X.nU true rfl rfl rfl rfl aas (fun N _ _=>⟨_,_,_,rfl,rfl⟩) rfl ?_;refine X.go nF 400 _ rfl aaE ?_
 conv=>arg 2;cbv
 refine X.done nF rfl (fun N w' v hN hS hv=>?_);simp[bz,SV.den,bc] at hv;exact⟨by rw[<-hv],hS.aM.none⟩
def kr (Mo:Mem)(l:List aI)(w:World):aan->World->Prop:=fun e w' =>
 (∃p c,e=.returned (.slice p l.length c)/\∀M:Mem,(∀k o v,Mo k o=some v->M k o=some v)->(∀k o v,w.heap.size<=k->w'.cell? ⟨k,o,none⟩=some v->M k o=some v)->dC M p c 13 (l.map aI.toD))/\aW (fun _ _=>False) w w'
structure ClV (w:World) (Mo im:Mem) (l:List aI) (eC:Mem) (bC:List (List Value)):Prop where
 ct:∀k o v,im k o=some v->eC k o=some v
 len:bC.length=l.length
 row:∀v∈bC,v.length=13/\v.all bc=true
 nu:∀(j:Nat) (x:aI),l[j]?=some x->∃vs,bC[j]?=some vs/\az (mU w Mo eC) x.toD vs
theorem xA (Mo:Mem)(w:World):Calls aac 26 #[.slice none 0 0] w (kr Mo [] w):=by
 refine X.begin (rg:=[]) (N:=[]) (ss:=[.ao none 0 0]) aa4 rfl DI rfl rfl Sat.bp ?_;refine X.go ib 400 _ rfl aah ?_
 conv=>arg 2;cbv
 refine X.call rfl rfl rfl rfl aa5 (fun N w1 args hN hS ha=>?_);obtain rfl:args=[.slice none 0 0]:=(aai.inj ha).symm;refine(Ej 0 w1).mono fun e w2 ⟨he,hc⟩=>⟨_,he,Goes.same (r:=.ao none 0 0) hN hS hc rfl rfl ?_⟩
 refine X.go ib 400 _ rfl aah ?_
 conv=>arg 2;cbv
 refine X.gB (fun _:Unit=>⟨[(3,.val (.ao none 0 0)),(8,.val (.int .i64 (.nat 0))),(9,.val (.int .i64 (.nat 0)))],[]⟩) (fun _=>0) (fun N a w' hN hf hS=>⟨(),?_⟩) (fun _ q' cF=>?_)
 ·exact At.eJ hf hS trivial
 refine X.go ib 400 _ rfl aah ?_
 conv=>arg 2;cbv
 refine X.cond rfl (fun aF=>?_) (fun cJ=>?_)
 ·simp[SB.T,SI.den] at aF
 refine X.go ib 400 _ rfl aah ?_
 conv=>arg 2;cbv
 refine X.done ib rfl (fun N w' v hN hS hv=>?_);simp only[bz,SV.den,aA] at hv;exact⟨⟨none,0,by rw[<-hv];rfl,fun M _ _=>⟨⟨by simp,by simp⟩,.inl (by simp)⟩⟩,hS.aM.none⟩
theorem wW {A X Y B:List SV}(hl:X.length=Y.length):setRow (A++X++B) A.length Y=A++Y++B:=by
 rw[pu _ _ _ (by simp),<-hl,<-aaj,List.drop_left,aaP A X B,List.take_left]
theorem wK {N:af}{A B X Y:List SV}(hl:X.length=Y.length)(h:∀(j:Nat) (c c':SV),X[j]?=some c->Y[j]?=some c'->∀v,c.den N=some v->c'.den N=some v)(j:Nat)(c c':SV)(h1:(A++X++B)[j]?=some c)(h2:(A++Y++B)[j]?=some c')(v:Value)(hv:c.den N=some v):c'.den N=some v:=by
 simp only[aaP,aaM] at h1 h2
 split at h1
 ·rename_i hj
  rw[if_pos hj,h1] at h2;cases h2;exact hv
 ·rename_i hj
  rw[if_neg hj] at h2
  split at h1
  ·rename_i hx
   rw[if_pos (by omega)] at h2;exact h _ c c' h1 h2 v hv
  ·rename_i hx
   rw[if_neg (by omega),<-hl,h1] at h2;cases h2;exact hv
theorem wP {bC:List (List Value)}{i:Nat}{vs:List Value}(h:bC[i]?=some vs)(h13:∀v∈bC,v.length=13):∃A B:List Value,A.length=i*13/\∀u,(bC.set i u).flatten=A++u++B:=by
 have hi:=(aad.1 h).1;refine⟨(bC.take i).flatten,(bC.drop (i+1)).flatten,?_,fun u=>?_⟩
 ·rw[bO (K:=13) fun v hv=>h13 v (List.mem_of_mem_take hv),List.length_take,Nat.min_eq_left (by omega)]
 ·rw[List.set_eq_take_append_cons_drop,if_pos hi]
  simp
end Go.Proofs.YthpbefahaghbjaaGreat
namespace Go.bU
open Go
def vh (D:Nat->Nat->Prop)(w:World):Prop:=∀k o,D k o->w.frozen? ⟨k,o,none⟩=false
theorem vh.loc {D:Nat->Nat->Prop}:Loc D (vh D):=fun w w' hs _ h k o hd=>by rw[(hs k o hd).1.2];exact h k o hd
theorem X.aey {P:aav}{fn:Func}{Q:aan->World->Prop}{W:World}{O:Nat->Nat->Prop}{im:Mem}{B:aH}{N0:af}{k:List It}{s:St}(h:X (aK P fn Q W O im (fun _ _=>False) (vh fun _ _=>False) N0 B) k s):X (aK P fn Q W O im (fun _ _=>False) (fun _=>True) N0 B) k s :=
 X.conv fun N a w hN hf hS=>⟨aK P fn Q W O im (fun _ _=>False) (vh fun _ _=>False) N0 B,s,rfl,rfl,rfl,rfl,⟨N,hN,hf,⟨hS.len,hS.lt,hS.cell,hS.ext,hS.room,hS.eT,hS.obj,hS.fG,hS.cK,hS.lR,hS.dd,hS.mj,vh.loc,fun _ _ h=>h.elim,hS.aM,hS.dG⟩⟩,h⟩
theorem Goes.GD {E:eR}{N:af}{k:List It}{s:St}{d:Option Nat}{v:Value}{w w':World}(D':Nat->Nat->Prop)(R':World->Prop)(hN:E.N0.le N)(h:Sat E.toEnv N s.rg w)(hc:aW (fun _ _=>False) w w'){r:SV}(hr:r.den N=some v){f':Fr}(hp:eK E.n s.fr d (.val r)=some f')
  (hdd:∀(r:Nat) (g:Rg) (p:aS),s.rg[r]?=some g->N[r]?=some p->g.own=true->∀j,j<p.x->¬D' p.b (p.o+j)) (fm:∀(r:Nat) (g:Rg),s.rg[r]?=some g->g.ob=none) (s_:∀k o,D' k o->eG w' k o) (hl:Loc D' R') (hR:R' w')
  (hx:(∀k o u,E.im k o=some u->bx E.im w w' k o=some u)->(∀k o u,w.heap.size<=k->w'.cell? ⟨k,o,none⟩=some u->bx E.im w w' k o=some u)->X ({ E.mZ D' R' with im:=bx E.im w w' }:eR) k ⟨f',s.rg⟩):Goes E N k s.fr d v w':=by
 have h':=h.bu hc;have h2:=Sat.cZ h h';refine⟨{ E.mZ D' R' with im:=bx E.im w w' },N,r,s.rg,f',rfl,rfl,rfl,rfl,fun _ _ h=>h,hN,⟨h2.len,h2.lt,h2.cell,h2.ext,h2.room,h2.eT,fun r g p ob hg _ ho=>?_,h2.fG,h2.cK,h2.lR,hdd,s_,hl,hR,h2.aM,h2.dG⟩,hr,hp,?_⟩
 ·rw[fm r g hg] at ho;cases ho
 ·exact hx (fun k o u hu=>dE hu) (fun k o u hk hu=>cA h'.cK hk hu)
end Go.bU
namespace Go.Proofs.YthpbefahaghbjaaGreat
open Go Go.bU
def XB (p:Option Addr)(n:Nat)(k o:Nat):Prop:=∃b y,p=some ⟨b,y,none⟩/\k=b/\y<=o/\o<y+n
structure ClN (w:World) (Mo im:Mem) (l:List aI) (i:Nat) (eC:Mem) (bC:List (List Value)) (D:Nat->Nat->Prop):Prop extends ClV w Mo im l eC bC where
 nv:∀(j:Nat) (x:aI),j<i->l[j]?=some x->∃vs p c,bC[j]?=some vs/\vs[7]?=some (.slice p x.a8.vars.length c)/\(x.a8.vars≠[]->∃b y,p=some ⟨b,y,none⟩/\w.heap.size<=b/\∀(t:Nat) (z:Int),x.a8.vars[t]?=some z->eC b (y+t)=some (.int .i64 z)/\D b (y+t))
def zN (Mo:Mem)(w:World)(q:aS)(l:List aI)(bC:List (List Value))(w':World):Prop :=
 ∃Mr:Mem,(∀k o v,Mr k o=some v->w'.cell? ⟨k,o,none⟩=some v/\¬mK q k o/\(Mo k o=some v\/w.heap.size<=k))/\∀(j:Nat) (x:aI),l[j]?=some x->∃vs,bC[j]?=some vs/\az Mr x.toD vs
def BI (Mo:Mem)(l:List aI)(w:World):aan->World->Prop:=fun e w' =>
 (∃p c,e=.returned (.slice p l.length c)/\(∀M:Mem,(∀k o v,Mo k o=some v->M k o=some v)->(∀k o v,w.heap.size<=k->w'.cell? ⟨k,o,none⟩=some v->M k o=some v)->dC M p c 13 (l.map aI.toD)) /\
  (l≠[]->∃q:aS,p=some ⟨q.b,q.o,none⟩/\c=q.x / 13/\w.heap.size<=q.b/\zM q w'/\l.length*13<=q.x/\∃bC:List (List Value),bC.length=l.length/\lx q bC.flatten w'/\(∀v∈bC,v.length=13/\v.all bc=true) /\
   (∀(j:Nat) (x:aI),l[j]?=some x->∃t:aL,bC[j]?=some t.aN/\∃p' c',t.aN[7]?=some (.slice p' x.a8.vars.length c')/\(x.a8.vars≠[]->∃b y,p'=some ⟨b,y,none⟩/\w.heap.size<=b/\∀(u:Nat) (z:Int),x.a8.vars[u]?=some z->w'.cell? ⟨b,y+u,none⟩=some (.int .i64 z)/\w'.frozen? ⟨b,y+u,none⟩=false/\¬mK q b (y+u)))/\zN Mo w q l bC w'))/\aW (fun _ _=>False) w w'
theorem xy (Mo:Mem)(p:aS)(l:List aI)(cp:Nat)(w:World)(qo:∀k o v,Mo k o=some v->w.cell? ⟨k,o,none⟩=some v)(h:fC Mo p l w)(Vv:l≠[])(hle:l.length<=1000)(hg:∀x∈l,¬x.a8.iI) :
  Calls aac 26 #[.slice (some ⟨p.b,p.o,none⟩) l.length cp] w (BI Mo l w):=by
 obtain⟨Q,hQ⟩:∃Q:aan->World->Prop,Q=BI Mo l w:=⟨_,rfl⟩;rw[<-hQ];obtain⟨v0,l1,l2,l3,l4,l5⟩:=h.cells;have adQ:∀v∈v0,v.length=13/\v.all bc=true:=fun v hv=>by
  obtain⟨i,hi⟩:=aaW.1 hv;obtain⟨x,hx⟩:∃x,l[i]?=some x:=⟨_,aag (by rw[<-l1];exact(aad.1 hi).1)⟩;obtain⟨Fp,k1,k2⟩:=l2 i x hx;rw[hi] at k1;cases k1;exact⟨k2.len,wN k2⟩
 obtain⟨n,hn⟩:∃n,n=l.length:=⟨_,rfl⟩;have Ro:n≠0:=fun e=>Vv (aaZ (by omega))
 rw[<-hn];refine X.begin (rg:=[]) (N:=[]) (ss:=[.ao (some ⟨p.b,p.o,none⟩) n cp]) aa4 rfl DI rfl rfl Sat.bp ?_;obtain⟨im,aV⟩:∃im,im=ab [] [] w:=⟨_,rfl⟩;have s8:∀k o v,Mo k o=some v->im k o=some v:=fun k o v hk=>by rw[aV];exact kM (qo k o v hk)
 have hwi:∀k o v,w.cell? ⟨k,o,none⟩=some v->im k o=some v:=fun k o v hk=>by rw[aV];exact kM hk
 show X (aK aac aau Q w (bq [] []) (ab [] [] w) (fun _ _=>False) (fun _=>True) [] QV) _ _;rw[<-aV];clear aV;refine X.go ib 400 _ rfl aah ?_
 conv=>arg 2;cbv
 refine X.call rfl rfl rfl rfl aa5 (fun N w1 args hN hS ha=>?_);obtain rfl:args=[.slice (some ⟨p.b,p.o,none⟩) n cp]:=(aai.inj ha).symm;obtain⟨cs,dS⟩:∃cs,cs=a7 v0.flatten:=⟨_,rfl⟩;refine(Hx p.b p.o n cp v0.flatten w1 (by rw[l4,hn]) Ro (by omega) l5 (fun j v hj=>hS.cK _ _ _ (hwi _ _ _ (l3 j v hj)))).mono fun e w2 hf=>Goes.fresh (cs:=cs) hN hS (by rw[dS];exact hf) rfl ?_
 clear ha hN hS;refine X.go ib 400 _ rfl aah ?_
 conv=>arg 2;cbv
 refine X.aey ?_;refine X.loop (E:=aK aac aau Q w (bq [] []) im (fun _ _=>False) (vh fun _ _=>False) [] QV) (fun g:{g:Nat × Mem × List (List Value) × (Nat->Nat->Prop) // g.1<=n/\ClN w Mo im l g.1 g.2.1 g.2.2.1 g.2.2.2}=>aK aac aau Q w (bq [] []) g.1.2.1 g.1.2.2.2 (vh g.1.2.2.2) [] QV)
  (fun g=>⟨[(3,.val (.osl 0 0 n 13 none)),(8,.val (.int .i64 (.nat n))),(9,.val (.int .i64 (.nat g.1.1)))],[⟨true,a7 g.1.2.2.1.flatten,none⟩]⟩) (fun g=>n-g.1.1) (fun _=>⟨rfl,rfl,rfl,rfl⟩) (fun N a w' hN hf hS=>⟨⟨(0,im,v0,fun _ _=>False),aaS _,⟨⟨fun _ _ _ h=>h,l1,adQ,fun j x hj=>?_⟩,fun j x h=>absurd h (Nat.not_lt_zero _)⟩⟩,?_⟩) (fun g q hq=>?_)
 ·obtain⟨vs,k1,k2⟩:=l2 j x hj
  exact⟨vs,k1,k2.mono Lu⟩
 ·exact At.eJ hf hS ⟨fun h=>h,(by rw[dS];exact aR.refl gx),rfl,trivial⟩
 obtain⟨⟨i,eC,bC,D⟩,hi,hI⟩:=g;simp only at hi hI;show X (aK aac aau Q w (bq [] []) eC D (vh D) [] QV) _ ⟨[(3,.val (.osl 0 0 n 13 none)),(8,.val (.int .i64 (.nat n))),(9,.val (.int .i64 (.nat i)))],[⟨true,a7 bC.flatten,none⟩]⟩;obtain⟨dl,s_⟩:∃d,d=a7 bC.flatten:=⟨_,rfl⟩;rw[<-s_];refine X.go ib 400 _ rfl aah ?_
 conv=>arg 2;cbv
 refine X.cond rfl (fun aF=>?_) (fun cJ=>?_)
 ·simp only[SB.T,SI.den] at aF
  have aF:i<n:=by omega
  obtain⟨x,hx⟩:∃x,l[i]?=some x:=⟨_,aag (by omega)⟩;obtain⟨R5,ZB,hri⟩:=hI.nu i x hx;obtain⟨t,hvt,hxe,kF⟩:=aI.cells hri;obtain⟨A,B',hA,EH⟩:=wP ZB fun v hv=>(hI.row v hv).1
  obtain⟨z,hz⟩:∃z,z=i*13:=⟨_,rfl⟩;obtain⟨ky,b1,b2,b3,⟨gk,gi,gs,gl,q1,q2,q3,q4,iL,iM,iP,iQ,fa,fb,fc,fd⟩,ta⟩:=t;have ey:bC.set i R5=bC:=by
   obtain⟨y1,y2⟩:=aad.1 ZB;rw[<-y2];exact List.set_getElem_self y1
  have EC:∀g:cQ,(bC.set i (aL.aN ⟨ky,b1,b2,b3,g,ta⟩)).flatten=(A++[.int .u8 ky,.int .u64 b1,.int .u8 b2,.int .u32 b3])++g.aN++(.int .i64 ta::B'):=fun g=>by rw[EH];simp[aL.aN]
  obtain⟨A2,WJ⟩:∃a,a=a7 (A++[.int .u8 ky,.int .u64 b1,.int .u8 b2,.int .u32 b3]):=⟨_,rfl⟩;obtain⟨B2,Q_⟩:∃a,a=a7 (.int .i64 ta::B'):=⟨_,rfl⟩;have U1:A2.length=z+4:=by rw[WJ,bN,hz];simp[hA]
  have Vk:dl=A2++a7 (cQ.aN ⟨gk,gi,gs,gl,q1,q2,q3,q4,iL,iM,iP,iQ,fa,fb,fc,fd⟩)++B2:=by
   rw[s_,WJ,Q_,<-ey,hvt,EC];simp[a7]
  refine X.iA ([(16,.own 0 z),(18,.agg (cQ.cH ⟨gk,gi,gs,gl,q1,q2,q3,q4,iL,iM,iP,iQ,fa,fb,fc,fd⟩))]) ([]) ib 400 _ rfl aah (fun pr pe fin aj bm ai=>?_)
  conv=>cbv
  refine⟨aj _ (jJ (sx:=.osl 0 0 n 13 none) rfl (.inr (.inr ⟨none,rfl⟩)) rfl (fun _=>rfl) aas aaD (fun _=>aF) hz (by simp)),aj _ ((fZ (c:=z+4) (gg:=⟨true,dl,none⟩) (row:=a7 (cQ.aN ⟨gk,gi,gs,gl,q1,q2,q3,q4,iL,iM,iP,iQ,fa,fb,fc,fd⟩)) rfl Tryz.isAgg41 Tryz.sizeOf41 rfl rfl (fun j d hj=>?_)).conv fun N v hv=>?_),ai _ _ ?_⟩
  ·show dl[z+4+j]?=some d
   have hj8:j<8:=(aad.1 hj).1;rw[Vk,aaP,List.getElem?_append_right (by omega),U1,Nat.add_sub_cancel_left,List.getElem?_append_left (by rw[bN];exact hj8)];exact hj
  ·have hd:SV.ap N (cQ.cH ⟨gk,gi,gs,gl,q1,q2,q3,q4,iL,iM,iP,iQ,fa,fb,fc,fd⟩)=some (cQ.aN ⟨gk,gi,gs,gl,q1,q2,q3,q4,iL,iM,iP,iQ,fa,fb,fc,fd⟩):=rfl
   simp only[SV.den,c9 (vs:=cQ.aN ⟨gk,gi,gs,gl,q1,q2,q3,q4,iL,iM,iP,iQ,fa,fb,fc,fd⟩) rfl N] at hv;simp only[SV.den,hd];exact hv
  clear aj bm ai;refine X.call rfl rfl rfl rfl aaC (fun N w1 args hN hS ha=>?_);obtain rfl:args=[.agg (cQ.aN ⟨gk,gi,gs,gl,q1,q2,q3,q4,iL,iM,iP,iQ,fa,fb,fc,fd⟩).toArray]:=(aai.inj ha).symm;have pF:∀k o v,Mo k o=some v->eC k o=some v:=fun k o v hk=>hI.ct _ _ _ (s8 _ _ _ hk)
  refine(rZ x.a8 _ (mU w Mo eC) w1 (fun k o v hk=>hS.cK _ _ _ (Gx pF _ _ _ hk)) kF (hg x (aar hx))).mono fun e w2 hR=>?_
  obtain⟨⟨vb,he,kQ,pq,cq,h3,xH⟩,bV⟩:=hR;obtain⟨g2,rfl⟩:=cQ.of (kQ (fun k o=>w2.cell? ⟨k,o,none⟩) (fun k o v hk=>(hS.bu bV).cK _ _ _ (Gx pF _ _ _ hk)) (fun k o v _ h=>h));have yh:w.heap.size<=w1.heap.size:=hS.aM.size;obtain⟨uO,uN,uQ,uP,u1,u2,u3,u4,v1,v2,v3,v4,uZ,u0,u5,u6⟩:=g2;obtain⟨D',vZ⟩:∃D':Nat->Nat->Prop,D'=fun k o=>D k o\/(x.a8.vars≠[]/\XB pq x.a8.vars.length k o):=⟨_,rfl⟩
  have h':=hS.bu bV;refine⟨_,he,Goes.GD D' (vh D') hN hS bV (r:=.agg (cQ.cH ⟨uO,uN,uQ,uP,u1,u2,u3,u4,v1,v2,v3,v4,uZ,u0,u5,u6⟩)) rfl rfl (fun r g p hg hp ho j hj hd=>?_) (fun r g hg=>?_) (fun k o hd=>?_) vh.loc (fun k o hd=>?_) (fun hold bM=>?_)⟩
  ·rw[vZ] at hd
   rcases hd with hd|⟨yN,b,y,e1,e2,_⟩
   ·exact hS.dd r g p hg hp ho j hj hd
   ·obtain⟨b',y',e3,e4,_⟩:=xH yN
    rw[e1] at e3;cases e3;have:=hS.lt r p hp;omega
  ·match r,hg with
   |0,hg=>cases hg;rfl
  ·rw[vZ] at hd
   rcases hd with hd|⟨yN,b,y,e1,rfl,e2,e3⟩
   ·exact h'.mj k o hd
   ·obtain⟨b',y',e4,_,e5⟩:=xH yN
    rw[e1] at e4;cases e4;obtain⟨z',RL⟩:∃z,x.a8.vars[o-y]?=some z:=⟨_,aag (by omega)⟩;have:=(e5 _ _ RL).1;rw[show y+(o-y)=o by omega] at this;exact .inl (by rw[this];rfl)
  ·rw[vZ] at hd
   rcases hd with hd|⟨yN,b,y,e1,rfl,e2,e3⟩
   ·exact h'.fH k o hd
   ·obtain⟨b',y',e4,_,e5⟩:=xH yN
    rw[e1] at e4;cases e4;obtain⟨z',RL⟩:∃z,x.a8.vars[o-y]?=some z:=⟨_,aag (by omega)⟩;have:=(e5 _ _ RL).2
    rwa [show y+(o-y)=o by omega] at this
  obtain⟨iz,eg⟩:∃iz,iz=bx eC w1 w2:=⟨_,rfl⟩;have Y8:az (mU w Mo iz) x.a8.toD (cQ.aN ⟨uO,uN,uQ,uP,u1,u2,u3,u4,v1,v2,v3,v4,uZ,u0,u5,u6⟩):=kQ _ (AJ fun k o v hk=>by rw[eg];exact hold _ _ _ hk) fun k o v hk hc=>by
   unfold mU;cases hMk:Mo k o with
   |some u =>
    have:=World.block_lt_of_cell? _ _ (qo k o u hMk);simp only at this;omega
   |none =>
    simp only;rw[if_pos (by omega),eg];exact bM _ _ _ hk hc
  have adF:x.a8.vars≠[]->∃b y,pq=some ⟨b,y,none⟩/\w.heap.size<=b/\∀(t:Nat) (z:Int),x.a8.vars[t]?=some z->iz b (y+t)=some (.int .i64 z)/\D' b (y+t):=fun yN=>by
   obtain⟨b,y,e1,e2,e3⟩:=xH yN;refine⟨b,y,e1,by omega,fun t z ht=>⟨by rw[eg];exact bM _ _ _ e2 (e3 t z ht).1,?_⟩⟩;rw[vZ];exact .inr ⟨yN,b,y,e1,rfl,Nat.le_add_right _ _,by have:=(aad.1 ht).1;omega⟩
  have hDD:∀k o,D k o->D' k o:=fun k o h=>by rw[vZ];exact .inl h
  have wh:∀k o v,eC k o=some v->iz k o=some v:=fun k o v hk=>by rw[eg];exact hold _ _ _ hk
  show X (aK aac aau Q w (bq [] []) (bx eC w1 w2) D' (vh D') [] QV) _ _;rw[<-eg];clear eg hold bM bV he ha hS hN kQ h' xH vZ;obtain⟨Kd,KJ⟩:∃d,d=setRow dl (z+4) (cQ.cH ⟨uO,uN,uQ,uP,u1,u2,u3,u4,v1,v2,v3,v4,uZ,u0,u5,u6⟩):=⟨_,rfl⟩;have HJ:z+12<=dl.length:=by rw[Vk];simp[U1,bN,cQ.aN];omega
  refine X.iA ([(20,.own 0 z)]) ([(1010,⟨fun _=>.tup [],[(0,⟨true,Kd,none⟩)],[]⟩)]) ib 400 _ rfl aah (fun pr pe fin aj bm ai=>?_)
  conv=>cbv
  refine⟨aj _ (jJ (sx:=.osl 0 0 n 13 none) rfl (.inr (.inr ⟨none,rfl⟩)) rfl (fun _=>rfl) aas aaD (fun _=>aF) hz (by simp)),bm _ _ _ _ _ ?_,ai _ _ ?_⟩
  ·refine be.step ib ?_
   rw[lm (c:=z+4) (v:=.agg (cQ.cH ⟨uO,uN,uQ,uP,u1,u2,u3,u4,v1,v2,v3,v4,uZ,u0,u5,u6⟩)) (g:=⟨true,dl,none⟩) (ti:=tJ) rfl rfl rfl rfl rfl rfl (by show z+4+8<=dl.length;omega) rfl];rw[KJ];rfl
  clear aj bm ai;have Rj:Kd=A2++cQ.cH ⟨uO,uN,uQ,uP,u1,u2,u3,u4,v1,v2,v3,v4,uZ,u0,u5,u6⟩++B2:=by
   rw[KJ,Vk,<-U1];exact wW rfl
  obtain⟨Dk,wk⟩:∃v,v=bC.set i (aL.aN ⟨ky,b1,b2,b3,⟨uO,uN,uQ,uP,u1,u2,u3,u4,v1,v2,v3,v4,uZ,u0,u5,u6⟩,ta⟩):=⟨_,rfl⟩;have bM:a7 Dk.flatten=A2++a7 (cQ.aN ⟨uO,uN,uQ,uP,u1,u2,u3,u4,v1,v2,v3,v4,uZ,u0,u5,u6⟩)++B2:=by
   rw[wk,EC,WJ,Q_];simp[a7]
  refine X.mR 0 ⟨true,Kd,none⟩ (a7 Dk.flatten) rfl (by rw[bM];show _=Kd.length;rw[Rj];simp[bN];rfl) (fun N hN j c c' h1 h2 v hv=>?_) ?_
  ·rw[bM] at h2
   have h1:Kd[j]?=some c:=h1;rw[Rj] at h1;refine wK (N:=N) (by rfl) (fun j c c' y1 y2 v hv=>?_) j c c' h1 h2 v hv;obtain⟨_,y3⟩:=SV.aP (N:=N) (cQ.cH ⟨uO,uN,uQ,uP,u1,u2,u3,u4,v1,v2,v3,v4,uZ,u0,u5,u6⟩) (rfl:SV.ap N (cQ.cH ⟨uO,uN,uQ,uP,u1,u2,u3,u4,v1,v2,v3,v4,uZ,u0,u5,u6⟩)=some (cQ.aN ⟨uO,uN,uQ,uP,u1,u2,u3,u4,v1,v2,v3,v4,uZ,u0,u5,u6⟩));obtain⟨v',y4,y5⟩:=y3 j c y1;rw[hv] at y4;cases y4;have y5':(cQ.aN ⟨uO,uN,uQ,uP,u1,u2,u3,u4,v1,v2,v3,v4,uZ,u0,u5,u6⟩)[j]?=some v:=y5;rw[a7,aaK,y5'] at y2;obtain rfl:=aai.inj y2;have ho:bc v=true:=aaA.1 (show(cQ.aN ⟨uO,uN,uQ,uP,u1,u2,u3,u4,v1,v2,v3,v4,uZ,u0,u5,u6⟩).all bc=true from rfl) v (aar y5);simp[SV.den,ho]
  have hI':ClN w Mo im l (i+1) iz Dk D':=by
   refine⟨⟨fun k o v hk=>wh _ _ _ (hI.ct _ _ _ hk),by rw[wk,List.length_set];exact hI.len,fun v hv=>?_,fun j y hy=>?_⟩,fun j y hj hy=>?_⟩
   ·rw[wk] at hv
    rcases aaN hv with h1|rfl
    ·exact hI.row v h1
    ·exact⟨rfl,rfl⟩
   ·by_cases hj:i=j
    ·subst hj
     rw[hx] at hy;cases hy;refine⟨_,by rw[wk,aaB,if_pos rfl,if_pos (by rw[hI.len];omega)],?_⟩;have:=aI.shut (x:=⟨ky,⟨b1,b2,b3⟩,x.a8,ta⟩) Y8;rw[hxe];exact this
    ·obtain⟨vs,h1,h2⟩:=hI.nu j y hy
     exact⟨vs,by rw[wk,aaB,if_neg hj];exact h1,h2.mono (AJ wh)⟩
   ·by_cases iK:i=j
    ·subst iK
     rw[hx] at hy;cases hy;exact⟨_,pq,cq,by rw[wk,aaB,if_pos rfl,if_pos (by rw[hI.len];omega)],h3,adF⟩
    ·obtain⟨vs,p',c',h1,h2,h4⟩:=hI.nv j y (by omega) hy
     refine⟨vs,p',c',by rw[wk,aaB,if_neg iK];exact h1,h2,fun h0=>?_⟩;obtain⟨b,y',e1,e2,e3⟩:=h4 h0;exact⟨b,y',e1,e2,fun t z ht=>⟨wh _ _ _ (e3 t z ht).1,hDD _ _ (e3 t z ht).2⟩⟩
  refine X.back (fun N a w' hN hf hS=>hq ⟨(i+1,iz,Dk,D'),aF,hI'⟩ a w' (by simp only;omega) ?_);exact At.eJ hf hS ⟨fun h=>h,aR.refl gx,rfl,trivial⟩
 ·simp only[SB.F,SI.den] at cJ
  obtain rfl:i=n:=by omega
  refine X.go ib 400 _ rfl aah ?_
  conv=>arg 2;cbv
  refine X.done ib rfl (fun N w' v hN hS hv=>?_);obtain⟨q0,ED⟩:∃p,N[0]?=some p:=⟨_,aag (by rw[hS.len];show 0<1;omega)⟩;simp only[bz,SV.den,ED,aS.cap,aaw,aaH,aA] at hv;have gI:=hS.ext 0 ⟨true,dl,none⟩ q0 rfl ED rfl;have Yh:dl.length=i*13:=by rw[s_,bN,bO (K:=13) fun v hv=>(hI.row v hv).1,hI.len,hn]
  simp only[Yh] at gI;have hfq:w.heap.size<=q0.b:=by
   rcases hS.dG 0 ⟨true,dl,none⟩ q0 rfl ED rfl with h1|h1
   ·exact h1
   ·exact absurd (h1 0 (by omega)) aB
  rw[hQ];have fI:bC.flatten.all bc=true:=by
   rw[aa0,aaA];exact fun v hv=>(hI.row v hv).2
  have ac9:lx q0 bC.flatten w':=fl hS (r:=0) (vs:=bC.flatten) rfl ED (by show SV.ap N dl=_;rw[s_];exact c9 fI N);refine⟨⟨some ⟨q0.b,q0.o,none⟩,q0.x / 13,by rw[<-hv,<-hn],fun M h1 h2=>?_,fun _=>⟨q0,rfl,rfl,hfq,⟨hS.lt 0 q0 ED,hS.room 0 _ q0 rfl ED rfl⟩,by omega,bC,hI.len,ac9,fun v hv=>hI.row v hv,fun j x hj=>?_,mU w Mo eC,fun k o v hk=>?_,fun j x hj=>hI.nu j x hj⟩⟩,hS.aM.none⟩
  rotate_left
  ·obtain⟨vs,p',c',y1,y2,y3⟩:=hI.nv j x (by have:=(aad.1 hj).1;omega) hj
   obtain⟨Fp,y4,y5⟩:=hI.nu j x hj;rw[y1] at y4;cases y4;obtain⟨t,y6,y7,_⟩:=aI.cells y5;refine⟨t,by rw[<-y6];exact y1,p',c',by rw[<-y6];exact y2,fun h0=>?_⟩;obtain⟨b,y',e1,e2,e3⟩:=y3 h0;refine⟨b,y',e1,e2,fun u z hu=>⟨hS.cK _ _ _ (e3 u z hu).1,hS.fH _ _ (e3 u z hu).2,fun yd=>?_⟩⟩;obtain⟨i1,i2,i3⟩:=yd;have:=hS.dd 0 _ q0 rfl ED rfl (y'+u-q0.o) (by omega);rw[show q0.o+(y'+u-q0.o)=y'+u by omega,<-i1] at this;exact this (e3 u z hu).2
  ·have pF:∀k o v,Mo k o=some v->eC k o=some v:=fun k o v hk=>hI.ct _ _ _ (s8 _ _ _ hk)
   have hki:eC k o=some v:=Gx pF _ _ _ hk;refine⟨hS.cK _ _ _ hki,fun⟨i1,i2,i3⟩=>?_,?_⟩
   ·have:=hS.lR 0 _ q0 rfl ED rfl (o-q0.o) (by omega)
    rw[show q0.o+(o-q0.o)=o by omega,<-i1] at this;have YF:eC k o=none:=this;rw[hki] at YF;cases YF
   ·unfold mU at hk
    split at hk
    ·rename_i u hu
     cases hk;exact .inl hu
    ·split at hk
     ·rename_i h1;exact .inr h1
     ·cases hk
  refine dC.of (K:=13) (bC:=bC) (by omega) (by rw[dt];omega) hI.len (fun j x hx=>?_) (fun _=>⟨q0.b,q0.o,rfl,fun j vs hj k v hk=>?_⟩)
  ·obtain⟨vs,y1,y2⟩:=hI.nu j x hx
   refine⟨vs,y1,y2.mono fun k o v hk=>?_⟩;unfold mU at hk
   split at hk
   ·rename_i u hu
    cases hk;exact h1 _ _ _ hu
   ·split at hk
    ·exact h2 _ _ _ (by assumption) (hS.cK _ _ _ hk)
    ·cases hk
  ·have ade:=(hI.row vs (aar hj)).1
   have ajo:k<13:=by rw[<-ade];exact(aad.1 hk).1
   have xD:bC.flatten[j*13+k]?=some v:=by
    rw[ew (by decide) fun v hv=>(hI.row v hv).1,show(j*13+k) / 13=j by omega,show(j*13+k) % 13=k by omega,hj];exact hk
   refine h2 _ _ _ hfq ?_;have fI:bC.flatten.all bc=true:=by
    rw[aa0,aaA];exact fun v hv=>(hI.row v hv).2
   have:=fl hS (r:=0) (vs:=bC.flatten) rfl ED (by show SV.ap N dl=_;rw[s_];exact c9 fI N) (j*13+k) v xD
   rwa [<-Nat.add_assoc] at this
theorem zA (Mo:Mem)(p:aS)(l:List aI)(cp:Nat)(w:World)(qo:∀k o v,Mo k o=some v->w.cell? ⟨k,o,none⟩=some v)(h:fC Mo p l w)(Vv:l≠[])(hle:l.length<=1000)(hg:∀x∈l,¬x.a8.iI) :
  Calls aac 26 #[.slice (some ⟨p.b,p.o,none⟩) l.length cp] w (kr Mo l w) :=
 (xy Mo p l cp w qo h Vv hle hg).mono fun _ _ ⟨⟨p,c,h1,h2,_⟩,h3⟩=>⟨⟨p,c,h1,h2⟩,h3⟩
end Go.Proofs.YthpbefahaghbjaaGreat
