import Derived.Test.YthpbefahaghbjaaGreatRb1
import Derived.Test.YthpbefahaghbjaaGreatLaw
open Bool renaming not_eq_true'→aaj,and_eq_true→aay,or_eq_true→aaI
open Go renaming Ending→aar,mem_ready→aaG
open Go.Proofs.Tryz renaming prog→aac,results85→aad,f85→aae,results84→aag,sizeOf148→aai,f84→aal,underlying135→aan,isAgg5→aas,underlying30→aaC,sizeOf5→aaH,isAgg148→aaR,call86→aa9,call98→aba
open Go.Region renaming ready→aak,noSelect→aaV
open List renaming mem_cons→aaf,length_append→aah,not_mem_nil→aam,take_of_length_le→aap,foldl_cons→aaq,mem_singleton→aaz,getElem?_eq_getElem→aaA,mem_map→aaB,pairwise_cons→aaE,length_singleton→aaF,getElem?_eq_some_iff→aaJ,prefix_refl→aaK,filter_cons_of_pos→aaL,filter_cons_of_neg→aaM,length_cons→aaN,take_add_one→aaO,Perm→aaP,foldl_append→aaQ,IsPrefix→aaW,prefix_append→aaX,range'→aaY,mem_append→aaZ,perm_ext_iff_of_nodup→aa0,pairwise_mergeSort→aa1,pairwise_iff_getElem→aa2,ext_getElem→aa3,mem_flatMap→aa4,mem_filter→aa5,cons_append→aa6,all_eq_true→aa7,foldl→aa8
open Nat renaming le_refl→aao,beq→aau,eq_of_beq_eq_true→aav,zero_le→aaw,lt_of_sub_eq_succ→aax,add_zero→aaD,lt_or_ge→aaS,mod_eq_of_lt→aaT,mul_one→aaU
set_option maxHeartbeats 16000000
set_option maxRecDepth 100000
set_option cbv.maxSteps 100000000
namespace Go.bU
open Go
inductive dK where
 |nil
 |q (i:Nat) (gH:List Nat) (r:dK)
 |one (i:Nat) (r:dK)
 |two (i j:Nat) (x y:dK)
def LL (l:List Nat)(i j:Nat):Bool:=match l with
 | [a,b]=>(aau a i&&aau b j) ||(aau a j&&aau b i)
 |_=>false
theorem mO {l:List Nat}{i j:Nat}(h:LL l i j=true):l=[i,j]\/l=[j,i]:=by
 unfold LL at h
 split at h
 ·simp only[aaI,aay] at h
  rcases h with ⟨h1,h2⟩|⟨h1,h2⟩
  ·exact .inl (by rw[aav h1,aav h2])
  ·exact .inr (by rw[aav h1,aav h2])
 ·cases h
def bA (ops:Array Oper):dK->Nat->Array Bool->Bool
 | .nil,m,L=>aau m 0&&(aak .any ops L).isEmpty
 | .q i gH r,m,L=>match m with
  |0=>false
  |m+1=>(aak .any ops L).contains i&&Region.free .any ops L i&&uJ ops i gH&&u7 L ops.size gH&&bA ops r m (L.setIfInBounds i true)
 | .one i r,m,L=>match m with
  |0=>false
  |m+1=>only (aak .any ops L) i&&bA ops r m (L.setIfInBounds i true)
 | .two i j x y,m,L=>match m with
  |0=>false
  |m+1=>LL (aak .any ops L) i j&&bA ops x m (L.setIfInBounds i true)&&bA ops y m (L.setIfInBounds j true)
def RQ (pr:hZ->Prop):List hZ->Prop->Prop
 | [],p=>p
 |o::os,p=>pr o/\RQ pr os p
theorem gL {pr:hZ->Prop}:∀{os:List hZ} {p:Prop},RQ pr os p->(∀q∈os,pr q)/\p
 | [],_,h=>⟨fun _ h=>absurd h aam,h⟩
 |o::os,p,⟨h1,h2⟩=>by
  obtain⟨h3,h4⟩:=gL h2;exact⟨fun q hq=>by rcases aaf.1 hq with rfl|h;exact h1;exact h3 q h,h4⟩
def stepT (pr:hZ->Prop)(td:List (Nat × SV))(T:aQ)(n:Nat)(all:Array Oper)(K:KW)(i:Nat)(c:St->Prop)(s:St):Prop :=
 match qP td T n all s.rg i s.fr with
 |some (f,o)=>RQ pr o (c ⟨f,s.rg⟩)
 |none=>match uW T n all i s with
  |some s'=>(match xL s.fr all i with|some k=>aU (eW K i) k|none=>true)=true/\c s'
  |none=>match oE td n all i s.fr with
   |some (f,gk,g,l,v)=>pr (.call s.rg gk g l v)/\c ⟨f,s.rg⟩
   |none=>False
def D7 (pr:hZ->Prop)(fin:St->Prop)(td:List (Nat × SV))(T:aQ)(n:Nat)(all:Array Oper)(K:KW)(rg:List Rg):dK->St->Prop
 | .nil,s=>fin s
 | .q i gH r,s=>lF K i=true/\match qP td T n all (aJ (flatK (mM gH) K) rg 0) i s.fr with
  |some (f,o)=>RQ pr o (D7 pr fin td T n all K rg r ⟨f,s.rg⟩)
  |none=>False
 | .one i r,s=>stepT pr td T n all K i (fun s'=>D7 pr fin td T n all K rg r s') s
 | .two i j x y,s=>stepT pr td T n all K i (fun s'=>D7 pr fin td T n all K rg x s') s/\stepT pr td T n all K j (fun s'=>D7 pr fin td T n all K rg y s') s
def xY (td:List (Nat × SV))(T:aQ)(n:Nat)(all:Array Oper):dK->St->KW
 | .nil,_=>[]
 | .q i _ r,s=>match qP td T n all s.rg i s.fr with
  |some (f,_)=>xY td T n all r ⟨f,s.rg⟩
  |none=>[]
 | .one i r,s=>match qP td T n all s.rg i s.fr with
  |some (f,_)=>xY td T n all r ⟨f,s.rg⟩
  |none=>match uW T n all i s with
   |some s'=>match xL s.fr all i with
    |some k=>(i,[k])::xY td T n all r s'
    |none=>xY td T n all r s'
   |none=>match oE td n all i s.fr with
    |some (f,_)=>xY td T n all r ⟨f,s.rg⟩
    |none=>[]
 | .two i _ x _,s=>match qP td T n all s.rg i s.fr with
  |some (f,_)=>xY td T n all x ⟨f,s.rg⟩
  |none=>match uW T n all i s with
   |some s'=>match xL s.fr all i with
    |some k=>(i,[k])::xY td T n all x s'
    |none=>xY td T n all x s'
   |none=>match oE td n all i s.fr with
    |some (f,_)=>xY td T n all x ⟨f,s.rg⟩
    |none=>[]
theorem D8 {E:Env}{T:aQ}(hT:aq E.P T){td:List (Nat × SV)}{all:Array Oper}(jb:aaV all=true){Q:Exit->Act->World->Prop}(hQ:bR Q){N0:af}{K:KW}{rg:List Rg}{fin:St->Prop}{Nf:af}(wf:World)(hV:jg Nf rg wf):∀(t:dK) (m:Nat) (ad:Array Bool) {s:St} {N:af} {a:Act} {w:World},
  bA all t m ad=true->ad.size=all.size->D7 (hZ.Ok E N0) fin td T E.n all K rg t s->Nf.le N->N0.le N->aX E.n N s.fr a->Sat E N s.rg w->bG (bS K ad) rg s.rg->rg.length<=s.rg.length ->
  (∀s' N' a' w',fin s'->N.le N'->aX E.n N' s'.fr a'->Sat E N' s'.rg w'->Q .normal a' w')->eZ E.P all Q (fun L=>VI E.im Nf (aJ (bS K L) rg 0)) m ad a w:=by
 have I4:∀{l:List Nat},l.isEmpty=true->l=[]:=by intro l h;cases l<;>simp at h ⊢
 have eL:∀(L:Array Bool) {N:af} {cN:List Rg} {w:World},Nf.le N->bG (bS K L) rg cN->Sat E N cN w->VI E.im Nf (aJ (bS K L) rg 0) w:=fun L _ _ _ hN ha hS=>⟨dx (hV.AK _) hN ha hS,hS.cK⟩
 -- one operation that is ready
 have step:∀(m:Nat) (ad:Array Bool) (i:Nat) (c:St->Prop) {s:St} {N:af} {a:Act} {w:World},i∈aak .any all ad->ad.size=all.size->stepT (hZ.Ok E N0) td T E.n all K i c s->Nf.le N->N0.le N->aX E.n N s.fr a->Sat E N s.rg w->bG (bS K ad) rg s.rg->rg.length<=s.rg.length ->
   (∀s' N' a' w',c s'->N.le N'->aX E.n N' s'.fr a'->Sat E N' s'.rg w'->bG (bS K (ad.setIfInBounds i true)) rg s'.rg->rg.length<=s'.rg.length->eZ E.P all Q (fun L=>VI E.im Nf (aJ (bS K L) rg 0)) m (ad.setIfInBounds i true) a' w') ->
   wpOp E.P all Q i (fun a' w'=>VI E.im Nf (aJ (bS K (ad.setIfInBounds i true)) rg 0) w'/\eZ E.P all Q (fun L=>VI E.im Nf (aJ (bS K L) rg 0)) m (ad.setIfInBounds i true) a' w') a w:=by
  intro m ad i c s N a w jp hn hg hN ck hf hS ha hl hk;have aF:i<ad.size:=by
   obtain⟨_,o,ho,_⟩:=aaG.1 jp;rw[hn];exact(Array.getElem?_eq_some_iff.1 ho).1
  have ey:(ad.setIfInBounds i true).getD i false=true:=by simp[aF]
  have grow:∀r,aU (bS K ad) r=true->aU (bS K (ad.setIfInBounds i true)) r=true:=fun r h=>by
   obtain⟨p,h1,h2,h3⟩:=aG.1 h;refine aG.2 ⟨p,h1,?_,h3⟩
   by_cases e:i=p.1
   ·rw[<-e];exact ey
   ·rw[getD_set_ne false e];exact h2
  have own:∀k,aU (eW K i) k=true->aU (bS K (ad.setIfInBounds i true)) k=true:=fun k hk=>by
   obtain⟨p,h1,h2,h3⟩:=fw hk;exact aG.2 ⟨p,h1,by rw[h2];exact ey,h3⟩
  have fT:bG (bS K (ad.setIfInBounds i true)) rg s.rg:=ha.mono fun r hr=>by
   cases hx:aU (bS K ad) r with
   |true=>rw[grow r hx] at hr;cases hr
   |false=>rfl
  obtain⟨_,o,ho,_⟩:=aaG.1 jp;unfold stepT at hg;unfold wpOp;simp only[ho]
  split at hg
  ·rename_i f ob hq
   obtain⟨fm,hg⟩:=gL hg;obtain⟨v,hv,de⟩:=fv hT ho hq fm ck hf hS.vi;have gz:=hk _ N _ w hg (af.le.refl N) de hS fT hl;rcases hv with ⟨hw,a6⟩|⟨hw,rfl⟩
   ·rw[hw,if_pos rfl]
    exact .inl (bi (.inl (a6 w hS.vi)) ⟨eL _ hN fT hS,gz⟩)
   ·rw[hw]
    exact⟨eL _ hN fT hS,gz⟩
  ·split at hg
   ·rename_i s1 he
    obtain⟨xG,mJ⟩:=hg;obtain⟨hw,N',x,w',db,hy,d_,cL⟩:=gu hT (by simpa using ho) he hf hS;have sD:=eA (ks:=bS K (ad.setIfInBounds i true)) fT hl (by
     split
     ·rename_i k oZ
      rw[oZ] at xG;exact own k xG
     ·rfl) he
    rw[hw,if_pos rfl];exact .inl (bi hy ⟨eL _ (hN.trans db) sD.1 cL,hk _ N' _ _ mJ db d_ cL sD.1 sD.2⟩)
   ·split at hg
    ·rename_i f gk g l v qw
     obtain⟨fm,hg⟩:=hg;rcases fV ho qw fm ck hf hS with ⟨hw,hx⟩|⟨hw,d_⟩
     ·rw[hw,if_pos rfl]
      exact .inl (hx _ _ fun x w' d_ cL=>⟨eL _ hN fT cL,hk _ N _ w' hg (af.le.refl N) d_ cL fT hl⟩)
     ·rw[hw]
      exact⟨eL _ hN fT hS,hk _ N _ w hg (af.le.refl N) d_ hS fT hl⟩
    ·exact hg.elim
 intro t
 induction t with
 |nil =>
  intro m ad s N a w hs hn hg hN ck hf hS ha hl hk;simp only[bA,aay] at hs;obtain rfl:=aav hs.1;exact eZ.done (I4 hs.2) (hk s N a w hg (af.le.refl N) hf hS)
 |q i gH r ih =>
  intro m ad s N a w hs hn hg hN ck hf hS ha hl hk;cases m with
  |zero=>simp[bA] at hs
  |succ m =>
   have yI:=eL ad hN ha hS;simp only[bA,aay] at hs;obtain⟨⟨⟨⟨hr,jL⟩,gp⟩,gq⟩,hs⟩:=hs;simp only[D7] at hg;obtain⟨o8,hg⟩:=hg;have o8:=ff o8;have jp:i∈aak .any all ad:=by simpa using hr
   have tg:ad.getD i false=false:=by
    have h1:=(aaG.1 jp).1;rcases aaS i ad.size with h'|h'
    ·simp[h'] at h1 ⊢;exact h1
    ·rw[Array.getD_eq_getD_getElem?,Array.getElem?_eq_none h'];rfl
   have same:∀(L:Array Bool) (r:Nat),aU (bS K (L.setIfInBounds i true)) r=true↔aU (bS K L) r=true:=fun L r=>by
    simp only[bS,aG];constructor
    ·rintro⟨p,h1,h2,h3⟩
     exact⟨p,h1,by rwa [getD_set_ne false (fun e=>o8 p h1 e.symm)] at h2,h3⟩
    ·rintro⟨p,h1,h2,h3⟩
     exact⟨p,h1,by rwa [getD_set_ne false (fun e=>o8 p h1 e.symm)],h3⟩
   split at hg
   ·rename_i f ob hq
    obtain⟨_,o,ho,_⟩:=aaG.1 jp;obtain⟨fm,hg⟩:=gL hg;have wide:∀{L':Array Bool} {w':World},Up all i ad L'->VI E.im Nf (aJ (bS K L') rg 0) w'->VI E.im Nf (aJ (flatK (mM gH) K) rg 0) w':=fun sI hv =>
     ⟨hv.1.more fun r hr=>by
      obtain⟨p,h1,h2,h3⟩:=aG.1 hr;exact aG.2 ⟨p,h1,(sI.within gp hn tg gq).2.2 _ h2,h3⟩,hv.2⟩
    obtain⟨v,hv,de⟩:=fv hT ho hq fm ck hf ((wide .here yI).mono hN);refine eZ.take (S:=fun L=>VI E.im Nf (aJ (bS K L) rg 0)) ho jb jL hr (fun c a w h=>hQ c a o.dst v w h) (fun L w=>⟨fun h=>⟨h.1.more fun r hr=>(same L r).1 hr,h.2⟩,fun h=>⟨h.1.more fun r hr=>(same L r).2 hr,h.2⟩⟩) ?_ yI
     (ih m _ hs (by simpa using hn) hg hN ck de hS (fun r g hg hm=>ha r g hg (by
      cases hx:aU (bS K ad) r with
      |true=>rw[(same ad r).2 hx] at hm;cases hm
      |false=>rfl)) hl hk)
    rcases hv with ⟨hw,a6⟩|⟨hw,rfl⟩
    ·exact .inl ⟨hw,fun w ⟨L',sI,hw⟩=>a6 w ((wide sI hw).mono hN)⟩
    ·exact .inr ⟨hw,rfl⟩
   ·exact hg.elim
 |one i r ih =>
  intro m ad s N a w hs hn hg hN ck hf hS ha hl hk;cases m with
  |zero=>simp[bA] at hs
  |succ m =>
   simp only[bA,aay] at hs;have hr:=gr hs.1;refine eZ.all hr (by simp) fun j hj=>?_
   simp only[aaz] at hj;subst hj;refine step m ad j _ (by rw[hr];simp) hn hg hN ck hf hS ha hl fun s' N' a' w' hc db d_ cL mI o6=>?_
   exact ih m _ hs.2 (by simpa using hn) hc (hN.trans db) (ck.trans db) d_ cL mI o6 fun s2 N2 a2 w2 h1 h2=>hk s2 N2 a2 w2 h1 (db.trans h2)
 |two i j x y V5 V6 =>
  intro m ad s N a w hs hn hg hN ck hf hS ha hl hk;cases m with
  |zero=>simp[bA] at hs
  |succ m =>
   simp only[bA,aay] at hs;obtain⟨⟨h2,hx⟩,hy⟩:=hs;have hr:=mO h2;have EA:i∈aak .any all ad:=by rcases hr with h|h<;>rw[h]<;>simp
   have VC:j∈aak .any all ad:=by rcases hr with h|h<;>rw[h]<;>simp
   have si:=step m ad i _ EA hn hg.1 hN ck hf hS ha hl fun s' N' a' w' hc db d_ cL mI o6=>V5 m _ hx (by simpa using hn) hc (hN.trans db) (ck.trans db) d_ cL mI o6 fun s2 N2 a2 w2 h1 h2=>hk s2 N2 a2 w2 h1 (db.trans h2)
   have sj:=step m ad j _ VC hn hg.2 hN ck hf hS ha hl fun s' N' a' w' hc db d_ cL mI o6=>V6 m _ hy (by simpa using hn) hc (hN.trans db) (ck.trans db) d_ cL mI o6 fun s2 N2 a2 w2 h1 h2=>hk s2 N2 a2 w2 h1 (db.trans h2)
   rcases hr with h|h
   ·exact eZ.all h (by simp) fun q hq=>by
     simp only[aaf,aam,or_false] at hq;rcases hq with rfl|rfl
     ·exact si
     ·exact sj
   ·exact eZ.all h (by simp) fun q hq=>by
     simp only[aaf,aam,or_false] at hq;rcases hq with rfl|rfl
     ·exact sj
     ·exact si
theorem X.goT {P:Program}{fn:Func}{R:aar->World->Prop}{W:World}{O:Nat->Nat->Prop}{im:Nat->Nat->Option Value}{D:Nat->Nat->Prop}{Rr:World->Prop}{N0:af}{B:aH}{T:aQ}(td:List (Nat × SV))(hT:aq P T)(t:dK)(n:Nat){id:Nat}{ops:Array Oper}{k:List It}{s:St}
  (hn:fn.ntmps=n) (jb:aaV ops=true) (ht:bA ops t ops.size (Array.replicate ops.size false)=true)
  (h:∀(pr:hZ->Prop) (fin:St->Prop),(∀q:hZ,q.Ok (aK P fn R W O im D Rr N0 B).toEnv N0->pr q)->(∀s',X (aK P fn R W O im D Rr N0 B) k s'->fin s')->D7 pr fin td T n ops (xY td T n ops t s) s.rg t s):X (aK P fn R W O im D Rr N0 B) (.code (.region id ops true)::k) s:=by
 subst hn;intro N a w hN hf hS;show _->Code.wp _ _ _ _ _;intro _;have hg:=h (hZ.Ok (aK P fn R W O im D Rr N0 B).toEnv N0) (fun s'=>X (aK P fn R W O im D Rr N0 B) k s') (fun _ h=>h) (fun _ h=>h);have cL:Sat (aK P fn R W O im D Rr N0 B).toEnv N s.rg { w with drawn:=w.drawn+1 }:=hS.drew;have PZ:=D8 (E:=(aK P fn R W O im D Rr N0 B).toEnv) hT jb (bR.ms (fun _ _ d _ _ h=>by cases d<;>exact h) k) _ cL.xt t _ _ ht (by simp) hg (af.le.refl N) hN hf cL (fun r g hg _=>hg) (aao _) (fun s' N' a' w' h1 h2 h3 h4=>h1 N' a' w' (hN.trans h2) h3 h4);exact wp_region_any hT.mixed PZ.any
end Go.bU
namespace Go.Proofs.YthpbefahaghbjaaGreat
open Go Go.bU Go.Sort
theorem X.lb {P:Program}{fn:Func}{Q:aar->World->Prop}{W:World}{O D:Nat->Nat->Prop}{Rr:World->Prop}{im:Mem}{B:aH}{N0:af}{k:List It}{s:St}(h:X (aK P fn Q W O im D Rr [] B) k s):X (aK P fn Q W O im D Rr N0 B) k s :=
 X.conv fun N a w hN hf hS=>⟨aK P fn Q W O im D Rr [] B,s,rfl,rfl,rfl,rfl,⟨N,nil_le N,hf,hS.env rfl rfl rfl rfl rfl⟩,h⟩
theorem wB {E:Env}{N:af}{rg:List Rg}{w:World}(hS:Sat E N rg w){r:Nat}{g:Rg}(hg:rg[r]?=some g):∃p,N[r]?=some p:=⟨_,aaA (by rw[hS.len];exact(aaJ.1 hg).1)⟩
end Go.Proofs.YthpbefahaghbjaaGreat
namespace Go.Proofs.YthpbefahaghbjaaGreat
open Go Go.bU Go.ChangeShapes Go.WideShapes Go.ChangeAt Go.RowKit
end Go.Proofs.YthpbefahaghbjaaGreat
namespace Go.Proofs.YthpbefahaghbjaaGreat
open Go Go.bU Go.Sort
def dd:List Int->List Int->List Int
 | [],out=>out
 |x::xs,out=>dd xs (if x∈out then out else out++[x])
theorem Ai:∀(l out:List Int),out <+: dd l out
 | [],out=>aaK out
 |x::l,out=>by
  unfold dd;refine aaW.trans ?_ (Ai l _)
  split
  ·exact aaK out
  ·exact aaX out [x]
theorem Ah:∀(l out:List Int) (y:Int),y∈dd l out↔y∈out\/y∈l
 | [],out,y=>by simp[dd]
 |x::l,out,y=>by
  unfold dd;rw[Ah l _ y]
  split
  ·rename_i h
   constructor
   ·rintro (h1|h1)
    ·exact .inl h1
    ·exact .inr (List.mem_cons_of_mem _ h1)
   ·rintro (h1|h1)
    ·exact .inl h1
    ·rcases aaf.1 h1 with rfl|h1
     ·exact .inl h
     ·exact .inr h1
  ·simp[or_assoc]
theorem vJ:∀(l out:List Int),out.Nodup->(dd l out).Nodup
 | [],out,h=>h
 |x::l,out,h=>by
  unfold dd;refine vJ l _ ?_
  split
  ·exact h
  ·rename_i hx
   refine List.nodup_append.2 ⟨h,by simp,fun a ha b hb e=>?_⟩;subst e;rw[aaz.1 hb] at ha;exact hx ha
theorem xf {l m:List Int}{n:Nat}(h:l <+: m)(hn:n<=l.length):m.take n=l.take n:=by
 obtain⟨t,rfl⟩:=h;rw[List.take_append_of_le_length hn]
theorem yQ (R:Nat->Int)(many:Int):∀(k i:Nat) (out:List Int),out.length<=many.toNat->gE R many k i out=(dd ((aaY i k).map R) out).take many.toNat
 |0,i,out,h=>by simp[gE,dd,aap h]
 |k+1,i,out,h=>by
  unfold gE
  by_cases hm:many<=out.length
  ·rw[if_pos hm,xf (Ai _ _) (by omega),aap (by omega)]
  ·rw[if_neg hm,yQ R many k (i+1) _ (by split;exact h;simp;omega)]
   rw[List.range'_succ,List.map_cons,dd]
theorem vH (d:Array Int):∀(m:Nat),m<=d.size->∀y,y∈Go.Lib.compactUpTo d m↔∃j,j<m/\d[j]! = y
 |0,_,y=>by simp[Go.Lib.compactUpTo]
 |m+1,hm,y=>by
  rw[Go.Lib.compactUpTo_succ,aaZ,vH d m (by omega) y];constructor
  ·rintro (⟨j,h1,h2⟩|h)
   ·exact⟨j,by omega,h2⟩
   ·split at h
    ·exact⟨m,by omega,(aaz.1 h).symm⟩
    ·cases h
  ·rintro⟨j,h1,h2⟩
   by_cases hj:j<m
   ·exact .inl ⟨j,hj,h2⟩
   ·have:j=m:=by omega
    subst this
    by_cases hk:Go.Lib.keeps d j=true
    ·exact .inr (by rw[if_pos hk];exact aaz.2 h2.symm)
    ·have hk:¬(j=0\/d[j]! ≠ d[j-1]!):=by simpa[Go.Lib.keeps] using hk
     have h0:j≠0:=fun e=>hk (.inl e)
     have he:d[j]! = d[j-1]! := Classical.byContradiction fun e=>hk (.inr e)
     exact .inl ⟨j-1,by omega,by rw[<-he,h2]⟩
theorem FW (d:Array Int)(hs:∀i j,i<=j->j<d.size->d[i]! <= d[j]!):∀(m:Nat),m<=d.size->(Go.Lib.compactUpTo d m).Pairwise (·<·)
 |0,_=>by simp[Go.Lib.compactUpTo]
 |m+1,hm=>by
  rw[Go.Lib.compactUpTo_succ];have ih:=FW d hs m (by omega)
  split
  ·rename_i hk
   refine List.pairwise_append.2 ⟨ih,by simp,fun a ha b hb=>?_⟩;rw[aaz.1 hb];obtain⟨j,h1,h2⟩:=(vH d m (by omega) a).1 ha;have hk:m=0\/d[m]! ≠ d[m-1]! := by simpa[Go.Lib.keeps] using hk
   rcases hk with hk|hk
   ·omega
   ·have a1:=hs j (m-1) (by omega) (by omega)
    have a2:=hs (m-1) m (by omega) (by omega);omega
  ·simpa using ih
theorem lt_eq {a b:List Int}(ha:a.Pairwise (·<·))(hb:b.Pairwise (·<·))(h:∀y,y∈a↔y∈b):a=b:=by
 have na:a.Nodup:=ha.imp fun h=>by omega
 have nb:b.Nodup:=hb.imp fun h=>by omega
 exact List.Perm.eq_of_pairwise (fun x y _ _ h1 h2=>by omega) ha hb ((aa0 na nb).2 h)
theorem GZ (d:Array Int):∀i j,i<=j->j<(gY d).size->(gY d)[i]! <= (gY d)[j]! := fun i j iK hj=>by
 have hs:(gY d).toList.Pairwise (fun x y=>(!ltInt y x)=true):=aa1 (fun x y z h1 h2=>by
  simp only[ltInt,aaj,decide_eq_false_iff_not] at h1 h2 ⊢;omega) (fun x y=>by
  simp only[ltInt,aaI,aaj,decide_eq_false_iff_not];omega) _
 rcases aaS i j with h|h
 ·have:=aa2.1 hs i j (by simpa using(by omega:i<(gY d).size)) (by simpa using hj) h
  simp only[ltInt,aaj,decide_eq_false_iff_not,Array.getElem_toList] at this;rw[getElem!_pos _ i (by omega),getElem!_pos _ j hj];omega
 ·have:i=j:=by omega
  subst this;exact Int.le_refl _
theorem O3 (d:Array Int):(rc d).toList.Pairwise (·<·):=FW (gY d) (GZ d) d.size (by rw[hG];exact aao _)
theorem BM (d:Array Int)(y:Int):y∈(rc d).toList↔y∈d.toList:=by
 refine(vH (gY d) d.size (by rw[hG];exact aao _) y).trans ?_;rw[<-(tH d).mem_iff];constructor
 ·rintro⟨j,h1,rfl⟩
  have hj:j<(gY d).size:=by rw[hG];exact h1
  rw[getElem!_pos _ j hj];exact Array.getElem_mem_toList hj
 ·intro h
  obtain⟨j,hj⟩:=List.mem_iff_getElem?.1 h;have aF:j<(gY d).size:=by simpa using(aaJ.1 hj).1
  refine⟨j,by rw[<-hG d];exact aF,?_⟩;rw[getElem!_pos _ j aF]
  simpa[aF] using hj
theorem AZ (d:Array Int):(cP d).Pairwise (fun x y=>(!ltOf nR y x)=true):=aa1 (fun x y z h1 h2=>by
  simp only[Gw,aaj,decide_eq_false_iff_not] at h1 h2 ⊢;omega) (fun x y=>by
  simp only[Gw,aaI,aaj,decide_eq_false_iff_not];omega) _
theorem IH {a b:List (Int × Int)}(ha:a.Pairwise (fun x y=>(!ltOf nR y x)=true))(hb:b.Pairwise (fun x y=>(!ltOf nR y x)=true))(h:a.Perm b):a=b :=
 List.Perm.eq_of_pairwise (fun x y _ _ h1 h2=>by
  simp only[Gw,aaj,decide_eq_false_iff_not] at h1 h2;exact Prod.ext (by omega) (by omega)) ha hb h
def zw (L:List (Int × Int))(kh:Int):List (Int × Int):=L.filter (fun p=>decide (kh<=p.1))++L.filter (fun p=>!decide (kh<=p.1))
theorem wZ (p:Int × Int->Bool):∀(L:List (Int × Int)),L.Pairwise (fun x y=>p x=true->p y=true)->L.take (L.countP fun x=>!p x)=L.filter (fun x=>!p x)/\L.drop (L.countP fun x=>!p x)=L.filter p
 | [],_=>⟨rfl,rfl⟩
 |x::L,h=>by
  obtain⟨h1,h2⟩:=aaE.1 h;obtain⟨i1,i2⟩:=wZ p L h2;cases hx:p x with
  |false =>
   rw[List.countP_cons_of_pos (by simp[hx]),aaL (by simp[hx]),aaM (by simp[hx])];exact⟨by rw[List.take_succ_cons,i1],by rw[List.drop_succ_cons,i2]⟩
  |true =>
   have fI:∀y∈L,p y=true:=fun y hy=>h1 y hy hx
   have h0:L.countP (fun x=>!p x)=0:=List.countP_eq_zero.2 fun y hy=>by simp[fI y hy]
   rw[List.countP_cons_of_neg (by simp[hx]),h0,aaM (by simp[hx]),aaL hx];refine⟨?_,?_⟩
   ·rw[List.filter_eq_nil_iff.2 fun y hy=>by simp[fI y hy]]
    rfl
   ·rw[List.filter_eq_self.2 fI]
    rfl
theorem Hq (L:List (Int × Int))(kh:Int):Hp L kh=L.countP fun p=>!decide (kh<=p.1):=by
 unfold Hp;have:L=(List.range L.length).map fun i=>L[i]! := by
  apply aa3
  ·simp
  ·intro i h1 h2
   simp[h1]
 conv=>rhs;rw[this,List.countP_map]
 rfl
theorem Iw {L:List (Int × Int)}(h:zL L)(kh:Int):L.Pairwise (fun x y=>decide (kh<=x.1)=true->decide (kh<=y.1)=true):=aa2.2 fun i j hi hj iK h1=>by
 have:=h i j (by omega) hj;rw[getElem!_pos _ i hi,getElem!_pos _ j hj] at this;have h1:=of_decide_eq_true h1;exact decide_eq_true (by omega)
theorem ET {L:List (Int × Int)}(h:zL L)(kh:Int):(aaY 0 L.length).map (nodeAt L (Hp L kh))=(zw L kh).map (·.2):=by
 obtain⟨h1,h2⟩:=wZ (fun p=>decide (kh<=p.1)) L (Iw h kh);rw[<-Hq] at h1 h2;have hle:=JW L kh;unfold zw;rw[<-h1,<-h2];obtain⟨s,hs⟩:∃s,s=Hp L kh:=⟨_,rfl⟩;rw[<-hs] at hle ⊢;apply aa3
 ·simp;omega
 ·intro i bI yb
  have hi:i<L.length:=by simpa using bI
  simp only[List.getElem_map,List.getElem_range',Nat.zero_add,Nat.one_mul,nodeAt];rw[List.getElem_append]
  split
  ·rename_i aF
   have aF:i<L.length-s:=by simpa using aF
   rw[aaT (by omega),getElem!_pos _ _ (by omega),List.getElem_drop]
  ·rename_i cJ
   have cJ:¬i<L.length-s:=by simpa using cJ
   have e:(s+i) % L.length=s+i-L.length:=by rw[Nat.mod_eq_sub_mod (by omega),aaT (by omega)]
   rw[e,getElem!_pos _ _ (by omega),List.getElem_take]
   congr 2
   simp;omega
theorem rQ {L:List (Int × Int)}(h:zL L)(key many:Int):gA L key many=(dd ((zw L (mL key)).map (·.2)) []).take many.toNat:=by
 unfold gA;rw[yQ _ _ _ _ _ (by simp),ET h]
theorem Ir (d:Array Int)(y:Int):y∈(cP d).map (·.2)↔y∈d.toList:=by
 rw[aaB,<-BM];constructor
 ·rintro⟨p,hp,rfl⟩
  obtain⟨n,hn,h⟩:=aa4.1 ((je d).mem_iff.1 hp);obtain⟨v,_,rfl⟩:=aaB.1 h;exact hn
 ·intro h
  exact⟨(lE y (0:Nat),y),(je d).mem_iff.2 (aa4.2 ⟨y,h,aaB.2 ⟨0,by simp,rfl⟩⟩),rfl⟩
theorem Mz (L:List (Int × Int))(kh:Int)(p:Int × Int):p∈zw L kh↔p∈L:=by
 unfold zw;rw[aaZ,aa5,aa5]
 by_cases h:kh<=p.1<;>simp[h]
theorem yX (d:Array Int)(kh y:Int):y∈(zw (cP d) kh).map (·.2)↔y∈d.toList:=by
 refine Iff.trans ?_ (Ir d y);simp only[aaB,Mz]
theorem Kb:∀(l out:List Int),(dd l out).length<=out.length+l.length
 | [],out=>aao _
 |x::l,out=>by
  rw[dd];have:=Kb l (if x∈out then out else out++[x]);have h2:(if x∈out then out else out++[x]).length<=out.length+1:=by split<;>simp
  simp only[aaN];omega
theorem rW (d:Array Int)(key:Int):(oC d key).Perm (gA (cP d) key 3):=by
 unfold oC;exact tH _
theorem rV (d:Array Int)(key:Int)(h:d.size<=100):(oC d key).length<=1000:=by
 rw[(rW d key).length_eq];have h1:=tp (cP d) key 3;have h2:=tC d;omega
theorem FX (x:Int):∀(l out:List Int),dd (l++[x]) out=if x∈dd l out then dd l out else dd l out++[x]
 | [],out=>rfl
 |y::l,out=>by
  rw[aa6,dd,FX x l];rfl
theorem tI {l:List Int}{i:Nat}(h:i<l.length):l.take (i+1)=l.take i++[l[i]!]:=by
 rw[aaO,aaA h,getElem!_pos l i h];rfl
theorem Q6 {x:Int}(h:0<=x/\x<256):∃y:Nat,x=(y:Int)/\y<256:=⟨x.toNat,by omega,by omega⟩
theorem mf {L:List (Int × Int)}{a b:Nat}:(ez L).all (SV.uM a b)=true:=aa7.2 fun c hc=>by
 obtain⟨k,z,rfl⟩:=wH hc;rfl
theorem rf {l:List Int}{a b:Nat}:(dR l).all (SV.uM a b)=true:=aa7.2 fun c hc=>by
 obtain⟨x,_,rfl⟩:=aaB.1 hc;rfl
theorem jW (l:List Int)(x:Int):dR (l++[x])=dR l++[.int .u8 (.v x)]:=by simp[dR]
def BH (cs:List SV)(n:Nat)(w:World)(e:aar)(w':World):Prop :=
 ∃b o c,e=.returned (.slice (some ⟨b,o,none⟩) n c)/\(0<cs.length->w.heap.size<=b)/\b<w'.heap.size/\(∀(j:Nat) (c:SV),cs[j]?=some c->∃v,(∀N,c.den N=some v)/\w'.cell? ⟨b,o+j,none⟩=some v)/\aW (fun _ _=>False) w w'
theorem E5 {P:Program}{fn:Func}{Q:aar->World->Prop}{W:World}{im:Mem}{D:Nat->Nat->Prop}{Rr:World->Prop}{N0:af}{B:aH}{N:af}{rg:List Rg}{w':World}{r n z:Nat}{cs:List SV}{v:Value}(hS:Sat (aK P fn Q W (bq [] []) im D Rr N0 B).toEnv N rg w')(hr:rg[r]?=some ⟨true,cs,none⟩)(hc:∀c∈cs,∀(N N':af) (v:Value),c.den N=some v->c.den N'=some v)
  (hv:(eV r n z).den N=some v):BH cs n W (.returned v) w':=by
 obtain⟨p,hp⟩:∃p,N[r]?=some p:=⟨_,aaA (by rw[hS.len];exact(aaJ.1 hr).1)⟩;obtain⟨c,rfl⟩:=El hp hv;refine⟨p.b,p.o,c,rfl,fun h0=>?_,hS.lt r p hp,fun j x hj=>?_,hS.aM.none⟩
 ·have hx:=hS.ext r _ p hr hp rfl
  rcases hS.dG r _ p hr hp rfl with h|h
  ·exact h
  ·exact absurd (h 0 (by simp only at hx;omega)) (fun h=>aB h)
 ·obtain⟨v,h1,h2⟩:=hS.cell r _ p hr hp j x hj
  exact⟨v,fun N'=>hc x (List.mem_of_getElem? hj) _ _ v h1,h2⟩
theorem wI:∀(L:List (Int × Int)) (k:Nat),k<L.length->(ez L)[k*2]?=some (.int .u64 (.v L[k]!.1))/\(ez L)[k*2+1]?=some (.int .u8 (.v L[k]!.2))
 | [],_,h=>absurd h (by simp)
 |x::L,0,_=>⟨rfl,rfl⟩
 |x::L,k+1,h=>by
  obtain⟨h1,h2⟩:=wI L k (by simpa using h);have e:ez (x::L)=.int .u64 (.v x.1)::.int .u8 (.v x.2)::ez L:=rfl;rw[e,show(k+1)*2=k*2+1+1 by omega,show k*2+1+1+1=(k*2+1)+1+1 by omega];simp only[List.getElem?_cons_succ];refine⟨by rw[h1];simp,by rw[h2];simp⟩
theorem E0 {L:List (Int × Int)}{cs:List SV}{k o:Nat}{y:Int × Int}(hc:cs=ez L)(hk:k<L.length)(hy:y=L[k]!)(ho:o=k*2)(j:Nat)(d:SV)(hj:[SV.int .u64 (.v y.1),SV.int .u8 (.v y.2)][j]?=some d):cs[o+j]?=some d:=by
 obtain⟨h1,h2⟩:=wI L k hk;subst hc ho hy
 match j,hj with
 |0,hj=>rw[aaD,h1];simpa using hj
 |1,hj=>rw[h2];simpa using hj
 |j+2,hj=>simp at hj
def rP (p:Int × Int):List (Int × Int)->List (Int × Int)
 | []=>[p]
 |x::l=>if ltOf nR p x then p::x::l else x::rP p l
theorem tm (p:Int × Int):∀l,(rP p l).Perm (p::l)
 | []=>aaP.refl _
 |x::l=>by
  unfold rP
  split
  ·exact aaP.refl _
  ·exact((tm p l).cons x).trans (List.Perm.swap p x l)
theorem ua (p:Int × Int):∀l,l.Pairwise (fun x y=>(!ltOf nR y x)=true)->(rP p l).Pairwise (fun x y=>(!ltOf nR y x)=true)
 | [],_=>by simp[rP]
 |x::l,h=>by
  obtain⟨h1,h2⟩:=aaE.1 h;unfold rP
  split
  ·rename_i hp
   refine aaE.2 ⟨fun y hy=>?_,h⟩;rw[Gw,decide_eq_true_eq] at hp;rcases aaf.1 hy with rfl|hy
   ·rw[Gw]
    simp only[aaj,decide_eq_false_iff_not];omega
   ·have:=h1 y hy
    rw[Gw] at this ⊢;simp only[aaj,decide_eq_false_iff_not] at this ⊢;omega
  ·rename_i hp
   refine aaE.2 ⟨fun y hy=>?_,ua p l h2⟩;rcases aaf.1 ((tm p l).mem_iff.1 hy) with rfl|hy
   ·simpa using hp
   ·exact h1 y hy
def pA (p:Int × Int)(s:Bool × List (Int × Int))(x:Int × Int):Bool × List (Int × Int):=if !s.1&&ltOf nR p x then (true,s.2++[p]++[x]) else (s.1,s.2++[x])
theorem A7 (p:Int × Int):∀(l:List (Int × Int)) (b:Bool) (acc:List (Int × Int)),let s:=l.foldl (pA p) (b,acc)
  (if s.1 then s.2 else s.2++[p])=acc++(if b then l else rP p l)
 | [],b,acc=>by cases b<;>simp[rP]
 |x::l,b,acc=>by
  rw[aaq];have h1:=A7 p l true (acc++[p]++[x]);have h2:=A7 p l b (acc++[x]);cases b with
  |true =>
   rw[show pA p (true,acc) x=(true,acc++[x]) from rfl]
   simpa using h2
  |false =>
   unfold rP
   by_cases hp:ltOf nR p x=true
   ·rw[show pA p (false,acc) x=(true,acc++[p]++[x]) by simp[pA,hp]]
    simpa[hp] using h1
   ·simp only[Bool.not_eq_true] at hp
    rw[show pA p (false,acc) x=(false,acc++[x]) by simp[pA,hp]]
    simpa[hp] using h2
theorem G3 (p:Int × Int):∀(l:List (Int × Int)) (b:Bool) (acc:List (Int × Int)),(l.foldl (pA p) (b,acc)).2.length<=acc.length+2*l.length
 | [],b,acc=>aao _
 |x::l,b,acc=>by
  rw[aaq];have h1:=G3 p l (pA p (b,acc) x).1 (pA p (b,acc) x).2;have h2:(pA p (b,acc) x).2.length<=acc.length+2:=by unfold pA;split<;>simp
  simp only[aaN];have e:((pA p (b,acc) x).1,(pA p (b,acc) x).2)=pA p (b,acc) x:=rfl;rw[e] at h1;omega
def cY (l:List (Int × Int)):List (Int × Int):=l.foldl (fun r p=>rP p r) []
theorem Ct (l:List (Int × Int))(p:Int × Int):cY (l++[p])=rP p (cY l):=by simp[cY]
theorem tl (l:List (Int × Int)):(cY l).Perm l/\(cY l).Pairwise (fun x y=>(!ltOf nR y x)=true):=by
 have key:∀(l r:List (Int × Int)),r.Pairwise (fun x y=>(!ltOf nR y x)=true)->(l.foldl (fun r p=>rP p r) r).Perm (r++l)/\(l.foldl (fun r p=>rP p r) r).Pairwise (fun x y=>(!ltOf nR y x)=true):=fun l=>by
  induction l with
  |nil=>intro r h;exact⟨by simp,h⟩
  |cons x l ih =>
   intro r h;rw[aaq];obtain⟨h1,h2⟩:=ih (rP x r) (ua x r h);refine⟨h1.trans ?_,h2⟩;refine((tm x r).append_right l).trans ?_;rw[aa6];exact List.perm_middle.symm
 have:=key l [] List.Pairwise.nil
 simpa[cY] using this
theorem qA (l:List (Int × Int)):(cY l).length=l.length:=(tl l).1.length_eq
theorem Cs (d:Array Int):cY ((dd d.toList []).flatMap ed)=cP d:=by
 refine IH (tl _).2 (AZ d) ((tl _).1.trans (aaP.trans ?_ (je d).symm));unfold ju;refine List.Perm.flatMap_right _ ((aa0 (vJ _ _ List.nodup_nil) ((O3 d).imp fun h=>by omega)).2 fun y=>?_);rw[Ah,BM];simp
theorem Hr (p:Option Addr)(n cp:Nat)(d:Array Int)(w:World)(hle:n<=100)(X2:nf p n d w) :
  Calls aac 85 #[.slice p n cp] w (BH (ez (cP d)) (cP d).length w):=by
 have hn:=X2.1;obtain⟨Q,hQ⟩:∃Q:aar->World->Prop,Q=BH (ez (cP d)) (cP d).length w:=⟨_,rfl⟩;rw[<-hQ];refine X.begin (rg:=[]) (N:=[]) (ss:=[.ao p n cp]) Tryz.func85 rfl Tm rfl rfl Sat.bp ?_;refine X.go cU 400 _ rfl aad ?_
 conv=>arg 2;cbv
 refine X.loop (fun _:{i:Nat // i<=n}=>aK aac aae Q w (bq [] []) (ab [] [] w) (fun _ _=>False) (fun _=>True) [] xM)
  (fun g=>⟨[(0,.val (.ao p n cp)),(3,.val (eV 0 (cY ((dd (d.toList.take g.1) []).flatMap ed)).length 2)),(4,.val (eV 1 (dd (d.toList.take g.1) []).length 1)),(14,.val (.int .i64 (.nat n))),(15,.val (.int .i64 (.nat g.1)))],[⟨true,ez (cY ((dd (d.toList.take g.1) []).flatMap ed)),none⟩,⟨true,dR (dd (d.toList.take g.1) []),none⟩]⟩) (fun g=>n-g.1) (fun _=>⟨rfl,rfl,rfl,rfl⟩) (fun N ac w' hN hf hS=>⟨⟨0,aaw _⟩,?_⟩) (fun g q hq=>?_)
 ·show At (aK aac aae Q w (bq [] []) (ab [] [] w) (fun _ _=>False) (fun _=>True) [] xM) ⟨[(0,.val (.ao p n cp)),(3,.val (.osl 0 0 0 2 (some 0))),(4,.val (.osl 1 0 0 1 (some 0))),(14,.val (.int .i64 (.nat n))),(15,.val (.int .i64 (.nat 0)))],[⟨true,[],none⟩,⟨true,[],none⟩]⟩ ac w'
  exact At.eJ hf hS ⟨fun h=>h,trivial,rfl,fun h=>h,trivial,rfl,trivial⟩
 obtain⟨i,hi⟩:=g;show X (aK aac aae Q w (bq [] []) (ab [] [] w) (fun _ _=>False) (fun _=>True) [] xM) _ ⟨[(0,.val (.ao p n cp)),(3,.val (eV 0 (cY ((dd (d.toList.take i) []).flatMap ed)).length 2)),(4,.val (eV 1 (dd (d.toList.take i) []).length 1)),(14,.val (.int .i64 (.nat n))),(15,.val (.int .i64 (.nat i)))],[⟨true,ez (cY ((dd (d.toList.take i) []).flatMap ed)),none⟩,⟨true,dR (dd (d.toList.take i) []),none⟩]⟩;obtain⟨D,hD⟩:∃D,D=dd (d.toList.take i) []:=⟨_,rfl⟩;obtain⟨R,hR⟩:∃R,R=cY (D.flatMap ed):=⟨_,rfl⟩;rw[<-hD,<-hR];have WK:D.length<=100:=by
  have:=Kb (d.toList.take i) [];rw[<-hD] at this;simp at this;omega
 have fl8:∀l:List Int,(l.flatMap ed).length=8*l.length:=fun l=>by
  induction l with
  |nil=>rfl
  |cons x l ih=>rw[List.flatMap_cons,aah,ih,ed,mg];simp;omega
 obtain⟨mr,hmr⟩:∃m,m=R.length:=⟨_,rfl⟩;obtain⟨md,Jb⟩:∃m,m=D.length:=⟨_,rfl⟩;have YO:mr=8*md:=by rw[hmr,hR,qA,fl8,Jb]
 rw[<-hmr,<-Jb];obtain⟨vr,Dy⟩:∃v,v=eV 0 mr 2:=⟨_,rfl⟩;obtain⟨vd,ZA⟩:∃v,v=eV 1 md 1:=⟨_,rfl⟩;obtain⟨cr,I6⟩:∃c,c=ez R:=⟨_,rfl⟩;obtain⟨cd,uS⟩:∃c,c=dR D:=⟨_,rfl⟩;have acL:bd 2 vr=true:=by rw[Dy];exact kV (by decide)
 have PC:bd 2 vd=true:=by rw[ZA];exact kV (by decide)
 rw[<-Dy,<-ZA,<-I6,<-uS];refine X.go cU 400 _ rfl aad ?_
 conv=>arg 2;cbv
 refine X.cond rfl (fun aF=>?_) (fun cJ=>?_)
 ·simp only[SB.T,SI.den] at aF
  have aF:i<n:=by omega
  obtain⟨b,y,hp,PK⟩:=X2.2 (by omega);obtain⟨x,hx⟩:∃x,x=d[i]! := ⟨_,rfl⟩;obtain⟨oi,pP⟩:∃o,o=y+i:=⟨_,rfl⟩;have lB:ab [] [] w b (oi+0)=some (.int .u8 x):=by rw[aaD,dD,pP,hx];exact PK i (by omega)
  have t_:dd (d.toList.take (i+1)) []=if x∈D then D else D++[x]:=by
   have:=tI (l:=d.toList) (i:=i) (by simp;omega);rw[this,FX,<-hD,hx,getElem!_pos d i (by omega),getElem!_pos d.toList i (by simp;omega)];simp
  obtain⟨hb,pE⟩:∃b,b=decide (x∈D):=⟨_,rfl⟩;refine X.dk ([(21,.ext b oi 0),(22,.int .u8 (.v x)),(23,.bool (.v hb))]) cU 400 _ rfl aad (fun pr fin aj ai=>?_)
  conv=>cbv
  refine⟨aj _ (fun _=>⟨aa9,fun N w1 args _ hS ha=>?_⟩),aj _ (au.eC rfl aas (fun _=>rfl) fun _=>lB),aj _ (au.at (z:=i) rfl rfl (fun _=>rfl) aaC aaH (fun _=>aF) hp (by omega)),ai _ _ ?_⟩
  ·obtain⟨v,l1,rfl,hv,ha⟩:=oW ha
   obtain⟨v2,l2,rfl,wj,ha⟩:=oW ha;obtain rfl:=BZ ha;obtain⟨pq,yf⟩:=wB hS (r:=1) rfl;rw[ZA] at hv;obtain⟨c1,rfl⟩:=El yf hv;simp only[SV.den,SI.den,aA] at wj;subst wj;refine(Aw _ md c1 D.toArray x w1 (by omega) (uU hS (r:=1) rfl yf (by simp[Jb]) (fun j hj=>⟨.v D[j]!,by rw[uS];simp[dR,show j<D.length by omega],by simp[SI.den]⟩))).mono fun e w' ⟨he,hc⟩=>⟨_,he,by rw[pE];rfl,hc⟩
  refine X.cond rfl (fun hz=>?_) (fun hz=>?_)
  ·simp only[SB.T,SB.den] at hz
   have hz:x∈D:=by rw[pE] at hz;exact of_decide_eq_true hz
   rw[if_pos hz] at t_;refine X.go cU 400 _ rfl aad ?_
   conv=>arg 2;cbv
   refine X.back (fun N ac w' hN hf hS=>hq ⟨i+1,aF⟩ ac w' (by simp only;omega) ?_);show At (aK aac aae Q w (bq [] []) (ab [] [] w) (fun _ _=>False) (fun _=>True) [] xM) ⟨[(0,.val (.ao p n cp)),(3,.val (eV 0 (cY ((dd (d.toList.take (i+1)) []).flatMap ed)).length 2)),(4,.val (eV 1 (dd (d.toList.take (i+1)) []).length 1)),(14,.val (.int .i64 (.nat n))),(15,.val (.int .i64 (.nat (i+1))))],[⟨true,ez (cY ((dd (d.toList.take (i+1)) []).flatMap ed)),none⟩,⟨true,dR (dd (d.toList.take (i+1)) []),none⟩]⟩ ac w';rw[t_,<-hR,<-hmr,<-Jb,<-Dy,<-ZA,<-I6,<-uS];exact At.qX hf hS ⟨fun h=>h,aR.refl (by rw[I6];exact gP),rfl,fun h=>h,aR.refl (by rw[uS];exact jR),rfl,trivial⟩
  ·simp only[SB.F,SB.den] at hz
   have hz:¬x∈D:=by rw[pE] at hz;exact of_decide_eq_false hz
   rw[if_neg hz] at t_;refine X.dk ([(27,.ext b oi 0),(28,.int .u8 (.v x))]) cU 9 _ rfl aad (fun pr fin aj ai=>?_)
   conv=>cbv
   refine⟨aj _ (au.eC rfl aas (fun _=>rfl) fun _=>lB),aj _ (au.at (z:=i) rfl rfl (fun _=>rfl) aaC aaH (fun _=>aF) hp (by omega)),ai _ _ ?_⟩;have ad3:vr.uM 3 1=true:=by rw[Dy];exact An (by decide) (by decide)
   refine X.uu (T:=WC) (te:=fo) (r:=1) (n:=md) (m:=1) (cs:=cd) (new:=[.int .u8 (.v x)]) cU rfl [0,3,5,14,15,30] rfl rfl rfl rfl rfl rfl rfl rfl (.inr (.inl ZA)) rfl (by rw[uS,nP,<-Jb];exact(aaU _).symm) (by decide) (aY (g:=⟨true,[.int .u8 (.v x)],none⟩) rfl rfl rfl rfl) (bL (by decide) rfl rfl rfl (by show(2*(md+1)+256)*1<=_;omega) (by omega)) rfl rfl rfl (by repeat first|exact trivial|refine⟨rfl,?_⟩|refine⟨by assumption,?_⟩) ⟨.inr (by rw[I6];exact mf),.inl rfl,.inr rfl,trivial⟩ (by rw[uS,<-jW];exact rf) rfl ?_;obtain⟨zZ,Yd⟩:∃c,c=cd++[.int .u8 (.v x)]:=⟨_,rfl⟩;have Cb:zZ=dR (D++[x]):=by rw[Yd,uS,jW]
   show X (aK aac aae Q w (bq [] []) (ab [] [] w) (fun _ _=>False) (fun _=>True) [] xM) _ ⟨_,[⟨true,cr,none⟩,⟨true,cd++[.int .u8 (.v x)],none⟩,⟨true,[.int .u8 (.v x)],none⟩]⟩;rw[<-Yd];have X5:cY (D.flatMap ed++dL x 0)=R:=by rw[show dL x 0=[] from rfl,List.append_nil,hR]
   refine X.go cU 400 _ rfl aad ?_
   conv=>arg 2;cbv
   have wc:∀m,zZ.all (bd m)=true:=fun m=>by rw[Cb];exact jR
   refine X.loop (fun _:{v:Nat // v<=8}=>aK aac aae Q w (bq [] []) (ab [] [] w) (fun _ _=>False) (fun _=>True) [] xM)
    (fun g=>⟨[(0,.val (.ao p n cp)),(3,.val (eV 0 (mr+g.1) 2)),(4,.val (.osl 1 0 (md+1) 1 none)),(5,.val (.int .i64 (.nat i))),(6,.val (.int .u8 (.nat g.1))),(14,.val (.int .i64 (.nat n))),(15,.val (.int .i64 (.nat i)))],[⟨true,ez (cY (D.flatMap ed++dL x g.1)),none⟩,⟨true,zZ,none⟩]⟩) (fun g=>8-g.1) (fun _=>⟨rfl,rfl,rfl,rfl⟩) (fun N ac w' hN hf hS=>⟨⟨0,aaw _⟩,?_⟩) (fun g q2 jM=>?_)
   ·show At (aK aac aae Q w (bq [] []) (ab [] [] w) (fun _ _=>False) (fun _=>True) [] xM) ⟨[(0,.val (.ao p n cp)),(3,.val (eV 0 (mr+0) 2)),(4,.val (.osl 1 0 (md+1) 1 none)),(5,.val (.int .i64 (.nat i))),(6,.val (.int .u8 (.nat 0))),(14,.val (.int .i64 (.nat n))),(15,.val (.int .i64 (.nat i)))],[⟨true,ez (cY (D.flatMap ed++dL x 0)),none⟩,⟨true,zZ,none⟩]⟩ ac w'
    rw[X5,aaD,<-Dy,<-I6];exact At.qX hf hS ⟨fun h=>h,aR.refl (by rw[I6];exact gP),rfl,fun h=>h,aR.refl (wc _),rfl,trivial⟩
   obtain⟨v,hv⟩:=g;show X (aK aac aae Q w (bq [] []) (ab [] [] w) (fun _ _=>False) (fun _=>True) [] xM) _ ⟨[(0,.val (.ao p n cp)),(3,.val (eV 0 (mr+v) 2)),(4,.val (.osl 1 0 (md+1) 1 none)),(5,.val (.int .i64 (.nat i))),(6,.val (.int .u8 (.nat v))),(14,.val (.int .i64 (.nat n))),(15,.val (.int .i64 (.nat i)))],[⟨true,ez (cY (D.flatMap ed++dL x v)),none⟩,⟨true,zZ,none⟩]⟩;clear Dy acL ad3 I6;obtain⟨R1,HG⟩:∃R1,R1=cY (D.flatMap ed++dL x v):=⟨_,rfl⟩;obtain⟨m1,dM⟩:∃m,m=mr+v:=⟨_,rfl⟩;have acA:R1.length=m1:=by rw[HG,qA,aah,fl8,mg,<-Jb,dM,YO]
   obtain⟨v1,j5⟩:∃v,v=eV 0 m1 2:=⟨_,rfl⟩;obtain⟨c1,iJ⟩:∃c,c=ez R1:=⟨_,rfl⟩;have Cn:bd 2 v1=true:=by rw[j5];exact kV (by decide)
   rw[<-HG,<-dM,<-j5,<-iJ];refine X.go cU 400 _ rfl aad ?_
   conv=>arg 2;cbv
   refine X.cond rfl (fun PR=>?_) (fun ac4=>?_)
   ·simp only[SB.T,SI.den] at PR
    have PR:v<8:=by omega
    obtain⟨hz,WV⟩:∃z,z=lE x v:=⟨_,rfl⟩;refine X.go cU 400 _ rfl aad ?_
    conv=>arg 2;cbv
    refine X.less [0,3,4,5,6,14,15] ?_;refine X.goT ([(37,.ext b oi 0),(38,.int .u8 (.v x)),(40,.int .u64 (.v hz)),(43,.ext b oi 0),(44,.int .u8 (.v x))]) cU (.q 0 [1,4,6,7,8,9,11] (.q 1 [0,4,6,7,8,9,11] (.q 2 [0,1,4,6,7,8,9,11] (.q 4 [0,1,2,3,6,7,8,9,11] (.q 6 [0,1,2,3,4,5,7,11] (.q 7 [0,1,2,3,4,5,6,11] (.q 8 [0,1,2,3,4,5,6,7,11] (.q 3 [0,1,2,4,6,7,8,9,11] (.q 9 [0,1,2,3,4,5,6,7,8,11] (.two 5 11 (.q 10 [0,1,2,3,4,5,6,7,8,9,11] (.one 11 (.one 12 (.nil)))) (.one 5 (.q 10 [0,1,2,3,4,5,6,7,8,9,11] (.one 12 (.nil)))))))))))))) _ rfl (by kernel_rfl) (by kernel_rfl) (fun pr fin aj ai=>?_)
    conv=>cbv
    refine⟨aj _ (au.at (z:=i) rfl rfl (fun _=>rfl) aaC aaH (fun _=>aF) hp (by omega)),aj _ (au.at (z:=i) rfl rfl (fun _=>rfl) aaC aaH (fun _=>aF) hp (by omega)),aj _ (au.eC rfl aas (fun _=>rfl) fun _=>lB),aj _ (au.eC rfl aas (fun _=>rfl) fun _=>lB),⟨aj _ (.of aba [.int .u8 x,.int .u8 v] (.int .u64 hz) (fun _=>rfl) (fun _=>rfl) fun _ w1 _=>by rw[WV];exact za x v w1),rfl,rfl,ai _ (X.less [0,3,4,5,6,7,14,15] ?key)⟩,rfl,aj _ (.of aba [.int .u8 x,.int .u8 v] (.int .u64 hz) (fun _=>rfl) (fun _=>rfl) fun _ w1 _=>by rw[WV];exact za x v w1),rfl,ai _ (X.less [0,3,4,5,6,7,14,15] ?key)⟩;show X (aK aac aae Q w (bq [] []) (ab [] [] w) (fun _ _=>False) (fun _=>True) [] xM) _ ⟨[(7,.val (.own 2 0)),(0,.val (.ao p n cp)),(3,.val v1),(4,.val (.osl 1 0 (md+1) 1 none)),(5,.val (.int .i64 (.nat i))),(6,.val (.int .u8 (.nat v))),(14,.val (.int .i64 (.nat n))),(15,.val (.int .i64 (.nat i)))],[⟨true,c1,none⟩,⟨true,zZ,none⟩,⟨true,[.int .u64 (.v hz),.int .u8 (.v x)],none⟩]⟩;refine X.dk ([(48,.int .i64 (.nat m1))]) cU 400 _ rfl aad (fun pr fin aj ai=>?_)
    conv=>cbv
    refine⟨aj _ (Fo rfl (.inr j5) aan (aax rfl)),ai _ _ ?_⟩;have ajX:bd 4 v1=true:=by rw[j5];exact kV (by decide)
    have ux:∀m,c1.all (bd m)=true:=fun m=>by rw[iJ];exact gP
    refine X.loop (fun _:{k:Nat // k<=m1}=>aK aac aae Q w (bq [] []) (ab [] [] w) (fun _ _=>False) (fun _=>True) [] xM)
     (fun g=>⟨[(0,.val (.ao p n cp)),(3,.val v1),(4,.val (.osl 1 0 (md+1) 1 none)),(5,.val (.int .i64 (.nat i))),(6,.val (.int .u8 (.nat v))),(7,.val (.own 2 0)),(8,.val (eV 3 ((R1.take g.1).foldl (pA (hz,x)) (false,[])).2.length 2)),(9,.val (.bool (.v ((R1.take g.1).foldl (pA (hz,x)) (false,[])).1))),(14,.val (.int .i64 (.nat n))),(15,.val (.int .i64 (.nat i))),(48,.val (.int .i64 (.nat m1))),(49,.val (.int .i64 (.nat g.1)))],[⟨true,c1,none⟩,⟨true,zZ,none⟩,⟨true,[.int .u64 (.v hz),.int .u8 (.v x)],none⟩,⟨true,ez ((R1.take g.1).foldl (pA (hz,x)) (false,[])).2,none⟩]⟩) (fun g=>m1-g.1) (fun _=>⟨rfl,rfl,rfl,rfl⟩) (fun N ac w' hN hf hS=>⟨⟨0,aaw _⟩,?_⟩) (fun g q3 PY=>?_)
    ·exact At.qX hf hS ⟨fun h=>h,aR.refl (ux _),rfl,fun h=>h,aR.refl (wc _),rfl,fun h=>h,aR.refl rfl,rfl,fun h=>h,trivial,rfl,trivial⟩
    obtain⟨k,hk⟩:=g;show X (aK aac aae Q w (bq [] []) (ab [] [] w) (fun _ _=>False) (fun _=>True) [] xM) _ ⟨[(0,.val (.ao p n cp)),(3,.val v1),(4,.val (.osl 1 0 (md+1) 1 none)),(5,.val (.int .i64 (.nat i))),(6,.val (.int .u8 (.nat v))),(7,.val (.own 2 0)),(8,.val (eV 3 ((R1.take k).foldl (pA (hz,x)) (false,[])).2.length 2)),(9,.val (.bool (.v ((R1.take k).foldl (pA (hz,x)) (false,[])).1))),(14,.val (.int .i64 (.nat n))),(15,.val (.int .i64 (.nat i))),(48,.val (.int .i64 (.nat m1))),(49,.val (.int .i64 (.nat k)))],[⟨true,c1,none⟩,⟨true,zZ,none⟩,⟨true,[.int .u64 (.v hz),.int .u8 (.v x)],none⟩,⟨true,ez ((R1.take k).foldl (pA (hz,x)) (false,[])).2,none⟩]⟩;obtain⟨pt,th⟩:∃b,b=((R1.take k).foldl (pA (hz,x)) (false,[])).1:=⟨_,rfl⟩;obtain⟨R2,Av⟩:∃r,r=((R1.take k).foldl (pA (hz,x)) (false,[])).2:=⟨_,rfl⟩;obtain⟨m2,fM⟩:∃m,m=R2.length:=⟨_,rfl⟩;have ajy:m2<=2*k:=by
     have:=G3 (hz,x) (R1.take k) false [];rw[<-Av,<-fM] at this;simp at this;omega
    obtain⟨v2,wj⟩:∃v,v=eV 3 m2 2:=⟨_,rfl⟩;obtain⟨c2,gn⟩:∃c,c=ez R2:=⟨_,rfl⟩;have ad0:bd 4 v2=true:=by rw[wj];exact kV (by decide)
    have x9:∀m,c2.all (bd m)=true:=fun m=>by rw[gn];exact gP
    have PD:∀a b,c1.all (SV.uM a b)=true:=fun a b=>by rw[iJ];exact mf
    have F8:∀a b,zZ.all (SV.uM a b)=true:=fun a b=>by rw[Cb];exact rf
    rw[<-th,<-Av,<-fM,<-wj,<-gn];refine X.go cU 400 _ rfl aad ?_
    conv=>arg 2;cbv
    refine X.cond rfl (fun Ez=>?_) (fun ac6=>?_)
    ·simp only[SB.T,SI.den] at Ez
     have Ez:k<m1:=by omega
     obtain⟨y1,hy1⟩:∃y,y=R1[k]! := ⟨_,rfl⟩;obtain⟨ok,dm⟩:∃o,o=k*2:=⟨_,rfl⟩;obtain⟨ls,PQ⟩:∃b,b=ltOf nR (hz,x) y1:=⟨_,rfl⟩;have rK:(R1.take (k+1)).foldl (pA (hz,x)) (false,[])=pA (hz,x) (pt,R2) y1:=by
      rw[aaO,aaA (by omega),Option.toList_some,aaQ,th,Av,hy1,getElem!_pos R1 k (by omega)];rfl
     have hPr:=E0 iJ (show k<R1.length by omega) hy1 dm;refine X.dk ([(58,.own 0 ok),(59,.agg [.int .u64 (.v y1.1),.int .u8 (.v y1.2)]),(60,.bool (.v ls))]) cU 400 _ rfl aad (fun pr fin aj ai=>?_)
     conv=>cbv
     refine⟨aj _ (.of Tryz.call99 [.agg #[.int .u64 hz,.int .u8 x],.agg #[.int .u64 y1.1,.int .u8 y1.2]] (.bool ls) (fun _=>rfl) (fun _=>rfl) fun _ w1 _=>by rw[PQ];exact Ls (hz,x) y1 w1),aj _ (fZ (z:=2) (row:=[.int .u64 (.v y1.1),.int .u8 (.v y1.2)]) rfl aaR aai rfl rfl hPr),aj _ (jJ (z:=k) rfl (.inr (.inl j5)) rfl (fun _=>rfl) aan aai (fun _=>Ez) (by omega) (aax rfl)),ai _ _ ?_⟩;have VW:v1.uM 5 3=true:=by rw[j5];exact An (by decide) (by decide)
     have agH:v1.uM 6 3=true:=by rw[j5];exact An (by decide) (by decide)
     refine X.cond rfl (fun qx=>?_) (fun qx=>?_)
     ·simp only[SB.T,SB.F] at qx
      have gU:pA (hz,x) (pt,R2) y1=(true,R2++[(hz,x)]++[y1]):=by simp[pA,qx.1,<-PQ,qx.2]
      refine X.go cU 5 _ rfl aad ?_
      conv=>arg 2;cbv
      refine X.uu (T:=WC) (te:=dB) (r:=3) (n:=m2) (m:=1) (cs:=c2) (new:=[.int .u64 (.v hz),.int .u8 (.v x)]) cU rfl [0,3,4,5,6,7,10,14,15,48,49,65] rfl rfl rfl rfl rfl rfl rfl rfl (.inr (.inl wj)) rfl (by rw[gn,kI];show _=_*2;first|omega|(simp only[aah,aaF];omega)) (by decide) (aY (g:=⟨true,[.int .u64 (.v hz),.int .u8 (.v x)],none⟩) rfl rfl rfl rfl) (bL (by decide) rfl rfl rfl (by show(2*(m2+1)+256)*_<=_;simp only[dB];omega) (by omega)) rfl rfl rfl (by repeat first|exact trivial|refine⟨rfl,?_⟩|refine⟨by assumption,?_⟩) ⟨.inr (PD _ _),.inr (F8 _ _),.inr rfl,.inl rfl,.inr rfl,trivial⟩ (by rw[gn,show([.int .u64 (.v hz),.int .u8 (.v x)]:List SV)=EZ (hz,x) from rfl,<-ir];exact mf) rfl ?_;obtain⟨c3,B_⟩:∃c,c=c2++[.int .u64 (.v hz),.int .u8 (.v x)]:=⟨_,rfl⟩;have Et:c3=ez (R2++[(hz,x)]):=by rw[B_,gn,ir];rfl
      show X (aK aac aae Q w (bq [] []) (ab [] [] w) (fun _ _=>False) (fun _=>True) [] xM) _ ⟨_,[⟨true,c1,none⟩,⟨true,zZ,none⟩,⟨true,[.int .u64 (.v hz),.int .u8 (.v x)],none⟩,⟨true,c2++[.int .u64 (.v hz),.int .u8 (.v x)],none⟩,⟨true,[.int .u64 (.v hz),.int .u8 (.v x)],none⟩]⟩;rw[<-B_];refine X.dk ([(69,.own 0 ok),(70,.agg [.int .u64 (.v y1.1),.int .u8 (.v y1.2)])]) cU 12 _ rfl aad (fun pr fin aj ai=>?_)
      conv=>cbv
      refine⟨aj _ (fZ (z:=2) (row:=[.int .u64 (.v y1.1),.int .u8 (.v y1.2)]) rfl aaR aai rfl rfl hPr),aj _ (jJ (z:=k) rfl (.inr (.inl j5)) rfl (fun _=>rfl) aan aai (fun _=>Ez) (by omega) (aax rfl)),ai _ _ ?_⟩;refine X.uu (T:=WC) (te:=dB) (r:=3) (n:=(m2+1)) (m:=1) (cs:=c3) (new:=[.int .u64 (.v y1.1),.int .u8 (.v y1.2)]) cU rfl [0,3,4,5,6,7,9,14,15,48,49,72] rfl rfl rfl rfl rfl rfl rfl rfl (.inr (.inl rfl)) rfl (by rw[Et,kI];show _=_*2;first|omega|(simp only[aah,aaF];omega)) (by decide) (aY (g:=⟨true,[.int .u64 (.v y1.1),.int .u8 (.v y1.2)],none⟩) rfl rfl rfl rfl) (bL (by decide) rfl rfl rfl (by show(2*((m2+1)+1)+256)*_<=_;simp only[dB];omega) (by omega)) rfl rfl rfl (by repeat first|exact trivial|refine⟨rfl,?_⟩|refine⟨by assumption,?_⟩) ⟨.inr (PD _ _),.inr (F8 _ _),.inr rfl,.inl rfl,.inr rfl,.inr rfl,trivial⟩ (by rw[Et,show([.int .u64 (.v y1.1),.int .u8 (.v y1.2)]:List SV)=EZ y1 from rfl,<-ir];exact mf) rfl ?_;obtain⟨c4,Bv⟩:∃c,c=c3++[.int .u64 (.v y1.1),.int .u8 (.v y1.2)]:=⟨_,rfl⟩;have rH:c4=ez (R2++[(hz,x)]++[y1]):=by rw[Bv,Et];exact(ir _ y1).symm
      show X (aK aac aae Q w (bq [] []) (ab [] [] w) (fun _ _=>False) (fun _=>True) [] xM) _ ⟨_,[⟨true,c1,none⟩,⟨true,zZ,none⟩,⟨true,[.int .u64 (.v hz),.int .u8 (.v x)],none⟩,⟨true,c3++[.int .u64 (.v y1.1),.int .u8 (.v y1.2)],none⟩,⟨true,[.int .u64 (.v hz),.int .u8 (.v x)],none⟩,⟨true,[.int .u64 (.v y1.1),.int .u8 (.v y1.2)],none⟩]⟩;rw[<-Bv];have Vd:∀m,c4.all (bd m)=true:=fun m=>by rw[rH];exact gP
      refine X.go cU 400 _ rfl aad ?_
      conv=>arg 2;cbv
      refine X.back (fun N ac w' hN hf hS=>PY ⟨k+1,Ez⟩ ac w' (by simp only;omega) ?_);show At (aK aac aae Q w (bq [] []) (ab [] [] w) (fun _ _=>False) (fun _=>True) [] xM) ⟨[(0,.val (.ao p n cp)),(3,.val v1),(4,.val (.osl 1 0 (md+1) 1 none)),(5,.val (.int .i64 (.nat i))),(6,.val (.int .u8 (.nat v))),(7,.val (.own 2 0)),(8,.val (eV 3 ((R1.take (k+1)).foldl (pA (hz,x)) (false,[])).2.length 2)),(9,.val (.bool (.v ((R1.take (k+1)).foldl (pA (hz,x)) (false,[])).1))),(14,.val (.int .i64 (.nat n))),(15,.val (.int .i64 (.nat i))),(48,.val (.int .i64 (.nat m1))),(49,.val (.int .i64 (.nat (k+1))))],[⟨true,c1,none⟩,⟨true,zZ,none⟩,⟨true,[.int .u64 (.v hz),.int .u8 (.v x)],none⟩,⟨true,ez ((R1.take (k+1)).foldl (pA (hz,x)) (false,[])).2,none⟩]⟩ ac w';have hl:(R2++[(hz,x)]++[y1]).length=m2+1+1:=by simp[fM]
      rw[rK,gU,hl,<-rH];exact At.qX hf hS ⟨fun h=>h,aR.refl (ux _),rfl,fun h=>h,aR.refl (wc _),rfl,fun h=>h,aR.refl rfl,rfl,fun h=>h,aR.refl (Vd _),rfl,trivial⟩
     ·simp only[SB.T,SB.F] at qx
      have gU:pA (hz,x) (pt,R2) y1=(pt,R2++[y1]):=by rcases qx with h|h<;>simp[pA,h,<-PQ]
      refine X.dk ([(69,.own 0 ok),(70,.agg [.int .u64 (.v y1.1),.int .u8 (.v y1.2)])]) cU 8 _ rfl aad (fun pr fin aj ai=>?_)
      conv=>cbv
      refine⟨aj _ (fZ (z:=2) (row:=[.int .u64 (.v y1.1),.int .u8 (.v y1.2)]) rfl aaR aai rfl rfl hPr),aj _ (jJ (z:=k) rfl (.inr (.inl j5)) rfl (fun _=>rfl) aan aai (fun _=>Ez) (by omega) (aax rfl)),ai _ _ ?_⟩;refine X.uu (T:=WC) (te:=dB) (r:=3) (n:=m2) (m:=1) (cs:=c2) (new:=[.int .u64 (.v y1.1),.int .u8 (.v y1.2)]) cU rfl [0,3,4,5,6,7,9,14,15,48,49,72] rfl rfl rfl rfl rfl rfl rfl rfl (.inr (.inl wj)) rfl (by rw[gn,kI];show _=_*2;first|omega|(simp only[aah,aaF];omega)) (by decide) (aY (g:=⟨true,[.int .u64 (.v y1.1),.int .u8 (.v y1.2)],none⟩) rfl rfl rfl rfl) (bL (by decide) rfl rfl rfl (by show(2*(m2+1)+256)*_<=_;simp only[dB];omega) (by omega)) rfl rfl rfl (by repeat first|exact trivial|refine⟨rfl,?_⟩|refine⟨by assumption,?_⟩) ⟨.inr (PD _ _),.inr (F8 _ _),.inr rfl,.inl rfl,.inr rfl,trivial⟩ (by rw[gn,show([.int .u64 (.v y1.1),.int .u8 (.v y1.2)]:List SV)=EZ y1 from rfl,<-ir];exact mf) rfl ?_;obtain⟨c4,Bv⟩:∃c,c=c2++[.int .u64 (.v y1.1),.int .u8 (.v y1.2)]:=⟨_,rfl⟩;have rH:c4=ez (R2++[y1]):=by rw[Bv,gn];exact(ir _ y1).symm
      show X (aK aac aae Q w (bq [] []) (ab [] [] w) (fun _ _=>False) (fun _=>True) [] xM) _ ⟨_,[⟨true,c1,none⟩,⟨true,zZ,none⟩,⟨true,[.int .u64 (.v hz),.int .u8 (.v x)],none⟩,⟨true,c2++[.int .u64 (.v y1.1),.int .u8 (.v y1.2)],none⟩,⟨true,[.int .u64 (.v y1.1),.int .u8 (.v y1.2)],none⟩]⟩;rw[<-Bv];have Vd:∀m,c4.all (bd m)=true:=fun m=>by rw[rH];exact gP
      refine X.go cU 400 _ rfl aad ?_
      conv=>arg 2;cbv
      refine X.back (fun N ac w' hN hf hS=>PY ⟨k+1,Ez⟩ ac w' (by simp only;omega) ?_);show At (aK aac aae Q w (bq [] []) (ab [] [] w) (fun _ _=>False) (fun _=>True) [] xM) ⟨[(0,.val (.ao p n cp)),(3,.val v1),(4,.val (.osl 1 0 (md+1) 1 none)),(5,.val (.int .i64 (.nat i))),(6,.val (.int .u8 (.nat v))),(7,.val (.own 2 0)),(8,.val (eV 3 ((R1.take (k+1)).foldl (pA (hz,x)) (false,[])).2.length 2)),(9,.val (.bool (.v ((R1.take (k+1)).foldl (pA (hz,x)) (false,[])).1))),(14,.val (.int .i64 (.nat n))),(15,.val (.int .i64 (.nat i))),(48,.val (.int .i64 (.nat m1))),(49,.val (.int .i64 (.nat (k+1))))],[⟨true,c1,none⟩,⟨true,zZ,none⟩,⟨true,[.int .u64 (.v hz),.int .u8 (.v x)],none⟩,⟨true,ez ((R1.take (k+1)).foldl (pA (hz,x)) (false,[])).2,none⟩]⟩ ac w';have hl:(R2++[y1]).length=m2+1:=by simp[fM]
      rw[rK,gU,hl,<-rH];exact At.qX hf hS ⟨fun h=>h,aR.refl (ux _),rfl,fun h=>h,aR.refl (wc _),rfl,fun h=>h,aR.refl rfl,rfl,fun h=>h,aR.refl (Vd _),rfl,trivial⟩
    ·simp only[SB.F,SI.den] at ac6
     have xF:R1.take k=R1:=aap (by omega);have HK:=A7 (hz,x) R1 false [];simp only[Bool.false_eq_true,if_false,List.nil_append] at HK;rw[xF] at th Av;rw[<-th,<-Av] at HK;have rM:cY (D.flatMap ed++dL x (v+1))=if pt=true then R2 else R2++[(hz,x)]:=by
      rw[qE,<-List.append_assoc,Ct,<-HG,<-WV,HK]
     have Ge:(cY (D.flatMap ed++dL x (v+1))).length=mr+(v+1):=by
      rw[qA,aah,fl8,mg,<-Jb,YO]
     refine X.go cU 400 _ rfl aad ?_
     conv=>arg 2;cbv
     refine X.cond rfl (fun kE=>?_) (fun jH=>?_)
     ·simp only[SB.T,SB.F] at kE
      rw[if_neg (by simp[kE])] at rM;refine X.go cU 4 _ rfl aad ?_
      conv=>arg 2;cbv
      refine X.uu (T:=WC) (te:=dB) (r:=3) (n:=m2) (m:=1) (cs:=c2) (new:=[.int .u64 (.v hz),.int .u8 (.v x)]) cU rfl [0,4,5,6,14,15,79] rfl rfl rfl rfl rfl rfl rfl rfl (.inr (.inl wj)) rfl (by rw[gn,kI];show _=_*2;first|omega|(simp only[aah,aaF];omega)) (by decide) (aY (g:=⟨true,[.int .u64 (.v hz),.int .u8 (.v x)],none⟩) rfl rfl rfl rfl) (bL (by decide) rfl rfl rfl (by show(2*(m2+1)+256)*_<=_;simp only[dB];omega) (by omega)) rfl rfl rfl (by repeat first|exact trivial|refine⟨rfl,?_⟩|refine⟨by assumption,?_⟩) ⟨.inr (PD _ _),.inr (F8 _ _),.inr rfl,.inl rfl,.inr rfl,trivial⟩ (by rw[gn,show([.int .u64 (.v hz),.int .u8 (.v x)]:List SV)=EZ (hz,x) from rfl,<-ir];exact mf) rfl ?_;obtain⟨c3,B_⟩:∃c,c=c2++[.int .u64 (.v hz),.int .u8 (.v x)]:=⟨_,rfl⟩;have Et:c3=ez (cY (D.flatMap ed++dL x (v+1))):=by rw[B_,gn,rM,ir];rfl
      have Dw:m2+1=mr+(v+1):=by rw[<-Ge,rM,fM];simp
      show X (aK aac aae Q w (bq [] []) (ab [] [] w) (fun _ _=>False) (fun _=>True) [] xM) _ ⟨_,[⟨true,c1,none⟩,⟨true,zZ,none⟩,⟨true,[.int .u64 (.v hz),.int .u8 (.v x)],none⟩,⟨true,c2++[.int .u64 (.v hz),.int .u8 (.v x)],none⟩,⟨true,[.int .u64 (.v hz),.int .u8 (.v x)],none⟩]⟩;rw[<-B_];refine X.go cU 400 _ rfl aad ?_
      conv=>arg 2;cbv
      refine X.less [0,3,4,5,6,14,15] ?_;have hw8:IntKind.u8.wrap ((v:Int)+1)=((v+1:Nat):Int):=xB (v:=v+1) (by omega);refine X.keep rfl [3,1] (by decide) [(6,.val (.int .u8 (.nat (v+1)))),(3,.val (eV 0 (mr+(v+1)) 2)),(0,.val (.ao p n cp)),(4,.val (.osl 1 0 (md+1) 1 none)),(5,.val (.int .i64 (.nat i))),(14,.val (.int .i64 (.nat n))),(15,.val (.int .i64 (.nat i)))] [⟨true,c3,none⟩,⟨true,zZ,none⟩] rfl (fun i r h=>by match i,h with|0,h=>cases h;rfl|1,h=>cases h;rfl|i+2,h=>simp at h) (fun N N' _ _ hg=>⟨rfl,fun z h=>by rw[<-h];simp only[SV.den,SI.den,hw8],rfl,fun z h=>by rw[<-Dw];exact Kj (n:=m2+1) (hg 0 3 rfl) z h,rfl,fun _ h=>h,rfl,fun z h=>by have:=hg 1 1 rfl;simpa only [SV.den,this] using h,rfl,fun _ h=>h,rfl,fun _ h=>h,rfl,fun _ h=>h,trivial⟩) (fun g hg c hc N N' v hv=>?_) (fun g hg=>?_) ?_
      ·simp only[aaf,aam,or_false] at hg
       rcases hg with rfl|rfl
       ·exact kH (by rw[<-Et];exact hc) hv
       ·exact jm (by rw[<-Cb];exact hc) hv
      ·simp only[aaf,aam,or_false] at hg
       rcases hg with rfl|rfl<;>rfl
      refine X.back (fun N ac w' hN hf hS=>jM ⟨v+1,PR⟩ ac w' (by simp only;omega) ?_);show At (aK aac aae Q w (bq [] []) (ab [] [] w) (fun _ _=>False) (fun _=>True) [] xM) ⟨[(0,.val (.ao p n cp)),(3,.val (eV 0 (mr+(v+1)) 2)),(4,.val (.osl 1 0 (md+1) 1 none)),(5,.val (.int .i64 (.nat i))),(6,.val (.int .u8 (.nat (v+1)))),(14,.val (.int .i64 (.nat n))),(15,.val (.int .i64 (.nat i)))],[⟨true,ez (cY (D.flatMap ed++dL x (v+1))),none⟩,⟨true,zZ,none⟩]⟩ ac w';rw[<-Et];have hvb:bd 2 (eV 0 (mr+(v+1)) 2)=true:=kV (by decide);have sE:∀m,c3.all (bd m)=true:=fun m=>by rw[Et];exact gP
      exact At.qX hf hS ⟨fun h=>h,aR.refl (sE _),rfl,fun h=>h,aR.refl (wc _),rfl,trivial⟩
     ·simp only[SB.T,SB.F] at jH
      have jH:pt=true:=by simpa using jH
      rw[if_pos jH] at rM;have Dw:m2=mr+(v+1):=by rw[<-Ge,rM,fM]
      have x9:c2=ez (cY (D.flatMap ed++dL x (v+1))):=by rw[gn,rM]
      refine X.go cU 400 _ rfl aad ?_
      conv=>arg 2;cbv
      refine X.less [0,3,4,5,6,14,15] ?_;have hw8:IntKind.u8.wrap ((v:Int)+1)=((v+1:Nat):Int):=xB (v:=v+1) (by omega);refine X.keep rfl [3,1] (by decide) [(6,.val (.int .u8 (.nat (v+1)))),(3,.val (eV 0 (mr+(v+1)) 2)),(0,.val (.ao p n cp)),(4,.val (.osl 1 0 (md+1) 1 none)),(5,.val (.int .i64 (.nat i))),(14,.val (.int .i64 (.nat n))),(15,.val (.int .i64 (.nat i)))] [⟨true,c2,none⟩,⟨true,zZ,none⟩] rfl (fun i r h=>by match i,h with|0,h=>cases h;rfl|1,h=>cases h;rfl|i+2,h=>simp at h) (fun N N' _ _ hg=>⟨rfl,fun z h=>by rw[<-h];simp only[SV.den,SI.den,hw8],rfl,fun z h=>by rw[<-Dw];rw[wj] at h;exact Kj (hg 0 3 rfl) z h,rfl,fun _ h=>h,rfl,fun z h=>by have:=hg 1 1 rfl;simpa only [SV.den,this] using h,rfl,fun _ h=>h,rfl,fun _ h=>h,rfl,fun _ h=>h,trivial⟩) (fun g hg c hc N N' v hv=>?_) (fun g hg=>?_) ?_
      ·simp only[aaf,aam,or_false] at hg
       rcases hg with rfl|rfl
       ·exact kH (by rw[<-x9];exact hc) hv
       ·exact jm (by rw[<-Cb];exact hc) hv
      ·simp only[aaf,aam,or_false] at hg
       rcases hg with rfl|rfl<;>rfl
      refine X.back (fun N ac w' hN hf hS=>jM ⟨v+1,PR⟩ ac w' (by simp only;omega) ?_);show At (aK aac aae Q w (bq [] []) (ab [] [] w) (fun _ _=>False) (fun _=>True) [] xM) ⟨[(0,.val (.ao p n cp)),(3,.val (eV 0 (mr+(v+1)) 2)),(4,.val (.osl 1 0 (md+1) 1 none)),(5,.val (.int .i64 (.nat i))),(6,.val (.int .u8 (.nat (v+1)))),(14,.val (.int .i64 (.nat n))),(15,.val (.int .i64 (.nat i)))],[⟨true,ez (cY (D.flatMap ed++dL x (v+1))),none⟩,⟨true,zZ,none⟩]⟩ ac w';rw[<-x9];have hvb:bd 2 (eV 0 (mr+(v+1)) 2)=true:=kV (by decide);have sE:∀m,c2.all (bd m)=true:=fun m=>by rw[x9];exact gP
      exact At.qX hf hS ⟨fun h=>h,aR.refl (sE _),rfl,fun h=>h,aR.refl (wc _),rfl,trivial⟩
   ·simp only[SB.F,SI.den] at ac4
    have hv8:v=8:=by omega
    have hRe:cY ((D++[x]).flatMap ed)=R1:=by
     rw[HG,hv8,List.flatMap_append];simp[ed]
    refine X.go cU 400 _ rfl aad ?_
    conv=>arg 2;cbv
    refine X.back (fun N ac w' hN hf hS=>hq ⟨i+1,aF⟩ ac w' (by simp only;omega) ?_);show At (aK aac aae Q w (bq [] []) (ab [] [] w) (fun _ _=>False) (fun _=>True) [] xM) ⟨[(0,.val (.ao p n cp)),(3,.val (eV 0 (cY ((dd (d.toList.take (i+1)) []).flatMap ed)).length 2)),(4,.val (eV 1 (dd (d.toList.take (i+1)) []).length 1)),(14,.val (.int .i64 (.nat n))),(15,.val (.int .i64 (.nat (i+1))))],[⟨true,ez (cY ((dd (d.toList.take (i+1)) []).flatMap ed)),none⟩,⟨true,dR (dd (d.toList.take (i+1)) []),none⟩]⟩ ac w';rw[t_,hRe,acA,<-j5,<-iJ,aah,<-Jb,<-Cb];exact At.qX hf hS ⟨fun h=>h,aR.refl (by rw[iJ];exact gP),rfl,fun h=>h,aR.refl (wc _),rfl,trivial⟩
 ·simp only[SB.F,SI.den] at cJ
  have fI:d.toList.take i=d.toList:=aap (by simp;omega);have hRe:R=cP d:=by rw[hR,hD,fI,Cs]
  refine X.go cU 400 _ rfl aad ?_
  conv=>arg 2;cbv
  refine X.done cU rfl (fun N w' v hN hS hv=>?_);rw[hQ,<-hRe,<-I6,<-hmr];refine E5 hS (r:=0) (z:=2) rfl (fun c hc N N' v h=>kH (by rw[<-I6];exact hc) h) (by rw[<-Dy];exact hv)
def H5 (many:Int)(out:List Int)(x:Int):List Int:=if decide ((out.length:Int)<many)&&!decide (x∈out) then out++[x] else out
def eH (kh many:Int)(tb:Bool)(out:List Int)(y:Int × Int):List Int:=if decide (kh<=y.1) == tb then H5 many out y.2 else out
theorem AF (many:Int):∀(T out:List Int),out.length<=many.toNat->T.foldl (H5 many) out=(dd T out).take many.toNat
 | [],out,h=>by simp[dd,aap h]
 |x::T,out,h=>by
  rw[aaq,dd]
  by_cases hm:(out.length:Int)<many
  ·by_cases hx:x∈out
   ·have:H5 many out x=out:=by simp[H5,hx]
    rw[this,if_pos hx,AF many T out h]
   ·have:H5 many out x=out++[x]:=by simp[H5,hx,hm]
    rw[this,if_neg hx,AF many T (out++[x]) (by simp;omega)]
  ·have:H5 many out x=out:=by simp[H5,hm]
   rw[this,AF many T out h,xf (Ai _ _) (by omega)];have hp:out <+: dd T (if x∈out then out else out++[x]):=by
    refine aaW.trans ?_ (Ai _ _)
    split
    ·exact aaK _
    ·exact aaX _ _
   rw[xf hp (by omega)]
theorem qB (kh many:Int)(tb:Bool):∀(L:List (Int × Int)) (out:List Int),L.foldl (eH kh many tb) out=((L.filter fun y=>decide (kh<=y.1) == tb).map (·.2)).foldl (H5 many) out
 | [],_=>rfl
 |y::L,out=>by
  rw[aaq,qB kh many tb L];unfold eH
  by_cases h:(decide (kh<=y.1) == tb)=true
  ·rw[if_pos h,aaL (p:=fun y:Int × Int=>decide (kh<=y.1) == tb) h]
   rfl
  ·rw[if_neg h,aaM (p:=fun y:Int × Int=>decide (kh<=y.1) == tb) h]
def kZ (L:List (Int × Int))(kh many:Int):Nat->List Int
 |0=>[]
 |1=>L.foldl (eH kh many true) []
 |_=>L.foldl (eH kh many false) (L.foldl (eH kh many true) [])
theorem EP {L:List (Int × Int)}(h:zL L)(key many:Int):kZ L (mL key) many 2=gA L key many:=by
 rw[rQ h];show aa8 (eH (mL key) many false) (aa8 (eH (mL key) many true) [] L) L=_;rw[qB,qB,<-aaQ,<-List.map_append,AF _ _ _ (by simp)];have e1:(fun y:Int × Int=>decide (mL key<=y.1) == true)=fun y=>decide (mL key<=y.1):=by funext y;simp
 have e2:(fun y:Int × Int=>decide (mL key<=y.1) == false)=fun y=>!decide (mL key<=y.1):=by funext y;simp
 rw[e1,e2];rfl
theorem P5 (many:Int)(out:List Int)(x:Int):(H5 many out x).length<=out.length+1:=by unfold H5;split<;>simp
theorem l9 (kh many:Int)(tb:Bool):∀(L:List (Int × Int)) (out:List Int),(L.foldl (eH kh many tb) out).length<=out.length+L.length
 | [],_=>aao _
 |y::L,out=>by
  rw[aaq];have h1:=l9 kh many tb L (eH kh many tb out y);have h2:(eH kh many tb out y).length<=out.length+1:=by
   unfold eH
   split
   ·exact P5 _ _ _
   ·omega
  simp only[aaN];omega
theorem H6 (L:List (Int × Int))(kh many:Int)(t:Nat):(kZ L kh many t).length<=2*L.length:=by
 match t with
 |0=>simp[kZ]
 |1=>have:=l9 kh many true L [];simp[kZ] at this ⊢;omega
 |t+2 =>
  have h1:=l9 kh many false L (L.foldl (eH kh many true) []);have h2:=l9 kh many true L [];simp[kZ] at h1 h2 ⊢;omega
theorem vW {α β:Type}[Inhabited α](f:β->α->β)(b:β){L:List α}{k:Nat}(h:k<L.length):(L.take (k+1)).foldl f b=f ((L.take k).foldl f b) L[k]! := by
 rw[aaO,aaA h,Option.toList_some,aaQ,getElem!_pos L k h];rfl
theorem Cy (b o m c:Nat)(p:Option Addr)(L:List (Int × Int))(key many:Int)(w:World)(hp:0<m->p=some ⟨b,o,none⟩)(hm:L.length=m)(hle:m<=8000)(hL:uq b o L w)(hR:zL L) :
  Calls aac 84 #[.slice p m c,.int .u8 key,.int .i64 many] w (BH (dR (gA L key many)) (gA L key many).length w):=by
 obtain⟨kh,YE⟩:∃k,k=mL key:=⟨_,rfl⟩;obtain⟨F,hF⟩:∃F,F=gA L key many:=⟨_,rfl⟩;have hFk:kZ L kh many 2=F:=by rw[YE,hF];exact EP hR key many
 obtain⟨Q,hQ⟩:∃Q:aar->World->Prop,Q=BH (dR F) F.length w:=⟨_,rfl⟩;rw[<-hF,<-hQ];refine X.begin (rg:=[]) (N:=[]) (ss:=[.ao p m c,.int .u8 (.v key),.int .i64 (.v many)]) Tryz.func84 rfl Tl rfl rfl Sat.bp ?_;refine X.dk ([(12,.int .u64 (.v kh))]) jC 400 _ rfl aag (fun pr fin aj ai=>?_)
 conv=>cbv
 refine⟨aj _ (.of Tryz.call97 [.int .u8 key] (.int .u64 kh) (fun _=>rfl) (fun _=>rfl) fun _ w1 _=>by rw[YE];exact P4 key w1),ai _ _ ?_⟩;refine X.loop (fun _:{t:Nat // t<=2}=>aK aac aal Q w (bq [] []) (ab [] [] w) (fun _ _=>False) (fun _=>True) [] NO)
  (fun g=>⟨[(0,.val (.ao p m c)),(2,.val (.int .i64 (.v many))),(7,.val (.int .u64 (.v kh))),(8,.val (eV 0 (kZ L kh many g.1).length 1)),(9,.val (.int .i64 (.nat g.1)))],[⟨true,dR (kZ L kh many g.1),none⟩]⟩) (fun g=>2-g.1) (fun _=>⟨rfl,rfl,rfl,rfl⟩) (fun N ac w' hN hf hS=>⟨⟨0,aaw _⟩,?_⟩) (fun g q hq=>?_)
 ·exact At.qX hf hS ⟨fun h=>h,trivial,rfl,trivial⟩
 obtain⟨t,ht⟩:=g;obtain⟨O0,hO0⟩:∃O,O=kZ L kh many t:=⟨_,rfl⟩;show X (aK aac aal Q w (bq [] []) (ab [] [] w) (fun _ _=>False) (fun _=>True) [] NO) _ ⟨[(0,.val (.ao p m c)),(2,.val (.int .i64 (.v many))),(7,.val (.int .u64 (.v kh))),(8,.val (eV 0 (kZ L kh many t).length 1)),(9,.val (.int .i64 (.nat t)))],[⟨true,dR (kZ L kh many t),none⟩]⟩;rw[<-hO0];have aiS:O0.length<=2*m:=by rw[hO0,<-hm];exact H6 _ _ _ _
 obtain⟨v0,yN⟩:∃v,v=eV 0 O0.length 1:=⟨_,rfl⟩;obtain⟨c0,kX⟩:∃v,v=dR O0:=⟨_,rfl⟩;have ajW:bd 1 v0=true:=by rw[yN];exact kV (by decide)
 rw[<-yN,<-kX];refine X.go jC 400 _ rfl aag ?_
 conv=>arg 2;cbv
 refine X.cond rfl (fun aF=>?_) (fun cJ=>?_)
 ·simp only[SB.T,SI.den] at aF
  have aF:t<2:=by omega
  obtain⟨tb,Gn⟩:∃b,b=decide (t=0):=⟨_,rfl⟩;have gz:L.foldl (eH kh many tb) O0=kZ L kh many (t+1):=by
   rw[hO0,Gn]
   match t,aF with
   |0,_=>rfl
   |1,_=>rfl
  refine X.go jC 400 _ rfl aag ?_
  conv=>arg 2;cbv
  refine X.loop (fun _:{i:Nat // i<=m}=>aK aac aal Q w (bq [] []) (ab [] [] w) (fun _ _=>False) (fun _=>True) [] NO)
   (fun g=>⟨[(0,.val (.ao p m c)),(2,.val (.int .i64 (.v many))),(7,.val (.int .u64 (.v kh))),(8,.val (eV 0 ((L.take g.1).foldl (eH kh many tb) O0).length 1)),(9,.val (.int .i64 (.nat t))),(19,.val (.int .i64 (.nat m))),(20,.val (.int .i64 (.nat g.1)))],[⟨true,dR ((L.take g.1).foldl (eH kh many tb) O0),none⟩]⟩) (fun g=>m-g.1) (fun _=>⟨rfl,rfl,rfl,rfl⟩) (fun N ac w' hN hf hS=>⟨⟨0,aaw _⟩,?_⟩) (fun g q2 jM=>?_)
  ·show At _ ⟨[(0,.val (.ao p m c)),(2,.val (.int .i64 (.v many))),(7,.val (.int .u64 (.v kh))),(8,.val (eV 0 O0.length 1)),(9,.val (.int .i64 (.nat t))),(19,.val (.int .i64 (.nat m))),(20,.val (.int .i64 (.nat 0)))],[⟨true,dR O0,none⟩]⟩ ac w'
   rw[<-yN,<-kX];exact At.qX hf hS ⟨fun h=>h,aR.refl (by rw[kX];exact jR),rfl,trivial⟩
  obtain⟨i,hi⟩:=g;show X (aK aac aal Q w (bq [] []) (ab [] [] w) (fun _ _=>False) (fun _=>True) [] NO) _ ⟨[(0,.val (.ao p m c)),(2,.val (.int .i64 (.v many))),(7,.val (.int .u64 (.v kh))),(8,.val (eV 0 ((L.take i).foldl (eH kh many tb) O0).length 1)),(9,.val (.int .i64 (.nat t))),(19,.val (.int .i64 (.nat m))),(20,.val (.int .i64 (.nat i)))],[⟨true,dR ((L.take i).foldl (eH kh many tb) O0),none⟩]⟩;obtain⟨O1,hO1⟩:∃O,O=(L.take i).foldl (eH kh many tb) O0:=⟨_,rfl⟩;obtain⟨l1,qt⟩:∃l,l=O1.length:=⟨_,rfl⟩;have YH:l1<=3*m:=by
   have:=l9 kh many tb (L.take i) O0;rw[<-hO1,<-qt] at this;simp at this;omega
  obtain⟨v1,j5⟩:∃v,v=eV 0 l1 1:=⟨_,rfl⟩;obtain⟨c1,iJ⟩:∃v,v=dR O1:=⟨_,rfl⟩;have Cn:bd 1 v1=true:=by rw[j5];exact kV (by decide)
  have ux:∀m,c1.all (bd m)=true:=fun m=>by rw[iJ];exact jR
  rw[<-hO1,<-qt,<-j5,<-iJ];refine X.go jC 400 _ rfl aag ?_
  conv=>arg 2;cbv
  refine X.cond rfl (fun Ey=>?_) (fun ac5=>?_)
  ·simp only[SB.T,SI.den] at Ey
   have Ey:i<m:=by omega
   have hp:=hp (by omega);obtain⟨y,hy⟩:∃y,y=L[i]! := ⟨_,rfl⟩;obtain⟨h1,Ay⟩:∃z,z=y.1:=⟨_,rfl⟩;obtain⟨x,hx⟩:∃z,z=y.2:=⟨_,rfl⟩;obtain⟨oz,RA⟩:∃q,q=o+i*2:=⟨_,rfl⟩;have bI:ab [] [] w b (oz+0)=some (.int .u64 h1):=by rw[aaD,dD,RA,Ay,hy];exact(hL i (by omega)).1
   have yb:ab [] [] w b (oz+1)=some (.int .u8 x):=by rw[dD,RA,hx,hy];exact(hL i (by omega)).2
   obtain⟨hb,pE⟩:∃b,b=decide (x∈O1):=⟨_,rfl⟩;have gU:(L.take (i+1)).foldl (eH kh many tb) O0=eH kh many tb O1 y:=by rw[vW _ _ (by omega),<-hO1,<-hy]
   refine X.dk ([(25,.ext b oz 0),(27,.int .u64 (.v h1)),(35,.int .i64 (.nat l1)),(43,.ext b oz 0),(45,.int .u8 (.v x)),(46,.bool (.v hb))]) jC 400 _ rfl aag (fun pr fin aj ai=>?_)
   conv=>cbv
   refine⟨aj _ (fun _=>⟨aa9,fun N w1 args _ hS ha=>?_⟩),aj _ (au.eC rfl aas (fun _=>rfl) fun _=>yb),aj _ (au.at (z:=i) rfl rfl (fun _=>rfl) aan aai (fun _=>Ey) hp (by omega)),aj _ (Fo rfl (.inr j5) aaC (aax rfl)),aj _ (au.eC rfl Tryz.isAgg29 (fun _=>rfl) fun _=>bI),aj _ (au.at (z:=i) rfl rfl (fun _=>rfl) aan aai (fun _=>Ey) hp (by omega)),ai _ _ ?_⟩
   ·obtain⟨v,ls1,rfl,hv,ha⟩:=oW ha
    obtain⟨v2,ls2,rfl,wj,ha⟩:=oW ha;obtain rfl:=BZ ha;obtain⟨pq,yf⟩:=wB hS (r:=0) rfl;rw[j5] at hv;obtain⟨cc,rfl⟩:=El yf hv;simp only[SV.den,SI.den,aA] at wj;subst wj;refine(Aw _ l1 cc O1.toArray x w1 (by omega) (uU hS (r:=0) rfl yf (by simp[qt]) (fun j hj=>⟨.v O1[j]!,by rw[iJ];simp[dR,show j<O1.length by omega],by simp[SI.den]⟩))).mono fun e w' ⟨he,hc⟩=>⟨_,he,by rw[pE];rfl,hc⟩
   refine X.cond rfl (fun hT=>?_) (fun hF=>?_)
   ·simp only[SB.T,SB.F,SB.den,SI.den] at hT
    have VP:eH kh many tb O1 y=O1++[x]:=by
     obtain⟨⟨g1,g2⟩,g3⟩:=hT;have g1':kh<=h1↔t=0:=(decide_eq_true_iff.symm.trans (Iff.of_eq (congrArg (fun b=>b=true) g1))).trans (by simp);have g4:(decide (kh<=y.1) == tb)=true:=by rw[Gn,<-Ay,beq_iff_eq];exact decide_eq_decide.2 g1'
     have g5:¬x∈O1:=by rw[pE] at g3;simpa using g3
     unfold eH H5;rw[if_pos g4,<-hx,if_pos (by simp[g5];omega)]
    refine X.dk ([(52,.ext b oz 0),(54,.int .u8 (.v x))]) jC 8 _ rfl aag (fun pr fin aj ai=>?_)
    conv=>cbv
    refine⟨aj _ (au.eC rfl aas (fun _=>rfl) fun _=>yb),aj _ (au.at (z:=i) rfl rfl (fun _=>rfl) aan aai (fun _=>Ey) hp (by omega)),ai _ _ ?_⟩;refine X.uu (T:=T84) (te:=fo) (r:=0) (n:=l1) (m:=1) (cs:=c1) (new:=[.int .u8 (.v x)]) jC rfl [0,2,7,9,19,20,56] rfl rfl rfl rfl rfl rfl rfl rfl (.inr (.inl j5)) rfl (by rw[iJ,nP,<-qt];exact(aaU _).symm) (by decide) (aY (g:=⟨true,[.int .u8 (.v x)],none⟩) rfl rfl rfl rfl) (bL (by decide) rfl rfl rfl (by show(2*(l1+1)+256)*1<=_;omega) (by omega)) rfl rfl rfl (by repeat first|exact trivial|refine⟨rfl,?_⟩|refine⟨by assumption,?_⟩) ⟨.inl rfl,.inr rfl,trivial⟩ (by rw[iJ,<-jW];exact rf) rfl ?_;obtain⟨c2,gn⟩:∃c,c=c1++[.int .u8 (.v x)]:=⟨_,rfl⟩;have x9:c2=dR (O1++[x]):=by rw[gn,iJ,jW]
    have acN:∀m,c2.all (bd m)=true:=fun m=>by rw[x9];exact jR
    show X (aK aac aal Q w (bq [] []) (ab [] [] w) (fun _ _=>False) (fun _=>True) [] NO) _ ⟨_,[⟨true,c1++[.int .u8 (.v x)],none⟩,⟨true,[.int .u8 (.v x)],none⟩]⟩;rw[<-gn];refine X.go jC 400 _ rfl aag ?_
    conv=>arg 2;cbv
    refine X.back (fun N ac w' hN hf hS=>jM ⟨i+1,Ey⟩ ac w' (by simp only;omega) ?_);show At (aK aac aal Q w (bq [] []) (ab [] [] w) (fun _ _=>False) (fun _=>True) [] NO) ⟨[(0,.val (.ao p m c)),(2,.val (.int .i64 (.v many))),(7,.val (.int .u64 (.v kh))),(8,.val (eV 0 ((L.take (i+1)).foldl (eH kh many tb) O0).length 1)),(9,.val (.int .i64 (.nat t))),(19,.val (.int .i64 (.nat m))),(20,.val (.int .i64 (.nat (i+1))))],[⟨true,dR ((L.take (i+1)).foldl (eH kh many tb) O0),none⟩]⟩ ac w';rw[gU,VP,<-x9,aah,<-qt];exact At.qX hf hS ⟨fun h=>h,aR.refl (acN _),rfl,trivial⟩
   ·simp only[SB.T,SB.F,SB.den,SI.den] at hF
    have VP:eH kh many tb O1 y=O1:=by
     unfold eH H5;rw[<-Ay,<-hx];rcases hF with (h|h)|h
     ·have h':¬(kh<=h1↔t=0):=fun e=>h (Bool.eq_iff_iff.2 (decide_eq_true_iff.trans (e.trans (by simp))))
      rw[if_neg (by rw[Gn,beq_iff_eq];exact fun e=>h' (decide_eq_decide.1 e))]
     ·rw[if_neg (c:=(decide ((O1.length:Int)<many)&&!decide (x∈O1))=true) (by simp;omega)]
      split<;>rfl
     ·rw[if_neg (c:=(decide ((O1.length:Int)<many)&&!decide (x∈O1))=true) (by rw[pE] at h;simp at h;simp[h])]
      split<;>rfl
    refine X.go jC 400 _ rfl aag ?_
    conv=>arg 2;cbv
    refine X.back (fun N ac w' hN hf hS=>jM ⟨i+1,Ey⟩ ac w' (by simp only;omega) ?_);show At (aK aac aal Q w (bq [] []) (ab [] [] w) (fun _ _=>False) (fun _=>True) [] NO) ⟨[(0,.val (.ao p m c)),(2,.val (.int .i64 (.v many))),(7,.val (.int .u64 (.v kh))),(8,.val (eV 0 ((L.take (i+1)).foldl (eH kh many tb) O0).length 1)),(9,.val (.int .i64 (.nat t))),(19,.val (.int .i64 (.nat m))),(20,.val (.int .i64 (.nat (i+1))))],[⟨true,dR ((L.take (i+1)).foldl (eH kh many tb) O0),none⟩]⟩ ac w';rw[gU,VP,<-qt,<-j5,<-iJ];exact At.qX hf hS ⟨fun h=>h,aR.refl (ux _),rfl,trivial⟩
  ·simp only[SB.F,SI.den] at ac5
   have fI:L.take i=L:=aap (by omega);refine X.go jC 400 _ rfl aag ?_
   conv=>arg 2;cbv
   refine X.back (fun N ac w' hN hf hS=>hq ⟨t+1,by omega⟩ ac w' (by simp only;omega) ?_);show At (aK aac aal Q w (bq [] []) (ab [] [] w) (fun _ _=>False) (fun _=>True) [] NO) ⟨[(0,.val (.ao p m c)),(2,.val (.int .i64 (.v many))),(7,.val (.int .u64 (.v kh))),(8,.val (eV 0 (kZ L kh many (t+1)).length 1)),(9,.val (.int .i64 (.nat (t+1))))],[⟨true,dR (kZ L kh many (t+1)),none⟩]⟩ ac w';rw[<-gz,<-fI,<-hO1,<-qt,<-j5,<-iJ];exact At.qX hf hS ⟨fun h=>h,aR.refl (ux _),rfl,trivial⟩
 ·simp only[SB.F,SI.den] at cJ
  have nk:t=2:=by omega
  have hOF:O0=F:=by rw[hO0,nk,hFk]
  refine X.go jC 400 _ rfl aag ?_
  conv=>arg 2;cbv
  refine X.done jC rfl (fun N w' v hN hS hv=>?_);rw[hQ,<-hOF,<-kX];exact E5 hS (r:=0) (z:=1) rfl (fun c hc N N' v h=>jm (by rw[<-kX];exact hc) h) (by rw[<-yN];exact hv)
end Go.Proofs.YthpbefahaghbjaaGreat
