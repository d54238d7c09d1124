import Derived.Test.YthpbefahaghbjaaGreatCf4
import Derived.Test.YthpbefahaghbjaaGreatPd2
import Derived.Test.YthpbefahaghbjaaGreatRb3
open Bool renaming and_eq_true→aak,or_eq_true→aa9,or_false→aba
open Classical renaming propDecidable→aaC
open Go renaming Oper→aac,Operand→aad,Ending→aah,Program→aay,mem_ready→aaz,TypeId→aaA,ResultVar→aaG,wpOps_cons→aaH
open Go.Proofs.Tryz renaming prog→aaf,results25→aai,results37→aaj,results55→aar,f25→aaI,call68→aaS,f55→aaT,call66→aaU,f37→aaV,call67→aaW
open Go.Region renaming ready→aaD
open Go.Sem renaming run_bind→aaE,run_pure→abb
open Go.World renaming block_lt_of_cell?→aaM,cell?→aaN,frozen?→aa8
open Int renaming tmod_eq_emod_of_nonneg→aa7
open List renaming mem_singleton→aae,getElem?_eq_some_iff→aag,mem_append_left→aan,length_cons→aas,getElem?_eq_getElem→aau,getElem?_append_left→aav,mem_append→aaw,mem_append_right→aax,mem_cons→aaB,length_nil→aaJ,countP_le_length→aaK,findIdx?_cons→aaL,mem_of_getElem?→aaX,foldl_cons→aaY,getElem?_set→aaZ,take_append_of_le_length→aa0,take_of_length_le→aa1,append_assoc→aa2,length_append→aa3,not_mem_nil→aa4,set_set→aa5,nil_append→aa6
open Nat renaming le_refl→aam,le_trans→aao,add_zero→aap,lt_or_ge→aaq,zero_le→aaF,sub_zero→aaO,testBit_or→aaP,eq_of_beq_eq_true→aaQ,le_div_iff_mul_le→aaR
open Option renaming some→aal
set_option maxHeartbeats 16000000
set_option maxRecDepth 100000
set_option cbv.maxSteps 100000000
namespace Go.Proofs.YthpbefahaghbjaaGreat
open Go Go.bU Go.Sort
def j7 (l:List Int)(s0:Nat)(M:Mem)(p:Option Addr)(c:Nat):Prop:=l.length<=c/\(l=[]/\p=none/\c=0\/l≠[]/\∃b y,p=some ⟨b,y,none⟩/\s0<=b/\∀j,j<l.length->M b (y+j)=some (.int .u8 l[j]!))
theorem j7.mono {l:List Int}{s0 s1:Nat}{M M':Mem}{p:Option Addr}{c:Nat}(h:j7 l s0 M p c)(hs:s1<=s0)(hM:∀k o v,s0<=k->M k o=some v->M' k o=some v):j7 l s1 M' p c:=⟨h.1,h.2.imp id fun⟨bH,b,y,h1,h2,h3⟩=>⟨bH,b,y,h1,aao hs h2,fun j hj=>hM _ _ _ h2 (h3 j hj)⟩⟩
theorem fx.new {l:List Int}{w w':World}{e:aah}(h:fx l w e w'):∃p c,e=.returned (.slice p l.length c)/\j7 l w.heap.size (wm w') p c/\aW (fun _ _=>False) w w':=by
 obtain⟨p,c,he,hc,hr,bV⟩:=h;refine⟨p,c,he,⟨hc,?_⟩,bV⟩;rcases hr with h|⟨bH,b,o,h1,h2,h3⟩
 ·exact .inl h
 ·refine .inr ⟨bH,b,o,h1,h2,fun j hj=>?_⟩
  have:=(h3 j (by simpa using hj)).1
  simpa[wm,hj] using this
theorem j7.yj {l:List Int}{s0:Nat}{M:Mem}{p:Option Addr}{c:Nat}(h:j7 l s0 M p c){w:World}(hM:∀k o v,M k o=some v->w.cell? ⟨k,o,none⟩=some v):nf p l.length l.toArray w:=⟨by simp,fun h0=>by
 rcases h.2 with ⟨h1,_⟩|⟨_,b,y,h1,_,h3⟩
 ·rw[h1] at h0;simp at h0
 ·exact⟨b,y,h1,fun j hj=>by
   have hj:j<l.length:=by simpa using hj
   have:=hM _ _ _ (h3 j hj)
   simpa[hj] using this⟩⟩
def fB (C:Nat)(o n:Array Int)(key:Int):List (List Int):=if C % 2=1 then [oC n key,oC o key] else [oC n key]
def BG (ls:List (List Int))(w:World)(e:aah)(w':World):Prop :=
 ∃b o c,e=.returned (.slice (some ⟨b,o,none⟩) ls.length c)/\w.heap.size<=b/\(∀j,j<ls.length->∃p c,wm w' b (o+j)=some (.slice p ls[j]!.length c)/\j7 ls[j]! w.heap.size (wm w') p c)/\aW (fun _ _=>False) w w'
theorem L_ (C:Nat)(po pn:Option Addr)(no nn co cn:Nat)(o n:Array Int)(key:Int)(w:World)(kE:no<=1000)(Bw:nn<=1000)(ho:nf po no o w)(hn:nf pn nn n w)(F7:∀x∈o.toList,0<=x/\x<256)(Ds:∀x∈n.toList,0<=x/\x<256) :
  Calls aaf 55 #[.agg #[.int .u64 C,.slice po no co,.slice pn nn cn],.int .u8 key] w (BG (fB C o n key) w):=by
 obtain⟨Q,hQ⟩:∃Q:aah->World->Prop,Q=BG (fB C o n key) w:=⟨_,rfl⟩;rw[<-hQ];refine X.begin (rg:=[]) (N:=[]) (ss:=[.agg [.int .u64 (.nat C),.ao po no co,.ao pn nn cn],.int .u8 (.v key)]) Tryz.func55 rfl S9 rfl rfl Sat.bp ?_;obtain⟨bt,Vc⟩:∃b,b=decide (C % 2=1):=⟨_,rfl⟩;refine X.go qg 400 _ rfl aar ?_
 conv=>arg 2;cbv
 refine X.call rfl rfl rfl rfl aaS (fun N w1 args hN hS ha=>?_);have ha:args=[.slice pn nn cn,.int .u8 key]:=(aal.inj ha).symm;rw[ha];refine(GF pn nn cn n key w1 Bw (hn.stays hS.aM.none) Ds).mono fun e w2 hr=>?_
 obtain⟨p1,c1,he,Dr,bV⟩:=hr.new;obtain⟨l1,qt⟩:∃l,l=oC n key:=⟨_,rfl⟩;obtain⟨q1,nY⟩:∃q,q=l1.length:=⟨_,rfl⟩;rw[<-qt] at Dr he;rw[<-nY] at he;refine⟨_,he,Goes.cZ hN hS bV (r:=.ao p1 q1 c1) rfl rfl (fun hold bM=>?_)⟩;obtain⟨im,ct⟩:∃im,im=bx (ab [] [] w) w1 w2:=⟨_,rfl⟩;have Dr:j7 l1 w.heap.size im p1 c1:=Dr.mono hS.aM.size fun k o v hk hv=>by rw[ct];exact bM _ _ _ hk hv
 have hoM:∀w':World,(∀k o v,im k o=some v->w'.cell? ⟨k,o,none⟩=some v)->nf po no o w':=fun w' h=>ho.im fun k o v hv=>h _ _ _ (by rw[ct];exact hold _ _ _ hv)
 show X (aK aaf aaT Q w (bq [] []) (bx (ab [] [] w) w1 w2) (fun _ _=>False) (fun _=>True) [] B55) _ _;rw[<-ct];clear ct hold bM hr bV he ha hS hN;refine X.dk ([(12,.bool (.v bt))]) qg 400 _ rfl aar (fun pr fin aj ai=>?_)
 conv=>cbv
 refine⟨aj _ (.of Tryz.call41 [.agg #[.int .u64 C,.slice po no co,.slice pn nn cn]] (.bool bt) (fun _=>rfl) (fun _=>rfl) fun _ w1 _=>by rw[Vc];exact vB C _ _ rfl rfl w1),ai _ _ ?_⟩;refine X.cond rfl (fun hT=>?_) (fun hF=>?_)
 ·simp only[SB.T] at hT
  have hc:C % 2=1:=by rw[Vc] at hT;exact of_decide_eq_true hT
  have lQ:fB C o n key=[l1,oC o key]:=by rw[fB,if_pos hc,qt]
  refine X.go qg 400 _ rfl aar ?_
  conv=>arg 2;cbv
  refine X.call rfl rfl rfl rfl aaS (fun N w3 args hN hS ha=>?_);have ha:args=[.slice po no co,.int .u8 key]:=(aal.inj ha).symm;rw[ha];refine(GF po no co o key w3 kE (hoM w3 hS.cK) F7).mono fun e w4 hr=>?_
  obtain⟨p2,c2,he,MX,bV⟩:=hr.new;obtain⟨l2,rN⟩:∃l,l=oC o key:=⟨_,rfl⟩;obtain⟨q2,jM⟩:∃q,q=l2.length:=⟨_,rfl⟩;rw[<-rN] at MX he;rw[<-jM] at he;refine⟨_,he,Goes.cZ hN hS bV (r:=.ao p2 q2 c2) rfl rfl (fun hold bM=>?_)⟩;obtain⟨iz,eg⟩:∃iz,iz=bx im w3 w4:=⟨_,rfl⟩;have MX:j7 l2 w.heap.size iz p2 c2:=MX.mono hS.aM.size fun k o v hk hv=>by rw[eg];exact bM _ _ _ hk hv
  have Dr:j7 l1 w.heap.size iz p1 c1:=Dr.mono (aam _) fun k o v hk hv=>by rw[eg];exact hold _ _ _ hv
  show X (aK aaf aaT Q w (bq [] []) (bx im w3 w4) (fun _ _=>False) (fun _=>True) [] B55) _ _;rw[<-eg];clear eg hold bM hr bV he ha hS hN;refine X.go qg 400 _ rfl aar ?_
  conv=>arg 2;cbv
  refine X.done qg rfl (fun N w' v hN hS hv=>?_);rw[hQ,lQ,<-rN];obtain⟨p,hp⟩:=wB hS (r:=3) rfl;simp only[bz,SV.den,hp,aA] at hv;have hx:=hS.ext 3 _ p rfl hp rfl;simp only[aas,aaJ] at hx;refine⟨p.b,p.o,_,by rw[<-hv,aap];rfl,?_,fun j hj=>?_,hS.aM.none⟩
  ·rcases hS.dG 3 _ p rfl hp rfl with h|h
   ·exact h
   ·exact absurd (h 0 (by omega)) (fun h=>aB h)
  ·match j,hj with
   |0,_ =>
    obtain⟨v,e1,e2⟩:=hS.cell 3 _ p rfl hp 0 _ rfl;simp only[SV.den,aA] at e1;exact⟨p1,c1,by rw[wm,e2,<-e1,nY];rfl,Dr.mono (aam _) fun k o v _ hv=>hS.cK _ _ _ hv⟩
   |1,_ =>
    obtain⟨v,e1,e2⟩:=hS.cell 3 _ p rfl hp 1 _ rfl;simp only[SV.den,aA] at e1;exact⟨p2,c2,by rw[wm,e2,<-e1,jM];rfl,MX.mono (aam _) fun k o v _ hv=>hS.cK _ _ _ hv⟩
 ·simp only[SB.F] at hF
  have hc:¬C % 2=1:=by rw[Vc] at hF;exact of_decide_eq_false hF
  have lQ:fB C o n key=[l1]:=by rw[fB,if_neg hc,qt]
  refine X.go qg 400 _ rfl aar ?_
  conv=>arg 2;cbv
  refine X.done qg rfl (fun N w' v hN hS hv=>?_);rw[hQ,lQ];obtain⟨p,hp⟩:=wB hS (r:=1) rfl;simp only[bz,SV.den,hp,aA] at hv;have hx:=hS.ext 1 _ p rfl hp rfl;simp only[aas,aaJ] at hx;refine⟨p.b,p.o,_,by rw[<-hv,aap];rfl,?_,fun j hj=>?_,hS.aM.none⟩
  ·rcases hS.dG 1 _ p rfl hp rfl with h|h
   ·exact h
   ·exact absurd (h 0 (by omega)) (fun h=>aB h)
  ·match j,hj with
   |0,_ =>
    obtain⟨v,e1,e2⟩:=hS.cell 1 _ p rfl hp 0 _ rfl;simp only[SV.den,aA] at e1;exact⟨p1,c1,by rw[wm,e2,<-e1,nY];rfl,Dr.mono (aam _) fun k o v _ hv=>hS.cK _ _ _ hv⟩
def DC (l:List Int)(s:Nat):Prop:=l.length<2*nq l s
def mQ (C:Nat)(o n:Array Int)(key:Int)(s:Nat):Prop:=kG C o n/\DC (oC n key) s/\(C % 2=1->DC (oC o key) s)
theorem rX {d:Array Int}{key x:Int}(h:x∈oC d key):x∈d.toList:=by
 rw[(rW d key).mem_iff,rQ (kJ d)] at h;have:=List.mem_of_mem_take h;rw[Ah] at this;rcases this with h|h
 ·cases h
 ·exact(yX d _ x).1 h
theorem E1 {C:Nat}{o n:Array Int}{key:Int}{s:Nat}(h:kG C o n):mQ C o n key s↔∀j,j<(fB C o n key).length->DC (fB C o n key)[j]! s:=by
 unfold mQ fB
 by_cases hc:C % 2=1
 ·rw[if_pos hc]
  constructor
  ·rintro⟨_,h1,h2⟩ j hj
   match j,hj with
   |0,_=>exact h1
   |1,_=>exact h2 hc
  ·intro h2
   exact⟨h,h2 0 (by simp),fun _=>h2 1 (by simp)⟩
 ·rw[if_neg hc]
  constructor
  ·rintro⟨_,h1,_⟩ j hj
   match j,hj with
   |0,_=>exact h1
  ·intro h2
   exact⟨h,h2 0 (by simp),fun e=>absurd e hc⟩
theorem L9 {C:Nat}{o n:Array Int}{key:Int}(h:kG C o n)(F7:∀x∈o.toList,0<=x/\x<256)(Ds:∀x∈n.toList,0<=x/\x<256):∀j,j<(fB C o n key).length->(fB C o n key)[j]!.Nodup/\∀x∈(fB C o n key)[j]!,0<=x/\x<64:=by
 obtain⟨_,Gg,lZ⟩:=h;have k1:(oC n key).Nodup/\∀x∈oC n key,0<=x/\x<64:=⟨(AQ n key).imp fun h=>by omega,fun x hx=>o_ Gg Ds x (rX hx)⟩;unfold fB
 by_cases hc:C % 2=1
 ·rw[if_pos hc] at lZ ⊢
  have k2:(oC o key).Nodup/\∀x∈oC o key,0<=x/\x<64:=⟨(AQ o key).imp fun h=>by omega,fun x hx=>o_ lZ.2.1 F7 x (rX hx)⟩;intro j hj
  match j,hj with
  |0,_=>exact k1
  |1,_=>exact k2
 ·rw[if_neg hc]
  intro j hj
  match j,hj with
  |0,_=>exact k1
theorem Iv {C:Nat}{o n:Array Int}{key:Int}(ho:o.size<=100)(hn:n.size<=100):(fB C o n key).length<=2/\∀j,j<(fB C o n key).length->(fB C o n key)[j]!.length<=1000:=by
 unfold fB
 split
 ·refine⟨by simp,fun j hj=>?_⟩
  match j,hj with
  |0,_=>exact rV n key hn
  |1,_=>exact rV o key ho
 ·refine⟨by simp,fun j hj=>?_⟩
  match j,hj with
  |0,_=>exact rV n key hn
theorem zd (C s:Nat)(po pn:Option Addr)(no nn co cn:Nat)(o n:Array Int)(key:Int)(w:World)(kE:no<=100)(Bw:nn<=100)(hs:s<2 ^ 64)(ho:nf po no o w)(hn:nf pn nn n w)(F7:∀x∈o.toList,0<=x/\x<256)(Ds:∀x∈n.toList,0<=x/\x<256) :
  Calls aaf 25 #[.agg #[.int .u64 C,.slice po no co,.slice pn nn cn],.int .u8 key,.int .u64 s] w fun e w'=>e=.returned (.bool (B (mQ C o n key s)))/\aW (fun _ _=>False) w w':=by
 have Jc:=ho.1;have VG:=hn.1;obtain⟨Q,hQ⟩:∃Q:aah->World->Prop,Q=fun e w'=>e=.returned (.bool (B (mQ C o n key s)))/\aW (fun _ _=>False) w w':=⟨_,rfl⟩
 rw[<-hQ];refine X.begin (rg:=[]) (N:=[]) (ss:=[.agg [.int .u64 (.nat C),.ao po no co,.ao pn nn cn],.int .u8 (.v key),.int .u64 (.nat s)]) Tryz.func25 rfl SJ rfl rfl Sat.bp ?_;obtain⟨m1,dM⟩:∃b,b=B (kG C o n):=⟨_,rfl⟩;refine X.dk ([(10,.bool (.v m1))]) jA 400 _ rfl aai (fun pr fin aj ai=>?_)
 conv=>cbv
 refine⟨aj _ (.of Tryz.call20 [.agg #[.int .u64 C,.slice po no co,.slice pn nn cn]] (.bool m1) (fun _=>rfl) (fun _=>rfl) fun _ w1 ct=>by rw[dM];exact uK C po pn no nn co cn o n w1 (by omega) (by omega) (ho.im ct) (hn.im ct) F7 Ds),ai _ _ ?_⟩;refine X.cond rfl (fun hT=>?_) (fun hF=>?_)
 ·simp only[SB.T,SB.F] at hT
  have we:¬mQ C o n key s:=fun h=>by rw[dM,bP h.1] at hT;cases hT
  refine X.go jA 400 _ rfl aai ?_
  conv=>arg 2;cbv
  refine X.done jA rfl (fun N w' v hN hS hv=>?_);rw[hQ];exact⟨aw hv (by rw[b_ we];rfl),hS.aM.none⟩
 simp only[SB.T,SB.F] at hF;have iC:kG C o n:=cT.1 (by rw[<-dM];exact hF);refine X.go jA 400 _ rfl aai ?_
 conv=>arg 2;cbv
 refine X.call rfl rfl rfl rfl Tryz.call55 (fun N w1 args hN hS ha=>?_);have ha:args=[.agg #[.int .u64 C,.slice po no co,.slice pn nn cn],.int .u8 key]:=(aal.inj ha).symm;rw[ha];refine(L_ C po pn no nn co cn o n key w1 (by omega) (by omega) (ho.stays hS.aM.none) (hn.stays hS.aM.none) F7 Ds).mono fun e w2 ⟨b,y,c,he,de,bD,bV⟩=>?_
 have hq:=E1 (key:=key) (s:=s) iC;have U0:=L9 (key:=key) iC F7 Ds;obtain⟨rN,Vw⟩:=Iv (C:=C) (key:=key) (show o.size<=100 by omega) (show n.size<=100 by omega);obtain⟨ls,PQ⟩:∃l,l=fB C o n key:=⟨_,rfl⟩;obtain⟨m,hm⟩:∃m,m=ls.length:=⟨_,rfl⟩;rw[<-PQ] at hq U0 rN Vw he bD;rw[<-hm] at hq U0 rN Vw he bD;refine⟨_,he,Goes.cZ hN hS bV (r:=.ao (some ⟨b,y,none⟩) m c) rfl rfl (fun hold bM=>?_)⟩;obtain⟨im,ct⟩:∃im,im=bx (ab [] [] w) w1 w2:=⟨_,rfl⟩;have bD:∀j,j<m->∃p c,im b (y+j)=some (.slice p ls[j]!.length c)/\j7 ls[j]! 0 im p c:=fun j hj=>by
  obtain⟨p,c,h1,h2⟩:=bD j hj;exact⟨p,c,by rw[ct];exact bM _ _ _ de h1,h2.mono (aaF _) fun k o v hk hv=>by rw[ct];exact bM _ _ _ hk hv⟩
 obtain⟨pr,Y3⟩:∃p,p=some (Addr.mk b y none):=⟨_,rfl⟩;show X (aK aaf aaI Q w (bq [] []) (bx (ab [] [] w) w1 w2) (fun _ _=>False) (fun _=>True) [] B25) _ _;rw[<-ct,<-Y3];clear ct hold bM bV he ha hS hN;refine X.go jA 400 _ rfl aai ?_
 conv=>arg 2;cbv
 refine X.loop (fun _:{i:Nat // i<=m/\∀j,j<i->DC ls[j]! s}=>aK aaf aaI Q w (bq [] []) im (fun _ _=>False) (fun _=>True) [] B25)
  (fun g=>⟨[(2,.val (.int .u64 (.nat s))),(14,.val (.ao pr m c)),(15,.val (.int .i64 (.nat m))),(16,.val (.int .i64 (.nat g.1)))],[]⟩) (fun g=>m-g.1) (fun _=>⟨rfl,rfl,rfl,rfl⟩) (fun N ac w' hN hf hS=>⟨⟨0,aaF _,fun j hj=>absurd hj (Nat.not_lt_zero j)⟩,?_⟩) (fun g q jM=>?_)
 ·exact At.eJ hf hS trivial
 obtain⟨i,hi,YK⟩:=g;show X (aK aaf aaI Q w (bq [] []) im (fun _ _=>False) (fun _=>True) [] B25) _ ⟨[(2,.val (.int .u64 (.nat s))),(14,.val (.ao pr m c)),(15,.val (.int .i64 (.nat m))),(16,.val (.int .i64 (.nat i)))],[]⟩;refine X.go jA 400 _ rfl aai ?_
 conv=>arg 2;cbv
 refine X.cond rfl (fun aF=>?_) (fun cJ=>?_)
 ·simp only[SB.T,SI.den] at aF
  have aF:i<m:=by omega
  obtain⟨p1,c1,iJ,Dr⟩:=bD i aF;obtain⟨sH,HX⟩:=U0 i aF;have KS:=Vw i aF;obtain⟨l,hl⟩:∃l,l=ls[i]! := ⟨_,rfl⟩;rw[<-hl] at iJ Dr sH HX KS;obtain⟨q1,nY⟩:∃q,q=l.length:=⟨_,rfl⟩;obtain⟨oi,pP⟩:∃o,o=y+i:=⟨_,rfl⟩;obtain⟨sl,EG⟩:∃t,t=ny l:=⟨_,rfl⟩;have Zg:sl<2 ^ 64:=by rw[EG];exact se _ 0 (by decide)
  have hand:=lV sl s Zg hs;obtain⟨k,hk⟩:∃k,k=nq l s:=⟨_,rfl⟩;have hk8:k<=1000:=by rw[hk];exact aao aaK KS
  refine X.dk ([(18,.ext b oi 0),(19,.ao p1 q1 c1),(21,.int .u64 (.nat sl)),(24,.int .i64 (.nat k))]) jA 400 _ rfl aai (fun pr fin aj ai=>?_)
  conv=>cbv
  refine⟨aj _ (.of Tryz.call42 [.int .u64 ((sl &&& s:Nat):Int)] (.int .i64 k) (fun _=>by simp only[SV.ap,SV.den,SI.den,hand]) (fun _=>rfl) fun _ w1 _=>by rw[hk,<-Ql sH HX,<-EG];exact GH _ w1 (Nat.lt_of_le_of_lt Nat.and_le_left Zg)),
   aj _ (.of Tryz.call43 [.slice p1 q1 c1] (.int .u64 sl) (fun _=>rfl) (fun _=>rfl) fun _ w1 ct=>by rw[EG,nY];exact E_ p1 l.length c1 l.toArray w1 (by omega) (Dr.yj ct) (fun x hx=>by have:=HX x (by simpa using hx);omega)),
   aj _ (au.eC rfl Tryz.isAgg30 (fun _=>rfl) fun _=>by rw[aap,pP,nY];exact iJ),aj _ (au.at (z:=i) rfl rfl (fun _=>rfl) Tryz.underlying108 Tryz.sizeOf30 (fun _=>aF) Y3 (by omega)),ai _ _ ?_⟩
  have hmul:IntKind.i64.wrap (2*(k:Int))=2*(k:Int):=a_ _ (by omega) (by omega);refine X.cond rfl (fun hT=>?_) (fun hF=>?_)
  ·simp only[SB.T,SI.den,hmul] at hT
   have we:¬mQ C o n key s:=fun h=>by
    have:=hq.1 h i aF;rw[<-hl,DC,<-hk] at this;omega
   refine X.go jA 400 _ rfl aai ?_
   conv=>arg 2;cbv
   refine X.done jA rfl (fun N w' v hN hS hv=>?_);rw[hQ];exact⟨aw hv (by rw[b_ we];rfl),hS.aM.none⟩
  ·simp only[SB.F,SI.den,hmul] at hF
   refine X.go jA 400 _ rfl aai ?_
   conv=>arg 2;cbv
   refine X.back (fun N ac w' hN hf hS=>jM ⟨i+1,aF,fun j hj=>?_⟩ ac w' (by simp only;omega) ?_)
   ·rcases aaq j i with h|h
    ·exact YK j h
    ·have:j=i:=by omega
     subst this;rw[<-hl,DC,<-hk];omega
   ·exact At.eJ hf hS trivial
 ·simp only[SB.F,SI.den] at cJ
  have jH:mQ C o n key s:=hq.2 fun j hj=>YK j (by omega)
  refine X.go jA 400 _ rfl aai ?_
  conv=>arg 2;cbv
  refine X.done jA rfl (fun N w' v hN hS hv=>?_);rw[hQ];exact⟨aw hv (by rw[bP jH];rfl),hS.aM.none⟩
theorem C0 (C s:Nat)(po pn:Option Addr)(no nn co cn:Nat)(o n:Array Int)(key:Int)(w:World)(kE:no<=100)(Bw:nn<=100)(hs:s<2 ^ 64)(ho:nf po no o w)(hn:nf pn nn n w)(F7:∀x∈o.toList,0<=x/\x<256)(Ds:∀x∈n.toList,0<=x/\x<256) :
  Calls aaf 37 #[.agg #[.int .u64 C,.slice po no co,.slice pn nn cn],.int .u8 key,.int .u64 s] w fun e w'=>e=.returned (.bool (B (mQ C o n key s)))/\aW (fun _ _=>False) w w':=by
 have Jc:=ho.1;have VG:=hn.1;obtain⟨Q,hQ⟩:∃Q:aah->World->Prop,Q=fun e w'=>e=.returned (.bool (B (mQ C o n key s)))/\aW (fun _ _=>False) w w':=⟨_,rfl⟩
 rw[<-hQ];refine X.begin (rg:=[]) (N:=[]) (ss:=[.agg [.int .u64 (.nat C),.ao po no co,.ao pn nn cn],.int .u8 (.v key),.int .u64 (.nat s)]) Tryz.func37 rfl SS rfl rfl Sat.bp ?_;obtain⟨m1,dM⟩:∃b,b=B (kG C o n):=⟨_,rfl⟩;refine X.dk ([(10,.bool (.v m1))]) iT 400 _ rfl aaj (fun pr fin aj ai=>?_)
 conv=>cbv
 refine⟨aj _ (.of Tryz.call65 [.agg #[.int .u64 C,.slice po no co,.slice pn nn cn]] (.bool m1) (fun _=>rfl) (fun _=>rfl) fun _ w1 ct=>by rw[dM];exact yE C po pn no nn co cn o n w1 (by omega) (by omega) (ho.im ct) (hn.im ct)),ai _ _ ?_⟩;refine X.cond rfl (fun hT=>?_) (fun hF=>?_)
 ·simp only[SB.T,SB.F] at hT
  have we:¬mQ C o n key s:=fun h=>by rw[dM,bP h.1] at hT;cases hT
  refine X.go iT 400 _ rfl aaj ?_
  conv=>arg 2;cbv
  refine X.done iT rfl (fun N w' v hN hS hv=>?_);rw[hQ];exact⟨aw hv (by rw[b_ we];rfl),hS.aM.none⟩
 simp only[SB.T,SB.F] at hF;have iC:kG C o n:=cT.1 (by rw[<-dM];exact hF);refine X.go iT 400 _ rfl aaj ?_
 conv=>arg 2;cbv
 refine X.call rfl rfl rfl rfl aaU (fun N w1 args hN hS ha=>?_);have ha:args=[.slice pn nn cn,.int .u8 key]:=(aal.inj ha).symm;rw[ha];refine(LH pn nn cn n key w1 Bw (hn.stays hS.aM.none) Ds).mono fun e w2 hr=>?_
 obtain⟨b1,y1,c1,he,de,bD,bV⟩:=hr.byt;obtain⟨l1,qt⟩:∃l,l=oC n key:=⟨_,rfl⟩;obtain⟨q1,nY⟩:∃q,q=l1.length:=⟨_,rfl⟩;have YH:l1.length<=1000:=by rw[qt];exact rV n key (by omega)
 have ado:∀x∈l1.toArray.toList,0<=x/\x<256:=fun x hx=>Ds x (rX (by rw[<-qt];simpa using hx))
 rw[<-qt] at de bD he;rw[<-nY] at he;obtain⟨p1,fE⟩:∃p,p=some (Addr.mk b1 y1 none):=⟨_,rfl⟩;rw[<-fE] at he;refine⟨_,he,Goes.cZ hN hS bV (r:=.ao p1 q1 c1) rfl rfl (fun hold bM=>?_)⟩;obtain⟨im,ct⟩:∃im,im=bx (ab [] [] w) w1 w2:=⟨_,rfl⟩;have hB1:∀w':World,(∀k o v,im k o=some v->w'.cell? ⟨k,o,none⟩=some v)->nf p1 q1 l1.toArray w':=fun w' h=>⟨by simp[nY],fun h0=>⟨b1,y1,fE,fun j hj=>by
  have hj:j<l1.length:=by simpa using hj
  have:=h _ _ _ (by rw[ct];exact bM _ _ _ (de (by omega)) (bD j hj))
  simpa[hj] using this⟩⟩
 have hoM:∀w':World,(∀k o v,im k o=some v->w'.cell? ⟨k,o,none⟩=some v)->nf po no o w':=fun w' h=>ho.im fun k o v hv=>h _ _ _ (by rw[ct];exact hold _ _ _ hv)
 show X (aK aaf aaV Q w (bq [] []) (bx (ab [] [] w) w1 w2) (fun _ _=>False) (fun _=>True) [] B37) _ _;rw[<-ct];clear ct hold bM hr bV he ha hS hN bD de;obtain⟨k1,xF⟩:∃k,k=nq l1 s:=⟨_,rfl⟩;have adi:k1<=1000:=by rw[xF];exact aao aaK YH
 have KO:∀q:Nat,q<=1000->IntKind.i64.wrap ((q:Int).tdiv 2)=((q / 2:Nat):Int):=fun q hq=>by rw[Int.tdiv_eq_ediv_of_nonneg (by omega),a_ _ (by omega) (by omega)];omega
 refine X.dk ([(18,.int .i64 (.nat k1))]) iT 400 _ rfl aaj (fun pr fin aj ai=>?_)
 conv=>cbv
 refine⟨aj _ (.of aaW [.slice p1 q1 c1,.int .u64 s] (.int .i64 k1) (fun _=>rfl) (fun _=>rfl) fun _ w1 ct=>by rw[xF];exact BX p1 q1 c1 s l1.toArray w1 (by omega) hs (hB1 w1 ct) ado),ai _ _ ?_⟩;refine X.cond rfl (fun hT=>?_) (fun hF2=>?_)
 ·simp only[SB.T,SI.den,KO q1 (by omega)] at hT
  have we:¬mQ C o n key s:=fun h=>by
   have:=h.2.1;rw[<-qt,DC,<-xF,<-nY] at this;omega
  refine X.go iT 400 _ rfl aaj ?_
  conv=>arg 2;cbv
  refine X.done iT rfl (fun N w' v hN hS hv=>?_);rw[hQ];exact⟨aw hv (by rw[b_ we];rfl),hS.aM.none⟩
 simp only[SB.F,SI.den,KO q1 (by omega)] at hF2;have Rn:DC (oC n key) s:=by rw[<-qt,DC,<-xF,<-nY];omega
 refine X.go iT 400 _ rfl aaj ?_
 conv=>arg 2;cbv
 refine X.cond rfl (fun hT=>?_) (fun hF3=>?_)
 ·simp only[SB.T,SI.den] at hT
  have hc:¬C % 2=1:=by rw[aa7 (by omega)] at hT;omega
  have jH:mQ C o n key s:=⟨iC,Rn,fun h=>absurd h hc⟩;refine X.go iT 400 _ rfl aaj ?_
  conv=>arg 2;cbv
  refine X.done iT rfl (fun N w' v hN hS hv=>?_);rw[hQ];exact⟨aw hv (by rw[bP jH];rfl),hS.aM.none⟩
 simp only[SB.F,SI.den] at hF3;have hc:C % 2=1:=by rw[aa7 (by omega)] at hF3;omega
 refine X.go iT 400 _ rfl aaj ?_
 conv=>arg 2;cbv
 refine X.call rfl rfl rfl rfl aaU (fun N w3 args hN hS ha=>?_);have ha:args=[.slice po no co,.int .u8 key]:=(aal.inj ha).symm;rw[ha];refine(LH po no co o key w3 kE (hoM w3 hS.cK) F7).mono fun e w4 hr=>?_
 obtain⟨b2,y2,c2,he,de,bD,bV⟩:=hr.byt;obtain⟨l2,rN⟩:∃l,l=oC o key:=⟨_,rfl⟩;obtain⟨q2,jM⟩:∃q,q=l2.length:=⟨_,rfl⟩;have adp:l2.length<=1000:=by rw[rN];exact rV o key (by omega)
 have adq:∀x∈l2.toArray.toList,0<=x/\x<256:=fun x hx=>F7 x (rX (by rw[<-rN];simpa using hx))
 rw[<-rN] at de bD he;rw[<-jM] at he;obtain⟨p2,fU⟩:∃p,p=some (Addr.mk b2 y2 none):=⟨_,rfl⟩;rw[<-fU] at he;refine⟨_,he,Goes.cZ hN hS bV (r:=.ao p2 q2 c2) rfl rfl (fun hold bM=>?_)⟩;obtain⟨iz,eg⟩:∃iz,iz=bx im w3 w4:=⟨_,rfl⟩;have Q_:∀w':World,(∀k o v,iz k o=some v->w'.cell? ⟨k,o,none⟩=some v)->nf p2 q2 l2.toArray w':=fun w' h=>⟨by simp[jM],fun h0=>⟨b2,y2,fU,fun j hj=>by
  have hj:j<l2.length:=by simpa using hj
  have:=h _ _ _ (by rw[eg];exact bM _ _ _ (de (by omega)) (bD j hj))
  simpa[hj] using this⟩⟩
 show X (aK aaf aaV Q w (bq [] []) (bx im w3 w4) (fun _ _=>False) (fun _=>True) [] B37) _ _;rw[<-eg];clear eg hold bM hr bV he ha hS hN bD de;obtain⟨k2,o5⟩:∃k,k=nq l2 s:=⟨_,rfl⟩;have adj:k2<=1000:=by rw[o5];exact aao aaK adp
 refine X.dk ([(33,.int .i64 (.nat k2))]) iT 400 _ rfl aaj (fun pr fin aj ai=>?_)
 conv=>cbv
 refine⟨aj _ (.of aaW [.slice p2 q2 c2,.int .u64 s] (.int .i64 k2) (fun _=>rfl) (fun _=>rfl) fun _ w1 ct=>by rw[o5];exact BX p2 q2 c2 s l2.toArray w1 (by omega) hs (Q_ w1 ct) adq),ai _ _ ?_⟩;refine X.done iT rfl (fun N w' v hN hS hv=>?_);rw[hQ];refine⟨aw hv (i_ ?_),hS.aM.none⟩;rw[cT];simp only[SB.T,SI.den,KO q2 (by omega)];constructor
 ·intro h
  refine⟨iC,Rn,fun _=>?_⟩;rw[<-rN,DC,<-o5,<-jM];omega
 ·intro h
  have:=h.2.2 hc;rw[<-rN,DC,<-o5,<-jM] at this;omega
end Go.Proofs.YthpbefahaghbjaaGreat
namespace Go.Proofs.YthpbefahaghbjaaGreat
open Go Go.bU
structure aO where
 (node:Int) (c:cO) (key:Int) (s:lS) (eY:Int)
 deriving DecidableEq
structure aI where
 (key:Int) (b:bW) (a8:dJ) (eY:Int)
 deriving DecidableEq
def aO.toD (x:aO):List Dt:=.int .u8 x.node::(x.c.toD++(.int .u8 x.key::(x.s.toD++[.int .i64 x.eY])))
def aI.toD (x:aI):List Dt:=.int .u8 x.key::(x.b.toD++(x.a8.toD++[.int .i64 x.eY]))
theorem Wu {l:List aO}:∀d∈l.map aO.toD,d.length=21:=fun d hd=>by obtain⟨x,_,rfl⟩:=List.mem_map.1 hd;rfl
theorem aI.open {M:Mem}{vs:List Value}{x:aI}(h:az M x.toD vs):∃rv,vs=.int .u8 x.key::.int .u64 x.b.count::.int .u8 x.b.node::.int .u32 x.b.cR::(rv++[.int .i64 x.eY])/\az M x.a8.toD rv:=by
 unfold aI.toD at h;obtain⟨_,_,rfl,h0,h⟩:=az.cons h;obtain⟨bv,_,rfl,h1,h⟩:=h.split;obtain⟨rv,_,rfl,h2,h⟩:=h.split;obtain⟨_,_,rfl,h3,h⟩:=az.cons h;have hn:=az.nil h;subst hn;rw[bj.cG h0,bj.cG h3,bW.open h1];exact⟨rv,rfl,h2⟩
theorem aI.shut {M:Mem}{x:aI}{rv:List Value}(h:az M x.a8.toD rv):az M x.toD (.int .u8 x.key::.int .u64 x.b.count::.int .u8 x.b.node::.int .u32 x.b.cR::(rv++[.int .i64 x.eY])):=by
 unfold aI.toD;simp only[az];refine⟨_,_,rfl,by simp only[bj],?_⟩;refine az.append (us:=rv++[.int .i64 x.eY]) (vs:=[.int .u64 x.b.count,.int .u8 x.b.node,.int .u32 x.b.cR]) ?_ (az.append h ?_)
 ·simp only[bW.toD,az,bj]
  exact⟨_,_,rfl,rfl,_,_,rfl,rfl,_,_,rfl,rfl,rfl⟩
 ·simp only[az,bj]
  exact⟨_,_,rfl,rfl,rfl⟩
theorem aO.open {M:Mem}{vs:List Value}{x:aO}(h:az M x.toD vs):∃cv sv,vs=.int .u8 x.node::(cv++.int .u8 x.key::(sv++[.int .i64 x.eY]))/\az M x.c.toD cv/\az M x.s.toD sv:=by
 unfold aO.toD at h;obtain⟨_,_,rfl,h0,h⟩:=az.cons h;obtain⟨cv,_,rfl,h1,h⟩:=h.split;obtain⟨_,_,rfl,h2,h⟩:=az.cons h;obtain⟨sv,_,rfl,h3,h⟩:=h.split;obtain⟨_,_,rfl,h4,h⟩:=az.cons h;have hn:=az.nil h;subst hn;rw[bj.cG h0,bj.cG h2,bj.cG h4];exact⟨cv,sv,rfl,h1,h3⟩
structure fu where
 (key:Int) (b:bW) (c:cO) (a8:dJ) (nodes:Nat) (eE:Bool)
structure WP where
 (seen:List fu) (l all:List aI) (da:Bool)
def cO.P_ (c:cO):Prop:=kG c.c.toNat c.c_.toArray c.new.toArray
def cO.jc (c:cO)(key:Int)(s:Nat):Prop:=mQ c.c.toNat c.c_.toArray c.new.toArray key s
def aO.cnt (t:aO):Prop:=t.node<64/\t.key<16/\t.s.has=true/\t.s.acc≠⟨0,0,0⟩/\t.c.P_
def fu.eY (e:fu)(key:Int)(b:bW):Bool:=decide (e.key=key/\e.b=b)
def WP.pos (s:WP)(key:Int)(b:bW):Option Nat:=s.seen.findIdx? fun e=>e.eY key b
def WP.zero:WP:=⟨[],[],[],false⟩
open Classical in
noncomputable def WP.told (s:WP)(i:Nat)(e:fu)(t:aO):WP :=
 let s1:WP:=⟨s.seen,s.l,s.all,s.da ||B (¬(e.c=t.c/\e.a8=t.s.a8))⟩
 if e.eE=true then s1 else
 let n:=e.nodes |||2 ^ t.node.toNat
 if e.c.jc t.key n then ⟨s.seen.set i ⟨e.key,e.b,e.c,e.a8,n,true⟩,s.l++[⟨t.key,t.s.acc,e.a8,t.eY⟩],s1.all,s1.da⟩
 else ⟨s.seen.set i ⟨e.key,e.b,e.c,e.a8,n,false⟩,s.l,s1.all,s1.da⟩
open Classical in
noncomputable def WP.pj (s:WP)(t:aO):WP :=
 if ¬t.cnt then s else
 match s.pos t.key t.s.acc with
 |some i=>match s.seen[i]? with
  |some e=>s.told i e t
  |none=>s
 |none=>WP.told ⟨s.seen++[⟨t.key,t.s.acc,t.c,t.s.a8,0,false⟩],s.l,s.all++[⟨t.key,t.s.acc,t.s.a8,t.eY⟩],s.da⟩ s.seen.length ⟨t.key,t.s.acc,t.c,t.s.a8,0,false⟩ t
end Go.Proofs.YthpbefahaghbjaaGreat
namespace Go.Proofs.YthpbefahaghbjaaGreat
open Go Go.bU Go.Sort
theorem jn {P:aay}{fn:Func}{Q:aah->World->Prop}{W:World}{im:Mem}{D:Nat->Nat->Prop}{Rr:World->Prop}{N0:af}{B:aH}{N:af}{rg:List Rg}{w':World}{r n z:Nat}{cs lz:List SV}{v:Value}(hS:Sat (aK P fn Q W (bq [] []) im D Rr N0 B).toEnv N rg w')(hr:rg[r]?=some ⟨true,cs,none⟩)(h0:0<cs.length)(hp:lz <+: cs)(hc:∀c∈lz,∀(N N':af) (v:Value),c.den N=some v->c.den N'=some v)
  (hv:(SV.osl r 0 n z none).den N=some v):gF lz n z W (.returned v) w':=by
 obtain⟨p,Bz⟩:∃p,N[r]?=some p:=⟨_,aau (by rw[hS.len];exact(aag.1 hr).1)⟩;simp only[SV.den,Bz,aS.cap,aap,aaO,aA] at hv;have hx:=hS.ext r _ p hr Bz rfl;simp only at hx;have hl:=hp.length_le;refine⟨p.b,p.o,p.x,by rw[<-hv],?_,by omega,by omega,fun j c hj=>?_,fun j hj=>hS.room r _ p hr Bz rfl j hj,hS.aM.none⟩
 ·rcases hS.dG r _ p hr Bz rfl with h|h
  ·exact h
  ·exact absurd (h 0 (by omega)) (fun h=>aB h)
 ·obtain⟨t,rfl⟩:=hp
  have uT:=(aag.1 hj).1;obtain⟨v,h1,h2⟩:=hS.cell r _ p hr Bz j c (by rw[aav uT];exact hj);exact⟨v,hc c (aaX hj) _ _ v h1,h2⟩
theorem Sat.tN {E:Env}{N:af}{rg:List Rg}{w:World}(h:Sat E N rg w){b y x:Nat}{cs:List SV}(h0:0<cs.length)(dS:∀(j:Nat) (c:SV),cs[j]?=some c->∃v,(∀N,c.den N=some v)/\E.im b (y+j)=some v):Sat E (N++[⟨b,y,x⟩]) (rg++[⟨false,cs,none⟩]) w:=by
 have hle:N.le (N++[⟨b,y,x⟩]):=af.aZ _ _;have hb:b<w.heap.size:=by
  obtain⟨v,_,h2⟩:=dS 0 _ (aau h0);exact aaM _ _ (h.cK _ _ _ h2)
 refine⟨by simp[h.len],?_,?_,?_,?_,?_,?_,?_,h.cK,?_,?_,h.mj,h.loc,h.fH,h.aM,?_⟩
 ·intro i q hq
  rcases aaq i N.length with hi|hi
  ·rw[aav hi] at hq;exact h.lt i q hq
  ·rw[List.getElem?_append_right hi] at hq
   have hz:i-N.length=0:=by
    have:=(aag.1 hq).1;simp at this;omega
   rw[hz] at hq;simp at hq;subst hq;exact hb
 ·intro i g q hg hq j d hj
  rcases aC h.len hg hq with ⟨a,b⟩|⟨_,rfl,rfl⟩
  ·obtain⟨v,h1,h2⟩:=h.cell i g q a b j d hj
   exact⟨v,SV.bf hle d h1,h2⟩
  ·obtain⟨v,h1,h2⟩:=dS j d hj
   exact⟨v,h1 _,h.cK _ _ _ h2⟩
 ·intro i g q hg hq ho
  rcases aC h.len hg hq with ⟨a,b⟩|⟨_,rfl,rfl⟩
  ·exact h.ext i g q a b ho
  ·cases ho
 ·intro i g q hg hq ho
  rcases aC h.len hg hq with ⟨a,b⟩|⟨_,rfl,rfl⟩
  ·exact h.room i g q a b ho
  ·cases ho
 ·intro i i' g g' q q' hg hq eN cF ho bH j hj Dq
  rcases aC h.len hg hq with ⟨a1,a2⟩|⟨a0,rfl,rfl⟩
  ·rcases aC h.len eN cF with ⟨b1,b2⟩|⟨b0,rfl,rfl⟩
   ·exact h.eT i i' g g' q q' a1 a2 b1 b2 ho bH j hj Dq
   ·have hj:j<cs.length:=hj
    obtain⟨v,_,k2⟩:=dS j _ (aau hj);simp only at Dq ⊢;rcases aaq (y+j) q.o with k|k
    ·exact .inl k
    ·rcases aaq (y+j) (q.o+q.x) with k3|k3
     ·have:=h.lR i g q a1 a2 ho (y+j-q.o) (by omega)
      rw[show q.o+(y+j-q.o)=y+j by omega,<-Dq,k2] at this;cases this
     ·exact .inr k3
  ·cases ho
 ·intro i g q ob hg hq ho
  rcases aC h.len hg hq with ⟨a,b⟩|⟨_,rfl,rfl⟩
  ·obtain⟨⟨o',k1,k2⟩,k3⟩:=h.obj i g q ob a b ho
   exact⟨⟨o',Ob.bf hle ob k1,k2⟩,k3⟩
  ·simp at ho
 ·intro i i' g g' q q' hg hq eN cF ho kR bH
  rcases aC h.len hg hq with ⟨a1,a2⟩|⟨a0,rfl,rfl⟩
  ·rcases aC h.len eN cF with ⟨b1,b2⟩|⟨b0,rfl,rfl⟩
   ·exact h.fG i i' g g' q q' a1 a2 b1 b2 ho kR bH
   ·simp at kR
  ·simp at ho
 ·intro i g q hg hq ho
  rcases aC h.len hg hq with ⟨a,b⟩|⟨_,rfl,rfl⟩
  ·exact h.lR i g q a b ho
  ·cases ho
 ·intro i g q hg hq ho
  rcases aC h.len hg hq with ⟨a,b⟩|⟨_,rfl,rfl⟩
  ·exact h.dd i g q a b ho
  ·cases ho
 ·intro i g q hg hq ho
  rcases aC h.len hg hq with ⟨a,b⟩|⟨_,rfl,rfl⟩
  ·exact h.dG i g q a b ho
  ·cases ho
theorem X.tN {E:eR}{k:List It}{f:Fr}(f':Fr){rg:List Rg}(b y:Nat){cs:List SV}(h0:0<cs.length)(hc:∀(j:Nat) (c:SV),cs[j]?=some c->∃v,(∀N,c.den N=some v)/\E.im b (y+j)=some v)
  (hs:∀N:af,N.length=rg.length->Sh N (N++[⟨b,y,cs.length⟩]) f f') (h:X E k ⟨f',rg++[⟨false,cs,none⟩]⟩):X E k ⟨f,rg⟩:=by
 refine X.conv fun N a w hN hf hS=>?_
 exact⟨E,⟨f',rg++[⟨false,cs,none⟩]⟩,rfl,rfl,rfl,rfl,⟨N++[⟨b,y,cs.length⟩],hN.trans (af.aZ _ _),hf.sh (hs N hS.len),Sat.tN hS h0 hc⟩,h⟩
theorem Qg (x key:Int):oC #[x] key=[x]:=by
 have h1:oC #[x] key≠[]:=Qh (by simp);have h2:∀y∈oC #[x] key,y=x:=fun y hy=>by simpa using rX hy
 have h3:=AQ #[x] key;cases hl:oC #[x] key with
 |nil=>exact absurd hl h1
 |cons a t =>
  rw[hl] at h2 h3;have ha:=h2 a (by simp);cases t with
  |nil=>rw[ha]
  |cons b t =>
   have hb:=h2 b (by simp);have:=(List.pairwise_cons.1 h3).1 b (by simp);omega
theorem CE:kG 0 #[] #[3]:=⟨by simp,fun i hi=>by
 have:i=0:=by simp at hi;omega
 subst this;exact⟨by decide,fun h=>absurd h (by decide)⟩,by simp⟩
theorem Wp:mQ 0 #[] #[3] 1 8:=⟨CE,by rw[Qg];unfold DC;decide,fun h=>absurd h (by decide)⟩
theorem Lv {l:List Int}{s:Nat}(h:DC l s)(m:Nat):DC l (s |||m):=by
 have:nq l s<=nq l (s |||m):=List.countP_mono_left fun x _ h=>by
  rw[aaP,h];rfl
 unfold DC at h ⊢;omega
theorem Qo {C:Nat}{o n:Array Int}{key:Int}{s:Nat}(h:mQ C o n key s)(m:Nat):mQ C o n key (s |||m):=⟨h.1,Lv h.2.1 m,fun hc=>Lv (h.2.2 hc) m⟩
end Go.Proofs.YthpbefahaghbjaaGreat
namespace Go.Proofs.YthpbefahaghbjaaGreat
open Go Go.bU
def aO.sG (t:aO)(key:Int)(b:bW):Prop:=t.cnt/\t.key=key/\t.s.acc=b
noncomputable def bF (l:List aO)(key:Int)(b:bW):Option aO:=l.find? fun t=>B (t.sG key b)
open Classical in
noncomputable def cg (l:List aO)(key:Int)(b:bW):Nat:=l.foldl (fun n t=>if t.sG key b then n |||2 ^ t.node.toNat else n) 0
def uj (l:List aO):Prop:=∃t∈l,∃f,t.cnt/\bF l t.key t.s.acc=some f/\¬(f.c=t.c/\f.s.a8=t.s.a8)
theorem eF (l:List aO)(t:aO)(key:Int)(b:bW):bF (l++[t]) key b=(bF l key b).or (if B (t.sG key b) then some t else none):=by
 unfold bF;rw[List.find?_append]
 congr 1
 simp only[List.find?_cons,List.find?_nil];cases B (t.sG key b)<;>rfl
open Classical in
theorem mN (l:List aO)(t:aO)(key:Int)(b:bW):cg (l++[t]) key b=if t.sG key b then cg l key b |||2 ^ t.node.toNat else cg l key b:=by
 unfold cg;rw[List.foldl_append];rfl
theorem tV {l:List aO}{key:Int}{b:bW}:bF l key b=none↔∀t∈l,¬t.sG key b:=by
 unfold bF;rw[List.find?_eq_none];exact⟨fun h t ht hh=>h t ht (bP hh),fun h t ht hh=>h t ht (cT.1 hh)⟩
theorem mG {l:List aO}{key:Int}{b:bW}{t:aO}(h:t∈l)(hh:t.sG key b):∃f,bF l key b=some f:=by
 cases hf:bF l key b with
 |none=>exact absurd hh (tV.1 hf t h)
 |some f=>exact⟨f,rfl⟩
theorem uc {l:List aO}{key:Int}{b:bW}(h:bF l key b=none):cg l key b=0:=by
 have h0:∀(l:List aO) (n:Nat),(∀t∈l,¬t.sG key b)->l.foldl (fun n t=>@ite _ (t.sG key b) (aaC _) (n |||2 ^ t.node.toNat) n) n=n:=fun l=>by
  induction l with
  |nil=>intro n _;rfl
  |cons t l ih =>
   intro n h;rw[aaY,if_neg (h t (List.mem_cons_self ..))];exact ih n fun u hu=>h u (List.mem_cons_of_mem _ hu)
 exact h0 l 0 (tV.1 h)
theorem ES {l:List aO}{key:Int}{b:bW}(j:Nat):(cg l key b).testBit j=true↔∃t∈l,t.sG key b/\t.node.toNat=j:=by
 have h:∀(l:List aO) (n:Nat),(l.foldl (fun n t=>@ite _ (t.sG key b) (aaC _) (n |||2 ^ t.node.toNat) n) n).testBit j=true↔n.testBit j=true\/∃t∈l,t.sG key b/\t.node.toNat=j:=fun l=>by
  induction l with
  |nil=>intro n;simp
  |cons t l ih =>
   intro n;rw[aaY,ih]
   by_cases ht:t.sG key b
   ·rw[if_pos ht,aaP,Nat.testBit_two_pow]
    simp only[aa9,decide_eq_true_eq,aaB,exists_eq_or_imp];constructor
    ·rintro ((h|h)|h)
     ·exact .inl h
     ·exact .inr (.inl ⟨ht,h⟩)
     ·exact .inr (.inr h)
    ·rintro (h|⟨_,h⟩|h)
     ·exact .inl (.inl h)
     ·exact .inl (.inr h)
     ·exact .inr h
   ·rw[if_neg ht]
    simp only[aaB,exists_eq_or_imp];constructor
    ·rintro (h|h)
     ·exact .inl h
     ·exact .inr (.inr h)
    ·rintro (h|⟨h,_⟩|h)
     ·exact .inl h
     ·exact absurd h ht
     ·exact .inr h
 have:=h l 0;unfold cg;rw[this];simp
theorem GS {c:cO}{key:Int}{s:Nat}(h:c.jc key s)(m:Nat):c.jc key (s |||m):=Qo h m
theorem zc {c:cO}{key:Int}:¬c.jc key 0:=fun h=>by
 have h:=h.2.1;unfold DC nq at h;simp at h
structure WI (F:Int->bW->Option aO) (Nd:Int->bW->Nat) (T:Prop) (A:List Int) (s:WP):Prop where
 no:∀key b,F key b=none->s.pos key b=none
 BC:∀key b f,F key b=some f->∃i e,s.pos key b=some i/\s.seen[i]?=some e/\e.c=f.c/\e.a8=f.s.a8/\e.key=key/\e.b=b/\(e.eE=true↔f.c.jc key (Nd key b))/\(e.eE=false->e.nodes=Nd key b)
 mem:∀v∈s.l,∃f,F v.key v.b=some f/\v.a8=f.s.a8/\f.c.jc v.key (Nd v.key v.b)
 all:∀key b f,F key b=some f->f.c.jc key (Nd key b)->∃v∈s.l,v.key=key/\v.b=b
 nd:s.l.Pairwise fun v w=>¬(v.key=w.key/\v.b=w.b)
 eY:∀v∈s.l,v.eY∈A
 da:s.da=true↔T
def Hk (l:List aO)(s:WP):Prop:=WI (bF l) (cg l) (uj l) (l.map (·.eY)) s
theorem IY:Hk [] WP.zero:=by
 show WI (bF []) (cg []) (uj []) [] WP.zero;refine⟨fun _ _ _=>rfl,fun key b f h=>(by cases h),fun v h=>(by cases h),fun key b f h=>(by cases h),List.Pairwise.nil,fun v h=>(by cases h),⟨fun h=>(by cases h),fun⟨t,h,_⟩=>(by cases h)⟩⟩
open Classical in
noncomputable def Bh {α:Type}(F:Int->bW->α)(key:Int)(b:bW)(x:α):Int->bW->α:=fun k c=>if k=key/\c=b then x else F k c
theorem hJ {α:Type}{F:Int->bW->α}{key:Int}{b:bW}{x:α}:Bh F key b x key b=x:=if_pos ⟨rfl,rfl⟩
theorem lr {α:Type}{F:Int->bW->α}{key k:Int}{b c:bW}{x:α}(h:¬(k=key/\c=b)):Bh F key b x k c=F k c:=if_neg h
theorem fu.JX {e:fu}{key:Int}{b:bW}:e.eY key b=true↔e.key=key/\e.b=b:=by
 unfold fu.eY;simp
theorem GQ {s s':WP}{i:Nat}{e e':fu}(he:s.seen[i]?=some e)(hk:e'.key=e.key/\e'.b=e.b)(hs:s'.seen=s.seen.set i e')(key:Int)(b:bW):s'.pos key b=s.pos key b:=by
 unfold WP.pos;rw[hs];have hi:=(aag.1 he);have:∀(l:List fu) (i:Nat),l[i]?=some e->(l.set i e').findIdx? (fun e=>e.eY key b)=l.findIdx? (fun e=>e.eY key b):=fun l=>by
  induction l with
  |nil=>intro i h;simp at h
  |cons x l ih =>
   intro i h;cases i with
   |zero =>
    simp only[List.getElem?_cons_zero,aA] at h;subst h;have h1:e'.eY key b=x.eY key b:=by unfold fu.eY;rw[hk.1,hk.2]
    simp only[List.set_cons_zero,aaL,h1]
   |succ i =>
    simp only[List.getElem?_cons_succ] at h;simp only[List.set_cons_succ,aaL,ih i h]
 exact this _ _ he
theorem GP {s s':WP}{e:fu}(hs:s'.seen=s.seen++[e])(key:Int)(b:bW):s'.pos key b=(s.pos key b).or (if e.eY key b then some s.seen.length else none):=by
 unfold WP.pos;rw[hs,List.findIdx?_append]
 congr 1
 cases h:e.eY key b<;>simp[aaL,h]
theorem WI.new {F:Int->bW->Option aO}{Nd:Int->bW->Nat}{T:Prop}{A:List Int}{s:WP}(h:WI F Nd T A s)(t:aO)(hF:F t.key t.s.acc=none)(hN:Nd t.key t.s.acc=0)(a:List aI) :
  WI (Bh F t.key t.s.acc (some t)) Nd T A ⟨s.seen++[⟨t.key,t.s.acc,t.c,t.s.a8,0,false⟩],s.l,a,s.da⟩:=by
 have F6:∀key b,fu.eY ⟨t.key,t.s.acc,t.c,t.s.a8,0,false⟩ key b=true↔key=t.key/\b=t.s.acc:=fun key b=>by
  rw[fu.JX];exact⟨fun⟨h1,h2⟩=>⟨h1.symm,h2.symm⟩,fun⟨h1,h2⟩=>⟨h1.symm,h2.symm⟩⟩
 have hp:=GP (s:=s) (s':=⟨s.seen++[⟨t.key,t.s.acc,t.c,t.s.a8,0,false⟩],s.l,a,s.da⟩) rfl;have hv:∀v∈s.l,¬(v.key=t.key/\v.b=t.s.acc):=fun v hv ⟨e1,e2⟩=>by
  obtain⟨f,h1,_⟩:=h.mem v hv;rw[e1,e2,hF] at h1;cases h1
 refine⟨fun key b hk=>?_,fun key b f hk=>?_,fun v hm=>?_,fun key b f hk hq=>?_,h.nd,h.eY,h.da⟩
 ·by_cases he:key=t.key/\b=t.s.acc
  ·obtain⟨rfl,rfl⟩:=he
   rw[hJ] at hk;cases hk
  ·rw[lr he] at hk
   rw[hp,h.no key b hk,if_neg (fun h'=>he ((F6 _ _).1 h'))];rfl
 ·by_cases he:key=t.key/\b=t.s.acc
  ·obtain⟨rfl,rfl⟩:=he
   rw[hJ] at hk;cases hk;refine⟨s.seen.length,⟨t.key,t.s.acc,t.c,t.s.a8,0,false⟩,by rw[hp,h.no _ _ hF,if_pos ((F6 _ _).2 ⟨rfl,rfl⟩)];rfl,by simp,rfl,rfl,rfl,rfl,?_,fun _=>hN.symm⟩;rw[hN];exact⟨fun h'=>(by cases h'),fun h'=>absurd h' zc⟩
  ·rw[lr he] at hk
   obtain⟨i,e,k1,k2,k3⟩:=h.BC key b f hk;refine⟨i,e,by rw[hp,k1];rfl,?_,k3⟩;show(s.seen++_)[i]?=_;rw[aav (aag.1 k2).1];exact k2
 ·rw[lr (hv v hm)]
  exact h.mem v hm
 ·by_cases he:key=t.key/\b=t.s.acc
  ·obtain⟨rfl,rfl⟩:=he
   rw[hN] at hq;exact absurd hq zc
  ·rw[lr he] at hk
   exact h.all key b f hk hq
theorem WI.told {F:Int->bW->Option aO}{Nd:Int->bW->Nat}{T:Prop}{A:List Int}{s:WP}(h:WI F Nd T A s)(t f:aO)(i:Nat)(e:fu)(hF:F t.key t.s.acc=some f)(hi:s.pos t.key t.s.acc=some i)(he:s.seen[i]?=some e) :
  WI F (Bh Nd t.key t.s.acc (Nd t.key t.s.acc |||2 ^ t.node.toNat)) (T\/¬(f.c=t.c/\f.s.a8=t.s.a8)) (A++[t.eY]) (s.told i e t):=by
 obtain⟨i',e',k1,k2,k3,k4,k5,k6,k7,k8⟩:=h.BC _ _ _ hF;rw[hi] at k1;cases k1;rw[he] at k2;cases k2;obtain⟨N',db⟩:∃N',N'=Bh Nd t.key t.s.acc (Nd t.key t.s.acc |||2 ^ t.node.toNat):=⟨_,rfl⟩;have n1:N' t.key t.s.acc=Nd t.key t.s.acc |||2 ^ t.node.toNat:=by rw[db];exact hJ
 have n2:∀key b,¬(key=t.key/\b=t.s.acc)->N' key b=Nd key b:=fun key b bH=>by rw[db];exact lr bH
 rw[<-db];have ht:(s.da ||B (¬(e.c=t.c/\e.a8=t.s.a8)))=true↔T\/¬(f.c=t.c/\f.s.a8=t.s.a8):=by
  rw[aa9,h.da,cT,k3,k4]
 have F6:∀v∈s.l,v.eY∈A++[t.eY]:=fun v hv=>aan _ (h.eY v hv)
 unfold WP.told;simp only
 by_cases ha:e.eE=true
 ·rw[if_pos ha]
  have hq:=k7.1 ha;refine⟨h.no,fun key b f' hk=>?_,fun v hm=>?_,fun key b f' hk cF=>?_,h.nd,F6,ht⟩
  ·obtain⟨j,e2,m1,m2,m3,m4,m5,m6,m7,m8⟩:=h.BC key b f' hk
   by_cases bH:key=t.key/\b=t.s.acc
   ·obtain⟨rfl,rfl⟩:=bH
    rw[hF] at hk;cases hk;rw[hi] at m1;cases m1;rw[he] at m2;cases m2;exact⟨i,e,hi,he,m3,m4,m5,m6,⟨fun _=>by rw[n1];exact GS hq _,fun _=>ha⟩,fun h'=>by rw[ha] at h';cases h'⟩
   ·rw[n2 key b bH]
    exact⟨j,e2,m1,m2,m3,m4,m5,m6,m7,m8⟩
  ·obtain⟨f',m1,m2,m3⟩:=h.mem v hm
   refine⟨f',m1,m2,?_⟩
   by_cases bH:v.key=t.key/\v.b=t.s.acc
   ·rw[bH.1,bH.2] at m3 ⊢;rw[n1];exact GS m3 _
   ·rw[n2 _ _ bH];exact m3
  ·by_cases bH:key=t.key/\b=t.s.acc
   ·obtain⟨rfl,rfl⟩:=bH
    rw[hF] at hk;cases hk;exact h.all _ _ _ hF hq
   ·rw[n2 _ _ bH] at cF
    exact h.all _ _ _ hk cF
 ·rw[if_neg ha]
  have mI:e.eE=false:=by simpa using ha
  have hnq:¬f.c.jc t.key (Nd t.key t.s.acc):=fun h'=>ha (k7.2 h')
  have xH:∀v∈s.l,¬(v.key=t.key/\v.b=t.s.acc):=fun v hv ⟨e1,e2⟩=>by
   obtain⟨f',m1,m2,m3⟩:=h.mem v hv;rw[e1,e2,hF] at m1;cases m1;rw[e1,e2] at m3;exact hnq m3
  have yc:i<s.seen.length:=(aag.1 he).1;have sH:(e.nodes |||2 ^ t.node.toNat)=N' t.key t.s.acc:=by rw[n1,k8 mI]
  have jH:∀(ag:Bool) (l':List aI) (tb:Bool),(ag=true↔f.c.jc t.key (N' t.key t.s.acc))->∀key b f',F key b=some f'->∃i2 e2,WP.pos ⟨s.seen.set i ⟨e.key,e.b,e.c,e.a8,e.nodes |||2 ^ t.node.toNat,ag⟩,l',s.all,tb⟩ key b=some i2/\(s.seen.set i ⟨e.key,e.b,e.c,e.a8,e.nodes |||2 ^ t.node.toNat,ag⟩)[i2]?=some e2/\e2.c=f'.c/\e2.a8=f'.s.a8/\e2.key=key/\e2.b=b/\(e2.eE=true↔f'.c.jc key (N' key b))/\(e2.eE=false->e2.nodes=N' key b):=fun ag l' tb hag key b f' hk=>by
   rw[GQ (s:=s) (e:=e) (e':=⟨e.key,e.b,e.c,e.a8,e.nodes |||2 ^ t.node.toNat,ag⟩) he ⟨rfl,rfl⟩ rfl]
   by_cases bH:key=t.key/\b=t.s.acc
   ·obtain⟨rfl,rfl⟩:=bH
    rw[hF] at hk;cases hk;exact⟨i,⟨e.key,e.b,e.c,e.a8,e.nodes |||2 ^ t.node.toNat,ag⟩,hi,by rw[aaZ,if_pos rfl,if_pos yc],k3,k4,k5,k6,hag,fun _=>sH⟩
   ·obtain⟨j,e2,m1,m2,m3,m4,m5,m6,m7⟩:=h.BC key b f' hk
    have iK:i≠j:=fun iK=>by
     subst iK;rw[he] at m2;cases m2;exact bH ⟨m5 ▸ k5,m6 ▸ k6⟩
    refine⟨j,e2,m1,by rw[aaZ,if_neg iK];exact m2,m3,m4,m5,m6,?_⟩;rw[n2 _ _ bH];exact m7
  have kE:∀(ag:Bool) (l':List aI) (tb:Bool),∀key b,F key b=none->WP.pos ⟨s.seen.set i ⟨e.key,e.b,e.c,e.a8,e.nodes |||2 ^ t.node.toNat,ag⟩,l',s.all,tb⟩ key b=none:=fun ag l' tb key b hk=>by
   rw[GQ (s:=s) (e:=e) (e':=⟨e.key,e.b,e.c,e.a8,e.nodes |||2 ^ t.node.toNat,ag⟩) he ⟨rfl,rfl⟩ rfl];exact h.no key b hk
  have kQ:∀v∈s.l,∃f,F v.key v.b=some f/\v.a8=f.s.a8/\f.c.jc v.key (N' v.key v.b):=fun v hm=>by
   rw[n2 _ _ (xH v hm)];exact h.mem v hm
  by_cases hq:e.c.jc t.key (e.nodes |||2 ^ t.node.toNat)
  ·rw[if_pos hq]
   rw[k3,sH] at hq;refine⟨kE true _ _,jH true _ _ ⟨fun _=>hq,fun _=>rfl⟩,fun v hm=>?_,fun key b f' hk cF=>?_,?_,fun v hm=>?_,ht⟩
   ·rcases aaw.1 hm with h'|h'
    ·exact kQ v h'
    ·simp only[aae] at h';subst h'
     exact⟨f,hF,k4,hq⟩
   ·by_cases bH:key=t.key/\b=t.s.acc
    ·exact⟨_,aax _ (aae.2 rfl),bH.1.symm,bH.2.symm⟩
    ·rw[n2 _ _ bH] at cF
     obtain⟨v,m1,m2⟩:=h.all key b f' hk cF;exact⟨v,aan _ m1,m2⟩
   ·refine List.pairwise_append.2 ⟨h.nd,List.pairwise_singleton _ _,fun v hv w hw=>?_⟩
    simp only[aae] at hw;subst hw;exact xH v hv
   ·rcases aaw.1 hm with h'|h'
    ·exact F6 v h'
    ·simp only[aae] at h';subst h'
     exact aax _ (aae.2 rfl)
  ·rw[if_neg hq]
   rw[k3,sH] at hq;refine⟨kE false _ _,jH false _ _ ⟨fun h'=>(by cases h'),fun h'=>absurd h' hq⟩,kQ,fun key b f' hk cF=>?_,h.nd,F6,ht⟩
   by_cases bH:key=t.key/\b=t.s.acc
   ·obtain⟨rfl,rfl⟩:=bH
    rw[hF] at hk;cases hk;exact absurd cF hq
   ·rw[n2 _ _ bH] at cF
    exact h.all key b f' hk cF
theorem vU {l:List aO}{t:aO}(hc:t.cnt):bF (l++[t])=Bh (bF l) t.key t.s.acc ((bF l t.key t.s.acc).or (some t)):=by
 funext key b
 rw[eF]
 by_cases he:key=t.key/\b=t.s.acc
 ·obtain⟨rfl,rfl⟩:=he
  rw[hJ,bP ⟨hc,rfl,rfl⟩];rfl
 ·rw[lr he,b_ fun h:t.sG key b=>he ⟨h.2.1.symm,h.2.2.symm⟩]
  simp
theorem wA {l:List aO}{t:aO}(hc:t.cnt):cg (l++[t])=Bh (cg l) t.key t.s.acc (cg l t.key t.s.acc |||2 ^ t.node.toNat):=by
 funext key b
 rw[mN]
 by_cases he:key=t.key/\b=t.s.acc
 ·obtain⟨rfl,rfl⟩:=he
  rw[hJ,if_pos ⟨hc,rfl,rfl⟩]
 ·rw[lr he,if_neg fun h:t.sG key b=>he ⟨h.2.1.symm,h.2.2.symm⟩]
theorem QF {α:Type}{F:Int->bW->α}{key:Int}{b:bW}{x:α}(h:F key b=x):Bh F key b x=F:=by
 funext k c
 by_cases he:k=key/\c=b
 ·obtain⟨rfl,rfl⟩:=he
  rw[hJ,h]
 ·exact lr he
theorem nV {l:List aO}{t:aO}(hc:¬t.cnt):bF (l++[t])=bF l:=by
 funext key b
 rw[eF,b_ fun h:t.sG key b=>hc h.1];simp
theorem CH {l:List aO}{t:aO}(hc:¬t.cnt):cg (l++[t])=cg l:=by
 funext key b
 rw[mN,if_neg fun h:t.sG key b=>hc h.1]
theorem Fm {l:List aO}{t:aO}(hc:¬t.cnt):uj (l++[t])↔uj l:=by
 unfold uj;rw[nV hc];constructor
 ·rintro⟨u,hu,f,h1,h2⟩
  rcases aaw.1 hu with h|h
  ·exact⟨u,h,f,h1,h2⟩
  ·simp only[aae] at h;subst h
   exact absurd h1 hc
 ·rintro⟨u,hu,f,h1,h2⟩
  exact⟨u,aan _ hu,f,h1,h2⟩
theorem zv {l:List aO}{t f:aO}(hc:t.cnt)(hf:bF (l++[t]) t.key t.s.acc=some f):uj (l++[t])↔(uj l\/¬(f.c=t.c/\f.s.a8=t.s.a8)):=by
 have hk:∀u∈l,u.cnt->bF (l++[t]) u.key u.s.acc=bF l u.key u.s.acc:=fun u hu hcu=>by
  obtain⟨g,hg⟩:=mG hu ⟨hcu,rfl,rfl⟩;rw[eF,hg];rfl
 constructor
 ·rintro⟨u,hu,g,h1,h2,h3⟩
  rcases aaw.1 hu with h|h
  ·rw[hk u h h1] at h2
   exact .inl ⟨u,h,g,h1,h2,h3⟩
  ·simp only[aae] at h;subst h
   rw[hf] at h2;cases h2;exact .inr h3
 ·rintro (⟨u,hu,g,h1,h2,h3⟩|h)
  ·exact⟨u,aan _ hu,g,h1,by rw[hk u hu h1];exact h2,h3⟩
  ·exact⟨t,aax _ (aae.2 rfl),f,hc,hf,h⟩
theorem Hk.pj {l:List aO}{s:WP}(h:Hk l s)(t:aO):Hk (l++[t]) (s.pj t):=by
 unfold Hk at h ⊢;rw[List.map_append,List.map_singleton]
 by_cases hc:t.cnt
 ·unfold WP.pj
  rw[if_neg (not_not_intro hc)];cases hf:bF l t.key t.s.acc with
  |none =>
   have I7:bF (l++[t])=Bh (bF l) t.key t.s.acc (some t):=by rw[vU hc,hf];rfl
   have h1:=h.new t hf (uc hf) (s.all++[⟨t.key,t.s.acc,t.s.a8,t.eY⟩]);have hp:s.pos t.key t.s.acc=none:=h.no _ _ hf;rw[hp];simp only;have PW:WP.pos ⟨s.seen++[⟨t.key,t.s.acc,t.c,t.s.a8,0,false⟩],s.l,s.all++[⟨t.key,t.s.acc,t.s.a8,t.eY⟩],s.da⟩ t.key t.s.acc=some s.seen.length:=by
    rw[GP (s:=s) rfl,hp,if_pos (fu.JX.2 ⟨rfl,rfl⟩)];rfl
   have h2:=h1.told t t s.seen.length ⟨t.key,t.s.acc,t.c,t.s.a8,0,false⟩ hJ PW (by simp);rw[<-I7,<-wA hc] at h2;exact⟨h2.no,h2.BC,h2.mem,h2.all,h2.nd,h2.eY,h2.da.trans (zv hc (by rw[I7];exact hJ)).symm⟩
  |some f =>
   have I7:bF (l++[t])=bF l:=by rw[vU hc,hf];exact QF hf
   obtain⟨i,e,k1,k2,_⟩:=h.BC _ _ _ hf;rw[k1];simp only[k2];have h2:=h.told t f i e hf k1 k2;rw[<-wA hc,<-I7] at h2;exact⟨h2.no,h2.BC,h2.mem,h2.all,h2.nd,h2.eY,h2.da.trans (zv hc (by rw[I7];exact hf)).symm⟩
 ·unfold WP.pj
  rw[if_pos hc,nV hc,CH hc];exact⟨h.no,h.BC,h.mem,h.all,h.nd,fun v hv=>aan _ (h.eY v hv),h.da.trans (Fm hc).symm⟩
def kB (out:List aI)(key:Int)(b:bW):Prop:=∃v∈out,v.key=key/\v.b=b
open Classical in
noncomputable def fS (l:List aO):Nat->List aI
 |0=>[]
 |i+1=>match l[i]? with
  |none=>fS l i
  |some t=>match bF l t.key t.s.acc with
   |none=>fS l i
   |some f=>if t.cnt/\¬kB (fS l i) t.key t.s.acc/\f.c.jc t.key (cg (l.take (i+1)) t.key t.s.acc) then fS l i++[⟨t.key,t.s.acc,f.s.a8,t.eY⟩] else fS l i
noncomputable def ik (l:List aO):Nat->Bool
 |0=>false
 |i+1=>match l[i]? with
  |none=>ik l i
  |some t=>match bF l t.key t.s.acc with
   |none=>ik l i
   |some f=>ik l i ||B (t.cnt/\¬(f.c=t.c/\f.s.a8=t.s.a8))
open Classical in
noncomputable def ja (l:List aO):Nat->List aI
 |0=>[]
 |i+1=>match l[i]? with
  |none=>ja l i
  |some t=>if t.cnt/\¬kB (ja l i) t.key t.s.acc then ja l i++[⟨t.key,t.s.acc,t.s.a8,t.eY⟩] else ja l i
theorem vT {l:List aO}{t u:aO}(hu:u∈l)(hc:u.cnt):bF (l++[t]) u.key u.s.acc=bF l u.key u.s.acc:=by
 obtain⟨f,hf⟩:=mG hu ⟨hc,rfl,rfl⟩;rw[eF,hf];rfl
theorem FY (l:List aO)(t:aO):∀i,i<=l.length->fS (l++[t]) i=fS l i/\ik (l++[t]) i=ik l i/\ja (l++[t]) i=ja l i
 |0,_=>⟨rfl,rfl,rfl⟩
 |i+1,h=>by
  obtain⟨h1,h2,h3⟩:=FY l t i (by omega);obtain⟨u,hu⟩:∃u,l[i]?=some u:=⟨_,aau (by omega)⟩;have hu':(l++[t])[i]?=some u:=by rw[aav (by omega)];exact hu
  have l7:(l++[t]).take (i+1)=l.take (i+1):=aa0 (by omega);have hm:=aaX hu;rw[fS,fS,ik,ik,ja,ja,hu,hu',h1,h2,h3,l7];simp only;refine⟨?_,?_,trivial⟩
  ·by_cases hc:u.cnt
   ·rw[vT hm hc]
   ·have e1:∀f:aO,¬(u.cnt/\¬kB (fS l i) u.key u.s.acc/\f.c.jc u.key (cg (l.take (i+1)) u.key u.s.acc)):=fun f h=>hc h.1
    cases bF (l++[t]) u.key u.s.acc<;>cases bF l u.key u.s.acc<;>simp only[if_neg (e1 _)]
  ·by_cases hc:u.cnt
   ·rw[vT hm hc]
   ·have e1:∀f:aO,B (u.cnt/\¬(f.c=u.c/\f.s.a8=u.s.a8))=false:=fun f=>b_ fun h=>hc h.1
    cases bF (l++[t]) u.key u.s.acc<;>cases bF l u.key u.s.acc<;>simp only[e1,aba]
structure DS (l:List aO) (s:WP):Prop where
 w:Hk l s
 l':s.l=fS l l.length
 t:s.da=ik l l.length
 a:s.all=ja l l.length
 am:∀v∈s.all,∃f,bF l v.key v.b=some f
 ae:∀key b f,bF l key b=some f->kB s.all key b
theorem Hy:DS [] WP.zero:=⟨IY,rfl,rfl,rfl,fun v h=>(by cases h),fun key b f h=>(by cases h)⟩
theorem oN {s:WP}{i:Nat}{e:fu}{t:aO}:(s.told i e t).all=s.all/\(s.told i e t).da=(s.da ||B (¬(e.c=t.c/\e.a8=t.s.a8))):=by
 unfold WP.told
 split
 ·exact⟨rfl,rfl⟩
 ·simp only
  split
  ·exact⟨rfl,rfl⟩
  ·exact⟨rfl,rfl⟩
theorem DS.pj {l:List aO}{s:WP}(h:DS l s)(t:aO):DS (l++[t]) (s.pj t):=by
 have hw:=h.w.pj t;obtain⟨e1,e2,e3⟩:=FY l t l.length (aam _);have hlen:(l++[t]).length=l.length+1:=by simp
 have ef:(l++[t])[l.length]?=some t:=by simp
 have Zm:(l++[t]).take (l.length+1)=l++[t]:=aa1 (by simp)
 by_cases hc:t.cnt
 ·obtain⟨f,hf⟩:∃f,bF (l++[t]) t.key t.s.acc=some f:=mG (aax _ (aae.2 rfl)) ⟨hc,rfl,rfl⟩
  have dV:fS (l++[t]) (l.length+1)=@ite _ (¬kB s.l t.key t.s.acc/\f.c.jc t.key (cg (l++[t]) t.key t.s.acc)) (aaC _) (s.l++[⟨t.key,t.s.acc,f.s.a8,t.eY⟩]) s.l:=by
   rw[fS,ef,e1,<-h.l',Zm];simp only[hf]
   by_cases hq:¬kB s.l t.key t.s.acc/\f.c.jc t.key (cg (l++[t]) t.key t.s.acc)
   ·rw[if_pos hq,if_pos ⟨hc,hq⟩]
   ·rw[if_neg hq,if_neg fun h=>hq h.2]
  have dT:ik (l++[t]) (l.length+1)=(s.da ||B (¬(f.c=t.c/\f.s.a8=t.s.a8))):=by
   rw[ik,ef,e2,<-h.t];simp only[hf];rw[zK (q:=¬(f.c=t.c/\f.s.a8=t.s.a8)) ⟨And.right,fun h=>⟨hc,h⟩⟩]
  have dA:ja (l++[t]) (l.length+1)=@ite _ (¬kB s.all t.key t.s.acc) (aaC _) (s.all++[⟨t.key,t.s.acc,t.s.a8,t.eY⟩]) s.all:=by
   rw[ja,ef,e3,<-h.a];simp only
   by_cases hq:¬kB s.all t.key t.s.acc
   ·rw[if_pos hq,if_pos ⟨hc,hq⟩]
   ·rw[if_neg hq,if_neg fun h=>hq h.2]
  have hN:cg (l++[t]) t.key t.s.acc=cg l t.key t.s.acc |||2 ^ t.node.toNat:=by rw[mN,if_pos ⟨hc,rfl,rfl⟩]
  have X7:WI (bF l) (cg l) (uj l) (l.map (·.eY)) s:=h.w;cases xD:bF l t.key t.s.acc with
  |none =>
   have hft:f=t:=by
    rw[eF,xD,bP ⟨hc,rfl,rfl⟩] at hf;exact(aal.inj hf).symm
   subst hft;have hp:s.pos f.key f.s.acc=none:=X7.no _ _ xD;have hs:s.pj f=WP.told ⟨s.seen++[⟨f.key,f.s.acc,f.c,f.s.a8,0,false⟩],s.l,s.all++[⟨f.key,f.s.acc,f.s.a8,f.eY⟩],s.da⟩ s.seen.length ⟨f.key,f.s.acc,f.c,f.s.a8,0,false⟩ f:=by
    unfold WP.pj;rw[if_neg (not_not_intro hc),hp]
   have xH:¬kB s.l f.key f.s.acc:=fun⟨v,h1,h2,h3⟩=>by
    obtain⟨g,h4,_⟩:=X7.mem v h1;rw[h2,h3,xD] at h4;cases h4
   have Dx:¬kB s.all f.key f.s.acc:=fun⟨v,h1,h2,h3⟩=>by
    obtain⟨g,h4⟩:=h.am v h1;rw[h2,h3,xD] at h4;cases h4
   have Ro:cg (l++[f]) f.key f.s.acc=0 |||2 ^ f.node.toNat:=by rw[hN,uc xD]
   refine⟨hw,?_,?_,?_,fun v hv=>?_,fun key b g hg=>?_⟩
   ·rw[hlen,dV,hs,Ro]
    unfold WP.told;rw[if_neg (by simp)];simp only
    by_cases hq:f.c.jc f.key (0 |||2 ^ f.node.toNat)
    ·rw[if_pos hq,if_pos ⟨xH,hq⟩]
    ·rw[if_neg hq,if_neg fun h=>hq h.2]
   ·rw[hlen,dT,hs,oN.2]
   ·rw[hlen,dA,hs,oN.1,if_pos Dx]
   ·rw[hs,oN.1] at hv
    rcases aaw.1 hv with hv|hv
    ·obtain⟨g,hg⟩:=h.am v hv
     exact⟨g,by rw[eF,hg];rfl⟩
    ·simp only[aae] at hv;subst hv
     exact⟨f,hf⟩
   ·rw[hs,oN.1]
    rw[eF] at hg;cases mJ:bF l key b with
    |some g2 =>
     obtain⟨v,h1,h2⟩:=h.ae key b g2 mJ;exact⟨v,aan _ h1,h2⟩
    |none =>
     rw[mJ] at hg;cases hb:B (f.sG key b) with
     |false=>rw[hb] at hg;cases hg
     |true =>
      obtain⟨_,h2,h3⟩:=cT.1 hb;exact⟨_,aax _ (aae.2 rfl),h2,h3⟩
  |some f' =>
   have hff:f'=f:=by
    rw[eF,xD] at hf;exact aal.inj hf
   subst hff;obtain⟨i,e,k1,k2,k3,k4,k5,k6,k7,k8⟩:=X7.BC _ _ _ xD;have hs:s.pj t=s.told i e t:=by
    unfold WP.pj;rw[if_neg (not_not_intro hc),k1];simp only[k2]
   have hha:kB s.all t.key t.s.acc:=h.ae _ _ _ xD;refine⟨hw,?_,?_,?_,fun v hv=>?_,fun key b g hg=>?_⟩
   ·rw[hlen,dV,hs,hN]
    unfold WP.told
    by_cases ha:e.eE=true
    ·rw[if_pos ha]
     obtain⟨v,h1,h2⟩:=X7.all _ _ _ xD (k7.1 ha);have e0:¬(¬kB s.l t.key t.s.acc/\f'.c.jc t.key (cg l t.key t.s.acc |||2 ^ t.node.toNat)):=fun h=>h.1 ⟨v,h1,h2⟩
     rw[if_neg e0]
    ·rw[if_neg ha]
     have xH:¬kB s.l t.key t.s.acc:=fun⟨v,h1,h2,h3⟩=>by
      obtain⟨g,h4,_,h5⟩:=X7.mem v h1;rw[h2,h3,xD] at h4;cases h4;rw[h2,h3] at h5;exact ha (k7.2 h5)
     have hn:e.nodes=cg l t.key t.s.acc:=k8 (by simpa using ha);simp only;rw[hn,k3,k4]
     by_cases hq:f'.c.jc t.key (cg l t.key t.s.acc |||2 ^ t.node.toNat)
     ·rw[if_pos hq,if_pos ⟨xH,hq⟩]
     ·rw[if_neg hq,if_neg fun h=>hq h.2]
   ·rw[hlen,dT,hs,oN.2,k3,k4]
   ·rw[hlen,dA,hs,oN.1,if_neg (not_not_intro hha)]
   ·rw[hs,oN.1] at hv
    obtain⟨g,hg⟩:=h.am v hv;exact⟨g,by rw[eF,hg];rfl⟩
   ·rw[hs,oN.1]
    rw[eF] at hg;cases mJ:bF l key b with
    |some g2=>exact h.ae key b g2 mJ
    |none =>
     rw[mJ] at hg;cases hb:B (t.sG key b) with
     |false=>rw[hb] at hg;cases hg
     |true =>
      obtain⟨_,h2,h3⟩:=cT.1 hb;rw[<-h2,<-h3,xD] at mJ;cases mJ
 ·have hs:s.pj t=s:=by
   unfold WP.pj;rw[if_pos hc]
  have WT:=nV (l:=l) hc;have dV:fS (l++[t]) (l.length+1)=fS l l.length:=by
   rw[fS,ef,e1];simp only;have e0:∀f:aO,¬(t.cnt/\¬kB (fS l l.length) t.key t.s.acc/\f.c.jc t.key (cg ((l++[t]).take (l.length+1)) t.key t.s.acc)):=fun f h=>hc h.1
   cases bF (l++[t]) t.key t.s.acc<;>simp only[if_neg (e0 _)]
  have dT:ik (l++[t]) (l.length+1)=ik l l.length:=by
   rw[ik,ef,e2];simp only;have e0:∀f:aO,B (t.cnt/\¬(f.c=t.c/\f.s.a8=t.s.a8))=false:=fun f=>b_ fun h=>hc h.1
   cases bF (l++[t]) t.key t.s.acc<;>simp only[e0,aba]
  have dA:ja (l++[t]) (l.length+1)=ja l l.length:=by
   rw[ja,ef,e3];simp only;rw[if_neg fun h=>hc h.1]
  rw[hs] at hw ⊢;refine⟨hw,by rw[hlen,dV];exact h.l',by rw[hlen,dT];exact h.t,by rw[hlen,dA];exact h.a,fun v hv=>by rw[WT];exact h.am v hv,fun key b f hf=>h.ae key b f (by rw[WT] at hf;exact hf)⟩
theorem Ka (l:List aO):DS l (l.foldl WP.pj WP.zero):=by
 have h:∀(l m:List aO) (s:WP),DS m s->DS (m++l) (l.foldl WP.pj s):=fun l=>by
  induction l with
  |nil=>intro m s h;rw[List.append_nil];exact h
  |cons t l ih =>
   intro m s h;have:=ih (m++[t]) (s.pj t) (h.pj t);rw[aa2] at this;exact this
 exact h l [] WP.zero Hy
end Go.Proofs.YthpbefahaghbjaaGreat
namespace Go.bU
open Go
structure Ef where
 r:List Rg->SV
 ZZ:List (Nat × Rg)
 news:List Rg
def zn:List (Nat × Rg)->List Rg->List Rg
 | [],rg=>rg
 |(r,g)::l,rg=>zn l (rg.set r g)
def snoc (rg:List Rg):List Rg->List Rg
 | []=>rg
 |g::l=>rg++(g::l)
def Pm:List (Nat × Rg)->List Nat
 | []=>[]
 |(r,_)::l=>r::Pm l
def Ef.up (e:Ef)(rg:List Rg):List Rg:=snoc (zn e.ZZ rg) e.news
def Ef.ks (e:Ef):List Nat:=Pm e.ZZ
theorem GY (rg l:List Rg):snoc rg l=rg++l:=by cases l<;>simp[snoc]
theorem mV:∀(l:List (Nat × Rg)) (rg:List Rg),(zn l rg).length=rg.length
 | [],_=>rfl
 |(r,g)::l,rg=>by simp[zn,mV l]
theorem zo:∀(l:List (Nat × Rg)) (rg:List Rg) (r:Nat),aU (Pm l) r=false->(zn l rg)[r]?=rg[r]?
 | [],_,_,_=>rfl
 |(q,g)::l,rg,r,h=>by
  simp only[Pm,aU,Bool.or_eq_false_iff] at h;have bH:q≠r:=fun e=>by subst e;simp at h
  rw[zn,zo l _ r h.2,List.getElem?_set_ne bH]
theorem Ef.keeps (e:Ef)(rg:List Rg):bG e.ks rg (e.up rg)/\rg.length<=(e.up rg).length:=by
 constructor
 ·intro r g hg hm
  have hl:=(aag.1 hg).1;rw[Ef.up,GY,aav (by rw[mV];exact hl),zo _ _ _ hm];exact hg
 ·rw[Ef.up,GY,aa3,mV];omega
def Xt (P:aay)(ρ:aad->Value)(o:aac)(w:World)(K:Value->World->Prop):Prop :=
 (∃v w',Yields P ρ o w v w'/\K v w')\/∃g args,(execOp ρ o).run P w=.ok (.enter g args) w/\Calls P g args w fun e w'=>∃v,e=.returned v/\K v w'
theorem Fs {P:aay}{o:aac}{a:Act}{w:World}{K':Value->World->Prop}(h:Xt P a.eval o w K'){K:Act->World->Prop}{Q:Exit->Act->World->Prop}(hK:∀v w',K' v w'->K (a.put o.dst v) w'):o.wp P a w K Q:=by
 rcases h with ⟨v,w',hy,hv⟩|⟨g,args,he,hc⟩
 ·exact bi hy (hK v w' hv)
 ·unfold Oper.wp
  rw[he];refine Calls.mono hc fun e w' ⟨v,he,hv⟩=>?_
  subst he;exact hK v w' hv
def be (E:Env)(N0:af)(rg:List Rg)(f:Fr)(op:Op)(r:SV)(cN:List Rg):Prop :=
 ∀(N:af) (ρ:aad->Value) (o:aac) (w:World),N0.le N->o.op=op->(∀x s,ev f x=some s->s.den N=some (ρ x))->Sat E N rg w ->
  Xt E.P ρ o w fun v w'=>∃N',N.le N'/\r.den N'=some v/\Sat E N' cN w'
def RN:List (Nat × Ef)->Nat->Option Ef
 | [],_=>none
 |(k,v)::r,t=>bif Nat.beq k t then some v else RN r t
def ael (o:aac)(i:Nat):Nat:=match o.dst with
 |some d=>d
 |none=>1000+i
def Kk (tx:List (Nat × Ef))(n:Nat)(all:Array aac)(i:Nat)(s:St):Option (Fr × Op × Ef) :=
 match nth all.toList i with
 |none=>none
 |some o=>match RN tx (ael o i) with
  |some e=>bif sure all s.fr o then match eK n s.fr o.dst (.val (e.r s.rg)) with
    |some f=>some (f,o.op,e)
    |none=>none
   else none
  |none=>none
theorem mF {E:Env}{tx:List (Nat × Ef)}{N N0:af}{s:St}{a:Act}{all:Array aac}{i:Nat}{o:aac}{w:World}{f:Fr}{op:Op}{e:Ef}(ho:all[i]?=some o)(hq:Kk tx E.n all i s=some (f,op,e))
  (fm:be E N0 s.rg s.fr op (e.r s.rg) (e.up s.rg)) (ck:N0.le N) (hf:aX E.n N s.fr a) (hS:Sat E N s.rg w) :
  Region.wanted o (yielded all a.tmps)=true/\∀(K:Act->World->Prop) (Q:Exit->Act->World->Prop),(∀N' x w',N.le N'->aX E.n N' f (a.put o.dst x)->Sat E N' (e.up s.rg) w'->K (a.put o.dst x) w')->o.wp E.P a w K Q:=by
 have kR:nth all.toList i=some o:=by rw[bT];simpa using ho
 unfold Kk at hq;simp only[kR] at hq
 split at hq
 ·rename_i e0 _
  obtain⟨Gm,hq⟩:=fR hq
  split at hq
  ·rename_i f1 hp
   simp only[aA,Prod.mk.injEq] at hq;obtain⟨rfl,rfl,rfl⟩:=hq;refine⟨mW hf Gm,fun K Q hK=>?_⟩;exact Fs (fm N a.eval o w ck rfl (fun x s hx=>cX hf hx) hS) fun v w' ⟨N',h1,h2,h3⟩=>hK N' v w' h1 (cu (hf.mono h1) h2 hp) h3
  ·cases hq
 ·cases hq
abbrev PE:=List Rg->Fr->Op->SV->List Rg->Prop
def jw (pe:PE)(pr:hZ->Prop)(td:List (Nat × SV))(tx:List (Nat × Ef))(T:aQ)(n:Nat)(all:Array aac)(K:KW)(i:Nat)(c:St->Prop)(s:St):Prop :=
 match Kk tx n all i s with
 |some (f,op,e)=>Hm (eW K i) e.ks=true/\pe s.rg s.fr op (e.r s.rg) (e.up s.rg)/\c ⟨f,e.up s.rg⟩
 |none=>stepT pr td T n all K i c s
def BL (pe:PE)(pr:hZ->Prop)(fin:St->Prop)(td:List (Nat × SV))(tx:List (Nat × Ef))(T:aQ)(n:Nat)(all:Array aac)(K:KW)(rg:List Rg):dK->St->Prop
 | .nil,s=>fin s
 | .q i gH r,s=>lF K i=true/\match qP td T n all (aJ (flatK (mM gH) K) rg 0) i s.fr with
  |some (f,o)=>RQ pr o (BL pe pr fin td tx T n all K rg r ⟨f,s.rg⟩)
  |none=>False
 | .one i r,s=>jw pe pr td tx T n all K i (fun s'=>BL pe pr fin td tx T n all K rg r s') s
 | .two i j x y,s=>jw pe pr td tx T n all K i (fun s'=>BL pe pr fin td tx T n all K rg x s') s/\jw pe pr td tx T n all K j (fun s'=>BL pe pr fin td tx T n all K rg y s') s
def UT (td:List (Nat × SV))(tx:List (Nat × Ef))(T:aQ)(n:Nat)(all:Array aac)(i:Nat)(c:St->KW)(s:St):KW :=
 match Kk tx n all i s with
 |some (f,_,e)=>(i,e.ks)::c ⟨f,e.up s.rg⟩
 |none=>match qP td T n all s.rg i s.fr with
  |some (f,_)=>c ⟨f,s.rg⟩
  |none=>match uW T n all i s with
   |some s'=>match xL s.fr all i with
    |some k=>(i,[k])::c s'
    |none=>c s'
   |none=>match oE td n all i s.fr with
    |some (f,_)=>c ⟨f,s.rg⟩
    |none=>[]
def XC (i:Nat)(ks:List Nat):KW->KW
 | []=>[(i,ks)]
 |(j,l)::r=>bif Nat.beq j i then (j,pL ks l)::r else (j,l)::XC i ks r
def Lx:KW->KW->KW
 | [],K=>K
 |(i,ks)::r,K=>Lx r (XC i ks K)
def Ki (td:List (Nat × SV))(tx:List (Nat × Ef))(T:aQ)(n:Nat)(all:Array aac):dK->St->KW
 | .nil,_=>[]
 | .q i _ r,s=>match qP td T n all s.rg i s.fr with
  |some (f,_)=>Ki td tx T n all r ⟨f,s.rg⟩
  |none=>[]
 | .one i r,s=>UT td tx T n all i (fun s'=>Ki td tx T n all r s') s
 | .two i j x y,s=>Lx (UT td tx T n all i (fun s'=>Ki td tx T n all x s') s) (UT td tx T n all j (fun s'=>Ki td tx T n all y s') s)
theorem vw {E:Env}{T:aQ}(hT:aq E.P T){td:List (Nat × SV)}{tx:List (Nat × Ef)}{all:Array aac}(jb:Region.noSelect all=true){Q:Exit->Act->World->Prop}(hQ:bR Q){N0:af}{K:KW}{rg:List Rg}{fin:St->Prop}{Nf:af}(wf:World)(hV:jg Nf rg wf):∀(t:dK) (m:Nat) (ad:Array Bool) {s:St} {N:af} {a:Act} {w:World},
  bA all t m ad=true->ad.size=all.size->BL (be E N0) (hZ.Ok E N0) fin td tx T E.n all K rg t s->Nf.le N->N0.le N->aX E.n N s.fr a->Sat E N s.rg w->bG (bS K ad) rg s.rg->rg.length<=s.rg.length ->
  (∀s' N' a' w',fin s'->N.le N'->aX E.n N' s'.fr a'->Sat E N' s'.rg w'->Q .normal a' w')->eZ E.P all Q (fun L=>VI E.im Nf (aJ (bS K L) rg 0)) m ad a w:=by
 have I4:∀{l:List Nat},l.isEmpty=true->l=[]:=by intro l h;cases l<;>simp at h ⊢
 have eL:∀(L:Array Bool) {N:af} {cN:List Rg} {w:World},Nf.le N->bG (bS K L) rg cN->Sat E N cN w->VI E.im Nf (aJ (bS K L) rg 0) w:=fun L _ _ _ hN ha hS=>⟨dx (hV.AK _) hN ha hS,hS.cK⟩
 -- one operation that is ready
 have step:∀(m:Nat) (ad:Array Bool) (i:Nat) (c:St->Prop) {s:St} {N:af} {a:Act} {w:World},i∈aaD .any all ad->ad.size=all.size->jw (be E N0) (hZ.Ok E N0) td tx T E.n all K i c s->Nf.le N->N0.le N->aX E.n N s.fr a->Sat E N s.rg w->bG (bS K ad) rg s.rg->rg.length<=s.rg.length ->
   (∀s' N' a' w',c s'->N.le N'->aX E.n N' s'.fr a'->Sat E N' s'.rg w'->bG (bS K (ad.setIfInBounds i true)) rg s'.rg->rg.length<=s'.rg.length->eZ E.P all Q (fun L=>VI E.im Nf (aJ (bS K L) rg 0)) m (ad.setIfInBounds i true) a' w') ->
   wpOp E.P all Q i (fun a' w'=>VI E.im Nf (aJ (bS K (ad.setIfInBounds i true)) rg 0) w'/\eZ E.P all Q (fun L=>VI E.im Nf (aJ (bS K L) rg 0)) m (ad.setIfInBounds i true) a' w') a w:=by
  intro m ad i c s N a w jp hn hg hN ck hf hS ha hl hk;have aF:i<ad.size:=by
   obtain⟨_,o,ho,_⟩:=aaz.1 jp;rw[hn];exact(Array.getElem?_eq_some_iff.1 ho).1
  have ey:(ad.setIfInBounds i true).getD i false=true:=by simp[aF]
  have grow:∀r,aU (bS K ad) r=true->aU (bS K (ad.setIfInBounds i true)) r=true:=fun r h=>by
   obtain⟨p,h1,h2,h3⟩:=aG.1 h;refine aG.2 ⟨p,h1,?_,h3⟩
   by_cases e:i=p.1
   ·rw[<-e];exact ey
   ·rw[getD_set_ne false e];exact h2
  have own:∀k,aU (eW K i) k=true->aU (bS K (ad.setIfInBounds i true)) k=true:=fun k hk=>by
   obtain⟨p,h1,h2,h3⟩:=fw hk;exact aG.2 ⟨p,h1,by rw[h2];exact ey,h3⟩
  have fT:bG (bS K (ad.setIfInBounds i true)) rg s.rg:=ha.mono fun r hr=>by
   cases hx:aU (bS K ad) r with
   |true=>rw[grow r hx] at hr;cases hr
   |false=>rfl
  obtain⟨_,o,ho,_⟩:=aaz.1 jp;unfold jw at hg;unfold wpOp;simp only[ho]
  split at hg
  ·rename_i f op e hq
   obtain⟨xG,fm,hg⟩:=hg;obtain⟨hw,hx⟩:=mF ho hq fm ck hf hS;obtain⟨xF,o5⟩:=e.keeps s.rg;have sD:bG (bS K (ad.setIfInBounds i true)) rg (e.up s.rg):=fun r g hg hr=>xF r g (fT r g hg hr) (iY xG r (by
    cases hx:aU (eW K i) r with
    |true=>rw[own r hx] at hr;cases hr
    |false=>rfl))
   rw[hw,if_pos rfl];exact .inl (hx _ _ fun N' x w' db d_ cL=>⟨eL _ (hN.trans db) sD cL,hk _ N' _ w' hg db d_ cL sD (aao hl o5)⟩)
  unfold stepT at hg
  split at hg
  ·rename_i f ob hq
   obtain⟨fm,hg⟩:=gL hg;obtain⟨v,hv,de⟩:=fv hT ho hq fm ck hf hS.vi;have gz:=hk _ N _ w hg (af.le.refl N) de hS fT hl;rcases hv with ⟨hw,a6⟩|⟨hw,rfl⟩
   ·rw[hw,if_pos rfl]
    exact .inl (bi (.inl (a6 w hS.vi)) ⟨eL _ hN fT hS,gz⟩)
   ·rw[hw]
    exact⟨eL _ hN fT hS,gz⟩
  ·split at hg
   ·rename_i s1 he
    obtain⟨xG,mJ⟩:=hg;obtain⟨hw,N',x,w',db,hy,d_,cL⟩:=gu hT (by simpa using ho) he hf hS;have sD:=eA (ks:=bS K (ad.setIfInBounds i true)) fT hl (by
     split
     ·rename_i k oZ
      rw[oZ] at xG;exact own k xG
     ·rfl) he
    rw[hw,if_pos rfl];exact .inl (bi hy ⟨eL _ (hN.trans db) sD.1 cL,hk _ N' _ _ mJ db d_ cL sD.1 sD.2⟩)
   ·split at hg
    ·rename_i f gk g l v qw
     obtain⟨fm,hg⟩:=hg;rcases fV ho qw fm ck hf hS with ⟨hw,hx⟩|⟨hw,d_⟩
     ·rw[hw,if_pos rfl]
      exact .inl (hx _ _ fun x w' d_ cL=>⟨eL _ hN fT cL,hk _ N _ w' hg (af.le.refl N) d_ cL fT hl⟩)
     ·rw[hw]
      exact⟨eL _ hN fT hS,hk _ N _ w hg (af.le.refl N) d_ hS fT hl⟩
    ·exact hg.elim
 intro t
 induction t with
 |nil =>
  intro m ad s N a w hs hn hg hN ck hf hS ha hl hk;simp only[bA,aak] at hs;obtain rfl:=aaQ hs.1;exact eZ.done (I4 hs.2) (hk s N a w hg (af.le.refl N) hf hS)
 |q i gH r ih =>
  intro m ad s N a w hs hn hg hN ck hf hS ha hl hk;cases m with
  |zero=>simp[bA] at hs
  |succ m =>
   have yI:=eL ad hN ha hS;simp only[bA,aak] at hs;obtain⟨⟨⟨⟨hr,jL⟩,gp⟩,gq⟩,hs⟩:=hs;simp only[BL] at hg;obtain⟨o8,hg⟩:=hg;have o8:=ff o8;have jp:i∈aaD .any all ad:=by simpa using hr
   have tg:ad.getD i false=false:=by
    have h1:=(aaz.1 jp).1;rcases aaq i ad.size with h'|h'
    ·simp[h'] at h1 ⊢;exact h1
    ·rw[Array.getD_eq_getD_getElem?,Array.getElem?_eq_none h'];rfl
   have same:∀(L:Array Bool) (r:Nat),aU (bS K (L.setIfInBounds i true)) r=true↔aU (bS K L) r=true:=fun L r=>by
    simp only[bS,aG];constructor
    ·rintro⟨p,h1,h2,h3⟩
     exact⟨p,h1,by rwa [getD_set_ne false (fun e=>o8 p h1 e.symm)] at h2,h3⟩
    ·rintro⟨p,h1,h2,h3⟩
     exact⟨p,h1,by rwa [getD_set_ne false (fun e=>o8 p h1 e.symm)],h3⟩
   split at hg
   ·rename_i f ob hq
    obtain⟨_,o,ho,_⟩:=aaz.1 jp;obtain⟨fm,hg⟩:=gL hg;have wide:∀{L':Array Bool} {w':World},Up all i ad L'->VI E.im Nf (aJ (bS K L') rg 0) w'->VI E.im Nf (aJ (flatK (mM gH) K) rg 0) w':=fun sI hv =>
     ⟨hv.1.more fun r hr=>by
      obtain⟨p,h1,h2,h3⟩:=aG.1 hr;exact aG.2 ⟨p,h1,(sI.within gp hn tg gq).2.2 _ h2,h3⟩,hv.2⟩
    obtain⟨v,hv,de⟩:=fv hT ho hq fm ck hf ((wide .here yI).mono hN);refine eZ.take (S:=fun L=>VI E.im Nf (aJ (bS K L) rg 0)) ho jb jL hr (fun c a w h=>hQ c a o.dst v w h) (fun L w=>⟨fun h=>⟨h.1.more fun r hr=>(same L r).1 hr,h.2⟩,fun h=>⟨h.1.more fun r hr=>(same L r).2 hr,h.2⟩⟩) ?_ yI
     (ih m _ hs (by simpa using hn) hg hN ck de hS (fun r g hg hm=>ha r g hg (by
      cases hx:aU (bS K ad) r with
      |true=>rw[(same ad r).2 hx] at hm;cases hm
      |false=>rfl)) hl hk)
    rcases hv with ⟨hw,a6⟩|⟨hw,rfl⟩
    ·exact .inl ⟨hw,fun w ⟨L',sI,hw⟩=>a6 w ((wide sI hw).mono hN)⟩
    ·exact .inr ⟨hw,rfl⟩
   ·exact hg.elim
 |one i r ih =>
  intro m ad s N a w hs hn hg hN ck hf hS ha hl hk;cases m with
  |zero=>simp[bA] at hs
  |succ m =>
   simp only[bA,aak] at hs;have hr:=gr hs.1;refine eZ.all hr (by simp) fun j hj=>?_
   simp only[aae] at hj;subst hj;refine step m ad j _ (by rw[hr];simp) hn hg hN ck hf hS ha hl fun s' N' a' w' hc db d_ cL mI o6=>?_
   exact ih m _ hs.2 (by simpa using hn) hc (hN.trans db) (ck.trans db) d_ cL mI o6 fun s2 N2 a2 w2 h1 h2=>hk s2 N2 a2 w2 h1 (db.trans h2)
 |two i j x y V5 V6 =>
  intro m ad s N a w hs hn hg hN ck hf hS ha hl hk;cases m with
  |zero=>simp[bA] at hs
  |succ m =>
   simp only[bA,aak] at hs;obtain⟨⟨h2,hx⟩,hy⟩:=hs;have hr:=mO h2;have EA:i∈aaD .any all ad:=by rcases hr with h|h<;>rw[h]<;>simp
   have VC:j∈aaD .any all ad:=by rcases hr with h|h<;>rw[h]<;>simp
   have si:=step m ad i _ EA hn hg.1 hN ck hf hS ha hl fun s' N' a' w' hc db d_ cL mI o6=>V5 m _ hx (by simpa using hn) hc (hN.trans db) (ck.trans db) d_ cL mI o6 fun s2 N2 a2 w2 h1 h2=>hk s2 N2 a2 w2 h1 (db.trans h2)
   have sj:=step m ad j _ VC hn hg.2 hN ck hf hS ha hl fun s' N' a' w' hc db d_ cL mI o6=>V6 m _ hy (by simpa using hn) hc (hN.trans db) (ck.trans db) d_ cL mI o6 fun s2 N2 a2 w2 h1 h2=>hk s2 N2 a2 w2 h1 (db.trans h2)
   rcases hr with h|h
   ·exact eZ.all h (by simp) fun q hq=>by
     simp only[aaB,aa4,or_false] at hq;rcases hq with rfl|rfl
     ·exact si
     ·exact sj
   ·exact eZ.all h (by simp) fun q hq=>by
     simp only[aaB,aa4,or_false] at hq;rcases hq with rfl|rfl
     ·exact sj
     ·exact si
def sw:qd->dK
 | []=>.nil
 |(i,some gH)::r=>.q i gH (sw r)
 |(i,none)::r=>.one i (sw r)
theorem xp {ops:Array aac}:∀(fX:qd) (L:Array Bool),jN ops fX L=true->bA ops (sw fX) fX.length L=true
 | [],L,h=>by
  simp only[jN] at h;simp only[sw,bA,aaJ];simp[h]
 |(i,some gH)::r,L,h=>by
  simp only[jN,aak] at h;simp only[sw,bA,aas,aak];exact⟨h.1,xp r _ h.2⟩
 |(i,none)::r,L,h=>by
  simp only[jN,aak] at h;simp only[sw,bA,aas,aak];exact⟨h.1,xp r _ h.2⟩
def A1 (pe:PE)(pr:hZ->Prop)(fin:List It->St->Prop)(td:List (Nat × SV))(tx:List (Nat × Ef))(T:aQ)(B:aH)(n:Nat)(rs:List aaG):Nat->List It->St->Prop
 |0,t,s=>fin t s
 |m+1,t,s =>
  match t with
  | .ops all (i::rest)::k=>match Kk tx n all i s with
   |some (f,op,e)=>pe s.rg s.fr op (e.r s.rg) (e.up s.rg)/\A1 pe pr fin td tx T B n rs m (.ops all rest::k) ⟨f,e.up s.rg⟩
   |none=>match qP td T n all s.rg i s.fr with
    |some (f,o)=>RQ pr o (A1 pe pr fin td tx T B n rs m (.ops all rest::k) ⟨f,s.rg⟩)
    |none=>match uW T n all i s with
     |some s'=>A1 pe pr fin td tx T B n rs m (.ops all rest::k) s'
     |none=>match oE td n all i s.fr with
      |some (f,gk,g,l,v)=>pr (.call s.rg gk g l v)/\A1 pe pr fin td tx T B n rs m (.ops all rest::k) ⟨f,s.rg⟩
      |none=>fin t s
  |_=>match UK T n rs t s with
   |some (t',s')=>A1 pe pr fin td tx T B n rs m t' s'
   |none=>match t with
    | .code c::k=>match c with
     | .region id ops d=>match d with
      |true=>match yS B id with
       |some fX=>BL pe pr (fun s'=>A1 pe pr fin td tx T B n rs m k s') td tx T n ops (Ki td tx T n ops (sw fX) s) s.rg (sw fX) s
       |none=>fin t s
      |false=>fin t s
     |_=>fin t s
    |_=>fin t s
theorem E7 {td:List (Nat × SV)}{tx:List (Nat × Ef)}{T:aQ}{B:aH}{n:Nat}{rs:List aaG}(E:eR)(e1:E.n=n)(e2:E.B=B)(e3:aq E.P T)(e4:bR E.Q):∀(m:Nat) (t:List It) (s:St),
  A1 (be E.toEnv E.N0) (hZ.Ok E.toEnv E.N0) (fun t s=>X E t s) td tx T B n rs m t s->X E t s:=by
 subst e1;subst e2;intro m
 induction m with
 |zero=>intro t s h;exact h
 |succ m ih =>
  intro t s h;simp only[A1] at h
  split at h
  ·rename_i all i rest k
   have there:∀{α:Type} {y:α} {f:aac->Option α},(match nth all.toList i with|none=>none|some o=>f o)=some y->∃op,all[i]?=some op:=fun {α y f} h=>by
    split at h
    ·cases h
    ·rename_i op cC;rw[bT] at cC;exact⟨op,by simpa using cC⟩
   split at h
   ·rename_i f op e hq
    obtain⟨fm,h⟩:=h;have hx:=ih _ _ h;intro N a w hN hf hS;show wpOps _ _ _ _ _ _;obtain⟨o,ho⟩:=there hq;obtain⟨hw,h2⟩:=mF (E:=E.toEnv) ho hq fm hN hf hS;rw[aaH];unfold wpOp;simp only[ho];rw[hw,if_pos rfl];exact .inl (h2 _ _ fun N' x w' db d_ cL=>hx N' _ w' (hN.trans db) d_ cL)
   ·split at h
    ·rename_i f o hq
     obtain⟨fm,h⟩:=gL h;have hx:=ih _ _ h;intro N a w hN hf hS;show wpOps _ _ _ _ _ _;obtain⟨op,cC⟩:=there hq;obtain⟨v,hv,de⟩:=fv e3 cC hq fm hN hf hS.vi;rw[aaH];unfold wpOp;simp only[cC];rcases hv with ⟨hw,a6⟩|⟨hw,rfl⟩
     ·rw[hw,if_pos rfl]
      exact .inl (bi (.inl (a6 w hS.vi)) (hx N _ w hN de hS))
     ·rw[hw]
      exact hx N _ w hN de hS
    ·split at h
     ·rename_i s1 he
      exact X.oD e3 ⟨he⟩ (ih _ _ h)
     ·split at h
      ·rename_i f gk g l v qw
       obtain⟨fm,h⟩:=h;have hx:=ih _ _ h;intro N a w hN hf hS;show wpOps _ _ _ _ _ _;obtain⟨op,cC⟩:=there qw;rw[aaH];unfold wpOp;simp only[cC];rcases fV cC qw fm hN hf hS with ⟨hw,hy⟩|⟨hw,d_⟩
       ·rw[hw,if_pos rfl]
        exact .inl (hy _ _ fun x w' d_ cL=>hx N _ w' hN d_ cL)
       ·rw[hw]
        exact hx N _ w hN d_ hS
      ·exact h
  ·split at h
   ·rename_i t1 s1 ha
    exact sO e3 ha (ih _ _ h)
   ·split at h
    ·rename_i c k _
     split at h
     ·rename_i id ops d _
      split at h
      ·split at h
       ·rename_i fX AB
        intro N a w hN hf hS;show _->Code.wp _ _ _ _ _;intro dH;simp only[iu,AB] at dH;have cL:Sat E.toEnv N s.rg { w with drawn:=w.drawn+1 }:=hS.drew;simp only[tP,aak] at dH;obtain⟨⟨hn,hlen⟩,Le⟩:=dH;have hlen:=aaQ hlen;have:=vw (E:=E.toEnv) e3 hn (e4.ms _) _ cL.xt (sw fX) _ _ (xp fX _ Le) (by simp) h (af.le.refl N) hN hf cL (fun r g hg _=>hg) (aam _) (fun s' N' a' w' hx db d_ cL=>ih _ _ hx N' a' w' (hN.trans db) d_ cL);rw[hlen] at this;exact wp_region_any e3.mixed this.any
       ·exact h
      ·exact h
     ·exact h
    ·exact h
theorem X.iA {P:aay}{fn:Func}{R:aah->World->Prop}{W:World}{O:Nat->Nat->Prop}{im:Nat->Nat->Option Value}{D:Nat->Nat->Prop}{Rr:World->Prop}{N:af}{B:aH}{T:aQ}(td:List (Nat × SV))(tx:List (Nat × Ef))(hT:aq P T)(m n:Nat)(hn:fn.ntmps=n){t:List It}{s:St}{rs:Array aaG}(OU:fn.results=rs)
  (h:∀(pr:hZ->Prop) (pe:PE) (fin:List It->St->Prop),(∀q,q.Ok (aK P fn R W O im D Rr N B).toEnv N->pr q)->(∀rg f op r cN,be (aK P fn R W O im D Rr N B).toEnv N rg f op r cN->pe rg f op r cN)->(∀t s,X (aK P fn R W O im D Rr N B) t s->fin t s)->A1 pe pr fin td tx T B n rs.toList m t s):X (aK P fn R W O im D Rr N B) t s:=by
 subst hn;exact E7 (aK P fn R W O im D Rr N B) rfl rfl hT (fun _ _ d _ _ h=>by cases d<;>exact h) m t s (h _ _ _ (fun _ h=>h) (fun _ _ _ _ _ h=>h) (fun _ _ h=>h))
theorem be.step {E:Env}{N0:af}{T:aQ}(hT:aq E.P T){rg cN:List Rg}{f:Fr}{op:Op}{r:SV}(h:nl T rg (ev f) op=some (r,cN)):be E N0 rg f op r cN:=by
 intro N a o w hN cC hf hS;subst cC;obtain⟨N',x,w',h1,h2,h3,h4⟩:=uh hT hS hf h;exact .inl ⟨x,w',h3,N',h1,h2,h4⟩
theorem iw {T:aQ}{rg cN:List Rg}{f:Fr}{x y:aad}{ts tx e m:Nat}{ti te:TI}{sx sy r:SV}{new:List SV}(hx:ev f x=some sx)(hy:ev f y=some sy)(BA:bo T ts=some ti)(hk:ti.kind=.slice e)(kN:bo T e=some te)
  (lD:jD T rg te sy tx=some (new,m)) (KB:iZ rg te sx new m=some (r,cN)):nl T rg (ev f) (.call { callee:=.builtin .append,args:=#[x,y],argTypes:=#[ts,tx] })=some (r,cN):=by
 simp only[nl,hx,hy,BA,hk,kN,lD,KB]
theorem be.call {E:Env}{N0:af}{rg cN:List Rg}{f:Fr}{g:Nat}{xs:Array aad}{ts:Array aaA}{l:List SV}{r:SV}(hl:tU f xs.toList=some l)(hc:∀args w,(callFunc g args).run E.P w=.ok (.enter g args) w)
  (h:∀(N:af) (w:World) (args:List Value),N0.le N->Sat E N rg w->SV.ap N l=some args->Calls E.P g args.toArray w fun e w'=>∃v,e=.returned v/\∃N',N.le N'/\r.den N'=some v/\Sat E N' cN w') :
  be E N0 rg f (.call { callee:=.value (.func g),args:=xs,argTypes:=ts }) r cN:=by
 intro N ρ o w hN cC hf hS;have fD:SV.ap N l=some (xs.toList.map ρ):=by
  have key:∀(ys:List aad) {l:List SV},tU f ys=some l->SV.ap N l=some (ys.map ρ):=fun ys=>by
   induction ys with
   |nil=>intro l h;simp only[tU,aA] at h;subst h;rfl
   |cons y ys ih =>
    intro l h;simp only[tU] at h
    split at h
    ·rename_i v q hv hq
     simp only[aA] at h;subst h;simp[SV.ap,hf _ _ hv,ih hq]
    ·cases h
  exact key _ hl
 refine .inr ⟨g,(xs.toList.map ρ).toArray,?_,h N w _ hN hS fD⟩;have I7:=hf (.func g) _ rfl;simp only[SV.den,bc,if_true,aA] at I7;simp only[execOp,cC,resolve,<-I7,Deferred.ofValue,aaE,abb,Result.andThen,invoke];rw[hc]
 congr 2
 apply Array.ext';simp
theorem be.fresh {E:Env}{N0:af}{rg:List Rg}{f:Fr}{g n sz:Nat}{xs:Array aad}{ts:Array aaA}{l:List SV}{cs:List SV}(hl:tU f xs.toList=some l)(hc:∀args w,(callFunc g args).run E.P w=.ok (.enter g args) w)
  (h:∀(N:af) (w:World) (args:List Value),N0.le N->Sat E N rg w->SV.ap N l=some args->Calls E.P g args.toArray w (gF cs n sz w)) :
  be E N0 rg f (.call { callee:=.value (.func g),args:=xs,argTypes:=ts }) (.osl rg.length 0 n sz none) (rg++[⟨true,cs,none⟩]) :=
 be.call hl hc fun N w args hN hS ha=>(h N w args hN hS ha).mono fun e w' hf=>by
  obtain⟨p,v,h1,h2,_,h3⟩:=hf.Qu hS;exact⟨v,h1,_,af.aZ _ _,h2,h3⟩
theorem Sat.cells {E:Env}{N:af}{rg:List Rg}{w w':World}{r:Nat}{g:Rg}{p:aS}(h:Sat E N rg w)(hg:rg[r]?=some g)(hp:N[r]?=some p)(ho:g.own=true)
  (hc:aW (fun k o=>k=p.b/\p.o<=o/\o<p.o+p.x) w w') (lz:List SV) (hl:lz.length<=p.x) (dS:∀(j:Nat) (c:SV),lz[j]?=some c->∃v,c.den N=some v/\w'.cell? ⟨p.b,p.o+j,none⟩=some v):Sat E N (rg.set r { g with cells:=lz }) w':=by
 have lQ:r<rg.length:=(aag.1 hg).1;have sH:∀k o,(k=p.b/\p.o<=o/\o<p.o+p.x)->¬E.D k o:=fun k o ⟨e1,e2,e3⟩ hd=>by
  subst e1;have:=h.dd r g p hg hp ho (o-p.o) (by omega);rw[show p.o+(o-p.o)=o by omega] at this;exact this hd
 have wq:∀k o,E.D k o->(w'.cell? ⟨k,o,none⟩=w.cell? ⟨k,o,none⟩/\w'.frozen? ⟨k,o,none⟩=w.frozen? ⟨k,o,none⟩)/\b8 w' k=b8 w k:=fun k o hd=>by
  have aF:=(h.mj k o hd).lt;obtain⟨x,hx⟩:∃x,w.heap[k]?=some x:=⟨_,Array.getElem?_eq_getElem aF⟩;cases x with
  |cells c e f =>
   obtain⟨c',h1,h2,h3⟩:=hc.cells k c e f hx;have h4:=h3 o (fun e=>sH k o e hd);refine⟨⟨by simp[aaN,hx,h1,h4],by simp[aa8,hx,h1]⟩,by simp[b8,hx,h1]⟩
  |_ =>
   have bH:∀o',¬(k=p.b/\p.o<=o'/\o'<p.o+p.x):=fun o' ⟨e1,e2,e3⟩=>by
    have:=(h.room r g p hg hp ho (o'-p.o) (by omega)).1;rw[<-e1] at this;simp[aaN,hx] at this
   have e:=hc.same k aF bH;exact⟨⟨by unfold aaN;simp only[e],by unfold aa8;simp only[e]⟩,gW e⟩
 refine h.after (m':=E.im) (D':=E.D) (R':=E.R) hc (fun k o _ ⟨e1,e2,e3⟩=>.inl ⟨r,g,p,hg,hp,ho,e1,e2,e3⟩) ⟨fun _ _ _ h=>h,fun k o v hv=>?_,fun _ _ _ h=>.inl h⟩
  (fun k o hd=>⟨.inl hd,(h.mj k o hd).of (fun hs=>by rw[(wq k o hd).1.1];exact hs) (wq k o hd).2⟩) h.loc (h.loc w w' wq hc.size h.fH) (by simp) (fun q x x' pq nY jM yf=>?_)
 ·refine bw hc (fun⟨e1,e2,e3⟩=>?_) (h.cK k o v hv)
  have:=h.lR r g p hg hp ho (o-p.o) (by omega);rw[show p.o+(o-p.o)=o by omega,<-e1,hv] at this;cases this
 ·rcases dP lQ jM with ⟨rfl,rfl⟩|⟨hi,jM⟩
  ·rw[hg] at nY;cases nY
   rw[hp] at yf;cases yf;exact⟨rfl,rfl,fun e=>(by rw[ho] at e;cases e),fun _=>hl,.inr dS⟩
  ·rw[nY] at jM;cases jM
   refine⟨rfl,rfl,fun _=>rfl,fun e=>h.ext q x pq nY yf e,.inl ⟨rfl,fun j hj ⟨e1,e2,e3⟩=>?_⟩⟩;have hw:j<x.wid pq:=by
    unfold Rg.wid;cases od:x.own with
    |true=>have:=h.ext q x pq nY yf od;simp;omega
    |false=>simpa using hj
   rcases h.eT r q g x p pq hg hp nY yf ho (fun e=>hi e.symm) j hw e1 with h1|h1<;>omega
def qW (b y K:Nat)(cs:List SV)(n sz:Nat)(w:World)(e:aah)(w':World):Prop :=
 ∃b' y' x':Nat,e=.returned (.slice (some ⟨b',y',none⟩) n (x' / sz))/\((b'=b/\y'=y/\x'=K)\/w.heap.size<=b')/\cs.length<=x'/\0<x'/\(∀(j:Nat) (c:SV),cs[j]?=some c->∃v,c.den []=some v/\w'.cell? ⟨b',y'+j,none⟩=some v) /\
  (∀j,j<x'->(w'.cell? ⟨b',y'+j,none⟩).isSome=true/\w'.frozen? ⟨b',y'+j,none⟩=false)/\aW (fun k o=>k=b/\y<=o/\o<y+K) w w'
theorem qW.Qu {E:Env}{N:af}{rg:List Rg}{w w':World}{r:Nat}{g:Rg}{p:aS}{cs:List SV}{n sz:Nat}{e:aah}(h:Sat E N rg w)(hg:rg[r]?=some g)(hp:N[r]?=some p)(ho:g.own=true)(fm:g.ob=none)(hf:qW p.b p.o p.x cs n sz w e w') :
  ∃v N',e=.returned v/\N.le N'/\(SV.osl rg.length 0 n sz none).den N'=some v/\Sat E N' (rg.set r ⟨false,[],none⟩++[⟨true,cs,none⟩]) w':=by
 obtain⟨b',y',x',he,Yc,h1,h2,h3,h4,hc⟩:=hf;have lQ:r<rg.length:=(aag.1 hg).1;have ef:∀q:aS,(N++[q])[rg.length]?=some q:=fun q=>by rw[<-h.len];simp
 rcases Yc with ⟨rfl,rfl,rfl⟩|bM
 ·have hs:=h.cells hg hp ho hc cs h1 (fun j c hj=>by
   obtain⟨v,k1,k2⟩:=h3 j c hj;exact⟨v,SV.bf (N:=[]) (N':=N) (fun r p h=>by simp at h) c k1,k2⟩)
  have qy:=hs.cut (c:=0) (n:=cs.length) (g:={ g with cells:=cs }) (by rw[List.getElem?_set_self lQ]) hp ho (by simp);simp only[List.drop_zero,List.take_length,aa5,aap,aaO] at qy;exact⟨_,_,he,af.aZ _ _,by simp only[SV.den,ef,aS.cap];simp,qy⟩
 ·have hs:=(h.cells hg hp ho hc [] (aaF _) (fun j c hj=>by simp at hj)).wO (r:=r) (by simpa using lQ)
  rw[aa5] at hs;refine⟨_,_,he,af.aZ _ [⟨b',y',x'⟩],by simp only[SV.den,ef,aS.cap];simp,?_⟩;refine hs.vt (s0:=w.heap.size) (fun r p hp=>h.lt r p hp) bM h.aM.size ?_ h1 (fun j c hj=>?_) h4 (fun i=>?_) (fun i hd=>?_)
  ·obtain⟨v,hv⟩:=Option.isSome_iff_exists.1 (h4 0 h2).1
   exact aaM _ _ hv
  ·obtain⟨v,k1,k2⟩:=h3 j c hj
   exact⟨v,SV.bf (N:=[]) (N':=N) (fun r p h=>by simp at h) c k1,k2⟩
  ·cases hi:E.im b' i with
   |none=>rfl
   |some v=>have:=aaM _ _ (h.cK _ _ _ hi);simp at this;omega
  ·have:=(h.mj _ _ hd).lt
   omega
theorem be.val {E:Env}{N0:af}{rg:List Rg}{f:Fr}{op:Op}{r:SV}(h:∀(N:af) (ρ:aad->Value) (o:aac) (w:World),N0.le N->o.op=op->(∀x s,ev f x=some s->s.den N=some (ρ x))->Sat E N rg w->∃v,r.den N=some v/\(execOp ρ o).run E.P w=.ok (.value v) w):be E N0 rg f op r rg :=
 fun N ρ o w hN cC hf hS=>by
  obtain⟨v,h1,h2⟩:=h N ρ o w hN cC hf hS;exact .inl ⟨v,w,.inl h2,N,af.le.refl N,h1,hS⟩
def Bnd (f:Fr)(g:GK)(o:Option aad)(z:Option Nat):Prop:=match o,z with
 |none,none=>True
 |some p,some n=>∃kd s,hY f g p=some (.int kd s)/\(g.T->s.den=(n:Int))
 |_,_=>False
theorem Bnd.run {N:af}{f:Fr}{g:GK}{o:Option aad}{z:Option Nat}{ρ:aad->Value}(h:Bnd f g o z)(ht:g.T)(df:∀x s,hY f g x=some s->s.den N=some (ρ x)):(o=none/\z=none)\/∃k n,o.map ρ=some (.int k (n:Nat))/\z=some n:=by
 cases o with
 |none=>cases z with
  |none=>exact .inl ⟨rfl,rfl⟩
  |some n=>exact h.elim
 |some p=>cases z with
  |none=>exact h.elim
  |some n =>
   obtain⟨kd,s,h1,h2⟩:=h;have:=df _ _ h1;simp only[SV.den,h2 ht,aA] at this;exact .inr ⟨kd,n,by simp[<-this],rfl⟩
theorem zy {E:Env}{N0:af}{rg:List Rg}{f:Fr}{g:GK}{t e:aaA}{x:aad}{lo hi:Option aad}{zl zh:Option Nat}{r c n z c' n':Nat}{gg:Rg}(hx:hY f g x=some (.osl r c n z none))(hl:Bnd f g lo zl)(hh:Bnd f g hi zh)(hr:rg[r]?=some gg)(ho:gg.own=true)(hz:0<z)(hu:E.P.underlying t=some (.slice e))(hq:∀w,(sizeOf e).run E.P w=.ok z w)
  (h1:zl.getD 0<=zh.getD n) (h2:c+zh.getD n*z<=gg.cells.length) (h3:zl.getD 0=0\/c+(zl.getD 0+1)*z<=gg.cells.length) (hc:c'=c+zl.getD 0*z) (hn:n'=zh.getD n-zl.getD 0) :
  au E N0 rg f g (.slice t x lo hi none) (.osl r c' n' z none):=by
 intro ht N ρ o w ck cC df hV;have e1:=df _ _ hx;obtain⟨p,hp⟩:∃p,N[r]?=some p:=⟨_,aau (by have:=hV.1.len;have:=(aag.1 hr).1;omega)⟩;have gI:=hV.1.ext r gg p hr hp ho;simp only[SV.den,hp,aS.cap,aA] at e1;have x_:zh.getD n<=(p.x-c) / z:=(aaR hz).2 (by omega);have VQ:(p.x-c) / z-zl.getD 0=(p.x-(c+zl.getD 0*z)) / z:=by
  rw[<-Nat.sub_sub,Nat.mul_comm (zl.getD 0) z,Nat.sub_mul_div]
 refine⟨.slice (some ⟨p.b,p.o+c',none⟩) n' ((p.x-c') / z),by simp only[SV.den,hp,aS.cap],fun w' _=>?_⟩;have hb:=dI (P:=E.P) (w:=w') (gQ:=ρ) (b:=true) (len:=n) (cap:=(p.x-c) / z) (mx:=none) (m:=none) (hl.run ht df) (hh.run ht df) (.inl ⟨rfl,rfl⟩) h1 (by simpa using x_) (by simp) (by simp);simp only[Option.map_none,Option.getD_none] at hb;have adx:(none:Option aad).map ρ=none:=rfl;simp only[execOp,cC,<-e1,Instr.sliceAt,run_underlying hu,aaE,Result.andThen,Instr.slice,adx,hb,hq,abb,Option.map_some,dy,hn,hc,VQ]
 by_cases h:(p.x-c) / z=zl.getD 0
 ·have h0:zl.getD 0=0:=by
   rcases h3 with h3|h3
   ·exact h3
   ·have:zl.getD 0+1<=(p.x-c) / z:=(aaR hz).2 (by omega)
    omega
  simp[h0]
 ·simp[h,Nat.add_assoc]
theorem Bp {E:Env}{N0:af}{rg:List Rg}{f:Fr}{g:GK}{op:BinOp}{t ty:aaA}{x y:aad}{kd:IntKind}{s1 s2:SI}{r r0:SV}(hx:hY f g x=some (.int kd s1))(hy:hY f g y=some (.int kd s2))(h:Gt op kd (.v s1.den) (.v s2.den)=some r0)(hd:g.T->∀N v,r0.den N=some v->r.den N=some v):au E N0 rg f g (.binOp op t x y ty) r:=by
 intro ht N ρ o w ck cC df hV;have h1:=df _ _ hx;have h2:=df _ _ hy;simp only[SV.den,aA] at h1 h2;obtain⟨v,hv,_⟩:=oo (P:=E.P) (w:=w) (N:=N) h t;refine⟨v,hd ht N v hv,fun w' _=>?_⟩;obtain⟨v',Nh,a6⟩:=oo (P:=E.P) (w:=w') (N:=N) h t;rw[hv] at Nh;cases Nh;simp only[SI.den] at a6;have h3:(do eqGuard op t x y (ρ x) (ρ y);binOp op t (ρ x) (ρ y):Sem Value).run E.P w'=.ok v w':=by
  rw[<-h1,<-h2];simp only[aaE];rw[dN _ _ _ _ (by simp) (by simp)];simp[Result.andThen,a6]
 simp only[execOp,cC];rw[aaE,h3];rfl
theorem CY {α:Type}:∀(l:List α) (c:Nat) (s:α),c<=l.length->putAt l c s=l.take c++s::l.drop (c+1)
 | [],c,s,h=>by
  obtain rfl:c=0:=by simpa using h
  rfl
 |a::l,0,s,_=>rfl
 |a::l,c+1,s,h=>by simp[putAt,CY l c s (by simpa using h)]
theorem pu:∀(r l:List SV) (c:Nat),c<=l.length->setRow l c r=l.take c++r++l.drop (c+r.length)
 | [],l,c,_=>by simp[setRow]
 |s::r,l,c,h=>by
  have h2:(l.take c++[s]).length=c+1:=by simp;omega
  have e:putAt l c s=(l.take c++[s])++l.drop (c+1):=by rw[CY l c s h];simp
  rw[setRow,pu r _ (c+1) (by rw[e,aa3,h2];omega),e,aa0 (by omega),aa1 (by omega),List.drop_append,h2,List.drop_of_length_le (by omega),aa6,List.drop_drop];simp only[aas,aa2,List.cons_append,aa6]
  congr 4
  omega
theorem GW (z:List SV):∀n,(nu n z).length=n*z.length
 |0=>by simp[nu]
 |n+1=>by simp[nu,GW z n,Nat.add_mul];omega
end Go.bU
