import Derived.Test.YthpbefahaghbjaaGreatRi5
import Derived.Shelf.SlSorted.Search
import Derived.Laws.BytesArg
import Derived.Lib.Bytes
import Derived.Test.YthpbefahaghbjaaGreatPd2
open Bool renaming not_eq_true'→aaN,and_eq_true→abD
open Go renaming Operand→aal,TypeId→aar
open Go.Instr renaming sureAddr→aaR,indexAt→abh,loadAt→abi
open Go.IntKind renaming u64→aaq
open Go.Proofs.Tryz renaming prog→aac,results88→aag,f88→aai,results68→aaz,results86→aaA,underlying153→aaI,sizeOf4→aaJ,isAgg5→aaK,results89→aaL,results110→aaM,underlying135→aaT,sizeOf148→aaU,results90→aaV,call90→aaW,f68→aaX,f110→aaY,func102→abq,isAgg29→abr,isAgg4→abt,results109→abu,call123→abv,underlying30→abw,sizeOf5→abx,results98→aby,call110→abz,call109→abA,results97→abB,f86→abC
open Go.Result renaming andThen→aan
open Go.Sem renaming run_bind→aax,run_pure→aaF
open Int renaming mul_assoc→aaZ,tdiv_eq_ediv_of_nonneg→aa0,tmod_eq_emod_of_nonneg→aa1,mul_add→abE,mul_left_comm→abF
open List renaming getElem?_eq_getElem→aae,getElem?_eq_some_iff→aah,mem_of_getElem?→aaj,getElem?_append_left→aam,nil_append→aao,mem_singleton→aap,mem_map→aas,cons_append→aau,mem_cons→aav,not_mem_nil→aaw,getElem?_set_self→aaB,range→aaD,all_eq_true→aaE,getElem?_append_right→aaO,length_append→aaP,getElem?_set_ne→aaQ,getElem_mem→aa2,length_singleton→aa3,length_pos_iff→aa4,mergeSort_perm→aa5,mem_filter→aa6,mem_range→aa7,eq_nil_of_length_eq_zero→aa8,size_toArray→aa9,eq_nil_or_concat→aba,foldl_append→abb,take_add_one→abc,take_of_length_le→abf
open Nat renaming beq→aad,le_refl→aak,eq_of_beq_eq_true→aay,blt→aaC,lt_of_sub_eq_succ→aaG,add_zero→aaH,zero_le→aaS,add_assoc→abj,lt_of_lt_of_le→abk,mod_lt→abl,sub_self→abm,eq_zero_or_pos→abn,lt_or_ge→abo,beq_refl→abp
open Option renaming some→aaf
set_option maxHeartbeats 16000000
set_option maxRecDepth 100000
set_option cbv.maxSteps 100000000
namespace Go.Proofs.YthpbefahaghbjaaGreat
open Go Go.bU Go.Sort
theorem Bo {E:Env}{N0:af}{rg:List Rg}{f:Fr}{g:GK}{t e:aar}{x ix:aal}{n z q r o c:Nat}{kd:IntKind}{s:SI}(hx:hY f g x=some (.own r o))(lB:hY f g ix=some (.int kd s))(hz:g.T->s.den=(z:Int))(hu:E.P.underlying t=some (.array n e))(hq:∀w,(sizeOf e).run E.P w=.ok q w)
  (aF:z<n) (hc:c=o+z*q) (hr:r<rg.length):au E N0 rg f g (.indexAddr t x ix) (.own r c):=by
 intro ht N ρ op w ck cC df hV;have h1:=df _ _ hx;have h2:=df _ _ lB;obtain⟨p,hp⟩:∃p,N[r]?=some p:=⟨_,aae (by have:=hV.1.len;omega)⟩;simp only[SV.den,hp,hz ht,aA] at h1 h2;refine⟨.pointer (some ⟨p.b,p.o+c,none⟩),by simp only[SV.den,hp],fun w' _=>?_⟩;simp only[execOp,cC,<-h1,<-h2,aax,aan,aaF];have RL:(z:Int)<n:=by omega
 simp[abh,asIntOf,run_underlying hu,aaR,aan,aF,hq,dy,hc,abj]
theorem xw {E:Env}{N0:af}{rg:List Rg}{f:Fr}{g:GK}{t:aar}{x:aal}{r c:Nat}{gg:Rg}{rs:SV}(hx:hY f g x=some (.own r c))(ha:∀w,(isAgg t).run E.P w=.ok false w)(hr:rg[r]?=some gg)(hc:gg.cells[c]?=some rs):au E N0 rg f g (.load t x) rs:=by
 intro _ N ρ o w ck cC df hV;have h1:=df _ _ hx;obtain⟨p,hp⟩:∃p,N[r]?=some p:=⟨_,aae (abk (aah.1 hr).1 hV.1.len)⟩;simp only[SV.den,hp,aA] at h1;obtain⟨v,hv,_⟩:=hV.1.cell r gg p hr hp c rs hc;refine⟨v,hv,fun w' Pz=>?_⟩;obtain⟨v',Nh,iB⟩:=Pz.1.cell r gg p hr hp c rs hc;rw[hv] at Nh;cases Nh;simp only[execOp,cC,<-h1,abi,aaR,loadVar,aax,aaF,aan,ha,Bool.false_eq_true,if_false];simp[iB]
theorem MK {E:Env}{N0:af}{rg:List Rg}{f:Fr}{g:GK}{t ty:aar}{x y:aal}{kd:IntKind}{s1 s2 r:SI}(hx:hY f g x=some (.int kd s1))(hy:hY f g y=some (.int kd s2))(hz:g.T->s2.den≠0/\r.den=s1.den.tmod s2.den):au E N0 rg f g (.binOp .rem t x y ty) (.int kd r):=by
 intro ht N ρ o w ck cC df hV;have h1:=df _ _ hx;have h2:=df _ _ hy;simp only[SV.den,aA] at h1 h2;obtain⟨bH,hr⟩:=hz ht;refine⟨.int kd r.den,rfl,fun w' _=>?_⟩;have h3:(do eqGuard .rem t x y (ρ x) (ρ y);binOp .rem t (ρ x) (ρ y):Sem Value).run E.P w'=.ok (.int kd r.den) w':=by
  rw[<-h1,<-h2];simp only[aax];rw[dN _ _ _ _ (by simp) (by simp)];simp[aan,binOp,Op.intDiv,bH,hr]
 simp only[execOp,cC];rw[aax,h3];rfl
theorem CJ {T:aQ}{n:Nat}{all:Array Oper}{i:Nat}{s:St}{o:Oper}{t:aar}{x y:aal}{r c:Nat}{v:SV}{ti:TI}{g:Rg}{lz:List SV}(ho:nth all.toList i=some o)(Gm:sure all s.fr o=true)(cC:o.op=.store t x y)(hd:o.dst=none)(hx:ev s.fr x=some (.own r c))(hy:ev s.fr y=some v)(ht:bo T t=some ti)
  (hg:nth s.rg r=some g) (qu:g.own=true) (hl:aad v.cells.length ti.size=true) (hle:c+ti.size<=g.cells.length) (h1:v.cells.all SV.one=true) (dS:setRow g.cells c v.cells=lz):TX T n all i s ⟨s.fr,s.rg.set r { g with cells:=lz }⟩:=by
 refine⟨?_⟩;have Vb:Nat.ble (c+ti.size) g.cells.length=true:=Nat.ble_eq_true_of_le hle;simp only[uW,ho,Gm,cond_true,cC,nl,hx,hy,ht,hg,qu,hl,Vb,h1,Bool.and_self,dS,hd,eK]
def EX (k r:Nat):Nat:=if r<k then r else r+1
theorem CP {α:Type}{A B:List α}{x v:α}{r:Nat}(h:(A++B)[r]?=some v):(A++x::B)[EX A.length r]?=some v:=by
 unfold EX
 by_cases hr:r<A.length
 ·rw[if_pos hr,aam hr]
  rwa [aam hr] at h
 ·rw[if_neg hr,aaO (by omega)]
  rw[aaO (by omega)] at h;rw[show r+1-A.length=(r-A.length)+1 by omega,List.getElem?_cons_succ];exact h
theorem LR {k r r':Nat}(h:r≠r'):EX k r≠EX k r':=by unfold EX;split<;>split<;>omega
theorem Sat.vP {E:Env}{A B:af}{x:aS}{rA rB:List Rg}{g0:Rg}{w:World}(hl:A.length=rA.length)(h:Sat E (A++x::B) (rA++g0::rB) w)(hc:∀g∈rA++rB,∀c∈g.cells,∀v,c.den (A++x::B)=some v->c.den (A++B)=some v)(fm:∀g∈rA++rB,g.ob=none):Sat E (A++B) (rA++rB) w:=by
 have gs:∀{r:Nat} {g:Rg},(rA++rB)[r]?=some g->(rA++g0::rB)[EX A.length r]?=some g:=fun h=>by rw[hl];exact CP h
 have ns:∀{r:Nat} {p:aS},(A++B)[r]?=some p->(A++x::B)[EX A.length r]?=some p:=fun h=>CP h
 refine⟨by have:=h.len;simp at this ⊢;omega,fun r p hp=>h.lt _ p (ns hp),fun r g p hg hp j c hj=>?_,fun r g p hg hp=>h.ext _ g p (gs hg) (ns hp),fun r g p hg hp=>h.room _ g p (gs hg) (ns hp),
  fun r r' g g' p p' hg hp eN lC ho bH=>h.eT _ _ g g' p p' (gs hg) (ns hp) (gs eN) (ns lC) ho (LR bH),fun r g p ob hg hp ho=>?_,fun r r' g g' p p' hg hp eN lC ho _ _=>?_,h.cK,fun r g p hg hp=>h.lR _ g p (gs hg) (ns hp),fun r g p hg hp=>h.dd _ g p (gs hg) (ns hp),h.mj,h.loc,h.fH,h.aM,fun r g p hg hp=>h.dG _ g p (gs hg) (ns hp)⟩
 ·obtain⟨v,h1,h2⟩:=h.cell _ g p (gs hg) (ns hp) j c hj
  exact⟨v,hc g (aaj hg) c (aaj hj) v h1,h2⟩
 ·rw[fm g (aaj hg)] at ho;cases ho
 ·rw[fm g (aaj hg)] at ho;cases ho
theorem X.vP {E:eR}{k:List It}(h0:E.N0=[]){f:Fr}(f':Fr)(rA:List Rg){g0:Rg}{rB:List Rg}(hs:∀(A:af) x B,A.length=rA.length->Sh (A++x::B) (A++B) f f')(hc:∀g∈rA++rB,∀c∈g.cells,∀(N N':af) (v:Value),c.den N=some v->c.den N'=some v)(fm:∀g∈rA++rB,g.ob=none)(h:X E k ⟨f',rA++rB⟩):X E k ⟨f,rA++g0::rB⟩:=by
 refine X.conv fun N a w hN hf hS=>?_
 have hlen:=hS.len;obtain⟨A,R,rfl,hA⟩:∃A R,N=A++R/\A.length=rA.length:=⟨N.take rA.length,N.drop rA.length,(List.take_append_drop _ _).symm,by simp at hlen ⊢;omega⟩;cases R with
 |nil=>simp at hlen;omega
 |cons x B=>exact⟨E,⟨f',rA++rB⟩,rfl,rfl,rfl,rfl,⟨A++B,by rw[h0];exact fun r p h=>by simp at h,hf.sh (hs A x B hA),Sat.vP hA hS (fun g hg c iB v=>hc g hg c iB _ _ v) fm⟩,h⟩
theorem We {α:Type}{l:List α}(h:l.length=3):∃a b c,l=[a,b,c]:=by
 match l,h with
 | [a,b,c],_=>exact⟨a,b,c,rfl⟩
def uq (b o:Nat)(L:List (Int × Int))(w:World):Prop:=∀j,j<L.length->w.cell? ⟨b,o+j*2,none⟩=some (.int .u64 L[j]!.1)/\w.cell? ⟨b,o+j*2+1,none⟩=some (.int .u8 L[j]!.2)
theorem uq.of {b o:Nat}{L:List (Int × Int)}{w:World}(h:HoldsK DD 2 w b o L.toArray):uq b o L w:=fun j hj=>by
 have h1:=(h (j*2) (by rw[size_flatK];simp;omega)).1;have h2:=(h (j*2+1) (by rw[size_flatK];simp;omega)).1;rw[get_flatK _ _ _ _ (by simp;omega)] at h1 h2;rw[show j*2 / 2=j by omega,show j*2 % 2=0 by omega] at h1;rw[show(j*2+1) / 2=j by omega,show(j*2+1) % 2=1 by omega] at h2;have e:L.toArray[j]! = L[j]! := by simp
 rw[e] at h1 h2;exact⟨h1,h2⟩
theorem uq.stays {b o:Nat}{L:List (Int × Int)}{w w':World}(h:uq b o L w)(hc:aW (fun _ _=>False) w w'):uq b o L w':=fun j hj=>⟨bw hc (fun h=>h) (h j hj).1,bw hc (fun h=>h) (h j hj).2⟩
theorem Lm (b o m c i b3 o3 b7 o7:Nat)(p:Option Addr)(kh:Int)(L:List (Int × Int))(w:World)(hp:p=some ⟨b,o,none⟩)(hm:L.length=m)(hi:i<m)(fA:m<4611686018427387904)(hL:uq b o L w)
  (h3:w.cell? ⟨b3,o3,none⟩=some (.slice p m c)) (h7:w.cell? ⟨b7,o7,none⟩=some (.int .u64 kh)) :
  Calls aac 102 #[.int .i64 i,.pointer (some ⟨b3,o3,none⟩),.pointer (some ⟨b7,o7,none⟩)] w fun e w'=>e=.returned (.bool (decide (kh<=L[i]!.1)))/\aW (fun _ _=>False) w w':=by
 obtain⟨h,hh⟩:∃h,h=L[i]!.1:=⟨_,rfl⟩;rw[<-hh];refine X.begin (rg:=[]) (N:=[]) (ss:=[.int .i64 (.nat i),.ext b3 o3 0,.ext b7 o7 0]) abq rfl Np rfl rfl Sat.bp ?_;obtain⟨oi,pP⟩:∃q,q=o+i*2:=⟨_,rfl⟩;have e3:ab [] [] w b3 (o3+0)=some (.slice p m c):=by rw[dD];exact h3
 have e7:ab [] [] w b7 (o7+0)=some (.int .u64 kh):=by rw[dD];exact h7
 have ei:ab [] [] w b (oi+0)=some (.int .u64 h):=by rw[dD,pP,hh];exact(hL i (by omega)).1
 refine X.dk ([(5,.ao p m c),(7,.ext b oi 0),(9,.int .u64 (.v h)),(10,.int .u64 (.v kh))]) FO 400 _ rfl Tryz.results102 (fun pr fin aj ai=>?_)
 conv=>cbv
 refine⟨aj _ (au.eC rfl abr (fun _=>rfl) fun _=>e7),aj _ (au.eC rfl abr (fun _=>rfl) fun _=>ei),aj _ (au.at (z:=i) rfl rfl (fun _=>rfl) aaT aaU (fun _=>hi) hp pP),aj _ (au.eC rfl Tryz.isAgg135 (fun _=>rfl) fun _=>e3),ai _ _ ?_⟩;refine X.done FO rfl (fun N w' v hN hS hv=>⟨aw hv ?_,hS.aM.mono fun k o _ h=>aB h⟩);simp only[SB.den,SI.den];exact decide_eq_decide.2 Iff.rfl
def Hp (L:List (Int × Int))(kh:Int):Nat:=(aaD L.length).countP fun i=>!decide (kh<=L[i]!.1)
theorem JW (L:List (Int × Int))(kh:Int):Hp L kh<=L.length:=by
 have:=List.countP_le_length (p:=fun i=>!decide (kh<=L[i]!.1)) (l:=aaD L.length)
 simpa[Hp] using this
def zL (L:List (Int × Int)):Prop:=∀a b,a<=b->b<L.length->L[a]!.1<=L[b]!.1
theorem ID (b o m c b3 o3 b7 o7:Nat)(p:Option Addr)(kh:Int)(L:List (Int × Int))(w:World)(hp:0<m->p=some ⟨b,o,none⟩)(hm:L.length=m)(fA:m<4611686018427387904)(hL:uq b o L w)(hR:zL L)
  (h3:w.cell? ⟨b3,o3,none⟩=some (.slice p m c)) (h7:w.cell? ⟨b7,o7,none⟩=some (.int .u64 kh)) :
  Calls aac 101 #[.int .i64 m,.func (.func 102) #[] #[.pointer (some ⟨b3,o3,none⟩),.pointer (some ⟨b7,o7,none⟩)]] w fun e w'=>e=.returned (.int .i64 (Hp L kh))/\aW (fun _ _=>False) w w':=by
 have key:=Any.sort_Search Tryz.Qx 102 #[.pointer (some ⟨b3,o3,none⟩),.pointer (some ⟨b7,o7,none⟩)] m (fun i=>decide (kh<=L[i]!.1)) w (enters_of abq (by kernel_rfl) rfl) fA (fun q os i hi=>by
  have hc:aW (fun _ _=>False) w (Go.Sort.grow (w.drewN q) os):=(aW.drewN q).trans (rj _ os) fun _ _ _ h=>h
  exact(Lm b o m c i b3 o3 b7 o7 p kh L _ (hp (by omega)) hm hi fA (hL.stays hc) (bw hc (fun h=>h) h3) (bw hc (fun h=>h) h7)).mono fun _ _ ⟨h1,h2⟩=>⟨h1,h2.grown⟩) (fun a b Rb hb ha=>by
  have:=hR a b Rb (by omega);have ha:kh<=L[a]!.1:=of_decide_eq_true ha;exact decide_eq_true (by omega))
 refine Calls.mono key fun e w' ⟨he,q,os,hw⟩=>⟨?_,?_⟩
 ·rw[he,Hp,hm]
 ·rw[hw]
  exact(aW.drewN q).trans (rj _ os) fun _ _ _ h=>h
def gE (R:Nat->Int)(many:Int):Nat->Nat->List Int->List Int
 |0,_,out=>out
 |k+1,i,out=>if many<=out.length then out else gE R many k (i+1) (if R i∈out then out else out++[R i])
def nodeAt (L:List (Int × Int))(s i:Nat):Int:=L[(s+i) % L.length]!.2
def gA (L:List (Int × Int))(key many:Int):List Int:=gE (nodeAt L (Hp L (mL key))) many L.length 0 []
def fx (l:List Int)(w:World)(e:Ending)(w':World):Prop :=
 ∃p c,e=.returned (.slice p l.length c)/\l.length<=c/\(l=[]/\p=none/\c=0\/l≠[]/\∃b o,p=some ⟨b,o,none⟩/\w.heap.size<=b/\fh w' b o l.toArray)/\aW (fun _ _=>False) w w'
def dR (l:List Int):List SV:=l.map fun x=>.int .u8 (.v x)
def Ii (l:List Int):SV:=match l with | []=>.raw (.slice none 0 0)|_::_=>.osl 3 0 l.length 1 none
def Ih (l:List Int):List Rg:=match l with | []=>[]|_::_=>[⟨true,dR l,none⟩]
theorem wD {l:List Int}(h:l≠[]):Ii l=.osl 3 0 l.length 1 none:=by cases l with|nil=>exact absurd rfl h|cons=>rfl
theorem wC {l:List Int}(h:l≠[]):Ih l=[⟨true,dR l,none⟩]:=by cases l with|nil=>exact absurd rfl h|cons=>rfl
theorem jR {l:List Int}{m:Nat}:(dR l).all (bd m)=true:=aaE.2 fun c hc=>by
 obtain⟨x,_,rfl⟩:=aas.1 hc;rfl
theorem jm {l:List Int}{c:SV}{N N':af}{v:Value}(h:c∈dR l)(hv:c.den N=some v):c.den N'=some v:=by
 obtain⟨x,_,rfl⟩:=aas.1 h;exact hv
theorem nP (l:List Int):(dR l).length=l.length:=by simp[dR]
def s9 (l:List Int)(x:Nat):Bool:=decide ((x:Int)∈l)
def lX (l:List Int):List SV:=(aaD 256).map fun x=>.bool (.v (s9 l x))
theorem lY (l:List Int):(lX l).length=256:=by simp[lX]
theorem rE (l:List Int){x:Nat}(h:x<256):(lX l)[x]?=some (.bool (.v (s9 l x))):=by simp[lX,h]
theorem v8 {l:List Int}{x:Nat}{c:SV}(h:(lX l)[x]?=some c):x<256/\c=.bool (.v (s9 l x)):=by
 have hx:x<256:=by
  have:=(aah.1 h).1
  rwa [lY] at this
 rw[rE l hx] at h;exact⟨hx,(aaf.inj h).symm⟩
theorem uR {l:List Int}{m:Nat}:(lX l).all (bd m)=true:=aaE.2 fun c hc=>by
 obtain⟨x,_,rfl⟩:=aas.1 hc;rfl
theorem v7 {l:List Int}{c:SV}{N N':af}{v:Value}(h:c∈lX l)(hv:c.den N=some v):c.den N'=some v:=by
 obtain⟨x,_,rfl⟩:=aas.1 h;exact hv
structure KG (m:Nat) (R:Nat->Int) (many:Int) (F:List Int) (i:Nat) (out:List Int):Prop where
 le:i<=m
 go:gE R many (m-i) i out=F
 len:out.length<=i
theorem EO (b o m c:Nat)(p:Option Addr)(L:List (Int × Int))(key many:Int)(w:World)(hp:0<m->p=some ⟨b,o,none⟩)(hm:L.length=m)(hle:m<=8000)(hL:uq b o L w)(hR:zL L)(hN:∀x∈L,0<=x.2/\x.2<256) :
  Calls aac 88 #[.slice p m c,.int .u8 key,.int .i64 many] w (fx (gA L key many) w):=by
 obtain⟨kh,YE⟩:∃k,k=mL key:=⟨_,rfl⟩;obtain⟨s0,Je⟩:∃s,s=Hp L kh:=⟨_,rfl⟩;have ajM:s0<=m:=by rw[Je,<-hm];exact JW L kh
 obtain⟨R,hRR⟩:∃R,R=nodeAt L s0:=⟨_,rfl⟩;obtain⟨F,hF⟩:∃F,F=gA L key many:=⟨_,rfl⟩;have hFg:gE R many m 0 []=F:=by rw[hF,gA,<-YE,<-Je,<-hRR,hm]
 rw[<-hF];refine X.begin (rg:=[]) (N:=[]) (ss:=[.ao p m c,.int .u8 (.v key),.int .i64 (.v many)]) Tryz.func88 rfl Tq rfl rfl Sat.bp ?_;obtain⟨im,ct⟩:∃im,im=ab [] [] w:=⟨_,rfl⟩;show X (aK aac aai (fx F w) w (bq [] []) (ab [] [] w) (fun _ _=>False) (fun _=>True) [] I3) _ _;rw[<-ct];refine X.dk ([(14,.int .u64 (.v kh))]) dh 400 _ rfl aag (fun pr fin aj ai=>?_)
 conv=>cbv
 refine⟨aj _ (.of Tryz.call100 [.int .u8 key] (.int .u64 kh) (fun _=>rfl) (fun _=>rfl) fun _ w1 _=>by rw[YE];exact Wd key w1),ai _ _ ?_⟩;refine X.call rfl rfl rfl rfl Tryz.call101 (fun N w1 args dQ hS ha=>?_);obtain⟨q3,PY⟩:∃p,N[0]?=some p:=⟨_,aae (by rw[hS.len];simp)⟩;obtain⟨q7,hq7⟩:∃p,N[1]?=some p:=⟨_,aae (by rw[hS.len];simp)⟩;obtain⟨_,e3,c3⟩:=hS.cell 0 _ q3 rfl PY 0 _ rfl;obtain⟨_,e7,c7⟩:=hS.cell 1 _ q7 rfl hq7 0 _ rfl;simp only[SV.den,SI.den,aA] at e3 e7;subst e3 e7;have ha:args=[.int .i64 m,.func (.func 102) #[] #[.pointer (some ⟨q3.b,q3.o+0,none⟩),.pointer (some ⟨q7.b,q7.o+0,none⟩)]]:=by
  simp only[SV.ap,SV.den,SI.den,PY,hq7] at ha;exact(aaf.inj ha).symm
 rw[ha];refine(ID b o m c _ _ _ _ p kh L w1 hp hm (by omega) (hL.stays hS.aM.none) hR c3 c7).mono fun e w2 ⟨he,bV⟩=>⟨_,he,?_⟩
 rw[<-Je];refine Goes.same dQ hS bV (r:=.int .i64 (.nat s0)) rfl rfl ?_;clear ha c3 c7 PY hq7 hS dQ;refine X.go dh 400 _ rfl aag ?_
 conv=>arg 2;cbv
 refine X.mR 2 ⟨true,List.replicate 256 (.bool (.lit false)),none⟩ (lX []) rfl (by rw[lY];rfl) (fun N _ j c c' h1 h2 v hv=>?_) ?_
 ·obtain⟨_,rfl⟩:=v8 h2
  have:c=.bool (.lit false):=by
   have:=aaj h1
   simpa using(List.mem_replicate.1 this).2
  subst this;rw[<-hv];simp[SV.den,SB.den,s9]
 show X (aK aac aai (fx F w) w (bq [] []) im (fun _ _=>False) (fun _=>True) [] I3) _ ⟨_,[⟨true,[.ao p m c],none⟩,⟨true,[.int .u64 (.v kh)],none⟩,⟨true,lX [],none⟩]⟩;refine X.loop (fun _:{g:Nat × List Int // KG m R many F g.1 g.2}=>aK aac aai (fx F w) w (bq [] []) im (fun _ _=>False) (fun _=>True) [] I3)
  (fun g=>⟨[(2,.val (.int .i64 (.v many))),(3,.val (.own 0 0)),(8,.val (.int .i64 (.nat s0))),(9,.val (.own 2 0)),(10,.val (Ii g.1.2)),(20,.val (.int .i64 (.nat m))),(21,.val (.int .i64 (.nat g.1.1)))],⟨true,[.ao p m c],none⟩::⟨true,[.int .u64 (.v kh)],none⟩::⟨true,lX g.1.2,none⟩::Ih g.1.2⟩) (fun g=>m-g.1.1) (fun _=>⟨rfl,rfl,rfl,rfl⟩) (fun N ac w' hN hf hS=>⟨⟨(0,[]),⟨aaS _,hFg,aak _⟩⟩,?_⟩) (fun g q hq=>?_)
 ·show At (aK aac aai (fx F w) w (bq [] []) im (fun _ _=>False) (fun _=>True) [] I3) ⟨[(2,.val (.int .i64 (.v many))),(3,.val (.own 0 0)),(8,.val (.int .i64 (.nat s0))),(9,.val (.own 2 0)),(10,.val (.raw (.slice none 0 0))),(20,.val (.int .i64 (.nat m))),(21,.val (.int .i64 (.nat 0)))],[⟨true,[.ao p m c],none⟩,⟨true,[.int .u64 (.v kh)],none⟩,⟨true,lX [],none⟩]⟩ ac w'
  exact At.eJ hf hS ⟨fun h=>h,aR.refl rfl,rfl,fun h=>h,aR.refl rfl,rfl,fun h=>h,aR.refl uR,rfl,trivial⟩
 obtain⟨⟨i,l⟩,pF,tf,hlen⟩:=g;simp only at pF tf hlen;show X (aK aac aai (fx F w) w (bq [] []) im (fun _ _=>False) (fun _=>True) [] I3) _ ⟨[(2,.val (.int .i64 (.v many))),(3,.val (.own 0 0)),(8,.val (.int .i64 (.nat s0))),(9,.val (.own 2 0)),(10,.val (Ii l)),(20,.val (.int .i64 (.nat m))),(21,.val (.int .i64 (.nat i)))],⟨true,[.ao p m c],none⟩::⟨true,[.int .u64 (.v kh)],none⟩::⟨true,lX l,none⟩::Ih l⟩;obtain⟨hd,xE⟩:∃h,h=lX l:=⟨_,rfl⟩;have hbd:∀m,hd.all (bd m)=true:=fun m=>by rw[xE];exact uR
 rw[<-xE]
 by_cases hz:l=[]
 ·skip
  rw[hz] at xE tf hlen ⊢;show X (aK aac aai (fx F w) w (bq [] []) im (fun _ _=>False) (fun _=>True) [] I3) _ ⟨[(2,.val (.int .i64 (.v many))),(3,.val (.own 0 0)),(8,.val (.int .i64 (.nat s0))),(9,.val (.own 2 0)),(10,.val (.raw (.slice none 0 0))),(20,.val (.int .i64 (.nat m))),(21,.val (.int .i64 (.nat i)))],[⟨true,[.ao p m c],none⟩,⟨true,[.int .u64 (.v kh)],none⟩,⟨true,hd,none⟩]⟩;refine X.go dh 400 _ rfl aag ?_
  conv=>arg 2;cbv
  refine X.cond rfl (fun aF=>?_) (fun cJ=>?_)
  ·simp only[SB.T,SI.den] at aF
   have aF:i<m:=by omega
   have EA:m-i=(m-(i+1))+1:=by omega
   rw[EA,gE] at tf;refine X.go dh 400 _ rfl aag ?_
   conv=>arg 2;cbv
   refine X.cond rfl (fun tY=>?_) (fun iq=>?_)
   ·simp only[SB.T,SI.den] at tY
    have tY:many<=(0:Int):=tY;refine X.go dh 400 _ rfl aag ?_
    conv=>arg 2;cbv
    have x6:F=[]:=by rw[if_pos (by simpa using tY)] at tf;exact tf.symm
    refine X.done dh rfl (fun N w' v hN hS hv=>?_);simp[bz,SV.den,bc] at hv;exact⟨none,0,by rw[<-hv,x6];rfl,by rw[x6];exact aak _,.inl ⟨x6,rfl,rfl⟩,hS.aM.none⟩
   ·simp only[SB.F,SI.den] at iq
    have iq:¬many<=(0:Int):=fun h=>absurd h (by have hr:=iq;simpa using hr)
    rw[if_neg (by simpa using iq)] at tf;obtain⟨z,jq⟩:∃z,z=(s0+i) % m:=⟨_,rfl⟩;have hzm:z<m:=by rw[jq];exact abl _ (by omega)
    obtain⟨oz,RA⟩:∃q,q=o+z*2:=⟨_,rfl⟩;have hRi:R i=L[z]!.2:=by rw[hRR,nodeAt,hm,jq]
    obtain⟨x,hx⟩:∃x,x=R i:=⟨_,rfl⟩;obtain⟨xz,Nj,wl⟩:∃y:Nat,x=(y:Int)/\y<256:=by
     have kQ:L[z]! ∈ L:=by rw[getElem!_pos L z (by omega)];exact aa2 _
     have:=hN _ kQ;exact⟨x.toNat,by omega,by omega⟩
    rw[<-hx] at tf;have lB:im b (oz+1)=some (.int .u8 x):=by rw[ct,dD,RA,hx,hRi];exact(hL z (by omega)).2
    obtain⟨t,ht⟩:∃t,t=s9 [] xz:=⟨_,rfl⟩;have hdx:hd[xz]?=some (.bool (.v t)):=by rw[xE,ht];exact rE _ wl
    refine X.dk ([(34,.int .i64 (.nat z)),(35,.ext b oz 0),(37,.int .u8 (.v x)),(39,.own 2 xz),(40,.bool (.v t))]) dh 400 _ rfl aag (fun pr fin aj ai=>?_)
    conv=>cbv
    refine⟨aj _ (xw rfl abt rfl hdx),aj _ (Bo (z:=xz) rfl rfl (fun _=>Nj) aaI aaJ wl (by omega) (aaG rfl)),aj _ (au.eC rfl aaK (fun _=>rfl) fun _=>lB),aj _ (au.at (z:=z) rfl rfl (fun _=>rfl) aaT aaU (fun _=>hzm) (hp (by omega)) RA),aj _ (MK rfl rfl (fun _=>by simp (disch:=omega) only [SI.den,a_];exact⟨by omega,by rw[jq];rfl⟩)),ai _ _ ?_⟩;refine X.cond rfl (fun bM=>?_) (fun hold=>?_)
    ·simp only[SB.T,SB.F] at bM
     have htf:t=false:=by simpa using bM
     have hnm:¬x∈([]:List Int):=by simp
     rw[if_neg hnm] at tf;refine X.dk ([(43,.own 2 xz)]) dh 4 _ rfl aag (fun pr fin aj ai=>?_)
     conv=>cbv
     refine⟨aj _ (Bo (z:=xz) rfl rfl (fun _=>Nj) aaI aaJ wl (by omega) (aaG rfl)),ai _ _ ?_⟩;have s_:hd.length=256:=by rw[xE];exact lY _
     refine X.oD dh (CJ (v:=.bool (.lit true)) (g:=⟨true,hd,none⟩) (lz:=setRow hd xz [.bool (.lit true)]) rfl rfl rfl rfl rfl rfl rfl rfl rfl rfl (by show xz+1<=hd.length;omega) rfl rfl) ?_;refine X.mR 2 ⟨true,setRow hd xz [.bool (.lit true)],none⟩ (lX ([]++[x])) rfl (by rw[lY,lG _ _ _ (by omega)];simp;omega) (fun N _ j c c' h1 h2 v hv=>?_) ?_
     ·obtain⟨hj,rfl⟩:=v8 h2
      simp only at h1;rw[zm _ _ _ _ (by simp;omega)] at h1
      by_cases e:j=xz
      ·subst e
       rw[if_pos (by simp),abm] at h1;obtain rfl:c=.bool (.lit true):=(aaf.inj h1).symm;rw[<-hv];simp[SV.den,SB.den,s9,Nj]
      ·rw[if_neg (by simp;omega),xE,rE _ hj] at h1
       obtain rfl:=(aaf.inj h1).symm;have bH:¬(j:Int)=x:=by omega
       rw[<-hv];simp[SV.den,SB.den,s9,bH]
     obtain⟨gT,ya⟩:∃h,h=lX ([]++[x]):=⟨_,rfl⟩;rw[<-ya];have PC:∀m,gT.all (bd m)=true:=fun m=>by rw[ya];exact uR
     show X (aK aac aai (fx F w) w (bq [] []) im (fun _ _=>False) (fun _=>True) [] I3) _ ⟨_,[⟨true,[.ao p m c],none⟩,⟨true,[.int .u64 (.v kh)],none⟩,⟨true,gT,none⟩]⟩;refine X.go dh 5 _ rfl aag ?_
     conv=>arg 2;cbv
     refine X.oD (T:=T88) dh (du (te:=fo) (new:=[.int .u8 (.v x)]) (m:=1) rfl rfl rfl rfl rfl rfl rfl rfl (aY (g:=⟨true,[.int .u8 (.v x)],none⟩) rfl rfl rfl rfl) (q9 (by decide) (bL (by decide) rfl rfl rfl (by decide) (by decide))) rfl) ?_;refine X.go dh 400 _ rfl aag ?_
     conv=>arg 2;cbv
     refine X.less [2,3,8,9,10,20,21] ?_;refine X.vP rfl [(21,.val (.int .i64 (.wrap .i64 (.add (.nat i) (.lit 1))))),(10,.val (.osl 3 0 1 1 none)),(2,.val (.int .i64 (.v many))),(3,.val (.own 0 0)),(8,.val (.int .i64 (.nat s0))),(9,.val (.own 2 0)),(20,.val (.int .i64 (.nat m)))] [⟨true,[.ao p m c],none⟩,⟨true,[.int .u64 (.v kh)],none⟩,⟨true,gT,none⟩] (rB:=[⟨true,[.int .u8 (.v x)],none⟩]) (fun A x B hA=>by obtain⟨a1,a2,a3,rfl⟩:=We hA;exact⟨rfl,fun _ h=>h,rfl,fun _ h=>h,rfl,fun _ h=>h,rfl,fun _ h=>h,rfl,fun _ h=>h,rfl,fun _ h=>h,rfl,fun _ h=>h,trivial⟩) (fun g hg c hc N N' v hv=>?_) (fun g hg=>?_) ?_
     ·simp only[aau,aao,aav,aaw,or_false] at hg
      rcases hg with rfl|rfl|rfl|rfl
      ·obtain rfl:c=.ao p m _:=aap.1 hc
       exact hv
      ·obtain rfl:c=.int .u64 (.v kh):=aap.1 hc
       exact hv
      ·exact v7 (by rw[<-ya];exact hc) hv
      ·exact jm (l:=[x]) hc hv
     ·simp only[aau,aao,aav,aaw,or_false] at hg
      rcases hg with rfl|rfl|rfl|rfl<;>rfl
     refine X.back (fun N ac w' hN hf hS=>hq ⟨(i+1,[]++[x]),⟨by simp only;omega,tf,by simp only[aaP,aa3];simp⟩⟩ ac w' (by simp only;omega) ?_);show At (aK aac aai (fx F w) w (bq [] []) im (fun _ _=>False) (fun _=>True) [] I3) ⟨[(2,.val (.int .i64 (.v many))),(3,.val (.own 0 0)),(8,.val (.int .i64 (.nat s0))),(9,.val (.own 2 0)),(10,.val (Ii ([]++[x]))),(20,.val (.int .i64 (.nat m))),(21,.val (.int .i64 (.nat (i+1))))],⟨true,[.ao p m c],none⟩::⟨true,[.int .u64 (.v kh)],none⟩::⟨true,lX ([]++[x]),none⟩::Ih ([]++[x])⟩ ac w';rw[<-ya];exact At.eJ hf hS ⟨fun h=>h,aR.refl rfl,rfl,fun h=>h,aR.refl rfl,rfl,fun h=>h,aR.refl (PC _),rfl,fun h=>h,aR.refl rfl,rfl,trivial⟩
    ·simp only[SB.T,SB.F] at hold
     have Zq:t=true:=by simpa using hold
     have kQ:x∈([]:List Int):=by rw[Zq] at ht;rw[Nj];simpa[s9] using ht.symm
     exact absurd kQ (by simp)
  ·simp only[SB.F,SI.den] at cJ
   have PO:m-i=0:=by omega
   refine X.go dh 400 _ rfl aag ?_
   conv=>arg 2;cbv
   have x6:F=[]:=by rw[PO,gE] at tf;exact tf.symm
   refine X.done dh rfl (fun N w' v hN hS hv=>?_);simp[bz,SV.den,bc] at hv;exact⟨none,0,by rw[<-hv,x6];rfl,by rw[x6];exact aak _,.inl ⟨x6,rfl,rfl⟩,hS.aM.none⟩
 ·skip
  rw[wD hz,wC hz];obtain⟨cs,dS⟩:∃c,c=dR l:=⟨_,rfl⟩;obtain⟨ll,qS⟩:∃q,q=l.length:=⟨_,rfl⟩;rw[<-dS,<-qS];rw[<-qS] at hlen;have jZ:cs.length=ll:=by rw[dS,nP,qS]
  have sE:∀m,cs.all (bd m)=true:=fun m=>by rw[dS];exact jR
  have Vv:0<ll:=by rw[qS];exact aa4.2 hz
  refine X.go dh 400 _ rfl aag ?_
  conv=>arg 2;cbv
  refine X.cond rfl (fun aF=>?_) (fun cJ=>?_)
  ·simp only[SB.T,SI.den] at aF
   have aF:i<m:=by omega
   have EA:m-i=(m-(i+1))+1:=by omega
   rw[EA,gE] at tf;refine X.go dh 400 _ rfl aag ?_
   conv=>arg 2;cbv
   refine X.cond rfl (fun tY=>?_) (fun iq=>?_)
   ·simp only[SB.T,SI.den] at tY
    have tY:many<=(ll:Int):=tY;refine X.go dh 400 _ rfl aag ?_
    conv=>arg 2;cbv
    have x6:F=l:=by rw[if_pos (by omega)] at tf;exact tf.symm
    refine X.done dh rfl (fun N w' v hN hS hv=>?_);obtain⟨p4,Lb⟩:∃p,N[3]?=some p:=⟨_,aae (by rw[hS.len];simp)⟩;have gI:=hS.ext 3 _ p4 rfl Lb rfl;simp only[jZ] at gI;simp only[bz,SV.den,Lb,aS.cap,aA] at hv;refine⟨some ⟨p4.b,p4.o,none⟩,_,by rw[<-hv,x6,<-qS,aaH],by rw[x6,<-qS];simpa using gI,.inr ⟨by rw[x6];exact hz,p4.b,p4.o,rfl,?_,fun j hj=>?_⟩,hS.aM.none⟩
    ·rcases hS.dG 3 _ p4 rfl Lb rfl with h|h
     ·exact h
     ·exact absurd (h 0 (by omega)) (fun h=>aB h)
    ·rw[x6] at hj ⊢
     have hj:j<l.length:=by simpa using hj
     obtain⟨v0,h1,h2⟩:=hS.cell 3 _ p4 rfl Lb j (.int .u8 (.v l[j]!)) (by show cs[j]?=_;rw[dS];simp[dR,hj]);simp only[SV.den,SI.den,aA] at h1;subst h1;exact⟨by simpa using h2,(hS.room 3 _ p4 rfl Lb rfl j (by omega)).2⟩
   ·simp only[SB.F,SI.den] at iq
    have iq:¬many<=(ll:Int):=fun h=>absurd h (by have hr:=iq;simpa using hr)
    rw[if_neg (by omega)] at tf;obtain⟨z,jq⟩:∃z,z=(s0+i) % m:=⟨_,rfl⟩;have hzm:z<m:=by rw[jq];exact abl _ (by omega)
    obtain⟨oz,RA⟩:∃q,q=o+z*2:=⟨_,rfl⟩;have hRi:R i=L[z]!.2:=by rw[hRR,nodeAt,hm,jq]
    obtain⟨x,hx⟩:∃x,x=R i:=⟨_,rfl⟩;obtain⟨xz,Nj,wl⟩:∃y:Nat,x=(y:Int)/\y<256:=by
     have kQ:L[z]! ∈ L:=by rw[getElem!_pos L z (by omega)];exact aa2 _
     have:=hN _ kQ;exact⟨x.toNat,by omega,by omega⟩
    rw[<-hx] at tf;have lB:im b (oz+1)=some (.int .u8 x):=by rw[ct,dD,RA,hx,hRi];exact(hL z (by omega)).2
    obtain⟨t,ht⟩:∃t,t=s9 l xz:=⟨_,rfl⟩;have hdx:hd[xz]?=some (.bool (.v t)):=by rw[xE,ht];exact rE _ wl
    refine X.dk ([(34,.int .i64 (.nat z)),(35,.ext b oz 0),(37,.int .u8 (.v x)),(39,.own 2 xz),(40,.bool (.v t))]) dh 400 _ rfl aag (fun pr fin aj ai=>?_)
    conv=>cbv
    refine⟨aj _ (xw rfl abt rfl hdx),aj _ (Bo (z:=xz) rfl rfl (fun _=>Nj) aaI aaJ wl (by omega) (aaG rfl)),aj _ (au.eC rfl aaK (fun _=>rfl) fun _=>lB),aj _ (au.at (z:=z) rfl rfl (fun _=>rfl) aaT aaU (fun _=>hzm) (hp (by omega)) RA),aj _ (MK rfl rfl (fun _=>by simp (disch:=omega) only [SI.den,a_];exact⟨by omega,by rw[jq];rfl⟩)),ai _ _ ?_⟩;refine X.cond rfl (fun bM=>?_) (fun hold=>?_)
    ·simp only[SB.T,SB.F] at bM
     have htf:t=false:=by simpa using bM
     have hnm:¬x∈(l:List Int):=by rw[htf] at ht;rw[Nj];simpa[s9] using ht.symm
     rw[if_neg hnm] at tf;refine X.dk ([(43,.own 2 xz)]) dh 4 _ rfl aag (fun pr fin aj ai=>?_)
     conv=>cbv
     refine⟨aj _ (Bo (z:=xz) rfl rfl (fun _=>Nj) aaI aaJ wl (by omega) (aaG rfl)),ai _ _ ?_⟩;have s_:hd.length=256:=by rw[xE];exact lY _
     refine X.oD dh (CJ (v:=.bool (.lit true)) (g:=⟨true,hd,none⟩) (lz:=setRow hd xz [.bool (.lit true)]) rfl rfl rfl rfl rfl rfl rfl rfl rfl rfl (by show xz+1<=hd.length;omega) rfl rfl) ?_;refine X.mR 2 ⟨true,setRow hd xz [.bool (.lit true)],none⟩ (lX (l++[x])) rfl (by rw[lY,lG _ _ _ (by omega)];simp;omega) (fun N _ j c c' h1 h2 v hv=>?_) ?_
     ·obtain⟨hj,rfl⟩:=v8 h2
      simp only at h1;rw[zm _ _ _ _ (by simp;omega)] at h1
      by_cases e:j=xz
      ·subst e
       rw[if_pos (by simp),abm] at h1;obtain rfl:c=.bool (.lit true):=(aaf.inj h1).symm;rw[<-hv];simp[SV.den,SB.den,s9,Nj]
      ·rw[if_neg (by simp;omega),xE,rE _ hj] at h1
       obtain rfl:=(aaf.inj h1).symm;have bH:¬(j:Int)=x:=by omega
       rw[<-hv];simp[SV.den,SB.den,s9,bH]
     obtain⟨gT,ya⟩:∃h,h=lX (l++[x]):=⟨_,rfl⟩;rw[<-ya];have PC:∀m,gT.all (bd m)=true:=fun m=>by rw[ya];exact uR
     show X (aK aac aai (fx F w) w (bq [] []) im (fun _ _=>False) (fun _=>True) [] I3) _ ⟨_,[⟨true,[.ao p m c],none⟩,⟨true,[.int .u64 (.v kh)],none⟩,⟨true,gT,none⟩,⟨true,cs,none⟩]⟩;refine X.go dh 5 _ rfl aag ?_
     conv=>arg 2;cbv
     refine X.oD (T:=T88) dh (du (te:=fo) (new:=[.int .u8 (.v x)]) (m:=1) rfl rfl rfl rfl rfl rfl rfl rfl (aY (g:=⟨true,[.int .u8 (.v x)],none⟩) rfl rfl rfl rfl) (jk (te:=fo) (cs:=cs) rfl (by show cs.length=ll*1;omega) (by decide) (bL (by decide) rfl rfl rfl (by show(2*(ll+1)+256)*1<=_;omega) (by omega))) rfl) ?_;obtain⟨Q8,KH⟩:∃c,c=cs++[.int .u8 (.v x)]:=⟨_,rfl⟩;rw[<-KH];have gn:Q8=dR (l++[x]):=by rw[KH,dS];simp[dR]
     refine X.go dh 400 _ rfl aag ?_
     conv=>arg 2;cbv
     refine X.less [2,3,8,9,10,20,21] ?_;refine X.vP rfl [(21,.val (.int .i64 (.wrap .i64 (.add (.nat i) (.lit 1))))),(10,.val (.osl 4 0 (ll+1) 1 none)),(2,.val (.int .i64 (.v many))),(3,.val (.own 0 0)),(8,.val (.int .i64 (.nat s0))),(9,.val (.own 2 0)),(20,.val (.int .i64 (.nat m)))] [⟨true,[.ao p m c],none⟩,⟨true,[.int .u64 (.v kh)],none⟩,⟨true,gT,none⟩] (rB:=[⟨true,[.int .u8 (.v x)],none⟩,⟨true,Q8,none⟩]) (fun A x B hA=>by obtain⟨a1,a2,a3,rfl⟩:=We hA;exact⟨rfl,fun _ h=>h,rfl,fun _ h=>h,rfl,fun _ h=>h,rfl,fun _ h=>h,rfl,fun _ h=>h,rfl,fun _ h=>h,rfl,fun _ h=>h,trivial⟩) (fun g hg c hc N N' v hv=>?_) (fun g hg=>?_) ?_
     ·simp only[aau,aao,aav,aaw,or_false] at hg
      rcases hg with rfl|rfl|rfl|rfl|rfl
      ·obtain rfl:c=.ao p m _:=aap.1 hc
       exact hv
      ·obtain rfl:c=.int .u64 (.v kh):=aap.1 hc
       exact hv
      ·exact v7 (by rw[<-ya];exact hc) hv
      ·exact jm (l:=[x]) hc hv
      ·exact jm (l:=l++[x]) (by rw[<-gn];exact hc) hv
     ·simp only[aau,aao,aav,aaw,or_false] at hg
      rcases hg with rfl|rfl|rfl|rfl|rfl<;>rfl
     refine X.vP rfl [(21,.val (.int .i64 (.wrap .i64 (.add (.nat i) (.lit 1))))),(10,.val (.osl 3 0 (ll+1) 1 none)),(2,.val (.int .i64 (.v many))),(3,.val (.own 0 0)),(8,.val (.int .i64 (.nat s0))),(9,.val (.own 2 0)),(20,.val (.int .i64 (.nat m)))] [⟨true,[.ao p m c],none⟩,⟨true,[.int .u64 (.v kh)],none⟩,⟨true,gT,none⟩] (rB:=[⟨true,Q8,none⟩]) (fun A x B hA=>by obtain⟨a1,a2,a3,rfl⟩:=We hA;exact⟨rfl,fun _ h=>h,rfl,fun _ h=>h,rfl,fun _ h=>h,rfl,fun _ h=>h,rfl,fun _ h=>h,rfl,fun _ h=>h,rfl,fun _ h=>h,trivial⟩) (fun g hg c hc N N' v hv=>?_) (fun g hg=>?_) ?_
     ·simp only[aau,aao,aav,aaw,or_false] at hg
      rcases hg with rfl|rfl|rfl|rfl
      ·obtain rfl:c=.ao p m _:=aap.1 hc
       exact hv
      ·obtain rfl:c=.int .u64 (.v kh):=aap.1 hc
       exact hv
      ·exact v7 (by rw[<-ya];exact hc) hv
      ·exact jm (l:=l++[x]) (by rw[<-gn];exact hc) hv
     ·simp only[aau,aao,aav,aaw,or_false] at hg
      rcases hg with rfl|rfl|rfl|rfl<;>rfl
     refine X.back (fun N ac w' hN hf hS=>hq ⟨(i+1,l++[x]),⟨by simp only;omega,tf,by simp only[aaP,aa3];omega⟩⟩ ac w' (by simp only;omega) ?_);show At (aK aac aai (fx F w) w (bq [] []) im (fun _ _=>False) (fun _=>True) [] I3) ⟨[(2,.val (.int .i64 (.v many))),(3,.val (.own 0 0)),(8,.val (.int .i64 (.nat s0))),(9,.val (.own 2 0)),(10,.val (Ii (l++[x]))),(20,.val (.int .i64 (.nat m))),(21,.val (.int .i64 (.nat (i+1))))],⟨true,[.ao p m c],none⟩::⟨true,[.int .u64 (.v kh)],none⟩::⟨true,lX (l++[x]),none⟩::Ih (l++[x])⟩ ac w';rw[wD (by simp),wC (by simp),<-gn,<-ya,aaP,<-qS];have acS:∀m,Q8.all (bd m)=true:=fun m=>by rw[gn];exact jR
     exact At.eJ hf hS ⟨fun h=>h,aR.refl rfl,rfl,fun h=>h,aR.refl rfl,rfl,fun h=>h,aR.refl (PC _),rfl,fun h=>h,aR.refl (acS _),rfl,trivial⟩
    ·simp only[SB.T,SB.F] at hold
     have Zq:t=true:=by simpa using hold
     have kQ:x∈(l:List Int):=by rw[Zq] at ht;rw[Nj];simpa[s9] using ht.symm
     rw[if_pos kQ] at tf;refine X.go dh 400 _ rfl aag ?_
     conv=>arg 2;cbv
     refine X.back (fun N ac w' hN hf hS=>hq ⟨(i+1,l),⟨by simp only;omega,tf,by simp only;omega⟩⟩ ac w' (by simp only;omega) ?_);show At (aK aac aai (fx F w) w (bq [] []) im (fun _ _=>False) (fun _=>True) [] I3) ⟨[(2,.val (.int .i64 (.v many))),(3,.val (.own 0 0)),(8,.val (.int .i64 (.nat s0))),(9,.val (.own 2 0)),(10,.val (Ii l)),(20,.val (.int .i64 (.nat m))),(21,.val (.int .i64 (.nat (i+1))))],⟨true,[.ao p m c],none⟩::⟨true,[.int .u64 (.v kh)],none⟩::⟨true,lX l,none⟩::Ih l⟩ ac w';rw[wD hz,wC hz,<-dS,<-qS,<-xE];exact At.eJ hf hS ⟨fun h=>h,aR.refl rfl,rfl,fun h=>h,aR.refl rfl,rfl,fun h=>h,aR.refl (hbd _),rfl,fun h=>h,aR.refl (sE _),rfl,trivial⟩
  ·simp only[SB.F,SI.den] at cJ
   have PO:m-i=0:=by omega
   refine X.go dh 400 _ rfl aag ?_
   conv=>arg 2;cbv
   have x6:F=l:=by rw[PO,gE] at tf;exact tf.symm
   refine X.done dh rfl (fun N w' v hN hS hv=>?_);obtain⟨p4,Lb⟩:∃p,N[3]?=some p:=⟨_,aae (by rw[hS.len];simp)⟩;have gI:=hS.ext 3 _ p4 rfl Lb rfl;simp only[jZ] at gI;simp only[bz,SV.den,Lb,aS.cap,aA] at hv;refine⟨some ⟨p4.b,p4.o,none⟩,_,by rw[<-hv,x6,<-qS,aaH],by rw[x6,<-qS];simpa using gI,.inr ⟨by rw[x6];exact hz,p4.b,p4.o,rfl,?_,fun j hj=>?_⟩,hS.aM.none⟩
   ·rcases hS.dG 3 _ p4 rfl Lb rfl with h|h
    ·exact h
    ·exact absurd (h 0 (by omega)) (fun h=>aB h)
   ·rw[x6] at hj ⊢
    have hj:j<l.length:=by simpa using hj
    obtain⟨v0,h1,h2⟩:=hS.cell 3 _ p4 rfl Lb j (.int .u8 (.v l[j]!)) (by show cs[j]?=_;rw[dS];simp[dR,hj]);simp only[SV.den,SI.den,aA] at h1;subst h1;exact⟨by simpa using h2,(hS.room 3 _ p4 rfl Lb rfl j (by omega)).2⟩
theorem LS (k:Nat)(w:World):Calls aac 107 #[.slice none 0 0,.int .i64 0,.int .i64 0,.int .i64 k] w fun e w'=>e=.returned (.tuple #[])/\aW (fun _ _=>False) w w':=by
 refine X.begin (rg:=[]) (N:=[]) (ss:=[.raw (.slice none 0 0),.int .i64 (.lit 0),.int .i64 (.lit 0),.int .i64 (.nat k)]) Tryz.func107 rfl zD rfl rfl Sat.bp ?_;refine X.Dn ep true bg 4000 _ rfl Tryz.results107 ?_
 conv=>arg 2;cbv
 refine X.done bg rfl (fun N w' v hN hS hv=>?_);simp only[bz,SV.den,SV.ap,aA] at hv;exact⟨by rw[<-hv],hS.aM.none⟩
theorem zq (w:World):Calls aac 90 #[.slice none 0 0] w fun e w'=>e=.returned (.tuple #[])/\aW (fun _ _=>False) w w':=by
 refine X.begin (rg:=[]) (N:=[]) (ss:=[.raw (.slice none 0 0)]) Tryz.func90 rfl DR rfl rfl Sat.bp ?_;refine X.go mB 400 _ rfl aaV ?_
 conv=>arg 2;cbv
 refine X.call rfl rfl rfl rfl Tryz.call60 (fun N w1 args hN hS ha=>?_);have ha:args=[.int .u64 ((0:Nat):Int)]:=(aaf.inj ha).symm;rw[ha];refine Calls.mono (Lq 0 (by omega) w1) fun e w' ⟨k,hk,he,hw⟩=>⟨_,he,?_⟩
 subst hw;refine Goes.same hN hS (aW.refl _ _) (r:=.int .i64 (.nat k)) rfl rfl ?_;refine X.go mB 400 _ rfl aaV ?_
 conv=>arg 2;cbv
 refine X.call rfl rfl rfl rfl Tryz.call107 (fun N w1 args hN hS ha=>?_);have ha:args=[.slice none 0 0,.int .i64 0,.int .i64 0,.int .i64 k]:=(aaf.inj ha).symm;rw[ha];refine(LS k w1).mono fun e w2 ⟨he,hc⟩=>⟨_,he,Goes.same hN hS hc (r:=.tup []) rfl rfl ?_⟩
 refine X.go mB 400 _ rfl aaV ?_
 conv=>arg 2;cbv
 refine X.over mB rfl (fun N w' v hN hS hv=>?_);simp only[bz,SV.den,SV.ap,aA] at hv;exact⟨by rw[<-hv],hS.aM.none⟩
theorem Hs (cp:Nat)(w:World):Calls aac 89 #[.slice none 0 cp] w (fN [] w):=by
 refine X.begin (rg:=[]) (N:=[]) (ss:=[.ao none 0 cp]) Tryz.func89 rfl DQ rfl rfl Sat.bp ?_;refine X.go di 400 _ rfl aaL ?_
 conv=>arg 2;cbv
 refine X.call rfl rfl rfl rfl Tryz.call21 (fun N w1 args hN hS ha=>?_);have ha:args=[.slice none 0 cp]:=(aaf.inj ha).symm;rw[ha];refine(vF cp w1).mono fun e w2 ⟨he,hc⟩=>⟨_,he,Goes.same hN hS hc (r:=.raw (.slice none 0 0)) rfl rfl ?_⟩
 refine X.go di 400 _ rfl aaL ?_
 conv=>arg 2;cbv
 refine X.call rfl rfl rfl rfl aaW (fun N w1 args hN hS ha=>?_);have ha:args=[.slice none 0 0]:=(aaf.inj ha).symm;rw[ha];refine(zq w1).mono fun e w2 ⟨he,hc⟩=>⟨_,he,Goes.same hN hS hc (r:=.tup []) rfl rfl ?_⟩
 refine X.Dn ep true di 4000 _ rfl aaL ?_
 conv=>arg 2;cbv
 refine X.call rfl rfl rfl rfl Tryz.call105 (fun N w1 args hN hS ha=>?_);have ha:args=[.slice none 0 0,.func (.func 106) #[] #[]]:=(aaf.inj ha).symm;rw[ha];have key:=AnyF.slices_SortFunc_none (P:=aac) { Tryz.Mk with } none 0 (.func (.func 106) #[] #[]) w1;refine Calls.mono key fun e w2 ⟨he,hw⟩=>⟨_,he,?_⟩
 subst hw;refine Goes.same hN hS (aW.refl _ _) (r:=.tup []) rfl rfl ?_;refine X.go di 400 _ rfl aaL ?_
 conv=>arg 2;cbv
 refine X.done di rfl (fun N w' v hN hS hv=>?_);simp[bz,SV.den,bc] at hv;exact⟨none,0,by rw[<-hv];rfl,.inl rfl,hS.aM.none⟩
theorem Is:cP #[]=[]:=by simp[cP,ju,rc,gY,Go.Lib.compactUpTo]
theorem J1 (po:Option Addr)(n cp:Nat)(d:Array Int)(w:World)(hle:n<=1000)(hA:nf po n d w) :
  Calls aac 89 #[.slice po n cp] w (fN (cP d) w):=by
 cases po with
 |none =>
  have h0:n=0:=by
   rcases abn n with h|h
   ·exact h
   ·obtain⟨b,y,h1,_⟩:=hA.2 h
    cases h1
  subst h0;have:d=#[]:=Array.size_eq_zero_iff.1 hA.1;subst this;rw[Is];exact Hs cp w
 |some a=>exact Ht (some a) n cp d w (by simp) hle hA
theorem je (d:Array Int):(cP d).Perm (ju (rc d)):=aa5 _ _
theorem tC (d:Array Int):(cP d).length<=8*d.size:=by
 rw[(je d).length_eq,<-qF,mT _ _ (aak _)];have:=yA d;omega
theorem tH (d:Array Int):(gY d).toList.Perm d.toList:=by
 show(d.toList.mergeSort _).Perm _;exact aa5 _ _
theorem JT {d:Array Int}{x:Int}(h:x∈(rc d).toList):x∈d.toList:=by
 simp only[rc,Go.Lib.compactUpTo,aas,aa6,aa7] at h;obtain⟨k,⟨hk,_⟩,rfl⟩:=h;refine(tH d).mem_iff.1 ?_;have oZ:k<(gY d).size:=by rw[hG];exact hk
 rw[getElem!_pos _ k oZ];exact Array.getElem_mem_toList oZ
theorem E4 {d:Array Int}{y:Int × Int}(h:y∈cP d):y.2∈d.toList:=by
 have h:=(je d).mem_iff.1 h;obtain⟨n,hn,h⟩:=List.mem_flatMap.1 h;obtain⟨v,_,rfl⟩:=aas.1 h;exact JT hn
theorem E3 {d:Array Int}(hd:∀x∈d.toList,0<=x/\x<256):∀y∈cP d,0<=y.2/\y.2<256:=fun _ hy=>hd _ (E4 hy)
theorem kJ (d:Array Int):zL (cP d):=fun a b Rb hb=>by
 have hs:(cP d).Pairwise (fun x y=>(!ltOf nR y x)=true):=List.pairwise_mergeSort (fun x y z h1 h2=>by
  simp only[Gw,aaN,decide_eq_false_iff_not] at h1 h2 ⊢;omega) (fun x y=>by
  simp only[Gw,Bool.or_eq_true,aaN,decide_eq_false_iff_not];omega) _
 rcases abo a b with h|h
 ·have:=List.pairwise_iff_getElem.1 hs a b (by omega) hb h
  rw[getElem!_pos _ a (by omega),getElem!_pos _ b hb];simp only[Gw,aaN,decide_eq_false_iff_not] at this;omega
 ·have:a=b:=by omega
  subst this;exact Int.le_refl _
theorem V9 {E:Env}{N:af}{rg:List Rg}{w:World}(h:Sat E N rg w){k o:Nat}(hk:w.heap.size<=k):E.im k o=none:=by
 cases hv:E.im k o with
 |none=>rfl
 |some v =>
  have:=h.cK k o v hv;simp[World.cell?,Array.getElem?_eq_none hk] at this
theorem wu (R:Nat->Int)(many:Int):∀(k i:Nat) (out:List Int),(gE R many k i out).length<=out.length+k
 |0,_,out=>aak _
 |k+1,i,out=>by
  unfold gE
  split
  ·omega
  ·have:=wu R many k (i+1) (if R i∈out then out else out++[R i])
   have h2:(if R i∈out then out else out++[R i]).length<=out.length+1:=by split<;>simp
   omega
theorem tp (L:List (Int × Int))(key many:Int):(gA L key many).length<=L.length:=by
 have:=wu (nodeAt L (Hp L (mL key))) many L.length 0 []
 simpa[gA] using this
def oC (d:Array Int)(key:Int):List Int:=(gY (gA (cP d) key 3).toArray).toList
theorem GF (po:Option Addr)(n cp:Nat)(d:Array Int)(key:Int)(w:World)(hle:n<=1000)(hA:nf po n d w)(hd:∀x∈d.toList,0<=x/\x<256) :
  Calls aac 68 #[.slice po n cp,.int .u8 key] w (fx (oC d key) w):=by
 obtain⟨F,hF⟩:∃F,F=oC d key:=⟨_,rfl⟩;rw[<-hF];refine X.begin (rg:=[]) (N:=[]) (ss:=[.ao po n cp,.int .u8 (.v key)]) Tryz.func68 rfl Tf rfl rfl Sat.bp ?_;refine X.go nI 400 _ rfl aaz ?_
 conv=>arg 2;cbv
 refine X.call rfl rfl rfl rfl Tryz.call89 (fun N w1 args hN hS ha=>?_);have ha:args=[.slice po n cp]:=(aaf.inj ha).symm;rw[ha];refine(J1 po n cp d w1 hle (hA.stays hS.aM.none)).mono fun e w2 ⟨p,c,he,hr,bV⟩=>⟨_,he,?_⟩
 obtain⟨L,hL⟩:∃L,L=cP d:=⟨_,rfl⟩;obtain⟨m,hm⟩:∃m,m=L.length:=⟨_,rfl⟩;have hm8:m<=8000:=by rw[hm,hL];have:=tC d;have:=hA.1;omega
 rw[<-hL] at hr;rw[<-hL,<-hm];refine Goes.cZ hN hS bV (r:=.ao p m c) rfl rfl (fun hold bM=>?_);obtain⟨im,ct⟩:∃im,im=bx (ab [] [] w) w1 w2:=⟨_,rfl⟩;have th:0<m->∃b o,p=some ⟨b,o,none⟩/\∀j,j<L.length->im b (o+j*2)=some (.int .u64 L[j]!.1)/\im b (o+j*2+1)=some (.int .u8 L[j]!.2):=fun h0=>by
  rcases hr with h|⟨b,o,h1,h2,h3⟩
  ·rw[h] at hm;simp at hm;omega
  ·refine⟨b,o,h1,fun j hj=>?_⟩
   have:=uq.of h3 j hj;rw[ct];exact⟨bM _ _ _ h2 this.1,bM _ _ _ h2 this.2⟩
 show X (aK aac aaX (fx F w) w (bq [] []) (bx (ab [] [] w) w1 w2) (fun _ _=>False) (fun _=>True) [] B68) _ _;rw[<-ct];clear ct hold bM hr bV he ha hS hN;refine X.go nI 400 _ rfl aaz ?_
 conv=>arg 2;cbv
 refine X.call rfl rfl rfl rfl Tryz.call88 (fun N w3 args hN hS ha=>?_);have ha:args=[.slice p m c,.int .u8 key,.int .i64 3]:=(aaf.inj ha).symm;rw[ha];obtain⟨b,o,hp,hpi⟩:∃b o,(0<m->p=some ⟨b,o,none⟩)/\uq b o L w3:=by
  rcases abn m with h|h
  ·exact⟨0,0,fun h2=>by omega,fun j hj=>by omega⟩
  ·obtain⟨b,o,h1,h2⟩:=th h
   exact⟨b,o,fun _=>h1,fun j hj=>⟨hS.cK _ _ _ (h2 j hj).1,hS.cK _ _ _ (h2 j hj).2⟩⟩
 refine(EO b o m c p L key 3 w3 hp hm.symm hm8 hpi (by rw[hL];exact kJ d) (by rw[hL];exact E3 hd)).mono fun e w4 ⟨p2,c2,he,gn,hr,bV⟩=>⟨_,he,?_⟩
 obtain⟨out,PV⟩:∃l,l=gA L key 3:=⟨_,rfl⟩;obtain⟨ll,qS⟩:∃q,q=out.length:=⟨_,rfl⟩;rw[<-PV] at hr gn;rw[<-PV,<-qS];have hFo:F=(gY out.toArray).toList:=by rw[hF,oC,<-hL,<-PV]
 rcases hr with ⟨h1,h2,h3⟩|⟨bH,b2,o2,h1,h2,h3⟩
 ·subst h2 h3
  have Vv:ll=0:=by rw[qS,h1];rfl
  subst Vv;have hFn:F=[]:=by rw[hFo,h1];simp[gY]
  refine Goes.same hN hS bV (r:=.raw (.slice none 0 0)) rfl rfl ?_;refine X.go nI 400 _ rfl aaz ?_
  conv=>arg 2;cbv
  refine X.call rfl rfl rfl rfl aaW (fun N w5 args hN hS ha=>?_);have ha:args=[.slice none 0 0]:=(aaf.inj ha).symm;rw[ha];refine(zq w5).mono fun e w6 ⟨he,hc⟩=>⟨_,he,Goes.same hN hS hc (r:=.tup []) rfl rfl ?_⟩
  refine X.go nI 400 _ rfl aaz ?_
  conv=>arg 2;cbv
  refine X.done nI rfl (fun N w' v hN hS hv=>?_);simp[bz,SV.den,bc] at hv;exact⟨none,0,by rw[<-hv,hFn];rfl,by rw[hFn];exact aak _,.inl ⟨hFn,rfl,rfl⟩,hS.aM.none⟩
 ·have AC:out.toArray.size=ll:=by rw[qS];simp
  have KE:w.heap.size<=b2:=Nat.le_trans hS.aM.size h2;have hdw:∀k o,cW b2 o2 ll k o->w.heap.size<=k:=fun k o ⟨e1,_,_⟩=>by rw[e1];exact KE
  have PK:∀k o,cW b2 o2 ll k o->im k o=none:=fun k o ⟨e1,_,_⟩=>V9 hS (by rw[e1];exact h2)
  refine Goes.turn (r:=.ao p2 ll c2) (cW b2 o2 ll) (fun w=>fh w b2 o2 out.toArray) hN hS bV (fun _ _ h=>h.elim) (fun _ _ h=>h.elim) (by simp) (fun k o hk=>⟨.inr (by obtain⟨e1,e2,e3⟩:=hk;rw[e1];exact h2),h3.there (by omega) hk⟩) (fh.loc (by omega)) h3 rfl rfl ?_;clear h3 bV he ha hS hN;show X (aK aac aaX (fx F w) w (bq [] []) im (cW b2 o2 ll) (fun w=>fh w b2 o2 out.toArray) [] B68) _ _;refine X.go nI 400 _ rfl aaz ?_
  conv=>arg 2;cbv
  refine X.call rfl rfl rfl rfl aaW (fun N w5 args hN hS ha=>?_);have ha:args=[.slice p2 ll c2]:=(aaf.inj ha).symm;rw[ha,h1];have ajv:ll<=8000:=by have:=tp L key 3;rw[<-PV] at this;omega
  refine(C7 b2 o2 ll c2 out.toArray w5 hS.fH AC (by omega)).mono fun e w6 ⟨S,⟨g1,g2⟩,he,jF,bV⟩=>⟨_,he,?_⟩
  have hSr:=G0 AC g1 g2;subst hSr;have t_:(gY out.toArray).size=ll:=by rw[hG,AC]
  refine Goes.turn (r:=.tup []) (cW b2 o2 ll) (fun w=>fh w b2 o2 (gY out.toArray)) hN hS bV (fun k o h=>.inl (hdw k o h)) PK (by simp) (fun k o hk=>⟨.inl hk,jF.there (by omega) hk⟩) (fh.loc (by omega)) jF rfl rfl ?_;clear jF bV he ha hS hN g1 g2;show X (aK aac aaX (fx F w) w (bq [] []) im (cW b2 o2 ll) (fun w=>fh w b2 o2 (gY out.toArray)) [] B68) _ _;refine X.go nI 400 _ rfl aaz ?_
  conv=>arg 2;cbv
  refine X.done nI rfl (fun N w' v hN hS hv=>?_);simp only[bz,SV.den,aA] at hv;have x6:F.length=ll:=by rw[hFo];simpa using t_
  exact⟨some ⟨b2,o2,none⟩,c2,by rw[<-hv,x6],by rw[x6,qS];exact gn,.inr ⟨fun h=>bH (aa8 (by rw[<-qS,<-x6,h];rfl)),b2,o2,rfl,KE,by rw[hFo];exact hS.fH⟩,hS.aM.none⟩
section
variable {E:eR}
end
end Go.Proofs.YthpbefahaghbjaaGreat
namespace Go.bU
end Go.bU
namespace Go.Proofs.YthpbefahaghbjaaGreat
open Go Go.bU Go.Sort
theorem Sat.XD {E:Env}{N:af}{rg:List Rg}{w:World}(h:Sat E N rg w){b o x s0:Nat}{cs:List SV}(hN:∀(r:Nat) (p:aS),N[r]?=some p->p.b<s0)(Je:s0<=b)(hb:b<w.heap.size)
  (dS:∀(j:Nat) (c:SV),cs[j]?=some c->∃v,c.den N=some v/\w.cell? ⟨b,o+j,none⟩=some v):Sat E (N++[⟨b,o,x⟩]) (rg++[⟨false,cs,none⟩]) w:=by
 have hle:N.le (N++[⟨b,o,x⟩]):=af.aZ _ _;refine⟨by simp[h.len],?_,?_,?_,?_,?_,?_,?_,h.cK,?_,?_,h.mj,h.loc,h.fH,h.aM,?_⟩
 ·intro i q hq
  rcases abo i N.length with hi|hi
  ·rw[aam hi] at hq;exact h.lt i q hq
  ·rw[aaO hi] at hq
   have hz:i-N.length=0:=by
    have:=(aah.1 hq).1;simp at this;omega
   rw[hz] at hq;simp at hq;subst hq;exact hb
 ·intro i g q hg hq j d hj
  rcases aC h.len hg hq with ⟨a,b⟩|⟨_,rfl,rfl⟩
  ·obtain⟨v,h1,h2⟩:=h.cell i g q a b j d hj
   exact⟨v,SV.bf hle d h1,h2⟩
  ·obtain⟨v,h1,h2⟩:=dS j d hj
   exact⟨v,SV.bf hle d h1,h2⟩
 ·intro i g q hg hq ho
  rcases aC h.len hg hq with ⟨a,b⟩|⟨_,rfl,rfl⟩
  ·exact h.ext i g q a b ho
  ·cases ho
 ·intro i g q hg hq ho
  rcases aC h.len hg hq with ⟨a,b⟩|⟨_,rfl,rfl⟩
  ·exact h.room i g q a b ho
  ·cases ho
 ·intro i i' g g' q q' hg hq eN cF ho bH j hj Dq
  rcases aC h.len hg hq with ⟨a1,a2⟩|⟨a0,rfl,rfl⟩
  ·rcases aC h.len eN cF with ⟨b1,b2⟩|⟨b0,rfl,rfl⟩
   ·exact h.eT i i' g g' q q' a1 a2 b1 b2 ho bH j hj Dq
   ·have:=hN i q a2;simp at Dq;omega
  ·cases ho
 ·intro i g q ob hg hq ho
  rcases aC h.len hg hq with ⟨a,b⟩|⟨_,rfl,rfl⟩
  ·obtain⟨⟨o',k1,k2⟩,k3⟩:=h.obj i g q ob a b ho
   exact⟨⟨o',Ob.bf hle ob k1,k2⟩,k3⟩
  ·simp at ho
 ·intro i i' g g' q q' hg hq eN cF ho kR bH
  rcases aC h.len hg hq with ⟨a1,a2⟩|⟨a0,rfl,rfl⟩
  ·rcases aC h.len eN cF with ⟨b1,b2⟩|⟨b0,rfl,rfl⟩
   ·exact h.fG i i' g g' q q' a1 a2 b1 b2 ho kR bH
   ·simp at kR
  ·simp at ho
 ·intro i g q hg hq ho
  rcases aC h.len hg hq with ⟨a,b⟩|⟨_,rfl,rfl⟩
  ·exact h.lR i g q a b ho
  ·cases ho
 ·intro i g q hg hq ho
  rcases aC h.len hg hq with ⟨a,b⟩|⟨_,rfl,rfl⟩
  ·exact h.dd i g q a b ho
  ·cases ho
 ·intro i g q hg hq ho
  rcases aC h.len hg hq with ⟨a,b⟩|⟨_,rfl,rfl⟩
  ·exact h.dG i g q a b ho
  ·cases ho
theorem JU {d:Array Int}(h:0<d.size):0<(rc d).size:=by
 have h0:(0:Nat)∈(aaD d.size).filter (Go.Lib.keeps (gY d)):=aa6.2 ⟨aa7.2 h,Go.Lib.keeps_lt_one _ 0 (by omega)⟩;simp only[rc,Go.Lib.compactUpTo,aa9,List.length_map];exact List.length_pos_of_mem h0
theorem Iu {d:Array Int}(h:0<d.size):cP d≠[]:=fun e=>by
 have h1:=(je d).length_eq;rw[e,<-qF,mT _ _ (aak _)] at h1;have:=JU h;simp at h1;omega
theorem yR (R:Nat->Int)(many:Int):∀(k i:Nat) (out:List Int),out.length<=(gE R many k i out).length
 |0,_,out=>aak _
 |k+1,i,out=>by
  unfold gE
  split
  ·exact aak _
  ·have h1:=yR R many k (i+1) (if R i∈out then out else out++[R i])
   have h2:out.length<=(if R i∈out then out else out++[R i]).length:=by split<;>simp
   omega
theorem Qh {d:Array Int}{key:Int}(h:0<d.size):oC d key≠[]:=fun e=>by
 have h1:(gA (cP d) key 3).length=0:=by
  have:=congrArg List.length e;simp only[oC,Array.length_toList,hG,aa9,List.length_nil] at this;exact this
 have hL:0<(cP d).length:=aa4.2 (Iu h);obtain⟨q,hq⟩:∃q,(cP d).length=q+1:=⟨(cP d).length-1,by omega⟩;unfold gA at h1;rw[hq,gE,if_neg (by simp),if_neg (by simp)] at h1;have:=yR (nodeAt (cP d) (Hp (cP d) (mL key))) 3 q (0+1) ([]++[nodeAt (cP d) (Hp (cP d) (mL key)) 0]);rw[h1] at this;simp at this
end Go.Proofs.YthpbefahaghbjaaGreat
namespace Go.bU
open Go
mutual
def SV.uM (L r:Nat):SV->Bool
 | .own q _=>aaC q L&&!(aad q r)
 | .osl q _ _ _ _=>aaC q L&&!(aad q r)
 | .mp q=>aaC q L&&!(aad q r)
 | .ch q=>aaC q L&&!(aad q r)
 | .agg cs=>SV.HF L r cs
 | .tup cs=>SV.HF L r cs
 | .fn _ cs=>SV.HF L r cs
 |_=>true
def SV.HF (L r:Nat):List SV->Bool
 | []=>true
 |c::cs=>c.uM L r&&SV.HF L r cs
end
theorem rU {N:af}{q:aS}{L r i:Nat}(hN:N.length=L)(h:(aaC i L&&!(aad i r))=true):(N++[q])[i]?=(N.set r q)[i]?:=by
 simp only[abD,aaN,Nat.blt_eq] at h;obtain⟨h1,h2⟩:=h;have bH:¬i=r:=fun e=>by subst e;simp at h2
 rw[aam (by omega),aaQ (fun e=>bH e.symm)]
mutual
theorem SV.As {N:af}{q:aS}{L r:Nat}(hN:N.length=L):∀(s:SV),s.uM L r=true->s.den (N++[q])=s.den (N.set r q)
 | .int _ _,_=>rfl
 | .bool _,_=>rfl
 | .own i c,h=>by simp only[SV.den,rU hN h]
 | .ext _ _ _,_=>rfl
 | .sl _ _ _ _,_=>rfl
 | .ao _ _ _,_=>rfl
 | .raw _,_=>rfl
 | .big _,_=>rfl
 | .agg cs,h=>by simp only[SV.den,SV.rD hN cs h]
 | .tup cs,h=>by simp only[SV.den,SV.rD hN cs h]
 | .osl i c n z k,h=>by simp only[SV.den,rU hN h]
 | .fn f cs,h=>by simp only[SV.den,SV.rD hN cs h]
 | .mp i,h=>by simp only[SV.den,rU hN h]
 | .ch i,h=>by simp only[SV.den,rU hN h]
theorem SV.rD {N:af}{q:aS}{L r:Nat}(hN:N.length=L):∀(s:List SV),SV.HF L r s=true->SV.ap (N++[q]) s=SV.ap (N.set r q) s
 | [],_=>rfl
 |c::cs,h=>by
  simp only[SV.HF,abD] at h;simp only[SV.ap,SV.As hN c h.1,SV.rD hN cs h.2]
end
def frF (L r:Nat):Fr->Bool
 | []=>true
 |(_,.val v)::f=>v.uM L r&&frF L r f
 |_=>false
def TV (L r:Nat):Fr->Prop
 | []=>True
 |(_,.val v)::f=>v.uM L r=true/\TV L r f
 |_=>False
theorem TV.sh {N:af}{q:aS}{L r:Nat}(hN:N.length=L):∀{f:Fr},TV L r f->Sh (N++[q]) (N.set r q) f f
 | [],_=>trivial
 |(_,.val v)::_,h=>⟨rfl,fun x hx=>by rw[<-SV.As hN v h.1];exact hx,TV.sh hN h.2⟩
 |(_,.xJ _ _ _)::_,h=>h.elim
 |(_,.dead)::_,h=>h.elim
def MV (L r:Nat):Nat->List Rg->Prop
 |_,[]=>True
 |j,g::gs=>(j=r\/g.cells.all (SV.uM L r)=true)/\MV L r (j+1) gs
theorem MV.get {L r:Nat}:∀{gs:List Rg} {j i:Nat} {g:Rg},MV L r j gs->gs[i]?=some g->j+i≠r->g.cells.all (SV.uM L r)=true
 | [],_,_,_,_,h,_=>by simp at h
 |g0::gs,j,0,g,h,hi,bH=>by
  simp at hi;subst hi;exact h.1.resolve_left (by omega)
 |g0::gs,j,i+1,g,h,hi,bH=>MV.get (j:=j+1) h.2 (by simpa using hi) (by omega)
theorem Sat.swap {E:Env}{N:af}{rg:List Rg}{w:World}{q:aS}{g0 g:Rg}{r:Nat}(h:Sat E (N++[q]) (rg++[g]) w)(hr:rg[r]?=some g0)(hc:MV rg.length r 0 rg)(hg:g.cells.all (SV.uM rg.length r)=true)
  (ho:∀g'∈rg++[g],g'.ob=none):Sat E (N.set r q) (rg.set r g) w:=by
 have hN:N.length=rg.length:=by have:=h.len;simp at this;exact this
 have lQ:r<rg.length:=(aah.1 hr).1;have qt:(rg++[g])[rg.length]?=some g:=by simp
 have rN:(N++[q])[rg.length]?=some q:=by rw[<-hN];simp
 -- where a region ag1
 have back:∀{i:Nat} {g':Rg} {p:aS},(rg.set r g)[i]?=some g'->(N.set r q)[i]?=some p->∃j,(rg++[g])[j]?=some g'/\(N++[q])[j]?=some p/\(i=r/\j=rg.length\/i≠r/\j=i/\i<rg.length):=fun {i g' p} h1 h2=>by
  by_cases e:i=r
  ·subst e
   rw[aaB lQ] at h1;rw[aaB (by omega)] at h2;exact⟨rg.length,by rw[qt,h1],by rw[rN,h2],.inl ⟨rfl,rfl⟩⟩
  ·rw[aaQ (fun h=>e h.symm)] at h1 h2
   have hi:=(aah.1 h1).1;exact⟨i,by rw[aam hi];exact h1,by rw[aam (by omega)];exact h2,.inr ⟨e,rfl,hi⟩⟩
 have free:∀{j:Nat} {g':Rg} {i:Nat},(rg++[g])[j]?=some g'->(i=r/\j=rg.length\/i≠r/\j=i/\i<rg.length)->g'.cells.all (SV.uM rg.length r)=true:=fun {j g' i} h1 h2=>by
  rcases h2 with ⟨_,rfl⟩|⟨h2,rfl,h3⟩
  ·rw[qt] at h1;cases h1;exact hg
  ·rw[aam h3] at h1
   exact hc.get h1 (by omega)
 have CI:∀{j:Nat} {g':Rg},(rg++[g])[j]?=some g'->g'.ob=none:=fun h=>ho _ (aaj h)
 exact { h with
  len:=by simp[hN]
  lt:=fun i p hp=>by
   by_cases e:i=r
   ·subst e
    rw[aaB (by omega)] at hp;cases hp;exact h.lt _ _ rN
   ·rw[aaQ (fun h=>e h.symm)] at hp
    exact h.lt i p (by rw[aam (aah.1 hp).1];exact hp)
  cell:=fun i g' p h1 h2 j c hj=>by
   obtain⟨k,k1,k2,k3⟩:=back h1 h2;obtain⟨v,hv,hw⟩:=h.cell k g' p k1 k2 j c hj;have:=aaE.1 (free k1 k3) c (aaj hj);exact⟨v,by rw[<-SV.As hN c this];exact hv,hw⟩
  ext:=fun i g' p h1 h2=>by obtain⟨k,k1,k2,_⟩:=back h1 h2;exact h.ext k g' p k1 k2
  room:=fun i g' p h1 h2=>by obtain⟨k,k1,k2,_⟩:=back h1 h2;exact h.room k g' p k1 k2
  eT:=fun i i' g' g'' p p' h1 h2 h3 h4 qu bH=>by
   obtain⟨k,k1,k2,k3⟩:=back h1 h2;obtain⟨l,l1,l2,l3⟩:=back h3 h4;exact h.eT k l g' g'' p p' k1 k2 l1 l2 qu (by omega)
  obj:=fun i g' p ob h1 h2 h3=>by obtain⟨k,k1,k2,_⟩:=back h1 h2;rw[CI k1] at h3;cases h3
  fG:=fun i i' g' g'' p p' h1 h2 h3 h4 h5=>by obtain⟨k,k1,k2,_⟩:=back h1 h2;rw[CI k1] at h5;cases h5
  lR:=fun i g' p h1 h2=>by obtain⟨k,k1,k2,_⟩:=back h1 h2;exact h.lR k g' p k1 k2
  dd:=fun i g' p h1 h2=>by obtain⟨k,k1,k2,_⟩:=back h1 h2;exact h.dd k g' p k1 k2
  dG:=fun i g' p h1 h2=>by obtain⟨k,k1,k2,_⟩:=back h1 h2;exact h.dG k g' p k1 k2 }
section
variable {E:eR}
theorem X.swap {k:List It}(h0:E.N0=[]){d n z:Nat}{f:Fr}{rg:List Rg}{g0 g:Rg}(r:Nat)(hr:rg[r]?=some g0)(hc:MV rg.length r 0 rg)(hg:g.cells.all (SV.uM rg.length r)=true)(ho:∀g'∈rg++[g],g'.ob=none)(hf:TV rg.length r f)
  (h:X E k ⟨(d,.val (.osl r 0 n z none))::f,rg.set r g⟩):X E k ⟨(d,.val (.osl rg.length 0 n z none))::f,rg++[g]⟩:=by
 refine X.conv fun N a w hN de hS=>?_
 have hlen:=hS.len;obtain⟨M,q,rfl⟩:∃M q,N=M++[q]:=by
  rcases aba N with h|⟨M,q,h⟩
  ·subst h;simp at hlen
  ·exact⟨M,q,by rw[h];simp⟩
 have hM:M.length=rg.length:=by simpa using hlen
 have lQ:r<rg.length:=(aah.1 hr).1;refine⟨E,⟨(d,.val (.osl r 0 n z none))::f,rg.set r g⟩,rfl,rfl,rfl,rfl,⟨M.set r q,by rw[h0];exact nil_le _,de.sh ⟨rfl,fun x hx=>?_,TV.sh hM hf⟩,hS.swap hr hc hg ho⟩,h⟩;have e1:(M++[q])[rg.length]?=some q:=by rw[<-hM];simp
 have e2:(M.set r q)[r]?=some q:=aaB (by omega);simp only[SV.den,e1] at hx
 simpa only [SV.den,e2] using hx
end
def gV (r n z:Nat):SV:=bif aad n 0 then .raw (.slice none 0 0) else .osl r 0 n z none
def eV (r n z:Nat):SV:=bif aad n 0 then .osl r 0 0 z (some 0) else .osl r 0 n z none
section
variable {E:eR}
theorem X.uu {T:aQ}(hT:aq E.P T)(h0:E.N0=[])(kp:List Nat){all:Array Oper}{i:Nat}{rest:List Nat}{k:List It}{s:St}{o:Oper}{x y:aal}{ts tx e m n d r:Nat}{ti te:TI}{sx sy:SV}{cs new:List SV}{f1 f2:Fr}(ho:nth all.toList i=some o)(hg:sure all s.fr o=true)
  (cC:o.op=.call { callee:=.builtin .append,args:=#[x,y],argTypes:=#[ts,tx] }) (hx:ev s.fr x=some sx) (hy:ev s.fr y=some sy) (BA:bo T ts=some ti) (hk:ti.kind=.slice e) (kN:bo T e=some te)
  (pQ:sx=gV r n te.size\/sx=eV r n te.size\/sx=.osl r 0 n te.size none) (hr:nth s.rg r=some ⟨true,cs,none⟩) (dS:cs.length=n*te.size) (hm:m≠0) (lD:jD T s.rg te sy tx=some (new,m)) (dm:iZ.kz te new n m=true)
  (hd:o.dst=some d) (hp:eK E.n s.fr (some d) (.val (.osl s.rg.length 0 (n+m) te.size none))=some f1) (hf:f1.filter (fun p=>kp.elem p.1)=(d,.val (.osl s.rg.length 0 (n+m) te.size none))::f2)
  (de:TV s.rg.length r f2) (I6:MV s.rg.length r 0 s.rg) (hcn:(cs++new).all (SV.uM s.rg.length r)=true) (fm:s.rg.all (fun g=>g.ob.isNone)=true)
  (h:X E (.ops all rest::k) ⟨(d,.val (.osl r 0 (n+m) te.size none))::f2,s.rg.set r ⟨true,cs++new,none⟩⟩):X E (.ops all (i::rest)::k) s:=by
 have Na:s.rg[r]?=some ⟨true,cs,none⟩:=by rw[<-bT];exact hr
 have lQ:r<s.rg.length:=(aah.1 Na).1;have YT:∀g'∈s.rg,g'.ob=none:=fun g' eN=>by
  have:=aaE.1 fm g' eN;cases h:g'.ob with
  |none=>rfl
  |some _=>rw[h] at this;cases this
 -- the last region of L8,put in place r
 have fin:∀L8:List Rg,L8.length=s.rg.length->(∀g,L8.set r g=s.rg.set r g)->(∃g0,L8[r]?=some g0)->MV s.rg.length r 0 L8->(∀g'∈L8,g'.ob=none)->X E (.ops all rest::k) ⟨f1,L8++[⟨true,cs++new,none⟩]⟩:=fun L8 e1 e2 ⟨g0,e3⟩ e4 e5=>by
  refine X.less kp ?_;simp only[hf];rw[<-e1];refine X.swap h0 r e3 (by rw[e1];exact e4) (by rw[e1];exact hcn) (fun g' eN=>?_) (by rw[e1];exact de) (by rw[e2];exact h);rcases List.mem_append.1 eN with h|h
  ·exact e5 g' h
  ·rw[aap.1 h]
 have late:X E (.ops all rest::k) ⟨f1,s.rg.set r ⟨false,[],none⟩++[⟨true,cs++new,none⟩]⟩:=by
  refine fin (s.rg.set r ⟨false,[],none⟩) (by simp) (fun g=>by simp) ⟨_,aaB lQ⟩ ?_ (fun g' eN=>?_)
  ·have key:∀(gs:List Rg) (j i:Nat),MV s.rg.length r j gs->j+i=r->MV s.rg.length r j (gs.set i ⟨false,[],none⟩):=fun gs=>by
    induction gs with
    |nil=>intro j i h1 _;simpa using h1
    |cons g gs ih =>
     intro j i h1 h2;cases i with
     |zero=>exact⟨.inl (by omega),h1.2⟩
     |succ i=>exact⟨h1.1,ih (j+1) i h1.2 (by omega)⟩
   exact key s.rg 0 r I6 (by omega)
  ·rcases List.mem_or_eq_of_mem_set eN with h|h
   ·exact YT g' h
   ·rw[h]
 by_cases hx3:sx=.osl r 0 n te.size none
 ·subst hx3
  exact X.oD hT (du ho hg cC hx hy BA hk kN lD (jk hr dS hm dm) (by rw[hd];exact hp)) late
 have pQ:sx=gV r n te.size\/sx=eV r n te.size:=by
  rcases pQ with h|h|h
  ·exact .inl h
  ·exact .inr h
  ·exact absurd h hx3
 by_cases hn:n=0
 ·subst hn
  have Vh:cs=[]:=aa8 (by rw[dS,Nat.zero_mul]);have KB:iZ s.rg te sx new m=some (.osl s.rg.length 0 (0+m) te.size none,s.rg++[⟨true,cs++new,none⟩]):=by
   rw[Vh,aao,Nat.zero_add];rcases pQ with rfl|rfl
   ·exact q9 hm dm
   ·exact ie hr hm dm
  refine X.oD hT (du ho hg cC hx hy BA hk kN lD KB (by rw[hd];exact hp)) ?_;exact fin s.rg rfl (fun _=>rfl) ⟨_,Na⟩ I6 YT
 ·have hb:aad n 0=false:=by cases h:aad n 0 with|false=>rfl|true=>exact absurd (aay h) hn
  have VS:sx=.osl r 0 n te.size none:=by
   rcases pQ with rfl|rfl
   ·simp only[gV,hb,cond_false]
   ·simp only[eV,hb,cond_false]
  subst VS;refine X.oD hT (du ho hg cC hx hy BA hk kN lD (jk hr dS hm dm) (by rw[hd];exact hp)) ?_;exact late
end
theorem jJ {E:Env}{N0:af}{rg:List Rg}{f:Fr}{g:GK}{t e:aar}{x ix:aal}{n z q r c:Nat}{sx:SV}{kd:IntKind}{s:SI}(hx:hY f g x=some sx)(pQ:sx=gV r n q\/sx=eV r n q\/∃k,sx=.osl r 0 n q k)(lB:hY f g ix=some (.int kd s))(hz:g.T->s.den=(z:Int))(hu:E.P.underlying t=some (.slice e))(hq:∀w,(sizeOf e).run E.P w=.ok q w)
  (aF:g.T->z<n) (hc:c=z*q) (hr:r<rg.length):au E N0 rg f g (.indexAddr t x ix) (.own r c):=by
 intro ht N ρ op w ck cC df hV;have h1:=df _ _ hx;have h2:=df _ _ lB;have aF:=aF ht;obtain⟨p,hp⟩:∃p,N[r]?=some p:=⟨_,aae (by have:=hV.1.len;omega)⟩;have hb:aad n 0=false:=by cases h:aad n 0 with|false=>rfl|true=>have:=aay h;omega
 obtain⟨k,hk⟩:∃k,ρ x=.slice (some ⟨p.b,p.o+0,none⟩) n k:=by
  rcases pQ with rfl|rfl|⟨k,rfl⟩
  ·simp only[gV,hb,cond_false,SV.den,hp,aA] at h1;exact⟨_,h1.symm⟩
  ·simp only[eV,hb,cond_false,SV.den,hp,aA] at h1;exact⟨_,h1.symm⟩
  ·simp only[SV.den,hp,aA] at h1;exact⟨_,h1.symm⟩
 simp only[SV.den,hz ht,aA] at h2;refine⟨.pointer (some ⟨p.b,p.o+c,none⟩),by simp only[SV.den,hp],fun w' _=>?_⟩;simp only[execOp,cC,hk,<-h2,aax,aan,aaF];simp[abh,asIntOf,run_underlying hu,aan,aF,hq,dy,hc]
theorem Fo {E:Env}{N0:af}{rg:List Rg}{f:Fr}{g:GK}{x:aal}{ts e n q r:Nat}{sx:SV}(hx:hY f g x=some sx)(pQ:sx=gV r n q\/sx=eV r n q)(hu:E.P.underlying ts=some (.slice e))(hr:r<rg.length):au E N0 rg f g (.call { callee:=.builtin .len,args:=#[x],argTypes:=#[ts] }) (.int .i64 (.nat n)):=by
 intro ht N ρ op w ck cC df hV;have h1:=df _ _ hx;obtain⟨p,hp⟩:∃p,N[r]?=some p:=⟨_,aae (by have:=hV.1.len;omega)⟩;obtain⟨q,k,hk⟩:∃q k,ρ x=.slice q n k:=by
  by_cases hn:n=0
  ·subst hn
   rcases pQ with rfl|rfl
   ·simp[gV,SV.den,bc] at h1;exact⟨_,_,h1.symm⟩
   ·simp only[eV,abp,cond_true,SV.den,hp,aA] at h1;exact⟨_,_,h1.symm⟩
  ·have hb:aad n 0=false:=by cases h:aad n 0 with|false=>rfl|true=>exact absurd (aay h) hn
   rcases pQ with rfl|rfl
   ·simp only[gV,hb,cond_false,SV.den,hp,aA] at h1;exact⟨_,_,h1.symm⟩
   ·simp only[eV,hb,cond_false,SV.den,hp,aA] at h1;exact⟨_,_,h1.symm⟩
 refine⟨.int .i64 n,rfl,fun w' _=>?_⟩;have h2:(Builtin.len_ #[ts] op.type #[.slice q n k]).run E.P w'=.ok (.int .i64 n) w':=by simp[Builtin.len_,run_underlying hu,aan,goInt]
 simp[execOp,cC,resolve,invoke,builtin,hk,h2]
theorem fZ {E:Env}{N0:af}{rg:List Rg}{f:Fr}{g:GK}{t:aar}{x:aal}{r c z:Nat}{gg:Rg}{row:List SV}(hx:hY f g x=some (.own r c))(ha:∀w,(isAgg t).run E.P w=.ok true w)(hs:∀w,(sizeOf t).run E.P w=.ok z w)(hr:rg[r]?=some gg)
  (hl:row.length=z) (hc:∀(j:Nat) (d:SV),row[j]?=some d->gg.cells[c+j]?=some d):au E N0 rg f g (.load t x) (.agg row):=by
 intro _ N ρ o w ck cC df hV;have h1:=df _ _ hx;obtain⟨p,hp⟩:∃p,N[r]?=some p:=⟨_,aae (abk (aah.1 hr).1 hV.1.len)⟩;simp only[SV.den,hp,aA] at h1;obtain⟨vs,BB⟩:∃vs,SV.ap N row=some vs:=SV.uL row fun j d hj=>by
  obtain⟨v,hv,_⟩:=hV.1.cell r gg p hr hp _ d (hc j d hj);exact⟨v,hv⟩
 obtain⟨hvl,hvg⟩:=SV.aP row BB;refine⟨.agg vs.toArray,by simp only[SV.den,BB],fun w' Pz=>?_⟩;have a6:(loadCells ⟨p.b,p.o+c,none⟩ z).run E.P w'=.ok vs.toArray w':=by
  have:=run_loadCells_list (P:=E.P) w' ⟨p.b,p.o+c,none⟩ vs (fun j v hj=>by
   rw[dy];have uT:j<row.length:=by have:=(aah.1 hj).1;omega
   obtain⟨v1,k1,k2⟩:=hvg j _ (aae uT);rw[k2] at hj;cases hj;obtain⟨v2,k3,k4⟩:=Pz.1.cell r gg p hr hp _ _ (hc j _ (aae uT));rw[k1] at k3;cases k3;rw[abj];exact k4)
  rw[hvl,hl] at this;exact this
 simp only[execOp,cC,<-h1,abi,aaR,loadVar,aax,aaF,aan,ha,if_true,hs,a6]
theorem kV {r n z m:Nat}(h:r<m):bd m (eV r n z)=true:=by
 unfold eV;cases aad n 0<;>simp[bd,h]
theorem An {r n z L q:Nat}(h:r<L)(h2:r≠q):(eV r n z).uM L q=true:=by
 unfold eV;have:aad r q=false:=by cases h:aad r q with|false=>rfl|true=>exact absurd (aay h) h2
 cases aad n 0<;>simp[SV.uM,h,this]
theorem El {N:af}{r n z:Nat}{p:aS}{v:Value}(hp:N[r]?=some p)(h:(eV r n z).den N=some v):∃c,v=.slice (some ⟨p.b,p.o+0,none⟩) n c:=by
 by_cases hn:n=0
 ·subst hn
  simp only[eV,abp,cond_true,SV.den,hp,aA] at h;exact⟨_,h.symm⟩
 ·have hb:aad n 0=false:=by cases h:aad n 0 with|false=>rfl|true=>exact absurd (aay h) hn
  simp only[eV,hb,cond_false,SV.den,hp,aA] at h;exact⟨_,h.symm⟩
theorem lA {N:af}{r n z:Nat}{p:aS}{v:Value}(hp:N[r]?=some p)(h:(gV r n z).den N=some v):∃q c,v=.slice q n c/\(0<n->q=some ⟨p.b,p.o+0,none⟩)/\(n=0->q=none/\c=0):=by
 by_cases hn:n=0
 ·subst hn
  simp[gV,SV.den,bc] at h;exact⟨_,_,h.symm,fun h=>absurd h (Nat.lt_irrefl 0),fun _=>⟨rfl,rfl⟩⟩
 ·have hb:aad n 0=false:=by cases h:aad n 0 with|false=>rfl|true=>exact absurd (aay h) hn
  simp only[gV,hb,cond_false,SV.den,hp,aA] at h;exact⟨_,_,h.symm,fun _=>rfl,fun h=>absurd h hn⟩
theorem Kj {N N':af}{r r' n z:Nat}(h:N'[r']?=N[r]?)(x:Value)(hx:(eV r n z).den N=some x):(eV r' n z).den N'=some x:=by
 unfold eV at hx ⊢;cases hb:aad n 0<;>simp only[hb,cond_true,cond_false,SV.den,h] at hx ⊢<;>exact hx
theorem oW {N:af}{c:SV}{cs:List SV}{l:List Value}(h:SV.ap N (c::cs)=some l):∃v l',l=v::l'/\c.den N=some v/\SV.ap N cs=some l':=by
 simp only[SV.ap] at h
 split at h
 ·rename_i v hv
  split at h
  ·rename_i l' hl
   exact⟨v,l',(aaf.inj h).symm,hv,hl⟩
  ·cases h
 ·cases h
theorem BZ {N:af}{l:List Value}(h:SV.ap N []=some l):l=[]:=by
 simp only[SV.ap] at h;exact(aaf.inj h).symm
theorem X.keep {E:eR}{k:List It}(h0:E.N0=[])(rs:List Nat)(sH:rs.Nodup){f:Fr}(f':Fr){rg:List Rg}(cN:List Rg)(hl:cN.length=rs.length)(kF:∀(i r:Nat),rs[i]?=some r->cN[i]?=rg[r]?)
  (hs:∀N N':af,N.length=rg.length->N'.length=rs.length->(∀(i r:Nat),rs[i]?=some r->N'[i]?=N[r]?)->Sh N N' f f') (hc:∀g∈cN,∀c∈g.cells,∀(N N':af) (v:Value),c.den N=some v->c.den N'=some v) (fm:∀g∈cN,g.ob=none) (h:X E k ⟨f',cN⟩):X E k ⟨f,rg⟩:=by
 refine X.conv fun N a w hN de hS=>?_
 have hNl:N.length=rg.length:=hS.len;have aF:∀(i r:Nat),rs[i]?=some r->r<rg.length:=fun i r hi=>by
  have h1:=kF i r hi;have yb:i<cN.length:=by rw[hl];exact(aah.1 hi).1
  rw[aae yb] at h1;exact(aah.1 h1.symm).1
 obtain⟨N',db,ef⟩:∃N':af,N'.length=rs.length/\∀(i r:Nat),rs[i]?=some r->N'[i]?=N[r]?:=by
  refine⟨rs.map fun r=>N.getD r ⟨0,0,0⟩,by simp,fun i r hi=>?_⟩;have hr:=aF i r hi;simp[List.getElem?_map,hi,aae (show r<N.length by omega)]
 have back:∀{i:Nat} {g:Rg} {p:aS},cN[i]?=some g->N'[i]?=some p->∃r,rs[i]?=some r/\rg[r]?=some g/\N[r]?=some p:=fun {i g p} h1 h2=>by
  have hi:i<rs.length:=by rw[<-hl];exact(aah.1 h1).1
  refine⟨rs[i],aae hi,?_,?_⟩
  ·rw[<-kF i _ (aae hi)];exact h1
  ·rw[<-ef i _ (aae hi)];exact h2
 have CI:∀{i:Nat} {g:Rg},cN[i]?=some g->g.ob=none:=fun h=>fm _ (aaj h)
 refine⟨E,⟨f',cN⟩,rfl,rfl,rfl,rfl,⟨N',by rw[h0];exact nil_le _,de.sh (hs N N' hNl db ef),?_⟩,h⟩;exact { hS with
  len:=by rw[db,hl]
  lt:=fun i p hp=>by
   have hi:i<rs.length:=by rw[<-db];exact(aah.1 hp).1
   rw[ef i _ (aae hi)] at hp;exact hS.lt _ p hp
  cell:=fun i g p h1 h2 j c hj=>by
   obtain⟨r,_,k1,k2⟩:=back h1 h2;obtain⟨v,hv,hw⟩:=hS.cell r g p k1 k2 j c hj;exact⟨v,hc g (aaj h1) c (aaj hj) _ _ v hv,hw⟩
  ext:=fun i g p h1 h2=>by obtain⟨r,_,k1,k2⟩:=back h1 h2;exact hS.ext r g p k1 k2
  room:=fun i g p h1 h2=>by obtain⟨r,_,k1,k2⟩:=back h1 h2;exact hS.room r g p k1 k2
  eT:=fun i i' g g' p p' h1 h2 h3 h4 qu bH=>by
   obtain⟨r,r1,k1,k2⟩:=back h1 h2;obtain⟨r',r2,l1,l2⟩:=back h3 h4;refine hS.eT r r' g g' p p' k1 k2 l1 l2 qu fun e=>bH ?_
   subst e;exact(List.getElem?_inj (aah.1 r1).1 sH).1 (by rw[r1,r2])
  obj:=fun i g p ob h1 h2 h3=>by rw[CI h1] at h3;cases h3
  fG:=fun i i' g g' p p' h1 h2 h3 h4 h5=>by rw[CI h1] at h5;cases h5
  lR:=fun i g p h1 h2=>by obtain⟨r,_,k1,k2⟩:=back h1 h2;exact hS.lR r g p k1 k2
  dd:=fun i g p h1 h2=>by obtain⟨r,_,k1,k2⟩:=back h1 h2;exact hS.dd r g p k1 k2
  dG:=fun i g p h1 h2=>by obtain⟨r,_,k1,k2⟩:=back h1 h2;exact hS.dG r g p k1 k2 }
end Go.bU
namespace Go.Proofs.YthpbefahaghbjaaGreat
open Go Go.bU
theorem wrap64 (z:Int):aaq.wrap z=z % 18446744073709551616:=by
 simp[IntKind.wrap,IntKind.bits,IntKind.signed]
theorem IK (a b:Int)(ha:0<=a)(hb:0<=b) :
  ((a % 4294967296)*(b % 4294967296) % 18446744073709551616+(((a % 4294967296)*(b / 4294967296) % 18446744073709551616+(a / 4294967296)*(b % 4294967296) % 18446744073709551616) % 18446744073709551616 % 4294967296)*4294967296 % 18446744073709551616) % 18446744073709551616=a*b % 18446744073709551616:=by
 obtain⟨al,hal⟩:∃x,x=a % 4294967296:=⟨_,rfl⟩;obtain⟨ah,hah⟩:∃x,x=a / 4294967296:=⟨_,rfl⟩;obtain⟨bl,hbl⟩:∃x,x=b % 4294967296:=⟨_,rfl⟩;obtain⟨bh,hbh⟩:∃x,x=b / 4294967296:=⟨_,rfl⟩;have e1:a=al+4294967296*ah:=by omega
 have e2:b=bl+4294967296*bh:=by omega
 rw[<-hal,<-hah,<-hbl,<-hbh,e1,e2,Int.add_mul,abE,abE];have e3:al*(4294967296*bh)=4294967296*(al*bh):=by rw[abF]
 have e4:4294967296*ah*bl=4294967296*(ah*bl):=by rw[aaZ]
 have e5:4294967296*ah*(4294967296*bh)=18446744073709551616*(ah*bh):=by rw[aaZ,abF ah,<-aaZ];rfl
 rw[e3,e4,e5]
 generalize al*bl=x1
 generalize al*bh=x2
 generalize ah*bl=x3
 generalize ah*bh=x4
 omega
def Gr (a:Int):Prop:=0<=a/\a<18446744073709551616
theorem GA (a b:Int):Gr (uB a b):=by
 unfold uB Gr;rw[wrap64];omega
theorem Hj (a b:Int):Gr (sC a b):=by
 unfold sC ig Gr;simp only[wrap64];omega
theorem Dh (a b:Int)(w:World)(ha:Gr a)(hb:Gr b):Calls aac 123 #[.int .u64 a,.int .u64 b] w fun e w'=>e=.returned (.int .u64 (uB a b))/\aW (fun _ _=>False) w w':=by
 refine X.begin (rg:=[]) (N:=[]) (ss:=[.int .u64 (.v a),.int .u64 (.v b)]) Tryz.func123 rfl Ny rfl rfl Sat.bp ?_;refine X.go FP 400 _ rfl Tryz.results123 ?_
 conv=>arg 2;cbv
 refine X.done FP rfl (fun N w' v hN hS hv=>⟨bB hv ?_,hS.aM.none⟩);simp only[SI.den,wrap64,uB,aa0 ha.1,aa0 hb.1,aa1 ha.1,aa1 hb.1];rw[aa1 (by omega)];have h2:b % 4294967296 % 18446744073709551616=b % 4294967296:=by omega
 have h3:a / 4294967296 % 18446744073709551616=a / 4294967296:=by have:=ha.1;have:=ha.2;omega
 have h4:b / 4294967296 % 18446744073709551616=b / 4294967296:=by have:=hb.1;have:=hb.2;omega
 simp only[h2,h3,h4];rw[<-IK a b ha.1 hb.1]
theorem Dc (h:Int)(w:World)(hh:Gr h):Calls aac 109 #[.int .u64 h] w fun e w'=>e=.returned (.int .u64 (G4 h))/\aW (fun _ _=>False) w w':=by
 refine X.begin (rg:=[]) (N:=[]) (ss:=[.int .u64 (.v h)]) Tryz.func109 rfl Ns rfl rfl Sat.bp ?_;obtain⟨x,hx⟩:∃x,x=uB (sC h (h.fdiv (2 ^ 32))) 14029467366897019727:=⟨_,rfl⟩;have gf:Gr x:=by rw[hx];exact GA _ _
 have wr:∀y z:Int,Gr y->0<z->aaq.wrap (y.tdiv z)=y.fdiv z:=fun y z hy hz=>by
  rw[aa0 hy.1,Int.fdiv_eq_ediv_of_nonneg _ (by omega),wrap64];have h1:0<=y / z:=Int.ediv_nonneg hy.1 (by omega);have h2:y / z<=y:=Int.ediv_le_self _ hy.1;have:=hy.2;omega
 refine X.go zS 400 _ rfl abu ?_
 conv=>arg 2;cbv
 refine X.J3 (.int .u64 (.v x)) rfl rfl rfl rfl abv rfl (fun N w1 args hN hS ha=>?_) ?_
 ·have ha:args=[.int .u64 (sC h (aaq.wrap (h.tdiv 4294967296))),.int .u64 14029467366897019727]:=(aaf.inj ha).symm
  rw[ha,wr h 4294967296 hh (by decide)];refine(Dh _ _ w1 (Hj _ _) (by unfold Gr;omega)).mono fun e w' ⟨he,hc⟩=>⟨_,he,by rw[hx];rfl,hc⟩
 refine X.go zS 400 _ rfl abu ?_
 conv=>arg 2;cbv
 refine X.done zS rfl (fun N w' v hN hS hv=>⟨bB hv ?_,hS.aM.none⟩);unfold G4;rw[<-hx];show sC x (aaq.wrap (x.tdiv 536870912))=_;rw[wr x 536870912 gf (by decide)];rfl
theorem EV (l:List Int):Gr (AR l):=by
 rcases aba l with h|⟨m,x,h⟩
 ·subst h;unfold AR Gr;simp
 ·subst h
  unfold AR;rw[List.concat_eq_append,abb];exact GA _ _
theorem LI (l:List Int)(x:Int):AR (l++[x])=uB (sC (AR l) (aaq.wrap x)) 1099511628211:=by
 unfold AR;rw[abb];rfl
theorem LG (p:Option Addr)(n c:Nat)(d:Array Int)(w:World)(hle:n<=1000)(hA:nf p n d w):Calls aac 110 #[.slice p n c] w fun e w'=>e=.returned (.int .u64 (AR d.toList))/\aW (fun _ _=>False) w w':=by
 have hn:=hA.1;obtain⟨Q,hQ⟩:∃Q:Ending->World->Prop,Q=fun e w'=>e=.returned (.int .u64 (AR d.toList))/\aW (fun _ _=>False) w w':=⟨_,rfl⟩
 rw[<-hQ];refine X.begin (rg:=[]) (N:=[]) (ss:=[.ao p n c]) Tryz.func110 rfl Nu rfl rfl Sat.bp ?_;refine X.go qV 400 _ rfl aaM ?_
 conv=>arg 2;cbv
 refine X.loop (fun _:{i:Nat // i<=n}=>aK aac aaY Q w (bq [] []) (ab [] [] w) (fun _ _=>False) (fun _=>True) [] Nt)
  (fun g=>⟨[(0,.val (.ao p n c)),(3,.val (.int .u64 (.v (AR (d.toList.take g.1))))),(6,.val (.int .i64 (.nat n))),(7,.val (.int .i64 (.nat g.1)))],[]⟩) (fun g=>n-g.1) (fun _=>⟨rfl,rfl,rfl,rfl⟩) (fun N ac w' hN hf hS=>⟨⟨0,aaS _⟩,?_⟩) (fun g q hq=>?_)
 ·exact At.eJ hf hS trivial
 obtain⟨i,hi⟩:=g;obtain⟨h,hh⟩:∃h,h=AR (d.toList.take i):=⟨_,rfl⟩;have PM:Gr h:=by rw[hh];exact EV _
 show X (aK aac aaY Q w (bq [] []) (ab [] [] w) (fun _ _=>False) (fun _=>True) [] Nt) _ ⟨[(0,.val (.ao p n c)),(3,.val (.int .u64 (.v (AR (d.toList.take i))))),(6,.val (.int .i64 (.nat n))),(7,.val (.int .i64 (.nat i)))],[]⟩;rw[<-hh];refine X.go qV 400 _ rfl aaM ?_
 conv=>arg 2;cbv
 refine X.cond rfl (fun aF=>?_) (fun cJ=>?_)
 ·simp only[SB.T,SI.den] at aF
  have aF:i<n:=by omega
  obtain⟨b,y,hp,hd⟩:=hA.2 (by omega);obtain⟨x,hx⟩:∃x,x=d[i]! := ⟨_,rfl⟩;obtain⟨oi,pP⟩:∃o,o=y+i:=⟨_,rfl⟩;have lB:ab [] [] w b (oi+0)=some (.int .u8 x):=by rw[aaH,dD,pP,hx];exact hd i (by omega)
  obtain⟨z,hz⟩:∃z,z=uB (sC h (aaq.wrap x)) 1099511628211:=⟨_,rfl⟩;have pS:AR (d.toList.take (i+1))=z:=by
   have:d.toList.take (i+1)=d.toList.take i++[x]:=by
    rw[abc,aae (by simp;omega),hx,getElem!_pos d i (by omega)];simp
   rw[this,LI,<-hh,hz]
  refine X.dk ([(13,.ext b oi 0),(14,.int .u8 (.v x)),(17,.int .u64 (.v z))]) qV 400 _ rfl aaM (fun pr fin aj ai=>?_)
  conv=>cbv
  refine⟨aj _ (.of abv [.int .u64 (sC h (aaq.wrap x)),.int .u64 1099511628211] (.int .u64 z) (fun _=>rfl) (fun _=>rfl) fun _ w1 _=>by rw[hz];exact Dh _ _ w1 (Hj _ _) (by unfold Gr;omega)),aj _ (au.eC rfl aaK (fun _=>rfl) fun _=>lB),aj _ (au.at (z:=i) rfl rfl (fun _=>rfl) abw abx (fun _=>aF) hp (by omega)),ai _ _ ?_⟩;refine X.back (fun N ac w' hN hf hS=>hq ⟨i+1,aF⟩ ac w' (by simp only;omega) ?_);show At (aK aac aaY Q w (bq [] []) (ab [] [] w) (fun _ _=>False) (fun _=>True) [] Nt) ⟨[(0,.val (.ao p n c)),(3,.val (.int .u64 (.v (AR (d.toList.take (i+1)))))),(6,.val (.int .i64 (.nat n))),(7,.val (.int .i64 (.nat (i+1))))],[]⟩ ac w';rw[pS];exact At.eJ hf hS trivial
 ·simp only[SB.F,SI.den] at cJ
  have fI:d.toList.take i=d.toList:=abf (by simp;omega);refine X.go qV 400 _ rfl aaM ?_
  conv=>arg 2;cbv
  refine X.done qV rfl (fun N w' v hN hS hv=>?_);rw[hQ];exact⟨bB hv (by rw[<-fI];exact hh),hS.aM.none⟩
theorem uU {E:Env}{N:af}{rg:List Rg}{w:World}(hS:Sat E N rg w){r n:Nat}{ow:Bool}{x:Array Int}{xs:List SV}{p:aS}(hg:rg[r]?=some ⟨ow,xs,none⟩)(hp:N[r]?=some p)(hn:x.size=n)(hx:∀j,j<n->∃e,xs[j]?=some (.int .u8 e)/\e.den=x[j]!):nf (some ⟨p.b,p.o+0,none⟩) n x w :=
 ⟨hn,fun _=>⟨p.b,p.o,rfl,fun j hj=>by
  obtain⟨e,h1,h2⟩:=hx j (by omega);obtain⟨v,h3,h4⟩:=hS.cell r _ p hg hp j _ h1;simp only[SV.den,h2,aA] at h3;rw[h4,<-h3]⟩⟩
theorem za (n v:Int)(w:World):Calls aac 98 #[.int .u8 n,.int .u8 v] w fun e w'=>e=.returned (.int .u64 (lE n v))/\aW (fun _ _=>False) w w':=by
 refine X.begin (rg:=[]) (N:=[]) (ss:=[.int .u8 (.v n),.int .u8 (.v v)]) Tryz.func98 rfl Tv rfl rfl Sat.bp ?_;obtain⟨x,hx⟩:∃x,x=AR [110,n,v]:=⟨_,rfl⟩;obtain⟨z,hz⟩:∃z,z=lE n v:=⟨_,rfl⟩;refine X.go DY 400 _ rfl aby ?_
 conv=>arg 2;cbv
 refine X.J3 (.int .u64 (.v x)) rfl rfl rfl rfl abz rfl (fun N w1 args hN hS ha=>?_) ?_
 ·obtain⟨p,hp⟩:∃p,N[0]?=some p:=⟨_,aae (by rw[hS.len];simp)⟩
  obtain⟨c,ha⟩:∃c,args=[.slice (some ⟨p.b,p.o+0,none⟩) 3 c]:=by
   simp only[SV.ap,SV.den,hp] at ha;exact⟨_,(aaf.inj ha).symm⟩
  rw[ha];refine(LG _ 3 c #[110,n,v] w1 (by decide) (uU hS rfl hp rfl (fun j hj=>?_))).mono fun e w' ⟨he,hc⟩=>⟨_,he,by rw[hx];rfl,hc⟩
  match j,hj with
  |0,_|1,_|2,_=>exact⟨_,rfl,rfl⟩
 refine X.dk ([(9,.int .u64 (.v z))]) DY 400 _ rfl aby (fun pr fin aj ai=>?_)
 conv=>cbv
 refine⟨aj _ (.of abA [.int .u64 x] (.int .u64 z) (fun _=>rfl) (fun _=>rfl) fun _ w1 _=>by rw[hz,lE,<-hx];exact Dc x w1 (by rw[hx];exact EV _)),ai _ _ ?_⟩;refine X.done DY rfl (fun N w' v hN hS hv=>⟨bB hv hz,hS.aM.none⟩)
theorem P4 (k:Int)(w:World):Calls aac 97 #[.int .u8 k] w fun e w'=>e=.returned (.int .u64 (mL k))/\aW (fun _ _=>False) w w':=by
 refine X.begin (rg:=[]) (N:=[]) (ss:=[.int .u8 (.v k)]) Tryz.func97 rfl Tu rfl rfl Sat.bp ?_;obtain⟨x,hx⟩:∃x,x=AR [107,k]:=⟨_,rfl⟩;obtain⟨z,hz⟩:∃z,z=mL k:=⟨_,rfl⟩;refine X.go DW 400 _ rfl abB ?_
 conv=>arg 2;cbv
 refine X.J3 (.int .u64 (.v x)) rfl rfl rfl rfl abz rfl (fun N w1 args hN hS ha=>?_) ?_
 ·obtain⟨p,hp⟩:∃p,N[0]?=some p:=⟨_,aae (by rw[hS.len];simp)⟩
  obtain⟨c,ha⟩:∃c,args=[.slice (some ⟨p.b,p.o+0,none⟩) 2 c]:=by
   simp only[SV.ap,SV.den,hp] at ha;exact⟨_,(aaf.inj ha).symm⟩
  rw[ha];refine(LG _ 2 c #[107,k] w1 (by decide) (uU hS rfl hp rfl (fun j hj=>?_))).mono fun e w' ⟨he,hc⟩=>⟨_,he,by rw[hx];rfl,hc⟩
  match j,hj with
  |0,_|1,_=>exact⟨_,rfl,rfl⟩
 refine X.dk ([(6,.int .u64 (.v z))]) DW 400 _ rfl abB (fun pr fin aj ai=>?_)
 conv=>cbv
 refine⟨aj _ (.of abA [.int .u64 x] (.int .u64 z) (fun _=>rfl) (fun _=>rfl) fun _ w1 _=>by rw[hz,mL,<-hx];exact Dc x w1 (by rw[hx];exact EV _)),ai _ _ ?_⟩;refine X.done DW rfl (fun N w' v hN hS hv=>⟨bB hv hz,hS.aM.none⟩)
theorem Aw (p:Option Addr)(n c:Nat)(d:Array Int)(z:Int)(w:World)(hle:n<=100000)(hA:nf p n d w):Calls aac 86 #[.slice p n c,.int .u8 z] w fun e w'=>e=.returned (.bool (decide (z∈d.toList)))/\aW (fun _ _=>False) w w':=by
 have hn:=hA.1;obtain⟨Q,hQ⟩:∃Q:Ending->World->Prop,Q=fun e w'=>e=.returned (.bool (decide (z∈d.toList)))/\aW (fun _ _=>False) w w':=⟨_,rfl⟩
 rw[<-hQ];refine X.begin (rg:=[]) (N:=[]) (ss:=[.ao p n c,.int .u8 (.v z)]) Tryz.func86 rfl Tn rfl rfl Sat.bp ?_;refine X.go nL 400 _ rfl aaA ?_
 conv=>arg 2;cbv
 refine X.loop (fun _:{i:Nat // i<=n/\¬z∈d.toList.take i}=>aK aac abC Q w (bq [] []) (ab [] [] w) (fun _ _=>False) (fun _=>True) [] B86)
  (fun g=>⟨[(0,.val (.ao p n c)),(1,.val (.int .u8 (.v z))),(7,.val (.int .i64 (.nat n))),(8,.val (.int .i64 (.nat g.1)))],[]⟩) (fun g=>n-g.1) (fun _=>⟨rfl,rfl,rfl,rfl⟩) (fun N ac w' hN hf hS=>⟨⟨0,aaS _,by simp⟩,?_⟩) (fun g q hq=>?_)
 ·exact At.eJ hf hS trivial
 obtain⟨i,hi,hnz⟩:=g;show X (aK aac abC Q w (bq [] []) (ab [] [] w) (fun _ _=>False) (fun _=>True) [] B86) _ ⟨[(0,.val (.ao p n c)),(1,.val (.int .u8 (.v z))),(7,.val (.int .i64 (.nat n))),(8,.val (.int .i64 (.nat i)))],[]⟩;refine X.go nL 400 _ rfl aaA ?_
 conv=>arg 2;cbv
 refine X.cond rfl (fun aF=>?_) (fun cJ=>?_)
 ·simp only[SB.T,SI.den] at aF
  have aF:i<n:=by omega
  obtain⟨b,y,hp,hd⟩:=hA.2 (by omega);obtain⟨x,hx⟩:∃x,x=d[i]! := ⟨_,rfl⟩;obtain⟨oi,pP⟩:∃o,o=y+i:=⟨_,rfl⟩;have lB:ab [] [] w b (oi+0)=some (.int .u8 x):=by rw[aaH,dD,pP,hx];exact hd i (by omega)
  have t_:d.toList.take (i+1)=d.toList.take i++[x]:=by
   rw[abc,aae (by simp;omega),hx,getElem!_pos d i (by omega)];simp
  refine X.dk ([(13,.ext b oi 0),(14,.int .u8 (.v x))]) nL 400 _ rfl aaA (fun pr fin aj ai=>?_)
  conv=>cbv
  refine⟨aj _ (au.eC rfl aaK (fun _=>rfl) fun _=>lB),aj _ (au.at (z:=i) rfl rfl (fun _=>rfl) abw abx (fun _=>aF) hp (by omega)),ai _ _ ?_⟩;refine X.cond rfl (fun he=>?_) (fun he=>?_)
  ·simp only[SB.T,SI.den] at he
   have hm:z∈d.toList:=by
    have:z∈d.toList.take (i+1):=by rw[t_];simp[he]
    exact List.mem_of_mem_take this
   refine X.go nL 400 _ rfl aaA ?_
   conv=>arg 2;cbv
   refine X.done nL rfl (fun N w' v hN hS hv=>?_);rw[hQ];exact⟨aw hv (by simp[SB.den,hm]),hS.aM.none⟩
  ·simp only[SB.F,SI.den] at he
   refine X.go nL 400 _ rfl aaA ?_
   conv=>arg 2;cbv
   refine X.back (fun N ac w' hN hf hS=>hq ⟨i+1,aF,by rw[t_];simp[hnz,Ne.symm he]⟩ ac w' (by simp only;omega) ?_);exact At.eJ hf hS trivial
 ·simp only[SB.F,SI.den] at cJ
  have hm:¬z∈d.toList:=by
   rw[abf (by simp;omega)] at hnz;exact hnz
  refine X.go nL 400 _ rfl aaA ?_
  conv=>arg 2;cbv
  refine X.done nL rfl (fun N w' v hN hS hv=>?_);rw[hQ];exact⟨aw hv (by simp[SB.den,hm]),hS.aM.none⟩
theorem Ls (x y:Int × Int)(w:World):Calls aac 99 #[.agg #[.int .u64 x.1,.int .u8 x.2],.agg #[.int .u64 y.1,.int .u8 y.2]] w fun e w'=>e=.returned (.bool (ltOf nR x y))/\aW (fun _ _=>False) w w':=by
 obtain⟨x1,x2⟩:=x;obtain⟨y1,y2⟩:=y;refine X.begin (rg:=[]) (N:=[]) (ss:=[.agg [.int .u64 (.v x1),.int .u8 (.v x2)],.agg [.int .u64 (.v y1),.int .u8 (.v y2)]]) Tryz.func99 rfl Tw rfl rfl Sat.bp ?_;refine X.go JM 400 _ rfl Tryz.results99 ?_
 conv=>arg 2;cbv
 refine X.done JM rfl (fun N w' v hN hS hv=>⟨aw hv ?_,hS.aM.none⟩);rw[Gw];exact i_ (by simp only[SB.T,SI.den];exact decide_eq_true_iff.symm)
end Go.Proofs.YthpbefahaghbjaaGreat
