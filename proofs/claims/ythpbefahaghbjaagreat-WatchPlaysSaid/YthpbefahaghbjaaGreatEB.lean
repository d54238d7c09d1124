import Derived.Test.YthpbefahaghbjaaGreatEA
import Derived.OrdersHeld
open Array renaming toArray_toList→aau,ext'→aaI,mapM_eq_mapM_toList→aa4,getElem?_eq_none→aa5,getElem?_toList→aa6,getElem?_setIfInBounds_ne→aa7
open Bool renaming and_eq_true→aak,or_eq_true→aa8
open Go renaming Oper→aac,Program→aad,Operand→aah,Func→aaj,Ending→aao,ResultVar→aaA,FuncId→aaE,bodyPost→aaF,ready_mono→aaL,mem_ready→aaM
open Go.Act renaming put→aaD,eval→aaW
open Go.Builtin renaming firstCells→aay,copy_→aaV,append_→abi
open Go.Instr renaming build→aaS,sureAddr→aa3
open Go.Region renaming wanted→aai,ready→aar,binds→aaK,noSelect→abk,free→abl
open Go.Result renaming andThen→aaq
open Go.Sem renaming run_bind→aaw,run_pure→aaz
open Go.Value.bool renaming injEq→aaT
open Go.World renaming cell?→aap,frozen?→abj
open List renaming getElem?_eq_some_iff→aas,getElem?_eq_getElem→aav,all_eq_true→aaG,getElem?_set_ne→aaH,mapM_cons→aaN,getElem?_cons_succ→aaO,getElem?_append_left→aaP,range→aaQ,getElem?_take→aaR,getElem?_map→aaY,length_append→aaZ,take_of_length_le→aa0,eq_nil_of_length_eq_zero→aa1,mem_range→aa2
open Nat renaming beq→aaf,ble→aag,blt→aal,eq_of_beq_eq_true→aam,le_of_ble_eq_true→aan,le_refl→aax,add_mul→aaB,lt_of_lt_of_le→aaC,lt_or_ge→aaJ,sub_zero→aaU,mul_le_mul_right→aa9,ble_eq_true_of_le→aba,beq_refl→abb,le_div_iff_mul_le→abc,min_le_left→abf,le_trans→abh
open Option renaming map_eq_some_iff→aaX
open Prod.mk renaming injEq→aae
namespace Go.bU
section
variable {E:Env} {N:af} {rg:List Rg} {w:World} {T:aQ}
theorem ug {P:aad}:∀l:List Field,(∀f∈l,(P.info? f.type).isSome=true)->(l.mapM fun f=>Prod.mk f.offset <$> sizeOf f.type).run P w=.ok (l.map fun f=>(f.offset,P.cellsOf f.type)) w
 | [],_=>by simp
 |f::l,hl=>by
  obtain⟨i,hfi⟩:=Option.isSome_iff_exists.1 (hl f (by simp));have hs:(sizeOf f.type).run P w=.ok (P.cellsOf f.type) w:=by rw[run_sizeOf hfi];simp[Program.cellsOf,hfi]
  simp[aaN,hs,ug l (fun g hg=>hl g (by simp[hg]))]
theorem zY {P:aad}(hT:aQ.ok P T){t:Nat}{ps:List (Nat × SV)}{vs:Array (Nat × Value)}{r:SV}
  (hv:∀(j:Nat) (p:Nat × SV),ps[j]?=some p->∃v,p.2.den N=some v/\vs.toList[j]?=some (p.1,v)) (hl:vs.toList.length=ps.length) (h:Ea T t ps=some r) :
  ∃v,r.den N=some v/\(aaS t vs).run P w=.ok v w:=by
 unfold Ea at h
 split at h
 ·rename_i ti ht
  have ok:=hT t ti ht;obtain⟨z,hz,EJ⟩:=ok.zero;have oh:SV.ap N ti.zero=some z.cells.toList:=SV.ej (N:=[]) (N':=N) (fun r p h=>by simp at h) _ EJ;have okk:=ok.kind
  split at h
  ·rename_i fs hk
   rw[hk] at okk
   split at h
   ·rename_i cs hf
    simp only[aA] at h;subst h;obtain⟨fields,hu,WT,fI⟩:=okk;obtain⟨q,nY,jM⟩:=kW ps vs.toList oh hv hl hf;refine⟨.agg q,by simp[SV.den,nY],?_⟩;have YZ:EY fs=fun(x:Nat)=>(fields.toList.map fun f=>(f.offset,P.cellsOf f.type))[x]?:=by
     funext i
     unfold EY;rw[bT,WT,aaY,aaY];cases fields.toList[i]?<;>rfl
    rw[YZ] at jM;simp only[aaS,aaw,hz,run_underlying hu,aaq];have:=ug (P:=P) (w:=w) fields.toList (fun f hf=>(fI f hf).1);simp[aa4,this] at jM ⊢;simp[jM]
   ·cases h
  ·rename_i n e hk
   rw[hk] at okk;have hu:P.underlying t=some (.array n e):=okk
   split at h
   ·rename_i te kN
    have l_:=hT e te kN
    split at h
    ·rename_i cs hf
     simp only[aA] at h;subst h;obtain⟨q,nY,jM⟩:=kW ps vs.toList oh hv hl hf;refine⟨.agg q,by simp[SV.den,nY],?_⟩;simp[aaS,hz,run_underlying hu,aaq,l_.size,jM]
    ·cases h
   ·cases h
  ·cases h
 ·cases h
theorem CR {c a b r:SV}{cb:Bool}{va vb:Value}(hc:c.den N=some (.bool cb))(ha:cb=true->a.den N=some va)(hb:cb=false->b.den N=some vb)(h:GN c a b=some r) :
  r.den N=some (bif cb then va else vb):=by
 unfold GN at h
 split at h
 ·simp only[aA] at h;subst h
  simp only[SV.den,SB.den,aA,aaT] at hc;subst hc;exact ha rfl
 ·simp only[aA] at h;subst h
  simp only[SV.den,SB.den,aA,aaT] at hc;subst hc;exact hb rfl
 ·rename_i c' _ _
  split at h
  ·rename_i a' b'
   simp only[aA] at h;subst h;simp only[SV.den,aA,aaT] at hc;subst hc;cases sE:c'.den with
   |true =>
    have:=ha sE;simp only[SV.den,aA] at this;subst this;simp[SV.den,y_,sE]
   |false =>
    have:=hb sE;simp only[SV.den,aA] at this;subst this;simp[SV.den,y_,sE]
  ·cases h
 ·cases h
theorem sY {ρ:aah->Option SV}{gQ:aah->Value}(df:∀x s,ρ x=some s->s.den N=some (gQ x)):∀(l:List (Nat × aah)) {r:List (Nat × SV)},UX ρ l=some r ->
  (∀(j:Nat) (p:Nat × SV),r[j]?=some p->∃v,p.2.den N=some v/\(l.map fun(i,x)=>(i,gQ x))[j]?=some (p.1,v))/\r.length=l.length
 | [],r,h=>by simp only[UX,aA] at h;subst h;simp
 |(i,x)::l,r,h=>by
  simp only[UX] at h;cases hx:ρ x with
  |none=>simp[hx] at h
  |some v =>
   cases hl:UX ρ l with
   |none=>simp[hx,hl] at h
   |some q =>
    simp only[hx,hl,aA] at h;subst h;obtain⟨h1,h2⟩:=sY df l hl;refine⟨fun j p hj=>?_,by simp[h2]⟩;cases j with
    |zero=>simp at hj;subst hj;exact⟨gQ x,df x v hx,by simp⟩
    |succ j=>simp only[aaO,List.map_cons] at hj ⊢;exact h1 j p hj
structure aq (P:aad) (T:aQ):Prop where
 ok:aQ.ok P T
 und:∀t ti,bo T t=some ti->(P.underlying t).isSome=true
 mixed:P.follows .mixedOrders=true
theorem TI.Wl {P:aad}{t:Nat}{ti:TI}(h:TI.of P t=some ti):(P.underlying t).isSome=true:=by
 unfold TI.of at h
 split at h
 ·split at h
  ·split at h
   ·rename_i hc
    simp only[aak] at hc;exact hc.1
   ·cases h
  ·cases h
 ·cases h
theorem aq.nil {P:aad}(hm:P.follows .mixedOrders=true):aq P []:=⟨fun t ti h=>by simp[bo] at h,fun t ti h=>by simp[bo] at h,hm⟩
theorem aq.cons {P:aad}{t:Nat}{ti:TI}{T:aQ}(h:TI.of P t=some ti)(k:aq P T):aq P ((t,ti)::T):=by
 refine⟨fun u tu hl=>?_,fun u tu hl=>?_,k.mixed⟩<;>simp only[bo] at hl<;>by_cases hk:t=u
 ·subst hk;simp at hl;subst hl;exact TI.GF h
 ·simp only[gS hk,cond_false] at hl;exact k.ok u tu hl
 ·subst hk;simp at hl;subst hl;exact TI.Wl h
 ·simp only[gS hk,cond_false] at hl;exact k.und u tu hl
theorem Db {P:aad}(hT:aq P T)(h:jg N rg w){ρ:aah->Option SV}{gQ:aah->Value}(df:∀x s,ρ x=some s->s.den N=some (gQ x)){o:aac}{r:SV}(hs:Mm T rg ρ o.op=some r) :
  ∃x,r.den N=some x/\(execOp gQ o).run P w=.ok (.value x) w:=by
 have fin:∀{s:Sem Value},(∃v,r.den N=some v/\s.run P w=.ok v w)->∃x,r.den N=some x/\((do pure (.value (<-s)):Sem Next)).run P w=.ok (.value x) w:=by
  rintro s ⟨v,h1,h2⟩
  exact⟨v,h1,by simp[h2]⟩
 cases cC:o.op<;>simp only[cC,Mm] at hs<;>try (simp at hs;done)
 case move x=>exact⟨_,df x r hs,by simp[execOp,cC]⟩
 case assign x=>exact⟨_,df x r hs,by simp[execOp,cC]⟩
 case load t a =>
  split at hs
  ·rename_i x hx
   obtain⟨v,h1,h2⟩:=ub hT.ok h (df _ _ hx) hs;exact⟨v,h1,by simp[execOp,cC,h2]⟩
  ·cases hs
 case nilCheck x =>
  split at hs
  ·rename_i y hy
   exact uD cC (df _ _ hy) hs
  ·cases hs
 case binOp op t x y ty =>
  split at hs
  ·rename_i a b ha hb
   obtain⟨v,h1,h2⟩:=qk (w:=w) hT.ok (df _ _ ha) (df _ _ hb) hs x y;refine⟨v,h1,?_⟩;simp only[execOp,cC];rw[aaw,h2];rfl
  ·cases hs
 case unOp op t x =>
  split at hs
  ·rename_i a ha
   obtain⟨v,h1,h2⟩:=IX (P:=P) (w:=w) (df _ _ ha) hs;exact⟨v,h1,by simp[execOp,cC,h2]⟩
  ·cases hs
 case convert s d x =>
  split at hs
  ·rename_i a ha
   obtain⟨v,h1,h2⟩:=BU (w:=w) hT.ok hT.und (df _ _ ha) hs;exact⟨v,h1,by simp[execOp,cC,h2]⟩
  ·cases hs
 case fieldAddr t x f =>
  split at hs
  ·rename_i a ha
   obtain⟨v,h1,h2⟩:=sZ (w:=w) hT.ok (df _ _ ha) hs;exact⟨v,h1,by simp[execOp,cC,h2]⟩
  ·cases hs
 case field t x f =>
  split at hs
  ·rename_i a ha
   obtain⟨v,h1,h2⟩:=Ap (w:=w) hT.ok (df _ _ ha) hs;exact⟨v,h1,by simp[execOp,cC,h2]⟩
  ·cases hs
 case indexAddr t x i =>
  split at hs
  ·rename_i a b ha hb
   obtain⟨v,h1,h2⟩:=tk (w:=w) hT.ok (df _ _ ha) (df _ _ hb) hs;exact⟨v,h1,by simp[execOp,cC,h2]⟩
  ·cases hs
 case index t x i =>
  split at hs
  ·rename_i a b ha hb
   obtain⟨v,h1,h2⟩:=AD (w:=w) hT.ok (df _ _ ha) (df _ _ hb) hs;exact⟨v,h1,by simp[execOp,cC,h2]⟩
  ·cases hs
 case extract x i =>
  split at hs
  ·rename_i a ha
   obtain⟨v,h1,h2⟩:=vS (P:=P) (w:=w) (df _ _ ha) hs;exact⟨v,h1,by simp[execOp,cC,h2]⟩
  ·cases hs
 case build t ps =>
  split at hs
  ·rename_i l hl
   obtain⟨h1,h2⟩:=sY df ps.toList hl;obtain⟨v,k1,k2⟩:=zY (P:=P) (w:=w) (vs:=ps.map fun(i,x)=>(i,gQ x)) hT.ok (by simpa using h1) (by simp[h2]) hs;exact⟨v,k1,by simp only[execOp,cC];simp[k2]⟩
  ·cases hs
 case call c =>
  split at hs
  ·rename_i jS
   split at hs
   ·rename_i x t hx ht
    split at hs
    ·rename_i a ha
     obtain⟨v,h1,h2⟩:=EQ (w:=w) (ty:=o.type) hT.ok (df _ _ ha) hs;refine⟨v,h1,?_⟩;obtain⟨callee,args,argTypes⟩:=c;simp only at jS hx ht;subst jS;have e1:args=#[x]:=by rw[<-aau (xs:=args),hx]
     have e2:argTypes=#[t]:=by rw[<-aau (xs:=argTypes),ht]
     subst e1;subst e2;simp[execOp,cC,resolve,invoke,builtin,h2]
    ·cases hs
   ·cases hs
  ·rename_i jS
   split at hs
   ·rename_i x y hx
    split at hs
    ·rename_i k a k' b ha hb
     simp only[aA] at hs;subst hs;have ha:=df _ _ ha;have hb:=df _ _ hb;simp only[SV.den,aA] at ha hb;obtain⟨callee,args,argTypes⟩:=c;simp only at jS hx;subst jS;have e1:args=#[x,y]:=by rw[<-aau (xs:=args),hx]
     subst e1;refine⟨_,by simp only[SV.den];rfl,?_⟩;simp[execOp,cC,resolve,invoke,builtin,Builtin.max_,<-ha,<-hb,Builtin.max2,Qb]
    ·cases hs
   ·cases hs
  ·rename_i jS
   split at hs
   ·rename_i x y hx
    split at hs
    ·rename_i k a k' b ha hb
     simp only[aA] at hs;subst hs;have ha:=df _ _ ha;have hb:=df _ _ hb;simp only[SV.den,aA] at ha hb;obtain⟨callee,args,argTypes⟩:=c;simp only at jS hx;subst jS;have e1:args=#[x,y]:=by rw[<-aau (xs:=args),hx]
     subst e1;refine⟨_,by simp only[SV.den];rfl,?_⟩;simp[execOp,cC,resolve,invoke,builtin,Builtin.min_,<-ha,<-hb,Builtin.min2,Qa]
    ·cases hs
   ·cases hs
  ·cases hs
 case makeFunc fn first cap =>
  split at hs
  ·rename_i f l hf hl
   simp only[aA] at hs;subst hs;have h1:=ql df _ hl;refine⟨_,by simp only[SV.den,h1];rfl,?_⟩;have e1:first=#[]:=by rw[<-aau (xs:=first),hf]
   subst e1;have e2:cap.map gQ=(cap.toList.map gQ).toArray:=by apply aaI;simp
   have e3:(#[]:Array aah).map gQ=#[]:=by apply aaI;simp
   simp only[execOp,cC,Instr.makeFunc,aaw,aaz,aaq,e2,e3]
  ·cases hs
 case slice t x lo hi mx =>
  split at hs
  ·rename_i sx l hh m hx hl PM hm
   obtain⟨v,h1,h2⟩:=A6 (w:=w) hT.ok h (df _ _ hx) (sX df hl) (sX df PM) (sX df hm) hs;exact⟨v,h1,by simp[execOp,cC,h2]⟩
  ·cases hs
def C9 (rg:List Rg)(z:Nat):SV->Option (List SV × Nat)
 | .osl r c n z' _=>match nth rg r with
  |some g=>bif aaf z z'&&aag (c+n*z) g.cells.length then some ((g.cells.drop c).take (n*z),n) else none
  |none=>none
 | .raw (.slice none 0 _)=>some ([],0)
 | .raw (.string s)=>bif aaf z 1 then some (s.data.toList.map (fun b=>.int .u8 (.lit b.toNat)),s.data.toList.length) else none
 |_=>none
def jD (T:aQ)(rg:List Rg)(te:TI)(x:SV)(tx:Nat):Option (List SV × Nat) :=
 match bo T tx with
 |some ti=>match ti.kind with
  | .int _=>match x with
   | .int _ (.lit l)=>bif decide (0<=l) then some (nu l.toNat te.zero,l.toNat) else none
   |_=>none
  | .slice _=>C9 rg te.size x
  | .string=>C9 rg te.size x
  |_=>none
 |none=>none
def iZ (rg:List Rg)(te:TI)(s:SV)(new:List SV)(m:Nat):Option (SV × List Rg) :=
 match s with
 | .raw (.slice none 0 0)=>bif kz te new 0 m then
   bif aaf m 0 then some (s,rg) else some (.osl rg.length 0 m te.size none,rg++[⟨true,new,none⟩])
  else none
 | .osl r c n z k=>match nth rg r with
  |some g=>bif kz te new n m&&aaf z te.size&&aag (c+n*z) g.cells.length then
    match k with
    |some kk=>bif aag (n+m) kk then
      bif aaf m 0 then some (s,rg) else
      bif g.own&&aag (c+(n+m)*z) g.cells.length then some (.osl r c (n+m) z k,rg.set r { g with cells:=setRow g.cells (c+n*z) new }) else none
     else some (.osl rg.length 0 (n+m) z none,rg++[⟨true,(g.cells.drop c).take (n*z)++new,none⟩])
    |none=>bif g.own then
      bif aaf m 0 then some (s,rg) else some (.osl rg.length 0 (n+m) z none,rg.set r ⟨false,[],none⟩++[⟨true,(g.cells.drop c).take (n*z)++new,none⟩])
     else none
   else none
  |none=>none
 |_=>none
where kz (te:TI) (new:List SV) (n m:Nat):Bool :=
          aal 0 te.size&&aaf te.zero.length te.size&&aaf new.length (m*te.size)&&new.all SV.one&&aag ((2*(n+m)+256)*te.bytes) 281474976710656&&aag (n+m) 1099511627776
def copyV (rg:List Rg)(te:TI)(d x:SV):Option (SV × List Rg) :=
 match d with
 | .osl r c n z _=>match nth rg r,C9 rg te.size x with
  |some g,some (cs,m)=>bif g.own&&aaf z te.size&&aaf cs.length (m*z)&&cs.all SV.one&&aag (c+min m n*z) g.cells.length then
    some (.int .i64 (.lit (min m n:Nat)),rg.set r { g with cells:=setRow g.cells c (cs.take (min m n*z)) })
   else none
  |_,_=>none
 |_=>none
def nl (T:aQ)(rg:List Rg)(ρ:aah->Option SV)(op:Op):Option (SV × List Rg) :=
 match op with
 | .alloc t=>match bo T t with
  |some ti=>some (.own rg.length 0,rg++[⟨true,ti.zero,none⟩])
  |none=>none
 | .box _ x=>match ρ x with
  |some (.tup _)=>none
  |some (.big _)=>none
  |some v=>some (.own rg.length 0,rg++[⟨true,v.cells,none⟩])
  |none=>none
 | .store t a x=>match ρ a,ρ x,bo T t with
  |some (.own r c),some v,some ti=>match nth rg r with
   |some g=>bif g.own&&aaf v.cells.length ti.size&&aag (c+ti.size) g.cells.length&&v.cells.all SV.one then
     some (.tup [],rg.set r { g with cells:=setRow g.cells c v.cells })
    else none
   |none=>none
  |_,_,_=>none
 | .buildSlice t len ps=>match bo T t with
  |some ti=>match ti.kind with
   | .slice e=>match bo T e,UX ρ ps.toList with
    |some te,some l=>bif aal 0 te.size&&aaf te.zero.length te.size&&aag (len*te.size) 16777216 then
      match rC (fun i=>some (i*te.size,te.size)) (nu len te.zero) l with
      |some cs=>some (.osl rg.length 0 len te.size (some len),rg++[⟨true,cs,none⟩])
      |none=>none
     else none
    |_,_=>none
   |_=>none
  |none=>none
 | .makeSlice t len cap=>match bo T t,ρ len,ρ cap with
  |some ti,some (.int _ (.lit n)),some (.int _ (.lit c))=>match ti.kind with
   | .slice e=>match bo T e with
    |some te=>bif aal 0 te.size&&aaf te.zero.length te.size&&decide (0<=n)&&decide (n<=c)&&decide (c<=1099511627776)&&aag (te.bytes*c.toNat) 281474976710656 then
      some (.osl rg.length 0 n.toNat te.size (some c.toNat),rg++[⟨true,nu c.toNat te.zero,none⟩])
     else none
    |none=>none
   |_=>none
  |_,_,_=>none
 | .call c=>match c.callee with
  | .builtin .append=>match c.args.toList,c.argTypes.toList with
   | [s,x],[ts,tx]=>match ρ s,ρ x,bo T ts with
    |some s,some x,some ti=>match ti.kind with
     | .slice e=>match bo T e with
      |some te=>match jD T rg te x tx with
       |some (new,m)=>iZ rg te s new m
       |none=>none
      |none=>none
     |_=>none
    |_,_,_=>none
   |_,_=>none
  | .builtin .copy=>match c.args.toList,c.argTypes.toList with
   | [d,x],[td,_]=>match ρ d,ρ x,bo T td with
    |some d,some x,some ti=>match ti.kind with
     | .slice e=>match bo T e with
      |some te=>copyV rg te d x
      |none=>none
     |_=>none
    |_,_,_=>none
   |_,_=>none
  |_=>none
 |_=>none
theorem wV:∀(l r:List SV),setRow l l.length r=l++r
 |l,[]=>by simp[setRow]
 |l,s::r=>by
  have h:∀(l:List SV),putAt l l.length s=l++[s]:=by
   intro l
   induction l with
   |nil=>rfl
   |cons x l ih=>simp[putAt,ih]
  rw[setRow,h];have:=wV (l++[s]) r;simp only[aaZ,List.length_cons,List.length_nil] at this;rw[this];simp
theorem sR {P:aad}(hT:aQ.ok P T)(h:Sat E N rg w){t e len:Nat}{ti te:TI}{ps:List (Nat × SV)}{vs:Array (Nat × Value)}{cs:List SV}(ht:bo T t=some ti)(hk:ti.kind=.slice e)(kN:bo T e=some te)
  (hb:(aal 0 te.size&&aaf te.zero.length te.size&&aag (len*te.size) 16777216)=true)
  (hv:∀(j:Nat) (p:Nat × SV),ps[j]?=some p->∃v,p.2.den N=some v/\vs.toList[j]?=some (p.1,v)) (hl:vs.toList.length=ps.length) (hf:rC (fun i=>some (i*te.size,te.size)) (nu len te.zero) ps=some cs) :
  ∃N' x w',N.le N'/\(SV.osl rg.length 0 len te.size (some len)).den N'=some x/\(Instr.buildSlice t len vs).run P w=.ok x w'/\Sat E N' (rg++[⟨true,cs,none⟩]) w':=by
 simp only[aak] at hb;obtain⟨⟨b1,b2⟩,b3⟩:=hb;have b1:0<te.size:=by simpa using b1
 have b2:=aam b2;have b3:=aan b3;have ok:=(hT t ti ht).kind;rw[hk] at ok;have j6:P.underlying t=some (.slice e):=ok;have l_:=hT e te kN;obtain⟨z,hz,EJ⟩:=l_.zero;have oh:SV.ap N te.zero=some z.cells.toList:=SV.ej (N:=[]) (N':=N) (fun r p h=>by simp at h) _ EJ;have pS:z.cells.size=te.size:=by have:=(SV.aP _ oh).1;simp at this;omega
 obtain⟨q,nY,jM⟩:=kW ps vs.toList (m:=(kS len z.cells.toList).toArray) (by simpa using nS oh len) hv hl hf;have a6:=wQ (P:=P) (w:=w) (parts:=vs) (q:=q) (zero:=z) (len:=len) j6 (fun w=>by rw[pS];exact l_.size w) hz (by omega) (by rw[pS];exact b3) (by rw[pS];exact jM);have hS:=h.alloc nY e;rw[aau] at hS;refine⟨_,_,_,af.aZ _ _,?_,a6,hS⟩;have:(N++[⟨w.heap.size,0,q.toList.length⟩])[rg.length]?=some ⟨w.heap.size,0,q.toList.length⟩:=by rw[<-h.len];simp
 simp only[SV.den,this,aS.cap]
theorem uA {P:aad}(hT:aQ.ok P T)(h:Sat E N rg w){t e:Nat}{n c:Int}{k k':IntKind}{ti te:TI}(ht:bo T t=some ti)(hk:ti.kind=.slice e)(kN:bo T e=some te)
  (hb:(aal 0 te.size&&aaf te.zero.length te.size&&decide (0<=n)&&decide (n<=c)&&decide (c<=1099511627776)&&aag (te.bytes*c.toNat) 281474976710656)=true) :
  ∃N' x w',N.le N'/\(SV.osl rg.length 0 n.toNat te.size (some c.toNat)).den N'=some x/\(Instr.makeSlice t (.int k n) (.int k' c)).run P w=.ok x w'/\Sat E N' (rg++[⟨true,bU.nu c.toNat te.zero,none⟩]) w':=by
 simp only[aak,decide_eq_true_eq] at hb;obtain⟨⟨⟨⟨⟨b1,b2⟩,b3⟩,b4⟩,b5⟩,b6⟩:=hb;have b1:0<te.size:=by simpa using b1
 have b2:=aam b2;have b6:=aan b6;obtain⟨n,rfl⟩:=Int.eq_ofNat_of_zero_le b3;obtain⟨c,rfl⟩:=Int.eq_ofNat_of_zero_le (show 0<=c by omega);have ok:=(hT t ti ht).kind;rw[hk] at ok;have j6:P.underlying t=some (.slice e):=ok;have l_:=hT e te kN;obtain⟨z,hz,EJ⟩:=l_.zero;obtain⟨i,hi,Vs⟩:=l_.info;have oh:SV.ap N te.zero=some z.cells.toList:=SV.ej (N:=[]) (N':=N) (fun r p h=>by simp at h) _ EJ;have pS:z.cells.size=te.size:=by have:=(SV.aP _ oh).1;simp at this;omega
 simp only[Int.toNat_natCast] at b6 ⊢;have a6:=run_makeSlice (P:=P) (w:=w) (zero:=z) (len:=n) (cap:=c) (k:=k) (k':=k') j6 hi (fun w=>by rw[pS];exact l_.size w) hz (by omega) (by omega) (by omega) (by rw[Vs];exact b6);have hS:=h.alloc (nS oh c) e;refine⟨_,_,_,af.aZ _ _,?_,a6,hS⟩;have:(N++[⟨w.heap.size,0,(kS c z.cells.toList).length⟩])[rg.length]?=some ⟨w.heap.size,0,(kS c z.cells.toList).length⟩:=by rw[<-h.len];simp
 simp only[SV.den,this,aS.cap]
theorem qJ {P:aad}(h:jg N rg w){z m:Nat}{x:SV}{v:Value}{cs:List SV}(hx:x.den N=some v)(hs:C9 rg z x=some (cs,m)) :
  (∀w,(Builtin.lenOf v).run P w=.ok m w)/\∃vs,SV.ap N cs=some vs/\cs.length=m*z/\∀w',w'.heap=w.heap->∀n,n<=m->(aay z n v).run P w'=.ok (vs.take (n*z)).toArray w':=by
 unfold C9 at hs
 split at hs
 ·rename_i r c n z' k
  split at hs
  ·rename_i g hg
   rw[bT] at hg;cases hb:(aaf z z'&&aag (c+n*z) g.cells.length) with
   |false=>rw[hb] at hs;simp at hs
   |true =>
    rw[hb] at hs;simp only[cond_true,aA,aae] at hs;obtain⟨rfl,rfl⟩:=hs;rw[aak] at hb;have b1:=aam hb.1;have b2:=aan hb.2;subst b1;simp only[SV.den] at hx;cases hp:N[r]? with
    |none=>simp[hp] at hx
    |some p =>
     simp only[hp,aA] at hx;subst hx;refine⟨fun w=>rfl,?_⟩;obtain⟨p1,l,fE,hd,hlen,_⟩:=h.load (P:=P) hg b2;rw[hp] at fE;cases fE;refine⟨l,hd,by simp;omega,fun w' Ni n' hn'=>?_⟩;have hle:n'*z<=n*z:=aa9 _ hn';have Pz:jg N rg w':=⟨h.len,fun r g p hg hp j c hj=>by
      obtain⟨v,h1,h2⟩:=h.cell r g p hg hp j c hj;exact⟨v,h1,by unfold aap at h2 ⊢;rw[Ni];exact h2⟩,h.ext⟩
     obtain⟨p2,l',fU,Ri,agb,a6⟩:=Pz.load (P:=P) (c:=c) (n:=n'*z) hg (by omega);rw[hp] at fU;cases fU;simp only[aay];rw[a6]
     congr 2
     have h3:((g.cells.drop c).take (n*z)).take (n'*z)=(g.cells.drop c).take (n'*z):=by rw[List.take_take,Nat.min_eq_left hle]
     have h4:=kA hd 0 (n'*z);simp only[List.drop_zero] at h4;rw[h3,Ri] at h4;cases h4;rfl
  ·cases hs
 ·simp only[aA,aae] at hs
  obtain⟨rfl,rfl⟩:=hs;simp only[SV.den,bc,if_true,aA] at hx;subst hx;refine⟨fun w=>rfl,[],rfl,by simp,fun w' Ni n hn=>?_⟩;simp[aay]
 ·rename_i s
  cases hb:aaf z 1 with
  |false=>rw[hb] at hs;simp at hs
  |true =>
   rw[hb] at hs;simp only[cond_true,aA,aae] at hs;obtain⟨rfl,rfl⟩:=hs;have hb:=aam hb;subst hb;simp only[SV.den,bc,if_true,aA] at hx;subst hx;have Ev:∀l:List UInt8,SV.ap N (l.map (fun b=>SV.int .u8 (.lit b.toNat)))=some (l.map (fun b=>Value.int .u8 b.toNat)):=by
    intro l
    induction l with
    |nil=>rfl
    |cons b l ih=>simp[SV.ap,SV.den,SI.den,ih]
   refine⟨fun w=>rfl,_,Ev _,by simp,fun w' Ni n hn=>?_⟩;simp only[aay,aaz]
   congr 1
   apply aaI;simp[ByteArray.data_extract]
 ·cases hs
theorem qZ {P:aad}(hT:aQ.ok P T)(h:jg N rg w){te:TI}{zero:Value}(EJ:SV.ap N te.zero=some zero.cells.toList)(pS:te.zero.length=te.size){x:SV}{v:Value}{tx m:Nat}{cs:List SV}(hx:x.den N=some v)(hm:m<=1099511627776)(hs:jD T rg te x tx=some (cs,m)) :
  ∃vs,SV.ap N cs=some vs/\cs.length=m*te.size/\Src P te.size te.bytes zero tx v m vs/\∀w',w'.heap=w.heap->(¬∃k,P.underlying tx=some (.int k))->(aay te.size m v).run P w'=.ok vs.toArray w':=by
 unfold jD at hs
 split at hs
 ·rename_i ti ht
  have ok:=(hT tx ti ht).kind;have fin:∀d,P.underlying tx=some d->(∀k,d≠.int k)->C9 rg te.size x=some (cs,m) ->
    ∃vs,SV.ap N cs=some vs/\cs.length=m*te.size/\Src P te.size te.bytes zero tx v m vs/\∀w',w'.heap=w.heap->(¬∃k,P.underlying tx=some (.int k))->(aay te.size m v).run P w'=.ok vs.toArray w':=by
   intro d hd KK hs;obtain⟨h1,vs,h2,h3,h4⟩:=qJ (P:=P) h hx hs;refine⟨vs,h2,h3,⟨.inr ⟨⟨d,hd,KK⟩,h1⟩,hm⟩,fun w' Ni _=>?_⟩;have:=h4 w' Ni m (aax _);rw[aa0 (by rw[(SV.aP _ h2).1,h3];exact aax _)] at this;exact this
  split at hs
  ·rename_i k hk
   rw[hk] at ok
   split at hs
   ·rename_i k' l
    cases hb:decide (0<=l) with
    |false=>rw[hb] at hs;simp at hs
    |true =>
     rw[hb] at hs;simp only[cond_true,aA,aae] at hs;obtain⟨rfl,rfl⟩:=hs;simp only[decide_eq_true_eq] at hb;simp only[SV.den,SI.den,aA] at hx;subst hx;have hlen:∀n,(bU.nu n te.zero).length=n*te.zero.length:=by
      intro n
      induction n with
      |zero=>simp[bU.nu]
      |succ n ih=>simp[bU.nu,ih,aaB];omega
     exact⟨_,nS EJ _,by rw[hlen,pS],⟨.inl ⟨k,k',ok,by rw[Int.toNat_of_nonneg hb],rfl⟩,hm⟩,fun w' _ hn=>absurd ⟨k,ok⟩ hn⟩
   ·cases hs
  ·rename_i e hk
   rw[hk] at ok;exact fin _ ok (by simp) hs
  ·rename_i hk
   rw[hk] at ok;exact fin _ ok (by simp) hs
  ·cases hs
 ·cases hs
theorem Sat.wO {E:Env}{N:af}{rg:List Rg}{w:World}(h:Sat E N rg w){r:Nat}(hr:r<rg.length):Sat E N (rg.set r ⟨false,[],none⟩) w:=by
 have part:∀(i:Nat) (x:Rg),(rg.set r ⟨false,[],none⟩)[i]?=some x->x=⟨false,[],none⟩\/rg[i]?=some x:=by
  intro i x hx;rcases dP hr hx with ⟨_,rfl⟩|⟨_,hx⟩
  ·exact .inl rfl
  ·exact .inr hx
 refine⟨by simpa using h.len,h.lt,?_,?_,?_,?_,?_,?_,h.cK,?_,?_,h.mj,h.loc,h.fH,h.aM,?_⟩
 ·intro i x q hx hq j d hj
  rcases part i x hx with rfl|hx
  ·simp at hj
  ·exact h.cell i x q hx hq j d hj
 ·intro i x q hx hq ho
  rcases part i x hx with rfl|hx
  ·simp at ho
  ·exact h.ext i x q hx hq ho
 ·intro i x q hx hq ho
  rcases part i x hx with rfl|hx
  ·simp at ho
  ·exact h.room i x q hx hq ho
 ·intro i i' x x' q q' hx hq iD cF ho bH j hj
  rcases part i x hx with rfl|hx
  ·simp at ho
  ·rcases part i' x' iD with rfl|iD
   ·simp[Rg.wid] at hj
   ·exact h.eT i i' x x' q q' hx hq iD cF ho bH j hj
 ·intro i x q ob hx hq ho
  rcases part i x hx with rfl|hx
  ·simp at ho
  ·exact h.obj i x q ob hx hq ho
 ·intro i i' x x' q q' hx hq iD cF ho kR bH
  rcases part i x hx with rfl|hx
  ·simp at ho
  ·rcases part i' x' iD with rfl|iD
   ·simp at kR
   ·exact h.fG i i' x x' q q' hx hq iD cF ho kR bH
 ·intro i x q hx hq ho
  rcases part i x hx with rfl|hx
  ·simp at ho
  ·exact h.lR i x q hx hq ho
 ·intro i x q hx hq ho
  rcases part i x hx with rfl|hx
  ·simp at ho
  ·exact h.dd i x q hx hq ho
 ·intro i x q hx hq ho
  rcases part i x hx with rfl|hx
  ·simp at ho
  ·exact h.dG i x q hx hq ho
theorem ma {l:List Value}:∀{cs:List SV},cs.all SV.one=true->SV.ap N cs=some l->∀v∈l,bc v=true:=by
 intro cs hc hl v hv;obtain⟨hlen,ef⟩:=SV.aP _ hl;obtain⟨j,hj⟩:=List.mem_iff_getElem?.1 hv;have uT:j<cs.length:=by rw[<-hlen];exact(aas.1 hj).1
 obtain⟨c,PH⟩:∃c,cs[j]?=some c:=⟨_,aav uT⟩;obtain⟨u,h1,h2⟩:=ef j c PH;rw[hj] at h2;cases h2;exact(SV.LJ (aaG.1 hc c (List.mem_of_getElem? PH)) h1).1
theorem D_ {P:aad}(hE:E.P=P)(hT:aQ.ok P T)(h:Sat E N rg w){ta:Array Nat}{ty ts tx e m:Nat}{ti te:TI}{s x r:SV}{vs vx:Value}{new:List SV}{cN:List Rg}(h0:ta[0]?=some ts)(h1:ta[1]?=some tx)
  (ht:bo T ts=some ti) (hk:ti.kind=.slice e) (kN:bo T e=some te) (hs:s.den N=some vs) (hx:x.den N=some vx) (ha:jD T rg te x tx=some (new,m)) (hr:iZ rg te s new m=some (r,cN)) :
  ∃N' v w',N.le N'/\r.den N'=some v/\(abi ta ty #[vs,vx]).run P w=.ok v w'/\Sat E N' cN w':=by
 subst hE;have ok:=(hT ts ti ht).kind;rw[hk] at ok;have j6:E.P.underlying ts=some (.slice e):=ok;have l_:=hT e te kN;obtain⟨z,hz,EJ⟩:=l_.zero;obtain⟨i,hi,Vs⟩:=l_.info;have oh:SV.ap N te.zero=some z.cells.toList:=SV.ej (N:=[]) (N':=N) (fun r p h=>by simp at h) _ EJ
 -- what is asked of the parts
 have asked:∀n,iZ.kz te new n m=true->0<te.size/\te.zero.length=te.size/\z.cells.size=te.size/\new.length=m*te.size/\new.all SV.one=true/\(2*(n+m)+256)*i.bytes<=281474976710656/\n+m<=1099511627776:=by
  intro n hn;unfold iZ.kz at hn;simp only[aak] at hn;obtain⟨⟨⟨⟨⟨b1,b2⟩,b3⟩,b4⟩,b5⟩,b6⟩:=hn;have b1:0<te.size:=by simpa using b1
  have b2:=aam b2;refine⟨b1,b2,?_,aam b3,b4,by rw[Vs];exact aan b5,aan b6⟩;have:=(SV.aP _ oh).1;simp at this;omega
 -- in a new block
 have fresh:∀(tB:List Rg) (c_:List SV) (ol ws rest:List Value) (n K:Nat),tB.length=rg.length->(∀w,Sat E N rg w->Sat E N tB w)->SV.ap N c_=some ol->SV.ap N new=some ws->c_.length=n*te.size->new.length=m*te.size->0<te.size->n+m<=K ->
   rest.length=(K-(n+m))*te.size ->
   ∃N',N.le N'/\(SV.osl rg.length 0 (n+m) te.size none).den N'=some (.slice (some ⟨w.heap.size,0,none⟩) (n+m) K)/\Sat E N' (tB++[⟨true,c_++new,none⟩]) (w.drew.alloc (.cells (ol++ws++rest).toArray e)):=by
  intro tB c_ ol ws rest n K hlen kF ho hn PU K2 ZC hK lZ;have hS:=(kF _ h.drew).JQ (m:=rest) (SV.dz c_ new ho hn) e;refine⟨_,af.aZ _ _,?_,hS⟩;have hx:(ol++ws++rest).length=K*te.size:=by
   have e1:=(SV.aP _ ho).1;have e2:=(SV.aP _ hn).1;simp only[aaZ,e1,e2,PU,K2,lZ];rw[<-aaB,<-aaB]
   congr 1;omega
  have hg:(N++[(⟨w.drew.heap.size,0,(ol++ws++rest).length⟩:aS)])[rg.length]?=some ⟨w.heap.size,0,K*te.size⟩:=by rw[<-h.len,hx];simp
  simp only[SV.den,hg,aS.cap,aaU,Nat.mul_div_cancel _ ZC]
 unfold iZ at hr
 split at hr
 ·-- akg nil
  simp only[SV.den,bc,if_true,aA] at hs;subst hs;cases hb:iZ.kz te new 0 m with
  |false=>rw[hb] at hr;simp at hr
  |true =>
   rw[hb] at hr;simp only[cond_true] at hr;obtain⟨z0,z1,z2,z3,z4,z5,z6⟩:=asked 0 hb;obtain⟨ws,Dz,V2,HW,Li⟩:=qZ (P:=E.P) hT h.xt oh z1 hx (by omega) ha;rw[<-Vs,<-z2] at HW;have a6:=fW (P:=E.P) (w:=w) (ta:=ta) (ty:=ty) (zero:=z) (s:=.slice none 0 0) (x:=vx) (base:=none) (n:=0) (cap:=0) (m:=m) (c_:=[]) (vs:=ws) (wf:=w) h0 h1 j6 hi (fun w=>by rw[z2];exact l_.size w) hz (by omega) rfl HW z5 z6
    (fun w' e1 e2=>by rw[z2];exact Li w' e1 e2) (fun _ w' _=>by simp[aay]) (fun _=>rfl)
   cases hm:aaf m 0 with
   |true =>
    rw[hm] at hr;simp only[cond_true,aA,aae] at hr;obtain⟨rfl,rfl⟩:=hr;have hm:=aam hm;subst hm;exact⟨N,_,w,af.le.refl N,by simp only[SV.den,bc,if_true],a6.1 (by omega),h⟩
   |false =>
    rw[hm] at hr;simp only[cond_false,aA,aae] at hr;obtain⟨rfl,rfl⟩:=hr;have hm0:m≠0:=fun e=>by rw[e] at hm;simp at hm
    obtain⟨K,rest,hK,lZ,a6⟩:=a6.2 (by omega);rw[z2] at lZ;obtain⟨N',k1,k2,k3⟩:=fresh rg [] [] ws rest 0 K rfl (fun _ h=>h) rfl Dz (by simp) z3 z0 hK lZ;refine⟨N',_,_,k1,?_,a6,by simpa using k3⟩
    simpa using k2
 ·rename_i r0 c n z' k
  split at hr
  ·rename_i g hg
   rw[bT] at hg;cases hb:(iZ.kz te new n m&&aaf z' te.size&&aag (c+n*z') g.cells.length) with
   |false=>rw[hb] at hr;simp at hr
   |true =>
    rw[hb] at hr;simp only[cond_true] at hr;rw[aak,aak] at hb;obtain⟨⟨b1,b2⟩,b3⟩:=hb;have b2:=aam b2;have b3:=aan b3;subst b2;obtain⟨z0,z1,z2,z3,z4,z5,z6⟩:=asked n b1;obtain⟨ws,Dz,V2,HW,Li⟩:=qZ (P:=E.P) hT h.xt oh z1 hx (by omega) ha;rw[<-Vs,<-z2] at HW;have Je:=hs;simp only[SV.den] at hs;cases hp:N[r0]? with
    |none=>simp[hp] at hs
    |some p =>
     simp only[hp,aA] at hs;have lQ:r0<rg.length:=(aas.1 hg).1;obtain⟨_,ol,fE,PU,qS,_⟩:=h.xt.load (P:=E.P) hg b3;rw[hp] at fE;cases fE;have yL:∀w',w'.heap=w.heap->(aay te.size n vs).run E.P w'=.ok ol.toArray w':=by
      intro w' Ni;obtain⟨_,Fp,q1,q2,q3⟩:=qJ (P:=E.P) h.xt (z:=te.size) (m:=n) (cs:=(g.cells.drop c).take (n*te.size)) Je (by
       have:aag (c+n*te.size) g.cells.length=true:=aba b3;simp only[C9,bT,hg,abb,Bool.true_and,this,cond_true])
      have:=q3 w' Ni n (aax _);rw[PU] at q1;cases q1;rw[aa0 (by omega)] at this;exact this
     have Ry:((g.cells.drop c).take (n*te.size)).length=n*te.size:=by simp;omega
     cases k with
     |some kk =>
      simp only at hr;simp only[aS.cap] at hs;subst hs;cases hf:aag (n+m) kk with
      |true =>
       rw[hf] at hr;simp only[cond_true] at hr;have hf:=aan hf;cases hm:aaf m 0 with
       |true =>
        rw[hm] at hr;simp only[cond_true,aA,aae] at hr;obtain⟨rfl,rfl⟩:=hr;have hm:=aam hm;subst hm;have Ci:new=[]:=aa1 (by rw[z3];simp);subst Ci;simp only[SV.ap,aA] at Dz;subst Dz;have a6:=fW (P:=E.P) (w:=w) (ta:=ta) (ty:=ty) (zero:=z) (s:=.slice (some ⟨p.b,p.o+c,none⟩) n kk) (x:=vx) (n:=n) (cap:=kk) (m:=0) (c_:=ol) (vs:=[]) (wf:=w) h0 h1 j6 hi (fun w=>by rw[z2];exact l_.size w) hz (by omega) rfl HW z5 z6
         (fun w' e1 e2=>by rw[z2];exact Li w' e1 e2) (fun _ w' e1=>by rw[z2];exact yL w' e1) (fun _=>rfl)
        exact⟨N,_,w,af.le.refl N,by simp only[SV.den,hp,aS.cap];rfl,a6.1 (by omega),h⟩
       |false =>
        rw[hm] at hr;simp only[cond_false] at hr;cases hb:(g.own&&aag (c+(n+m)*te.size) g.cells.length) with
        |false=>rw[hb] at hr;simp at hr
        |true =>
         rw[hb] at hr;simp only[cond_true,aA,aae] at hr;obtain⟨rfl,rfl⟩:=hr;rw[aak] at hb;have hle:=aan hb.2;rw[aaB] at hle;have gI:=h.ext r0 g p hg hp hb.1;obtain⟨w',gU,rO⟩:=Sat.store hp (c+n*te.size) new ws 0 h hg hb.1 (by omega) (by omega) Dz (ma z4 Dz);have a6:=fW (P:=E.P) (w:=w) (ta:=ta) (ty:=ty) (zero:=z) (s:=.slice (some ⟨p.b,p.o+c,none⟩) n kk) (x:=vx) (n:=n) (cap:=kk) (m:=m) (c_:=ol) (vs:=ws) (wf:=w') h0 h1 j6 hi (fun w=>by rw[z2];exact l_.size w) hz (by omega) rfl HW z5 z6
          (fun w' e1 e2=>by rw[z2];exact Li w' e1 e2) (fun _ w' e1=>by rw[z2];exact yL w' e1) (fun _=>by simp only[dy,z2,Nat.add_assoc];exact gU)
         exact⟨N,_,w',af.le.refl N,by simp only[SV.den,hp,aS.cap],a6.1 hf,by simpa using rO⟩
      |false =>
       rw[hf] at hr;simp only[cond_false,aA,aae] at hr;obtain⟨rfl,rfl⟩:=hr;have hf:kk<n+m:=by
        rcases aaJ kk (n+m) with q|q
        ·exact q
        ·rw[aba q] at hf;cases hf
       have a6:=fW (P:=E.P) (w:=w) (ta:=ta) (ty:=ty) (zero:=z) (s:=.slice (some ⟨p.b,p.o+c,none⟩) n kk) (x:=vx) (n:=n) (cap:=kk) (m:=m) (c_:=ol) (vs:=ws) (wf:=w) h0 h1 j6 hi (fun w=>by rw[z2];exact l_.size w) hz (by omega) rfl HW z5 z6
        (fun w' e1 e2=>by rw[z2];exact Li w' e1 e2) (fun _ w' e1=>by rw[z2];exact yL w' e1) (fun hle=>by omega)
       obtain⟨K,rest,hK,lZ,a6⟩:=a6.2 hf;rw[z2] at lZ;obtain⟨N',k1,k2,k3⟩:=fresh rg _ ol ws rest n K rfl (fun _ h=>h) PU Dz Ry z3 z0 hK lZ;exact⟨N',_,_,k1,k2,a6,k3⟩
     |none =>
      simp only at hr;simp only[aS.cap] at hs;subst hs;cases tf:g.own with
      |false=>rw[tf] at hr;simp at hr
      |true =>
       rw[tf] at hr;simp only[cond_true] at hr;have gI:=h.ext r0 g p hg hp tf;have agf:n<=(p.x-c) / te.size:=by rw[abc z0];omega
       cases hm:aaf m 0 with
       |true =>
        rw[hm] at hr;simp only[cond_true,aA,aae] at hr;obtain⟨rfl,rfl⟩:=hr;have hm:=aam hm;subst hm;have Ci:new=[]:=aa1 (by rw[z3];simp);subst Ci;simp only[SV.ap,aA] at Dz;subst Dz;have a6:=fW (P:=E.P) (w:=w) (ta:=ta) (ty:=ty) (zero:=z) (s:=.slice (some ⟨p.b,p.o+c,none⟩) n ((p.x-c) / te.size)) (x:=vx) (n:=n) (m:=0) (c_:=ol) (vs:=[]) (wf:=w) h0 h1 j6 hi (fun w=>by rw[z2];exact l_.size w) hz (by omega) rfl HW z5 z6
         (fun w' e1 e2=>by rw[z2];exact Li w' e1 e2) (fun _ w' e1=>by rw[z2];exact yL w' e1) (fun _=>rfl)
        exact⟨N,_,w,af.le.refl N,by simp only[SV.den,hp,aS.cap];rfl,a6.1 (by omega),h⟩
       |false =>
        rw[hm] at hr;simp only[cond_false,aA,aae] at hr;obtain⟨rfl,rfl⟩:=hr
        by_cases hf:n+m<=(p.x-c) / te.size
        ·-- in place
         have iq:(n+m)*te.size<=p.x-c:=by rwa [abc z0] at hf
         have acV:=h.cut hg hp tf b3;have hle:N.le (N++[(⟨p.b,p.o+c,p.x-c⟩:aS)]):=af.aZ _ _;have lC:(N++[(⟨p.b,p.o+c,p.x-c⟩:aS)])[rg.length]?=some ⟨p.b,p.o+c,p.x-c⟩:=by rw[<-h.len];simp
         have eN:(rg.set r0 ⟨false,[],none⟩++[(⟨true,(g.cells.drop c).take (n*te.size),none⟩:Rg)])[rg.length]?=some ⟨true,(g.cells.drop c).take (n*te.size),none⟩:=by
          rw[List.getElem?_append_right (by simp)];simp
         rw[aaB] at iq;obtain⟨w',gU,rO⟩:=Sat.store lC (n*te.size) new ws 0 acV eN rfl (by simp only[Ry];omega) (by simp only;omega) (SV.ej hle _ Dz) (ma z4 Dz);have a6:=fW (P:=E.P) (w:=w) (ta:=ta) (ty:=ty) (zero:=z) (s:=.slice (some ⟨p.b,p.o+c,none⟩) n ((p.x-c) / te.size)) (x:=vx) (n:=n) (m:=m) (c_:=ol) (vs:=ws) (wf:=w') h0 h1 j6 hi (fun w=>by rw[z2];exact l_.size w) hz (by omega) rfl HW z5 z6
          (fun w' e1 e2=>by rw[z2];exact Li w' e1 e2) (fun _ w' e1=>by rw[z2];exact yL w' e1) (fun _=>by simp only[dy,z2];exact gU)
         refine⟨_,_,w',hle,?_,a6.1 hf,?_⟩
         ·simp only[SV.den,lC,aS.cap,Nat.add_zero,aaU]
         ·have e1:setRow ((g.cells.drop c).take (n*te.size)) (n*te.size+0) new=(g.cells.drop c).take (n*te.size)++new:=by
           have:=wV ((g.cells.drop c).take (n*te.size)) new
           rwa [Ry] at this
          simp only[e1] at rO;rw[List.set_append_right _ _ (by simp)] at rO
          simpa using rO
        ·have hf:(p.x-c) / te.size<n+m:=by omega
         have a6:=fW (P:=E.P) (w:=w) (ta:=ta) (ty:=ty) (zero:=z) (s:=.slice (some ⟨p.b,p.o+c,none⟩) n ((p.x-c) / te.size)) (x:=vx) (n:=n) (m:=m) (c_:=ol) (vs:=ws) (wf:=w) h0 h1 j6 hi (fun w=>by rw[z2];exact l_.size w) hz (by omega) rfl HW z5 z6
          (fun w' e1 e2=>by rw[z2];exact Li w' e1 e2) (fun _ w' e1=>by rw[z2];exact yL w' e1) (fun hle=>by omega)
         obtain⟨K,rest,hK,lZ,a6⟩:=a6.2 hf;rw[z2] at lZ;obtain⟨N',k1,k2,k3⟩:=fresh (rg.set r0 ⟨false,[],none⟩) _ ol ws rest n K (by simp) (fun _ h=>h.wO lQ) PU Dz Ry z3 z0 hK lZ;exact⟨N',_,_,k1,k2,a6,k3⟩
  ·cases hr
 ·cases hr
theorem BW {P:aad}(hE:E.P=P)(hT:aQ.ok P T)(h:Sat E N rg w){ta:Array Nat}{ty td e:Nat}{ti te:TI}{d x r:SV}{vd vx:Value}{cN:List Rg}(h0:ta[0]?=some td)
  (ht:bo T td=some ti) (hk:ti.kind=.slice e) (kN:bo T e=some te) (hd:d.den N=some vd) (hx:x.den N=some vx) (hr:copyV rg te d x=some (r,cN)) :
  ∃v w',r.den N=some v/\(aaV ta ty #[vd,vx]).run P w=.ok v w'/\Sat E N cN w':=by
 subst hE;have ok:=(hT td ti ht).kind;rw[hk] at ok;have j6:E.P.underlying td=some (.slice e):=ok;have l_:=hT e te kN;unfold copyV at hr
 split at hr
 ·rename_i r0 c n z k
  split at hr
  ·rename_i g cs m hg lD
   rw[bT] at hg;cases hb:(g.own&&aaf z te.size&&aaf cs.length (m*z)&&cs.all SV.one&&aag (c+min m n*z) g.cells.length) with
   |false=>rw[hb] at hr;simp at hr
   |true =>
    rw[hb] at hr;simp only[cond_true,aA,aae] at hr;obtain⟨rfl,rfl⟩:=hr;simp only[aak] at hb;obtain⟨⟨⟨⟨b1,b2⟩,b3⟩,b4⟩,b5⟩:=hb;have b2:=aam b2;have b3:=aam b3;have b5:=aan b5;subst b2;obtain⟨q1,vs,q2,q3,q4⟩:=qJ (P:=E.P) h.xt hx lD;simp only[SV.den] at hd;cases hp:N[r0]? with
    |none=>simp[hp] at hd
    |some p =>
     simp only[hp,aA] at hd;subst hd;have gI:=h.ext r0 g p hg hp b1;have HO:min m n*te.size<=m*te.size:=aa9 _ (abf _ _);have l7:(cs.take (min m n*te.size)).all SV.one=true:=by
      rw[aaG] at b4 ⊢;exact fun c hc=>b4 c (List.mem_of_mem_take hc)
     have Ev:SV.ap N (cs.take (min m n*te.size))=some (vs.take (min m n*te.size)):=by
      have:=kA q2 0 (min m n*te.size)
      simpa using this
     obtain⟨w',gU,rO⟩:=Sat.store hp c (cs.take (min m n*te.size)) (vs.take (min m n*te.size)) 0 h hg b1 (by omega) (by simp;omega) Ev (ma l7 Ev);refine⟨_,w',by simp only[SV.den];rfl,?_,by simpa using rO⟩;have hf:=q4 w rfl (min m n) (abf _ _);have ady:Nat.min m n=min m n:=rfl;simp only[aaV,h0,List.getElem?_toArray,List.getElem?_cons_zero,aaO,aaw,run_underlying j6,aaq,q1,l_.size,ady,hf,gU,aaz,goInt,SI.den]
  ·cases hr
 ·cases hr
def I1 (ρ:aah->Option SV)(op:Op):Option Nat :=
 match op with
 | .store _ a _=>match ρ a with
  |some (.own r _)=>some r
  |_=>none
 | .call c=>match c.callee with
  | .builtin .append=>match c.args.toList with
   | [s,_]=>match ρ s with
    |some (.osl r _ _ _ _)=>some r
    |_=>none
   |_=>none
  | .builtin .copy=>match c.args.toList with
   | [s,_]=>match ρ s with
    |some (.osl r _ _ _ _)=>some r
    |_=>none
   |_=>none
  |_=>none
 |_=>none
theorem jl {b:Bool}{α:Type}{x:Option α}{y:α}(h:(bif b then x else none)=some y):x=some y:=by
 cases b with
 |true=>exact h
 |false=>simp at h
theorem D9 {rg cN:List Rg}{te:TI}{s v:SV}{new:List SV}{m:Nat}(h:iZ rg te s new m=some (v,cN)) :
  (∀(r:Nat) (g:Rg),rg[r]?=some g->(∀c n z k,s≠.osl r c n z k)->cN[r]?=some g)/\rg.length<=cN.length:=by
 have pL:∀g,(∀(r:Nat) (g0:Rg),rg[r]?=some g0->(rg++[g])[r]?=some g0)/\rg.length<=(rg++[g]).length:=fun g =>
  ⟨fun r g0 h=>by rw[aaP (aas.1 h).1];exact h,by simp⟩
 unfold iZ at h
 split at h
 ·have h:=jl h
  cases hm:aaf m 0 with
  |true=>rw[hm] at h;simp only[cond_true,aA,aae] at h;obtain⟨_,rfl⟩:=h;exact⟨fun r g h _=>h,aax _⟩
  |false=>rw[hm] at h;simp only[cond_false,aA,aae] at h;obtain⟨_,rfl⟩:=h;exact⟨fun r g h _=>(pL _).1 r g h,(pL _).2⟩
 ·rename_i r0 c n z k
  split at h
  ·replace h:=jl h
   cases k with
   |some kk =>
    simp only at h;cases hf:aag (n+m) kk with
    |true =>
     rw[hf] at h;simp only[cond_true] at h;cases hm:aaf m 0 with
     |true=>rw[hm] at h;simp only[cond_true,aA,aae] at h;obtain⟨_,rfl⟩:=h;exact⟨fun r g h _=>h,aax _⟩
     |false =>
      rw[hm] at h;simp only[cond_false] at h;have h:=jl h;simp only[aA,aae] at h;obtain⟨_,rfl⟩:=h;refine⟨fun r g h bH=>?_,by simp⟩;rw[aaH (fun e=>by subst e;exact bH _ _ _ _ rfl)];exact h
    |false=>rw[hf] at h;simp only[cond_false,aA,aae] at h;obtain⟨_,rfl⟩:=h;exact⟨fun r g h _=>(pL _).1 r g h,(pL _).2⟩
   |none =>
    simp only at h
    replace h:=jl h
    cases hm:aaf m 0 with
    |true=>rw[hm] at h;simp only[cond_true,aA,aae] at h;obtain⟨_,rfl⟩:=h;exact⟨fun r g h _=>h,aax _⟩
    |false =>
     rw[hm] at h;simp only[cond_false,aA,aae] at h;obtain⟨_,rfl⟩:=h;refine⟨fun r g h bH=>?_,by simp⟩;have hr:=(aas.1 h).1;rw[aaP (by simpa using hr),aaH (fun e=>by subst e;exact bH _ _ _ _ rfl)];exact h
  ·cases h
 ·cases h
theorem BV {rg cN:List Rg}{te:TI}{s x v:SV}(h:copyV rg te s x=some (v,cN)) :
  (∀(r:Nat) (g:Rg),rg[r]?=some g->(∀c n z k,s≠.osl r c n z k)->cN[r]?=some g)/\rg.length<=cN.length:=by
 unfold copyV at h
 split at h
 ·split at h
  ·have h:=jl h
   simp only[aA,aae] at h;obtain⟨_,rfl⟩:=h;refine⟨fun r g h bH=>?_,by simp⟩;rw[aaH (fun e=>by subst e;exact bH _ _ _ _ rfl)];exact h
  ·cases h
 ·cases h
theorem Da {T:aQ}{rg cN:List Rg}{ρ:aah->Option SV}{op:Op}{v:SV}(hv:nl T rg ρ op=some (v,cN)) :
  (∀(r:Nat) (g:Rg),rg[r]?=some g->I1 ρ op≠some r->cN[r]?=some g)/\rg.length<=cN.length:=by
 have pL:∀g,(∀(r:Nat) (g0:Rg),rg[r]?=some g0->I1 ρ op≠some r->(rg++[g])[r]?=some g0)/\rg.length<=(rg++[g]).length:=fun g =>
  ⟨fun r g0 h _=>by rw[aaP (aas.1 h).1];exact h,by simp⟩
 cases op<;>simp only[nl] at hv<;>try (simp at hv;done)
 case alloc t =>
  split at hv
  ·simp only[aA,aae] at hv
   obtain⟨_,rfl⟩:=hv;exact pL _
  ·cases hv
 case box t x =>
  split at hv<;>try (cases hv;done)
  simp only[aA,aae] at hv;obtain⟨_,rfl⟩:=hv;exact pL _
 case store t x y =>
  split at hv
  ·rename_i q c u ti hx hy ht
   split at hv
   ·rename_i g hg
    have hv:=jl hv;simp only[aA,aae] at hv;obtain⟨_,rfl⟩:=hv;refine⟨fun r g0 kD hm=>?_,by simp⟩;have bH:q≠r:=fun e=>by subst e;exact hm (by simp only[I1,hx])
    rw[aaH bH];exact kD
   ·cases hv
  ·cases hv
 case buildSlice t len ps =>
  split at hv
  ·split at hv
   ·split at hv
    ·have hv:=jl hv
     split at hv
     ·simp only[aA,aae] at hv
      obtain⟨_,rfl⟩:=hv;exact pL _
     ·cases hv
    ·cases hv
   ·cases hv
  ·cases hv
 case makeSlice t len cap =>
  split at hv
  ·split at hv
   ·split at hv
    ·have hv:=jl hv
     simp only[aA,aae] at hv;obtain⟨_,rfl⟩:=hv;exact pL _
    ·cases hv
   ·cases hv
  ·cases hv
 case call c =>
  split at hv
  ·rename_i jS
   split at hv
   ·rename_i s x ts tx fD VT
    split at hv
    ·rename_i ss sx ti ml pQ ht
     split at hv
     ·split at hv
      ·split at hv
       ·obtain⟨h1,h2⟩:=D9 hv
        refine⟨fun r g hg bH=>h1 r g hg (fun c n z k e=>bH ?_),h2⟩;subst e;simp only[I1,jS,fD,ml]
       ·cases hv
      ·cases hv
     ·cases hv
    ·cases hv
   ·cases hv
  ·rename_i jS
   split at hv
   ·rename_i s x ts tx fD VT
    split at hv
    ·rename_i ss sx ti ml pQ ht
     split at hv
     ·split at hv
      ·obtain⟨h1,h2⟩:=BV hv
       refine⟨fun r g hg bH=>h1 r g hg (fun c n z k e=>bH ?_),h2⟩;subst e;simp only[I1,jS,fD,ml]
      ·cases hv
     ·cases hv
    ·cases hv
   ·cases hv
  ·cases hv
def Yields (P:aad)(ρ:aah->Value)(o:aac)(w:World)(x:Value)(w':World):Prop :=
 (execOp ρ o).run P w=.ok (.value x) w'\/((execOp ρ o).run P w=.ok .skip w'/\x=undef)
theorem uh (hT:aq E.P T)(h:Sat E N rg w){ρ:aah->Option SV}{gQ:aah->Value}(df:∀x s,ρ x=some s->s.den N=some (gQ x)){o:aac}{r:SV}{cN:List Rg}(hs:nl T rg ρ o.op=some (r,cN)) :
  ∃N' x w',N.le N'/\r.den N'=some x/\Yields E.P gQ o w x w'/\Sat E N' cN w':=by
 have new:∀(cs:List SV) (l:List Value) (t:TypeId),SV.ap N cs=some l->N.le (N++[⟨w.heap.size,0,l.length⟩])/\(SV.own rg.length 0).den (N++[⟨w.heap.size,0,l.length⟩])=some (.pointer (some ⟨w.heap.size,0,none⟩)) /\
   Sat E (N++[⟨w.heap.size,0,l.length⟩]) (rg++[⟨true,cs,none⟩]) (w.alloc (.cells l.toArray t)):=by
  intro cs l t hl;refine⟨af.aZ _ _,?_,h.alloc hl t⟩;have:(N++[(⟨w.heap.size,0,l.length⟩:aS)])[rg.length]?=some ⟨w.heap.size,0,l.length⟩:=by rw[<-h.len];simp
  simp[SV.den,this]
 have fin:∀{sm:Sem Value},(∀w,(execOp gQ o).run E.P w=(do pure (.value (<-sm)):Sem Next).run E.P w)->(∃N' x w',N.le N'/\r.den N'=some x/\sm.run E.P w=.ok x w'/\Sat E N' cN w') ->
   ∃N' x w',N.le N'/\r.den N'=some x/\Yields E.P gQ o w x w'/\Sat E N' cN w':=by
  rintro sm he ⟨N',x,w',h1,h2,h3,h4⟩
  exact⟨N',x,w',h1,h2,.inl (by rw[he];simp[h3]),h4⟩
 cases cC:o.op<;>simp only[cC,nl] at hs<;>try (simp at hs;done)
 case alloc t =>
  split at hs
  ·rename_i ti ht
   simp only[aA,aae] at hs;obtain⟨rfl,rfl⟩:=hs;obtain⟨z,hz,EJ⟩:=(hT.ok t ti ht).zero;have oh:SV.ap N ti.zero=some z.cells.toList:=SV.ej (N:=[]) (N':=N) (fun r p h=>by simp at h) _ EJ;obtain⟨h1,h2,h3⟩:=new _ _ t oh;refine⟨_,_,_,h1,h2,.inl ?_,h3⟩;simp[execOp,cC,Instr.alloc,hz,aaq,newVar,newRow]
  ·cases hs
 case box t x =>
  have main:∀v,ρ x=some v->(∀l,v≠.tup l)->(∀l,v≠.big l)->some (SV.own rg.length 0,rg++[⟨true,v.cells,none⟩])=some (r,cN) ->
    ∃N' x w',N.le N'/\r.den N'=some x/\Yields E.P gQ o w x w'/\Sat E N' cN w':=by
   intro v hv WY HP hs;simp only[aA,aae] at hs;obtain⟨rfl,rfl⟩:=hs;have hc:=sU (df _ _ hv) WY HP;obtain⟨h1,h2,h3⟩:=new _ _ t hc;refine⟨_,_,_,h1,h2,.inl ?_,h3⟩;simp[execOp,cC,Instr.box,aaq,newVar,newRow]
  cases hx:ρ x with
  |none=>simp[hx] at hs
  |some v =>
   rw[hx] at hs;cases v<;>first|(simp at hs;done)|exact main _ hx (by simp) (by simp) hs
 case store t a x =>
  split at hs
  ·rename_i q c v ti ha hx ht
   split at hs
   ·rename_i g hg
    rw[bT] at hg;cases hb:(g.own&&aaf v.cells.length ti.size&&aag (c+ti.size) g.cells.length&&v.cells.all SV.one) with
    |false=>rw[hb] at hs;simp at hs
    |true =>
     rw[hb] at hs;simp only[cond_true,aA,aae] at hs;obtain⟨rfl,rfl⟩:=hs;simp only[aak] at hb;obtain⟨⟨⟨b1,b2⟩,b3⟩,b4⟩:=hb;have b2:=aam b2;have b3:=aan b3;have hda:=df _ _ ha;simp only[SV.den] at hda;cases hp:N[q]? with
     |none=>simp[hp] at hda
     |some p =>
      simp only[hp,aA] at hda;have WY:∀l,v≠.tup l:=fun l e=>by subst e;simp[SV.cells,SV.one] at b4
      have HP:∀l,v≠.big l:=fun l e=>by subst e;simp[SV.cells,SV.one] at b4
      have hc:=sU (df _ _ hx) WY HP;have gI:=h.ext q g p hg hp b1;obtain⟨w',a6,rO⟩:=Sat.store hp c v.cells (gQ x).cells.toList 0 h hg b1 (by omega) (by omega) hc (ma b4 hc);have AC:(gQ x).cells.size=ti.size:=by
       have:=(SV.aP _ hc).1;rw[<-b2,<-this];simp
      refine⟨N,undef,w',af.le.refl N,rfl,.inr ⟨?_,rfl⟩,by simpa using rO⟩;simp only[execOp,cC,Instr.storeAt,<-hda,aa3,storeVar,aaw,aaz,aaq,(hT.ok t ti ht).size];rw[if_neg (by simp[AC])];simp[a6]
   ·cases hs
  ·cases hs
 case buildSlice t len ps =>
  split at hs
  ·rename_i ti ht
   split at hs
   ·rename_i e hk
    split at hs
    ·rename_i te l kN hl
     cases hb:(aal 0 te.size&&aaf te.zero.length te.size&&aag (len*te.size) 16777216) with
     |false=>rw[hb] at hs;simp at hs
     |true =>
      rw[hb] at hs;simp only[cond_true] at hs
      split at hs
      ·rename_i cs hf
       simp only[aA,aae] at hs;obtain⟨rfl,rfl⟩:=hs;obtain⟨h1,h2⟩:=sY df ps.toList hl;exact fin (fun w=>by simp only[execOp,cC]) (sR (vs:=ps.map fun(i,x)=>(i,gQ x)) hT.ok h ht hk kN hb (by simpa using h1) (by simp[h2]) hf)
      ·cases hs
    ·cases hs
   ·cases hs
  ·cases hs
 case makeSlice t len cap =>
  split at hs
  ·rename_i ti k n k' c ht hn hc
   split at hs
   ·rename_i e hk
    split at hs
    ·rename_i te kN
     cases hb:(aal 0 te.size&&aaf te.zero.length te.size&&decide (0<=n)&&decide (n<=c)&&decide (c<=1099511627776)&&aag (te.bytes*c.toNat) 281474976710656) with
     |false=>rw[hb] at hs;simp at hs
     |true =>
      rw[hb] at hs;simp only[cond_true,aA,aae] at hs;obtain⟨rfl,rfl⟩:=hs;have e1:=df _ _ hn;have e2:=df _ _ hc;simp only[SV.den,SI.den,aA] at e1 e2;exact fin (fun w=>by simp only[execOp,cC,<-e1,<-e2]) (uA (k:=k) (k':=k') hT.ok h ht hk kN hb)
    ·cases hs
   ·cases hs
  ·cases hs
 case call c =>
  split at hs
  ·rename_i jS
   split at hs
   ·rename_i s x ts tx fD VT
    split at hs
    ·rename_i ss sx ti ml pQ ht
     split at hs
     ·rename_i e hk
      split at hs
      ·rename_i te kN
       split at hs
       ·rename_i cs m lD
        obtain⟨callee,args,argTypes⟩:=c;simp only at jS fD VT;subst jS;have e1:args=#[s,x]:=by rw[<-aau (xs:=args),fD]
        have e2:argTypes=#[ts,tx]:=by rw[<-aau (xs:=argTypes),VT]
        subst e1;subst e2;exact fin (sm:=abi #[ts,tx] o.type #[gQ s,gQ x]) (fun w=>by simp[execOp,cC,resolve,invoke,builtin,aaq])
         (D_ rfl hT.ok h (by simp) (by simp) ht hk kN (df _ _ ml) (df _ _ pQ) lD hs)
       ·cases hs
      ·cases hs
     ·cases hs
    ·cases hs
   ·cases hs
  ·rename_i jS
   split at hs
   ·rename_i s x ts tx fD VT
    split at hs
    ·rename_i ss sx ti ml pQ ht
     split at hs
     ·rename_i e hk
      split at hs
      ·rename_i te kN
       obtain⟨callee,args,argTypes⟩:=c;simp only at jS fD VT;subst jS;have e1:args=#[s,x]:=by rw[<-aau (xs:=args),fD]
       have e2:argTypes=#[ts,tx]:=by rw[<-aau (xs:=argTypes),VT]
       subst e1;subst e2;obtain⟨v,w',k1,k2,k3⟩:=BW (ta:=#[ts,tx]) (ty:=o.type) rfl hT.ok h (by simp) ht hk kN (df _ _ ml) (df _ _ pQ) hs;exact fin (sm:=aaV #[ts,tx] o.type #[gQ s,gQ x]) (fun w=>by simp[execOp,cC,resolve,invoke,builtin,aaq]) ⟨N,v,w',af.le.refl N,k1,k2,k3⟩
      ·cases hs
     ·cases hs
    ·cases hs
   ·cases hs
  ·cases hs
end
section
variable {P:aad} {ops:Array aac} {Q:Exit->Act->World->Prop} {S:Array Bool->World->Prop}
def eZ (P:aad)(ops:Array aac)(Q:Exit->Act->World->Prop)(S:Array Bool->World->Prop):Nat->Array Bool->Act->World->Prop
 |0,L,a,w=>aar .any ops L=[]/\Q .normal a w
 |m+1,L,a,w=>(aar .any ops L=[]->Q .normal a w) /\
  ∀i∈aar .any ops L,wpOp P ops Q i (fun a' w'=>S (L.setIfInBounds i true) w'/\eZ P ops Q S m (L.setIfInBounds i true) a' w') a w
theorem eZ.any:∀(m:Nat) (L:Array Bool)(a:Act)(w:World),eZ P ops Q S m L a w->wpAny P .any ops Q m L a w
 |0,_,_,_,h=>h
 |m+1,_,_,_,h=>⟨h.1,fun i hi=>wpOp_mono (fun a' w' h'=>eZ.any m _ a' w' h'.2) (h.2 i hi)⟩
inductive Up (ops:Array aac) (i:Nat) (L0:Array Bool):Array Bool->Prop
 |here:Up ops i L0 L0
 |step {L:Array Bool} {j:Nat}:Up ops i L0 L->j∈aar .any ops L->j≠i->Up ops i L0 (L.setIfInBounds j true)
theorem Up.cons {i j:Nat}{L L':Array Bool}(hj:j∈aar .any ops L)(bH:j≠i)(h:Up ops i (L.setIfInBounds j true) L'):Up ops i L L':=by
 induction h with
 |here=>exact .step .here hj bH
 |step _ h1 h2 ih=>exact .step ih h1 h2
theorem eZ.first {i:Nat}{oi:aac}{v:Value}(hi:ops[i]?=some oi)(jb:∀(j:Nat) (o:aac) cs b,ops[j]?=some o->o.op≠.select cs b)
  (hQ:∀c a w,Q (.panic c) (a.put oi.dst v) w->Q (.panic c) a w) (hq:∀L w,S (L.setIfInBounds i true) w↔S L w) :
  ∀(m:Nat) (L:Array Bool) (a:Act) (w:World),
   (∀j oj,ops[j]?=some oj->j≠i->L.getD j true=false->(∀e∈oj.after,aaK .any e=true->e.on≠i)->oi.apart ops oj=true) ->
   i∈aar .any ops L->YieldsIf P ops (fun w=>∃L',Up ops i L L'/\S L' w) oi v a->S L w ->
   eZ P ops Q S m (L.setIfInBounds i true) (a.put oi.dst v) w->eZ P ops Q S (m+1) L a w:=by
 intro m
 induction m with
 |zero =>
  intro L a w _ hr hy hS H;refine⟨fun h=>(by rw[h] at hr;cases hr),fun j hj=>?_⟩
  by_cases I9:j=i
  ·subst I9;exact hy.wpOp hi ⟨L,.here,hS⟩ ⟨(hq L w).2 hS,H⟩
  ·have:=aaL hj I9
   rw[H.1] at this;cases this
 |succ m ih =>
  intro L a w jL hr hy hS H;refine⟨fun h=>(by rw[h] at hr;cases hr),fun j hj=>?_⟩
  by_cases I9:j=i
  ·subst I9;exact hy.wpOp hi ⟨L,.here,hS⟩ ⟨(hq L w).2 hS,H⟩
  ·have h1:=H.2 j (aaL hj I9)
   obtain⟨YC,oj,xI,fI⟩:=aaM.1 hj;have EB:∀e∈oj.after,aaK .any e=true->e.on≠i:=fun e he hb qp=>by
    have h1:=fI e he hb;have h0:=(aaM.1 hr).1;rw[qp] at h1;rcases aaJ i L.size with h'|h'
    ·simp[h'] at h0 h1;rw[h0] at h1;cases h1
    ·simp[aa5 h'] at h1
   have h2:=wpOp_putIf xI (jL j oj xI I9 YC EB) (fun cs b=>jb i oi cs b hi) (fun cs b=>jb j oj cs b xI) hQ hy h1;have Vn:∀k ok,ops[k]?=some ok->k≠i->(L.setIfInBounds j true).getD k true=false ->
     (∀e∈ok.after,aaK .any e=true->e.on≠i)->oi.apart ops ok=true:=fun k ok hk hki hun kE=>by
    refine jL k ok hk hki ?_ kE
    by_cases M8:j=k
    ·subst M8;exact YC
    ·rw[getD_set_ne true M8] at hun;exact hun
   refine wpOp_mono (fun a' w' h3=>?_) h2;obtain⟨h4,h5,h6⟩:=h3;rw[Array.setIfInBounds_comm _ _ (Ne.symm I9)] at h5 h6;have h7:=(hq _ _).1 h5;exact⟨h7,ih (L.setIfInBounds j true) a' w' Vn (aaL hr (Ne.symm I9)) (h4.imp (fun⟨q1,q2⟩=>⟨q1,fun w ⟨L',q3,q4⟩=>q2 w ⟨L',q3.cons hj I9,q4⟩⟩) id) h7 h6⟩
theorem eZ.take {i:Nat}{oi:aac}{v:Value}{m:Nat}{L:Array Bool}{a:Act}{w:World}(hi:ops[i]?=some oi)
  (hs:abk ops=true) (hf:abl .any ops L i=true) (hr:(aar .any ops L).contains i=true)
  (hQ:∀c a w,Q (.panic c) (a.put oi.dst v) w->Q (.panic c) a w) (hq:∀L w,S (L.setIfInBounds i true) w↔S L w) (hy:YieldsIf P ops (fun w=>∃L',Up ops i L L'/\S L' w) oi v a) (hS:S L w)
  (h:eZ P ops Q S m (L.setIfInBounds i true) (a.put oi.dst v) w):eZ P ops Q S (m+1) L a w :=
 eZ.first hi (Region.noSelect_spec hs) hQ hq m L a w (Region.free_spec hi hf) (by simpa using hr) hy hS h
theorem eZ.all {rs:List Nat}{m:Nat}{L:Array Bool}{a:Act}{w:World}(hr:aar .any ops L=rs)(bH:rs≠[])
  (h:∀i∈rs,wpOp P ops Q i (fun a' w'=>S (L.setIfInBounds i true) w'/\eZ P ops Q S m (L.setIfInBounds i true) a' w') a w):eZ P ops Q S (m+1) L a w :=
 ⟨fun h0=>absurd (hr ▸ h0) bH,hr ▸ h⟩
theorem eZ.done {L:Array Bool}{a:Act}{w:World}(hr:aar .any ops L=[])(h:Q .normal a w):eZ P ops Q S 0 L a w:=⟨hr,h⟩
def mM:List Nat->Nat->Bool
 | [],_=>false
 |k::r,n=>aaf k n ||mM r n
def uJ (ops:Array aac)(i:Nat)(gH:List Nat):Bool :=
 (aaQ ops.size).all fun j=>mM gH j ||aaf j i ||match ops[j]? with
  |some o=>o.after.any fun e=>aaK .any e&&(aaf e.on i || !mM gH e.on)
  |none=>true
def u7 (L:Array Bool)(n:Nat)(gH:List Nat):Bool:=(aaQ n).all fun j=>!L.getD j false ||mM gH j
theorem Up.within {i:Nat}{gH:List Nat}{L L':Array Bool}(hc:uJ ops i gH=true)(hn:L.size=ops.size)(hi:L.getD i false=false)(h:Up ops i L L')(hw:u7 L ops.size gH=true) :
  L'.size=ops.size/\L'.getD i false=false/\∀j,L'.getD j false=true->mM gH j=true:=by
 induction h with
 |here =>
  refine⟨hn,hi,fun j hj=>?_⟩;have aF:j<ops.size:=by
   rcases aaJ j ops.size with h'|h'
   ·exact h'
   ·rw[Array.getD_eq_getD_getElem?,aa5 (by omega)] at hj;cases hj
  have:=aaG.1 hw j (aa2.2 aF)
  simpa[hj] using this
 | @step L1 j sI hj bH ih =>
  obtain⟨h1,h2,h3⟩:=ih;refine⟨by simpa using h1,?_,fun k hk=>?_⟩
  ·rw[getD_set_ne false bH];exact h2
  ·by_cases M8:j=k
   ·subst M8
    obtain⟨_,oj,xI,fI⟩:=aaM.1 hj;have aF:j<ops.size:=(Array.getElem?_eq_some_iff.1 xI).1;have PH:=aaG.1 hc j (aa2.2 aF);simp only[xI,aa8] at PH;rcases PH with (h|h)|h
    ·exact h
    ·exact absurd (aam h) bH
    ·obtain⟨e,he,hb⟩:=Array.any_eq_true'.1 h
     simp only[aak,aa8,Bool.not_eq_true'] at hb;have hl:=fI e he hb.1;rcases hb.2 with hb|hb
     ·have:=aam hb
      rw[this,h2] at hl;cases hl
     ·have:=h3 e.on hl
      rw[hb] at this;cases this
   ·rw[getD_set_ne false M8] at hk
    exact h3 k hk
end
abbrev qd:=List (Nat × Option (List Nat))
abbrev aH:=List (Nat × qd)
def yS:aH->Nat->Option qd
 | [],_=>none
 |(k,v)::r,t=>bif aaf k t then some v else yS r t
def only (l:List Nat)(i:Nat):Bool :=
 match l with
 | [j]=>aaf j i
 |_=>false
def jN (ops:Array aac):qd->Array Bool->Bool
 | [],ad=>(aar .any ops ad).isEmpty
 |(i,some gH)::r,ad=>(aar .any ops ad).contains i&&abl .any ops ad i&&uJ ops i gH&&u7 ad ops.size gH&&jN ops r (ad.setIfInBounds i true)
 |(i,none)::r,ad=>only (aar .any ops ad) i&&jN ops r (ad.setIfInBounds i true)
def tP (ops:Array aac)(s:qd):Bool:=abk ops&&aaf s.length ops.size&&jN ops s (Array.replicate ops.size false)
def iu (B:aH):Code->Bool
 | .region id ops d=>match d with
  |true=>match yS B id with
   |some s=>tP ops s
   |none=>true
  |false=>true
 | .seq x y=>iu B x&&iu B y
 | .cond _ x y=>iu B x&&iu B y
 | .block _ c=>iu B c
 | .loop c=>iu B c
 | .scope c=>iu B c
 |_=>true
inductive It where
 |code (c:Code)
 |gH (id:Nat)
 |ops (all:Array aac) (rest:List Nat)
 |lp (q:Act->World->Prop)
 |fH (l:List SV)
 |inl (c:Code)
 deriving Inhabited
def wpIn (P:aad)(c:Code)(Q:Exit->Act->World->Prop)(a:Act)(w:World):Prop :=
 ∀(b:Frame) (k:List Item) (cs:List Frame),∃e a' w',Q e a' w'/\Arrives P (lone (b.at a (.inLoop c::k)) cs w) b k cs e a' w'
theorem wx {P:aad}{c:Code}{Q:Exit->Act->World->Prop}{a:Act}{w:World}(h:c.wp P (Exit.then (wpIn P c Q) Q) a w)(b:Frame)(k:List Item)(cs:List Frame) :
  ∃e a' w',Q e a' w'/\Arrives P (lone (b.at a (.code c::.inLoop c::k)) cs w) b k cs e a' w':=by
 obtain⟨e,JY,MS,hq,uw⟩:=h b (.inLoop c::k) cs;cases e with
 |normal =>
  obtain⟨ab8,ab5,aeW,Y7,PB⟩:=hq b k cs;exact⟨ab8,ab5,aeW,Y7,.of_steps uw PB⟩
 |exit id=>exact⟨_,JY,MS,hq,.pass (x:=.inLoop c) rfl (fun _ _=>.inl (by simp)) uw⟩
 |goto l=>exact⟨_,JY,MS,hq,.pass (x:=.inLoop c) rfl (fun _ _=>.inl (by simp)) uw⟩
 |ret=>exact⟨_,JY,MS,hq,.pass (x:=.inLoop c) rfl (fun _ _=>.inl (by simp)) uw⟩
 |panic ch=>exact⟨_,JY,MS,hq,.pass (x:=.inLoop c) rfl (fun _ _=>.inl (by simp)) uw⟩
 |outgrown=>exact⟨_,JY,MS,hq,.pass (x:=.inLoop c) rfl (fun _ _=>.inl (by simp)) uw⟩
theorem I0 {P:aad}{c:Code}{Q:Exit->Act->World->Prop}{a:Act}{w:World}(h:c.wp P (Exit.then (wpIn P c Q) Q) a w):(Code.loop c).wp P Q a w:=by
 intro b k cs;obtain⟨e,a',w',hq,uw⟩:=wx h b k cs;exact⟨e,a',w',hq,.of_steps (.one step_loop) uw⟩
theorem Fq {P:aad}{c:Code}{Q:Exit->Act->World->Prop}{a:Act}{w:World}(h:c.wp P (Exit.then (wpIn P c Q) Q) a w):wpIn P c Q a w:=by
 intro b k cs;obtain⟨e,a',w',hq,uw⟩:=wx h b k cs;exact⟨e,a',w',hq,.of_steps (.one step_inLoop) uw⟩
def ms (P:aad)(B:aH):List It->(Exit->Act->World->Prop)->Exit->Act->World->Prop
 | [],Q=>Q
 | .code c::k,Q=>Exit.then (fun a w=>iu B c=true->c.wp P (ms P B k Q) a w) (ms P B k Q)
 | .gH id::k,Q=>Exit.inBlock id (ms P B k Q)
 | .ops all rest::k,Q=>Exit.then (fun a w=>wpOps P all (ms P B k Q) rest a w) (ms P B k Q)
 | .lp q::k,Q=>Exit.then q (ms P B k Q)
 | .fH _::k,Q=>Exit.then (fun a w=>ms P B k Q .ret a w) (ms P B k Q)
 | .inl c::k,Q=>Exit.then (fun a w=>iu B c=true->wpIn P c (ms P B k Q) a w) (ms P B k Q)
structure eR extends Env where
 N0:af
 B:aH
def X (E:eR)(t:List It)(s:St):Prop :=
 ∀(N:af) (a:Act) (w:World),E.N0.le N->aX E.n N s.fr a->Sat E.toEnv N s.rg w->ms E.P E.B t E.Q .normal a w
def unwind (id:Nat):List It->Option (List It)
 | []=>none
 | .gH i::k=>bif aaf i id then some k else unwind id k
 | .code _::k=>unwind id k
 | .ops _ _::k=>unwind id k
 | .lp _::k=>unwind id k
 | .fH _::k=>unwind id k
 | .inl _::k=>unwind id k
theorem ft {P:aad}{B:aH}{id:Nat}{Q:Exit->Act->World->Prop}{a:Act}{w:World}:∀(k:List It) {k':List It},unwind id k=some k'->ms P B k' Q .normal a w->ms P B k Q (.exit id) a w
 | [],k',h,_=>by simp[unwind] at h
 | .code c::k,k',h,hs=>by simp only[unwind] at h;exact ft k h hs
 | .ops all rest::k,k',h,hs=>by simp only[unwind] at h;exact ft k h hs
 | .lp q::k,k',h,hs=>by simp only[unwind] at h;exact ft k h hs
 | .fH q::k,k',h,hs=>by simp only[unwind] at h;exact ft k h hs
 | .inl q::k,k',h,hs=>by simp only[unwind] at h;exact ft k h hs
 | .gH i::k,k',h,hs=>by
  simp only[unwind] at h
  by_cases hi:i=id
  ·subst hi
   simp at h;subst h
   simpa[ms,Exit.inBlock] using hs
  ·simp only[gS hi,cond_false] at h
   have:=ft k h hs;simp only[ms,Exit.inBlock];rw[if_neg (fun e=>hi e.symm)];exact this
def vQ (all:Array aac)(i:Nat):Option Nat :=
 match nth all.toList i with
 |some o=>o.dst
 |none=>none
def LV (f:Fr)(ρ:aah->Option SV)(op:Op):Option SV :=
 match op with
 | .pick (.tmp m) a b=>match ρ (.tmp m),WG f m true a,WG f m false b with
  |some c,some va,some vb=>GN c va vb
  |some (.bool (.lit true)),some va,_=>some va
  |some (.bool (.lit false)),_,some vb=>some vb
  |_,_,_=>none
 |_=>none
def eK (n:Nat)(f:Fr)(d:Option Nat)(e:FV):Option Fr :=
 match d with
 |none=>some f
 |some d=>bif aal d n then some (upd f d e) else none
def W6:SV->Bool
 | .tup []=>true
 |_=>false
def MJ (T:aQ)(rg:List Rg)(f:Fr)(ρ:aah->Option SV)(op:Op):Option SV :=
 match LV f ρ op with
 |some v=>some v
 |none=>Mm T rg ρ op
def AW (T:aQ)(n:Nat)(rg:List Rg)(f:Fr)(o:aac):Option Fr :=
 match MJ T rg f (ev f) o.op with
 |some v=>eK n f o.dst (.val v)
 |none=>none
def AL (T:aQ)(n:Nat)(rg:List Rg)(f:Fr)(o:aac)(k:Nat)(want:Bool):Option Fr :=
 match MJ T rg f (WG f k want) o.op with
 |some v=>match o.dst with
  |some d=>bif aaf d k then none else eK n f (some d) (.xJ k want v)
  |none=>none
 |none=>none
def LM (T:aQ)(n:Nat)(all:Array aac)(rg:List Rg)(i:Nat)(f:Fr):Option Fr :=
 match nth all.toList i with
 |none=>none
 |some o =>
  match o.guard with
  |none=>AW T n rg f o
  |some (gi,want)=>match vQ all gi with
   |none=>none
   |some k =>
    match look f k with
    | .val (.bool (.lit b))=>bif b == want then AW T n rg f o else eK n f o.dst (.val (.tup []))
    | .val (.bool _)=>AL T n rg f o k want
    | .val v=>bif W6 v then eK n f o.dst (.val (.tup [])) else none
    | .xJ _ _ (.bool _)=>AL T n rg f o k want
    |_=>none
def sure (all:Array aac)(f:Fr)(o:aac):Bool :=
 match o.guard with
 |none=>true
 |some (gi,want)=>match vQ all gi with
  |none=>false
  |some k=>match look f k with
   | .val (.bool (.lit b))=>b == want
   |_=>false
def uW (T:aQ)(n:Nat)(all:Array aac)(i:Nat)(s:St):Option St :=
 match nth all.toList i with
 |none=>none
 |some o=>bif sure all s.fr o then
   match nl T s.rg (ev s.fr) o.op with
   |some (v,rg)=>match eK n s.fr o.dst (.val v) with
    |some f=>some ⟨f,rg⟩
    |none=>none
   |none=>none
  else none
def tw (T:aQ)(n:Nat)(all:Array aac)(i:Nat)(s:St):Option St :=
 match LM T n all s.rg i s.fr with
 |some f=>some ⟨f,s.rg⟩
 |none=>uW T n all i s
def aU:List Nat->Nat->Bool
 | [],_=>false
 |k::r,n=>aaf k n ||aU r n
def xL (f:Fr)(all:Array aac)(i:Nat):Option Nat :=
 match nth all.toList i with
 |some o=>I1 (ev f) o.op
 |none=>none
def aJ (ks:List Nat):List Rg->Nat->List Rg
 | [],_=>[]
 |g::r,i=>(bif aU ks i then ⟨false,[],none⟩ else g)::aJ ks r (i+1)
def oG (T:aQ)(s:St):List aaA->Option (List SV)
 | []=>some []
 | .tmp t::r=>match ev s.fr (.tmp t),oG T s r with
  |some v,some l=>some (v::l)
  |_,_=>none
 | .cell a t::r=>match ev s.fr (.tmp a) with
  |some x=>match CB T s.rg t x,oG T s r with
   |some v,some l=>some (v::l)
   |_,_=>none
  |none=>none
def UK (T:aQ)(n:Nat)(rs:List aaA)(t:List It)(s:St):Option (List It × St) :=
 match t with
 | []=>none
 | .lp _::_=>none
 | .fH _::_=>none
 | .inl _::_=>none
 | .gH _::k=>some (k,s)
 | .ops _ []::k=>some (k,s)
 | .ops all (i::rest)::k=>match tw T n all i s with
  |some s'=>some (.ops all rest::k,s')
  |none=>none
 | .code c::k =>
  match c with
  | .skip=>some (k,s)
  | .label _=>some (k,s)
  | .seq x y=>some (.code x::.code y::k,s)
  | .block id c=>some (.code c::.gH id::k,s)
  | .region _ ops d=>match d with
   |false=>some (.ops ops (aaQ ops.size)::k,s)
   |true=>none
  | .exit id=>match unwind id k with
   |some k'=>some (k',s)
   |none=>none
  | .cond c x y=>match ev s.fr c with
   |some (.bool (.lit b))=>some (.code (bif b then x else y)::k,s)
   |_=>none
  | .ret=>match oG T s rs with
   |some l=>some (.fH l::k,s)
   |none=>none
  |_=>none
section
variable {E:eR} {T:aQ}
theorem CQ {n:Nat}{N:af}{f:Fr}{a:Act}{P:aad}{w:World}(h:aX n N f a){ρ:aah->Option SV}(df:∀x s,ρ x=some s->s.den N=some (a.eval x)){o:aac}{r:SV}(hp:LV f ρ o.op=some r) :
  ∃x,r.den N=some x/\(execOp a.eval o).run P w=.ok (.value x) w:=by
 cases cC:o.op<;>simp only[cC,LV] at hp<;>try (simp at hp;done)
 rename_i c x y
 cases c<;>simp only at hp<;>try (simp at hp;done)
 rename_i m
 have key:∀(c:SV) (cb:Bool),ρ (.tmp m)=some c->c.den N=some (.bool cb)->a.tmps[m]?=some (.bool cb):=by
  intro c cb hc hd;have:=df _ _ hc;rw[hd] at this;simp only[aaW,aA] at this;cases hm:a.tmps[m]? with
  |none=>simp[hm,undef] at this
  |some v=>simp[hm] at this;rw[this]
 have fin:∀(cb:Bool) (r:SV),a.eval (.tmp m)=.bool cb->r.den N=some (bif cb then a.eval x else a.eval y)->∃v,r.den N=some v/\(execOp a.eval o).run P w=.ok (.value v) w:=by
  intro cb r hc hr;refine⟨_,hr,?_⟩;simp only[execOp,cC,hc];cases cb<;>simp[asBool]
 split at hp
 ·rename_i c va vb hc ha hb
  have hd:=df _ _ hc
  -- the test is a Bool
  have Ya:∃cb,c.den N=some (.bool cb):=by
   unfold GN at hp
   split at hp
   ·exact⟨_,rfl⟩
   ·exact⟨_,rfl⟩
   ·exact⟨_,rfl⟩
   ·cases hp
  obtain⟨cb,sE⟩:=Ya;have hm:=key c cb hc sE;rw[sE] at hd;simp only[aA] at hd;refine fin cb r hd.symm (CR sE (fun e=>?_) (fun e=>?_) hp)
  ·subst e;exact jY h hm ha
  ·subst e;exact jY h hm hb
 ·rename_i va hc ha _
  simp only[aA] at hp;subst hp;have hm:=key _ true hc rfl;have hd:=df _ _ hc;simp only[SV.den,SB.den,aA] at hd;exact fin true _ hd.symm (jY h hm ha)
 ·rename_i vb hc hb _
  simp only[aA] at hp;subst hp;have hm:=key _ false hc rfl;have hd:=df _ _ hc;simp only[SV.den,SB.den,aA] at hd;exact fin false _ hd.symm (jY h hm ‹_›)
 ·cases hp
theorem cu {n:Nat}{N:af}{f f':Fr}{a:Act}{d:Option Nat}{v:SV}{x:Value}(h:aX n N f a)(hv:v.den N=some x)(hp:eK n f d (.val v)=some f'):aX n N f' (a.put d x):=by
 cases d with
 |none=>simp only[eK,aA] at hp;subst hp;exact h
 |some d =>
  simp only[eK] at hp;cases hb:aal d n with
  |false=>rw[hb] at hp;simp at hp
  |true =>
   rw[hb] at hp;simp only[cond_true,aA] at hp;subst hp;exact h.Qn (aan hb) hv
theorem xq {P:aad}(hT:aq P T){n:Nat}{N:af}{rg:List Rg}{f:Fr}{a:Act}{w:World}(hf:aX n N f a)(h:jg N rg w){ρ:aah->Option SV}(df:∀x s,ρ x=some s->s.den N=some (a.eval x)){o:aac}{v:SV}
  (hv:MJ T rg f ρ o.op=some v):∃x,v.den N=some x/\(execOp a.eval o).run P w=.ok (.value x) w:=by
 unfold MJ at hv
 split at hv
 ·rename_i v' YY
  simp only[aA] at hv;subst hv;exact CQ hf df YY
 ·exact Db hT h df hv
theorem qR {all:Array aac}{gi k:Nat}(hd:vQ all gi=some k)(t:Array Value):yielded all t gi=match t[k]? with|some (.bool b)=>some b|_=>none:=by
 unfold vQ at hd;rw[bT] at hd;unfold yielded;cases hgi:all[gi]? with
 |none=>rw[aa6,hgi] at hd;simp at hd
 |some og =>
  rw[aa6,hgi] at hd;simp only at hd;simp only[Option.bind_some,hd];cases t[k]? with
  |none=>rfl
  |some v=>cases v<;>rfl
theorem me {P:aad}(hT:aq P T){n:Nat}{N:af}{rg:List Rg}{f f':Fr}{a:Act}{all:Array aac}{i:Nat}{o:aac}{w0:World}(ho:all[i]?=some o)(hq:LM T n all rg i f=some f')(hf:aX n N f a)(h0:jg N rg w0) :
  ∃v,((aai o (yielded all a.tmps)=true/\∀w,jg N rg w->(execOp a.eval o).run P w=.ok (.value v) w)\/(aai o (yielded all a.tmps)=false/\v=undef))/\aX n N f' (a.put o.dst v):=by
 unfold LM at hq;have kR:nth all.toList i=some o:=by rw[bT];simpa using ho
 simp only[kR] at hq;have df:∀x v,ev f x=some v->v.den N=some (a.eval x):=fun x v hx=>cX hf hx
 have aab:∀{v:SV} {ρ:aah->Option SV},(∀x v,ρ x=some v->v.den N=some (a.eval x))->MJ T rg f ρ o.op=some v->∃x,v.den N=some x/\∀w,jg N rg w->(execOp a.eval o).run P w=.ok (.value x) w:=by
  intro v ρ df hv;obtain⟨x,h1,_⟩:=xq hT hf h0 df hv;refine⟨x,h1,fun w hw=>?_⟩;obtain⟨y,h3,h4⟩:=xq hT hf hw df hv;rw[h1] at h3;cases h3;exact h4
 have plain:AW T n rg f o=some f'->aai o (yielded all a.tmps)=true->∃v,((aai o (yielded all a.tmps)=true/\∀w,jg N rg w->(execOp a.eval o).run P w=.ok (.value v) w)\/(aai o (yielded all a.tmps)=false/\v=undef))/\aX n N f' (a.put o.dst v):=by
  intro hp hw;unfold AW at hp
  split at hp
  ·rename_i v hv
   obtain⟨x,h1,h2⟩:=aab df hv;exact⟨x,.inl ⟨hw,h2⟩,cu hf h1 hp⟩
  ·cases hp
 have skip:eK n f o.dst (.val (.tup []))=some f'->aai o (yielded all a.tmps)=false->∃v,((aai o (yielded all a.tmps)=true/\∀w,jg N rg w->(execOp a.eval o).run P w=.ok (.value v) w)\/(aai o (yielded all a.tmps)=false/\v=undef))/\aX n N f' (a.put o.dst v) :=
  fun hp hw=>⟨undef,.inr ⟨hw,rfl⟩,cu hf (x:=undef) rfl hp⟩
 cases hg:o.guard with
 |none =>
  simp only[hg] at hq;exact plain hq (by simp[aai,hg])
 |some gw =>
  obtain⟨gi,want⟩:=gw;simp only[hg] at hq;cases hd:vQ all gi with
  |none=>simp[hd] at hq
  |some k =>
   simp only[hd] at hq;have Nk:=qR hd a.tmps;have pR:aai o (yielded all a.tmps)=(yielded all a.tmps gi == some want):=by simp[aai,hg]
   have maybe:AL T n rg f o k want=some f'->∃v,((aai o (yielded all a.tmps)=true/\∀w,jg N rg w->(execOp a.eval o).run P w=.ok (.value v) w)\/(aai o (yielded all a.tmps)=false/\v=undef))/\aX n N f' (a.put o.dst v):=by
    intro hp;unfold AL at hp
    split at hp
    ·rename_i v hv
     split at hp
     ·rename_i d Yi
      cases Vj:aaf d k with
      |true=>rw[Vj] at hp;simp at hp
      |false =>
       rw[Vj] at hp;simp only[cond_false,eK] at hp;have KI:d≠k:=fun e=>by subst e;simp at Vj
       cases hb:aal d n with
       |false=>rw[hb] at hp;simp at hp
       |true =>
        rw[hb] at hp;simp only[cond_true,aA] at hp;subst hp;have KK:d<n:=aan hb
        by_cases oZ:a.tmps[k]?=some (.bool want)
        ·obtain⟨x,h1,h2⟩:=aab (fun x v hx=>jY hf oZ hx) hv
         refine⟨x,.inl ⟨by rw[pR,Nk,oZ];simp,h2⟩,?_⟩;rw[Yi];have e1:(a.put (some d) x).tmps[k]?=a.tmps[k]?:=by simp only[aaD];rw[aa7 KI]
         exact hf.put KK ⟨fun _=>⟨x,h1,by simp[aaD,hf.size,KK]⟩,fun hn=>absurd (by rw[e1];exact oZ) hn⟩
        ·refine⟨undef,.inr ⟨?_,rfl⟩,?_⟩
         ·rw[pR,Nk]
          cases ht:a.tmps[k]? with
          |none=>rfl
          |some u =>
           cases u<;>simp
           rename_i b
           intro e;subst e;exact oZ ht
         ·rw[Yi]
          have e1:(a.put (some d) undef).tmps[k]?=a.tmps[k]?:=by simp only[aaD];rw[aa7 KI]
          exact hf.put KK ⟨fun e=>absurd (by rw[<-e1];exact e) oZ,fun _=>by simp[aaD,hf.size,KK]⟩
     ·cases hp
    ·cases hp
   have dm:=hf.ok k
   split at hq
   ·rename_i b hl
    rw[hl] at dm;obtain⟨x,hx,hm⟩:=dm;simp only[SV.den,SB.den,aA] at hx;subst hx;cases KE:(b == want) with
    |true =>
     rw[KE] at hq;exact plain hq (by rw[pR,Nk,hm];simpa using KE)
    |false =>
     rw[KE] at hq;exact skip hq (by rw[pR,Nk,hm];simpa using KE)
   ·exact maybe hq
   ·rename_i v _ _ hl
    rw[hl] at dm;obtain⟨x,hx,hm⟩:=dm;cases hu:W6 v with
    |false=>rw[hu] at hq;simp at hq
    |true =>
     rw[hu] at hq;have:v=.tup []:=by unfold W6 at hu;split at hu<;>first|rfl|simp at hu
     subst this;simp only[SV.den,SV.ap,aA] at hx;subst hx;exact skip hq (by rw[pR,Nk,hm];rfl)
   ·exact maybe hq
   ·cases hq
theorem mW {n:Nat}{N:af}{f:Fr}{a:Act}{all:Array aac}{o:aac}(hf:aX n N f a)(h:sure all f o=true):aai o (yielded all a.tmps)=true:=by
 unfold sure at h
 split at h
 ·rename_i hg;simp[aai,hg]
 ·rename_i gi want hg
  split at h
  ·cases h
  ·rename_i k hd
   have dm:=hf.ok k
   split at h
   ·rename_i b hl
    rw[hl] at dm;obtain⟨x,hx,hm⟩:=dm;simp only[SV.den,SB.den,aA] at hx;subst hx;have:aai o (yielded all a.tmps)=(yielded all a.tmps gi == some want):=by simp[aai,hg]
    rw[this,qR hd,hm]
    simpa using h
   ·cases h
theorem gu {E:Env}(hT:aq E.P T){all:Array aac}{i:Nat}{o:aac}{s s':St}(ho:all[i]?=some o)(hs:uW T E.n all i s=some s'){N:af}{a:Act}{w:World}(hf:aX E.n N s.fr a)(h:Sat E N s.rg w) :
  aai o (yielded all a.tmps)=true/\∃N' x w',N.le N'/\bU.Yields E.P a.eval o w x w'/\aX E.n N' s'.fr (a.put o.dst x)/\Sat E N' s'.rg w':=by
 unfold uW at hs;have kR:nth all.toList i=some o:=by rw[bT];simpa using ho
 simp only[kR] at hs;cases Gm:sure all s.fr o with
 |false=>rw[Gm] at hs;simp at hs
 |true =>
  rw[Gm] at hs;simp only[cond_true] at hs;refine⟨mW hf Gm,?_⟩
  split at hs
  ·rename_i v rg hv
   split at hs
   ·rename_i f hp
    simp only[aA] at hs;subst hs;obtain⟨N',x,w',h1,h2,h3,h4⟩:=uh hT h (fun x v hx=>cX hf hx) hv;exact⟨N',x,w',h1,h3,cu (hf.mono h1) h2 hp,h4⟩
   ·cases hs
  ·cases hs
theorem bi {P:aad}{o:aac}{a:Act}{w w':World}{x:Value}(hy:bU.Yields P a.eval o w x w'){K:Act->World->Prop}{Q:Exit->Act->World->Prop}(h:K (a.put o.dst x) w'):o.wp P a w K Q:=by
 unfold Oper.wp;rcases hy with hy|⟨hy,rfl⟩
 ·rw[hy];exact h
 ·rw[hy];exact h
theorem AU (hT:aq E.P T){all:Array aac}{i:Nat}{s s':St}(hs:tw T E.n all i s=some s'){N:af}{a:Act}{w:World}(hf:aX E.n N s.fr a)(h:Sat E.toEnv N s.rg w)
  {Q:Exit->Act->World->Prop} {rest:List Nat} (hk:∀N' a' w',N.le N'->aX E.n N' s'.fr a'->Sat E.toEnv N' s'.rg w'->wpOps E.P all Q rest a' w'):wpOps E.P all Q (i::rest) a w:=by
 unfold tw at hs;cases ho:all[i]? with
 |none =>
  have kR:nth all.toList i=none:=by rw[bT];simpa using ho
  unfold LM uW at hs;simp[kR] at hs
 |some o =>
  split at hs
  ·rename_i f hq
   simp only[aA] at hs;subst hs;obtain⟨v,hv,de⟩:=me hT ho hq hf h.xt;simp only[wpOps,ho];rcases hv with ⟨hw,a6⟩|⟨hw,rfl⟩
   ·rw[hw,if_pos rfl]
    exact .inl (bi (.inl (a6 w h.xt)) (hk N _ w (af.le.refl N) de h))
   ·rw[hw]
    exact hk N _ w (af.le.refl N) de h
  ·obtain⟨hw,N',x,w',h1,h2,h3,h4⟩:=gu hT ho hs hf h
   simp only[wpOps,ho];rw[hw,if_pos rfl];exact .inl (bi h2 (hk N' _ w' h1 h3 h4))
theorem g_ {ks:List Nat}:∀(rg:List Rg) (i r:Nat),(aJ ks rg i)[r]?=(rg[r]?).map (fun g=>bif aU ks (i+r) then ⟨false,[],none⟩ else g)
 | [],i,r=>by simp[aJ]
 |g::rg,i,0=>by simp[aJ]
 |g::rg,i,r+1=>by
  simp only[aJ,aaO];rw[g_ rg (i+1) r,show i+1+r=i+(r+1) by omega]
theorem jj {ks:List Nat}:∀(rg:List Rg) (i:Nat),(aJ ks rg i).length=rg.length
 | [],_=>rfl
 |g::rg,i=>by simp[aJ,jj rg (i+1)]
theorem jg.AK {N:af}{rg:List Rg}{w:World}(h:jg N rg w)(ks:List Nat):jg N (aJ ks rg 0) w:=by
 refine⟨by rw[jj];exact h.len,fun r g p hg hp j c hc=>?_,fun r g p hg hp ho=>?_⟩
 ·rw[g_] at hg
  obtain⟨g0,h1,h2⟩:=aaX.1 hg;cases hm:aU ks (0+r) with
  |true=>rw[hm] at h2;simp at h2;subst h2;simp at hc
  |false=>rw[hm] at h2;simp at h2;subst h2;exact h.cell r g0 p h1 hp j c hc
 ·rw[g_] at hg
  obtain⟨g0,h1,h2⟩:=aaX.1 hg;cases hm:aU ks (0+r) with
  |true=>rw[hm] at h2;simp at h2;subst h2;simp
  |false=>rw[hm] at h2;simp at h2;subst h2;exact h.ext r g0 p h1 hp ho
theorem jg.mono {N N':af}{rg:List Rg}{w:World}(h:jg N rg w)(hN:N.le N'):jg N' rg w:=by
 have hl:rg.length<=N'.length:=by
  rcases aaJ N'.length rg.length with aF|cJ
  ·have h1:N'.length<N.length:=aaC aF h.len
   have:=hN N'.length _ (aav h1);simp at this
  ·exact cJ
 refine⟨hl,fun r g p hg hp j c hc=>?_,fun r g p hg hp ho=>?_⟩
 ·have hr:r<N.length:=aaC (aas.1 hg).1 h.len
  have:=hN r _ (aav hr);rw[this] at hp;obtain⟨v,h1,h2⟩:=h.cell r g p hg (by rw[aav hr];exact hp) j c hc;exact⟨v,SV.bf hN c h1,h2⟩
 ·have hr:r<N.length:=aaC (aas.1 hg).1 h.len
  have:=hN r _ (aav hr);rw[this] at hp;exact h.ext r g p hg (by rw[aav hr];exact hp) ho
def bG (ks:List Nat)(rg cN:List Rg):Prop:=∀(r:Nat) (g:Rg),rg[r]?=some g->aU ks r=false->cN[r]?=some g
theorem dx {E:Env}{ks:List Nat}{rg cN:List Rg}{N N':af}{w w':World}(h0:jg N (aJ ks rg 0) w)(hN:N.le N')(ha:bG ks rg cN)(hS:Sat E N' cN w'):jg N (aJ ks rg 0) w':=by
 refine⟨h0.len,fun r g p hg hp j c hc=>?_,h0.ext⟩;obtain⟨v,h1,_⟩:=h0.cell r g p hg hp j c hc;refine⟨v,h1,?_⟩;rw[g_] at hg;obtain⟨g0,k1,k2⟩:=aaX.1 hg;cases hm:aU ks (0+r) with
 |true=>rw[hm] at k2;simp at k2;subst k2;simp at hc
 |false =>
  rw[hm] at k2;simp at k2;subst k2;obtain⟨u,q1,q2⟩:=hS.cell r g0 p (ha r g0 k1 (by simpa using hm)) (hN r p hp) j c hc;rw[SV.bf hN c h1] at q1;cases q1;exact q2
theorem eA {ks:List Nat}{rg:List Rg}{all:Array aac}{i:Nat}{s s':St}{n:Nat}(ha:bG ks rg s.rg)(hl:rg.length<=s.rg.length)(hk:(match xL s.fr all i with|some k=>aU ks k|none=>true)=true)(he:uW T n all i s=some s') :
  bG ks rg s'.rg/\rg.length<=s'.rg.length:=by
 unfold uW at he
 split at he
 ·cases he
 ·rename_i o ho
  cases Gm:sure all s.fr o with
  |false=>rw[Gm] at he;simp at he
  |true =>
   rw[Gm] at he;simp only[cond_true] at he
   split at he
   ·rename_i v cN hv
    split at he
    ·rename_i f' hp
     simp only[aA] at he;subst he;obtain⟨h1,h2⟩:=Da hv;refine⟨fun r g0 hg hm=>h1 r g0 (ha r g0 hg hm) (fun e=>?_),abh hl h2⟩;have gU:xL s.fr all i=some r:=by simp only[xL,ho,e]
     rw[gU] at hk;simp only at hk;rw[hk] at hm;cases hm
    ·cases he
   ·cases he
def bR (Q:Exit->Act->World->Prop):Prop:=∀c a d v w,Q (.panic c) (aaD a d v) w->Q (.panic c) a w
theorem bR.ms {P:aad}{B:aH}{Q:Exit->Act->World->Prop}(h:bR Q):∀k,bR (ms P B k Q)
 | []=>h
 | .code _::k=>fun c a d v w hq=>bR.ms h k c a d v w hq
 | .gH _::k=>fun c a d v w hq=>bR.ms h k c a d v w hq
 | .ops _ _::k=>fun c a d v w hq=>bR.ms h k c a d v w hq
 | .lp _::k=>fun c a d v w hq=>bR.ms h k c a d v w hq
 | .fH _::k=>fun c a d v w hq=>bR.ms h k c a d v w hq
 | .inl _::k=>fun c a d v w hq=>bR.ms h k c a d v w hq
theorem sO (hT:aq E.P T){rs:List aaA}{t t':List It}{s s':St}(h:UK T E.n rs t s=some (t',s'))(hx:X E t' s'):X E t s:=by
 intro N a w hN hf hS;unfold UK at h
 split at h
 ·cases h
 ·cases h
 ·cases h
 ·cases h
 ·simp only[aA,aae] at h;obtain⟨rfl,rfl⟩:=h
  exact hx N a w hN hf hS
 ·simp only[aA,aae] at h;obtain⟨rfl,rfl⟩:=h
  exact hx N a w hN hf hS
 ·rename_i all i rest k
  split at h
  ·rename_i s1 hs
   simp only[aA,aae] at h;obtain⟨rfl,rfl⟩:=h;show wpOps _ _ _ _ _ _;exact AU hT hs hf hS (fun N' a' w' db d_ cL=>hx N' a' w' (hN.trans db) d_ cL)
  ·cases h
 ·rename_i c k
  show _->Code.wp _ _ _ _ _;intro dH
  split at h
  ·simp only[aA,aae] at h;obtain⟨rfl,rfl⟩:=h
   exact wp_skip (hx N a w hN hf hS)
  ·simp only[aA,aae] at h;obtain⟨rfl,rfl⟩:=h
   exact wp_label (hx N a w hN hf hS)
  ·simp only[aA,aae] at h;obtain⟨rfl,rfl⟩:=h
   simp only[iu,aak] at dH;exact wp_seq (wp_mono (hx N a w hN hf hS dH.1) (fun e a w hq=>by cases e<;>first|exact hq dH.2|exact hq))
  ·simp only[aA,aae] at h;obtain⟨rfl,rfl⟩:=h
   exact wp_block (hx N a w hN hf hS dH)
  ·rename_i id ops d
   split at h
   ·simp only[aA,aae] at h;obtain⟨rfl,rfl⟩:=h
    exact wp_region (hx N a w hN hf hS)
   ·cases h
  ·rename_i id
   split at h
   ·rename_i k' hu
    simp only[aA,aae] at h;obtain⟨rfl,rfl⟩:=h;exact wp_exit (ft k hu (hx N a w hN hf hS))
   ·cases h
  ·rename_i c x y
   simp only[iu,aak] at dH
   split at h
   ·rename_i b hc
    simp only[aA,aae] at h;obtain⟨rfl,rfl⟩:=h;have:=cX hf hc;simp only[SV.den,SB.den,aA] at this;refine wp_cond (t:=b) this.symm ?_;have:=hx N a w hN hf hS;cases b
    ·exact this dH.2
    ·exact this dH.1
   ·cases h
  ·split at h
   ·simp only[aA,aae] at h;obtain⟨rfl,rfl⟩:=h
    exact wp_ret (hx N a w hN hf hS)
   ·cases h
  ·cases h
end
def kU:List SV->Nat->Fr
 | [],_=>[]
 |s::r,i=>(i,.val s)::kU r (i+1)
theorem ww:∀(ss:List SV) (i t:Nat),look (kU ss i) t=if i<=t then (match ss[t-i]? with|some s=>.val s|none=>.dead) else .dead
 | [],i,t=>by simp[kU,look]
 |s::r,i,t=>by
  simp only[kU,look]
  by_cases h:i=t
  ·subst h;simp
  ·simp only[gS h,cond_false]
   rw[ww r (i+1) t]
   by_cases hle:i+1<=t
   ·rw[if_pos hle,if_pos (by omega)]
    rw[show t-i=(t-(i+1))+1 by omega];simp
   ·rw[if_neg hle,if_neg (by omega)]
theorem X.enter {P:aad}{f:aaE}{fn:aaj}{c:Code}{args:Array Value}{w:World}{R:aao->World->Prop}(E:eR)(hf:P.funcs[f]?=some fn)(hb:fn.body=some c)
  (hP:E.P=P) (hQ:E.Q=aaF P fn R) (hn:E.n=fn.ntmps) (dH:iu E.B c=true) (hle:args.size<=fn.ntmps) {ss:List SV} {rg:List Rg} (ha:SV.ap E.N0 ss=some args.toList) (hS:Sat E.toEnv E.N0 rg w)
  (h:X E [.code c] ⟨kU ss 0,rg⟩):Calls P f args w R:=by
 subst hP;refine calls_of_wp hf hb ?_;rw[<-hQ];refine h E.N0 _ w (af.le.refl _) ⟨?_,rfl,fun t=>?_⟩ hS dH
 ·simp[hn];omega
 ·rw[ww]
  simp only[Nat.zero_le,if_true,aaU];cases hs:ss[t]? with
  |none=>trivial
  |some s =>
   obtain⟨h1,h2⟩:=SV.aP _ ha;obtain⟨v,hv,hl⟩:=h2 t s hs;refine⟨v,hv,?_⟩;have:t<args.size:=by have:=(aas.1 hl).1;simpa using this
   rw[Array.getElem?_append_left this]
   simpa using hl
theorem jU {P:aad}{B:aH}{Q:Exit->Act->World->Prop}{a:Act}{w:World}:∀k,Q .ret a w->ms P B k Q .ret a w
 | [],h=>h
 | .code _::k,h=>jU k h
 | .gH _::k,h=>jU k h
 | .ops _ _::k,h=>jU k h
 | .lp _::k,h=>jU k h
 | .fH _::k,h=>jU k h
 | .inl _::k,h=>jU k h
def bz (l:List SV):SV :=
 match l with
 | [v]=>v
 |l=>.tup l
def AY (tmps:Array Value):aaA->Sem Value
 | .tmp t=>pure (tmps.getD t undef)
 | .cell x t=>do loadVar t (<-asAddr (tmps.getD x undef))
theorem E2 (fn:aaj)(tmps:Array Value):results fn tmps=(do let vs <-fn.results.mapM (AY tmps);pure (if h:vs.size=1 then vs[0] else .tuple vs)):=rfl
theorem A3 {P:aad}{w:World}{T:aQ}{E:Env}{N:af}{s:St}{a:Act}{n:Nat}(hE:E.P=P)(hT:aq P T)(hf:aX n N s.fr a)(hS:Sat E N s.rg w):∀(rs:List aaA) {l:List SV},oG T s rs=some l ->
  ∃vs,SV.ap N l=some vs/\(rs.mapM (AY a.tmps)).run P w=.ok vs w
 | [],l,h=>by simp only[oG,aA] at h;subst h;exact⟨[],rfl,by simp⟩
 | .tmp t::r,l,h=>by
  simp only[oG] at h
  split at h
  ·rename_i v q hv hq
   simp only[aA] at h;subst h;obtain⟨vs,h1,h2⟩:=A3 hE hT hf hS r hq;have:=cX hf hv;exact⟨a.eval (.tmp t)::vs,by simp[SV.ap,this,h1],by simp[aaN,AY,h2,aaW,aaq]⟩
  ·cases h
 | .cell x t::r,l,h=>by
  simp only[oG] at h
  split at h
  ·rename_i y hy
   split at h
   ·rename_i v q hv hq
    simp only[aA] at h;subst h;obtain⟨vs,h1,h2⟩:=A3 hE hT hf hS r hq;have Cp:=cX hf hy;subst hE;obtain⟨u,k1,k2⟩:=ub hT.ok hS.xt Cp hv
    -- what is aep akb at an address
    have:∃p,a.eval (.tmp x)=.pointer (some p):=by
     cases y<;>simp only[CB] at hv<;>try (simp at hv;done)
     rename_i r0 c0
     simp only[SV.den] at Cp
     split at Cp
     ·simp only[aA] at Cp;exact⟨_,Cp.symm⟩
     ·cases Cp
    obtain⟨p,hp⟩:=this;rw[hp] at k2;refine⟨u::vs,by simp[SV.ap,k1,h1],?_⟩;have k3:(loadVar t p).run E.P w=.ok u w:=by simpa[Instr.loadAt,aa3] using k2
    have lC:a.tmps.getD x undef=.pointer (some p):=hp;simp only[aaN,AY,aaw,lC,asAddr,aaz,aaq,k3,h2]
   ·cases h
  ·cases h
theorem lk {P:aad}{w:World}{T:aQ}{E:Env}{N:af}{s:St}{a:Act}{n:Nat}(hE:E.P=P)(hT:aq P T)(hf:aX n N s.fr a)(hS:Sat E N s.rg w){fn:aaj}{l:List SV}(h:oG T s fn.results.toList=some l) :
  ∃v,(bz l).den N=some v/\(results fn a.tmps).run P w=.ok v w:=by
 obtain⟨vs,h1,h2⟩:=A3 hE hT hf hS _ h;have h3:(results fn a.tmps).run P w=.ok (if h:vs.toArray.size=1 then vs.toArray[0] else .tuple vs.toArray) w:=by
  rw[E2,aaw,aa4,Sem.run_map,h2];rfl
 refine⟨_,?_,h3⟩;obtain⟨k1,_⟩:=SV.aP _ h1
 match l,vs,k1,h1 with
 | [],[],_,h1=>simp[bz,SV.den,SV.ap]
 | [x],[y],_,h1 =>
  simp only[SV.ap] at h1;cases hx:x.den N with
  |none=>simp[hx] at h1
  |some z=>simp[hx] at h1;subst h1;simp[bz,hx]
 |x::x'::l,y::y'::vs,_,h1=>simp[bz,SV.den,h1]
section
variable {E:eR} {T:aQ}
theorem X.fin (hT:aq E.P T){fn:aaj}{R:aao->World->Prop}(hQ:E.Q=aaF E.P fn R){s:St}{l:List SV}(hr:oG T s fn.results.toList=some l)
  (h:∀(N:af) (w:World) (v:Value),E.N0.le N->Sat E.toEnv N s.rg w->(bz l).den N=some v->R (.returned v) w):X E [] s:=by
 intro N a w hN hf hS;obtain⟨v,h1,h2⟩:=lk rfl hT hf hS hr;show E.Q .normal a w;rw[hQ];exact⟨hf.defers,v,h2,h N w v hN hS h1⟩
theorem X.ret (hT:aq E.P T){fn:aaj}{R:aao->World->Prop}(hQ:E.Q=aaF E.P fn R){k:List It}{s:St}{l:List SV}(hr:oG T s fn.results.toList=some l)
  (h:∀(N:af) (w:World) (v:Value),E.N0.le N->Sat E.toEnv N s.rg w->(bz l).den N=some v->R (.returned v) w):X E (.fH l::k) s:=by
 intro N a w hN hf hS;obtain⟨v,h1,h2⟩:=lk rfl hT hf hS hr;refine jU k ?_;rw[hQ];exact⟨hf.defers,v,h2,h N w v hN hS h1⟩
theorem X.cond {c:aah}{x y:Code}{k:List It}{s:St}{b:SB}(hc:ev s.fr c=some (.bool b))(ht:b.T->X E (.code x::k) s)(hf:b.F->X E (.code y::k) s) :
  X E (.code (.cond c x y)::k) s:=by
 intro N a w hN de hS;have:=cX de hc;simp only[SV.den,aA] at this;show _->Code.wp _ _ _ _ _;intro dH;simp only[iu,aak] at dH;refine wp_cond (t:=b.den) this.symm ?_;cases hb:b.den with
 |true=>exact ht (b.TF.1.1 hb) N a w hN de hS dH.1
 |false=>exact hf (b.TF.2.1 hb) N a w hN de hS dH.2
theorem X.oper {all:Array aac}{i:Nat}{rest:List Nat}{k:List It}{s:St}{o:aac}(ho:nth all.toList i=some o)(hg:o.guard=none)
  (h:∀(N:af) (a:Act) (w:World),E.N0.le N->aX E.n N s.fr a->Sat E.toEnv N s.rg w->o.wp E.P a w (fun a' w'=>ms E.P E.B (.ops all rest::k) E.Q .normal a' w') (ms E.P E.B k E.Q)) :
  X E (.ops all (i::rest)::k) s:=by
 intro N a w hN de hS;show wpOps _ _ _ _ _ _;have kR:all[i]?=some o:=by rw[bT] at ho;simpa using ho
 simp only[wpOps,kR,aai,hg,if_true];exact .inl (h N a w hN de hS)
theorem X.value {all:Array aac}{i:Nat}{rest:List Nat}{k:List It}{s:St}{o:aac}(ho:nth all.toList i=some o)(hg:o.guard=none)(r:SV){f:Fr}(hp:eK E.n s.fr o.dst (.val r)=some f)
  (h:∀(N:af) (a:Act) (w:World),E.N0.le N->aX E.n N s.fr a->Sat E.toEnv N s.rg w->∃x,r.den N=some x/\(execOp a.eval o).run E.P w=.ok (.value x) w)
  (hk:X E (.ops all rest::k) ⟨f,s.rg⟩):X E (.ops all (i::rest)::k) s:=by
 refine X.oper ho hg fun N a w hN de hS=>?_
 obtain⟨x,h1,h2⟩:=h N a w hN de hS;unfold Oper.wp;rw[h2];exact hk N _ w hN (cu de h1 hp) hS
def tU (f:Fr):List aah->Option (List SV)
 | []=>some []
 |x::r=>match ev f x,tU f r with
  |some v,some l=>some (v::l)
  |_,_=>none
theorem lW {n:Nat}{N:af}{f:Fr}{a:Act}(h:aX n N f a):∀(xs:List aah) {l:List SV},tU f xs=some l->SV.ap N l=some (xs.map a.eval)
 | [],l,hl=>by simp only[tU,aA] at hl;subst hl;rfl
 |x::xs,l,hl=>by
  simp only[tU] at hl
  split at hl
  ·rename_i v q hv hq
   simp only[aA] at hl;subst hl;simp[SV.ap,cX h hv,lW h xs hq]
  ·cases hl
def Goes (E:eR)(N:af)(k:List It)(f:Fr)(d:Option Nat)(v:Value)(w':World):Prop :=
 ∃(E':eR) (N':af) (r:SV) (cN:List Rg) (f':Fr),E'.P=E.P/\E'.n=E.n/\E'.Q=E.Q/\E'.B=E.B/\N.le N'/\E'.N0.le N'/\Sat E'.toEnv N' cN w'/\r.den N'=some v/\eK E.n f d (.val r)=some f'/\X E' k ⟨f',cN⟩
theorem X.call {all:Array aac}{i:Nat}{rest:List Nat}{k:List It}{s:St}{o:aac}{g:aaE}{xs:Array aah}{ts:Array TypeId}{l:List SV}(ho:nth all.toList i=some o)(hg:o.guard=none)
  (cC:o.op=.call { callee:=.value (.func g),args:=xs,argTypes:=ts }) (hl:tU s.fr xs.toList=some l) (hb:∀args w,(callFunc g args).run E.P w=.ok (.enter g args) w)
  (h:∀(N:af) (w:World) (args:List Value),E.N0.le N->Sat E.toEnv N s.rg w->SV.ap N l=some args ->
   Calls E.P g args.toArray w fun e w'=>∃v,e=.returned v/\Goes E N (.ops all rest::k) s.fr o.dst v w'):X E (.ops all (i::rest)::k) s:=by
 refine X.oper ho hg fun N a w hN de hS=>?_
 have fD:=lW de _ hl;have hc:=h N w _ hN hS fD;have a6:(execOp a.eval o).run E.P w=.ok (.enter g (xs.toList.map a.eval).toArray) w:=by
  simp only[execOp,cC,resolve,aaW,Deferred.ofValue,aaw,aaz,aaq,invoke];rw[hb]
  congr 2
  apply aaI;simp
 unfold Oper.wp;rw[a6];refine Calls.mono hc fun e w' ⟨v,he,E',N',r,cN,f',h1,h2,h3,hB,h4,h5,h6,h7,h8,h9⟩=>?_
 subst he;have:=h9 N' (a.put o.dst v) w' h5 (by rw[h2];exact cu (de.mono h4) h7 h8) h6;rw[h1,h3,hB] at this;exact this
theorem X.back {q:Act->World->Prop}{k:List It}{s:St}(h:∀(N:af) (a:Act) (w:World),E.N0.le N->aX E.n N s.fr a->Sat E.toEnv N s.rg w->q a w):X E (.lp q::k) s:=h
theorem least (p:Nat->Prop)(h:∃n,p n):∃n,p n/\∀m,p m->n<=m:=by
 obtain⟨n,hn⟩:=h
 induction n using Nat.strongRecOn with
 |_ n ih =>
  by_cases hm:∃m,m<n/\p m
  ·obtain⟨m,h1,h2⟩:=hm;exact ih m h1 h2
  ·exact⟨n,hn,fun m h=>Nat.le_of_not_lt fun aF=>hm ⟨m,aF,h⟩⟩
theorem wp_loop_ghost {P:aad}{Q:Exit->Act->World->Prop}{a:Act}{w:World}{c:Code}{ι:Type}(I:ι->Act->World->Prop)(μ:ι->Nat)(i0:ι)(h0:I i0 a w)
  (round:∀i a w,I i a w->c.wp P (Exit.then (fun a' w'=>∃i',μ i'<μ i/\I i' a' w') Q) a w):(Code.loop c).wp P Q a w:=by
 classical
 refine wp_loop (fun a w=>∃i,I i a w) (fun a w=>if h:∃n,∃i,I i a w/\μ i=n then Classical.choose (least _ h) else 0) ⟨i0,h0⟩ fun a w ⟨i,hi⟩=>?_
 have hex:∃n,∃i,I i a w/\μ i=n:=⟨_,i,hi,rfl⟩;obtain⟨⟨j,hj,hμ⟩,_⟩:=Classical.choose_spec (least _ hex);refine wp_mono (round j a w hj) fun e a' w' hq=>?_
 cases e<;>simp only[Exit.then] at hq ⊢<;>try exact hq
 obtain⟨i',aF,ni⟩:=hq;refine⟨⟨i',ni⟩,?_⟩;have Yk:∃n,∃i,I i a' w'/\μ i=n:=⟨_,i',ni,rfl⟩;rw[dif_pos Yk,dif_pos hex];rw[<-hμ];exact Nat.lt_of_le_of_lt ((Classical.choose_spec (least _ Yk)).2 _ ⟨i',ni,rfl⟩) aF
def At (E:eR)(s:St)(a:Act)(w:World):Prop:=∃N,E.N0.le N/\aX E.n N s.fr a/\Sat E.toEnv N s.rg w
theorem X.loop {ι:Type}(En:ι->eR)(S:ι->St)(μ:ι->Nat){c:Code}{k:List It}{s:St}(hE:∀i,(En i).P=E.P/\(En i).n=E.n/\(En i).Q=E.Q/\(En i).B=E.B)
  (h0:∀(N:af) (a:Act) (w:World),E.N0.le N->aX E.n N s.fr a->Sat E.toEnv N s.rg w->∃i,At (En i) (S i) a w)
  (round:∀i (q:Act->World->Prop),(∀i' a w,μ i'<μ i->At (En i') (S i') a w->q a w)->X (En i) (.code c::.lp q::k) (S i)):X E (.code (.loop c)::k) s:=by
 intro N a w hN de hS;show _->Code.wp _ _ _ _ _;intro dH;obtain⟨i0,h0⟩:=h0 N a w hN de hS;refine wp_loop_ghost (fun i a w=>At (En i) (S i) a w) μ i0 h0 fun i a w ⟨N',h1,h2,h3⟩=>?_
 have:=round i (fun a' w'=>∃i',μ i'<μ i/\At (En i') (S i') a' w') (fun i' a w aF h=>⟨i',aF,h⟩) N' a w h1 h2 h3;obtain⟨e1,e2,e3,e4⟩:=hE i;rw[e1,e3,e4] at this;exact this dH
end
def bq (N:af)(rg:List Rg)(k o:Nat):Prop :=
 ∃(r:Nat) (g:Rg) (p:aS),rg[r]?=some g/\N[r]?=some p/\g.own=true/\k=p.b/\p.o<=o/\o<p.o+p.x
open Classical in
noncomputable def ab (N:af)(rg:List Rg)(w:World):Nat->Nat->Option Value :=
 fun k o=>if bq N rg k o then none else w.cell? ⟨k,o,none⟩
@[reducible] def aK (P:aad) (fn:aaj) (R:aao->World->Prop) (W:World) (O:Nat->Nat->Prop) (im:Nat->Nat->Option Value) (D:Nat->Nat->Prop) (Rr:World->Prop) (N:af) (B:aH):eR :=
 { P,n:=fn.ntmps,Q:=aaF P fn R,W,O,im,D,R:=Rr,N0:=N,B }
@[reducible] noncomputable def Jf (P:aad) (fn:aaj) (R:aao->World->Prop) (w:World) (N:af) (rg:List Rg) (B:aH):eR :=
 aK P fn R w (bq N rg) (ab N rg w) (fun _ _=>False) (fun _=>True) N B
theorem Sat.Jf {P:aad}{fn:aaj}{R:aao->World->Prop}{w:World}{N:af}{rg:List Rg}{B:aH}(len:N.length=rg.length)(lt:∀(r:Nat) (p:aS),N[r]?=some p->p.b<w.heap.size)
  (cell:∀(r:Nat) (g:Rg) (p:aS),rg[r]?=some g->N[r]?=some p->∀(j:Nat) (c:SV),g.cells[j]?=some c->∃v,c.den N=some v/\w.cell? ⟨p.b,p.o+j,none⟩=some v)
  (ext:∀(r:Nat) (g:Rg) (p:aS),rg[r]?=some g->N[r]?=some p->g.own=true->g.cells.length<=p.x)
  (room:∀(r:Nat) (g:Rg) (p:aS),rg[r]?=some g->N[r]?=some p->g.own=true->∀j,j<p.x->(w.cell? ⟨p.b,p.o+j,none⟩).isSome=true/\w.frozen? ⟨p.b,p.o+j,none⟩=false)
  (eT:∀(r r':Nat) (g g':Rg) (p p':aS),rg[r]?=some g->N[r]?=some p->rg[r']?=some g'->N[r']?=some p'->g.own=true->r≠r' ->
   ∀j,j<g'.wid p'->p'.b=p.b->p'.o+j<p.o\/p.o+p.x<=p'.o+j)
  (CI:∀(r:Nat) (g:Rg),rg[r]?=some g->g.ob=none):Sat (bU.Jf P fn R w N rg B).toEnv N rg w:=by
 refine⟨len,lt,cell,ext,room,eT,fun r g p ob hg _ ho=>?_,fun r r' g g' p p' hg _ _ _ ho=>?_,fun k o v h=>?_,fun r g p hg hp ho j hj=>?_,fun _ _ _ _ _ _ _ _ h=>h,fun _ _ h=>h.elim,fun _ _ _ _ _=>trivial,trivial,aW.refl _ _,fun r g p hg hp ho=>.inr fun j hj=>?_⟩
 ·rw[CI r g hg] at ho;cases ho
 ·rw[CI r g hg] at ho;cases ho
 ·simp only[ab] at h
  split at h
  ·cases h
  ·exact h
 ·simp only[ab]
  rw[if_pos ⟨r,g,p,hg,hp,ho,rfl,by omega,by omega⟩]
 ·exact⟨r,g,p,hg,hp,ho,rfl,by omega,by omega⟩
theorem Sat.bp {P:aad}{fn:aaj}{R:aao->World->Prop}{w:World}{B:aH}:Sat (bU.Jf P fn R w [] [] B).toEnv [] [] w :=
 Sat.Jf rfl (by simp) (by simp) (by simp) (by simp) (by simp) (by simp)
theorem Sat.w_ {P:aad}{fn:aaj}{R:aao->World->Prop}{w:World}{B:aH}{b o:Nat}{cs:List SV}(ow:Bool)(lt:b<w.heap.size)
  (cell:∀(j:Nat) (c:SV),cs[j]?=some c->∃v,c.den [⟨b,o,cs.length⟩]=some v/\w.cell? ⟨b,o+j,none⟩=some v)
  (free:ow=true->∀j,j<cs.length->w.frozen? ⟨b,o+j,none⟩=false):Sat (bU.Jf P fn R w [⟨b,o,cs.length⟩] [⟨ow,cs,none⟩] B).toEnv [⟨b,o,cs.length⟩] [⟨ow,cs,none⟩] w:=by
 have one:∀{r:Nat} {g:Rg} {p:aS},([⟨ow,cs,none⟩]:List Rg)[r]?=some g->([⟨b,o,cs.length⟩]:af)[r]?=some p->r=0/\g=⟨ow,cs,none⟩/\p=⟨b,o,cs.length⟩:=by
  intro r g p hg hp;cases r with
  |zero=>simp at hg hp;exact⟨rfl,hg.symm,hp.symm⟩
  |succ r=>simp at hg
 refine Sat.Jf rfl (fun r p hp=>?_) (fun r g p hg hp=>?_) (fun r g p hg hp ho=>?_) (fun r g p hg hp ho=>?_) (fun r r' g g' p p' hg hp eN lC _ bH=>?_) (fun r g hg=>?_)
 ·cases r with
  |zero=>simp at hp;subst hp;exact lt
  |succ r=>simp at hp
 ·obtain⟨rfl,rfl,rfl⟩:=one hg hp;exact cell
 ·obtain⟨rfl,rfl,rfl⟩:=one hg hp;exact aax _
 ·obtain⟨rfl,rfl,rfl⟩:=one hg hp
  intro j hj;obtain⟨c,hc⟩:∃c,cs[j]?=some c:=⟨_,aav hj⟩;obtain⟨v,_,hv⟩:=cell j c hc;exact⟨by simp only;rw[hv];rfl,free ho j hj⟩
 ·obtain⟨rfl,_,_⟩:=one hg hp
  obtain⟨rfl,_,_⟩:=one eN lC;exact absurd rfl bH
 ·cases r with
  |zero=>simp at hg;subst hg;rfl
  |succ r=>simp at hg
theorem aW.ZW {w w':World}{b o x:Nat}{cs:List SV}(h:aW (bq [⟨b,o,x⟩] [⟨false,cs,none⟩]) w w'):aW (fun _ _=>False) w w':=h.mono (fun k i _ hn=>by
 obtain⟨r,g,p,hg,hp,ho,_⟩:=hn;cases r with
 |zero=>simp at hg;subst hg;cases ho
 |succ r=>simp at hg)
theorem aW.Xb {w w':World}{b o x:Nat}{cs:List SV}(h:aW (bq [⟨b,o,x⟩] [⟨true,cs,none⟩]) w w'):aW (fun k i=>k=b/\o<=i/\i<o+x) w w':=h.mono (fun k i _ hn=>by
 obtain⟨r,g,p,hg,hp,ho,h1,h2,h3⟩:=hn;cases r with
 |zero=>simp at hg hp;subst hg;subst hp;exact⟨h1,h2,h3⟩
 |succ r=>simp at hg)
def aD (B:aH)(o:Option Code):Bool :=
 match o with
 |some c=>iu B c
 |none=>true
theorem X.begin {P:aad}{f:aaE}{fn:aaj}{c:Code}{args:Array Value}{w:World}{R:aao->World->Prop}{N:af}{rg:List Rg}{ss:List SV}(hf:P.funcs[f]?=some fn)(hb:fn.body=some c){B:aH}(dH:aD B fn.body=true)
  (hle:aag args.size fn.ntmps=true) (ha:SV.ap N ss=some args.toList) (hS:Sat (Jf P fn R w N rg B).toEnv N rg w) (h:X (Jf P fn R w N rg B) [.code c] ⟨kU ss 0,rg⟩):Calls P f args w R :=
 X.enter (Jf P fn R w N rg B) hf hb rfl rfl rfl (by rw[hb] at dH;exact dH) (aan hle) ha hS h
theorem X.done {P:aad}{fn:aaj}{R:aao->World->Prop}{W:World}{O:Nat->Nat->Prop}{im:Nat->Nat->Option Value}{D:Nat->Nat->Prop}{Rr:World->Prop}{N0:af}{B:aH}{T:aQ}(hT:aq P T){k:List It}{s:St}{l:List SV}(hr:oG T s fn.results.toList=some l)
  (h:∀(N:af) (w:World) (v:Value),N0.le N->Sat (aK P fn R W O im D Rr N0 B).toEnv N s.rg w->(bz l).den N=some v->R (.returned v) w):X (aK P fn R W O im D Rr N0 B) (.fH l::k) s:=X.ret hT rfl hr h
theorem X.over {P:aad}{fn:aaj}{R:aao->World->Prop}{W:World}{O:Nat->Nat->Prop}{im:Nat->Nat->Option Value}{D:Nat->Nat->Prop}{Rr:World->Prop}{N0:af}{B:aH}{T:aQ}(hT:aq P T){s:St}{l:List SV}(hr:oG T s fn.results.toList=some l)
  (h:∀(N:af) (w:World) (v:Value),N0.le N->Sat (aK P fn R W O im D Rr N0 B).toEnv N s.rg w->(bz l).den N=some v->R (.returned v) w):X (aK P fn R W O im D Rr N0 B) [] s:=X.fin hT rfl hr h
section
variable {E:eR} {T:aQ} {all:Array aac} {i:Nat} {rest:List Nat} {k:List It} {s:St} {o:aac} {f:Fr}
end
theorem Sat.at {E:Env}{N:af}{rg:List Rg}{w:World}(h:Sat E N rg w){r:Nat}{p:aS}(hp:N[r]?=some p){j:Nat}{c:SV}{g:Rg}(hg:rg[r]?=some g)(hj:g.cells[j]?=some c){v:Value}(hv:c.den N=some v):w.cell? ⟨p.b,p.o+j,none⟩=some v:=by
 obtain⟨u,h1,h2⟩:=h.cell r g p hg hp j c hj;rw[hv] at h1;cases h1;exact h2
theorem aW.none {w w':World}(h:aW (bq [] []) w w'):aW (fun _ _=>False) w w':=h.mono (fun k o _ hn=>by obtain⟨r,g,p,hg,_⟩:=hn;simp at hg)
abbrev Mem:=Nat->Nat->Option Value
structure Ext (m m':Mem) (w w':World):Prop where
 le:∀k o v,m k o=some v->m' k o=some v
 sub:∀k o v,m' k o=some v->w'.cell? ⟨k,o,none⟩=some v
 new:∀k o v,m' k o=some v->m k o=some v\/w.heap.size<=k
theorem jh {O:Nat->Nat->Prop}{w w':World}(h:aW O w w'){k:Nat}(o:Nat)(hc:(w.cell? ⟨k,o,none⟩).isSome=true):w'.frozen? ⟨k,o,none⟩=w.frozen? ⟨k,o,none⟩:=by
 cases hh:w.heap[k]? with
 |none=>simp[aap,hh] at hc
 |some x =>
  cases x with
  |cells c e f =>
   obtain⟨c',h1,_,_⟩:=h.cells k c e f hh;simp[abj,hh,h1]
  |_=>simp[aap,hh] at hc
theorem bw {O:Nat->Nat->Prop}{w w':World}(h:aW O w w'){k o:Nat}{v:Value}(ho:¬O k o)(hc:w.cell? ⟨k,o,none⟩=some v):w'.cell? ⟨k,o,none⟩=some v:=by
 cases hh:w.heap[k]? with
 |none=>simp[aap,hh] at hc
 |some x =>
  cases x with
  |cells c e f =>
   obtain⟨c',h1,_,h3⟩:=h.cells k c e f hh;simp only[aap,hh] at hc;simp only[aap,h1];have:=h3 o ho;simp at hc ⊢;rw[this];exact hc
  |_=>simp[aap,hh] at hc
theorem Sat.after {E:Env}{N:af}{rg cN:List Rg}{w w':World}{O':Nat->Nat->Prop}{m':Mem}{D':Nat->Nat->Prop}{R':World->Prop}(h:Sat E N rg w)(hc:aW O' w w')
  (hO:∀k o,k<w.heap.size->O' k o->bq N rg k o\/(E.D k o/\(E.W.heap.size<=k\/E.O k o))) (hm:Ext E.im m' w w') (hD:∀k o,D' k o->(E.D k o\/w.heap.size<=k)/\eG w' k o) (hl:Loc D' R') (hR:R' w') (hlen:cN.length=rg.length)
  (kF:∀(r:Nat) (g g':Rg) (p:aS),rg[r]?=some g->cN[r]?=some g'->N[r]?=some p->g'.own=g.own/\g'.ob=g.ob/\(g.own=false->g'.cells.length=g.cells.length)/\(g.own=true->g'.cells.length<=p.x) /\
   ((g'=g/\∀j,j<g.cells.length->¬O' p.b (p.o+j))\/∀(j:Nat) (c:SV),g'.cells[j]?=some c->∃v,c.den N=some v/\w'.cell? ⟨p.b,p.o+j,none⟩=some v)) :
  Sat { E with im:=m',D:=D',R:=R' } N cN w':=by
 have c_:∀(r:Nat) (g':Rg),cN[r]?=some g'->∃g,rg[r]?=some g:=fun r g' hg=>by
  have:r<rg.length:=by rw[<-hlen];exact(aas.1 hg).1
  exact⟨_,aav this⟩
 have there:∀k o,(w.cell? ⟨k,o,none⟩).isSome=true->(w'.cell? ⟨k,o,none⟩).isSome=true:=by
  intro k o hs;cases hh:w.heap[k]? with
  |none=>simp[aap,hh] at hs
  |some x =>
   cases x with
   |cells c e f =>
    obtain⟨c',h1,h2,_⟩:=hc.cells k c e f hh;simp only[aap,hh] at hs;simp only[aap,h1];simp at hs ⊢;omega
   |_=>simp[aap,hh] at hs
 refine⟨by rw[hlen];exact h.len,fun r p hp=>aaC (h.lt r p hp) hc.size,?_,?_,?_,?_,?_,?_,hm.sub,?_,?_,fun k o hk=>(hD k o hk).2,hl,hR,?_,?_⟩
 ·intro r g' p hg hp j c hj
  obtain⟨g,kD⟩:=c_ r g' hg;obtain⟨_,_,_,_,h3|h3⟩:=kF r g g' p kD hg hp
  ·obtain⟨rfl,kE⟩:=h3
   obtain⟨v,h1,h2⟩:=h.cell r g' p kD hp j c hj;exact⟨v,h1,bw hc (kE j (aas.1 hj).1) h2⟩
  ·exact h3 j c hj
 ·intro r g' p hg hp ho
  obtain⟨g,kD⟩:=c_ r g' hg;obtain⟨h1,_,_,h4,_⟩:=kF r g g' p kD hg hp;exact h4 (by rw[<-h1];exact ho)
 ·intro r g' p hg hp ho j hj
  obtain⟨g,kD⟩:=c_ r g' hg;obtain⟨h1,_⟩:=kF r g g' p kD hg hp;obtain⟨k1,k2⟩:=h.room r g p kD hp (by rw[<-h1];exact ho) j hj;exact⟨there _ _ k1,by rw[jh hc _ k1];exact k2⟩
 ·intro r r' g' Ks p p' hg hp eN lC ho bH j hj hb
  obtain⟨g,kD⟩:=c_ r g' hg;obtain⟨g2,KN⟩:=c_ r' Ks eN;obtain⟨h1,_⟩:=kF r g g' p kD hg hp;obtain⟨k1,_,k2,_⟩:=kF r' g2 Ks p' KN eN lC;refine h.eT r r' g g2 p p' kD hp KN lC (by rw[<-h1];exact ho) bH j ?_ hb;unfold Rg.wid at hj ⊢;rw[k1] at hj;cases mJ:g2.own with
  |true=>rw[mJ] at hj;exact hj
  |false=>rw[mJ] at hj;simp only[cond_false] at hj ⊢;rw[<-k2 mJ];exact hj
 ·intro r g' p ob hg hp ho
  obtain⟨g,kD⟩:=c_ r g' hg;obtain⟨_,h1,_⟩:=kF r g g' p kD hg hp;obtain⟨⟨o,k1,k2⟩,k3⟩:=h.obj r g p ob kD hp (by rw[<-h1];exact ho);have aF:=h.lt r p hp;have noc:∀off,(w.cell? ⟨p.b,off,none⟩).isSome=true->False:=fun off q1=>by
   unfold aap at q1;simp only[k2] at q1;cases ob<;>simp only[Ob.den] at k1<;>split at k1<;>first|(cases k1;done)|(cases k1;simp at q1)
  refine⟨⟨o,k1,?_⟩,k3.1,fun off hd=>(hD _ _ hd).1.elim (k3.2 off) (fun h=>by omega)⟩;rw[hc.same p.b aF (fun off ho=>?_)]
  ·exact k2
  ·rcases hO p.b off aF ho with ⟨r',g',p',eN,lC,how,e1,PP,PM⟩|⟨hd,_⟩
   ·obtain⟨q1,_⟩:=h.room r' g' p' eN lC how (off-p'.o) (by omega)
    rw[<-e1] at q1;exact noc _ q1
   ·exact k3.2 _ hd
 ·intro r r' g' Ks p p' hg hp eN lC ho kR bH
  obtain⟨g,kD⟩:=c_ r g' hg;obtain⟨g2,KN⟩:=c_ r' Ks eN;obtain⟨_,h1,_⟩:=kF r g g' p kD hg hp;obtain⟨_,k1,_⟩:=kF r' g2 Ks p' KN eN lC;exact h.fG r r' g g2 p p' kD hp KN lC (by rw[<-h1];exact ho) (by rw[<-k1];exact kR) bH
 ·intro r g' p hg hp ho j hj
  obtain⟨g,kD⟩:=c_ r g' hg;obtain⟨h1,_⟩:=kF r g g' p kD hg hp;have:=h.lR r g p kD hp (by rw[<-h1];exact ho) j hj;show m' p.b (p.o+j)=none;cases hmv:m' p.b (p.o+j) with
  |none=>rfl
  |some v =>
   rcases hm.new _ _ _ hmv with h5|h5
   ·rw[this] at h5;cases h5
   ·have:=h.lt r p hp;omega
 ·intro r g' p hg hp ho j hj hd
  obtain⟨g,kD⟩:=c_ r g' hg;obtain⟨h1,_⟩:=kF r g g' p kD hg hp;rcases (hD _ _ hd).1 with hd|hd
  ·exact h.dd r g p kD hp (by rw[<-h1];exact ho) j hj hd
  ·have:=h.lt r p hp;omega
 ·-- what has MA since the call aft
  have U5:∀k o,k<E.W.heap.size->O' k o->E.O k o:=by
   intro k o hk ho;rcases hO k o (aaC hk h.aM.size) ho with ⟨r,g,p,hg,hp,how,rfl,PP,PM⟩|⟨_,hd⟩
   ·rcases h.dG r g p hg hp how with hf|hf
    ·omega
    ·have:=hf (o-p.o) (by omega)
     rwa [show p.o+(o-p.o)=o by omega] at this
   ·rcases hd with hd|hd
    ·omega
    ·exact hd
  exact h.aM.trans hc U5
 ·intro r g' p hg hp ho
  obtain⟨g,kD⟩:=c_ r g' hg;obtain⟨h1,_⟩:=kF r g g' p kD hg hp;exact h.dG r g p kD hp (by rw[<-h1];exact ho)
theorem zg {w w':World}(hc:aW (fun _ _=>False) w w'){k:Nat}(hk:k<w.heap.size)(o:Nat):w'.cell? ⟨k,o,none⟩=w.cell? ⟨k,o,none⟩/\w'.frozen? ⟨k,o,none⟩=w.frozen? ⟨k,o,none⟩:=by
 have e:=hc.same k hk (fun _ h=>h);exact⟨by unfold aap;simp only[e],by unfold abj;simp only[e]⟩
theorem eG.none {w w':World}(hc:aW (fun _ _=>False) w w'){k o:Nat}(h:eG w k o):eG w' k o :=
 h.of (fun hs=>by rw[(zg hc h.lt o).1];exact hs) (gW (hc.same k h.lt (fun _ h=>h)))
theorem Sat.bu {E:Env}{N:af}{rg:List Rg}{w w':World}(h:Sat E N rg w)(hc:aW (fun _ _=>False) w w'):Sat E N rg w':=by
 have:=h.after (cN:=rg) (m':=E.im) (D':=E.D) (R':=E.R) hc (fun _ _ _ ho=>ho.elim) ⟨fun _ _ _ h=>h,fun k o v hv=>bw hc (by simp) (h.cK k o v hv),fun _ _ _ h=>.inl h⟩
  (fun k o hk=>⟨.inl hk,eG.none hc (h.mj k o hk)⟩) h.loc
  (h.loc w w' (fun k o hk=>⟨zg hc (h.mj k o hk).lt o,gW (hc.same k (h.mj k o hk).lt (fun _ h=>h))⟩) hc.size h.fH) rfl (fun r g g' p hg eN hp=>by
   rw[hg] at eN;cases eN;exact⟨rfl,rfl,fun _=>rfl,fun ho=>h.ext r g p hg hp ho,.inl ⟨rfl,fun _ _ ho=>ho⟩⟩)
 exact this
section
variable {E:eR} {N:af} {k:List It} {s:St} {d:Option Nat} {v:Value} {w w':World}
theorem Goes.same (hN:E.N0.le N)(h:Sat E.toEnv N s.rg w)(hc:aW (fun _ _=>False) w w'){r:SV}(hr:r.den N=some v){f':Fr}(hp:eK E.n s.fr d (.val r)=some f')(hx:X E k ⟨f',s.rg⟩):Goes E N k s.fr d v w' :=
 ⟨E,N,r,s.rg,f',rfl,rfl,rfl,rfl,af.le.refl N,hN,h.bu hc,hr,hp,hx⟩
end
theorem X.J3 {E:eR}{all:Array aac}{i:Nat}{rest:List Nat}{k:List It}{s:St}{o:aac}{g:aaE}{xs:Array aah}{ts:Array TypeId}{l:List SV}(r:SV){f':Fr}(ho:nth all.toList i=some o)(hg:o.guard=none)
  (cC:o.op=.call { callee:=.value (.func g),args:=xs,argTypes:=ts }) (hl:tU s.fr xs.toList=some l) (hb:∀args w,(callFunc g args).run E.P w=.ok (.enter g args) w) (hp:eK E.n s.fr o.dst (.val r)=some f')
  (h:∀(N:af) (w:World) (args:List Value),E.N0.le N->Sat E.toEnv N s.rg w->SV.ap N l=some args->Calls E.P g args.toArray w fun e w'=>∃v,e=.returned v/\r.den N=some v/\aW (fun _ _=>False) w w')
  (hx:X E (.ops all rest::k) ⟨f',s.rg⟩):X E (.ops all (i::rest)::k) s :=
 X.call ho hg cC hl hb fun N w args hN hS ha=>(h N w args hN hS ha).mono fun _ _ ⟨v,he,hr,hc⟩=>⟨v,he,Goes.same hN hS hc hr hp hx⟩
def bd (m:Nat):SV->Bool
 | .int _ _=>true
 | .bool _=>true
 | .own r _=>aal r m
 | .osl r _ _ _ _=>aal r m
 | .mp r=>aal r m
 | .ch r=>aal r m
 | .ext _ _ _=>true
 | .sl _ _ _ _=>true
 | .ao _ _ _=>true
 | .raw _=>true
 | .big _=>true
 |_=>false
theorem rq {N:af}{m:Nat}{s:SV}{x:Value}(hb:bd m s=true)(h:s.den N=some x):s.den (N.take m)=some x:=by
 have key:∀r,aal r m=true->(N.take m)[r]?=N[r]?:=fun r hb=>by
  have hr:r<m:=aan hb;rw[aaR,if_pos hr]
 cases s<;>simp only[bd,Bool.false_eq_true] at hb<;>first|exact h|(simp only[SV.den] at h ⊢;rw[key _ hb];exact h)
def OA (N N':af)(m:Nat)(c_ new:SV):Prop:=(new=c_/\bd m new=true)\/∃x,c_.den N=some x/\new.den N'=some x
def ia (N N':af)(m:Nat)(f:Fr):Fr->Prop
 | []=>True
 |(t,.val v')::r=>(∃v,look f t=.val v/\OA N N' m v v')/\ia N N' m f r
 |(_,.dead)::r=>ia N N' m f r
 |(_,.xJ _ _ _)::_=>False
theorem Dm {N N':af}{m:Nat}{f r:Fr}{t:Nat}{v:SV}(h1:bU.look f t=.val v)(h2:bd m v=true)(h:ia N N' m f r):ia N N' m f ((t,.val v)::r):=⟨⟨_,h1,.inl ⟨rfl,h2⟩⟩,h⟩
theorem mi {N N':af}{m:Nat}{f r:Fr}{t:Nat}{v v':SV}{x:Value}(h1:bU.look f t=.val v)(h2:v.den N=some x)(h3:v'.den N'=some x)(h:ia N N' m f r):ia N N' m f ((t,.val v')::r):=⟨⟨_,h1,.inr ⟨_,h2,h3⟩⟩,h⟩
theorem ia.look {N N':af}{m:Nat}{f:Fr}:∀{f':Fr},ia N N' m f f'->∀t,look f' t=.dead\/∃v v',look f' t=.val v'/\bU.look f t=.val v/\OA N N' m v v'
 | [],_,t=>.inl rfl
 |(k,.val v')::r,⟨⟨v,h1,h2⟩,h3⟩,t=>by
  simp only[bU.look]
  by_cases hk:k=t
  ·subst hk;simp only[abb,cond_true];exact .inr ⟨v,v',rfl,h1,h2⟩
  ·simp only[gS hk,cond_false];exact ia.look h3 t
 |(k,.dead)::r,h,t=>by
  simp only[bU.look]
  by_cases hk:k=t
  ·subst hk;simp
  ·simp only[gS hk,cond_false];exact ia.look (f':=r) h t
 |(k,.xJ _ _ _)::r,h,t=>h.elim
theorem aX.sub {n m:Nat}{N:af}{f f':Fr}{a:Act}(h:aX n N f a)(hs:ia N (N.take m) m f f'):aX n (N.take m) f' a:=by
 refine⟨h.size,h.defers,fun t=>?_⟩;rcases hs.look t with hd|⟨v,v',h1,h2,h3⟩
 ·rw[hd];trivial
 ·have dm:=h.ok t
  rw[h2] at dm;obtain⟨x,k1,k2⟩:=dm;rw[h1];rcases h3 with ⟨rfl,hb⟩|⟨y,q1,q2⟩
  ·exact⟨x,rq hb k1,k2⟩
  ·rw[q1] at k1;cases k1;exact⟨x,q2,k2⟩
def aR (N N':af)(m:Nat):List SV->List SV->Prop
 | [],[]=>True
 |c::cs,c'::lz=>OA N N' m c c'/\aR N N' m cs lz
 |_::_,[]=>True
 | [],_::_=>False
theorem aR.get {N N':af}{m:Nat}:∀{cs lz:List SV},aR N N' m cs lz->lz.length<=cs.length/\∀(j:Nat) (c':SV),lz[j]?=some c'->∃c,cs[j]?=some c/\OA N N' m c c'
 | [],[],_=>⟨aax _,fun j c' h=>by simp at h⟩
 |c::cs,c'::lz,⟨h1,h2⟩=>by
  obtain⟨k1,k2⟩:=aR.get h2;refine⟨by simp;exact k1,fun j d hj=>?_⟩;cases j with
  |zero=>simp at hj;subst hj;exact⟨c,rfl,h1⟩
  |succ j=>simpa using k2 j d (by simpa using hj)
 | [],_::_,h=>h.elim
 |_::_,[],_=>⟨by simp,fun j c' h=>by simp at h⟩
theorem aR.refl {N N':af}{m:Nat}:∀{cs:List SV},cs.all (bd m)=true->aR N N' m cs cs
 | [],_=>trivial
 |c::cs,h=>by
  simp only[List.all_cons,aak] at h;exact⟨.inl ⟨rfl,h.1⟩,aR.refl h.2⟩
def nh (N N':af)(m:Nat):List Rg->List Rg->Prop
 |_,[]=>True
 |g::r,g'::r'=>(g'.own=true->g.own=true)/\aR N N' m g.cells g'.cells/\g'.ob=none/\nh N N' m r r'
 | [],_::_=>False
theorem nh.get {N N':af}{m:Nat}:∀{rg cN:List Rg},nh N N' m rg cN->cN.length<=rg.length/\∀(r:Nat) (g':Rg),cN[r]?=some g'->∃g,rg[r]?=some g/\(g'.own=true->g.own=true)/\aR N N' m g.cells g'.cells/\g'.ob=none
 |_,[],_=>⟨by simp,fun r g' h=>by simp at h⟩
 |g::rg,g'::cN,⟨h1,h2,h4,h3⟩=>by
  obtain⟨k1,k2⟩:=nh.get h3;refine⟨by simp;exact k1,fun r x hx=>?_⟩;cases r with
  |zero=>simp at hx;subst hx;exact⟨g,rfl,h1,h2,h4⟩
  |succ r=>simpa using k2 r x (by simpa using hx)
 | [],_::_,h=>h.elim
theorem Sat.sub {E:Env}{N:af}{rg cN:List Rg}{w:World}{m':Mem}{R':World->Prop}(h:Sat E N rg w)(hs:nh N (N.take cN.length) cN.length rg cN)
  (hm:∀k o v,m' k o=some v->E.im k o=some v) (hl:Loc E.D R') (hR:R' w):Sat { E with im:=m',R:=R' } (N.take cN.length) cN w:=by
 obtain⟨hle,ef⟩:=hs.get;have num:∀(r:Nat) (p:aS),(N.take cN.length)[r]?=some p->N[r]?=some p:=fun r p hp=>by
  rw[aaR] at hp
  split at hp
  ·exact hp
  ·cases hp
 refine⟨by have:=h.len;simp;omega,fun r p hp=>h.lt r p (num r p hp),?_,?_,?_,?_,?_,?_,fun k o v hv=>h.cK k o v (hm k o v hv),?_,?_,h.mj,hl,hR,h.aM,?_⟩
 ·intro r g' p hg hp j c' hj
  obtain⟨g,h1,h2,h3,_⟩:=ef r g' hg;obtain⟨c,k1,k2⟩:=h3.get.2 j c' hj;obtain⟨v,q1,q2⟩:=h.cell r g p h1 (num r p hp) j c k1;rcases k2 with ⟨rfl,hb⟩|⟨x,x1,x2⟩
  ·exact⟨v,rq hb q1,q2⟩
  ·rw[x1] at q1;cases q1;exact⟨_,x2,q2⟩
 ·intro r g' p hg hp ho
  obtain⟨g,h1,h2,h3,_⟩:=ef r g' hg;exact abh h3.get.1 (h.ext r g p h1 (num r p hp) (h2 ho))
 ·intro r g' p hg hp ho
  obtain⟨g,h1,h2,h3,_⟩:=ef r g' hg;exact h.room r g p h1 (num r p hp) (h2 ho)
 ·intro r r' g' Ks p p' hg hp eN lC ho bH j hj hb
  obtain⟨g,h1,h2,h3,_⟩:=ef r g' hg;obtain⟨g2,k1,k2,k3,_⟩:=ef r' Ks eN;refine h.eT r r' g g2 p p' h1 (num r p hp) k1 (num r' p' lC) (h2 ho) bH j ?_ hb;unfold Rg.wid at hj ⊢;have k4:=k3.get.1;cases yJ:g2.own with
  |true =>
   have k5:=h.ext r' g2 p' k1 (num r' p' lC) yJ;simp only[cond_true];cases YV:Ks.own with
   |true=>rw[YV] at hj;exact hj
   |false=>rw[YV] at hj;simp only[cond_false] at hj;omega
  |false =>
   have:Ks.own=false:=by
    cases YV:Ks.own with
    |true=>rw[k2 YV] at yJ;cases yJ
    |false=>rfl
   rw[this] at hj;simp only[cond_false] at hj ⊢;omega
 ·intro r g' p ob hg hp ho
  obtain⟨g,h1,h2,h3,h4⟩:=ef r g' hg;rw[h4] at ho;cases ho
 ·intro r r' g' Ks p p' hg hp eN lC ho
  obtain⟨g,h1,h2,h3,h4⟩:=ef r g' hg;rw[h4] at ho;cases ho
 ·intro r g' p hg hp ho j hj
  obtain⟨g,h1,h2,h3,_⟩:=ef r g' hg;have:=h.lR r g p h1 (num r p hp) (h2 ho) j hj;show m' p.b (p.o+j)=none;cases hv:m' p.b (p.o+j) with
  |none=>rfl
  |some v=>rw[hm _ _ _ hv] at this;cases this
 ·intro r g' p hg hp ho
  obtain⟨g,h1,h2,h3,_⟩:=ef r g' hg;exact h.dd r g p h1 (num r p hp) (h2 ho)
 ·intro r g' p hg hp ho
  obtain⟨g,h1,h2,h3,_⟩:=ef r g' hg;exact h.dG r g p h1 (num r p hp) (h2 ho)
theorem At.mk {P:aad}{fn:aaj}{R:aao->World->Prop}{W:World}{O:Nat->Nat->Prop}{im m':Mem}{D:Nat->Nat->Prop}{Rr R':World->Prop}{N0 N:af}{B:aH}{s s':St}{a:Act}{w:World}(hN:N0.le N)
  (hf:aX fn.ntmps N s.fr a) (hS:Sat (aK P fn R W O im D Rr N0 B).toEnv N s.rg w) (hl:N0.length<=s'.rg.length) (h1:ia N (N.take s'.rg.length) s'.rg.length s.fr s'.fr) (h2:nh N (N.take s'.rg.length) s'.rg.length s.rg s'.rg)
  (hm:∀k o v,m' k o=some v->im k o=some v) (PP:Loc D R') (hR:R' w):At (aK P fn R W O m' D R' N0 B) s' a w:=by
 refine⟨N.take s'.rg.length,fun r p hp=>?_,hf.sub h1,hS.sub h2 hm PP hR⟩;have hr:r<N0.length:=(aas.1 hp).1;rw[aaR,if_pos (by omega)];exact hN r p hp
theorem At.same {P:aad}{fn:aaj}{R:aao->World->Prop}{W:World}{O:Nat->Nat->Prop}{im:Mem}{D:Nat->Nat->Prop}{Rr:World->Prop}{N0 N:af}{B:aH}{s s':St}{a:Act}{w:World}(hN:N0.le N)
  (hf:aX fn.ntmps N s.fr a) (hS:Sat (aK P fn R W O im D Rr N0 B).toEnv N s.rg w) (hl:N0.length<=s'.rg.length) (h1:ia N (N.take s'.rg.length) s'.rg.length s.fr s'.fr) (h2:nh N (N.take s'.rg.length) s'.rg.length s.rg s'.rg) :
  At (aK P fn R W O im D Rr N0 B) s' a w:=At.mk hN hf hS hl h1 h2 (fun _ _ _ h=>h) hS.loc hS.fH
theorem X.gB {E:eR}{ι:Type}(S:ι->St)(μ:ι->Nat){c:Code}{k:List It}{s:St} 
  (h0:∀(N:af) (a:Act) (w:World),E.N0.le N->aX E.n N s.fr a->Sat E.toEnv N s.rg w->∃i,At E (S i) a w)
  (round:∀i (q:Act->World->Prop),(∀i' a w,μ i'<μ i->At E (S i') a w->q a w)->X E (.code c::.lp q::k) (S i)):X E (.code (.loop c)::k) s :=
 X.loop (fun _=>E) S μ (fun _=>⟨rfl,rfl,rfl,rfl⟩) h0 round
end Go.bU
