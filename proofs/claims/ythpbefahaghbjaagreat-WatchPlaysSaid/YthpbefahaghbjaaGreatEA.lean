import Derived.WalkKit
import Derived.OrdersHeld
import Derived.KernelRfl
import Derived.Laws.StructEq
open Array renaming ext'→aaG,getElem?_modify→aaT,getElem?_push→abb,getElem?_eq_some_iff→abc,range→abf,getElem?_setIfInBounds_ne→abS,getElem?_eq_none→abT
open BitVec renaming ofInt→aas
open Bool renaming and_eq_true→aag,false_eq_true→aau,not_true→aaL,or_eq_true→aa3,not_eq_true'→abq,or_eq_false_iff→abr,and_assoc→abt,not_false→abu
open Go renaming Program→aad,Operand→aai,sizeOf→aao,BinOp→aaq,isAgg→aay,newRow→aaD,TypeInfo→aaK,storeCells→aa2
open Go.Act renaming eval→aaB,put→aaS
open Go.Builtin renaming len_→aav,growBy→aaJ,nextslicecap→aaX,append_→aaY,lenOf→abl,firstCells→abm,zeroCells→abn
open Go.Instr renaming sliceAt→aar,sureAddr→aaI,indexAt→aaV,slice→aaW,loadAt→abi,fieldAt→abj,fill→abk,sliceBound→ab0,sliceBounds→ab1,field→ab2,index→ab3,extract→ab4,buildSlice→ab6,makeSlice→ab7
open Go.IntKind renaming i64→aaZ,bits→aa0,signed→aa1,wrap→abo
open Go.Result renaming andThen→aac
open Go.Sem renaming run_bind→aaf,run_pure→aak
open Go.Value renaming cells→aaw
open Go.World renaming setCell→aaC,cell?_alloc_lt→aaH,block_lt_of_cell?→abh,cell?_setCell_other→abU,cell?_setCell_same→abV,frozen?_setCell→abW,frozen?_alloc_old→abX,cell?_alloc_new→abY
open Int renaming toNat_natCast→abp,natCast_mul→ab9
open List renaming getElem?_eq_some_iff→aan,getElem?_append_left→aax,getElem?_take→aaz,getElem?_drop→aaA,getElem?_append_right→aaE,getElem?_eq_getElem→aaM,length_eq_one_iff→aaN,getElem?_eq_none→aaO,ext_getElem?→aa4,getElem?_set_self→aa5,getElem?_cons_succ→aa6,length_cons→aa7,getElem?_toArray→aa8,getElem?_set_ne→abv,length_nil→abw,length_set→abx,headD→aby,getElem?_map→abz,range→abA,zipIdx_cons→abB,foldl_cons→abC,getElem?_cons_zero→abD
open Nat renaming beq→aae,ble→aah,add_assoc→aaj,eq_of_beq_eq_true→aal,le_of_ble_eq_true→aam,lt_or_ge→aaF,le_refl→aaP,lt_of_lt_of_le→aaQ,blt→aaR,le_div_iff_mul_le→aa9,mul_ne_zero→aba,le_trans→abE,le_zero_eq→abF,ne_of_lt→abG,add_zero→abK,add_mul→abP,zero_mul→abQ,mul_le_mul_right→abR
open Option renaming isSome_iff_exists→aap,map_some→aaU,getD→abZ
theorem aA.{u}{α:Type u}{a b:α}:(some a=some b)=(a=b):=Option.some.injEq a b
namespace Go.bU
def ig (op:aaq)(k:IntKind)(x y:Int):Int :=
 match op with
 | .and=>k.wrap (aas k.bits x &&& aas k.bits y).toNat
 | .or=>k.wrap (aas k.bits x |||aas k.bits y).toNat
 | .xor=>k.wrap (aas k.bits x ^^^ aas k.bits y).toNat
 |_=>k.wrap (aas k.bits x &&& ~~~aas k.bits y).toNat
inductive SI where
 |lit (z:Int)
 |v (x:Int)
 |nat (n:Nat)
 |add (a b:SI)
 |sub (a b:SI)
 |mul (a b:SI)
 |quo (a b:SI)
 |rem (a b:SI)
 |wrap (k:IntKind) (a:SI)
 |bits (op:aaq) (k:IntKind) (a b:SI)
 |mx (a b:SI)
 |mn (a b:SI)
 |shl (a:SI) (n:Nat)
 |shr (a:SI) (n:Nat)
 deriving Inhabited
def SI.den:SI->Int
 | .lit z=>z
 | .v x=>x
 | .nat n=>(n:Int)
 | .add a b=>a.den+b.den
 | .sub a b=>a.den-b.den
 | .mul a b=>a.den*b.den
 | .quo a b=>a.den.tdiv b.den
 | .rem a b=>a.den.tmod b.den
 | .wrap k a=>k.wrap a.den
 | .bits op k a b=>ig op k a.den b.den
 | .mx a b=>if a.den<b.den then b.den else a.den
 | .mn a b=>if b.den<a.den then b.den else a.den
 | .shl a n=>a.den*2 ^ n
 | .shr a n=>a.den.fdiv (2 ^ n)
inductive SB where
 |lit (b:Bool)
 |v (b:Bool)
 |eq (a b:SI)
 |ne (a b:SI)
 |lt (a b:SI)
 |le (a b:SI)
 |gt (a b:SI)
 |ge (a b:SI)
 |not (a:SB)
 |and (a b:SB)
 |or (a b:SB)
 |beq (a b:SB)
 deriving Inhabited
def SB.den:SB->Bool
 | .lit b=>b
 | .v b=>b
 | .eq a b=>a.den == b.den
 | .ne a b=>a.den != b.den
 | .lt a b=>decide (a.den<b.den)
 | .le a b=>decide (a.den<=b.den)
 | .gt a b=>decide (b.den<a.den)
 | .ge a b=>decide (b.den<=a.den)
 | .not a=>!a.den
 | .and a b=>a.den&&b.den
 | .or a b=>a.den ||b.den
 | .beq a b=>a.den == b.den
mutual
def SB.T:SB->Prop
 | .lit b=>b=true
 | .v b=>b=true
 | .eq a b=>a.den=b.den
 | .ne a b=>a.den≠b.den
 | .lt a b=>a.den<b.den
 | .le a b=>a.den<=b.den
 | .gt a b=>b.den<a.den
 | .ge a b=>b.den<=a.den
 | .not a=>a.F
 | .and a b=>a.T/\b.T
 | .or a b=>a.T\/b.T
 | .beq a b=>a.den=b.den
def SB.F:SB->Prop
 | .lit b=>b=false
 | .v b=>b=false
 | .eq a b=>a.den≠b.den
 | .ne a b=>a.den=b.den
 | .lt a b=>b.den<=a.den
 | .le a b=>b.den<a.den
 | .gt a b=>a.den<=b.den
 | .ge a b=>a.den<b.den
 | .not a=>a.T
 | .and a b=>a.F\/b.F
 | .or a b=>a.F/\b.F
 | .beq a b=>a.den≠b.den
end
theorem SB.TF:∀b:SB,(b.den=true↔b.T)/\(b.den=false↔b.F)
 | .lit b=>by simp[SB.den,SB.T,SB.F]
 | .v b=>by simp[SB.den,SB.T,SB.F]
 | .eq a b=>by simp[SB.den,SB.T,SB.F]
 | .ne a b=>by simp[SB.den,SB.T,SB.F]
 | .lt a b=>by simp[SB.den,SB.T,SB.F]
 | .le a b=>by simp[SB.den,SB.T,SB.F]
 | .gt a b=>by simp[SB.den,SB.T,SB.F]
 | .ge a b=>by simp[SB.den,SB.T,SB.F]
 | .not a=>by simp only[SB.den,SB.T,SB.F,abq,Bool.not_eq_false'];exact⟨(SB.TF a).2,(SB.TF a).1⟩
 | .and a b=>by
  simp only[SB.den,SB.T,SB.F,aag,Bool.and_eq_false_iff,(SB.TF a).1,(SB.TF b).1,(SB.TF a).2,(SB.TF b).2,and_self]
 | .or a b=>by
  simp only[SB.den,SB.T,SB.F,aa3,abr,(SB.TF a).1,(SB.TF b).1,(SB.TF a).2,(SB.TF b).2,and_self]
 | .beq a b=>by simp[SB.den,SB.T,SB.F]
def bc:Value->Bool
 | .agg _=>false
 | .tuple _=>false
 |_=>true
inductive SV where
 |int (k:IntKind) (e:SI)
 |bool (c:SB)
 |own (r c:Nat)
 |ext (k x c:Nat)
 |sl (k x n c:Nat)
 |ao (p:Option Addr) (n c:Nat)
 |raw (v:Value)
 |big (a:Array Value)
 |agg (cs:List SV)
 |tup (cs:List SV)
 |osl (r c n z:Nat) (k:Option Nat)
 |fn (f:Nat) (cs:List SV)
 |mp (r:Nat)
 |ch (r:Nat)
 deriving Inhabited
structure aS where
 b:Nat
 o:Nat
 x:Nat
abbrev af:=List aS
def aS.cap (p:aS)(c z:Nat):Option Nat->Nat
 |some k=>k
 |none=>(p.x-c) / z
mutual
def SV.den (N:af):SV->Option Value
 | .int k e=>some (.int k e.den)
 | .bool c=>some (.bool c.den)
 | .own r c=>match N[r]? with
  |some p=>some (.pointer (some ⟨p.b,p.o+c,none⟩))
  |none=>none
 | .ext k x c=>some (.pointer (some ⟨k,x+c,none⟩))
 | .sl k x n c=>some (.slice (some ⟨k,x,none⟩) n c)
 | .ao p n c=>some (.slice p n c)
 | .raw v=>if bc v then some v else none
 | .big a=>some (.agg a)
 | .agg cs=>match SV.ap N cs with
  |some l=>some (.agg l.toArray)
  |none=>none
 | .tup cs=>match SV.ap N cs with
  |some l=>some (.tuple l.toArray)
  |none=>none
 | .osl r c n z k=>match N[r]? with
  |some p=>some (.slice (some ⟨p.b,p.o+c,none⟩) n (p.cap c z k))
  |none=>none
 | .fn f cs=>match SV.ap N cs with
  |some l=>some (.func (.func f) #[] l.toArray)
  |none=>none
 | .mp r=>match N[r]? with
  |some p=>some (.map (some p.b))
  |none=>none
 | .ch r=>match N[r]? with
  |some p=>some (.chan (some p.b))
  |none=>none
def SV.ap (N:af):List SV->Option (List Value)
 | []=>some []
 |c::cs=>match c.den N with
  |some v=>match SV.ap N cs with
   |some l=>some (v::l)
   |none=>none
  |none=>none
end
def af.le (N N':af):Prop:=∀(r:Nat) (p:aS),N[r]?=some p->N'[r]?=some p
theorem af.le.refl (N:af):N.le N:=fun _ _ h=>h
theorem af.le.trans {A B C:af}(h:A.le B)(k:B.le C):A.le C:=fun r p e=>k r p (h r p e)
theorem af.aZ (N M:af):N.le (N++M):=fun r p h=>by
 rw[aax (aan.1 h).1];exact h
mutual
theorem SV.bf {N N':af}(hN:N.le N'):∀(s:SV) {x:Value},s.den N=some x->s.den N'=some x
 | .int _ _,x,h=>h
 | .bool _,x,h=>h
 | .own r c,x,h=>by
  simp only[SV.den] at h ⊢;cases hr:N[r]? with
  |none=>simp[hr] at h
  |some p=>rw[hN r p hr];simpa[hr] using h
 | .ext _ _ _,x,h=>h
 | .sl _ _ _ _,x,h=>h
 | .ao _ _ _,x,h=>h
 | .raw _,x,h=>h
 | .big _,x,h=>h
 | .agg cs,x,h=>by
  simp only[SV.den] at h ⊢;cases hl:SV.ap N cs with
  |none=>simp[hl] at h
  |some l=>rw[SV.ej hN cs hl];simpa[hl] using h
 | .tup cs,x,h=>by
  simp only[SV.den] at h ⊢;cases hl:SV.ap N cs with
  |none=>simp[hl] at h
  |some l=>rw[SV.ej hN cs hl];simpa[hl] using h
 | .osl r c n z k,x,h=>by
  simp only[SV.den] at h ⊢;cases hr:N[r]? with
  |none=>simp[hr] at h
  |some p=>rw[hN r p hr];simpa[hr] using h
 | .fn f cs,x,h=>by
  simp only[SV.den] at h ⊢;cases hl:SV.ap N cs with
  |none=>simp[hl] at h
  |some l=>rw[SV.ej hN cs hl];simpa[hl] using h
 | .mp r,x,h=>by
  simp only[SV.den] at h ⊢;cases hr:N[r]? with
  |none=>simp[hr] at h
  |some p=>rw[hN r p hr];simpa[hr] using h
 | .ch r,x,h=>by
  simp only[SV.den] at h ⊢;cases hr:N[r]? with
  |none=>simp[hr] at h
  |some p=>rw[hN r p hr];simpa[hr] using h
theorem SV.ej {N N':af}(hN:N.le N'):∀(s:List SV) {x:List Value},SV.ap N s=some x->SV.ap N' s=some x
 | [],x,h=>h
 |c::cs,x,h=>by
  simp only[SV.ap] at h ⊢;cases hc:c.den N with
  |none=>simp[hc] at h
  |some v =>
   cases hl:SV.ap N cs with
   |none=>simp[hc,hl] at h
   |some l=>rw[SV.bf hN c hc,SV.ej hN cs hl];simpa[hc,hl] using h
end
theorem SV.aP {N:af}:∀(s:List SV) {l:List Value},SV.ap N s=some l->l.length=s.length/\∀(j:Nat) (c:SV),s[j]?=some c->∃v,c.den N=some v/\l[j]?=some v
 | [],l,h=>by simp only[SV.ap,aA] at h;subst h;simp
 |c::cs,l,h=>by
  simp only[SV.ap] at h;cases hc:c.den N with
  |none=>simp[hc] at h
  |some v =>
   cases hl:SV.ap N cs with
   |none=>simp[hc,hl] at h
   |some m =>
    simp only[hc,hl,aA] at h;subst h;obtain⟨h1,h2⟩:=SV.aP cs hl;refine⟨by simp[h1],fun j d hj=>?_⟩;cases j with
    |zero=>simp at hj;subst hj;exact⟨v,hc,rfl⟩
    |succ j=>simp at hj ⊢;exact h2 j d hj
theorem SV.uL {N:af}:∀(s:List SV),(∀(j:Nat) (c:SV),s[j]?=some c->∃v,c.den N=some v)->∃l,SV.ap N s=some l
 | [],_=>⟨[],rfl⟩
 |c::cs,h=>by
  obtain⟨v,hv⟩:=h 0 c rfl;obtain⟨l,hl⟩:=SV.uL cs (fun j d hj=>h (j+1) d (by simpa using hj));exact⟨v::l,by simp[SV.ap,hv,hl]⟩
theorem SV.dz {N:af}:∀(s t:List SV) {l m:List Value},SV.ap N s=some l->SV.ap N t=some m->SV.ap N (s++t)=some (l++m)
 | [],t,l,m,h,k=>by simp only[SV.ap,aA] at h;subst h;simpa using k
 |c::cs,t,l,m,h,k=>by
  simp only[SV.ap] at h;cases hc:c.den N with
  |none=>simp[hc] at h
  |some v =>
   cases hl:SV.ap N cs with
   |none=>simp[hc,hl] at h
   |some q =>
    simp only[hc,hl,aA] at h;subst h;simp[SV.ap,hc,SV.dz cs t hl k]
def SV.cells:SV->List SV
 | .agg cs=>cs
 |v=>[v]
def SV.one:SV->Bool
 | .int _ _=>true
 | .bool _=>true
 | .own _ _=>true
 | .ext _ _ _=>true
 | .sl _ _ _ _=>true
 | .ao _ _ _=>true
 | .raw _=>true
 | .osl _ _ _ _ _=>true
 | .fn _ _=>true
 | .mp _=>true
 | .ch _=>true
 |_=>false
theorem SV.LJ {N:af}{s:SV}{x:Value}(h:s.one=true)(hd:s.den N=some x):bc x=true/\x.cells=#[x]:=by
 cases s<;>simp[SV.one] at h<;>simp only[SV.den] at hd
 case own r c=>cases hr:N[r]?<;>simp[hr] at hd;subst hd;exact⟨rfl,rfl⟩
 case osl r c n z k=>cases hr:N[r]?<;>simp[hr] at hd;subst hd;exact⟨rfl,rfl⟩
 case mp r=>cases hr:N[r]?<;>simp[hr] at hd;subst hd;exact⟨rfl,rfl⟩
 case ch r=>cases hr:N[r]?<;>simp[hr] at hd;subst hd;exact⟨rfl,rfl⟩
 case fn f cs=>cases hr:SV.ap N cs<;>simp[hr] at hd;subst hd;exact⟨rfl,rfl⟩
 case raw v =>
  split at hd
  ·simp at hd;subst hd
   rename_i hv
   refine⟨hv,?_⟩;cases v<;>first|rfl|simp[bc] at hv
  ·simp at hd
 all_goals (simp at hd;subst hd;exact⟨rfl,rfl⟩)
theorem gS {a b:Nat}(h:a≠b):aae a b=false:=by
 cases e:aae a b with
 |false=>rfl
 |true=>exact absurd (aal e) h
inductive FV where
 |val (v:SV)
 |xJ (j:Nat) (w:Bool) (v:SV)
 |dead
 deriving Inhabited
abbrev Fr:=List (Nat × FV)
def look:Fr->Nat->FV
 | [],_=>.dead
 |(k,v)::r,t=>bif aae k t then v else look r t
def FV.off (d:Nat):FV->FV
 | .xJ j w v=>bif aae j d then .dead else .xJ j w v
 |e=>e
def drop:Fr->Nat->Fr
 | [],_=>[]
 |(k,v)::r,d=>bif aae k d then drop r d else (k,v.off d)::drop r d
def upd (f:Fr)(d:Nat)(v:FV):Fr:=(d,v)::drop f d
theorem H7 (f:Fr)(d t:Nat)(h:d≠t):look (drop f d) t=(look f t).off d:=by
 induction f with
 |nil=>rfl
 |cons p r ih =>
  obtain⟨k,x⟩:=p
  by_cases hk:k=d
  ·subst hk
   simp only[drop,Nat.beq_refl,cond_true,look,gS h,cond_false];exact ih
  ·simp only[drop,gS hk,cond_false,look]
   by_cases hkt:k=t
   ·subst hkt;simp
   ·simp only[gS hkt,cond_false];exact ih
theorem yo (f:Fr)(d:Nat)(v:FV):look (upd f d v) d=v:=by simp[upd,look]
theorem CD (f:Fr)(d t:Nat)(v:FV)(h:d≠t):look (upd f d v) t=(look f t).off d:=by
 simp only[upd,look,gS h,cond_false];exact H7 f d t h
inductive Ob where
 |map (es:List (SV × SV × Nat)) (clock:Nat)
 |chan (cap:Nat) (XG:List SV) (closed:Bool) (akj aki:Nat)
 deriving Inhabited
def vK (N:af):List (SV × SV × Nat)->Option (List MapEntry)
 | []=>some []
 |(k,v,b)::r=>match k.den N,v.den N,vK N r with
  |some k,some v,some l=>some (⟨k,v,b⟩::l)
  |_,_,_=>none
def Ob.den (N:af):Ob->Option Obj
 | .map es c=>match vK N es with
  |some l=>some (.map l.toArray c)
  |none=>none
 | .chan cap XG cl s r=>match SV.ap N XG with
  |some l=>some (.chan cap l.toArray cl s r false)
  |none=>none
theorem vL {N N':af}(hN:N.le N'):∀(es:List (SV × SV × Nat)) {l:List MapEntry},vK N es=some l->vK N' es=some l
 | [],_,h=>h
 |(k,v,b)::r,l,h=>by
  simp only[vK] at h ⊢;cases hk:k.den N with
  |none=>simp[hk] at h
  |some k' =>
   cases hv:v.den N with
   |none=>simp[hk,hv] at h
   |some v' =>
    cases hr:vK N r with
    |none=>simp[hk,hv,hr] at h
    |some l'=>rw[SV.bf hN k hk,SV.bf hN v hv,vL hN r hr];simpa[hk,hv,hr] using h
theorem Ob.bf {N N':af}(hN:N.le N')(ob:Ob){x:Obj}(h:ob.den N=some x):ob.den N'=some x:=by
 cases ob with
 |map es c =>
  simp only[Ob.den] at h ⊢;cases hl:vK N es with
  |none=>simp[hl] at h
  |some l=>rw[vL hN es hl];simpa[hl] using h
 |chan cap XG cl s r =>
  simp only[Ob.den] at h ⊢;cases hl:SV.ap N XG with
  |none=>simp[hl] at h
  |some l=>rw[SV.ej hN XG hl];simpa[hl] using h
structure Rg where
 own:Bool
 cells:List SV
 ob:Option Ob:=none
 deriving Inhabited
structure St where
 fr:Fr
 rg:List Rg
 deriving Inhabited
def FV.ok (N:af)(a:Act)(t:Nat):FV->Prop
 | .val v=>∃x,v.den N=some x/\a.tmps[t]?=some x
 | .xJ j w v=>(a.tmps[j]?=some (.bool w)->∃x,v.den N=some x/\a.tmps[t]?=some x)/\(¬a.tmps[j]?=some (.bool w)->a.tmps[t]?=some undef)
 | .dead=>True
structure aX (n:Nat) (N:af) (f:Fr) (a:Act):Prop where
 size:a.tmps.size=n
 defers:a.defers=[]
 ok:∀t,(look f t).ok N a t
theorem FV.Qi {N N':af}{a:Act}{t:Nat}(hN:N.le N'){e:FV}(h:e.ok N a t):e.ok N' a t:=by
 cases e with
 |val v=>obtain⟨x,h1,h2⟩:=h;exact⟨x,SV.bf hN v h1,h2⟩
 |xJ j w v=>exact⟨fun e=>let ⟨x,h1,h2⟩:=h.1 e;⟨x,SV.bf hN v h1,h2⟩,h.2⟩
 |dead=>trivial
theorem aX.mono {n:Nat}{N N':af}{f:Fr}{a:Act}(hN:N.le N')(h:aX n N f a):aX n N' f a :=
 ⟨h.size,h.defers,fun t=>FV.Qi hN (h.ok t)⟩
theorem aX.put {n:Nat}{N:af}{f:Fr}{a:Act}{d:Nat}{e:FV}{x:Value}(h:aX n N f a)(hd:d<n)(he:e.ok N (a.put (some d) x) d) :
  aX n N (upd f d e) (a.put (some d) x):=by
 refine⟨by simpa[aaS] using h.size,by simpa[aaS] using h.defers,fun t=>?_⟩
 by_cases Ew:d=t
 ·subst Ew;rw[yo];exact he
 ·rw[CD _ _ _ _ Ew]
  have keep:∀j,d≠j->(a.put (some d) x).tmps[j]?=a.tmps[j]?:=fun j hj=>by
   simp only[aaS];rw[abS hj]
  have:=h.ok t;cases hl:look f t with
  |val v=>rw[hl] at this;obtain⟨y,h1,h2⟩:=this;exact⟨y,h1,by rw[keep t Ew];exact h2⟩
  |dead=>trivial
  |xJ j w v =>
   rw[hl] at this;simp only[FV.off]
   by_cases hj:j=d
   ·subst hj;simp;trivial
   ·simp only[gS hj,cond_false]
    show(_->_)/\(_->_);rw[keep t Ew,keep j (fun e=>hj e.symm)];exact this
theorem aX.Qn {n:Nat}{N:af}{f:Fr}{a:Act}{d:Nat}{s:SV}{x:Value}(h:aX n N f a)(hd:d<n)(hs:s.den N=some x) :
  aX n N (upd f d (.val s)) (a.put (some d) x) :=
 h.put hd ⟨x,hs,by simp[aaS,h.size,hd]⟩
def CL:Value->SV
 | .int k z=>.int k (.lit z)
 | .bool b=>.bool (.lit b)
 |v=>.raw v
theorem yZ {N:af}{v:Value}(h:bc v=true):(CL v).den N=some v:=by
 cases v<;>simp[CL,SV.den,SI.den,SB.den,bc] at h ⊢
def UW:aai->Option SV
 | .tmp _=>none
 | .const v=>bif bc v then some (CL v) else none
 | .global g=>some (.ext g 0 0)
 | .func g=>some (.raw (.func (.func g) #[] #[]))
theorem jX {N:af}{a:Act}{o:aai}{s:SV}(he:UW o=some s):s.den N=some (a.eval o):=by
 cases o with
 |tmp t=>simp[UW] at he
 |const v =>
  simp only[UW] at he;cases hv:bc v with
  |false=>simp[hv] at he
  |true=>simp[hv] at he;subst he;simpa[aaB] using yZ hv
 |global g=>simp[UW] at he;subst he;simp[SV.den,aaB]
 |func g=>simp[UW] at he;subst he;simp[SV.den,aaB,bc]
def ev (f:Fr):aai->Option SV
 | .tmp t=>match look f t with
  | .val v=>some v
  |_=>none
 |o=>UW o
theorem cX {n:Nat}{N:af}{f:Fr}{a:Act}(h:aX n N f a){o:aai}{s:SV}(he:ev f o=some s):s.den N=some (a.eval o):=by
 cases o with
 |tmp t =>
  simp only[ev] at he;have:=h.ok t;cases hl:look f t with
  |val v =>
   rw[hl] at this he;simp at he;subst he;obtain⟨x,h1,h2⟩:=this;simp[aaB,h2,h1]
  |xJ j w v=>rw[hl] at he;simp at he
  |dead=>rw[hl] at he;simp at he
 |const v=>exact jX he
 |global g=>exact jX he
 |func g=>exact jX he
def imp (f:Fr):Nat->Nat->Bool->Nat->Bool->Bool
 |0,_,_,_,_=>false
 |m+1,k,w,j,x=>(aae k j&&(w == x)) ||
  match look f k with
  | .xJ j' w' _=>imp f m j' w' j x
  |_=>false
theorem yP {n:Nat}{N:af}{f:Fr}{a:Act}(h:aX n N f a):∀(m k:Nat) (w:Bool) (j:Nat) (x:Bool),imp f m k w j x=true->a.tmps[k]?=some (.bool w)->a.tmps[j]?=some (.bool x)
 |0,_,_,_,_,hi,_=>by simp[imp] at hi
 |m+1,k,w,j,x,hi,hk=>by
  simp only[imp,aa3,aag,beq_iff_eq] at hi;rcases hi with ⟨h1,h2⟩|hi
  ·have:=aal h1;subst this;subst h2;exact hk
  ·have dm:=h.ok k
   cases hl:look f k with
   |val v=>rw[hl] at hi;simp at hi
   |dead=>rw[hl] at hi;simp at hi
   |xJ j' w' v =>
    rw[hl] at hi dm;have h2:=dm.2;rw[hk] at h2;refine yP h m j' w' j x hi ?_
    by_cases hj:a.tmps[j']?=some (.bool w')
    ·exact hj
    ·have:=h2 hj;simp[undef] at this
def WG (f:Fr)(k:Nat)(w:Bool):aai->Option SV
 | .tmp t=>match look f t with
  | .val v=>some v
  | .xJ j x v=>bif imp f 40 k w j x then some v else none
  | .dead=>none
 |o=>UW o
theorem jY {n:Nat}{N:af}{f:Fr}{a:Act}{k:Nat}{w:Bool}(h:aX n N f a)(hk:a.tmps[k]?=some (.bool w)){o:aai}{s:SV}(he:WG f k w o=some s):s.den N=some (a.eval o):=by
 cases o with
 |tmp t =>
  simp only[WG] at he;have:=h.ok t;cases hl:look f t with
  |val v =>
   rw[hl] at this he;simp at he;subst he;obtain⟨x,h1,h2⟩:=this;simp[aaB,h2,h1]
  |xJ j x v =>
   rw[hl] at this he;simp only at he;cases hi:imp f 40 k w j x with
   |false=>rw[hi] at he;simp at he
   |true =>
    rw[hi] at he;simp at he;subst he;obtain⟨y,h1,h2⟩:=this.1 (yP h 40 k w j x hi hk);simp[aaB,h2,h1]
  |dead=>rw[hl] at he;simp at he
 |const v=>exact jX he
 |global g=>exact jX he
 |func g=>exact jX he
structure aW (O:Nat->Nat->Prop) (w w':World):Prop where
 os:w'.os=w.os
 tape:w'.tape=w.tape
 output:w'.output=w.output
 size:w.heap.size<=w'.heap.size
 dr:w.drawn<=w'.drawn
 same:∀(k:Nat),k<w.heap.size->(∀o,¬O k o)->w'.heap[k]?=w.heap[k]?
 cells:∀(k:Nat) c e f,w.heap[k]?=some (.cells c e f)->∃c',w'.heap[k]?=some (.cells c' e f)/\c'.size=c.size/\∀o,¬O k o->c'[o]?=c[o]?
theorem aW.refl (O:Nat->Nat->Prop)(w:World):aW O w w:=⟨rfl,rfl,rfl,aaP _,aaP _,fun _ _ _=>rfl,fun _ c _ _ h=>⟨c,h,rfl,fun _ _=>rfl⟩⟩
theorem aW.trans {O O':Nat->Nat->Prop}{a b c:World}(h:aW O a b)(k:aW O' b c)(hO:∀i o,i<a.heap.size->O' i o->O i o):aW O a c:=by
 refine⟨k.os.trans h.os,k.tape.trans h.tape,k.output.trans h.output,abE h.size k.size,abE h.dr k.dr,fun i hi hn=>?_,fun i cs e f hc=>?_⟩
 ·rw[k.same i (aaQ hi h.size) (fun o ho=>hn o (hO i o hi ho)),h.same i hi hn]
 ·have hi:i<a.heap.size:=by
   rcases aaF i a.heap.size with h'|h'
   ·exact h'
   ·simp[abT h'] at hc
  obtain⟨c1,h1,h2,h3⟩:=h.cells i cs e f hc;obtain⟨c2,k1,k2,k3⟩:=k.cells i c1 e f h1;exact⟨c2,k1,k2.trans h2,fun o ho=>(k3 o (fun x=>ho (hO i o hi x))).trans (h3 o ho)⟩
theorem aW.mono {O O':Nat->Nat->Prop}{a b:World}(h:aW O a b)(hO:∀i o,i<a.heap.size->O i o->O' i o):aW O' a b:=by
 refine⟨h.os,h.tape,h.output,h.size,h.dr,fun k hk hn=>h.same k hk (fun o ho=>hn o (hO k o hk ho)),fun k c e f hc=>?_⟩;have hk:k<a.heap.size:=by
  rcases aaF k a.heap.size with h'|h'
  ·exact h'
  ·simp[abT h'] at hc
 obtain⟨c1,h1,h2,h3⟩:=h.cells k c e f hc;exact⟨c1,h1,h2,fun o ho=>h3 o (fun x=>ho (hO k o hk x))⟩
theorem aW.drew {O:Nat->Nat->Prop}{a w:World}(h:aW O a w):aW O a w.drew:=⟨h.os,h.tape,h.output,h.size,Nat.le_succ_of_le h.dr,h.same,h.cells⟩
theorem aW.alloc {O:Nat->Nat->Prop}{a w:World}(h:aW O a w)(o:Obj):aW O a (w.alloc o):=by
 have e:∀k,k<w.heap.size->(w.alloc o).heap[k]?=w.heap[k]?:=fun k hk=>by
  show(w.heap.push o)[k]?=_;rw[abb,if_neg (by omega)]
 have lt:∀{k x},w.heap[k]?=some x->k<w.heap.size:=fun hx=>(abc.1 hx).1
 refine⟨h.os,h.tape,h.output,by simp;have:=h.size;omega,h.dr,fun k hk hn=>?_,fun k c e' f hc=>?_⟩
 ·rw[e k (aaQ hk h.size)];exact h.same k hk hn
 ·obtain⟨c',h1,h2,h3⟩:=h.cells k c e' f hc
  exact⟨c',by rw[e k (lt h1)];exact h1,h2,h3⟩
theorem aW.setCell {O:Nat->Nat->Prop}{a w:World}(h:aW O a w){k o:Nat}(ho:a.heap.size<=k\/O k o)(v:Value):aW O a (w.setCell ⟨k,o,none⟩ v):=by
 refine⟨h.os,h.tape,h.output,by simpa[aaC] using h.size,h.dr,fun i hi hn=>?_,fun i c e f hc=>?_⟩
 ·have bH:i≠k:=fun e=>by subst e;rcases ho with ho|ho;omega;exact hn o ho
  simp only[aaC,aaT];rw[if_neg (fun e=>bH e.symm)];exact h.same i hi hn
 ·have hi:i<a.heap.size:=(abc.1 hc).1
  obtain⟨c',h1,h2,h3⟩:=h.cells i c e f hc;simp only[aaC,aaT]
  by_cases hik:k=i
  ·subst hik
   refine⟨c'.setIfInBounds o v,by simp[h1],by simpa using h2,fun j hj=>?_⟩;have:o≠j:=fun e=>by subst e;rcases ho with ho|ho;omega;exact hj ho
   rw[abS this];exact h3 j hj
  ·rw[if_neg hik];exact⟨c',h1,h2,h3⟩
structure Env where
 P:aad
 n:Nat
 Q:Exit->Act->World->Prop
 W:World
 O:Nat->Nat->Prop
 im:Nat->Nat->Option Value
 D:Nat->Nat->Prop
 R:World->Prop
def b8 (w:World)(k:Nat):Option Obj :=
 match w.heap[k]? with
 |some (.cells _ _ _)=>none
 |x=>x
def eG (w:World)(k o:Nat):Prop:=(w.cell? ⟨k,o,none⟩).isSome=true\/(b8 w k).isSome=true
def Loc (D:Nat->Nat->Prop)(R:World->Prop):Prop :=
 ∀w w':World,(∀k o,D k o->(w'.cell? ⟨k,o,none⟩=w.cell? ⟨k,o,none⟩/\w'.frozen? ⟨k,o,none⟩=w.frozen? ⟨k,o,none⟩)/\b8 w' k=b8 w k)->w.heap.size<=w'.heap.size->R w->R w'
theorem Loc.cells {D:Nat->Nat->Prop}{R:World->Prop}(h:∀w w':World,(∀k o,D k o->w'.cell? ⟨k,o,none⟩=w.cell? ⟨k,o,none⟩/\w'.frozen? ⟨k,o,none⟩=w.frozen? ⟨k,o,none⟩)->w.heap.size<=w'.heap.size->R w->R w'):Loc D R :=
 fun w w' h1 h2 h3=>h w w' (fun k o hd=>(h1 k o hd).1) h2 h3
theorem gW {w w':World}{k:Nat}(h:w'.heap[k]?=w.heap[k]?):b8 w' k=b8 w k:=by
 unfold b8;rw[h]
theorem EU {w:World}{k:Nat}{x:Obj}(h:w.heap[k]?=some x)(hn:∀c e f,x≠.cells c e f):b8 w k=some x:=by
 unfold b8;rw[h];cases x with
 |cells c e f=>exact absurd rfl (hn c e f)
 |_=>rfl
theorem kC {w:World}{k:Nat}{x:Obj}(h:b8 w k=some x):w.heap[k]?=some x:=by
 unfold b8 at h
 split at h
 ·cases h
 ·exact h
theorem eG.lt {w:World}{k o:Nat}(h:eG w k o):k<w.heap.size:=by
 rcases h with h|h
 ·obtain⟨u,hu⟩:=aap.1 h
  exact abh _ _ hu
 ·obtain⟨x,hx⟩:=aap.1 h
  exact(abc.1 (kC hx)).1
theorem eG.of {w w':World}{k o:Nat}(h:eG w k o)(hc:(w.cell? ⟨k,o,none⟩).isSome=true->(w'.cell? ⟨k,o,none⟩).isSome=true)(ho:b8 w' k=b8 w k):eG w' k o :=
 h.imp hc (fun h=>by rw[ho];exact h)
theorem pW (w:World)(b o:Nat)(v:Value)(k:Nat):b8 (w.setCell ⟨b,o,none⟩ v) k=b8 w k:=by
 unfold b8;simp only[aaC,aaT]
 by_cases e:b=k
 ·rw[if_pos e]
  cases h:w.heap[k]? with
  |none=>rfl
  |some x=>cases x<;>rfl
 ·rw[if_neg e]
theorem ud (w:World)(x:Obj){k:Nat}(hk:k<w.heap.size):b8 (w.alloc x) k=b8 w k :=
 gW (by show(w.heap.push x)[k]?=_;rw[abb,if_neg (by omega)])
def Rg.wid (g:Rg)(p:aS):Nat:=bif g.own then p.x else g.cells.length
structure Sat (E:Env) (N:af) (rg:List Rg) (w:World):Prop where
 len:N.length=rg.length
 lt:∀(r:Nat) (p:aS),N[r]?=some p->p.b<w.heap.size
 cell:∀(r:Nat) (g:Rg) (p:aS),rg[r]?=some g->N[r]?=some p->∀(j:Nat) (c:SV),g.cells[j]?=some c ->
  ∃v,c.den N=some v/\w.cell? ⟨p.b,p.o+j,none⟩=some v
 ext:∀(r:Nat) (g:Rg) (p:aS),rg[r]?=some g->N[r]?=some p->g.own=true->g.cells.length<=p.x
 room:∀(r:Nat) (g:Rg) (p:aS),rg[r]?=some g->N[r]?=some p->g.own=true->∀j,j<p.x->(w.cell? ⟨p.b,p.o+j,none⟩).isSome=true/\w.frozen? ⟨p.b,p.o+j,none⟩=false
 eT:∀(r r':Nat) (g g':Rg) (p p':aS),rg[r]?=some g->N[r]?=some p->rg[r']?=some g'->N[r']?=some p'->g.own=true->r≠r' ->
  ∀j,j<g'.wid p'->p'.b=p.b->p'.o+j<p.o\/p.o+p.x<=p'.o+j
 obj:∀(r:Nat) (g:Rg) (p:aS) (ob:Ob),rg[r]?=some g->N[r]?=some p->g.ob=some ob->(∃o,ob.den N=some o/\w.heap[p.b]?=some o)/\E.W.heap.size<=p.b/\∀o,¬E.D p.b o
 fG:∀(r r':Nat) (g g':Rg) (p p':aS),rg[r]?=some g->N[r]?=some p->rg[r']?=some g'->N[r']?=some p'->g.ob.isSome=true->g'.ob.isSome=true->r≠r'->p.b≠p'.b
 cK:∀k o v,E.im k o=some v->w.cell? ⟨k,o,none⟩=some v
 lR:∀(r:Nat) (g:Rg) (p:aS),rg[r]?=some g->N[r]?=some p->g.own=true->∀j,j<p.x->E.im p.b (p.o+j)=none
 dd:∀(r:Nat) (g:Rg) (p:aS),rg[r]?=some g->N[r]?=some p->g.own=true->∀j,j<p.x->¬E.D p.b (p.o+j)
 mj:∀k o,E.D k o->eG w k o
 loc:Loc E.D E.R
 fH:E.R w
 aM:aW E.O E.W w
 dG:∀(r:Nat) (g:Rg) (p:aS),rg[r]?=some g->N[r]?=some p->g.own=true->E.W.heap.size<=p.b\/∀j,j<p.x->E.O p.b (p.o+j)
theorem Sat.drew {E:Env}{N:af}{rg:List Rg}{w:World}(h:Sat E N rg w):Sat E N rg w.drew :=
 { h with fH:=h.loc w w.drew (fun _ _ _=>⟨⟨rfl,rfl⟩,rfl⟩) (aaP _) h.fH,aM:=h.aM.drew }
structure jg (N:af) (rg:List Rg) (w:World):Prop where
 len:rg.length<=N.length
 cell:∀(r:Nat) (g:Rg) (p:aS),rg[r]?=some g->N[r]?=some p->∀(j:Nat) (c:SV),g.cells[j]?=some c ->
  ∃v,c.den N=some v/\w.cell? ⟨p.b,p.o+j,none⟩=some v
 ext:∀(r:Nat) (g:Rg) (p:aS),rg[r]?=some g->N[r]?=some p->g.own=true->g.cells.length<=p.x
theorem Sat.xt {E:Env}{N:af}{rg:List Rg}{w:World}(h:Sat E N rg w):jg N rg w:=⟨Nat.le_of_eq h.len.symm,h.cell,h.ext⟩
theorem dy (k o j:Nat):(Addr.mk k o none).add j=⟨k,o+j,none⟩:=by
 unfold Addr.add
 by_cases h:j=0
 ·subst h;simp
 ·simp[h]
theorem jg.load {P:aad}{N:af}{rg:List Rg}{w:World}(h:jg N rg w){r c n:Nat}{g:Rg}(hg:rg[r]?=some g)(hc:c+n<=g.cells.length) :
  ∃p l,N[r]?=some p/\SV.ap N ((g.cells.drop c).take n)=some l/\l.length=n/\(loadCells ⟨p.b,p.o+c,none⟩ n).run P w=.ok l.toArray w:=by
 have hr:r<N.length:=aaQ (aan.1 hg).1 h.len;obtain⟨p,hp⟩:∃p,N[r]?=some p:=⟨_,aaM hr⟩;have bD:=h.cell r g p hg hp;have hlen:((g.cells.drop c).take n).length=n:=by simp;omega
 obtain⟨l,hl⟩:=SV.uL (N:=N) ((g.cells.drop c).take n) (fun j d hj=>by
  rw[aaz] at hj
  split at hj
  ·rw[aaA] at hj
   obtain⟨v,hv,_⟩:=bD (c+j) d hj;exact⟨v,hv⟩
  ·simp at hj)
 obtain⟨h1,h2⟩:=SV.aP _ hl;have h3:l.length=n:=by rw[h1,hlen]
 refine⟨p,l,hp,hl,h3,?_⟩;have:=run_loadCells_list (P:=P) w ⟨p.b,p.o+c,none⟩ l (fun j v hj=>by
  have hjn:j<n:=by rw[<-h3];exact(aan.1 hj).1
  have hd:((g.cells.drop c).take n)[j]?=g.cells[c+j]?:=by rw[aaz,if_pos hjn,aaA]
  have aF:c+j<g.cells.length:=by omega
  obtain⟨d,Ri⟩:∃d,g.cells[c+j]?=some d:=⟨_,aaM aF⟩;obtain⟨v',Nh,o6⟩:=h2 j d (by rw[hd,Ri]);obtain⟨v'',Zv,hw⟩:=bD (c+j) d Ri;rw[Nh] at Zv;rw[o6] at hj;cases Zv;cases hj;rw[dy,aaj];exact hw)
 rw[h3] at this;exact this
theorem jg.ZL {N:af}{rg:List Rg}{w:World}(h:jg N rg w){r c:Nat}{g:Rg}{d:SV}(hg:rg[r]?=some g)(hc:g.cells[c]?=some d) :
  ∃p v,N[r]?=some p/\d.den N=some v/\w.cell? ⟨p.b,p.o+c,none⟩=some v:=by
 have hr:r<N.length:=aaQ (aan.1 hg).1 h.len;obtain⟨p,hp⟩:∃p,N[r]?=some p:=⟨_,aaM hr⟩;obtain⟨v,h1,h2⟩:=h.cell r g p hg hp c d hc;exact⟨p,v,hp,h1,h2⟩
theorem CM {v:Value}(h:bc v=true):v.oneCell'=true:=by
 cases v<;>first|rfl|simp[bc] at h
theorem yn {α:Type}(l:List α)(r:Nat)(x:α)(h:l[r]?=some x):l.set r x=l:=by
 apply aa4;intro i
 by_cases e:r=i
 ·subst e;rw[aa5 (aan.1 h).1,h]
 ·rw[abv e]
theorem dP {α:Type}{l:List α}{r i:Nat}{g' x:α}(hr:r<l.length)(hx:(l.set r g')[i]?=some x):(i=r/\x=g')\/(i≠r/\l[i]?=some x):=by
 by_cases hi:r=i
 ·subst hi
  rw[aa5 hr] at hx;cases hx;exact .inl ⟨rfl,rfl⟩
 ·rw[abv hi] at hx
  exact .inr ⟨fun e=>hi e.symm,hx⟩
theorem Sat.aeB {E:Env}{N:af}{rg:List Rg}{w:World}(h:Sat E N rg w){r c:Nat}{g g':Rg}{p:aS}{s:SV}{v:Value}(hg:rg[r]?=some g)(hp:N[r]?=some p)
  (ho:g.own=true) (hc:c<p.x) (hs:s.den N=some v) (kR:g'.own=true) (fm:g'.ob=g.ob) (hl:g'.cells.length<=p.x)
  (dS:∀(j:Nat) (d:SV),g'.cells[j]?=some d->(j=c/\d=s)\/(j≠c/\g.cells[j]?=some d)) :
  Sat E N (rg.set r g') (w.setCell ⟨p.b,p.o+c,none⟩ v):=by
 have lQ:r<rg.length:=(aan.1 hg).1;obtain⟨Lf,Yr⟩:=h.room r g p hg hp ho c hc;obtain⟨v0,hw0⟩:=aap.1 Lf;have keep:∀(k o:Nat) (u:Value),(k=p.b->o≠p.o+c)->w.cell? ⟨k,o,none⟩=some u->(w.setCell ⟨p.b,p.o+c,none⟩ v).cell? ⟨k,o,none⟩=some u:=by
  intro k o u bH hu;rw[abU _ _ _ _ (fun e=>by
   have e1:=congrArg Addr.block e;have e2:=congrArg Addr.off e;simp at e1 e2;exact bH e1.symm e2.symm)]
  exact hu
 have width:∀q:aS,q=p->g'.wid q=g.wid q:=fun q hq=>by simp[Rg.wid,ho,kR]
 refine⟨by simpa using h.len,fun i q hq=>by simpa using h.lt i q hq,?_,?_,?_,?_,?_,?_,?_,?_,?_,fun k o hk=>(h.mj k o hk).of (fun hs=>by
  obtain⟨u,hu⟩:=aap.1 hs;rw[keep k o u (fun e1 e2=>h.dd r g p hg hp ho c hc (by rw[<-e1,<-e2];exact hk)) hu];rfl) (pW _ _ _ _ _),h.loc,?_,?_,?_⟩
 ·intro i x q hx hq j d hj
  rcases dP lQ hx with ⟨rfl,rfl⟩|⟨hi,hx⟩
  ·rw[hp] at hq;cases hq
   rcases dS j d hj with ⟨rfl,rfl⟩|⟨hjc,hj⟩
   ·exact⟨v,hs,abV _ _ _ hw0⟩
   ·obtain⟨u,h1,h2⟩:=h.cell i g p hg hp j d hj
    exact⟨u,h1,keep _ _ _ (fun _=>by omega) h2⟩
  ·obtain⟨u,h1,h2⟩:=h.cell i x q hx hq j d hj
   refine⟨u,h1,keep _ _ _ (fun e=>?_) h2⟩;have uT:j<x.cells.length:=(aan.1 hj).1;have hjw:j<x.wid q:=by
    unfold Rg.wid;cases od:x.own with
    |true=>have:=h.ext i x q hx hq od;simp;omega
    |false=>simpa using uT
   rcases h.eT r i g x p q hg hp hx hq ho (fun e=>hi e.symm) j hjw e with hd|hd<;>omega
 ·intro i x q hx hq dU
  rcases dP lQ hx with ⟨rfl,rfl⟩|⟨hi,hx⟩
  ·rw[hp] at hq;cases hq;exact hl
  ·exact h.ext i x q hx hq dU
 ·intro i x q hx hq dU j hj
  rw[abW];have main:∀y,rg[i]?=some y->y.own=true->((w.setCell ⟨p.b,p.o+c,none⟩ v).cell? ⟨q.b,q.o+j,none⟩).isSome=true/\w.frozen? ⟨q.b,q.o+j,none⟩=false:=by
   intro y hy hyo;obtain⟨k1,k2⟩:=h.room i y q hy hq hyo j hj;refine⟨?_,k2⟩;obtain⟨u,hu⟩:=aap.1 k1
   by_cases e:q.b=p.b/\q.o+j=p.o+c
   ·rw[e.1,e.2,abV _ _ _ hw0];rfl
   ·rw[keep _ _ _ (fun e1 e2=>e ⟨e1,e2⟩) hu];rfl
  rcases dP lQ hx with ⟨rfl,rfl⟩|⟨hi,hx⟩
  ·exact main g hg ho
  ·exact main x hx dU
 ·intro i i' x x' q q' hx hq iD cF dU bH j hj hb
  rcases dP lQ hx with ⟨rfl,rfl⟩|⟨hi,hy⟩<;>rcases dP lQ iD with ⟨rfl,rfl⟩|⟨ni,Cp⟩
  ·exact absurd rfl bH
  ·rw[hp] at hq;cases hq
   exact h.eT i i' g x' p q' hg hp Cp cF ho bH j hj hb
  ·rw[hp] at cF;cases cF
   rw[width p rfl] at hj;exact h.eT i i' x g q p hy hq hg hp dU bH j hj hb
  ·exact h.eT i i' x x' q q' hy hq Cp cF dU bH j hj hb
 ·have main:∀(i:Nat) (q:aS) (y:Rg) (ob:Ob),N[i]?=some q->rg[i]?=some y->y.ob=some ob->(∃o,ob.den N=some o/\(w.setCell ⟨p.b,p.o+c,none⟩ v).heap[q.b]?=some o)/\E.W.heap.size<=q.b/\∀o,¬E.D q.b o:=by
   intro i q y ob hq hy hyo;obtain⟨⟨o,k1,k2⟩,k3⟩:=h.obj i y q ob hy hq hyo;refine⟨⟨o,k1,?_⟩,k3⟩;simp only[aaC,aaT]
   by_cases e:p.b=q.b
   ·rw[if_pos e,k2]
    cases ob<;>simp only[Ob.den] at k1<;>split at k1<;>first|(cases k1;done)|(cases k1;rfl)
   ·rw[if_neg e];exact k2
  intro i x q ob hx hq YW;rcases dP lQ hx with ⟨rfl,rfl⟩|⟨hi,hx⟩
  ·exact main i q g ob hq hg (by rw[<-fm];exact YW)
  ·exact main i q x ob hq hx YW
 ·intro i i' x x' q q' hx hq iD cF dU qv bH
  rcases dP lQ hx with ⟨rfl,rfl⟩|⟨hi,hy⟩<;>rcases dP lQ iD with ⟨rfl,rfl⟩|⟨ni,Cp⟩
  ·exact absurd rfl bH
  ·exact h.fG i i' g x' q q' hg hq Cp cF (by rw[<-fm];exact dU) qv bH
  ·exact h.fG i i' x g q q' hy hq hg cF dU (by rw[<-fm];exact qv) bH
  ·exact h.fG i i' x x' q q' hy hq Cp cF dU qv bH
 ·intro k o u hu
  refine keep _ _ _ (fun e1 e2=>?_) (h.cK k o u hu);have:=h.lR r g p hg hp ho c hc;rw[<-e1,<-e2,hu] at this;cases this
 ·intro i x q hx hq dU
  rcases dP lQ hx with ⟨rfl,rfl⟩|⟨hi,hx⟩
  ·exact h.lR i g q hg hq ho
  ·exact h.lR i x q hx hq dU
 ·intro i x q hx hq dU
  rcases dP lQ hx with ⟨rfl,rfl⟩|⟨hi,hx⟩
  ·exact h.dd i g q hg hq ho
  ·exact h.dd i x q hx hq dU
 ·refine h.loc w _ (fun k o hk=>⟨⟨?_,abW _ _ _ _⟩,pW _ _ _ _ _⟩) (by simp[aaC]) h.fH
  refine abU _ _ _ _ (fun e=>?_);have e1:=congrArg Addr.block e;have e2:=congrArg Addr.off e;simp at e1 e2;exact h.dd r g p hg hp ho c hc (by rw[e1,e2];exact hk)
 ·exact h.aM.setCell ((h.dG r g p hg hp ho).imp id (fun f=>f c hc)) v
 ·intro i x q hx hq dU
  rcases dP lQ hx with ⟨rfl,rfl⟩|⟨hi,hx⟩
  ·exact h.dG i g q hg hq ho
  ·exact h.dG i x q hx hq dU
def putAt {α:Type}:List α->Nat->α->List α
 | [],_,s=>[s]
 |_::l,0,s=>s::l
 |x::l,c+1,s=>x::putAt l c s
theorem zb {α:Type}:∀(l:List α) (c:Nat) (s:α),c<=l.length->∀(j:Nat) (d:α),(putAt l c s)[j]?=some d->(j=c/\d=s)\/(j≠c/\l[j]?=some d)
 | [],c,s,hc,j,d,h=>by
  simp only[abw,abF] at hc;subst hc;cases j with
  |zero=>simp[putAt] at h;exact .inl ⟨rfl,h.symm⟩
  |succ j=>simp[putAt] at h
 |x::l,0,s,hc,j,d,h=>by
  cases j with
  |zero=>simp[putAt] at h;exact .inl ⟨rfl,h.symm⟩
  |succ j=>simp[putAt] at h;exact .inr ⟨by omega,by simpa using h⟩
 |x::l,c+1,s,hc,j,d,h=>by
  cases j with
  |zero=>simp[putAt] at h;exact .inr ⟨by omega,by simp[h]⟩
  |succ j =>
   simp only[putAt,aa6] at h;rcases zb l c s (by simpa using hc) j d h with ⟨h1,h2⟩|⟨h1,h2⟩
   ·exact .inl ⟨by omega,h2⟩
   ·exact .inr ⟨by omega,by simpa using h2⟩
theorem gv {α:Type}:∀(l:List α) (c:Nat) (s:α),c<=l.length->(putAt l c s).length=max l.length (c+1)
 | [],c,s,hc=>by simp only[abw,abF] at hc;subst hc;rfl
 |x::l,0,s,_=>by simp[putAt]
 |x::l,c+1,s,hc=>by simp[putAt,gv l c s (by simpa using hc)]
def setRow (l:List SV)(c:Nat):List SV->List SV
 | []=>l
 |s::r=>setRow (putAt l c s) (c+1) r
theorem lG (l:List SV)(c:Nat)(r:List SV)(h:c<=l.length):(setRow l c r).length=max l.length (c+r.length):=by
 induction r generalizing l c with
 |nil=>simp[setRow];omega
 |cons s r ih=>rw[setRow,ih _ _ (by rw[gv _ _ _ h];omega),gv _ _ _ h];simp;omega
theorem Sat.store {E:Env}{N:af}{r:Nat}{p:aS}(hp:N[r]?=some p)(c:Nat):∀(ss:List SV) (vs:List Value) (i:Nat) {rg:List Rg} {w:World} {g:Rg},Sat E N rg w->rg[r]?=some g ->
  g.own=true->c+i<=g.cells.length->c+i+ss.length<=p.x->SV.ap N ss=some vs->(∀v∈vs,bc v=true) ->
  ∃w',(aa2 ⟨p.b,p.o+c,none⟩ vs i).run E.P w=.ok () w'/\Sat E N (rg.set r { g with cells:=setRow g.cells (c+i) ss }) w'
 | [],vs,i,rg,w,g,h,hg,ho,hl,hx,hd,h1=>by
  simp only[SV.ap,aA] at hd;subst hd;refine⟨w,rfl,?_⟩;simp only[setRow];rw[yn _ _ _ (by rw[hg])];exact h
 |s::ss,vs,i,rg,w,g,h,hg,ho,hl,hx,hd,h1=>by
  simp only[SV.ap] at hd;cases hs:s.den N with
  |none=>simp[hs] at hd
  |some v =>
   cases ml:SV.ap N ss with
   |none=>simp[hs,ml] at hd
   |some Fp =>
    simp only[hs,ml,aA] at hd;subst hd;simp only[aa7] at hx;have hci:c+i<p.x:=by omega
    have hv:bc v=true:=h1 v (by simp);have gI:=h.ext r g p hg hp ho;have ey:=h.aeB (g':={ g with cells:=putAt g.cells (c+i) s }) hg hp ho hci hs ho rfl (by rw[gv _ _ _ hl];omega) (fun j d hj=>zb _ _ _ hl j d hj);have lQ:r<rg.length:=(aan.1 hg).1;obtain⟨w',a6,rO⟩:=Sat.store hp c ss Fp (i+1) (rg:=rg.set r { g with cells:=putAt g.cells (c+i) s }) (w:=w.setCell ⟨p.b,p.o+(c+i),none⟩ v) (g:={ g with cells:=putAt g.cells (c+i) s })
     ey (aa5 lQ) ho (by simp only;rw[gv _ _ _ hl];omega) (by omega) ml (fun v hv=>h1 v (by simp[hv]))
    obtain⟨Lf,Yr⟩:=h.room r g p hg hp ho (c+i) hci;obtain⟨v0,hw0⟩:=aap.1 Lf;refine⟨w',?_,?_⟩
    ·simp only[aa2,aaf]
     rw[run_store E.P w _ v .plain (CM hv),dy,aaj];simp only[hw0,Yr]
     simpa[aac] using a6
    ·rw[List.set_set] at rO
     simpa[setRow,aaj] using rO
theorem aC {α β:Type}{l:List α}{m:List β}{y:α}{z:β}(hlen:m.length=l.length){i:Nat}{x:α}{q:β}(hx:(l++[y])[i]?=some x)(hq:(m++[z])[i]?=some q) :
  (l[i]?=some x/\m[i]?=some q)\/(i=l.length/\x=y/\q=z):=by
 rcases aaF i l.length with hi|hi
 ·rw[aax hi] at hx
  rw[aax (by rw[hlen];exact hi)] at hq;exact .inl ⟨hx,hq⟩
 ·rw[aaE hi] at hx
  rw[aaE (by rw[hlen];exact hi)] at hq;have hz:i-l.length=0:=by
   have:=(aan.1 hx).1;simp at this;omega
  rw[hlen,hz] at hq;rw[hz] at hx;simp at hx hq;exact .inr ⟨by omega,hx.symm,hq.symm⟩
theorem Sat.JP {E:Env}{N:af}{rg:List Rg}{w:World}(h:Sat E N rg w)(o:Obj)(g0:Rg)(x0:Nat)
  (hc:∀(j:Nat) (c:SV),g0.cells[j]?=some c->∃v,c.den (N++[⟨w.heap.size,0,x0⟩])=some v/\(w.alloc o).cell? ⟨w.heap.size,j,none⟩=some v)
  (hx:g0.own=true->g0.cells.length<=x0) (hr:g0.own=true->∀j,j<x0->((w.alloc o).cell? ⟨w.heap.size,j,none⟩).isSome=true/\(w.alloc o).frozen? ⟨w.heap.size,j,none⟩=false)
  (fm:∀ob,g0.ob=some ob->ob.den (N++[⟨w.heap.size,0,x0⟩])=some o) :
  Sat E (N++[⟨w.heap.size,0,x0⟩]) (rg++[g0]) (w.alloc o):=by
 have hle:N.le (N++[⟨w.heap.size,0,x0⟩]):=af.aZ _ _;have part:∀(i:Nat) (x:Rg) (q:aS),(rg++[g0])[i]?=some x->(N++[⟨w.heap.size,0,x0⟩])[i]?=some q ->
   (rg[i]?=some x/\N[i]?=some q/\q.b<w.heap.size)\/(i=rg.length/\x=g0/\q=⟨w.heap.size,0,x0⟩):=by
  intro i x q hx hq;rcases aC h.len hx hq with ⟨a,b⟩|⟨a,b,c⟩
  ·exact .inl ⟨a,b,h.lt i q b⟩
  ·exact .inr ⟨a,b,c⟩
 refine⟨by simp[h.len],?_,?_,?_,?_,?_,?_,?_,?_,?_,?_,fun k o' hk=>(h.mj k o' hk).of (fun hs=>by rw[aaH _ _ _ (h.mj k o' hk).lt];exact hs) (ud _ _ (h.mj k o' hk).lt),h.loc,?_,h.aM.alloc _,?_⟩
 ·intro i q hq
  rcases aaF i N.length with hi|hi
  ·rw[aax hi] at hq
   have:=h.lt i q hq;simp;omega
  ·rw[aaE hi] at hq
   have hz:i-N.length=0:=by
    have:=(aan.1 hq).1;simp at this;omega
   rw[hz] at hq;simp at hq;subst hq;simp
 ·intro i x q hx hq j d hj
  rcases part i x q hx hq with ⟨a,b,c⟩|⟨a,rfl,rfl⟩
  ·obtain⟨v,h1,h2⟩:=h.cell i x q a b j d hj
   exact⟨v,SV.bf hle d h1,by rw[aaH _ _ _ c];exact h2⟩
  ·obtain⟨v,h1,h2⟩:=hc j d hj
   exact⟨v,h1,by simpa using h2⟩
 ·intro i x q iD hq dU
  rcases part i x q iD hq with ⟨a,b,c⟩|⟨a,rfl,rfl⟩
  ·exact h.ext i x q a b dU
  ·exact hx dU
 ·intro i x q hx hq dU j hj
  rcases part i x q hx hq with ⟨a,b,c⟩|⟨a,rfl,rfl⟩
  ·rw[abX _ _ _ (abG c),aaH _ _ _ c];exact h.room i x q a b dU j hj
  ·simpa using hr dU j hj
 ·intro i i' x x' q q' hx hq iD cF dU bH j hj hb
  rcases part i x q hx hq with ⟨a,b,c⟩|⟨a,rfl,rfl⟩<;>rcases part i' x' q' iD cF with ⟨a',b',c'⟩|⟨a',rfl,rfl⟩
  ·exact h.eT i i' x x' q q' a b a' b' dU bH j hj hb
  ·simp at hb;omega
  ·simp at hb;omega
  ·omega
 ·intro i x q ob hx hq od
  rcases part i x q hx hq with ⟨a,b,c⟩|⟨a,rfl,rfl⟩
  ·obtain⟨⟨o',k1,k2⟩,k3⟩:=h.obj i x q ob a b od
   refine⟨⟨o',Ob.bf hle ob k1,?_⟩,k3⟩;show(w.heap.push _)[q.b]?=_;rw[abb,if_neg (by omega)];exact k2
  ·refine⟨⟨o,fm ob od,?_⟩,h.aM.size,fun o' hd=>Nat.lt_irrefl _ (h.mj _ _ hd).lt⟩
   show(w.heap.push _)[w.heap.size]?=_;simp
 ·intro i i' x x' q q' hx hq iD cF dU qv bH
  rcases part i x q hx hq with ⟨a,b,c⟩|⟨a,rfl,rfl⟩<;>rcases part i' x' q' iD cF with ⟨a',b',c'⟩|⟨a',rfl,rfl⟩
  ·exact h.fG i i' x x' q q' a b a' b' dU qv bH
  ·simp;omega
  ·simp;omega
  ·omega
 ·intro k o v hv
  have:=h.cK k o v hv;rw[aaH _ _ _ (abh _ _ this)];exact this
 ·intro i x q hx hq dU j hj
  rcases part i x q hx hq with ⟨a,b,c⟩|⟨a,rfl,rfl⟩
  ·exact h.lR i x q a b dU j hj
  ·cases hi:E.im w.heap.size (0+j) with
   |none=>rfl
   |some v=>have:=abh _ _ (h.cK _ _ _ hi);simp at this
 ·intro i x q hx hq dU
  rcases part i x q hx hq with ⟨a,b,c⟩|⟨a,rfl,rfl⟩
  ·exact h.dd i x q a b dU
  ·intro j hj hd
   have:=(h.mj _ _ hd).lt;simp at this
 ·refine h.loc w _ (fun k o' hk=>?_) (by simp) h.fH
  have aF:=(h.mj k o' hk).lt;exact⟨⟨aaH _ _ _ aF,abX _ _ _ (abG aF)⟩,ud _ _ aF⟩
 ·intro i x q hx hq dU
  rcases part i x q hx hq with ⟨a,b,c⟩|⟨a,rfl,rfl⟩
  ·exact h.dG i x q a b dU
  ·exact .inl h.aM.size
theorem Sat.JQ {E:Env}{N:af}{rg:List Rg}{w:World}(h:Sat E N rg w){cs:List SV}{l m:List Value}(hl:SV.ap N cs=some l)(t:TypeId) :
  Sat E (N++[⟨w.heap.size,0,(l++m).length⟩]) (rg++[⟨true,cs,none⟩]) (w.alloc (.cells (l++m).toArray t)):=by
 obtain⟨hlen,ef⟩:=SV.aP cs hl;refine h.JP _ ⟨true,cs,none⟩ _ (fun j c hj=>?_) (fun _=>by simp;omega) (fun _ j hj=>?_) (fun ob fm=>by cases fm)
 ·obtain⟨v,h1,h2⟩:=ef j c hj
  refine⟨v,SV.bf (af.aZ _ _) c h1,?_⟩;rw[abY];have:j<l.length:=(aan.1 h2).1;simp only[aa8];rw[aax this];exact h2
 ·rw[abY]
  simp at hj ⊢;omega
theorem Sat.alloc {E:Env}{N:af}{rg:List Rg}{w:World}(h:Sat E N rg w){cs:List SV}{l:List Value}(hl:SV.ap N cs=some l)(t:TypeId) :
  Sat E (N++[⟨w.heap.size,0,l.length⟩]) (rg++[⟨true,cs,none⟩]) (w.alloc (.cells l.toArray t)):=by
 have:=h.JQ (m:=[]) hl t
 simpa using this
theorem Sat.cut {E:Env}{N:af}{rg:List Rg}{w:World}(h:Sat E N rg w){r c n:Nat}{g:Rg}{p:aS}(hg:rg[r]?=some g)(hp:N[r]?=some p)(ho:g.own=true)(hc:c+n<=g.cells.length) :
  Sat E (N++[⟨p.b,p.o+c,p.x-c⟩]) (rg.set r ⟨false,[],none⟩++[⟨true,(g.cells.drop c).take n,none⟩]) w:=by
 have lQ:r<rg.length:=(aan.1 hg).1;have hle:N.le (N++[⟨p.b,p.o+c,p.x-c⟩]):=af.aZ _ _;have gI:=h.ext r g p hg hp ho
 -- a region of the new lists: afC up,an c_ one,or the new
 have part:∀(i:Nat) (x:Rg) (q:aS),(rg.set r ⟨false,[],none⟩++[⟨true,(g.cells.drop c).take n,none⟩])[i]?=some x->(N++[⟨p.b,p.o+c,p.x-c⟩])[i]?=some q ->
   (i=r/\x=⟨false,[],none⟩/\q=p)\/(i≠r/\rg[i]?=some x/\N[i]?=some q)\/(i=rg.length/\x=⟨true,(g.cells.drop c).take n,none⟩/\q=⟨p.b,p.o+c,p.x-c⟩):=by
  intro i x q hx hq;rcases aC (by rw[abx];exact h.len) hx hq with ⟨a,b⟩|⟨a,b,c⟩
  ·rcases dP lQ a with ⟨rfl,rfl⟩|⟨hi,a⟩
   ·rw[hp] at b;cases b;exact .inl ⟨rfl,rfl,rfl⟩
   ·exact .inr (.inl ⟨hi,a,b⟩)
  ·rw[abx] at a
   exact .inr (.inr ⟨a,b,c⟩)
 refine⟨by simp[h.len],?_,?_,?_,?_,?_,?_,?_,h.cK,?_,?_,h.mj,h.loc,h.fH,h.aM,?_⟩
 ·intro i q hq
  rcases aaF i N.length with hi|hi
  ·rw[aax hi] at hq
   exact h.lt i q hq
  ·rw[aaE hi] at hq
   have hz:i-N.length=0:=by
    have:=(aan.1 hq).1;simp at this;omega
   rw[hz] at hq;simp at hq;subst hq;exact h.lt r p hp
 ·intro i x q hx hq j d hj
  rcases part i x q hx hq with ⟨_,rfl,_⟩|⟨_,a,b⟩|⟨_,rfl,rfl⟩
  ·simp at hj
  ·obtain⟨v,h1,h2⟩:=h.cell i x q a b j d hj
   exact⟨v,SV.bf hle d h1,h2⟩
  ·rw[aaz] at hj
   split at hj
   ·rw[aaA] at hj
    obtain⟨v,h1,h2⟩:=h.cell r g p hg hp (c+j) d hj;exact⟨v,SV.bf hle d h1,by simpa[aaj] using h2⟩
   ·simp at hj
 ·intro i x q hx hq dU
  rcases part i x q hx hq with ⟨_,rfl,_⟩|⟨_,a,b⟩|⟨_,rfl,rfl⟩
  ·simp
  ·exact h.ext i x q a b dU
  ·simp;omega
 ·intro i x q hx hq dU j hj
  rcases part i x q hx hq with ⟨_,rfl,_⟩|⟨_,a,b⟩|⟨_,rfl,rfl⟩
  ·simp at dU
  ·exact h.room i x q a b dU j hj
  ·simp at hj
   have:=h.room r g p hg hp ho (c+j) (by omega)
   simpa[aaj] using this
 ·intro i i' x x' q q' hx hq iD cF dU bH j hj hb
  rcases part i x q hx hq with ⟨_,rfl,_⟩|⟨hi,a,b⟩|⟨hi,rfl,rfl⟩
  ·simp at dU
  ·rcases part i' x' q' iD cF with ⟨_,rfl,_⟩|⟨ni,a',b'⟩|⟨ni,rfl,rfl⟩
   ·simp[Rg.wid] at hj
   ·exact h.eT i i' x x' q q' a b a' b' dU bH j hj hb
   ·simp[Rg.wid] at hj hb ⊢
    have:=h.eT i r x g q p a b hg hp dU hi (c+j) (by simp[Rg.wid,ho];omega) hb;omega
  ·rcases part i' x' q' iD cF with ⟨_,rfl,_⟩|⟨ni,a',b'⟩|⟨ni,rfl,rfl⟩
   ·simp[Rg.wid] at hj
   ·simp at hb ⊢
    have:=h.eT r i' g x' p q' hg hp a' b' ho (fun e=>ni e.symm) j hj hb;omega
   ·omega
 ·intro i x q ob hx hq od
  rcases part i x q hx hq with ⟨_,rfl,_⟩|⟨_,a,b⟩|⟨_,rfl,rfl⟩
  ·simp at od
  ·obtain⟨⟨o',k1,k2⟩,k3⟩:=h.obj i x q ob a b od
   exact⟨⟨o',Ob.bf hle ob k1,k2⟩,k3⟩
  ·simp at od
 ·intro i i' x x' q q' hx hq iD cF dU qv bH
  rcases part i x q hx hq with ⟨_,rfl,_⟩|⟨_,a,b⟩|⟨_,rfl,rfl⟩
  ·simp at dU
  ·rcases part i' x' q' iD cF with ⟨_,rfl,_⟩|⟨ni,a',b'⟩|⟨ni,rfl,rfl⟩
   ·simp at qv
   ·exact h.fG i i' x x' q q' a b a' b' dU qv bH
   ·simp at qv
  ·simp at dU
 ·intro i x q hx hq dU j hj
  rcases part i x q hx hq with ⟨_,rfl,_⟩|⟨_,a,b⟩|⟨_,rfl,rfl⟩
  ·simp at dU
  ·exact h.lR i x q a b dU j hj
  ·simp at hj ⊢
   have:=h.lR r g p hg hp ho (c+j) (by omega)
   simpa[aaj] using this
 ·intro i x q hx hq dU
  rcases part i x q hx hq with ⟨_,rfl,_⟩|⟨_,a,b⟩|⟨_,rfl,rfl⟩
  ·simp at dU
  ·exact h.dd i x q a b dU
  ·intro j hj
   simp at hj;have:=h.dd r g p hg hp ho (c+j) (by omega)
   simpa[aaj] using this
 ·intro i x q hx hq dU
  rcases part i x q hx hq with ⟨_,rfl,_⟩|⟨_,a,b⟩|⟨_,rfl,rfl⟩
  ·simp at dU
  ·exact h.dG i x q a b dU
  ·rcases h.dG r g p hg hp ho with hf|hf
   ·exact .inl hf
   ·refine .inr fun j hj=>?_
    simp at hj;have:=hf (c+j) (by omega)
    simpa[aaj] using this
def mD (P:aad)(t:Nat):Bool :=
 match P.underlying t with
 |some (.struct _)=>true
 |some (.array _ _)=>true
 |_=>false
theorem tD {P:aad}{t:Nat}(h:(P.underlying t).isSome=true)(w:World):(aay t).run P w=.ok (mD P t) w:=by
 obtain⟨d,hd⟩:=aap.1 h;simp only[aay,aaf,run_underlying hd,aac,mD,hd];cases d<;>rfl
theorem run_sizeOf {P:aad}{t:Nat}{i:aaK}(h:P.info? t=some i)(w:World):(aao t).run P w=.ok i.size w:=by
 simp[aao,typeInfo,h,aac]
def sg (sh:Nat->Option (List Bool)):List Field->Nat->Option (List Bool)
 | [],_=>some []
 |f::fs,o=>bif decide (f.name ≠ "_")&&aae f.offset o then
   match sh f.type with
   |some s=>match sg sh fs (o+s.length) with
    |some r=>some (s++r)
    |none=>none
   |none=>none
  else none
def sized (P:aad)(t:Nat)(s:List Bool):Option (List Bool) :=
 match P.info? t with
 |some i=>bif aae i.size s.length then some s else none
 |none=>none
def shapeOf (P:aad):Nat->Nat->Option (List Bool)
 |0,_=>none
 |m+1,t=>match P.underlying t with
  |some (.int _)=>sized P t [true]
  |some .bool=>sized P t [false]
  |some (.struct fs)=>bif P.stoodInHeld t then none else match sg (shapeOf P m) fs.toList 0 with
   |some s=>sized P t s
   |none=>none
  |_=>none
def Fit:List Bool->List Value->List Value->Prop
 | [],[],[]=>True
 |true::sh,u::xs,v::ys=>(∃k a b,u=.int k a/\v=.int k b)/\Fit sh xs ys
 |false::sh,u::xs,v::ys=>(∃a b,u=.bool a/\v=.bool b)/\Fit sh xs ys
 |_,_,_=>False
def XL:Value->Value->Bool
 | .int _ a,.int _ b=>a == b
 | .bool a,.bool b=>a == b
 |_,_=>false
def mE:List Value->List Value->Bool
 |u::xs,v::ys=>XL u v&&mE xs ys
 |_,_=>true
theorem Fit.len:∀{sh:List Bool} {xs ys:List Value},Fit sh xs ys->xs.length=sh.length/\ys.length=sh.length
 | [],[],[],_=>⟨rfl,rfl⟩
 |true::sh,u::xs,v::ys,h=>by have:=Fit.len h.2;simp[this]
 |false::sh,u::xs,v::ys,h=>by have:=Fit.len h.2;simp[this]
theorem Fit.split:∀{s r:List Bool} {xs ys:List Value},Fit (s++r) xs ys->∃x1 x2 y1 y2,xs=x1++x2/\ys=y1++y2/\Fit s x1 y1/\Fit r x2 y2
 | [],r,xs,ys,h=>⟨[],xs,[],ys,rfl,rfl,trivial,h⟩
 |true::s,r,u::xs,v::ys,h=>by
  obtain⟨x1,x2,y1,y2,rfl,rfl,h1,h2⟩:=Fit.split (s:=s) h.2;exact⟨u::x1,x2,v::y1,y2,rfl,rfl,⟨h.1,h1⟩,h2⟩
 |false::s,r,u::xs,v::ys,h=>by
  obtain⟨x1,x2,y1,y2,rfl,rfl,h1,h2⟩:=Fit.split (s:=s) h.2;exact⟨u::x1,x2,v::y1,y2,rfl,rfl,⟨h.1,h1⟩,h2⟩
 |true::s,r,[],_,h=>h.elim
 |true::s,r,_::_,[],h=>h.elim
 |false::s,r,[],_,h=>h.elim
 |false::s,r,_::_,[],h=>h.elim
theorem nQ:∀{s:List Bool} {x1 y1:List Value} (x2 y2:List Value),Fit s x1 y1->mE (x1++x2) (y1++y2)=(mE x1 y1&&mE x2 y2)
 | [],[],[],x2,y2,_=>by simp[mE]
 |true::s,u::xs,v::ys,x2,y2,h=>by simp[mE,nQ x2 y2 h.2,abt]
 |false::s,u::xs,v::ys,x2,y2,h=>by simp[mE,nQ x2 y2 h.2,abt]
def Ly (agg:Bool)(xs:List Value):Value:=bif agg then .agg xs.toArray else xs.headD undef
theorem CO {P:aad}{t:Nat}{agg:Bool}{n:Nat}{w:World}(hs:(aao t).run P w=.ok n w)(ha:(aay t).run P w=.ok agg w)(pre x post:List Value)(hx:x.length=n)(h1:agg=false->x.length=1) :
  (part t (pre++(x++post)).toArray pre.length).run P w=.ok (Ly agg x) w:=by
 cases agg with
 |true =>
  simp only[part,aaf,ha,aac,if_true,hs,aak,Ly,cond_true]
  congr 2
  apply aaG;simp[<-hx]
 |false =>
  have:=h1 rfl
  match x,this with
  | [v],_ =>
   simp only[part,aaf,ha,aac,aau,if_false,Ly,cond_false];simp
theorem qI {P:aad}{t:Nat}{s r:List Bool}(h:sized P t s=some r):r=s/\∀w,(aao t).run P w=.ok s.length w:=by
 unfold sized at h
 split at h
 ·rename_i i hi
  cases hb:aae i.size s.length with
  |false=>rw[hb] at h;simp at h
  |true =>
   rw[hb] at h;simp only[cond_true,aA] at h;subst h;exact⟨rfl,fun w=>by rw[run_sizeOf hi,aal hb]⟩
 ·cases h
theorem p8 {P:aad} {m:Nat} (ih:∀(t:Nat) (sh:List Bool),shapeOf P m t=some sh->(∀w,(aao t).run P w=.ok sh.length w)/\(P.underlying t).isSome=true/\(mD P t=false->sh.length=1) /\
  ∀(d:Nat),m<=d->∀(xs ys:List Value) (w:World),Fit sh xs ys->(Op.equalIn d t (Ly (mD P t) xs) (Ly (mD P t) ys)).run P w=.ok (mE xs ys) w) :
  ∀(fs:List Field) (sh:List Bool) (px py:List Value),px.length=py.length->sg (shapeOf P m) fs px.length=some sh->∀(d:Nat),m<=d->∀(xs ys:List Value) (w:World),Fit sh xs ys ->
   (Op.eqFields d (px++xs).toArray (py++ys).toArray fs).run P w=.ok (mE xs ys) w
 | [],sh,px,py,_,h,d,hd,xs,ys,w,hf=>by
  simp only[sg,aA] at h;subst h
  match xs,ys,hf with
  | [],[],_=>simp[Op.eqFields,mE]
 |f::fs,sh,px,py,hp,h,d,hd,xs,ys,w,hf=>by
  simp only[sg] at h;cases hb:(decide (f.name ≠ "_")&&aae f.offset px.length) with
  |false=>rw[hb] at h;simp at h
  |true =>
   rw[hb] at h;simp only[cond_true] at h;simp only[aag,decide_eq_true_eq] at hb;obtain⟨YP,K6⟩:=hb;have K6:=aal K6
   split at h
   ·rename_i s hs
    split at h
    ·rename_i r hr
     simp only[aA] at h;subst h;obtain⟨x1,x2,y1,y2,rfl,rfl,MY,hf2⟩:=hf.split;obtain⟨k1,k2,k3,k4⟩:=ih _ _ hs;have hl:=MY.len;have hag:=tD (P:=P) k2 w;have e1:=CO (k1 w) hag px x1 x2 hl.1 (fun h=>by rw[hl.1];exact k3 h);have e2:=CO (k1 w) hag py y1 y2 hl.2 (fun h=>by rw[hl.2];exact k3 h);simp only[Op.eqFields,if_pos YP,aaf,K6,e1,aac];rw[hp,e2];simp only[k4 d hd x1 y1 w MY,Sem.run_ite];rw[nQ x2 y2 MY];cases hc:mE x1 y1 with
     |false=>simp
     |true =>
      simp only[aaL,aau,if_false,Bool.true_and];have:=p8 ih fs r (px++x1) (py++y1) (by simp[hp,hl]) (by rw[List.length_append,hl.1];exact hr) d hd x2 y2 w hf2
      simpa[List.append_assoc] using this
    ·cases h
   ·cases h
theorem yt {P:aad}:∀(m t:Nat) (sh:List Bool),shapeOf P m t=some sh->(∀w,(aao t).run P w=.ok sh.length w)/\(P.underlying t).isSome=true/\(mD P t=false->sh.length=1) /\
  ∀(d:Nat),m<=d->∀(xs ys:List Value) (w:World),Fit sh xs ys->(Op.equalIn d t (Ly (mD P t) xs) (Ly (mD P t) ys)).run P w=.ok (mE xs ys) w:=by
 intro m
 induction m with
 |zero=>intro t sh h;simp[shapeOf] at h
 |succ m ih =>
  intro t sh h;simp only[shapeOf] at h
  split at h
  ·rename_i k hu
   obtain⟨rfl,hs⟩:=qI h;have ha:mD P t=false:=by simp[mD,hu]
   refine⟨hs,by simp[hu],fun _=>rfl,fun d hd xs ys w hf=>?_⟩;obtain⟨u,rfl⟩:=aaN.1 hf.len.1;obtain⟨v,rfl⟩:=aaN.1 hf.len.2;obtain⟨⟨k',a,b,rfl,rfl⟩,_⟩:=hf;obtain⟨d,rfl⟩:∃d',d=d'+1:=⟨d-1,by omega⟩;rw[ha];simp only[Ly,cond_false,aby];rw[run_equalIn_int w d t k' k a b hu];simp[mE,XL]
  ·rename_i hu
   obtain⟨rfl,hs⟩:=qI h;have ha:mD P t=false:=by simp[mD,hu]
   refine⟨hs,by simp[hu],fun _=>rfl,fun d hd xs ys w hf=>?_⟩;obtain⟨u,rfl⟩:=aaN.1 hf.len.1;obtain⟨v,rfl⟩:=aaN.1 hf.len.2;obtain⟨⟨a,b,rfl,rfl⟩,_⟩:=hf;obtain⟨d,rfl⟩:∃d',d=d'+1:=⟨d-1,by omega⟩;rw[ha];simp only[Ly,cond_false,aby];rw[run_equalIn_bool' w d t a b hu];simp[mE,XL]
  ·rename_i fs hu
   cases gU:P.stoodInHeld t with
   |true=>rw[gU] at h;simp at h
   |false =>
    rw[gU] at h;simp only[cond_false] at h
    split at h
    ·rename_i s hs
     obtain⟨rfl,AC⟩:=qI h;have ha:mD P t=true:=by simp[mD,hu]
     have MZ:P.fieldsOf t=fs:=by simp[Program.fieldsOf,hu]
     refine⟨AC,by simp[hu],fun e=>(by rw[ha] at e;cases e),fun d hd xs ys w hf=>?_⟩;obtain⟨d,rfl⟩:∃d',d=d'+1:=⟨d-1,by omega⟩;rw[ha];simp only[Ly,cond_true];rw[run_equalIn_struct w d t _ _ (by rw[MZ];exact hu) gU,MZ];exact p8 ih fs.toList sh [] [] rfl hs d (by omega) xs ys w hf
    ·cases h
  ·cases h
inductive TK where
 |other|bool|string|pointer
 |int (k:IntKind)
 |struct (fs:List (Nat × Nat × Bool))
 |array (n e:Nat)
 |slice (e:Nat)
 |map (k e:Nat)
 |chan (e:Nat)
 deriving Inhabited
structure TI where
 agg:Bool
 size:Nat
 bytes:Nat
 zero:List SV
 kind:TK
 UU:Option (List Bool):=none
 deriving Inhabited
abbrev aQ:=List (Nat × TI)
def bo:aQ->Nat->Option TI
 | [],_=>none
 |(k,v)::r,t=>bif aae k t then some v else bo r t
def TK.ZR (P:aad)(t:Nat):TK->Prop
 | .other=>True
 | .bool=>P.underlying t=some .bool
 | .string=>P.underlying t=some .string
 | .pointer=>∃e,P.underlying t=some (.pointer e)
 | .int k=>P.underlying t=some (.int k)
 | .struct fs=>∃fields,P.underlying t=some (.struct fields)/\fs=fields.toList.map (fun f=>(f.offset,P.cellsOf f.type,mD P f.type)) /\
   ∀f∈fields.toList,(P.info? f.type).isSome=true/\(P.underlying f.type).isSome=true
 | .array n e=>P.underlying t=some (.array n e)
 | .slice e=>P.underlying t=some (.slice e)
 | .map k e=>P.underlying t=some (.map k e)
 | .chan e=>∃d,P.underlying t=some (.chan d e)
structure TI.ZR (P:aad) (t:Nat) (ti:TI):Prop where
 size:∀w,(aao t).run P w=.ok ti.size w
 info:∃i,P.info? t=some i/\i.bytes=ti.bytes
 agg:∀w,(aay t).run P w=.ok ti.agg w
 zero:∃z,(∀w,(zeroValue t).run P w=.ok z w)/\SV.ap [] ti.zero=some z.cells.toList
 kind:ti.kind.ZR P t
 UU:∀sh,ti.UU=some sh->P.eqGuardType P.depth t=false/\∀(xs ys:List Value) (w:World),Fit sh xs ys->(Op.equalIn 10000 t (.agg xs.toArray) (.agg ys.toArray)).run P w=.ok (mE xs ys) w
def Ao (P:aad)(t:Nat):Option (List Bool):=bif mD P t&&!P.eqGuardType P.depth t then shapeOf P 16 t else none
theorem x5 {P:aad}{t:Nat}{sh:List Bool}(h:Ao P t=some sh):P.eqGuardType P.depth t=false/\∀(xs ys:List Value) (w:World),Fit sh xs ys->(Op.equalIn 10000 t (.agg xs.toArray) (.agg ys.toArray)).run P w=.ok (mE xs ys) w:=by
 unfold Ao at h;cases hb:(mD P t&&!P.eqGuardType P.depth t) with
 |false=>rw[hb] at h;simp at h
 |true =>
  rw[hb] at h;simp only[cond_true] at h;simp only[aag,abq] at hb;refine⟨hb.2,fun xs ys w hf=>?_⟩;obtain⟨_,_,_,h4⟩:=yt _ _ _ h;have:=h4 10000 (by omega) xs ys w hf;rw[hb.1] at this
  simpa[Ly] using this
def aQ.ok (P:aad)(T:aQ):Prop:=∀t ti,bo T t=some ti->ti.ZR P t
def Ln (P:aad)(t:Nat):TK :=
 match P.underlying t with
 |some .bool=>.bool
 |some .string=>.string
 |some (.pointer _)=>.pointer
 |some (.int k)=>.int k
 |some (.struct fields) =>
  if fields.toList.all (fun f=>(P.info? f.type).isSome&&(P.underlying f.type).isSome) then .struct (fields.toList.map (fun f=>(f.offset,P.cellsOf f.type,mD P f.type))) else .other
 |some (.array n e)=>.array n e
 |some (.slice e)=>.slice e
 |some (.map k e)=>.map k e
 |some (.chan _ e)=>.chan e
 |_=>.other
def TI.of (P:aad)(t:Nat):Option TI :=
 match P.info? t with
 |some i=>match i.zero with
  |some z=>if (P.underlying t).isSome&&z.cells.toList.all bc then some ⟨mD P t,i.size,i.bytes,z.cells.toList.map CL,Ln P t,Ao P t⟩ else none
  |none=>none
 |none=>none
theorem vM {N:af}:∀(l:List Value),l.all bc=true->SV.ap N (l.map CL)=some l
 | [],_=>rfl
 |v::l,h=>by
  simp only[List.all_cons,aag] at h;simp[SV.ap,yZ h.1,vM l h.2]
theorem TI.GF {P:aad}{t:Nat}{ti:TI}(h:TI.of P t=some ti):ti.ZR P t:=by
 unfold TI.of at h
 split at h
 ·rename_i i hi
  split at h
  ·rename_i z hz
   split at h
   ·rename_i hc
    simp only[aag] at hc;simp only[aA] at h;subst h;refine⟨fun w=>run_sizeOf hi w,⟨i,hi,rfl⟩,fun w=>tD hc.1 w,⟨z,fun w=>by simp[zeroValue,typeInfo,hi,hz,aac],vM _ hc.2⟩,?_,fun sh h=>x5 h⟩;simp only[Ln];obtain⟨d,hd⟩:=aap.1 hc.1;rw[hd];cases d<;>simp only<;>first|exact hd|exact⟨_,hd⟩|trivial|skip
    split
    ·rename_i ha
     refine⟨_,hd,rfl,fun f hf=>?_⟩;have:=List.all_eq_true.1 ha f hf
     simpa using this
    ·trivial
   ·cases h
  ·cases h
 ·cases h
def nu (n:Nat)(l:List SV):List SV :=
 match n with
 |0=>[]
 |n+1=>l++nu n l
def nth {α:Type}:List α->Nat->Option α
 | [],_=>none
 |x::_,0=>some x
 |_::r,n+1=>nth r n
theorem bT {α:Type}:∀(l:List α) (n:Nat),nth l n=l[n]?
 | [],_=>by simp[nth]
 |_::_,0=>by simp[nth]
 |_::r,n+1=>by simp[nth,bT r n]
def UJ (k:IntKind):SI->SI->SI
 | .lit x,.lit y=>.lit (k.wrap (x+y))
 |a,b=>.wrap k (.add a b)
def Qy (k:IntKind):SI->SI->SI
 | .lit x,.lit y=>.lit (k.wrap (x-y))
 |a,b=>.wrap k (.sub a b)
def Wi (k:IntKind):SI->SI->SI
 | .lit x,.lit y=>.lit (k.wrap (x*y))
 |a,b=>.wrap k (.mul a b)
def eqI:SI->SI->SB
 | .lit x,.lit y=>.lit (x == y)
 |a,b=>.eq a b
def neI:SI->SI->SB
 | .lit x,.lit y=>.lit (x != y)
 |a,b=>.ne a b
def ltI:SI->SI->SB
 | .lit x,.lit y=>.lit (decide (x<y))
 |a,b=>.lt a b
def leI:SI->SI->SB
 | .lit x,.lit y=>.lit (decide (x<=y))
 |a,b=>.le a b
def gtI:SI->SI->SB
 | .lit x,.lit y=>.lit (decide (y<x))
 |a,b=>.gt a b
def geI:SI->SI->SB
 | .lit x,.lit y=>.lit (decide (y<=x))
 |a,b=>.ge a b
theorem JO (k:IntKind)(a b:SI):(UJ k a b).den=k.wrap (a.den+b.den):=by unfold UJ;split<;>rfl
theorem De (k:IntKind)(a b:SI):(Qy k a b).den=k.wrap (a.den-b.den):=by unfold Qy;split<;>rfl
theorem Lz (k:IntKind)(a b:SI):(Wi k a b).den=k.wrap (a.den*b.den):=by unfold Wi;split<;>rfl
theorem F0 (a b:SI):(eqI a b).den=(a.den == b.den):=by unfold eqI;split<;>rfl
theorem Qc (a b:SI):(neI a b).den=(a.den != b.den):=by unfold neI;split<;>rfl
theorem P8 (a b:SI):(ltI a b).den=decide (a.den<b.den):=by unfold ltI;split<;>rfl
theorem P6 (a b:SI):(leI a b).den=decide (a.den<=b.den):=by unfold leI;split<;>rfl
theorem Pv (a b:SI):(gtI a b).den=decide (b.den<a.den):=by unfold gtI;split<;>rfl
theorem Pp (a b:SI):(geI a b).den=decide (b.den<=a.den):=by unfold geI;split<;>rfl
def Ia:SB->SB
 | .lit b=>.lit (!b)
 | .not b=>b
 |b=>.not b
theorem rT (b:SB):(Ia b).den=!b.den:=by
 unfold Ia;split<;>simp[SB.den]
def orB:SB->SB->SB
 | .lit true,_=>.lit true
 | .lit false,b=>b
 |a,.lit false=>a
 |_,.lit true=>.lit true
 |a,b=>.or a b
theorem GI (a b:SB):(orB a b).den=(a.den ||b.den):=by
 unfold orB;split<;>simp[SB.den]
def D1:SB->SB->SB
 | .lit false,_=>.lit false
 | .lit true,b=>b
 |a,.lit true=>a
 |_,.lit false=>.lit false
 |a,b=>.and a b
theorem nN (a b:SB):(D1 a b).den=(a.den&&b.den):=by
 unfold D1;split<;>simp[SB.den]
def vC (op:aaq)(k:IntKind):SI->SI->SI
 | .lit x,.lit y=>.lit (ig op k x y)
 |a,b=>.bits op k a b
def Wq (k:IntKind):SI->Int->SI
 | .lit x,y=>.lit (k.wrap (x.tdiv y))
 |a,y=>.wrap k (.quo a (.lit y))
def Wr:SI->Int->SI
 | .lit x,y=>.lit (x.tmod y)
 |a,y=>.rem a (.lit y)
def Ws (k:IntKind):SI->Nat->SI
 | .lit x,n=>.lit (k.wrap (x*2 ^ n))
 |a,n=>.wrap k (.shl a n)
def Wt:SI->Nat->SI
 | .lit x,n=>.lit (x.fdiv (2 ^ n))
 |a,n=>.shr a n
def mxI:SI->SI->SI
 | .lit x,.lit y=>.lit (if x<y then y else x)
 |a,b=>.mx a b
def mnI:SI->SI->SI
 | .lit x,.lit y=>.lit (if y<x then y else x)
 |a,b=>.mn a b
theorem lU (op:aaq)(k:IntKind)(a b:SI):(vC op k a b).den=ig op k a.den b.den:=by unfold vC;split<;>rfl
theorem L4 (k:IntKind)(a:SI)(y:Int):(Wq k a y).den=k.wrap (a.den.tdiv y):=by unfold Wq;split<;>rfl
theorem L7 (a:SI)(y:Int):(Wr a y).den=a.den.tmod y:=by unfold Wr;split<;>rfl
theorem Mh (k:IntKind)(a:SI)(n:Nat):(Ws k a n).den=k.wrap (a.den*2 ^ n):=by unfold Ws;split<;>rfl
theorem Mi (a:SI)(n:Nat):(Wt a n).den=a.den.fdiv (2 ^ n):=by unfold Wt;split<;>rfl
theorem Qb (a b:SI):(mxI a b).den=if a.den<b.den then b.den else a.den:=by unfold mxI;split<;>rfl
theorem Qa (a b:SI):(mnI a b).den=if b.den<a.den then b.den else a.den:=by unfold mnI;split<;>rfl
def Gt (op:aaq)(k:IntKind)(a b:SI):Option SV :=
 match op with
 | .add=>some (.int k (UJ k a b))
 | .sub=>some (.int k (Qy k a b))
 | .mul=>some (.int k (Wi k a b))
 | .eql=>some (.bool (eqI a b))
 | .neq=>some (.bool (neI a b))
 | .lss=>some (.bool (ltI a b))
 | .leq=>some (.bool (leI a b))
 | .gtr=>some (.bool (gtI a b))
 | .geq=>some (.bool (geI a b))
 | .and=>some (.int k (vC .and k a b))
 | .or=>some (.int k (vC .or k a b))
 | .xor=>some (.int k (vC .xor k a b))
 | .andNot=>some (.int k (vC .andNot k a b))
 | .quo=>match b with
  | .lit z=>bif decide (z=0) then none else some (.int k (Wq k a z))
  |_=>none
 | .rem=>match b with
  | .lit z=>bif decide (z=0) then none else some (.int k (Wr a z))
  |_=>none
 |_=>none
def kn:IntKind->Nat
 | .i8=>0 | .i16=>1 | .i32=>2 | .i64=>3 | .u8=>4 | .u16=>5 | .u32=>6 | .u64=>7
def kq (a b:IntKind):Bool:=aae (kn a) (kn b)
theorem RM {a b:IntKind}(h:kq a b=true):a=b:=by
 have:=aal h;cases a<;>cases b<;>first|rfl|(simp[kn] at this)
def Qm:SV->Option Bool
 | .own _ _=>some true
 | .ext _ _ _=>some true
 | .raw (.pointer (some _))=>some true
 | .raw (.pointer none)=>some false
 |_=>none
def JZ:SB->SB->SB
 | .lit x,.lit y=>.lit (x == y)
 |a,b=>.beq a b
theorem vA (a b:SB):(JZ a b).den=(a.den == b.den):=by unfold JZ;split<;>rfl
def ry:List Bool->List SV->List SV->Option SB
 | [],[],[]=>some (.lit true)
 |true::sh,.int k a::xs,.int k' b::ys=>bif kq k k' then
   match ry sh xs ys with
   |some c=>some (D1 (eqI a b) c)
   |none=>none
  else none
 |false::sh,.bool a::xs,.bool b::ys=>match ry sh xs ys with
  |some c=>some (D1 (JZ a b) c)
  |none=>none
 |_,_,_=>none
theorem xZ {N:af}:∀{sh:List Bool} {xs ys:List SV} {c:SB} {us vs:List Value},ry sh xs ys=some c->SV.ap N xs=some us->SV.ap N ys=some vs->Fit sh us vs/\mE us vs=c.den:=by
 intro sh xs ys
 fun_induction ry sh xs ys with
 |case1 =>
  intro c us vs h hx hy;simp only[aA] at h;subst h;simp only[SV.ap,aA] at hx hy;subst hx;subst hy;exact⟨trivial,rfl⟩
 |case2 sh k a xs k' b ys hk c0 hc ih =>
  intro c us vs h hx hy;have:=RM hk;subst this;simp only[aA] at h;subst h;simp only[SV.ap,SV.den] at hx hy;cases h1:SV.ap N xs with
  |none=>simp[h1] at hx
  |some us' =>
   cases h2:SV.ap N ys with
   |none=>simp[h2] at hy
   |some Fp =>
    simp only[h1,h2,aA] at hx hy;subst hx;subst hy;obtain⟨q1,q2⟩:=ih hc h1 h2;exact⟨⟨⟨k,_,_,rfl,rfl⟩,q1⟩,by simp[mE,XL,q2,nN,F0]⟩
 |case3=>intro c us vs h;simp_all
 |case4=>intro c us vs h;simp_all
 |case5 sh a xs b ys c0 hc ih =>
  intro c us vs h hx hy;simp only[aA] at h;subst h;simp only[SV.ap,SV.den] at hx hy;cases h1:SV.ap N xs with
  |none=>simp[h1] at hx
  |some us' =>
   cases h2:SV.ap N ys with
   |none=>simp[h2] at hy
   |some Fp =>
    simp only[h1,h2,aA] at hx hy;subst hx;subst hy;obtain⟨q1,q2⟩:=ih hc h1 h2;exact⟨⟨⟨_,_,rfl,rfl⟩,q1⟩,by simp[mE,XL,q2,nN,vA]⟩
 |case6=>intro c us vs h;simp_all
 |case7=>intro c us vs h;simp_all
def Wj:SV->Option Bool
 | .raw (.slice p _ _)=>some p.isNone
 | .osl _ _ _ _ _=>some false
 |_=>none
def AE:SV->Bool
 | .raw (.slice none 0 0)=>true
 |_=>false
def O7 (T:aQ)(op:aaq)(t:Nat)(x y:SV):Option SV :=
 match x,y with
 | .int k a,.int k' b =>
  match op with
  | .shl=>match b with
   | .lit z=>bif decide (z<0) then none else some (.int k (Ws k a (min z.toNat k.bits)))
   |_=>none
  | .shr=>match b with
   | .lit z=>bif decide (z<0) then none else some (.int k (Wt a (min z.toNat k.bits)))
   |_=>none
  |_=>bif kq k k' then Gt op k a b else none
 | .bool a,.bool b =>
  match bo T t with
  |some ti=>match ti.kind with
   | .bool=>match op with
    | .eql=>some (.bool (JZ a b))
    | .neq=>some (.bool (Ia (JZ a b)))
    |_=>none
   |_=>none
  |none=>none
 | .agg xs,.agg ys =>
  match bo T t with
  |some ti=>match ti.UU with
   |some sh=>match ry sh xs ys with
    |some c=>match op with
     | .eql=>some (.bool c)
     | .neq=>some (.bool (Ia c))
     |_=>none
    |none=>none
   |none=>none
  |none=>none
 |x,y =>
  match bo T t with
  |some ti=>match ti.kind with
   | .pointer =>
    match Qm x,Qm y with
    |some a,some b=>bif a&&b then none else
     match op with
     | .eql=>some (.bool (.lit (!a&&!b)))
     | .neq=>some (.bool (.lit (!(!a&&!b))))
     |_=>none
    |_,_=>none
   | .slice _=>bif AE y then
     match Wj x with
     |some b=>match op with
      | .eql=>some (.bool (.lit b))
      | .neq=>some (.bool (.lit (!b)))
      |_=>none
     |none=>none
    else none
   |_=>none
  |none=>none
def J_ (T:aQ)(src dst:Nat)(x:SV):Option SV :=
 match bo T src,bo T dst,x with
 |some _,some ti,.int _ a=>match ti.kind with
  | .int k=>match a with
   | .lit z=>some (.int k (.lit (k.wrap z)))
   |a=>some (.int k (.wrap k a))
  |_=>none
 |_,_,_=>none
def unV (op:UnOp)(x:SV):Option SV :=
 match op,x with
 | .not,.bool a=>some (.bool (Ia a))
 | .neg,.int k a=>some (.int k (Qy k (.lit 0) a))
 | .xor,.int k a=>some (.int k (vC .xor k (.lit (if k.signed then -1 else k.max)) a))
 |_,_=>none
def GL (agg:Bool)(cs:List SV)(off n:Nat):Option SV :=
 bif aah (off+n) cs.length then (bif agg then some (.agg ((cs.drop off).take n)) else nth cs off) else none
def Eo (T:aQ)(t:Nat)(x:SV)(f:Nat):Option SV :=
 match bo T t,x with
 |some ti,.agg cs=>match ti.kind with
  | .struct fs=>match nth fs f with
   |some (o,n,a)=>GL a cs o n
   |none=>none
  |_=>none
 |_,_=>none
def qn (T:aQ)(t:Nat)(x:SV)(f:Nat):Option SV :=
 match bo T t with
 |some ti=>match ti.kind with
  | .struct fs=>match nth fs f with
   |some (o,n,_)=>bif aae n 0 then none else
    match x with
    | .own r c=>some (.own r (c+o))
    | .ext k x c=>some (.ext k x (c+o))
    |_=>none
   |none=>none
  |_=>none
 |none=>none
def qz (T:aQ)(t:Nat)(x i:SV):Option SV :=
 match i with
 | .int _ (.lit z) =>
  match bo T t with
  |some ti=>match ti.kind with
   | .array n e=>match bo T e with
    |some te=>bif decide (0<=z)&&decide (z<n) then
      match x with
      | .own r c=>some (.own r (c+z.toNat*te.size))
      | .ext k x c=>some (.ext k x (c+z.toNat*te.size))
      |_=>none
     else none
    |none=>none
   | .slice e=>match bo T e with
    |some te=>match x with
     | .osl r c n _ _=>bif decide (0<=z)&&decide (z<n) then some (.own r (c+z.toNat*te.size)) else none
     |_=>none
    |none=>none
   |_=>none
  |none=>none
 |_=>none
def EM (T:aQ)(t:Nat)(x i:SV):Option SV :=
 match i,x with
 | .int _ (.lit z),.agg cs =>
  match bo T t with
  |some ti=>match ti.kind with
   | .array n e=>match bo T e with
    |some te=>bif decide (0<=z)&&decide (z<n) then GL te.agg cs (z.toNat*te.size) te.size else none
    |none=>none
   |_=>none
  |none=>none
 |_,_=>none
def vR (x:SV)(i:Nat):Option SV :=
 match x with
 | .tup cs=>nth cs i
 |_=>none
def Wg (T:aQ)(t:Nat)(x:SV):Option SV :=
 match bo T t with
 |some ti=>match ti.kind with
  | .slice _=>match x with
   | .osl _ _ n _ _=>some (.int .i64 (.lit n))
   | .sl _ _ n _=>some (.int .i64 (.nat n))
   | .ao _ n _=>some (.int .i64 (.nat n))
   | .raw (.slice none n _)=>some (.int .i64 (.lit n))
   | .raw (.slice (some _) n _)=>some (.int .i64 (.nat n))
   |_=>none
  | .string=>match x with
   | .raw (.string s)=>some (.int .i64 (.nat s.size))
   |_=>none
  | .array n _=>some (.int .i64 (.lit n))
  |_=>none
 |none=>none
def tv:SV->Option SV
 | .own r c=>some (.own r c)
 | .ext k x c=>some (.ext k x c)
 | .raw (.pointer (some a))=>some (.raw (.pointer (some a)))
 |_=>none
def rC (place:Nat->Option (Nat × Nat))(cells:List SV):List (Nat × SV)->Option (List SV)
 | []=>some cells
 |(i,v)::rest =>
  match place i with
  |none=>none
  |some (off,size)=>bif aae v.cells.length size&&aah (off+size) cells.length then
    match v with
    | .tup _=>none
    | .big _=>none
    |v=>rC place (setRow cells off v.cells) rest
   else none
def EY (fs:List (Nat × Nat × Bool))(i:Nat):Option (Nat × Nat) :=
 match nth fs i with
 |some (o,n,_)=>some (o,n)
 |none=>none
def Ea (T:aQ)(t:Nat)(parts:List (Nat × SV)):Option SV :=
 match bo T t with
 |some ti=>match ti.kind with
  | .struct fs=>match rC (EY fs) ti.zero parts with
   |some cs=>some (.agg cs)
   |none=>none
  | .array _ e=>match bo T e with
   |some te=>match rC (fun i=>some (i*te.size,te.size)) ti.zero parts with
    |some cs=>some (.agg cs)
    |none=>none
   |none=>none
  |_=>none
 |none=>none
def CB (T:aQ)(rg:List Rg)(t:Nat)(x:SV):Option SV :=
 match x with
 | .own r c=>match bo T t,nth rg r with
  |some ti,some g=>bif ti.agg then (bif aah (c+ti.size) g.cells.length then some (.agg ((g.cells.drop c).take ti.size)) else none) else nth g.cells c
  |_,_=>none
 |_=>none
def UX (ρ:aai->Option SV):List (Nat × aai)->Option (List (Nat × SV))
 | []=>some []
 |(i,x)::r=>match ρ x,UX ρ r with
  |some v,some l=>some ((i,v)::l)
  |_,_=>none
def HD (ρ:aai->Option SV):List aai->Option (List SV)
 | []=>some []
 |x::r=>match ρ x,HD ρ r with
  |some v,some l=>some (v::l)
  |_,_=>none
def WH (ρ:aai->Option SV):Option aai->Option (Option Nat)
 |none=>some none
 |some x=>match ρ x with
  |some (.int _ (.lit z))=>bif decide (0<=z) then some (some z.toNat) else none
  |_=>none
def Fa (T:aQ)(rg:List Rg)(t:Nat)(x:SV)(lo hi mx:Option Nat):Option SV :=
 match bo T t with
 |some ti=>match ti.kind with
  | .slice e=>match bo T e with
   |some te=>match x with
    | .osl r c n z (some k)=>bif aae z te.size&&aah (lo.getD 0) (hi.getD n)&&aah (hi.getD n) (mx.getD k)&&aah (mx.getD k) k&&(hi.isSome || !mx.isSome) then
      bif aae (mx.getD k) (lo.getD 0) then some (.osl r c (hi.getD n-lo.getD 0) z (some 0)) else some (.osl r (c+lo.getD 0*z) (hi.getD n-lo.getD 0) z (some (mx.getD k-lo.getD 0)))
     else none
    | .osl r c n z none=>match nth rg r,mx with
     |some g,none=>bif g.own&&aaR 0 z&&aae z te.size&&aah (lo.getD 0) (hi.getD n)&&aah (c+hi.getD n*z) g.cells.length&&(aae (lo.getD 0) 0 ||aah (c+(lo.getD 0+1)*z) g.cells.length) then
       some (.osl r (c+lo.getD 0*z) (hi.getD n-lo.getD 0) z none)
      else none
     |some g,some m=>bif g.own&&aaR 0 z&&aae z te.size&&hi.isSome&&aah (lo.getD 0) (hi.getD n)&&aah (hi.getD n) m&&aah (c+m*z) g.cells.length then
       bif aae m (lo.getD 0) then some (.osl r c (hi.getD n-lo.getD 0) z (some 0)) else some (.osl r (c+lo.getD 0*z) (hi.getD n-lo.getD 0) z (some (m-lo.getD 0)))
      else none
     |none,_=>none
    | .raw (.slice none 0 0)=>bif aae (lo.getD 0) 0&&aae (hi.getD 0) 0&&aae (mx.getD 0) 0&&(hi.isSome || !mx.isSome) then some (.raw (.slice none 0 0)) else none
    |_=>none
   |none=>none
  | .array n e=>match bo T e with
   |some te=>match x with
    | .own r c=>bif aah (lo.getD 0) (hi.getD n)&&aah (hi.getD n) (mx.getD n)&&aah (mx.getD n) n&&(hi.isSome || !mx.isSome) then
      bif aae (mx.getD n) (lo.getD 0) then some (.osl r c (hi.getD n-lo.getD 0) te.size (some 0)) else some (.osl r (c+lo.getD 0*te.size) (hi.getD n-lo.getD 0) te.size (some (mx.getD n-lo.getD 0)))
     else none
    |_=>none
   |none=>none
  |_=>none
 |none=>none
def LU (c a b:SB):SB :=
 match a,b with
 | .lit true,b=>orB c b
 |a,.lit false=>D1 c a
 |a,b=>orB (D1 c a) (D1 (Ia c) b)
theorem y_ (c a b:SB):(LU c a b).den=bif c.den then a.den else b.den:=by
 unfold LU
 split
 ·rw[GI];cases c.den<;>simp[SB.den]
 ·rw[nN];cases c.den<;>simp[SB.den]
 ·rw[GI,nN,nN,rT];cases c.den<;>simp
def GN (c a b:SV):Option SV :=
 match c with
 | .bool (.lit true)=>some a
 | .bool (.lit false)=>some b
 | .bool c=>match a,b with
  | .bool a,.bool b=>some (.bool (LU c a b))
  |_,_=>none
 |_=>none
def Mm (T:aQ)(rg:List Rg)(ρ:aai->Option SV)(op:Op):Option SV :=
 match op with
 | .move x=>ρ x
 | .assign x=>ρ x
 | .load t a=>match ρ a with
  |some x=>CB T rg t x
  |none=>none
 | .nilCheck x=>match ρ x with
  |some x=>tv x
  |none=>none
 | .binOp op t x y _=>match ρ x,ρ y with
  |some x,some y=>O7 T op t x y
  |_,_=>none
 | .unOp op _ x=>match ρ x with
  |some x=>unV op x
  |none=>none
 | .convert s d x=>match ρ x with
  |some x=>J_ T s d x
  |none=>none
 | .fieldAddr t x f=>match ρ x with
  |some x=>qn T t x f
  |none=>none
 | .field t x f=>match ρ x with
  |some x=>Eo T t x f
  |none=>none
 | .indexAddr t x i=>match ρ x,ρ i with
  |some x,some i=>qz T t x i
  |_,_=>none
 | .index t x i=>match ρ x,ρ i with
  |some x,some i=>EM T t x i
  |_,_=>none
 | .extract x i=>match ρ x with
  |some x=>vR x i
  |none=>none
 | .build t ps=>match UX ρ ps.toList with
  |some l=>Ea T t l
  |none=>none
 | .makeFunc fn first cap=>match fn,first.toList,HD ρ cap.toList with
  | .func f,[],some l=>some (.fn f l)
  |_,_,_=>none
 | .slice t x lo hi mx=>match ρ x,WH ρ lo,WH ρ hi,WH ρ mx with
  |some x,some lo,some hi,some mx=>Fa T rg t x lo hi mx
  |_,_,_,_=>none
 | .call c=>match c.callee with
  | .builtin .len=>match c.args.toList,c.argTypes.toList with
   | [x],[t]=>match ρ x with
    |some x=>Wg T t x
    |none=>none
   |_,_=>none
  | .builtin .max=>match c.args.toList with
   | [x,y]=>match ρ x,ρ y with
    |some (.int k a),some (.int _ b)=>some (.int k (mxI a b))
    |_,_=>none
   |_=>none
  | .builtin .min=>match c.args.toList with
   | [x,y]=>match ρ x,ρ y with
    |some (.int k a),some (.int _ b)=>some (.int k (mnI a b))
    |_,_=>none
   |_=>none
  |_=>none
 |_=>none
section
variable {E:Env} {N:af} {rg:List Rg} {w:World} {T:aQ}
theorem sq {P:aad}{t:Nat}{fs:List (Nat × Nat × Bool)}(h:(TK.struct fs).ZR P t){f o n:Nat}{a:Bool}(hf:nth fs f=some (o,n,a)) :
  ∃fields fd,P.underlying t=some (.struct fields)/\fields[f]?=some fd/\fd.offset=o/\(∀w,(aao fd.type).run P w=.ok n w)/\(∀w,(aay fd.type).run P w=.ok a w):=by
 obtain⟨fields,h1,rfl,h2⟩:=h;rw[bT,abz] at hf;obtain⟨fd,hfd,he⟩:=Option.map_eq_some_iff.1 hf;simp only[Prod.mk.injEq] at he;obtain⟨rfl,rfl,rfl⟩:=he;obtain⟨k1,k2⟩:=h2 fd (List.mem_of_getElem? hfd);obtain⟨i,hi⟩:=aap.1 k1;refine⟨fields,fd,h1,by simpa using hfd,rfl,fun w=>?_,fun w=>tD k2 w⟩;rw[run_sizeOf hi];simp[Program.cellsOf,hi]
theorem kA {l:List SV}{m:List Value}(h:SV.ap N l=some m)(c n:Nat):SV.ap N ((l.drop c).take n)=some ((m.drop c).take n):=by
 obtain⟨h1,h2⟩:=SV.aP _ h;obtain⟨q,hq⟩:=SV.uL (N:=N) ((l.drop c).take n) (fun j d hj=>by
  rw[aaz] at hj
  split at hj
  ·rw[aaA] at hj
   obtain⟨v,hv,_⟩:=h2 (c+j) d hj;exact⟨v,hv⟩
  ·simp at hj)
 obtain⟨q1,q2⟩:=SV.aP _ hq;rw[hq]
 congr 1
 apply aa4;intro j
 by_cases hj:j<((l.drop c).take n).length
 ·obtain⟨d,hd⟩:∃d,((l.drop c).take n)[j]?=some d:=⟨_,aaM hj⟩
  obtain⟨v,j5,wj⟩:=q2 j d hd;rw[aaz] at hd
  split at hd
  ·rename_i hjn
   rw[aaA] at hd;obtain⟨v',Zw,VY⟩:=h2 (c+j) d hd;rw[j5] at Zw;cases Zw;rw[wj,aaz,if_pos hjn,aaA,VY]
  ·simp at hd
 ·rw[aaO (by omega),aaO]
  simp at hj ⊢;omega
theorem wE {P:aad}{t:Nat}{agg:Bool}{n:Nat}{cs:List SV}{l:List Value}{off:Nat}{r:SV}(hs:(aao t).run P w=.ok n w)(ha:(aay t).run P w=.ok agg w)
  (hl:SV.ap N cs=some l) (h:GL agg cs off n=some r):∃v,r.den N=some v/\(part t l.toArray off).run P w=.ok v w:=by
 unfold GL at h;obtain⟨hlen,ef⟩:=SV.aP _ hl;cases hb:aah (off+n) cs.length with
 |false=>simp[hb] at h
 |true =>
  have hle:=aam hb;simp only[hb,cond_true] at h;cases agg with
  |true =>
   simp only[cond_true,aA] at h;subst h;refine⟨.agg ((l.drop off).take n).toArray,by simp[SV.den,kA hl],?_⟩;simp only[part,aaf,ha,aac,if_true,hs,aak]
   congr 2
   apply aaG;simp
  |false =>
   simp only[cond_false] at h;rw[bT] at h;obtain⟨v,h1,h2⟩:=ef off r h;refine⟨v,h1,?_⟩;simp only[part,aaf,ha,aac,aau,if_false];simp[h2]
theorem ub {P:aad}(hT:aQ.ok P T)(h:jg N rg w){t:Nat}{x r:SV}{a:Value}(hx:x.den N=some a)(hl:CB T rg t x=some r) :
  ∃v,r.den N=some v/\(abi t a).run P w=.ok v w:=by
 cases x<;>simp only[CB] at hl<;>try (simp at hl;done)
 rename_i q c
 cases ht:bo T t with
 |none=>simp[ht] at hl
 |some ti =>
  cases hg:nth rg q with
  |none=>simp[ht,hg] at hl
  |some g =>
   have ok:=hT t ti ht;rw[bT] at hg;simp only[ht,bT,hg] at hl;cases PA:ti.agg with
   |true =>
    simp only[PA,cond_true] at hl;cases hb:aah (c+ti.size) g.cells.length with
    |false=>simp[hb] at hl
    |true =>
     simp only[hb,cond_true,aA] at hl;subst hl;obtain⟨p,l,hp,hd,hlen,a6⟩:=h.load (P:=P) hg (aam hb);simp only[SV.den,hp,aA] at hx;subst hx;refine⟨.agg l.toArray,by simp[SV.den,hd],?_⟩;simp only[abi,aaI,loadVar,aaf,aak,aac,ok.agg,PA,if_true,ok.size,a6]
   |false =>
    simp only[PA,cond_false] at hl;obtain⟨p,v,hp,hd,hw⟩:=h.ZL hg hl;simp only[SV.den,hp,aA] at hx;subst hx;refine⟨v,hd,?_⟩;simp only[abi,aaI,loadVar,aaf,aak,aac,ok.agg,PA,aau,if_false];simp[hw]
theorem sZ {P:aad}(hT:aQ.ok P T){t f:Nat}{x r:SV}{a:Value}(hx:x.den N=some a)(h:qn T t x f=some r) :
  ∃v,r.den N=some v/\(abj t a f).run P w=.ok v w:=by
 unfold qn at h;cases ht:bo T t with
 |none=>simp[ht] at h
 |some ti =>
  have ok:=(hT t ti ht).kind;simp only[ht] at h;cases hk:ti.kind<;>simp only[hk] at h<;>try (simp at h;done)
  rename_i fs
  rw[hk] at ok;cases hf:nth fs f with
  |none=>simp[hf] at h
  |some q =>
   obtain⟨o,n,ag⟩:=q;simp only[hf] at h;cases hn:aae n 0 with
   |true=>simp[hn] at h
   |false =>
    simp only[hn,cond_false] at h;have Ro:n≠0:=fun e=>by subst e;simp at hn
    obtain⟨fields,fd,h1,h2,rfl,h4,h5⟩:=sq ok hf;have main:∀k y,(abj t (.pointer (some ⟨k,y,none⟩)) f).run P w=.ok (.pointer (some ⟨k,y+fd.offset,none⟩)) w:=by
     intro k y;simp[abj,run_underlying h1,h2,aaI,fieldPlace,h4,Ro,aac,dy]
    cases x<;>simp only at h<;>try (simp at h;done)
    ·rename_i q c
     simp only[aA] at h;subst h;simp only[SV.den] at hx;cases hp:N[q]? with
     |none=>simp[hp] at hx
     |some p =>
      simp only[hp,aA] at hx;subst hx;exact⟨_,by simp only[SV.den,hp];rfl,by rw[main];simp[aaj]⟩
    ·rename_i k y c
     simp only[aA] at h;subst h;simp only[SV.den,aA] at hx;subst hx;exact⟨_,by simp only[SV.den];rfl,by rw[main];simp[aaj]⟩
theorem tk {P:aad}(hT:aQ.ok P T){t:Nat}{x i r:SV}{a b:Value}(hx:x.den N=some a)(hi:i.den N=some b)(h:qz T t x i=some r) :
  ∃v,r.den N=some v/\(aaV t a b).run P w=.ok v w:=by
 unfold qz at h
 split at h
 ·rename_i k z
  split at h
  ·rename_i ti ht
   have ok:=(hT t ti ht).kind
   split at h
   ·rename_i n e hk
    rw[hk] at ok
    split at h
    ·rename_i te kN
     have l_:=hT e te kN;cases hz:(decide (0<=z)&&decide (z<n)) with
     |false=>rw[hz] at h;simp at h
     |true =>
      rw[hz] at h;simp only[cond_true] at h;simp only[aag,decide_eq_true_eq] at hz;simp only[SV.den,SI.den,aA] at hi;subst hi;have j6:P.underlying t=some (.array n e):=ok;have main:∀k' y,(aaV t (.pointer (some ⟨k',y,none⟩)) (.int k z)).run P w=.ok (.pointer (some ⟨k',y+z.toNat*te.size,none⟩)) w:=by
       intro k' y;simp[aaV,asIntOf,run_underlying j6,aaI,aac,hz,l_.size,dy]
      cases x<;>simp only at h<;>try (simp at h;done)
      ·rename_i q c
       simp only[aA] at h;subst h;simp only[SV.den] at hx;cases hp:N[q]? with
       |none=>simp[hp] at hx
       |some p =>
        simp only[hp,aA] at hx;subst hx;exact⟨_,by simp only[SV.den,hp];rfl,by rw[main];simp[aaj]⟩
      ·rename_i k2 y c
       simp only[aA] at h;subst h;simp only[SV.den,aA] at hx;subst hx;exact⟨_,by simp only[SV.den];rfl,by rw[main];simp[aaj]⟩
    ·cases h
   ·rename_i e hk
    rw[hk] at ok
    split at h
    ·rename_i te kN
     have l_:=hT e te kN
     split at h
     ·rename_i r0 c0 n0 z0 k0
      cases hz:(decide (0<=z)&&decide (z<n0)) with
      |false=>rw[hz] at h;simp at h
      |true =>
       rw[hz] at h;simp only[cond_true,aA] at h;subst h;simp only[aag,decide_eq_true_eq] at hz;simp only[SV.den,SI.den,aA] at hi;subst hi;have j6:P.underlying t=some (.slice e):=ok;simp only[SV.den] at hx;cases hp:N[r0]? with
       |none=>simp[hp] at hx
       |some p =>
        simp only[hp,aA] at hx;subst hx;refine⟨_,by simp only[SV.den,hp];rfl,?_⟩;simp[aaV,asIntOf,run_underlying j6,aac,hz,l_.size,dy,aaj]
     ·cases h
    ·cases h
   ·cases h
  ·cases h
 ·cases h
theorem ql {ρ:aai->Option SV}{gQ:aai->Value}(df:∀x s,ρ x=some s->s.den N=some (gQ x)):∀(xs:List aai) {l:List SV},HD ρ xs=some l->SV.ap N l=some (xs.map gQ)
 | [],l,h=>by simp only[HD,aA] at h;subst h;rfl
 |x::xs,l,h=>by
  simp only[HD] at h
  split at h
  ·rename_i v q hv hq
   simp only[aA] at h;subst h;simp[SV.ap,df _ _ hv,ql df xs hq]
  ·cases h
theorem sX {ρ:aai->Option SV}{gQ:aai->Value}(df:∀x s,ρ x=some s->s.den N=some (gQ x)){o:Option aai}{m:Option Nat}(h:WH ρ o=some m) :
  (o=none/\m=none)\/∃k n,o.map gQ=some (.int k (n:Nat))/\m=some n:=by
 cases o with
 |none=>simp only[WH,aA] at h;exact .inl ⟨rfl,h.symm⟩
 |some x =>
  simp only[WH] at h
  split at h
  ·rename_i k z hx
   have:=df _ _ hx;simp only[SV.den,SI.den,aA] at this
   by_cases hz:0<=z
   ·simp only[hz,decide_true,cond_true,aA] at h;subst h
    refine .inr ⟨k,z.toNat,?_,rfl⟩;simp only[aaU,<-this,Int.toNat_of_nonneg hz]
   ·simp[hz] at h
  ·cases h
theorem run_sliceBound {P:aad}{k:IntKind}{n y:Nat}{code:BoundsCode}(h:n<=y):(ab0 (.int k (n:Nat)) y code).run P w=.ok n w:=by
 have:(n:Int)<=y:=by omega
 simp[ab0,asIntOf,this]
theorem dI {P:aad}{gQ:aai->Value}{b:Bool}{len cap:Nat}{lo hi mx:Option aai}{l h m:Option Nat}
  (hl:(lo=none/\l=none)\/∃k n,lo.map gQ=some (.int k (n:Nat))/\l=some n) (hh:(hi=none/\h=none)\/∃k n,hi.map gQ=some (.int k (n:Nat))/\h=some n)
  (hm:(mx=none/\m=none)\/∃k n,mx.map gQ=some (.int k (n:Nat))/\m=some n) (h1:l.getD 0<=h.getD len) (h2:h.getD len<=m.getD cap) (h3:m.getD cap<=cap) (h4:(h.isSome || !m.isSome)=true) :
  (ab1 b len cap (lo.map gQ) (hi.map gQ) (mx.map gQ)).run P w=.ok (l.getD 0,h.getD len,m.getD cap) w:=by
 rcases hm with ⟨rfl,rfl⟩|⟨k3,n3,e3,rfl⟩<;>rcases hh with ⟨rfl,rfl⟩|⟨k2,n2,e2,rfl⟩<;>rcases hl with ⟨rfl,rfl⟩|⟨k1,n1,e1,rfl⟩<;>simp only[abZ,Option.isSome,Bool.or_false,aaL,Bool.false_or,reduceCtorEq] at h1 h2 h3 h4 <;>
  simp only[ab1,Option.map_none, *,aaf,aak,aac,run_sliceBound h1,run_sliceBound h2,run_sliceBound h3,abZ]
theorem A6 {P:aad}(hT:aQ.ok P T)(hV:jg N rg w){gQ:aai->Value}{t:Nat}{x r:SV}{a:Value}{lo hi mx:Option aai}{l h m:Option Nat}(hx:x.den N=some a)
  (hl:(lo=none/\l=none)\/∃k n,lo.map gQ=some (.int k (n:Nat))/\l=some n) (hh:(hi=none/\h=none)\/∃k n,hi.map gQ=some (.int k (n:Nat))/\h=some n)
  (hm:(mx=none/\m=none)\/∃k n,mx.map gQ=some (.int k (n:Nat))/\m=some n) (hs:Fa T rg t x l h m=some r) :
  ∃v,r.den N=some v/\(aar t a (lo.map gQ) (hi.map gQ) (mx.map gQ)).run P w=.ok v w:=by
 unfold Fa at hs
 split at hs
 ·rename_i ti ht
  have ok:=(hT t ti ht).kind
  split at hs
  ·rename_i e hk
   rw[hk] at ok;have j6:P.underlying t=some (.slice e):=ok
   split at hs
   ·rename_i te kN
    have l_:=hT e te kN
    split at hs
    ·-- a slice ag6 XJ is known
     rename_i r0 c n z k
     cases hb:(aae z te.size&&aah (l.getD 0) (h.getD n)&&aah (h.getD n) (m.getD k)&&aah (m.getD k) k&&(h.isSome || !m.isSome)) with
     |false=>rw[hb] at hs;simp at hs
     |true =>
      rw[hb] at hs;simp only[cond_true] at hs;rw[aag,aag,aag,aag] at hb;obtain⟨⟨⟨⟨b1,b2⟩,b3⟩,b4⟩,b5⟩:=hb;have b1:=aal b1;have a6:=dI (P:=P) (w:=w) (gQ:=gQ) (b:=true) (len:=n) (cap:=k) hl hh hm (aam b2) (aam b3) (aam b4) b5;simp only[SV.den] at hx;cases hp:N[r0]? with
      |none=>simp[hp] at hx
      |some p =>
       simp only[hp,aA,aS.cap] at hx;subst hx;have main:(aar t (.slice (some ⟨p.b,p.o+c,none⟩) n k) (lo.map gQ) (hi.map gQ) (mx.map gQ)).run P w =
         .ok (.slice (if m.getD k=l.getD 0 then some ⟨p.b,p.o+c,none⟩ else some ⟨p.b,p.o+c+l.getD 0*z,none⟩) (h.getD n-l.getD 0) (m.getD k-l.getD 0)) w:=by
        simp only[aar,run_underlying j6,aaf,aac,aaW,a6,l_.size,aak,aaU,dy,b1]
       cases he:aae (m.getD k) (l.getD 0) with
       |true =>
        rw[he] at hs;simp only[cond_true,aA] at hs;subst hs;have he:=aal he;refine⟨_,by simp only[SV.den,hp];rfl,?_⟩;rw[main,if_pos he];simp[aS.cap,he]
       |false =>
        rw[he] at hs;simp only[cond_false,aA] at hs;subst hs;refine⟨_,by simp only[SV.den,hp];rfl,?_⟩;rw[main,if_neg (fun e=>by rw[e] at he;simp at he)];simp[aS.cap,aaj]
    ·-- .. is not known
     rename_i r0 c n z
     simp only[SV.den] at hx;cases hp:N[r0]? with
     |none=>simp[hp] at hx
     |some p =>
      simp only[hp,aA,aS.cap] at hx;subst hx
      split at hs
      ·rename_i g hg
       rw[bT] at hg;cases hb:(g.own&&aaR 0 z&&aae z te.size&&aah (l.getD 0) (h.getD n)&&aah (c+h.getD n*z) g.cells.length&&(aae (l.getD 0) 0 ||aah (c+(l.getD 0+1)*z) g.cells.length)) with
       |false=>rw[hb] at hs;simp at hs
       |true =>
        rw[hb] at hs;simp only[cond_true,aA] at hs;subst hs;rw[aag,aag,aag,aag,aag,aa3] at hb;obtain⟨⟨⟨⟨⟨b0,b1⟩,b2⟩,b3⟩,b4⟩,b5⟩:=hb;have b1:0<z:=by simpa using b1
        have b2:=aal b2;have b3:=aam b3;have b4:=aam b4;have gI:=hV.ext r0 g p hg hp b0;have x_:h.getD n<=(p.x-c) / z:=by rw[aa9 b1];omega
        have a6:=dI (P:=P) (w:=w) (gQ:=gQ) (b:=true) (len:=n) (cap:=(p.x-c) / z) hl hh hm b3 x_ (aaP _) (by simp);refine⟨_,by simp only[SV.den,hp];rfl,?_⟩;simp only[aar,run_underlying j6,aaf,aac,aaW,a6,l_.size,aak,aaU,dy,<-b2,Option.getD_none];have gn:(p.x-(c+l.getD 0*z)) / z=(p.x-c) / z-l.getD 0:=by
         rw[<-Nat.sub_sub,Nat.mul_comm,Nat.sub_mul_div]
        simp only[aS.cap,gn,aaj];rcases b5 with b5|b5
        ·have b5:=aal b5
         rw[b5];simp
        ·have b5:=aam b5
         have:l.getD 0+1<=(p.x-c) / z:=by rw[aa9 b1];omega
         rw[if_neg (by omega)]
      ·rename_i g mm hg
       rw[bT] at hg;cases hb:(g.own&&aaR 0 z&&aae z te.size&&h.isSome&&aah (l.getD 0) (h.getD n)&&aah (h.getD n) mm&&aah (c+mm*z) g.cells.length) with
       |false=>rw[hb] at hs;simp at hs
       |true =>
        rw[hb] at hs;simp only[cond_true] at hs;rw[aag,aag,aag,aag,aag,aag] at hb;obtain⟨⟨⟨⟨⟨⟨b0,b1⟩,b2⟩,b3⟩,b4⟩,b5⟩,b6⟩:=hb;have b1:0<z:=by simpa using b1
        have b2:=aal b2;have b4:=aam b4;have b5:=aam b5;have b6:=aam b6;have gI:=hV.ext r0 g p hg hp b0;have x_:mm<=(p.x-c) / z:=by rw[aa9 b1];omega
        have a6:=dI (P:=P) (w:=w) (gQ:=gQ) (b:=true) (len:=n) (cap:=(p.x-c) / z) (m:=some mm) hl hh hm b4 (by simpa using b5) (by simpa using x_) (by simp[b3]);have main:(aar t (.slice (some ⟨p.b,p.o+c,none⟩) n ((p.x-c) / z)) (lo.map gQ) (hi.map gQ) (mx.map gQ)).run P w =
          .ok (.slice (if mm=l.getD 0 then some ⟨p.b,p.o+c,none⟩ else some ⟨p.b,p.o+c+l.getD 0*z,none⟩) (h.getD n-l.getD 0) (mm-l.getD 0)) w:=by
         simp only[aar,run_underlying j6,aaf,aac,aaW,a6,l_.size,aak,aaU,dy,<-b2,Option.getD_some]
        cases he:aae mm (l.getD 0) with
        |true =>
         rw[he] at hs;simp only[cond_true,aA] at hs;subst hs;have he:=aal he;refine⟨_,by simp only[SV.den,hp];rfl,?_⟩;rw[main,if_pos he];simp[aS.cap,he]
        |false =>
         rw[he] at hs;simp only[cond_false,aA] at hs;subst hs;refine⟨_,by simp only[SV.den,hp];rfl,?_⟩;rw[main,if_neg (fun e=>by rw[e] at he;simp at he)];simp[aS.cap,aaj]
      ·cases hs
    ·-- nil
     cases hb:(aae (l.getD 0) 0&&aae (h.getD 0) 0&&aae (m.getD 0) 0&&(h.isSome || !m.isSome)) with
     |false=>rw[hb] at hs;simp at hs
     |true =>
      rw[hb] at hs;simp only[cond_true,aA] at hs;subst hs;rw[aag,aag,aag] at hb;obtain⟨⟨⟨b1,b2⟩,b3⟩,b4⟩:=hb;have b1:=aal b1;have b2:=aal b2;have b3:=aal b3;have a6:=dI (P:=P) (w:=w) (gQ:=gQ) (b:=true) (len:=0) (cap:=0) hl hh hm (by omega) (by omega) (by omega) b4;refine⟨_,hx,?_⟩;simp only[SV.den,bc,if_true,aA] at hx;subst hx;simp[aar,run_underlying j6,aac,aaW,a6,l_.size,b1,b2,b3]
    ·cases hs
   ·cases hs
  ·rename_i n e hk
   rw[hk] at ok;have j6:P.underlying t=some (.array n e):=ok
   split at hs
   ·rename_i te kN
    have l_:=hT e te kN
    split at hs
    ·rename_i r0 c
     cases hb:(aah (l.getD 0) (h.getD n)&&aah (h.getD n) (m.getD n)&&aah (m.getD n) n&&(h.isSome || !m.isSome)) with
     |false=>rw[hb] at hs;simp at hs
     |true =>
      rw[hb] at hs;simp only[cond_true] at hs;rw[aag,aag,aag] at hb;obtain⟨⟨⟨b2,b3⟩,b4⟩,b5⟩:=hb;have a6:=dI (P:=P) (w:=w) (gQ:=gQ) (b:=false) (len:=n) (cap:=n) hl hh hm (aam b2) (aam b3) (aam b4) b5;simp only[SV.den] at hx;cases hp:N[r0]? with
      |none=>simp[hp] at hx
      |some p =>
       simp only[hp,aA] at hx;subst hx;have main:(aar t (.pointer (some ⟨p.b,p.o+c,none⟩)) (lo.map gQ) (hi.map gQ) (mx.map gQ)).run P w =
         .ok (.slice (some (if m.getD n=l.getD 0 then ⟨p.b,p.o+c,none⟩ else ⟨p.b,p.o+c+l.getD 0*te.size,none⟩)) (h.getD n-l.getD 0) (m.getD n-l.getD 0)) w:=by
        simp only[aar,run_underlying j6,aaf,aac,aaI,a6,l_.size,aak,dy]
       cases he:aae (m.getD n) (l.getD 0) with
       |true =>
        rw[he] at hs;simp only[cond_true,aA] at hs;subst hs;have he:=aal he;refine⟨_,by simp only[SV.den,hp];rfl,?_⟩;rw[main,if_pos he];simp[aS.cap,he]
       |false =>
        rw[he] at hs;simp only[cond_false,aA] at hs;subst hs;refine⟨_,by simp only[SV.den,hp];rfl,?_⟩;rw[main,if_neg (fun e=>by rw[e] at he;simp at he)];simp[aS.cap,aaj]
    ·cases hs
   ·cases hs
  ·cases hs
 ·cases hs
theorem Ap {P:aad}(hT:aQ.ok P T){t f:Nat}{x r:SV}{a:Value}(hx:x.den N=some a)(h:Eo T t x f=some r) :
  ∃v,r.den N=some v/\(ab2 t a f).run P w=.ok v w:=by
 unfold Eo at h
 split at h
 ·rename_i ti cs ht
  have ok:=(hT t ti ht).kind
  split at h
  ·rename_i fs hk
   rw[hk] at ok
   split at h
   ·rename_i o n ag hf
    obtain⟨fields,fd,h1,h2,rfl,h4,h5⟩:=sq ok hf;simp only[SV.den] at hx;cases hl:SV.ap N cs with
    |none=>simp[hl] at hx
    |some l =>
     simp only[hl,aA] at hx;subst hx;obtain⟨v,hv,a6⟩:=wE (P:=P) (w:=w) (h4 w) (h5 w) hl h;refine⟨v,hv,?_⟩;simp[ab2,run_underlying h1,h2,asAgg,aac,a6]
   ·cases h
  ·cases h
 ·cases h
theorem AD {P:aad}(hT:aQ.ok P T){t:Nat}{x i r:SV}{a b:Value}(hx:x.den N=some a)(hi:i.den N=some b)(h:EM T t x i=some r) :
  ∃v,r.den N=some v/\(ab3 t a b).run P w=.ok v w:=by
 unfold EM at h
 split at h
 ·rename_i k z cs
  split at h
  ·rename_i ti ht
   have ok:=(hT t ti ht).kind
   split at h
   ·rename_i n e hk
    rw[hk] at ok;have j6:P.underlying t=some (.array n e):=ok
    split at h
    ·rename_i te kN
     have l_:=hT e te kN;cases hz:(decide (0<=z)&&decide (z<n)) with
     |false=>rw[hz] at h;simp at h
     |true =>
      rw[hz] at h;simp only[cond_true] at h;simp only[aag,decide_eq_true_eq] at hz;simp only[SV.den,SI.den,aA] at hi hx;subst hi;cases hl:SV.ap N cs with
      |none=>simp[hl] at hx
      |some l =>
       simp only[hl,aA] at hx;subst hx;obtain⟨v,hv,a6⟩:=wE (P:=P) (w:=w) (l_.size w) (l_.agg w) hl h;refine⟨v,hv,?_⟩;simp[ab3,asIntOf,run_underlying j6,aac,hz,l_.size,a6]
    ·cases h
   ·cases h
  ·cases h
 ·cases h
theorem vS {P:aad}{i:Nat}{x r:SV}{a:Value}(hx:x.den N=some a)(h:vR x i=some r) :
  ∃v,r.den N=some v/\(ab4 a i).run P w=.ok v w:=by
 unfold vR at h
 split at h
 ·rename_i cs
  simp only[SV.den] at hx;cases hl:SV.ap N cs with
  |none=>simp[hl] at hx
  |some l =>
   simp only[hl,aA] at hx;subst hx;rw[bT] at h;obtain⟨_,ef⟩:=SV.aP _ hl;obtain⟨v,h1,h2⟩:=ef i r h;exact⟨v,h1,by simp[ab4,h2]⟩
 ·cases h
theorem uD {P:aad}{ρ:aai->Value}{o:Oper}{y:aai}(ho:o.op=.nilCheck y){x r:SV}(hx:x.den N=some (ρ y))(h:tv x=some r) :
  ∃v,r.den N=some v/\(execOp ρ o).run P w=.ok (.value v) w:=by
 unfold tv at h
 split at h<;>simp only[aA,reduceCtorEq] at h
 ·rename_i q c
  subst h;refine⟨_,hx,?_⟩;simp only[SV.den] at hx;cases hp:N[q]? with
  |none=>simp[hp] at hx
  |some p =>
   simp only[hp,aA] at hx;simp[execOp,ho,<-hx]
 ·subst h
  refine⟨_,hx,?_⟩;simp only[SV.den,aA] at hx;simp[execOp,ho,<-hx]
 ·subst h
  refine⟨_,hx,?_⟩;simp only[SV.den,bc,if_true,aA] at hx;simp[execOp,ho,<-hx]
end
section
variable {E:Env} {N:af} {rg:List Rg} {w:World} {T:aQ}
theorem dN {P:aad}(op:aaq)(t:Nat)(x y:aai){a b:Value}(h:∀p q,a=.agg p->b=.agg q->False)(h':a=.nilIface->b=.nilIface->False) :
  (eqGuard op t x y a b).run P w=.ok () w:=by
 cases a<;>cases b<;>first|exact(h _ _ rfl rfl).elim|exact(h' rfl rfl).elim|(unfold eqGuard;split<;>rfl)
theorem oo {P:aad}{op:aaq}{k:IntKind}{a b:SI}{r:SV}(h:Gt op k a b=some r)(t:Nat) :
  ∃v,r.den N=some v/\(binOp op t (.int k a.den) (.int k b.den)).run P w=.ok v w:=by
 cases op<;>simp only[Gt] at h<;>try (simp at h;done)
 case quo =>
  split at h
  ·rename_i z
   by_cases hz:z=0
   ·simp[hz] at h
   ·simp only[hz,decide_false,cond_false,aA] at h;subst h
    exact⟨_,by simp only[SV.den];rfl,by simp[binOp,Op.intDiv,SI.den,hz,L4]⟩
  ·cases h
 case rem =>
  split at h
  ·rename_i z
   by_cases hz:z=0
   ·simp[hz] at h
   ·simp only[hz,decide_false,cond_false,aA] at h;subst h
    exact⟨_,by simp only[SV.den];rfl,by simp[binOp,Op.intDiv,SI.den,hz,L7]⟩
  ·cases h
 all_goals
  simp only[aA] at h;subst h;refine⟨_,by simp only[SV.den];rfl,?_⟩;simp[binOp,Op.intArith,Op.intCmp,Op.intBits,JO,De,Lz,F0,Qc,P8,P6,Pv,Pp,ig,lU]
theorem CV {x:SV}{a:Value}{b:Bool}(hx:x.den N=some a)(h:Qm x=some b):∃p:Option Addr,a=.pointer p/\p.isSome=b:=by
 unfold Qm at h
 split at h<;>simp only[aA,reduceCtorEq] at h<;>subst h
 ·rename_i r c
  simp only[SV.den] at hx;cases hp:N[r]? with
  |none=>simp[hp] at hx
  |some p=>simp only[hp,aA] at hx;exact⟨_,hx.symm,rfl⟩
 ·simp only[SV.den,aA] at hx;exact⟨_,hx.symm,rfl⟩
 ·simp only[SV.den,bc,if_true,aA] at hx;exact⟨_,hx.symm,rfl⟩
 ·simp only[SV.den,bc,if_true,aA] at hx;exact⟨_,hx.symm,rfl⟩
theorem uF {P:aad}{t e:Nat}(d:Nat)(h:P.underlying t=some (.pointer e))(p q:Option Addr)(yf:(p.isSome&&q.isSome)=false) :
  (Op.equalIn (d+1) t (.pointer p) (.pointer q)).run P w=.ok (!p.isSome&&!q.isSome) w:=by
 simp only[Op.equalIn,aaf,run_underlying h,aac];cases p<;>cases q<;>simp at yf ⊢
theorem yr {P:aad}{t e:Nat}(h:P.underlying t=some (.pointer e))(p q:Option Addr)(yf:(p.isSome&&q.isSome)=false) :
  (Op.equal t (.pointer p) (.pointer q)).run P w=.ok (!p.isSome&&!q.isSome) w:=uF 9999 h p q yf
theorem uE {P:aad}{w:World}{t e:Nat}(d:Nat)(h:P.underlying t=some (.slice e))(p:Option Addr)(n c:Nat):(Op.equalIn (d+1) t (.slice p n c) (.slice none 0 0)).run P w=.ok p.isNone w:=by
 simp only[Op.equalIn,aaf,run_underlying h,aac];cases p<;>rfl
theorem pZ {P:aad}{w:World}{t e:Nat}(h:P.underlying t=some (.slice e))(p:Option Addr)(n c:Nat):(Op.equal t (.slice p n c) (.slice none 0 0)).run P w=.ok p.isNone w:=uE 9999 h p n c
theorem H8 {x:SV}{a:Value}{b:Bool}(hx:x.den N=some a)(h:Wj x=some b):∃p n c,a=.slice p n c/\p.isNone=b:=by
 unfold Wj at h
 split at h
 ·rename_i p n c
  simp only[aA] at h;subst h;simp only[SV.den] at hx
  split at hx
  ·simp only[aA] at hx;subst hx
   exact⟨p,n,c,rfl,rfl⟩
  ·cases hx
 ·simp only[aA] at h;subst h
  simp only[SV.den] at hx
  split at hx
  ·simp only[aA] at hx;subst hx
   exact⟨_,_,_,rfl,rfl⟩
  ·cases hx
 ·cases h
theorem Cv {x:SV}{a:Value}(hx:x.den N=some a)(h:AE x=true):a=.slice none 0 0:=by
 unfold AE at h
 split at h
 ·simp only[SV.den] at hx
  split at hx
  ·simp only[aA] at hx;exact hx.symm
  ·cases hx
 ·cases h
theorem qk {P:aad}(hT:aQ.ok P T){op:aaq}{t:Nat}{x y r:SV}{a b:Value}(hx:x.den N=some a)(hy:y.den N=some b)(h:O7 T op t x y=some r)(ox oy:aai) :
  ∃v,r.den N=some v/\(do eqGuard op t ox oy a b;binOp op t a b:Sem Value).run P w=.ok v w:=by
 unfold O7 at h
 split at h
 ·rename_i k a' k' b'
  simp only[SV.den,aA] at hx hy;subst hx;subst hy;simp only[aaf];rw[dN _ _ _ _ (by simp) (by simp)];simp only[aac]
  split at h
  ·split at h
   ·rename_i z
    by_cases hz:z<0
    ·simp[hz] at h
    ·simp only[hz,decide_false,cond_false,aA] at h;subst h
     exact⟨_,by simp only[SV.den];rfl,by simp[binOp,Op.shift,SI.den,hz,Mh]⟩
   ·cases h
  ·split at h
   ·rename_i z
    by_cases hz:z<0
    ·simp[hz] at h
    ·simp only[hz,decide_false,cond_false,aA] at h;subst h
     exact⟨_,by simp only[SV.den];rfl,by simp[binOp,Op.shift,SI.den,hz,Mi]⟩
   ·cases h
  ·cases hk:kq k k' with
   |false=>rw[hk] at h;simp at h
   |true =>
    rw[hk] at h;simp only[cond_true] at h;have:=RM hk;subst this;exact oo h t
 ·rename_i a' b'
  simp only[SV.den,aA] at hx hy;subst hx;subst hy;simp only[aaf];rw[dN _ _ _ _ (by simp) (by simp)];simp only[aac]
  split at h
  ·rename_i ti ht
   have ok:=(hT t ti ht).kind
   split at h
   ·rename_i hk
    rw[hk] at ok
    split at h
    ·simp only[aA] at h;subst h
     exact⟨_,by simp only[SV.den];rfl,by rw[run_eql_bool w t _ _ ok,vA]⟩
    ·simp only[aA] at h;subst h
     exact⟨_,by simp only[SV.den];rfl,by rw[run_neq_bool w t _ _ ok,rT,vA]⟩
    ·cases h
   ·cases h
  ·cases h
 ·rename_i xs ys
  split at h
  ·rename_i ti ht
   split at h
   ·rename_i sh hsh
    obtain⟨hg,qp⟩:=(hT t ti ht).UU sh hsh
    split at h
    ·rename_i c hc
     simp only[SV.den] at hx hy;cases hus:SV.ap N xs with
     |none=>simp[hus] at hx
     |some us =>
      cases BB:SV.ap N ys with
      |none=>simp[BB] at hy
      |some vs =>
       simp only[hus,BB,aA] at hx hy;subst hx;subst hy;obtain⟨q1,q2⟩:=xZ hc hus BB;have a6:=qp us vs w q1;simp only[aaf];rw[run_eqGuard_agg w op t ox oy _ _ hg];simp only[aac]
       split at h
       ·simp only[aA] at h;subst h
        exact⟨_,by simp only[SV.den];rfl,by rw[run_eql_struct,a6,q2];rfl⟩
       ·simp only[aA] at h;subst h
        exact⟨_,by simp only[SV.den];rfl,by rw[run_neq_struct,a6,q2,rT];rfl⟩
       ·cases h
    ·cases h
   ·cases h
  ·cases h
 ·split at h
  ·rename_i ti ht
   have ok:=(hT t ti ht).kind
   split at h
   ·rename_i hk
    rw[hk] at ok;obtain⟨e,hu⟩:=ok
    split at h
    ·rename_i ba bb hpa Bx
     obtain⟨p,rfl,hp⟩:=CV hx hpa;obtain⟨q,rfl,hq⟩:=CV hy Bx;simp only[aaf];rw[dN _ _ _ _ (by simp) (by simp)];simp only[aac];cases Rb:(ba&&bb) with
     |true=>rw[Rb] at h;simp at h
     |false =>
      rw[Rb] at h;simp only[cond_false] at h;have he:=yr (w:=w) hu p q (by rw[hp,hq];exact Rb);rw[hp,hq] at he
      split at h
      ·simp only[aA] at h;subst h
       refine⟨_,by simp only[SV.den];rfl,?_⟩;simp[binOp,he,aac,SB.den]
      ·simp only[aA] at h;subst h
       refine⟨_,by simp only[SV.den];rfl,?_⟩;simp[binOp,he,aac,SB.den]
      ·cases h
    ·cases h
   ·rename_i e hk
    rw[hk] at ok;have hu:P.underlying t=some (.slice e):=ok;cases hn:AE y with
    |false=>rw[hn] at h;simp at h
    |true =>
     rw[hn] at h;simp only[cond_true] at h
     split at h
     ·rename_i bn Ds
      obtain⟨p,n,c,rfl,hp⟩:=H8 hx Ds;obtain rfl:=Cv hy hn;simp only[aaf];rw[dN _ _ _ _ (by simp) (by simp)];simp only[aac];have he:=pZ (P:=P) (w:=w) hu p n c;rw[hp] at he
      split at h
      ·simp only[aA] at h;subst h
       refine⟨_,by simp only[SV.den];rfl,?_⟩;simp[binOp,he,aac,SB.den]
      ·simp only[aA] at h;subst h
       refine⟨_,by simp only[SV.den];rfl,?_⟩;simp[binOp,he,aac,SB.den]
      ·cases h
     ·cases h
   ·cases h
  ·cases h
theorem BU {P:aad}(hT:aQ.ok P T)(hS:∀t ti,bo T t=some ti->(P.underlying t).isSome=true){s d:Nat}{x r:SV}{a:Value}(hx:x.den N=some a)(h:J_ T s d x=some r) :
  ∃v,r.den N=some v/\(convert s d a).run P w=.ok v w:=by
 unfold J_ at h
 split at h
 ·rename_i ti0 ti k0 a' W1 ht
  have ok:=(hT d ti ht).kind
  split at h
  ·rename_i k hk
   rw[hk] at ok;have j6:P.underlying d=some (.int k):=ok;simp only[SV.den,aA] at hx;subst hx;obtain⟨sd,hsd⟩:=aap.1 (hS s ti0 W1);have main:∀z,(convert s d (.int k0 z)).run P w=.ok (.int k (k.wrap z)) w:=by
    intro z;simp only[convert,aaf,run_underlying hsd,run_underlying j6,aac];cases sd<;>rfl
   split at h
   ·simp only[aA] at h;subst h
    exact⟨_,by simp only[SV.den];rfl,by rw[main];rfl⟩
   ·simp only[aA] at h;subst h
    exact⟨_,by simp only[SV.den];rfl,by rw[main];rfl⟩
  ·cases h
 ·cases h
theorem IX {P:aad}{op:UnOp}{x r:SV}{a:Value}(hx:x.den N=some a)(h:unV op x=some r) :
  ∃v,r.den N=some v/\(Op.unary op a).run P w=.ok v w:=by
 unfold unV at h
 split at h
 ·simp only[aA] at h;subst h
  simp only[SV.den,aA] at hx;subst hx;exact⟨_,by simp only[SV.den];rfl,by simp[Op.unary,rT]⟩
 ·simp only[aA] at h;subst h
  simp only[SV.den,aA] at hx;subst hx;exact⟨_,by simp only[SV.den];rfl,by simp[Op.unary,Op.intArith,De,SI.den]⟩
 ·simp only[aA] at h;subst h
  simp only[SV.den,aA] at hx;subst hx;exact⟨_,by simp only[SV.den];rfl,by simp[Op.unary,Op.intBits,lU,SI.den,ig]⟩
 ·cases h
theorem EQ {P:aad}(hT:aQ.ok P T){t ty:Nat}{x r:SV}{a:Value}(hx:x.den N=some a)(h:Wg T t x=some r) :
  ∃v,r.den N=some v/\(aav #[t] ty #[a]).run P w=.ok v w:=by
 unfold Wg at h
 split at h
 ·rename_i ti ht
  have ok:=(hT t ti ht).kind
  split at h
  ·rename_i e hk
   rw[hk] at ok;have j6:P.underlying t=some (.slice e):=ok
   split at h
   ·simp only[aA] at h;subst h
    rename_i r c n z k
    simp only[SV.den] at hx;cases hp:N[r]? with
    |none=>simp[hp] at hx
    |some p =>
     simp only[hp,aA] at hx;subst hx;exact⟨_,by simp only[SV.den];rfl,by simp[aav,run_underlying j6,aac,goInt,SI.den]⟩
   ·simp only[aA] at h;subst h
    simp only[SV.den,aA] at hx;subst hx;exact⟨_,by simp only[SV.den];rfl,by simp[aav,run_underlying j6,aac,goInt,SI.den]⟩
   ·simp only[aA] at h;subst h
    simp only[SV.den,aA] at hx;subst hx;exact⟨_,by simp only[SV.den];rfl,by simp[aav,run_underlying j6,aac,goInt,SI.den]⟩
   ·simp only[aA] at h;subst h
    simp only[SV.den,bc,if_true,aA] at hx;subst hx;exact⟨_,by simp only[SV.den];rfl,by simp[aav,run_underlying j6,aac,goInt,SI.den]⟩
   ·simp only[aA] at h;subst h
    simp only[SV.den,bc,if_true,aA] at hx;subst hx;exact⟨_,by simp only[SV.den];rfl,by simp[aav,run_underlying j6,aac,goInt,SI.den]⟩
   ·cases h
  ·rename_i hk
   rw[hk] at ok;have j6:P.underlying t=some .string:=ok
   split at h
   ·simp only[aA] at h;subst h
    simp only[SV.den,bc,if_true,aA] at hx;subst hx;exact⟨_,by simp only[SV.den];rfl,by simp[aav,run_underlying j6,aac,goInt,SI.den]⟩
   ·cases h
  ·rename_i n e hk
   rw[hk] at ok;have j6:P.underlying t=some (.array n e):=ok;simp only[aA] at h;subst h;refine⟨_,by simp only[SV.den];rfl,?_⟩;simp only[aav];simp[run_underlying j6,aac,goInt,SI.den]
  ·cases h
 ·cases h
theorem Ar (off:Nat):∀(cs:List Value) (k:Nat) (acc:Array Value),
  ((cs.zipIdx k).foldl (fun a (p:Value × Nat)=>a.setIfInBounds (off+p.2) p.1) acc).toList=((abA cs.length).foldl (fun l j=>l.set (off+k+j) (cs.getD j undef)) acc.toList)
 | [],k,acc=>rfl
 |c::cs,k,acc=>by
  simp only[abB,abC,aa7,List.range_succ_eq_map,List.foldl_map];rw[Ar off cs (k+1)];simp only[Array.toList_setIfInBounds,abK,List.getD_cons_zero,List.getD_cons_succ,Nat.add_succ]
  congr 1
  funext l j
  congr 1
  omega
def sf (l:List Value)(c:Nat):List Value->List Value
 | []=>l
 |s::r=>sf (l.set c s) (c+1) r
theorem xC (off:Nat):∀(cs:List Value) (k:Nat) (acc:Array Value),
  ((cs.zipIdx k).foldl (fun a (p:Value × Nat)=>a.setIfInBounds (off+p.2) p.1) acc).toList=sf acc.toList (off+k) cs
 | [],k,acc=>rfl
 |c::cs,k,acc=>by
  simp only[abB,abC,sf];rw[xC off cs (k+1)];simp[aaj]
theorem Kc {l:List SV}{m:List Value}(h:SV.ap N l=some m)(c:Nat){s:SV}{v:Value}(hs:s.den N=some v):SV.ap N (l.set c s)=some (m.set c v):=by
 induction l generalizing m c with
 |nil=>simp only[SV.ap,aA] at h;subst h;rfl
 |cons x l ih =>
  simp only[SV.ap] at h;cases hx:x.den N with
  |none=>simp[hx] at h
  |some y =>
   cases hl:SV.ap N l with
   |none=>simp[hx,hl] at h
   |some q =>
    simp only[hx,hl,aA] at h;subst h;cases c with
    |zero=>simp[SV.ap,hs,hl]
    |succ c=>simp[SV.ap,hx,ih hl c]
theorem CZ {α:Type}:∀(l:List α) (c:Nat) (s:α),c<l.length->putAt l c s=l.set c s
 | [],c,s,h=>by simp at h
 |x::l,0,s,_=>rfl
 |x::l,c+1,s,h=>by simp[putAt,CZ l c s (by simpa using h)]
theorem tT:∀(ss:List SV) {l:List SV} {m vs:List Value} (c:Nat),c+ss.length<=l.length->SV.ap N l=some m->SV.ap N ss=some vs->SV.ap N (setRow l c ss)=some (sf m c vs)
 | [],l,m,vs,c,_,h,k=>by simp only[SV.ap,aA] at k;subst k;exact h
 |s::ss,l,m,vs,c,hc,h,k=>by
  simp only[aa7] at hc;simp only[SV.ap] at k;cases hs:s.den N with
  |none=>simp[hs] at k
  |some v =>
   cases ml:SV.ap N ss with
   |none=>simp[hs,ml] at k
   |some Fp =>
    simp only[hs,ml,aA] at k;subst k;rw[setRow,CZ _ _ _ (by omega)];exact tT ss (c+1) (by simp;omega) (Kc h c hs) ml
theorem sU {s:SV}{v:Value}(hs:s.den N=some v)(ht:∀l,s≠.tup l)(hb:∀l,s≠.big l):SV.ap N s.cells=some v.cells.toList:=by
 cases s<;>simp only[SV.den,SV.cells] at hs ⊢
 case agg cs =>
  cases hl:SV.ap N cs with
  |none=>simp[hl] at hs
  |some l=>simp only[hl,aA] at hs;subst hs;simp[aaw]
 case tup cs=>exact absurd rfl (ht cs)
 case big a=>exact absurd rfl (hb a)
 case own r c =>
  cases hp:N[r]? with
  |none=>simp[hp] at hs
  |some p=>simp only[hp,aA] at hs;subst hs;simp[SV.ap,SV.den,hp,aaw]
 case osl r c n z k =>
  cases hp:N[r]? with
  |none=>simp[hp] at hs
  |some p=>simp only[hp,aA] at hs;subst hs;simp[SV.ap,SV.den,hp,aaw]
 case mp r =>
  cases hp:N[r]? with
  |none=>simp[hp] at hs
  |some p=>simp only[hp,aA] at hs;subst hs;simp[SV.ap,SV.den,hp,aaw]
 case ch r =>
  cases hp:N[r]? with
  |none=>simp[hp] at hs
  |some p=>simp only[hp,aA] at hs;subst hs;simp[SV.ap,SV.den,hp,aaw]
 case fn f cs =>
  cases hp:SV.ap N cs with
  |none=>simp[hp] at hs
  |some p=>simp only[hp,aA] at hs;subst hs;simp[SV.ap,SV.den,hp,aaw]
 case raw x =>
  have hx:bc x=true:=by
   cases h:bc x with
   |true=>rfl
   |false=>simp[h] at hs
  simp only[hx,if_true,aA] at hs;subst hs;cases x<;>first|(simp[bc] at hx;done)|simp[SV.ap,SV.den,bc,aaw]
 all_goals
  simp only[aA] at hs;subst hs;simp[SV.ap,SV.den,aaw]
theorem kW {place:Nat->Option (Nat × Nat)}:∀(ps:List (Nat × SV)) (vs:List (Nat × Value)) {cs r:List SV} {m:Array Value},SV.ap N cs=some m.toList ->
  (∀(j:Nat) (p:Nat × SV),ps[j]?=some p->∃v,p.2.den N=some v/\vs[j]?=some (p.1,v))->vs.length=ps.length ->
  rC place cs ps=some r->∃q:Array Value,SV.ap N r=some q.toList/\abk place m vs=some q
 | [],vs,cs,r,m,h,hv,hl,hf=>by
  simp only[rC,aA] at hf;subst hf;have:vs=[]:=List.eq_nil_of_length_eq_zero (by simpa using hl);subst this;exact⟨m,h,rfl⟩
 |(i,s)::ps,vs,cs,r,m,h,hv,hl,hf=>by
  obtain⟨v,VR,yN⟩:=hv 0 (i,s) rfl;cases vs with
  |nil=>simp at hl
  |cons v0 vs =>
   simp at yN;subst yN;simp only[rC] at hf;cases hp:place i with
   |none=>simp[hp] at hf
   |some os =>
    obtain⟨off,size⟩:=os;simp only[hp] at hf;cases hb:(aae s.cells.length size&&aah (off+size) cs.length) with
    |false=>rw[hb] at hf;simp at hf
    |true =>
     rw[hb] at hf;simp only[cond_true] at hf;simp only[aag] at hb;have h1:=aal hb.1;have h2:=aam hb.2;have WY:∀l,s≠.tup l:=fun l e=>by subst e;simp at hf
     have HP:∀l,s≠.big l:=fun l e=>by subst e;simp at hf
     have hc:=sU VR WY HP;have hlen:=(SV.aP _ hc).1;have hlm:=(SV.aP _ h).1;have d_:rC place (setRow cs off s.cells) ps=some r:=by
      cases s<;>first|exact hf|exact absurd rfl (WY _)|exact absurd rfl (HP _)
     have ey:=tT s.cells off (by omega) h hc;obtain⟨q,nY,jM⟩:=kW ps vs (m:=(sf m.toList off v.cells.toList).toArray) (by simpa using ey)
      (fun j p hj=>by obtain⟨u,k1,k2⟩:=hv (j+1) p (by simpa using hj);exact⟨u,k1,by simpa using k2⟩) (by simpa using hl) d_
     refine⟨q,nY,?_⟩;simp only[abk,hp];have AC:v.cells.size=size:=by rw[<-h1,<-hlen];simp
     have hm:m.size=cs.length:=by rw[<-hlm];simp
     rw[if_neg (by rw[AC];simp;omega)];rw[<-jM]
     congr 1
     apply aaG;have:=xC off v.cells.toList 0 m;simp only[abK] at this;rw[<-Array.foldl_toList,Array.toList_zipIdx,this]
end
section
variable {P:aad} {w:World}
def kS (n:Nat)(l:List Value):List Value :=
 match n with
 |0=>[]
 |n+1=>l++kS n l
theorem uf (n:Nat)(l:List Value):(kS n l).length=n*l.length:=by
 induction n with
 |zero=>simp[kS]
 |succ n ih=>simp[kS,ih,abP];omega
theorem C1 {l:List Value}(hl:0<l.length):∀(n i:Nat),i<n*l.length->(kS n l)[i]?=l[i % l.length]?
 |0,i,h=>by omega
 |n+1,i,h=>by
  rw[abP,Nat.one_mul] at h;simp only[kS]
  by_cases hi:i<l.length
  ·rw[aax hi,Nat.mod_eq_of_lt hi]
  ·rw[aaE (by omega),C1 hl n _ (by omega)]
   conv=>rhs;rw[Nat.mod_eq_sub_mod (by omega)]
theorem nS {N:af}{l:List SV}{m:List Value}(h:SV.ap N l=some m):∀n,SV.ap N (nu n l)=some (kS n m)
 |0=>rfl
 |n+1=>by simp only[nu,kS];exact SV.dz l _ h (nS h n)
theorem oO {zero:Array Value}(hz:0<zero.size)(n:Nat):(abf (n*zero.size)).map (fun i=>zero[i % zero.size]!)=(kS n zero.toList).toArray:=by
 apply aaG;apply aa4;intro i;simp only[Array.toList_map,Array.toList_range,abz]
 by_cases hi:i<n*zero.size
 ·rw[C1 (by simpa using hz) n i (by simpa using hi),List.getElem?_range hi]
  have:i % zero.size<zero.size:=Nat.mod_lt _ hz;simp[this]
 ·have h1:(kS n zero.toList)[i]?=none:=aaO (by rw[uf];simp;omega)
  have h2:(abA (n*zero.size))[i]?=none:=aaO (by simp;omega);rw[h1,h2];rfl
theorem wR {t:Nat}{i:aaK}(h:P.info? t=some i)(w:World):(typeInfo t).run P w=.ok i w:=by
 simp[typeInfo,h,aac]
theorem wQ {t e len:Nat}{parts:Array (Nat × Value)}{zero:Value}{q:Array Value}(hu:P.underlying t=some (.slice e))(hs:∀w,(aao e).run P w=.ok zero.cells.size w)(hz:∀w,(zeroValue e).run P w=.ok zero w)
  (h0:0<zero.cells.size) (hle:len*zero.cells.size<=16777216) (hf:abk (fun i=>some (i*zero.cells.size,zero.cells.size)) (kS len zero.cells.toList).toArray parts.toList=some q) :
  (ab6 t len parts).run P w=.ok (.slice (some ⟨w.heap.size,0,none⟩) len len) (w.alloc (.cells q e)):=by
 simp only[ab6,aaf,run_underlying hu,hs,aac];have h1:¬len*zero.cells.size > 2 ^ 24:=by omega
 simp only[h1,if_false]
 by_cases hl:len=0
 ·subst hl
  simp only[abQ,if_true];have:((abf 0).map fun x=>(#[]:Array Value)[x % (#[]:Array Value).size]!)=(kS 0 zero.cells.toList).toArray:=by simp[kS]
  simp only[aaf,aak,aac];rw[this,hf];simp[aaD,aac]
 ·have h2:len*zero.cells.size≠0:=aba hl (by omega)
  simp only[h2,if_false,aaf,hz,aac,aak];rw[oO h0,hf];simp[aaD,aac]
theorem run_makeSlice {t e:Nat}{k k':IntKind}{len cap:Nat}{i:aaK}{zero:Value}(hu:P.underlying t=some (.slice e))(hi:P.info? e=some i)(hs:∀w,(aao e).run P w=.ok zero.cells.size w)(hz:∀w,(zeroValue e).run P w=.ok zero w)
  (h0:0<zero.cells.size) (hle:len<=cap) (hc:cap<=1099511627776) (hb:i.bytes*cap<=281474976710656) :
  (ab7 t (.int k (len:Nat)) (.int k' (cap:Nat))).run P w=.ok (.slice (some ⟨w.heap.size,0,none⟩) len cap) (w.alloc (.cells (kS cap zero.cells.toList).toArray e)):=by
 have w1:aaZ.wrap (len:Int)=len:=by simp[abo,aa0,aa1];omega
 have w2:aaZ.wrap (cap:Int)=cap:=by simp[abo,aa0,aa1];omega
 have Dq:¬(i.bytes:Int)*(cap:Int) > 2 ^ 48:=by
  have:((i.bytes*cap:Nat):Int)<=281474976710656:=by omega
  rw[ab9] at this;omega
 simp only[ab7,aaf,run_underlying hu,aac,asInt,asIntOf,aak,wR hi,w1,w2];have c1:(((decide ((cap:Int)<0) ||decide ((i.bytes:Int)*(cap:Int) > 2 ^ 48)) ||decide ((len:Int)<0)) ||decide ((len:Int) > cap))=false:=by
  simp only[abr,decide_eq_false_iff_not];exact⟨⟨⟨by omega,Dq⟩,by omega⟩,by omega⟩
 have c2:¬((((decide ((cap:Int)<0) ||decide ((i.bytes:Int)*(cap:Int) > 2 ^ 48)) ||decide ((len:Int)<0)) ||decide ((len:Int) > cap))=true):=by rw[c1];simp
 rw[if_neg c2];have iq:∀n w,(askRoom n).run P w=.ok () w:=by intro n w;unfold askRoom;split<;>rfl
 simp only[aaf,iq,aac,hs,abp]
 by_cases hl:cap=0
 ·subst hl
  simp only[abQ,if_true];have e0:abf 0=#[]:=by apply aaG;simp
  simp[aaD,aac,kS,e0]
 ·have h2:cap*zero.cells.size≠0:=aba hl (by omega)
  simp only[h2,if_false,aaf,hz,aac,aak];rw[oO h0];simp[aaD,aac]
structure Src (P:aad) (size:Nat) (bytes:Nat) (zero:Value) (tx:Nat) (x:Value) (m:Nat) (vs:List Value):Prop where
 kind:((∃k k' ,P.underlying tx=some (.int k)/\x=.int k' (m:Nat)/\vs=kS m zero.cells.toList) \/
  ((∃d,P.underlying tx=some d/\∀k,d≠.int k)/\(∀w,(abl x).run P w=.ok m w)))
 le:m<=1099511627776
theorem yH (uC:Nat):∀(r c:Nat),c<uC->aaJ uC r c<=2*uC+192
 |0,c,h=>by simp[aaJ];omega
 |r+1,c,h=>by
  simp only[aaJ];rw[if_neg (by omega)]
  by_cases hc:c+(c+768) / 4<uC
  ·exact yH uC r _ hc
  ·have:∀r' c',uC<=c'->aaJ uC r' c'=c':=by
    intro r' c' h';cases r' with
    |zero=>rfl
    |succ r'=>simp only[aaJ];rw[if_pos h']
   rw[this r _ (by omega)];omega
theorem ER {uC c_:Nat}(h:c_<uC):aaX uC c_<=2*uC+192:=by
 unfold aaX
 split
 ·omega
 ·split
  ·omega
  ·exact yH uC 4 c_ h
theorem fW {ta:Array Nat}{ty ts te tx:Nat}{zero s x:Value}{i:aaK}{base:Option Addr}{n cap m:Nat}{c_ vs:List Value}(h0:ta[0]?=some ts)(h1:ta[1]?=some tx)
  (hu:P.underlying ts=some (.slice te)) (hi:P.info? te=some i) (hs:∀w,(aao te).run P w=.ok zero.cells.size w) (hz:∀w,(zeroValue te).run P w=.ok zero w) (ZC:0<zero.cells.size)
  (ml:s=.slice base n cap) (lD:Src P zero.cells.size i.bytes zero tx x m vs)
  (x_:(2*(n+m)+256)*i.bytes<=281474976710656) (hn:n+m<=1099511627776)
  (Ax:∀w',w'.heap=w.heap->(¬∃k,P.underlying tx=some (.int k))->(abm zero.cells.size m x).run P w'=.ok vs.toArray w')
  (hold:cap<n+m->∀w',w'.heap=w.heap->(abm zero.cells.size n s).run P w'=.ok c_.toArray w')
  {wf:World} (ac3:n+m<=cap->(match base with|some a=>(aa2 (a.add (n*zero.cells.size)) vs).run P w=.ok () wf|none=>wf=w)) :
  (n+m<=cap->(aaY ta ty #[s,x]).run P w=.ok (.slice base (n+m) cap) wf) /\
  (cap<n+m->∃K rest,n+m<=K/\rest.length=(K-(n+m))*zero.cells.size/\(aaY ta ty #[s,x]).run P w=.ok (.slice (some ⟨w.heap.size,0,none⟩) (n+m) K) (w.drew.alloc (.cells (c_++vs++rest).toArray te))):=by
 subst ml;have w1:aaZ.wrap (m:Int)=m:=by have:=lD.le;simp[abo,aa0,aa1];omega
 have hb:¬(m:Int)*(i.bytes:Int) > 2 ^ 48:=by
  have h3:m*i.bytes<=(2*(n+m)+256)*i.bytes:=abR _ (by omega);have:((m*i.bytes:Nat):Int)<=281474976710656:=by omega
  rw[ab9] at this;omega
 have YQ:¬(m:Int)<0:=by omega
 -- what is XF
 obtain⟨d,VV,hd,bM⟩:∃(d:TypeDesc),P.underlying tx=some d/\(((∃k,d=.int k)/\∃k',x=.int k' (m:Nat))\/((∀k,d≠.int k)/\∀w,(abl x).run P w=.ok m w)) /\
   ∀w',w'.heap=w.heap->(if (match d with | .int _=>true|_=>false)=true then (if m*zero.cells.size=0 then pure #[] else do pure (abn (<-zeroValue te).cells m)) else abm zero.cells.size m x:Sem (Array Value)).run P w'=.ok vs.toArray w':=by
  rcases lD.kind with ⟨k,k',VV,rfl,rfl⟩|⟨⟨d,VV,hd⟩,hl⟩
  ·refine⟨_,VV,.inl ⟨⟨k,rfl⟩,k',rfl⟩,fun w' Ni=>?_⟩
   simp only[if_true]
   by_cases hm:m=0
   ·subst hm;simp[kS]
   ·have h2:m*zero.cells.size≠0:=aba hm (by omega)
    simp only[h2,if_false,aaf,hz,aac,aak,abn];rw[oO ZC]
  ·refine⟨d,VV,.inr ⟨hd,hl⟩,fun w' Ni=>?_⟩
   have:=Ax w' Ni (fun⟨k,hk⟩=>by rw[VV] at hk;cases hk;exact hd k rfl);cases d<;>first|exact absurd rfl (hd _)|simpa using this
 have fA:¬(((n+m:Nat):Int) > aaZ.max):=by
  intro h;simp[IntKind.max,aa0,aa1] at h;omega
 have iq:∀n w,(askRoom n).run P w=.ok () w:=by intro n w;unfold askRoom;split<;>rfl
 have hl:∀w,(∃k',x=.int k' (m:Nat))\/(abl x).run P w=.ok m w:=fun w=>by
  rcases hd with ⟨_,h⟩|⟨_,h⟩
  ·exact .inl h
  ·exact .inr (h w)
 refine⟨fun hle=>?_,fun aF=>?_⟩
 ·have bM:=bM w rfl
  have:=ac3 hle;cases d
  all_goals
   rcases hd with ⟨⟨k,hk⟩,k',rfl⟩|⟨hk,hl⟩<;>first|(cases hk;done)|exact absurd rfl (hk _)|skip
   simp only[aau,if_false,if_true] at bM;simp only[aaY,h0,h1,aa8,abD,aa6,aaf,run_underlying hu,run_underlying VV,aac,hs,aak,asInt,asIntOf,w1,YQ,wR hi,hb,
    abp,hl,aau,if_false,if_true,if_pos hle,aaL,abu,bM]
   cases base with
   |none=>simp only at this;subst this;rfl
   |some a =>
    simp only at this;simp only[aaf,this,aac,aak]
 ·have Yb:¬aaX (n+m) cap*i.bytes > 2 ^ 48:=by
   have h3:=ER aF;have:aaX (n+m) cap*i.bytes<=(2*(n+m)+256)*i.bytes:=abR _ (by omega);omega
  let K:=(Question.appendCap (n+m) cap te).cut (w.tape w.drawn (.appendCap (n+m) cap te))
  have hK:n+m<=K:=by show n+m<=n+m+_;omega
  refine⟨K,kS (K-(n+m)) zero.cells.toList,hK,by rw[uf];simp,?_⟩;have EB:¬n+m<=cap:=by omega
  have bV:(choose (.appendCap (n+m) cap te)).run P w=.ok K w.drew:=rfl;have bM:=bM w.drew rfl;have yK:=hold aF w.drew rfl;cases d
  all_goals
   rcases hd with ⟨⟨k,hk⟩,k',rfl⟩|⟨hk,hl⟩<;>first|(cases hk;done)|exact absurd rfl (hk _)|skip
   simp only[aau,if_false,if_true] at bM;simp only[aaY,h0,h1,aa8,abD,aa6,aaf,run_underlying hu,run_underlying VV,aac,hs,aak,asInt,asIntOf,w1,YQ,wR hi,hb,
    abp,hl,aau,if_false,if_true,if_neg EB,aaL,abu,bM,fA,false_and,Yb,bV,iq,yK,hz]
   simp only[abn];rw[oO ZC];simp[aaD,aac]
end
end Go.bU
