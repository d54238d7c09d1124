import Derived.Test.YthpbefahaghbjaaGreatLaw
import Derived.Test.YthpbefahaghbjaaGreatTab
import Derived.Test.YthpbefahaghbjaaGreatEC
import Derived.Sort.Defs
set_option maxHeartbeats 16000000
set_option maxRecDepth 100000
set_option cbv.maxSteps 100000000
namespace Go.Eng
open Go
inductive GK where
 | yes | no
 | may (k:Nat) (w:Bool) (b:SB)
def gdOf (all:Array Oper) (f:Fr) (o:Oper):Option GK :=
 match o.guard with
 | none=>some .yes
 | some (gi,want)=>match dstOf all gi with
  | none=>none
  | some k=>match look f k with
   | .val (.bool (.lit b))=>some (bif b == want then .yes else .no)
   | .val (.bool b)=>some (.may k want b)
   | .val v=>bif isU v then some .no else none
   | .opt _ _ (.bool b)=>some (.may k want b)
   | _=>none
def GK.Ok (g:GK) (all:Array Oper) (o:Oper) (a:Act):Prop:=match g with
 | .yes=>Region.wanted o (yielded all a.tmps)=true
 | .no=>Region.wanted o (yielded all a.tmps)=false
 | .may k w b=>(Region.wanted o (yielded all a.tmps)=true↔a.tmps[k]?=some (.bool w))∧(a.tmps[k]?=some (.bool w)→b.den=w)
def GK.T:GK→Prop
 | .may _ w b=>b.den=w
 | _=>True
theorem gdOf_sound {n:Nat} {N:Nums} {f:Fr} {a:Act} {all:Array Oper} {o:Oper} {g:GK} (hf:FrOk n N f a) (h:gdOf all f o=some g):g.Ok all o a:=by
 unfold gdOf at h
 cases hg:o.guard with
 | none =>
  simp only [hg,Option.some.injEq] at h;subst h
  simp [GK.Ok,Region.wanted,hg]
 | some gw =>
  obtain ⟨gi,want⟩:=gw
  simp only [hg] at h
  cases hd:dstOf all gi with
  | none=>simp [hd] at h
  | some k =>
   simp only [hd] at h
   have hyk:=yielded_at hd a.tmps
   have hwant:Region.wanted o (yielded all a.tmps)=(yielded all a.tmps gi == some want):=by simp [Region.wanted,hg]
   have hmay:(Region.wanted o (yielded all a.tmps)=true↔a.tmps[k]?=some (.bool want)):=by
    rw [hwant,hyk]
    cases ht:a.tmps[k]? with
    | none=>simp
    | some u=>cases u<;>simp
   have hok:=hf.ok k
   split at h
   ·rename_i b hl
    rw [hl] at hok
    obtain ⟨x,hx,hm⟩:=hok
    simp only [SV.den,SB.den,Option.some.injEq] at hx;subst hx
    simp only [Option.some.injEq] at h;subst h
    cases hbw:(b == want) with
    | true=>show Region.wanted _ _=true;rw [hwant,hyk,hm];simpa using hbw
    | false=>show Region.wanted _ _=false;rw [hwant,hyk,hm];simpa using hbw
   ·rename_i b _ hl
    rw [hl] at hok
    obtain ⟨x,hx,hm⟩:=hok
    simp only [SV.den,Option.some.injEq] at hx;subst hx
    simp only [Option.some.injEq] at h;subst h
    exact ⟨hmay,fun e=>by rw [hm] at e;simpa using e⟩
   ·rename_i v _ _ hl
    rw [hl] at hok
    obtain ⟨x,hx,hm⟩:=hok
    cases hu:isU v with
    | false=>rw [hu] at h;simp at h
    | true =>
     rw [hu] at h
     simp only [cond_true,Option.some.injEq] at h;subst h
     have:v=.tup []:=by unfold isU at hu;split at hu<;>first | rfl | simp at hu
     subst this
     simp only [SV.den,SV.denL,Option.some.injEq] at hx;subst hx
     show Region.wanted _ _=false
     rw [hwant,hyk,hm];rfl
   ·rename_i j w' b hl
    rw [hl] at hok
    simp only [Option.some.injEq] at h;subst h
    refine ⟨hmay,fun e=>?_⟩
    by_cases hj:a.tmps[j]?=some (.bool w')
    ·obtain ⟨x,hx,hm⟩:=hok.1 hj
     simp only [SV.den,Option.some.injEq] at hx;subst hx
     rw [hm] at e;simpa using e
    ·rw [hok.2 hj] at e;cases e
   ·cases h
def evK (f:Fr):GK→Operand→Option SV
 | .may k w _=>evG f k w
 | _=>ev f
theorem evK_sound {n:Nat} {N:Nums} {f:Fr} {a:Act} {all:Array Oper} {o:Oper} {g:GK} (hf:FrOk n N f a) (h:g.Ok all o a) (hw:Region.wanted o (yielded all a.tmps)=true) {x:Operand} {s:SV} (he:evK f g x=some s):s.den N=some (a.eval x):=by
 cases g with
 | yes=>exact ev_sound hf he
 | no=>exact ev_sound hf he
 | may k w b=>exact evG_sound hf (h.1.1 hw) he
theorem GK.Ok.t {g:GK} {all:Array Oper} {o:Oper} {a:Act} (h:g.Ok all o a) (hw:Region.wanted o (yielded all a.tmps)=true):g.T:=by
 cases g with
 | yes=>trivial
 | no=>trivial
 | may k w b=>exact h.2 (h.1.1 hw)
def putG (n:Nat) (f:Fr) (d:Option Nat) (g:GK) (r:SV):Option Fr:=match g with
 | .yes=>putO n f d (.val r)
 | .no=>putO n f d (.val (.tup []))
 | .may k w _=>match d with
  | some d=>bif Nat.beq d k then none else putO n f (some d) (.opt k w r)
  | none=>some f
theorem putG_sound {n:Nat} {N:Nums} {f f':Fr} {a:Act} {all:Array Oper} {o:Oper} {g:GK} {d:Option Nat} {r:SV} (hf:FrOk n N f a) (h:g.Ok all o a) (hp:putG n f d g r=some f') :
  (Region.wanted o (yielded all a.tmps)=true→∀ x,r.den N=some x→FrOk n N f' (a.put d x))∧(Region.wanted o (yielded all a.tmps)=false→FrOk n N f' (a.put d undef)):=by
 cases g with
 | yes=>exact ⟨fun _ x hx=>putO_sound hf hx hp,fun hw=>(by have h:Region.wanted _ _=true:=h;rw [hw] at h;cases h)⟩
 | no=>exact ⟨fun hw=>(by have h:Region.wanted _ _=false:=h;rw [hw] at h;cases h),fun _=>putO_sound hf (x:=undef) rfl hp⟩
 | may k w b =>
  have h:Region.wanted o (yielded all a.tmps)=true↔a.tmps[k]?=some (.bool w):=h.1
  cases d with
  | none=>simp only [putG,Option.some.injEq] at hp;subst hp;exact ⟨fun _ _ _=>hf,fun _=>hf⟩
  | some d =>
   simp only [putG] at hp
   cases hdk:Nat.beq d k with
   | true=>rw [hdk] at hp;simp at hp
   | false =>
    rw [hdk] at hp
    simp only [cond_false,putO] at hp
    have hdk':d≠k:=fun e=>by subst e;simp at hdk
    cases hb:Nat.blt d n with
    | false=>rw [hb] at hp;simp at hp
    | true =>
     rw [hb] at hp
     simp only [cond_true,Option.some.injEq] at hp;subst hp
     have hdn:d<n:=Nat.le_of_ble_eq_true hb
     refine ⟨fun hw x hx=>?_,fun hw=>?_⟩
     ·have hk':=h.1 hw
      have e1:(a.put (some d) x).tmps[k]?=a.tmps[k]?:=by simp only [Act.put];rw [Array.getElem?_setIfInBounds_ne hdk']
      exact hf.put hdn ⟨fun _=>⟨x,hx,by simp [Act.put,hf.size,hdn]⟩,fun hn=>absurd (by rw [e1];exact hk') hn⟩
     ·have hk':¬a.tmps[k]?=some (.bool w):=fun e=>by rw [h.2 e] at hw;cases hw
      have e1:(a.put (some d) undef).tmps[k]?=a.tmps[k]?:=by simp only [Act.put];rw [Array.getElem?_setIfInBounds_ne hdk']
      exact hf.put hdn ⟨fun e=>absurd (by rw [←e1];exact e) hk',fun _=>by simp [Act.put,hf.size,hdn]⟩
inductive Owe where
 | call (rg:List Rg) (k:GK) (g:Nat) (l:List SV) (r:SV)
 | val (rg:List Rg) (f:Fr) (g:GK) (op:Op) (r:SV)
def CallOk (E:Env) (N0:Nums) (rg:List Rg) (k:GK) (g:Nat) (l:List SV) (r:SV):Prop :=
 k.T→(∀ args w,(callFunc g args).run E.P w=.ok (.enter g args) w)∧∀ (N:Nums) (w:World) (args:List Value),N0.le N→Sat E N rg w→SV.denL N l=some args →
  Calls E.P g args.toArray w fun e w'=>∃ v,e=.returned v∧r.den N=some v∧Chg (fun _ _=>False) w w'
def VI (im:Nat→Nat→Option Value) (N:Nums) (rg:List Rg) (w:World):Prop:=Vis N rg w∧∀ k o v,im k o=some v→w.cell? ⟨k,o,none⟩=some v
theorem VI.mono {im:Nat→Nat→Option Value} {N N':Nums} {rg:List Rg} {w:World} (h:VI im N rg w) (hN:N.le N'):VI im N' rg w:=⟨h.1.mono hN,h.2⟩
theorem Sat.vi {E:Env} {N:Nums} {rg:List Rg} {w:World} (h:Sat E N rg w):VI E.im N rg w:=⟨h.vis,h.imm⟩
def ValOk (E:Env) (N0:Nums) (rg:List Rg) (f:Fr) (g:GK) (op:Op) (r:SV):Prop :=
 g.T→∀ (N:Nums) (ρ:Operand→Value) (o:Oper) (w:World),N0.le N→o.op=op→(∀ x s,evK f g x=some s→s.den N=some (ρ x))→VI E.im N rg w→∃ v,r.den N=some v∧∀ w',VI E.im N rg w'→(execOp ρ o).run E.P w'=.ok (.value v) w'
def Owe.Ok (E:Env) (N0:Nums):Owe→Prop
 | .call rg k g l r=>CallOk E N0 rg k g l r
 | .val rg f g op r=>ValOk E N0 rg f g op r
def lookN:List (Nat × SV)→Nat→Option SV
 | [],_=>none
 | (k,v)::r,t=>bif Nat.beq k t then some v else lookN r t
def isCall:Op→Bool
 | .call c=>match c.callee with
  | .value _=>true
  | _=>false
 | _=>false
def qP (td:List (Nat × SV)) (T:Tab) (n:Nat) (all:Array Oper) (rg:List Rg) (i:Nat) (f:Fr):Option (Fr × List Owe) :=
 match nth all.toList i with
 | none=>none
 | some o=>match (match isCall o.op,o.dst with | false,some d=>lookN td d | _,_=>none) with
  | some r=>match gdOf all f o with
   | some g=>match putG n f o.dst g r with
    | some f'=>some (f',match g with | .no=>[] | g=>[.val rg f g o.op r])
    | none=>none
   | none=>none
  | none=>match opQ T n all rg i f with
   | some f'=>some (f',[])
   | none=>none
theorem qP_sound {E:Env} {T:Tab} (hT:TabOk E.P T) {td:List (Nat × SV)} {n:Nat} {N N0:Nums} {rg:List Rg} {f f':Fr} {a:Act} {all:Array Oper} {i:Nat} {o:Oper} {w0:World} {os:List Owe} (ho:all[i]?=some o) (hq:qP td T n all rg i f=some (f',os)) (hos:∀ q∈os,q.Ok E N0) (hN0:N0.le N) (hf:FrOk n N f a) (h0:VI E.im N rg w0) :
  ∃ v,((Region.wanted o (yielded all a.tmps)=true∧∀ w,VI E.im N rg w→(execOp a.eval o).run E.P w=.ok (.value v) w)∨(Region.wanted o (yielded all a.tmps)=false∧v=undef))∧FrOk n N f' (a.put o.dst v):=by
 have ho':nth all.toList i=some o:=by rw [nth_eq];simpa using ho
 unfold qP at hq
 simp only [ho'] at hq
 split at hq
 ·rename_i r hr
  split at hq
  ·rename_i g hg
   split at hq
   ·rename_i f1 hp
    simp only [Option.some.injEq,Prod.mk.injEq] at hq
    obtain ⟨rfl,rfl⟩:=hq
    have hgk:=gdOf_sound hf hg
    obtain ⟨p1,p2⟩:=putG_sound hf hgk hp
    cases hw:Region.wanted o (yielded all a.tmps) with
    | false=>exact ⟨undef,.inr ⟨rfl,rfl⟩,p2 hw⟩
    | true =>
     have hgn:∀ {P:Prop},g=.no→P:=fun e=>by subst e;have h:Region.wanted _ _=false:=hgk;rw [hw] at h;cases h
     have hob:ValOk E N0 rg f g o.op r:=by
      cases g with
      | no=>exact hgn rfl
      | yes=>exact hos _ (List.mem_singleton.2 rfl)
      | may k w b=>exact hos _ (List.mem_singleton.2 rfl)
     obtain ⟨v,h1,h2⟩:=hob (hgk.t hw) N a.eval o w0 hN0 rfl (fun x s hx=>evK_sound hf hgk hw hx) h0
     exact ⟨v,.inl ⟨rfl,h2⟩,p1 hw v h1⟩
   ·cases hq
  ·cases hq
 ·split at hq
  ·rename_i f1 hq1
   simp only [Option.some.injEq,Prod.mk.injEq] at hq
   obtain ⟨rfl,rfl⟩:=hq
   obtain ⟨v,h1,h2⟩:=opQ_sound hT ho hq1 hf h0.1
   exact ⟨v,h1.imp (fun h=>⟨h.1,fun w hw=>h.2 w hw.1⟩) id,h2⟩
  ·cases hq
def pcQ (ρ:Operand→Option SV) (op:Op):Option (Nat × List SV) :=
 match op with
 | .call c=>match c.callee with
  | .value x=>match ρ x with
   | some v=>match fnOf v with
    | some (g,cs)=>match evL0 ρ c.args.toList with
     | some l=>some (g,l++cs)
     | none=>none
    | none=>none
   | none=>none
  | _=>none
 | _=>none
def pcall (td:List (Nat × SV)) (n:Nat) (all:Array Oper) (i:Nat) (f:Fr):Option (Fr × GK × Nat × List SV × SV) :=
 match nth all.toList i with
 | none=>none
 | some o=>match (match o.dst with | some d=>lookN td d | none=>none) with
  | some r=>match gdOf all f o with
   | some g=>match pcQ (evK f g) o.op with
    | some (h,l)=>match putG n f o.dst g r with
     | some f'=>some (f',g,h,l,r)
     | none=>none
    | none=>none
   | none=>none
  | none=>none
theorem pcall_sound {E:Env} {td:List (Nat × SV)} {N N0:Nums} {rg:List Rg} {f f':Fr} {a:Act} {all:Array Oper} {i:Nat} {o:Oper} {w:World} {g:Nat} {k:GK} {l:List SV} {r:SV} (ho:all[i]?=some o) (hq:pcall td E.n all i f=some (f',k,g,l,r)) (hob:CallOk E N0 rg k g l r) (hN0:N0.le N) (hf:FrOk E.n N f a) (hS:Sat E N rg w) :
  (Region.wanted o (yielded all a.tmps)=true∧∀ (K:Act→World→Prop) (Q:Exit→Act→World→Prop),(∀ x w',FrOk E.n N f' (a.put o.dst x)→Sat E N rg w'→K (a.put o.dst x) w')→o.wp E.P a w K Q) ∨
  (Region.wanted o (yielded all a.tmps)=false∧FrOk E.n N f' (a.put o.dst undef)):=by
 have ho':nth all.toList i=some o:=by rw [nth_eq];simpa using ho
 unfold pcall at hq
 simp only [ho'] at hq
 split at hq
 case h_2=>cases hq
 rename_i r0 _
 split at hq
 ·rename_i gk hg
  split at hq
  ·rename_i h0 l0 hpc
   split at hq
   ·rename_i f1 hp
    simp only [Option.some.injEq,Prod.mk.injEq] at hq
    obtain ⟨rfl,rfl,rfl,rfl,rfl⟩:=hq
    have hgk:=gdOf_sound hf hg
    obtain ⟨p1,p2⟩:=putG_sound hf hgk hp
    cases hw:Region.wanted o (yielded all a.tmps) with
    | false=>exact .inr ⟨rfl,p2 hw⟩
    | true =>
     refine .inl ⟨rfl,fun K Q hK=>?_⟩
     unfold pcQ at hpc
     split at hpc
     ·rename_i c hop
      split at hpc
      ·rename_i x hcal
       split at hpc
       ·rename_i v hv
        split at hpc
        ·rename_i g' cs hfn
         split at hpc
         ·rename_i l' hl
          ·simp only [Option.some.injEq,Prod.mk.injEq] at hpc
           obtain ⟨rfl,rfl⟩:=hpc
           have hρ:∀ x s,evK f gk x=some s→s.den N=some (a.eval x):=fun x s hx=>evK_sound hf hgk hw hx
           have hargs0:=evL0_sound hρ _ hl
           obtain ⟨cl,hcl,hcd⟩:=fnOf_sound (hρ _ _ hv) hfn
           have hargs:=SV.denL_append _ _ hargs0 hcd
           have hexec:(execOp a.eval o).run E.P w=.ok (.enter g' (c.args.toList.map a.eval++cl).toArray) w:=by
            obtain ⟨callee,args,argTypes⟩:=c
            simp only at hcal hl
            subst hcal
            simp only [execOp,hop,resolve,hcl,Deferred.ofValue,Sem.run_bind,Sem.run_pure,Result.andThen,invoke]
            rw [(hob (hgk.t hw)).1]
            congr 2
            apply Array.ext'
            simp
           unfold Oper.wp
           rw [hexec]
           refine Calls.mono ((hob (hgk.t hw)).2 N w _ hN0 hS hargs) fun e w' ⟨v,he,hv,hc⟩=>?_
           subst he
           exact hK v w' (p1 hw v hv) (hS.after0 hc)
         ·cases hpc
        ·cases hpc
       ·cases hpc
      ·cases hpc
     ·cases hpc
   ·cases hq
  ·cases hq
 ·cases hq
def dryP (td:List (Nat × SV)) (T:Tab) (n:Nat) (all:Array Oper):Sch→St→KW
 | [],_=>[]
 | (i,_)::r,s=>match qP td T n all s.rg i s.fr with
  | some (f,_)=>dryP td T n all r ⟨f,s.rg⟩
  | none=>match opE T n all i s with
   | some s'=>match stR s.fr all i with
    | some k=>(i,[k])::dryP td T n all r s'
    | none=>dryP td T n all r s'
   | none=>match pcall td n all i s.fr with
    | some (f,_)=>dryP td T n all r ⟨f,s.rg⟩
    | none=>[]
def anyP (td:List (Nat × SV)) (T:Tab) (n:Nat) (all:Array Oper) (K:KW) (rg:List Rg):Sch→St→List Owe→Option (St × List Owe)
 | [],s,os=>some (s,os)
 | (i,some blk)::r,s,os=>bif quietK K i then
   match qP td T n all (maskRg (flatK (memB blk) K) rg 0) i s.fr with
   | some (f,o)=>anyP td T n all K rg r ⟨f,s.rg⟩ (o++os)
   | none=>none
  else none
 | (i,none)::r,s,os=>match qP td T n all s.rg i s.fr with
  | some (f,o)=>anyP td T n all K rg r ⟨f,s.rg⟩ (o++os)
  | none=>match opE T n all i s with
   | some s'=>bif (match stR s.fr all i with | some k=>memN (lookK K i) k | none=>true) then anyP td T n all K rg r s' os else none
   | none=>match pcall td n all i s.fr with
    | some (f,gk,g,l,v)=>anyP td T n all K rg r ⟨f,s.rg⟩ (.call s.rg gk g l v::os)
    | none=>none
theorem anyP_obs {td:List (Nat × SV)} {T:Tab} {n:Nat} {all:Array Oper} {K:KW} {rg:List Rg}:∀ (sch:Sch) (s:St) (os:List Owe) {s':St} {os':List Owe},anyP td T n all K rg sch s os=some (s',os')→∀ q∈os,q∈os':=by
 intro sch
 induction sch with
 | nil=>intro s os s' os' h q hq;simp only [anyP,Option.some.injEq,Prod.mk.injEq] at h;obtain ⟨rfl,rfl⟩:=h;exact hq
 | cons p r ih =>
  obtain ⟨i,b⟩:=p
  intro s os s' os' h q hq
  cases b with
  | some blk =>
   simp only [anyP] at h
   obtain ⟨_,h⟩:=bif_none h
   split at h
   ·exact ih _ _ h q (List.mem_append_right _ hq)
   ·cases h
  | none =>
   simp only [anyP] at h
   split at h
   ·exact ih _ _ h q (List.mem_append_right _ hq)
   ·split at h
    ·obtain ⟨_,h⟩:=bif_none h
     exact ih _ _ h q hq
    ·split at h
     ·exact ih _ _ h q (List.mem_cons_of_mem _ hq)
     ·cases h
theorem anyP_sound {E:Env} {T:Tab} (hT:TabOk E.P T) {td:List (Nat × SV)} {all:Array Oper} (hsel:Region.noSelect all=true) {Q:Exit→Act→World→Prop} (hQ:PanicOk Q) {N0:Nums} {K:KW} {rg:List Rg} {s':St} {os':List Owe} (hos:∀ q∈os',q.Ok E N0) {Nf:Nums} (wf:World) (hV:Vis Nf rg wf):∀ (sch:Sch) (listed:Array Bool) {s:St} {os:List Owe} {N:Nums} {a:Act} {w:World},
  schOk all sch listed=true→listed.size=all.size→anyP td T E.n all K rg sch s os=some (s',os')→Nf.le N→N0.le N→FrOk E.n N s.fr a→Sat E N s.rg w→Agree (wrL K listed) rg s.rg→rg.length≤s.rg.length →
  (∀ N' a' w',N.le N'→FrOk E.n N' s'.fr a'→Sat E N' s'.rg w'→Q .normal a' w')→wpF E.P all Q (fun L=>VI E.im Nf (maskRg (wrL K L) rg 0)) sch.length listed a w:=by
 have emp:∀ {l:List Nat},l.isEmpty=true→l=[]:=by intro l h;cases l<;>simp at h ⊢
 have see:∀ (L:Array Bool) {N:Nums} {rg':List Rg} {w:World},Nf.le N→Agree (wrL K L) rg rg'→Sat E N rg' w→VI E.im Nf (maskRg (wrL K L) rg 0) w:=fun L _ _ _ hN ha hS=>⟨vis_of_agree (hV.mask _) hN ha hS,hS.imm⟩
 intro sch
 induction sch with
 | nil =>
  intro listed s os N a w hs hn hg hN hN0 hf hS ha hl hk
  simp only [anyP,Option.some.injEq,Prod.mk.injEq] at hg
  obtain ⟨rfl,rfl⟩:=hg
  exact wpF.done (emp hs) (hk N a w (Nums.le.refl N) hf hS)
 | cons p r ih =>
  obtain ⟨i,q⟩:=p
  intro listed s os N a w hs hn hg hN hN0 hf hS ha hl hk
  have hS0:=see listed hN ha hS
  cases q with
  | some blk =>
   simp only [schOk,Bool.and_eq_true] at hs
   obtain ⟨⟨⟨⟨hr,hfree⟩,hclosed⟩,hwithin⟩,hs⟩:=hs
   simp only [anyP] at hg
   obtain ⟨hqk,hg⟩:=bif_none hg
   have hqk:=quietK_spec hqk
   have hrm:i∈Region.ready .any all listed:=by simpa using hr
   have hi0:listed.getD i false=false:=by
    have h1:=(mem_ready.1 hrm).1
    rcases Nat.lt_or_ge i listed.size with h' | h'
    ·simp [h'] at h1 ⊢;exact h1
    ·rw [Array.getD_eq_getD_getElem?,Array.getElem?_eq_none h'];rfl
   have same:∀ (L:Array Bool) (r:Nat),memN (wrL K (L.setIfInBounds i true)) r=true↔memN (wrL K L) r=true:=fun L r=>by
    simp only [wrL,memN_flat]
    constructor
    ·rintro ⟨p,h1,h2,h3⟩
     exact ⟨p,h1,by rwa [getD_set_ne false (fun e=>hqk p h1 e.symm)] at h2,h3⟩
    ·rintro ⟨p,h1,h2,h3⟩
     exact ⟨p,h1,by rwa [getD_set_ne false (fun e=>hqk p h1 e.symm)],h3⟩
   split at hg
   ·rename_i f ob hq
    obtain ⟨_,o,ho,_⟩:=mem_ready.1 hrm
    -- whoever may have come up ahead of it is of blk
    have wide:∀ {L':Array Bool} {w':World},Up all i listed L'→VI E.im Nf (maskRg (wrL K L') rg 0) w'→VI E.im Nf (maskRg (flatK (memB blk) K) rg 0) w':=fun hup hv =>
     ⟨hv.1.more fun r hr=>by
      obtain ⟨p,h1,h2,h3⟩:=memN_flat.1 hr
      exact memN_flat.2 ⟨p,h1,(hup.within hclosed hn hi0 hwithin).2.2 _ h2,h3⟩,hv.2⟩
    have hob:∀ q∈ob,q.Ok E N0:=fun q hq=>hos q (anyP_obs _ _ _ hg q (List.mem_append_left _ hq))
    obtain ⟨v,hv,hfr⟩:=qP_sound hT ho hq hob hN0 hf ((wide .here hS0).mono hN)
    refine wpF.take (S:=fun L=>VI E.im Nf (maskRg (wrL K L) rg 0)) ho hsel hfree hr (fun c a w h=>hQ c a o.dst v w h) (fun L w=>⟨fun h=>⟨h.1.more fun r hr=>(same L r).1 hr,h.2⟩,fun h=>⟨h.1.more fun r hr=>(same L r).2 hr,h.2⟩⟩) ?_ hS0
     (ih _ hs (by simpa using hn) hg hN hN0 hfr hS (fun r g hg hm=>ha r g hg (by
      cases hx:memN (wrL K listed) r with
      | true=>rw [(same listed r).2 hx] at hm;cases hm
      | false=>rfl)) hl hk)
    rcases hv with ⟨hw,hrun⟩ | ⟨hw,rfl⟩
    ·exact .inl ⟨hw,fun w ⟨L',hup,hw⟩=>hrun w ((wide hup hw).mono hN)⟩
    ·exact .inr ⟨hw,rfl⟩
   ·cases hg
  | none =>
   simp only [schOk,Bool.and_eq_true] at hs
   obtain ⟨hr,hs⟩:=hs
   have hr:=only_spec hr
   have hrm:i∈Region.ready .any all listed:=by rw [hr];simp
   have hlt:i<listed.size:=by
    obtain ⟨_,o,ho,_⟩:=mem_ready.1 hrm
    rw [hn];exact (Array.getElem?_eq_some_iff.1 ho).1
   have hset:(listed.setIfInBounds i true).getD i false=true:=by simp [hlt]
   have grow:∀ r,memN (wrL K listed) r=true→memN (wrL K (listed.setIfInBounds i true)) r=true:=fun r h=>by
    obtain ⟨p,h1,h2,h3⟩:=memN_flat.1 h
    refine memN_flat.2 ⟨p,h1,?_,h3⟩
    by_cases e:i=p.1
    ·rw [←e];exact hset
    ·rw [getD_set_ne false e];exact h2
   have own:∀ k,memN (lookK K i) k=true→memN (wrL K (listed.setIfInBounds i true)) k=true:=fun k hk=>by
    obtain ⟨p,h1,h2,h3⟩:=lookK_mem hk
    exact memN_flat.2 ⟨p,h1,by rw [h2];exact hset,h3⟩
   have ha1:Agree (wrL K (listed.setIfInBounds i true)) rg s.rg:=ha.mono fun r hr=>by
    cases hx:memN (wrL K listed) r with
    | true=>rw [grow r hx] at hr;cases hr
    | false=>rfl
   obtain ⟨_,o,ho,_⟩:=mem_ready.1 hrm
   simp only [anyP] at hg
   split at hg
   ·rename_i f ob hq
    have hob:∀ q∈ob,q.Ok E N0:=fun q hq=>hos q (anyP_obs _ _ _ hg q (List.mem_append_left _ hq))
    obtain ⟨v,hv,hfr⟩:=qP_sound hT ho hq hob hN0 hf hS.vi
    refine wpF.all hr (by simp) fun j hj=>?_
    simp only [List.mem_singleton] at hj;subst hj
    unfold wpOp
    simp only [ho]
    have hnext:=ih _ hs (by simpa using hn) hg hN hN0 hfr hS ha1 hl hk
    rcases hv with ⟨hw,hrun⟩ | ⟨hw,rfl⟩
    ·rw [hw,if_pos rfl]
     exact .inl (wp_of_yields (.inl (hrun w hS.vi)) ⟨see _ hN ha1 hS,hnext⟩)
    ·rw [hw]
     exact ⟨see _ hN ha1 hS,hnext⟩
   ·split at hg
    ·rename_i s1 he
     obtain ⟨hmk,hg2⟩:=bif_none hg
     obtain ⟨hw,N',x,w',hN',hy,hf',hS'⟩:=opE_sound hT (by simpa using ho) he hf hS
     have ha2:=stepE_agree (ks:=wrL K (listed.setIfInBounds i true)) ha1 hl (by
      split
      ·rename_i k hk'
       rw [hk'] at hmk
       exact own k hmk
      ·rfl) he
     refine wpF.all hr (by simp) fun j hj=>?_
     simp only [List.mem_singleton] at hj;subst hj
     unfold wpOp
     simp only [ho]
     rw [hw,if_pos rfl]
     exact .inl (wp_of_yields hy ⟨see _ (hN.trans hN') ha2.1 hS',ih _ hs (by simpa using hn) hg2 (hN.trans hN') (hN0.trans hN') hf' hS' ha2.1 ha2.2 (fun N2 a2 w2 h1 h2 h3=>hk N2 a2 w2 (hN'.trans h1) h2 h3)⟩)
    ·split at hg
     ·rename_i f gk g l v hpc
      have hob:CallOk E N0 s.rg gk g l v:=hos _ (anyP_obs _ _ _ hg _ List.mem_cons_self)
      refine wpF.all hr (by simp) fun j hj=>?_
      simp only [List.mem_singleton] at hj;subst hj
      unfold wpOp
      simp only [ho]
      rcases pcall_sound ho hpc hob hN0 hf hS with ⟨hw,hx⟩ | ⟨hw,hf'⟩
      ·rw [hw,if_pos rfl]
       exact .inl (hx _ _ fun x w' hf' hS'=>⟨see _ hN ha1 hS',ih _ hs (by simpa using hn) hg hN hN0 hf' hS' ha1 hl hk⟩)
      ·rw [hw]
       exact ⟨see _ hN ha1 hS,ih _ hs (by simpa using hn) hg hN hN0 hf' hS ha1 hl hk⟩
     ·cases hg
def runP (td:List (Nat × SV)):Nat→Tab→SchT→Nat→List ResultVar→List It→St→List Owe→List It × St × List Owe
 | 0,_,_,_,_,t,s,os=>(t,s,os)
 | m+1,T,B,n,rs,t,s,os =>
  match t with
  | .ops all (i::rest)::k=>match qP td T n all s.rg i s.fr with
   | some (f,o)=>runP td m T B n rs (.ops all rest::k) ⟨f,s.rg⟩ (o++os)
   | none=>match opE T n all i s with
    | some s'=>runP td m T B n rs (.ops all rest::k) s' os
    | none=>match pcall td n all i s.fr with
     | some (f,gk,g,l,v)=>runP td m T B n rs (.ops all rest::k) ⟨f,s.rg⟩ (.call s.rg gk g l v::os)
     | none=>(t,s,os)
  | _=>match adv T n rs t s with
   | some (t',s')=>runP td m T B n rs t' s' os
   | none=>match t with
    | .code c::k=>match c with
     | .region id ops d=>match d with
      | true=>match lookS B id with
       | some sch=>match anyP td T n ops (dryP td T n ops sch s) s.rg sch s os with
        | some (s',os')=>runP td m T B n rs k s' os'
        | none=>(t,s,os)
       | none=>(t,s,os)
      | false=>(t,s,os)
     | _=>(t,s,os)
    | _=>(t,s,os)
theorem runP_sound {td:List (Nat × SV)}:∀ (m:Nat) (T:Tab) (B:SchT) (n:Nat) (rs:List ResultVar) (t:List It) (s:St) (os:List Owe) (t':List It) (s':St) (os':List Owe),runP td m T B n rs t s os=(t',s',os') →
  (∀ q∈os,q∈os')∧∀ (E:Ctx),E.n=n→E.B=B→TabOk E.P T→PanicOk E.Q→(∀ q∈os',q.Ok E.toEnv E.N0)→X E t' s'→X E t s:=by
 intro m
 induction m with
 | zero =>
  intro T B n rs t s os t' s' os' h
  simp only [runP,Prod.mk.injEq] at h
  obtain ⟨rfl,rfl,rfl⟩:=h
  exact ⟨fun _ h=>h,fun E _ _ _ _ _ h=>h⟩
 | succ m ih =>
  intro T B n rs t s os t' s' os' h
  have same:(t,s,os)=(t',s',os')→(∀ q∈os,q∈os')∧∀ (E:Ctx),E.n=n→E.B=B→TabOk E.P T→PanicOk E.Q→(∀ q∈os',q.Ok E.toEnv E.N0)→X E t' s'→X E t s:=by
   intro h
   simp only [Prod.mk.injEq] at h
   obtain ⟨rfl,rfl,rfl⟩:=h
   exact ⟨fun _ h=>h,fun E _ _ _ _ _ h=>h⟩
  simp only [runP] at h
  split at h
  ·rename_i all i rest k
   split at h
   ·rename_i f o hq
    obtain ⟨h1,h2⟩:=ih _ _ _ _ _ _ _ _ _ _ h
    refine ⟨fun q hq'=>h1 q (List.mem_append_right _ hq'),fun E e1 e2 e3 e4 e5 e6=>?_⟩
    have hx:=h2 E e1 e2 e3 e4 e5 e6
    subst e1
    intro N a w hN hf hS
    show wpOps _ _ _ _ _ _
    obtain ⟨op,hop⟩:∃ op,all[i]?=some op:=by
     unfold qP at hq
     split at hq
     ·cases hq
     ·rename_i op hop;rw [nth_eq] at hop;exact ⟨op,by simpa using hop⟩
    obtain ⟨v,hv,hfr⟩:=qP_sound e3 hop hq (fun q hq'=>e5 q (h1 q (List.mem_append_left _ hq'))) hN hf hS.vi
    rw [wpOps_cons]
    unfold wpOp
    simp only [hop]
    rcases hv with ⟨hw,hrun⟩ | ⟨hw,rfl⟩
    ·rw [hw,if_pos rfl]
     exact .inl (wp_of_yields (.inl (hrun w hS.vi)) (hx N _ w hN hfr hS))
    ·rw [hw]
     exact hx N _ w hN hfr hS
   ·split at h
    ·rename_i s1 he
     obtain ⟨h1,h2⟩:=ih _ _ _ _ _ _ _ _ _ _ h
     refine ⟨h1,fun E e1 e2 e3 e4 e5 e6=>?_⟩
     have hx:=h2 E e1 e2 e3 e4 e5 e6
     subst e1
     exact X.opEq e3 ⟨he⟩ hx
    ·split at h
     ·rename_i f gk g l v hpc
      obtain ⟨h1,h2⟩:=ih _ _ _ _ _ _ _ _ _ _ h
      refine ⟨fun q hq'=>h1 q (List.mem_cons_of_mem _ hq'),fun E e1 e2 e3 e4 e5 e6=>?_⟩
      have hx:=h2 E e1 e2 e3 e4 e5 e6
      subst e1
      intro N a w hN hf hS
      show wpOps _ _ _ _ _ _
      obtain ⟨op,hop⟩:∃ op,all[i]?=some op:=by
       unfold pcall at hpc
       split at hpc
       ·cases hpc
       ·rename_i op hop;rw [nth_eq] at hop;exact ⟨op,by simpa using hop⟩
      rw [wpOps_cons]
      unfold wpOp
      simp only [hop]
      rcases pcall_sound hop hpc (e5 _ (h1 _ List.mem_cons_self)) hN hf hS with ⟨hw,hy⟩ | ⟨hw,hf'⟩
      ·rw [hw,if_pos rfl]
       exact .inl (hy _ _ fun x w' hf' hS'=>hx N _ w' hN hf' hS')
      ·rw [hw]
       exact hx N _ w hN hf' hS
     ·exact same h
  ·split at h
   ·rename_i t1 s1 ha
    obtain ⟨h1,h2⟩:=ih _ _ _ _ _ _ _ _ _ _ h
    refine ⟨h1,fun E e1 e2 e3 e4 e5 e6=>?_⟩
    subst e1
    exact adv_sound e3 ha (h2 E rfl e2 e3 e4 e5 e6)
   ·split at h
    ·rename_i c k _
     split at h
     ·rename_i id ops d _
      split at h
      ·split at h
       ·rename_i sch hsch
        split at h
        ·rename_i s1 os1 hd
         obtain ⟨h1,h2⟩:=ih _ _ _ _ _ _ _ _ _ _ h
         refine ⟨fun q hq'=>h1 q (anyP_obs _ _ _ hd q hq'),fun E e1 e2 e3 e4 e5 e6=>?_⟩
         have hx:=h2 E e1 e2 e3 e4 e5 e6
         subst e1;subst e2
         intro N a w hN hf hS
         show _→Code.wp _ _ _ _ _
         intro hreg
         simp only [regsB,hsch] at hreg
         have hS':Sat E.toEnv N s.rg { w with drawn:=w.drawn+1 }:=hS.drew
         simp only [anyOk,Bool.and_eq_true] at hreg
         obtain ⟨⟨hn,hlen⟩,hsch'⟩:=hreg
         have hlen:=Nat.eq_of_beq_eq_true hlen
         have:=anyP_sound e3 hn (e4.sem _) (fun q hq'=>e5 q (h1 q hq')) _ hS'.vis sch _ hsch' (by simp) hd (Nums.le.refl N) hN hf hS' (fun r g hg _=>hg) (Nat.le_refl _) (fun N' a' w' hN' hf' hS'=>hx N' a' w' (hN.trans hN') hf' hS')
         rw [hlen] at this
         exact wp_region_any e3.mixed this.any
        ·exact same h
       ·exact same h
      ·exact same h
     ·exact same h
    ·exact same h
def XO.conj (pr:Owe→Prop) (fin:List It→St→Prop) (p:List It × St × List Owe):List Owe→Prop
 | []=>fin p.1 p.2.1
 | q::r=>pr q∧XO.conj pr fin p r
def XO (pr:Owe→Prop) (fin:List It→St→Prop) (p:List It × St × List Owe):Prop:=XO.conj pr fin p p.2.2
theorem XO.split {pr:Owe→Prop} {fin:List It→St→Prop} {p:List It × St × List Owe}:∀ {os:List Owe},XO.conj pr fin p os→(∀ q∈os,pr q)∧fin p.1 p.2.1
 | [],h=>⟨fun _ h=>by simp at h,h⟩
 | q::r,h=>by
  obtain ⟨h1,h2⟩:=XO.split (os:=r) h.2
  exact ⟨fun q' hq=>by
   rcases List.mem_cons.1 hq with e | e
   ·rw [e];exact h.1
   ·exact h1 q' e,h2⟩
theorem X.goP {P:Program} {fn:Func} {R:Ending→World→Prop} {W:World} {O:Nat→Nat→Prop} {im:Nat→Nat→Option Value} {D:Nat→Nat→Prop} {Rr:World→Prop} {N:Nums} {B:SchT} {T:Tab} (td:List (Nat × SV)) (hT:TabOk P T) (m n:Nat) (hn:fn.ntmps=n) {t:List It} {s:St} {rs:Array ResultVar} (_hrs:fn.results=rs)
  (h:∀ (pr:Owe→Prop) (fin:List It→St→Prop),(∀ q,q.Ok (mkE P fn R W O im D Rr N B).toEnv N→pr q)→(∀ t s,X (mkE P fn R W O im D Rr N B) t s→fin t s)→XO pr fin (runP td m T B n rs.toList t s [])):X (mkE P fn R W O im D Rr N B) t s:=by
 subst hn
 have:=h (fun q=>q.Ok (mkE P fn R W O im D Rr N B).toEnv N) (fun t s=>X (mkE P fn R W O im D Rr N B) t s) (fun _ h=>h) (fun _ _ h=>h)
 obtain ⟨h1,h2⟩:=XO.split this
 obtain ⟨⟨t',s',os'⟩,hr⟩:∃ p,runP td m T B fn.ntmps rs.toList t s []=p:=⟨_,rfl⟩
 rw [hr] at h1 h2
 exact (runP_sound m T B _ _ _ _ _ _ _ _ hr).2 (mkE P fn R W O im D Rr N B) rfl rfl hT (fun _ _ d _ _ h=>by cases d<;>exact h) h1 h2
theorem CallOk.of {E:Env} {N0:Nums} {rg:List Rg} {k:GK} {g:Nat} {l:List SV} {r:SV} (hc:∀ args w,(callFunc g args).run E.P w=.ok (.enter g args) w) (vs:List Value) (v:Value) (hl:∀ N,SV.denL N l=some vs) (hr:∀ N,r.den N=some v)
  (h:k.T→∀ w,(∀ k o v,E.im k o=some v→w.cell? ⟨k,o,none⟩=some v)→Calls E.P g vs.toArray w fun e w'=>e=.returned v∧Chg (fun _ _=>False) w w'):CallOk E N0 rg k g l r:=fun hk =>
 ⟨hc,fun N w args _ hS ha=>by
  rw [hl N] at ha
  cases ha
  exact (h hk w hS.imm).mono fun e w' ⟨h1,h2⟩=>⟨v,h1,hr N,h2⟩⟩
theorem ValOk.row {E:Env} {N0:Nums} {rg:List Rg} {f:Fr} {g:GK} {t e:TypeId} {x ix:Operand} {p:Option Addr} {n c z q b y r:Nat} {kd:IntKind} {s:SI} {np:Num} (hx:evK f g x=some (.slv p n c)) (hix:evK f g ix=some (.int kd s)) (hz:g.T→s.den=(z:Int)) (hu:E.P.underlying t=some (.slice e)) (hq:∀ w,(sizeOf e).run E.P w=.ok q w) (hlt:z<n)
  (hp:p=some ⟨b,y,none⟩) (hN:N0[r]?=some np) (hb:np.b=b) (ho:np.o=y+z*q):ValOk E N0 rg f g (.indexAddr t x ix) (.own r 0):=by
 intro ht N ρ o w hN0 hop hρ hV
 have h1:=hρ _ _ hx
 have h2:=hρ _ _ hix
 simp only [SV.den,hz ht,Option.some.injEq] at h1 h2
 have hr:=hN0 r np hN
 subst hb
 refine ⟨.pointer (some ⟨np.b,np.o+0,none⟩),by simp only [SV.den,hr],fun w' _=>?_⟩
 simp only [execOp,hop,←h1,←h2,Sem.run_bind,Result.andThen,Sem.run_pure]
 subst hp
 simp [Instr.indexAt,asIntOf,run_underlying hu,Result.andThen,hlt,hq,addr_add,ho]
inductive Dt where
 | int (k:IntKind) (z:Int)
 | bool (b:Bool)
 | str (s:ByteArray)
 | list (rows:List (List Dt))
mutual
def RepC (M:Mem):Dt→Value→Prop
 | .int k z,v=>v=.int k z
 | .bool b,v=>v=.bool b
 | .str s,v=>v=.string s
 | .list rows,v=>∃ p c,v=.slice p rows.length c∧(rows.length≤c∧rows.length≤maxLen)∧(rows=[]∨∃ b y,p=some ⟨b,y,none⟩∧RepR M b y rows)
def RepL (M:Mem):List Dt→List Value→Prop
 | [],vs=>vs=[]
 | d::ds,vs=>∃ v r,vs=v::r∧RepC M d v∧RepL M ds r
def RepR (M:Mem) (b:Nat) (y:Nat):List (List Dt)→Prop
 | []=>True
 | d::rows=>(∃ vs,RepL M d vs∧∀ (j:Nat) (v:Value),vs[j]?=some v→M b (y+j)=some v)∧RepR M b (y+d.length) rows
end
mutual
theorem RepC.mono {M M':Mem} (h:∀ k o v,M k o=some v→M' k o=some v):∀ (d:Dt) {v:Value},RepC M d v→RepC M' d v
 | .int k z,v,hd=>by simpa [RepC] using hd
 | .bool b,v,hd=>by simpa [RepC] using hd
 | .str s,v,hd=>by simpa [RepC] using hd
 | .list rows,v,hd=>by
  simp only [RepC] at hd ⊢
  obtain ⟨p,c,h1,h2,h3⟩:=hd
  exact ⟨p,c,h1,h2,h3.imp id fun ⟨b,y,h4,h5⟩=>⟨b,y,h4,RepR.mono h rows h5⟩⟩
theorem RepL.mono {M M':Mem} (h:∀ k o v,M k o=some v→M' k o=some v):∀ (ds:List Dt) {vs:List Value},RepL M ds vs→RepL M' ds vs
 | [],vs,hd=>by simpa [RepL] using hd
 | d::ds,vs,hd=>by
  simp only [RepL] at hd ⊢
  obtain ⟨v,r,h1,h2,h3⟩:=hd
  exact ⟨v,r,h1,RepC.mono h d h2,RepL.mono h ds h3⟩
theorem RepR.mono {M M':Mem} (h:∀ k o v,M k o=some v→M' k o=some v) {b:Nat}:∀ (rows:List (List Dt)) {y:Nat},RepR M b y rows→RepR M' b y rows
 | [],y,_=>by simp [RepR]
 | d::rows,y,hd=>by
  simp only [RepR] at hd ⊢
  obtain ⟨⟨vs,h1,h2⟩,h3⟩:=hd
  exact ⟨⟨vs,RepL.mono h d h1,fun j v hj=>h _ _ _ (h2 j v hj)⟩,RepR.mono h rows h3⟩
end
theorem RepL.len {M:Mem}:∀ {ds:List Dt} {vs:List Value},RepL M ds vs→vs.length=ds.length
 | [],vs,h=>by simp only [RepL] at h;rw [h];rfl
 | d::ds,vs,h=>by
  simp only [RepL] at h
  obtain ⟨v,r,rfl,_,h3⟩:=h
  simp [RepL.len h3]
theorem RepL.append {M:Mem}:∀ {ds es:List Dt} {vs us:List Value},RepL M ds vs→RepL M es us→RepL M (ds++es) (vs++us)
 | [],es,vs,us,h,k=>by simp only [RepL] at h;subst h;exact k
 | d::ds,es,vs,us,h,k=>by
  simp only [RepL] at h
  obtain ⟨v,r,rfl,h2,h3⟩:=h
  simp only [List.cons_append,RepL]
  exact ⟨v,r++us,rfl,h2,RepL.append h3 k⟩
theorem RepL.split {M:Mem}:∀ {ds es:List Dt} {vs:List Value},RepL M (ds++es) vs→∃ us ws,vs=us++ws∧RepL M ds us∧RepL M es ws
 | [],es,vs,h=>⟨[],vs,rfl,by simp [RepL],h⟩
 | d::ds,es,vs,h=>by
  simp only [List.cons_append,RepL] at h
  obtain ⟨v,r,rfl,h2,h3⟩:=h
  obtain ⟨us,ws,rfl,h4,h5⟩:=RepL.split h3
  exact ⟨v::us,ws,rfl,by simp only [RepL];exact ⟨v,us,rfl,h2,h4⟩,h5⟩
theorem RepR.get {M:Mem} {b q:Nat}:∀ {rows:List (List Dt)} {y:Nat},RepR M b y rows→(∀ d∈rows,d.length=q)→∀ {i:Nat} {d:List Dt},rows[i]?=some d→∃ vs,RepL M d vs∧∀ (j:Nat) (v:Value),vs[j]?=some v→M b (y+i*q+j)=some v
 | [],_,_,_,i,d,hi=>by simp at hi
 | r::rows,y,h,hq,i,d,hi=>by
  simp only [RepR] at h
  obtain ⟨⟨vs,h1,h2⟩,h3⟩:=h
  cases i with
  | zero =>
   simp only [List.getElem?_cons_zero,Option.some.injEq] at hi;subst hi
   exact ⟨vs,h1,fun j v hj=>by rw [Nat.zero_mul,Nat.add_zero];exact h2 j v hj⟩
  | succ i =>
   simp only [List.getElem?_cons_succ] at hi
   obtain ⟨us,h4,h5⟩:=RepR.get h3 (fun d hd=>hq d (List.mem_cons_of_mem _ hd)) hi
   refine ⟨us,h4,fun j v hj=>?_⟩
   have:=h5 j v hj
   rw [hq r List.mem_cons_self] at this
   rw [show y+(i+1)*q+j=y+q+i*q+j by rw [Nat.add_mul];omega]
   exact this
theorem RepR.of {M:Mem} {b q:Nat}:∀ {rows:List (List Dt)} {y:Nat},(∀ d∈rows,d.length=q)→(∀ (i:Nat) (d:List Dt),rows[i]?=some d→∃ vs,RepL M d vs∧∀ (j:Nat) (v:Value),vs[j]?=some v→M b (y+i*q+j)=some v)→RepR M b y rows
 | [],_,_,_=>by simp [RepR]
 | r::rows,y,hq,h=>by
  simp only [RepR]
  obtain ⟨vs,h1,h2⟩:=h 0 r rfl
  refine ⟨⟨vs,h1,fun j v hj=>by have:=h2 j v hj;rwa [Nat.zero_mul,Nat.add_zero] at this⟩,RepR.of (fun d hd=>hq d (List.mem_cons_of_mem _ hd)) fun i d hi=>?_⟩
  obtain ⟨us,h3,h4⟩:=h (i+1) d (by simpa using hi)
  refine ⟨us,h3,fun j v hj=>?_⟩
  have:=h4 j v hj
  rw [hq r List.mem_cons_self]
  rw [show y+(i+1)*q+j=y+q+i*q+j by rw [Nat.add_mul];omega] at this
  exact this
def wm (w:World):Mem:=fun k o=>w.cell? ⟨k,o,none⟩
def SlR (M:Mem) (p:Option Addr) (c q:Nat) (rows:List (List Dt)):Prop:=(rows.length≤c∧rows.length≤maxLen)∧(rows=[]∨∃ b y,p=some ⟨b,y,none⟩∧∀ (i:Nat) (d:List Dt),rows[i]?=some d→∃ vs,RepL M d vs∧∀ (j:Nat) (v:Value),vs[j]?=some v→M b (y+i*q+j)=some v)
theorem RepC.list {M:Mem} {rows:List (List Dt)} {v:Value} (h:RepC M (.list rows) v) {q:Nat} (hq:∀ d∈rows,d.length=q):∃ p c,v=.slice p rows.length c∧SlR M p c q rows:=by
 simp only [RepC] at h
 obtain ⟨p,c,h1,h2,h3⟩:=h
 exact ⟨p,c,h1,h2,h3.imp id fun ⟨b,y,h4,h5⟩=>⟨b,y,h4,fun i d hi=>RepR.get h5 hq hi⟩⟩
theorem RepC.mk {M:Mem} {rows:List (List Dt)} {p:Option Addr} {n c q:Nat} (hn:n=rows.length) (hq:∀ d∈rows,d.length=q) (h:SlR M p c q rows):RepC M (.list rows) (.slice p n c):=by
 simp only [RepC]
 exact ⟨p,c,by rw [hn],h.1,h.2.imp id fun ⟨b,y,h4,h5⟩=>⟨b,y,h4,RepR.of hq h5⟩⟩
theorem SlR.mono {M M':Mem} (h:∀ k o v,M k o=some v→M' k o=some v) {p:Option Addr} {c q:Nat} {rows:List (List Dt)} (hs:SlR M p c q rows):SlR M' p c q rows :=
 ⟨hs.1,hs.2.imp id fun ⟨b,y,h4,h5⟩=>⟨b,y,h4,fun i d hi=>by
  obtain ⟨vs,h6,h7⟩:=h5 i d hi
  exact ⟨vs,RepL.mono h d h6,fun j v hj=>h _ _ _ (h7 j v hj)⟩⟩⟩
theorem SlR.row {M:Mem} {p:Option Addr} {c q:Nat} {rows:List (List Dt)} (hs:SlR M p c q rows) {i:Nat} {d:List Dt} (hi:rows[i]?=some d):∃ b y vs,p=some ⟨b,y,none⟩∧RepL M d vs∧∀ (j:Nat) (v:Value),vs[j]?=some v→M b (y+i*q+j)=some v:=by
 rcases hs.2 with rfl | ⟨b,y,h4,h5⟩
 ·simp at hi
 ·obtain ⟨vs,h6,h7⟩:=h5 i d hi
  exact ⟨b,y,vs,h4,h6,h7⟩
theorem SlR.len {α:Type} {f:α→List Dt} {l:List α} {M:Mem} {p:Option Addr} {c q:Nat} (hs:SlR M p c q (l.map f)):l.length≤maxLen:=by
 have:=hs.1.2;rwa [List.length_map] at this
theorem maxLen_le:maxLen=9223372036854775807:=by decide
theorem SlR.elem {M:Mem} {α:Type} {f:α→List Dt} {l:List α} {p:Option Addr} {c q:Nat} (hs:SlR M p c q (l.map f)) {i:Nat} {x:α} (hi:l[i]?=some x):∃ b y vs,p=some ⟨b,y,none⟩∧RepL M (f x) vs∧∀ (j:Nat) (v:Value),vs[j]?=some v→M b (y+i*q+j)=some v :=
 hs.row (by rw [List.getElem?_map,hi];rfl)
theorem his {w:World} {k o:Nat} {v:Value} (h:wm w k o=some v):elsewhere [] [] w k o=some v:=by rw [elsewhere_not inR_nil];exact h
theorem SlR.his {α:Type} {f:α→List Dt} {l:List α} {w:World} {p:Option Addr} {c q:Nat} (hs:SlR (wm w) p c q (l.map f)) {i:Nat} {x:α} (hi:l[i]?=some x):∃ b y vs,p=some ⟨b,y,none⟩∧RepL (wm w) (f x) vs∧∀ (j:Nat) (v:Value),vs[j]?=some v→elsewhere [] [] w b (y+i*q+j)=some v:=by
 obtain ⟨b,y,vs,h1,h2,h3⟩:=hs.elem hi
 exact ⟨b,y,vs,h1,h2,fun j v hj=>Eng.his (h3 j v hj)⟩
theorem wrapU (i:Nat) (h:i<9223372036854775807):IntKind.i64.wrap ((i:Int)+1)=((i+1:Nat):Int):=by
 simp [IntKind.wrap,IntKind.bits,IntKind.signed];omega
theorem wrapN (z:Int) (h:-9223372036854775808≤z) (h2:z<9223372036854775808):IntKind.i64.wrap z=z:=by
 simp [IntKind.wrap,IntKind.bits,IntKind.signed];omega
theorem wrapD (i:Nat) (h:1≤i) (h2:i<9223372036854775807):IntKind.i64.wrap ((i:Int)-1)=((i-1:Nat):Int):=by
 simp [IntKind.wrap,IntKind.bits,IntKind.signed];omega
theorem take_next {α:Type} {l m:List α} {i:Nat} {x:α} (h:l.take i=m.take i) (h1:l[i]?=some x) (h2:m[i]?=some x):l.take (i+1)=m.take (i+1):=by
 rw [List.take_add_one,List.take_add_one,h,h1,h2]
theorem take_all {α:Type} {l m:List α} {i:Nat} (h:l.take i=m.take i) (h1:i=l.length) (h2:i=m.length):l=m:=by
 rw [List.take_of_length_le (by omega),List.take_of_length_le (by omega)] at h;exact h
theorem num_last {N:Nums} {p:Num} {n:Nat} (h:N.length=n):(N++[p])[n]?=some p:=by subst h;simp
theorem num_old {N:Nums} {p q:Num} {i:Nat} (h:N[i]?=some q):(N++[p])[i]?=some q:=by
 rw [List.getElem?_append_left (List.getElem?_eq_some_iff.1 h).1];exact h
theorem one_see {im:Mem} {b o:Nat} {v:Value} {s:SV} (h:im b (o+0)=some v) (hs:s.den []=some v:=by rfl):∀ (j:Nat) (c:SV),[s][j]?=some c→∃ v,c.den []=some v∧im b (o+j)=some v:=fun j c hj=>by
 match j,hj with
 | 0,hj=>simp only [List.getElem?_cons_zero,Option.some.injEq] at hj;subst hj;exact ⟨v,hs,h⟩
 | j+1,hj=>simp at hj
theorem see_of {im:Mem} {b o:Nat} {vs:List Value} {ss:List SV} (h:∀ (j:Nat) (v:Value),vs[j]?=some v→im b (o+j)=some v) (hs:SV.denL [] ss=some vs):∀ (j:Nat) (c:SV),ss[j]?=some c→∃ v,c.den []=some v∧im b (o+j)=some v:=fun j c hj=>by
 obtain ⟨v,h1,h2⟩:=(SV.denL_get ss hs).2 j c hj
 exact ⟨v,h1,h j v h2⟩
theorem fin_bool {c:SB} {N:Nums} {v:Value} {q:Bool} (hv:(resV [.bool c]).den N=some v) (h:c.den=q):Ending.returned v=.returned (.bool q):=by
 simp only [resV,SV.den,Option.some.injEq] at hv
 rw [←hv,h]
theorem fin_int {c:SI} {k:IntKind} {N:Nums} {v:Value} {q:Int} (hv:(resV [.int k c]).den N=some v) (h:c.den=q):Ending.returned v=.returned (.int k q):=by
 simp only [resV,SV.den,Option.some.injEq] at hv
 rw [←hv,h]
theorem den_of {c:SB} {q:Bool} (h:c.T↔q=true):c.den=q:=by
 cases q with
 | true=>exact (SB.TF c).1.2 (h.2 rfl)
 | false=>exact (SB.TF c).2.2 (by
   cases hc:c.den with
   | true=>exact absurd (h.1 ((SB.TF c).1.1 hc)) (by simp)
   | false=>exact (SB.TF c).2.1 hc)
noncomputable def B (p:Prop):Bool:=@decide p (Classical.propDecidable p)
theorem B_iff {p:Prop}:B p=true↔p:=by unfold B;exact @decide_eq_true_iff p (Classical.propDecidable p)
theorem B_pos {p:Prop} (h:p):B p=true:=B_iff.2 h
theorem B_neg {p:Prop} (h:¬p):B p=false:=by
 cases hb:B p with
 | false=>rfl
 | true=>exact absurd (B_iff.1 hb) h
theorem B_congr {p q:Prop} (h:p↔q):B p=B q:=by
 by_cases hq:q
 ·rw [B_pos hq,B_pos (h.2 hq)]
 ·rw [B_neg hq,B_neg fun hp=>hq (h.1 hp)]
theorem At.again {P:Program} {fn:Func} {R:Ending→World→Prop} {W:World} {O:Nat→Nat→Prop} {im:Mem} {D:Nat→Nat→Prop} {Rr:World→Prop} {N0 N:Nums} {B:SchT} {s s':St} {a:Act} {w:World}
  (hf:FrOk fn.ntmps N s.fr a) (hS:Sat (mkE P fn R W O im D Rr N0 B).toEnv N s.rg w) (h1:SubFr N (N.take s'.rg.length) s'.rg.length s.fr s'.fr) (h2:SubRg N (N.take s'.rg.length) s'.rg.length s.rg s'.rg) :
  At (mkE P fn R W O im D Rr [] B) s' a w:=by
 have hS':Sat (mkE P fn R W O im D Rr [] B).toEnv N s.rg w:=hS.env rfl rfl rfl rfl rfl
 exact At.mk (N0:=[]) (nil_le N) hf hS' (Nat.zero_le _) h1 h2 (fun _ _ _ h=>h) hS'.loc hS'.res
mutual
def FitC (P:Program):Nat→CK→Dt→Prop
 | _,.int k,d=>∃ z,d=.int k z∧(Lit.int k z).wf=true
 | _,.bool,d=>∃ b,d=.bool b
 | _,.str,d=>∃ s,d=.str s∧s.size≤maxLen
 | 0,.slice _,_=>False
 | m+1,.slice e,d=>∃ rows,d=.list rows∧rows.length≤maxLen∧∀ r∈rows,∃ ks,kindsOf P 8 e=some ks∧FitL P m ks r
 | _,.ptr _,_=>False
def FitL (P:Program):Nat→List CK→List Dt→Prop
 | _,[],ds=>ds=[]
 | m,k::ks,ds=>∃ d r,ds=d::r∧FitC P m k d∧FitL P m ks r
end
def deepC (P:Program):Nat→CK→Bool
 | 0,.slice _=>false
 | m+1,.slice e=>bif Nat.beq (P.cellsOf e) 0 then false else match kindsOf P 8 e with
  | some ks=>Nat.beq (P.cellsOf e) ks.length&&ks.all (deepC P m)
  | none=>false
 | _,.ptr _=>false
 | _,_=>true
theorem FitL.len {P:Program} {m:Nat}:∀ {ks:List CK} {ds:List Dt},FitL P m ks ds→ds.length=ks.length
 | [],ds,h=>by simp only [FitL] at h;rw [h];rfl
 | k::ks,ds,h=>by
  simp only [FitL] at h
  obtain ⟨d,r,rfl,_,h3⟩:=h
  simp [FitL.len h3]
theorem fitL_of {P:Program} {w:World} {m:Nat} (ih:∀ (k:CK) (v:Value),deepC P m k=true→CellOk P w 0 k v→∃ d,FitC P m k d∧RepC (wm w) d v) :
  ∀ (ks:List CK) (cs:List Value),ks.all (deepC P m)=true→CellsOk P w 0 ks cs→∃ ds,FitL P m ks ds∧RepL (wm w) ds cs
 | [],cs,_,h=>⟨[],by simp [FitL],by have:=CellsOk.nil h;subst this;simp [RepL]⟩
 | k::ks,cs,hd,h=>by
  simp only [List.all_cons,Bool.and_eq_true] at hd
  obtain ⟨v,vs,rfl,h1,h2⟩:=CellsOk.cons h
  obtain ⟨d,k1,k2⟩:=ih k v hd.1 h1
  obtain ⟨ds,k3,k4⟩:=fitL_of ih ks vs hd.2 h2
  exact ⟨d::ds,by simp only [FitL];exact ⟨d,ds,rfl,k1,k3⟩,by simp only [RepL];exact ⟨v,vs,rfl,k2,k4⟩⟩
theorem pick_list {α:Type} {n:Nat} {p:Nat→α→Prop} (h:∀ i,i<n→∃ x,p i x):∃ l:List α,l.length=n∧∀ i x,l[i]?=some x→p i x:=by
 induction n with
 | zero=>exact ⟨[],rfl,fun i x h=>by simp at h⟩
 | succ n ih =>
  obtain ⟨l,h1,h2⟩:=ih fun i hi=>h i (by omega)
  obtain ⟨x,hx⟩:=h n (by omega)
  refine ⟨l++[x],by simp [h1],fun i y hy=>?_⟩
  by_cases hi:i<n
  ·rw [List.getElem?_append_left (by omega)] at hy;exact h2 i y hy
  ·rw [List.getElem?_append_right (by omega)] at hy
   have:i-l.length=0:=by
    have:=(List.getElem?_eq_some_iff.1 hy).1
    simp at this;omega
   rw [this] at hy
   simp only [List.getElem?_cons_zero,Option.some.injEq] at hy;subst hy
   have:i=n:=by omega
   subst this;exact hx
theorem fit_of {P:Program} {w:World}:∀ (m:Nat) (k:CK) (v:Value),deepC P m k=true→CellOk P w 0 k v→∃ d,FitC P m k d∧RepC (wm w) d v
 | m,.int k,v,_,h=>by
  obtain ⟨z,rfl,hz⟩:=h
  exact ⟨.int k z,by unfold FitC;exact ⟨z,rfl,hz⟩,by simp [RepC]⟩
 | m,.bool,v,_,h=>by
  obtain ⟨b,rfl⟩:=h
  exact ⟨.bool b,by unfold FitC;exact ⟨b,rfl⟩,by simp [RepC]⟩
 | m,.str,v,_,h=>by
  obtain ⟨s,rfl,hs⟩:=h
  exact ⟨.str s,by unfold FitC;exact ⟨s,rfl,hs⟩,by simp [RepC]⟩
 | m,.ptr e,v,hd,_=>by cases m<;>simp [deepC] at hd
 | 0,.slice e,v,hd,_=>by simp [deepC] at hd
 | m+1,.slice e,v,hd,h=>by
  obtain ⟨p,n,c,rfl,hnc,hcm,hr⟩:=h
  simp only [deepC] at hd
  cases h0:Nat.beq (P.cellsOf e) 0 with
  | true=>rw [h0] at hd;simp at hd
  | false =>
   rw [h0] at hd
   simp only [cond_false] at hd
   have hpos:0<P.cellsOf e:=by
    rcases Nat.eq_zero_or_pos (P.cellsOf e) with h | h
    ·rw [h] at h0;cases h0
    ·exact h
   split at hd
   ·rename_i ks hks
    simp only [Bool.and_eq_true] at hd
    have hq:=Nat.eq_of_beq_eq_true hd.1
    have rows:=pick_list (n:=n) (p:=fun i (d:List Dt)=>FitL P m ks d∧∃ b x vs,p=some ⟨b,x,none⟩∧RepL (wm w) d vs∧∀ (j:Nat) (v:Value),vs[j]?=some v→wm w b (x+i*P.cellsOf e+j)=some v) fun i hi=>by
     obtain ⟨b,x,hp,hx⟩:=hr hpos (by omega)
     obtain ⟨_,cs,hl,hc,hrd⟩:=hx i hi
     obtain ⟨ds,k1,k2⟩:=fitL_of (fit_of m) ks cs hd.2 (kindsOf_sound 8 e ks cs hks hrd)
     exact ⟨ds,k1,b,x,cs,hp,k2,hc⟩
    obtain ⟨rows,hl,hrow⟩:=rows
    refine ⟨.list rows,?_,RepC.mk (q:=P.cellsOf e) hl.symm (fun d hd'=>?_) ⟨⟨by omega,by omega⟩,?_⟩⟩
    ·unfold FitC
     refine ⟨rows,rfl,by omega,fun r hr'=>?_⟩
     obtain ⟨i,hi⟩:=List.mem_iff_getElem?.1 hr'
     exact ⟨ks,hks,(hrow i r hi).1⟩
    ·obtain ⟨i,hi⟩:=List.mem_iff_getElem?.1 hd'
     rw [(hrow i d hi).1.len,hq]
    ·cases rows with
     | nil=>exact .inl rfl
     | cons r rs =>
      obtain ⟨_,b,x,_,hp,_,_⟩:=hrow 0 r rfl
      refine .inr ⟨b,x,hp,fun i d hi=>?_⟩
      obtain ⟨_,b',x',vs,hp',k2,k3⟩:=hrow i d hi
      rw [hp] at hp'
      cases hp'
      exact ⟨vs,k2,k3⟩
   ·cases hd
theorem ArgOk.rep {P:Program} {W:World} {t:Nat} {v:Value} (h:ArgOk P W t v) {ks:List CK} (hk:kindsOf P 8 t=some ks) {m:Nat} (hd:ks.all (deepC P m)=true):∃ ds,FitL P m ks ds∧RepL (wm W) ds v.cells.toList :=
 fitL_of (fit_of m) ks _ hd (kindsOf_sound 8 t ks _ hk h.2)
theorem map_of {α β:Type} {f:α→β} {p:α→Prop}:∀ {rows:List β},(∀ r∈rows,∃ x,r=f x∧p x)→∃ xs:List α,rows=xs.map f∧∀ x∈xs,p x
 | [],_=>⟨[],rfl,fun x h=>by simp at h⟩
 | r::rows,h=>by
  obtain ⟨x,rfl,hx⟩:=h r List.mem_cons_self
  obtain ⟨xs,rfl,hxs⟩:=map_of (rows:=rows) fun r hr=>h r (List.mem_cons_of_mem _ hr)
  exact ⟨x::xs,rfl,fun y hy=>by
   rcases List.mem_cons.1 hy with rfl | hy
   ·exact hx
   ·exact hxs y hy⟩
def imNew (im:Mem) (w w':World):Mem:=fun k o=>match im k o with
 | some u=>some u
 | none=>if w.heap.size≤k then w'.cell? ⟨k,o,none⟩ else none
theorem imNew_old {im:Mem} {w w':World} {k o:Nat} {u:Value} (h:im k o=some u):imNew im w w' k o=some u:=by simp [imNew,h]
theorem imNew_new {im:Mem} {w w':World} {k o:Nat} {u:Value} (hi:∀ k o v,im k o=some v→w'.cell? ⟨k,o,none⟩=some v) (hk:w.heap.size≤k) (h:w'.cell? ⟨k,o,none⟩=some u):imNew im w w' k o=some u:=by
 unfold imNew
 cases hv:im k o with
 | some v =>
  have:=hi k o v hv
  rw [h] at this
  exact this.symm
 | none =>
  simp only
  rw [if_pos hk];exact h
theorem Sat.newMem {E:Env} {N:Nums} {rg:List Rg} {w w':World} (h0:Sat E N rg w) (h:Sat E N rg w'):Sat { E with im:=imNew E.im w w' } N rg w' :=
 { h with
  imm:=fun k o v hv=>by
   have hv:imNew E.im w w' k o=some v:=hv
   unfold imNew at hv
   cases hu:E.im k o with
   | some u =>
    rw [hu] at hv
    cases hv
    exact h.imm k o _ hu
   | none =>
    rw [hu] at hv
    simp only at hv
    by_cases hk:w.heap.size≤k
    ·rw [if_pos hk] at hv;exact hv
    ·rw [if_neg hk] at hv;cases hv
  imd:=fun r g p hg hp ho j hj=>by
   have h1:=h.imd r g p hg hp ho j hj
   have h2:=h0.lt r p hp
   show imNew E.im w w' p.b (p.o+j)=none
   unfold imNew
   rw [h1]
   simp only
   rw [if_neg (by omega)] }
theorem Goes.newMem {E:Ctx} {N:Nums} {k:List It} {s:St} {d:Option Nat} {v:Value} {w w':World} (hN:E.N0.le N) (h:Sat E.toEnv N s.rg w) (hc:Chg (fun _ _=>False) w w') {r:SV} (hr:r.den N=some v) {f':Fr} (hp:putO E.n s.fr d (.val r)=some f')
  (hx:(∀ k o u,E.im k o=some u→imNew E.im w w' k o=some u)→(∀ k o u,w.heap.size≤k→w'.cell? ⟨k,o,none⟩=some u→imNew E.im w w' k o=some u)→X { E with im:=imNew E.im w w' } k ⟨f',s.rg⟩):Goes E N k s.fr d v w':=by
 have h':=h.after0 hc
 refine ⟨{ E with im:=imNew E.im w w' },N,r,s.rg,f',rfl,rfl,rfl,rfl,fun _ _ h=>h,hN,Sat.newMem h h',hr,hp,?_⟩
 exact hx (fun k o u hu=>imNew_old hu) (fun k o u hk hu=>imNew_new h'.imm hk hu)
theorem Sat.imSay {E:Env} {N:Nums} {rg:List Rg} {w:World} (h:Sat E N rg w) {m':Mem} (hm:∀ k o v,m' k o=some v→E.im k o=some v∨(E.D k o∧w.cell? ⟨k,o,none⟩=some v)):Sat { E with im:=m' } N rg w :=
 { h with
  imm:=fun k o v hv=>(hm k o v hv).elim (h.imm k o v) fun h=>h.2
  imd:=fun r g p hg hp ho j hj=>by
   show m' p.b (p.o+j)=none
   cases hv:m' p.b (p.o+j) with
   | none=>rfl
   | some v =>
    rcases hm _ _ _ hv with h1 | h1
    ·rw [h.imd r g p hg hp ho j hj] at h1;cases h1
    ·exact absurd h1.1 (h.dd r g p hg hp ho j hj) }
theorem frozen_stays {O:Nat→Nat→Prop} {W w:World} (hc:Chg O W w) {b o:Nat} (hs:(W.cell? ⟨b,o,none⟩).isSome=true) (hf:W.frozen? ⟨b,o,none⟩=false):w.frozen? ⟨b,o,none⟩=false:=by
 rw [frozen_of_chg hc _ hs];exact hf
theorem ValOk.at {E:Env} {N0:Nums} {rg:List Rg} {f:Fr} {g:GK} {t e:TypeId} {x ix:Operand} {p:Option Addr} {n c z q b y:Nat} {kd:IntKind} {s:SI} (hx:evK f g x=some (.slv p n c)) (hix:evK f g ix=some (.int kd s)) (hz:g.T→s.den=(z:Int)) (hu:E.P.underlying t=some (.slice e)) (hq:∀ w,(sizeOf e).run E.P w=.ok q w) (hlt:g.T→z<n)
  (hp:p=some ⟨b,y,none⟩) {o:Nat} (ho:o=y+z*q):ValOk E N0 rg f g (.indexAddr t x ix) (.ext b o 0):=by
 intro ht N ρ o' w hN0 hop hρ hV
 have h1:=hρ _ _ hx
 have h2:=hρ _ _ hix
 simp only [SV.den,hz ht,Option.some.injEq] at h1 h2
 refine ⟨.pointer (some ⟨b,o+0,none⟩),by simp only [SV.den],fun w' _=>?_⟩
 simp only [execOp,hop,←h1,←h2,Sem.run_bind,Result.andThen,Sem.run_pure]
 subst hp
 have hlt:=hlt ht
 simp [Instr.indexAt,asIntOf,run_underlying hu,Result.andThen,hlt,hq,addr_add,ho]
theorem ValOk.im1 {E:Env} {N0:Nums} {rg:List Rg} {f:Fr} {g:GK} {t:TypeId} {x:Operand} {b y c:Nat} {r:SV} {v:Value} (hx:evK f g x=some (.ext b y c)) (ha:∀ w,(isAgg t).run E.P w=.ok false w) (hr:∀ N,r.den N=some v) (him:g.T→E.im b (y+c)=some v):ValOk E N0 rg f g (.load t x) r:=by
 intro ht N ρ o w hN0 hop hρ hV
 have h1:=hρ _ _ hx
 simp only [SV.den,Option.some.injEq] at h1
 refine ⟨v,hr N,fun w' hV'=>?_⟩
 have hc:=hV'.2 _ _ _ (him ht)
 simp only [execOp,hop,←h1,Instr.loadAt,Instr.sureAddr,loadVar,Sem.run_bind,Sem.run_pure,Result.andThen,ha,Bool.false_eq_true,if_false]
 simp [hc]
end Go.Eng
namespace Go.Proofs.YthpbefahaghbjaaGreat
open Go Go.Eng
structure BalP where
 (count node life:Int)
 deriving DecidableEq
structure RepP where
 (err inc state:Int) (vars:List Int)
 deriving DecidableEq
structure DoneP where
 (client seq:Int) (reply:RepP)
 deriving DecidableEq
structure CellP where
 (n target action arg:Int)
 deriving DecidableEq
structure MarkP where
 (source inc cell:Int)
 deriving DecidableEq
structure RegP where
 (kind inc state:Int) (vars:List Int) (done:List DoneP) (out:List CellP) (last:Int) (marks:List MarkP)
 deriving DecidableEq
structure ConfP where
 (c:Int) (old new:List Int)
 deriving DecidableEq
structure RecP where
 (kind key:Int) (promise acc:BalP) (reg:RegP) (fence life:Int) (conf:ConfP)
 deriving DecidableEq
structure SlotD where
 (has:Bool) (promise acc:BalP) (reg:RegP)
 deriving DecidableEq
structure StateP where
 (slots:List SlotD) (fence life:Int) (conf:ConfP)
 deriving DecidableEq
def i64D (z:Int):List Dt:=[.int .i64 z]
def u8D (z:Int):List Dt:=[.int .u8 z]
def BalP.toD (x:BalP):List Dt:=[.int .u64 x.count,.int .u8 x.node,.int .u32 x.life]
def RepP.toD (x:RepP):List Dt:=[.int .i64 x.err,.int .u64 x.inc,.int .i64 x.state,.list (x.vars.map i64D)]
def DoneP.toD (x:DoneP):List Dt:=.int .u8 x.client::.int .u64 x.seq::x.reply.toD
def CellP.toD (x:CellP):List Dt:=[.int .u64 x.n,.int .u8 x.target,.int .i64 x.action,.int .i64 x.arg]
def MarkP.toD (x:MarkP):List Dt:=[.int .u8 x.source,.int .u64 x.inc,.int .u64 x.cell]
def RegP.toD (x:RegP):List Dt:=[.int .u8 x.kind,.int .u64 x.inc,.int .i64 x.state,.list (x.vars.map i64D),.list (x.done.map DoneP.toD),.list (x.out.map CellP.toD),.int .u64 x.last,.list (x.marks.map MarkP.toD)]
def ConfP.toD (x:ConfP):List Dt:=[.int .u64 x.c,.list (x.old.map u8D),.list (x.new.map u8D)]
def RecP.toD (x:RecP):List Dt:=.int .u8 x.kind::.int .u8 x.key::(x.promise.toD++(x.acc.toD++(x.reg.toD++.int .u64 x.fence::.int .u32 x.life::x.conf.toD)))
def SlotD.toD (x:SlotD):List Dt:=.bool x.has::(x.promise.toD++(x.acc.toD++x.reg.toD))
def StateP.toD (x:StateP):List Dt:=(x.slots.map SlotD.toD).flatten++.int .u64 x.fence::.int .u32 x.life::x.conf.toD
theorem sz_i64 {l:List Int}:∀ d∈l.map i64D,d.length=1:=fun d hd=>by obtain ⟨x,_,rfl⟩:=List.mem_map.1 hd;rfl
theorem sz_u8 {l:List Int}:∀ d∈l.map u8D,d.length=1:=fun d hd=>by obtain ⟨x,_,rfl⟩:=List.mem_map.1 hd;rfl
theorem sz_done {l:List DoneP}:∀ d∈l.map DoneP.toD,d.length=6:=fun d hd=>by obtain ⟨x,_,rfl⟩:=List.mem_map.1 hd;rfl
theorem sz_cell {l:List CellP}:∀ d∈l.map CellP.toD,d.length=4:=fun d hd=>by obtain ⟨x,_,rfl⟩:=List.mem_map.1 hd;rfl
theorem sz_mark {l:List MarkP}:∀ d∈l.map MarkP.toD,d.length=3:=fun d hd=>by obtain ⟨x,_,rfl⟩:=List.mem_map.1 hd;rfl
variable {M:Mem} {vs:List Value}
theorem i64D.open {x:Int} (h:RepL M (i64D x) vs):vs=[.int .i64 x]:=by
 simp only [i64D,RepL,RepC] at h
 obtain ⟨_,_,rfl,rfl,rfl⟩:=h
 rfl
theorem u8D.open {x:Int} (h:RepL M (u8D x) vs):vs=[.int .u8 x]:=by
 simp only [u8D,RepL,RepC] at h
 obtain ⟨_,_,rfl,rfl,rfl⟩:=h
 rfl
theorem BalP.open {x:BalP} (h:RepL M x.toD vs):vs=[.int .u64 x.count,.int .u8 x.node,.int .u32 x.life]:=by
 simp only [BalP.toD,RepL,RepC] at h
 obtain ⟨_,_,rfl,rfl,_,_,rfl,rfl,_,_,rfl,rfl,rfl⟩:=h
 rfl
theorem CellP.open {x:CellP} (h:RepL M x.toD vs):vs=[.int .u64 x.n,.int .u8 x.target,.int .i64 x.action,.int .i64 x.arg]:=by
 simp only [CellP.toD,RepL,RepC] at h
 obtain ⟨_,_,rfl,rfl,_,_,rfl,rfl,_,_,rfl,rfl,_,_,rfl,rfl,rfl⟩:=h
 rfl
theorem MarkP.open {x:MarkP} (h:RepL M x.toD vs):vs=[.int .u8 x.source,.int .u64 x.inc,.int .u64 x.cell]:=by
 simp only [MarkP.toD,RepL,RepC] at h
 obtain ⟨_,_,rfl,rfl,_,_,rfl,rfl,_,_,rfl,rfl,rfl⟩:=h
 rfl
theorem RepL.cons {d:Dt} {ds:List Dt} (h:RepL M (d::ds) vs):∃ v r,vs=v::r∧RepC M d v∧RepL M ds r:=by simpa only [RepL] using h
theorem RepL.nil (h:RepL M [] vs):vs=[]:=by simpa only [RepL] using h
theorem RepC.int' {k:IntKind} {z:Int} {v:Value} (h:RepC M (.int k z) v):v=.int k z:=by simpa only [RepC] using h
theorem RepC.bool' {b:Bool} {v:Value} (h:RepC M (.bool b) v):v=.bool b:=by simpa only [RepC] using h
theorem RepP.open {x:RepP} (h:RepL M x.toD vs):∃ p c,vs=[.int .i64 x.err,.int .u64 x.inc,.int .i64 x.state,.slice p x.vars.length c]∧SlR M p c 1 (x.vars.map i64D):=by
 unfold RepP.toD at h
 obtain ⟨_,_,rfl,h0,h⟩:=RepL.cons h
 obtain ⟨_,_,rfl,h1,h⟩:=RepL.cons h
 obtain ⟨_,_,rfl,h2,h⟩:=RepL.cons h
 obtain ⟨_,_,rfl,h3,h⟩:=RepL.cons h
 have hn:=RepL.nil h;subst hn
 obtain ⟨p,c,rfl,hs⟩:=h3.list sz_i64
 rw [RepC.int' h0,RepC.int' h1,RepC.int' h2,List.length_map]
 exact ⟨p,c,rfl,hs⟩
theorem DoneP.open {x:DoneP} (h:RepL M x.toD vs):∃ p c,vs=[.int .u8 x.client,.int .u64 x.seq,.int .i64 x.reply.err,.int .u64 x.reply.inc,.int .i64 x.reply.state,.slice p x.reply.vars.length c]∧SlR M p c 1 (x.reply.vars.map i64D):=by
 unfold DoneP.toD at h
 obtain ⟨_,_,rfl,h0,h⟩:=RepL.cons h
 obtain ⟨_,_,rfl,h1,h⟩:=RepL.cons h
 obtain ⟨p,c,rfl,hs⟩:=RepP.open h
 rw [RepC.int' h0,RepC.int' h1]
 exact ⟨p,c,rfl,hs⟩
theorem RegP.open {x:RegP} (h:RepL M x.toD vs):∃ vp vc dp dc op oc mp mc,vs=[.int .u8 x.kind,.int .u64 x.inc,.int .i64 x.state,.slice vp x.vars.length vc,.slice dp x.done.length dc,.slice op x.out.length oc,.int .u64 x.last,.slice mp x.marks.length mc] ∧
  SlR M vp vc 1 (x.vars.map i64D)∧SlR M dp dc 6 (x.done.map DoneP.toD)∧SlR M op oc 4 (x.out.map CellP.toD)∧SlR M mp mc 3 (x.marks.map MarkP.toD):=by
 unfold RegP.toD at h
 obtain ⟨_,_,rfl,h0,h⟩:=RepL.cons h
 obtain ⟨_,_,rfl,h1,h⟩:=RepL.cons h
 obtain ⟨_,_,rfl,h2,h⟩:=RepL.cons h
 obtain ⟨_,_,rfl,h3,h⟩:=RepL.cons h
 obtain ⟨_,_,rfl,h4,h⟩:=RepL.cons h
 obtain ⟨_,_,rfl,h5,h⟩:=RepL.cons h
 obtain ⟨_,_,rfl,h6,h⟩:=RepL.cons h
 obtain ⟨_,_,rfl,h7,h⟩:=RepL.cons h
 have hn:=RepL.nil h;subst hn
 obtain ⟨p3,c3,rfl,hs3⟩:=h3.list sz_i64
 obtain ⟨p4,c4,rfl,hs4⟩:=h4.list sz_done
 obtain ⟨p5,c5,rfl,hs5⟩:=h5.list sz_cell
 obtain ⟨p7,c7,rfl,hs7⟩:=h7.list sz_mark
 rw [RepC.int' h0,RepC.int' h1,RepC.int' h2,RepC.int' h6,List.length_map,List.length_map,List.length_map,List.length_map]
 exact ⟨p3,c3,p4,c4,p5,c5,p7,c7,rfl,hs3,hs4,hs5,hs7⟩
theorem ConfP.open {x:ConfP} (h:RepL M x.toD vs):∃ op oc np nc,vs=[.int .u64 x.c,.slice op x.old.length oc,.slice np x.new.length nc]∧SlR M op oc 1 (x.old.map u8D)∧SlR M np nc 1 (x.new.map u8D):=by
 unfold ConfP.toD at h
 obtain ⟨_,_,rfl,h0,h⟩:=RepL.cons h
 obtain ⟨_,_,rfl,h1,h⟩:=RepL.cons h
 obtain ⟨_,_,rfl,h2,h⟩:=RepL.cons h
 have hn:=RepL.nil h;subst hn
 obtain ⟨p1,c1,rfl,hs1⟩:=h1.list sz_u8
 obtain ⟨p2,c2,rfl,hs2⟩:=h2.list sz_u8
 rw [RepC.int' h0,List.length_map,List.length_map]
 exact ⟨p1,c1,p2,c2,rfl,hs1,hs2⟩
theorem RecP.open {x:RecP} (h:RepL M x.toD vs):∃ rv cv,vs=.int .u8 x.kind::.int .u8 x.key::.int .u64 x.promise.count::.int .u8 x.promise.node::.int .u32 x.promise.life::.int .u64 x.acc.count::.int .u8 x.acc.node::.int .u32 x.acc.life::(rv++.int .u64 x.fence::.int .u32 x.life::cv) ∧
  RepL M x.reg.toD rv∧RepL M x.conf.toD cv:=by
 unfold RecP.toD at h
 obtain ⟨_,_,rfl,h0,h⟩:=RepL.cons h
 obtain ⟨_,_,rfl,h1,h⟩:=RepL.cons h
 obtain ⟨pv,_,rfl,h2,h⟩:=h.split
 obtain ⟨av,_,rfl,h3,h⟩:=h.split
 obtain ⟨rv,_,rfl,h4,h⟩:=h.split
 obtain ⟨_,_,rfl,h5,h⟩:=RepL.cons h
 obtain ⟨_,cv,rfl,h6,h⟩:=RepL.cons h
 rw [RepC.int' h0,RepC.int' h1,RepC.int' h5,RepC.int' h6,BalP.open h2,BalP.open h3]
 exact ⟨rv,cv,rfl,h4,h⟩
theorem SlotD.open {x:SlotD} (h:RepL M x.toD vs):∃ rv,vs=.bool x.has::.int .u64 x.promise.count::.int .u8 x.promise.node::.int .u32 x.promise.life::.int .u64 x.acc.count::.int .u8 x.acc.node::.int .u32 x.acc.life::rv∧RepL M x.reg.toD rv:=by
 unfold SlotD.toD at h
 obtain ⟨_,_,rfl,h0,h⟩:=RepL.cons h
 obtain ⟨pv,_,rfl,h2,h⟩:=h.split
 obtain ⟨av,rv,rfl,h3,h⟩:=h.split
 rw [RepC.bool' h0,BalP.open h2,BalP.open h3]
 exact ⟨rv,rfl,h⟩
end Go.Proofs.YthpbefahaghbjaaGreat
namespace Go.Proofs.YthpbefahaghbjaaGreat
open Go Go.Eng Go.Sort
def AtA (w:World) (b y:Nat) (d:Array Int):Prop:=∀ k,k<d.size→w.cell? ⟨b,y+k,none⟩=some (.int .u8 d[k]!)∧w.frozen? ⟨b,y+k,none⟩=false
def arrM (m0:Mem) (b y:Nat) (d:Array Int):Mem:=fun k o=>if k=b∧y≤o∧o<y+d.size then some (.int .u8 d[o-y]!) else m0 k o
theorem arrM_in {m0:Mem} {b y i:Nat} {d:Array Int} (h:i<d.size):arrM m0 b y d b (y+i)=some (.int .u8 d[i]!):=by
 unfold arrM
 rw [if_pos (by omega),Nat.add_sub_cancel_left]
theorem arrM_some {m0:Mem} {b y k o:Nat} {d:Array Int} {v:Value} (h:arrM m0 b y d k o=some v):((k=b∧y≤o∧o<y+d.size)∧v=.int .u8 d[o-y]!)∨(¬(k=b∧y≤o∧o<y+d.size)∧m0 k o=some v):=by
 unfold arrM at h
 by_cases e:k=b∧y≤o∧o<y+d.size
 ·rw [if_pos e] at h
  exact .inl ⟨e,(Option.some.inj h).symm⟩
 ·rw [if_neg e] at h
  exact .inr ⟨e,h⟩
@[reducible] noncomputable def aE (P:Program) (fn:Func) (Q:Ending→World→Prop) (w:World) (b y n:Nat) (m0:Mem) (d:Array Int) (N0:Nums) (B:SchT):Ctx :=
 mkE P fn Q w (arrD b y n) (arrM m0 b y d) (arrD b y n) (fun _=>True) N0 B
def arrD2 (b y n i j:Nat):Nat→Nat→Prop:=fun k o=>k=b∧y≤o∧o<y+n∧o≠y+i∧o≠y+j
def arrM2 (m0:Mem) (b y i j:Nat) (d:Array Int):Mem:=fun k o=>if k=b∧(o=y+i∨o=y+j) then none else arrM m0 b y d k o
theorem X.beginA {P:Program} {f:FuncId} {fn:Func} {c:Code} {args:Array Value} {w:World} {Q:Ending→World→Prop} {b y n:Nat} {d:Array Int} (hA:AtA w b y d) (hn:d.size=n) {ss:List SV} (hf:P.funcs[f]?=some fn) (hb:fn.body=some c) {B:SchT} (hreg:regsO B fn.body=true)
  (hle:Nat.ble args.size fn.ntmps=true) (ha:SV.denL [] ss=some args.toList) (h:X (aE P fn Q w b y n (wm w) d [] B) [.code c] ⟨argFr ss 0,[]⟩):Calls P f args w Q:=by
 refine X.enter (aE P fn Q w b y n (wm w) d [] B) hf hb rfl rfl rfl (by rw [hb] at hreg;exact hreg) (Nat.le_of_ble_eq_true hle) ha ?_ h
 refine ⟨rfl,by simp,by simp,by simp,by simp,by simp,by simp,by simp,fun k o v hv=>?_,by simp,by simp,?_,fun _ _ _ _ _=>trivial,trivial,Chg.refl _ _,by simp⟩
 ·rcases arrM_some hv with ⟨⟨e1,e2,e3⟩,e4⟩ | ⟨_,e⟩
  ·have:=(hA (o-y) (by omega)).1
   rw [show y+(o-y)=o by omega] at this
   rw [e1,this,e4]
  ·exact e
 ·rintro k o ⟨rfl,e2,e3⟩
  have:=(hA (o-y) (by omega)).1
  rw [show y+(o-y)=o by omega] at this
  exact .inl (by rw [this];rfl)
section
variable {P:Program} {fn:Func} {Q:Ending→World→Prop} {W:World} {b y n:Nat} {m0:Mem} {d d0:Array Int} {N0:Nums} {B:SchT} {k:List It} {s:St}
theorem X.take2 (hA:AtA W b y d0) (h0:d0.size=n) (hn:d.size=n) {i j:Nat} {xi xj:Int} (hij:i≠j) (hi:i<n) (hj:j<n) (hxi:d[i]! = xi) (hxj:d[j]! = xj) (hrg:∀ g∈s.rg,g.own=true∨g.cells=[])
  (h:∀ N:Nums,N0.le N→N.length=s.rg.length→X (mkE P fn Q W (arrD b y n) (arrM2 m0 b y i j d) (arrD2 b y n i j) (fun _=>True) ((N++[⟨b,y+i,1⟩])++[⟨b,y+j,1⟩]) B) k ⟨s.fr,(s.rg++[⟨true,[.int .u8 (.v xi)],none⟩])++[⟨true,[.int .u8 (.v xj)],none⟩]⟩) :
  X (aE P fn Q W b y n m0 d N0 B) k s:=by
 refine X.conv fun N a w hN hf hS=>?_
 refine ⟨mkE P fn Q W (arrD b y n) (arrM2 m0 b y i j d) (arrD2 b y n i j) (fun _=>True) ((N++[⟨b,y+i,1⟩])++[⟨b,y+j,1⟩]) B,⟨s.fr,(s.rg++[⟨true,[.int .u8 (.v xi)],none⟩])++[⟨true,[.int .u8 (.v xj)],none⟩]⟩,rfl,rfl,rfl,rfl,⟨_,Nums.le.refl _,(hf.mono (Nums.le_append N [⟨b,y+i,1⟩])).mono (Nums.le_append _ _),?_⟩,h N hN hS.len⟩
 have ci:w.cell? ⟨b,y+i,none⟩=some (.int .u8 xi):=by rw [←hxi];exact hS.imm _ _ _ (arrM_in (by omega))
 have cj:w.cell? ⟨b,y+j,none⟩=some (.int .u8 xj):=by rw [←hxj];exact hS.imm _ _ _ (arrM_in (by omega))
 have fz:∀ q,q<n→w.frozen? ⟨b,y+q,none⟩=false:=fun q hq=>by
  obtain ⟨h1,h2⟩:=hA q (by omega)
  exact frozen_stays hS.chg (by rw [h1];rfl) h2
 have s1:Sat { (aE P fn Q W b y n m0 d N0 B).toEnv with im:=arrM2 m0 b y i j d } N s.rg w:=Sat.imSay hS fun k o v hv=>.inl (by
  unfold arrM2 at hv
  split at hv
  ·cases hv
  ·exact hv)
 have s2:=s1.focus (b:=b) (o:=y+i) (cs:=[.int .u8 (.v xi)]) (fun k o=>arrD b y n k o∧o≠y+i) (fun _=>True) (World.block_lt_of_cell? _ _ ci)
  (fun q c hq=>by cases q with
   | zero=>simp at hq;subst hq;exact ⟨_,rfl,ci⟩
   | succ q=>simp at hq)
  (fun q hq=>by simp at hq;subst hq;exact fz i hi) (fun q hq=>by simp at hq;subst hq;exact ⟨rfl,by omega,by omega⟩)
  (fun k o ⟨h1,h2⟩=>⟨h1,by simp;intro _ _;omega⟩) (.inr fun q hq=>by simp at hq;subst hq;exact ⟨rfl,by omega,by omega⟩)
  (fun q hq=>by simp at hq;subst hq;simp [arrM2]) hrg (fun _ _ _ _ _=>trivial) trivial
 have s3:=s2.focus (b:=b) (o:=y+j) (cs:=[.int .u8 (.v xj)]) (arrD2 b y n i j) (fun _=>True) (World.block_lt_of_cell? _ _ cj)
  (fun q c hq=>by cases q with
   | zero=>simp at hq;subst hq;exact ⟨_,rfl,cj⟩
   | succ q=>simp at hq)
  (fun q hq=>by simp at hq;subst hq;exact fz j hj) (fun q hq=>by simp at hq;subst hq;exact ⟨⟨rfl,by omega,by omega⟩,by omega⟩)
  (fun k o ⟨h1,h2,h3,h4,h5⟩=>⟨⟨⟨h1,h2,h3⟩,h4⟩,by simp;intro _ _;omega⟩) (.inr fun q hq=>by simp at hq;subst hq;exact ⟨rfl,by omega,by omega⟩)
  (fun q hq=>by simp at hq;subst hq;simp [arrM2]) (fun g hg=>by
   rcases List.mem_append.1 hg with hg | hg
   ·exact hrg g hg
   ·simp at hg;subst hg;exact .inl rfl) (fun _ _ _ _ _=>trivial) trivial
 exact s3
theorem swpZ_get {i j q:Nat} (hi:i<d.size) (hj:j<d.size) (hq:q<d.size):(swp d i j)[q]! = if q=j then d[i]! else if q=i then d[j]! else d[q]! := by
 have hs:q<(swp d i j).size:=by simpa [swp] using hq
 have h1:∀ (x:Array Int) (h:q<x.size),x[q]! = x[q]:=fun x h=>getElem!_pos x q h
 rw [h1 _ hs]
 simp only [swp]
 rw [Array.getElem_setIfInBounds (by simpa using hq)]
 by_cases e:q=j
 ·subst e;simp
 ·rw [if_neg (fun h=>e h.symm),if_neg e,Array.getElem_setIfInBounds hq]
  by_cases e2:q=i
  ·subst e2;simp
  ·rw [if_neg (fun h=>e2 h.symm),if_neg e2,h1 _ hq]
theorem swpZ_size (d:Array Int) (i j:Nat):(swp d i j).size=d.size:=by simp [swp]
theorem X.give2 {i j r:Nat} {xi xj:Int} (hn:d.size=n) (hij:i≠j) (hi:i<n) (hj:j<n) (hxi:d[i]! = xi) (hxj:d[j]! = xj) {N:Nums} (h1:s.rg[r]?=some ⟨true,[.int .u8 (.v xj)],none⟩) (h2:s.rg[r+1]?=some ⟨true,[.int .u8 (.v xi)],none⟩) (p1:N[r]?=some ⟨b,y+i,1⟩) (p2:N[r+1]?=some ⟨b,y+j,1⟩)
  (h:X (aE P fn Q W b y n m0 (swp d i j) N B) k ⟨s.fr,(s.rg.set r ⟨false,[],none⟩).set (r+1) ⟨false,[],none⟩⟩) :
  X (mkE P fn Q W (arrD b y n) (arrM2 m0 b y i j d) (arrD2 b y n i j) (fun _=>True) N B) k s:=by
 refine X.conv fun N' a w hN hf hS=>?_
 refine ⟨aE P fn Q W b y n m0 (swp d i j) N B,⟨s.fr,(s.rg.set r ⟨false,[],none⟩).set (r+1) ⟨false,[],none⟩⟩,rfl,rfl,rfl,rfl,⟨N',hN,hf,?_⟩,h⟩
 have q1:=hN r _ p1
 have q2:=hN _ _ p2
 have c1:=hS.cell r _ _ h1 q1 0 _ rfl
 have c2:=hS.cell _ _ _ h2 q2 0 _ rfl
 simp only [SV.den,SI.den,Option.some.injEq,Nat.add_zero] at c1 c2
 obtain ⟨_,rfl,c1⟩:=c1
 obtain ⟨_,rfl,c2⟩:=c2
 have s1:=Sat.give hS h1 q1 rfl (fun k o=>arrD2 b y n i j k o∨(k=b∧o=y+i)) (fun _=>True) (fun k o hk=>hk.imp id fun ⟨e1,e2⟩=>⟨e1,by show y+i≤o;omega,by show o<y+i+1;omega⟩) (fun _ _ _ _ _=>trivial) trivial
 have h2':(s.rg.set r ⟨false,[],none⟩)[r+1]?=some ⟨true,[.int .u8 (.v xi)],none⟩:=by rw [List.getElem?_set_ne (by omega)];exact h2
 have s2:=Sat.give s1 h2' q2 rfl (arrD b y n) (fun _=>True) (fun k o ⟨e1,e2,e3⟩=>by
  by_cases a1:o=y+j
  ·exact .inr ⟨e1,by show y+j≤o;omega,by show o<y+j+1;omega⟩
  ·by_cases a2:o=y+i
   ·exact .inl (.inr ⟨e1,a2⟩)
   ·exact .inl (.inl ⟨e1,e2,e3,a2,a1⟩)) (fun _ _ _ _ _=>trivial) trivial
 refine Sat.imSay (m':=arrM m0 b y (swp d i j)) s2 fun k o v hv=>?_
 show arrM2 m0 b y i j d k o=some v∨_
 rcases arrM_some hv with ⟨⟨e1,e2,e3⟩,e4⟩ | ⟨e,hv⟩
 ·rw [swpZ_size] at e3
  have hq:o-y<d.size:=by omega
  rw [swpZ_get (by omega) (by omega) hq] at e4
  by_cases a1:o=y+j
  ·refine .inr ⟨⟨e1,e2,by omega⟩,?_⟩
   rw [if_pos (by omega),hxi] at e4
   rw [e1,a1,c2,e4]
  ·by_cases a2:o=y+i
   ·refine .inr ⟨⟨e1,e2,by omega⟩,?_⟩
    rw [if_neg (by omega),if_pos (by omega),hxj] at e4
    rw [e1,a2,c1,e4]
   ·left
    rw [if_neg (by omega),if_neg (by omega)] at e4
    unfold arrM2 arrM
    rw [if_neg (by rintro ⟨_,e | e⟩;exact a2 e;exact a1 e),if_pos ⟨e1,e2,e3⟩,e4]
 ·left
  rw [swpZ_size] at e
  unfold arrM2 arrM
  rw [if_neg (by rintro ⟨e1,e2 | e2⟩<;>exact e ⟨e1,by omega,by omega⟩),if_neg e]
  exact hv
theorem swpZ_self {i:Nat} (hi:i<d.size):swp d i i=d:=by
 apply Array.ext
 ·simp [swp]
 ·intro q h1 h2
  have:=swpZ_get (d:=d) hi hi (q:=q) (by simpa [swp] using h1)
  rw [getElem!_pos _ q h1,getElem!_pos d q h2] at this
  rw [this]
  split
  ·rename_i e;subst e;rw [getElem!_pos d _ hi]
  ·rfl
theorem X.take1 (hA:AtA W b y d0) (h0:d0.size=n) (hn:d.size=n) {i:Nat} {xi:Int} (hi:i<n) (hxi:d[i]! = xi) (hrg:∀ g∈s.rg,g.own=true∨g.cells=[])
  (h:∀ N:Nums,N0.le N→N.length=s.rg.length→X (mkE P fn Q W (arrD b y n) (arrM2 m0 b y i i d) (arrD2 b y n i i) (fun _=>True) (N++[⟨b,y+i,1⟩]) B) k ⟨s.fr,s.rg++[⟨true,[.int .u8 (.v xi)],none⟩]⟩) :
  X (aE P fn Q W b y n m0 d N0 B) k s:=by
 refine X.conv fun N a w hN hf hS=>?_
 refine ⟨mkE P fn Q W (arrD b y n) (arrM2 m0 b y i i d) (arrD2 b y n i i) (fun _=>True) (N++[⟨b,y+i,1⟩]) B,⟨s.fr,s.rg++[⟨true,[.int .u8 (.v xi)],none⟩]⟩,rfl,rfl,rfl,rfl,⟨_,Nums.le.refl _,hf.mono (Nums.le_append _ _),?_⟩,h N hN hS.len⟩
 have ci:w.cell? ⟨b,y+i,none⟩=some (.int .u8 xi):=by rw [←hxi];exact hS.imm _ _ _ (arrM_in (by omega))
 have fz:w.frozen? ⟨b,y+i,none⟩=false:=by
  obtain ⟨h1,h2⟩:=hA i (by omega)
  exact frozen_stays hS.chg (by rw [h1];rfl) h2
 have s1:Sat { (aE P fn Q W b y n m0 d N0 B).toEnv with im:=arrM2 m0 b y i i d } N s.rg w:=Sat.imSay hS fun k o v hv=>.inl (by
  unfold arrM2 at hv
  split at hv
  ·cases hv
  ·exact hv)
 exact s1.focus (b:=b) (o:=y+i) (cs:=[.int .u8 (.v xi)]) (arrD2 b y n i i) (fun _=>True) (World.block_lt_of_cell? _ _ ci)
  (fun q c hq=>by cases q with
   | zero=>simp at hq;subst hq;exact ⟨_,rfl,ci⟩
   | succ q=>simp at hq)
  (fun q hq=>by simp at hq;subst hq;exact fz) (fun q hq=>by simp at hq;subst hq;exact ⟨rfl,by omega,by omega⟩)
  (fun k o ⟨h1,h2,h3,h4,h5⟩=>⟨⟨h1,h2,h3⟩,by simp;intro _ _;omega⟩) (.inr fun q hq=>by simp at hq;subst hq;exact ⟨rfl,by omega,by omega⟩)
  (fun q hq=>by simp at hq;subst hq;simp [arrM2]) hrg (fun _ _ _ _ _=>trivial) trivial
theorem X.give1 {i r:Nat} {xi:Int} (hn:d.size=n) (hi:i<n) (hxi:d[i]! = xi) {N:Nums} (h1:s.rg[r]?=some ⟨true,[.int .u8 (.v xi)],none⟩) (p1:N[r]?=some ⟨b,y+i,1⟩)
  (h:X (aE P fn Q W b y n m0 d N B) k ⟨s.fr,s.rg.set r ⟨false,[],none⟩⟩) :
  X (mkE P fn Q W (arrD b y n) (arrM2 m0 b y i i d) (arrD2 b y n i i) (fun _=>True) N B) k s:=by
 refine X.conv fun N' a w hN hf hS=>?_
 refine ⟨aE P fn Q W b y n m0 d N B,⟨s.fr,s.rg.set r ⟨false,[],none⟩⟩,rfl,rfl,rfl,rfl,⟨N',hN,hf,?_⟩,h⟩
 have q1:=hN r _ p1
 have c1:=hS.cell r _ _ h1 q1 0 _ rfl
 simp only [SV.den,SI.den,Option.some.injEq,Nat.add_zero] at c1
 obtain ⟨_,rfl,c1⟩:=c1
 have s2:=Sat.give hS h1 q1 rfl (arrD b y n) (fun _=>True) (fun k o ⟨e1,e2,e3⟩=>by
  by_cases a1:o=y+i
  ·exact .inr ⟨e1,by show y+i≤o;omega,by show o<y+i+1;omega⟩
  ·exact .inl ⟨e1,e2,e3,a1,a1⟩) (fun _ _ _ _ _=>trivial) trivial
 refine Sat.imSay (m':=arrM m0 b y d) s2 fun k o v hv=>?_
 show arrM2 m0 b y i i d k o=some v∨_
 by_cases e:k=b∧o=y+i
 ·have hv:arrM m0 b y d k o=some v:=hv
  rw [e.1,e.2,arrM_in (by omega),hxi] at hv
  exact .inr ⟨⟨e.1,by omega,by omega⟩,by rw [e.1,e.2,c1,hv]⟩
 ·left
  unfold arrM2
  rw [if_neg (by rintro ⟨e1,e2 | e2⟩<;>exact e ⟨e1,e2⟩)]
  exact hv
theorem Goes.arr {N:Nums} {dst:Option Nat} {v:Value} {w w':World} {d':Array Int} (hN:N0.le N) (hS:Sat (aE P fn Q W b y n m0 d N0 B).toEnv N s.rg w) (hn:d.size=n) (hn':d'.size=n) (hA:AtA w' b y d') (hc:Chg (arrD b y n) w w') (hrg:∀ g∈s.rg,g.own=true∨g.cells=[])
  {r:SV} (hr:r.den N=some v) {f':Fr} (hp:putO fn.ntmps s.fr dst (.val r)=some f') (h:X (aE P fn Q W b y n m0 d' N0 B) k ⟨f',s.rg⟩):Goes (aE P fn Q W b y n m0 d N0 B) N k s.fr dst v w':=by
 refine ⟨aE P fn Q W b y n m0 d' N0 B,N,r,s.rg,f',rfl,rfl,rfl,rfl,Nums.le.refl N,hN,?_,hr,hp,h⟩
 have s1:Sat { (aE P fn Q W b y n m0 d N0 B).toEnv with im:=fun k o=>if k=b∧y≤o∧o<y+n then none else m0 k o } N s.rg w:=Sat.imSay hS fun k o v hv=>.inl (by
  by_cases e:k=b∧y≤o∧o<y+n
  ·rw [if_pos e] at hv;cases hv
  ·rw [if_neg e] at hv
   show arrM m0 b y d k o=some v
   unfold arrM
   rw [hn,if_neg e];exact hv)
 have s2:=Sat.turn s1 (w':=w') (D':=arrD b y n) (R':=fun _=>True) hc (fun k o h=>.inr h) (fun k o h=>if_pos h) hrg (fun k o hd=>⟨.inl hd,by
  obtain ⟨rfl,e2,e3⟩:=hd
  have:=(hA (o-y) (by omega)).1
  rw [show y+(o-y)=o by omega] at this
  exact .inl (by rw [this];rfl)⟩) (fun _ _ _ _ _=>trivial) trivial
 refine Sat.imSay (m':=arrM m0 b y d') s2 fun k o v hv=>?_
 rcases arrM_some hv with ⟨⟨e1,e2,e3⟩,e4⟩ | ⟨e,hv⟩
 ·refine .inr ⟨⟨e1,e2,by omega⟩,?_⟩
  have:=(hA (o-y) (by omega)).1
  rw [show y+(o-y)=o by omega] at this
  rw [e1,this,e4]
 ·left
  show (if k=b∧y≤o∧o<y+n then none else m0 k o)=some v
  rw [if_neg (by rw [←hn'];exact e)]
  exact hv
theorem Sat.arr {N:Nums} {w:World} {rg:List Rg} (hS:Sat (aE P fn Q W b y n m0 d N0 B).toEnv N rg w) (hA:AtA W b y d0) (h0:d0.size=n) (hn:d.size=n):AtA w b y d∧Chg (arrD b y n) W w:=by
 refine ⟨fun q hq=>⟨hS.imm _ _ _ (arrM_in hq),?_⟩,hS.chg⟩
 obtain ⟨h1,h2⟩:=hA q (by omega)
 exact frozen_stays hS.chg (by rw [h1];rfl) h2
def PostA (b y n:Nat) (w:World) (d':Array Int):Ending→World→Prop:=fun e w'=>e=.returned (.tuple #[])∧AtA w' b y d'∧Chg (arrD b y n) w w'
end
theorem nan8_ok (x:Int) (w:World):Calls Tryz.prog 80 #[.int .u8 x] w fun e w'=>e=.returned (.bool false)∧Chg (fun _ _=>False) w w':=by
 refine X.begin (rg:=[]) (N:=[]) (ss:=[.int .u8 (.v x)]) Tryz.func80 rfl B80_ok rfl rfl Sat.std0 ?_
 refine X.go T80_ok 400 _ rfl Tryz.results80 ?_
 conv=>arg 2;cbv
 refine X.done T80_ok rfl (fun N w' v hN hS hv=>⟨fin_bool hv ?_,hS.chg.mono fun k o _ h=>inR_nil h⟩)
 simp [SB.den,SI.den]
theorem less8_ok (x y:Int) (w:World):Calls Tryz.prog 120 #[.int .u8 x,.int .u8 y] w fun e w'=>e=.returned (.bool (ltInt x y))∧Chg (fun _ _=>False) w w':=by
 refine X.begin (rg:=[]) (N:=[]) (ss:=[.int .u8 (.v x),.int .u8 (.v y)]) Tryz.func120 rfl B120_ok rfl rfl Sat.std0 ?_
 refine X.goP ([(6,.bool (.lit false))]) T120_ok 400 _ rfl Tryz.results120 (fun pr fin hpr hfin=>?_)
 conv=>cbv
 refine ⟨hpr _ (.of Tryz.call80 [.int .u8 x] (.bool false) (fun _=>rfl) (fun _=>rfl) fun _ w1 _=>nan8_ok x w1),hfin _ _ ?_⟩
 refine X.done T120_ok rfl (fun N w' v hN hS hv=>⟨fin_bool hv ?_,hS.chg.mono fun k o _ h=>inR_nil h⟩)
 simp only [SB.den,SI.den,ltInt]
 exact decide_eq_decide.2 Iff.rfl
theorem less_call {E:Env} (hE:E.P=Tryz.prog) {N0:Nums} {rg:List Rg} {k:GK} {x y:Int} {q:Bool} (hq:q=ltInt x y):CallOk E N0 rg k 120 [.int .u8 (.v x),.int .u8 (.v y)] (.bool (.v q)):=by
 refine .of (by rw [hE];exact Tryz.call120) [.int .u8 x,.int .u8 y] (.bool q) (fun _=>rfl) (fun _=>rfl) fun _ w1 _=>?_
 rw [hE,hq]
 exact less8_ok x y w1
theorem ins8_ok (b y n c a e:Nat) (d:Array Int) (w:World) (hA:AtA w b y d) (hn:d.size=n) (han:a≤n) (hen:e≤n) (hbig:n<4611686018427387904) :
  Calls Tryz.prog 114 #[.slice (some ⟨b,y,none⟩) n c,.int .i64 a,.int .i64 e] w (PostA b y n w (insertionSort ltInt d a e)):=by
 obtain ⟨F,hF⟩:∃ F,F=insertionSort ltInt d a e:=⟨_,rfl⟩
 rw [←hF]
 obtain ⟨p,hp⟩:∃ p,p=some (Addr.mk b y none):=⟨_,rfl⟩
 rw [←hp]
 refine X.beginA hA hn (ss:=[.slv p n c,.int .i64 (.nat a),.int .i64 (.nat e)]) Tryz.func114 rfl B114_ok rfl rfl ?_
 refine X.go T114_ok 400 _ rfl Tryz.results114 ?_
 conv=>arg 2;cbv
 refine X.loop (fun g:{g:Nat × Array Int // g.2.size=n∧a+1≤g.1∧g.1≤n+1∧insOuter ltInt a e g.1 g.2=F}=>aE Tryz.prog Tryz.f114 _ w b y n (wm w) g.1.2 [] B114)
  (fun g=>⟨[(0,.val (.slv p n c)),(1,.val (.int .i64 (.nat a))),(2,.val (.int .i64 (.nat e))),(6,.val (.int .i64 (.nat g.1.1)))],[]⟩) (fun g=>n+1-g.1.1) (fun _=>⟨rfl,rfl,rfl,rfl⟩)
  (fun N ac w' hN hf hS=>⟨⟨(a+1,d),hn,Nat.le_refl _,by omega,hF.symm⟩,?_⟩) (fun g q' hq'=>?_)
 ·exact At.again hf hS (by repeat first | exact trivial | refine ⟨⟨_,rfl,.inl ⟨rfl,rfl⟩⟩,?_⟩ | refine ⟨⟨_,rfl,.inr ⟨_,rfl,rfl⟩⟩,?_⟩ | refine ⟨⟨_,rfl,.inr ⟨_,rfl,by simp (disch:=omega) [SV.den,SI.den,wrapU,wrapD]<;>omega⟩⟩,?_⟩) trivial
 obtain ⟨⟨i,d1⟩,hd1,hi1,hi2,hFi⟩:=g
 simp only at hd1 hi1 hi2 hFi
 show X (aE Tryz.prog Tryz.f114 _ w b y n (wm w) d1 [] B114) _ ⟨[(0,.val (.slv p n c)),(1,.val (.int .i64 (.nat a))),(2,.val (.int .i64 (.nat e))),(6,.val (.int .i64 (.nat i)))],[]⟩
 refine X.go T114_ok 400 _ rfl Tryz.results114 ?_
 conv=>arg 2;cbv
 refine X.cond rfl (fun hlt=>?_) (fun hge=>?_)
 ·simp only [SB.T,SI.den] at hlt
  have hlt:i<e:=by omega
  refine X.go T114_ok 400 _ rfl Tryz.results114 ?_
  conv=>arg 2;cbv
  rw [insOuter,if_pos hlt] at hFi
  refine X.loop (fun g:{g:Nat × Array Int // g.2.size=n∧g.1≤i∧insOuter ltInt a e (i+1) (insInner ltInt a g.1 g.2)=F}=>aE Tryz.prog Tryz.f114 _ w b y n (wm w) g.1.2 [] B114)
   (fun g=>⟨[(0,.val (.slv p n c)),(1,.val (.int .i64 (.nat a))),(2,.val (.int .i64 (.nat e))),(6,.val (.int .i64 (.nat i))),(7,.val (.int .i64 (.nat g.1.1)))],[]⟩) (fun g=>g.1.1) (fun _=>⟨rfl,rfl,rfl,rfl⟩)
   (fun N ac w' hN hf hS=>⟨⟨(i,d1),hd1,Nat.le_refl _,hFi⟩,?_⟩) (fun g q2 hq2=>?_)
  ·exact At.again hf hS (by repeat first | exact trivial | refine ⟨⟨_,rfl,.inl ⟨rfl,rfl⟩⟩,?_⟩ | refine ⟨⟨_,rfl,.inr ⟨_,rfl,rfl⟩⟩,?_⟩ | refine ⟨⟨_,rfl,.inr ⟨_,rfl,by simp (disch:=omega) [SV.den,SI.den,wrapU,wrapD]<;>omega⟩⟩,?_⟩) trivial
  obtain ⟨⟨j,d2⟩,hd2,hji,hFj⟩:=g
  simp only at hd2 hji hFj
  obtain ⟨m,hm⟩:∃ m,m=j-1:=⟨_,rfl⟩
  obtain ⟨xj,hxj⟩:∃ x,d2[j]! = x:=⟨_,rfl⟩
  obtain ⟨xm,hxm⟩:∃ x,d2[m]! = x:=⟨_,rfl⟩
  obtain ⟨t,ht⟩:∃ t,t=ltInt xj xm:=⟨_,rfl⟩
  obtain ⟨oj,hoj⟩:∃ o,o=y+j:=⟨_,rfl⟩
  obtain ⟨om,hom⟩:∃ o,o=y+m:=⟨_,rfl⟩
  show X (aE Tryz.prog Tryz.f114 _ w b y n (wm w) d2 [] B114) _ ⟨[(0,.val (.slv p n c)),(1,.val (.int .i64 (.nat a))),(2,.val (.int .i64 (.nat e))),(6,.val (.int .i64 (.nat i))),(7,.val (.int .i64 (.nat j)))],[]⟩
  refine X.goP ([(22,.ext b oj 0),(23,.int .u8 (.v xj)),(27,.ext b om 0),(28,.int .u8 (.v xm)),(29,.bool (.v t))]) T114_ok 400 _ rfl Tryz.results114 (fun pr fin hpr hfin=>?_)
  conv=>cbv
  refine ⟨hpr _ (less_call rfl ht),hpr _ (ValOk.im1 rfl Tryz.isAgg5 (fun _=>rfl) fun hT=>(by have hT:_=true:=hT;simp [SB.den,SI.den] at hT;(try replace hT:=of_decide_eq_true hT);(try simp (disch:=omega) only [SI.den,wrapN] at hT);rw [←hxm,hom];exact arrM_in (by omega))),hpr _ (ValOk.im1 rfl Tryz.isAgg5 (fun _=>rfl) fun hT=>(by have hT:_=true:=hT;simp [SB.den,SI.den] at hT;(try replace hT:=of_decide_eq_true hT);(try simp (disch:=omega) only [SI.den,wrapN] at hT);rw [←hxj,hoj];exact arrM_in (by omega))),hpr _ (ValOk.at (z:=m) rfl rfl (fun hT=>by have hT:_=true:=hT;simp [SB.den,SI.den] at hT;(try replace hT:=of_decide_eq_true hT);(try simp (disch:=omega) only [SI.den,wrapN] at hT);first | omega | (simp (disch:=omega) only [SI.den,wrapN]<;>omega)) Tryz.underlying30 Tryz.sizeOf5 (fun hT=>by have hT:_=true:=hT;simp [SB.den,SI.den] at hT;(try replace hT:=of_decide_eq_true hT);(try simp (disch:=omega) only [SI.den,wrapN] at hT);first | omega | (simp (disch:=omega) only [SI.den,wrapN]<;>omega)) hp (by omega)),hpr _ (ValOk.at (z:=j) rfl rfl (fun hT=>by have hT:_=true:=hT;simp [SB.den,SI.den] at hT;(try replace hT:=of_decide_eq_true hT);(try simp (disch:=omega) only [SI.den,wrapN] at hT);first | omega | (simp (disch:=omega) only [SI.den,wrapN]<;>omega)) Tryz.underlying30 Tryz.sizeOf5 (fun hT=>by have hT:_=true:=hT;simp [SB.den,SI.den] at hT;(try replace hT:=of_decide_eq_true hT);(try simp (disch:=omega) only [SI.den,wrapN] at hT);first | omega | (simp (disch:=omega) only [SI.den,wrapN]<;>omega)) hp (by omega)),hfin _ _ ?_⟩
  refine X.cond rfl (fun hlt2=>?_) (fun hge2=>?_)
  ·simp only [SB.T,SI.den] at hlt2
   obtain ⟨hja,htt⟩:=hlt2
   have hjm:j=m+1:=by omega
   refine X.take2 hA hn hd2 (i:=j) (j:=m) (by omega) (by omega) (by omega) hxj hxm (by simp) (fun N1 _ hN1=>?_)
   have g0:((N1++[⟨b,y+j,1⟩])++[⟨b,y+m,1⟩]:Nums)[0]?=some ⟨b,y+j,1⟩:=num_old (num_last hN1)
   have g1:((N1++[⟨b,y+j,1⟩])++[⟨b,y+m,1⟩]:Nums)[1]?=some ⟨b,y+m,1⟩:=num_last (by simp [hN1])
   refine X.goP ([(41,.own 1 0),(45,.own 0 0),(47,.own 0 0),(48,.own 1 0)]) T114_ok 400 _ rfl Tryz.results114 (fun pr fin hpr hfin=>?_)
   conv=>cbv
   refine ⟨hpr _ (ValOk.row (z:=m) rfl rfl (fun _=>by first | rfl | (simp (disch:=omega) only [SB.den,SI.den,wrapN]<;>omega)) Tryz.underlying30 Tryz.sizeOf5 (by omega) hp g1 rfl (by simp)),hpr _ (ValOk.row (z:=j) rfl rfl (fun _=>by first | rfl | (simp (disch:=omega) only [SB.den,SI.den,wrapN]<;>omega)) Tryz.underlying30 Tryz.sizeOf5 (by omega) hp g0 rfl (by simp)),hpr _ (ValOk.row (z:=j) rfl rfl (fun _=>by first | rfl | (simp (disch:=omega) only [SB.den,SI.den,wrapN]<;>omega)) Tryz.underlying30 Tryz.sizeOf5 (by omega) hp g0 rfl (by simp)),hpr _ (ValOk.row (z:=m) rfl rfl (fun _=>by first | rfl | (simp (disch:=omega) only [SB.den,SI.den,wrapN]<;>omega)) Tryz.underlying30 Tryz.sizeOf5 (by omega) hp g1 rfl (by simp)),hfin _ _ ?_⟩
   refine X.give2 (i:=j) (j:=m) (r:=0) hd2 (by omega) (by omega) (by omega) hxj hxm rfl rfl g0 g1 ?_
   refine X.back (fun N ac w' hN hf hS=>hq2 ⟨(m,swp d2 j m),by rw [swpZ_size];exact hd2,by omega,?_⟩ ac w' (by simp only;omega) ?_)
   ·rw [←hFj,hjm,insInner,if_pos ?_]
    rw [←hjm,hxj,hxm,←ht,htt]
    simp;omega
   ·exact At.again hf hS (by repeat first | exact trivial | refine ⟨⟨_,rfl,.inl ⟨rfl,rfl⟩⟩,?_⟩ | refine ⟨⟨_,rfl,.inr ⟨_,rfl,rfl⟩⟩,?_⟩ | refine ⟨⟨_,rfl,.inr ⟨_,rfl,by simp (disch:=omega) [SV.den,SI.den,wrapU,wrapD]<;>omega⟩⟩,?_⟩) trivial
  ·refine X.go T114_ok 400 _ rfl Tryz.results114 ?_
   conv=>arg 2;cbv
   refine X.back (fun N ac w' hN hf hS=>hq' ⟨(i+1,d2),hd2,by omega,by omega,?_⟩ ac w' (by simp only;omega) ?_)
   ·simp only [SB.F,SI.den] at hge2
    rw [←hFj]
    cases j with
    | zero=>rw [insInner]
    | succ j =>
     rw [insInner,if_neg ?_]
     obtain rfl:m=j:=by omega
     rw [hxj,hxm,←ht]
     rcases hge2 with h | h
     ·simp;omega
     ·simp [h]
   ·exact At.again hf hS (by repeat first | exact trivial | refine ⟨⟨_,rfl,.inl ⟨rfl,rfl⟩⟩,?_⟩ | refine ⟨⟨_,rfl,.inr ⟨_,rfl,rfl⟩⟩,?_⟩ | refine ⟨⟨_,rfl,.inr ⟨_,rfl,by simp (disch:=omega) [SV.den,SI.den,wrapU,wrapD]<;>omega⟩⟩,?_⟩) trivial
 simp only [SB.F,SI.den] at hge
 refine X.go T114_ok 400 _ rfl Tryz.results114 ?_
 conv=>arg 2;cbv
 refine X.over T114_ok rfl (fun N w' v hN hS hv=>⟨?_,?_⟩)
 ·simp only [resV,SV.den,SV.denL,Option.some.injEq] at hv
  rw [←hv]
 ·rw [insOuter,if_neg (by omega)] at hFi
  rw [←hFi]
  exact Sat.arr hS hA hn hd1
end Go.Proofs.YthpbefahaghbjaaGreat
