import Derived.Test.YthpbefahaghbjaaGreatEB
namespace Go.Eng
structure FI where
 body:Code
 n:Nat
 rs:List ResultVar
 T:Tab
 B:SchT
def FI.of (fn:Func) (T:Tab) (B:SchT):FI:=⟨fn.body.getD .skip,fn.ntmps,fn.results.toList,T,B⟩
structure FOk (P:Program) (g:Nat) (fi:FI):Prop where
 ex:∃ fn c,P.funcs[g]?=some fn∧fn.body=some c∧fi.body=c∧fi.n=fn.ntmps∧fi.rs=fn.results.toList∧regsB fi.B c=true
 tab:TabOk P fi.T
 call:∀ args w,(callFunc g args).run P w=.ok (.enter g args) w
theorem FOk.of {P:Program} {g:Nat} {fn:Func} {T:Tab} {c:Code} (h:P.funcs[g]?=some fn) (hb:fn.body=some c) (hT:TabOk P T) {B:SchT} (hB:regsO B fn.body=true) (hc:∀ args w,(callFunc g args).run P w=.ok (.enter g args) w):FOk P g (FI.of fn T B) :=
 ⟨⟨fn,c,h,hb,by simp [FI.of,hb],rfl,rfl,by rw [hb] at hB;exact hB⟩,hT,hc⟩
abbrev FT:=List (Nat × FI)
def lookF:FT→Nat→Option FI
 | [],_=>none
 | (k,v)::r,t=>bif Nat.beq k t then some v else lookF r t
inductive FTok (P:Program):FT→Prop
 | nil:FTok P []
 | cons {g:Nat} {fi:FI} {F:FT}:FOk P g fi→FTok P F→FTok P ((g,fi)::F)
theorem FTok.look {P:Program}:∀ {F:FT},FTok P F→∀ {g:Nat} {fi:FI},lookF F g=some fi→FOk P g fi
 | _,.nil,g,fi,h=>by simp [lookF] at h
 | (k,v)::r,.cons h1 h2,g,fi,h=>by
  simp only [lookF] at h
  by_cases hk:k=g
  ·subst hk;simp at h;subst h;exact h1
  ·simp only [beq_ne hk,cond_false] at h;exact FTok.look h2 h
def app (a b:List Nat):List Nat :=
 match a with
 | []=>b
 | x::r=>x::app r b
abbrev Runner:=Tab→SchT→Nat→List ResultVar→List It→St→List It × St × List Nat
def fnOf:SV→Option (Nat × List SV)
 | .fn g cs=>some (g,cs)
 | .raw (.func (.func g) ⟨[]⟩ ⟨[]⟩)=>some (g,[])
 | _=>none
theorem fnOf_sound {N:Nums} {v:SV} {x:Value} {g:Nat} {cs:List SV} (hv:v.den N=some x) (h:fnOf v=some (g,cs)):∃ cl,x=.func (.func g) #[] (List.toArray cl)∧SV.denL N cs=some cl:=by
 unfold fnOf at h
 split at h
 ·simp only [Option.some.injEq,Prod.mk.injEq] at h
  obtain ⟨rfl,rfl⟩:=h
  simp only [SV.den] at hv
  rename_i cs
  cases hl:SV.denL N cs with
  | none=>simp [hl] at hv
  | some l=>simp only [hl,Option.some.injEq] at hv;exact ⟨l,hv.symm,rfl⟩
 ·simp only [Option.some.injEq,Prod.mk.injEq] at h
  obtain ⟨rfl,rfl⟩:=h
  simp only [SV.den,one?,if_true,Option.some.injEq] at hv
  exact ⟨[],hv.symm,rfl⟩
 ·cases h
def callQ (F:FT) (all:Array Oper) (i:Nat) (s:St):Option (FI × List SV × Option Nat) :=
 match nth all.toList i with
 | none=>none
 | some o=>bif sure all s.fr o then
   match o.op with
   | .call c=>match c.callee with
    | .value f=>match ev s.fr f with
     | some v=>match fnOf v with
      | some (g,cs)=>match lookF F g,evL s.fr c.args.toList with
       | some fi,some l=>bif Nat.ble (l++cs).length fi.n then some (fi,l++cs,o.dst) else none
       | _,_=>none
      | none=>none
     | none=>none
    | _=>none
   | _=>none
  else none
def endC (n:Nat) (f:Fr) (d:Option Nat) (fi:FI) (s2:St) (ws:List Nat):Option (St × List Nat) :=
 match resL fi.T s2 fi.rs with
 | some r=>match putO n f d (.val (resV r)) with
  | some f'=>some (⟨f',s2.rg⟩,ws)
  | none=>none
 | none=>none
def callC (F:FT) (run:Runner) (n:Nat) (all:Array Oper) (i:Nat) (s:St):Option (St × List Nat) :=
 match callQ F all i s with
 | some (fi,l,d)=>match run fi.T fi.B fi.n fi.rs [.code fi.body] ⟨argFr l 0,s.rg⟩ with
  | (.res _::_,s2,ws)=>endC n s.fr d fi s2 ws
  | ([],s2,ws)=>endC n s.fr d fi s2 ws
  | _=>none
 | none=>none
abbrev Caller:=Nat→St→Option (St × List Nat)
abbrev KW:=List (Nat × List Nat)
def dryS (T:Tab) (n:Nat) (all:Array Oper) (call:Caller):Sch→St→KW
 | [],_=>[]
 | (i,_)::r,s =>
  match opStep T n all i s with
  | some s'=>match stR s.fr all i with
   | some k=>(i,[k])::dryS T n all call r s'
   | none=>dryS T n all call r s'
  | none=>match call i s with
   | some (s',ws)=>(i,ws)::dryS T n all call r s'
   | none=>[]
def allN (ks:List Nat):List Nat→Bool
 | []=>true
 | w::ws=>memN ks w&&allN ks ws
def flatK (f:Nat→Bool):KW→List Nat
 | []=>[]
 | (j,ks)::r=>bif f j then app ks (flatK f r) else flatK f r
def quietK:KW→Nat→Bool
 | [],_=>true
 | (j,_)::r,i=>!Nat.beq j i&&quietK r i
def lookK:KW→Nat→List Nat
 | [],_=>[]
 | (j,ks)::r,i=>bif Nat.beq j i then ks else lookK r i
def anyS (T:Tab) (n:Nat) (all:Array Oper) (K:KW) (rg:List Rg) (call:Caller):Sch→St→Option St
 | [],s=>some s
 | (i,some blk)::r,s=>bif quietK K i then
   match opQ T n all (maskRg (flatK (memB blk) K) rg 0) i s.fr with
   | some f=>anyS T n all K rg call r ⟨f,s.rg⟩
   | none=>none
  else none
 | (i,none)::r,s=>match opQ T n all s.rg i s.fr with
  | some f=>anyS T n all K rg call r ⟨f,s.rg⟩
  | none=>match opE T n all i s with
   | some s'=>bif (match stR s.fr all i with | some k=>memN (lookK K i) k | none=>true) then anyS T n all K rg call r s' else none
   | none=>match call i s with
    | some (s',ws)=>bif allN (lookK K i) ws then anyS T n all K rg call r s' else none
    | none=>none
def allQ:Sch→Bool
 | []=>true
 | (_,q)::r=>q.isSome&&allQ r
def drawnK (T:Tab) (n:Nat) (all:Array Oper) (call:Caller) (sch:Sch) (s:St) (K:KW):Option (St × List Nat) :=
 match anyS T n all K s.rg call sch s with
 | some s'=>some (s',flatK (fun _=>true) K)
 | none=>none
def drawnS (T:Tab) (n:Nat) (all:Array Oper) (call:Caller) (sch:Sch) (s:St):Option (St × List Nat) :=
 bif allQ sch then drawnK T n all call sch s [] else drawnK T n all call sch s (dryS T n all call sch s)
def wrs (t:List It) (s:St):List Nat :=
 match t with
 | .ops all (i::_)::_=>match stR s.fr all i with
  | some r=>[r]
  | none=>[]
 | _=>[]
def runC (F:FT) (u:Bool):Nat→Tab→SchT→Nat→List ResultVar→List Nat→List It→St→List It × St × List Nat
 | 0,_,_,_,_,ws,t,s=>(t,s,ws)
 | m+1,T,B,n,rs,ws,t,s =>
  match adv T n rs t s with
  | some (t',s')=>runC F u m T B n rs (app (wrs t s) ws) t' s'
  | none=>match t with
   | .ops all (i::rest)::k=>match callC F (fun T B n rs t s=>runC F u m T B n rs [] t s) n all i s with
    | some (s',ws')=>runC F u m T B n rs (app ws' ws) (.ops all rest::k) s'
    | none=>(t,s,ws)
   | .code c::k=>match c with
    | .region id ops d=>match d with
     | true=>match lookS B id with
      | some sch=>match drawnS T n ops (fun i s=>callC F (fun T B n rs t s=>runC F u m T B n rs [] t s) n ops i s) sch s with
       | some (s',ws')=>runC F u m T B n rs (app ws' ws) k s'
       | none=>(t,s,ws)
      | none=>(t,s,ws)
     | false=>(t,s,ws)
    | .loop c=>match u with
     | true=>runC F u m T B n rs ws (.code c::.inl c::k) s
     | false=>(t,s,ws)
    | _=>(t,s,ws)
   | .inl c::k=>runC F u m T B n rs ws (.code c::.inl c::k) s
   | _=>(t,s,ws)
theorem memN_app (a b:List Nat) (r:Nat):memN (app a b) r=(memN a r || memN b r):=by
 induction a with
 | nil=>rfl
 | cons x a ih=>simp [app,memN,ih,Bool.or_assoc]
theorem Agree.refl (ks:List Nat) (rg:List Rg):Agree ks rg rg:=fun _ _ h _=>h
theorem Agree.trans {a b:List Nat} {x y z:List Rg} (h:Agree a x y) (k:Agree b y z):Agree (app b a) x z:=fun r g hg hm=>by
 rw [memN_app,Bool.or_eq_false_iff] at hm
 exact k r g (h r g hg hm.2) hm.1
theorem Agree.mono {a b:List Nat} {x y:List Rg} (h:Agree a x y) (k:∀ r,memN b r=false→memN a r=false):Agree b x y:=fun r g hg hm=>h r g hg (k r hm)
theorem allN_spec {ks:List Nat}:∀ {ws:List Nat},allN ks ws=true→∀ r,memN ks r=false→memN ws r=false
 | [],_,r,_=>rfl
 | w::ws,h,r,hr=>by
  simp only [allN,Bool.and_eq_true] at h
  simp only [memN,Bool.or_eq_false_iff]
  refine ⟨?_,allN_spec h.2 r hr⟩
  cases e:Nat.beq w r with
  | false=>rfl
  | true=>have:=Nat.eq_of_beq_eq_true e;subst this;rw [h.1] at hr;cases hr
structure Keeps (ks:List Nat) (rg rg':List Rg):Prop where
 agree:Agree ks rg rg'
 len:rg.length≤rg'.length
theorem Keeps.refl (ks:List Nat) (rg:List Rg):Keeps ks rg rg:=⟨Agree.refl _ _,Nat.le_refl _⟩
theorem Keeps.trans {a b:List Nat} {x y z:List Rg} (h:Keeps a x y) (k:Keeps b y z):Keeps (app b a) x z:=⟨h.agree.trans k.agree,Nat.le_trans h.len k.len⟩
theorem opE_keeps {T:Tab} {n:Nat} {all:Array Oper} {i:Nat} {s s':St} (he:opE T n all i s=some s'):Keeps (match stR s.fr all i with | some r=>[r] | none=>[]) s.rg s'.rg:=by
 have key:(match stR s.fr all i with | some k=>memN (match stR s.fr all i with | some r=>[r] | none=>[]) k | none=>true)=true:=by
  cases hst:stR s.fr all i with
  | some k=>simp [memN]
  | none=>rfl
 obtain ⟨h1,h2⟩:=stepE_agree (Agree.refl _ _) (Nat.le_refl _) key he
 exact ⟨h1,h2⟩
theorem opStep_keeps {T:Tab} {n:Nat} {all:Array Oper} {i:Nat} {s s':St} (he:opStep T n all i s=some s'):Keeps (match stR s.fr all i with | some r=>[r] | none=>[]) s.rg s'.rg:=by
 unfold opStep at he
 split at he
 ·simp only [Option.some.injEq] at he;subst he;exact Keeps.refl _ _
 ·exact opE_keeps he
theorem bif_none {b:Bool} {α:Type} {x:Option α} {y:α} (h:(bif b then x else none)=some y):b=true∧x=some y:=by
 cases b with
 | true=>exact ⟨rfl,h⟩
 | false=>simp at h
theorem adv_keeps {T:Tab} {n:Nat} {rs:List ResultVar} {t t':List It} {s s':St} (h:adv T n rs t s=some (t',s')):Keeps (wrs t s) s.rg s'.rg:=by
 unfold adv at h
 split at h
 ·cases h
 ·cases h
 ·cases h
 ·cases h
 ·simp only [Option.some.injEq,Prod.mk.injEq] at h;obtain ⟨_,rfl⟩:=h;exact Keeps.refl _ _
 ·simp only [Option.some.injEq,Prod.mk.injEq] at h;obtain ⟨_,rfl⟩:=h;exact Keeps.refl _ _
 ·split at h
  ·rename_i s1 hs
   simp only [Option.some.injEq,Prod.mk.injEq] at h;obtain ⟨_,rfl⟩:=h
   exact opStep_keeps hs
  ·cases h
 ·split at h
  ·simp only [Option.some.injEq,Prod.mk.injEq] at h;obtain ⟨_,rfl⟩:=h;exact Keeps.refl _ _
  ·simp only [Option.some.injEq,Prod.mk.injEq] at h;obtain ⟨_,rfl⟩:=h;exact Keeps.refl _ _
  ·simp only [Option.some.injEq,Prod.mk.injEq] at h;obtain ⟨_,rfl⟩:=h;exact Keeps.refl _ _
  ·simp only [Option.some.injEq,Prod.mk.injEq] at h;obtain ⟨_,rfl⟩:=h;exact Keeps.refl _ _
  ·split at h
   ·simp only [Option.some.injEq,Prod.mk.injEq] at h;obtain ⟨_,rfl⟩:=h;exact Keeps.refl _ _
   ·cases h
  ·split at h
   ·simp only [Option.some.injEq,Prod.mk.injEq] at h;obtain ⟨_,rfl⟩:=h;exact Keeps.refl _ _
   ·cases h
  ·split at h
   ·simp only [Option.some.injEq,Prod.mk.injEq] at h;obtain ⟨_,rfl⟩:=h;exact Keeps.refl _ _
   ·cases h
  ·split at h
   ·simp only [Option.some.injEq,Prod.mk.injEq] at h;obtain ⟨_,rfl⟩:=h;exact Keeps.refl _ _
   ·cases h
  ·cases h
def CallerOk (P:Program) (n:Nat) (all:Array Oper) (call:Caller):Prop :=
 ∀ i s s' ws,call i s=some (s',ws)→Keeps ws s.rg s'.rg∧∃ o,all[i]?=some o∧∀ (E:Env) (N:Nums) (a:Act) (w:World),E.P=P→E.n=n→FrOk n N s.fr a→Sat E N s.rg w→Region.wanted o (yielded all a.tmps)=true ∧
  ∀ (K:Act→World→Prop) (Q:Exit→Act→World→Prop),(∀ N' x w',N.le N'→FrOk n N' s'.fr (a.put o.dst x)→Sat E N' s'.rg w'→K (a.put o.dst x) w')→o.wp P a w K Q
theorem memN_flat {f:Nat→Bool}:∀ {K:KW} {r:Nat},memN (flatK f K) r=true↔∃ p∈K,f p.1=true∧memN p.2 r=true
 | [],r=>by simp [flatK,memN]
 | (j,ks)::K,r=>by
  simp only [flatK]
  cases hf:f j with
  | true=>simp [memN_app,memN_flat (K:=K),hf]
  | false=>simp [memN_flat (K:=K),hf]
theorem lookK_mem:∀ {K:KW} {i r:Nat},memN (lookK K i) r=true→∃ p∈K,p.1=i∧memN p.2 r=true
 | [],i,r,h=>by simp [lookK,memN] at h
 | (j,ks)::K,i,r,h=>by
  simp only [lookK] at h
  cases hj:Nat.beq j i with
  | true=>rw [hj] at h;exact ⟨(j,ks),by simp,Nat.eq_of_beq_eq_true hj,h⟩
  | false =>
   rw [hj] at h
   obtain ⟨p,h1,h2⟩:=lookK_mem (K:=K) h
   exact ⟨p,by simp [h1],h2⟩
theorem quietK_spec:∀ {K:KW} {i:Nat},quietK K i=true→∀ p∈K,p.1≠i
 | [],i,h,p,hp=>by simp at hp
 | (j,ks)::K,i,h,p,hp=>by
  simp only [quietK,Bool.and_eq_true,Bool.not_eq_true'] at h
  rcases List.mem_cons.1 hp with rfl | hp
  ·intro e
   simp only at e
   subst e
   have:=h.1;simp at this
  ·exact quietK_spec h.2 p hp
theorem Vis.more {N:Nums} {rg:List Rg} {w:World} {ks ks':List Nat} (h:Vis N (maskRg ks rg 0) w) (hk:∀ r,memN ks r=true→memN ks' r=true):Vis N (maskRg ks' rg 0) w:=by
 have one:∀ (r:Nat) (g:Rg),(maskRg ks' rg 0)[r]?=some g→g=⟨false,[],none⟩∨(maskRg ks rg 0)[r]?=some g:=by
  intro r g hg
  rw [memN_mask] at hg
  obtain ⟨g0,h1,h2⟩:=Option.map_eq_some_iff.1 hg
  cases hm:memN ks' (0+r) with
  | true=>rw [hm] at h2;simp at h2;exact .inl h2.symm
  | false =>
   rw [hm] at h2;simp at h2;subst h2
   right
   rw [memN_mask,h1]
   have:memN ks (0+r)=false:=by
    cases hks:memN ks (0+r) with
    | true=>rw [hk _ hks] at hm;cases hm
    | false=>rfl
   rw [Nat.zero_add] at this
   simp [this]
 refine ⟨by have:=h.len;rwa [maskRg_length] at this ⊢,fun r g p hg hp j c hc=>?_,fun r g p hg hp ho=>?_⟩
 ·rcases one r g hg with rfl | hg
  ·simp at hc
  ·exact h.cell r g p hg hp j c hc
 ·rcases one r g hg with rfl | hg
  ·simp at ho
  ·exact h.ext r g p hg hp ho
theorem anyS_keeps {P:Program} {T:Tab} {n:Nat} {all:Array Oper} {K:KW} {rg0:List Rg} {call:Caller} (hc:CallerOk P n all call):∀ (sch:Sch) {s s':St},anyS T n all K rg0 call sch s=some s'→Keeps (flatK (fun _=>true) K) s.rg s'.rg
 | [],s,s',h=>by
  simp only [anyS,Option.some.injEq] at h;subst h;exact Keeps.refl _ _
 | (i,some blk)::r,s,s',h=>by
  simp only [anyS] at h
  obtain ⟨_,h⟩:=bif_none h
  split at h
  ·have h2:=anyS_keeps hc r h
   exact h2
  ·cases h
 | (i,none)::r,s,s',h=>by
  have up:∀ k,memN (lookK K i) k=true→memN (flatK (fun _=>true) K) k=true:=fun k hk=>by
   obtain ⟨p,h1,_,h3⟩:=lookK_mem hk
   exact memN_flat.2 ⟨p,h1,rfl,h3⟩
  simp only [anyS] at h
  split at h
  ·have h2:=anyS_keeps hc r h
   exact h2
  ·split at h
   ·rename_i s1 he
    obtain ⟨hm,h⟩:=bif_none h
    have h1:=stepE_agree (Agree.refl (flatK (fun _=>true) K) s.rg) (Nat.le_refl _) (by cases hst:stR s.fr all i with | some k=>rw [hst] at hm;exact up k hm | none=>rfl) he
    have h2:=anyS_keeps hc r h
    exact ⟨fun r g hg hr=>h2.agree r g (h1.1 r g hg hr) hr,Nat.le_trans h1.2 h2.len⟩
   ·split at h
    ·rename_i s1 ws he
     obtain ⟨hm,h⟩:=bif_none h
     obtain ⟨h1,_⟩:=hc _ _ _ _ he
     have h2:=anyS_keeps hc r h
     refine ⟨fun r g hg hr=>h2.agree r g (h1.agree r g hg (allN_spec hm r ?_)) hr,Nat.le_trans h1.len h2.len⟩
     cases hl:memN (lookK K i) r with
     | true=>rw [up r hl] at hr;cases hr
     | false=>rfl
    ·cases h
theorem only_spec {l:List Nat} {i:Nat} (h:only l i=true):l=[i]:=by
 unfold only at h
 split at h
 ·rw [Nat.eq_of_beq_eq_true h]
 ·cases h
abbrev wrL (K:KW) (L:Array Bool):List Nat:=flatK (fun j=>L.getD j false) K
theorem anyS_sound {E:Env} {T:Tab} (hT:TabOk E.P T) {all:Array Oper} (hsel:Region.noSelect all=true) {Q:Exit→Act→World→Prop} (hQ:PanicOk Q) {call:Caller} (hc:CallerOk E.P E.n all call) {K:KW} {rg:List Rg} {Nf:Nums} (wf:World) (hV:Vis Nf rg wf):∀ (sch:Sch) (listed:Array Bool) {s s':St} {N:Nums} {a:Act} {w:World},
  schOk all sch listed=true→listed.size=all.size→anyS T E.n all K rg call sch s=some s'→Nf.le N→FrOk E.n N s.fr a→Sat E N s.rg w→Agree (wrL K listed) rg s.rg→rg.length≤s.rg.length →
  (∀ N' a' w',N.le N'→FrOk E.n N' s'.fr a'→Sat E N' s'.rg w'→Q .normal a' w')→wpF E.P all Q (fun L=>Vis Nf (maskRg (wrL K L) rg 0)) sch.length listed a w:=by
 have emp:∀ {l:List Nat},l.isEmpty=true→l=[]:=by intro l h;cases l<;>simp at h ⊢
 have see:∀ (L:Array Bool) {N:Nums} {rg':List Rg} {w:World},Nf.le N→Agree (wrL K L) rg rg'→Sat E N rg' w→Vis Nf (maskRg (wrL K L) rg 0) w:=fun L _ _ _ hN ha hS=>vis_of_agree (hV.mask _) hN ha hS
 intro sch
 induction sch with
 | nil =>
  intro listed s s' N a w hs hn hg hN hf hS ha hl hk
  simp only [anyS,Option.some.injEq] at hg;subst hg
  exact wpF.done (emp hs) (hk N a w (Nums.le.refl N) hf hS)
 | cons p r ih =>
  obtain ⟨i,q⟩:=p
  intro listed s s' N a w hs hn hg hN hf hS ha hl hk
  have hS0:=see listed hN ha hS
  cases q with
  | some blk =>
   simp only [schOk,Bool.and_eq_true] at hs
   obtain ⟨⟨⟨⟨hr,hfree⟩,hclosed⟩,hwithin⟩,hs⟩:=hs
   simp only [anyS] at hg
   obtain ⟨hqk,hg⟩:=bif_none hg
   have hqk:=quietK_spec hqk
   have hrm:i∈Region.ready .any all listed:=by simpa using hr
   have hi0:listed.getD i false=false:=by
    have h1:=(mem_ready.1 hrm).1
    rcases Nat.lt_or_ge i listed.size with h' | h'
    ·simp [h'] at h1 ⊢;exact h1
    ·rw [Array.getD_eq_getD_getElem?,Array.getElem?_eq_none h'];rfl
   have same:∀ (L:Array Bool) (r:Nat),memN (wrL K (L.setIfInBounds i true)) r=true↔memN (wrL K L) r=true:=fun L r=>by
    simp only [wrL,memN_flat]
    constructor
    ·rintro ⟨p,h1,h2,h3⟩
     exact ⟨p,h1,by rwa [getD_set_ne false (fun e=>hqk p h1 e.symm)] at h2,h3⟩
    ·rintro ⟨p,h1,h2,h3⟩
     exact ⟨p,h1,by rwa [getD_set_ne false (fun e=>hqk p h1 e.symm)],h3⟩
   split at hg
   ·rename_i f hq
    have hoj:∃ o,all[i]?=some o:=by
     cases ho:all[i]? with
     | some o=>exact ⟨o,rfl⟩
     | none=>unfold opQ at hq;rw [nth_eq] at hq;simp [ho] at hq
    obtain ⟨o,ho⟩:=hoj
    -- whoever may have come up ahead of it is of blk
    have wide:∀ {L':Array Bool} {w':World},Up all i listed L'→Vis Nf (maskRg (wrL K L') rg 0) w'→Vis Nf (maskRg (flatK (memB blk) K) rg 0) w':=fun hup hv =>
     hv.more fun r hr=>by
      obtain ⟨p,h1,h2,h3⟩:=memN_flat.1 hr
      exact memN_flat.2 ⟨p,h1,(hup.within hclosed hn hi0 hwithin).2.2 _ h2,h3⟩
    obtain ⟨v,hv,hfr⟩:=opQ_sound hT ho hq hf ((wide .here hS0).mono hN)
    refine wpF.take ho hsel hfree hr (fun c a w h=>hQ c a o.dst v w h) (fun L w=>⟨fun h=>h.more fun r hr=>(same L r).1 hr,fun h=>h.more fun r hr=>(same L r).2 hr⟩) ?_ hS0
     (ih _ hs (by simpa using hn) hg hN hfr hS (fun r g hg hm=>ha r g hg (by
      cases hx:memN (wrL K listed) r with
      | true=>rw [(same listed r).2 hx] at hm;cases hm
      | false=>rfl)) hl hk)
    rcases hv with ⟨hw,hrun⟩ | ⟨hw,rfl⟩
    ·exact .inl ⟨hw,fun w ⟨L',hup,hw⟩=>hrun w ((wide hup hw).mono hN)⟩
    ·exact .inr ⟨hw,rfl⟩
   ·cases hg
  | none =>
   simp only [schOk,Bool.and_eq_true] at hs
   obtain ⟨hr,hs⟩:=hs
   have hr:=only_spec hr
   have hrm:i∈Region.ready .any all listed:=by rw [hr];simp
   have hlt:i<listed.size:=by
    obtain ⟨_,o,ho,_⟩:=mem_ready.1 hrm
    rw [hn];exact (Array.getElem?_eq_some_iff.1 ho).1
   have hset:(listed.setIfInBounds i true).getD i false=true:=by simp [hlt]
   have grow:∀ r,memN (wrL K listed) r=true→memN (wrL K (listed.setIfInBounds i true)) r=true:=fun r h=>by
    obtain ⟨p,h1,h2,h3⟩:=memN_flat.1 h
    refine memN_flat.2 ⟨p,h1,?_,h3⟩
    by_cases e:i=p.1
    ·rw [←e];exact hset
    ·rw [getD_set_ne false e];exact h2
   have own:∀ k,memN (lookK K i) k=true→memN (wrL K (listed.setIfInBounds i true)) k=true:=fun k hk=>by
    obtain ⟨p,h1,h2,h3⟩:=lookK_mem hk
    exact memN_flat.2 ⟨p,h1,by rw [h2];exact hset,h3⟩
   have ha1:Agree (wrL K (listed.setIfInBounds i true)) rg s.rg:=ha.mono fun r hr=>by
    cases hx:memN (wrL K listed) r with
    | true=>rw [grow r hx] at hr;cases hr
    | false=>rfl
   simp only [anyS] at hg
   split at hg
   ·rename_i f hq
    have hoj:∃ o,all[i]?=some o:=by
     cases ho:all[i]? with
     | some o=>exact ⟨o,rfl⟩
     | none=>unfold opQ at hq;rw [nth_eq] at hq;simp [ho] at hq
    obtain ⟨o,ho⟩:=hoj
    obtain ⟨v,hv,hfr⟩:=opQ_sound hT ho hq hf hS.vis
    refine wpF.all hr (by simp) fun j hj=>?_
    simp only [List.mem_singleton] at hj;subst hj
    unfold wpOp
    simp only [ho]
    have hnext:=ih _ hs (by simpa using hn) hg hN hfr hS ha1 hl hk
    rcases hv with ⟨hw,hrun⟩ | ⟨hw,rfl⟩
    ·rw [hw,if_pos rfl]
     exact .inl (wp_of_yields (.inl (hrun w hS.vis)) ⟨see _ hN ha1 hS,hnext⟩)
    ·rw [hw]
     exact ⟨see _ hN ha1 hS,hnext⟩
   ·split at hg
    ·rename_i s1 he
     obtain ⟨hm,hg2⟩:=bif_none hg
     have hoi:∃ o,all[i]?=some o:=by
      cases ho:all[i]? with
      | some o=>exact ⟨o,rfl⟩
      | none=>unfold opE at he;rw [nth_eq] at he;simp [ho] at he
     obtain ⟨o,ho⟩:=hoi
     obtain ⟨hw,N',x,w',h1,h2,h3,h4⟩:=opE_sound hT ho he hf hS
     obtain ⟨ha',hl'⟩:=stepE_agree ha1 hl (by cases hst:stR s.fr all i with | some k=>rw [hst] at hm;exact own k hm | none=>rfl) he
     refine wpF.all hr (by simp) fun j hj=>?_
     simp only [List.mem_singleton] at hj;subst hj
     unfold wpOp
     simp only [ho,hw,if_true]
     exact .inl (wp_of_yields h2 ⟨see _ (hN.trans h1) ha' h4,ih _ hs (by simpa using hn) hg2 (hN.trans h1) h3 h4 ha' hl' (fun N2 a2 w2 hN2=>hk N2 a2 w2 (h1.trans hN2))⟩)
    ·split at hg
     ·rename_i s1 ws he
      obtain ⟨hm,hg2⟩:=bif_none hg
      obtain ⟨h1,o,ho,h2⟩:=hc _ _ _ _ he
      obtain ⟨hw,h3⟩:=h2 E N a w rfl rfl hf hS
      refine wpF.all hr (by simp) fun j hj=>?_
      simp only [List.mem_singleton] at hj;subst hj
      unfold wpOp
      simp only [ho,hw,if_true]
      refine .inl (h3 _ _ fun N' x w' hN' hf' hS'=>?_)
      have ha':Agree (wrL K (listed.setIfInBounds j true)) rg s1.rg:=fun r g hg hr=>h1.agree r g (ha1 r g hg hr) (allN_spec hm r (by
       cases hx:memN (lookK K j) r with
       | true=>rw [own r hx] at hr;cases hr
       | false=>rfl))
      exact ⟨see _ (hN.trans hN') ha' hS',ih _ hs (by simpa using hn) hg2 (hN.trans hN') hf' hS' ha' (Nat.le_trans hl h1.len) (fun N2 a2 w2 hN2=>hk N2 a2 w2 (hN'.trans hN2))⟩
     ·cases hg
theorem drawnK_sound {E:Env} {T:Tab} (hT:TabOk E.P T) {id:Nat} {all:Array Oper} {call:Caller} (hc:CallerOk E.P E.n all call) {sch:Sch} (hok:anyOk all sch=true) {K:KW} {s s':St} {ws:List Nat} (hd:drawnK T E.n all call sch s K=some (s',ws)) {Q:Exit→Act→World→Prop} (hQ:PanicOk Q) {N:Nums} {a:Act} {w:World} (hf:FrOk E.n N s.fr a) (hS:Sat E N s.rg w)
  (hk:∀ N' a' w',N.le N'→FrOk E.n N' s'.fr a'→Sat E N' s'.rg w'→Q .normal a' w'):(Code.region id all true).wp E.P Q a w:=by
 have hS':Sat E N s.rg { w with drawn:=w.drawn+1 }:=hS.drew
 simp only [anyOk,Bool.and_eq_true] at hok
 obtain ⟨⟨hn,hlen⟩,hsch⟩:=hok
 have hlen:=Nat.eq_of_beq_eq_true hlen
 unfold drawnK at hd
 split at hd
 ·rename_i s1 h
  simp only [Option.some.injEq,Prod.mk.injEq] at hd
  obtain ⟨rfl,_⟩:=hd
  have:=anyS_sound hT hn hQ hc _ hS'.vis sch _ hsch (by simp) h (Nums.le.refl N) hf hS' (fun r g hg _=>hg) (Nat.le_refl _) hk
  rw [hlen] at this
  exact wp_region_any hT.mixed this.any
 ·cases hd
theorem drawnS_sound {E:Env} {T:Tab} (hT:TabOk E.P T) {id:Nat} {all:Array Oper} {call:Caller} (hc:CallerOk E.P E.n all call) {sch:Sch} (hok:anyOk all sch=true) {s s':St} {ws:List Nat} (hd:drawnS T E.n all call sch s=some (s',ws)) {Q:Exit→Act→World→Prop} (hQ:PanicOk Q) {N:Nums} {a:Act} {w:World} (hf:FrOk E.n N s.fr a) (hS:Sat E N s.rg w)
  (hk:∀ N' a' w',N.le N'→FrOk E.n N' s'.fr a'→Sat E N' s'.rg w'→Q .normal a' w'):(Code.region id all true).wp E.P Q a w:=by
 unfold drawnS at hd
 cases hq:allQ sch with
 | true=>rw [hq] at hd;exact drawnK_sound hT hc hok hd hQ hf hS hk
 | false=>rw [hq] at hd;exact drawnK_sound hT hc hok hd hQ hf hS hk
theorem drawnK_keeps {P:Program} {T:Tab} {n:Nat} {all:Array Oper} {call:Caller} (hc:CallerOk P n all call) {sch:Sch} {K:KW} {s s':St} {ws:List Nat} (hd:drawnK T n all call sch s K=some (s',ws)):Keeps ws s.rg s'.rg:=by
 unfold drawnK at hd
 split at hd
 ·rename_i s1 h
  simp only [Option.some.injEq,Prod.mk.injEq] at hd
  obtain ⟨rfl,rfl⟩:=hd
  exact anyS_keeps hc _ h
 ·cases hd
theorem drawnS_keeps {P:Program} {T:Tab} {n:Nat} {all:Array Oper} {call:Caller} (hc:CallerOk P n all call) {sch:Sch} {s s':St} {ws:List Nat} (hd:drawnS T n all call sch s=some (s',ws)):Keeps ws s.rg s'.rg:=by
 unfold drawnS at hd
 cases hq:allQ sch with
 | true=>rw [hq] at hd;exact drawnK_keeps hc hd
 | false=>rw [hq] at hd;exact drawnK_keeps hc hd
theorem Sat.env {E E':Env} {N:Nums} {rg:List Rg} {w:World} (h:Sat E N rg w) (h1:E'.W=E.W) (h2:E'.O=E.O) (h3:E'.im=E.im) (h4:E'.D=E.D) (h5:E'.R=E.R):Sat E' N rg w:=by
 obtain ⟨P,n,Q,W,O,im,D,R⟩:=E
 obtain ⟨P',n',Q',W',O',im',D',R'⟩:=E'
 simp only at h1 h2 h3 h4 h5
 subst h1 h2 h3 h4 h5
 exact ⟨h.len,h.lt,h.cell,h.ext,h.room,h.disj,h.obj,h.odisj,h.imm,h.imd,h.dd,h.dlt,h.loc,h.res,h.chg,h.foot⟩
def RunOk (P:Program) (run:Runner):Prop :=
 ∀ T B n rs t s t' s' ws,run T B n rs t s=(t',s',ws)→Keeps ws s.rg s'.rg∧∀ (E:Ctx),E.P=P→E.n=n→E.B=B→TabOk P T→PanicOk E.Q→X E t' s'→X E t s
theorem callC_ok {P:Program} {F:FT} (hF:FTok P F) {run:Runner} (hr:RunOk P run) (n:Nat) (all:Array Oper):CallerOk P n all (callC F run n all):=by
 intro i s s' ws h
 unfold callC at h
 split at h
 ·rename_i fi l d hq
  have main:∀ {t2:List It} {s2:St} {ws2:List Nat},run fi.T fi.B fi.n fi.rs [.code fi.body] ⟨argFr l 0,s.rg⟩=(t2,s2,ws2)→(t2=[]∨∃ r k,t2=.res r::k)→endC n s.fr d fi s2 ws2=some (s',ws) →
    Keeps ws s.rg s'.rg∧∃ o,all[i]?=some o∧∀ (E:Env) (N:Nums) (a:Act) (w:World),E.P=P→E.n=n→FrOk n N s.fr a→Sat E N s.rg w→Region.wanted o (yielded all a.tmps)=true ∧
  ∀ (K:Act→World→Prop) (Q:Exit→Act→World→Prop),(∀ N' x w',N.le N'→FrOk n N' s'.fr (a.put o.dst x)→Sat E N' s'.rg w'→K (a.put o.dst x) w')→o.wp P a w K Q:=by
   intro t2 s2 ws2 hrun ht he
   unfold endC at he
   split at he
   ·rename_i r hres
    split at he
    ·rename_i f' hput
     simp only [Option.some.injEq,Prod.mk.injEq] at he
     obtain ⟨rfl,rfl⟩:=he
     obtain ⟨hkeep,hsound⟩:=hr _ _ _ _ _ _ _ _ _ hrun
     refine ⟨hkeep,?_⟩
     unfold callQ at hq
     split at hq
     ·cases hq
     ·rename_i o ho
      rw [nth_eq] at ho
      refine ⟨o,by simpa using ho,fun E N a w hP hn hf hS=>?_⟩
      cases hsu:sure all s.fr o with
      | false=>rw [hsu] at hq;simp at hq
      | true =>
       rw [hsu] at hq
       simp only [cond_true] at hq
       refine ⟨sure_sound hf hsu,fun K Q hK=>?_⟩
       split at hq
       ·rename_i c hop
        split at hq
        ·rename_i f hcal
         split at hq
         ·rename_i vf hvf
          split at hq
          ·rename_i g cs hfn
           split at hq
           ·rename_i fi' l' hfi hl
            cases hb:Nat.ble (l'++cs).length fi'.n with
            | false=>rw [hb] at hq;simp at hq
            | true =>
             rw [hb] at hq
             simp only [cond_true,Option.some.injEq,Prod.mk.injEq] at hq
             obtain ⟨rfl,rfl,rfl⟩:=hq
             obtain ⟨⟨fn,cd,k1,k2,k3,k4,k5,k6⟩,htab,hcall⟩:=hF.look hfi
             subst hP;subst hn
             have hargs0:=evL_sound hf _ hl
             obtain ⟨cl,hcl,hcd⟩:=fnOf_sound (ev_sound hf hvf) hfn
             have hargs:=SV.denL_append _ _ hargs0 hcd
             have hexec:(execOp a.eval o).run E.P w=.ok (.enter g (c.args.toList.map a.eval++cl).toArray) w:=by
              obtain ⟨callee,args,argTypes⟩:=c
              simp only at hcal hl
              subst hcal
              simp only [execOp,hop,resolve,hcl,Deferred.ofValue,Sem.run_bind,Sem.run_pure,Result.andThen,invoke]
              rw [hcall]
              congr 2
              apply Array.ext'
              simp
             unfold Oper.wp
             rw [hexec]
             show Calls _ _ _ _ _
             let R:Ending→World→Prop:=fun e w'=>∃ v N',e=.returned v∧N.le N'∧(resV r).den N'=some v∧Sat E N' s2.rg w'
             let E':Ctx:={ E with n:=fi'.n,Q:=bodyPost E.P fn R,N0:=N,B:=fi'.B }
             have hX:X E' [.code cd] ⟨argFr (l'++cs) 0,s.rg⟩:=by
              rw [←k3]
              refine hsound E' rfl rfl rfl htab (fun _ _ d _ _ h=>by cases d<;>exact h) ?_
              have hres':resL fi'.T s2 fn.results.toList=some r:=by rw [←k5];exact hres
              rcases ht with rfl | ⟨r0,k0,rfl⟩
              ·exact X.fin (E:=E') htab (fn:=fn) (R:=R) rfl hres' (fun N' w' v hN' hS' hv=>⟨v,N',rfl,hN',hv,hS'.env rfl rfl rfl rfl rfl⟩)
              ·intro N' a' w' hN' hf' hS'
               obtain ⟨v,q1,q2⟩:=results_run (E:=E'.toEnv) rfl htab hf' hS' hres'
               exact sem_ret k0 ⟨hf'.defers,v,q2,v,N',rfl,hN',q1,hS'.env rfl rfl rfl rfl rfl⟩
             have hlen:(c.args.toList.map a.eval++cl).toArray.size≤fn.ntmps:=by
              rw [←k4]
              have h1:=(SV.denL_get _ hargs).1
              have h2:=Nat.le_of_ble_eq_true hb
              simp at h1 h2 ⊢;omega
             have:=X.enter (P:=E.P) E' k1 k2 (R:=R) rfl rfl k4 k6 hlen (ss:=l'++cs) (rg:=s.rg) hargs (hS.env rfl rfl rfl rfl rfl) hX
             refine Calls.mono this fun e w' ⟨v,N',hv,hN',hd',hS'⟩=>?_
             subst hv
             exact hK N' v w' hN' (putO_sound (hf.mono hN') hd' hput) hS'
           ·cases hq
          ·cases hq
         ·cases hq
        ·cases hq
       ·cases hq
    ·cases he
   ·cases he
  split at h
  ·rename_i r k s2 ws2 hrun
   exact main hrun (.inr ⟨_,_,rfl⟩) h
  ·rename_i s2 ws2 hrun
   exact main hrun (.inl rfl) h
  ·cases h
 ·cases h
theorem runC_ok {P:Program} {F:FT} (hF:FTok P F) (u:Bool):∀ (m:Nat) (T:Tab) (B:SchT) (n:Nat) (rs:List ResultVar) (ws:List Nat) (t:List It) (s:St) (t':List It) (s':St) (ws':List Nat),runC F u m T B n rs ws t s=(t',s',ws') →
  (∃ ws1,ws'=app ws1 ws∧Keeps ws1 s.rg s'.rg)∧∀ (E:Ctx),E.P=P→E.n=n→E.B=B→TabOk P T→PanicOk E.Q→X E t' s'→X E t s:=by
 have app_assoc:∀ a b c:List Nat,app a (app b c)=app (app a b) c:=by
  intro a b c
  induction a with
  | nil=>rfl
  | cons x a ih=>simp [app,ih]
 have app_nil:∀ a:List Nat,app a []=a:=by
  intro a
  induction a with
  | nil=>rfl
  | cons x a ih=>simp [app,ih]
 intro m
 induction m with
 | zero =>
  intro T B n rs ws t s t' s' ws' h
  simp only [runC,Prod.mk.injEq] at h
  obtain ⟨rfl,rfl,rfl⟩:=h
  exact ⟨⟨[],rfl,Keeps.refl _ _⟩,fun E _ _ _ _ _ h=>h⟩
 | succ m ih =>
  intro T B n rs ws t s t' s' ws' h
  have hrun:RunOk P (fun T B n rs t s=>runC F u m T B n rs [] t s):=by
   intro T B n rs t s t' s' ws' h
   obtain ⟨⟨ws1,h1,h2⟩,h3⟩:=ih T B n rs [] t s t' s' ws' h
   rw [app_nil] at h1;subst h1
   exact ⟨h2,h3⟩
  have same:(t,s,ws)=(t',s',ws')→(∃ ws1,ws'=app ws1 ws∧Keeps ws1 s.rg s'.rg)∧∀ (E:Ctx),E.P=P→E.n=n→E.B=B→TabOk P T→PanicOk E.Q→X E t' s'→X E t s:=by
   intro h
   simp only [Prod.mk.injEq] at h
   obtain ⟨rfl,rfl,rfl⟩:=h
   exact ⟨⟨[],rfl,Keeps.refl _ _⟩,fun E _ _ _ _ _ h=>h⟩
  have next:∀ {w1:List Nat} {t1:List It} {s1:St},runC F u m T B n rs (app w1 ws) t1 s1=(t',s',ws')→Keeps w1 s.rg s1.rg→(∀ (E:Ctx),E.P=P→E.n=n→E.B=B→TabOk P T→PanicOk E.Q→X E t1 s1→X E t s) →
    (∃ ws1,ws'=app ws1 ws∧Keeps ws1 s.rg s'.rg)∧∀ (E:Ctx),E.P=P→E.n=n→E.B=B→TabOk P T→PanicOk E.Q→X E t' s'→X E t s:=by
   intro w1 t1 s1 h hk hx
   obtain ⟨⟨ws1,h1,h2⟩,h3⟩:=ih _ _ _ _ _ _ _ _ _ _ h
   exact ⟨⟨app ws1 w1,by rw [h1,app_assoc],hk.trans h2⟩,fun E e1 e2 e0 e3 e4 e5=>hx E e1 e2 e0 e3 e4 (h3 E e1 e2 e0 e3 e4 e5)⟩
  simp only [runC] at h
  split at h
  ·rename_i t1 s1 ha
   exact next (w1:=wrs t s) h (adv_keeps ha) (fun E e1 e2 e0 e3 e4 e5=>by subst e1;subst e2;subst e0;exact adv_sound e3 ha e5)
  ·split at h
   ·rename_i all i rest k _
    split at h
    ·rename_i s1 ws1 hc
     obtain ⟨h1,o,ho,h2⟩:=callC_ok hF hrun n all _ _ _ _ hc
     refine next h h1 (fun E e1 e2 e0 e3 e4 e5=>?_)
     subst e1;subst e2;subst e0
     intro N a w hN hf hS
     obtain ⟨hw,h3⟩:=h2 E.toEnv N a w rfl rfl hf hS
     show wpOps _ _ _ _ _ _
     simp only [wpOps,ho]
     rw [hw,if_pos rfl]
     exact .inl (h3 _ _ fun N' x w' hN' hf' hS'=>e5 N' _ w' (hN.trans hN') hf' hS')
    ·exact same h
   ·rename_i c k _
    split at h
    ·rename_i id ops d _
     split at h
     ·split at h
      ·rename_i sch hsch
       split at h
       ·rename_i s1 ws1 hd
        have hc:=callC_ok hF hrun n ops
        refine next h (drawnS_keeps hc hd) (fun E e1 e2 e0 e3 e4 e5=>?_)
        subst e1;subst e2;subst e0
        intro N a w hN hf hS
        show _→Code.wp _ _ _ _ _
        intro hreg
        simp only [regsB,hsch] at hreg
        exact drawnS_sound e3 hc hreg hd (e4.sem k) hf hS (fun N' a' w' hN' hf' hS'=>e5 N' a' w' (hN.trans hN') hf' hS')
       ·exact same h
      ·exact same h
     ·exact same h
    ·rename_i c
     split at h
     ·refine next (w1:=[]) h (Keeps.refl _ _) (fun E e1 e2 e0 e3 e4 e5=>?_)
      intro N a w hN hf hS
      intro hreg
      exact wp_unroll (wp_mono (e5 N a w hN hf hS hreg) (fun e a w hq=>by cases e<;>first | exact hq hreg | exact hq))
     ·exact same h
    ·exact same h
   ·rename_i c k _
    refine next (w1:=[]) h (Keeps.refl _ _) (fun E e1 e2 e0 e3 e4 e5=>?_)
    intro N a w hN hf hS
    intro hreg
    exact wpIn_again (wp_mono (e5 N a w hN hf hS hreg) (fun e a w hq=>by cases e<;>first | exact hq hreg | exact hq))
   ·exact same h
abbrev XQ (E:Ctx) (p:List It × St × List Nat):Prop:=X E p.1 p.2.1
theorem X.goC {P:Program} {fn:Func} {R:Ending→World→Prop} {W:World} {O:Nat→Nat→Prop} {im:Nat→Nat→Option Value} {D:Nat→Nat→Prop} {Rr:World→Prop} {N:Nums} {B:SchT} {F:FT} (hF:FTok P F) (u:Bool) {T:Tab} (hT:TabOk P T) (m n:Nat) (hn:fn.ntmps=n) {t:List It} {s:St} {rs:Array ResultVar} (_hrs:fn.results=rs)
  (h:XQ (mkE P fn R W O im D Rr N B) (runC F u m T B n rs.toList [] t s)):X (mkE P fn R W O im D Rr N B) t s :=
 (runC_ok hF u m T B n rs.toList [] t s _ _ _ rfl).2 (mkE P fn R W O im D Rr N B) rfl hn rfl hT (fun _ _ d _ _ h=>by cases d<;>exact h) h
theorem X.go {P:Program} {fn:Func} {R:Ending→World→Prop} {W:World} {O:Nat→Nat→Prop} {im:Nat→Nat→Option Value} {D:Nat→Nat→Prop} {Rr:World→Prop} {N:Nums} {B:SchT} {T:Tab} (hT:TabOk P T) (m n:Nat) (hn:fn.ntmps=n) {t:List It} {s:St} {rs:Array ResultVar} (_hrs:fn.results=rs)
  (h:XQ (mkE P fn R W O im D Rr N B) (runC [] false m T B n rs.toList [] t s)):X (mkE P fn R W O im D Rr N B) t s:=X.goC .nil false hT m n hn _hrs h
def runEnds (T:Tab) (rs:List ResultVar) (p:List It × St × List Nat):Option (List SV) :=
 match p with
 | (.res _::_,s,_)=>resL T s rs
 | ([],s,_)=>resL T s rs
 | _=>none
theorem runR {P:Program} {F:FT} (hF:FTok P F) {g:Nat} {fi:FI} (hg:FOk P g fi) (m:Nat) (u:Bool) (ss:List SV) {args:Array Value} (ha:SV.denL [] ss=some args.toList) (hle:Nat.ble args.size fi.n=true) {l:List SV}
  (h:runEnds fi.T fi.rs (runC F u m fi.T fi.B fi.n fi.rs [] [.code fi.body] ⟨argFr ss 0,[]⟩)=some l) (w:World) :
  Calls P g args w fun e w'=>∃ N v,e=.returned v∧(resV l).den N=some v∧Chg (fun _ _=>False) w w':=by
 obtain ⟨⟨fn,cd,k1,k2,k3,k4,k5,k6⟩,htab,hcall⟩:=hg
 let R:Ending→World→Prop:=fun e w'=>∃ N v,e=.returned v∧(resV l).den N=some v∧Chg (fun _ _=>False) w w'
 let E:Ctx:=std P fn R w [] [] fi.B
 refine X.enter (P:=P) (R:=R) E k1 k2 rfl rfl rfl k6 (by rw [←k4];exact Nat.le_of_ble_eq_true hle) (ss:=ss) (rg:=[]) ha Sat.std0 ?_
 have hrun:∃ t s ws,runC F u m fi.T fi.B fi.n fi.rs [] [.code fi.body] ⟨argFr ss 0,[]⟩=(t,s,ws):=⟨_,_,_,rfl⟩
 obtain ⟨t,s,ws,hr⟩:=hrun
 rw [hr] at h
 rw [k3] at hr
 refine (runC_ok hF u m fi.T fi.B fi.n fi.rs [] _ _ _ _ _ hr).2 E rfl k4.symm rfl htab (fun _ _ d _ _ h=>by cases d<;>exact h) ?_
 have fin:∀ (s:St) (N:Nums) (a:Act) (w':World),resL fi.T s fi.rs=some l→FrOk E.n N s.fr a→Sat E.toEnv N s.rg w'→bodyPost P fn R .ret a w':=by
  intro s N a w' hl hf hS
  rw [k5] at hl
  obtain ⟨v,q1,q2⟩:=results_run (E:=E.toEnv) rfl htab hf hS hl
  exact ⟨hf.defers,v,q2,N,v,rfl,q1,hS.chg.none⟩
 unfold runEnds at h
 split at h
 ·intro N a w' hN hf hS
  rename_i r k s0 ws0 he
  cases he
  exact sem_ret _ (fin _ N a w' h hf hS)
 ·intro N a w' hN hf hS
  rename_i s0 ws0 he
  cases he
  exact fin _ N a w' h hf hS
 ·cases h
section
variable {E:Ctx} {T:Tab} {all:Array Oper} {i:Nat} {rest:List Nat} {k:List It} {s:St} {o:Oper} {f:Fr}
theorem X.conv (h:∀ (N:Nums) (a:Act) (w:World),E.N0.le N→FrOk E.n N s.fr a→Sat E.toEnv N s.rg w→∃ (E':Ctx) (s':St),E'.P=E.P∧E'.n=E.n∧E'.Q=E.Q∧E'.B=E.B∧At E' s' a w∧X E' k s'):X E k s:=by
 intro N a w hN hf hS
 obtain ⟨E',s',e1,e2,e3,e4,⟨N',h1,h2,h3⟩,hx⟩:=h N a w hN hf hS
 have:=hx N' a w h1 h2 h3
 rw [e1,e3,e4] at this
 exact this
@[reducible] def Ctx.withR (E:Ctx) (R':World→Prop):Ctx:={ E with R:=R' }
@[reducible] def Ctx.withDR (E:Ctx) (D':Nat→Nat→Prop) (R':World→Prop):Ctx:={ E with D:=D',R:=R' }
theorem Sat.turn {E:Env} {N:Nums} {rg:List Rg} {w w':World} {D':Nat→Nat→Prop} {R':World→Prop} (h:Sat E N rg w) (hc:Chg E.D w w') (hO:∀ k o,E.D k o→E.W.heap.size≤k∨E.O k o) (him:∀ k o,E.D k o→E.im k o=none)
  (hrg:∀ g∈rg,g.own=true∨g.cells=[]) (hD:∀ k o,D' k o→(E.D k o∨w.heap.size≤k)∧There w' k o) (hl:Loc D' R') (hR:R' w'):Sat { E with D:=D',R:=R' } N rg w':=by
 refine h.after (rg':=rg) (m':=E.im) hc (fun k o _ hd=>.inr ⟨hd,hO k o hd⟩) ⟨fun _ _ _ h=>h,fun k o v hv=>?_,fun _ _ _ h=>.inl h⟩ hD hl hR rfl (fun r g g' p hg hg' hp=>?_)
 ·refine cell_of_chg hc (fun hd=>?_) (h.imm k o v hv)
  rw [him k o hd] at hv;cases hv
 ·rw [hg] at hg';cases hg'
  refine ⟨rfl,rfl,fun _=>rfl,fun ho=>h.ext r g p hg hp ho,.inl ⟨rfl,fun j hj=>?_⟩⟩
  rcases hrg g (List.mem_of_getElem? hg) with ho | ho
  ·exact h.dd r g p hg hp ho j (Nat.lt_of_lt_of_le hj (h.ext r g p hg hp ho))
  ·rw [ho] at hj;simp at hj
theorem Sat.focus {E:Env} {N:Nums} {rg:List Rg} {w:World} (h:Sat E N rg w) {b o:Nat} {cs:List SV} (D':Nat→Nat→Prop) (R':World→Prop) (hb:b<w.heap.size)
  (hcs:∀ (j:Nat) (c:SV),cs[j]?=some c→∃ v,c.den N=some v∧w.cell? ⟨b,o+j,none⟩=some v) (hfz:∀ j,j<cs.length→w.frozen? ⟨b,o+j,none⟩=false)
  (hD:∀ j,j<cs.length→E.D b (o+j)) (hD':∀ k i,D' k i→E.D k i∧¬(k=b∧o≤i∧i<o+cs.length)) (hO:E.W.heap.size≤b∨∀ j,j<cs.length→E.O b (o+j)) (him:∀ j,j<cs.length→E.im b (o+j)=none)
  (hrg:∀ g∈rg,g.own=true∨g.cells=[]) (hl:Loc D' R') (hR:R' w):Sat { E with D:=D',R:=R' } (N++[⟨b,o,cs.length⟩]) (rg++[⟨true,cs,none⟩]) w:=by
 have hle:N.le (N++[⟨b,o,cs.length⟩]):=Nums.le_append _ _
 refine ⟨by simp [h.len],?_,?_,?_,?_,?_,?_,?_,h.imm,?_,?_,fun k i hk=>h.dlt k i (hD' k i hk).1,hl,hR,h.chg,?_⟩
 ·intro i q hq
  rcases Nat.lt_or_ge i N.length with hi | hi
  ·rw [List.getElem?_append_left hi] at hq;exact h.lt i q hq
  ·rw [List.getElem?_append_right hi] at hq
   have hz:i-N.length=0:=by
    have:=(List.getElem?_eq_some_iff.1 hq).1
    simp at this;omega
   rw [hz] at hq;simp at hq;subst hq;exact hb
 ·intro i x q hx hq j d hj
  rcases get_snoc h.len hx hq with ⟨a,b⟩ | ⟨_,rfl,rfl⟩
  ·obtain ⟨v,h1,h2⟩:=h.cell i x q a b j d hj
   exact ⟨v,SV.den_mono hle d h1,h2⟩
  ·obtain ⟨v,h1,h2⟩:=hcs j d hj
   exact ⟨v,SV.den_mono hle d h1,h2⟩
 ·intro i x q hx hq hox
  rcases get_snoc h.len hx hq with ⟨a,b⟩ | ⟨_,rfl,rfl⟩
  ·exact h.ext i x q a b hox
  ·exact Nat.le_refl _
 ·intro i x q hx hq hox
  rcases get_snoc h.len hx hq with ⟨a,b⟩ | ⟨_,rfl,rfl⟩
  ·exact h.room i x q a b hox
  ·exact fun j hj=>⟨by
    obtain ⟨c,hcj⟩:∃ c,cs[j]?=some c:=⟨_,List.getElem?_eq_getElem hj⟩
    obtain ⟨v,_,hv⟩:=hcs j c hcj
    rw [hv];rfl,hfz j hj⟩
 ·intro i i' x x' q q' hx hq hx' hq' hox hne j hj hb
  rcases get_snoc h.len hx hq with ⟨a1,a2⟩ | ⟨a0,rfl,rfl⟩<;>rcases get_snoc h.len hx' hq' with ⟨b1,b2⟩ | ⟨b0,rfl,rfl⟩
  ·exact h.disj i i' x x' q q' a1 a2 b1 b2 hox hne j hj hb
  ·simp [Rg.wid] at hj hb ⊢
   have h1:=hD j hj
   rcases Nat.lt_or_ge (o+j) q.o with h2 | h2
   ·exact .inl h2
   ·right
    rcases Nat.lt_or_ge (o+j) (q.o+q.x) with h3 | h3
    ·exfalso
     have:=h.dd i x q a1 a2 hox (o+j-q.o) (by omega)
     rw [←hb,show q.o+(o+j-q.o)=o+j by omega] at this
     exact this h1
    ·exact h3
  ·simp at hb ⊢
   rcases hrg x' (List.mem_of_getElem? b1) with ho' | ho'
   ·unfold Rg.wid at hj
    rw [ho'] at hj
    simp only [cond_true] at hj
    have h4:=h.dd i' x' q' b1 b2 ho' j hj
    rw [hb] at h4
    rcases Nat.lt_or_ge (q'.o+j) o with h2 | h2
    ·exact .inl h2
    ·right
     rcases Nat.lt_or_ge (q'.o+j) (o+cs.length) with h3 | h3
     ·exfalso
      have h1:=hD (q'.o+j-o) (by omega)
      rw [show o+(q'.o+j-o)=q'.o+j by omega] at h1
      exact h4 h1
     ·exact h3
   ·unfold Rg.wid at hj
    rw [ho'] at hj
    cases hxo:x'.own with
    | false=>rw [hxo] at hj;simp at hj
    | true =>
     rw [hxo] at hj
     simp only [cond_true] at hj
     have h4:=h.dd i' x' q' b1 b2 hxo j hj
     rw [hb] at h4
     rcases Nat.lt_or_ge (q'.o+j) o with h2 | h2
     ·exact .inl h2
     ·right
      rcases Nat.lt_or_ge (q'.o+j) (o+cs.length) with h3 | h3
      ·exfalso
       have h1:=hD (q'.o+j-o) (by omega)
       rw [show o+(q'.o+j-o)=q'.o+j by omega] at h1
       exact h4 h1
      ·exact h3
  ·omega
 ·intro i x q ob hx hq hxo
  rcases get_snoc h.len hx hq with ⟨a,b⟩ | ⟨_,rfl,rfl⟩
  ·obtain ⟨⟨o',k1,k2⟩,k3⟩:=h.obj i x q ob a b hxo
   exact ⟨⟨o',Ob.den_mono hle ob k1,k2⟩,k3.1,fun o hd=>k3.2 o (hD' _ _ hd).1⟩
  ·simp at hxo
 ·intro i i' x x' q q' hx hq hx' hq' hox hox' hne
  rcases get_snoc h.len hx hq with ⟨a1,a2⟩ | ⟨a0,rfl,rfl⟩
  ·rcases get_snoc h.len hx' hq' with ⟨b1,b2⟩ | ⟨b0,rfl,rfl⟩
   ·exact h.odisj i i' x x' q q' a1 a2 b1 b2 hox hox' hne
   ·simp at hox'
  ·simp at hox
 ·intro i x q hx hq hox
  rcases get_snoc h.len hx hq with ⟨a,b⟩ | ⟨_,rfl,rfl⟩
  ·exact h.imd i x q a b hox
  ·exact him
 ·intro i x q hx hq hox j hj hd
  rcases get_snoc h.len hx hq with ⟨a,b⟩ | ⟨_,rfl,rfl⟩
  ·exact h.dd i x q a b hox j hj (hD' _ _ hd).1
  ·exact (hD' _ _ hd).2 ⟨rfl,by simp,by simp at hj ⊢;omega⟩
 ·intro i x q hx hq hox
  rcases get_snoc h.len hx hq with ⟨a,b⟩ | ⟨_,rfl,rfl⟩
  ·exact h.foot i x q a b hox
  ·exact hO
theorem Sat.give {E:Env} {N:Nums} {rg:List Rg} {w:World} (h:Sat E N rg w) {r:Nat} {g:Rg} {p:Num} (hg:rg[r]?=some g) (hp:N[r]?=some p) (ho:g.own=true) (D':Nat→Nat→Prop) (R':World→Prop)
  (hD':∀ k i,D' k i→E.D k i∨(k=p.b∧p.o≤i∧i<p.o+p.x)) (hl:Loc D' R') (hR:R' w):Sat { E with D:=D',R:=R' } N (rg.set r ⟨false,[],none⟩) w:=by
 have hrl:r<rg.length:=(List.getElem?_eq_some_iff.1 hg).1
 have hr:=h.retire hrl
 refine { hr with dd:=?_,dlt:=?_,obj:=?_,loc:=hl,res:=hR }
 ·intro i x q ob hx hq hxo
  rcases get_set hrl hx with ⟨rfl,rfl⟩ | ⟨hi,hx⟩
  ·cases hxo
  ·obtain ⟨⟨o',k1,k2⟩,k3⟩:=h.obj i x q ob hx hq hxo
   refine ⟨⟨o',k1,k2⟩,k3.1,fun o hd=>?_⟩
   rcases hD' _ _ hd with hd | ⟨e1,e2,e3⟩
   ·exact k3.2 o hd
   ·have:=(h.room r g p hg hp ho (o-p.o) (by omega)).1
    rw [←e1] at this
    unfold World.cell? at this
    simp only [k2] at this
    cases ob<;>simp only [Ob.den] at k1<;>split at k1<;>first | (cases k1;done) | (cases k1;simp at this)
 ·intro i x q hx hq hox j hj hd
  rcases get_set hrl hx with ⟨rfl,rfl⟩ | ⟨hi,hx⟩
  ·simp at hox
  ·rcases hD' _ _ hd with hd | ⟨e1,e2,e3⟩
   ·exact h.dd i x q hx hq hox j hj hd
   ·have:=h.disj i r x g q p hx hq hg hp hox hi (q.o+j-p.o) (by simp [Rg.wid,ho];omega) e1.symm
    omega
 ·intro k i hk
  rcases hD' k i hk with hd | ⟨rfl,e2,e3⟩
  ·exact h.dlt k i hd
  ·have:=(h.room r g p hg hp ho (i-p.o) (by omega)).1
   rw [show p.o+(i-p.o)=i by omega] at this
   exact .inl this
end
theorem Goes.turn {E:Ctx} {N:Nums} {k:List It} {s:St} {d:Option Nat} {v:Value} {w w':World} (D':Nat→Nat→Prop) (R':World→Prop) (hN:E.N0.le N) (h:Sat E.toEnv N s.rg w) (hc:Chg E.D w w') (hO:∀ k o,E.D k o→E.W.heap.size≤k∨E.O k o) (him:∀ k o,E.D k o→E.im k o=none)
  (hrg:∀ g∈s.rg,g.own=true∨g.cells=[]) (hD:∀ k o,D' k o→(E.D k o∨w.heap.size≤k)∧There w' k o) (hl:Loc D' R') (hR:R' w') {r:SV} (hr:r.den N=some v) {f':Fr} (hp:putO E.n s.fr d (.val r)=some f') (hx:X (E.withDR D' R') k ⟨f',s.rg⟩):Goes E N k s.fr d v w' :=
 ⟨E.withDR D' R',N,r,s.rg,f',rfl,rfl,rfl,rfl,Nums.le.refl N,hN,h.turn hc hO him hrg hD hl hR,hr,hp,hx⟩
open Classical in
noncomputable def outside (D:Nat→Nat→Prop) (w:World):Nat→Nat→Option Value:=fun k o=>if D k o then none else w.cell? ⟨k,o,none⟩
theorem outside_in {D:Nat→Nat→Prop} {w:World} {k o:Nat} (h:D k o):outside D w k o=none:=by simp [outside,h]
theorem outside_out {D:Nat→Nat→Prop} {w:World} {k o:Nat} (h:¬D k o):outside D w k o=w.cell? ⟨k,o,none⟩:=by simp [outside,h]
def ArrAt (b y sz n:Nat) (f:Nat→List Value) (w:World):Prop :=
 ∀ s,s<n→(f s).length=sz∧∀ (q:Nat) (v:Value),(f s)[q]?=some v→w.cell? ⟨b,y+(s*sz+q),none⟩=some v∧w.frozen? ⟨b,y+(s*sz+q),none⟩=false
def ArrBut (b y sz n i:Nat) (f:Nat→List Value) (w:World):Prop :=
 ∀ s,s<n→s≠i→(f s).length=sz∧∀ (q:Nat) (v:Value),(f s)[q]?=some v→w.cell? ⟨b,y+(s*sz+q),none⟩=some v∧w.frozen? ⟨b,y+(s*sz+q),none⟩=false
def arrD (b y m:Nat):Nat→Nat→Prop:=fun k o=>k=b∧y≤o∧o<y+m
def arrDBut (b y m i sz:Nat):Nat→Nat→Prop:=fun k o=>k=b∧y≤o∧o<y+m∧¬(y+i*sz≤o∧o<y+i*sz+sz)
theorem idx_lt {s n sz q:Nat} (hs:s<n) (hq:q<sz):s*sz+q<n*sz:=by
 have:(s+1)*sz≤n*sz:=Nat.mul_le_mul_right _ hs
 rw [Nat.add_mul,Nat.one_mul] at this
 omega
theorem idx_apart {s i sz q:Nat} (hs:s≠i) (hq:q<sz):¬(i*sz≤s*sz+q∧s*sz+q<i*sz+sz):=by
 rintro ⟨h1,h2⟩
 rcases Nat.lt_or_ge s i with h | h
 ·have:(s+1)*sz≤i*sz:=Nat.mul_le_mul_right _ h
  rw [Nat.add_mul,Nat.one_mul] at this
  omega
 ·have h':i<s:=by omega
  have:(i+1)*sz≤s*sz:=Nat.mul_le_mul_right _ h'
  rw [Nat.add_mul,Nat.one_mul] at this
  omega
theorem ArrAt.loc {b y sz n:Nat} {f:Nat→List Value}:Loc (arrD b y (n*sz)) (ArrAt b y sz n f):=by
 refine Loc.cells fun w w' hk _ h s hs=>?_
 obtain ⟨h1,h2⟩:=h s hs
 refine ⟨h1,fun q v hq=>?_⟩
 have hlt:q<sz:=by rw [←h1];exact (List.getElem?_eq_some_iff.1 hq).1
 have hi:=idx_lt (sz:=sz) hs hlt
 obtain ⟨e1,e2⟩:=hk b (y+(s*sz+q)) ⟨rfl,by omega,by omega⟩
 rw [e1,e2]
 exact h2 q v hq
theorem ArrBut.loc {b y sz n i:Nat} {f:Nat→List Value}:Loc (arrDBut b y (n*sz) i sz) (ArrBut b y sz n i f):=by
 refine Loc.cells fun w w' hk _ h s hs hne=>?_
 obtain ⟨h1,h2⟩:=h s hs hne
 refine ⟨h1,fun q v hq=>?_⟩
 have hlt:q<sz:=by rw [←h1];exact (List.getElem?_eq_some_iff.1 hq).1
 have hi:=idx_lt (sz:=sz) hs hlt
 have ha:=idx_apart (sz:=sz) hne hlt
 obtain ⟨e1,e2⟩:=hk b (y+(s*sz+q)) ⟨rfl,by omega,by omega,by omega⟩
 rw [e1,e2]
 exact h2 q v hq
theorem ArrAt.cells {b y sz n:Nat} {f:Nat→List Value} {w:World} (h:ArrAt b y sz n f w) {i:Nat} (hi:i<n) {cs:List SV} (hd:SV.denL [] cs=some (f i)) {N:Nums}:∀ (j:Nat) (c:SV),cs[j]?=some c→∃ v,c.den N=some v∧w.cell? ⟨b,y+i*sz+j,none⟩=some v:=fun j c hj=>by
 obtain ⟨v,h1,h2⟩:=(SV.denL_get _ hd).2 j c hj
 exact ⟨v,SV.den_mono (N:=[]) (N':=N) (fun r p h=>by simp at h) c h1,by rw [Nat.add_assoc];exact ((h i hi).2 j v h2).1⟩
def flatL {α:Type} (f:Nat→List α):Nat→List α
 | 0=>[]
 | n+1=>flatL f n++f n
section
variable {E:Ctx} {all:Array Oper} {i:Nat} {rest:List Nat} {k:List It} {s:St} {o:Oper}
theorem X.bare (ho:nth all.toList i=some o) (hs:sure all s.fr o=true) (h:X E (.ops #[{ o with guard:=none }] [0]::.ops all rest::k) s):X E (.ops all (i::rest)::k) s:=by
 intro N a w hN hfr hS
 show wpOps _ _ _ _ _ _
 have ho':all[i]?=some o:=by rw [nth_eq] at ho;simpa using ho
 simp only [wpOps,ho',sure_sound hfr hs,if_true]
 have h1:=h N a w hN hfr hS
 have h2:wpOps E.P #[{ o with guard:=none }] (sem E.P E.B (.ops all rest::k) E.Q) [0] a w:=h1
 simp only [wpOps,List.getElem?_toArray,List.getElem?_cons_zero,Region.wanted,if_true] at h2
 rcases h2 with h2 | h2
 ·exact .inl h2
 ·exact .inr h2
def FV.lit (t:Nat) (b:Bool):FV→FV
 | .opt j w v=>bif Nat.beq j t then (bif w == b then .val v else .val (.tup [])) else .opt j w v
 | e=>e
def litF (t:Nat) (b:Bool):Fr→Fr
 | []=>[]
 | (k,v)::r=>(k,bif Nat.beq k t then .val (.bool (.lit b)) else v.lit t b)::litF t b r
theorem look_litF (t:Nat) (b:Bool) (t':Nat):∀ f:Fr,(t'=t→look (litF t b f) t'=.dead∨look (litF t b f) t'=.val (.bool (.lit b)))∧(t'≠t→look (litF t b f) t'=(look f t').lit t b)
 | []=>⟨fun _=>.inl rfl,fun _=>rfl⟩
 | (k,v)::r=>by
  obtain ⟨h1,h2⟩:=look_litF t b t' r
  simp only [litF,look]
  by_cases hk:k=t'
  ·subst hk
   simp only [Nat.beq_refl,cond_true]
   refine ⟨fun e=>?_,fun e=>?_⟩
   ·subst e;simp
   ·simp only [beq_ne e,cond_false]
  ·simp only [beq_ne hk,cond_false]
   exact ⟨h1,h2⟩
theorem X.lit (t:Nat) {b:SB} (hl:look s.fr t=.val (.bool b)) (ht:b.T→X E k ⟨litF t true s.fr,s.rg⟩) (hf:b.F→X E k ⟨litF t false s.fr,s.rg⟩):X E k s:=by
 intro N a w hN hfr hS
 have hok:=hfr.ok t
 rw [hl] at hok
 obtain ⟨x,h1,h2⟩:=hok
 simp only [SV.den,Option.some.injEq] at h1
 have same:∀ c:Bool,b.den=c→FrOk E.n N (litF t c s.fr) a:=fun c hc=>by
  rw [←h1,hc] at h2
  refine ⟨hfr.size,hfr.defers,fun t'=>?_⟩
  obtain ⟨k1,k2⟩:=look_litF t c t' s.fr
  by_cases e:t'=t
  ·subst e
   rcases k1 rfl with q | q<;>rw [q]
   ·trivial
   ·exact ⟨_,rfl,h2⟩
  ·rw [k2 e]
   have:=hfr.ok t'
   cases hv:look s.fr t' with
   | val v=>rw [hv] at this;exact this
   | dead=>trivial
   | opt j w v =>
    rw [hv] at this
    simp only [FV.lit]
    cases hj:Nat.beq j t with
    | false=>exact this
    | true =>
     have hj:=Nat.eq_of_beq_eq_true hj
     subst hj
     obtain ⟨q1,q2⟩:=this
     simp only [cond_true]
     cases hw:(w == c) with
     | true =>
      have hw:w=c:=by simpa using hw
      subst hw
      exact q1 h2
     | false =>
      refine ⟨undef,rfl,q2 (fun h=>?_)⟩
      rw [h2] at h
      simp only [Option.some.injEq,Value.bool.injEq] at h
      subst h;simp at hw
 cases hb:b.den with
 | true=>exact ht (b.TF.1.1 hb) N a w hN (same _ hb) hS
 | false=>exact hf (b.TF.2.1 hb) N a w hN (same _ hb) hS
end
abbrev Orac:=List Rg→Nat→Fr→Option (Fr × Prop)
def OracOk (P:Program) (n:Nat) (all:Array Oper) (N0:Nums) (oq:Orac):Prop :=
 ∀ (rg:List Rg) (i:Nat) (f f':Fr) (p:Prop) (N:Nums) (a:Act) (w0:World) (o:Oper),all[i]?=some o→oq rg i f=some (f',p)→p→N0.le N→FrOk n N f a→Vis N rg w0 →
  ∃ v,((Region.wanted o (yielded all a.tmps)=true∧∀ w,Vis N rg w→(execOp a.eval o).run P w=.ok (.value v) w)∨(Region.wanted o (yielded all a.tmps)=false∧v=undef))∧FrOk n N f' (a.put o.dst v)
abbrev CallerP:=Nat→St→Option (St × List Nat × Prop)
def CallerPOk (P:Program) (n:Nat) (all:Array Oper) (Rr:World→Prop) (im:Nat→Nat→Option Value) (call:CallerP):Prop :=
 ∀ i s s' ws (p:Prop),call i s=some (s',ws,p)→p→Keeps ws s.rg s'.rg∧∃ o,all[i]?=some o∧∀ (E:Env) (N:Nums) (a:Act) (w:World),E.P=P→E.n=n→E.R=Rr→E.im=im→FrOk n N s.fr a→Sat E N s.rg w→Region.wanted o (yielded all a.tmps)=true ∧
  ∀ (K:Act→World→Prop) (Q:Exit→Act→World→Prop),(∀ N' x w',N.le N'→FrOk n N' s'.fr (a.put o.dst x)→Sat E N' s'.rg w'→K (a.put o.dst x) w')→o.wp P a w K Q
def anyO (oq:Orac) (T:Tab) (n:Nat) (all:Array Oper) (K:KW) (rg:List Rg) (call:CallerP) (fin:St→Prop):Sch→St→Prop
 | [],s=>fin s
 | (i,some blk)::r,s=>quietK K i=true ∧
   match oq (maskRg (flatK (memB blk) K) rg 0) i s.fr with
   | some (f,p)=>p∧anyO oq T n all K rg call fin r ⟨f,s.rg⟩
   | none=>False
 | (i,none)::r,s=>match oq s.rg i s.fr with
  | some (f,p)=>p∧anyO oq T n all K rg call fin r ⟨f,s.rg⟩
  | none=>match opE T n all i s with
   | some s'=>(match stR s.fr all i with | some k=>memN (lookK K i) k | none=>true)=true∧anyO oq T n all K rg call fin r s'
   | none=>match call i s with
    | some (s',ws,p)=>p∧allN (lookK K i) ws=true∧anyO oq T n all K rg call fin r s'
    | none=>False
def dryO (oq:Orac) (T:Tab) (n:Nat) (all:Array Oper) (call:CallerP):Sch→St→KW
 | [],_=>[]
 | (i,_)::r,s =>
  match oq s.rg i s.fr with
  | some (f,_)=>dryO oq T n all call r ⟨f,s.rg⟩
  | none=>match opE T n all i s with
   | some s'=>match stR s.fr all i with
    | some k=>(i,[k])::dryO oq T n all call r s'
    | none=>dryO oq T n all call r s'
   | none=>match call i s with
    | some (s',ws,_)=>(i,ws)::dryO oq T n all call r s'
    | none=>[]
def oracQ (ora:Nat→Fr→Option (Fr × Prop)) (T:Tab) (n:Nat) (all:Array Oper):Orac:=fun rg i f =>
 match ora i f with
 | some f'=>some f'
 | none=>match opQ T n all rg i f with
  | some f'=>some (f',True)
  | none=>none
theorem oracQ_ok {P:Program} {T:Tab} (hT:TabOk P T) {n:Nat} {all:Array Oper} {N0:Nums} {ora:Nat→Fr→Option (Fr × Prop)} (h:OracOk P n all N0 (fun _=>ora)):OracOk P n all N0 (oracQ ora T n all):=by
 intro rg i f f' p N a w0 o ho hq hp hN hf hv
 unfold oracQ at hq
 split at hq
 ·rename_i q hq'
  simp only [Option.some.injEq] at hq;subst hq
  exact h rg i f _ p N a w0 o ho hq' hp hN hf hv
 ·split at hq
  ·simp only [Option.some.injEq,Prod.mk.injEq] at hq
   obtain ⟨rfl,rfl⟩:=hq
   exact opQ_sound hT ho ‹_› hf hv
  ·cases hq
def noCall:CallerP:=fun _ _=>none
theorem noCall_ok {P:Program} {n:Nat} {all:Array Oper} {Rr:World→Prop} {im:Nat→Nat→Option Value}:CallerPOk P n all Rr im noCall:=fun _ _ _ _ _ h=>by cases h
structure IdxO where
 (j x ix d:Nat) (r:SV)
def IdxO.ok (ops:Array Oper) (t:TypeId) (q:IdxO):Bool:=match nth ops.toList q.j with
 | some o=>(match o.guard with | none=>true | some _=>false)&&(match o.op with | .indexAddr t' (.tmp x) (.tmp ix)=>Nat.beq t' t&&(Nat.beq x q.x&&Nat.beq ix q.ix) | _=>false)&&decide (o.dst=some q.d)
 | none=>false
section
variable {E:Ctx} {all:Array Oper} {i:Nat} {rest:List Nat} {k:List It} {s:St} {o:Oper}
theorem Sat.see {E:Env} {N:Nums} {rg:List Rg} {w:World} (h:Sat E N rg w) {b o:Nat} {cs:List SV} (hb:b<w.heap.size) (hcs:∀ (j:Nat) (c:SV),cs[j]?=some c→∃ v,c.den N=some v∧E.im b (o+j)=some v) :
  Sat E (N++[⟨b,o,0⟩]) (rg++[⟨false,cs,none⟩]) w:=by
 have hle:N.le (N++[⟨b,o,0⟩]):=Nums.le_append _ _
 refine ⟨by simp [h.len],?_,?_,?_,?_,?_,?_,?_,h.imm,?_,?_,h.dlt,h.loc,h.res,h.chg,?_⟩
 ·intro i q hq
  rcases Nat.lt_or_ge i N.length with hi | hi
  ·rw [List.getElem?_append_left hi] at hq;exact h.lt i q hq
  ·rw [List.getElem?_append_right hi] at hq
   have hz:i-N.length=0:=by
    have:=(List.getElem?_eq_some_iff.1 hq).1
    simp at this;omega
   rw [hz] at hq;simp at hq;subst hq;exact hb
 ·intro i x q hx hq j d hj
  rcases get_snoc h.len hx hq with ⟨a,b⟩ | ⟨_,rfl,rfl⟩
  ·obtain ⟨v,h1,h2⟩:=h.cell i x q a b j d hj
   exact ⟨v,SV.den_mono hle d h1,h2⟩
  ·obtain ⟨v,h1,h2⟩:=hcs j d hj
   exact ⟨v,SV.den_mono hle d h1,h.imm _ _ _ h2⟩
 ·intro i x q hx hq hox
  rcases get_snoc h.len hx hq with ⟨a,b⟩ | ⟨_,rfl,rfl⟩
  ·exact h.ext i x q a b hox
  ·simp at hox
 ·intro i x q hx hq hox
  rcases get_snoc h.len hx hq with ⟨a,b⟩ | ⟨_,rfl,rfl⟩
  ·exact h.room i x q a b hox
  ·simp at hox
 ·intro i i' x x' q q' hx hq hx' hq' hox hne j hj hb
  rcases get_snoc h.len hx hq with ⟨a1,a2⟩ | ⟨a0,rfl,rfl⟩
  ·rcases get_snoc h.len hx' hq' with ⟨b1,b2⟩ | ⟨b0,rfl,rfl⟩
   ·exact h.disj i i' x x' q q' a1 a2 b1 b2 hox hne j hj hb
   ·simp [Rg.wid] at hj hb ⊢
    obtain ⟨c,hc⟩:∃ c,cs[j]?=some c:=⟨_,List.getElem?_eq_getElem hj⟩
    obtain ⟨v,_,h2⟩:=hcs j c hc
    rcases Nat.lt_or_ge (o+j) q.o with h3 | h3
    ·exact .inl h3
    ·right
     rcases Nat.lt_or_ge (o+j) (q.o+q.x) with h4 | h4
     ·exfalso
      have:=h.imd i x q a1 a2 hox (o+j-q.o) (by omega)
      rw [←hb,show q.o+(o+j-q.o)=o+j by omega,h2] at this
      cases this
     ·exact h4
  ·simp at hox
 ·intro i x q ob hx hq hxo
  rcases get_snoc h.len hx hq with ⟨a,b⟩ | ⟨_,rfl,rfl⟩
  ·obtain ⟨⟨o',k1,k2⟩,k3⟩:=h.obj i x q ob a b hxo
   exact ⟨⟨o',Ob.den_mono hle ob k1,k2⟩,k3⟩
  ·simp at hxo
 ·intro i i' x x' q q' hx hq hx' hq' hox hox' hne
  rcases get_snoc h.len hx hq with ⟨a1,a2⟩ | ⟨a0,rfl,rfl⟩
  ·rcases get_snoc h.len hx' hq' with ⟨b1,b2⟩ | ⟨b0,rfl,rfl⟩
   ·exact h.odisj i i' x x' q q' a1 a2 b1 b2 hox hox' hne
   ·simp at hox'
  ·simp at hox
 ·intro i x q hx hq hox
  rcases get_snoc h.len hx hq with ⟨a,b⟩ | ⟨_,rfl,rfl⟩
  ·exact h.imd i x q a b hox
  ·simp at hox
 ·intro i x q hx hq hox j hj hd
  rcases get_snoc h.len hx hq with ⟨a,b⟩ | ⟨_,rfl,rfl⟩
  ·exact h.dd i x q a b hox j hj hd
  ·simp at hox
 ·intro i x q hx hq hox
  rcases get_snoc h.len hx hq with ⟨a,b⟩ | ⟨_,rfl,rfl⟩
  ·exact h.foot i x q a b hox
  ·simp at hox
theorem X.see {E:Ctx} {k:List It} {s:St} (b o:Nat) (cs:List SV) (hcs:∀ (j:Nat) (c:SV),cs[j]?=some c→∃ v,c.den []=some v∧E.im b (o+j)=some v) (hne:0<cs.length)
  (h:∀ N:Nums,E.N0.le N→N.length=s.rg.length→X { E with N0:=N++[⟨b,o,0⟩] } k ⟨s.fr,s.rg++[⟨false,cs,none⟩]⟩):X E k s:=by
 refine X.conv fun N a w hN hf hS=>?_
 refine ⟨{ E with N0:=N++[⟨b,o,0⟩] },⟨s.fr,s.rg++[⟨false,cs,none⟩]⟩,rfl,rfl,rfl,rfl,⟨_,Nums.le.refl _,hf.mono (Nums.le_append _ _),?_⟩,h N hN hS.len⟩
 have hb:b<w.heap.size:=by
  obtain ⟨c0,hc0⟩:∃ c,cs[0]?=some c:=⟨_,List.getElem?_eq_getElem hne⟩
  obtain ⟨v,_,hv⟩:=hcs 0 c0 hc0
  exact World.block_lt_of_cell? _ _ (hS.imm _ _ _ hv)
 refine Sat.see (E:=E.toEnv) hS hb fun j c hj=>?_
 obtain ⟨v,h1,h2⟩:=hcs j c hj
 exact ⟨v,SV.den_mono (N:=[]) (N':=N) (fun r p h=>by simp at h) c h1,h2⟩
structure OpEq (T:Tab) (n:Nat) (all:Array Oper) (i:Nat) (s s1:St):Prop where
 eq:opE T n all i s=some s1
theorem X.opEq {T:Tab} (hT:TabOk E.P T) {s1:St} (h:OpEq T E.n all i s s1) (hk:X E (.ops all rest::k) s1):X E (.ops all (i::rest)::k) s:=by
 intro N a w hN hfr hS
 show wpOps _ _ _ _ _ _
 have hoi:∃ o,all[i]?=some o:=by
  cases ho:all[i]? with
  | some o=>exact ⟨o,rfl⟩
  | none=>have:=h.eq;unfold opE at this;rw [nth_eq] at this;simp [ho] at this
 obtain ⟨o,ho⟩:=hoi
 obtain ⟨hw,N',x,w',h1,h2,h3,h4⟩:=opE_sound hT ho h.eq hfr hS
 simp only [wpOps,ho,hw,if_true]
 exact .inl (wp_of_yields h2 (hk N' _ w' (hN.trans h1) h3 h4))
end
theorem opE_append {T:Tab} {n:Nat} {all:Array Oper} {i:Nat} {s:St} {o:Oper} {x y:Operand} {ts tx e m:Nat} {ti te:TI} {sx sy r:SV} {new:List SV} {rg':List Rg} {f:Fr} (ho:nth all.toList i=some o) (hg:sure all s.fr o=true)
  (hop:o.op=.call { callee:=.builtin .append,args:=#[x,y],argTypes:=#[ts,tx] }) (hx:ev s.fr x=some sx) (hy:ev s.fr y=some sy) (hti:lookT T ts=some ti) (hk:ti.kind=.slice e) (hte:lookT T e=some te)
  (hsrc:appSrc T s.rg te sy tx=some (new,m)) (happ:appV s.rg te sx new m=some (r,rg')) (hp:putO n s.fr o.dst (.val r)=some f):OpEq T n all i s ⟨f,rg'⟩:=by
 refine ⟨?_⟩
 unfold opE
 simp only [ho,hg,cond_true,hop,stepE,hx,hy,hti,hk,hte,hsrc,happ,hp]
theorem appOk_ok {te:TI} {new:List SV} {n m:Nat} (h0:0<te.size) (h1:te.zero.length=te.size) (h2:new.length=m*te.size) (h3:new.all SV.one=true) (h4:(2*(n+m)+256)*te.bytes≤281474976710656) (h5:n+m≤1099511627776):appV.appOk te new n m=true:=by
 unfold appV.appOk
 simp [h0,h1,h2,h3,h4,h5]
theorem appV_hid {rg:List Rg} {te:TI} {r n m:Nat} {cs new:List SV} (hr:nth rg r=some ⟨true,cs,none⟩) (hcs:cs.length=n*te.size) (hm:m≠0) (hok:appV.appOk te new n m=true) :
  appV rg te (.osl r 0 n te.size none) new m=some (.osl rg.length 0 (n+m) te.size none,rg.set r ⟨false,[],none⟩++[⟨true,cs++new,none⟩]):=by
 have e1:Nat.beq m 0=false:=by cases h:Nat.beq m 0 with | false=>rfl | true=>exact absurd (Nat.eq_of_beq_eq_true h) hm
 have e2:Nat.ble (0+n*te.size) cs.length=true:=by rw [hcs];exact Nat.ble_eq_true_of_le (by omega)
 have e3:Nat.beq te.size te.size=true:=Nat.beq_refl _
 simp only [appV,hr,hok,e1,e2,e3,Bool.and_self,cond_true,cond_false,List.drop_zero]
 rw [←hcs,List.take_length]
theorem appV_nil {rg:List Rg} {te:TI} {m:Nat} {new:List SV} (hm:m≠0) (hok:appV.appOk te new 0 m=true) :
  appV rg te (.raw (.slice none 0 0)) new m=some (.osl rg.length 0 m te.size none,rg++[⟨true,new,none⟩]):=by
 have e1:Nat.beq m 0=false:=by cases h:Nat.beq m 0 with | false=>rfl | true=>exact absurd (Nat.eq_of_beq_eq_true h) hm
 simp only [appV,hok,e1,cond_true,cond_false]
theorem appV_new {rg:List Rg} {te:TI} {r m:Nat} {g:Rg} {new:List SV} (hr:nth rg r=some g) (hm:m≠0) (hok:appV.appOk te new 0 m=true) :
  appV rg te (.osl r 0 0 te.size (some 0)) new m=some (.osl rg.length 0 m te.size none,rg++[⟨true,new,none⟩]):=by
 have e1:Nat.ble (0+m) 0=false:=by
  cases h:Nat.ble (0+m) 0 with
  | false=>rfl
  | true=>have:=Nat.le_of_ble_eq_true h;omega
 have e2:Nat.ble (0+0*te.size) g.cells.length=true:=Nat.ble_eq_true_of_le (by omega)
 have e3:Nat.beq te.size te.size=true:=Nat.beq_refl _
 simp only [appV,hr,hok,e1,e2,e3,Bool.and_self,cond_true,cond_false]
 simp
theorem appSrc_row {T:Tab} {rg:List Rg} {te ti:TI} {tx e r n:Nat} {g:Rg} {k:Option Nat} (ht:lookT T tx=some ti) (hk:ti.kind=.slice e) (hr:nth rg r=some g) (hcs:g.cells.length=n*te.size):appSrc T rg te (.osl r 0 n te.size k) tx=some (g.cells,n):=by
 have e2:Nat.ble (0+n*te.size) g.cells.length=true:=by rw [hcs];exact Nat.ble_eq_true_of_le (by omega)
 have e3:Nat.beq te.size te.size=true:=Nat.beq_refl _
 simp only [appSrc,ht,hk,srcV,hr,e2,e3,Bool.and_self,cond_true,List.drop_zero]
 rw [←hcs,List.take_length]
theorem ro_not {p:Num} {cs:List SV} {k o:Nat}:¬InR [p] [⟨false,cs,none⟩] k o:=by
 rintro ⟨r,g,q,hg,_,ho,_⟩
 cases r with
 | zero=>simp at hg;subst hg;cases ho
 | succ r=>simp at hg
section
variable {E:Ctx} {T:Tab} {all:Array Oper} {i:Nat} {rest:List Nat} {k:List It} {s:St} {o:Oper} {f:Fr}
theorem X.eqNil {t e:TypeId} {x:Operand} {sx:SV} (b:Bool) (ho:nth all.toList i=some o) (hg:o.guard=none) (hop:o.op=.binOp .eql t x (.const (.slice none 0 0)) t) (hx:ev s.fr x=some sx) (hu:E.P.underlying t=some (.slice e))
  (hd:∀ N,E.N0.le N→N.length=s.rg.length→∃ p n c,sx.den N=some (.slice p n c)∧p.isNone=b) (hp:putO E.n s.fr o.dst (.val (.bool (.lit b)))=some f) (hk:X E (.ops all rest::k) ⟨f,s.rg⟩):X E (.ops all (i::rest)::k) s:=by
 refine X.value ho hg (.bool (.lit b)) hp (fun N a w hN hfr hS=>?_) hk
 obtain ⟨p,n,c,h1,h2⟩:=hd N hN hS.len
 have hx':=ev_sound hfr hx
 rw [h1] at hx'
 simp only [Option.some.injEq] at hx'
 refine ⟨_,rfl,?_⟩
 have hgd:=eqGuard_none (w:=w) (P:=E.P) .eql t x (.const (.slice none 0 0)) (a:=.slice p n c) (b:=.slice none 0 0) (fun _ _ h=>by cases h) (fun h=>by cases h)
 have hcst:a.eval (.const (.slice none 0 0))=.slice none 0 0:=rfl
 simp only [execOp,hop,←hx',hcst,Sem.run_bind,hgd,Result.andThen,binOp,run_equal_nil hu,h2,SB.den,Sem.run_pure]
theorem X.app0 (hT:TabOk E.P T) {x y:Operand} {ts tx e e' r0 c:Nat} {ti te tj:TI} {p:Option Addr} (ho:nth all.toList i=some o) (hg:o.guard=none) (hop:o.op=.call { callee:=.builtin .append,args:=#[x,y],argTypes:=#[ts,tx] })
  (hx:ev s.fr x=some (.osl r0 0 0 te.size (some 0))) (hy:ev s.fr y=some (.slv p 0 c)) (hti:lookT T ts=some ti) (hk:ti.kind=.slice e) (hte:lookT T e=some te) (htj:lookT T tx=some tj) (hkj:tj.kind=.slice e') (h0:0<te.size) (hz:te.zero.length=te.size)
  (hb:256*te.bytes≤281474976710656)
  (hp:putO E.n s.fr o.dst (.val (.osl r0 0 0 te.size (some 0)))=some f) (hX:X E (.ops all rest::k) ⟨f,s.rg⟩):X E (.ops all (i::rest)::k) s:=by
 refine X.value ho hg _ hp (fun N a w hN hfr hS=>?_) hX
 have hx':=ev_sound hfr hx
 have hy':=ev_sound hfr hy
 refine ⟨_,hx',?_⟩
 simp only [SV.den,Option.some.injEq] at hy'
 have hval:∃ base,a.eval x=.slice base 0 0:=by
  simp only [SV.den] at hx'
  cases hr:N[r0]? with
  | none=>simp [hr] at hx'
  | some q=>simp only [hr,Option.some.injEq] at hx';exact ⟨_,hx'.symm⟩
 obtain ⟨base,hval⟩:=hval
 have ok:=(hT.ok ts ti hti).kind
 rw [hk] at ok
 have ok':E.P.underlying ts=some (.slice e):=ok
 have okj:=(hT.ok tx tj htj).kind
 rw [hkj] at okj
 have okj':E.P.underlying tx=some (.slice e'):=okj
 have oke:=hT.ok e te hte
 obtain ⟨z,hzv,hzd⟩:=oke.zero
 obtain ⟨inf,hi,hib⟩:=oke.info
 have hzs:z.cells.size=te.size:=by
  have:=(SV.denL_get _ hzd).1
  simp at this;omega
 have hrun:=run_append (P:=E.P) (w:=w) (ta:=#[ts,tx]) (ty:=o.type) (zero:=z) (s:=.slice base 0 0) (x:=.slice p 0 c) (base:=base) (n:=0) (cap:=0) (m:=0) (old:=[]) (vs:=[]) (wf:=w) rfl rfl ok' hi (fun w=>by rw [hzs];exact oke.size w) hzv (by omega) rfl
  ⟨.inr ⟨⟨_,okj',fun k h=>by cases h⟩,fun w=>rfl⟩,by omega⟩ (by rw [hib];omega) (by omega)
  (fun w' _ _=>by
   cases p with
   | none=>rfl
   | some a=>simp [Builtin.firstCells,loadCells,loadCellsFrom]) (fun h=>by omega) (fun _=>by cases base<;>rfl)
 have hrun:=hrun.1 (by omega)
 rw [hval]
 simp only [execOp,hop,resolve,Sem.run_bind,Sem.run_pure,Result.andThen,invoke,builtin]
 have hm:Array.map a.eval #[x,y]=#[.slice base 0 0,.slice p 0 c]:=by
  apply Array.ext'
  simp [hval,←hy']
 rw [hm,hrun]
end
def rowsL {α:Type} (f:Nat→List α):Nat→List α
 | 0=>[]
 | n+1=>rowsL f n++f n
theorem rowsL_len {α:Type} {f:Nat→List α} {sz:Nat} (hf:∀ i,(f i).length=sz):∀ n,(rowsL f n).length=n*sz
 | 0=>by simp [rowsL]
 | n+1=>by rw [rowsL,List.length_append,rowsL_len hf n,hf,Nat.add_mul,Nat.one_mul]
theorem rowsL_at {α:Type} {f:Nat→List α} {sz:Nat} (hf:∀ i,(f i).length=sz) {j:Nat} (hj:j<sz):∀ {n i:Nat},i<n→(rowsL f n)[i*sz+j]?=(f i)[j]?
 | n+1,i,hi=>by
  rw [rowsL]
  by_cases e:i=n
  ·subst e
   rw [List.getElem?_append_right (by rw [rowsL_len hf];omega),rowsL_len hf]
   congr 1;omega
  ·have hlt:i<n:=by omega
   have:=idx_lt (sz:=sz) hlt hj
   rw [List.getElem?_append_left (by rw [rowsL_len hf];exact this)]
   exact rowsL_at hf hj hlt
structure IdxG where
 (j x ix d t z:Nat) (sx r:SV)
def idxG (n:Nat):List IdxG→Nat→Fr→Option (Fr × Prop)
 | [],_,_=>none
 | q::l,i,f=>bif Nat.beq i q.j then
   match putO n f (some q.d) (.val q.r) with
   | some f'=>some (f',ev f (.tmp q.x)=some q.sx∧∃ kd e,ev f (.tmp q.ix)=some (.int kd e)∧e.den=(q.z:Int))
   | none=>none
  else idxG n l i f
def IdxG.ok (ops:Array Oper) (q:IdxG):Bool:=match nth ops.toList q.j with
 | some o=>(match o.guard with | none=>true | some _=>false)&&(match o.op with | .indexAddr t' (.tmp x) (.tmp ix)=>Nat.beq t' q.t&&(Nat.beq x q.x&&Nat.beq ix q.ix) | _=>false)&&(match o.dst with | some d=>Nat.beq d q.d | none=>false)
 | none=>false
def IdxG.good (P:Program) (N0:Nums) (q:IdxG):Prop:=∀ N,N0.le N→∃ a v,q.sx.den N=some a∧q.r.den N=some v∧∀ kd w,(Instr.indexAt q.t a (.int kd (q.z:Nat))).run P w=.ok v w
theorem idxG_ok {P:Program} {n:Nat} {ops:Array Oper} {N0:Nums}:∀ (l:List IdxG),l.all (IdxG.ok ops)=true→(∀ q∈l,q.good P N0)→OracOk P n ops N0 (fun _=>idxG n l)
 | [],_,_=>fun _ _ _ _ _ _ _ _ _ _ h=>by cases h
 | q::l,hl,hr=>by
  intro rg i f f' pr N a w0 o ho hf hpr hN hfr hv
  simp only [List.all_cons,Bool.and_eq_true] at hl
  simp only [idxG] at hf
  cases hi:Nat.beq i q.j with
  | false =>
   rw [hi] at hf
   exact idxG_ok l hl.2 (fun q hq=>hr q (by simp [hq])) rg i f f' pr N a w0 o ho hf hpr hN hfr hv
  | true =>
   rw [hi] at hf
   have hi:=Nat.eq_of_beq_eq_true hi
   subst hi
   simp only [cond_true] at hf
   split at hf
   ·rename_i f1 hput
    simp only [Option.some.injEq,Prod.mk.injEq] at hf
    obtain ⟨rfl,rfl⟩:=hf
    obtain ⟨hx,kd,ee,hix,hez⟩:=hpr
    have hok:=hl.1
    unfold IdxG.ok at hok
    rw [nth_eq,Array.getElem?_toList,ho] at hok
    simp only [Bool.and_eq_true] at hok
    obtain ⟨⟨hg,hop⟩,hd⟩:=hok
    have hd:o.dst=some q.d:=by
     split at hd
     ·rename_i d h;rw [h,Nat.eq_of_beq_eq_true hd]
     ·cases hd
    have hg:o.guard=none:=by cases h:o.guard with | none=>rfl | some _=>rw [h] at hg;simp at hg
    obtain ⟨t',ht⟩:∃ t',o.op=.indexAddr t' (.tmp q.x) (.tmp q.ix)∧t'=q.t:=by
     split at hop
     ·rename_i t' x ix h
      simp only [Bool.and_eq_true] at hop
      have e1:=Nat.eq_of_beq_eq_true hop.2.1
      have e2:=Nat.eq_of_beq_eq_true hop.2.2
      subst e1;subst e2
      exact ⟨_,h,Nat.eq_of_beq_eq_true hop.1⟩
     ·cases hop
    obtain ⟨hop',rfl⟩:=ht
    have h1:=ev_sound hfr hx
    have h2:=ev_sound hfr hix
    simp only [SV.den,Option.some.injEq] at h2
    obtain ⟨va,vr,g1,g2,g3⟩:=hr q (by simp) N hN
    rw [g1] at h1
    simp only [Option.some.injEq] at h1
    refine ⟨vr,.inl ⟨by simp [Region.wanted,hg],fun w _=>?_⟩,by rw [hd];exact putO_sound hfr g2 hput⟩
    have:=g3 kd w
    simp only [execOp,hop',←h1,←h2,hez,Sem.run_bind,this,Result.andThen,Sem.run_pure,Sem.run_map]
   ·cases hf
section
variable {E:Ctx} {T:Tab} {all:Array Oper} {i:Nat} {rest:List Nat} {k:List It} {s:St} {o:Oper} {f:Fr}
end
open Classical in
noncomputable def grow (m:Mem) (D':Nat→Nat→Prop) (w w':World):Mem:=fun k o=>match m k o with
 | some v=>some v
 | none=>if w.heap.size≤k∧¬D' k o then w'.cell? ⟨k,o,none⟩ else none
theorem grow_old {m:Mem} {D':Nat→Nat→Prop} {w w':World} {k o:Nat} {v:Value} (h:m k o=some v):grow m D' w w' k o=some v:=by unfold grow;rw [h]
theorem Goes.grow {E:Ctx} {N:Nums} {k:List It} {s:St} {d:Option Nat} {v:Value} {w w':World} (D':Nat→Nat→Prop) (R':World→Prop) (hN:E.N0.le N) (h:Sat E.toEnv N s.rg w) (hc:Chg E.D w w') (hO:∀ k o,E.D k o→E.W.heap.size≤k∨E.O k o) (him:∀ k o,E.D k o→E.im k o=none)
  (hrg:∀ g∈s.rg,g.own=true∨g.cells=[]) (hD:∀ k o,D' k o→(E.D k o∨w.heap.size≤k)∧There w' k o) (hl:Loc D' R') (hR:R' w') {r:SV} (hr:r.den N=some v) {f':Fr} (hp:putO E.n s.fr d (.val r)=some f')
  (hx:(∀ k o,D' k o→Eng.grow E.im D' w w' k o=none)→(∀ k o,w.heap.size≤k→E.im k o=none)→X { E with D:=D',R:=R',im:=Eng.grow E.im D' w w' } k ⟨f',s.rg⟩):Goes E N k s.fr d v w':=by
 have hnew:∀ k o,w.heap.size≤k→E.im k o=none:=fun k o hk=>by
  cases hm:E.im k o with
  | none=>rfl
  | some u =>
   have:=World.block_lt_of_cell? _ _ (h.imm k o u hm)
   simp only at this
   omega
 refine ⟨{ E with D:=D',R:=R',im:=Eng.grow E.im D' w w' },N,r,s.rg,f',rfl,rfl,rfl,rfl,Nums.le.refl N,hN,?_,hr,hp,hx (fun k o hk=>?_) hnew⟩
 ·refine h.after (rg':=s.rg) (m':=Eng.grow E.im D' w w') hc (fun k o _ hd=>.inr ⟨hd,hO k o hd⟩) ⟨fun k o v hv=>grow_old hv,fun k o v hv=>?_,fun k o v hv=>?_⟩ hD hl hR rfl (fun r g g' p hg hg' hp=>?_)
  ·unfold Eng.grow at hv
   split at hv
   ·rename_i u hu
    simp only [Option.some.injEq] at hv;subst hv
    refine cell_of_chg hc (fun hd=>?_) (h.imm k o _ hu)
    rw [him k o hd] at hu;cases hu
   ·split at hv
    ·exact hv
    ·cases hv
  ·unfold Eng.grow at hv
   split at hv
   ·rename_i u hu
    simp only [Option.some.injEq] at hv;subst hv
    exact .inl hu
   ·split at hv
    ·rename_i hk;exact .inr hk.1
    ·cases hv
  ·rw [hg] at hg';cases hg'
   refine ⟨rfl,rfl,fun _=>rfl,fun ho=>h.ext r g p hg hp ho,.inl ⟨rfl,fun j hj=>?_⟩⟩
   rcases hrg g (List.mem_of_getElem? hg) with ho | ho
   ·exact h.dd r g p hg hp ho j (Nat.lt_of_lt_of_le hj (h.ext r g p hg hp ho))
   ·rw [ho] at hj;simp at hj
 ·unfold Eng.grow
  split
  ·rename_i u hu
   rcases (hD k o hk).1 with hd | hd
   ·rw [him k o hd] at hu;cases hu
   ·rw [hnew k o hd] at hu;cases hu
  ·rw [if_neg fun h=>h.2 hk]
def tailOk (ops:Array Oper):List Nat→Array Bool→Bool
 | [],L=>(Region.ready .any ops L).isEmpty
 | z::zs,L=>only (Region.ready .any ops L) z&&tailOk ops zs (L.setIfInBounds z true)
def schPre (ops:Array Oper):Sch→Array Bool→Bool
 | [],_=>true
 | (i,some blk)::r,listed=>(Region.ready .any ops listed).contains i&&Region.free .any ops listed i&&closedB ops i blk&&withinB listed ops.size blk&&schPre ops r (listed.setIfInBounds i true)
 | (i,none)::r,listed=>only (Region.ready .any ops listed) i&&schPre ops r (listed.setIfInBounds i true)
def schEnd:Sch→Array Bool→Array Bool
 | [],L=>L
 | (i,_)::r,L=>schEnd r (L.setIfInBounds i true)
theorem schPre_of {ops:Array Oper} {t:Sch}:∀ (s:Sch) (L:Array Bool),schOk ops (s++t) L=true→schPre ops s L=true
 | [],_,_=>rfl
 | (i,some blk)::r,L,h=>by
  simp only [List.cons_append,schOk,Bool.and_eq_true] at h
  simp only [schPre,Bool.and_eq_true]
  exact ⟨h.1,schPre_of r _ h.2⟩
 | (i,none)::r,L,h=>by
  simp only [List.cons_append,schOk,Bool.and_eq_true] at h
  simp only [schPre,Bool.and_eq_true]
  exact ⟨h.1,schPre_of r _ h.2⟩
theorem vis_masked {Nf:Nums} {rg:List Rg} {wf w:World} (hV:Vis Nf rg wf) {ks:List Nat} (hall:∀ r,r<rg.length→memN ks r=true):Vis Nf (maskRg ks rg 0) w:=by
 refine ⟨by rw [maskRg_length];exact hV.len,fun r g p hg hp j c hc=>?_,fun r g p hg hp ho=>?_⟩
 ·rw [memN_mask] at hg
  obtain ⟨g0,k1,k2⟩:=Option.map_eq_some_iff.1 hg
  rw [Nat.zero_add,hall r (List.getElem?_eq_some_iff.1 k1).1] at k2
  simp at k2;subst k2;simp at hc
 ·rw [memN_mask] at hg
  obtain ⟨g0,k1,k2⟩:=Option.map_eq_some_iff.1 hg
  rw [Nat.zero_add,hall r (List.getElem?_eq_some_iff.1 k1).1] at k2
  simp at k2;subst k2;simp
theorem wrL_grow {K:KW} {L:Array Bool} {z r:Nat} (hz:z<L.size) (h:memN (wrL K L) r=true):memN (wrL K (L.setIfInBounds z true)) r=true:=by
 obtain ⟨p,h1,h2,h3⟩:=memN_flat.1 h
 refine memN_flat.2 ⟨p,h1,?_,h3⟩
 by_cases e:z=p.1
 ·rw [←e];simp [hz]
 ·rw [getD_set_ne false e];exact h2
theorem tail_sound {P:Program} {all:Array Oper} {Q:Exit→Act→World→Prop} {K:KW} {rg:List Rg} {Nf:Nums} {wf:World} (hV:Vis Nf rg wf):∀ (zs:List Nat) (L:Array Bool) (a:Act) (w:World),L.size=all.size→tailOk all zs L=true→(∀ r,r<rg.length→memN (wrL K L) r=true) →
  wpOps P all Q zs a w→wpF P all Q (fun L=>Vis Nf (maskRg (wrL K L) rg 0)) zs.length L a w
 | [],L,a,w,_,h,_,hk=>wpF.done (by unfold tailOk at h;cases hr:Region.ready .any all L with | nil=>rfl | cons _ _=>rw [hr] at h;cases h) hk
 | z::zs,L,a,w,hn,h,hm,hk=>by
  simp only [tailOk,Bool.and_eq_true] at h
  have hr:=only_spec h.1
  have hrm:z∈Region.ready .any all L:=by rw [hr];simp
  have hlt:z<L.size:=by
   obtain ⟨_,o,ho,_⟩:=mem_ready.1 hrm
   rw [hn];exact (Array.getElem?_eq_some_iff.1 ho).1
  have hm':∀ r,r<rg.length→memN (wrL K (L.setIfInBounds z true)) r=true:=fun r hr=>wrL_grow hlt (hm r hr)
  refine wpF.all hr (by simp) fun j hj=>?_
  simp only [List.mem_singleton] at hj;subst hj
  rw [wpOps_cons] at hk
  exact wpOp_mono (fun a' w' h'=>⟨vis_masked hV hm',tail_sound hV zs _ a' w' (by simpa using hn) h.2 hm' h'⟩) hk
theorem anyL_sound {E:Env} {T:Tab} (hT:TabOk E.P T) {all:Array Oper} (hsel:Region.noSelect all=true) {Q:Exit→Act→World→Prop} (hQ:PanicOk Q) {call:CallerP} (hc:CallerPOk E.P E.n all E.R E.im call) {oq:Orac} {N0:Nums} (hoq:OracOk E.P E.n all N0 oq) {K:KW} {rg:List Rg} {fin:St→Prop} {Nf:Nums} (wf:World) (hV:Vis Nf rg wf) {z:Nat} {zs:List Nat} (hK:∀ r,r<rg.length→memN (lookK K z) r=true):∀ (sch:Sch) (listed:Array Bool) {s:St} {N:Nums} {a:Act} {w:World},
  schPre all sch listed=true→tailOk all (z::zs) (schEnd sch listed)=true→listed.size=all.size→anyO oq T E.n all K rg call fin sch s→Nf.le N→N0.le N→FrOk E.n N s.fr a→Sat E N s.rg w→Agree (wrL K listed) rg s.rg→rg.length≤s.rg.length →
  (∀ s' N' a' w',fin s'→N.le N'→FrOk E.n N' s'.fr a'→Sat E N' s'.rg w'→wpOps E.P all Q (z::zs) a' w')→wpF E.P all Q (fun L=>Vis Nf (maskRg (wrL K L) rg 0)) (sch.length+(zs.length+1)) listed a w:=by
 have emp:∀ {l:List Nat},l.isEmpty=true→l=[]:=by intro l h;cases l<;>simp at h ⊢
 have see:∀ (L:Array Bool) {N:Nums} {rg':List Rg} {w:World},Nf.le N→Agree (wrL K L) rg rg'→Sat E N rg' w→Vis Nf (maskRg (wrL K L) rg 0) w:=fun L _ _ _ hN ha hS=>vis_of_agree (hV.mask _) hN ha hS
 intro sch
 induction sch with
 | nil =>
  intro listed s N a w hs ht hn hg hN hN0 hf hS ha hl hk
  simp only [schEnd,tailOk,Bool.and_eq_true] at ht
  obtain ⟨hr,ht⟩:=ht
  have hr:=only_spec hr
  have hrm:z∈Region.ready .any all listed:=by rw [hr];simp
  have hlt:z<listed.size:=by
   obtain ⟨_,o,ho,_⟩:=mem_ready.1 hrm
   rw [hn];exact (Array.getElem?_eq_some_iff.1 ho).1
  have hset:(listed.setIfInBounds z true).getD z false=true:=by simp [hlt]
  have hall:∀ r,r<rg.length→memN (wrL K (listed.setIfInBounds z true)) r=true:=fun r hr=>by
   obtain ⟨p,h1,h2,h3⟩:=lookK_mem (hK r hr)
   exact memN_flat.2 ⟨p,h1,by rw [h2];exact hset,h3⟩
  have hk':=hk s N a w hg (Nums.le.refl N) hf hS
  rw [wpOps_cons] at hk'
  rw [List.length_nil,Nat.zero_add]
  refine wpF.all hr (by simp) fun j hj=>?_
  simp only [List.mem_singleton] at hj;subst hj
  exact wpOp_mono (fun a' w' h=>⟨vis_masked hV hall,tail_sound hV zs _ a' w' (by simpa using hn) ht hall h⟩) hk'
 | cons p r ih =>
  obtain ⟨i,q⟩:=p
  intro listed s N a w hs ht hn hg hN hN0 hf hS ha hl hk
  have hS0:=see listed hN ha hS
  cases q with
  | some blk =>
   simp only [schPre,Bool.and_eq_true] at hs
   rw [List.length_cons,Nat.add_right_comm]
   simp only [schEnd] at ht
   obtain ⟨⟨⟨⟨hr,hfree⟩,hclosed⟩,hwithin⟩,hs⟩:=hs
   simp only [anyO] at hg
   obtain ⟨hqk,hg⟩:=hg
   have hqk:=quietK_spec hqk
   have hrm:i∈Region.ready .any all listed:=by simpa using hr
   have hi0:listed.getD i false=false:=by
    have h1:=(mem_ready.1 hrm).1
    rcases Nat.lt_or_ge i listed.size with h' | h'
    ·simp [h'] at h1 ⊢;exact h1
    ·rw [Array.getD_eq_getD_getElem?,Array.getElem?_eq_none h'];rfl
   have same:∀ (L:Array Bool) (r:Nat),memN (wrL K (L.setIfInBounds i true)) r=true↔memN (wrL K L) r=true:=fun L r=>by
    simp only [wrL,memN_flat]
    constructor
    ·rintro ⟨p,h1,h2,h3⟩
     exact ⟨p,h1,by rwa [getD_set_ne false (fun e=>hqk p h1 e.symm)] at h2,h3⟩
    ·rintro ⟨p,h1,h2,h3⟩
     exact ⟨p,h1,by rwa [getD_set_ne false (fun e=>hqk p h1 e.symm)],h3⟩
   split at hg
   ·rename_i f hq
    obtain ⟨_,o,ho,_⟩:=mem_ready.1 hrm
    obtain ⟨hp,hg⟩:=hg
    -- whoever may have come up ahead of it is of blk
    have wide:∀ {L':Array Bool} {w':World},Up all i listed L'→Vis Nf (maskRg (wrL K L') rg 0) w'→Vis Nf (maskRg (flatK (memB blk) K) rg 0) w':=fun hup hv =>
     hv.more fun r hr=>by
      obtain ⟨p,h1,h2,h3⟩:=memN_flat.1 hr
      exact memN_flat.2 ⟨p,h1,(hup.within hclosed hn hi0 hwithin).2.2 _ h2,h3⟩
    obtain ⟨v,hv,hfr⟩:=hoq _ i _ _ _ _ _ _ _ ho hq hp hN0 hf ((wide .here hS0).mono hN)
    refine wpF.take ho hsel hfree hr (fun c a w h=>hQ c a o.dst v w h) (fun L w=>⟨fun h=>h.more fun r hr=>(same L r).1 hr,fun h=>h.more fun r hr=>(same L r).2 hr⟩) ?_ hS0
     (ih _ hs ht (by simpa using hn) hg hN hN0 hfr hS (fun r g hg hm=>ha r g hg (by
      cases hx:memN (wrL K listed) r with
      | true=>rw [(same listed r).2 hx] at hm;cases hm
      | false=>rfl)) hl hk)
    rcases hv with ⟨hw,hrun⟩ | ⟨hw,rfl⟩
    ·exact .inl ⟨hw,fun w ⟨L',hup,hw⟩=>hrun w ((wide hup hw).mono hN)⟩
    ·exact .inr ⟨hw,rfl⟩
   ·exact hg.elim
  | none =>
   simp only [schPre,Bool.and_eq_true] at hs
   rw [List.length_cons,Nat.add_right_comm]
   simp only [schEnd] at ht
   obtain ⟨hr,hs⟩:=hs
   have hr:=only_spec hr
   have hrm:i∈Region.ready .any all listed:=by rw [hr];simp
   have hlt:i<listed.size:=by
    obtain ⟨_,o,ho,_⟩:=mem_ready.1 hrm
    rw [hn];exact (Array.getElem?_eq_some_iff.1 ho).1
   have hset:(listed.setIfInBounds i true).getD i false=true:=by simp [hlt]
   have grow:∀ r,memN (wrL K listed) r=true→memN (wrL K (listed.setIfInBounds i true)) r=true:=fun r h=>by
    obtain ⟨p,h1,h2,h3⟩:=memN_flat.1 h
    refine memN_flat.2 ⟨p,h1,?_,h3⟩
    by_cases e:i=p.1
    ·rw [←e];exact hset
    ·rw [getD_set_ne false e];exact h2
   have own:∀ k,memN (lookK K i) k=true→memN (wrL K (listed.setIfInBounds i true)) k=true:=fun k hk=>by
    obtain ⟨p,h1,h2,h3⟩:=lookK_mem hk
    exact memN_flat.2 ⟨p,h1,by rw [h2];exact hset,h3⟩
   have ha1:Agree (wrL K (listed.setIfInBounds i true)) rg s.rg:=ha.mono fun r hr=>by
    cases hx:memN (wrL K listed) r with
    | true=>rw [grow r hx] at hr;cases hr
    | false=>rfl
   simp only [anyO] at hg
   split at hg
   ·rename_i f hq
    obtain ⟨_,o,ho,_⟩:=mem_ready.1 hrm
    obtain ⟨hp,hg⟩:=hg
    obtain ⟨v,hv,hfr⟩:=hoq _ i _ _ _ _ _ _ _ ho hq hp hN0 hf hS.vis
    refine wpF.all hr (by simp) fun j hj=>?_
    simp only [List.mem_singleton] at hj;subst hj
    unfold wpOp
    simp only [ho]
    have hnext:=ih _ hs ht (by simpa using hn) hg hN hN0 hfr hS ha1 hl hk
    rcases hv with ⟨hw,hrun⟩ | ⟨hw,rfl⟩
    ·rw [hw,if_pos rfl]
     exact .inl (wp_of_yields (.inl (hrun w hS.vis)) ⟨see _ hN ha1 hS,hnext⟩)
    ·rw [hw]
     exact ⟨see _ hN ha1 hS,hnext⟩
   ·split at hg
    ·rename_i s1 he
     obtain ⟨hm,hg2⟩:=hg
     have hoi:∃ o,all[i]?=some o:=by
      cases ho:all[i]? with
      | some o=>exact ⟨o,rfl⟩
      | none=>unfold opE at he;rw [nth_eq] at he;simp [ho] at he
     obtain ⟨o,ho⟩:=hoi
     obtain ⟨hw,N',x,w',h1,h2,h3,h4⟩:=opE_sound hT ho he hf hS
     obtain ⟨ha',hl'⟩:=stepE_agree ha1 hl (by cases hst:stR s.fr all i with | some k=>rw [hst] at hm;exact own k hm | none=>rfl) he
     refine wpF.all hr (by simp) fun j hj=>?_
     simp only [List.mem_singleton] at hj;subst hj
     unfold wpOp
     simp only [ho,hw,if_true]
     exact .inl (wp_of_yields h2 ⟨see _ (hN.trans h1) ha' h4,ih _ hs ht (by simpa using hn) hg2 (hN.trans h1) (hN0.trans h1) h3 h4 ha' hl' (fun s2 N2 a2 w2 hs2 hN2=>hk s2 N2 a2 w2 hs2 (h1.trans hN2))⟩)
    ·split at hg
     ·rename_i s1 ws p he
      obtain ⟨hp,hm,hg2⟩:=hg
      obtain ⟨h1,o,ho,h2⟩:=hc _ _ _ _ _ he hp
      obtain ⟨hw,h3⟩:=h2 E N a w rfl rfl rfl rfl hf hS
      refine wpF.all hr (by simp) fun j hj=>?_
      simp only [List.mem_singleton] at hj;subst hj
      unfold wpOp
      simp only [ho,hw,if_true]
      refine .inl (h3 _ _ fun N' x w' hN' hf' hS'=>?_)
      have ha':Agree (wrL K (listed.setIfInBounds j true)) rg s1.rg:=fun r g hg hr=>h1.agree r g (ha1 r g hg hr) (allN_spec hm r (by
       cases hx:memN (lookK K j) r with
       | true=>rw [own r hx] at hr;cases hr
       | false=>rfl))
      exact ⟨see _ (hN.trans hN') ha' hS',ih _ hs ht (by simpa using hn) hg2 (hN.trans hN') (hN0.trans hN') hf' hS' ha' (Nat.le_trans hl h1.len) (fun s2 N2 a2 w2 hs2 hN2=>hk s2 N2 a2 w2 hs2 (hN'.trans hN2))⟩
     ·exact hg.elim
def allR:Nat→List Nat
 | 0=>[]
 | n+1=>n::allR n
theorem memN_allR:∀ {n r:Nat},r<n→memN (allR n) r=true
 | n+1,r,h=>by
  simp only [allR,memN]
  by_cases e:n=r
  ·subst e;simp
  ·rw [memN_allR (by omega)];simp
def drawnL (oq:Orac) (T:Tab) (n:Nat) (all:Array Oper) (call:CallerP) (fin:St→Prop) (z:Nat) (sch:Sch) (s:St):Prop :=
 anyO oq T n all ((z,allR s.rg.length)::dryO oq T n all call sch s) s.rg call fin sch s
theorem drawnL_sound {E:Env} {T:Tab} (hT:TabOk E.P T) {id:Nat} {all:Array Oper} {call:CallerP} (hc:CallerPOk E.P E.n all E.R E.im call) {oq:Orac} {N0:Nums} (hoq:OracOk E.P E.n all N0 oq) {z:Nat} {zs:List Nat} {sch sch2:Sch} (hok:anyOk all (sch++sch2)=true) (hz:tailOk all (z::zs) (schEnd sch (Array.replicate all.size false))=true) (hlz:sch2.length=zs.length+1) {fin:St→Prop} {s:St} (hd:drawnL oq T E.n all call fin z sch s) {Q:Exit→Act→World→Prop} (hQ:PanicOk Q) {N:Nums} {a:Act} {w:World} (hN0:N0.le N) (hf:FrOk E.n N s.fr a) (hS:Sat E N s.rg w)
  (hk:∀ s' N' a' w',fin s'→N.le N'→FrOk E.n N' s'.fr a'→Sat E N' s'.rg w'→wpOps E.P all Q (z::zs) a' w'):(Code.region id all true).wp E.P Q a w:=by
 have hS':Sat E N s.rg { w with drawn:=w.drawn+1 }:=hS.drew
 simp only [anyOk,Bool.and_eq_true] at hok
 obtain ⟨⟨hn,hlen⟩,hsch⟩:=hok
 have hlen:=Nat.eq_of_beq_eq_true hlen
 have:=anyL_sound hT hn hQ hc hoq _ hS'.vis (z:=z) (zs:=zs) (fun r hr=>by simp only [lookK,Nat.beq_refl,cond_true];exact memN_allR hr) sch _ (schPre_of sch _ hsch) hz (by simp) hd (Nums.le.refl N) hN0 hf hS' (fun r g hg _=>hg) (Nat.le_refl _) hk
 rw [List.length_append,hlz] at hlen
 rw [hlen] at this
 exact wp_region_any hT.mixed this.any
theorem X.drawnL {P:Program} {fn:Func} {R:Ending→World→Prop} {W:World} {O:Nat→Nat→Prop} {im:Nat→Nat→Option Value} {D:Nat→Nat→Prop} {Rr:World→Prop} {N:Nums} {B:SchT} {T:Tab} (hT:TabOk P T) {id:Nat} {ops:Array Oper} {k:List It} {s:St} (call:CallerP) (ora:Nat→Fr→Option (Fr × Prop)) (z:Nat) (zs:List Nat) {sch1:Sch} (j:Nat)
  (hl:lookS B id=some sch1) (hz:tailOk ops (z::zs) (schEnd (sch1.take j) (Array.replicate ops.size false))=true) (hj:(sch1.drop j).length=zs.length+1) (hc:CallerPOk P fn.ntmps ops Rr im call) (ho:OracOk P fn.ntmps ops N (fun _=>ora)) (n:Nat) (hn:fn.ntmps=n) (h:Eng.drawnL (oracQ ora T n ops) T n ops call (fun s'=>X (mkE P fn R W O im D Rr N B) (.ops ops (z::zs)::k) s') z (sch1.take j) s):X (mkE P fn R W O im D Rr N B) (.code (.region id ops true)::k) s:=by
 subst hn
 intro N' a w hN hf hS
 show _→Code.wp _ _ _ _ _
 intro hreg
 simp only [regsB,hl] at hreg
 rw [←List.take_append_drop j sch1] at hreg
 exact drawnL_sound (E:=(mkE P fn R W O im D Rr N B).toEnv) hT hc (oracQ_ok hT ho) hreg hz hj h (PanicOk.sem (fun _ _ d _ _ h=>by cases d<;>exact h) k) hN hf hS (fun s2 N2 a2 w2 h hN2 hf2 hS2=>h N2 a2 w2 (hN.trans hN2) hf2 hS2)
end Go.Eng
