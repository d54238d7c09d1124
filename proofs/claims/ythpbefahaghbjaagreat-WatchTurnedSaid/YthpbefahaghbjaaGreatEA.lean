import Derived.WalkKit
import Derived.OrdersHeld
import Derived.KernelRfl
import Derived.Laws.StructEq
namespace Go.Eng
def bitsI (op:BinOp) (k:IntKind) (x y:Int):Int :=
 match op with
 | .and=>k.wrap (BitVec.ofInt k.bits x &&& BitVec.ofInt k.bits y).toNat
 | .or=>k.wrap (BitVec.ofInt k.bits x ||| BitVec.ofInt k.bits y).toNat
 | .xor=>k.wrap (BitVec.ofInt k.bits x ^^^ BitVec.ofInt k.bits y).toNat
 | _=>k.wrap (BitVec.ofInt k.bits x &&& ~~~BitVec.ofInt k.bits y).toNat
inductive SI where
 | lit (z:Int)
 | v (x:Int)
 | nat (n:Nat)
 | add (a b:SI)
 | sub (a b:SI)
 | mul (a b:SI)
 | quo (a b:SI)
 | rem (a b:SI)
 | wrap (k:IntKind) (a:SI)
 | bits (op:BinOp) (k:IntKind) (a b:SI)
 | mx (a b:SI)
 | mn (a b:SI)
 | shl (a:SI) (n:Nat)
 | shr (a:SI) (n:Nat)
 deriving Inhabited
def SI.den:SI→Int
 | .lit z=>z
 | .v x=>x
 | .nat n=>(n:Int)
 | .add a b=>a.den+b.den
 | .sub a b=>a.den-b.den
 | .mul a b=>a.den*b.den
 | .quo a b=>a.den.tdiv b.den
 | .rem a b=>a.den.tmod b.den
 | .wrap k a=>k.wrap a.den
 | .bits op k a b=>bitsI op k a.den b.den
 | .mx a b=>if a.den<b.den then b.den else a.den
 | .mn a b=>if b.den<a.den then b.den else a.den
 | .shl a n=>a.den*2 ^ n
 | .shr a n=>a.den.fdiv (2 ^ n)
inductive SB where
 | lit (b:Bool)
 | v (b:Bool)
 | eq (a b:SI)
 | ne (a b:SI)
 | lt (a b:SI)
 | le (a b:SI)
 | gt (a b:SI)
 | ge (a b:SI)
 | not (a:SB)
 | and (a b:SB)
 | or (a b:SB)
 | beq (a b:SB)
 deriving Inhabited
def SB.den:SB→Bool
 | .lit b=>b
 | .v b=>b
 | .eq a b=>a.den == b.den
 | .ne a b=>a.den != b.den
 | .lt a b=>decide (a.den<b.den)
 | .le a b=>decide (a.den≤b.den)
 | .gt a b=>decide (b.den<a.den)
 | .ge a b=>decide (b.den≤a.den)
 | .not a=>!a.den
 | .and a b=>a.den&&b.den
 | .or a b=>a.den || b.den
 | .beq a b=>a.den == b.den
mutual
def SB.T:SB→Prop
 | .lit b=>b=true
 | .v b=>b=true
 | .eq a b=>a.den=b.den
 | .ne a b=>a.den≠b.den
 | .lt a b=>a.den<b.den
 | .le a b=>a.den≤b.den
 | .gt a b=>b.den<a.den
 | .ge a b=>b.den≤a.den
 | .not a=>a.F
 | .and a b=>a.T∧b.T
 | .or a b=>a.T∨b.T
 | .beq a b=>a.den=b.den
def SB.F:SB→Prop
 | .lit b=>b=false
 | .v b=>b=false
 | .eq a b=>a.den≠b.den
 | .ne a b=>a.den=b.den
 | .lt a b=>b.den≤a.den
 | .le a b=>b.den<a.den
 | .gt a b=>a.den≤b.den
 | .ge a b=>a.den<b.den
 | .not a=>a.T
 | .and a b=>a.F∨b.F
 | .or a b=>a.F∧b.F
 | .beq a b=>a.den≠b.den
end
theorem SB.TF:∀ b:SB,(b.den=true↔b.T)∧(b.den=false↔b.F)
 | .lit b=>by simp [SB.den,SB.T,SB.F]
 | .v b=>by simp [SB.den,SB.T,SB.F]
 | .eq a b=>by simp [SB.den,SB.T,SB.F]
 | .ne a b=>by simp [SB.den,SB.T,SB.F]
 | .lt a b=>by simp [SB.den,SB.T,SB.F]
 | .le a b=>by simp [SB.den,SB.T,SB.F]
 | .gt a b=>by simp [SB.den,SB.T,SB.F]
 | .ge a b=>by simp [SB.den,SB.T,SB.F]
 | .not a=>by simp only [SB.den,SB.T,SB.F,Bool.not_eq_true',Bool.not_eq_false'];exact ⟨(SB.TF a).2,(SB.TF a).1⟩
 | .and a b=>by
  simp only [SB.den,SB.T,SB.F,Bool.and_eq_true,Bool.and_eq_false_iff,(SB.TF a).1,(SB.TF b).1,(SB.TF a).2,(SB.TF b).2,and_self]
 | .or a b=>by
  simp only [SB.den,SB.T,SB.F,Bool.or_eq_true,Bool.or_eq_false_iff,(SB.TF a).1,(SB.TF b).1,(SB.TF a).2,(SB.TF b).2,and_self]
 | .beq a b=>by simp [SB.den,SB.T,SB.F]
def one?:Value→Bool
 | .agg _=>false
 | .tuple _=>false
 | _=>true
inductive SV where
 | int (k:IntKind) (e:SI)
 | bool (c:SB)
 | own (r c:Nat)
 | ext (k x c:Nat)
 | sl (k x n c:Nat)
 | slv (p:Option Addr) (n c:Nat)
 | raw (v:Value)
 | big (a:Array Value)
 | agg (cs:List SV)
 | tup (cs:List SV)
 | osl (r c n z:Nat) (k:Option Nat)
 | fn (f:Nat) (cs:List SV)
 | mp (r:Nat)
 | ch (r:Nat)
 deriving Inhabited
structure Num where
 b:Nat
 o:Nat
 x:Nat
abbrev Nums:=List Num
def Num.cap (p:Num) (c z:Nat):Option Nat→Nat
 | some k=>k
 | none=>(p.x-c) / z
mutual
def SV.den (N:Nums):SV→Option Value
 | .int k e=>some (.int k e.den)
 | .bool c=>some (.bool c.den)
 | .own r c=>match N[r]? with
  | some p=>some (.pointer (some ⟨p.b,p.o+c,none⟩))
  | none=>none
 | .ext k x c=>some (.pointer (some ⟨k,x+c,none⟩))
 | .sl k x n c=>some (.slice (some ⟨k,x,none⟩) n c)
 | .slv p n c=>some (.slice p n c)
 | .raw v=>if one? v then some v else none
 | .big a=>some (.agg a)
 | .agg cs=>match SV.denL N cs with
  | some l=>some (.agg l.toArray)
  | none=>none
 | .tup cs=>match SV.denL N cs with
  | some l=>some (.tuple l.toArray)
  | none=>none
 | .osl r c n z k=>match N[r]? with
  | some p=>some (.slice (some ⟨p.b,p.o+c,none⟩) n (p.cap c z k))
  | none=>none
 | .fn f cs=>match SV.denL N cs with
  | some l=>some (.func (.func f) #[] l.toArray)
  | none=>none
 | .mp r=>match N[r]? with
  | some p=>some (.map (some p.b))
  | none=>none
 | .ch r=>match N[r]? with
  | some p=>some (.chan (some p.b))
  | none=>none
def SV.denL (N:Nums):List SV→Option (List Value)
 | []=>some []
 | c::cs=>match c.den N with
  | some v=>match SV.denL N cs with
   | some l=>some (v::l)
   | none=>none
  | none=>none
end
def Nums.le (N N':Nums):Prop:=∀ (r:Nat) (p:Num),N[r]?=some p→N'[r]?=some p
theorem Nums.le.refl (N:Nums):N.le N:=fun _ _ h=>h
theorem Nums.le.trans {A B C:Nums} (h:A.le B) (k:B.le C):A.le C:=fun r p e=>k r p (h r p e)
theorem Nums.le_append (N M:Nums):N.le (N++M):=fun r p h=>by
 rw [List.getElem?_append_left (List.getElem?_eq_some_iff.1 h).1];exact h
mutual
theorem SV.den_mono {N N':Nums} (hN:N.le N'):∀ (s:SV) {x:Value},s.den N=some x→s.den N'=some x
 | .int _ _,x,h=>h
 | .bool _,x,h=>h
 | .own r c,x,h=>by
  simp only [SV.den] at h ⊢
  cases hr:N[r]? with
  | none=>simp [hr] at h
  | some p=>rw [hN r p hr];simpa [hr] using h
 | .ext _ _ _,x,h=>h
 | .sl _ _ _ _,x,h=>h
 | .slv _ _ _,x,h=>h
 | .raw _,x,h=>h
 | .big _,x,h=>h
 | .agg cs,x,h=>by
  simp only [SV.den] at h ⊢
  cases hl:SV.denL N cs with
  | none=>simp [hl] at h
  | some l=>rw [SV.denL_mono hN cs hl];simpa [hl] using h
 | .tup cs,x,h=>by
  simp only [SV.den] at h ⊢
  cases hl:SV.denL N cs with
  | none=>simp [hl] at h
  | some l=>rw [SV.denL_mono hN cs hl];simpa [hl] using h
 | .osl r c n z k,x,h=>by
  simp only [SV.den] at h ⊢
  cases hr:N[r]? with
  | none=>simp [hr] at h
  | some p=>rw [hN r p hr];simpa [hr] using h
 | .fn f cs,x,h=>by
  simp only [SV.den] at h ⊢
  cases hl:SV.denL N cs with
  | none=>simp [hl] at h
  | some l=>rw [SV.denL_mono hN cs hl];simpa [hl] using h
 | .mp r,x,h=>by
  simp only [SV.den] at h ⊢
  cases hr:N[r]? with
  | none=>simp [hr] at h
  | some p=>rw [hN r p hr];simpa [hr] using h
 | .ch r,x,h=>by
  simp only [SV.den] at h ⊢
  cases hr:N[r]? with
  | none=>simp [hr] at h
  | some p=>rw [hN r p hr];simpa [hr] using h
theorem SV.denL_mono {N N':Nums} (hN:N.le N'):∀ (s:List SV) {x:List Value},SV.denL N s=some x→SV.denL N' s=some x
 | [],x,h=>h
 | c::cs,x,h=>by
  simp only [SV.denL] at h ⊢
  cases hc:c.den N with
  | none=>simp [hc] at h
  | some v =>
   cases hl:SV.denL N cs with
   | none=>simp [hc,hl] at h
   | some l=>rw [SV.den_mono hN c hc,SV.denL_mono hN cs hl];simpa [hc,hl] using h
end
theorem SV.denL_get {N:Nums}:∀ (s:List SV) {l:List Value},SV.denL N s=some l→l.length=s.length∧∀ (j:Nat) (c:SV),s[j]?=some c→∃ v,c.den N=some v∧l[j]?=some v
 | [],l,h=>by simp only [SV.denL,Option.some.injEq] at h;subst h;simp
 | c::cs,l,h=>by
  simp only [SV.denL] at h
  cases hc:c.den N with
  | none=>simp [hc] at h
  | some v =>
   cases hl:SV.denL N cs with
   | none=>simp [hc,hl] at h
   | some m =>
    simp only [hc,hl,Option.some.injEq] at h;subst h
    obtain ⟨h1,h2⟩:=SV.denL_get cs hl
    refine ⟨by simp [h1],fun j d hj=>?_⟩
    cases j with
    | zero=>simp at hj;subst hj;exact ⟨v,hc,rfl⟩
    | succ j=>simp at hj ⊢;exact h2 j d hj
theorem SV.denL_of {N:Nums}:∀ (s:List SV),(∀ (j:Nat) (c:SV),s[j]?=some c→∃ v,c.den N=some v)→∃ l,SV.denL N s=some l
 | [],_=>⟨[],rfl⟩
 | c::cs,h=>by
  obtain ⟨v,hv⟩:=h 0 c rfl
  obtain ⟨l,hl⟩:=SV.denL_of cs (fun j d hj=>h (j+1) d (by simpa using hj))
  exact ⟨v::l,by simp [SV.denL,hv,hl]⟩
theorem SV.denL_append {N:Nums}:∀ (s t:List SV) {l m:List Value},SV.denL N s=some l→SV.denL N t=some m→SV.denL N (s++t)=some (l++m)
 | [],t,l,m,h,k=>by simp only [SV.denL,Option.some.injEq] at h;subst h;simpa using k
 | c::cs,t,l,m,h,k=>by
  simp only [SV.denL] at h
  cases hc:c.den N with
  | none=>simp [hc] at h
  | some v =>
   cases hl:SV.denL N cs with
   | none=>simp [hc,hl] at h
   | some q =>
    simp only [hc,hl,Option.some.injEq] at h;subst h
    simp [SV.denL,hc,SV.denL_append cs t hl k]
def SV.cells:SV→List SV
 | .agg cs=>cs
 | v=>[v]
def SV.one:SV→Bool
 | .int _ _=>true
 | .bool _=>true
 | .own _ _=>true
 | .ext _ _ _=>true
 | .sl _ _ _ _=>true
 | .slv _ _ _=>true
 | .raw _=>true
 | .osl _ _ _ _ _=>true
 | .fn _ _=>true
 | .mp _=>true
 | .ch _=>true
 | _=>false
theorem SV.one_spec {N:Nums} {s:SV} {x:Value} (h:s.one=true) (hd:s.den N=some x):one? x=true∧x.cells=#[x]:=by
 cases s<;>simp [SV.one] at h<;>simp only [SV.den] at hd
 case own r c=>cases hr:N[r]?<;>simp [hr] at hd;subst hd;exact ⟨rfl,rfl⟩
 case osl r c n z k=>cases hr:N[r]?<;>simp [hr] at hd;subst hd;exact ⟨rfl,rfl⟩
 case mp r=>cases hr:N[r]?<;>simp [hr] at hd;subst hd;exact ⟨rfl,rfl⟩
 case ch r=>cases hr:N[r]?<;>simp [hr] at hd;subst hd;exact ⟨rfl,rfl⟩
 case fn f cs=>cases hr:SV.denL N cs<;>simp [hr] at hd;subst hd;exact ⟨rfl,rfl⟩
 case raw v =>
  split at hd
  ·simp at hd;subst hd
   rename_i hv
   refine ⟨hv,?_⟩
   cases v<;>first | rfl | simp [one?] at hv
  ·simp at hd
 all_goals (simp at hd;subst hd;exact ⟨rfl,rfl⟩)
theorem beq_ne {a b:Nat} (h:a≠b):Nat.beq a b=false:=by
 cases e:Nat.beq a b with
 | false=>rfl
 | true=>exact absurd (Nat.eq_of_beq_eq_true e) h
inductive FV where
 | val (v:SV)
 | opt (j:Nat) (w:Bool) (v:SV)
 | dead
 deriving Inhabited
abbrev Fr:=List (Nat × FV)
def look:Fr→Nat→FV
 | [],_=>.dead
 | (k,v)::r,t=>bif Nat.beq k t then v else look r t
def FV.off (d:Nat):FV→FV
 | .opt j w v=>bif Nat.beq j d then .dead else .opt j w v
 | e=>e
def drop:Fr→Nat→Fr
 | [],_=>[]
 | (k,v)::r,d=>bif Nat.beq k d then drop r d else (k,v.off d)::drop r d
def upd (f:Fr) (d:Nat) (v:FV):Fr:=(d,v)::drop f d
theorem look_drop (f:Fr) (d t:Nat) (h:d≠t):look (drop f d) t=(look f t).off d:=by
 induction f with
 | nil=>rfl
 | cons p r ih =>
  obtain ⟨k,x⟩:=p
  by_cases hk:k=d
  ·subst hk
   simp only [drop,Nat.beq_refl,cond_true,look,beq_ne h,cond_false]
   exact ih
  ·simp only [drop,beq_ne hk,cond_false,look]
   by_cases hkt:k=t
   ·subst hkt;simp
   ·simp only [beq_ne hkt,cond_false];exact ih
theorem look_upd_same (f:Fr) (d:Nat) (v:FV):look (upd f d v) d=v:=by simp [upd,look]
theorem look_upd_ne (f:Fr) (d t:Nat) (v:FV) (h:d≠t):look (upd f d v) t=(look f t).off d:=by
 simp only [upd,look,beq_ne h,cond_false];exact look_drop f d t h
inductive Ob where
 | map (es:List (SV × SV × Nat)) (clock:Nat)
 | chan (cap:Nat) (buf:List SV) (closed:Bool) (sent rcvd:Nat)
 deriving Inhabited
def denEs (N:Nums):List (SV × SV × Nat)→Option (List MapEntry)
 | []=>some []
 | (k,v,b)::r=>match k.den N,v.den N,denEs N r with
  | some k,some v,some l=>some (⟨k,v,b⟩::l)
  | _,_,_=>none
def Ob.den (N:Nums):Ob→Option Obj
 | .map es c=>match denEs N es with
  | some l=>some (.map l.toArray c)
  | none=>none
 | .chan cap buf cl s r=>match SV.denL N buf with
  | some l=>some (.chan cap l.toArray cl s r false)
  | none=>none
theorem denEs_mono {N N':Nums} (hN:N.le N'):∀ (es:List (SV × SV × Nat)) {l:List MapEntry},denEs N es=some l→denEs N' es=some l
 | [],_,h=>h
 | (k,v,b)::r,l,h=>by
  simp only [denEs] at h ⊢
  cases hk:k.den N with
  | none=>simp [hk] at h
  | some k' =>
   cases hv:v.den N with
   | none=>simp [hk,hv] at h
   | some v' =>
    cases hr:denEs N r with
    | none=>simp [hk,hv,hr] at h
    | some l'=>rw [SV.den_mono hN k hk,SV.den_mono hN v hv,denEs_mono hN r hr];simpa [hk,hv,hr] using h
theorem Ob.den_mono {N N':Nums} (hN:N.le N') (ob:Ob) {x:Obj} (h:ob.den N=some x):ob.den N'=some x:=by
 cases ob with
 | map es c =>
  simp only [Ob.den] at h ⊢
  cases hl:denEs N es with
  | none=>simp [hl] at h
  | some l=>rw [denEs_mono hN es hl];simpa [hl] using h
 | chan cap buf cl s r =>
  simp only [Ob.den] at h ⊢
  cases hl:SV.denL N buf with
  | none=>simp [hl] at h
  | some l=>rw [SV.denL_mono hN buf hl];simpa [hl] using h
structure Rg where
 own:Bool
 cells:List SV
 ob:Option Ob:=none
 deriving Inhabited
structure St where
 fr:Fr
 rg:List Rg
 deriving Inhabited
def FV.ok (N:Nums) (a:Act) (t:Nat):FV→Prop
 | .val v=>∃ x,v.den N=some x∧a.tmps[t]?=some x
 | .opt j w v=>(a.tmps[j]?=some (.bool w)→∃ x,v.den N=some x∧a.tmps[t]?=some x)∧(¬a.tmps[j]?=some (.bool w)→a.tmps[t]?=some undef)
 | .dead=>True
structure FrOk (n:Nat) (N:Nums) (f:Fr) (a:Act):Prop where
 size:a.tmps.size=n
 defers:a.defers=[]
 ok:∀ t,(look f t).ok N a t
theorem FV.ok_mono {N N':Nums} {a:Act} {t:Nat} (hN:N.le N') {e:FV} (h:e.ok N a t):e.ok N' a t:=by
 cases e with
 | val v=>obtain ⟨x,h1,h2⟩:=h;exact ⟨x,SV.den_mono hN v h1,h2⟩
 | opt j w v=>exact ⟨fun e=>let ⟨x,h1,h2⟩:=h.1 e;⟨x,SV.den_mono hN v h1,h2⟩,h.2⟩
 | dead=>trivial
theorem FrOk.mono {n:Nat} {N N':Nums} {f:Fr} {a:Act} (hN:N.le N') (h:FrOk n N f a):FrOk n N' f a :=
 ⟨h.size,h.defers,fun t=>FV.ok_mono hN (h.ok t)⟩
theorem FrOk.put {n:Nat} {N:Nums} {f:Fr} {a:Act} {d:Nat} {e:FV} {x:Value} (h:FrOk n N f a) (hd:d<n) (he:e.ok N (a.put (some d) x) d) :
  FrOk n N (upd f d e) (a.put (some d) x):=by
 refine ⟨by simpa [Act.put] using h.size,by simpa [Act.put] using h.defers,fun t=>?_⟩
 by_cases hdt:d=t
 ·subst hdt;rw [look_upd_same];exact he
 ·rw [look_upd_ne _ _ _ _ hdt]
  have keep:∀ j,d≠j→(a.put (some d) x).tmps[j]?=a.tmps[j]?:=fun j hj=>by
   simp only [Act.put];rw [Array.getElem?_setIfInBounds_ne hj]
  have:=h.ok t
  cases hl:look f t with
  | val v=>rw [hl] at this;obtain ⟨y,h1,h2⟩:=this;exact ⟨y,h1,by rw [keep t hdt];exact h2⟩
  | dead=>trivial
  | opt j w v =>
   rw [hl] at this
   simp only [FV.off]
   by_cases hj:j=d
   ·subst hj;simp;trivial
   ·simp only [beq_ne hj,cond_false]
    show (_→_)∧(_→_)
    rw [keep t hdt,keep j (fun e=>hj e.symm)]
    exact this
theorem FrOk.put_val {n:Nat} {N:Nums} {f:Fr} {a:Act} {d:Nat} {s:SV} {x:Value} (h:FrOk n N f a) (hd:d<n) (hs:s.den N=some x) :
  FrOk n N (upd f d (.val s)) (a.put (some d) x) :=
 h.put hd ⟨x,hs,by simp [Act.put,h.size,hd]⟩
def ofVal:Value→SV
 | .int k z=>.int k (.lit z)
 | .bool b=>.bool (.lit b)
 | v=>.raw v
theorem ofVal_den {N:Nums} {v:Value} (h:one? v=true):(ofVal v).den N=some v:=by
 cases v<;>simp [ofVal,SV.den,SI.den,SB.den,one?] at h ⊢
def evC:Operand→Option SV
 | .tmp _=>none
 | .const v=>bif one? v then some (ofVal v) else none
 | .global g=>some (.ext g 0 0)
 | .func g=>some (.raw (.func (.func g) #[] #[]))
theorem evC_sound {N:Nums} {a:Act} {o:Operand} {s:SV} (he:evC o=some s):s.den N=some (a.eval o):=by
 cases o with
 | tmp t=>simp [evC] at he
 | const v =>
  simp only [evC] at he
  cases hv:one? v with
  | false=>simp [hv] at he
  | true=>simp [hv] at he;subst he;simpa [Act.eval] using ofVal_den hv
 | global g=>simp [evC] at he;subst he;simp [SV.den,Act.eval]
 | func g=>simp [evC] at he;subst he;simp [SV.den,Act.eval,one?]
def ev (f:Fr):Operand→Option SV
 | .tmp t=>match look f t with
  | .val v=>some v
  | _=>none
 | o=>evC o
theorem ev_sound {n:Nat} {N:Nums} {f:Fr} {a:Act} (h:FrOk n N f a) {o:Operand} {s:SV} (he:ev f o=some s):s.den N=some (a.eval o):=by
 cases o with
 | tmp t =>
  simp only [ev] at he
  have:=h.ok t
  cases hl:look f t with
  | val v =>
   rw [hl] at this he
   simp at he;subst he
   obtain ⟨x,h1,h2⟩:=this
   simp [Act.eval,h2,h1]
  | opt j w v=>rw [hl] at he;simp at he
  | dead=>rw [hl] at he;simp at he
 | const v=>exact evC_sound he
 | global g=>exact evC_sound he
 | func g=>exact evC_sound he
def imp (f:Fr):Nat→Nat→Bool→Nat→Bool→Bool
 | 0,_,_,_,_=>false
 | m+1,k,w,j,x=>(Nat.beq k j&&(w == x)) ||
  match look f k with
  | .opt j' w' _=>imp f m j' w' j x
  | _=>false
theorem imp_sound {n:Nat} {N:Nums} {f:Fr} {a:Act} (h:FrOk n N f a):∀ (m k:Nat) (w:Bool) (j:Nat) (x:Bool),imp f m k w j x=true→a.tmps[k]?=some (.bool w)→a.tmps[j]?=some (.bool x)
 | 0,_,_,_,_,hi,_=>by simp [imp] at hi
 | m+1,k,w,j,x,hi,hk=>by
  simp only [imp,Bool.or_eq_true,Bool.and_eq_true,beq_iff_eq] at hi
  rcases hi with ⟨h1,h2⟩ | hi
  ·have:=Nat.eq_of_beq_eq_true h1;subst this;subst h2;exact hk
  ·have hok:=h.ok k
   cases hl:look f k with
   | val v=>rw [hl] at hi;simp at hi
   | dead=>rw [hl] at hi;simp at hi
   | opt j' w' v =>
    rw [hl] at hi hok
    have h2:=hok.2
    rw [hk] at h2
    refine imp_sound h m j' w' j x hi ?_
    by_cases hj:a.tmps[j']?=some (.bool w')
    ·exact hj
    ·have:=h2 hj;simp [undef] at this
def evG (f:Fr) (k:Nat) (w:Bool):Operand→Option SV
 | .tmp t=>match look f t with
  | .val v=>some v
  | .opt j x v=>bif imp f 40 k w j x then some v else none
  | .dead=>none
 | o=>evC o
theorem evG_sound {n:Nat} {N:Nums} {f:Fr} {a:Act} {k:Nat} {w:Bool} (h:FrOk n N f a) (hk:a.tmps[k]?=some (.bool w)) {o:Operand} {s:SV} (he:evG f k w o=some s):s.den N=some (a.eval o):=by
 cases o with
 | tmp t =>
  simp only [evG] at he
  have:=h.ok t
  cases hl:look f t with
  | val v =>
   rw [hl] at this he
   simp at he;subst he
   obtain ⟨x,h1,h2⟩:=this
   simp [Act.eval,h2,h1]
  | opt j x v =>
   rw [hl] at this he
   simp only at he
   cases hi:imp f 40 k w j x with
   | false=>rw [hi] at he;simp at he
   | true =>
    rw [hi] at he;simp at he;subst he
    obtain ⟨y,h1,h2⟩:=this.1 (imp_sound h 40 k w j x hi hk)
    simp [Act.eval,h2,h1]
  | dead=>rw [hl] at he;simp at he
 | const v=>exact evC_sound he
 | global g=>exact evC_sound he
 | func g=>exact evC_sound he
structure Chg (O:Nat→Nat→Prop) (w w':World):Prop where
 os:w'.os=w.os
 tape:w'.tape=w.tape
 output:w'.output=w.output
 size:w.heap.size≤w'.heap.size
 dr:w.drawn≤w'.drawn
 same:∀ (k:Nat),k<w.heap.size→(∀ o,¬O k o)→w'.heap[k]?=w.heap[k]?
 cells:∀ (k:Nat) c e f,w.heap[k]?=some (.cells c e f)→∃ c',w'.heap[k]?=some (.cells c' e f)∧c'.size=c.size∧∀ o,¬O k o→c'[o]?=c[o]?
theorem Chg.refl (O:Nat→Nat→Prop) (w:World):Chg O w w:=⟨rfl,rfl,rfl,Nat.le_refl _,Nat.le_refl _,fun _ _ _=>rfl,fun _ c _ _ h=>⟨c,h,rfl,fun _ _=>rfl⟩⟩
theorem Chg.trans {O O':Nat→Nat→Prop} {a b c:World} (h:Chg O a b) (k:Chg O' b c) (hO:∀ i o,i<a.heap.size→O' i o→O i o):Chg O a c:=by
 refine ⟨k.os.trans h.os,k.tape.trans h.tape,k.output.trans h.output,Nat.le_trans h.size k.size,Nat.le_trans h.dr k.dr,fun i hi hn=>?_,fun i cs e f hc=>?_⟩
 ·rw [k.same i (Nat.lt_of_lt_of_le hi h.size) (fun o ho=>hn o (hO i o hi ho)),h.same i hi hn]
 ·have hi:i<a.heap.size:=by
   rcases Nat.lt_or_ge i a.heap.size with h' | h'
   ·exact h'
   ·simp [Array.getElem?_eq_none h'] at hc
  obtain ⟨c1,h1,h2,h3⟩:=h.cells i cs e f hc
  obtain ⟨c2,k1,k2,k3⟩:=k.cells i c1 e f h1
  exact ⟨c2,k1,k2.trans h2,fun o ho=>(k3 o (fun x=>ho (hO i o hi x))).trans (h3 o ho)⟩
theorem Chg.mono {O O':Nat→Nat→Prop} {a b:World} (h:Chg O a b) (hO:∀ i o,i<a.heap.size→O i o→O' i o):Chg O' a b:=by
 refine ⟨h.os,h.tape,h.output,h.size,h.dr,fun k hk hn=>h.same k hk (fun o ho=>hn o (hO k o hk ho)),fun k c e f hc=>?_⟩
 have hk:k<a.heap.size:=by
  rcases Nat.lt_or_ge k a.heap.size with h' | h'
  ·exact h'
  ·simp [Array.getElem?_eq_none h'] at hc
 obtain ⟨c1,h1,h2,h3⟩:=h.cells k c e f hc
 exact ⟨c1,h1,h2,fun o ho=>h3 o (fun x=>ho (hO k o hk x))⟩
theorem Chg.drew {O:Nat→Nat→Prop} {a w:World} (h:Chg O a w):Chg O a w.drew:=⟨h.os,h.tape,h.output,h.size,Nat.le_succ_of_le h.dr,h.same,h.cells⟩
theorem Chg.alloc {O:Nat→Nat→Prop} {a w:World} (h:Chg O a w) (o:Obj):Chg O a (w.alloc o):=by
 have e:∀ k,k<w.heap.size→(w.alloc o).heap[k]?=w.heap[k]?:=fun k hk=>by
  show (w.heap.push o)[k]?=_
  rw [Array.getElem?_push,if_neg (by omega)]
 have lt:∀ {k x},w.heap[k]?=some x→k<w.heap.size:=fun hx=>(Array.getElem?_eq_some_iff.1 hx).1
 refine ⟨h.os,h.tape,h.output,by simp;have:=h.size;omega,h.dr,fun k hk hn=>?_,fun k c e' f hc=>?_⟩
 ·rw [e k (Nat.lt_of_lt_of_le hk h.size)];exact h.same k hk hn
 ·obtain ⟨c',h1,h2,h3⟩:=h.cells k c e' f hc
  exact ⟨c',by rw [e k (lt h1)];exact h1,h2,h3⟩
theorem Chg.setCell {O:Nat→Nat→Prop} {a w:World} (h:Chg O a w) {k o:Nat} (ho:a.heap.size≤k∨O k o) (v:Value):Chg O a (w.setCell ⟨k,o,none⟩ v):=by
 refine ⟨h.os,h.tape,h.output,by simpa [World.setCell] using h.size,h.dr,fun i hi hn=>?_,fun i c e f hc=>?_⟩
 ·have hne:i≠k:=fun e=>by subst e;rcases ho with ho | ho;omega;exact hn o ho
  simp only [World.setCell,Array.getElem?_modify]
  rw [if_neg (fun e=>hne e.symm)]
  exact h.same i hi hn
 ·have hi:i<a.heap.size:=(Array.getElem?_eq_some_iff.1 hc).1
  obtain ⟨c',h1,h2,h3⟩:=h.cells i c e f hc
  simp only [World.setCell,Array.getElem?_modify]
  by_cases hik:k=i
  ·subst hik
   refine ⟨c'.setIfInBounds o v,by simp [h1],by simpa using h2,fun j hj=>?_⟩
   have:o≠j:=fun e=>by subst e;rcases ho with ho | ho;omega;exact hj ho
   rw [Array.getElem?_setIfInBounds_ne this]
   exact h3 j hj
  ·rw [if_neg hik];exact ⟨c',h1,h2,h3⟩
structure Env where
 P:Program
 n:Nat
 Q:Exit→Act→World→Prop
 W:World
 O:Nat→Nat→Prop
 im:Nat→Nat→Option Value
 D:Nat→Nat→Prop
 R:World→Prop
def objAt (w:World) (k:Nat):Option Obj :=
 match w.heap[k]? with
 | some (.cells _ _ _)=>none
 | x=>x
def There (w:World) (k o:Nat):Prop:=(w.cell? ⟨k,o,none⟩).isSome=true∨(objAt w k).isSome=true
def Loc (D:Nat→Nat→Prop) (R:World→Prop):Prop :=
 ∀ w w':World,(∀ k o,D k o→(w'.cell? ⟨k,o,none⟩=w.cell? ⟨k,o,none⟩∧w'.frozen? ⟨k,o,none⟩=w.frozen? ⟨k,o,none⟩)∧objAt w' k=objAt w k)→w.heap.size≤w'.heap.size→R w→R w'
theorem Loc.cells {D:Nat→Nat→Prop} {R:World→Prop} (h:∀ w w':World,(∀ k o,D k o→w'.cell? ⟨k,o,none⟩=w.cell? ⟨k,o,none⟩∧w'.frozen? ⟨k,o,none⟩=w.frozen? ⟨k,o,none⟩)→w.heap.size≤w'.heap.size→R w→R w'):Loc D R :=
 fun w w' h1 h2 h3=>h w w' (fun k o hd=>(h1 k o hd).1) h2 h3
theorem objAt_same {w w':World} {k:Nat} (h:w'.heap[k]?=w.heap[k]?):objAt w' k=objAt w k:=by
 unfold objAt;rw [h]
theorem objAt_some {w:World} {k:Nat} {x:Obj} (h:w.heap[k]?=some x) (hn:∀ c e f,x≠.cells c e f):objAt w k=some x:=by
 unfold objAt;rw [h]
 cases x with
 | cells c e f=>exact absurd rfl (hn c e f)
 | _=>rfl
theorem heap_objAt {w:World} {k:Nat} {x:Obj} (h:objAt w k=some x):w.heap[k]?=some x:=by
 unfold objAt at h
 split at h
 ·cases h
 ·exact h
theorem There.lt {w:World} {k o:Nat} (h:There w k o):k<w.heap.size:=by
 rcases h with h | h
 ·obtain ⟨u,hu⟩:=Option.isSome_iff_exists.1 h
  exact World.block_lt_of_cell? _ _ hu
 ·obtain ⟨x,hx⟩:=Option.isSome_iff_exists.1 h
  exact (Array.getElem?_eq_some_iff.1 (heap_objAt hx)).1
theorem There.of {w w':World} {k o:Nat} (h:There w k o) (hc:(w.cell? ⟨k,o,none⟩).isSome=true→(w'.cell? ⟨k,o,none⟩).isSome=true) (ho:objAt w' k=objAt w k):There w' k o :=
 h.imp hc (fun h=>by rw [ho];exact h)
theorem objAt_setCell (w:World) (b o:Nat) (v:Value) (k:Nat):objAt (w.setCell ⟨b,o,none⟩ v) k=objAt w k:=by
 unfold objAt
 simp only [World.setCell,Array.getElem?_modify]
 by_cases e:b=k
 ·rw [if_pos e]
  cases h:w.heap[k]? with
  | none=>rfl
  | some x=>cases x<;>rfl
 ·rw [if_neg e]
theorem objAt_alloc (w:World) (x:Obj) {k:Nat} (hk:k<w.heap.size):objAt (w.alloc x) k=objAt w k :=
 objAt_same (by show (w.heap.push x)[k]?=_;rw [Array.getElem?_push,if_neg (by omega)])
def Rg.wid (g:Rg) (p:Num):Nat:=bif g.own then p.x else g.cells.length
structure Sat (E:Env) (N:Nums) (rg:List Rg) (w:World):Prop where
 len:N.length=rg.length
 lt:∀ (r:Nat) (p:Num),N[r]?=some p→p.b<w.heap.size
 cell:∀ (r:Nat) (g:Rg) (p:Num),rg[r]?=some g→N[r]?=some p→∀ (j:Nat) (c:SV),g.cells[j]?=some c →
  ∃ v,c.den N=some v∧w.cell? ⟨p.b,p.o+j,none⟩=some v
 ext:∀ (r:Nat) (g:Rg) (p:Num),rg[r]?=some g→N[r]?=some p→g.own=true→g.cells.length≤p.x
 room:∀ (r:Nat) (g:Rg) (p:Num),rg[r]?=some g→N[r]?=some p→g.own=true→∀ j,j<p.x→(w.cell? ⟨p.b,p.o+j,none⟩).isSome=true∧w.frozen? ⟨p.b,p.o+j,none⟩=false
 disj:∀ (r r':Nat) (g g':Rg) (p p':Num),rg[r]?=some g→N[r]?=some p→rg[r']?=some g'→N[r']?=some p'→g.own=true→r≠r' →
  ∀ j,j<g'.wid p'→p'.b=p.b→p'.o+j<p.o∨p.o+p.x≤p'.o+j
 obj:∀ (r:Nat) (g:Rg) (p:Num) (ob:Ob),rg[r]?=some g→N[r]?=some p→g.ob=some ob→(∃ o,ob.den N=some o∧w.heap[p.b]?=some o)∧E.W.heap.size≤p.b∧∀ o,¬E.D p.b o
 odisj:∀ (r r':Nat) (g g':Rg) (p p':Num),rg[r]?=some g→N[r]?=some p→rg[r']?=some g'→N[r']?=some p'→g.ob.isSome=true→g'.ob.isSome=true→r≠r'→p.b≠p'.b
 imm:∀ k o v,E.im k o=some v→w.cell? ⟨k,o,none⟩=some v
 imd:∀ (r:Nat) (g:Rg) (p:Num),rg[r]?=some g→N[r]?=some p→g.own=true→∀ j,j<p.x→E.im p.b (p.o+j)=none
 dd:∀ (r:Nat) (g:Rg) (p:Num),rg[r]?=some g→N[r]?=some p→g.own=true→∀ j,j<p.x→¬E.D p.b (p.o+j)
 dlt:∀ k o,E.D k o→There w k o
 loc:Loc E.D E.R
 res:E.R w
 chg:Chg E.O E.W w
 foot:∀ (r:Nat) (g:Rg) (p:Num),rg[r]?=some g→N[r]?=some p→g.own=true→E.W.heap.size≤p.b∨∀ j,j<p.x→E.O p.b (p.o+j)
theorem Sat.drew {E:Env} {N:Nums} {rg:List Rg} {w:World} (h:Sat E N rg w):Sat E N rg w.drew :=
 { h with res:=h.loc w w.drew (fun _ _ _=>⟨⟨rfl,rfl⟩,rfl⟩) (Nat.le_refl _) h.res,chg:=h.chg.drew }
structure Vis (N:Nums) (rg:List Rg) (w:World):Prop where
 len:rg.length≤N.length
 cell:∀ (r:Nat) (g:Rg) (p:Num),rg[r]?=some g→N[r]?=some p→∀ (j:Nat) (c:SV),g.cells[j]?=some c →
  ∃ v,c.den N=some v∧w.cell? ⟨p.b,p.o+j,none⟩=some v
 ext:∀ (r:Nat) (g:Rg) (p:Num),rg[r]?=some g→N[r]?=some p→g.own=true→g.cells.length≤p.x
theorem Sat.vis {E:Env} {N:Nums} {rg:List Rg} {w:World} (h:Sat E N rg w):Vis N rg w:=⟨Nat.le_of_eq h.len.symm,h.cell,h.ext⟩
theorem addr_add (k o j:Nat):(Addr.mk k o none).add j=⟨k,o+j,none⟩:=by
 unfold Addr.add
 by_cases h:j=0
 ·subst h;simp
 ·simp [h]
theorem Vis.load {P:Program} {N:Nums} {rg:List Rg} {w:World} (h:Vis N rg w) {r c n:Nat} {g:Rg} (hg:rg[r]?=some g) (hc:c+n≤g.cells.length) :
  ∃ p l,N[r]?=some p∧SV.denL N ((g.cells.drop c).take n)=some l∧l.length=n∧(loadCells ⟨p.b,p.o+c,none⟩ n).run P w=.ok l.toArray w:=by
 have hr:r<N.length:=Nat.lt_of_lt_of_le (List.getElem?_eq_some_iff.1 hg).1 h.len
 obtain ⟨p,hp⟩:∃ p,N[r]?=some p:=⟨_,List.getElem?_eq_getElem hr⟩
 have hcell:=h.cell r g p hg hp
 have hlen:((g.cells.drop c).take n).length=n:=by simp;omega
 obtain ⟨l,hl⟩:=SV.denL_of (N:=N) ((g.cells.drop c).take n) (fun j d hj=>by
  rw [List.getElem?_take] at hj
  split at hj
  ·rw [List.getElem?_drop] at hj
   obtain ⟨v,hv,_⟩:=hcell (c+j) d hj
   exact ⟨v,hv⟩
  ·simp at hj)
 obtain ⟨h1,h2⟩:=SV.denL_get _ hl
 have h3:l.length=n:=by rw [h1,hlen]
 refine ⟨p,l,hp,hl,h3,?_⟩
 have:=run_loadCells_list (P:=P) w ⟨p.b,p.o+c,none⟩ l (fun j v hj=>by
  have hjn:j<n:=by rw [←h3];exact (List.getElem?_eq_some_iff.1 hj).1
  have hd:((g.cells.drop c).take n)[j]?=g.cells[c+j]?:=by rw [List.getElem?_take,if_pos hjn,List.getElem?_drop]
  have hlt:c+j<g.cells.length:=by omega
  obtain ⟨d,hd'⟩:∃ d,g.cells[c+j]?=some d:=⟨_,List.getElem?_eq_getElem hlt⟩
  obtain ⟨v',hv',hl'⟩:=h2 j d (by rw [hd,hd'])
  obtain ⟨v'',hv'',hw⟩:=hcell (c+j) d hd'
  rw [hv'] at hv''
  rw [hl'] at hj
  cases hv'';cases hj
  rw [addr_add,Nat.add_assoc]
  exact hw)
 rw [h3] at this
 exact this
theorem Vis.load1 {N:Nums} {rg:List Rg} {w:World} (h:Vis N rg w) {r c:Nat} {g:Rg} {d:SV} (hg:rg[r]?=some g) (hc:g.cells[c]?=some d) :
  ∃ p v,N[r]?=some p∧d.den N=some v∧w.cell? ⟨p.b,p.o+c,none⟩=some v:=by
 have hr:r<N.length:=Nat.lt_of_lt_of_le (List.getElem?_eq_some_iff.1 hg).1 h.len
 obtain ⟨p,hp⟩:∃ p,N[r]?=some p:=⟨_,List.getElem?_eq_getElem hr⟩
 obtain ⟨v,h1,h2⟩:=h.cell r g p hg hp c d hc
 exact ⟨p,v,hp,h1,h2⟩
theorem one_oneCell {v:Value} (h:one? v=true):v.oneCell'=true:=by
 cases v<;>first | rfl | simp [one?] at h
theorem list_set_same {α:Type} (l:List α) (r:Nat) (x:α) (h:l[r]?=some x):l.set r x=l:=by
 apply List.ext_getElem?
 intro i
 by_cases e:r=i
 ·subst e;rw [List.getElem?_set_self (List.getElem?_eq_some_iff.1 h).1,h]
 ·rw [List.getElem?_set_ne e]
theorem get_set {α:Type} {l:List α} {r i:Nat} {g' x:α} (hr:r<l.length) (hx:(l.set r g')[i]?=some x):(i=r∧x=g')∨(i≠r∧l[i]?=some x):=by
 by_cases hi:r=i
 ·subst hi
  rw [List.getElem?_set_self hr] at hx
  cases hx
  exact .inl ⟨rfl,rfl⟩
 ·rw [List.getElem?_set_ne hi] at hx
  exact .inr ⟨fun e=>hi e.symm,hx⟩
theorem Sat.put1 {E:Env} {N:Nums} {rg:List Rg} {w:World} (h:Sat E N rg w) {r c:Nat} {g g':Rg} {p:Num} {s:SV} {v:Value} (hg:rg[r]?=some g) (hp:N[r]?=some p)
  (ho:g.own=true) (hc:c<p.x) (hs:s.den N=some v) (ho':g'.own=true) (hob:g'.ob=g.ob) (hl:g'.cells.length≤p.x)
  (hcs:∀ (j:Nat) (d:SV),g'.cells[j]?=some d→(j=c∧d=s)∨(j≠c∧g.cells[j]?=some d)) :
  Sat E N (rg.set r g') (w.setCell ⟨p.b,p.o+c,none⟩ v):=by
 have hrl:r<rg.length:=(List.getElem?_eq_some_iff.1 hg).1
 obtain ⟨hsome,hfz⟩:=h.room r g p hg hp ho c hc
 obtain ⟨v0,hw0⟩:=Option.isSome_iff_exists.1 hsome
 have keep:∀ (k o:Nat) (u:Value),(k=p.b→o≠p.o+c)→w.cell? ⟨k,o,none⟩=some u→(w.setCell ⟨p.b,p.o+c,none⟩ v).cell? ⟨k,o,none⟩=some u:=by
  intro k o u hne hu
  rw [World.cell?_setCell_other _ _ _ _ (fun e=>by
   have e1:=congrArg Addr.block e
   have e2:=congrArg Addr.off e
   simp at e1 e2
   exact hne e1.symm e2.symm)]
  exact hu
 have width:∀ q:Num,q=p→g'.wid q=g.wid q:=fun q hq=>by simp [Rg.wid,ho,ho']
 refine ⟨by simpa using h.len,fun i q hq=>by simpa using h.lt i q hq,?_,?_,?_,?_,?_,?_,?_,?_,?_,fun k o hk=>(h.dlt k o hk).of (fun hs=>by
  obtain ⟨u,hu⟩:=Option.isSome_iff_exists.1 hs
  rw [keep k o u (fun e1 e2=>h.dd r g p hg hp ho c hc (by rw [←e1,←e2];exact hk)) hu];rfl) (objAt_setCell _ _ _ _ _),h.loc,?_,?_,?_⟩
 ·intro i x q hx hq j d hj
  rcases get_set hrl hx with ⟨rfl,rfl⟩ | ⟨hi,hx⟩
  ·rw [hp] at hq;cases hq
   rcases hcs j d hj with ⟨rfl,rfl⟩ | ⟨hjc,hj⟩
   ·exact ⟨v,hs,World.cell?_setCell_same _ _ _ hw0⟩
   ·obtain ⟨u,h1,h2⟩:=h.cell i g p hg hp j d hj
    exact ⟨u,h1,keep _ _ _ (fun _=>by omega) h2⟩
  ·obtain ⟨u,h1,h2⟩:=h.cell i x q hx hq j d hj
   refine ⟨u,h1,keep _ _ _ (fun e=>?_) h2⟩
   have hjl:j<x.cells.length:=(List.getElem?_eq_some_iff.1 hj).1
   have hjw:j<x.wid q:=by
    unfold Rg.wid
    cases hxo:x.own with
    | true=>have:=h.ext i x q hx hq hxo;simp;omega
    | false=>simpa using hjl
   rcases h.disj r i g x p q hg hp hx hq ho (fun e=>hi e.symm) j hjw e with hd | hd<;>omega
 ·intro i x q hx hq hox
  rcases get_set hrl hx with ⟨rfl,rfl⟩ | ⟨hi,hx⟩
  ·rw [hp] at hq;cases hq;exact hl
  ·exact h.ext i x q hx hq hox
 ·intro i x q hx hq hox j hj
  rw [World.frozen?_setCell]
  have main:∀ y,rg[i]?=some y→y.own=true→((w.setCell ⟨p.b,p.o+c,none⟩ v).cell? ⟨q.b,q.o+j,none⟩).isSome=true∧w.frozen? ⟨q.b,q.o+j,none⟩=false:=by
   intro y hy hyo
   obtain ⟨k1,k2⟩:=h.room i y q hy hq hyo j hj
   refine ⟨?_,k2⟩
   obtain ⟨u,hu⟩:=Option.isSome_iff_exists.1 k1
   by_cases e:q.b=p.b∧q.o+j=p.o+c
   ·rw [e.1,e.2,World.cell?_setCell_same _ _ _ hw0];rfl
   ·rw [keep _ _ _ (fun e1 e2=>e ⟨e1,e2⟩) hu];rfl
  rcases get_set hrl hx with ⟨rfl,rfl⟩ | ⟨hi,hx⟩
  ·exact main g hg ho
  ·exact main x hx hox
 ·intro i i' x x' q q' hx hq hx' hq' hox hne j hj hb
  rcases get_set hrl hx with ⟨rfl,rfl⟩ | ⟨hi,hy⟩<;>rcases get_set hrl hx' with ⟨rfl,rfl⟩ | ⟨hi',hy'⟩
  ·exact absurd rfl hne
  ·rw [hp] at hq;cases hq
   exact h.disj i i' g x' p q' hg hp hy' hq' ho hne j hj hb
  ·rw [hp] at hq';cases hq'
   rw [width p rfl] at hj
   exact h.disj i i' x g q p hy hq hg hp hox hne j hj hb
  ·exact h.disj i i' x x' q q' hy hq hy' hq' hox hne j hj hb
 ·have main:∀ (i:Nat) (q:Num) (y:Rg) (ob:Ob),N[i]?=some q→rg[i]?=some y→y.ob=some ob→(∃ o,ob.den N=some o∧(w.setCell ⟨p.b,p.o+c,none⟩ v).heap[q.b]?=some o)∧E.W.heap.size≤q.b∧∀ o,¬E.D q.b o:=by
   intro i q y ob hq hy hyo
   obtain ⟨⟨o,k1,k2⟩,k3⟩:=h.obj i y q ob hy hq hyo
   refine ⟨⟨o,k1,?_⟩,k3⟩
   simp only [World.setCell,Array.getElem?_modify]
   by_cases e:p.b=q.b
   ·rw [if_pos e,k2]
    cases ob<;>simp only [Ob.den] at k1<;>split at k1<;>first | (cases k1;done) | (cases k1;rfl)
   ·rw [if_neg e];exact k2
  intro i x q ob hx hq hob'
  rcases get_set hrl hx with ⟨rfl,rfl⟩ | ⟨hi,hx⟩
  ·exact main i q g ob hq hg (by rw [←hob];exact hob')
  ·exact main i q x ob hq hx hob'
 ·intro i i' x x' q q' hx hq hx' hq' hox hox' hne
  rcases get_set hrl hx with ⟨rfl,rfl⟩ | ⟨hi,hy⟩<;>rcases get_set hrl hx' with ⟨rfl,rfl⟩ | ⟨hi',hy'⟩
  ·exact absurd rfl hne
  ·exact h.odisj i i' g x' q q' hg hq hy' hq' (by rw [←hob];exact hox) hox' hne
  ·exact h.odisj i i' x g q q' hy hq hg hq' hox (by rw [←hob];exact hox') hne
  ·exact h.odisj i i' x x' q q' hy hq hy' hq' hox hox' hne
 ·intro k o u hu
  refine keep _ _ _ (fun e1 e2=>?_) (h.imm k o u hu)
  have:=h.imd r g p hg hp ho c hc
  rw [←e1,←e2,hu] at this
  cases this
 ·intro i x q hx hq hox
  rcases get_set hrl hx with ⟨rfl,rfl⟩ | ⟨hi,hx⟩
  ·exact h.imd i g q hg hq ho
  ·exact h.imd i x q hx hq hox
 ·intro i x q hx hq hox
  rcases get_set hrl hx with ⟨rfl,rfl⟩ | ⟨hi,hx⟩
  ·exact h.dd i g q hg hq ho
  ·exact h.dd i x q hx hq hox
 ·refine h.loc w _ (fun k o hk=>⟨⟨?_,World.frozen?_setCell _ _ _ _⟩,objAt_setCell _ _ _ _ _⟩) (by simp [World.setCell]) h.res
  refine World.cell?_setCell_other _ _ _ _ (fun e=>?_)
  have e1:=congrArg Addr.block e
  have e2:=congrArg Addr.off e
  simp at e1 e2
  exact h.dd r g p hg hp ho c hc (by rw [e1,e2];exact hk)
 ·exact h.chg.setCell ((h.foot r g p hg hp ho).imp id (fun f=>f c hc)) v
 ·intro i x q hx hq hox
  rcases get_set hrl hx with ⟨rfl,rfl⟩ | ⟨hi,hx⟩
  ·exact h.foot i g q hg hq ho
  ·exact h.foot i x q hx hq hox
def putAt {α:Type}:List α→Nat→α→List α
 | [],_,s=>[s]
 | _::l,0,s=>s::l
 | x::l,c+1,s=>x::putAt l c s
theorem putAt_get {α:Type}:∀ (l:List α) (c:Nat) (s:α),c≤l.length→∀ (j:Nat) (d:α),(putAt l c s)[j]?=some d→(j=c∧d=s)∨(j≠c∧l[j]?=some d)
 | [],c,s,hc,j,d,h=>by
  simp only [List.length_nil,Nat.le_zero_eq] at hc;subst hc
  cases j with
  | zero=>simp [putAt] at h;exact .inl ⟨rfl,h.symm⟩
  | succ j=>simp [putAt] at h
 | x::l,0,s,hc,j,d,h=>by
  cases j with
  | zero=>simp [putAt] at h;exact .inl ⟨rfl,h.symm⟩
  | succ j=>simp [putAt] at h;exact .inr ⟨by omega,by simpa using h⟩
 | x::l,c+1,s,hc,j,d,h=>by
  cases j with
  | zero=>simp [putAt] at h;exact .inr ⟨by omega,by simp [h]⟩
  | succ j =>
   simp only [putAt,List.getElem?_cons_succ] at h
   rcases putAt_get l c s (by simpa using hc) j d h with ⟨h1,h2⟩ | ⟨h1,h2⟩
   ·exact .inl ⟨by omega,h2⟩
   ·exact .inr ⟨by omega,by simpa using h2⟩
theorem putAt_length {α:Type}:∀ (l:List α) (c:Nat) (s:α),c≤l.length→(putAt l c s).length=max l.length (c+1)
 | [],c,s,hc=>by simp only [List.length_nil,Nat.le_zero_eq] at hc;subst hc;rfl
 | x::l,0,s,_=>by simp [putAt]
 | x::l,c+1,s,hc=>by simp [putAt,putAt_length l c s (by simpa using hc)]
def setRow (l:List SV) (c:Nat):List SV→List SV
 | []=>l
 | s::r=>setRow (putAt l c s) (c+1) r
theorem setRow_length (l:List SV) (c:Nat) (r:List SV) (h:c≤l.length):(setRow l c r).length=max l.length (c+r.length):=by
 induction r generalizing l c with
 | nil=>simp [setRow];omega
 | cons s r ih=>rw [setRow,ih _ _ (by rw [putAt_length _ _ _ h];omega),putAt_length _ _ _ h];simp;omega
theorem Sat.store {E:Env} {N:Nums} {r:Nat} {p:Num} (hp:N[r]?=some p) (c:Nat):∀ (ss:List SV) (vs:List Value) (i:Nat) {rg:List Rg} {w:World} {g:Rg},Sat E N rg w→rg[r]?=some g →
  g.own=true→c+i≤g.cells.length→c+i+ss.length≤p.x→SV.denL N ss=some vs→(∀ v∈vs,one? v=true) →
  ∃ w',(storeCells ⟨p.b,p.o+c,none⟩ vs i).run E.P w=.ok () w'∧Sat E N (rg.set r { g with cells:=setRow g.cells (c+i) ss }) w'
 | [],vs,i,rg,w,g,h,hg,ho,hl,hx,hd,h1=>by
  simp only [SV.denL,Option.some.injEq] at hd;subst hd
  refine ⟨w,rfl,?_⟩
  simp only [setRow]
  rw [list_set_same _ _ _ (by rw [hg])]
  exact h
 | s::ss,vs,i,rg,w,g,h,hg,ho,hl,hx,hd,h1=>by
  simp only [SV.denL] at hd
  cases hs:s.den N with
  | none=>simp [hs] at hd
  | some v =>
   cases hss:SV.denL N ss with
   | none=>simp [hs,hss] at hd
   | some vs' =>
    simp only [hs,hss,Option.some.injEq] at hd;subst hd
    simp only [List.length_cons] at hx
    have hci:c+i<p.x:=by omega
    have hv:one? v=true:=h1 v (by simp)
    have hext:=h.ext r g p hg hp ho
    have hset:=h.put1 (g':={ g with cells:=putAt g.cells (c+i) s }) hg hp ho hci hs ho rfl (by rw [putAt_length _ _ _ hl];omega) (fun j d hj=>putAt_get _ _ _ hl j d hj)
    have hrl:r<rg.length:=(List.getElem?_eq_some_iff.1 hg).1
    obtain ⟨w',hrun,hsat⟩:=Sat.store hp c ss vs' (i+1) (rg:=rg.set r { g with cells:=putAt g.cells (c+i) s }) (w:=w.setCell ⟨p.b,p.o+(c+i),none⟩ v) (g:={ g with cells:=putAt g.cells (c+i) s })
     hset (List.getElem?_set_self hrl) ho (by simp only;rw [putAt_length _ _ _ hl];omega) (by omega) hss (fun v hv=>h1 v (by simp [hv]))
    obtain ⟨hsome,hfz⟩:=h.room r g p hg hp ho (c+i) hci
    obtain ⟨v0,hw0⟩:=Option.isSome_iff_exists.1 hsome
    refine ⟨w',?_,?_⟩
    ·simp only [storeCells,Sem.run_bind]
     rw [run_store E.P w _ v .plain (one_oneCell hv),addr_add,Nat.add_assoc]
     simp only [hw0,hfz]
     simpa [Result.andThen] using hrun
    ·rw [List.set_set] at hsat
     simpa [setRow,Nat.add_assoc] using hsat
theorem get_snoc {α β:Type} {l:List α} {m:List β} {y:α} {z:β} (hlen:m.length=l.length) {i:Nat} {x:α} {q:β} (hx:(l++[y])[i]?=some x) (hq:(m++[z])[i]?=some q) :
  (l[i]?=some x∧m[i]?=some q)∨(i=l.length∧x=y∧q=z):=by
 rcases Nat.lt_or_ge i l.length with hi | hi
 ·rw [List.getElem?_append_left hi] at hx
  rw [List.getElem?_append_left (by rw [hlen];exact hi)] at hq
  exact .inl ⟨hx,hq⟩
 ·rw [List.getElem?_append_right hi] at hx
  rw [List.getElem?_append_right (by rw [hlen];exact hi)] at hq
  have hz:i-l.length=0:=by
   have:=(List.getElem?_eq_some_iff.1 hx).1
   simp at this;omega
  rw [hlen,hz] at hq
  rw [hz] at hx
  simp at hx hq
  exact .inr ⟨by omega,hx.symm,hq.symm⟩
theorem Sat.allocW {E:Env} {N:Nums} {rg:List Rg} {w:World} (h:Sat E N rg w) (o:Obj) (g0:Rg) (x0:Nat)
  (hc:∀ (j:Nat) (c:SV),g0.cells[j]?=some c→∃ v,c.den (N++[⟨w.heap.size,0,x0⟩])=some v∧(w.alloc o).cell? ⟨w.heap.size,j,none⟩=some v)
  (hx:g0.own=true→g0.cells.length≤x0) (hr:g0.own=true→∀ j,j<x0→((w.alloc o).cell? ⟨w.heap.size,j,none⟩).isSome=true∧(w.alloc o).frozen? ⟨w.heap.size,j,none⟩=false)
  (hob:∀ ob,g0.ob=some ob→ob.den (N++[⟨w.heap.size,0,x0⟩])=some o) :
  Sat E (N++[⟨w.heap.size,0,x0⟩]) (rg++[g0]) (w.alloc o):=by
 have hle:N.le (N++[⟨w.heap.size,0,x0⟩]):=Nums.le_append _ _
 have part:∀ (i:Nat) (x:Rg) (q:Num),(rg++[g0])[i]?=some x→(N++[⟨w.heap.size,0,x0⟩])[i]?=some q →
   (rg[i]?=some x∧N[i]?=some q∧q.b<w.heap.size)∨(i=rg.length∧x=g0∧q=⟨w.heap.size,0,x0⟩):=by
  intro i x q hx hq
  rcases get_snoc h.len hx hq with ⟨a,b⟩ | ⟨a,b,c⟩
  ·exact .inl ⟨a,b,h.lt i q b⟩
  ·exact .inr ⟨a,b,c⟩
 refine ⟨by simp [h.len],?_,?_,?_,?_,?_,?_,?_,?_,?_,?_,fun k o' hk=>(h.dlt k o' hk).of (fun hs=>by rw [World.cell?_alloc_lt _ _ _ (h.dlt k o' hk).lt];exact hs) (objAt_alloc _ _ (h.dlt k o' hk).lt),h.loc,?_,h.chg.alloc _,?_⟩
 ·intro i q hq
  rcases Nat.lt_or_ge i N.length with hi | hi
  ·rw [List.getElem?_append_left hi] at hq
   have:=h.lt i q hq;simp;omega
  ·rw [List.getElem?_append_right hi] at hq
   have hz:i-N.length=0:=by
    have:=(List.getElem?_eq_some_iff.1 hq).1
    simp at this;omega
   rw [hz] at hq;simp at hq;subst hq;simp
 ·intro i x q hx hq j d hj
  rcases part i x q hx hq with ⟨a,b,c⟩ | ⟨a,rfl,rfl⟩
  ·obtain ⟨v,h1,h2⟩:=h.cell i x q a b j d hj
   exact ⟨v,SV.den_mono hle d h1,by rw [World.cell?_alloc_lt _ _ _ c];exact h2⟩
  ·obtain ⟨v,h1,h2⟩:=hc j d hj
   exact ⟨v,h1,by simpa using h2⟩
 ·intro i x q hx' hq hox
  rcases part i x q hx' hq with ⟨a,b,c⟩ | ⟨a,rfl,rfl⟩
  ·exact h.ext i x q a b hox
  ·exact hx hox
 ·intro i x q hx hq hox j hj
  rcases part i x q hx hq with ⟨a,b,c⟩ | ⟨a,rfl,rfl⟩
  ·rw [World.frozen?_alloc_old _ _ _ (Nat.ne_of_lt c),World.cell?_alloc_lt _ _ _ c];exact h.room i x q a b hox j hj
  ·simpa using hr hox j hj
 ·intro i i' x x' q q' hx hq hx' hq' hox hne j hj hb
  rcases part i x q hx hq with ⟨a,b,c⟩ | ⟨a,rfl,rfl⟩<;>rcases part i' x' q' hx' hq' with ⟨a',b',c'⟩ | ⟨a',rfl,rfl⟩
  ·exact h.disj i i' x x' q q' a b a' b' hox hne j hj hb
  ·simp at hb;omega
  ·simp at hb;omega
  ·omega
 ·intro i x q ob hx hq hxo
  rcases part i x q hx hq with ⟨a,b,c⟩ | ⟨a,rfl,rfl⟩
  ·obtain ⟨⟨o',k1,k2⟩,k3⟩:=h.obj i x q ob a b hxo
   refine ⟨⟨o',Ob.den_mono hle ob k1,?_⟩,k3⟩
   show (w.heap.push _)[q.b]?=_
   rw [Array.getElem?_push,if_neg (by omega)];exact k2
  ·refine ⟨⟨o,hob ob hxo,?_⟩,h.chg.size,fun o' hd=>Nat.lt_irrefl _ (h.dlt _ _ hd).lt⟩
   show (w.heap.push _)[w.heap.size]?=_
   simp
 ·intro i i' x x' q q' hx hq hx' hq' hox hox' hne
  rcases part i x q hx hq with ⟨a,b,c⟩ | ⟨a,rfl,rfl⟩<;>rcases part i' x' q' hx' hq' with ⟨a',b',c'⟩ | ⟨a',rfl,rfl⟩
  ·exact h.odisj i i' x x' q q' a b a' b' hox hox' hne
  ·simp;omega
  ·simp;omega
  ·omega
 ·intro k o v hv
  have:=h.imm k o v hv
  rw [World.cell?_alloc_lt _ _ _ (World.block_lt_of_cell? _ _ this)];exact this
 ·intro i x q hx hq hox j hj
  rcases part i x q hx hq with ⟨a,b,c⟩ | ⟨a,rfl,rfl⟩
  ·exact h.imd i x q a b hox j hj
  ·cases hi:E.im w.heap.size (0+j) with
   | none=>rfl
   | some v=>have:=World.block_lt_of_cell? _ _ (h.imm _ _ _ hi);simp at this
 ·intro i x q hx hq hox
  rcases part i x q hx hq with ⟨a,b,c⟩ | ⟨a,rfl,rfl⟩
  ·exact h.dd i x q a b hox
  ·intro j hj hd
   have:=(h.dlt _ _ hd).lt
   simp at this
 ·refine h.loc w _ (fun k o' hk=>?_) (by simp) h.res
  have hlt:=(h.dlt k o' hk).lt
  exact ⟨⟨World.cell?_alloc_lt _ _ _ hlt,World.frozen?_alloc_old _ _ _ (Nat.ne_of_lt hlt)⟩,objAt_alloc _ _ hlt⟩
 ·intro i x q hx hq hox
  rcases part i x q hx hq with ⟨a,b,c⟩ | ⟨a,rfl,rfl⟩
  ·exact h.foot i x q a b hox
  ·exact .inl h.chg.size
theorem Sat.allocX {E:Env} {N:Nums} {rg:List Rg} {w:World} (h:Sat E N rg w) {cs:List SV} {l m:List Value} (hl:SV.denL N cs=some l) (t:TypeId) :
  Sat E (N++[⟨w.heap.size,0,(l++m).length⟩]) (rg++[⟨true,cs,none⟩]) (w.alloc (.cells (l++m).toArray t)):=by
 obtain ⟨hlen,hget⟩:=SV.denL_get cs hl
 refine h.allocW _ ⟨true,cs,none⟩ _ (fun j c hj=>?_) (fun _=>by simp;omega) (fun _ j hj=>?_) (fun ob hob=>by cases hob)
 ·obtain ⟨v,h1,h2⟩:=hget j c hj
  refine ⟨v,SV.den_mono (Nums.le_append _ _) c h1,?_⟩
  rw [World.cell?_alloc_new]
  have:j<l.length:=(List.getElem?_eq_some_iff.1 h2).1
  simp only [List.getElem?_toArray]
  rw [List.getElem?_append_left this];exact h2
 ·rw [World.cell?_alloc_new]
  simp at hj ⊢
  omega
theorem Sat.alloc {E:Env} {N:Nums} {rg:List Rg} {w:World} (h:Sat E N rg w) {cs:List SV} {l:List Value} (hl:SV.denL N cs=some l) (t:TypeId) :
  Sat E (N++[⟨w.heap.size,0,l.length⟩]) (rg++[⟨true,cs,none⟩]) (w.alloc (.cells l.toArray t)):=by
 have:=h.allocX (m:=[]) hl t
 simpa using this
theorem Sat.cut {E:Env} {N:Nums} {rg:List Rg} {w:World} (h:Sat E N rg w) {r c n:Nat} {g:Rg} {p:Num} (hg:rg[r]?=some g) (hp:N[r]?=some p) (ho:g.own=true) (hc:c+n≤g.cells.length) :
  Sat E (N++[⟨p.b,p.o+c,p.x-c⟩]) (rg.set r ⟨false,[],none⟩++[⟨true,(g.cells.drop c).take n,none⟩]) w:=by
 have hrl:r<rg.length:=(List.getElem?_eq_some_iff.1 hg).1
 have hle:N.le (N++[⟨p.b,p.o+c,p.x-c⟩]):=Nums.le_append _ _
 have hext:=h.ext r g p hg hp ho
 -- a region of the new lists: given up,an old one,or the new
 have part:∀ (i:Nat) (x:Rg) (q:Num),(rg.set r ⟨false,[],none⟩++[⟨true,(g.cells.drop c).take n,none⟩])[i]?=some x→(N++[⟨p.b,p.o+c,p.x-c⟩])[i]?=some q →
   (i=r∧x=⟨false,[],none⟩∧q=p)∨(i≠r∧rg[i]?=some x∧N[i]?=some q)∨(i=rg.length∧x=⟨true,(g.cells.drop c).take n,none⟩∧q=⟨p.b,p.o+c,p.x-c⟩):=by
  intro i x q hx hq
  rcases get_snoc (by rw [List.length_set];exact h.len) hx hq with ⟨a,b⟩ | ⟨a,b,c⟩
  ·rcases get_set hrl a with ⟨rfl,rfl⟩ | ⟨hi,a⟩
   ·rw [hp] at b;cases b;exact .inl ⟨rfl,rfl,rfl⟩
   ·exact .inr (.inl ⟨hi,a,b⟩)
  ·rw [List.length_set] at a
   exact .inr (.inr ⟨a,b,c⟩)
 refine ⟨by simp [h.len],?_,?_,?_,?_,?_,?_,?_,h.imm,?_,?_,h.dlt,h.loc,h.res,h.chg,?_⟩
 ·intro i q hq
  rcases Nat.lt_or_ge i N.length with hi | hi
  ·rw [List.getElem?_append_left hi] at hq
   exact h.lt i q hq
  ·rw [List.getElem?_append_right hi] at hq
   have hz:i-N.length=0:=by
    have:=(List.getElem?_eq_some_iff.1 hq).1
    simp at this;omega
   rw [hz] at hq;simp at hq;subst hq;exact h.lt r p hp
 ·intro i x q hx hq j d hj
  rcases part i x q hx hq with ⟨_,rfl,_⟩ | ⟨_,a,b⟩ | ⟨_,rfl,rfl⟩
  ·simp at hj
  ·obtain ⟨v,h1,h2⟩:=h.cell i x q a b j d hj
   exact ⟨v,SV.den_mono hle d h1,h2⟩
  ·rw [List.getElem?_take] at hj
   split at hj
   ·rw [List.getElem?_drop] at hj
    obtain ⟨v,h1,h2⟩:=h.cell r g p hg hp (c+j) d hj
    exact ⟨v,SV.den_mono hle d h1,by simpa [Nat.add_assoc] using h2⟩
   ·simp at hj
 ·intro i x q hx hq hox
  rcases part i x q hx hq with ⟨_,rfl,_⟩ | ⟨_,a,b⟩ | ⟨_,rfl,rfl⟩
  ·simp
  ·exact h.ext i x q a b hox
  ·simp;omega
 ·intro i x q hx hq hox j hj
  rcases part i x q hx hq with ⟨_,rfl,_⟩ | ⟨_,a,b⟩ | ⟨_,rfl,rfl⟩
  ·simp at hox
  ·exact h.room i x q a b hox j hj
  ·simp at hj
   have:=h.room r g p hg hp ho (c+j) (by omega)
   simpa [Nat.add_assoc] using this
 ·intro i i' x x' q q' hx hq hx' hq' hox hne j hj hb
  rcases part i x q hx hq with ⟨_,rfl,_⟩ | ⟨hi,a,b⟩ | ⟨hi,rfl,rfl⟩
  ·simp at hox
  ·rcases part i' x' q' hx' hq' with ⟨_,rfl,_⟩ | ⟨hi',a',b'⟩ | ⟨hi',rfl,rfl⟩
   ·simp [Rg.wid] at hj
   ·exact h.disj i i' x x' q q' a b a' b' hox hne j hj hb
   ·simp [Rg.wid] at hj hb ⊢
    have:=h.disj i r x g q p a b hg hp hox hi (c+j) (by simp [Rg.wid,ho];omega) hb
    omega
  ·rcases part i' x' q' hx' hq' with ⟨_,rfl,_⟩ | ⟨hi',a',b'⟩ | ⟨hi',rfl,rfl⟩
   ·simp [Rg.wid] at hj
   ·simp at hb ⊢
    have:=h.disj r i' g x' p q' hg hp a' b' ho (fun e=>hi' e.symm) j hj hb
    omega
   ·omega
 ·intro i x q ob hx hq hxo
  rcases part i x q hx hq with ⟨_,rfl,_⟩ | ⟨_,a,b⟩ | ⟨_,rfl,rfl⟩
  ·simp at hxo
  ·obtain ⟨⟨o',k1,k2⟩,k3⟩:=h.obj i x q ob a b hxo
   exact ⟨⟨o',Ob.den_mono hle ob k1,k2⟩,k3⟩
  ·simp at hxo
 ·intro i i' x x' q q' hx hq hx' hq' hox hox' hne
  rcases part i x q hx hq with ⟨_,rfl,_⟩ | ⟨_,a,b⟩ | ⟨_,rfl,rfl⟩
  ·simp at hox
  ·rcases part i' x' q' hx' hq' with ⟨_,rfl,_⟩ | ⟨hi',a',b'⟩ | ⟨hi',rfl,rfl⟩
   ·simp at hox'
   ·exact h.odisj i i' x x' q q' a b a' b' hox hox' hne
   ·simp at hox'
  ·simp at hox
 ·intro i x q hx hq hox j hj
  rcases part i x q hx hq with ⟨_,rfl,_⟩ | ⟨_,a,b⟩ | ⟨_,rfl,rfl⟩
  ·simp at hox
  ·exact h.imd i x q a b hox j hj
  ·simp at hj ⊢
   have:=h.imd r g p hg hp ho (c+j) (by omega)
   simpa [Nat.add_assoc] using this
 ·intro i x q hx hq hox
  rcases part i x q hx hq with ⟨_,rfl,_⟩ | ⟨_,a,b⟩ | ⟨_,rfl,rfl⟩
  ·simp at hox
  ·exact h.dd i x q a b hox
  ·intro j hj
   simp at hj
   have:=h.dd r g p hg hp ho (c+j) (by omega)
   simpa [Nat.add_assoc] using this
 ·intro i x q hx hq hox
  rcases part i x q hx hq with ⟨_,rfl,_⟩ | ⟨_,a,b⟩ | ⟨_,rfl,rfl⟩
  ·simp at hox
  ·exact h.foot i x q a b hox
  ·rcases h.foot r g p hg hp ho with hf | hf
   ·exact .inl hf
   ·refine .inr fun j hj=>?_
    simp at hj
    have:=hf (c+j) (by omega)
    simpa [Nat.add_assoc] using this
def aggT (P:Program) (t:Nat):Bool :=
 match P.underlying t with
 | some (.struct _)=>true
 | some (.array _ _)=>true
 | _=>false
theorem run_isAgg {P:Program} {t:Nat} (h:(P.underlying t).isSome=true) (w:World):(isAgg t).run P w=.ok (aggT P t) w:=by
 obtain ⟨d,hd⟩:=Option.isSome_iff_exists.1 h
 simp only [isAgg,Sem.run_bind,run_underlying hd,Result.andThen,aggT,hd]
 cases d<;>rfl
theorem run_sizeOf {P:Program} {t:Nat} {i:TypeInfo} (h:P.info? t=some i) (w:World):(sizeOf t).run P w=.ok i.size w:=by
 simp [sizeOf,typeInfo,h,Result.andThen]
def shapeFs (sh:Nat→Option (List Bool)):List Field→Nat→Option (List Bool)
 | [],_=>some []
 | f::fs,o=>bif decide (f.name ≠ "_")&&Nat.beq f.offset o then
   match sh f.type with
   | some s=>match shapeFs sh fs (o+s.length) with
    | some r=>some (s++r)
    | none=>none
   | none=>none
  else none
def sized (P:Program) (t:Nat) (s:List Bool):Option (List Bool) :=
 match P.info? t with
 | some i=>bif Nat.beq i.size s.length then some s else none
 | none=>none
def shapeOf (P:Program):Nat→Nat→Option (List Bool)
 | 0,_=>none
 | m+1,t=>match P.underlying t with
  | some (.int _)=>sized P t [true]
  | some .bool=>sized P t [false]
  | some (.struct fs)=>bif P.stoodInHeld t then none else match shapeFs (shapeOf P m) fs.toList 0 with
   | some s=>sized P t s
   | none=>none
  | _=>none
def Fit:List Bool→List Value→List Value→Prop
 | [],[],[]=>True
 | true::sh,u::xs,v::ys=>(∃ k a b,u=.int k a∧v=.int k b)∧Fit sh xs ys
 | false::sh,u::xs,v::ys=>(∃ a b,u=.bool a∧v=.bool b)∧Fit sh xs ys
 | _,_,_=>False
def ceq:Value→Value→Bool
 | .int _ a,.int _ b=>a == b
 | .bool a,.bool b=>a == b
 | _,_=>false
def ceqL:List Value→List Value→Bool
 | u::xs,v::ys=>ceq u v&&ceqL xs ys
 | _,_=>true
theorem Fit.len:∀ {sh:List Bool} {xs ys:List Value},Fit sh xs ys→xs.length=sh.length∧ys.length=sh.length
 | [],[],[],_=>⟨rfl,rfl⟩
 | true::sh,u::xs,v::ys,h=>by have:=Fit.len h.2;simp [this]
 | false::sh,u::xs,v::ys,h=>by have:=Fit.len h.2;simp [this]
theorem Fit.split:∀ {s r:List Bool} {xs ys:List Value},Fit (s++r) xs ys→∃ x1 x2 y1 y2,xs=x1++x2∧ys=y1++y2∧Fit s x1 y1∧Fit r x2 y2
 | [],r,xs,ys,h=>⟨[],xs,[],ys,rfl,rfl,trivial,h⟩
 | true::s,r,u::xs,v::ys,h=>by
  obtain ⟨x1,x2,y1,y2,rfl,rfl,h1,h2⟩:=Fit.split (s:=s) h.2
  exact ⟨u::x1,x2,v::y1,y2,rfl,rfl,⟨h.1,h1⟩,h2⟩
 | false::s,r,u::xs,v::ys,h=>by
  obtain ⟨x1,x2,y1,y2,rfl,rfl,h1,h2⟩:=Fit.split (s:=s) h.2
  exact ⟨u::x1,x2,v::y1,y2,rfl,rfl,⟨h.1,h1⟩,h2⟩
 | true::s,r,[],_,h=>h.elim
 | true::s,r,_::_,[],h=>h.elim
 | false::s,r,[],_,h=>h.elim
 | false::s,r,_::_,[],h=>h.elim
theorem ceqL_append:∀ {s:List Bool} {x1 y1:List Value} (x2 y2:List Value),Fit s x1 y1→ceqL (x1++x2) (y1++y2)=(ceqL x1 y1&&ceqL x2 y2)
 | [],[],[],x2,y2,_=>by simp [ceqL]
 | true::s,u::xs,v::ys,x2,y2,h=>by simp [ceqL,ceqL_append x2 y2 h.2,Bool.and_assoc]
 | false::s,u::xs,v::ys,x2,y2,h=>by simp [ceqL,ceqL_append x2 y2 h.2,Bool.and_assoc]
def mkV (agg:Bool) (xs:List Value):Value:=bif agg then .agg xs.toArray else xs.headD undef
theorem part_val {P:Program} {t:Nat} {agg:Bool} {n:Nat} {w:World} (hs:(sizeOf t).run P w=.ok n w) (ha:(isAgg t).run P w=.ok agg w) (pre x post:List Value) (hx:x.length=n) (h1:agg=false→x.length=1) :
  (part t (pre++(x++post)).toArray pre.length).run P w=.ok (mkV agg x) w:=by
 cases agg with
 | true =>
  simp only [part,Sem.run_bind,ha,Result.andThen,if_true,hs,Sem.run_pure,mkV,cond_true]
  congr 2
  apply Array.ext'
  simp [←hx]
 | false =>
  have:=h1 rfl
  match x,this with
  | [v],_ =>
   simp only [part,Sem.run_bind,ha,Result.andThen,Bool.false_eq_true,if_false,mkV,cond_false]
   simp
theorem sized_spec {P:Program} {t:Nat} {s r:List Bool} (h:sized P t s=some r):r=s∧∀ w,(sizeOf t).run P w=.ok s.length w:=by
 unfold sized at h
 split at h
 ·rename_i i hi
  cases hb:Nat.beq i.size s.length with
  | false=>rw [hb] at h;simp at h
  | true =>
   rw [hb] at h
   simp only [cond_true,Option.some.injEq] at h;subst h
   exact ⟨rfl,fun w=>by rw [run_sizeOf hi,Nat.eq_of_beq_eq_true hb]⟩
 ·cases h
theorem shapeFs_sound {P:Program} {m:Nat} (ih:∀ (t:Nat) (sh:List Bool),shapeOf P m t=some sh→(∀ w,(sizeOf t).run P w=.ok sh.length w)∧(P.underlying t).isSome=true∧(aggT P t=false→sh.length=1) ∧
  ∀ (d:Nat),m≤d→∀ (xs ys:List Value) (w:World),Fit sh xs ys→(Op.equalIn d t (mkV (aggT P t) xs) (mkV (aggT P t) ys)).run P w=.ok (ceqL xs ys) w) :
  ∀ (fs:List Field) (sh:List Bool) (px py:List Value),px.length=py.length→shapeFs (shapeOf P m) fs px.length=some sh→∀ (d:Nat),m≤d→∀ (xs ys:List Value) (w:World),Fit sh xs ys →
   (Op.eqFields d (px++xs).toArray (py++ys).toArray fs).run P w=.ok (ceqL xs ys) w
 | [],sh,px,py,_,h,d,hd,xs,ys,w,hf=>by
  simp only [shapeFs,Option.some.injEq] at h;subst h
  match xs,ys,hf with
  | [],[],_=>simp [Op.eqFields,ceqL]
 | f::fs,sh,px,py,hp,h,d,hd,xs,ys,w,hf=>by
  simp only [shapeFs] at h
  cases hb:(decide (f.name ≠ "_")&&Nat.beq f.offset px.length) with
  | false=>rw [hb] at h;simp at h
  | true =>
   rw [hb] at h
   simp only [cond_true] at h
   simp only [Bool.and_eq_true,decide_eq_true_eq] at hb
   obtain ⟨hname,hoff⟩:=hb
   have hoff:=Nat.eq_of_beq_eq_true hoff
   split at h
   ·rename_i s hs
    split at h
    ·rename_i r hr
     simp only [Option.some.injEq] at h;subst h
     obtain ⟨x1,x2,y1,y2,rfl,rfl,hf1,hf2⟩:=hf.split
     obtain ⟨k1,k2,k3,k4⟩:=ih _ _ hs
     have hl:=hf1.len
     have hag:=run_isAgg (P:=P) k2 w
     have e1:=part_val (k1 w) hag px x1 x2 hl.1 (fun h=>by rw [hl.1];exact k3 h)
     have e2:=part_val (k1 w) hag py y1 y2 hl.2 (fun h=>by rw [hl.2];exact k3 h)
     simp only [Op.eqFields,if_pos hname,Sem.run_bind,hoff,e1,Result.andThen]
     rw [hp,e2]
     simp only [k4 d hd x1 y1 w hf1,Sem.run_ite]
     rw [ceqL_append x2 y2 hf1]
     cases hc:ceqL x1 y1 with
     | false=>simp
     | true =>
      simp only [Bool.not_true,Bool.false_eq_true,if_false,Bool.true_and]
      have:=shapeFs_sound ih fs r (px++x1) (py++y1) (by simp [hp,hl]) (by rw [List.length_append,hl.1];exact hr) d hd x2 y2 w hf2
      simpa [List.append_assoc] using this
    ·cases h
   ·cases h
theorem shapeOf_sound {P:Program}:∀ (m t:Nat) (sh:List Bool),shapeOf P m t=some sh→(∀ w,(sizeOf t).run P w=.ok sh.length w)∧(P.underlying t).isSome=true∧(aggT P t=false→sh.length=1) ∧
  ∀ (d:Nat),m≤d→∀ (xs ys:List Value) (w:World),Fit sh xs ys→(Op.equalIn d t (mkV (aggT P t) xs) (mkV (aggT P t) ys)).run P w=.ok (ceqL xs ys) w:=by
 intro m
 induction m with
 | zero=>intro t sh h;simp [shapeOf] at h
 | succ m ih =>
  intro t sh h
  simp only [shapeOf] at h
  split at h
  ·rename_i k hu
   obtain ⟨rfl,hs⟩:=sized_spec h
   have ha:aggT P t=false:=by simp [aggT,hu]
   refine ⟨hs,by simp [hu],fun _=>rfl,fun d hd xs ys w hf=>?_⟩
   obtain ⟨u,rfl⟩:=List.length_eq_one_iff.1 hf.len.1
   obtain ⟨v,rfl⟩:=List.length_eq_one_iff.1 hf.len.2
   obtain ⟨⟨k',a,b,rfl,rfl⟩,_⟩:=hf
   obtain ⟨d,rfl⟩:∃ d',d=d'+1:=⟨d-1,by omega⟩
   rw [ha]
   simp only [mkV,cond_false,List.headD]
   rw [run_equalIn_int w d t k' k a b hu]
   simp [ceqL,ceq]
  ·rename_i hu
   obtain ⟨rfl,hs⟩:=sized_spec h
   have ha:aggT P t=false:=by simp [aggT,hu]
   refine ⟨hs,by simp [hu],fun _=>rfl,fun d hd xs ys w hf=>?_⟩
   obtain ⟨u,rfl⟩:=List.length_eq_one_iff.1 hf.len.1
   obtain ⟨v,rfl⟩:=List.length_eq_one_iff.1 hf.len.2
   obtain ⟨⟨a,b,rfl,rfl⟩,_⟩:=hf
   obtain ⟨d,rfl⟩:∃ d',d=d'+1:=⟨d-1,by omega⟩
   rw [ha]
   simp only [mkV,cond_false,List.headD]
   rw [run_equalIn_bool' w d t a b hu]
   simp [ceqL,ceq]
  ·rename_i fs hu
   cases hst:P.stoodInHeld t with
   | true=>rw [hst] at h;simp at h
   | false =>
    rw [hst] at h
    simp only [cond_false] at h
    split at h
    ·rename_i s hs
     obtain ⟨rfl,hsz⟩:=sized_spec h
     have ha:aggT P t=true:=by simp [aggT,hu]
     have hfo:P.fieldsOf t=fs:=by simp [Program.fieldsOf,hu]
     refine ⟨hsz,by simp [hu],fun e=>(by rw [ha] at e;cases e),fun d hd xs ys w hf=>?_⟩
     obtain ⟨d,rfl⟩:∃ d',d=d'+1:=⟨d-1,by omega⟩
     rw [ha]
     simp only [mkV,cond_true]
     rw [run_equalIn_struct w d t _ _ (by rw [hfo];exact hu) hst,hfo]
     exact shapeFs_sound ih fs.toList sh [] [] rfl hs d (by omega) xs ys w hf
    ·cases h
  ·cases h
inductive TK where
 | other | bool | string | pointer
 | int (k:IntKind)
 | struct (fs:List (Nat × Nat × Bool))
 | array (n e:Nat)
 | slice (e:Nat)
 | map (k e:Nat)
 | chan (e:Nat)
 deriving Inhabited
structure TI where
 agg:Bool
 size:Nat
 bytes:Nat
 zero:List SV
 kind:TK
 eqs:Option (List Bool):=none
 deriving Inhabited
abbrev Tab:=List (Nat × TI)
def lookT:Tab→Nat→Option TI
 | [],_=>none
 | (k,v)::r,t=>bif Nat.beq k t then some v else lookT r t
def TK.okT (P:Program) (t:Nat):TK→Prop
 | .other=>True
 | .bool=>P.underlying t=some .bool
 | .string=>P.underlying t=some .string
 | .pointer=>∃ e,P.underlying t=some (.pointer e)
 | .int k=>P.underlying t=some (.int k)
 | .struct fs=>∃ fields,P.underlying t=some (.struct fields)∧fs=fields.toList.map (fun f=>(f.offset,P.cellsOf f.type,aggT P f.type)) ∧
   ∀ f∈fields.toList,(P.info? f.type).isSome=true∧(P.underlying f.type).isSome=true
 | .array n e=>P.underlying t=some (.array n e)
 | .slice e=>P.underlying t=some (.slice e)
 | .map k e=>P.underlying t=some (.map k e)
 | .chan e=>∃ d,P.underlying t=some (.chan d e)
structure TI.okT (P:Program) (t:Nat) (ti:TI):Prop where
 size:∀ w,(sizeOf t).run P w=.ok ti.size w
 info:∃ i,P.info? t=some i∧i.bytes=ti.bytes
 agg:∀ w,(isAgg t).run P w=.ok ti.agg w
 zero:∃ z,(∀ w,(zeroValue t).run P w=.ok z w)∧SV.denL [] ti.zero=some z.cells.toList
 kind:ti.kind.okT P t
 eqs:∀ sh,ti.eqs=some sh→P.eqGuardType P.depth t=false∧∀ (xs ys:List Value) (w:World),Fit sh xs ys→(Op.equalIn 10000 t (.agg xs.toArray) (.agg ys.toArray)).run P w=.ok (ceqL xs ys) w
def eqShape (P:Program) (t:Nat):Option (List Bool):=bif aggT P t&&!P.eqGuardType P.depth t then shapeOf P 16 t else none
theorem eqShape_sound {P:Program} {t:Nat} {sh:List Bool} (h:eqShape P t=some sh):P.eqGuardType P.depth t=false∧∀ (xs ys:List Value) (w:World),Fit sh xs ys→(Op.equalIn 10000 t (.agg xs.toArray) (.agg ys.toArray)).run P w=.ok (ceqL xs ys) w:=by
 unfold eqShape at h
 cases hb:(aggT P t&&!P.eqGuardType P.depth t) with
 | false=>rw [hb] at h;simp at h
 | true =>
  rw [hb] at h
  simp only [cond_true] at h
  simp only [Bool.and_eq_true,Bool.not_eq_true'] at hb
  refine ⟨hb.2,fun xs ys w hf=>?_⟩
  obtain ⟨_,_,_,h4⟩:=shapeOf_sound _ _ _ h
  have:=h4 10000 (by omega) xs ys w hf
  rw [hb.1] at this
  simpa [mkV] using this
def Tab.ok (P:Program) (T:Tab):Prop:=∀ t ti,lookT T t=some ti→ti.okT P t
def kindOf (P:Program) (t:Nat):TK :=
 match P.underlying t with
 | some .bool=>.bool
 | some .string=>.string
 | some (.pointer _)=>.pointer
 | some (.int k)=>.int k
 | some (.struct fields) =>
  if fields.toList.all (fun f=>(P.info? f.type).isSome&&(P.underlying f.type).isSome) then .struct (fields.toList.map (fun f=>(f.offset,P.cellsOf f.type,aggT P f.type))) else .other
 | some (.array n e)=>.array n e
 | some (.slice e)=>.slice e
 | some (.map k e)=>.map k e
 | some (.chan _ e)=>.chan e
 | _=>.other
def TI.of (P:Program) (t:Nat):Option TI :=
 match P.info? t with
 | some i=>match i.zero with
  | some z=>if (P.underlying t).isSome&&z.cells.toList.all one? then some ⟨aggT P t,i.size,i.bytes,z.cells.toList.map ofVal,kindOf P t,eqShape P t⟩ else none
  | none=>none
 | none=>none
theorem denL_ofVal {N:Nums}:∀ (l:List Value),l.all one?=true→SV.denL N (l.map ofVal)=some l
 | [],_=>rfl
 | v::l,h=>by
  simp only [List.all_cons,Bool.and_eq_true] at h
  simp [SV.denL,ofVal_den h.1,denL_ofVal l h.2]
theorem TI.of_ok {P:Program} {t:Nat} {ti:TI} (h:TI.of P t=some ti):ti.okT P t:=by
 unfold TI.of at h
 split at h
 ·rename_i i hi
  split at h
  ·rename_i z hz
   split at h
   ·rename_i hc
    simp only [Bool.and_eq_true] at hc
    simp only [Option.some.injEq] at h;subst h
    refine ⟨fun w=>run_sizeOf hi w,⟨i,hi,rfl⟩,fun w=>run_isAgg hc.1 w,⟨z,fun w=>by simp [zeroValue,typeInfo,hi,hz,Result.andThen],denL_ofVal _ hc.2⟩,?_,fun sh h=>eqShape_sound h⟩
    simp only [kindOf]
    obtain ⟨d,hd⟩:=Option.isSome_iff_exists.1 hc.1
    rw [hd]
    cases d<;>simp only<;>first | exact hd | exact ⟨_,hd⟩ | trivial | skip
    split
    ·rename_i ha
     refine ⟨_,hd,rfl,fun f hf=>?_⟩
     have:=List.all_eq_true.1 ha f hf
     simpa using this
    ·trivial
   ·cases h
  ·cases h
 ·cases h
def rep (n:Nat) (l:List SV):List SV :=
 match n with
 | 0=>[]
 | n+1=>l++rep n l
def nth {α:Type}:List α→Nat→Option α
 | [],_=>none
 | x::_,0=>some x
 | _::r,n+1=>nth r n
theorem nth_eq {α:Type}:∀ (l:List α) (n:Nat),nth l n=l[n]?
 | [],_=>by simp [nth]
 | _::_,0=>by simp [nth]
 | _::r,n+1=>by simp [nth,nth_eq r n]
def addI (k:IntKind):SI→SI→SI
 | .lit x,.lit y=>.lit (k.wrap (x+y))
 | a,b=>.wrap k (.add a b)
def subI (k:IntKind):SI→SI→SI
 | .lit x,.lit y=>.lit (k.wrap (x-y))
 | a,b=>.wrap k (.sub a b)
def mulI (k:IntKind):SI→SI→SI
 | .lit x,.lit y=>.lit (k.wrap (x*y))
 | a,b=>.wrap k (.mul a b)
def eqI:SI→SI→SB
 | .lit x,.lit y=>.lit (x == y)
 | a,b=>.eq a b
def neI:SI→SI→SB
 | .lit x,.lit y=>.lit (x != y)
 | a,b=>.ne a b
def ltI:SI→SI→SB
 | .lit x,.lit y=>.lit (decide (x<y))
 | a,b=>.lt a b
def leI:SI→SI→SB
 | .lit x,.lit y=>.lit (decide (x≤y))
 | a,b=>.le a b
def gtI:SI→SI→SB
 | .lit x,.lit y=>.lit (decide (y<x))
 | a,b=>.gt a b
def geI:SI→SI→SB
 | .lit x,.lit y=>.lit (decide (y≤x))
 | a,b=>.ge a b
theorem addI_den (k:IntKind) (a b:SI):(addI k a b).den=k.wrap (a.den+b.den):=by unfold addI;split<;>rfl
theorem subI_den (k:IntKind) (a b:SI):(subI k a b).den=k.wrap (a.den-b.den):=by unfold subI;split<;>rfl
theorem mulI_den (k:IntKind) (a b:SI):(mulI k a b).den=k.wrap (a.den*b.den):=by unfold mulI;split<;>rfl
theorem eqI_den (a b:SI):(eqI a b).den=(a.den == b.den):=by unfold eqI;split<;>rfl
theorem neI_den (a b:SI):(neI a b).den=(a.den != b.den):=by unfold neI;split<;>rfl
theorem ltI_den (a b:SI):(ltI a b).den=decide (a.den<b.den):=by unfold ltI;split<;>rfl
theorem leI_den (a b:SI):(leI a b).den=decide (a.den≤b.den):=by unfold leI;split<;>rfl
theorem gtI_den (a b:SI):(gtI a b).den=decide (b.den<a.den):=by unfold gtI;split<;>rfl
theorem geI_den (a b:SI):(geI a b).den=decide (b.den≤a.den):=by unfold geI;split<;>rfl
def notB:SB→SB
 | .lit b=>.lit (!b)
 | .not b=>b
 | b=>.not b
theorem notB_den (b:SB):(notB b).den=!b.den:=by
 unfold notB;split<;>simp [SB.den]
def orB:SB→SB→SB
 | .lit true,_=>.lit true
 | .lit false,b=>b
 | a,.lit false=>a
 | _,.lit true=>.lit true
 | a,b=>.or a b
theorem orB_den (a b:SB):(orB a b).den=(a.den || b.den):=by
 unfold orB;split<;>simp [SB.den]
def andB:SB→SB→SB
 | .lit false,_=>.lit false
 | .lit true,b=>b
 | a,.lit true=>a
 | _,.lit false=>.lit false
 | a,b=>.and a b
theorem andB_den (a b:SB):(andB a b).den=(a.den&&b.den):=by
 unfold andB;split<;>simp [SB.den]
def bitsS (op:BinOp) (k:IntKind):SI→SI→SI
 | .lit x,.lit y=>.lit (bitsI op k x y)
 | a,b=>.bits op k a b
def quoI (k:IntKind):SI→Int→SI
 | .lit x,y=>.lit (k.wrap (x.tdiv y))
 | a,y=>.wrap k (.quo a (.lit y))
def remI:SI→Int→SI
 | .lit x,y=>.lit (x.tmod y)
 | a,y=>.rem a (.lit y)
def shlI (k:IntKind):SI→Nat→SI
 | .lit x,n=>.lit (k.wrap (x*2 ^ n))
 | a,n=>.wrap k (.shl a n)
def shrI:SI→Nat→SI
 | .lit x,n=>.lit (x.fdiv (2 ^ n))
 | a,n=>.shr a n
def mxI:SI→SI→SI
 | .lit x,.lit y=>.lit (if x<y then y else x)
 | a,b=>.mx a b
def mnI:SI→SI→SI
 | .lit x,.lit y=>.lit (if y<x then y else x)
 | a,b=>.mn a b
theorem bitsS_den (op:BinOp) (k:IntKind) (a b:SI):(bitsS op k a b).den=bitsI op k a.den b.den:=by unfold bitsS;split<;>rfl
theorem quoI_den (k:IntKind) (a:SI) (y:Int):(quoI k a y).den=k.wrap (a.den.tdiv y):=by unfold quoI;split<;>rfl
theorem remI_den (a:SI) (y:Int):(remI a y).den=a.den.tmod y:=by unfold remI;split<;>rfl
theorem shlI_den (k:IntKind) (a:SI) (n:Nat):(shlI k a n).den=k.wrap (a.den*2 ^ n):=by unfold shlI;split<;>rfl
theorem shrI_den (a:SI) (n:Nat):(shrI a n).den=a.den.fdiv (2 ^ n):=by unfold shrI;split<;>rfl
theorem mxI_den (a b:SI):(mxI a b).den=if a.den<b.den then b.den else a.den:=by unfold mxI;split<;>rfl
theorem mnI_den (a b:SI):(mnI a b).den=if b.den<a.den then b.den else a.den:=by unfold mnI;split<;>rfl
def intOp (op:BinOp) (k:IntKind) (a b:SI):Option SV :=
 match op with
 | .add=>some (.int k (addI k a b))
 | .sub=>some (.int k (subI k a b))
 | .mul=>some (.int k (mulI k a b))
 | .eql=>some (.bool (eqI a b))
 | .neq=>some (.bool (neI a b))
 | .lss=>some (.bool (ltI a b))
 | .leq=>some (.bool (leI a b))
 | .gtr=>some (.bool (gtI a b))
 | .geq=>some (.bool (geI a b))
 | .and=>some (.int k (bitsS .and k a b))
 | .or=>some (.int k (bitsS .or k a b))
 | .xor=>some (.int k (bitsS .xor k a b))
 | .andNot=>some (.int k (bitsS .andNot k a b))
 | .quo=>match b with
  | .lit z=>bif decide (z=0) then none else some (.int k (quoI k a z))
  | _=>none
 | .rem=>match b with
  | .lit z=>bif decide (z=0) then none else some (.int k (remI a z))
  | _=>none
 | _=>none
def kn:IntKind→Nat
 | .i8=>0 | .i16=>1 | .i32=>2 | .i64=>3 | .u8=>4 | .u16=>5 | .u32=>6 | .u64=>7
def kq (a b:IntKind):Bool:=Nat.beq (kn a) (kn b)
theorem kq_eq {a b:IntKind} (h:kq a b=true):a=b:=by
 have:=Nat.eq_of_beq_eq_true h
 cases a<;>cases b<;>first | rfl | (simp [kn] at this)
def ptr?:SV→Option Bool
 | .own _ _=>some true
 | .ext _ _ _=>some true
 | .raw (.pointer (some _))=>some true
 | .raw (.pointer none)=>some false
 | _=>none
def beqB:SB→SB→SB
 | .lit x,.lit y=>.lit (x == y)
 | a,b=>.beq a b
theorem beqB_den (a b:SB):(beqB a b).den=(a.den == b.den):=by unfold beqB;split<;>rfl
def eqCells:List Bool→List SV→List SV→Option SB
 | [],[],[]=>some (.lit true)
 | true::sh,.int k a::xs,.int k' b::ys=>bif kq k k' then
   match eqCells sh xs ys with
   | some c=>some (andB (eqI a b) c)
   | none=>none
  else none
 | false::sh,.bool a::xs,.bool b::ys=>match eqCells sh xs ys with
  | some c=>some (andB (beqB a b) c)
  | none=>none
 | _,_,_=>none
theorem eqCells_sound {N:Nums}:∀ {sh:List Bool} {xs ys:List SV} {c:SB} {us vs:List Value},eqCells sh xs ys=some c→SV.denL N xs=some us→SV.denL N ys=some vs→Fit sh us vs∧ceqL us vs=c.den:=by
 intro sh xs ys
 fun_induction eqCells sh xs ys with
 | case1 =>
  intro c us vs h hx hy
  simp only [Option.some.injEq] at h;subst h
  simp only [SV.denL,Option.some.injEq] at hx hy
  subst hx;subst hy
  exact ⟨trivial,rfl⟩
 | case2 sh k a xs k' b ys hk c0 hc ih =>
  intro c us vs h hx hy
  have:=kq_eq hk
  subst this
  simp only [Option.some.injEq] at h;subst h
  simp only [SV.denL,SV.den] at hx hy
  cases h1:SV.denL N xs with
  | none=>simp [h1] at hx
  | some us' =>
   cases h2:SV.denL N ys with
   | none=>simp [h2] at hy
   | some vs' =>
    simp only [h1,h2,Option.some.injEq] at hx hy
    subst hx;subst hy
    obtain ⟨q1,q2⟩:=ih hc h1 h2
    exact ⟨⟨⟨k,_,_,rfl,rfl⟩,q1⟩,by simp [ceqL,ceq,q2,andB_den,eqI_den]⟩
 | case3=>intro c us vs h;simp_all
 | case4=>intro c us vs h;simp_all
 | case5 sh a xs b ys c0 hc ih =>
  intro c us vs h hx hy
  simp only [Option.some.injEq] at h;subst h
  simp only [SV.denL,SV.den] at hx hy
  cases h1:SV.denL N xs with
  | none=>simp [h1] at hx
  | some us' =>
   cases h2:SV.denL N ys with
   | none=>simp [h2] at hy
   | some vs' =>
    simp only [h1,h2,Option.some.injEq] at hx hy
    subst hx;subst hy
    obtain ⟨q1,q2⟩:=ih hc h1 h2
    exact ⟨⟨⟨_,_,rfl,rfl⟩,q1⟩,by simp [ceqL,ceq,q2,andB_den,beqB_den]⟩
 | case6=>intro c us vs h;simp_all
 | case7=>intro c us vs h;simp_all
def nilS:SV→Option Bool
 | .raw (.slice p _ _)=>some p.isNone
 | .osl _ _ _ _ _=>some false
 | _=>none
def isNilS:SV→Bool
 | .raw (.slice none 0 0)=>true
 | _=>false
def binV (T:Tab) (op:BinOp) (t:Nat) (x y:SV):Option SV :=
 match x,y with
 | .int k a,.int k' b =>
  match op with
  | .shl=>match b with
   | .lit z=>bif decide (z<0) then none else some (.int k (shlI k a (min z.toNat k.bits)))
   | _=>none
  | .shr=>match b with
   | .lit z=>bif decide (z<0) then none else some (.int k (shrI a (min z.toNat k.bits)))
   | _=>none
  | _=>bif kq k k' then intOp op k a b else none
 | .bool a,.bool b =>
  match lookT T t with
  | some ti=>match ti.kind with
   | .bool=>match op with
    | .eql=>some (.bool (beqB a b))
    | .neq=>some (.bool (notB (beqB a b)))
    | _=>none
   | _=>none
  | none=>none
 | .agg xs,.agg ys =>
  match lookT T t with
  | some ti=>match ti.eqs with
   | some sh=>match eqCells sh xs ys with
    | some c=>match op with
     | .eql=>some (.bool c)
     | .neq=>some (.bool (notB c))
     | _=>none
    | none=>none
   | none=>none
  | none=>none
 | x,y =>
  match lookT T t with
  | some ti=>match ti.kind with
   | .pointer =>
    match ptr? x,ptr? y with
    | some a,some b=>bif a&&b then none else
     match op with
     | .eql=>some (.bool (.lit (!a&&!b)))
     | .neq=>some (.bool (.lit (!(!a&&!b))))
     | _=>none
    | _,_=>none
   | .slice _=>bif isNilS y then
     match nilS x with
     | some b=>match op with
      | .eql=>some (.bool (.lit b))
      | .neq=>some (.bool (.lit (!b)))
      | _=>none
     | none=>none
    else none
   | _=>none
  | none=>none
def convV (T:Tab) (src dst:Nat) (x:SV):Option SV :=
 match lookT T src,lookT T dst,x with
 | some _,some ti,.int _ a=>match ti.kind with
  | .int k=>match a with
   | .lit z=>some (.int k (.lit (k.wrap z)))
   | a=>some (.int k (.wrap k a))
  | _=>none
 | _,_,_=>none
def unV (op:UnOp) (x:SV):Option SV :=
 match op,x with
 | .not,.bool a=>some (.bool (notB a))
 | .neg,.int k a=>some (.int k (subI k (.lit 0) a))
 | .xor,.int k a=>some (.int k (bitsS .xor k (.lit (if k.signed then -1 else k.max)) a))
 | _,_=>none
def partV (agg:Bool) (cs:List SV) (off n:Nat):Option SV :=
 bif Nat.ble (off+n) cs.length then (bif agg then some (.agg ((cs.drop off).take n)) else nth cs off) else none
def fieldV (T:Tab) (t:Nat) (x:SV) (f:Nat):Option SV :=
 match lookT T t,x with
 | some ti,.agg cs=>match ti.kind with
  | .struct fs=>match nth fs f with
   | some (o,n,a)=>partV a cs o n
   | none=>none
  | _=>none
 | _,_=>none
def fieldAddrV (T:Tab) (t:Nat) (x:SV) (f:Nat):Option SV :=
 match lookT T t with
 | some ti=>match ti.kind with
  | .struct fs=>match nth fs f with
   | some (o,n,_)=>bif Nat.beq n 0 then none else
    match x with
    | .own r c=>some (.own r (c+o))
    | .ext k x c=>some (.ext k x (c+o))
    | _=>none
   | none=>none
  | _=>none
 | none=>none
def indexAddrV (T:Tab) (t:Nat) (x i:SV):Option SV :=
 match i with
 | .int _ (.lit z) =>
  match lookT T t with
  | some ti=>match ti.kind with
   | .array n e=>match lookT T e with
    | some te=>bif decide (0≤z)&&decide (z<n) then
      match x with
      | .own r c=>some (.own r (c+z.toNat*te.size))
      | .ext k x c=>some (.ext k x (c+z.toNat*te.size))
      | _=>none
     else none
    | none=>none
   | .slice e=>match lookT T e with
    | some te=>match x with
     | .osl r c n _ _=>bif decide (0≤z)&&decide (z<n) then some (.own r (c+z.toNat*te.size)) else none
     | _=>none
    | none=>none
   | _=>none
  | none=>none
 | _=>none
def indexV (T:Tab) (t:Nat) (x i:SV):Option SV :=
 match i,x with
 | .int _ (.lit z),.agg cs =>
  match lookT T t with
  | some ti=>match ti.kind with
   | .array n e=>match lookT T e with
    | some te=>bif decide (0≤z)&&decide (z<n) then partV te.agg cs (z.toNat*te.size) te.size else none
    | none=>none
   | _=>none
  | none=>none
 | _,_=>none
def extractV (x:SV) (i:Nat):Option SV :=
 match x with
 | .tup cs=>nth cs i
 | _=>none
def lenV (T:Tab) (t:Nat) (x:SV):Option SV :=
 match lookT T t with
 | some ti=>match ti.kind with
  | .slice _=>match x with
   | .osl _ _ n _ _=>some (.int .i64 (.lit n))
   | .sl _ _ n _=>some (.int .i64 (.nat n))
   | .slv _ n _=>some (.int .i64 (.nat n))
   | .raw (.slice none n _)=>some (.int .i64 (.lit n))
   | .raw (.slice (some _) n _)=>some (.int .i64 (.nat n))
   | _=>none
  | .string=>match x with
   | .raw (.string s)=>some (.int .i64 (.nat s.size))
   | _=>none
  | .array n _=>some (.int .i64 (.lit n))
  | _=>none
 | none=>none
def nilCheckV:SV→Option SV
 | .own r c=>some (.own r c)
 | .ext k x c=>some (.ext k x c)
 | .raw (.pointer (some a))=>some (.raw (.pointer (some a)))
 | _=>none
def fillV (place:Nat→Option (Nat × Nat)) (cells:List SV):List (Nat × SV)→Option (List SV)
 | []=>some cells
 | (i,v)::rest =>
  match place i with
  | none=>none
  | some (off,size)=>bif Nat.beq v.cells.length size&&Nat.ble (off+size) cells.length then
    match v with
    | .tup _=>none
    | .big _=>none
    | v=>fillV place (setRow cells off v.cells) rest
   else none
def placeV (fs:List (Nat × Nat × Bool)) (i:Nat):Option (Nat × Nat) :=
 match nth fs i with
 | some (o,n,_)=>some (o,n)
 | none=>none
def buildV (T:Tab) (t:Nat) (parts:List (Nat × SV)):Option SV :=
 match lookT T t with
 | some ti=>match ti.kind with
  | .struct fs=>match fillV (placeV fs) ti.zero parts with
   | some cs=>some (.agg cs)
   | none=>none
  | .array _ e=>match lookT T e with
   | some te=>match fillV (fun i=>some (i*te.size,te.size)) ti.zero parts with
    | some cs=>some (.agg cs)
    | none=>none
   | none=>none
  | _=>none
 | none=>none
def loadV (T:Tab) (rg:List Rg) (t:Nat) (x:SV):Option SV :=
 match x with
 | .own r c=>match lookT T t,nth rg r with
  | some ti,some g=>bif ti.agg then (bif Nat.ble (c+ti.size) g.cells.length then some (.agg ((g.cells.drop c).take ti.size)) else none) else nth g.cells c
  | _,_=>none
 | _=>none
def evs (ρ:Operand→Option SV):List (Nat × Operand)→Option (List (Nat × SV))
 | []=>some []
 | (i,x)::r=>match ρ x,evs ρ r with
  | some v,some l=>some ((i,v)::l)
  | _,_=>none
def evL0 (ρ:Operand→Option SV):List Operand→Option (List SV)
 | []=>some []
 | x::r=>match ρ x,evL0 ρ r with
  | some v,some l=>some (v::l)
  | _,_=>none
def evO (ρ:Operand→Option SV):Option Operand→Option (Option Nat)
 | none=>some none
 | some x=>match ρ x with
  | some (.int _ (.lit z))=>bif decide (0≤z) then some (some z.toNat) else none
  | _=>none
def sliceV (T:Tab) (rg:List Rg) (t:Nat) (x:SV) (lo hi mx:Option Nat):Option SV :=
 match lookT T t with
 | some ti=>match ti.kind with
  | .slice e=>match lookT T e with
   | some te=>match x with
    | .osl r c n z (some k)=>bif Nat.beq z te.size&&Nat.ble (lo.getD 0) (hi.getD n)&&Nat.ble (hi.getD n) (mx.getD k)&&Nat.ble (mx.getD k) k&&(hi.isSome || !mx.isSome) then
      bif Nat.beq (mx.getD k) (lo.getD 0) then some (.osl r c (hi.getD n-lo.getD 0) z (some 0)) else some (.osl r (c+lo.getD 0*z) (hi.getD n-lo.getD 0) z (some (mx.getD k-lo.getD 0)))
     else none
    | .osl r c n z none=>match nth rg r,mx with
     | some g,none=>bif g.own&&Nat.blt 0 z&&Nat.beq z te.size&&Nat.ble (lo.getD 0) (hi.getD n)&&Nat.ble (c+hi.getD n*z) g.cells.length&&(Nat.beq (lo.getD 0) 0 || Nat.ble (c+(lo.getD 0+1)*z) g.cells.length) then
       some (.osl r (c+lo.getD 0*z) (hi.getD n-lo.getD 0) z none)
      else none
     | some g,some m=>bif g.own&&Nat.blt 0 z&&Nat.beq z te.size&&hi.isSome&&Nat.ble (lo.getD 0) (hi.getD n)&&Nat.ble (hi.getD n) m&&Nat.ble (c+m*z) g.cells.length then
       bif Nat.beq m (lo.getD 0) then some (.osl r c (hi.getD n-lo.getD 0) z (some 0)) else some (.osl r (c+lo.getD 0*z) (hi.getD n-lo.getD 0) z (some (m-lo.getD 0)))
      else none
     | none,_=>none
    | .raw (.slice none 0 0)=>bif Nat.beq (lo.getD 0) 0&&Nat.beq (hi.getD 0) 0&&Nat.beq (mx.getD 0) 0&&(hi.isSome || !mx.isSome) then some (.raw (.slice none 0 0)) else none
    | _=>none
   | none=>none
  | .array n e=>match lookT T e with
   | some te=>match x with
    | .own r c=>bif Nat.ble (lo.getD 0) (hi.getD n)&&Nat.ble (hi.getD n) (mx.getD n)&&Nat.ble (mx.getD n) n&&(hi.isSome || !mx.isSome) then
      bif Nat.beq (mx.getD n) (lo.getD 0) then some (.osl r c (hi.getD n-lo.getD 0) te.size (some 0)) else some (.osl r (c+lo.getD 0*te.size) (hi.getD n-lo.getD 0) te.size (some (mx.getD n-lo.getD 0)))
     else none
    | _=>none
   | none=>none
  | _=>none
 | none=>none
def pickB (c a b:SB):SB :=
 match a,b with
 | .lit true,b=>orB c b
 | a,.lit false=>andB c a
 | a,b=>orB (andB c a) (andB (notB c) b)
theorem pickB_den (c a b:SB):(pickB c a b).den=bif c.den then a.den else b.den:=by
 unfold pickB
 split
 ·rw [orB_den];cases c.den<;>simp [SB.den]
 ·rw [andB_den];cases c.den<;>simp [SB.den]
 ·rw [orB_den,andB_den,andB_den,notB_den];cases c.den<;>simp
def pickV (c a b:SV):Option SV :=
 match c with
 | .bool (.lit true)=>some a
 | .bool (.lit false)=>some b
 | .bool c=>match a,b with
  | .bool a,.bool b=>some (.bool (pickB c a b))
  | _,_=>none
 | _=>none
def stepP (T:Tab) (rg:List Rg) (ρ:Operand→Option SV) (op:Op):Option SV :=
 match op with
 | .move x=>ρ x
 | .assign x=>ρ x
 | .load t a=>match ρ a with
  | some x=>loadV T rg t x
  | none=>none
 | .nilCheck x=>match ρ x with
  | some x=>nilCheckV x
  | none=>none
 | .binOp op t x y _=>match ρ x,ρ y with
  | some x,some y=>binV T op t x y
  | _,_=>none
 | .unOp op _ x=>match ρ x with
  | some x=>unV op x
  | none=>none
 | .convert s d x=>match ρ x with
  | some x=>convV T s d x
  | none=>none
 | .fieldAddr t x f=>match ρ x with
  | some x=>fieldAddrV T t x f
  | none=>none
 | .field t x f=>match ρ x with
  | some x=>fieldV T t x f
  | none=>none
 | .indexAddr t x i=>match ρ x,ρ i with
  | some x,some i=>indexAddrV T t x i
  | _,_=>none
 | .index t x i=>match ρ x,ρ i with
  | some x,some i=>indexV T t x i
  | _,_=>none
 | .extract x i=>match ρ x with
  | some x=>extractV x i
  | none=>none
 | .build t ps=>match evs ρ ps.toList with
  | some l=>buildV T t l
  | none=>none
 | .makeFunc fn first cap=>match fn,first.toList,evL0 ρ cap.toList with
  | .func f,[],some l=>some (.fn f l)
  | _,_,_=>none
 | .slice t x lo hi mx=>match ρ x,evO ρ lo,evO ρ hi,evO ρ mx with
  | some x,some lo,some hi,some mx=>sliceV T rg t x lo hi mx
  | _,_,_,_=>none
 | .call c=>match c.callee with
  | .builtin .len=>match c.args.toList,c.argTypes.toList with
   | [x],[t]=>match ρ x with
    | some x=>lenV T t x
    | none=>none
   | _,_=>none
  | .builtin .max=>match c.args.toList with
   | [x,y]=>match ρ x,ρ y with
    | some (.int k a),some (.int _ b)=>some (.int k (mxI a b))
    | _,_=>none
   | _=>none
  | .builtin .min=>match c.args.toList with
   | [x,y]=>match ρ x,ρ y with
    | some (.int k a),some (.int _ b)=>some (.int k (mnI a b))
    | _,_=>none
   | _=>none
  | _=>none
 | _=>none
section
variable {E:Env} {N:Nums} {rg:List Rg} {w:World} {T:Tab}
theorem struct_field {P:Program} {t:Nat} {fs:List (Nat × Nat × Bool)} (h:(TK.struct fs).okT P t) {f o n:Nat} {a:Bool} (hf:nth fs f=some (o,n,a)) :
  ∃ fields fd,P.underlying t=some (.struct fields)∧fields[f]?=some fd∧fd.offset=o∧(∀ w,(sizeOf fd.type).run P w=.ok n w)∧(∀ w,(isAgg fd.type).run P w=.ok a w):=by
 obtain ⟨fields,h1,rfl,h2⟩:=h
 rw [nth_eq,List.getElem?_map] at hf
 obtain ⟨fd,hfd,he⟩:=Option.map_eq_some_iff.1 hf
 simp only [Prod.mk.injEq] at he
 obtain ⟨rfl,rfl,rfl⟩:=he
 obtain ⟨k1,k2⟩:=h2 fd (List.mem_of_getElem? hfd)
 obtain ⟨i,hi⟩:=Option.isSome_iff_exists.1 k1
 refine ⟨fields,fd,h1,by simpa using hfd,rfl,fun w=>?_,fun w=>run_isAgg k2 w⟩
 rw [run_sizeOf hi]
 simp [Program.cellsOf,hi]
theorem denL_take_drop {l:List SV} {m:List Value} (h:SV.denL N l=some m) (c n:Nat):SV.denL N ((l.drop c).take n)=some ((m.drop c).take n):=by
 obtain ⟨h1,h2⟩:=SV.denL_get _ h
 obtain ⟨q,hq⟩:=SV.denL_of (N:=N) ((l.drop c).take n) (fun j d hj=>by
  rw [List.getElem?_take] at hj
  split at hj
  ·rw [List.getElem?_drop] at hj
   obtain ⟨v,hv,_⟩:=h2 (c+j) d hj
   exact ⟨v,hv⟩
  ·simp at hj)
 obtain ⟨q1,q2⟩:=SV.denL_get _ hq
 rw [hq]
 congr 1
 apply List.ext_getElem?
 intro j
 by_cases hj:j<((l.drop c).take n).length
 ·obtain ⟨d,hd⟩:∃ d,((l.drop c).take n)[j]?=some d:=⟨_,List.getElem?_eq_getElem hj⟩
  obtain ⟨v,hv1,hv2⟩:=q2 j d hd
  rw [List.getElem?_take] at hd
  split at hd
  ·rename_i hjn
   rw [List.getElem?_drop] at hd
   obtain ⟨v',hv1',hv2'⟩:=h2 (c+j) d hd
   rw [hv1] at hv1';cases hv1'
   rw [hv2,List.getElem?_take,if_pos hjn,List.getElem?_drop,hv2']
  ·simp at hd
 ·rw [List.getElem?_eq_none (by omega),List.getElem?_eq_none]
  simp at hj ⊢;omega
theorem part_sound {P:Program} {t:Nat} {agg:Bool} {n:Nat} {cs:List SV} {l:List Value} {off:Nat} {r:SV} (hs:(sizeOf t).run P w=.ok n w) (ha:(isAgg t).run P w=.ok agg w)
  (hl:SV.denL N cs=some l) (h:partV agg cs off n=some r):∃ v,r.den N=some v∧(part t l.toArray off).run P w=.ok v w:=by
 unfold partV at h
 obtain ⟨hlen,hget⟩:=SV.denL_get _ hl
 cases hb:Nat.ble (off+n) cs.length with
 | false=>simp [hb] at h
 | true =>
  have hle:=Nat.le_of_ble_eq_true hb
  simp only [hb,cond_true] at h
  cases agg with
  | true =>
   simp only [cond_true,Option.some.injEq] at h;subst h
   refine ⟨.agg ((l.drop off).take n).toArray,by simp [SV.den,denL_take_drop hl],?_⟩
   simp only [part,Sem.run_bind,ha,Result.andThen,if_true,hs,Sem.run_pure]
   congr 2
   apply Array.ext'
   simp
  | false =>
   simp only [cond_false] at h
   rw [nth_eq] at h
   obtain ⟨v,h1,h2⟩:=hget off r h
   refine ⟨v,h1,?_⟩
   simp only [part,Sem.run_bind,ha,Result.andThen,Bool.false_eq_true,if_false]
   simp [h2]
theorem loadV_sound {P:Program} (hT:Tab.ok P T) (h:Vis N rg w) {t:Nat} {x r:SV} {a:Value} (hx:x.den N=some a) (hl:loadV T rg t x=some r) :
  ∃ v,r.den N=some v∧(Instr.loadAt t a).run P w=.ok v w:=by
 cases x<;>simp only [loadV] at hl<;>try (simp at hl;done)
 rename_i q c
 cases ht:lookT T t with
 | none=>simp [ht] at hl
 | some ti =>
  cases hg:nth rg q with
  | none=>simp [ht,hg] at hl
  | some g =>
   have ok:=hT t ti ht
   rw [nth_eq] at hg
   simp only [ht,nth_eq,hg] at hl
   cases hagg:ti.agg with
   | true =>
    simp only [hagg,cond_true] at hl
    cases hb:Nat.ble (c+ti.size) g.cells.length with
    | false=>simp [hb] at hl
    | true =>
     simp only [hb,cond_true,Option.some.injEq] at hl;subst hl
     obtain ⟨p,l,hp,hd,hlen,hrun⟩:=h.load (P:=P) hg (Nat.le_of_ble_eq_true hb)
     simp only [SV.den,hp,Option.some.injEq] at hx;subst hx
     refine ⟨.agg l.toArray,by simp [SV.den,hd],?_⟩
     simp only [Instr.loadAt,Instr.sureAddr,loadVar,Sem.run_bind,Sem.run_pure,Result.andThen,ok.agg,hagg,if_true,ok.size,hrun]
   | false =>
    simp only [hagg,cond_false] at hl
    obtain ⟨p,v,hp,hd,hw⟩:=h.load1 hg hl
    simp only [SV.den,hp,Option.some.injEq] at hx;subst hx
    refine ⟨v,hd,?_⟩
    simp only [Instr.loadAt,Instr.sureAddr,loadVar,Sem.run_bind,Sem.run_pure,Result.andThen,ok.agg,hagg,Bool.false_eq_true,if_false]
    simp [hw]
theorem fieldAddrV_sound {P:Program} (hT:Tab.ok P T) {t f:Nat} {x r:SV} {a:Value} (hx:x.den N=some a) (h:fieldAddrV T t x f=some r) :
  ∃ v,r.den N=some v∧(Instr.fieldAt t a f).run P w=.ok v w:=by
 unfold fieldAddrV at h
 cases ht:lookT T t with
 | none=>simp [ht] at h
 | some ti =>
  have ok:=(hT t ti ht).kind
  simp only [ht] at h
  cases hk:ti.kind<;>simp only [hk] at h<;>try (simp at h;done)
  rename_i fs
  rw [hk] at ok
  cases hf:nth fs f with
  | none=>simp [hf] at h
  | some q =>
   obtain ⟨o,n,ag⟩:=q
   simp only [hf] at h
   cases hn:Nat.beq n 0 with
   | true=>simp [hn] at h
   | false =>
    simp only [hn,cond_false] at h
    have hn0:n≠0:=fun e=>by subst e;simp at hn
    obtain ⟨fields,fd,h1,h2,rfl,h4,h5⟩:=struct_field ok hf
    have main:∀ k y,(Instr.fieldAt t (.pointer (some ⟨k,y,none⟩)) f).run P w=.ok (.pointer (some ⟨k,y+fd.offset,none⟩)) w:=by
     intro k y
     simp [Instr.fieldAt,run_underlying h1,h2,Instr.sureAddr,fieldPlace,h4,hn0,Result.andThen,addr_add]
    cases x<;>simp only at h<;>try (simp at h;done)
    ·rename_i q c
     simp only [Option.some.injEq] at h;subst h
     simp only [SV.den] at hx
     cases hp:N[q]? with
     | none=>simp [hp] at hx
     | some p =>
      simp only [hp,Option.some.injEq] at hx;subst hx
      exact ⟨_,by simp only [SV.den,hp];rfl,by rw [main];simp [Nat.add_assoc]⟩
    ·rename_i k y c
     simp only [Option.some.injEq] at h;subst h
     simp only [SV.den,Option.some.injEq] at hx;subst hx
     exact ⟨_,by simp only [SV.den];rfl,by rw [main];simp [Nat.add_assoc]⟩
theorem indexAddrV_sound {P:Program} (hT:Tab.ok P T) {t:Nat} {x i r:SV} {a b:Value} (hx:x.den N=some a) (hi:i.den N=some b) (h:indexAddrV T t x i=some r) :
  ∃ v,r.den N=some v∧(Instr.indexAt t a b).run P w=.ok v w:=by
 unfold indexAddrV at h
 split at h
 ·rename_i k z
  split at h
  ·rename_i ti ht
   have ok:=(hT t ti ht).kind
   split at h
   ·rename_i n e hk
    rw [hk] at ok
    split at h
    ·rename_i te hte
     have oke:=hT e te hte
     cases hz:(decide (0≤z)&&decide (z<n)) with
     | false=>rw [hz] at h;simp at h
     | true =>
      rw [hz] at h
      simp only [cond_true] at h
      simp only [Bool.and_eq_true,decide_eq_true_eq] at hz
      simp only [SV.den,SI.den,Option.some.injEq] at hi;subst hi
      have ok':P.underlying t=some (.array n e):=ok
      have main:∀ k' y,(Instr.indexAt t (.pointer (some ⟨k',y,none⟩)) (.int k z)).run P w=.ok (.pointer (some ⟨k',y+z.toNat*te.size,none⟩)) w:=by
       intro k' y
       simp [Instr.indexAt,asIntOf,run_underlying ok',Instr.sureAddr,Result.andThen,hz,oke.size,addr_add]
      cases x<;>simp only at h<;>try (simp at h;done)
      ·rename_i q c
       simp only [Option.some.injEq] at h;subst h
       simp only [SV.den] at hx
       cases hp:N[q]? with
       | none=>simp [hp] at hx
       | some p =>
        simp only [hp,Option.some.injEq] at hx;subst hx
        exact ⟨_,by simp only [SV.den,hp];rfl,by rw [main];simp [Nat.add_assoc]⟩
      ·rename_i k2 y c
       simp only [Option.some.injEq] at h;subst h
       simp only [SV.den,Option.some.injEq] at hx;subst hx
       exact ⟨_,by simp only [SV.den];rfl,by rw [main];simp [Nat.add_assoc]⟩
    ·cases h
   ·rename_i e hk
    rw [hk] at ok
    split at h
    ·rename_i te hte
     have oke:=hT e te hte
     split at h
     ·rename_i r0 c0 n0 z0 k0
      cases hz:(decide (0≤z)&&decide (z<n0)) with
      | false=>rw [hz] at h;simp at h
      | true =>
       rw [hz] at h
       simp only [cond_true,Option.some.injEq] at h;subst h
       simp only [Bool.and_eq_true,decide_eq_true_eq] at hz
       simp only [SV.den,SI.den,Option.some.injEq] at hi;subst hi
       have ok':P.underlying t=some (.slice e):=ok
       simp only [SV.den] at hx
       cases hp:N[r0]? with
       | none=>simp [hp] at hx
       | some p =>
        simp only [hp,Option.some.injEq] at hx;subst hx
        refine ⟨_,by simp only [SV.den,hp];rfl,?_⟩
        simp [Instr.indexAt,asIntOf,run_underlying ok',Result.andThen,hz,oke.size,addr_add,Nat.add_assoc]
     ·cases h
    ·cases h
   ·cases h
  ·cases h
 ·cases h
theorem evL0_sound {ρ:Operand→Option SV} {ρ':Operand→Value} (hρ:∀ x s,ρ x=some s→s.den N=some (ρ' x)):∀ (xs:List Operand) {l:List SV},evL0 ρ xs=some l→SV.denL N l=some (xs.map ρ')
 | [],l,h=>by simp only [evL0,Option.some.injEq] at h;subst h;rfl
 | x::xs,l,h=>by
  simp only [evL0] at h
  split at h
  ·rename_i v q hv hq
   simp only [Option.some.injEq] at h;subst h
   simp [SV.denL,hρ _ _ hv,evL0_sound hρ xs hq]
  ·cases h
theorem evO_sound {ρ:Operand→Option SV} {ρ':Operand→Value} (hρ:∀ x s,ρ x=some s→s.den N=some (ρ' x)) {o:Option Operand} {m:Option Nat} (h:evO ρ o=some m) :
  (o=none∧m=none)∨∃ k n,o.map ρ'=some (.int k (n:Nat))∧m=some n:=by
 cases o with
 | none=>simp only [evO,Option.some.injEq] at h;exact .inl ⟨rfl,h.symm⟩
 | some x =>
  simp only [evO] at h
  split at h
  ·rename_i k z hx
   have:=hρ _ _ hx
   simp only [SV.den,SI.den,Option.some.injEq] at this
   by_cases hz:0≤z
   ·simp only [hz,decide_true,cond_true,Option.some.injEq] at h;subst h
    refine .inr ⟨k,z.toNat,?_,rfl⟩
    simp only [Option.map_some,←this,Int.toNat_of_nonneg hz]
   ·simp [hz] at h
  ·cases h
theorem run_sliceBound {P:Program} {k:IntKind} {n y:Nat} {code:BoundsCode} (h:n≤y):(Instr.sliceBound (.int k (n:Nat)) y code).run P w=.ok n w:=by
 have:(n:Int)≤y:=by omega
 simp [Instr.sliceBound,asIntOf,this]
theorem run_sliceBounds {P:Program} {ρ':Operand→Value} {b:Bool} {len cap:Nat} {lo hi mx:Option Operand} {l h m:Option Nat}
  (hl:(lo=none∧l=none)∨∃ k n,lo.map ρ'=some (.int k (n:Nat))∧l=some n) (hh:(hi=none∧h=none)∨∃ k n,hi.map ρ'=some (.int k (n:Nat))∧h=some n)
  (hm:(mx=none∧m=none)∨∃ k n,mx.map ρ'=some (.int k (n:Nat))∧m=some n) (h1:l.getD 0≤h.getD len) (h2:h.getD len≤m.getD cap) (h3:m.getD cap≤cap) (h4:(h.isSome || !m.isSome)=true) :
  (Instr.sliceBounds b len cap (lo.map ρ') (hi.map ρ') (mx.map ρ')).run P w=.ok (l.getD 0,h.getD len,m.getD cap) w:=by
 rcases hm with ⟨rfl,rfl⟩ | ⟨k3,n3,e3,rfl⟩<;>rcases hh with ⟨rfl,rfl⟩ | ⟨k2,n2,e2,rfl⟩<;>rcases hl with ⟨rfl,rfl⟩ | ⟨k1,n1,e1,rfl⟩<;>simp only [Option.getD,Option.isSome,Bool.or_false,Bool.not_true,Bool.false_or,reduceCtorEq] at h1 h2 h3 h4 <;>
  simp only [Instr.sliceBounds,Option.map_none, *,Sem.run_bind,Sem.run_pure,Result.andThen,run_sliceBound h1,run_sliceBound h2,run_sliceBound h3,Option.getD]
theorem sliceV_sound {P:Program} (hT:Tab.ok P T) (hV:Vis N rg w) {ρ':Operand→Value} {t:Nat} {x r:SV} {a:Value} {lo hi mx:Option Operand} {l h m:Option Nat} (hx:x.den N=some a)
  (hl:(lo=none∧l=none)∨∃ k n,lo.map ρ'=some (.int k (n:Nat))∧l=some n) (hh:(hi=none∧h=none)∨∃ k n,hi.map ρ'=some (.int k (n:Nat))∧h=some n)
  (hm:(mx=none∧m=none)∨∃ k n,mx.map ρ'=some (.int k (n:Nat))∧m=some n) (hs:sliceV T rg t x l h m=some r) :
  ∃ v,r.den N=some v∧(Instr.sliceAt t a (lo.map ρ') (hi.map ρ') (mx.map ρ')).run P w=.ok v w:=by
 unfold sliceV at hs
 split at hs
 ·rename_i ti ht
  have ok:=(hT t ti ht).kind
  split at hs
  ·rename_i e hk
   rw [hk] at ok
   have ok':P.underlying t=some (.slice e):=ok
   split at hs
   ·rename_i te hte
    have oke:=hT e te hte
    split at hs
    ·-- a slice whose capacity is known
     rename_i r0 c n z k
     cases hb:(Nat.beq z te.size&&Nat.ble (l.getD 0) (h.getD n)&&Nat.ble (h.getD n) (m.getD k)&&Nat.ble (m.getD k) k&&(h.isSome || !m.isSome)) with
     | false=>rw [hb] at hs;simp at hs
     | true =>
      rw [hb] at hs
      simp only [cond_true] at hs
      rw [Bool.and_eq_true,Bool.and_eq_true,Bool.and_eq_true,Bool.and_eq_true] at hb
      obtain ⟨⟨⟨⟨b1,b2⟩,b3⟩,b4⟩,b5⟩:=hb
      have b1:=Nat.eq_of_beq_eq_true b1
      have hrun:=run_sliceBounds (P:=P) (w:=w) (ρ':=ρ') (b:=true) (len:=n) (cap:=k) hl hh hm (Nat.le_of_ble_eq_true b2) (Nat.le_of_ble_eq_true b3) (Nat.le_of_ble_eq_true b4) b5
      simp only [SV.den] at hx
      cases hp:N[r0]? with
      | none=>simp [hp] at hx
      | some p =>
       simp only [hp,Option.some.injEq,Num.cap] at hx;subst hx
       have main:(Instr.sliceAt t (.slice (some ⟨p.b,p.o+c,none⟩) n k) (lo.map ρ') (hi.map ρ') (mx.map ρ')).run P w =
         .ok (.slice (if m.getD k=l.getD 0 then some ⟨p.b,p.o+c,none⟩ else some ⟨p.b,p.o+c+l.getD 0*z,none⟩) (h.getD n-l.getD 0) (m.getD k-l.getD 0)) w:=by
        simp only [Instr.sliceAt,run_underlying ok',Sem.run_bind,Result.andThen,Instr.slice,hrun,oke.size,Sem.run_pure,Option.map_some,addr_add,b1]
       cases he:Nat.beq (m.getD k) (l.getD 0) with
       | true =>
        rw [he] at hs
        simp only [cond_true,Option.some.injEq] at hs;subst hs
        have he:=Nat.eq_of_beq_eq_true he
        refine ⟨_,by simp only [SV.den,hp];rfl,?_⟩
        rw [main,if_pos he]
        simp [Num.cap,he]
       | false =>
        rw [he] at hs
        simp only [cond_false,Option.some.injEq] at hs;subst hs
        refine ⟨_,by simp only [SV.den,hp];rfl,?_⟩
        rw [main,if_neg (fun e=>by rw [e] at he;simp at he)]
        simp [Num.cap,Nat.add_assoc]
    ·-- .. is not known
     rename_i r0 c n z
     simp only [SV.den] at hx
     cases hp:N[r0]? with
     | none=>simp [hp] at hx
     | some p =>
      simp only [hp,Option.some.injEq,Num.cap] at hx;subst hx
      split at hs
      ·rename_i g hg
       rw [nth_eq] at hg
       cases hb:(g.own&&Nat.blt 0 z&&Nat.beq z te.size&&Nat.ble (l.getD 0) (h.getD n)&&Nat.ble (c+h.getD n*z) g.cells.length&&(Nat.beq (l.getD 0) 0 || Nat.ble (c+(l.getD 0+1)*z) g.cells.length)) with
       | false=>rw [hb] at hs;simp at hs
       | true =>
        rw [hb] at hs
        simp only [cond_true,Option.some.injEq] at hs;subst hs
        rw [Bool.and_eq_true,Bool.and_eq_true,Bool.and_eq_true,Bool.and_eq_true,Bool.and_eq_true,Bool.or_eq_true] at hb
        obtain ⟨⟨⟨⟨⟨b0,b1⟩,b2⟩,b3⟩,b4⟩,b5⟩:=hb
        have b1:0<z:=by simpa using b1
        have b2:=Nat.eq_of_beq_eq_true b2
        have b3:=Nat.le_of_ble_eq_true b3
        have b4:=Nat.le_of_ble_eq_true b4
        have hext:=hV.ext r0 g p hg hp b0
        have hcap:h.getD n≤(p.x-c) / z:=by rw [Nat.le_div_iff_mul_le b1];omega
        have hrun:=run_sliceBounds (P:=P) (w:=w) (ρ':=ρ') (b:=true) (len:=n) (cap:=(p.x-c) / z) hl hh hm b3 hcap (Nat.le_refl _) (by simp)
        refine ⟨_,by simp only [SV.den,hp];rfl,?_⟩
        simp only [Instr.sliceAt,run_underlying ok',Sem.run_bind,Result.andThen,Instr.slice,hrun,oke.size,Sem.run_pure,Option.map_some,addr_add,←b2,Option.getD_none]
        have hc2:(p.x-(c+l.getD 0*z)) / z=(p.x-c) / z-l.getD 0:=by
         rw [←Nat.sub_sub,Nat.mul_comm,Nat.sub_mul_div]
        simp only [Num.cap,hc2,Nat.add_assoc]
        rcases b5 with b5 | b5
        ·have b5:=Nat.eq_of_beq_eq_true b5
         rw [b5];simp
        ·have b5:=Nat.le_of_ble_eq_true b5
         have:l.getD 0+1≤(p.x-c) / z:=by rw [Nat.le_div_iff_mul_le b1];omega
         rw [if_neg (by omega)]
      ·rename_i g mm hg
       rw [nth_eq] at hg
       cases hb:(g.own&&Nat.blt 0 z&&Nat.beq z te.size&&h.isSome&&Nat.ble (l.getD 0) (h.getD n)&&Nat.ble (h.getD n) mm&&Nat.ble (c+mm*z) g.cells.length) with
       | false=>rw [hb] at hs;simp at hs
       | true =>
        rw [hb] at hs
        simp only [cond_true] at hs
        rw [Bool.and_eq_true,Bool.and_eq_true,Bool.and_eq_true,Bool.and_eq_true,Bool.and_eq_true,Bool.and_eq_true] at hb
        obtain ⟨⟨⟨⟨⟨⟨b0,b1⟩,b2⟩,b3⟩,b4⟩,b5⟩,b6⟩:=hb
        have b1:0<z:=by simpa using b1
        have b2:=Nat.eq_of_beq_eq_true b2
        have b4:=Nat.le_of_ble_eq_true b4
        have b5:=Nat.le_of_ble_eq_true b5
        have b6:=Nat.le_of_ble_eq_true b6
        have hext:=hV.ext r0 g p hg hp b0
        have hcap:mm≤(p.x-c) / z:=by rw [Nat.le_div_iff_mul_le b1];omega
        have hrun:=run_sliceBounds (P:=P) (w:=w) (ρ':=ρ') (b:=true) (len:=n) (cap:=(p.x-c) / z) (m:=some mm) hl hh hm b4 (by simpa using b5) (by simpa using hcap) (by simp [b3])
        have main:(Instr.sliceAt t (.slice (some ⟨p.b,p.o+c,none⟩) n ((p.x-c) / z)) (lo.map ρ') (hi.map ρ') (mx.map ρ')).run P w =
          .ok (.slice (if mm=l.getD 0 then some ⟨p.b,p.o+c,none⟩ else some ⟨p.b,p.o+c+l.getD 0*z,none⟩) (h.getD n-l.getD 0) (mm-l.getD 0)) w:=by
         simp only [Instr.sliceAt,run_underlying ok',Sem.run_bind,Result.andThen,Instr.slice,hrun,oke.size,Sem.run_pure,Option.map_some,addr_add,←b2,Option.getD_some]
        cases he:Nat.beq mm (l.getD 0) with
        | true =>
         rw [he] at hs
         simp only [cond_true,Option.some.injEq] at hs;subst hs
         have he:=Nat.eq_of_beq_eq_true he
         refine ⟨_,by simp only [SV.den,hp];rfl,?_⟩
         rw [main,if_pos he]
         simp [Num.cap,he]
        | false =>
         rw [he] at hs
         simp only [cond_false,Option.some.injEq] at hs;subst hs
         refine ⟨_,by simp only [SV.den,hp];rfl,?_⟩
         rw [main,if_neg (fun e=>by rw [e] at he;simp at he)]
         simp [Num.cap,Nat.add_assoc]
      ·cases hs
    ·-- nil
     cases hb:(Nat.beq (l.getD 0) 0&&Nat.beq (h.getD 0) 0&&Nat.beq (m.getD 0) 0&&(h.isSome || !m.isSome)) with
     | false=>rw [hb] at hs;simp at hs
     | true =>
      rw [hb] at hs
      simp only [cond_true,Option.some.injEq] at hs;subst hs
      rw [Bool.and_eq_true,Bool.and_eq_true,Bool.and_eq_true] at hb
      obtain ⟨⟨⟨b1,b2⟩,b3⟩,b4⟩:=hb
      have b1:=Nat.eq_of_beq_eq_true b1
      have b2:=Nat.eq_of_beq_eq_true b2
      have b3:=Nat.eq_of_beq_eq_true b3
      have hrun:=run_sliceBounds (P:=P) (w:=w) (ρ':=ρ') (b:=true) (len:=0) (cap:=0) hl hh hm (by omega) (by omega) (by omega) b4
      refine ⟨_,hx,?_⟩
      simp only [SV.den,one?,if_true,Option.some.injEq] at hx;subst hx
      simp [Instr.sliceAt,run_underlying ok',Result.andThen,Instr.slice,hrun,oke.size,b1,b2,b3]
    ·cases hs
   ·cases hs
  ·rename_i n e hk
   rw [hk] at ok
   have ok':P.underlying t=some (.array n e):=ok
   split at hs
   ·rename_i te hte
    have oke:=hT e te hte
    split at hs
    ·rename_i r0 c
     cases hb:(Nat.ble (l.getD 0) (h.getD n)&&Nat.ble (h.getD n) (m.getD n)&&Nat.ble (m.getD n) n&&(h.isSome || !m.isSome)) with
     | false=>rw [hb] at hs;simp at hs
     | true =>
      rw [hb] at hs
      simp only [cond_true] at hs
      rw [Bool.and_eq_true,Bool.and_eq_true,Bool.and_eq_true] at hb
      obtain ⟨⟨⟨b2,b3⟩,b4⟩,b5⟩:=hb
      have hrun:=run_sliceBounds (P:=P) (w:=w) (ρ':=ρ') (b:=false) (len:=n) (cap:=n) hl hh hm (Nat.le_of_ble_eq_true b2) (Nat.le_of_ble_eq_true b3) (Nat.le_of_ble_eq_true b4) b5
      simp only [SV.den] at hx
      cases hp:N[r0]? with
      | none=>simp [hp] at hx
      | some p =>
       simp only [hp,Option.some.injEq] at hx;subst hx
       have main:(Instr.sliceAt t (.pointer (some ⟨p.b,p.o+c,none⟩)) (lo.map ρ') (hi.map ρ') (mx.map ρ')).run P w =
         .ok (.slice (some (if m.getD n=l.getD 0 then ⟨p.b,p.o+c,none⟩ else ⟨p.b,p.o+c+l.getD 0*te.size,none⟩)) (h.getD n-l.getD 0) (m.getD n-l.getD 0)) w:=by
        simp only [Instr.sliceAt,run_underlying ok',Sem.run_bind,Result.andThen,Instr.sureAddr,hrun,oke.size,Sem.run_pure,addr_add]
       cases he:Nat.beq (m.getD n) (l.getD 0) with
       | true =>
        rw [he] at hs
        simp only [cond_true,Option.some.injEq] at hs;subst hs
        have he:=Nat.eq_of_beq_eq_true he
        refine ⟨_,by simp only [SV.den,hp];rfl,?_⟩
        rw [main,if_pos he]
        simp [Num.cap,he]
       | false =>
        rw [he] at hs
        simp only [cond_false,Option.some.injEq] at hs;subst hs
        refine ⟨_,by simp only [SV.den,hp];rfl,?_⟩
        rw [main,if_neg (fun e=>by rw [e] at he;simp at he)]
        simp [Num.cap,Nat.add_assoc]
    ·cases hs
   ·cases hs
  ·cases hs
 ·cases hs
theorem fieldV_sound {P:Program} (hT:Tab.ok P T) {t f:Nat} {x r:SV} {a:Value} (hx:x.den N=some a) (h:fieldV T t x f=some r) :
  ∃ v,r.den N=some v∧(Instr.field t a f).run P w=.ok v w:=by
 unfold fieldV at h
 split at h
 ·rename_i ti cs ht
  have ok:=(hT t ti ht).kind
  split at h
  ·rename_i fs hk
   rw [hk] at ok
   split at h
   ·rename_i o n ag hf
    obtain ⟨fields,fd,h1,h2,rfl,h4,h5⟩:=struct_field ok hf
    simp only [SV.den] at hx
    cases hl:SV.denL N cs with
    | none=>simp [hl] at hx
    | some l =>
     simp only [hl,Option.some.injEq] at hx;subst hx
     obtain ⟨v,hv,hrun⟩:=part_sound (P:=P) (w:=w) (h4 w) (h5 w) hl h
     refine ⟨v,hv,?_⟩
     simp [Instr.field,run_underlying h1,h2,asAgg,Result.andThen,hrun]
   ·cases h
  ·cases h
 ·cases h
theorem indexV_sound {P:Program} (hT:Tab.ok P T) {t:Nat} {x i r:SV} {a b:Value} (hx:x.den N=some a) (hi:i.den N=some b) (h:indexV T t x i=some r) :
  ∃ v,r.den N=some v∧(Instr.index t a b).run P w=.ok v w:=by
 unfold indexV at h
 split at h
 ·rename_i k z cs
  split at h
  ·rename_i ti ht
   have ok:=(hT t ti ht).kind
   split at h
   ·rename_i n e hk
    rw [hk] at ok
    have ok':P.underlying t=some (.array n e):=ok
    split at h
    ·rename_i te hte
     have oke:=hT e te hte
     cases hz:(decide (0≤z)&&decide (z<n)) with
     | false=>rw [hz] at h;simp at h
     | true =>
      rw [hz] at h
      simp only [cond_true] at h
      simp only [Bool.and_eq_true,decide_eq_true_eq] at hz
      simp only [SV.den,SI.den,Option.some.injEq] at hi hx;subst hi
      cases hl:SV.denL N cs with
      | none=>simp [hl] at hx
      | some l =>
       simp only [hl,Option.some.injEq] at hx;subst hx
       obtain ⟨v,hv,hrun⟩:=part_sound (P:=P) (w:=w) (oke.size w) (oke.agg w) hl h
       refine ⟨v,hv,?_⟩
       simp [Instr.index,asIntOf,run_underlying ok',Result.andThen,hz,oke.size,hrun]
    ·cases h
   ·cases h
  ·cases h
 ·cases h
theorem extractV_sound {P:Program} {i:Nat} {x r:SV} {a:Value} (hx:x.den N=some a) (h:extractV x i=some r) :
  ∃ v,r.den N=some v∧(Instr.extract a i).run P w=.ok v w:=by
 unfold extractV at h
 split at h
 ·rename_i cs
  simp only [SV.den] at hx
  cases hl:SV.denL N cs with
  | none=>simp [hl] at hx
  | some l =>
   simp only [hl,Option.some.injEq] at hx;subst hx
   rw [nth_eq] at h
   obtain ⟨_,hget⟩:=SV.denL_get _ hl
   obtain ⟨v,h1,h2⟩:=hget i r h
   exact ⟨v,h1,by simp [Instr.extract,h2]⟩
 ·cases h
theorem nilCheckV_sound {P:Program} {ρ:Operand→Value} {o:Oper} {y:Operand} (ho:o.op=.nilCheck y) {x r:SV} (hx:x.den N=some (ρ y)) (h:nilCheckV x=some r) :
  ∃ v,r.den N=some v∧(execOp ρ o).run P w=.ok (.value v) w:=by
 unfold nilCheckV at h
 split at h<;>simp only [Option.some.injEq,reduceCtorEq] at h
 ·rename_i q c
  subst h
  refine ⟨_,hx,?_⟩
  simp only [SV.den] at hx
  cases hp:N[q]? with
  | none=>simp [hp] at hx
  | some p =>
   simp only [hp,Option.some.injEq] at hx
   simp [execOp,ho,←hx]
 ·subst h
  refine ⟨_,hx,?_⟩
  simp only [SV.den,Option.some.injEq] at hx
  simp [execOp,ho,←hx]
 ·subst h
  refine ⟨_,hx,?_⟩
  simp only [SV.den,one?,if_true,Option.some.injEq] at hx
  simp [execOp,ho,←hx]
end
section
variable {E:Env} {N:Nums} {rg:List Rg} {w:World} {T:Tab}
theorem eqGuard_none {P:Program} (op:BinOp) (t:Nat) (x y:Operand) {a b:Value} (h:∀ p q,a=.agg p→b=.agg q→False) (h':a=.nilIface→b=.nilIface→False) :
  (eqGuard op t x y a b).run P w=.ok () w:=by
 cases a<;>cases b<;>first | exact (h _ _ rfl rfl).elim | exact (h' rfl rfl).elim | (unfold eqGuard;split<;>rfl)
theorem intOp_sound {P:Program} {op:BinOp} {k:IntKind} {a b:SI} {r:SV} (h:intOp op k a b=some r) (t:Nat) :
  ∃ v,r.den N=some v∧(binOp op t (.int k a.den) (.int k b.den)).run P w=.ok v w:=by
 cases op<;>simp only [intOp] at h<;>try (simp at h;done)
 case quo =>
  split at h
  ·rename_i z
   by_cases hz:z=0
   ·simp [hz] at h
   ·simp only [hz,decide_false,cond_false,Option.some.injEq] at h;subst h
    exact ⟨_,by simp only [SV.den];rfl,by simp [binOp,Op.intDiv,SI.den,hz,quoI_den]⟩
  ·cases h
 case rem =>
  split at h
  ·rename_i z
   by_cases hz:z=0
   ·simp [hz] at h
   ·simp only [hz,decide_false,cond_false,Option.some.injEq] at h;subst h
    exact ⟨_,by simp only [SV.den];rfl,by simp [binOp,Op.intDiv,SI.den,hz,remI_den]⟩
  ·cases h
 all_goals
  simp only [Option.some.injEq] at h;subst h
  refine ⟨_,by simp only [SV.den];rfl,?_⟩
  simp [binOp,Op.intArith,Op.intCmp,Op.intBits,addI_den,subI_den,mulI_den,eqI_den,neI_den,ltI_den,leI_den,gtI_den,geI_den,bitsI,bitsS_den]
theorem ptr_spec {x:SV} {a:Value} {b:Bool} (hx:x.den N=some a) (h:ptr? x=some b):∃ p:Option Addr,a=.pointer p∧p.isSome=b:=by
 unfold ptr? at h
 split at h<;>simp only [Option.some.injEq,reduceCtorEq] at h<;>subst h
 ·rename_i r c
  simp only [SV.den] at hx
  cases hp:N[r]? with
  | none=>simp [hp] at hx
  | some p=>simp only [hp,Option.some.injEq] at hx;exact ⟨_,hx.symm,rfl⟩
 ·simp only [SV.den,Option.some.injEq] at hx;exact ⟨_,hx.symm,rfl⟩
 ·simp only [SV.den,one?,if_true,Option.some.injEq] at hx;exact ⟨_,hx.symm,rfl⟩
 ·simp only [SV.den,one?,if_true,Option.some.injEq] at hx;exact ⟨_,hx.symm,rfl⟩
theorem run_equalIn_ptr {P:Program} {t e:Nat} (d:Nat) (h:P.underlying t=some (.pointer e)) (p q:Option Addr) (hpq:(p.isSome&&q.isSome)=false) :
  (Op.equalIn (d+1) t (.pointer p) (.pointer q)).run P w=.ok (!p.isSome&&!q.isSome) w:=by
 simp only [Op.equalIn,Sem.run_bind,run_underlying h,Result.andThen]
 cases p<;>cases q<;>simp at hpq ⊢
theorem run_equal_ptr {P:Program} {t e:Nat} (h:P.underlying t=some (.pointer e)) (p q:Option Addr) (hpq:(p.isSome&&q.isSome)=false) :
  (Op.equal t (.pointer p) (.pointer q)).run P w=.ok (!p.isSome&&!q.isSome) w:=run_equalIn_ptr 9999 h p q hpq
theorem run_equalIn_nil {P:Program} {w:World} {t e:Nat} (d:Nat) (h:P.underlying t=some (.slice e)) (p:Option Addr) (n c:Nat):(Op.equalIn (d+1) t (.slice p n c) (.slice none 0 0)).run P w=.ok p.isNone w:=by
 simp only [Op.equalIn,Sem.run_bind,run_underlying h,Result.andThen]
 cases p<;>rfl
theorem run_equal_nil {P:Program} {w:World} {t e:Nat} (h:P.underlying t=some (.slice e)) (p:Option Addr) (n c:Nat):(Op.equal t (.slice p n c) (.slice none 0 0)).run P w=.ok p.isNone w:=run_equalIn_nil 9999 h p n c
theorem nilS_spec {x:SV} {a:Value} {b:Bool} (hx:x.den N=some a) (h:nilS x=some b):∃ p n c,a=.slice p n c∧p.isNone=b:=by
 unfold nilS at h
 split at h
 ·rename_i p n c
  simp only [Option.some.injEq] at h;subst h
  simp only [SV.den] at hx
  split at hx
  ·simp only [Option.some.injEq] at hx;subst hx
   exact ⟨p,n,c,rfl,rfl⟩
  ·cases hx
 ·simp only [Option.some.injEq] at h;subst h
  simp only [SV.den] at hx
  split at hx
  ·simp only [Option.some.injEq] at hx;subst hx
   exact ⟨_,_,_,rfl,rfl⟩
  ·cases hx
 ·cases h
theorem isNilS_spec {x:SV} {a:Value} (hx:x.den N=some a) (h:isNilS x=true):a=.slice none 0 0:=by
 unfold isNilS at h
 split at h
 ·simp only [SV.den] at hx
  split at hx
  ·simp only [Option.some.injEq] at hx;exact hx.symm
  ·cases hx
 ·cases h
theorem binV_sound {P:Program} (hT:Tab.ok P T) {op:BinOp} {t:Nat} {x y r:SV} {a b:Value} (hx:x.den N=some a) (hy:y.den N=some b) (h:binV T op t x y=some r) (ox oy:Operand) :
  ∃ v,r.den N=some v∧(do eqGuard op t ox oy a b;binOp op t a b:Sem Value).run P w=.ok v w:=by
 unfold binV at h
 split at h
 ·rename_i k a' k' b'
  simp only [SV.den,Option.some.injEq] at hx hy;subst hx;subst hy
  simp only [Sem.run_bind]
  rw [eqGuard_none _ _ _ _ (by simp) (by simp)]
  simp only [Result.andThen]
  split at h
  ·split at h
   ·rename_i z
    by_cases hz:z<0
    ·simp [hz] at h
    ·simp only [hz,decide_false,cond_false,Option.some.injEq] at h;subst h
     exact ⟨_,by simp only [SV.den];rfl,by simp [binOp,Op.shift,SI.den,hz,shlI_den]⟩
   ·cases h
  ·split at h
   ·rename_i z
    by_cases hz:z<0
    ·simp [hz] at h
    ·simp only [hz,decide_false,cond_false,Option.some.injEq] at h;subst h
     exact ⟨_,by simp only [SV.den];rfl,by simp [binOp,Op.shift,SI.den,hz,shrI_den]⟩
   ·cases h
  ·cases hk:kq k k' with
   | false=>rw [hk] at h;simp at h
   | true =>
    rw [hk] at h
    simp only [cond_true] at h
    have:=kq_eq hk;subst this
    exact intOp_sound h t
 ·rename_i a' b'
  simp only [SV.den,Option.some.injEq] at hx hy;subst hx;subst hy
  simp only [Sem.run_bind]
  rw [eqGuard_none _ _ _ _ (by simp) (by simp)]
  simp only [Result.andThen]
  split at h
  ·rename_i ti ht
   have ok:=(hT t ti ht).kind
   split at h
   ·rename_i hk
    rw [hk] at ok
    split at h
    ·simp only [Option.some.injEq] at h;subst h
     exact ⟨_,by simp only [SV.den];rfl,by rw [run_eql_bool w t _ _ ok,beqB_den]⟩
    ·simp only [Option.some.injEq] at h;subst h
     exact ⟨_,by simp only [SV.den];rfl,by rw [run_neq_bool w t _ _ ok,notB_den,beqB_den]⟩
    ·cases h
   ·cases h
  ·cases h
 ·rename_i xs ys
  split at h
  ·rename_i ti ht
   split at h
   ·rename_i sh hsh
    obtain ⟨hg,heq⟩:=(hT t ti ht).eqs sh hsh
    split at h
    ·rename_i c hc
     simp only [SV.den] at hx hy
     cases hus:SV.denL N xs with
     | none=>simp [hus] at hx
     | some us =>
      cases hvs:SV.denL N ys with
      | none=>simp [hvs] at hy
      | some vs =>
       simp only [hus,hvs,Option.some.injEq] at hx hy
       subst hx;subst hy
       obtain ⟨q1,q2⟩:=eqCells_sound hc hus hvs
       have hrun:=heq us vs w q1
       simp only [Sem.run_bind]
       rw [run_eqGuard_agg w op t ox oy _ _ hg]
       simp only [Result.andThen]
       split at h
       ·simp only [Option.some.injEq] at h;subst h
        exact ⟨_,by simp only [SV.den];rfl,by rw [run_eql_struct,hrun,q2];rfl⟩
       ·simp only [Option.some.injEq] at h;subst h
        exact ⟨_,by simp only [SV.den];rfl,by rw [run_neq_struct,hrun,q2,notB_den];rfl⟩
       ·cases h
    ·cases h
   ·cases h
  ·cases h
 ·split at h
  ·rename_i ti ht
   have ok:=(hT t ti ht).kind
   split at h
   ·rename_i hk
    rw [hk] at ok
    obtain ⟨e,hu⟩:=ok
    split at h
    ·rename_i ba bb hpa hpb
     obtain ⟨p,rfl,hp⟩:=ptr_spec hx hpa
     obtain ⟨q,rfl,hq⟩:=ptr_spec hy hpb
     simp only [Sem.run_bind]
     rw [eqGuard_none _ _ _ _ (by simp) (by simp)]
     simp only [Result.andThen]
     cases hab:(ba&&bb) with
     | true=>rw [hab] at h;simp at h
     | false =>
      rw [hab] at h
      simp only [cond_false] at h
      have he:=run_equal_ptr (w:=w) hu p q (by rw [hp,hq];exact hab)
      rw [hp,hq] at he
      split at h
      ·simp only [Option.some.injEq] at h;subst h
       refine ⟨_,by simp only [SV.den];rfl,?_⟩
       simp [binOp,he,Result.andThen,SB.den]
      ·simp only [Option.some.injEq] at h;subst h
       refine ⟨_,by simp only [SV.den];rfl,?_⟩
       simp [binOp,he,Result.andThen,SB.den]
      ·cases h
    ·cases h
   ·rename_i e hk
    rw [hk] at ok
    have hu:P.underlying t=some (.slice e):=ok
    cases hn:isNilS y with
    | false=>rw [hn] at h;simp at h
    | true =>
     rw [hn] at h
     simp only [cond_true] at h
     split at h
     ·rename_i bn hbn
      obtain ⟨p,n,c,rfl,hp⟩:=nilS_spec hx hbn
      obtain rfl:=isNilS_spec hy hn
      simp only [Sem.run_bind]
      rw [eqGuard_none _ _ _ _ (by simp) (by simp)]
      simp only [Result.andThen]
      have he:=run_equal_nil (P:=P) (w:=w) hu p n c
      rw [hp] at he
      split at h
      ·simp only [Option.some.injEq] at h;subst h
       refine ⟨_,by simp only [SV.den];rfl,?_⟩
       simp [binOp,he,Result.andThen,SB.den]
      ·simp only [Option.some.injEq] at h;subst h
       refine ⟨_,by simp only [SV.den];rfl,?_⟩
       simp [binOp,he,Result.andThen,SB.den]
      ·cases h
     ·cases h
   ·cases h
  ·cases h
theorem convV_sound {P:Program} (hT:Tab.ok P T) (hS:∀ t ti,lookT T t=some ti→(P.underlying t).isSome=true) {s d:Nat} {x r:SV} {a:Value} (hx:x.den N=some a) (h:convV T s d x=some r) :
  ∃ v,r.den N=some v∧(convert s d a).run P w=.ok v w:=by
 unfold convV at h
 split at h
 ·rename_i ti0 ti k0 a' ht0 ht
  have ok:=(hT d ti ht).kind
  split at h
  ·rename_i k hk
   rw [hk] at ok
   have ok':P.underlying d=some (.int k):=ok
   simp only [SV.den,Option.some.injEq] at hx;subst hx
   obtain ⟨sd,hsd⟩:=Option.isSome_iff_exists.1 (hS s ti0 ht0)
   have main:∀ z,(convert s d (.int k0 z)).run P w=.ok (.int k (k.wrap z)) w:=by
    intro z
    simp only [convert,Sem.run_bind,run_underlying hsd,run_underlying ok',Result.andThen]
    cases sd<;>rfl
   split at h
   ·simp only [Option.some.injEq] at h;subst h
    exact ⟨_,by simp only [SV.den];rfl,by rw [main];rfl⟩
   ·simp only [Option.some.injEq] at h;subst h
    exact ⟨_,by simp only [SV.den];rfl,by rw [main];rfl⟩
  ·cases h
 ·cases h
theorem unV_sound {P:Program} {op:UnOp} {x r:SV} {a:Value} (hx:x.den N=some a) (h:unV op x=some r) :
  ∃ v,r.den N=some v∧(Op.unary op a).run P w=.ok v w:=by
 unfold unV at h
 split at h
 ·simp only [Option.some.injEq] at h;subst h
  simp only [SV.den,Option.some.injEq] at hx;subst hx
  exact ⟨_,by simp only [SV.den];rfl,by simp [Op.unary,notB_den]⟩
 ·simp only [Option.some.injEq] at h;subst h
  simp only [SV.den,Option.some.injEq] at hx;subst hx
  exact ⟨_,by simp only [SV.den];rfl,by simp [Op.unary,Op.intArith,subI_den,SI.den]⟩
 ·simp only [Option.some.injEq] at h;subst h
  simp only [SV.den,Option.some.injEq] at hx;subst hx
  exact ⟨_,by simp only [SV.den];rfl,by simp [Op.unary,Op.intBits,bitsS_den,SI.den,bitsI]⟩
 ·cases h
theorem lenV_sound {P:Program} (hT:Tab.ok P T) {t ty:Nat} {x r:SV} {a:Value} (hx:x.den N=some a) (h:lenV T t x=some r) :
  ∃ v,r.den N=some v∧(Builtin.len_ #[t] ty #[a]).run P w=.ok v w:=by
 unfold lenV at h
 split at h
 ·rename_i ti ht
  have ok:=(hT t ti ht).kind
  split at h
  ·rename_i e hk
   rw [hk] at ok
   have ok':P.underlying t=some (.slice e):=ok
   split at h
   ·simp only [Option.some.injEq] at h;subst h
    rename_i r c n z k
    simp only [SV.den] at hx
    cases hp:N[r]? with
    | none=>simp [hp] at hx
    | some p =>
     simp only [hp,Option.some.injEq] at hx;subst hx
     exact ⟨_,by simp only [SV.den];rfl,by simp [Builtin.len_,run_underlying ok',Result.andThen,goInt,SI.den]⟩
   ·simp only [Option.some.injEq] at h;subst h
    simp only [SV.den,Option.some.injEq] at hx;subst hx
    exact ⟨_,by simp only [SV.den];rfl,by simp [Builtin.len_,run_underlying ok',Result.andThen,goInt,SI.den]⟩
   ·simp only [Option.some.injEq] at h;subst h
    simp only [SV.den,Option.some.injEq] at hx;subst hx
    exact ⟨_,by simp only [SV.den];rfl,by simp [Builtin.len_,run_underlying ok',Result.andThen,goInt,SI.den]⟩
   ·simp only [Option.some.injEq] at h;subst h
    simp only [SV.den,one?,if_true,Option.some.injEq] at hx;subst hx
    exact ⟨_,by simp only [SV.den];rfl,by simp [Builtin.len_,run_underlying ok',Result.andThen,goInt,SI.den]⟩
   ·simp only [Option.some.injEq] at h;subst h
    simp only [SV.den,one?,if_true,Option.some.injEq] at hx;subst hx
    exact ⟨_,by simp only [SV.den];rfl,by simp [Builtin.len_,run_underlying ok',Result.andThen,goInt,SI.den]⟩
   ·cases h
  ·rename_i hk
   rw [hk] at ok
   have ok':P.underlying t=some .string:=ok
   split at h
   ·simp only [Option.some.injEq] at h;subst h
    simp only [SV.den,one?,if_true,Option.some.injEq] at hx;subst hx
    exact ⟨_,by simp only [SV.den];rfl,by simp [Builtin.len_,run_underlying ok',Result.andThen,goInt,SI.den]⟩
   ·cases h
  ·rename_i n e hk
   rw [hk] at ok
   have ok':P.underlying t=some (.array n e):=ok
   simp only [Option.some.injEq] at h;subst h
   refine ⟨_,by simp only [SV.den];rfl,?_⟩
   simp only [Builtin.len_]
   simp [run_underlying ok',Result.andThen,goInt,SI.den]
  ·cases h
 ·cases h
theorem foldl_setRow (off:Nat):∀ (cs:List Value) (k:Nat) (acc:Array Value),
  ((cs.zipIdx k).foldl (fun a (p:Value × Nat)=>a.setIfInBounds (off+p.2) p.1) acc).toList=((List.range cs.length).foldl (fun l j=>l.set (off+k+j) (cs.getD j undef)) acc.toList)
 | [],k,acc=>rfl
 | c::cs,k,acc=>by
  simp only [List.zipIdx_cons,List.foldl_cons,List.length_cons,List.range_succ_eq_map,List.foldl_map]
  rw [foldl_setRow off cs (k+1)]
  simp only [Array.toList_setIfInBounds,Nat.add_zero,List.getD_cons_zero,List.getD_cons_succ,Nat.add_succ]
  congr 1
  funext l j
  congr 1
  omega
def setRowV (l:List Value) (c:Nat):List Value→List Value
 | []=>l
 | s::r=>setRowV (l.set c s) (c+1) r
theorem zip_setRow (off:Nat):∀ (cs:List Value) (k:Nat) (acc:Array Value),
  ((cs.zipIdx k).foldl (fun a (p:Value × Nat)=>a.setIfInBounds (off+p.2) p.1) acc).toList=setRowV acc.toList (off+k) cs
 | [],k,acc=>rfl
 | c::cs,k,acc=>by
  simp only [List.zipIdx_cons,List.foldl_cons,setRowV]
  rw [zip_setRow off cs (k+1)]
  simp [Nat.add_assoc]
theorem denL_set {l:List SV} {m:List Value} (h:SV.denL N l=some m) (c:Nat) {s:SV} {v:Value} (hs:s.den N=some v):SV.denL N (l.set c s)=some (m.set c v):=by
 induction l generalizing m c with
 | nil=>simp only [SV.denL,Option.some.injEq] at h;subst h;rfl
 | cons x l ih =>
  simp only [SV.denL] at h
  cases hx:x.den N with
  | none=>simp [hx] at h
  | some y =>
   cases hl:SV.denL N l with
   | none=>simp [hx,hl] at h
   | some q =>
    simp only [hx,hl,Option.some.injEq] at h;subst h
    cases c with
    | zero=>simp [SV.denL,hs,hl]
    | succ c=>simp [SV.denL,hx,ih hl c]
theorem putAt_lt {α:Type}:∀ (l:List α) (c:Nat) (s:α),c<l.length→putAt l c s=l.set c s
 | [],c,s,h=>by simp at h
 | x::l,0,s,_=>rfl
 | x::l,c+1,s,h=>by simp [putAt,putAt_lt l c s (by simpa using h)]
theorem denL_setRow:∀ (ss:List SV) {l:List SV} {m vs:List Value} (c:Nat),c+ss.length≤l.length→SV.denL N l=some m→SV.denL N ss=some vs→SV.denL N (setRow l c ss)=some (setRowV m c vs)
 | [],l,m,vs,c,_,h,k=>by simp only [SV.denL,Option.some.injEq] at k;subst k;exact h
 | s::ss,l,m,vs,c,hc,h,k=>by
  simp only [List.length_cons] at hc
  simp only [SV.denL] at k
  cases hs:s.den N with
  | none=>simp [hs] at k
  | some v =>
   cases hss:SV.denL N ss with
   | none=>simp [hs,hss] at k
   | some vs' =>
    simp only [hs,hss,Option.some.injEq] at k;subst k
    rw [setRow,putAt_lt _ _ _ (by omega)]
    exact denL_setRow ss (c+1) (by simp;omega) (denL_set h c hs) hss
theorem cells_den {s:SV} {v:Value} (hs:s.den N=some v) (ht:∀ l,s≠.tup l) (hb:∀ l,s≠.big l):SV.denL N s.cells=some v.cells.toList:=by
 cases s<;>simp only [SV.den,SV.cells] at hs ⊢
 case agg cs =>
  cases hl:SV.denL N cs with
  | none=>simp [hl] at hs
  | some l=>simp only [hl,Option.some.injEq] at hs;subst hs;simp [Value.cells]
 case tup cs=>exact absurd rfl (ht cs)
 case big a=>exact absurd rfl (hb a)
 case own r c =>
  cases hp:N[r]? with
  | none=>simp [hp] at hs
  | some p=>simp only [hp,Option.some.injEq] at hs;subst hs;simp [SV.denL,SV.den,hp,Value.cells]
 case osl r c n z k =>
  cases hp:N[r]? with
  | none=>simp [hp] at hs
  | some p=>simp only [hp,Option.some.injEq] at hs;subst hs;simp [SV.denL,SV.den,hp,Value.cells]
 case mp r =>
  cases hp:N[r]? with
  | none=>simp [hp] at hs
  | some p=>simp only [hp,Option.some.injEq] at hs;subst hs;simp [SV.denL,SV.den,hp,Value.cells]
 case ch r =>
  cases hp:N[r]? with
  | none=>simp [hp] at hs
  | some p=>simp only [hp,Option.some.injEq] at hs;subst hs;simp [SV.denL,SV.den,hp,Value.cells]
 case fn f cs =>
  cases hp:SV.denL N cs with
  | none=>simp [hp] at hs
  | some p=>simp only [hp,Option.some.injEq] at hs;subst hs;simp [SV.denL,SV.den,hp,Value.cells]
 case raw x =>
  have hx:one? x=true:=by
   cases h:one? x with
   | true=>rfl
   | false=>simp [h] at hs
  simp only [hx,if_true,Option.some.injEq] at hs;subst hs
  cases x<;>first | (simp [one?] at hx;done) | simp [SV.denL,SV.den,one?,Value.cells]
 all_goals
  simp only [Option.some.injEq] at hs;subst hs
  simp [SV.denL,SV.den,Value.cells]
theorem fillV_sound {place:Nat→Option (Nat × Nat)}:∀ (ps:List (Nat × SV)) (vs:List (Nat × Value)) {cs r:List SV} {m:Array Value},SV.denL N cs=some m.toList →
  (∀ (j:Nat) (p:Nat × SV),ps[j]?=some p→∃ v,p.2.den N=some v∧vs[j]?=some (p.1,v))→vs.length=ps.length →
  fillV place cs ps=some r→∃ q:Array Value,SV.denL N r=some q.toList∧Instr.fill place m vs=some q
 | [],vs,cs,r,m,h,hv,hl,hf=>by
  simp only [fillV,Option.some.injEq] at hf;subst hf
  have:vs=[]:=List.eq_nil_of_length_eq_zero (by simpa using hl)
  subst this
  exact ⟨m,h,rfl⟩
 | (i,s)::ps,vs,cs,r,m,h,hv,hl,hf=>by
  obtain ⟨v,hsv,hv0⟩:=hv 0 (i,s) rfl
  cases vs with
  | nil=>simp at hl
  | cons v0 vs =>
   simp at hv0;subst hv0
   simp only [fillV] at hf
   cases hp:place i with
   | none=>simp [hp] at hf
   | some os =>
    obtain ⟨off,size⟩:=os
    simp only [hp] at hf
    cases hb:(Nat.beq s.cells.length size&&Nat.ble (off+size) cs.length) with
    | false=>rw [hb] at hf;simp at hf
    | true =>
     rw [hb] at hf
     simp only [cond_true] at hf
     simp only [Bool.and_eq_true] at hb
     have h1:=Nat.eq_of_beq_eq_true hb.1
     have h2:=Nat.le_of_ble_eq_true hb.2
     have hnt:∀ l,s≠.tup l:=fun l e=>by subst e;simp at hf
     have hnb:∀ l,s≠.big l:=fun l e=>by subst e;simp at hf
     have hc:=cells_den hsv hnt hnb
     have hlen:=(SV.denL_get _ hc).1
     have hlm:=(SV.denL_get _ h).1
     have hf':fillV place (setRow cs off s.cells) ps=some r:=by
      cases s<;>first | exact hf | exact absurd rfl (hnt _) | exact absurd rfl (hnb _)
     have hset:=denL_setRow s.cells off (by omega) h hc
     obtain ⟨q,hq1,hq2⟩:=fillV_sound ps vs (m:=(setRowV m.toList off v.cells.toList).toArray) (by simpa using hset)
      (fun j p hj=>by obtain ⟨u,k1,k2⟩:=hv (j+1) p (by simpa using hj);exact ⟨u,k1,by simpa using k2⟩) (by simpa using hl) hf'
     refine ⟨q,hq1,?_⟩
     simp only [Instr.fill,hp]
     have hsz:v.cells.size=size:=by rw [←h1,←hlen];simp
     have hm:m.size=cs.length:=by rw [←hlm];simp
     rw [if_neg (by rw [hsz];simp;omega)]
     rw [←hq2]
     congr 1
     apply Array.ext'
     have:=zip_setRow off v.cells.toList 0 m
     simp only [Nat.add_zero] at this
     rw [←Array.foldl_toList,Array.toList_zipIdx,this]
end
section
variable {P:Program} {w:World}
def repV (n:Nat) (l:List Value):List Value :=
 match n with
 | 0=>[]
 | n+1=>l++repV n l
theorem repV_length (n:Nat) (l:List Value):(repV n l).length=n*l.length:=by
 induction n with
 | zero=>simp [repV]
 | succ n ih=>simp [repV,ih,Nat.add_mul];omega
theorem repV_get {l:List Value} (hl:0<l.length):∀ (n i:Nat),i<n*l.length→(repV n l)[i]?=l[i % l.length]?
 | 0,i,h=>by omega
 | n+1,i,h=>by
  rw [Nat.add_mul,Nat.one_mul] at h
  simp only [repV]
  by_cases hi:i<l.length
  ·rw [List.getElem?_append_left hi,Nat.mod_eq_of_lt hi]
  ·rw [List.getElem?_append_right (by omega),repV_get hl n _ (by omega)]
   conv=>rhs;rw [Nat.mod_eq_sub_mod (by omega)]
theorem denL_rep {N:Nums} {l:List SV} {m:List Value} (h:SV.denL N l=some m):∀ n,SV.denL N (rep n l)=some (repV n m)
 | 0=>rfl
 | n+1=>by simp only [rep,repV];exact SV.denL_append l _ h (denL_rep h n)
theorem zeros_eq {zero:Array Value} (hz:0<zero.size) (n:Nat):(Array.range (n*zero.size)).map (fun i=>zero[i % zero.size]!)=(repV n zero.toList).toArray:=by
 apply Array.ext'
 apply List.ext_getElem?
 intro i
 simp only [Array.toList_map,Array.toList_range,List.getElem?_map]
 by_cases hi:i<n*zero.size
 ·rw [repV_get (by simpa using hz) n i (by simpa using hi),List.getElem?_range hi]
  have:i % zero.size<zero.size:=Nat.mod_lt _ hz
  simp [this]
 ·have h1:(repV n zero.toList)[i]?=none:=List.getElem?_eq_none (by rw [repV_length];simp;omega)
  have h2:(List.range (n*zero.size))[i]?=none:=List.getElem?_eq_none (by simp;omega)
  rw [h1,h2]
  rfl
theorem run_info {t:Nat} {i:TypeInfo} (h:P.info? t=some i) (w:World):(typeInfo t).run P w=.ok i w:=by
 simp [typeInfo,h,Result.andThen]
theorem run_buildSlice {t e len:Nat} {parts:Array (Nat × Value)} {zero:Value} {q:Array Value} (hu:P.underlying t=some (.slice e)) (hs:∀ w,(sizeOf e).run P w=.ok zero.cells.size w) (hz:∀ w,(zeroValue e).run P w=.ok zero w)
  (h0:0<zero.cells.size) (hle:len*zero.cells.size≤16777216) (hf:Instr.fill (fun i=>some (i*zero.cells.size,zero.cells.size)) (repV len zero.cells.toList).toArray parts.toList=some q) :
  (Instr.buildSlice t len parts).run P w=.ok (.slice (some ⟨w.heap.size,0,none⟩) len len) (w.alloc (.cells q e)):=by
 simp only [Instr.buildSlice,Sem.run_bind,run_underlying hu,hs,Result.andThen]
 have h1:¬len*zero.cells.size > 2 ^ 24:=by omega
 simp only [h1,if_false]
 by_cases hl:len=0
 ·subst hl
  simp only [Nat.zero_mul,if_true]
  have:((Array.range 0).map fun x=>(#[]:Array Value)[x % (#[]:Array Value).size]!)=(repV 0 zero.cells.toList).toArray:=by simp [repV]
  simp only [Sem.run_bind,Sem.run_pure,Result.andThen]
  rw [this,hf]
  simp [newRow,Result.andThen]
 ·have h2:len*zero.cells.size≠0:=Nat.mul_ne_zero hl (by omega)
  simp only [h2,if_false,Sem.run_bind,hz,Result.andThen,Sem.run_pure]
  rw [zeros_eq h0,hf]
  simp [newRow,Result.andThen]
theorem run_makeSlice {t e:Nat} {k k':IntKind} {len cap:Nat} {i:TypeInfo} {zero:Value} (hu:P.underlying t=some (.slice e)) (hi:P.info? e=some i) (hs:∀ w,(sizeOf e).run P w=.ok zero.cells.size w) (hz:∀ w,(zeroValue e).run P w=.ok zero w)
  (h0:0<zero.cells.size) (hle:len≤cap) (hc:cap≤1099511627776) (hb:i.bytes*cap≤281474976710656) :
  (Instr.makeSlice t (.int k (len:Nat)) (.int k' (cap:Nat))).run P w=.ok (.slice (some ⟨w.heap.size,0,none⟩) len cap) (w.alloc (.cells (repV cap zero.cells.toList).toArray e)):=by
 have w1:IntKind.i64.wrap (len:Int)=len:=by simp [IntKind.wrap,IntKind.bits,IntKind.signed];omega
 have w2:IntKind.i64.wrap (cap:Int)=cap:=by simp [IntKind.wrap,IntKind.bits,IntKind.signed];omega
 have hb':¬(i.bytes:Int)*(cap:Int) > 2 ^ 48:=by
  have:((i.bytes*cap:Nat):Int)≤281474976710656:=by omega
  rw [Int.natCast_mul] at this
  omega
 simp only [Instr.makeSlice,Sem.run_bind,run_underlying hu,Result.andThen,asInt,asIntOf,Sem.run_pure,run_info hi,w1,w2]
 have c1:(((decide ((cap:Int)<0) || decide ((i.bytes:Int)*(cap:Int) > 2 ^ 48)) || decide ((len:Int)<0)) || decide ((len:Int) > cap))=false:=by
  simp only [Bool.or_eq_false_iff,decide_eq_false_iff_not]
  exact ⟨⟨⟨by omega,hb'⟩,by omega⟩,by omega⟩
 have c2:¬((((decide ((cap:Int)<0) || decide ((i.bytes:Int)*(cap:Int) > 2 ^ 48)) || decide ((len:Int)<0)) || decide ((len:Int) > cap))=true):=by rw [c1];simp
 rw [if_neg c2]
 have hroom:∀ n w,(askRoom n).run P w=.ok () w:=by intro n w;unfold askRoom;split<;>rfl
 simp only [Sem.run_bind,hroom,Result.andThen,hs,Int.toNat_natCast]
 by_cases hl:cap=0
 ·subst hl
  simp only [Nat.zero_mul,if_true]
  have e0:Array.range 0=#[]:=by apply Array.ext';simp
  simp [newRow,Result.andThen,repV,e0]
 ·have h2:cap*zero.cells.size≠0:=Nat.mul_ne_zero hl (by omega)
  simp only [h2,if_false,Sem.run_bind,hz,Result.andThen,Sem.run_pure]
  rw [zeros_eq h0]
  simp [newRow,Result.andThen]
structure Src (P:Program) (size:Nat) (bytes:Nat) (zero:Value) (tx:Nat) (x:Value) (m:Nat) (vs:List Value):Prop where
 kind:((∃ k k' ,P.underlying tx=some (.int k)∧x=.int k' (m:Nat)∧vs=repV m zero.cells.toList) ∨
  ((∃ d,P.underlying tx=some d∧∀ k,d≠.int k)∧(∀ w,(Builtin.lenOf x).run P w=.ok m w)))
 le:m≤1099511627776
theorem growBy_le (need:Nat):∀ (r c:Nat),c<need→Builtin.growBy need r c≤2*need+192
 | 0,c,h=>by simp [Builtin.growBy];omega
 | r+1,c,h=>by
  simp only [Builtin.growBy]
  rw [if_neg (by omega)]
  by_cases hc:c+(c+768) / 4<need
  ·exact growBy_le need r _ hc
  ·have:∀ r' c',need≤c'→Builtin.growBy need r' c'=c':=by
    intro r' c' h'
    cases r' with
    | zero=>rfl
    | succ r'=>simp only [Builtin.growBy];rw [if_pos h']
   rw [this r _ (by omega)]
   omega
theorem nextcap_le {need old:Nat} (h:old<need):Builtin.nextslicecap need old≤2*need+192:=by
 unfold Builtin.nextslicecap
 split
 ·omega
 ·split
  ·omega
  ·exact growBy_le need 4 old h
theorem run_append {ta:Array Nat} {ty ts te tx:Nat} {zero s x:Value} {i:TypeInfo} {base:Option Addr} {n cap m:Nat} {old vs:List Value} (h0:ta[0]?=some ts) (h1:ta[1]?=some tx)
  (hu:P.underlying ts=some (.slice te)) (hi:P.info? te=some i) (hs:∀ w,(sizeOf te).run P w=.ok zero.cells.size w) (hz:∀ w,(zeroValue te).run P w=.ok zero w) (hz0:0<zero.cells.size)
  (hss:s=.slice base n cap) (hsrc:Src P zero.cells.size i.bytes zero tx x m vs)
  (hcap:(2*(n+m)+256)*i.bytes≤281474976710656) (hn:n+m≤1099511627776)
  (hfirst:∀ w',w'.heap=w.heap→(¬∃ k,P.underlying tx=some (.int k))→(Builtin.firstCells zero.cells.size m x).run P w'=.ok vs.toArray w')
  (hold:cap<n+m→∀ w',w'.heap=w.heap→(Builtin.firstCells zero.cells.size n s).run P w'=.ok old.toArray w')
  {wf:World} (hfit:n+m≤cap→(match base with | some a=>(storeCells (a.add (n*zero.cells.size)) vs).run P w=.ok () wf | none=>wf=w)) :
  (n+m≤cap→(Builtin.append_ ta ty #[s,x]).run P w=.ok (.slice base (n+m) cap) wf) ∧
  (cap<n+m→∃ K rest,n+m≤K∧rest.length=(K-(n+m))*zero.cells.size∧(Builtin.append_ ta ty #[s,x]).run P w=.ok (.slice (some ⟨w.heap.size,0,none⟩) (n+m) K) (w.drew.alloc (.cells (old++vs++rest).toArray te))):=by
 subst hss
 have w1:IntKind.i64.wrap (m:Int)=m:=by have:=hsrc.le;simp [IntKind.wrap,IntKind.bits,IntKind.signed];omega
 have hb:¬(m:Int)*(i.bytes:Int) > 2 ^ 48:=by
  have h3:m*i.bytes≤(2*(n+m)+256)*i.bytes:=Nat.mul_le_mul_right _ (by omega)
  have:((m*i.bytes:Nat):Int)≤281474976710656:=by omega
  rw [Int.natCast_mul] at this
  omega
 have hneg:¬(m:Int)<0:=by omega
 -- what is appended
 obtain ⟨d,hux,hd,hnew⟩:∃ (d:TypeDesc),P.underlying tx=some d∧(((∃ k,d=.int k)∧∃ k',x=.int k' (m:Nat))∨((∀ k,d≠.int k)∧∀ w,(Builtin.lenOf x).run P w=.ok m w)) ∧
   ∀ w',w'.heap=w.heap→(if (match d with | .int _=>true | _=>false)=true then (if m*zero.cells.size=0 then pure #[] else do pure (Builtin.zeroCells (←zeroValue te).cells m)) else Builtin.firstCells zero.cells.size m x:Sem (Array Value)).run P w'=.ok vs.toArray w':=by
  rcases hsrc.kind with ⟨k,k',hux,rfl,rfl⟩ | ⟨⟨d,hux,hd⟩,hl⟩
  ·refine ⟨_,hux,.inl ⟨⟨k,rfl⟩,k',rfl⟩,fun w' hw'=>?_⟩
   simp only [if_true]
   by_cases hm:m=0
   ·subst hm;simp [repV]
   ·have h2:m*zero.cells.size≠0:=Nat.mul_ne_zero hm (by omega)
    simp only [h2,if_false,Sem.run_bind,hz,Result.andThen,Sem.run_pure,Builtin.zeroCells]
    rw [zeros_eq hz0]
  ·refine ⟨d,hux,.inr ⟨hd,hl⟩,fun w' hw'=>?_⟩
   have:=hfirst w' hw' (fun ⟨k,hk⟩=>by rw [hux] at hk;cases hk;exact hd k rfl)
   cases d<;>first | exact absurd rfl (hd _) | simpa using this
 have hbig:¬(((n+m:Nat):Int) > IntKind.i64.max):=by
  intro h
  simp [IntKind.max,IntKind.bits,IntKind.signed] at h
  omega
 have hroom:∀ n w,(askRoom n).run P w=.ok () w:=by intro n w;unfold askRoom;split<;>rfl
 have hl:∀ w,(∃ k',x=.int k' (m:Nat))∨(Builtin.lenOf x).run P w=.ok m w:=fun w=>by
  rcases hd with ⟨_,h⟩ | ⟨_,h⟩
  ·exact .inl h
  ·exact .inr (h w)
 refine ⟨fun hle=>?_,fun hlt=>?_⟩
 ·have hnew:=hnew w rfl
  have:=hfit hle
  cases d
  all_goals
   rcases hd with ⟨⟨k,hk⟩,k',rfl⟩ | ⟨hk,hl⟩<;>first | (cases hk;done) | exact absurd rfl (hk _) | skip
   simp only [Bool.false_eq_true,if_false,if_true] at hnew
   simp only [Builtin.append_,h0,h1,List.getElem?_toArray,List.getElem?_cons_zero,List.getElem?_cons_succ,Sem.run_bind,run_underlying hu,run_underlying hux,Result.andThen,hs,Sem.run_pure,asInt,asIntOf,w1,hneg,run_info hi,hb,
    Int.toNat_natCast,hl,Bool.false_eq_true,if_false,if_true,if_pos hle,Bool.not_true,Bool.not_false,hnew]
   cases base with
   | none=>simp only at this;subst this;rfl
   | some a =>
    simp only at this
    simp only [Sem.run_bind,this,Result.andThen,Sem.run_pure]
 ·have hcap':¬Builtin.nextslicecap (n+m) cap*i.bytes > 2 ^ 48:=by
   have h3:=nextcap_le hlt
   have:Builtin.nextslicecap (n+m) cap*i.bytes≤(2*(n+m)+256)*i.bytes:=Nat.mul_le_mul_right _ (by omega)
   omega
  let K:=(Question.appendCap (n+m) cap te).cut (w.tape w.drawn (.appendCap (n+m) cap te))
  have hK:n+m≤K:=by show n+m≤n+m+_;omega
  refine ⟨K,repV (K-(n+m)) zero.cells.toList,hK,by rw [repV_length];simp,?_⟩
  have hnot:¬n+m≤cap:=by omega
  have hch:(choose (.appendCap (n+m) cap te)).run P w=.ok K w.drew:=rfl
  have hnew:=hnew w.drew rfl
  have hold':=hold hlt w.drew rfl
  cases d
  all_goals
   rcases hd with ⟨⟨k,hk⟩,k',rfl⟩ | ⟨hk,hl⟩<;>first | (cases hk;done) | exact absurd rfl (hk _) | skip
   simp only [Bool.false_eq_true,if_false,if_true] at hnew
   simp only [Builtin.append_,h0,h1,List.getElem?_toArray,List.getElem?_cons_zero,List.getElem?_cons_succ,Sem.run_bind,run_underlying hu,run_underlying hux,Result.andThen,hs,Sem.run_pure,asInt,asIntOf,w1,hneg,run_info hi,hb,
    Int.toNat_natCast,hl,Bool.false_eq_true,if_false,if_true,if_neg hnot,Bool.not_true,Bool.not_false,hnew,hbig,false_and,hcap',hch,hroom,hold',hz]
   simp only [Builtin.zeroCells]
   rw [zeros_eq hz0]
   simp [newRow,Result.andThen]
end
end Go.Eng
