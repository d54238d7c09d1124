import Derived.Test.YthpbefahaghbjaaGreatEA
import Derived.OrdersHeld
namespace Go.Eng
section
variable {E:Env} {N:Nums} {rg:List Rg} {w:World} {T:Tab}
theorem run_places' {P:Program}:∀ l:List Field,(∀ f∈l,(P.info? f.type).isSome=true)→(l.mapM fun f=>Prod.mk f.offset <$> sizeOf f.type).run P w=.ok (l.map fun f=>(f.offset,P.cellsOf f.type)) w
 | [],_=>by simp
 | f::l,hl=>by
  obtain ⟨i,hfi⟩:=Option.isSome_iff_exists.1 (hl f (by simp))
  have hs:(sizeOf f.type).run P w=.ok (P.cellsOf f.type) w:=by rw [run_sizeOf hfi];simp [Program.cellsOf,hfi]
  simp [List.mapM_cons,hs,run_places' l (fun g hg=>hl g (by simp [hg]))]
theorem buildV_sound {P:Program} (hT:Tab.ok P T) {t:Nat} {ps:List (Nat × SV)} {vs:Array (Nat × Value)} {r:SV}
  (hv:∀ (j:Nat) (p:Nat × SV),ps[j]?=some p→∃ v,p.2.den N=some v∧vs.toList[j]?=some (p.1,v)) (hl:vs.toList.length=ps.length) (h:buildV T t ps=some r) :
  ∃ v,r.den N=some v∧(Instr.build t vs).run P w=.ok v w:=by
 unfold buildV at h
 split at h
 ·rename_i ti ht
  have ok:=hT t ti ht
  obtain ⟨z,hz,hzd⟩:=ok.zero
  have hzd':SV.denL N ti.zero=some z.cells.toList:=SV.denL_mono (N:=[]) (N':=N) (fun r p h=>by simp at h) _ hzd
  have okk:=ok.kind
  split at h
  ·rename_i fs hk
   rw [hk] at okk
   split at h
   ·rename_i cs hf
    simp only [Option.some.injEq] at h;subst h
    obtain ⟨fields,hu,hfs,hall⟩:=okk
    obtain ⟨q,hq1,hq2⟩:=fillV_sound ps vs.toList hzd' hv hl hf
    refine ⟨.agg q,by simp [SV.den,hq1],?_⟩
    have hpl:placeV fs=fun (x:Nat)=>(fields.toList.map fun f=>(f.offset,P.cellsOf f.type))[x]?:=by
     funext i
     unfold placeV
     rw [nth_eq,hfs,List.getElem?_map,List.getElem?_map]
     cases fields.toList[i]?<;>rfl
    rw [hpl] at hq2
    simp only [Instr.build,Sem.run_bind,hz,run_underlying hu,Result.andThen]
    have:=run_places' (P:=P) (w:=w) fields.toList (fun f hf=>(hall f hf).1)
    simp [Array.mapM_eq_mapM_toList,this] at hq2 ⊢
    simp [hq2]
   ·cases h
  ·rename_i n e hk
   rw [hk] at okk
   have hu:P.underlying t=some (.array n e):=okk
   split at h
   ·rename_i te hte
    have oke:=hT e te hte
    split at h
    ·rename_i cs hf
     simp only [Option.some.injEq] at h;subst h
     obtain ⟨q,hq1,hq2⟩:=fillV_sound ps vs.toList hzd' hv hl hf
     refine ⟨.agg q,by simp [SV.den,hq1],?_⟩
     simp [Instr.build,hz,run_underlying hu,Result.andThen,oke.size,hq2]
    ·cases h
   ·cases h
  ·cases h
 ·cases h
theorem pickV_sound {c a b r:SV} {cb:Bool} {va vb:Value} (hc:c.den N=some (.bool cb)) (ha:cb=true→a.den N=some va) (hb:cb=false→b.den N=some vb) (h:pickV c a b=some r) :
  r.den N=some (bif cb then va else vb):=by
 unfold pickV at h
 split at h
 ·simp only [Option.some.injEq] at h;subst h
  simp only [SV.den,SB.den,Option.some.injEq,Value.bool.injEq] at hc;subst hc
  exact ha rfl
 ·simp only [Option.some.injEq] at h;subst h
  simp only [SV.den,SB.den,Option.some.injEq,Value.bool.injEq] at hc;subst hc
  exact hb rfl
 ·rename_i c' _ _
  split at h
  ·rename_i a' b'
   simp only [Option.some.injEq] at h;subst h
   simp only [SV.den,Option.some.injEq,Value.bool.injEq] at hc;subst hc
   cases hcb:c'.den with
   | true =>
    have:=ha hcb
    simp only [SV.den,Option.some.injEq] at this;subst this
    simp [SV.den,pickB_den,hcb]
   | false =>
    have:=hb hcb
    simp only [SV.den,Option.some.injEq] at this;subst this
    simp [SV.den,pickB_den,hcb]
  ·cases h
 ·cases h
theorem evs_sound {ρ:Operand→Option SV} {ρ':Operand→Value} (hρ:∀ x s,ρ x=some s→s.den N=some (ρ' x)):∀ (l:List (Nat × Operand)) {r:List (Nat × SV)},evs ρ l=some r →
  (∀ (j:Nat) (p:Nat × SV),r[j]?=some p→∃ v,p.2.den N=some v∧(l.map fun (i,x)=>(i,ρ' x))[j]?=some (p.1,v))∧r.length=l.length
 | [],r,h=>by simp only [evs,Option.some.injEq] at h;subst h;simp
 | (i,x)::l,r,h=>by
  simp only [evs] at h
  cases hx:ρ x with
  | none=>simp [hx] at h
  | some v =>
   cases hl:evs ρ l with
   | none=>simp [hx,hl] at h
   | some q =>
    simp only [hx,hl,Option.some.injEq] at h;subst h
    obtain ⟨h1,h2⟩:=evs_sound hρ l hl
    refine ⟨fun j p hj=>?_,by simp [h2]⟩
    cases j with
    | zero=>simp at hj;subst hj;exact ⟨ρ' x,hρ x v hx,by simp⟩
    | succ j=>simp only [List.getElem?_cons_succ,List.map_cons] at hj ⊢;exact h1 j p hj
structure TabOk (P:Program) (T:Tab):Prop where
 ok:Tab.ok P T
 und:∀ t ti,lookT T t=some ti→(P.underlying t).isSome=true
 mixed:P.follows .mixedOrders=true
theorem TI.of_und {P:Program} {t:Nat} {ti:TI} (h:TI.of P t=some ti):(P.underlying t).isSome=true:=by
 unfold TI.of at h
 split at h
 ·split at h
  ·split at h
   ·rename_i hc
    simp only [Bool.and_eq_true] at hc
    exact hc.1
   ·cases h
  ·cases h
 ·cases h
theorem TabOk.nil {P:Program} (hm:P.follows .mixedOrders=true):TabOk P []:=⟨fun t ti h=>by simp [lookT] at h,fun t ti h=>by simp [lookT] at h,hm⟩
theorem TabOk.cons {P:Program} {t:Nat} {ti:TI} {T:Tab} (h:TI.of P t=some ti) (k:TabOk P T):TabOk P ((t,ti)::T):=by
 refine ⟨fun u tu hl=>?_,fun u tu hl=>?_,k.mixed⟩<;>simp only [lookT] at hl<;>by_cases hk:t=u
 ·subst hk;simp at hl;subst hl;exact TI.of_ok h
 ·simp only [beq_ne hk,cond_false] at hl;exact k.ok u tu hl
 ·subst hk;simp at hl;subst hl;exact TI.of_und h
 ·simp only [beq_ne hk,cond_false] at hl;exact k.und u tu hl
theorem stepP_sound {P:Program} (hT:TabOk P T) (h:Vis N rg w) {ρ:Operand→Option SV} {ρ':Operand→Value} (hρ:∀ x s,ρ x=some s→s.den N=some (ρ' x)) {o:Oper} {r:SV} (hs:stepP T rg ρ o.op=some r) :
  ∃ x,r.den N=some x∧(execOp ρ' o).run P w=.ok (.value x) w:=by
 have fin:∀ {s:Sem Value},(∃ v,r.den N=some v∧s.run P w=.ok v w)→∃ x,r.den N=some x∧((do pure (.value (←s)):Sem Next)).run P w=.ok (.value x) w:=by
  rintro s ⟨v,h1,h2⟩
  exact ⟨v,h1,by simp [h2]⟩
 cases hop:o.op<;>simp only [hop,stepP] at hs<;>try (simp at hs;done)
 case move x=>exact ⟨_,hρ x r hs,by simp [execOp,hop]⟩
 case assign x=>exact ⟨_,hρ x r hs,by simp [execOp,hop]⟩
 case load t a =>
  split at hs
  ·rename_i x hx
   obtain ⟨v,h1,h2⟩:=loadV_sound hT.ok h (hρ _ _ hx) hs
   exact ⟨v,h1,by simp [execOp,hop,h2]⟩
  ·cases hs
 case nilCheck x =>
  split at hs
  ·rename_i y hy
   exact nilCheckV_sound hop (hρ _ _ hy) hs
  ·cases hs
 case binOp op t x y ty =>
  split at hs
  ·rename_i a b ha hb
   obtain ⟨v,h1,h2⟩:=binV_sound (w:=w) hT.ok (hρ _ _ ha) (hρ _ _ hb) hs x y
   refine ⟨v,h1,?_⟩
   simp only [execOp,hop]
   rw [Sem.run_bind,h2]
   rfl
  ·cases hs
 case unOp op t x =>
  split at hs
  ·rename_i a ha
   obtain ⟨v,h1,h2⟩:=unV_sound (P:=P) (w:=w) (hρ _ _ ha) hs
   exact ⟨v,h1,by simp [execOp,hop,h2]⟩
  ·cases hs
 case convert s d x =>
  split at hs
  ·rename_i a ha
   obtain ⟨v,h1,h2⟩:=convV_sound (w:=w) hT.ok hT.und (hρ _ _ ha) hs
   exact ⟨v,h1,by simp [execOp,hop,h2]⟩
  ·cases hs
 case fieldAddr t x f =>
  split at hs
  ·rename_i a ha
   obtain ⟨v,h1,h2⟩:=fieldAddrV_sound (w:=w) hT.ok (hρ _ _ ha) hs
   exact ⟨v,h1,by simp [execOp,hop,h2]⟩
  ·cases hs
 case field t x f =>
  split at hs
  ·rename_i a ha
   obtain ⟨v,h1,h2⟩:=fieldV_sound (w:=w) hT.ok (hρ _ _ ha) hs
   exact ⟨v,h1,by simp [execOp,hop,h2]⟩
  ·cases hs
 case indexAddr t x i =>
  split at hs
  ·rename_i a b ha hb
   obtain ⟨v,h1,h2⟩:=indexAddrV_sound (w:=w) hT.ok (hρ _ _ ha) (hρ _ _ hb) hs
   exact ⟨v,h1,by simp [execOp,hop,h2]⟩
  ·cases hs
 case index t x i =>
  split at hs
  ·rename_i a b ha hb
   obtain ⟨v,h1,h2⟩:=indexV_sound (w:=w) hT.ok (hρ _ _ ha) (hρ _ _ hb) hs
   exact ⟨v,h1,by simp [execOp,hop,h2]⟩
  ·cases hs
 case extract x i =>
  split at hs
  ·rename_i a ha
   obtain ⟨v,h1,h2⟩:=extractV_sound (P:=P) (w:=w) (hρ _ _ ha) hs
   exact ⟨v,h1,by simp [execOp,hop,h2]⟩
  ·cases hs
 case build t ps =>
  split at hs
  ·rename_i l hl
   obtain ⟨h1,h2⟩:=evs_sound hρ ps.toList hl
   obtain ⟨v,k1,k2⟩:=buildV_sound (P:=P) (w:=w) (vs:=ps.map fun (i,x)=>(i,ρ' x)) hT.ok (by simpa using h1) (by simp [h2]) hs
   exact ⟨v,k1,by simp only [execOp,hop];simp [k2]⟩
  ·cases hs
 case call c =>
  split at hs
  ·rename_i hcal
   split at hs
   ·rename_i x t hx ht
    split at hs
    ·rename_i a ha
     obtain ⟨v,h1,h2⟩:=lenV_sound (w:=w) (ty:=o.type) hT.ok (hρ _ _ ha) hs
     refine ⟨v,h1,?_⟩
     obtain ⟨callee,args,argTypes⟩:=c
     simp only at hcal hx ht
     subst hcal
     have e1:args=#[x]:=by rw [←Array.toArray_toList (xs:=args),hx]
     have e2:argTypes=#[t]:=by rw [←Array.toArray_toList (xs:=argTypes),ht]
     subst e1;subst e2
     simp [execOp,hop,resolve,invoke,builtin,h2]
    ·cases hs
   ·cases hs
  ·rename_i hcal
   split at hs
   ·rename_i x y hx
    split at hs
    ·rename_i k a k' b ha hb
     simp only [Option.some.injEq] at hs;subst hs
     have ha:=hρ _ _ ha
     have hb:=hρ _ _ hb
     simp only [SV.den,Option.some.injEq] at ha hb
     obtain ⟨callee,args,argTypes⟩:=c
     simp only at hcal hx
     subst hcal
     have e1:args=#[x,y]:=by rw [←Array.toArray_toList (xs:=args),hx]
     subst e1
     refine ⟨_,by simp only [SV.den];rfl,?_⟩
     simp [execOp,hop,resolve,invoke,builtin,Builtin.max_,←ha,←hb,Builtin.max2,mxI_den]
    ·cases hs
   ·cases hs
  ·rename_i hcal
   split at hs
   ·rename_i x y hx
    split at hs
    ·rename_i k a k' b ha hb
     simp only [Option.some.injEq] at hs;subst hs
     have ha:=hρ _ _ ha
     have hb:=hρ _ _ hb
     simp only [SV.den,Option.some.injEq] at ha hb
     obtain ⟨callee,args,argTypes⟩:=c
     simp only at hcal hx
     subst hcal
     have e1:args=#[x,y]:=by rw [←Array.toArray_toList (xs:=args),hx]
     subst e1
     refine ⟨_,by simp only [SV.den];rfl,?_⟩
     simp [execOp,hop,resolve,invoke,builtin,Builtin.min_,←ha,←hb,Builtin.min2,mnI_den]
    ·cases hs
   ·cases hs
  ·cases hs
 case makeFunc fn first cap =>
  split at hs
  ·rename_i f l hf hl
   simp only [Option.some.injEq] at hs;subst hs
   have h1:=evL0_sound hρ _ hl
   refine ⟨_,by simp only [SV.den,h1];rfl,?_⟩
   have e1:first=#[]:=by rw [←Array.toArray_toList (xs:=first),hf]
   subst e1
   have e2:cap.map ρ'=(cap.toList.map ρ').toArray:=by apply Array.ext';simp
   have e3:(#[]:Array Operand).map ρ'=#[]:=by apply Array.ext';simp
   simp only [execOp,hop,Instr.makeFunc,Sem.run_bind,Sem.run_pure,Result.andThen,e2,e3]
  ·cases hs
 case slice t x lo hi mx =>
  split at hs
  ·rename_i sx l hh m hx hl hhi hm
   obtain ⟨v,h1,h2⟩:=sliceV_sound (w:=w) hT.ok h (hρ _ _ hx) (evO_sound hρ hl) (evO_sound hρ hhi) (evO_sound hρ hm) hs
   exact ⟨v,h1,by simp [execOp,hop,h2]⟩
  ·cases hs
def srcV (rg:List Rg) (z:Nat):SV→Option (List SV × Nat)
 | .osl r c n z' _=>match nth rg r with
  | some g=>bif Nat.beq z z'&&Nat.ble (c+n*z) g.cells.length then some ((g.cells.drop c).take (n*z),n) else none
  | none=>none
 | .raw (.slice none 0 _)=>some ([],0)
 | .raw (.string s)=>bif Nat.beq z 1 then some (s.data.toList.map (fun b=>.int .u8 (.lit b.toNat)),s.data.toList.length) else none
 | _=>none
def appSrc (T:Tab) (rg:List Rg) (te:TI) (x:SV) (tx:Nat):Option (List SV × Nat) :=
 match lookT T tx with
 | some ti=>match ti.kind with
  | .int _=>match x with
   | .int _ (.lit l)=>bif decide (0≤l) then some (rep l.toNat te.zero,l.toNat) else none
   | _=>none
  | .slice _=>srcV rg te.size x
  | .string=>srcV rg te.size x
  | _=>none
 | none=>none
def appV (rg:List Rg) (te:TI) (s:SV) (new:List SV) (m:Nat):Option (SV × List Rg) :=
 match s with
 | .raw (.slice none 0 0)=>bif appOk te new 0 m then
   bif Nat.beq m 0 then some (s,rg) else some (.osl rg.length 0 m te.size none,rg++[⟨true,new,none⟩])
  else none
 | .osl r c n z k=>match nth rg r with
  | some g=>bif appOk te new n m&&Nat.beq z te.size&&Nat.ble (c+n*z) g.cells.length then
    match k with
    | some kk=>bif Nat.ble (n+m) kk then
      bif Nat.beq m 0 then some (s,rg) else
      bif g.own&&Nat.ble (c+(n+m)*z) g.cells.length then some (.osl r c (n+m) z k,rg.set r { g with cells:=setRow g.cells (c+n*z) new }) else none
     else some (.osl rg.length 0 (n+m) z none,rg++[⟨true,(g.cells.drop c).take (n*z)++new,none⟩])
    | none=>bif g.own then
      bif Nat.beq m 0 then some (s,rg) else some (.osl rg.length 0 (n+m) z none,rg.set r ⟨false,[],none⟩++[⟨true,(g.cells.drop c).take (n*z)++new,none⟩])
     else none
   else none
  | none=>none
 | _=>none
where appOk (te:TI) (new:List SV) (n m:Nat):Bool :=
 Nat.blt 0 te.size&&Nat.beq te.zero.length te.size&&Nat.beq new.length (m*te.size)&&new.all SV.one&&Nat.ble ((2*(n+m)+256)*te.bytes) 281474976710656&&Nat.ble (n+m) 1099511627776
def copyV (rg:List Rg) (te:TI) (d x:SV):Option (SV × List Rg) :=
 match d with
 | .osl r c n z _=>match nth rg r,srcV rg te.size x with
  | some g,some (cs,m)=>bif g.own&&Nat.beq z te.size&&Nat.beq cs.length (m*z)&&cs.all SV.one&&Nat.ble (c+min m n*z) g.cells.length then
    some (.int .i64 (.lit (min m n:Nat)),rg.set r { g with cells:=setRow g.cells c (cs.take (min m n*z)) })
   else none
  | _,_=>none
 | _=>none
def stepE (T:Tab) (rg:List Rg) (ρ:Operand→Option SV) (op:Op):Option (SV × List Rg) :=
 match op with
 | .alloc t=>match lookT T t with
  | some ti=>some (.own rg.length 0,rg++[⟨true,ti.zero,none⟩])
  | none=>none
 | .box _ x=>match ρ x with
  | some (.tup _)=>none
  | some (.big _)=>none
  | some v=>some (.own rg.length 0,rg++[⟨true,v.cells,none⟩])
  | none=>none
 | .store t a x=>match ρ a,ρ x,lookT T t with
  | some (.own r c),some v,some ti=>match nth rg r with
   | some g=>bif g.own&&Nat.beq v.cells.length ti.size&&Nat.ble (c+ti.size) g.cells.length&&v.cells.all SV.one then
     some (.tup [],rg.set r { g with cells:=setRow g.cells c v.cells })
    else none
   | none=>none
  | _,_,_=>none
 | .buildSlice t len ps=>match lookT T t with
  | some ti=>match ti.kind with
   | .slice e=>match lookT T e,evs ρ ps.toList with
    | some te,some l=>bif Nat.blt 0 te.size&&Nat.beq te.zero.length te.size&&Nat.ble (len*te.size) 16777216 then
      match fillV (fun i=>some (i*te.size,te.size)) (rep len te.zero) l with
      | some cs=>some (.osl rg.length 0 len te.size (some len),rg++[⟨true,cs,none⟩])
      | none=>none
     else none
    | _,_=>none
   | _=>none
  | none=>none
 | .makeSlice t len cap=>match lookT T t,ρ len,ρ cap with
  | some ti,some (.int _ (.lit n)),some (.int _ (.lit c))=>match ti.kind with
   | .slice e=>match lookT T e with
    | some te=>bif Nat.blt 0 te.size&&Nat.beq te.zero.length te.size&&decide (0≤n)&&decide (n≤c)&&decide (c≤1099511627776)&&Nat.ble (te.bytes*c.toNat) 281474976710656 then
      some (.osl rg.length 0 n.toNat te.size (some c.toNat),rg++[⟨true,rep c.toNat te.zero,none⟩])
     else none
    | none=>none
   | _=>none
  | _,_,_=>none
 | .call c=>match c.callee with
  | .builtin .append=>match c.args.toList,c.argTypes.toList with
   | [s,x],[ts,tx]=>match ρ s,ρ x,lookT T ts with
    | some s,some x,some ti=>match ti.kind with
     | .slice e=>match lookT T e with
      | some te=>match appSrc T rg te x tx with
       | some (new,m)=>appV rg te s new m
       | none=>none
      | none=>none
     | _=>none
    | _,_,_=>none
   | _,_=>none
  | .builtin .copy=>match c.args.toList,c.argTypes.toList with
   | [d,x],[td,_]=>match ρ d,ρ x,lookT T td with
    | some d,some x,some ti=>match ti.kind with
     | .slice e=>match lookT T e with
      | some te=>copyV rg te d x
      | none=>none
     | _=>none
    | _,_,_=>none
   | _,_=>none
  | _=>none
 | _=>none
theorem setRow_end:∀ (l r:List SV),setRow l l.length r=l++r
 | l,[]=>by simp [setRow]
 | l,s::r=>by
  have h:∀ (l:List SV),putAt l l.length s=l++[s]:=by
   intro l
   induction l with
   | nil=>rfl
   | cons x l ih=>simp [putAt,ih]
  rw [setRow,h]
  have:=setRow_end (l++[s]) r
  simp only [List.length_append,List.length_cons,List.length_nil] at this
  rw [this];simp
theorem buildSlice_sound {P:Program} (hT:Tab.ok P T) (h:Sat E N rg w) {t e len:Nat} {ti te:TI} {ps:List (Nat × SV)} {vs:Array (Nat × Value)} {cs:List SV} (ht:lookT T t=some ti) (hk:ti.kind=.slice e) (hte:lookT T e=some te)
  (hb:(Nat.blt 0 te.size&&Nat.beq te.zero.length te.size&&Nat.ble (len*te.size) 16777216)=true)
  (hv:∀ (j:Nat) (p:Nat × SV),ps[j]?=some p→∃ v,p.2.den N=some v∧vs.toList[j]?=some (p.1,v)) (hl:vs.toList.length=ps.length) (hf:fillV (fun i=>some (i*te.size,te.size)) (rep len te.zero) ps=some cs) :
  ∃ N' x w',N.le N'∧(SV.osl rg.length 0 len te.size (some len)).den N'=some x∧(Instr.buildSlice t len vs).run P w=.ok x w'∧Sat E N' (rg++[⟨true,cs,none⟩]) w':=by
 simp only [Bool.and_eq_true] at hb
 obtain ⟨⟨b1,b2⟩,b3⟩:=hb
 have b1:0<te.size:=by simpa using b1
 have b2:=Nat.eq_of_beq_eq_true b2
 have b3:=Nat.le_of_ble_eq_true b3
 have ok:=(hT t ti ht).kind
 rw [hk] at ok
 have ok':P.underlying t=some (.slice e):=ok
 have oke:=hT e te hte
 obtain ⟨z,hz,hzd⟩:=oke.zero
 have hzd':SV.denL N te.zero=some z.cells.toList:=SV.denL_mono (N:=[]) (N':=N) (fun r p h=>by simp at h) _ hzd
 have hzs:z.cells.size=te.size:=by have:=(SV.denL_get _ hzd').1;simp at this;omega
 obtain ⟨q,hq1,hq2⟩:=fillV_sound ps vs.toList (m:=(repV len z.cells.toList).toArray) (by simpa using denL_rep hzd' len) hv hl hf
 have hrun:=run_buildSlice (P:=P) (w:=w) (parts:=vs) (q:=q) (zero:=z) (len:=len) ok' (fun w=>by rw [hzs];exact oke.size w) hz (by omega) (by rw [hzs];exact b3) (by rw [hzs];exact hq2)
 have hS:=h.alloc hq1 e
 rw [Array.toArray_toList] at hS
 refine ⟨_,_,_,Nums.le_append _ _,?_,hrun,hS⟩
 have:(N++[⟨w.heap.size,0,q.toList.length⟩])[rg.length]?=some ⟨w.heap.size,0,q.toList.length⟩:=by rw [←h.len];simp
 simp only [SV.den,this,Num.cap]
theorem makeSlice_sound {P:Program} (hT:Tab.ok P T) (h:Sat E N rg w) {t e:Nat} {n c:Int} {k k':IntKind} {ti te:TI} (ht:lookT T t=some ti) (hk:ti.kind=.slice e) (hte:lookT T e=some te)
  (hb:(Nat.blt 0 te.size&&Nat.beq te.zero.length te.size&&decide (0≤n)&&decide (n≤c)&&decide (c≤1099511627776)&&Nat.ble (te.bytes*c.toNat) 281474976710656)=true) :
  ∃ N' x w',N.le N'∧(SV.osl rg.length 0 n.toNat te.size (some c.toNat)).den N'=some x∧(Instr.makeSlice t (.int k n) (.int k' c)).run P w=.ok x w'∧Sat E N' (rg++[⟨true,Eng.rep c.toNat te.zero,none⟩]) w':=by
 simp only [Bool.and_eq_true,decide_eq_true_eq] at hb
 obtain ⟨⟨⟨⟨⟨b1,b2⟩,b3⟩,b4⟩,b5⟩,b6⟩:=hb
 have b1:0<te.size:=by simpa using b1
 have b2:=Nat.eq_of_beq_eq_true b2
 have b6:=Nat.le_of_ble_eq_true b6
 obtain ⟨n,rfl⟩:=Int.eq_ofNat_of_zero_le b3
 obtain ⟨c,rfl⟩:=Int.eq_ofNat_of_zero_le (show 0≤c by omega)
 have ok:=(hT t ti ht).kind
 rw [hk] at ok
 have ok':P.underlying t=some (.slice e):=ok
 have oke:=hT e te hte
 obtain ⟨z,hz,hzd⟩:=oke.zero
 obtain ⟨i,hi,hib⟩:=oke.info
 have hzd':SV.denL N te.zero=some z.cells.toList:=SV.denL_mono (N:=[]) (N':=N) (fun r p h=>by simp at h) _ hzd
 have hzs:z.cells.size=te.size:=by have:=(SV.denL_get _ hzd').1;simp at this;omega
 simp only [Int.toNat_natCast] at b6 ⊢
 have hrun:=run_makeSlice (P:=P) (w:=w) (zero:=z) (len:=n) (cap:=c) (k:=k) (k':=k') ok' hi (fun w=>by rw [hzs];exact oke.size w) hz (by omega) (by omega) (by omega) (by rw [hib];exact b6)
 have hS:=h.alloc (denL_rep hzd' c) e
 refine ⟨_,_,_,Nums.le_append _ _,?_,hrun,hS⟩
 have:(N++[⟨w.heap.size,0,(repV c z.cells.toList).length⟩])[rg.length]?=some ⟨w.heap.size,0,(repV c z.cells.toList).length⟩:=by rw [←h.len];simp
 simp only [SV.den,this,Num.cap]
theorem srcV_sound {P:Program} (h:Vis N rg w) {z m:Nat} {x:SV} {v:Value} {cs:List SV} (hx:x.den N=some v) (hs:srcV rg z x=some (cs,m)) :
  (∀ w,(Builtin.lenOf v).run P w=.ok m w)∧∃ vs,SV.denL N cs=some vs∧cs.length=m*z∧∀ w',w'.heap=w.heap→∀ n,n≤m→(Builtin.firstCells z n v).run P w'=.ok (vs.take (n*z)).toArray w':=by
 unfold srcV at hs
 split at hs
 ·rename_i r c n z' k
  split at hs
  ·rename_i g hg
   rw [nth_eq] at hg
   cases hb:(Nat.beq z z'&&Nat.ble (c+n*z) g.cells.length) with
   | false=>rw [hb] at hs;simp at hs
   | true =>
    rw [hb] at hs
    simp only [cond_true,Option.some.injEq,Prod.mk.injEq] at hs
    obtain ⟨rfl,rfl⟩:=hs
    rw [Bool.and_eq_true] at hb
    have b1:=Nat.eq_of_beq_eq_true hb.1
    have b2:=Nat.le_of_ble_eq_true hb.2
    subst b1
    simp only [SV.den] at hx
    cases hp:N[r]? with
    | none=>simp [hp] at hx
    | some p =>
     simp only [hp,Option.some.injEq] at hx;subst hx
     refine ⟨fun w=>rfl,?_⟩
     obtain ⟨p1,l,hp1,hd,hlen,_⟩:=h.load (P:=P) hg b2
     rw [hp] at hp1;cases hp1
     refine ⟨l,hd,by simp;omega,fun w' hw' n' hn'=>?_⟩
     have hle:n'*z≤n*z:=Nat.mul_le_mul_right _ hn'
     have hV':Vis N rg w':=⟨h.len,fun r g p hg hp j c hj=>by
      obtain ⟨v,h1,h2⟩:=h.cell r g p hg hp j c hj
      exact ⟨v,h1,by unfold World.cell? at h2 ⊢;rw [hw'];exact h2⟩,h.ext⟩
     obtain ⟨p2,l',hp2,hd',hlen',hrun⟩:=hV'.load (P:=P) (c:=c) (n:=n'*z) hg (by omega)
     rw [hp] at hp2;cases hp2
     simp only [Builtin.firstCells]
     rw [hrun]
     congr 2
     have h3:((g.cells.drop c).take (n*z)).take (n'*z)=(g.cells.drop c).take (n'*z):=by rw [List.take_take,Nat.min_eq_left hle]
     have h4:=denL_take_drop hd 0 (n'*z)
     simp only [List.drop_zero] at h4
     rw [h3,hd'] at h4
     cases h4;rfl
  ·cases hs
 ·simp only [Option.some.injEq,Prod.mk.injEq] at hs
  obtain ⟨rfl,rfl⟩:=hs
  simp only [SV.den,one?,if_true,Option.some.injEq] at hx;subst hx
  refine ⟨fun w=>rfl,[],rfl,by simp,fun w' hw' n hn=>?_⟩
  simp [Builtin.firstCells]
 ·rename_i s
  cases hb:Nat.beq z 1 with
  | false=>rw [hb] at hs;simp at hs
  | true =>
   rw [hb] at hs
   simp only [cond_true,Option.some.injEq,Prod.mk.injEq] at hs
   obtain ⟨rfl,rfl⟩:=hs
   have hb:=Nat.eq_of_beq_eq_true hb
   subst hb
   simp only [SV.den,one?,if_true,Option.some.injEq] at hx;subst hx
   have hden:∀ l:List UInt8,SV.denL N (l.map (fun b=>SV.int .u8 (.lit b.toNat)))=some (l.map (fun b=>Value.int .u8 b.toNat)):=by
    intro l
    induction l with
    | nil=>rfl
    | cons b l ih=>simp [SV.denL,SV.den,SI.den,ih]
   refine ⟨fun w=>rfl,_,hden _,by simp,fun w' hw' n hn=>?_⟩
   simp only [Builtin.firstCells,Sem.run_pure]
   congr 1
   apply Array.ext'
   simp [ByteArray.data_extract]
 ·cases hs
theorem appSrc_sound {P:Program} (hT:Tab.ok P T) (h:Vis N rg w) {te:TI} {zero:Value} (hzd:SV.denL N te.zero=some zero.cells.toList) (hzs:te.zero.length=te.size) {x:SV} {v:Value} {tx m:Nat} {cs:List SV} (hx:x.den N=some v) (hm:m≤1099511627776) (hs:appSrc T rg te x tx=some (cs,m)) :
  ∃ vs,SV.denL N cs=some vs∧cs.length=m*te.size∧Src P te.size te.bytes zero tx v m vs∧∀ w',w'.heap=w.heap→(¬∃ k,P.underlying tx=some (.int k))→(Builtin.firstCells te.size m v).run P w'=.ok vs.toArray w':=by
 unfold appSrc at hs
 split at hs
 ·rename_i ti ht
  have ok:=(hT tx ti ht).kind
  have fin:∀ d,P.underlying tx=some d→(∀ k,d≠.int k)→srcV rg te.size x=some (cs,m) →
    ∃ vs,SV.denL N cs=some vs∧cs.length=m*te.size∧Src P te.size te.bytes zero tx v m vs∧∀ w',w'.heap=w.heap→(¬∃ k,P.underlying tx=some (.int k))→(Builtin.firstCells te.size m v).run P w'=.ok vs.toArray w':=by
   intro d hd hdn hs
   obtain ⟨h1,vs,h2,h3,h4⟩:=srcV_sound (P:=P) h hx hs
   refine ⟨vs,h2,h3,⟨.inr ⟨⟨d,hd,hdn⟩,h1⟩,hm⟩,fun w' hw' _=>?_⟩
   have:=h4 w' hw' m (Nat.le_refl _)
   rw [List.take_of_length_le (by rw [(SV.denL_get _ h2).1,h3];exact Nat.le_refl _)] at this
   exact this
  split at hs
  ·rename_i k hk
   rw [hk] at ok
   split at hs
   ·rename_i k' l
    cases hb:decide (0≤l) with
    | false=>rw [hb] at hs;simp at hs
    | true =>
     rw [hb] at hs
     simp only [cond_true,Option.some.injEq,Prod.mk.injEq] at hs
     obtain ⟨rfl,rfl⟩:=hs
     simp only [decide_eq_true_eq] at hb
     simp only [SV.den,SI.den,Option.some.injEq] at hx;subst hx
     have hlen:∀ n,(Eng.rep n te.zero).length=n*te.zero.length:=by
      intro n
      induction n with
      | zero=>simp [Eng.rep]
      | succ n ih=>simp [Eng.rep,ih,Nat.add_mul];omega
     exact ⟨_,denL_rep hzd _,by rw [hlen,hzs],⟨.inl ⟨k,k',ok,by rw [Int.toNat_of_nonneg hb],rfl⟩,hm⟩,fun w' _ hn=>absurd ⟨k,ok⟩ hn⟩
   ·cases hs
  ·rename_i e hk
   rw [hk] at ok
   exact fin _ ok (by simp) hs
  ·rename_i hk
   rw [hk] at ok
   exact fin _ ok (by simp) hs
  ·cases hs
 ·cases hs
theorem Sat.retire {E:Env} {N:Nums} {rg:List Rg} {w:World} (h:Sat E N rg w) {r:Nat} (hr:r<rg.length):Sat E N (rg.set r ⟨false,[],none⟩) w:=by
 have part:∀ (i:Nat) (x:Rg),(rg.set r ⟨false,[],none⟩)[i]?=some x→x=⟨false,[],none⟩∨rg[i]?=some x:=by
  intro i x hx
  rcases get_set hr hx with ⟨_,rfl⟩ | ⟨_,hx⟩
  ·exact .inl rfl
  ·exact .inr hx
 refine ⟨by simpa using h.len,h.lt,?_,?_,?_,?_,?_,?_,h.imm,?_,?_,h.dlt,h.loc,h.res,h.chg,?_⟩
 ·intro i x q hx hq j d hj
  rcases part i x hx with rfl | hx
  ·simp at hj
  ·exact h.cell i x q hx hq j d hj
 ·intro i x q hx hq ho
  rcases part i x hx with rfl | hx
  ·simp at ho
  ·exact h.ext i x q hx hq ho
 ·intro i x q hx hq ho
  rcases part i x hx with rfl | hx
  ·simp at ho
  ·exact h.room i x q hx hq ho
 ·intro i i' x x' q q' hx hq hx' hq' ho hne j hj
  rcases part i x hx with rfl | hx
  ·simp at ho
  ·rcases part i' x' hx' with rfl | hx'
   ·simp [Rg.wid] at hj
   ·exact h.disj i i' x x' q q' hx hq hx' hq' ho hne j hj
 ·intro i x q ob hx hq ho
  rcases part i x hx with rfl | hx
  ·simp at ho
  ·exact h.obj i x q ob hx hq ho
 ·intro i i' x x' q q' hx hq hx' hq' ho ho' hne
  rcases part i x hx with rfl | hx
  ·simp at ho
  ·rcases part i' x' hx' with rfl | hx'
   ·simp at ho'
   ·exact h.odisj i i' x x' q q' hx hq hx' hq' ho ho' hne
 ·intro i x q hx hq ho
  rcases part i x hx with rfl | hx
  ·simp at ho
  ·exact h.imd i x q hx hq ho
 ·intro i x q hx hq ho
  rcases part i x hx with rfl | hx
  ·simp at ho
  ·exact h.dd i x q hx hq ho
 ·intro i x q hx hq ho
  rcases part i x hx with rfl | hx
  ·simp at ho
  ·exact h.foot i x q hx hq ho
theorem one_cells {l:List Value}:∀ {cs:List SV},cs.all SV.one=true→SV.denL N cs=some l→∀ v∈l,one? v=true:=by
 intro cs hc hl v hv
 obtain ⟨hlen,hget⟩:=SV.denL_get _ hl
 obtain ⟨j,hj⟩:=List.mem_iff_getElem?.1 hv
 have hjl:j<cs.length:=by rw [←hlen];exact (List.getElem?_eq_some_iff.1 hj).1
 obtain ⟨c,hcj⟩:∃ c,cs[j]?=some c:=⟨_,List.getElem?_eq_getElem hjl⟩
 obtain ⟨u,h1,h2⟩:=hget j c hcj
 rw [hj] at h2;cases h2
 exact (SV.one_spec (List.all_eq_true.1 hc c (List.mem_of_getElem? hcj)) h1).1
theorem appV_sound {P:Program} (hE:E.P=P) (hT:Tab.ok P T) (h:Sat E N rg w) {ta:Array Nat} {ty ts tx e m:Nat} {ti te:TI} {s x r:SV} {vs vx:Value} {new:List SV} {rg':List Rg} (h0:ta[0]?=some ts) (h1:ta[1]?=some tx)
  (ht:lookT T ts=some ti) (hk:ti.kind=.slice e) (hte:lookT T e=some te) (hs:s.den N=some vs) (hx:x.den N=some vx) (ha:appSrc T rg te x tx=some (new,m)) (hr:appV rg te s new m=some (r,rg')) :
  ∃ N' v w',N.le N'∧r.den N'=some v∧(Builtin.append_ ta ty #[vs,vx]).run P w=.ok v w'∧Sat E N' rg' w':=by
 subst hE
 have ok:=(hT ts ti ht).kind
 rw [hk] at ok
 have ok':E.P.underlying ts=some (.slice e):=ok
 have oke:=hT e te hte
 obtain ⟨z,hz,hzd⟩:=oke.zero
 obtain ⟨i,hi,hib⟩:=oke.info
 have hzd':SV.denL N te.zero=some z.cells.toList:=SV.denL_mono (N:=[]) (N':=N) (fun r p h=>by simp at h) _ hzd
 -- what is asked of the parts
 have asked:∀ n,appV.appOk te new n m=true→0<te.size∧te.zero.length=te.size∧z.cells.size=te.size∧new.length=m*te.size∧new.all SV.one=true∧(2*(n+m)+256)*i.bytes≤281474976710656∧n+m≤1099511627776:=by
  intro n hn
  unfold appV.appOk at hn
  simp only [Bool.and_eq_true] at hn
  obtain ⟨⟨⟨⟨⟨b1,b2⟩,b3⟩,b4⟩,b5⟩,b6⟩:=hn
  have b1:0<te.size:=by simpa using b1
  have b2:=Nat.eq_of_beq_eq_true b2
  refine ⟨b1,b2,?_,Nat.eq_of_beq_eq_true b3,b4,by rw [hib];exact Nat.le_of_ble_eq_true b5,Nat.le_of_ble_eq_true b6⟩
  have:=(SV.denL_get _ hzd').1
  simp at this;omega
 -- in a new block
 have fresh:∀ (rg0:List Rg) (old:List SV) (ol ws rest:List Value) (n K:Nat),rg0.length=rg.length→(∀ w,Sat E N rg w→Sat E N rg0 w)→SV.denL N old=some ol→SV.denL N new=some ws→old.length=n*te.size→new.length=m*te.size→0<te.size→n+m≤K →
   rest.length=(K-(n+m))*te.size →
   ∃ N',N.le N'∧(SV.osl rg.length 0 (n+m) te.size none).den N'=some (.slice (some ⟨w.heap.size,0,none⟩) (n+m) K)∧Sat E N' (rg0++[⟨true,old++new,none⟩]) (w.drew.alloc (.cells (ol++ws++rest).toArray e)):=by
  intro rg0 old ol ws rest n K hlen hrg ho hn hol hnl hz0 hK hrest
  have hS:=(hrg _ h.drew).allocX (m:=rest) (SV.denL_append old new ho hn) e
  refine ⟨_,Nums.le_append _ _,?_,hS⟩
  have hx:(ol++ws++rest).length=K*te.size:=by
   have e1:=(SV.denL_get _ ho).1
   have e2:=(SV.denL_get _ hn).1
   simp only [List.length_append,e1,e2,hol,hnl,hrest]
   rw [←Nat.add_mul,←Nat.add_mul]
   congr 1;omega
  have hg:(N++[(⟨w.drew.heap.size,0,(ol++ws++rest).length⟩:Num)])[rg.length]?=some ⟨w.heap.size,0,K*te.size⟩:=by rw [←h.len,hx];simp
  simp only [SV.den,hg,Num.cap,Nat.sub_zero,Nat.mul_div_cancel _ hz0]
 unfold appV at hr
 split at hr
 ·-- onto nil
  simp only [SV.den,one?,if_true,Option.some.injEq] at hs;subst hs
  cases hb:appV.appOk te new 0 m with
  | false=>rw [hb] at hr;simp at hr
  | true =>
   rw [hb] at hr
   simp only [cond_true] at hr
   obtain ⟨z0,z1,z2,z3,z4,z5,z6⟩:=asked 0 hb
   obtain ⟨ws,hw1,hw2,hw3,hw4⟩:=appSrc_sound (P:=E.P) hT h.vis hzd' z1 hx (by omega) ha
   rw [←hib,←z2] at hw3
   have hrun:=run_append (P:=E.P) (w:=w) (ta:=ta) (ty:=ty) (zero:=z) (s:=.slice none 0 0) (x:=vx) (base:=none) (n:=0) (cap:=0) (m:=m) (old:=[]) (vs:=ws) (wf:=w) h0 h1 ok' hi (fun w=>by rw [z2];exact oke.size w) hz (by omega) rfl hw3 z5 z6
    (fun w' e1 e2=>by rw [z2];exact hw4 w' e1 e2) (fun _ w' _=>by simp [Builtin.firstCells]) (fun _=>rfl)
   cases hm:Nat.beq m 0 with
   | true =>
    rw [hm] at hr
    simp only [cond_true,Option.some.injEq,Prod.mk.injEq] at hr
    obtain ⟨rfl,rfl⟩:=hr
    have hm:=Nat.eq_of_beq_eq_true hm
    subst hm
    exact ⟨N,_,w,Nums.le.refl N,by simp only [SV.den,one?,if_true],hrun.1 (by omega),h⟩
   | false =>
    rw [hm] at hr
    simp only [cond_false,Option.some.injEq,Prod.mk.injEq] at hr
    obtain ⟨rfl,rfl⟩:=hr
    have hm0:m≠0:=fun e=>by rw [e] at hm;simp at hm
    obtain ⟨K,rest,hK,hrest,hrun⟩:=hrun.2 (by omega)
    rw [z2] at hrest
    obtain ⟨N',k1,k2,k3⟩:=fresh rg [] [] ws rest 0 K rfl (fun _ h=>h) rfl hw1 (by simp) z3 z0 hK hrest
    refine ⟨N',_,_,k1,?_,hrun,by simpa using k3⟩
    simpa using k2
 ·rename_i r0 c n z' k
  split at hr
  ·rename_i g hg
   rw [nth_eq] at hg
   cases hb:(appV.appOk te new n m&&Nat.beq z' te.size&&Nat.ble (c+n*z') g.cells.length) with
   | false=>rw [hb] at hr;simp at hr
   | true =>
    rw [hb] at hr
    simp only [cond_true] at hr
    rw [Bool.and_eq_true,Bool.and_eq_true] at hb
    obtain ⟨⟨b1,b2⟩,b3⟩:=hb
    have b2:=Nat.eq_of_beq_eq_true b2
    have b3:=Nat.le_of_ble_eq_true b3
    subst b2
    obtain ⟨z0,z1,z2,z3,z4,z5,z6⟩:=asked n b1
    obtain ⟨ws,hw1,hw2,hw3,hw4⟩:=appSrc_sound (P:=E.P) hT h.vis hzd' z1 hx (by omega) ha
    rw [←hib,←z2] at hw3
    have hs0:=hs
    simp only [SV.den] at hs
    cases hp:N[r0]? with
    | none=>simp [hp] at hs
    | some p =>
     simp only [hp,Option.some.injEq] at hs
     have hrl:r0<rg.length:=(List.getElem?_eq_some_iff.1 hg).1
     obtain ⟨_,ol,hp1,hol,hll,_⟩:=h.vis.load (P:=E.P) hg b3
     rw [hp] at hp1;cases hp1
     have holdr:∀ w',w'.heap=w.heap→(Builtin.firstCells te.size n vs).run E.P w'=.ok ol.toArray w':=by
      intro w' hw'
      obtain ⟨_,vs',q1,q2,q3⟩:=srcV_sound (P:=E.P) h.vis (z:=te.size) (m:=n) (cs:=(g.cells.drop c).take (n*te.size)) hs0 (by
       have:Nat.ble (c+n*te.size) g.cells.length=true:=Nat.ble_eq_true_of_le b3
       simp only [srcV,nth_eq,hg,Nat.beq_refl,Bool.true_and,this,cond_true])
      have:=q3 w' hw' n (Nat.le_refl _)
      rw [hol] at q1;cases q1
      rw [List.take_of_length_le (by omega)] at this
      exact this
     have hoc:((g.cells.drop c).take (n*te.size)).length=n*te.size:=by simp;omega
     cases k with
     | some kk =>
      simp only at hr
      simp only [Num.cap] at hs
      subst hs
      cases hf:Nat.ble (n+m) kk with
      | true =>
       rw [hf] at hr
       simp only [cond_true] at hr
       have hf:=Nat.le_of_ble_eq_true hf
       cases hm:Nat.beq m 0 with
       | true =>
        rw [hm] at hr
        simp only [cond_true,Option.some.injEq,Prod.mk.injEq] at hr
        obtain ⟨rfl,rfl⟩:=hr
        have hm:=Nat.eq_of_beq_eq_true hm
        subst hm
        have hnil:new=[]:=List.eq_nil_of_length_eq_zero (by rw [z3];simp)
        subst hnil
        simp only [SV.denL,Option.some.injEq] at hw1;subst hw1
        have hrun:=run_append (P:=E.P) (w:=w) (ta:=ta) (ty:=ty) (zero:=z) (s:=.slice (some ⟨p.b,p.o+c,none⟩) n kk) (x:=vx) (n:=n) (cap:=kk) (m:=0) (old:=ol) (vs:=[]) (wf:=w) h0 h1 ok' hi (fun w=>by rw [z2];exact oke.size w) hz (by omega) rfl hw3 z5 z6
         (fun w' e1 e2=>by rw [z2];exact hw4 w' e1 e2) (fun _ w' e1=>by rw [z2];exact holdr w' e1) (fun _=>rfl)
        exact ⟨N,_,w,Nums.le.refl N,by simp only [SV.den,hp,Num.cap];rfl,hrun.1 (by omega),h⟩
       | false =>
        rw [hm] at hr
        simp only [cond_false] at hr
        cases hb:(g.own&&Nat.ble (c+(n+m)*te.size) g.cells.length) with
        | false=>rw [hb] at hr;simp at hr
        | true =>
         rw [hb] at hr
         simp only [cond_true,Option.some.injEq,Prod.mk.injEq] at hr
         obtain ⟨rfl,rfl⟩:=hr
         rw [Bool.and_eq_true] at hb
         have hle:=Nat.le_of_ble_eq_true hb.2
         rw [Nat.add_mul] at hle
         have hext:=h.ext r0 g p hg hp hb.1
         obtain ⟨w',hst,hsat⟩:=Sat.store hp (c+n*te.size) new ws 0 h hg hb.1 (by omega) (by omega) hw1 (one_cells z4 hw1)
         have hrun:=run_append (P:=E.P) (w:=w) (ta:=ta) (ty:=ty) (zero:=z) (s:=.slice (some ⟨p.b,p.o+c,none⟩) n kk) (x:=vx) (n:=n) (cap:=kk) (m:=m) (old:=ol) (vs:=ws) (wf:=w') h0 h1 ok' hi (fun w=>by rw [z2];exact oke.size w) hz (by omega) rfl hw3 z5 z6
          (fun w' e1 e2=>by rw [z2];exact hw4 w' e1 e2) (fun _ w' e1=>by rw [z2];exact holdr w' e1) (fun _=>by simp only [addr_add,z2,Nat.add_assoc];exact hst)
         exact ⟨N,_,w',Nums.le.refl N,by simp only [SV.den,hp,Num.cap],hrun.1 hf,by simpa using hsat⟩
      | false =>
       rw [hf] at hr
       simp only [cond_false,Option.some.injEq,Prod.mk.injEq] at hr
       obtain ⟨rfl,rfl⟩:=hr
       have hf:kk<n+m:=by
        rcases Nat.lt_or_ge kk (n+m) with q | q
        ·exact q
        ·rw [Nat.ble_eq_true_of_le q] at hf;cases hf
       have hrun:=run_append (P:=E.P) (w:=w) (ta:=ta) (ty:=ty) (zero:=z) (s:=.slice (some ⟨p.b,p.o+c,none⟩) n kk) (x:=vx) (n:=n) (cap:=kk) (m:=m) (old:=ol) (vs:=ws) (wf:=w) h0 h1 ok' hi (fun w=>by rw [z2];exact oke.size w) hz (by omega) rfl hw3 z5 z6
        (fun w' e1 e2=>by rw [z2];exact hw4 w' e1 e2) (fun _ w' e1=>by rw [z2];exact holdr w' e1) (fun hle=>by omega)
       obtain ⟨K,rest,hK,hrest,hrun⟩:=hrun.2 hf
       rw [z2] at hrest
       obtain ⟨N',k1,k2,k3⟩:=fresh rg _ ol ws rest n K rfl (fun _ h=>h) hol hw1 hoc z3 z0 hK hrest
       exact ⟨N',_,_,k1,k2,hrun,k3⟩
     | none =>
      simp only at hr
      simp only [Num.cap] at hs
      subst hs
      cases hgo:g.own with
      | false=>rw [hgo] at hr;simp at hr
      | true =>
       rw [hgo] at hr
       simp only [cond_true] at hr
       have hext:=h.ext r0 g p hg hp hgo
       have hncap:n≤(p.x-c) / te.size:=by rw [Nat.le_div_iff_mul_le z0];omega
       cases hm:Nat.beq m 0 with
       | true =>
        rw [hm] at hr
        simp only [cond_true,Option.some.injEq,Prod.mk.injEq] at hr
        obtain ⟨rfl,rfl⟩:=hr
        have hm:=Nat.eq_of_beq_eq_true hm
        subst hm
        have hnil:new=[]:=List.eq_nil_of_length_eq_zero (by rw [z3];simp)
        subst hnil
        simp only [SV.denL,Option.some.injEq] at hw1;subst hw1
        have hrun:=run_append (P:=E.P) (w:=w) (ta:=ta) (ty:=ty) (zero:=z) (s:=.slice (some ⟨p.b,p.o+c,none⟩) n ((p.x-c) / te.size)) (x:=vx) (n:=n) (m:=0) (old:=ol) (vs:=[]) (wf:=w) h0 h1 ok' hi (fun w=>by rw [z2];exact oke.size w) hz (by omega) rfl hw3 z5 z6
         (fun w' e1 e2=>by rw [z2];exact hw4 w' e1 e2) (fun _ w' e1=>by rw [z2];exact holdr w' e1) (fun _=>rfl)
        exact ⟨N,_,w,Nums.le.refl N,by simp only [SV.den,hp,Num.cap];rfl,hrun.1 (by omega),h⟩
       | false =>
        rw [hm] at hr
        simp only [cond_false,Option.some.injEq,Prod.mk.injEq] at hr
        obtain ⟨rfl,rfl⟩:=hr
        by_cases hf:n+m≤(p.x-c) / te.size
        ·-- in place
         have hroom:(n+m)*te.size≤p.x-c:=by rwa [Nat.le_div_iff_mul_le z0] at hf
         have hcut:=h.cut hg hp hgo b3
         have hle:N.le (N++[(⟨p.b,p.o+c,p.x-c⟩:Num)]):=Nums.le_append _ _
         have hp':(N++[(⟨p.b,p.o+c,p.x-c⟩:Num)])[rg.length]?=some ⟨p.b,p.o+c,p.x-c⟩:=by rw [←h.len];simp
         have hg':(rg.set r0 ⟨false,[],none⟩++[(⟨true,(g.cells.drop c).take (n*te.size),none⟩:Rg)])[rg.length]?=some ⟨true,(g.cells.drop c).take (n*te.size),none⟩:=by
          rw [List.getElem?_append_right (by simp)];simp
         rw [Nat.add_mul] at hroom
         obtain ⟨w',hst,hsat⟩:=Sat.store hp' (n*te.size) new ws 0 hcut hg' rfl (by simp only [hoc];omega) (by simp only;omega) (SV.denL_mono hle _ hw1) (one_cells z4 hw1)
         have hrun:=run_append (P:=E.P) (w:=w) (ta:=ta) (ty:=ty) (zero:=z) (s:=.slice (some ⟨p.b,p.o+c,none⟩) n ((p.x-c) / te.size)) (x:=vx) (n:=n) (m:=m) (old:=ol) (vs:=ws) (wf:=w') h0 h1 ok' hi (fun w=>by rw [z2];exact oke.size w) hz (by omega) rfl hw3 z5 z6
          (fun w' e1 e2=>by rw [z2];exact hw4 w' e1 e2) (fun _ w' e1=>by rw [z2];exact holdr w' e1) (fun _=>by simp only [addr_add,z2];exact hst)
         refine ⟨_,_,w',hle,?_,hrun.1 hf,?_⟩
         ·simp only [SV.den,hp',Num.cap,Nat.add_zero,Nat.sub_zero]
         ·have e1:setRow ((g.cells.drop c).take (n*te.size)) (n*te.size+0) new=(g.cells.drop c).take (n*te.size)++new:=by
           have:=setRow_end ((g.cells.drop c).take (n*te.size)) new
           rwa [hoc] at this
          simp only [e1] at hsat
          rw [List.set_append_right _ _ (by simp)] at hsat
          simpa using hsat
        ·have hf:(p.x-c) / te.size<n+m:=by omega
         have hrun:=run_append (P:=E.P) (w:=w) (ta:=ta) (ty:=ty) (zero:=z) (s:=.slice (some ⟨p.b,p.o+c,none⟩) n ((p.x-c) / te.size)) (x:=vx) (n:=n) (m:=m) (old:=ol) (vs:=ws) (wf:=w) h0 h1 ok' hi (fun w=>by rw [z2];exact oke.size w) hz (by omega) rfl hw3 z5 z6
          (fun w' e1 e2=>by rw [z2];exact hw4 w' e1 e2) (fun _ w' e1=>by rw [z2];exact holdr w' e1) (fun hle=>by omega)
         obtain ⟨K,rest,hK,hrest,hrun⟩:=hrun.2 hf
         rw [z2] at hrest
         obtain ⟨N',k1,k2,k3⟩:=fresh (rg.set r0 ⟨false,[],none⟩) _ ol ws rest n K (by simp) (fun _ h=>h.retire hrl) hol hw1 hoc z3 z0 hK hrest
         exact ⟨N',_,_,k1,k2,hrun,k3⟩
  ·cases hr
 ·cases hr
theorem copyV_sound {P:Program} (hE:E.P=P) (hT:Tab.ok P T) (h:Sat E N rg w) {ta:Array Nat} {ty td e:Nat} {ti te:TI} {d x r:SV} {vd vx:Value} {rg':List Rg} (h0:ta[0]?=some td)
  (ht:lookT T td=some ti) (hk:ti.kind=.slice e) (hte:lookT T e=some te) (hd:d.den N=some vd) (hx:x.den N=some vx) (hr:copyV rg te d x=some (r,rg')) :
  ∃ v w',r.den N=some v∧(Builtin.copy_ ta ty #[vd,vx]).run P w=.ok v w'∧Sat E N rg' w':=by
 subst hE
 have ok:=(hT td ti ht).kind
 rw [hk] at ok
 have ok':E.P.underlying td=some (.slice e):=ok
 have oke:=hT e te hte
 unfold copyV at hr
 split at hr
 ·rename_i r0 c n z k
  split at hr
  ·rename_i g cs m hg hsrc
   rw [nth_eq] at hg
   cases hb:(g.own&&Nat.beq z te.size&&Nat.beq cs.length (m*z)&&cs.all SV.one&&Nat.ble (c+min m n*z) g.cells.length) with
   | false=>rw [hb] at hr;simp at hr
   | true =>
    rw [hb] at hr
    simp only [cond_true,Option.some.injEq,Prod.mk.injEq] at hr
    obtain ⟨rfl,rfl⟩:=hr
    simp only [Bool.and_eq_true] at hb
    obtain ⟨⟨⟨⟨b1,b2⟩,b3⟩,b4⟩,b5⟩:=hb
    have b2:=Nat.eq_of_beq_eq_true b2
    have b3:=Nat.eq_of_beq_eq_true b3
    have b5:=Nat.le_of_ble_eq_true b5
    subst b2
    obtain ⟨q1,vs,q2,q3,q4⟩:=srcV_sound (P:=E.P) h.vis hx hsrc
    simp only [SV.den] at hd
    cases hp:N[r0]? with
    | none=>simp [hp] at hd
    | some p =>
     simp only [hp,Option.some.injEq] at hd;subst hd
     have hext:=h.ext r0 g p hg hp b1
     have hmm:min m n*te.size≤m*te.size:=Nat.mul_le_mul_right _ (Nat.min_le_left _ _)
     have htk:(cs.take (min m n*te.size)).all SV.one=true:=by
      rw [List.all_eq_true] at b4 ⊢
      exact fun c hc=>b4 c (List.mem_of_mem_take hc)
     have hden:SV.denL N (cs.take (min m n*te.size))=some (vs.take (min m n*te.size)):=by
      have:=denL_take_drop q2 0 (min m n*te.size)
      simpa using this
     obtain ⟨w',hst,hsat⟩:=Sat.store hp c (cs.take (min m n*te.size)) (vs.take (min m n*te.size)) 0 h hg b1 (by omega) (by simp;omega) hden (one_cells htk hden)
     refine ⟨_,w',by simp only [SV.den];rfl,?_,by simpa using hsat⟩
     have hf:=q4 w rfl (min m n) (Nat.min_le_left _ _)
     have hmin:Nat.min m n=min m n:=rfl
     simp only [Builtin.copy_,h0,List.getElem?_toArray,List.getElem?_cons_zero,List.getElem?_cons_succ,Sem.run_bind,run_underlying ok',Result.andThen,q1,oke.size,hmin,hf,hst,Sem.run_pure,goInt,SI.den]
  ·cases hr
 ·cases hr
def wrOp (ρ:Operand→Option SV) (op:Op):Option Nat :=
 match op with
 | .store _ a _=>match ρ a with
  | some (.own r _)=>some r
  | _=>none
 | .call c=>match c.callee with
  | .builtin .append=>match c.args.toList with
   | [s,_]=>match ρ s with
    | some (.osl r _ _ _ _)=>some r
    | _=>none
   | _=>none
  | .builtin .copy=>match c.args.toList with
   | [s,_]=>match ρ s with
    | some (.osl r _ _ _ _)=>some r
    | _=>none
   | _=>none
  | _=>none
 | _=>none
theorem bif_some {b:Bool} {α:Type} {x:Option α} {y:α} (h:(bif b then x else none)=some y):x=some y:=by
 cases b with
 | true=>exact h
 | false=>simp at h
theorem appV_keeps {rg rg':List Rg} {te:TI} {s v:SV} {new:List SV} {m:Nat} (h:appV rg te s new m=some (v,rg')) :
  (∀ (r:Nat) (g:Rg),rg[r]?=some g→(∀ c n z k,s≠.osl r c n z k)→rg'[r]?=some g)∧rg.length≤rg'.length:=by
 have app:∀ g,(∀ (r:Nat) (g0:Rg),rg[r]?=some g0→(rg++[g])[r]?=some g0)∧rg.length≤(rg++[g]).length:=fun g =>
  ⟨fun r g0 h=>by rw [List.getElem?_append_left (List.getElem?_eq_some_iff.1 h).1];exact h,by simp⟩
 unfold appV at h
 split at h
 ·have h:=bif_some h
  cases hm:Nat.beq m 0 with
  | true=>rw [hm] at h;simp only [cond_true,Option.some.injEq,Prod.mk.injEq] at h;obtain ⟨_,rfl⟩:=h;exact ⟨fun r g h _=>h,Nat.le_refl _⟩
  | false=>rw [hm] at h;simp only [cond_false,Option.some.injEq,Prod.mk.injEq] at h;obtain ⟨_,rfl⟩:=h;exact ⟨fun r g h _=>(app _).1 r g h,(app _).2⟩
 ·rename_i r0 c n z k
  split at h
  ·replace h:=bif_some h
   cases k with
   | some kk =>
    simp only at h
    cases hf:Nat.ble (n+m) kk with
    | true =>
     rw [hf] at h
     simp only [cond_true] at h
     cases hm:Nat.beq m 0 with
     | true=>rw [hm] at h;simp only [cond_true,Option.some.injEq,Prod.mk.injEq] at h;obtain ⟨_,rfl⟩:=h;exact ⟨fun r g h _=>h,Nat.le_refl _⟩
     | false =>
      rw [hm] at h
      simp only [cond_false] at h
      have h:=bif_some h
      simp only [Option.some.injEq,Prod.mk.injEq] at h
      obtain ⟨_,rfl⟩:=h
      refine ⟨fun r g h hne=>?_,by simp⟩
      rw [List.getElem?_set_ne (fun e=>by subst e;exact hne _ _ _ _ rfl)];exact h
    | false=>rw [hf] at h;simp only [cond_false,Option.some.injEq,Prod.mk.injEq] at h;obtain ⟨_,rfl⟩:=h;exact ⟨fun r g h _=>(app _).1 r g h,(app _).2⟩
   | none =>
    simp only at h
    replace h:=bif_some h
    cases hm:Nat.beq m 0 with
    | true=>rw [hm] at h;simp only [cond_true,Option.some.injEq,Prod.mk.injEq] at h;obtain ⟨_,rfl⟩:=h;exact ⟨fun r g h _=>h,Nat.le_refl _⟩
    | false =>
     rw [hm] at h
     simp only [cond_false,Option.some.injEq,Prod.mk.injEq] at h
     obtain ⟨_,rfl⟩:=h
     refine ⟨fun r g h hne=>?_,by simp⟩
     have hr:=(List.getElem?_eq_some_iff.1 h).1
     rw [List.getElem?_append_left (by simpa using hr),List.getElem?_set_ne (fun e=>by subst e;exact hne _ _ _ _ rfl)];exact h
  ·cases h
 ·cases h
theorem copyV_keeps {rg rg':List Rg} {te:TI} {s x v:SV} (h:copyV rg te s x=some (v,rg')) :
  (∀ (r:Nat) (g:Rg),rg[r]?=some g→(∀ c n z k,s≠.osl r c n z k)→rg'[r]?=some g)∧rg.length≤rg'.length:=by
 unfold copyV at h
 split at h
 ·split at h
  ·have h:=bif_some h
   simp only [Option.some.injEq,Prod.mk.injEq] at h
   obtain ⟨_,rfl⟩:=h
   refine ⟨fun r g h hne=>?_,by simp⟩
   rw [List.getElem?_set_ne (fun e=>by subst e;exact hne _ _ _ _ rfl)];exact h
  ·cases h
 ·cases h
theorem stepE_keeps {T:Tab} {rg rg':List Rg} {ρ:Operand→Option SV} {op:Op} {v:SV} (hv:stepE T rg ρ op=some (v,rg')) :
  (∀ (r:Nat) (g:Rg),rg[r]?=some g→wrOp ρ op≠some r→rg'[r]?=some g)∧rg.length≤rg'.length:=by
 have app:∀ g,(∀ (r:Nat) (g0:Rg),rg[r]?=some g0→wrOp ρ op≠some r→(rg++[g])[r]?=some g0)∧rg.length≤(rg++[g]).length:=fun g =>
  ⟨fun r g0 h _=>by rw [List.getElem?_append_left (List.getElem?_eq_some_iff.1 h).1];exact h,by simp⟩
 cases op<;>simp only [stepE] at hv<;>try (simp at hv;done)
 case alloc t =>
  split at hv
  ·simp only [Option.some.injEq,Prod.mk.injEq] at hv
   obtain ⟨_,rfl⟩:=hv
   exact app _
  ·cases hv
 case box t x =>
  split at hv<;>try (cases hv;done)
  simp only [Option.some.injEq,Prod.mk.injEq] at hv
  obtain ⟨_,rfl⟩:=hv
  exact app _
 case store t x y =>
  split at hv
  ·rename_i q c u ti hx hy ht
   split at hv
   ·rename_i g hg
    have hv:=bif_some hv
    simp only [Option.some.injEq,Prod.mk.injEq] at hv
    obtain ⟨_,rfl⟩:=hv
    refine ⟨fun r g0 hg0 hm=>?_,by simp⟩
    have hne:q≠r:=fun e=>by subst e;exact hm (by simp only [wrOp,hx])
    rw [List.getElem?_set_ne hne]
    exact hg0
   ·cases hv
  ·cases hv
 case buildSlice t len ps =>
  split at hv
  ·split at hv
   ·split at hv
    ·have hv:=bif_some hv
     split at hv
     ·simp only [Option.some.injEq,Prod.mk.injEq] at hv
      obtain ⟨_,rfl⟩:=hv
      exact app _
     ·cases hv
    ·cases hv
   ·cases hv
  ·cases hv
 case makeSlice t len cap =>
  split at hv
  ·split at hv
   ·split at hv
    ·have hv:=bif_some hv
     simp only [Option.some.injEq,Prod.mk.injEq] at hv
     obtain ⟨_,rfl⟩:=hv
     exact app _
    ·cases hv
   ·cases hv
  ·cases hv
 case call c =>
  split at hv
  ·rename_i hcal
   split at hv
   ·rename_i s x ts tx hargs hta
    split at hv
    ·rename_i ss sx ti hss hsx ht
     split at hv
     ·split at hv
      ·split at hv
       ·obtain ⟨h1,h2⟩:=appV_keeps hv
        refine ⟨fun r g hg hne=>h1 r g hg (fun c n z k e=>hne ?_),h2⟩
        subst e
        simp only [wrOp,hcal,hargs,hss]
       ·cases hv
      ·cases hv
     ·cases hv
    ·cases hv
   ·cases hv
  ·rename_i hcal
   split at hv
   ·rename_i s x ts tx hargs hta
    split at hv
    ·rename_i ss sx ti hss hsx ht
     split at hv
     ·split at hv
      ·obtain ⟨h1,h2⟩:=copyV_keeps hv
       refine ⟨fun r g hg hne=>h1 r g hg (fun c n z k e=>hne ?_),h2⟩
       subst e
       simp only [wrOp,hcal,hargs,hss]
      ·cases hv
     ·cases hv
    ·cases hv
   ·cases hv
  ·cases hv
def Yields (P:Program) (ρ:Operand→Value) (o:Oper) (w:World) (x:Value) (w':World):Prop :=
 (execOp ρ o).run P w=.ok (.value x) w'∨((execOp ρ o).run P w=.ok .skip w'∧x=undef)
theorem stepE_sound (hT:TabOk E.P T) (h:Sat E N rg w) {ρ:Operand→Option SV} {ρ':Operand→Value} (hρ:∀ x s,ρ x=some s→s.den N=some (ρ' x)) {o:Oper} {r:SV} {rg':List Rg} (hs:stepE T rg ρ o.op=some (r,rg')) :
  ∃ N' x w',N.le N'∧r.den N'=some x∧Yields E.P ρ' o w x w'∧Sat E N' rg' w':=by
 have new:∀ (cs:List SV) (l:List Value) (t:TypeId),SV.denL N cs=some l→N.le (N++[⟨w.heap.size,0,l.length⟩])∧(SV.own rg.length 0).den (N++[⟨w.heap.size,0,l.length⟩])=some (.pointer (some ⟨w.heap.size,0,none⟩)) ∧
   Sat E (N++[⟨w.heap.size,0,l.length⟩]) (rg++[⟨true,cs,none⟩]) (w.alloc (.cells l.toArray t)):=by
  intro cs l t hl
  refine ⟨Nums.le_append _ _,?_,h.alloc hl t⟩
  have:(N++[(⟨w.heap.size,0,l.length⟩:Num)])[rg.length]?=some ⟨w.heap.size,0,l.length⟩:=by rw [←h.len];simp
  simp [SV.den,this]
 have fin:∀ {sm:Sem Value},(∀ w,(execOp ρ' o).run E.P w=(do pure (.value (←sm)):Sem Next).run E.P w)→(∃ N' x w',N.le N'∧r.den N'=some x∧sm.run E.P w=.ok x w'∧Sat E N' rg' w') →
   ∃ N' x w',N.le N'∧r.den N'=some x∧Yields E.P ρ' o w x w'∧Sat E N' rg' w':=by
  rintro sm he ⟨N',x,w',h1,h2,h3,h4⟩
  exact ⟨N',x,w',h1,h2,.inl (by rw [he];simp [h3]),h4⟩
 cases hop:o.op<;>simp only [hop,stepE] at hs<;>try (simp at hs;done)
 case alloc t =>
  split at hs
  ·rename_i ti ht
   simp only [Option.some.injEq,Prod.mk.injEq] at hs
   obtain ⟨rfl,rfl⟩:=hs
   obtain ⟨z,hz,hzd⟩:=(hT.ok t ti ht).zero
   have hzd':SV.denL N ti.zero=some z.cells.toList:=SV.denL_mono (N:=[]) (N':=N) (fun r p h=>by simp at h) _ hzd
   obtain ⟨h1,h2,h3⟩:=new _ _ t hzd'
   refine ⟨_,_,_,h1,h2,.inl ?_,h3⟩
   simp [execOp,hop,Instr.alloc,hz,Result.andThen,newVar,newRow]
  ·cases hs
 case box t x =>
  have main:∀ v,ρ x=some v→(∀ l,v≠.tup l)→(∀ l,v≠.big l)→some (SV.own rg.length 0,rg++[⟨true,v.cells,none⟩])=some (r,rg') →
    ∃ N' x w',N.le N'∧r.den N'=some x∧Yields E.P ρ' o w x w'∧Sat E N' rg' w':=by
   intro v hv hnt hnb hs
   simp only [Option.some.injEq,Prod.mk.injEq] at hs
   obtain ⟨rfl,rfl⟩:=hs
   have hc:=cells_den (hρ _ _ hv) hnt hnb
   obtain ⟨h1,h2,h3⟩:=new _ _ t hc
   refine ⟨_,_,_,h1,h2,.inl ?_,h3⟩
   simp [execOp,hop,Instr.box,Result.andThen,newVar,newRow]
  cases hx:ρ x with
  | none=>simp [hx] at hs
  | some v =>
   rw [hx] at hs
   cases v<;>first | (simp at hs;done) | exact main _ hx (by simp) (by simp) hs
 case store t a x =>
  split at hs
  ·rename_i q c v ti ha hx ht
   split at hs
   ·rename_i g hg
    rw [nth_eq] at hg
    cases hb:(g.own&&Nat.beq v.cells.length ti.size&&Nat.ble (c+ti.size) g.cells.length&&v.cells.all SV.one) with
    | false=>rw [hb] at hs;simp at hs
    | true =>
     rw [hb] at hs
     simp only [cond_true,Option.some.injEq,Prod.mk.injEq] at hs
     obtain ⟨rfl,rfl⟩:=hs
     simp only [Bool.and_eq_true] at hb
     obtain ⟨⟨⟨b1,b2⟩,b3⟩,b4⟩:=hb
     have b2:=Nat.eq_of_beq_eq_true b2
     have b3:=Nat.le_of_ble_eq_true b3
     have hda:=hρ _ _ ha
     simp only [SV.den] at hda
     cases hp:N[q]? with
     | none=>simp [hp] at hda
     | some p =>
      simp only [hp,Option.some.injEq] at hda
      have hnt:∀ l,v≠.tup l:=fun l e=>by subst e;simp [SV.cells,SV.one] at b4
      have hnb:∀ l,v≠.big l:=fun l e=>by subst e;simp [SV.cells,SV.one] at b4
      have hc:=cells_den (hρ _ _ hx) hnt hnb
      have hext:=h.ext q g p hg hp b1
      obtain ⟨w',hrun,hsat⟩:=Sat.store hp c v.cells (ρ' x).cells.toList 0 h hg b1 (by omega) (by omega) hc (one_cells b4 hc)
      have hsz:(ρ' x).cells.size=ti.size:=by
       have:=(SV.denL_get _ hc).1
       rw [←b2,←this];simp
      refine ⟨N,undef,w',Nums.le.refl N,rfl,.inr ⟨?_,rfl⟩,by simpa using hsat⟩
      simp only [execOp,hop,Instr.storeAt,←hda,Instr.sureAddr,storeVar,Sem.run_bind,Sem.run_pure,Result.andThen,(hT.ok t ti ht).size]
      rw [if_neg (by simp [hsz])]
      simp [hrun]
   ·cases hs
  ·cases hs
 case buildSlice t len ps =>
  split at hs
  ·rename_i ti ht
   split at hs
   ·rename_i e hk
    split at hs
    ·rename_i te l hte hl
     cases hb:(Nat.blt 0 te.size&&Nat.beq te.zero.length te.size&&Nat.ble (len*te.size) 16777216) with
     | false=>rw [hb] at hs;simp at hs
     | true =>
      rw [hb] at hs
      simp only [cond_true] at hs
      split at hs
      ·rename_i cs hf
       simp only [Option.some.injEq,Prod.mk.injEq] at hs
       obtain ⟨rfl,rfl⟩:=hs
       obtain ⟨h1,h2⟩:=evs_sound hρ ps.toList hl
       exact fin (fun w=>by simp only [execOp,hop]) (buildSlice_sound (vs:=ps.map fun (i,x)=>(i,ρ' x)) hT.ok h ht hk hte hb (by simpa using h1) (by simp [h2]) hf)
      ·cases hs
    ·cases hs
   ·cases hs
  ·cases hs
 case makeSlice t len cap =>
  split at hs
  ·rename_i ti k n k' c ht hn hc
   split at hs
   ·rename_i e hk
    split at hs
    ·rename_i te hte
     cases hb:(Nat.blt 0 te.size&&Nat.beq te.zero.length te.size&&decide (0≤n)&&decide (n≤c)&&decide (c≤1099511627776)&&Nat.ble (te.bytes*c.toNat) 281474976710656) with
     | false=>rw [hb] at hs;simp at hs
     | true =>
      rw [hb] at hs
      simp only [cond_true,Option.some.injEq,Prod.mk.injEq] at hs
      obtain ⟨rfl,rfl⟩:=hs
      have e1:=hρ _ _ hn
      have e2:=hρ _ _ hc
      simp only [SV.den,SI.den,Option.some.injEq] at e1 e2
      exact fin (fun w=>by simp only [execOp,hop,←e1,←e2]) (makeSlice_sound (k:=k) (k':=k') hT.ok h ht hk hte hb)
    ·cases hs
   ·cases hs
  ·cases hs
 case call c =>
  split at hs
  ·rename_i hcal
   split at hs
   ·rename_i s x ts tx hargs hta
    split at hs
    ·rename_i ss sx ti hss hsx ht
     split at hs
     ·rename_i e hk
      split at hs
      ·rename_i te hte
       split at hs
       ·rename_i cs m hsrc
        obtain ⟨callee,args,argTypes⟩:=c
        simp only at hcal hargs hta
        subst hcal
        have e1:args=#[s,x]:=by rw [←Array.toArray_toList (xs:=args),hargs]
        have e2:argTypes=#[ts,tx]:=by rw [←Array.toArray_toList (xs:=argTypes),hta]
        subst e1;subst e2
        exact fin (sm:=Builtin.append_ #[ts,tx] o.type #[ρ' s,ρ' x]) (fun w=>by simp [execOp,hop,resolve,invoke,builtin,Result.andThen])
         (appV_sound rfl hT.ok h (by simp) (by simp) ht hk hte (hρ _ _ hss) (hρ _ _ hsx) hsrc hs)
       ·cases hs
      ·cases hs
     ·cases hs
    ·cases hs
   ·cases hs
  ·rename_i hcal
   split at hs
   ·rename_i s x ts tx hargs hta
    split at hs
    ·rename_i ss sx ti hss hsx ht
     split at hs
     ·rename_i e hk
      split at hs
      ·rename_i te hte
       obtain ⟨callee,args,argTypes⟩:=c
       simp only at hcal hargs hta
       subst hcal
       have e1:args=#[s,x]:=by rw [←Array.toArray_toList (xs:=args),hargs]
       have e2:argTypes=#[ts,tx]:=by rw [←Array.toArray_toList (xs:=argTypes),hta]
       subst e1;subst e2
       obtain ⟨v,w',k1,k2,k3⟩:=copyV_sound (ta:=#[ts,tx]) (ty:=o.type) rfl hT.ok h (by simp) ht hk hte (hρ _ _ hss) (hρ _ _ hsx) hs
       exact fin (sm:=Builtin.copy_ #[ts,tx] o.type #[ρ' s,ρ' x]) (fun w=>by simp [execOp,hop,resolve,invoke,builtin,Result.andThen]) ⟨N,v,w',Nums.le.refl N,k1,k2,k3⟩
      ·cases hs
     ·cases hs
    ·cases hs
   ·cases hs
  ·cases hs
end
section
variable {P:Program} {ops:Array Oper} {Q:Exit→Act→World→Prop} {S:Array Bool→World→Prop}
def wpF (P:Program) (ops:Array Oper) (Q:Exit→Act→World→Prop) (S:Array Bool→World→Prop):Nat→Array Bool→Act→World→Prop
 | 0,L,a,w=>Region.ready .any ops L=[]∧Q .normal a w
 | m+1,L,a,w=>(Region.ready .any ops L=[]→Q .normal a w) ∧
  ∀ i∈Region.ready .any ops L,wpOp P ops Q i (fun a' w'=>S (L.setIfInBounds i true) w'∧wpF P ops Q S m (L.setIfInBounds i true) a' w') a w
theorem wpF.any:∀ (m:Nat) (L:Array Bool) (a:Act) (w:World),wpF P ops Q S m L a w→wpAny P .any ops Q m L a w
 | 0,_,_,_,h=>h
 | m+1,_,_,_,h=>⟨h.1,fun i hi=>wpOp_mono (fun a' w' h'=>wpF.any m _ a' w' h'.2) (h.2 i hi)⟩
inductive Up (ops:Array Oper) (i:Nat) (L0:Array Bool):Array Bool→Prop
 | here:Up ops i L0 L0
 | step {L:Array Bool} {j:Nat}:Up ops i L0 L→j∈Region.ready .any ops L→j≠i→Up ops i L0 (L.setIfInBounds j true)
theorem Up.cons {i j:Nat} {L L':Array Bool} (hj:j∈Region.ready .any ops L) (hne:j≠i) (h:Up ops i (L.setIfInBounds j true) L'):Up ops i L L':=by
 induction h with
 | here=>exact .step .here hj hne
 | step _ h1 h2 ih=>exact .step ih h1 h2
theorem wpF.first {i:Nat} {oi:Oper} {v:Value} (hi:ops[i]?=some oi) (hsel:∀ (j:Nat) (o:Oper) cs b,ops[j]?=some o→o.op≠.select cs b)
  (hQ:∀ c a w,Q (.panic c) (a.put oi.dst v) w→Q (.panic c) a w) (hq:∀ L w,S (L.setIfInBounds i true) w↔S L w) :
  ∀ (m:Nat) (L:Array Bool) (a:Act) (w:World),
   (∀ j oj,ops[j]?=some oj→j≠i→L.getD j true=false→(∀ e∈oj.after,Region.binds .any e=true→e.on≠i)→oi.apart ops oj=true) →
   i∈Region.ready .any ops L→YieldsIf P ops (fun w=>∃ L',Up ops i L L'∧S L' w) oi v a→S L w →
   wpF P ops Q S m (L.setIfInBounds i true) (a.put oi.dst v) w→wpF P ops Q S (m+1) L a w:=by
 intro m
 induction m with
 | zero =>
  intro L a w _ hr hy hS H
  refine ⟨fun h=>(by rw [h] at hr;cases hr),fun j hj=>?_⟩
  by_cases hji:j=i
  ·subst hji;exact hy.wpOp hi ⟨L,.here,hS⟩ ⟨(hq L w).2 hS,H⟩
  ·have:=ready_mono hj hji
   rw [H.1] at this
   cases this
 | succ m ih =>
  intro L a w hfree hr hy hS H
  refine ⟨fun h=>(by rw [h] at hr;cases hr),fun j hj=>?_⟩
  by_cases hji:j=i
  ·subst hji;exact hy.wpOp hi ⟨L,.here,hS⟩ ⟨(hq L w).2 hS,H⟩
  ·have h1:=H.2 j (ready_mono hj hji)
   obtain ⟨hjun,oj,hoj,hall⟩:=mem_ready.1 hj
   have hnot:∀ e∈oj.after,Region.binds .any e=true→e.on≠i:=fun e he hb heq=>by
    have h1:=hall e he hb
    have h0:=(mem_ready.1 hr).1
    rw [heq] at h1
    rcases Nat.lt_or_ge i L.size with h' | h'
    ·simp [h'] at h0 h1;rw [h0] at h1;cases h1
    ·simp [Array.getElem?_eq_none h'] at h1
   have h2:=wpOp_putIf hoj (hfree j oj hoj hji hjun hnot) (fun cs b=>hsel i oi cs b hi) (fun cs b=>hsel j oj cs b hoj) hQ hy h1
   have hfree':∀ k ok,ops[k]?=some ok→k≠i→(L.setIfInBounds j true).getD k true=false →
     (∀ e∈ok.after,Region.binds .any e=true→e.on≠i)→oi.apart ops ok=true:=fun k ok hk hki hun hno=>by
    refine hfree k ok hk hki ?_ hno
    by_cases hjk:j=k
    ·subst hjk;exact hjun
    ·rw [getD_set_ne true hjk] at hun;exact hun
   refine wpOp_mono (fun a' w' h3=>?_) h2
   obtain ⟨h4,h5,h6⟩:=h3
   rw [Array.setIfInBounds_comm _ _ (Ne.symm hji)] at h5 h6
   have h7:=(hq _ _).1 h5
   exact ⟨h7,ih (L.setIfInBounds j true) a' w' hfree' (ready_mono hr (Ne.symm hji)) (h4.imp (fun ⟨q1,q2⟩=>⟨q1,fun w ⟨L',q3,q4⟩=>q2 w ⟨L',q3.cons hj hji,q4⟩⟩) id) h7 h6⟩
theorem wpF.take {i:Nat} {oi:Oper} {v:Value} {m:Nat} {L:Array Bool} {a:Act} {w:World} (hi:ops[i]?=some oi)
  (hs:Region.noSelect ops=true) (hf:Region.free .any ops L i=true) (hr:(Region.ready .any ops L).contains i=true)
  (hQ:∀ c a w,Q (.panic c) (a.put oi.dst v) w→Q (.panic c) a w) (hq:∀ L w,S (L.setIfInBounds i true) w↔S L w) (hy:YieldsIf P ops (fun w=>∃ L',Up ops i L L'∧S L' w) oi v a) (hS:S L w)
  (h:wpF P ops Q S m (L.setIfInBounds i true) (a.put oi.dst v) w):wpF P ops Q S (m+1) L a w :=
 wpF.first hi (Region.noSelect_spec hs) hQ hq m L a w (Region.free_spec hi hf) (by simpa using hr) hy hS h
theorem wpF.all {rs:List Nat} {m:Nat} {L:Array Bool} {a:Act} {w:World} (hr:Region.ready .any ops L=rs) (hne:rs≠[])
  (h:∀ i∈rs,wpOp P ops Q i (fun a' w'=>S (L.setIfInBounds i true) w'∧wpF P ops Q S m (L.setIfInBounds i true) a' w') a w):wpF P ops Q S (m+1) L a w :=
 ⟨fun h0=>absurd (hr ▸ h0) hne,hr ▸ h⟩
theorem wpF.done {L:Array Bool} {a:Act} {w:World} (hr:Region.ready .any ops L=[]) (h:Q .normal a w):wpF P ops Q S 0 L a w:=⟨hr,h⟩
def memB:List Nat→Nat→Bool
 | [],_=>false
 | k::r,n=>Nat.beq k n || memB r n
def closedB (ops:Array Oper) (i:Nat) (blk:List Nat):Bool :=
 (List.range ops.size).all fun j=>memB blk j || Nat.beq j i || match ops[j]? with
  | some o=>o.after.any fun e=>Region.binds .any e&&(Nat.beq e.on i || !memB blk e.on)
  | none=>true
def withinB (L:Array Bool) (n:Nat) (blk:List Nat):Bool:=(List.range n).all fun j=>!L.getD j false || memB blk j
theorem Up.within {i:Nat} {blk:List Nat} {L L':Array Bool} (hc:closedB ops i blk=true) (hn:L.size=ops.size) (hi:L.getD i false=false) (h:Up ops i L L') (hw:withinB L ops.size blk=true) :
  L'.size=ops.size∧L'.getD i false=false∧∀ j,L'.getD j false=true→memB blk j=true:=by
 induction h with
 | here =>
  refine ⟨hn,hi,fun j hj=>?_⟩
  have hlt:j<ops.size:=by
   rcases Nat.lt_or_ge j ops.size with h' | h'
   ·exact h'
   ·rw [Array.getD_eq_getD_getElem?,Array.getElem?_eq_none (by omega)] at hj;cases hj
  have:=List.all_eq_true.1 hw j (List.mem_range.2 hlt)
  simpa [hj] using this
 | @step L1 j hup hj hne ih =>
  obtain ⟨h1,h2,h3⟩:=ih
  refine ⟨by simpa using h1,?_,fun k hk=>?_⟩
  ·rw [getD_set_ne false hne];exact h2
  ·by_cases hjk:j=k
   ·subst hjk
    obtain ⟨_,oj,hoj,hall⟩:=mem_ready.1 hj
    have hlt:j<ops.size:=(Array.getElem?_eq_some_iff.1 hoj).1
    have hcj:=List.all_eq_true.1 hc j (List.mem_range.2 hlt)
    simp only [hoj,Bool.or_eq_true] at hcj
    rcases hcj with (h | h) | h
    ·exact h
    ·exact absurd (Nat.eq_of_beq_eq_true h) hne
    ·obtain ⟨e,he,hb⟩:=Array.any_eq_true'.1 h
     simp only [Bool.and_eq_true,Bool.or_eq_true,Bool.not_eq_true'] at hb
     have hl:=hall e he hb.1
     rcases hb.2 with hb | hb
     ·have:=Nat.eq_of_beq_eq_true hb
      rw [this,h2] at hl;cases hl
     ·have:=h3 e.on hl
      rw [hb] at this;cases this
   ·rw [getD_set_ne false hjk] at hk
    exact h3 k hk
end
abbrev Sch:=List (Nat × Option (List Nat))
abbrev SchT:=List (Nat × Sch)
def lookS:SchT→Nat→Option Sch
 | [],_=>none
 | (k,v)::r,t=>bif Nat.beq k t then some v else lookS r t
def only (l:List Nat) (i:Nat):Bool :=
 match l with
 | [j]=>Nat.beq j i
 | _=>false
def schOk (ops:Array Oper):Sch→Array Bool→Bool
 | [],listed=>(Region.ready .any ops listed).isEmpty
 | (i,some blk)::r,listed=>(Region.ready .any ops listed).contains i&&Region.free .any ops listed i&&closedB ops i blk&&withinB listed ops.size blk&&schOk ops r (listed.setIfInBounds i true)
 | (i,none)::r,listed=>only (Region.ready .any ops listed) i&&schOk ops r (listed.setIfInBounds i true)
def anyOk (ops:Array Oper) (s:Sch):Bool:=Region.noSelect ops&&Nat.beq s.length ops.size&&schOk ops s (Array.replicate ops.size false)
def regsB (B:SchT):Code→Bool
 | .region id ops d=>match d with
  | true=>match lookS B id with
   | some s=>anyOk ops s
   | none=>true
  | false=>true
 | .seq x y=>regsB B x&&regsB B y
 | .cond _ x y=>regsB B x&&regsB B y
 | .block _ c=>regsB B c
 | .loop c=>regsB B c
 | .scope c=>regsB B c
 | _=>true
inductive It where
 | code (c:Code)
 | blk (id:Nat)
 | ops (all:Array Oper) (rest:List Nat)
 | lp (q:Act→World→Prop)
 | res (l:List SV)
 | inl (c:Code)
 deriving Inhabited
def wpIn (P:Program) (c:Code) (Q:Exit→Act→World→Prop) (a:Act) (w:World):Prop :=
 ∀ (b:Frame) (k:List Item) (cs:List Frame),∃ e a' w',Q e a' w'∧Arrives P (lone (b.at a (.inLoop c::k)) cs w) b k cs e a' w'
theorem loop_round {P:Program} {c:Code} {Q:Exit→Act→World→Prop} {a:Act} {w:World} (h:c.wp P (Exit.then (wpIn P c Q) Q) a w) (b:Frame) (k:List Item) (cs:List Frame) :
  ∃ e a' w',Q e a' w'∧Arrives P (lone (b.at a (.code c::.inLoop c::k)) cs w) b k cs e a' w':=by
 obtain ⟨e,a₁,w₁,hq,harr⟩:=h b (.inLoop c::k) cs
 cases e with
 | normal =>
  obtain ⟨e₂,a₂,w₂,hq₂,harr₂⟩:=hq b k cs
  exact ⟨e₂,a₂,w₂,hq₂,.of_steps harr harr₂⟩
 | exit id=>exact ⟨_,a₁,w₁,hq,.pass (x:=.inLoop c) rfl (fun _ _=>.inl (by simp)) harr⟩
 | goto l=>exact ⟨_,a₁,w₁,hq,.pass (x:=.inLoop c) rfl (fun _ _=>.inl (by simp)) harr⟩
 | ret=>exact ⟨_,a₁,w₁,hq,.pass (x:=.inLoop c) rfl (fun _ _=>.inl (by simp)) harr⟩
 | panic ch=>exact ⟨_,a₁,w₁,hq,.pass (x:=.inLoop c) rfl (fun _ _=>.inl (by simp)) harr⟩
 | outgrown=>exact ⟨_,a₁,w₁,hq,.pass (x:=.inLoop c) rfl (fun _ _=>.inl (by simp)) harr⟩
theorem wp_unroll {P:Program} {c:Code} {Q:Exit→Act→World→Prop} {a:Act} {w:World} (h:c.wp P (Exit.then (wpIn P c Q) Q) a w):(Code.loop c).wp P Q a w:=by
 intro b k cs
 obtain ⟨e,a',w',hq,harr⟩:=loop_round h b k cs
 exact ⟨e,a',w',hq,.of_steps (.one step_loop) harr⟩
theorem wpIn_again {P:Program} {c:Code} {Q:Exit→Act→World→Prop} {a:Act} {w:World} (h:c.wp P (Exit.then (wpIn P c Q) Q) a w):wpIn P c Q a w:=by
 intro b k cs
 obtain ⟨e,a',w',hq,harr⟩:=loop_round h b k cs
 exact ⟨e,a',w',hq,.of_steps (.one step_inLoop) harr⟩
def sem (P:Program) (B:SchT):List It→(Exit→Act→World→Prop)→Exit→Act→World→Prop
 | [],Q=>Q
 | .code c::k,Q=>Exit.then (fun a w=>regsB B c=true→c.wp P (sem P B k Q) a w) (sem P B k Q)
 | .blk id::k,Q=>Exit.inBlock id (sem P B k Q)
 | .ops all rest::k,Q=>Exit.then (fun a w=>wpOps P all (sem P B k Q) rest a w) (sem P B k Q)
 | .lp q::k,Q=>Exit.then q (sem P B k Q)
 | .res _::k,Q=>Exit.then (fun a w=>sem P B k Q .ret a w) (sem P B k Q)
 | .inl c::k,Q=>Exit.then (fun a w=>regsB B c=true→wpIn P c (sem P B k Q) a w) (sem P B k Q)
structure Ctx extends Env where
 N0:Nums
 B:SchT
def X (E:Ctx) (t:List It) (s:St):Prop :=
 ∀ (N:Nums) (a:Act) (w:World),E.N0.le N→FrOk E.n N s.fr a→Sat E.toEnv N s.rg w→sem E.P E.B t E.Q .normal a w
def unwind (id:Nat):List It→Option (List It)
 | []=>none
 | .blk i::k=>bif Nat.beq i id then some k else unwind id k
 | .code _::k=>unwind id k
 | .ops _ _::k=>unwind id k
 | .lp _::k=>unwind id k
 | .res _::k=>unwind id k
 | .inl _::k=>unwind id k
theorem unwind_sound {P:Program} {B:SchT} {id:Nat} {Q:Exit→Act→World→Prop} {a:Act} {w:World}:∀ (k:List It) {k':List It},unwind id k=some k'→sem P B k' Q .normal a w→sem P B k Q (.exit id) a w
 | [],k',h,_=>by simp [unwind] at h
 | .code c::k,k',h,hs=>by simp only [unwind] at h;exact unwind_sound k h hs
 | .ops all rest::k,k',h,hs=>by simp only [unwind] at h;exact unwind_sound k h hs
 | .lp q::k,k',h,hs=>by simp only [unwind] at h;exact unwind_sound k h hs
 | .res q::k,k',h,hs=>by simp only [unwind] at h;exact unwind_sound k h hs
 | .inl q::k,k',h,hs=>by simp only [unwind] at h;exact unwind_sound k h hs
 | .blk i::k,k',h,hs=>by
  simp only [unwind] at h
  by_cases hi:i=id
  ·subst hi
   simp at h;subst h
   simpa [sem,Exit.inBlock] using hs
  ·simp only [beq_ne hi,cond_false] at h
   have:=unwind_sound k h hs
   simp only [sem,Exit.inBlock]
   rw [if_neg (fun e=>hi e.symm)]
   exact this
def dstOf (all:Array Oper) (i:Nat):Option Nat :=
 match nth all.toList i with
 | some o=>o.dst
 | none=>none
def pickF (f:Fr) (ρ:Operand→Option SV) (op:Op):Option SV :=
 match op with
 | .pick (.tmp m) a b=>match ρ (.tmp m),evG f m true a,evG f m false b with
  | some c,some va,some vb=>pickV c va vb
  | some (.bool (.lit true)),some va,_=>some va
  | some (.bool (.lit false)),_,some vb=>some vb
  | _,_,_=>none
 | _=>none
def putO (n:Nat) (f:Fr) (d:Option Nat) (e:FV):Option Fr :=
 match d with
 | none=>some f
 | some d=>bif Nat.blt d n then some (upd f d e) else none
def isU:SV→Bool
 | .tup []=>true
 | _=>false
def valQ (T:Tab) (rg:List Rg) (f:Fr) (ρ:Operand→Option SV) (op:Op):Option SV :=
 match pickF f ρ op with
 | some v=>some v
 | none=>stepP T rg ρ op
def plainQ (T:Tab) (n:Nat) (rg:List Rg) (f:Fr) (o:Oper):Option Fr :=
 match valQ T rg f (ev f) o.op with
 | some v=>putO n f o.dst (.val v)
 | none=>none
def maybeQ (T:Tab) (n:Nat) (rg:List Rg) (f:Fr) (o:Oper) (k:Nat) (want:Bool):Option Fr :=
 match valQ T rg f (evG f k want) o.op with
 | some v=>match o.dst with
  | some d=>bif Nat.beq d k then none else putO n f (some d) (.opt k want v)
  | none=>none
 | none=>none
def opQ (T:Tab) (n:Nat) (all:Array Oper) (rg:List Rg) (i:Nat) (f:Fr):Option Fr :=
 match nth all.toList i with
 | none=>none
 | some o =>
  match o.guard with
  | none=>plainQ T n rg f o
  | some (gi,want)=>match dstOf all gi with
   | none=>none
   | some k =>
    match look f k with
    | .val (.bool (.lit b))=>bif b == want then plainQ T n rg f o else putO n f o.dst (.val (.tup []))
    | .val (.bool _)=>maybeQ T n rg f o k want
    | .val v=>bif isU v then putO n f o.dst (.val (.tup [])) else none
    | .opt _ _ (.bool _)=>maybeQ T n rg f o k want
    | _=>none
def sure (all:Array Oper) (f:Fr) (o:Oper):Bool :=
 match o.guard with
 | none=>true
 | some (gi,want)=>match dstOf all gi with
  | none=>false
  | some k=>match look f k with
   | .val (.bool (.lit b))=>b == want
   | _=>false
def opE (T:Tab) (n:Nat) (all:Array Oper) (i:Nat) (s:St):Option St :=
 match nth all.toList i with
 | none=>none
 | some o=>bif sure all s.fr o then
   match stepE T s.rg (ev s.fr) o.op with
   | some (v,rg)=>match putO n s.fr o.dst (.val v) with
    | some f=>some ⟨f,rg⟩
    | none=>none
   | none=>none
  else none
def opStep (T:Tab) (n:Nat) (all:Array Oper) (i:Nat) (s:St):Option St :=
 match opQ T n all s.rg i s.fr with
 | some f=>some ⟨f,s.rg⟩
 | none=>opE T n all i s
def memN:List Nat→Nat→Bool
 | [],_=>false
 | k::r,n=>Nat.beq k n || memN r n
def stR (f:Fr) (all:Array Oper) (i:Nat):Option Nat :=
 match nth all.toList i with
 | some o=>wrOp (ev f) o.op
 | none=>none
def maskRg (ks:List Nat):List Rg→Nat→List Rg
 | [],_=>[]
 | g::r,i=>(bif memN ks i then ⟨false,[],none⟩ else g)::maskRg ks r (i+1)
def resL (T:Tab) (s:St):List ResultVar→Option (List SV)
 | []=>some []
 | .tmp t::r=>match ev s.fr (.tmp t),resL T s r with
  | some v,some l=>some (v::l)
  | _,_=>none
 | .cell a t::r=>match ev s.fr (.tmp a) with
  | some x=>match loadV T s.rg t x,resL T s r with
   | some v,some l=>some (v::l)
   | _,_=>none
  | none=>none
def adv (T:Tab) (n:Nat) (rs:List ResultVar) (t:List It) (s:St):Option (List It × St) :=
 match t with
 | []=>none
 | .lp _::_=>none
 | .res _::_=>none
 | .inl _::_=>none
 | .blk _::k=>some (k,s)
 | .ops _ []::k=>some (k,s)
 | .ops all (i::rest)::k=>match opStep T n all i s with
  | some s'=>some (.ops all rest::k,s')
  | none=>none
 | .code c::k =>
  match c with
  | .skip=>some (k,s)
  | .label _=>some (k,s)
  | .seq x y=>some (.code x::.code y::k,s)
  | .block id c=>some (.code c::.blk id::k,s)
  | .region _ ops d=>match d with
   | false=>some (.ops ops (List.range ops.size)::k,s)
   | true=>none
  | .exit id=>match unwind id k with
   | some k'=>some (k',s)
   | none=>none
  | .cond c x y=>match ev s.fr c with
   | some (.bool (.lit b))=>some (.code (bif b then x else y)::k,s)
   | _=>none
  | .ret=>match resL T s rs with
   | some l=>some (.res l::k,s)
   | none=>none
  | _=>none
section
variable {E:Ctx} {T:Tab}
theorem pickF_sound {n:Nat} {N:Nums} {f:Fr} {a:Act} {P:Program} {w:World} (h:FrOk n N f a) {ρ:Operand→Option SV} (hρ:∀ x s,ρ x=some s→s.den N=some (a.eval x)) {o:Oper} {r:SV} (hp:pickF f ρ o.op=some r) :
  ∃ x,r.den N=some x∧(execOp a.eval o).run P w=.ok (.value x) w:=by
 cases hop:o.op<;>simp only [hop,pickF] at hp<;>try (simp at hp;done)
 rename_i c x y
 cases c<;>simp only at hp<;>try (simp at hp;done)
 rename_i m
 have key:∀ (c:SV) (cb:Bool),ρ (.tmp m)=some c→c.den N=some (.bool cb)→a.tmps[m]?=some (.bool cb):=by
  intro c cb hc hd
  have:=hρ _ _ hc
  rw [hd] at this
  simp only [Act.eval,Option.some.injEq] at this
  cases hm:a.tmps[m]? with
  | none=>simp [hm,undef] at this
  | some v=>simp [hm] at this;rw [this]
 have fin:∀ (cb:Bool) (r:SV),a.eval (.tmp m)=.bool cb→r.den N=some (bif cb then a.eval x else a.eval y)→∃ v,r.den N=some v∧(execOp a.eval o).run P w=.ok (.value v) w:=by
  intro cb r hc hr
  refine ⟨_,hr,?_⟩
  simp only [execOp,hop,hc]
  cases cb<;>simp [asBool]
 split at hp
 ·rename_i c va vb hc ha hb
  have hd:=hρ _ _ hc
  -- the test is a Bool
  have hbool:∃ cb,c.den N=some (.bool cb):=by
   unfold pickV at hp
   split at hp
   ·exact ⟨_,rfl⟩
   ·exact ⟨_,rfl⟩
   ·exact ⟨_,rfl⟩
   ·cases hp
  obtain ⟨cb,hcb⟩:=hbool
  have hm:=key c cb hc hcb
  rw [hcb] at hd
  simp only [Option.some.injEq] at hd
  refine fin cb r hd.symm (pickV_sound hcb (fun e=>?_) (fun e=>?_) hp)
  ·subst e;exact evG_sound h hm ha
  ·subst e;exact evG_sound h hm hb
 ·rename_i va hc ha _
  simp only [Option.some.injEq] at hp;subst hp
  have hm:=key _ true hc rfl
  have hd:=hρ _ _ hc
  simp only [SV.den,SB.den,Option.some.injEq] at hd
  exact fin true _ hd.symm (evG_sound h hm ha)
 ·rename_i vb hc hb _
  simp only [Option.some.injEq] at hp;subst hp
  have hm:=key _ false hc rfl
  have hd:=hρ _ _ hc
  simp only [SV.den,SB.den,Option.some.injEq] at hd
  exact fin false _ hd.symm (evG_sound h hm ‹_›)
 ·cases hp
theorem putO_sound {n:Nat} {N:Nums} {f f':Fr} {a:Act} {d:Option Nat} {v:SV} {x:Value} (h:FrOk n N f a) (hv:v.den N=some x) (hp:putO n f d (.val v)=some f'):FrOk n N f' (a.put d x):=by
 cases d with
 | none=>simp only [putO,Option.some.injEq] at hp;subst hp;exact h
 | some d =>
  simp only [putO] at hp
  cases hb:Nat.blt d n with
  | false=>rw [hb] at hp;simp at hp
  | true =>
   rw [hb] at hp
   simp only [cond_true,Option.some.injEq] at hp;subst hp
   exact h.put_val (Nat.le_of_ble_eq_true hb) hv
theorem valQ_sound {P:Program} (hT:TabOk P T) {n:Nat} {N:Nums} {rg:List Rg} {f:Fr} {a:Act} {w:World} (hf:FrOk n N f a) (h:Vis N rg w) {ρ:Operand→Option SV} (hρ:∀ x s,ρ x=some s→s.den N=some (a.eval x)) {o:Oper} {v:SV}
  (hv:valQ T rg f ρ o.op=some v):∃ x,v.den N=some x∧(execOp a.eval o).run P w=.ok (.value x) w:=by
 unfold valQ at hv
 split at hv
 ·rename_i v' hpick
  simp only [Option.some.injEq] at hv;subst hv
  exact pickF_sound hf hρ hpick
 ·exact stepP_sound hT h hρ hv
theorem yielded_at {all:Array Oper} {gi k:Nat} (hd:dstOf all gi=some k) (t:Array Value):yielded all t gi=match t[k]? with | some (.bool b)=>some b | _=>none:=by
 unfold dstOf at hd
 rw [nth_eq] at hd
 unfold yielded
 cases hgi:all[gi]? with
 | none=>rw [Array.getElem?_toList,hgi] at hd;simp at hd
 | some og =>
  rw [Array.getElem?_toList,hgi] at hd
  simp only at hd
  simp only [Option.bind_some,hd]
  cases t[k]? with
  | none=>rfl
  | some v=>cases v<;>rfl
theorem opQ_sound {P:Program} (hT:TabOk P T) {n:Nat} {N:Nums} {rg:List Rg} {f f':Fr} {a:Act} {all:Array Oper} {i:Nat} {o:Oper} {w0:World} (ho:all[i]?=some o) (hq:opQ T n all rg i f=some f') (hf:FrOk n N f a) (h0:Vis N rg w0) :
  ∃ v,((Region.wanted o (yielded all a.tmps)=true∧∀ w,Vis N rg w→(execOp a.eval o).run P w=.ok (.value v) w)∨(Region.wanted o (yielded all a.tmps)=false∧v=undef))∧FrOk n N f' (a.put o.dst v):=by
 unfold opQ at hq
 have ho':nth all.toList i=some o:=by rw [nth_eq];simpa using ho
 simp only [ho'] at hq
 have hρ:∀ x v,ev f x=some v→v.den N=some (a.eval x):=fun x v hx=>ev_sound hf hx
 have uniq:∀ {v:SV} {ρ:Operand→Option SV},(∀ x v,ρ x=some v→v.den N=some (a.eval x))→valQ T rg f ρ o.op=some v→∃ x,v.den N=some x∧∀ w,Vis N rg w→(execOp a.eval o).run P w=.ok (.value x) w:=by
  intro v ρ hρ hv
  obtain ⟨x,h1,_⟩:=valQ_sound hT hf h0 hρ hv
  refine ⟨x,h1,fun w hw=>?_⟩
  obtain ⟨y,h3,h4⟩:=valQ_sound hT hf hw hρ hv
  rw [h1] at h3;cases h3;exact h4
 have plain:plainQ T n rg f o=some f'→Region.wanted o (yielded all a.tmps)=true→∃ v,((Region.wanted o (yielded all a.tmps)=true∧∀ w,Vis N rg w→(execOp a.eval o).run P w=.ok (.value v) w)∨(Region.wanted o (yielded all a.tmps)=false∧v=undef))∧FrOk n N f' (a.put o.dst v):=by
  intro hp hw
  unfold plainQ at hp
  split at hp
  ·rename_i v hv
   obtain ⟨x,h1,h2⟩:=uniq hρ hv
   exact ⟨x,.inl ⟨hw,h2⟩,putO_sound hf h1 hp⟩
  ·cases hp
 have skip:putO n f o.dst (.val (.tup []))=some f'→Region.wanted o (yielded all a.tmps)=false→∃ v,((Region.wanted o (yielded all a.tmps)=true∧∀ w,Vis N rg w→(execOp a.eval o).run P w=.ok (.value v) w)∨(Region.wanted o (yielded all a.tmps)=false∧v=undef))∧FrOk n N f' (a.put o.dst v) :=
  fun hp hw=>⟨undef,.inr ⟨hw,rfl⟩,putO_sound hf (x:=undef) rfl hp⟩
 cases hg:o.guard with
 | none =>
  simp only [hg] at hq
  exact plain hq (by simp [Region.wanted,hg])
 | some gw =>
  obtain ⟨gi,want⟩:=gw
  simp only [hg] at hq
  cases hd:dstOf all gi with
  | none=>simp [hd] at hq
  | some k =>
   simp only [hd] at hq
   have hyk:=yielded_at hd a.tmps
   have hwant:Region.wanted o (yielded all a.tmps)=(yielded all a.tmps gi == some want):=by simp [Region.wanted,hg]
   have maybe:maybeQ T n rg f o k want=some f'→∃ v,((Region.wanted o (yielded all a.tmps)=true∧∀ w,Vis N rg w→(execOp a.eval o).run P w=.ok (.value v) w)∨(Region.wanted o (yielded all a.tmps)=false∧v=undef))∧FrOk n N f' (a.put o.dst v):=by
    intro hp
    unfold maybeQ at hp
    split at hp
    ·rename_i v hv
     split at hp
     ·rename_i d hdst
      cases hdk:Nat.beq d k with
      | true=>rw [hdk] at hp;simp at hp
      | false =>
       rw [hdk] at hp
       simp only [cond_false,putO] at hp
       have hdk':d≠k:=fun e=>by subst e;simp at hdk
       cases hb:Nat.blt d n with
       | false=>rw [hb] at hp;simp at hp
       | true =>
        rw [hb] at hp
        simp only [cond_true,Option.some.injEq] at hp;subst hp
        have hdn:d<n:=Nat.le_of_ble_eq_true hb
        by_cases hk':a.tmps[k]?=some (.bool want)
        ·obtain ⟨x,h1,h2⟩:=uniq (fun x v hx=>evG_sound hf hk' hx) hv
         refine ⟨x,.inl ⟨by rw [hwant,hyk,hk'];simp,h2⟩,?_⟩
         rw [hdst]
         have e1:(a.put (some d) x).tmps[k]?=a.tmps[k]?:=by simp only [Act.put];rw [Array.getElem?_setIfInBounds_ne hdk']
         exact hf.put hdn ⟨fun _=>⟨x,h1,by simp [Act.put,hf.size,hdn]⟩,fun hn=>absurd (by rw [e1];exact hk') hn⟩
        ·refine ⟨undef,.inr ⟨?_,rfl⟩,?_⟩
         ·rw [hwant,hyk]
          cases ht:a.tmps[k]? with
          | none=>rfl
          | some u =>
           cases u<;>simp
           rename_i b
           intro e;subst e;exact hk' ht
         ·rw [hdst]
          have e1:(a.put (some d) undef).tmps[k]?=a.tmps[k]?:=by simp only [Act.put];rw [Array.getElem?_setIfInBounds_ne hdk']
          exact hf.put hdn ⟨fun e=>absurd (by rw [←e1];exact e) hk',fun _=>by simp [Act.put,hf.size,hdn]⟩
     ·cases hp
    ·cases hp
   have hok:=hf.ok k
   split at hq
   ·rename_i b hl
    rw [hl] at hok
    obtain ⟨x,hx,hm⟩:=hok
    simp only [SV.den,SB.den,Option.some.injEq] at hx;subst hx
    cases hbw:(b == want) with
    | true =>
     rw [hbw] at hq
     exact plain hq (by rw [hwant,hyk,hm];simpa using hbw)
    | false =>
     rw [hbw] at hq
     exact skip hq (by rw [hwant,hyk,hm];simpa using hbw)
   ·exact maybe hq
   ·rename_i v _ _ hl
    rw [hl] at hok
    obtain ⟨x,hx,hm⟩:=hok
    cases hu:isU v with
    | false=>rw [hu] at hq;simp at hq
    | true =>
     rw [hu] at hq
     have:v=.tup []:=by unfold isU at hu;split at hu<;>first | rfl | simp at hu
     subst this
     simp only [SV.den,SV.denL,Option.some.injEq] at hx;subst hx
     exact skip hq (by rw [hwant,hyk,hm];rfl)
   ·exact maybe hq
   ·cases hq
theorem sure_sound {n:Nat} {N:Nums} {f:Fr} {a:Act} {all:Array Oper} {o:Oper} (hf:FrOk n N f a) (h:sure all f o=true):Region.wanted o (yielded all a.tmps)=true:=by
 unfold sure at h
 split at h
 ·rename_i hg;simp [Region.wanted,hg]
 ·rename_i gi want hg
  split at h
  ·cases h
  ·rename_i k hd
   have hok:=hf.ok k
   split at h
   ·rename_i b hl
    rw [hl] at hok
    obtain ⟨x,hx,hm⟩:=hok
    simp only [SV.den,SB.den,Option.some.injEq] at hx;subst hx
    have:Region.wanted o (yielded all a.tmps)=(yielded all a.tmps gi == some want):=by simp [Region.wanted,hg]
    rw [this,yielded_at hd,hm]
    simpa using h
   ·cases h
theorem opE_sound {E:Env} (hT:TabOk E.P T) {all:Array Oper} {i:Nat} {o:Oper} {s s':St} (ho:all[i]?=some o) (hs:opE T E.n all i s=some s') {N:Nums} {a:Act} {w:World} (hf:FrOk E.n N s.fr a) (h:Sat E N s.rg w) :
  Region.wanted o (yielded all a.tmps)=true∧∃ N' x w',N.le N'∧Eng.Yields E.P a.eval o w x w'∧FrOk E.n N' s'.fr (a.put o.dst x)∧Sat E N' s'.rg w':=by
 unfold opE at hs
 have ho':nth all.toList i=some o:=by rw [nth_eq];simpa using ho
 simp only [ho'] at hs
 cases hsu:sure all s.fr o with
 | false=>rw [hsu] at hs;simp at hs
 | true =>
  rw [hsu] at hs
  simp only [cond_true] at hs
  refine ⟨sure_sound hf hsu,?_⟩
  split at hs
  ·rename_i v rg hv
   split at hs
   ·rename_i f hp
    simp only [Option.some.injEq] at hs;subst hs
    obtain ⟨N',x,w',h1,h2,h3,h4⟩:=stepE_sound hT h (fun x v hx=>ev_sound hf hx) hv
    exact ⟨N',x,w',h1,h3,putO_sound (hf.mono h1) h2 hp,h4⟩
   ·cases hs
  ·cases hs
theorem wp_of_yields {P:Program} {o:Oper} {a:Act} {w w':World} {x:Value} (hy:Eng.Yields P a.eval o w x w') {K:Act→World→Prop} {Q:Exit→Act→World→Prop} (h:K (a.put o.dst x) w'):o.wp P a w K Q:=by
 unfold Oper.wp
 rcases hy with hy | ⟨hy,rfl⟩
 ·rw [hy];exact h
 ·rw [hy];exact h
theorem opStep_sound (hT:TabOk E.P T) {all:Array Oper} {i:Nat} {s s':St} (hs:opStep T E.n all i s=some s') {N:Nums} {a:Act} {w:World} (hf:FrOk E.n N s.fr a) (h:Sat E.toEnv N s.rg w)
  {Q:Exit→Act→World→Prop} {rest:List Nat} (hk:∀ N' a' w',N.le N'→FrOk E.n N' s'.fr a'→Sat E.toEnv N' s'.rg w'→wpOps E.P all Q rest a' w'):wpOps E.P all Q (i::rest) a w:=by
 unfold opStep at hs
 cases ho:all[i]? with
 | none =>
  have ho':nth all.toList i=none:=by rw [nth_eq];simpa using ho
  unfold opQ opE at hs
  simp [ho'] at hs
 | some o =>
  split at hs
  ·rename_i f hq
   simp only [Option.some.injEq] at hs;subst hs
   obtain ⟨v,hv,hfr⟩:=opQ_sound hT ho hq hf h.vis
   simp only [wpOps,ho]
   rcases hv with ⟨hw,hrun⟩ | ⟨hw,rfl⟩
   ·rw [hw,if_pos rfl]
    exact .inl (wp_of_yields (.inl (hrun w h.vis)) (hk N _ w (Nums.le.refl N) hfr h))
   ·rw [hw]
    exact hk N _ w (Nums.le.refl N) hfr h
  ·obtain ⟨hw,N',x,w',h1,h2,h3,h4⟩:=opE_sound hT ho hs hf h
   simp only [wpOps,ho]
   rw [hw,if_pos rfl]
   exact .inl (wp_of_yields h2 (hk N' _ w' h1 h3 h4))
theorem memN_mask {ks:List Nat}:∀ (rg:List Rg) (i r:Nat),(maskRg ks rg i)[r]?=(rg[r]?).map (fun g=>bif memN ks (i+r) then ⟨false,[],none⟩ else g)
 | [],i,r=>by simp [maskRg]
 | g::rg,i,0=>by simp [maskRg]
 | g::rg,i,r+1=>by
  simp only [maskRg,List.getElem?_cons_succ]
  rw [memN_mask rg (i+1) r,show i+1+r=i+(r+1) by omega]
theorem maskRg_length {ks:List Nat}:∀ (rg:List Rg) (i:Nat),(maskRg ks rg i).length=rg.length
 | [],_=>rfl
 | g::rg,i=>by simp [maskRg,maskRg_length rg (i+1)]
theorem Vis.mask {N:Nums} {rg:List Rg} {w:World} (h:Vis N rg w) (ks:List Nat):Vis N (maskRg ks rg 0) w:=by
 refine ⟨by rw [maskRg_length];exact h.len,fun r g p hg hp j c hc=>?_,fun r g p hg hp ho=>?_⟩
 ·rw [memN_mask] at hg
  obtain ⟨g0,h1,h2⟩:=Option.map_eq_some_iff.1 hg
  cases hm:memN ks (0+r) with
  | true=>rw [hm] at h2;simp at h2;subst h2;simp at hc
  | false=>rw [hm] at h2;simp at h2;subst h2;exact h.cell r g0 p h1 hp j c hc
 ·rw [memN_mask] at hg
  obtain ⟨g0,h1,h2⟩:=Option.map_eq_some_iff.1 hg
  cases hm:memN ks (0+r) with
  | true=>rw [hm] at h2;simp at h2;subst h2;simp
  | false=>rw [hm] at h2;simp at h2;subst h2;exact h.ext r g0 p h1 hp ho
theorem Vis.mono {N N':Nums} {rg:List Rg} {w:World} (h:Vis N rg w) (hN:N.le N'):Vis N' rg w:=by
 have hl:rg.length≤N'.length:=by
  rcases Nat.lt_or_ge N'.length rg.length with hlt | hge
  ·have h1:N'.length<N.length:=Nat.lt_of_lt_of_le hlt h.len
   have:=hN N'.length _ (List.getElem?_eq_getElem h1)
   simp at this
  ·exact hge
 refine ⟨hl,fun r g p hg hp j c hc=>?_,fun r g p hg hp ho=>?_⟩
 ·have hr:r<N.length:=Nat.lt_of_lt_of_le (List.getElem?_eq_some_iff.1 hg).1 h.len
  have:=hN r _ (List.getElem?_eq_getElem hr)
  rw [this] at hp
  obtain ⟨v,h1,h2⟩:=h.cell r g p hg (by rw [List.getElem?_eq_getElem hr];exact hp) j c hc
  exact ⟨v,SV.den_mono hN c h1,h2⟩
 ·have hr:r<N.length:=Nat.lt_of_lt_of_le (List.getElem?_eq_some_iff.1 hg).1 h.len
  have:=hN r _ (List.getElem?_eq_getElem hr)
  rw [this] at hp
  exact h.ext r g p hg (by rw [List.getElem?_eq_getElem hr];exact hp) ho
def Agree (ks:List Nat) (rg rg':List Rg):Prop:=∀ (r:Nat) (g:Rg),rg[r]?=some g→memN ks r=false→rg'[r]?=some g
theorem vis_of_agree {E:Env} {ks:List Nat} {rg rg':List Rg} {N N':Nums} {w w':World} (h0:Vis N (maskRg ks rg 0) w) (hN:N.le N') (ha:Agree ks rg rg') (hS:Sat E N' rg' w'):Vis N (maskRg ks rg 0) w':=by
 refine ⟨h0.len,fun r g p hg hp j c hc=>?_,h0.ext⟩
 obtain ⟨v,h1,_⟩:=h0.cell r g p hg hp j c hc
 refine ⟨v,h1,?_⟩
 rw [memN_mask] at hg
 obtain ⟨g0,k1,k2⟩:=Option.map_eq_some_iff.1 hg
 cases hm:memN ks (0+r) with
 | true=>rw [hm] at k2;simp at k2;subst k2;simp at hc
 | false =>
  rw [hm] at k2;simp at k2;subst k2
  obtain ⟨u,q1,q2⟩:=hS.cell r g0 p (ha r g0 k1 (by simpa using hm)) (hN r p hp) j c hc
  rw [SV.den_mono hN c h1] at q1;cases q1
  exact q2
theorem stepE_agree {ks:List Nat} {rg:List Rg} {all:Array Oper} {i:Nat} {s s':St} {n:Nat} (ha:Agree ks rg s.rg) (hl:rg.length≤s.rg.length) (hk:(match stR s.fr all i with | some k=>memN ks k | none=>true)=true) (he:opE T n all i s=some s') :
  Agree ks rg s'.rg∧rg.length≤s'.rg.length:=by
 unfold opE at he
 split at he
 ·cases he
 ·rename_i o ho
  cases hsu:sure all s.fr o with
  | false=>rw [hsu] at he;simp at he
  | true =>
   rw [hsu] at he
   simp only [cond_true] at he
   split at he
   ·rename_i v rg' hv
    split at he
    ·rename_i f' hp
     simp only [Option.some.injEq] at he;subst he
     obtain ⟨h1,h2⟩:=stepE_keeps hv
     refine ⟨fun r g0 hg hm=>h1 r g0 (ha r g0 hg hm) (fun e=>?_),Nat.le_trans hl h2⟩
     have hst:stR s.fr all i=some r:=by simp only [stR,ho,e]
     rw [hst] at hk
     simp only at hk
     rw [hk] at hm;cases hm
    ·cases he
   ·cases he
def PanicOk (Q:Exit→Act→World→Prop):Prop:=∀ c a d v w,Q (.panic c) (Act.put a d v) w→Q (.panic c) a w
theorem PanicOk.sem {P:Program} {B:SchT} {Q:Exit→Act→World→Prop} (h:PanicOk Q):∀ k,PanicOk (sem P B k Q)
 | []=>h
 | .code _::k=>fun c a d v w hq=>PanicOk.sem h k c a d v w hq
 | .blk _::k=>fun c a d v w hq=>PanicOk.sem h k c a d v w hq
 | .ops _ _::k=>fun c a d v w hq=>PanicOk.sem h k c a d v w hq
 | .lp _::k=>fun c a d v w hq=>PanicOk.sem h k c a d v w hq
 | .res _::k=>fun c a d v w hq=>PanicOk.sem h k c a d v w hq
 | .inl _::k=>fun c a d v w hq=>PanicOk.sem h k c a d v w hq
theorem adv_sound (hT:TabOk E.P T) {rs:List ResultVar} {t t':List It} {s s':St} (h:adv T E.n rs t s=some (t',s')) (hx:X E t' s'):X E t s:=by
 intro N a w hN hf hS
 unfold adv at h
 split at h
 ·cases h
 ·cases h
 ·cases h
 ·cases h
 ·simp only [Option.some.injEq,Prod.mk.injEq] at h;obtain ⟨rfl,rfl⟩:=h
  exact hx N a w hN hf hS
 ·simp only [Option.some.injEq,Prod.mk.injEq] at h;obtain ⟨rfl,rfl⟩:=h
  exact hx N a w hN hf hS
 ·rename_i all i rest k
  split at h
  ·rename_i s1 hs
   simp only [Option.some.injEq,Prod.mk.injEq] at h;obtain ⟨rfl,rfl⟩:=h
   show wpOps _ _ _ _ _ _
   exact opStep_sound hT hs hf hS (fun N' a' w' hN' hf' hS'=>hx N' a' w' (hN.trans hN') hf' hS')
  ·cases h
 ·rename_i c k
  show _→Code.wp _ _ _ _ _
  intro hreg
  split at h
  ·simp only [Option.some.injEq,Prod.mk.injEq] at h;obtain ⟨rfl,rfl⟩:=h
   exact wp_skip (hx N a w hN hf hS)
  ·simp only [Option.some.injEq,Prod.mk.injEq] at h;obtain ⟨rfl,rfl⟩:=h
   exact wp_label (hx N a w hN hf hS)
  ·simp only [Option.some.injEq,Prod.mk.injEq] at h;obtain ⟨rfl,rfl⟩:=h
   simp only [regsB,Bool.and_eq_true] at hreg
   exact wp_seq (wp_mono (hx N a w hN hf hS hreg.1) (fun e a w hq=>by cases e<;>first | exact hq hreg.2 | exact hq))
  ·simp only [Option.some.injEq,Prod.mk.injEq] at h;obtain ⟨rfl,rfl⟩:=h
   exact wp_block (hx N a w hN hf hS hreg)
  ·rename_i id ops d
   split at h
   ·simp only [Option.some.injEq,Prod.mk.injEq] at h;obtain ⟨rfl,rfl⟩:=h
    exact wp_region (hx N a w hN hf hS)
   ·cases h
  ·rename_i id
   split at h
   ·rename_i k' hu
    simp only [Option.some.injEq,Prod.mk.injEq] at h;obtain ⟨rfl,rfl⟩:=h
    exact wp_exit (unwind_sound k hu (hx N a w hN hf hS))
   ·cases h
  ·rename_i c x y
   simp only [regsB,Bool.and_eq_true] at hreg
   split at h
   ·rename_i b hc
    simp only [Option.some.injEq,Prod.mk.injEq] at h;obtain ⟨rfl,rfl⟩:=h
    have:=ev_sound hf hc
    simp only [SV.den,SB.den,Option.some.injEq] at this
    refine wp_cond (t:=b) this.symm ?_
    have:=hx N a w hN hf hS
    cases b
    ·exact this hreg.2
    ·exact this hreg.1
   ·cases h
  ·split at h
   ·simp only [Option.some.injEq,Prod.mk.injEq] at h;obtain ⟨rfl,rfl⟩:=h
    exact wp_ret (hx N a w hN hf hS)
   ·cases h
  ·cases h
end
def argFr:List SV→Nat→Fr
 | [],_=>[]
 | s::r,i=>(i,.val s)::argFr r (i+1)
theorem look_argFr:∀ (ss:List SV) (i t:Nat),look (argFr ss i) t=if i≤t then (match ss[t-i]? with | some s=>.val s | none=>.dead) else .dead
 | [],i,t=>by simp [argFr,look]
 | s::r,i,t=>by
  simp only [argFr,look]
  by_cases h:i=t
  ·subst h;simp
  ·simp only [beq_ne h,cond_false]
   rw [look_argFr r (i+1) t]
   by_cases hle:i+1≤t
   ·rw [if_pos hle,if_pos (by omega)]
    rw [show t-i=(t-(i+1))+1 by omega]
    simp
   ·rw [if_neg hle,if_neg (by omega)]
theorem X.enter {P:Program} {f:FuncId} {fn:Func} {c:Code} {args:Array Value} {w:World} {R:Ending→World→Prop} (E:Ctx) (hf:P.funcs[f]?=some fn) (hb:fn.body=some c)
  (hP:E.P=P) (hQ:E.Q=bodyPost P fn R) (hn:E.n=fn.ntmps) (hreg:regsB E.B c=true) (hle:args.size≤fn.ntmps) {ss:List SV} {rg:List Rg} (ha:SV.denL E.N0 ss=some args.toList) (hS:Sat E.toEnv E.N0 rg w)
  (h:X E [.code c] ⟨argFr ss 0,rg⟩):Calls P f args w R:=by
 subst hP
 refine calls_of_wp hf hb ?_
 rw [←hQ]
 refine h E.N0 _ w (Nums.le.refl _) ⟨?_,rfl,fun t=>?_⟩ hS hreg
 ·simp [hn];omega
 ·rw [look_argFr]
  simp only [Nat.zero_le,if_true,Nat.sub_zero]
  cases hs:ss[t]? with
  | none=>trivial
  | some s =>
   obtain ⟨h1,h2⟩:=SV.denL_get _ ha
   obtain ⟨v,hv,hl⟩:=h2 t s hs
   refine ⟨v,hv,?_⟩
   have:t<args.size:=by have:=(List.getElem?_eq_some_iff.1 hl).1;simpa using this
   rw [Array.getElem?_append_left this]
   simpa using hl
theorem sem_ret {P:Program} {B:SchT} {Q:Exit→Act→World→Prop} {a:Act} {w:World}:∀ k,Q .ret a w→sem P B k Q .ret a w
 | [],h=>h
 | .code _::k,h=>sem_ret k h
 | .blk _::k,h=>sem_ret k h
 | .ops _ _::k,h=>sem_ret k h
 | .lp _::k,h=>sem_ret k h
 | .res _::k,h=>sem_ret k h
 | .inl _::k,h=>sem_ret k h
def resV (l:List SV):SV :=
 match l with
 | [v]=>v
 | l=>.tup l
def resOne (tmps:Array Value):ResultVar→Sem Value
 | .tmp t=>pure (tmps.getD t undef)
 | .cell x t=>do loadVar t (←asAddr (tmps.getD x undef))
theorem results_eq (fn:Func) (tmps:Array Value):results fn tmps=(do let vs ←fn.results.mapM (resOne tmps);pure (if h:vs.size=1 then vs[0] else .tuple vs)):=rfl
theorem run_one {P:Program} {w:World} {T:Tab} {E:Env} {N:Nums} {s:St} {a:Act} {n:Nat} (hE:E.P=P) (hT:TabOk P T) (hf:FrOk n N s.fr a) (hS:Sat E N s.rg w):∀ (rs:List ResultVar) {l:List SV},resL T s rs=some l →
  ∃ vs,SV.denL N l=some vs∧(rs.mapM (resOne a.tmps)).run P w=.ok vs w
 | [],l,h=>by simp only [resL,Option.some.injEq] at h;subst h;exact ⟨[],rfl,by simp⟩
 | .tmp t::r,l,h=>by
  simp only [resL] at h
  split at h
  ·rename_i v q hv hq
   simp only [Option.some.injEq] at h;subst h
   obtain ⟨vs,h1,h2⟩:=run_one hE hT hf hS r hq
   have:=ev_sound hf hv
   exact ⟨a.eval (.tmp t)::vs,by simp [SV.denL,this,h1],by simp [List.mapM_cons,resOne,h2,Act.eval,Result.andThen]⟩
  ·cases h
 | .cell x t::r,l,h=>by
  simp only [resL] at h
  split at h
  ·rename_i y hy
   split at h
   ·rename_i v q hv hq
    simp only [Option.some.injEq] at h;subst h
    obtain ⟨vs,h1,h2⟩:=run_one hE hT hf hS r hq
    have hy':=ev_sound hf hy
    subst hE
    obtain ⟨u,k1,k2⟩:=loadV_sound hT.ok hS.vis hy' hv
    -- what is loaded lies at an address
    have:∃ p,a.eval (.tmp x)=.pointer (some p):=by
     cases y<;>simp only [loadV] at hv<;>try (simp at hv;done)
     rename_i r0 c0
     simp only [SV.den] at hy'
     split at hy'
     ·simp only [Option.some.injEq] at hy';exact ⟨_,hy'.symm⟩
     ·cases hy'
    obtain ⟨p,hp⟩:=this
    rw [hp] at k2
    refine ⟨u::vs,by simp [SV.denL,k1,h1],?_⟩
    have k3:(loadVar t p).run E.P w=.ok u w:=by simpa [Instr.loadAt,Instr.sureAddr] using k2
    have hp':a.tmps.getD x undef=.pointer (some p):=hp
    simp only [List.mapM_cons,resOne,Sem.run_bind,hp',asAddr,Sem.run_pure,Result.andThen,k3,h2]
   ·cases h
  ·cases h
theorem results_run {P:Program} {w:World} {T:Tab} {E:Env} {N:Nums} {s:St} {a:Act} {n:Nat} (hE:E.P=P) (hT:TabOk P T) (hf:FrOk n N s.fr a) (hS:Sat E N s.rg w) {fn:Func} {l:List SV} (h:resL T s fn.results.toList=some l) :
  ∃ v,(resV l).den N=some v∧(results fn a.tmps).run P w=.ok v w:=by
 obtain ⟨vs,h1,h2⟩:=run_one hE hT hf hS _ h
 have h3:(results fn a.tmps).run P w=.ok (if h:vs.toArray.size=1 then vs.toArray[0] else .tuple vs.toArray) w:=by
  rw [results_eq,Sem.run_bind,Array.mapM_eq_mapM_toList,Sem.run_map,h2]
  rfl
 refine ⟨_,?_,h3⟩
 obtain ⟨k1,_⟩:=SV.denL_get _ h1
 match l,vs,k1,h1 with
 | [],[],_,h1=>simp [resV,SV.den,SV.denL]
 | [x],[y],_,h1 =>
  simp only [SV.denL] at h1
  cases hx:x.den N with
  | none=>simp [hx] at h1
  | some z=>simp [hx] at h1;subst h1;simp [resV,hx]
 | x::x'::l,y::y'::vs,_,h1=>simp [resV,SV.den,h1]
section
variable {E:Ctx} {T:Tab}
theorem X.fin (hT:TabOk E.P T) {fn:Func} {R:Ending→World→Prop} (hQ:E.Q=bodyPost E.P fn R) {s:St} {l:List SV} (hr:resL T s fn.results.toList=some l)
  (h:∀ (N:Nums) (w:World) (v:Value),E.N0.le N→Sat E.toEnv N s.rg w→(resV l).den N=some v→R (.returned v) w):X E [] s:=by
 intro N a w hN hf hS
 obtain ⟨v,h1,h2⟩:=results_run rfl hT hf hS hr
 show E.Q .normal a w
 rw [hQ]
 exact ⟨hf.defers,v,h2,h N w v hN hS h1⟩
theorem X.ret (hT:TabOk E.P T) {fn:Func} {R:Ending→World→Prop} (hQ:E.Q=bodyPost E.P fn R) {k:List It} {s:St} {l:List SV} (hr:resL T s fn.results.toList=some l)
  (h:∀ (N:Nums) (w:World) (v:Value),E.N0.le N→Sat E.toEnv N s.rg w→(resV l).den N=some v→R (.returned v) w):X E (.res l::k) s:=by
 intro N a w hN hf hS
 obtain ⟨v,h1,h2⟩:=results_run rfl hT hf hS hr
 refine sem_ret k ?_
 rw [hQ]
 exact ⟨hf.defers,v,h2,h N w v hN hS h1⟩
theorem X.cond {c:Operand} {x y:Code} {k:List It} {s:St} {b:SB} (hc:ev s.fr c=some (.bool b)) (ht:b.T→X E (.code x::k) s) (hf:b.F→X E (.code y::k) s) :
  X E (.code (.cond c x y)::k) s:=by
 intro N a w hN hfr hS
 have:=ev_sound hfr hc
 simp only [SV.den,Option.some.injEq] at this
 show _→Code.wp _ _ _ _ _
 intro hreg
 simp only [regsB,Bool.and_eq_true] at hreg
 refine wp_cond (t:=b.den) this.symm ?_
 cases hb:b.den with
 | true=>exact ht (b.TF.1.1 hb) N a w hN hfr hS hreg.1
 | false=>exact hf (b.TF.2.1 hb) N a w hN hfr hS hreg.2
theorem X.oper {all:Array Oper} {i:Nat} {rest:List Nat} {k:List It} {s:St} {o:Oper} (ho:nth all.toList i=some o) (hg:o.guard=none)
  (h:∀ (N:Nums) (a:Act) (w:World),E.N0.le N→FrOk E.n N s.fr a→Sat E.toEnv N s.rg w→o.wp E.P a w (fun a' w'=>sem E.P E.B (.ops all rest::k) E.Q .normal a' w') (sem E.P E.B k E.Q)) :
  X E (.ops all (i::rest)::k) s:=by
 intro N a w hN hfr hS
 show wpOps _ _ _ _ _ _
 have ho':all[i]?=some o:=by rw [nth_eq] at ho;simpa using ho
 simp only [wpOps,ho',Region.wanted,hg,if_true]
 exact .inl (h N a w hN hfr hS)
theorem X.value {all:Array Oper} {i:Nat} {rest:List Nat} {k:List It} {s:St} {o:Oper} (ho:nth all.toList i=some o) (hg:o.guard=none) (r:SV) {f:Fr} (hp:putO E.n s.fr o.dst (.val r)=some f)
  (h:∀ (N:Nums) (a:Act) (w:World),E.N0.le N→FrOk E.n N s.fr a→Sat E.toEnv N s.rg w→∃ x,r.den N=some x∧(execOp a.eval o).run E.P w=.ok (.value x) w)
  (hk:X E (.ops all rest::k) ⟨f,s.rg⟩):X E (.ops all (i::rest)::k) s:=by
 refine X.oper ho hg fun N a w hN hfr hS=>?_
 obtain ⟨x,h1,h2⟩:=h N a w hN hfr hS
 unfold Oper.wp
 rw [h2]
 exact hk N _ w hN (putO_sound hfr h1 hp) hS
def evL (f:Fr):List Operand→Option (List SV)
 | []=>some []
 | x::r=>match ev f x,evL f r with
  | some v,some l=>some (v::l)
  | _,_=>none
theorem evL_sound {n:Nat} {N:Nums} {f:Fr} {a:Act} (h:FrOk n N f a):∀ (xs:List Operand) {l:List SV},evL f xs=some l→SV.denL N l=some (xs.map a.eval)
 | [],l,hl=>by simp only [evL,Option.some.injEq] at hl;subst hl;rfl
 | x::xs,l,hl=>by
  simp only [evL] at hl
  split at hl
  ·rename_i v q hv hq
   simp only [Option.some.injEq] at hl;subst hl
   simp [SV.denL,ev_sound h hv,evL_sound h xs hq]
  ·cases hl
def Goes (E:Ctx) (N:Nums) (k:List It) (f:Fr) (d:Option Nat) (v:Value) (w':World):Prop :=
 ∃ (E':Ctx) (N':Nums) (r:SV) (rg':List Rg) (f':Fr),E'.P=E.P∧E'.n=E.n∧E'.Q=E.Q∧E'.B=E.B∧N.le N'∧E'.N0.le N'∧Sat E'.toEnv N' rg' w'∧r.den N'=some v∧putO E.n f d (.val r)=some f'∧X E' k ⟨f',rg'⟩
theorem X.call {all:Array Oper} {i:Nat} {rest:List Nat} {k:List It} {s:St} {o:Oper} {g:FuncId} {xs:Array Operand} {ts:Array TypeId} {l:List SV} (ho:nth all.toList i=some o) (hg:o.guard=none)
  (hop:o.op=.call { callee:=.value (.func g),args:=xs,argTypes:=ts }) (hl:evL s.fr xs.toList=some l) (hb:∀ args w,(callFunc g args).run E.P w=.ok (.enter g args) w)
  (h:∀ (N:Nums) (w:World) (args:List Value),E.N0.le N→Sat E.toEnv N s.rg w→SV.denL N l=some args →
   Calls E.P g args.toArray w fun e w'=>∃ v,e=.returned v∧Goes E N (.ops all rest::k) s.fr o.dst v w'):X E (.ops all (i::rest)::k) s:=by
 refine X.oper ho hg fun N a w hN hfr hS=>?_
 have hargs:=evL_sound hfr _ hl
 have hc:=h N w _ hN hS hargs
 have hrun:(execOp a.eval o).run E.P w=.ok (.enter g (xs.toList.map a.eval).toArray) w:=by
  simp only [execOp,hop,resolve,Act.eval,Deferred.ofValue,Sem.run_bind,Sem.run_pure,Result.andThen,invoke]
  rw [hb]
  congr 2
  apply Array.ext'
  simp
 unfold Oper.wp
 rw [hrun]
 refine Calls.mono hc fun e w' ⟨v,he,E',N',r,rg',f',h1,h2,h3,hB,h4,h5,h6,h7,h8,h9⟩=>?_
 subst he
 have:=h9 N' (a.put o.dst v) w' h5 (by rw [h2];exact putO_sound (hfr.mono h4) h7 h8) h6
 rw [h1,h3,hB] at this
 exact this
theorem X.back {q:Act→World→Prop} {k:List It} {s:St} (h:∀ (N:Nums) (a:Act) (w:World),E.N0.le N→FrOk E.n N s.fr a→Sat E.toEnv N s.rg w→q a w):X E (.lp q::k) s:=h
theorem least (p:Nat→Prop) (h:∃ n,p n):∃ n,p n∧∀ m,p m→n≤m:=by
 obtain ⟨n,hn⟩:=h
 induction n using Nat.strongRecOn with
 | _ n ih =>
  by_cases hm:∃ m,m<n∧p m
  ·obtain ⟨m,h1,h2⟩:=hm;exact ih m h1 h2
  ·exact ⟨n,hn,fun m h=>Nat.le_of_not_lt fun hlt=>hm ⟨m,hlt,h⟩⟩
theorem wp_loop_ghost {P:Program} {Q:Exit→Act→World→Prop} {a:Act} {w:World} {c:Code} {ι:Type} (I:ι→Act→World→Prop) (μ:ι→Nat) (i0:ι) (h0:I i0 a w)
  (round:∀ i a w,I i a w→c.wp P (Exit.then (fun a' w'=>∃ i',μ i'<μ i∧I i' a' w') Q) a w):(Code.loop c).wp P Q a w:=by
 classical
 refine wp_loop (fun a w=>∃ i,I i a w) (fun a w=>if h:∃ n,∃ i,I i a w∧μ i=n then Classical.choose (least _ h) else 0) ⟨i0,h0⟩ fun a w ⟨i,hi⟩=>?_
 have hex:∃ n,∃ i,I i a w∧μ i=n:=⟨_,i,hi,rfl⟩
 obtain ⟨⟨j,hj,hμ⟩,_⟩:=Classical.choose_spec (least _ hex)
 refine wp_mono (round j a w hj) fun e a' w' hq=>?_
 cases e<;>simp only [Exit.then] at hq ⊢<;>try exact hq
 obtain ⟨i',hlt,hi'⟩:=hq
 refine ⟨⟨i',hi'⟩,?_⟩
 have hex':∃ n,∃ i,I i a' w'∧μ i=n:=⟨_,i',hi',rfl⟩
 rw [dif_pos hex',dif_pos hex]
 rw [←hμ]
 exact Nat.lt_of_le_of_lt ((Classical.choose_spec (least _ hex')).2 _ ⟨i',hi',rfl⟩) hlt
def At (E:Ctx) (s:St) (a:Act) (w:World):Prop:=∃ N,E.N0.le N∧FrOk E.n N s.fr a∧Sat E.toEnv N s.rg w
theorem X.loop {ι:Type} (En:ι→Ctx) (S:ι→St) (μ:ι→Nat) {c:Code} {k:List It} {s:St} (hE:∀ i,(En i).P=E.P∧(En i).n=E.n∧(En i).Q=E.Q∧(En i).B=E.B)
  (h0:∀ (N:Nums) (a:Act) (w:World),E.N0.le N→FrOk E.n N s.fr a→Sat E.toEnv N s.rg w→∃ i,At (En i) (S i) a w)
  (round:∀ i (q:Act→World→Prop),(∀ i' a w,μ i'<μ i→At (En i') (S i') a w→q a w)→X (En i) (.code c::.lp q::k) (S i)):X E (.code (.loop c)::k) s:=by
 intro N a w hN hfr hS
 show _→Code.wp _ _ _ _ _
 intro hreg
 obtain ⟨i0,h0⟩:=h0 N a w hN hfr hS
 refine wp_loop_ghost (fun i a w=>At (En i) (S i) a w) μ i0 h0 fun i a w ⟨N',h1,h2,h3⟩=>?_
 have:=round i (fun a' w'=>∃ i',μ i'<μ i∧At (En i') (S i') a' w') (fun i' a w hlt h=>⟨i',hlt,h⟩) N' a w h1 h2 h3
 obtain ⟨e1,e2,e3,e4⟩:=hE i
 rw [e1,e3,e4] at this
 exact this hreg
end
def InR (N:Nums) (rg:List Rg) (k o:Nat):Prop :=
 ∃ (r:Nat) (g:Rg) (p:Num),rg[r]?=some g∧N[r]?=some p∧g.own=true∧k=p.b∧p.o≤o∧o<p.o+p.x
open Classical in
noncomputable def elsewhere (N:Nums) (rg:List Rg) (w:World):Nat→Nat→Option Value :=
 fun k o=>if InR N rg k o then none else w.cell? ⟨k,o,none⟩
@[reducible] def mkE (P:Program) (fn:Func) (R:Ending→World→Prop) (W:World) (O:Nat→Nat→Prop) (im:Nat→Nat→Option Value) (D:Nat→Nat→Prop) (Rr:World→Prop) (N:Nums) (B:SchT):Ctx :=
 { P,n:=fn.ntmps,Q:=bodyPost P fn R,W,O,im,D,R:=Rr,N0:=N,B }
@[reducible] noncomputable def std (P:Program) (fn:Func) (R:Ending→World→Prop) (w:World) (N:Nums) (rg:List Rg) (B:SchT):Ctx :=
 mkE P fn R w (InR N rg) (elsewhere N rg w) (fun _ _=>False) (fun _=>True) N B
theorem Sat.std {P:Program} {fn:Func} {R:Ending→World→Prop} {w:World} {N:Nums} {rg:List Rg} {B:SchT} (len:N.length=rg.length) (lt:∀ (r:Nat) (p:Num),N[r]?=some p→p.b<w.heap.size)
  (cell:∀ (r:Nat) (g:Rg) (p:Num),rg[r]?=some g→N[r]?=some p→∀ (j:Nat) (c:SV),g.cells[j]?=some c→∃ v,c.den N=some v∧w.cell? ⟨p.b,p.o+j,none⟩=some v)
  (ext:∀ (r:Nat) (g:Rg) (p:Num),rg[r]?=some g→N[r]?=some p→g.own=true→g.cells.length≤p.x)
  (room:∀ (r:Nat) (g:Rg) (p:Num),rg[r]?=some g→N[r]?=some p→g.own=true→∀ j,j<p.x→(w.cell? ⟨p.b,p.o+j,none⟩).isSome=true∧w.frozen? ⟨p.b,p.o+j,none⟩=false)
  (disj:∀ (r r':Nat) (g g':Rg) (p p':Num),rg[r]?=some g→N[r]?=some p→rg[r']?=some g'→N[r']?=some p'→g.own=true→r≠r' →
   ∀ j,j<g'.wid p'→p'.b=p.b→p'.o+j<p.o∨p.o+p.x≤p'.o+j)
  (noob:∀ (r:Nat) (g:Rg),rg[r]?=some g→g.ob=none):Sat (Eng.std P fn R w N rg B).toEnv N rg w:=by
 refine ⟨len,lt,cell,ext,room,disj,fun r g p ob hg _ ho=>?_,fun r r' g g' p p' hg _ _ _ ho=>?_,fun k o v h=>?_,fun r g p hg hp ho j hj=>?_,fun _ _ _ _ _ _ _ _ h=>h,fun _ _ h=>h.elim,fun _ _ _ _ _=>trivial,trivial,Chg.refl _ _,fun r g p hg hp ho=>.inr fun j hj=>?_⟩
 ·rw [noob r g hg] at ho;cases ho
 ·rw [noob r g hg] at ho;cases ho
 ·simp only [elsewhere] at h
  split at h
  ·cases h
  ·exact h
 ·simp only [elsewhere]
  rw [if_pos ⟨r,g,p,hg,hp,ho,rfl,by omega,by omega⟩]
 ·exact ⟨r,g,p,hg,hp,ho,rfl,by omega,by omega⟩
theorem Sat.std0 {P:Program} {fn:Func} {R:Ending→World→Prop} {w:World} {B:SchT}:Sat (Eng.std P fn R w [] [] B).toEnv [] [] w :=
 Sat.std rfl (by simp) (by simp) (by simp) (by simp) (by simp) (by simp)
theorem Sat.std1 {P:Program} {fn:Func} {R:Ending→World→Prop} {w:World} {B:SchT} {b o:Nat} {cs:List SV} (ow:Bool) (lt:b<w.heap.size)
  (cell:∀ (j:Nat) (c:SV),cs[j]?=some c→∃ v,c.den [⟨b,o,cs.length⟩]=some v∧w.cell? ⟨b,o+j,none⟩=some v)
  (free:ow=true→∀ j,j<cs.length→w.frozen? ⟨b,o+j,none⟩=false):Sat (Eng.std P fn R w [⟨b,o,cs.length⟩] [⟨ow,cs,none⟩] B).toEnv [⟨b,o,cs.length⟩] [⟨ow,cs,none⟩] w:=by
 have one:∀ {r:Nat} {g:Rg} {p:Num},([⟨ow,cs,none⟩]:List Rg)[r]?=some g→([⟨b,o,cs.length⟩]:Nums)[r]?=some p→r=0∧g=⟨ow,cs,none⟩∧p=⟨b,o,cs.length⟩:=by
  intro r g p hg hp
  cases r with
  | zero=>simp at hg hp;exact ⟨rfl,hg.symm,hp.symm⟩
  | succ r=>simp at hg
 refine Sat.std rfl (fun r p hp=>?_) (fun r g p hg hp=>?_) (fun r g p hg hp ho=>?_) (fun r g p hg hp ho=>?_) (fun r r' g g' p p' hg hp hg' hp' _ hne=>?_) (fun r g hg=>?_)
 ·cases r with
  | zero=>simp at hp;subst hp;exact lt
  | succ r=>simp at hp
 ·obtain ⟨rfl,rfl,rfl⟩:=one hg hp;exact cell
 ·obtain ⟨rfl,rfl,rfl⟩:=one hg hp;exact Nat.le_refl _
 ·obtain ⟨rfl,rfl,rfl⟩:=one hg hp
  intro j hj
  obtain ⟨c,hc⟩:∃ c,cs[j]?=some c:=⟨_,List.getElem?_eq_getElem hj⟩
  obtain ⟨v,_,hv⟩:=cell j c hc
  exact ⟨by simp only;rw [hv];rfl,free ho j hj⟩
 ·obtain ⟨rfl,_,_⟩:=one hg hp
  obtain ⟨rfl,_,_⟩:=one hg' hp'
  exact absurd rfl hne
 ·cases r with
  | zero=>simp at hg;subst hg;rfl
  | succ r=>simp at hg
theorem Chg.ro1 {w w':World} {b o x:Nat} {cs:List SV} (h:Chg (InR [⟨b,o,x⟩] [⟨false,cs,none⟩]) w w'):Chg (fun _ _=>False) w w':=h.mono (fun k i _ hn=>by
 obtain ⟨r,g,p,hg,hp,ho,_⟩:=hn
 cases r with
 | zero=>simp at hg;subst hg;cases ho
 | succ r=>simp at hg)
theorem Chg.rw1 {w w':World} {b o x:Nat} {cs:List SV} (h:Chg (InR [⟨b,o,x⟩] [⟨true,cs,none⟩]) w w'):Chg (fun k i=>k=b∧o≤i∧i<o+x) w w':=h.mono (fun k i _ hn=>by
 obtain ⟨r,g,p,hg,hp,ho,h1,h2,h3⟩:=hn
 cases r with
 | zero=>simp at hg hp;subst hg;subst hp;exact ⟨h1,h2,h3⟩
 | succ r=>simp at hg)
def regsO (B:SchT) (o:Option Code):Bool :=
 match o with
 | some c=>regsB B c
 | none=>true
theorem X.begin {P:Program} {f:FuncId} {fn:Func} {c:Code} {args:Array Value} {w:World} {R:Ending→World→Prop} {N:Nums} {rg:List Rg} {ss:List SV} (hf:P.funcs[f]?=some fn) (hb:fn.body=some c) {B:SchT} (hreg:regsO B fn.body=true)
  (hle:Nat.ble args.size fn.ntmps=true) (ha:SV.denL N ss=some args.toList) (hS:Sat (std P fn R w N rg B).toEnv N rg w) (h:X (std P fn R w N rg B) [.code c] ⟨argFr ss 0,rg⟩):Calls P f args w R :=
 X.enter (std P fn R w N rg B) hf hb rfl rfl rfl (by rw [hb] at hreg;exact hreg) (Nat.le_of_ble_eq_true hle) ha hS h
theorem X.done {P:Program} {fn:Func} {R:Ending→World→Prop} {W:World} {O:Nat→Nat→Prop} {im:Nat→Nat→Option Value} {D:Nat→Nat→Prop} {Rr:World→Prop} {N0:Nums} {B:SchT} {T:Tab} (hT:TabOk P T) {k:List It} {s:St} {l:List SV} (hr:resL T s fn.results.toList=some l)
  (h:∀ (N:Nums) (w:World) (v:Value),N0.le N→Sat (mkE P fn R W O im D Rr N0 B).toEnv N s.rg w→(resV l).den N=some v→R (.returned v) w):X (mkE P fn R W O im D Rr N0 B) (.res l::k) s:=X.ret hT rfl hr h
theorem X.over {P:Program} {fn:Func} {R:Ending→World→Prop} {W:World} {O:Nat→Nat→Prop} {im:Nat→Nat→Option Value} {D:Nat→Nat→Prop} {Rr:World→Prop} {N0:Nums} {B:SchT} {T:Tab} (hT:TabOk P T) {s:St} {l:List SV} (hr:resL T s fn.results.toList=some l)
  (h:∀ (N:Nums) (w:World) (v:Value),N0.le N→Sat (mkE P fn R W O im D Rr N0 B).toEnv N s.rg w→(resV l).den N=some v→R (.returned v) w):X (mkE P fn R W O im D Rr N0 B) [] s:=X.fin hT rfl hr h
section
variable {E:Ctx} {T:Tab} {all:Array Oper} {i:Nat} {rest:List Nat} {k:List It} {s:St} {o:Oper} {f:Fr}
end
theorem Sat.at {E:Env} {N:Nums} {rg:List Rg} {w:World} (h:Sat E N rg w) {r:Nat} {p:Num} (hp:N[r]?=some p) {j:Nat} {c:SV} {g:Rg} (hg:rg[r]?=some g) (hj:g.cells[j]?=some c) {v:Value} (hv:c.den N=some v):w.cell? ⟨p.b,p.o+j,none⟩=some v:=by
 obtain ⟨u,h1,h2⟩:=h.cell r g p hg hp j c hj
 rw [hv] at h1;cases h1;exact h2
theorem Chg.none {w w':World} (h:Chg (InR [] []) w w'):Chg (fun _ _=>False) w w':=h.mono (fun k o _ hn=>by obtain ⟨r,g,p,hg,_⟩:=hn;simp at hg)
abbrev Mem:=Nat→Nat→Option Value
structure Ext (m m':Mem) (w w':World):Prop where
 le:∀ k o v,m k o=some v→m' k o=some v
 sub:∀ k o v,m' k o=some v→w'.cell? ⟨k,o,none⟩=some v
 new:∀ k o v,m' k o=some v→m k o=some v∨w.heap.size≤k
theorem frozen_of_chg {O:Nat→Nat→Prop} {w w':World} (h:Chg O w w') {k:Nat} (o:Nat) (hc:(w.cell? ⟨k,o,none⟩).isSome=true):w'.frozen? ⟨k,o,none⟩=w.frozen? ⟨k,o,none⟩:=by
 cases hh:w.heap[k]? with
 | none=>simp [World.cell?,hh] at hc
 | some x =>
  cases x with
  | cells c e f =>
   obtain ⟨c',h1,_,_⟩:=h.cells k c e f hh
   simp [World.frozen?,hh,h1]
  | _=>simp [World.cell?,hh] at hc
theorem cell_of_chg {O:Nat→Nat→Prop} {w w':World} (h:Chg O w w') {k o:Nat} {v:Value} (ho:¬O k o) (hc:w.cell? ⟨k,o,none⟩=some v):w'.cell? ⟨k,o,none⟩=some v:=by
 cases hh:w.heap[k]? with
 | none=>simp [World.cell?,hh] at hc
 | some x =>
  cases x with
  | cells c e f =>
   obtain ⟨c',h1,_,h3⟩:=h.cells k c e f hh
   simp only [World.cell?,hh] at hc
   simp only [World.cell?,h1]
   have:=h3 o ho
   simp at hc ⊢
   rw [this];exact hc
  | _=>simp [World.cell?,hh] at hc
theorem Sat.after {E:Env} {N:Nums} {rg rg':List Rg} {w w':World} {O':Nat→Nat→Prop} {m':Mem} {D':Nat→Nat→Prop} {R':World→Prop} (h:Sat E N rg w) (hc:Chg O' w w')
  (hO:∀ k o,k<w.heap.size→O' k o→InR N rg k o∨(E.D k o∧(E.W.heap.size≤k∨E.O k o))) (hm:Ext E.im m' w w') (hD:∀ k o,D' k o→(E.D k o∨w.heap.size≤k)∧There w' k o) (hl:Loc D' R') (hR:R' w') (hlen:rg'.length=rg.length)
  (hrg:∀ (r:Nat) (g g':Rg) (p:Num),rg[r]?=some g→rg'[r]?=some g'→N[r]?=some p→g'.own=g.own∧g'.ob=g.ob∧(g.own=false→g'.cells.length=g.cells.length)∧(g.own=true→g'.cells.length≤p.x) ∧
   ((g'=g∧∀ j,j<g.cells.length→¬O' p.b (p.o+j))∨∀ (j:Nat) (c:SV),g'.cells[j]?=some c→∃ v,c.den N=some v∧w'.cell? ⟨p.b,p.o+j,none⟩=some v)) :
  Sat { E with im:=m',D:=D',R:=R' } N rg' w':=by
 have old:∀ (r:Nat) (g':Rg),rg'[r]?=some g'→∃ g,rg[r]?=some g:=fun r g' hg=>by
  have:r<rg.length:=by rw [←hlen];exact (List.getElem?_eq_some_iff.1 hg).1
  exact ⟨_,List.getElem?_eq_getElem this⟩
 have there:∀ k o,(w.cell? ⟨k,o,none⟩).isSome=true→(w'.cell? ⟨k,o,none⟩).isSome=true:=by
  intro k o hs
  cases hh:w.heap[k]? with
  | none=>simp [World.cell?,hh] at hs
  | some x =>
   cases x with
   | cells c e f =>
    obtain ⟨c',h1,h2,_⟩:=hc.cells k c e f hh
    simp only [World.cell?,hh] at hs
    simp only [World.cell?,h1]
    simp at hs ⊢
    omega
   | _=>simp [World.cell?,hh] at hs
 refine ⟨by rw [hlen];exact h.len,fun r p hp=>Nat.lt_of_lt_of_le (h.lt r p hp) hc.size,?_,?_,?_,?_,?_,?_,hm.sub,?_,?_,fun k o hk=>(hD k o hk).2,hl,hR,?_,?_⟩
 ·intro r g' p hg hp j c hj
  obtain ⟨g,hg0⟩:=old r g' hg
  obtain ⟨_,_,_,_,h3 | h3⟩:=hrg r g g' p hg0 hg hp
  ·obtain ⟨rfl,hno⟩:=h3
   obtain ⟨v,h1,h2⟩:=h.cell r g' p hg0 hp j c hj
   exact ⟨v,h1,cell_of_chg hc (hno j (List.getElem?_eq_some_iff.1 hj).1) h2⟩
  ·exact h3 j c hj
 ·intro r g' p hg hp ho
  obtain ⟨g,hg0⟩:=old r g' hg
  obtain ⟨h1,_,_,h4,_⟩:=hrg r g g' p hg0 hg hp
  exact h4 (by rw [←h1];exact ho)
 ·intro r g' p hg hp ho j hj
  obtain ⟨g,hg0⟩:=old r g' hg
  obtain ⟨h1,_⟩:=hrg r g g' p hg0 hg hp
  obtain ⟨k1,k2⟩:=h.room r g p hg0 hp (by rw [←h1];exact ho) j hj
  exact ⟨there _ _ k1,by rw [frozen_of_chg hc _ k1];exact k2⟩
 ·intro r r' g' g2' p p' hg hp hg' hp' ho hne j hj hb
  obtain ⟨g,hg0⟩:=old r g' hg
  obtain ⟨g2,hg20⟩:=old r' g2' hg'
  obtain ⟨h1,_⟩:=hrg r g g' p hg0 hg hp
  obtain ⟨k1,_,k2,_⟩:=hrg r' g2 g2' p' hg20 hg' hp'
  refine h.disj r r' g g2 p p' hg0 hp hg20 hp' (by rw [←h1];exact ho) hne j ?_ hb
  unfold Rg.wid at hj ⊢
  rw [k1] at hj
  cases hg2:g2.own with
  | true=>rw [hg2] at hj;exact hj
  | false=>rw [hg2] at hj;simp only [cond_false] at hj ⊢;rw [←k2 hg2];exact hj
 ·intro r g' p ob hg hp ho
  obtain ⟨g,hg0⟩:=old r g' hg
  obtain ⟨_,h1,_⟩:=hrg r g g' p hg0 hg hp
  obtain ⟨⟨o,k1,k2⟩,k3⟩:=h.obj r g p ob hg0 hp (by rw [←h1];exact ho)
  have hlt:=h.lt r p hp
  have noc:∀ off,(w.cell? ⟨p.b,off,none⟩).isSome=true→False:=fun off q1=>by
   unfold World.cell? at q1
   simp only [k2] at q1
   cases ob<;>simp only [Ob.den] at k1<;>split at k1<;>first | (cases k1;done) | (cases k1;simp at q1)
  refine ⟨⟨o,k1,?_⟩,k3.1,fun off hd=>(hD _ _ hd).1.elim (k3.2 off) (fun h=>by omega)⟩
  rw [hc.same p.b hlt (fun off ho=>?_)]
  ·exact k2
  ·rcases hO p.b off hlt ho with ⟨r',g',p',hg',hp',how,e1,hlo,hhi⟩ | ⟨hd,_⟩
   ·obtain ⟨q1,_⟩:=h.room r' g' p' hg' hp' how (off-p'.o) (by omega)
    rw [←e1] at q1
    exact noc _ q1
   ·exact k3.2 _ hd
 ·intro r r' g' g2' p p' hg hp hg' hp' ho ho' hne
  obtain ⟨g,hg0⟩:=old r g' hg
  obtain ⟨g2,hg20⟩:=old r' g2' hg'
  obtain ⟨_,h1,_⟩:=hrg r g g' p hg0 hg hp
  obtain ⟨_,k1,_⟩:=hrg r' g2 g2' p' hg20 hg' hp'
  exact h.odisj r r' g g2 p p' hg0 hp hg20 hp' (by rw [←h1];exact ho) (by rw [←k1];exact ho') hne
 ·intro r g' p hg hp ho j hj
  obtain ⟨g,hg0⟩:=old r g' hg
  obtain ⟨h1,_⟩:=hrg r g g' p hg0 hg hp
  have:=h.imd r g p hg0 hp (by rw [←h1];exact ho) j hj
  show m' p.b (p.o+j)=none
  cases hmv:m' p.b (p.o+j) with
  | none=>rfl
  | some v =>
   rcases hm.new _ _ _ hmv with h5 | h5
   ·rw [this] at h5;cases h5
   ·have:=h.lt r p hp;omega
 ·intro r g' p hg hp ho j hj hd
  obtain ⟨g,hg0⟩:=old r g' hg
  obtain ⟨h1,_⟩:=hrg r g g' p hg0 hg hp
  rcases (hD _ _ hd).1 with hd | hd
  ·exact h.dd r g p hg0 hp (by rw [←h1];exact ho) j hj hd
  ·have:=h.lt r p hp;omega
 ·-- what has turned since the call began
  have hO2:∀ k o,k<E.W.heap.size→O' k o→E.O k o:=by
   intro k o hk ho
   rcases hO k o (Nat.lt_of_lt_of_le hk h.chg.size) ho with ⟨r,g,p,hg,hp,how,rfl,hlo,hhi⟩ | ⟨_,hd⟩
   ·rcases h.foot r g p hg hp how with hf | hf
    ·omega
    ·have:=hf (o-p.o) (by omega)
     rwa [show p.o+(o-p.o)=o by omega] at this
   ·rcases hd with hd | hd
    ·omega
    ·exact hd
  exact h.chg.trans hc hO2
 ·intro r g' p hg hp ho
  obtain ⟨g,hg0⟩:=old r g' hg
  obtain ⟨h1,_⟩:=hrg r g g' p hg0 hg hp
  exact h.foot r g p hg0 hp (by rw [←h1];exact ho)
theorem same_none {w w':World} (hc:Chg (fun _ _=>False) w w') {k:Nat} (hk:k<w.heap.size) (o:Nat):w'.cell? ⟨k,o,none⟩=w.cell? ⟨k,o,none⟩∧w'.frozen? ⟨k,o,none⟩=w.frozen? ⟨k,o,none⟩:=by
 have e:=hc.same k hk (fun _ h=>h)
 exact ⟨by unfold World.cell?;simp only [e],by unfold World.frozen?;simp only [e]⟩
theorem There.none {w w':World} (hc:Chg (fun _ _=>False) w w') {k o:Nat} (h:There w k o):There w' k o :=
 h.of (fun hs=>by rw [(same_none hc h.lt o).1];exact hs) (objAt_same (hc.same k h.lt (fun _ h=>h)))
theorem Sat.after0 {E:Env} {N:Nums} {rg:List Rg} {w w':World} (h:Sat E N rg w) (hc:Chg (fun _ _=>False) w w'):Sat E N rg w':=by
 have:=h.after (rg':=rg) (m':=E.im) (D':=E.D) (R':=E.R) hc (fun _ _ _ ho=>ho.elim) ⟨fun _ _ _ h=>h,fun k o v hv=>cell_of_chg hc (by simp) (h.imm k o v hv),fun _ _ _ h=>.inl h⟩
  (fun k o hk=>⟨.inl hk,There.none hc (h.dlt k o hk)⟩) h.loc
  (h.loc w w' (fun k o hk=>⟨same_none hc (h.dlt k o hk).lt o,objAt_same (hc.same k (h.dlt k o hk).lt (fun _ h=>h))⟩) hc.size h.res) rfl (fun r g g' p hg hg' hp=>by
   rw [hg] at hg';cases hg'
   exact ⟨rfl,rfl,fun _=>rfl,fun ho=>h.ext r g p hg hp ho,.inl ⟨rfl,fun _ _ ho=>ho⟩⟩)
 exact this
section
variable {E:Ctx} {N:Nums} {k:List It} {s:St} {d:Option Nat} {v:Value} {w w':World}
theorem Goes.same (hN:E.N0.le N) (h:Sat E.toEnv N s.rg w) (hc:Chg (fun _ _=>False) w w') {r:SV} (hr:r.den N=some v) {f':Fr} (hp:putO E.n s.fr d (.val r)=some f') (hx:X E k ⟨f',s.rg⟩):Goes E N k s.fr d v w' :=
 ⟨E,N,r,s.rg,f',rfl,rfl,rfl,rfl,Nums.le.refl N,hN,h.after0 hc,hr,hp,hx⟩
end
def bd (m:Nat):SV→Bool
 | .int _ _=>true
 | .bool _=>true
 | .own r _=>Nat.blt r m
 | .osl r _ _ _ _=>Nat.blt r m
 | .mp r=>Nat.blt r m
 | .ch r=>Nat.blt r m
 | .ext _ _ _=>true
 | .sl _ _ _ _=>true
 | .slv _ _ _=>true
 | .raw _=>true
 | .big _=>true
 | _=>false
theorem den_take {N:Nums} {m:Nat} {s:SV} {x:Value} (hb:bd m s=true) (h:s.den N=some x):s.den (N.take m)=some x:=by
 have key:∀ r,Nat.blt r m=true→(N.take m)[r]?=N[r]?:=fun r hb=>by
  have hr:r<m:=Nat.le_of_ble_eq_true hb
  rw [List.getElem?_take,if_pos hr]
 cases s<;>simp only [bd,Bool.false_eq_true] at hb<;>first | exact h | (simp only [SV.den] at h ⊢;rw [key _ hb];exact h)
def SubE (N N':Nums) (m:Nat) (old new:SV):Prop:=(new=old∧bd m new=true)∨∃ x,old.den N=some x∧new.den N'=some x
def SubFr (N N':Nums) (m:Nat) (f:Fr):Fr→Prop
 | []=>True
 | (t,.val v')::r=>(∃ v,look f t=.val v∧SubE N N' m v v')∧SubFr N N' m f r
 | (_,.dead)::r=>SubFr N N' m f r
 | (_,.opt _ _ _)::_=>False
theorem SubFr.look {N N':Nums} {m:Nat} {f:Fr}:∀ {f':Fr},SubFr N N' m f f'→∀ t,look f' t=.dead∨∃ v v',look f' t=.val v'∧Eng.look f t=.val v∧SubE N N' m v v'
 | [],_,t=>.inl rfl
 | (k,.val v')::r,⟨⟨v,h1,h2⟩,h3⟩,t=>by
  simp only [Eng.look]
  by_cases hk:k=t
  ·subst hk;simp only [Nat.beq_refl,cond_true];exact .inr ⟨v,v',rfl,h1,h2⟩
  ·simp only [beq_ne hk,cond_false];exact SubFr.look h3 t
 | (k,.dead)::r,h,t=>by
  simp only [Eng.look]
  by_cases hk:k=t
  ·subst hk;simp
  ·simp only [beq_ne hk,cond_false];exact SubFr.look (f':=r) h t
 | (k,.opt _ _ _)::r,h,t=>h.elim
theorem FrOk.sub {n m:Nat} {N:Nums} {f f':Fr} {a:Act} (h:FrOk n N f a) (hs:SubFr N (N.take m) m f f'):FrOk n (N.take m) f' a:=by
 refine ⟨h.size,h.defers,fun t=>?_⟩
 rcases hs.look t with hd | ⟨v,v',h1,h2,h3⟩
 ·rw [hd];trivial
 ·have hok:=h.ok t
  rw [h2] at hok
  obtain ⟨x,k1,k2⟩:=hok
  rw [h1]
  rcases h3 with ⟨rfl,hb⟩ | ⟨y,q1,q2⟩
  ·exact ⟨x,den_take hb k1,k2⟩
  ·rw [q1] at k1;cases k1;exact ⟨x,q2,k2⟩
def SubC (N N':Nums) (m:Nat):List SV→List SV→Prop
 | [],[]=>True
 | c::cs,c'::cs'=>SubE N N' m c c'∧SubC N N' m cs cs'
 | _::_,[]=>True
 | [],_::_=>False
theorem SubC.get {N N':Nums} {m:Nat}:∀ {cs cs':List SV},SubC N N' m cs cs'→cs'.length≤cs.length∧∀ (j:Nat) (c':SV),cs'[j]?=some c'→∃ c,cs[j]?=some c∧SubE N N' m c c'
 | [],[],_=>⟨Nat.le_refl _,fun j c' h=>by simp at h⟩
 | c::cs,c'::cs',⟨h1,h2⟩=>by
  obtain ⟨k1,k2⟩:=SubC.get h2
  refine ⟨by simp;exact k1,fun j d hj=>?_⟩
  cases j with
  | zero=>simp at hj;subst hj;exact ⟨c,rfl,h1⟩
  | succ j=>simpa using k2 j d (by simpa using hj)
 | [],_::_,h=>h.elim
 | _::_,[],_=>⟨by simp,fun j c' h=>by simp at h⟩
theorem SubC.refl {N N':Nums} {m:Nat}:∀ {cs:List SV},cs.all (bd m)=true→SubC N N' m cs cs
 | [],_=>trivial
 | c::cs,h=>by
  simp only [List.all_cons,Bool.and_eq_true] at h
  exact ⟨.inl ⟨rfl,h.1⟩,SubC.refl h.2⟩
def SubRg (N N':Nums) (m:Nat):List Rg→List Rg→Prop
 | _,[]=>True
 | g::r,g'::r'=>(g'.own=true→g.own=true)∧SubC N N' m g.cells g'.cells∧g'.ob=none∧SubRg N N' m r r'
 | [],_::_=>False
theorem SubRg.get {N N':Nums} {m:Nat}:∀ {rg rg':List Rg},SubRg N N' m rg rg'→rg'.length≤rg.length∧∀ (r:Nat) (g':Rg),rg'[r]?=some g'→∃ g,rg[r]?=some g∧(g'.own=true→g.own=true)∧SubC N N' m g.cells g'.cells∧g'.ob=none
 | _,[],_=>⟨by simp,fun r g' h=>by simp at h⟩
 | g::rg,g'::rg',⟨h1,h2,h4,h3⟩=>by
  obtain ⟨k1,k2⟩:=SubRg.get h3
  refine ⟨by simp;exact k1,fun r x hx=>?_⟩
  cases r with
  | zero=>simp at hx;subst hx;exact ⟨g,rfl,h1,h2,h4⟩
  | succ r=>simpa using k2 r x (by simpa using hx)
 | [],_::_,h=>h.elim
theorem Sat.sub {E:Env} {N:Nums} {rg rg':List Rg} {w:World} {m':Mem} {R':World→Prop} (h:Sat E N rg w) (hs:SubRg N (N.take rg'.length) rg'.length rg rg')
  (hm:∀ k o v,m' k o=some v→E.im k o=some v) (hl:Loc E.D R') (hR:R' w):Sat { E with im:=m',R:=R' } (N.take rg'.length) rg' w:=by
 obtain ⟨hle,hget⟩:=hs.get
 have num:∀ (r:Nat) (p:Num),(N.take rg'.length)[r]?=some p→N[r]?=some p:=fun r p hp=>by
  rw [List.getElem?_take] at hp
  split at hp
  ·exact hp
  ·cases hp
 refine ⟨by have:=h.len;simp;omega,fun r p hp=>h.lt r p (num r p hp),?_,?_,?_,?_,?_,?_,fun k o v hv=>h.imm k o v (hm k o v hv),?_,?_,h.dlt,hl,hR,h.chg,?_⟩
 ·intro r g' p hg hp j c' hj
  obtain ⟨g,h1,h2,h3,_⟩:=hget r g' hg
  obtain ⟨c,k1,k2⟩:=h3.get.2 j c' hj
  obtain ⟨v,q1,q2⟩:=h.cell r g p h1 (num r p hp) j c k1
  rcases k2 with ⟨rfl,hb⟩ | ⟨x,x1,x2⟩
  ·exact ⟨v,den_take hb q1,q2⟩
  ·rw [x1] at q1;cases q1;exact ⟨_,x2,q2⟩
 ·intro r g' p hg hp ho
  obtain ⟨g,h1,h2,h3,_⟩:=hget r g' hg
  exact Nat.le_trans h3.get.1 (h.ext r g p h1 (num r p hp) (h2 ho))
 ·intro r g' p hg hp ho
  obtain ⟨g,h1,h2,h3,_⟩:=hget r g' hg
  exact h.room r g p h1 (num r p hp) (h2 ho)
 ·intro r r' g' g2' p p' hg hp hg' hp' ho hne j hj hb
  obtain ⟨g,h1,h2,h3,_⟩:=hget r g' hg
  obtain ⟨g2,k1,k2,k3,_⟩:=hget r' g2' hg'
  refine h.disj r r' g g2 p p' h1 (num r p hp) k1 (num r' p' hp') (h2 ho) hne j ?_ hb
  unfold Rg.wid at hj ⊢
  have k4:=k3.get.1
  cases ho2:g2.own with
  | true =>
   have k5:=h.ext r' g2 p' k1 (num r' p' hp') ho2
   simp only [cond_true]
   cases ho3:g2'.own with
   | true=>rw [ho3] at hj;exact hj
   | false=>rw [ho3] at hj;simp only [cond_false] at hj;omega
  | false =>
   have:g2'.own=false:=by
    cases ho3:g2'.own with
    | true=>rw [k2 ho3] at ho2;cases ho2
    | false=>rfl
   rw [this] at hj;simp only [cond_false] at hj ⊢;omega
 ·intro r g' p ob hg hp ho
  obtain ⟨g,h1,h2,h3,h4⟩:=hget r g' hg
  rw [h4] at ho;cases ho
 ·intro r r' g' g2' p p' hg hp hg' hp' ho
  obtain ⟨g,h1,h2,h3,h4⟩:=hget r g' hg
  rw [h4] at ho;cases ho
 ·intro r g' p hg hp ho j hj
  obtain ⟨g,h1,h2,h3,_⟩:=hget r g' hg
  have:=h.imd r g p h1 (num r p hp) (h2 ho) j hj
  show m' p.b (p.o+j)=none
  cases hv:m' p.b (p.o+j) with
  | none=>rfl
  | some v=>rw [hm _ _ _ hv] at this;cases this
 ·intro r g' p hg hp ho
  obtain ⟨g,h1,h2,h3,_⟩:=hget r g' hg
  exact h.dd r g p h1 (num r p hp) (h2 ho)
 ·intro r g' p hg hp ho
  obtain ⟨g,h1,h2,h3,_⟩:=hget r g' hg
  exact h.foot r g p h1 (num r p hp) (h2 ho)
theorem At.mk {P:Program} {fn:Func} {R:Ending→World→Prop} {W:World} {O:Nat→Nat→Prop} {im m':Mem} {D:Nat→Nat→Prop} {Rr R':World→Prop} {N0 N:Nums} {B:SchT} {s s':St} {a:Act} {w:World} (hN:N0.le N)
  (hf:FrOk fn.ntmps N s.fr a) (hS:Sat (mkE P fn R W O im D Rr N0 B).toEnv N s.rg w) (hl:N0.length≤s'.rg.length) (h1:SubFr N (N.take s'.rg.length) s'.rg.length s.fr s'.fr) (h2:SubRg N (N.take s'.rg.length) s'.rg.length s.rg s'.rg)
  (hm:∀ k o v,m' k o=some v→im k o=some v) (hlo:Loc D R') (hR:R' w):At (mkE P fn R W O m' D R' N0 B) s' a w:=by
 refine ⟨N.take s'.rg.length,fun r p hp=>?_,hf.sub h1,hS.sub h2 hm hlo hR⟩
 have hr:r<N0.length:=(List.getElem?_eq_some_iff.1 hp).1
 rw [List.getElem?_take,if_pos (by omega)]
 exact hN r p hp
theorem At.same {P:Program} {fn:Func} {R:Ending→World→Prop} {W:World} {O:Nat→Nat→Prop} {im:Mem} {D:Nat→Nat→Prop} {Rr:World→Prop} {N0 N:Nums} {B:SchT} {s s':St} {a:Act} {w:World} (hN:N0.le N)
  (hf:FrOk fn.ntmps N s.fr a) (hS:Sat (mkE P fn R W O im D Rr N0 B).toEnv N s.rg w) (hl:N0.length≤s'.rg.length) (h1:SubFr N (N.take s'.rg.length) s'.rg.length s.fr s'.fr) (h2:SubRg N (N.take s'.rg.length) s'.rg.length s.rg s'.rg) :
  At (mkE P fn R W O im D Rr N0 B) s' a w:=At.mk hN hf hS hl h1 h2 (fun _ _ _ h=>h) hS.loc hS.res
theorem X.loop1 {E:Ctx} {ι:Type} (S:ι→St) (μ:ι→Nat) {c:Code} {k:List It} {s:St} 
  (h0:∀ (N:Nums) (a:Act) (w:World),E.N0.le N→FrOk E.n N s.fr a→Sat E.toEnv N s.rg w→∃ i,At E (S i) a w)
  (round:∀ i (q:Act→World→Prop),(∀ i' a w,μ i'<μ i→At E (S i') a w→q a w)→X E (.code c::.lp q::k) (S i)):X E (.code (.loop c)::k) s :=
 X.loop (fun _=>E) S μ (fun _=>⟨rfl,rfl,rfl,rfl⟩) h0 round
end Go.Eng
