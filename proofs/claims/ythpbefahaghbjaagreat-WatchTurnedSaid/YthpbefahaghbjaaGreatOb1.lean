import Derived.Test.YthpbefahaghbjaaGreatRg5
import Derived.DeepKeys4
import Derived.Test.YthpbefahaghbjaaGreatPd2
import Derived.Laws.BytesArg
import Derived.Lib.Bytes
import Derived.Test.YthpbefahaghbjaaGreatLaw
import Derived.Conc.LoneSelectN
set_option maxHeartbeats 16000000
set_option maxRecDepth 100000
set_option cbv.maxSteps 100000000
namespace Go.Eng
open Go
def Bnd (f:Fr) (g:GK) (o:Option Operand) (z:Option Nat):Prop:=match o,z with
 | none,none=>True
 | some p,some n=>∃ kd s,evK f g p=some (.int kd s)∧(g.T→s.den=(n:Int))
 | _,_=>False
theorem Bnd.run {N:Nums} {f:Fr} {g:GK} {o:Option Operand} {z:Option Nat} {ρ:Operand→Value} (h:Bnd f g o z) (ht:g.T) (hρ:∀ x s,evK f g x=some s→s.den N=some (ρ x)):(o=none∧z=none)∨∃ k n,o.map ρ=some (.int k (n:Nat))∧z=some n:=by
 cases o with
 | none=>cases z with
  | none=>exact .inl ⟨rfl,rfl⟩
  | some n=>exact h.elim
 | some p=>cases z with
  | none=>exact h.elim
  | some n =>
   obtain ⟨kd,s,h1,h2⟩:=h
   have:=hρ _ _ h1
   simp only [SV.den,h2 ht,Option.some.injEq] at this
   exact .inr ⟨kd,n,by simp [←this],rfl⟩
theorem vk_sliceN {E:Env} {N0:Nums} {rg:List Rg} {f:Fr} {g:GK} {t e:TypeId} {x:Operand} {lo hi:Option Operand} {zl zh:Option Nat} {r c n z c' n':Nat} {gg:Rg} (hx:evK f g x=some (.osl r c n z none)) (hl:Bnd f g lo zl) (hh:Bnd f g hi zh) (hr:rg[r]?=some gg) (ho:gg.own=true) (hz:0<z) (hu:E.P.underlying t=some (.slice e)) (hq:∀ w,(sizeOf e).run E.P w=.ok z w)
  (h1:zl.getD 0≤zh.getD n) (h2:c+zh.getD n*z≤gg.cells.length) (h3:zl.getD 0=0∨c+(zl.getD 0+1)*z≤gg.cells.length) (hc:c'=c+zl.getD 0*z) (hn:n'=zh.getD n-zl.getD 0) :
  ValOk E N0 rg f g (.slice t x lo hi none) (.osl r c' n' z none):=by
 intro ht N ρ o w hN0 hop hρ hV
 have e1:=hρ _ _ hx
 obtain ⟨p,hp⟩:∃ p,N[r]?=some p:=⟨_,List.getElem?_eq_getElem (by have:=hV.1.len;have:=(List.getElem?_eq_some_iff.1 hr).1;omega)⟩
 have hext:=hV.1.ext r gg p hr hp ho
 simp only [SV.den,hp,Num.cap,Option.some.injEq] at e1
 have hcap:zh.getD n≤(p.x-c) / z:=(Nat.le_div_iff_mul_le hz).2 (by omega)
 have hsub:(p.x-c) / z-zl.getD 0=(p.x-(c+zl.getD 0*z)) / z:=by
  rw [←Nat.sub_sub,Nat.mul_comm (zl.getD 0) z,Nat.sub_mul_div]
 refine ⟨.slice (some ⟨p.b,p.o+c',none⟩) n' ((p.x-c') / z),by simp only [SV.den,hp,Num.cap],fun w' _=>?_⟩
 have hb:=run_sliceBounds (P:=E.P) (w:=w') (ρ':=ρ) (b:=true) (len:=n) (cap:=(p.x-c) / z) (mx:=none) (m:=none) (hl.run ht hρ) (hh.run ht hρ) (.inl ⟨rfl,rfl⟩) h1 (by simpa using hcap) (by simp) (by simp)
 simp only [Option.map_none,Option.getD_none] at hb
 have hmap:(none:Option Operand).map ρ=none:=rfl
 simp only [execOp,hop,←e1,Instr.sliceAt,run_underlying hu,Sem.run_bind,Result.andThen,Instr.slice,hmap,hb,hq,Sem.run_pure,Option.map_some,addr_add,hn,hc,hsub]
 by_cases h:(p.x-c) / z=zl.getD 0
 ·have h0:zl.getD 0=0:=by
   rcases h3 with h3 | h3
   ·exact h3
   ·have:zl.getD 0+1≤(p.x-c) / z:=(Nat.le_div_iff_mul_le hz).2 (by omega)
    omega
  simp [h0]
 ·simp [h,Nat.add_assoc]
theorem vk_bin {E:Env} {N0:Nums} {rg:List Rg} {f:Fr} {g:GK} {op:BinOp} {t ty:TypeId} {x y:Operand} {kd:IntKind} {s1 s2:SI} {r r0:SV} (hx:evK f g x=some (.int kd s1)) (hy:evK f g y=some (.int kd s2)) (h:intOp op kd (.v s1.den) (.v s2.den)=some r0) (hd:g.T→∀ N v,r0.den N=some v→r.den N=some v):ValOk E N0 rg f g (.binOp op t x y ty) r:=by
 intro ht N ρ o w hN0 hop hρ hV
 have h1:=hρ _ _ hx
 have h2:=hρ _ _ hy
 simp only [SV.den,Option.some.injEq] at h1 h2
 obtain ⟨v,hv,_⟩:=intOp_sound (P:=E.P) (w:=w) (N:=N) h t
 refine ⟨v,hd ht N v hv,fun w' _=>?_⟩
 obtain ⟨v',hv',hrun⟩:=intOp_sound (P:=E.P) (w:=w') (N:=N) h t
 rw [hv] at hv';cases hv'
 simp only [SI.den] at hrun
 have h3:(do eqGuard op t x y (ρ x) (ρ y);binOp op t (ρ x) (ρ y):Sem Value).run E.P w'=.ok v w':=by
  rw [←h1,←h2]
  simp only [Sem.run_bind]
  rw [eqGuard_none _ _ _ _ (by simp) (by simp)]
  simp [Result.andThen,hrun]
 simp only [execOp,hop]
 rw [Sem.run_bind,h3]
 rfl
theorem putAt_eq {α:Type}:∀ (l:List α) (c:Nat) (s:α),c≤l.length→putAt l c s=l.take c++s::l.drop (c+1)
 | [],c,s,h=>by
  obtain rfl:c=0:=by simpa using h
  rfl
 | a::l,0,s,_=>rfl
 | a::l,c+1,s,h=>by simp [putAt,putAt_eq l c s (by simpa using h)]
theorem setRow_eq:∀ (r l:List SV) (c:Nat),c≤l.length→setRow l c r=l.take c++r++l.drop (c+r.length)
 | [],l,c,_=>by simp [setRow]
 | s::r,l,c,h=>by
  have h2:(l.take c++[s]).length=c+1:=by simp;omega
  have e:putAt l c s=(l.take c++[s])++l.drop (c+1):=by rw [putAt_eq l c s h];simp
  rw [setRow,setRow_eq r _ (c+1) (by rw [e,List.length_append,h2];omega),e,List.take_append_of_le_length (by omega),List.take_of_length_le (by omega),List.drop_append,h2,List.drop_of_length_le (by omega),List.nil_append,List.drop_drop]
  simp only [List.length_cons,List.append_assoc,List.cons_append,List.nil_append]
  congr 4
  omega
theorem rep_len (z:List SV):∀ n,(rep n z).length=n*z.length
 | 0=>by simp [rep]
 | n+1=>by simp [rep,rep_len z n,Nat.add_mul];omega
theorem EffOk.clear {E:Env} {N0:Nums} {T:Tab} (hT:TabOk E.P T) {rg:List Rg} {f:Fr} {x:Operand} {ts e r c n:Nat} {ti te:TI} {k:Option Nat} {g:Rg} {cs':List SV} (hx:ev f x=some (.osl r c n te.size k)) (hti:lookT T ts=some ti) (hk:ti.kind=.slice e) (hte:lookT T e=some te) (hz:te.zero.length=te.size) (hz0:0<te.size)
  (hg:rg[r]?=some g) (ho:g.own=true) (hn:n≠0) (hc:c≤g.cells.length) (h1:(rep n te.zero).all SV.one=true) (hp:∀ (N:Nums) (p:Num),N0.le N→N[r]?=some p→g.cells.length≤p.x→c+n*te.size≤p.x) (hcs:cs'=setRow g.cells c (rep n te.zero)) :
  EffOk E N0 rg f (.call { callee:=.builtin .clear,args:=#[x],argTypes:=#[ts] }) (.tup []) (rg.set r { g with cells:=cs' }):=by
 intro N ρ o w hN hop hf h
 have ok:=(hT.ok ts ti hti).kind
 rw [hk] at ok
 have ok':E.P.underlying ts=some (.slice e):=ok
 have oke:=hT.ok e te hte
 obtain ⟨z,hzr,hzd⟩:=oke.zero
 have hzd':SV.denL N te.zero=some z.cells.toList:=SV.denL_mono (N:=[]) (N':=N) (fun r p h=>by simp at h) _ hzd
 have z2:z.cells.size=te.size:=by
  have:=(SV.denL_get _ hzd').1
  simp at this;omega
 have hd:=hf _ _ hx
 obtain ⟨p,hpn⟩:∃ p,N[r]?=some p:=⟨_,List.getElem?_eq_getElem (by rw [h.len];exact (List.getElem?_eq_some_iff.1 hg).1)⟩
 have hext:=h.ext r g p hg hpn ho
 have hpx:=hp N p hN hpn hext
 simp only [SV.den,hpn,Option.some.injEq] at hd
 have hden:=denL_rep hzd' n
 obtain ⟨w',hst,hsat⟩:=Sat.store hpn c (rep n te.zero) (repV n z.cells.toList) 0 h hg ho (by omega) (by rw [rep_len,hz];omega) hden (one_cells h1 hden)
 have hrun:(Builtin.clear_ #[ts] o.type #[ρ x]).run E.P w=.ok (.tuple #[]) w':=by
  rw [←hd]
  simp only [Builtin.clear_,List.getElem?_toArray,List.getElem?_cons_zero,Sem.run_bind,run_underlying ok',Result.andThen]
  cases n with
  | zero=>exact absurd rfl hn
  | succ n =>
   simp only [Sem.run_bind,hzr,Result.andThen,Builtin.zeroCells]
   rw [zeros_eq (by omega),hst]
   rfl
 subst hcs
 refine .inl ⟨_,w',.inl ?_,N,Nums.le.refl N,by simp only [SV.den,SV.denL];rfl,by simpa using hsat⟩
 simp [execOp,hop,resolve,invoke,builtin,hrun]
theorem Sat.perm {E:Env} {N N':Nums} {rg rg':List Rg} {w:World} (h:Sat E N rg w) (hl:N'.length=rg'.length) (σ:Nat→Nat) (hσ:∀ i j,σ i=σ j→i=j)
  (hm:∀ (i:Nat) (x:Rg) (p:Num),rg'[i]?=some x→N'[i]?=some p→∃ x0,rg[σ i]?=some x0∧N[σ i]?=some p∧x.own=x0.own∧x.cells.length=x0.cells.length∧x.ob=none∧∀ (j:Nat) (c:SV),x.cells[j]?=some c→∃ c0,x0.cells[j]?=some c0∧∀ v,c0.den N=some v→c.den N'=some v):Sat E N' rg' w:=by
 refine { h with len:=hl,lt:=?_,cell:=?_,ext:=?_,room:=?_,disj:=?_,obj:=?_,odisj:=?_,imd:=?_,dd:=?_,foot:=?_ }
 ·intro i p hp
  obtain ⟨x,hx⟩:∃ x,rg'[i]?=some x:=⟨_,List.getElem?_eq_getElem (by have:=(List.getElem?_eq_some_iff.1 hp).1;omega)⟩
  obtain ⟨x0,h1,h2,_⟩:=hm i x p hx hp
  exact h.lt _ _ h2
 ·intro i x p hx hp j c hj
  obtain ⟨x0,h1,h2,_,_,_,h6⟩:=hm i x p hx hp
  obtain ⟨c0,h7,h8⟩:=h6 j c hj
  obtain ⟨v,h9,h10⟩:=h.cell _ _ _ h1 h2 j c0 h7
  exact ⟨v,h8 v h9,h10⟩
 ·intro i x p hx hp ho
  obtain ⟨x0,h1,h2,h3,h4,_,_⟩:=hm i x p hx hp
  rw [h4];exact h.ext _ _ _ h1 h2 (by rw [←h3];exact ho)
 ·intro i x p hx hp ho
  obtain ⟨x0,h1,h2,h3,h4,_,_⟩:=hm i x p hx hp
  exact h.room _ _ _ h1 h2 (by rw [←h3];exact ho)
 ·intro i i' x x' p p' hx hp hx' hp' ho hne j hj hb
  obtain ⟨x0,h1,h2,h3,h4,_,_⟩:=hm i x p hx hp
  obtain ⟨x1,k1,k2,k3,k4,_,_⟩:=hm i' x' p' hx' hp'
  exact h.disj _ _ _ _ _ _ h1 h2 k1 k2 (by rw [←h3];exact ho) (fun e=>hne (hσ _ _ e)) j (by unfold Rg.wid at hj ⊢;rw [←k3,←k4];exact hj) hb
 ·intro i x p ob hx hp ho
  obtain ⟨x0,h1,h2,h3,h4,h5,_⟩:=hm i x p hx hp
  rw [h5] at ho;cases ho
 ·intro i i' x x' p p' hx hp hx' hp' ho _ _
  obtain ⟨x0,h1,h2,h3,h4,h5,_⟩:=hm i x p hx hp
  rw [h5] at ho;cases ho
 ·intro i x p hx hp ho
  obtain ⟨x0,h1,h2,h3,h4,_,_⟩:=hm i x p hx hp
  exact h.imd _ _ _ h1 h2 (by rw [←h3];exact ho)
 ·intro i x p hx hp ho
  obtain ⟨x0,h1,h2,h3,h4,_,_⟩:=hm i x p hx hp
  exact h.dd _ _ _ h1 h2 (by rw [←h3];exact ho)
 ·intro i x p hx hp ho
  obtain ⟨x0,h1,h2,h3,h4,_,_⟩:=hm i x p hx hp
  exact h.foot _ _ _ h1 h2 (by rw [←h3];exact ho)
def CellsTo (N N':Nums):List SV→List SV→Prop
 | [],[]=>True
 | c0::cs0,c::cs=>(∀ v,c0.den N=some v→c.den N'=some v)∧CellsTo N N' cs0 cs
 | _,_=>False
theorem CellsTo.get {N N':Nums}:∀ {cs0 cs:List SV},CellsTo N N' cs0 cs→cs.length=cs0.length∧∀ (j:Nat) (c:SV),cs[j]?=some c→∃ c0,cs0[j]?=some c0∧∀ v,c0.den N=some v→c.den N'=some v
 | [],[],_=>⟨rfl,fun j c h=>by simp at h⟩
 | c0::cs0,c::cs,⟨h1,h2⟩=>by
  obtain ⟨k1,k2⟩:=CellsTo.get h2
  refine ⟨by simp [k1],fun j d hd=>?_⟩
  cases j with
  | zero=>simp at hd;subst hd;exact ⟨c0,rfl,h1⟩
  | succ j=>exact k2 j d (by simpa using hd)
theorem CellsTo.same {N N':Nums}:∀ {cs:List SV},(∀ c∈cs,∀ v,c.den N=some v→c.den N'=some v)→CellsTo N N' cs cs
 | [],_=>trivial
 | c::cs,h=>⟨h c (by simp),CellsTo.same fun c hc=>h c (by simp [hc])⟩
theorem X.flip {E:Ctx} {k:List It} {f f':Fr} {r0 r1 a b a' b':Rg} (h0:E.N0=[]) (hs:∀ n0 n1 n2 n3:Num,Sh [n0,n1,n2,n3] [n0,n1,n3,n2] f f') (ho:r0.ob=none∧r1.ob=none∧a'.ob=none∧b'.ob=none) (hown:a'.own=a.own∧b'.own=b.own)
  (h1:∀ n0 n1 n2 n3:Num,CellsTo [n0,n1,n2,n3] [n0,n1,n3,n2] r0.cells r0.cells∧CellsTo [n0,n1,n2,n3] [n0,n1,n3,n2] r1.cells r1.cells∧CellsTo [n0,n1,n2,n3] [n0,n1,n3,n2] a.cells a'.cells∧CellsTo [n0,n1,n2,n3] [n0,n1,n3,n2] b.cells b'.cells)
  (h:X E k ⟨f',[r0,r1,b',a']⟩):X E k ⟨f,[r0,r1,a,b]⟩:=by
 refine X.conv fun N ac w hN hf hS=>?_
 have hl:N.length=4:=hS.len
 obtain ⟨n0,n1,n2,n3,rfl⟩:∃ n0 n1 n2 n3,N=[n0,n1,n2,n3]:=by
  match N,hl with
  | [a,b,c,d],_=>exact ⟨a,b,c,d,rfl⟩
 refine ⟨E,⟨f',[r0,r1,b',a']⟩,rfl,rfl,rfl,rfl,⟨[n0,n1,n3,n2],by rw [h0];exact fun r p h=>by simp at h,hf.sh (hs n0 n1 n2 n3),?_⟩,h⟩
 obtain ⟨c0,c1,c2,c3⟩:=h1 n0 n1 n2 n3
 refine hS.perm rfl (fun i=>if i=2 then 3 else if i=3 then 2 else i) (fun i j e=>by (repeat' split at e)<;>omega) fun i x p hx hp=>?_
 match i,hx,hp with
 | 0,hx,hp =>
  simp only [List.getElem?_cons_zero,Option.some.injEq] at hx hp;subst hx;subst hp
  exact ⟨r0,rfl,rfl,rfl,rfl,ho.1,c0.get.2⟩
 | 1,hx,hp =>
  simp only [List.getElem?_cons_succ,List.getElem?_cons_zero,Option.some.injEq] at hx hp;subst hx;subst hp
  exact ⟨r1,rfl,rfl,rfl,rfl,ho.2.1,c1.get.2⟩
 | 2,hx,hp =>
  simp only [List.getElem?_cons_succ,List.getElem?_cons_zero,Option.some.injEq] at hx hp;subst hx;subst hp
  exact ⟨b,rfl,rfl,hown.2,c3.get.1,ho.2.2.2,c3.get.2⟩
 | 3,hx,hp =>
  simp only [List.getElem?_cons_succ,List.getElem?_cons_zero,Option.some.injEq] at hx hp;subst hx;subst hp
  exact ⟨a,rfl,rfl,hown.1,c2.get.1,ho.2.2.1,c2.get.2⟩
 | i+4,hx,hp=>simp at hx
end Go.Eng
namespace Go.Eng
open Go Go.ChangeShapes Go.WideShapes
def MapK (P:Program) (kt:TypeId) (m:Nat) (g:Value→Option Value) (w:World):Prop :=
 ∃ es clock,w.heap[m]?=some (.map es clock)∧(∀ e∈es.toList,(∃ l,keyOf P kt e.key=some l)∧g e.key=some e.val)∧∀ v u,g v=some u→∃ e∈es.toList,e.key=v
theorem MapK.ob {P:Program} {kt:TypeId} {m:Nat} {g:Value→Option Value} {w:World} (h:MapK P kt m g w):(objAt w m).isSome=true:=by
 obtain ⟨es,clock,h1,_⟩:=h
 rw [objAt_of h1 trivial];rfl
theorem MapK.at {P:Program} {kt:TypeId} {m:Nat} {g:Value→Option Value} {w w':World} (h:MapK P kt m g w) (hs:objAt w' m=objAt w m):MapK P kt m g w':=by
 obtain ⟨es,clock,h1,h2⟩:=h
 rw [objAt_of h1 trivial] at hs
 exact ⟨es,clock,heap_objAt hs,h2⟩
theorem MapK.loc {P:Program} {kt:TypeId} {m:Nat} {g:Value→Option Value}:Loc (fun k _=>k=m) (MapK P kt m g):=fun w1 w2 hs _ h=>h.at ((hs m 0 rfl).2)
theorem MapK.empty {P:Program} {kt:TypeId} {m:Nat} {w:World} {clock:Nat} (h:w.heap[m]?=some (.map #[] clock)):MapK P kt m (fun _=>none) w:=⟨_,_,h,fun e he=>by simp at he,fun v u hv=>by cases hv⟩
theorem run_lookup_key {P:Program} {m:Nat} {g:Value→Option Value} {w:World} {mt kt et:TypeId} (K:WideMaps.KeyLaw P kt) (h:MapK P kt m g w) {z x:Value} {l:Lit} (hu:P.underlying mt=some (.map kt et)) (hz:∀ w,(zeroValue et).run P w=.ok z w) (hx:keyOf P kt x=some l) :
  (Instr.lookup mt (.map (some m)) x true).run P w=.ok (.tuple #[(g x).getD z,.bool (g x).isSome]) w:=by
 obtain ⟨es,clock,h1,h2,h3⟩:=h
 have hc:=fun em=>K.check w em hx
 rcases K.find w hx es.toList (fun e he=>(h2 e he).1) with ⟨hf,hne⟩ | ⟨j,e,hf,he,hk⟩
 ·have hg:g x=none:=by
   cases hgx:g x with
   | none=>rfl
   | some u=>obtain ⟨e,he,hk⟩:=h3 x u hgx;exact absurd hk (hne e he)
  simp [Instr.lookup,run_underlying hu,Go.MapKept.run_getObj_map h1,hc,hf,hz,Result.andThen,hg]
 ·have hg:=(h2 e (List.mem_of_getElem? he)).2
  rw [hk] at hg
  simp [Instr.lookup,run_underlying hu,Go.MapKept.run_getObj_map h1,hc,hf,Result.andThen,hg]
theorem run_update_key {P:Program} {m:Nat} {g:Value→Option Value} {w:World} {mt kt et:TypeId} (K:WideMaps.KeyLaw P kt) (h:MapK P kt m g w) {x:Value} {l:Lit} (hu:P.underlying mt=some (.map kt et)) (hx:keyOf P kt x=some l) (hg:g x=none) (v:Value) :
  ∃ ob,(Instr.mapUpdate mt (.map (some m)) x v).run P w=.ok () (putOb w m ob)∧notCells ob∧MapK P kt m (fun q=>open Classical in if q=x then some v else g q) (putOb w m ob):=by
 have hm:=objAt_lt h.ob
 obtain ⟨es,clock,h1,h2,h3⟩:=h
 have hc:=fun em=>K.check w em hx
 rcases K.find w hx es.toList (fun e he=>(h2 e he).1) with ⟨hf,hne⟩ | ⟨j,e,hf,he,hk⟩
 ·refine ⟨.map (es.push { key:=x,val:=v,born:=clock }) (clock+1),?_,trivial,_,_,heap_put_same hm,fun e he=>?_,fun q u hq=>?_⟩
  ·simp [Instr.mapUpdate,run_underlying hu,Go.MapKept.run_getObj_map h1,hc,hf,Go.MapKept.run_setObj_map _ h1,Result.andThen,putOb]
  ·simp only [Array.toList_push,List.mem_append,List.mem_singleton] at he
   rcases he with he | rfl
   ·refine ⟨(h2 e he).1,?_⟩
    simp only
    rw [if_neg (hne e he)]
    exact (h2 e he).2
   ·exact ⟨⟨l,hx⟩,by simp⟩
  ·simp only at hq
   by_cases e1:q=x
   ·exact ⟨_,by rw [Array.toList_push];exact List.mem_append_right _ (List.mem_singleton.2 rfl),e1.symm⟩
   ·rw [if_neg e1] at hq
    obtain ⟨e,he,hk⟩:=h3 q u hq
    exact ⟨e,by rw [Array.toList_push];exact List.mem_append_left _ he,hk⟩
 ·have:=(h2 e (List.mem_of_getElem? he)).2
  rw [hk,hg] at this
  cases this
theorem EffOk.lookupK {E:Env} {N0:Nums} {rg:List Rg} {f:Fr} {mt kt et:TypeId} {x y:Operand} {m:Nat} {g:Value→Option Value} {ks:SV} {kv z:Value} {l:Lit} {v:SV} {b:Bool} (K:WideMaps.KeyLaw E.P kt) (hu:E.P.underlying mt=some (.map kt et)) (hz:∀ w,(zeroValue et).run E.P w=.ok z w) (hx:ev f x=some (.raw (.map (some m)))) (hy:ev f y=some ks)
  (hk:∀ N,ks.den N=some kv) (hl:keyOf E.P kt kv=some l) (hm:∀ w,E.R w→MapK E.P kt m g w) (hv:∀ N,N0.le N→v.den N=some ((g kv).getD z)) (hb:b=(g kv).isSome):EffOk E N0 rg f (.lookup mt x y true) (.tup [v,.bool (.lit b)]) rg :=
 EffOk.val fun N ρ o w hN hop hρ hS=>by
  have h1:=hρ _ _ hx
  have h2:=hρ _ _ hy
  rw [hk N] at h2
  simp only [SV.den,one?,if_true,Option.some.injEq] at h1 h2
  refine ⟨.tuple #[(g kv).getD z,.bool (g kv).isSome],by simp [SV.den,SV.denL,hv N hN,SB.den,hb],?_⟩
  simp [execOp,hop,←h1,←h2,run_lookup_key K (hm w hS.res) hu hz hl,Result.andThen]
section
variable {E:Ctx} {T:Tab} {all:Array Oper} {i:Nat} {rest:List Nat} {k:List It} {s:St} {o:Oper} {f:Fr}
theorem X.mapPutK (R':World→Prop) {mt kt et:TypeId} {x y u:Operand} {m:Nat} {ks v:SV} {kv:Value} {l:Lit} (g:Value→Option Value) (K:WideMaps.KeyLaw E.P kt) (ho:nth all.toList i=some o) (hg:o.guard=none) (hop:o.op=.mapUpdate mt x y u) (hu:E.P.underlying mt=some (.map kt et))
  (hx:ev s.fr x=some (.raw (.map (some m)))) (hy:ev s.fr y=some ks) (hk':∀ N,ks.den N=some kv) (hkl:keyOf E.P kt kv=some l) (hgn:g kv=none) (hv:ev s.fr u=some v) (hD:∃ o,E.D m o) (hO:∀ k o,E.D k o→E.W.heap.size≤k∨E.O k o) (him:∀ k o,E.D k o→E.im k o=none) (hrg:∀ g∈s.rg,g.own=true∨g.cells=[]) (hl:Loc E.D R')
  (hm:∀ w,E.R w→MapK E.P kt m g w) (hR:∀ N w c ob,E.N0.le N→Sat E.toEnv N s.rg w→v.den N=some c→notCells ob→MapK E.P kt m (fun q=>open Classical in if q=kv then some c else g q) (putOb w m ob)→R' (putOb w m ob))
  (hp:putO E.n s.fr o.dst (.val (.tup []))=some f) (hk:X (E.withR R') (.ops all rest::k) ⟨f,s.rg⟩):X E (.ops all (i::rest)::k) s:=by
 refine X.putR0 R' m ho hg hD hO him hrg hl (fun N a w hN hfr hS=>?_) hp hk
 have h1:=ev_sound hfr hx
 have h2:=ev_sound hfr hy
 have h3:=ev_sound hfr hv
 rw [hk' N] at h2
 simp only [SV.den,one?,if_true,Option.some.injEq] at h1 h2
 obtain ⟨ob,k1,k2,k3⟩:=run_update_key (P:=E.P) K (hm w hS.res) hu hkl hgn (a.eval u)
 refine ⟨ob,?_,(hm w hS.res).ob,k2,hR N w _ ob hN hS h3 k2 k3⟩
 simp [execOp,hop,←h1,←h2,k1,Result.andThen]
end
theorem Sat.stdRR {P:Program} {fn:Func} {Q:Ending→World→Prop} {w:World} {N:Nums} {rg:List Rg} {B:SchT} (D:Nat→Nat→Prop) (R:World→Prop) (im:Mem) (h:AllR (RgAt w N) N rg) (hs:PairR N rg) (hD:∀ k o,D k o→There w k o) (hl:Loc D R) (hR:R w)
  (hi:∀ k o v,im k o=some v→w.cell? ⟨k,o,none⟩=some v) (hd:∀ (r:Nat) (g:Rg) (p:Num),rg[r]?=some g→N[r]?=some p→g.own=true→∀ j,j<p.x→¬D p.b (p.o+j)∧im p.b (p.o+j)=none) (O:Nat→Nat→Prop) (hO:∀ (r:Nat) (g:Rg) (p:Num),rg[r]?=some g→N[r]?=some p→g.own=true→∀ j,j<p.x→O p.b (p.o+j)) :
  Sat (mkE P fn Q w O im D R N B).toEnv N rg w:=by
 have hS:=Sat.stdL (P:=P) (fn:=fn) (R:=Q) (B:=B) h hs
 refine ⟨hS.len,hS.lt,hS.cell,hS.ext,hS.room,hS.disj,fun r g p ob hg hp ho=>?_,hS.odisj,hi,fun r g p hg hp ho j hj=>(hd r g p hg hp ho j hj).2,fun r g p hg hp ho j hj=>(hd r g p hg hp ho j hj).1,hD,hl,hR,Chg.refl _ _,fun r g p hg hp ho=>.inr fun j hj=>hO r g p hg hp ho j hj⟩
 obtain ⟨_,h2,_⟩:=hS.obj r g p ob hg hp ho
 have:=hS.lt r p hp
 have h2:w.heap.size≤p.b:=h2
 omega
theorem X.beginRR {P:Program} {f:FuncId} {fn:Func} {c:Code} {args:Array Value} {w:World} {Q:Ending→World→Prop} {N:Nums} {rg:List Rg} {ss:List SV} (O D:Nat→Nat→Prop) (R:World→Prop) (im:Mem) (hf:P.funcs[f]?=some fn) (hb:fn.body=some c) {B:SchT} (hreg:regsO B fn.body=true)
  (hle:Nat.ble args.size fn.ntmps=true) (ha:SV.denL N ss=some args.toList) (hS:Sat (mkE P fn Q w O im D R N B).toEnv N rg w) (h:X (mkE P fn Q w O im D R N B) [.code c] ⟨argFr ss 0,rg⟩):Calls P f args w Q :=
 X.enter (mkE P fn Q w O im D R N B) hf hb rfl rfl rfl (by rw [hb] at hreg;exact hreg) (Nat.le_of_ble_eq_true hle) ha hS h
theorem EffOk.appG {E:Env} {N0:Nums} {T:Tab} (hT:TabOk E.P T) {rg:List Rg} {f:Fr} {x y:Operand} {ts tx e n m nn r:Nat} {ti te:TI} {sx sy:SV} {cs new cs':List SV} (hx:ev f x=some sx) (hsx:sx=gV r n te.size) (hy:ev f y=some sy) (hti:lookT T ts=some ti) (hk:ti.kind=.slice e) (hte:lookT T e=some te)
  (hr:rg[r]?=some ⟨true,cs,none⟩) (hcs:cs.length=n*te.size) (hm:m≠0) (hsrc:appSrc T rg te sy tx=some (new,m)) (hok:appV.appOk te new n m=true) (hnn:nn=n+m) (hcs':cs'=cs++new) :
  EffOk E N0 rg f (.call { callee:=.builtin .append,args:=#[x,y],argTypes:=#[ts,tx] }) (.osl rg.length 0 nn te.size none) (rg.set r ⟨false,[],none⟩++[⟨true,cs',none⟩]):=by
 subst hnn hcs'
 have hrl:r<rg.length:=(List.getElem?_eq_some_iff.1 hr).1
 by_cases hn:n=0
 ·subst hn
  have hcs0:cs=[]:=List.eq_nil_of_length_eq_zero (by rw [hcs,Nat.zero_mul])
  have hsx:sx=.raw (.slice none 0 0):=hsx
  subst hsx hcs0
  have h1:EffOk E N0 rg f (.call { callee:=.builtin .append,args:=#[x,y],argTypes:=#[ts,tx] }) (.osl rg.length 0 m te.size none) (rg++[⟨true,new,none⟩]):=EffOk.step hT (stepE_append hx hy hti hk hte hsrc (appV_nil hm hok))
  intro N ρ o w hN hop hf hS
  have h2:=h1 N ρ o w hN hop hf hS
  rw [Nat.zero_add,List.nil_append]
  have weak:∀ v w',(∃ N',N.le N'∧(SV.osl rg.length 0 m te.size none).den N'=some v∧Sat E N' (rg++[⟨true,new,none⟩]) w')→∃ N',N.le N'∧(SV.osl rg.length 0 m te.size none).den N'=some v∧Sat E N' (rg.set r ⟨false,[],none⟩++[⟨true,new,none⟩]) w':=fun v w' ⟨N',k1,k2,k3⟩=>by
   refine ⟨N',k1,k2,?_⟩
   have:=k3.retire (r:=r) (by simp;omega)
   rwa [List.set_append_left _ _ hrl] at this
  rcases h2 with ⟨v,w',hy',hv⟩ | ⟨g,args,he,hc⟩
  ·exact .inl ⟨v,w',hy',weak v w' hv⟩
  ·exact .inr ⟨g,args,he,hc.mono fun e w' ⟨v,e1,hv⟩=>⟨v,e1,weak v w' hv⟩⟩
 ·have hb:Nat.beq n 0=false:=by cases h:Nat.beq n 0 with | false=>rfl | true=>exact absurd (Nat.eq_of_beq_eq_true h) hn
  have hsx':sx=.osl r 0 n te.size none:=by rw [hsx];simp only [gV,hb,cond_false]
  subst hsx'
  exact EffOk.step hT (stepE_append hx hy hti hk hte hsrc (appV_hid (by rw [nth_eq];exact hr) hcs hm hok))
end Go.Eng
namespace Go.Proofs.YthpbefahaghbjaaGreat
open Go.Eng
theorem sameReply_ok (a b:RepP) (va vb:List Value) (w:World) (ha:RepL (wm w) a.toD va) (hb:RepL (wm w) b.toD vb) :
  Calls Tryz.prog 57 #[.agg va.toArray,.agg vb.toArray] w fun e w'=>e=.returned (.bool (decide (a=b)))∧Chg (fun _ _=>False) w w':=by
 obtain ⟨pa,ca,rfl,sa⟩:=RepP.open ha
 obtain ⟨pb,cb,rfl,sb⟩:=RepP.open hb
 clear ha hb
 obtain ⟨e1,i1,s1,l1⟩:=a
 obtain ⟨e2,i2,s2,l2⟩:=b
 obtain ⟨n1,hn1⟩:∃ n,n=l1.length:=⟨_,rfl⟩
 obtain ⟨n2,hn2⟩:∃ n,n=l2.length:=⟨_,rfl⟩
 obtain ⟨q,hq⟩:∃ q:Bool,q=decide ((⟨e1,i1,s1,l1⟩:RepP)=⟨e2,i2,s2,l2⟩):=⟨_,rfl⟩
 have hm:=maxLen_le
 have hl1:n1≤maxLen:=by rw [hn1];exact sa.len
 simp only [←hn1,←hn2,←hq]
 refine X.begin (rg:=[]) (N:=[]) (ss:=[.agg [.int .i64 (.v e1),.int .u64 (.v i1),.int .i64 (.v s1),.slv pa n1 ca],.agg [.int .i64 (.v e2),.int .u64 (.v i2),.int .i64 (.v s2),.slv pb n2 cb]]) Tryz.func57 rfl B57_ok rfl rfl Sat.std0 ?_
 obtain ⟨im,hime⟩:∃ im,im=elsewhere [] [] w:=⟨_,rfl⟩
 show X (mkE Tryz.prog Tryz.f57 _ w (InR [] []) (elsewhere [] [] w) (fun _ _=>False) (fun _=>True) [] B57) _ _
 rw [←hime]
 refine X.go T57_ok 400 _ rfl Tryz.results57 ?_
 conv=>arg 2;cbv
 refine X.cond rfl (fun hc=>?_) (fun hc=>?_)
 ·refine X.go T57_ok 400 _ rfl Tryz.results57 ?_
  conv=>arg 2;cbv
  refine X.done T57_ok rfl (fun N w' v hN hS hv=>⟨fin_bool hv ?_,hS.chg.mono fun k o _ h=>inR_nil h⟩)
  simp only [SB.T,SB.F,SI.den] at hc
  rw [hq];symm
  refine decide_eq_false fun h=>?_
  cases h
  omega
 simp only [SB.T,SB.F,SI.den] at hc
 obtain ⟨⟨⟨rfl,rfl⟩,rfl⟩,hnn⟩:=hc
 obtain rfl:n1=n2:=by omega
 refine X.go T57_ok 400 _ rfl Tryz.results57 ?_
 conv=>arg 2;cbv
 refine X.loop1 (fun i:{i:Nat // i≤n1∧l1.take i=l2.take i}=>⟨[(2,.val (.own 0 0)),(3,.val (.own 1 0)),(36,.val (.int .i64 (.nat n1))),(37,.val (.int .i64 (.nat i.1)))],[⟨true,[.int .i64 (.v e1),.int .u64 (.v i1),.int .i64 (.v s1),.slv pa n1 ca],none⟩,⟨true,[.int .i64 (.v e1),.int .u64 (.v i1),.int .i64 (.v s1),.slv pb n1 cb],none⟩]⟩) (fun i=>n1-i.1) (fun N a w' hN hf hS=>⟨⟨0,Nat.zero_le _,rfl⟩,?_⟩) (fun i q' hq'=>?_)
 ·exact At.again hf hS (by repeat first | exact trivial | refine ⟨⟨_,rfl,.inl ⟨rfl,rfl⟩⟩,?_⟩ | refine ⟨⟨_,rfl,.inr ⟨_,rfl,rfl⟩⟩,?_⟩ | refine ⟨⟨_,rfl,.inr ⟨_,rfl,by simp (disch:=omega) [SV.den,SI.den,wrapU,wrapD]<;>omega⟩⟩,?_⟩) (by repeat first | exact trivial | refine ⟨fun h=>h,SubC.refl rfl,rfl,?_⟩)
 obtain ⟨i,hi,htk⟩:=i
 refine X.go T57_ok 400 _ rfl Tryz.results57 ?_
 conv=>arg 2;cbv
 refine X.cond rfl (fun hlt=>?_) (fun hge=>?_)
 ·simp only [SB.T,SI.den] at hlt
  have hlt:i<n1:=by omega
  refine X.go T57_ok 400 _ rfl Tryz.results57 ?_
  conv=>arg 2;cbv
  obtain ⟨x1,hx1⟩:∃ x,l1[i]?=some x:=⟨_,List.getElem?_eq_getElem (by omega)⟩
  obtain ⟨x2,hx2⟩:∃ x,l2[i]?=some x:=⟨_,List.getElem?_eq_getElem (by omega)⟩
  obtain ⟨b1,y1,_,hp1,hr1,hm1⟩:=sa.his hx1
  obtain ⟨b2,y2,_,hp2,hr2,hm2⟩:=sb.his hx2
  rw [i64D.open hr1,←hime] at hm1
  rw [i64D.open hr2,←hime] at hm2
  refine X.see b1 (y1+i*1) [.int .i64 (.v x1)] (one_see (hm1 0 _ rfl)) Nat.zero_lt_one (fun N1 hN1 hNl1=>?_)
  refine X.see b2 (y2+i*1) [.int .i64 (.v x2)] (one_see (hm2 0 _ rfl)) Nat.zero_lt_one (fun N2 hN2 hNl2=>?_)
  have hg3:(N2++[(⟨b2,y2+i*1,0⟩:Num)])[3]?=some ⟨b2,y2+i*1,0⟩:=num_last hNl2
  have hg2:(N2++[(⟨b2,y2+i*1,0⟩:Num)])[2]?=some ⟨b1,y1+i*1,0⟩:=num_old (hN2 2 _ (num_last hNl1))
  refine X.goP ([(43,.own 2 0),(48,.own 3 0)]) T57_ok 400 _ rfl Tryz.results57 (fun pr fin hpr hfin=>?_)
  conv=>cbv
  refine ⟨hpr _ (ValOk.row rfl rfl (fun _=>rfl) Tryz.underlying36 Tryz.sizeOf2 hlt hp2 hg3 rfl rfl),hpr _ (ValOk.row rfl rfl (fun _=>rfl) Tryz.underlying36 Tryz.sizeOf2 hlt hp1 hg2 rfl rfl),hfin _ _ ?_⟩
  refine X.cond rfl (fun hne=>?_) (fun heq=>?_)
  ·simp only [SB.T,SI.den] at hne
   refine X.go T57_ok 400 _ rfl Tryz.results57 ?_
   conv=>arg 2;cbv
   refine X.done T57_ok rfl (fun N w' v hN hS hv=>⟨fin_bool hv ?_,hS.chg.mono fun k o _ h=>inR_nil h⟩)
   rw [hq];symm
   refine decide_eq_false fun h=>hne ?_
   cases h
   rw [hx1] at hx2
   exact Option.some.inj hx2
  ·simp only [SB.F,SI.den] at heq
   subst heq
   refine X.go T57_ok 400 _ rfl Tryz.results57 ?_
   conv=>arg 2;cbv
   refine X.back (fun N a w' hN hf hS=>hq' ⟨i+1,by omega,take_next htk hx1 hx2⟩ a w' (by simp only;omega) ?_)
   exact At.again hf hS (by repeat first | exact trivial | refine ⟨⟨_,rfl,.inl ⟨rfl,rfl⟩⟩,?_⟩ | refine ⟨⟨_,rfl,.inr ⟨_,rfl,rfl⟩⟩,?_⟩ | refine ⟨⟨_,rfl,.inr ⟨_,rfl,by simp (disch:=omega) [SV.den,SI.den,wrapU,wrapD]<;>omega⟩⟩,?_⟩) (by repeat first | exact trivial | refine ⟨fun h=>h,SubC.refl rfl,rfl,?_⟩)
 simp only [SB.F,SI.den] at hge
 obtain rfl:i=n1:=by omega
 refine X.go T57_ok 400 _ rfl Tryz.results57 ?_
 conv=>arg 2;cbv
 refine X.done T57_ok rfl (fun N w' v hN hS hv=>⟨fin_bool hv ?_,hS.chg.mono fun k o _ h=>inR_nil h⟩)
 rw [hq];symm
 refine decide_eq_true ?_
 rw [take_all htk hn1 hn2]
def BalP.none (b:BalP):Bool:=b.count == 0&&(b.node == 0&&b.life == 0)
def BalP.less (a b:BalP):Bool:=if a.count≠b.count then decide (a.count<b.count) else if a.node≠b.node then decide (a.node<b.node) else decide (a.life<b.life)
def RepP.may (r:RepP):Bool:=decide (0≤r.err)&&(decide (r.err≤99)&&(decide (0≤r.state)&&(decide (r.state<32)&&decide (r.vars.length≤8))))
def BalP.vals (b:BalP):List Value:=[.int .u64 b.count,.int .u8 b.node,.int .u32 b.life]
def mayNP (l:List Int):Prop:=∀ (i:Nat) (x:Int),l[i]?=some x→x≤63∧(0<i→∀ y,l[i-1]?=some y→y<x)
noncomputable def othersN (l m:List Int):Nat→Nat
 | 0=>0
 | n+1=>othersN l m n+(match l[n]? with | some x=>if B (x∈m) then 0 else 1 | none=>0)
theorem eqU8_ok (l m:List Int) (p p2:Option Addr) (c c2:Nat) (w:World) (hs:SlR (wm w) p c 1 (l.map u8D)) (hs2:SlR (wm w) p2 c2 1 (m.map u8D)) :
  Calls Tryz.prog 48 #[.slice p l.length c,.slice p2 m.length c2] w fun e w'=>e=.returned (.bool (B (l=m)))∧Chg (fun _ _=>False) w w':=by
 obtain ⟨q,hq⟩:∃ q,q=B (l=m):=⟨_,rfl⟩
 obtain ⟨n,hn⟩:∃ n,n=l.length:=⟨_,rfl⟩
 obtain ⟨n2,hn2⟩:∃ n,n=m.length:=⟨_,rfl⟩
 have hm:=maxLen_le
 have hl:n≤maxLen:=by rw [hn];exact hs.len
 rw [←hq,←hn,←hn2]
 refine X.begin (rg:=[]) (N:=[]) (ss:=[.slv p n c,.slv p2 n2 c2]) Tryz.func48 rfl B48_ok rfl rfl Sat.std0 ?_
 obtain ⟨im,hime⟩:∃ im,im=elsewhere [] [] w:=⟨_,rfl⟩
 show X (mkE Tryz.prog Tryz.f48 _ w (InR [] []) (elsewhere [] [] w) (fun _ _=>False) (fun _=>True) [] B48) _ _
 rw [←hime]
 refine X.go T48_ok 400 _ rfl Tryz.results48 ?_
 conv=>arg 2;cbv
 refine X.cond rfl (fun hc=>?_) (fun hc=>?_)
 ·refine X.go T48_ok 400 _ rfl Tryz.results48 ?_
  conv=>arg 2;cbv
  refine X.done T48_ok rfl (fun N w' v hN hS hv=>⟨fin_bool hv ?_,hS.chg.mono fun k o _ h=>inR_nil h⟩)
  simp only [SB.T,SB.F,SI.den] at hc
  rw [hq]
  refine (B_neg fun h=>?_).symm
  subst h
  omega
 simp only [SB.T,SB.F,SI.den] at hc
 obtain rfl:n=n2:=by omega
 refine X.go T48_ok 400 _ rfl Tryz.results48 ?_
 conv=>arg 2;cbv
 refine X.loop1 (fun i:{i:Nat // i≤n∧l.take i=m.take i}=>⟨[(0,.val (.slv p n c)),(1,.val (.slv p2 n c2)),(12,.val (.int .i64 (.nat n))),(13,.val (.int .i64 (.nat i.1)))],[]⟩) (fun i=>n-i.1) (fun N a w' hN hf hS=>⟨⟨0,Nat.zero_le _,rfl⟩,?_⟩) (fun i q' hq'=>?_)
 ·exact At.again hf hS (by repeat first | exact trivial | refine ⟨⟨_,rfl,.inl ⟨rfl,rfl⟩⟩,?_⟩ | refine ⟨⟨_,rfl,.inr ⟨_,rfl,rfl⟩⟩,?_⟩ | refine ⟨⟨_,rfl,.inr ⟨_,rfl,by simp (disch:=omega) [SV.den,SI.den,wrapU,wrapD]<;>omega⟩⟩,?_⟩) trivial
 obtain ⟨i,hi,htk⟩:=i
 refine X.go T48_ok 400 _ rfl Tryz.results48 ?_
 conv=>arg 2;cbv
 refine X.cond rfl (fun hlt=>?_) (fun hge=>?_)
 ·simp only [SB.T,SI.den] at hlt
  have hlt:i<n:=by omega
  obtain ⟨x1,hx1⟩:∃ x,l[i]?=some x:=⟨_,List.getElem?_eq_getElem (by omega)⟩
  obtain ⟨x2,hx2⟩:∃ x,m[i]?=some x:=⟨_,List.getElem?_eq_getElem (by omega)⟩
  obtain ⟨b1,y1,_,hp1,hr1,hm1⟩:=hs.his hx1
  obtain ⟨b2,y2,_,hp2,hr2,hm2⟩:=hs2.his hx2
  rw [u8D.open hr1,←hime] at hm1
  rw [u8D.open hr2,←hime] at hm2
  skip
  skip
  refine X.see b1 (y1+i*1) [.int .u8 (.v x1)] (see_of hm1 rfl) (by simp) (fun N1 hN1 hNl1=>?_)
  refine X.see b2 (y2+i*1) [.int .u8 (.v x2)] (see_of hm2 rfl) (by simp) (fun N2 hN2 hNl2=>?_)
  have hg1:(N2++[(⟨b2,y2+i*1,0⟩:Num)])[1]?=some ⟨b2,y2+i*1,0⟩:=num_last hNl2
  have hg0:(N2++[(⟨b2,y2+i*1,0⟩:Num)])[0]?=some ⟨b1,y1+i*1,0⟩:=num_old (hN2 0 _ (num_last hNl1))
  refine X.goP ([(18,.own 0 0),(22,.own 1 0)]) T48_ok 400 _ rfl Tryz.results48 (fun pr fin hpr hfin=>?_)
  conv=>cbv
  refine ⟨hpr _ (ValOk.row rfl rfl (fun _=>rfl) Tryz.underlying30 Tryz.sizeOf5 hlt hp2 hg1 rfl rfl),hpr _ (ValOk.row rfl rfl (fun _=>rfl) Tryz.underlying30 Tryz.sizeOf5 hlt hp1 hg0 rfl rfl),hfin _ _ ?_⟩
  refine X.cond rfl (fun hne=>?_) (fun heq=>?_)
  ·simp only [SB.T,SB.F,SI.den] at hne
   refine X.go T48_ok 400 _ rfl Tryz.results48 ?_
   conv=>arg 2;cbv
   refine X.done T48_ok rfl (fun N w' v hN hS hv=>⟨fin_bool hv ?_,hS.chg.mono fun k o _ h=>inR_nil h⟩)
   rw [hq]
   refine (B_neg fun h=>?_).symm
   subst h
   rw [hx1] at hx2
   have:=Option.some.inj hx2
   simp_all
  ·simp only [SB.T,SB.F,SI.den] at heq
   subst heq
   refine X.go T48_ok 400 _ rfl Tryz.results48 ?_
   conv=>arg 2;cbv
   refine X.back (fun N a w' hN hf hS=>hq' ⟨i+1,by omega,take_next htk hx1 hx2⟩ a w' (by simp only;omega) ?_)
   exact At.again hf hS (by repeat first | exact trivial | refine ⟨⟨_,rfl,.inl ⟨rfl,rfl⟩⟩,?_⟩ | refine ⟨⟨_,rfl,.inr ⟨_,rfl,rfl⟩⟩,?_⟩ | refine ⟨⟨_,rfl,.inr ⟨_,rfl,by simp (disch:=omega) [SV.den,SI.den,wrapU,wrapD]<;>omega⟩⟩,?_⟩) trivial
 simp only [SB.F,SI.den] at hge
 obtain rfl:i=n:=by omega
 refine X.go T48_ok 400 _ rfl Tryz.results48 ?_
 conv=>arg 2;cbv
 refine X.done T48_ok rfl (fun N w' v hN hS hv=>⟨fin_bool hv ?_,hS.chg.mono fun k o _ h=>inR_nil h⟩)
 rw [hq]
 exact (B_pos (take_all htk hn hn2)).symm
theorem eqI64_ok (l m:List Int) (p p2:Option Addr) (c c2:Nat) (w:World) (hs:SlR (wm w) p c 1 (l.map i64D)) (hs2:SlR (wm w) p2 c2 1 (m.map i64D)) :
  Calls Tryz.prog 51 #[.slice p l.length c,.slice p2 m.length c2] w fun e w'=>e=.returned (.bool (B (l=m)))∧Chg (fun _ _=>False) w w':=by
 obtain ⟨q,hq⟩:∃ q,q=B (l=m):=⟨_,rfl⟩
 obtain ⟨n,hn⟩:∃ n,n=l.length:=⟨_,rfl⟩
 obtain ⟨n2,hn2⟩:∃ n,n=m.length:=⟨_,rfl⟩
 have hm:=maxLen_le
 have hl:n≤maxLen:=by rw [hn];exact hs.len
 rw [←hq,←hn,←hn2]
 refine X.begin (rg:=[]) (N:=[]) (ss:=[.slv p n c,.slv p2 n2 c2]) Tryz.func51 rfl B51_ok rfl rfl Sat.std0 ?_
 obtain ⟨im,hime⟩:∃ im,im=elsewhere [] [] w:=⟨_,rfl⟩
 show X (mkE Tryz.prog Tryz.f51 _ w (InR [] []) (elsewhere [] [] w) (fun _ _=>False) (fun _=>True) [] B51) _ _
 rw [←hime]
 refine X.go T51_ok 400 _ rfl Tryz.results51 ?_
 conv=>arg 2;cbv
 refine X.cond rfl (fun hc=>?_) (fun hc=>?_)
 ·refine X.go T51_ok 400 _ rfl Tryz.results51 ?_
  conv=>arg 2;cbv
  refine X.done T51_ok rfl (fun N w' v hN hS hv=>⟨fin_bool hv ?_,hS.chg.mono fun k o _ h=>inR_nil h⟩)
  simp only [SB.T,SB.F,SI.den] at hc
  rw [hq]
  refine (B_neg fun h=>?_).symm
  subst h
  omega
 simp only [SB.T,SB.F,SI.den] at hc
 obtain rfl:n=n2:=by omega
 refine X.go T51_ok 400 _ rfl Tryz.results51 ?_
 conv=>arg 2;cbv
 refine X.loop1 (fun i:{i:Nat // i≤n∧l.take i=m.take i}=>⟨[(0,.val (.slv p n c)),(1,.val (.slv p2 n c2)),(12,.val (.int .i64 (.nat n))),(13,.val (.int .i64 (.nat i.1)))],[]⟩) (fun i=>n-i.1) (fun N a w' hN hf hS=>⟨⟨0,Nat.zero_le _,rfl⟩,?_⟩) (fun i q' hq'=>?_)
 ·exact At.again hf hS (by repeat first | exact trivial | refine ⟨⟨_,rfl,.inl ⟨rfl,rfl⟩⟩,?_⟩ | refine ⟨⟨_,rfl,.inr ⟨_,rfl,rfl⟩⟩,?_⟩ | refine ⟨⟨_,rfl,.inr ⟨_,rfl,by simp (disch:=omega) [SV.den,SI.den,wrapU,wrapD]<;>omega⟩⟩,?_⟩) trivial
 obtain ⟨i,hi,htk⟩:=i
 refine X.go T51_ok 400 _ rfl Tryz.results51 ?_
 conv=>arg 2;cbv
 refine X.cond rfl (fun hlt=>?_) (fun hge=>?_)
 ·simp only [SB.T,SI.den] at hlt
  have hlt:i<n:=by omega
  obtain ⟨x1,hx1⟩:∃ x,l[i]?=some x:=⟨_,List.getElem?_eq_getElem (by omega)⟩
  obtain ⟨x2,hx2⟩:∃ x,m[i]?=some x:=⟨_,List.getElem?_eq_getElem (by omega)⟩
  obtain ⟨b1,y1,_,hp1,hr1,hm1⟩:=hs.his hx1
  obtain ⟨b2,y2,_,hp2,hr2,hm2⟩:=hs2.his hx2
  rw [i64D.open hr1,←hime] at hm1
  rw [i64D.open hr2,←hime] at hm2
  skip
  skip
  refine X.see b1 (y1+i*1) [.int .i64 (.v x1)] (see_of hm1 rfl) (by simp) (fun N1 hN1 hNl1=>?_)
  refine X.see b2 (y2+i*1) [.int .i64 (.v x2)] (see_of hm2 rfl) (by simp) (fun N2 hN2 hNl2=>?_)
  have hg1:(N2++[(⟨b2,y2+i*1,0⟩:Num)])[1]?=some ⟨b2,y2+i*1,0⟩:=num_last hNl2
  have hg0:(N2++[(⟨b2,y2+i*1,0⟩:Num)])[0]?=some ⟨b1,y1+i*1,0⟩:=num_old (hN2 0 _ (num_last hNl1))
  refine X.goP ([(18,.own 0 0),(22,.own 1 0)]) T51_ok 400 _ rfl Tryz.results51 (fun pr fin hpr hfin=>?_)
  conv=>cbv
  refine ⟨hpr _ (ValOk.row rfl rfl (fun _=>rfl) Tryz.underlying36 Tryz.sizeOf2 hlt hp2 hg1 rfl rfl),hpr _ (ValOk.row rfl rfl (fun _=>rfl) Tryz.underlying36 Tryz.sizeOf2 hlt hp1 hg0 rfl rfl),hfin _ _ ?_⟩
  refine X.cond rfl (fun hne=>?_) (fun heq=>?_)
  ·simp only [SB.T,SB.F,SI.den] at hne
   refine X.go T51_ok 400 _ rfl Tryz.results51 ?_
   conv=>arg 2;cbv
   refine X.done T51_ok rfl (fun N w' v hN hS hv=>⟨fin_bool hv ?_,hS.chg.mono fun k o _ h=>inR_nil h⟩)
   rw [hq]
   refine (B_neg fun h=>?_).symm
   subst h
   rw [hx1] at hx2
   have:=Option.some.inj hx2
   simp_all
  ·simp only [SB.T,SB.F,SI.den] at heq
   subst heq
   refine X.go T51_ok 400 _ rfl Tryz.results51 ?_
   conv=>arg 2;cbv
   refine X.back (fun N a w' hN hf hS=>hq' ⟨i+1,by omega,take_next htk hx1 hx2⟩ a w' (by simp only;omega) ?_)
   exact At.again hf hS (by repeat first | exact trivial | refine ⟨⟨_,rfl,.inl ⟨rfl,rfl⟩⟩,?_⟩ | refine ⟨⟨_,rfl,.inr ⟨_,rfl,rfl⟩⟩,?_⟩ | refine ⟨⟨_,rfl,.inr ⟨_,rfl,by simp (disch:=omega) [SV.den,SI.den,wrapU,wrapD]<;>omega⟩⟩,?_⟩) trivial
 simp only [SB.F,SI.den] at hge
 obtain rfl:i=n:=by omega
 refine X.go T51_ok 400 _ rfl Tryz.results51 ?_
 conv=>arg 2;cbv
 refine X.done T51_ok rfl (fun N w' v hN hS hv=>⟨fin_bool hv ?_,hS.chg.mono fun k o _ h=>inR_nil h⟩)
 rw [hq]
 exact (B_pos (take_all htk hn hn2)).symm
theorem eqCell_ok (l m:List CellP) (p p2:Option Addr) (c c2:Nat) (w:World) (hs:SlR (wm w) p c 4 (l.map CellP.toD)) (hs2:SlR (wm w) p2 c2 4 (m.map CellP.toD)) :
  Calls Tryz.prog 53 #[.slice p l.length c,.slice p2 m.length c2] w fun e w'=>e=.returned (.bool (B (l=m)))∧Chg (fun _ _=>False) w w':=by
 obtain ⟨q,hq⟩:∃ q,q=B (l=m):=⟨_,rfl⟩
 obtain ⟨n,hn⟩:∃ n,n=l.length:=⟨_,rfl⟩
 obtain ⟨n2,hn2⟩:∃ n,n=m.length:=⟨_,rfl⟩
 have hm:=maxLen_le
 have hl:n≤maxLen:=by rw [hn];exact hs.len
 rw [←hq,←hn,←hn2]
 refine X.begin (rg:=[]) (N:=[]) (ss:=[.slv p n c,.slv p2 n2 c2]) Tryz.func53 rfl B53_ok rfl rfl Sat.std0 ?_
 obtain ⟨im,hime⟩:∃ im,im=elsewhere [] [] w:=⟨_,rfl⟩
 show X (mkE Tryz.prog Tryz.f53 _ w (InR [] []) (elsewhere [] [] w) (fun _ _=>False) (fun _=>True) [] B53) _ _
 rw [←hime]
 refine X.go T53_ok 400 _ rfl Tryz.results53 ?_
 conv=>arg 2;cbv
 refine X.cond rfl (fun hc=>?_) (fun hc=>?_)
 ·refine X.go T53_ok 400 _ rfl Tryz.results53 ?_
  conv=>arg 2;cbv
  refine X.done T53_ok rfl (fun N w' v hN hS hv=>⟨fin_bool hv ?_,hS.chg.mono fun k o _ h=>inR_nil h⟩)
  simp only [SB.T,SB.F,SI.den] at hc
  rw [hq]
  refine (B_neg fun h=>?_).symm
  subst h
  omega
 simp only [SB.T,SB.F,SI.den] at hc
 obtain rfl:n=n2:=by omega
 refine X.go T53_ok 400 _ rfl Tryz.results53 ?_
 conv=>arg 2;cbv
 refine X.loop1 (fun i:{i:Nat // i≤n∧l.take i=m.take i}=>⟨[(0,.val (.slv p n c)),(1,.val (.slv p2 n c2)),(12,.val (.int .i64 (.nat n))),(13,.val (.int .i64 (.nat i.1)))],[]⟩) (fun i=>n-i.1) (fun N a w' hN hf hS=>⟨⟨0,Nat.zero_le _,rfl⟩,?_⟩) (fun i q' hq'=>?_)
 ·exact At.again hf hS (by repeat first | exact trivial | refine ⟨⟨_,rfl,.inl ⟨rfl,rfl⟩⟩,?_⟩ | refine ⟨⟨_,rfl,.inr ⟨_,rfl,rfl⟩⟩,?_⟩ | refine ⟨⟨_,rfl,.inr ⟨_,rfl,by simp (disch:=omega) [SV.den,SI.den,wrapU,wrapD]<;>omega⟩⟩,?_⟩) trivial
 obtain ⟨i,hi,htk⟩:=i
 refine X.go T53_ok 400 _ rfl Tryz.results53 ?_
 conv=>arg 2;cbv
 refine X.cond rfl (fun hlt=>?_) (fun hge=>?_)
 ·simp only [SB.T,SI.den] at hlt
  have hlt:i<n:=by omega
  obtain ⟨x1,hx1⟩:∃ x,l[i]?=some x:=⟨_,List.getElem?_eq_getElem (by omega)⟩
  obtain ⟨x2,hx2⟩:∃ x,m[i]?=some x:=⟨_,List.getElem?_eq_getElem (by omega)⟩
  obtain ⟨b1,y1,_,hp1,hr1,hm1⟩:=hs.his hx1
  obtain ⟨b2,y2,_,hp2,hr2,hm2⟩:=hs2.his hx2
  rw [CellP.open hr1,←hime] at hm1
  rw [CellP.open hr2,←hime] at hm2
  obtain ⟨n1,t1,a1,r1⟩:=x1
  obtain ⟨n2,t2,a2,r2⟩:=x2
  refine X.see b1 (y1+i*4) [.int .u64 (.v n1),.int .u8 (.v t1),.int .i64 (.v a1),.int .i64 (.v r1)] (see_of hm1 rfl) (by simp) (fun N1 hN1 hNl1=>?_)
  refine X.see b2 (y2+i*4) [.int .u64 (.v n2),.int .u8 (.v t2),.int .i64 (.v a2),.int .i64 (.v r2)] (see_of hm2 rfl) (by simp) (fun N2 hN2 hNl2=>?_)
  have hg1:(N2++[(⟨b2,y2+i*4,0⟩:Num)])[1]?=some ⟨b2,y2+i*4,0⟩:=num_last hNl2
  have hg0:(N2++[(⟨b2,y2+i*4,0⟩:Num)])[0]?=some ⟨b1,y1+i*4,0⟩:=num_old (hN2 0 _ (num_last hNl1))
  refine X.goP ([(18,.own 0 0),(22,.own 1 0)]) T53_ok 400 _ rfl Tryz.results53 (fun pr fin hpr hfin=>?_)
  conv=>cbv
  refine ⟨hpr _ (ValOk.row rfl rfl (fun _=>rfl) Tryz.underlying38 Tryz.sizeOf96 hlt hp2 hg1 rfl rfl),hpr _ (ValOk.row rfl rfl (fun _=>rfl) Tryz.underlying38 Tryz.sizeOf96 hlt hp1 hg0 rfl rfl),hfin _ _ ?_⟩
  refine X.cond rfl (fun hne=>?_) (fun heq=>?_)
  ·simp only [SB.T,SB.F,SI.den] at hne
   refine X.go T53_ok 400 _ rfl Tryz.results53 ?_
   conv=>arg 2;cbv
   refine X.done T53_ok rfl (fun N w' v hN hS hv=>⟨fin_bool hv ?_,hS.chg.mono fun k o _ h=>inR_nil h⟩)
   rw [hq]
   refine (B_neg fun h=>?_).symm
   subst h
   rw [hx1] at hx2
   have:=Option.some.inj hx2
   simp_all
  ·simp only [SB.T,SB.F,SI.den] at heq
   obtain ⟨rfl,rfl,rfl,rfl⟩:=heq
   refine X.go T53_ok 400 _ rfl Tryz.results53 ?_
   conv=>arg 2;cbv
   refine X.back (fun N a w' hN hf hS=>hq' ⟨i+1,by omega,take_next htk hx1 hx2⟩ a w' (by simp only;omega) ?_)
   exact At.again hf hS (by repeat first | exact trivial | refine ⟨⟨_,rfl,.inl ⟨rfl,rfl⟩⟩,?_⟩ | refine ⟨⟨_,rfl,.inr ⟨_,rfl,rfl⟩⟩,?_⟩ | refine ⟨⟨_,rfl,.inr ⟨_,rfl,by simp (disch:=omega) [SV.den,SI.den,wrapU,wrapD]<;>omega⟩⟩,?_⟩) trivial
 simp only [SB.F,SI.den] at hge
 obtain rfl:i=n:=by omega
 refine X.go T53_ok 400 _ rfl Tryz.results53 ?_
 conv=>arg 2;cbv
 refine X.done T53_ok rfl (fun N w' v hN hS hv=>⟨fin_bool hv ?_,hS.chg.mono fun k o _ h=>inR_nil h⟩)
 rw [hq]
 exact (B_pos (take_all htk hn hn2)).symm
theorem eqMark_ok (l m:List MarkP) (p p2:Option Addr) (c c2:Nat) (w:World) (hs:SlR (wm w) p c 3 (l.map MarkP.toD)) (hs2:SlR (wm w) p2 c2 3 (m.map MarkP.toD)) :
  Calls Tryz.prog 54 #[.slice p l.length c,.slice p2 m.length c2] w fun e w'=>e=.returned (.bool (B (l=m)))∧Chg (fun _ _=>False) w w':=by
 obtain ⟨q,hq⟩:∃ q,q=B (l=m):=⟨_,rfl⟩
 obtain ⟨n,hn⟩:∃ n,n=l.length:=⟨_,rfl⟩
 obtain ⟨n2,hn2⟩:∃ n,n=m.length:=⟨_,rfl⟩
 have hm:=maxLen_le
 have hl:n≤maxLen:=by rw [hn];exact hs.len
 rw [←hq,←hn,←hn2]
 refine X.begin (rg:=[]) (N:=[]) (ss:=[.slv p n c,.slv p2 n2 c2]) Tryz.func54 rfl B54_ok rfl rfl Sat.std0 ?_
 obtain ⟨im,hime⟩:∃ im,im=elsewhere [] [] w:=⟨_,rfl⟩
 show X (mkE Tryz.prog Tryz.f54 _ w (InR [] []) (elsewhere [] [] w) (fun _ _=>False) (fun _=>True) [] B54) _ _
 rw [←hime]
 refine X.go T54_ok 400 _ rfl Tryz.results54 ?_
 conv=>arg 2;cbv
 refine X.cond rfl (fun hc=>?_) (fun hc=>?_)
 ·refine X.go T54_ok 400 _ rfl Tryz.results54 ?_
  conv=>arg 2;cbv
  refine X.done T54_ok rfl (fun N w' v hN hS hv=>⟨fin_bool hv ?_,hS.chg.mono fun k o _ h=>inR_nil h⟩)
  simp only [SB.T,SB.F,SI.den] at hc
  rw [hq]
  refine (B_neg fun h=>?_).symm
  subst h
  omega
 simp only [SB.T,SB.F,SI.den] at hc
 obtain rfl:n=n2:=by omega
 refine X.go T54_ok 400 _ rfl Tryz.results54 ?_
 conv=>arg 2;cbv
 refine X.loop1 (fun i:{i:Nat // i≤n∧l.take i=m.take i}=>⟨[(0,.val (.slv p n c)),(1,.val (.slv p2 n c2)),(12,.val (.int .i64 (.nat n))),(13,.val (.int .i64 (.nat i.1)))],[]⟩) (fun i=>n-i.1) (fun N a w' hN hf hS=>⟨⟨0,Nat.zero_le _,rfl⟩,?_⟩) (fun i q' hq'=>?_)
 ·exact At.again hf hS (by repeat first | exact trivial | refine ⟨⟨_,rfl,.inl ⟨rfl,rfl⟩⟩,?_⟩ | refine ⟨⟨_,rfl,.inr ⟨_,rfl,rfl⟩⟩,?_⟩ | refine ⟨⟨_,rfl,.inr ⟨_,rfl,by simp (disch:=omega) [SV.den,SI.den,wrapU,wrapD]<;>omega⟩⟩,?_⟩) trivial
 obtain ⟨i,hi,htk⟩:=i
 refine X.go T54_ok 400 _ rfl Tryz.results54 ?_
 conv=>arg 2;cbv
 refine X.cond rfl (fun hlt=>?_) (fun hge=>?_)
 ·simp only [SB.T,SI.den] at hlt
  have hlt:i<n:=by omega
  obtain ⟨x1,hx1⟩:∃ x,l[i]?=some x:=⟨_,List.getElem?_eq_getElem (by omega)⟩
  obtain ⟨x2,hx2⟩:∃ x,m[i]?=some x:=⟨_,List.getElem?_eq_getElem (by omega)⟩
  obtain ⟨b1,y1,_,hp1,hr1,hm1⟩:=hs.his hx1
  obtain ⟨b2,y2,_,hp2,hr2,hm2⟩:=hs2.his hx2
  rw [MarkP.open hr1,←hime] at hm1
  rw [MarkP.open hr2,←hime] at hm2
  obtain ⟨s1,j1,c1x⟩:=x1
  obtain ⟨s2,j2,c2x⟩:=x2
  refine X.see b1 (y1+i*3) [.int .u8 (.v s1),.int .u64 (.v j1),.int .u64 (.v c1x)] (see_of hm1 rfl) (by simp) (fun N1 hN1 hNl1=>?_)
  refine X.see b2 (y2+i*3) [.int .u8 (.v s2),.int .u64 (.v j2),.int .u64 (.v c2x)] (see_of hm2 rfl) (by simp) (fun N2 hN2 hNl2=>?_)
  have hg1:(N2++[(⟨b2,y2+i*3,0⟩:Num)])[1]?=some ⟨b2,y2+i*3,0⟩:=num_last hNl2
  have hg0:(N2++[(⟨b2,y2+i*3,0⟩:Num)])[0]?=some ⟨b1,y1+i*3,0⟩:=num_old (hN2 0 _ (num_last hNl1))
  refine X.goP ([(18,.own 0 0),(22,.own 1 0)]) T54_ok 400 _ rfl Tryz.results54 (fun pr fin hpr hfin=>?_)
  conv=>cbv
  refine ⟨hpr _ (ValOk.row rfl rfl (fun _=>rfl) Tryz.underlying39 Tryz.sizeOf99 hlt hp2 hg1 rfl rfl),hpr _ (ValOk.row rfl rfl (fun _=>rfl) Tryz.underlying39 Tryz.sizeOf99 hlt hp1 hg0 rfl rfl),hfin _ _ ?_⟩
  refine X.cond rfl (fun hne=>?_) (fun heq=>?_)
  ·simp only [SB.T,SB.F,SI.den] at hne
   refine X.go T54_ok 400 _ rfl Tryz.results54 ?_
   conv=>arg 2;cbv
   refine X.done T54_ok rfl (fun N w' v hN hS hv=>⟨fin_bool hv ?_,hS.chg.mono fun k o _ h=>inR_nil h⟩)
   rw [hq]
   refine (B_neg fun h=>?_).symm
   subst h
   rw [hx1] at hx2
   have:=Option.some.inj hx2
   simp_all
  ·simp only [SB.T,SB.F,SI.den] at heq
   obtain ⟨rfl,rfl,rfl⟩:=heq
   refine X.go T54_ok 400 _ rfl Tryz.results54 ?_
   conv=>arg 2;cbv
   refine X.back (fun N a w' hN hf hS=>hq' ⟨i+1,by omega,take_next htk hx1 hx2⟩ a w' (by simp only;omega) ?_)
   exact At.again hf hS (by repeat first | exact trivial | refine ⟨⟨_,rfl,.inl ⟨rfl,rfl⟩⟩,?_⟩ | refine ⟨⟨_,rfl,.inr ⟨_,rfl,rfl⟩⟩,?_⟩ | refine ⟨⟨_,rfl,.inr ⟨_,rfl,by simp (disch:=omega) [SV.den,SI.den,wrapU,wrapD]<;>omega⟩⟩,?_⟩) trivial
 simp only [SB.F,SI.den] at hge
 obtain rfl:i=n:=by omega
 refine X.go T54_ok 400 _ rfl Tryz.results54 ?_
 conv=>arg 2;cbv
 refine X.done T54_ok rfl (fun N w' v hN hS hv=>⟨fin_bool hv ?_,hS.chg.mono fun k o _ h=>inR_nil h⟩)
 rw [hq]
 exact (B_pos (take_all htk hn hn2)).symm
theorem B_dec {p:Prop} [Decidable p]:decide p=B p:=by
 by_cases h:p
 ·rw [B_pos h,decide_eq_true h]
 ·rw [B_neg h,decide_eq_false h]
theorem _root_.Go.Eng.SlR.later {α:Type} {f:α→List Dt} {l:List α} {w w':World} {p:Option Addr} {c q:Nat} {im:Mem} (hs:SlR (wm w) p c q (l.map f)) (hime:im=elsewhere [] [] w) (h:∀ k o v,im k o=some v→w'.cell? ⟨k,o,none⟩=some v):SlR (wm w') p c q (l.map f) :=
 hs.mono fun k o v hv=>h k o v (by rw [hime];exact his hv)
theorem _root_.Go.Eng.RepL.later {ds:List Dt} {vs:List Value} {w w':World} {im:Mem} (hs:RepL (wm w) ds vs) (hime:im=elsewhere [] [] w) (h:∀ k o v,im k o=some v→w'.cell? ⟨k,o,none⟩=some v):RepL (wm w') ds vs :=
 hs.mono (fun k o v hv=>h k o v (by rw [hime];exact his hv))
theorem replyP_ok (a b:RepP) (va vb:List Value) (w:World) (ha:RepL (wm w) a.toD va) (hb:RepL (wm w) b.toD vb) :
  Calls Tryz.prog 50 #[.agg va.toArray,.agg vb.toArray] w fun e w'=>e=.returned (.bool (B (a=b)))∧Chg (fun _ _=>False) w w':=by
 obtain ⟨pa,ca,rfl,sa⟩:=RepP.open ha
 obtain ⟨pb,cb,rfl,sb⟩:=RepP.open hb
 clear ha hb
 obtain ⟨e1,i1,s1,l1⟩:=a
 obtain ⟨e2,i2,s2,l2⟩:=b
 obtain ⟨n1,hn1⟩:∃ n,n=l1.length:=⟨_,rfl⟩
 obtain ⟨n2,hn2⟩:∃ n,n=l2.length:=⟨_,rfl⟩
 obtain ⟨q,hq⟩:∃ q:Bool,q=B ((⟨e1,i1,s1,l1⟩:RepP)=⟨e2,i2,s2,l2⟩):=⟨_,rfl⟩
 simp only [←hn1,←hn2,←hq]
 refine X.begin (rg:=[]) (N:=[]) (ss:=[.agg [.int .i64 (.v e1),.int .u64 (.v i1),.int .i64 (.v s1),.slv pa n1 ca],.agg [.int .i64 (.v e2),.int .u64 (.v i2),.int .i64 (.v s2),.slv pb n2 cb]]) Tryz.func50 rfl B50_ok rfl rfl Sat.std0 ?_
 obtain ⟨im,hime⟩:∃ im,im=elsewhere [] [] w:=⟨_,rfl⟩
 show X (mkE Tryz.prog Tryz.f50 _ w (InR [] []) (elsewhere [] [] w) (fun _ _=>False) (fun _=>True) [] B50) _ _
 rw [←hime]
 obtain ⟨h,hh⟩:∃ h,h=B (l1=l2):=⟨_,rfl⟩
 refine X.goP ([(29,.bool (.v h))]) T50_ok 400 _ rfl Tryz.results50 (fun pr fin hpr hfin=>?_)
 conv=>cbv
 refine ⟨hpr _ (.of Tryz.call51 [.slice pa l1.length ca,.slice pb l2.length cb] (.bool h) (fun _=>by rw [←hn1,←hn2];rfl) (fun _=>rfl) fun _ w1 hi1=>hh ▸ eqI64_ok l1 l2 pa pb ca cb w1 (sa.later hime hi1) (sb.later hime hi1)),hfin _ _ ?_⟩
 refine X.done T50_ok rfl (fun N w' v hN hS hv=>⟨fin_bool hv ?_,hS.chg.mono fun k o _ h=>inR_nil h⟩)
 refine den_of ?_
 subst hh hq
 simp only [SB.T,SI.den,B_iff,RepP.mk.injEq,and_assoc]
theorem doneP_ok (a b:DoneP) (va vb:List Value) (w:World) (ha:RepL (wm w) a.toD va) (hb:RepL (wm w) b.toD vb) :
  Calls Tryz.prog 49 #[.agg va.toArray,.agg vb.toArray] w fun e w'=>e=.returned (.bool (B (a=b)))∧Chg (fun _ _=>False) w w':=by
 obtain ⟨k1,j1,r1⟩:=a
 obtain ⟨k2,j2,r2⟩:=b
 obtain ⟨_,_,rfl,ha0,ha⟩:=RepL.cons ha
 obtain ⟨_,_,rfl,ha1,sa⟩:=RepL.cons ha
 obtain ⟨_,_,rfl,hb0,hb⟩:=RepL.cons hb
 obtain ⟨_,_,rfl,hb1,sb⟩:=RepL.cons hb
 cases RepC.int' ha0;cases RepC.int' ha1;cases RepC.int' hb0;cases RepC.int' hb1
 clear ha hb ha0 ha1 hb0 hb1
 obtain ⟨pa,ca,rfl,_⟩:=RepP.open sa
 obtain ⟨pb,cb,rfl,_⟩:=RepP.open sb
 obtain ⟨n1,hn1⟩:∃ n,n=r1.vars.length:=⟨_,rfl⟩
 obtain ⟨n2,hn2⟩:∃ n,n=r2.vars.length:=⟨_,rfl⟩
 obtain ⟨q,hq⟩:∃ q:Bool,q=B ((⟨k1,j1,r1⟩:DoneP)=⟨k2,j2,r2⟩):=⟨_,rfl⟩
 obtain ⟨h,hh⟩:∃ h,h=B (r1=r2):=⟨_,rfl⟩
 rw [←hq]
 simp only [←hn1,←hn2] at sa sb ⊢
 have hc:=fun (w1:World) hi1=>replyP_ok r1 r2 _ _ w1 (sa.later (im:=elsewhere [] [] w) rfl hi1) (sb.later rfl hi1)
 rw [←hh] at hc
 clear sa sb
 obtain ⟨e1,i1,s1,l1⟩:=r1
 obtain ⟨e2,i2,s2,l2⟩:=r2
 refine X.begin (rg:=[]) (N:=[]) (ss:=[.agg [.int .u8 (.v k1),.int .u64 (.v j1),.int .i64 (.v e1),.int .u64 (.v i1),.int .i64 (.v s1),.slv pa n1 ca],.agg [.int .u8 (.v k2),.int .u64 (.v j2),.int .i64 (.v e2),.int .u64 (.v i2),.int .i64 (.v s2),.slv pb n2 cb]]) Tryz.func49 rfl B49_ok rfl rfl Sat.std0 ?_
 obtain ⟨im,hime⟩:∃ im,im=elsewhere [] [] w:=⟨_,rfl⟩
 show X (mkE Tryz.prog Tryz.f49 _ w (InR [] []) (elsewhere [] [] w) (fun _ _=>False) (fun _=>True) [] B49) _ _
 rw [←hime] at hc ⊢
 refine X.goP ([(22,.bool (.v h))]) T49_ok 400 _ rfl Tryz.results49 (fun pr fin hpr hfin=>?_)
 conv=>cbv
 refine ⟨hpr _ (.of Tryz.call50 [.agg _,.agg _] (.bool h) (fun _=>rfl) (fun _=>rfl) fun _ w1 hi1=>hc w1 hi1),hfin _ _ ?_⟩
 refine X.done T49_ok rfl (fun N w' v hN hS hv=>⟨fin_bool hv ?_,hS.chg.mono fun k o _ h=>inR_nil h⟩)
 refine den_of ?_
 subst hh hq
 simp only [SB.T,SI.den,B_iff,DoneP.mk.injEq,and_assoc]
theorem DoneP.cells {x:DoneP} {M:Mem} {vs:List Value} (h:RepL M x.toD vs):∃ p c,vs=[.int .u8 x.client,.int .u64 x.seq,.int .i64 x.reply.err,.int .u64 x.reply.inc,.int .i64 x.reply.state,.slice p x.reply.vars.length c]:=by
 obtain ⟨p,c,h,_⟩:=DoneP.open h
 exact ⟨p,c,h⟩
theorem eqDone_ok (l m:List DoneP) (p p2:Option Addr) (c c2:Nat) (w:World) (hs:SlR (wm w) p c 6 (l.map DoneP.toD)) (hs2:SlR (wm w) p2 c2 6 (m.map DoneP.toD)) :
  Calls Tryz.prog 52 #[.slice p l.length c,.slice p2 m.length c2,.func (.func 49) #[] #[]] w fun e w'=>e=.returned (.bool (B (l=m)))∧Chg (fun _ _=>False) w w':=by
 obtain ⟨q,hq⟩:∃ q,q=B (l=m):=⟨_,rfl⟩
 obtain ⟨n,hn⟩:∃ n,n=l.length:=⟨_,rfl⟩
 obtain ⟨n2,hn2⟩:∃ n,n=m.length:=⟨_,rfl⟩
 have hm:=maxLen_le
 have hl:n≤maxLen:=by rw [hn];exact hs.len
 rw [←hq,←hn,←hn2]
 refine X.begin (rg:=[]) (N:=[]) (ss:=[.slv p n c,.slv p2 n2 c2,.fn 49 []]) Tryz.func52 rfl B52_ok rfl rfl Sat.std0 ?_
 obtain ⟨im,hime⟩:∃ im,im=elsewhere [] [] w:=⟨_,rfl⟩
 show X (mkE Tryz.prog Tryz.f52 _ w (InR [] []) (elsewhere [] [] w) (fun _ _=>False) (fun _=>True) [] B52) _ _
 rw [←hime]
 refine X.go T52_ok 400 _ rfl Tryz.results52 ?_
 conv=>arg 2;cbv
 refine X.cond rfl (fun hc=>?_) (fun hc=>?_)
 ·refine X.go T52_ok 400 _ rfl Tryz.results52 ?_
  conv=>arg 2;cbv
  refine X.done T52_ok rfl (fun N w' v hN hS hv=>⟨fin_bool hv ?_,hS.chg.mono fun k o _ h=>inR_nil h⟩)
  simp only [SB.T,SB.F,SI.den] at hc
  rw [hq]
  refine (B_neg fun h=>?_).symm
  subst h
  omega
 simp only [SB.T,SB.F,SI.den] at hc
 obtain rfl:n=n2:=by omega
 refine X.go T52_ok 400 _ rfl Tryz.results52 ?_
 conv=>arg 2;cbv
 refine X.loop1 (fun i:{i:Nat // i≤n∧l.take i=m.take i}=>⟨[(0,.val (.slv p n c)),(1,.val (.slv p2 n c2)),(2,.val (.fn 49 [])),(15,.val (.slv p n c)),(16,.val (.int .i64 (.nat n))),(17,.val (.int .i64 (.nat i.1)))],[]⟩) (fun i=>n-i.1) (fun N a w' hN hf hS=>⟨⟨0,Nat.zero_le _,rfl⟩,?_⟩) (fun i q' hq'=>?_)
 ·exact At.again hf hS (by repeat first | exact trivial | refine ⟨⟨_,rfl,.inl ⟨rfl,rfl⟩⟩,?_⟩ | refine ⟨⟨_,rfl,.inr ⟨_,rfl,rfl⟩⟩,?_⟩ | refine ⟨⟨_,rfl,.inr ⟨_,rfl,by simp (disch:=omega) [SV.den,SI.den,wrapU,wrapD]<;>omega⟩⟩,?_⟩) trivial
 obtain ⟨i,hi,htk⟩:=i
 refine X.go T52_ok 400 _ rfl Tryz.results52 ?_
 conv=>arg 2;cbv
 refine X.cond rfl (fun hlt=>?_) (fun hge=>?_)
 ·simp only [SB.T,SI.den] at hlt
  have hlt:i<n:=by omega
  obtain ⟨x1,hx1⟩:∃ x,l[i]?=some x:=⟨_,List.getElem?_eq_getElem (by omega)⟩
  obtain ⟨x2,hx2⟩:∃ x,m[i]?=some x:=⟨_,List.getElem?_eq_getElem (by omega)⟩
  obtain ⟨b1,y1,v1,hp1,hr1,hm1⟩:=hs.his hx1
  obtain ⟨b2,y2,v2,hp2,hr2,hm2⟩:=hs2.his hx2
  rw [←hime] at hm1 hm2
  obtain ⟨h,hh⟩:∃ h,h=B (x1=x2):=⟨_,rfl⟩
  have hc:=fun (w1:World) hi1=>doneP_ok x1 x2 _ _ w1 (hr1.later hime hi1) (hr2.later hime hi1)
  rw [←hh] at hc
  obtain ⟨pa,ca,rfl⟩:=DoneP.cells hr1
  obtain ⟨pb,cb,rfl⟩:=DoneP.cells hr2
  obtain ⟨na,hna⟩:∃ n,n=x1.reply.vars.length:=⟨_,rfl⟩
  obtain ⟨nb,hnb⟩:∃ n,n=x2.reply.vars.length:=⟨_,rfl⟩
  rw [←hna] at hm1 hc
  rw [←hnb] at hm2 hc
  refine X.see b1 (y1+i*6) [.int .u8 (.v x1.client),.int .u64 (.v x1.seq),.int .i64 (.v x1.reply.err),.int .u64 (.v x1.reply.inc),.int .i64 (.v x1.reply.state),.slv pa na ca] (see_of hm1 rfl) (by simp) (fun N1 hN1 hNl1=>?_)
  refine X.see b2 (y2+i*6) [.int .u8 (.v x2.client),.int .u64 (.v x2.seq),.int .i64 (.v x2.reply.err),.int .u64 (.v x2.reply.inc),.int .i64 (.v x2.reply.state),.slv pb nb cb] (see_of hm2 rfl) (by simp) (fun N2 hN2 hNl2=>?_)
  have hg1:(N2++[(⟨b2,y2+i*6,0⟩:Num)])[1]?=some ⟨b2,y2+i*6,0⟩:=num_last hNl2
  have hg0:(N2++[(⟨b2,y2+i*6,0⟩:Num)])[0]?=some ⟨b1,y1+i*6,0⟩:=num_old (hN2 0 _ (num_last hNl1))
  refine X.goP ([(20,.own 0 0),(24,.own 1 0),(29,.bool (.v h))]) T52_ok 400 _ rfl Tryz.results52 (fun pr fin hpr hfin=>?_)
  conv=>cbv
  refine ⟨hpr _ (.of Tryz.call49 [.agg _,.agg _] (.bool h) (fun _=>rfl) (fun _=>rfl) fun _ w1 hi1=>hc w1 hi1),hpr _ (ValOk.row rfl rfl (fun _=>rfl) Tryz.underlying37 Tryz.sizeOf89 hlt hp2 hg1 rfl rfl),hpr _ (ValOk.row rfl rfl (fun _=>rfl) Tryz.underlying37 Tryz.sizeOf89 hlt hp1 hg0 rfl rfl),hfin _ _ ?_⟩
  refine X.cond rfl (fun hne=>?_) (fun heq=>?_)
  ·simp only [SB.T,SB.F] at hne
   refine X.go T52_ok 400 _ rfl Tryz.results52 ?_
   conv=>arg 2;cbv
   refine X.done T52_ok rfl (fun N w' v hN hS hv=>⟨fin_bool hv ?_,hS.chg.mono fun k o _ h=>inR_nil h⟩)
   rw [hq]
   refine (B_neg fun e=>?_).symm
   subst e
   rw [hx1] at hx2
   rw [hh,B_pos (Option.some.inj hx2)] at hne
   cases hne
  ·simp only [SB.T,SB.F] at heq
   rw [hh,B_iff] at heq
   subst heq
   refine X.go T52_ok 400 _ rfl Tryz.results52 ?_
   conv=>arg 2;cbv
   refine X.back (fun N a w' hN hf hS=>hq' ⟨i+1,by omega,take_next htk hx1 hx2⟩ a w' (by simp only;omega) ?_)
   exact At.again hf hS (by repeat first | exact trivial | refine ⟨⟨_,rfl,.inl ⟨rfl,rfl⟩⟩,?_⟩ | refine ⟨⟨_,rfl,.inr ⟨_,rfl,rfl⟩⟩,?_⟩ | refine ⟨⟨_,rfl,.inr ⟨_,rfl,by simp (disch:=omega) [SV.den,SI.den,wrapU,wrapD]<;>omega⟩⟩,?_⟩) trivial
 simp only [SB.F,SI.den] at hge
 obtain rfl:i=n:=by omega
 refine X.go T52_ok 400 _ rfl Tryz.results52 ?_
 conv=>arg 2;cbv
 refine X.done T52_ok rfl (fun N w' v hN hS hv=>⟨fin_bool hv ?_,hS.chg.mono fun k o _ h=>inR_nil h⟩)
 rw [hq]
 exact (B_pos (take_all htk hn hn2)).symm
theorem regSame_ok (a b:RegP) (va vb:List Value) (w:World) (ha:RepL (wm w) a.toD va) (hb:RepL (wm w) b.toD vb) :
  Calls Tryz.prog 24 #[.agg va.toArray,.agg vb.toArray] w fun e w'=>e=.returned (.bool (B (a=b)))∧Chg (fun _ _=>False) w w':=by
 obtain ⟨p1,c1,p2,c2,p3,c3,p4,c4,rfl,sa1,sa2,sa3,sa4⟩:=RegP.open ha
 obtain ⟨r1,d1,r2,d2,r3,d3,r4,d4,rfl,sb1,sb2,sb3,sb4⟩:=RegP.open hb
 clear ha hb
 obtain ⟨k1,i1,s1,v1,o1,u1,l1,m1⟩:=a
 obtain ⟨k2,i2,s2,v2,o2,u2,l2,m2⟩:=b
 simp only at sa1 sa2 sa3 sa4 sb1 sb2 sb3 sb4 ⊢
 obtain ⟨q,hq⟩:∃ q:Bool,q=B ((⟨k1,i1,s1,v1,o1,u1,l1,m1⟩:RegP)=⟨k2,i2,s2,v2,o2,u2,l2,m2⟩):=⟨_,rfl⟩
 rw [←hq]
 obtain ⟨n1,hn1⟩:∃ n,n=v1.length:=⟨_,rfl⟩
 obtain ⟨n2,hn2⟩:∃ n,n=o1.length:=⟨_,rfl⟩
 obtain ⟨n3,hn3⟩:∃ n,n=u1.length:=⟨_,rfl⟩
 obtain ⟨n4,hn4⟩:∃ n,n=m1.length:=⟨_,rfl⟩
 obtain ⟨t1,ht1⟩:∃ n,n=v2.length:=⟨_,rfl⟩
 obtain ⟨t2,ht2⟩:∃ n,n=o2.length:=⟨_,rfl⟩
 obtain ⟨t3,ht3⟩:∃ n,n=u2.length:=⟨_,rfl⟩
 obtain ⟨t4,ht4⟩:∃ n,n=m2.length:=⟨_,rfl⟩
 obtain ⟨h1,hh1⟩:∃ h,h=B (v1=v2):=⟨_,rfl⟩
 obtain ⟨h2,hh2⟩:∃ h,h=B (o1=o2):=⟨_,rfl⟩
 obtain ⟨h3,hh3⟩:∃ h,h=B (u1=u2):=⟨_,rfl⟩
 obtain ⟨h4,hh4⟩:∃ h,h=B (m1=m2):=⟨_,rfl⟩
 have e1:=fun (w1:World) hi1=>eqI64_ok v1 v2 p1 r1 c1 d1 w1 (sa1.later (im:=elsewhere [] [] w) rfl hi1) (sb1.later rfl hi1)
 have e2:=fun (w1:World) hi1=>eqDone_ok o1 o2 p2 r2 c2 d2 w1 (sa2.later (im:=elsewhere [] [] w) rfl hi1) (sb2.later rfl hi1)
 have e3:=fun (w1:World) hi1=>eqCell_ok u1 u2 p3 r3 c3 d3 w1 (sa3.later (im:=elsewhere [] [] w) rfl hi1) (sb3.later rfl hi1)
 have e4:=fun (w1:World) hi1=>eqMark_ok m1 m2 p4 r4 c4 d4 w1 (sa4.later (im:=elsewhere [] [] w) rfl hi1) (sb4.later rfl hi1)
 rw [←hn1,←ht1,←hh1] at e1
 rw [←hn2,←ht2,←hh2] at e2
 rw [←hn3,←ht3,←hh3] at e3
 rw [←hn4,←ht4,←hh4] at e4
 rw [←hn1,←hn2,←hn3,←hn4,←ht1,←ht2,←ht3,←ht4]
 clear sa1 sa2 sa3 sa4 sb1 sb2 sb3 sb4
 refine X.begin (rg:=[]) (N:=[]) (ss:=[.agg [.int .u8 (.v k1),.int .u64 (.v i1),.int .i64 (.v s1),.slv p1 n1 c1,.slv p2 n2 c2,.slv p3 n3 c3,.int .u64 (.v l1),.slv p4 n4 c4],.agg [.int .u8 (.v k2),.int .u64 (.v i2),.int .i64 (.v s2),.slv r1 t1 d1,.slv r2 t2 d2,.slv r3 t3 d3,.int .u64 (.v l2),.slv r4 t4 d4]]) Tryz.func24 rfl B24_ok rfl rfl Sat.std0 ?_
 obtain ⟨im,hime⟩:∃ im,im=elsewhere [] [] w:=⟨_,rfl⟩
 show X (mkE Tryz.prog Tryz.f24 _ w (InR [] []) (elsewhere [] [] w) (fun _ _=>False) (fun _=>True) [] B24) _ _
 rw [←hime] at e1 e2 e3 e4 ⊢
 refine X.goP ([(37,.bool (.v h1)),(45,.bool (.v h2)),(52,.bool (.v h3)),(59,.bool (.v h4))]) T24_ok 400 _ rfl Tryz.results24 (fun pr fin hpr hfin=>?_)
 conv=>cbv
 refine ⟨hpr _ (.of Tryz.call54 [.slice _ _ _,.slice _ _ _] (.bool h4) (fun _=>rfl) (fun _=>rfl) fun _ w1 hi1=>e4 w1 hi1),hpr _ (.of Tryz.call53 [.slice _ _ _,.slice _ _ _] (.bool h3) (fun _=>rfl) (fun _=>rfl) fun _ w1 hi1=>e3 w1 hi1),hpr _ (.of Tryz.call52 [.slice _ _ _,.slice _ _ _,.func _ _ _] (.bool h2) (fun _=>rfl) (fun _=>rfl) fun _ w1 hi1=>e2 w1 hi1),hpr _ (.of Tryz.call51 [.slice _ _ _,.slice _ _ _] (.bool h1) (fun _=>rfl) (fun _=>rfl) fun _ w1 hi1=>e1 w1 hi1),hfin _ _ ?_⟩
 refine X.done T24_ok rfl (fun N w' v hN hS hv=>⟨fin_bool hv ?_,hS.chg.mono fun k o _ h=>inR_nil h⟩)
 refine den_of ?_
 subst hh1 hh2 hh3 hh4 hq
 simp only [SB.T,SI.den,B_iff,RegP.mk.injEq,and_assoc]
 exact ⟨fun ⟨a,b,c,d,e,f,g,h⟩=>⟨a,b,c,e,f,g,d,h⟩,fun ⟨a,b,c,e,f,g,d,h⟩=>⟨a,b,c,d,e,f,g,h⟩⟩
theorem confSame_ok (a b:ConfP) (va vb:List Value) (w:World) (ha:RepL (wm w) a.toD va) (hb:RepL (wm w) b.toD vb) :
  Calls Tryz.prog 23 #[.agg va.toArray,.agg vb.toArray] w fun e w'=>e=.returned (.bool (B (a=b)))∧Chg (fun _ _=>False) w w':=by
 obtain ⟨p1,c1,p2,c2,rfl,sa1,sa2⟩:=ConfP.open ha
 obtain ⟨r1,d1,r2,d2,rfl,sb1,sb2⟩:=ConfP.open hb
 clear ha hb
 obtain ⟨k1,o1,m1⟩:=a
 obtain ⟨k2,o2,m2⟩:=b
 simp only at sa1 sa2 sb1 sb2 ⊢
 obtain ⟨q,hq⟩:∃ q:Bool,q=B ((⟨k1,o1,m1⟩:ConfP)=⟨k2,o2,m2⟩):=⟨_,rfl⟩
 rw [←hq]
 obtain ⟨n1,hn1⟩:∃ n,n=o1.length:=⟨_,rfl⟩
 obtain ⟨n2,hn2⟩:∃ n,n=m1.length:=⟨_,rfl⟩
 obtain ⟨t1,ht1⟩:∃ n,n=o2.length:=⟨_,rfl⟩
 obtain ⟨t2,ht2⟩:∃ n,n=m2.length:=⟨_,rfl⟩
 obtain ⟨h1,hh1⟩:∃ h,h=B (o1=o2):=⟨_,rfl⟩
 obtain ⟨h2,hh2⟩:∃ h,h=B (m1=m2):=⟨_,rfl⟩
 have e1:=fun (w1:World) hi1=>eqU8_ok o1 o2 p1 r1 c1 d1 w1 (sa1.later (im:=elsewhere [] [] w) rfl hi1) (sb1.later rfl hi1)
 have e2:=fun (w1:World) hi1=>eqU8_ok m1 m2 p2 r2 c2 d2 w1 (sa2.later (im:=elsewhere [] [] w) rfl hi1) (sb2.later rfl hi1)
 rw [←hn1,←ht1,←hh1] at e1
 rw [←hn2,←ht2,←hh2] at e2
 rw [←hn1,←hn2,←ht1,←ht2]
 clear sa1 sa2 sb1 sb2
 refine X.begin (rg:=[]) (N:=[]) (ss:=[.agg [.int .u64 (.v k1),.slv p1 n1 c1,.slv p2 n2 c2],.agg [.int .u64 (.v k2),.slv r1 t1 d1,.slv r2 t2 d2]]) Tryz.func23 rfl B23_ok rfl rfl Sat.std0 ?_
 obtain ⟨im,hime⟩:∃ im,im=elsewhere [] [] w:=⟨_,rfl⟩
 show X (mkE Tryz.prog Tryz.f23 _ w (InR [] []) (elsewhere [] [] w) (fun _ _=>False) (fun _=>True) [] B23) _ _
 rw [←hime] at e1 e2 ⊢
 refine X.goP ([(15,.bool (.v h1)),(22,.bool (.v h2))]) T23_ok 400 _ rfl Tryz.results23 (fun pr fin hpr hfin=>?_)
 conv=>cbv
 refine ⟨hpr _ (.of Tryz.call48 [.slice _ _ _,.slice _ _ _] (.bool h2) (fun _=>rfl) (fun _=>rfl) fun _ w1 hi1=>e2 w1 hi1),hpr _ (.of Tryz.call48 [.slice _ _ _,.slice _ _ _] (.bool h1) (fun _=>rfl) (fun _=>rfl) fun _ w1 hi1=>e1 w1 hi1),hfin _ _ ?_⟩
 refine X.done T23_ok rfl (fun N w' v hN hS hv=>⟨fin_bool hv ?_,hS.chg.mono fun k o _ h=>inR_nil h⟩)
 refine den_of ?_
 subst hh1 hh2 hq
 simp only [SB.T,SI.den,B_iff,ConfP.mk.injEq,and_assoc]
theorem regSameR_ok (a b:RegP) (va vb:List Value) (w:World) (ha:RepL (wm w) a.toD va) (hb:RepL (wm w) b.toD vb) :
  Calls Tryz.prog 27 #[.agg va.toArray,.agg vb.toArray] w fun e w'=>e=.returned (.bool (B (a=b)))∧Chg (fun _ _=>False) w w':=by
 obtain ⟨p1,c1,p2,c2,p3,c3,p4,c4,rfl,sa1,sa2,sa3,sa4⟩:=RegP.open ha
 obtain ⟨r1,d1,r2,d2,r3,d3,r4,d4,rfl,sb1,sb2,sb3,sb4⟩:=RegP.open hb
 clear ha hb
 obtain ⟨k1,i1,s1,v1,o1,u1,l1,m1⟩:=a
 obtain ⟨k2,i2,s2,v2,o2,u2,l2,m2⟩:=b
 simp only at sa1 sa2 sa3 sa4 sb1 sb2 sb3 sb4 ⊢
 obtain ⟨q,hq⟩:∃ q:Bool,q=B ((⟨k1,i1,s1,v1,o1,u1,l1,m1⟩:RegP)=⟨k2,i2,s2,v2,o2,u2,l2,m2⟩):=⟨_,rfl⟩
 rw [←hq]
 obtain ⟨n1,hn1⟩:∃ n,n=v1.length:=⟨_,rfl⟩
 obtain ⟨n2,hn2⟩:∃ n,n=o1.length:=⟨_,rfl⟩
 obtain ⟨n3,hn3⟩:∃ n,n=u1.length:=⟨_,rfl⟩
 obtain ⟨n4,hn4⟩:∃ n,n=m1.length:=⟨_,rfl⟩
 obtain ⟨t1,ht1⟩:∃ n,n=v2.length:=⟨_,rfl⟩
 obtain ⟨t2,ht2⟩:∃ n,n=o2.length:=⟨_,rfl⟩
 obtain ⟨t3,ht3⟩:∃ n,n=u2.length:=⟨_,rfl⟩
 obtain ⟨t4,ht4⟩:∃ n,n=m2.length:=⟨_,rfl⟩
 have hm:=maxLen_le
 have hl2:n2≤maxLen:=by rw [hn2];exact sa2.len
 have hl3:n3≤maxLen:=by rw [hn3];exact sa3.len
 have hl4:n4≤maxLen:=by rw [hn4];exact sa4.len
 obtain ⟨h1,hh1⟩:∃ h,h=B (v1=v2):=⟨_,rfl⟩
 have hv0:∀ {M:Mem} {v:List Int} {p:Option Addr} {c:Nat},SlR M p c 1 (v.map i64D)→RepL M (RepP.toD ⟨0,0,0,v⟩) [.int .i64 0,.int .u64 0,.int .i64 0,.slice p v.length c]:=fun hs=>by
  refine ⟨_,_,rfl,rfl,?_⟩
  refine ⟨_,_,rfl,rfl,?_⟩
  refine ⟨_,_,rfl,rfl,?_⟩
  exact ⟨_,_,rfl,RepC.mk (List.length_map ..).symm sz_i64 hs,rfl⟩
 have e1:=fun (w1:World) hi1=>sameReply_ok ⟨0,0,0,v1⟩ ⟨0,0,0,v2⟩ _ _ w1 (hv0 (sa1.later (im:=elsewhere [] [] w) rfl hi1)) (hv0 (sb1.later rfl hi1))
 rw [B_dec,show B ((⟨0,0,0,v1⟩:RepP)=⟨0,0,0,v2⟩)=h1 by rw [hh1];exact B_congr (by simp),←hn1,←ht1] at e1
 rw [←hn1,←hn2,←hn3,←hn4,←ht1,←ht2,←ht3,←ht4]
 refine X.begin (rg:=[]) (N:=[]) (ss:=[.agg [.int .u8 (.v k1),.int .u64 (.v i1),.int .i64 (.v s1),.slv p1 n1 c1,.slv p2 n2 c2,.slv p3 n3 c3,.int .u64 (.v l1),.slv p4 n4 c4],.agg [.int .u8 (.v k2),.int .u64 (.v i2),.int .i64 (.v s2),.slv r1 t1 d1,.slv r2 t2 d2,.slv r3 t3 d3,.int .u64 (.v l2),.slv r4 t4 d4]]) Tryz.func27 rfl B27_ok rfl rfl Sat.std0 ?_
 obtain ⟨im,hime⟩:∃ im,im=elsewhere [] [] w:=⟨_,rfl⟩
 show X (mkE Tryz.prog Tryz.f27 _ w (InR [] []) (elsewhere [] [] w) (fun _ _=>False) (fun _=>True) [] B27) _ _
 rw [←hime] at e1 ⊢
 refine X.goP ([(68,.bool (.v h1))]) T27_ok 400 _ rfl Tryz.results27 (fun pr fin hpr hfin=>?_)
 conv=>cbv
 refine ⟨hpr _ (.of Tryz.call57 [.agg _,.agg _] (.bool h1) (fun _=>rfl) (fun _=>rfl) fun _ w1 hi1=>e1 w1 hi1),hfin _ _ ?_⟩
 refine X.cond rfl (fun hc=>?_) (fun hc=>?_)
 ·refine X.go T27_ok 400 _ rfl Tryz.results27 ?_
  conv=>arg 2;cbv
  refine X.done T27_ok rfl (fun N w' v hN hS hv=>⟨fin_bool hv ?_,hS.chg.mono fun k o _ h=>inR_nil h⟩)
  simp only [SB.T,SB.F,SI.den] at hc
  rw [hq]
  refine (B_neg fun h=>?_).symm
  cases h
  rw [B_pos rfl] at hh1
  subst hh1
  simp only [hn2,ht2,hn3,ht3,hn4,ht4] at hc
  simp at hc
 simp only [SB.T,SB.F,SI.den] at hc
 obtain ⟨⟨⟨⟨⟨⟨⟨rfl,rfl⟩,rfl⟩,rfl⟩,hcn2⟩,hcn3⟩,hcn4⟩,hcv⟩:=hc
 rw [hh1,B_iff] at hcv
 subst hcv
 obtain rfl:n2=t2:=by omega
 obtain rfl:n3=t3:=by omega
 obtain rfl:n4=t4:=by omega
 refine X.go T27_ok 400 _ rfl Tryz.results27 ?_
 conv=>arg 2;cbv
 refine X.loop1 (fun i:{i:Nat // i≤n2∧o1.take i=o2.take i}=>⟨[(2,.val (.own 0 0)),(3,.val (.own 1 0)),(73,.val (.int .i64 (.nat n2))),(74,.val (.int .i64 (.nat i.1)))],[⟨true,[.int .u8 (.v k1),.int .u64 (.v i1),.int .i64 (.v s1),.slv p1 n1 c1,.slv p2 n2 c2,.slv p3 n3 c3,.int .u64 (.v l1),.slv p4 n4 c4],none⟩,⟨true,[.int .u8 (.v k1),.int .u64 (.v i1),.int .i64 (.v s1),.slv r1 t1 d1,.slv r2 n2 d2,.slv r3 n3 d3,.int .u64 (.v l1),.slv r4 n4 d4],none⟩]⟩) (fun i=>n2-i.1) (fun N a w' hN hf hS=>⟨⟨0,Nat.zero_le _,rfl⟩,?_⟩) (fun i q' hq'=>?_)
 ·exact At.again hf hS (by repeat first | exact trivial | refine ⟨⟨_,rfl,.inl ⟨rfl,rfl⟩⟩,?_⟩ | refine ⟨⟨_,rfl,.inr ⟨_,rfl,rfl⟩⟩,?_⟩ | refine ⟨⟨_,rfl,.inr ⟨_,rfl,by simp (disch:=omega) [SV.den,SI.den,wrapU,wrapD]<;>omega⟩⟩,?_⟩) (by repeat first | exact trivial | refine ⟨fun h=>h,SubC.refl rfl,rfl,?_⟩)
 obtain ⟨i,hi,htk⟩:=i
 refine X.go T27_ok 400 _ rfl Tryz.results27 ?_
 conv=>arg 2;cbv
 refine X.cond rfl (fun hlt=>?_) (fun hge=>?_)
 ·simp only [SB.T,SI.den] at hlt
  have hlt:i<n2:=by omega
  obtain ⟨x1,hx1⟩:∃ x,o1[i]?=some x:=⟨_,List.getElem?_eq_getElem (by omega)⟩
  obtain ⟨x2,hx2⟩:∃ x,o2[i]?=some x:=⟨_,List.getElem?_eq_getElem (by omega)⟩
  obtain ⟨b1,y1,w1,hp1,hr1,hm1⟩:=sa2.his hx1
  obtain ⟨b2,y2,w2,hp2,hr2,hm2⟩:=sb2.his hx2
  rw [←hime] at hm1 hm2
  obtain ⟨h,hh⟩:∃ h,h=B (x1.reply=x2.reply):=⟨_,rfl⟩
  obtain ⟨_,_,rfl,ha0,ga1⟩:=RepL.cons hr1
  obtain ⟨_,_,rfl,ha1,sa⟩:=RepL.cons ga1
  obtain ⟨_,_,rfl,hb0,gb1⟩:=RepL.cons hr2
  obtain ⟨_,_,rfl,hb1,sb⟩:=RepL.cons gb1
  cases RepC.int' ha0;cases RepC.int' ha1;cases RepC.int' hb0;cases RepC.int' hb1
  clear hr1 hr2 ga1 gb1 ha0 ha1 hb0 hb1
  have hc:=fun (w1:World) hi1=>sameReply_ok x1.reply x2.reply _ _ w1 (sa.later hime hi1) (sb.later hime hi1)
  rw [B_dec,←hh] at hc
  obtain ⟨pa,ca,rfl,_⟩:=RepP.open sa
  obtain ⟨pb,cb,rfl,_⟩:=RepP.open sb
  clear sa sb
  obtain ⟨na,hna⟩:∃ n,n=x1.reply.vars.length:=⟨_,rfl⟩
  obtain ⟨nb,hnb⟩:∃ n,n=x2.reply.vars.length:=⟨_,rfl⟩
  rw [←hna] at hm1 hc
  rw [←hnb] at hm2 hc
  refine X.see b1 (y1+i*6) [.int .u8 (.v x1.client),.int .u64 (.v x1.seq),.int .i64 (.v x1.reply.err),.int .u64 (.v x1.reply.inc),.int .i64 (.v x1.reply.state),.slv pa na ca] (see_of hm1 rfl) (by simp) (fun N1 hN1 hNl1=>?_)
  refine X.see b2 (y2+i*6) [.int .u8 (.v x2.client),.int .u64 (.v x2.seq),.int .i64 (.v x2.reply.err),.int .u64 (.v x2.reply.inc),.int .i64 (.v x2.reply.state),.slv pb nb cb] (see_of hm2 rfl) (by simp) (fun N2 hN2 hNl2=>?_)
  have hg1:(N2++[(⟨b2,y2+i*6,0⟩:Num)])[3]?=some ⟨b2,y2+i*6,0⟩:=num_last hNl2
  have hg0:(N2++[(⟨b2,y2+i*6,0⟩:Num)])[2]?=some ⟨b1,y1+i*6,0⟩:=num_old (hN2 2 _ (num_last hNl1))
  refine X.goP ([(80,.own 2 0),(86,.own 3 0),(94,.own 2 0),(100,.own 3 0),(109,.own 2 0),(115,.own 3 0),(118,.bool (.v h))]) T27_ok 400 _ rfl Tryz.results27 (fun pr fin hpr hfin=>?_)
  conv=>cbv
  have vo1:∀ {E:Env} {N0:Nums} {rg:List Rg} {f:Fr} {g:GK} {x ix:Operand} {kd:IntKind} {s:SI},evK f g x=some (.slv p2 n2 c2)→evK f g ix=some (.int kd s)→E.P=Tryz.prog→N0=(N2++[(⟨b2,y2+i*6,0⟩:Num)])→s=.nat i→ValOk E N0 rg f g (.indexAddr 37 x ix) (.own 2 0):=fun k1 k2 k3 k4 k5=>by subst k4 k5;exact ValOk.row k1 k2 (fun _=>rfl) (by rw [k3];exact Tryz.underlying37) (by rw [k3];exact Tryz.sizeOf89) hlt hp1 hg0 rfl rfl
  have vo2:∀ {E:Env} {N0:Nums} {rg:List Rg} {f:Fr} {g:GK} {x ix:Operand} {kd:IntKind} {s:SI},evK f g x=some (.slv r2 n2 d2)→evK f g ix=some (.int kd s)→E.P=Tryz.prog→N0=(N2++[(⟨b2,y2+i*6,0⟩:Num)])→s=.nat i→ValOk E N0 rg f g (.indexAddr 37 x ix) (.own 3 0):=fun k1 k2 k3 k4 k5=>by subst k4 k5;exact ValOk.row k1 k2 (fun _=>rfl) (by rw [k3];exact Tryz.underlying37) (by rw [k3];exact Tryz.sizeOf89) hlt hp2 hg1 rfl rfl
  refine ⟨hpr _ (.of Tryz.call57 [.agg _,.agg _] (.bool h) (fun _=>rfl) (fun _=>rfl) fun _ w1 hi1=>hc w1 hi1),hpr _ (vo2 rfl rfl rfl rfl rfl),hpr _ (vo1 rfl rfl rfl rfl rfl),hpr _ (vo2 rfl rfl rfl rfl rfl),hpr _ (vo1 rfl rfl rfl rfl rfl),hpr _ (vo2 rfl rfl rfl rfl rfl),hpr _ (vo1 rfl rfl rfl rfl rfl),hfin _ _ ?_⟩
  refine X.cond rfl (fun hne=>?_) (fun heq=>?_)
  ·simp only [SB.T,SB.F,SI.den] at hne
   refine X.go T27_ok 400 _ rfl Tryz.results27 ?_
   conv=>arg 2;cbv
   refine X.done T27_ok rfl (fun N w' v hN hS hv=>⟨fin_bool hv ?_,hS.chg.mono fun k o _ h=>inR_nil h⟩)
   rw [hq]
   refine (B_neg fun e=>?_).symm
   cases e
   rw [hx1] at hx2
   have:=Option.some.inj hx2
   subst this
   rw [B_pos rfl] at hh
   simp_all
  ·simp only [SB.T,SB.F,SI.den] at heq
   obtain ⟨⟨e1,e2⟩,e3⟩:=heq
   rw [hh,B_iff] at e3
   have hxx:x1=x2:=by
    cases x1;cases x2
    simp_all
   subst hxx
   refine X.go T27_ok 400 _ rfl Tryz.results27 ?_
   conv=>arg 2;cbv
   refine X.back (fun N a w' hN hf hS=>hq' ⟨i+1,by omega,take_next htk hx1 hx2⟩ a w' (by simp only;omega) ?_)
   exact At.again hf hS (by repeat first | exact trivial | refine ⟨⟨_,rfl,.inl ⟨rfl,rfl⟩⟩,?_⟩ | refine ⟨⟨_,rfl,.inr ⟨_,rfl,rfl⟩⟩,?_⟩ | refine ⟨⟨_,rfl,.inr ⟨_,rfl,by simp (disch:=omega) [SV.den,SI.den,wrapU,wrapD]<;>omega⟩⟩,?_⟩) (by repeat first | exact trivial | refine ⟨fun h=>h,SubC.refl rfl,rfl,?_⟩)
 simp only [SB.F,SI.den] at hge
 obtain rfl:n2=i:=by omega
 have halln2:=take_all htk hn2 ht2
 clear htk hi hge hq'
 refine X.go T27_ok 400 _ rfl Tryz.results27 ?_
 conv=>arg 2;cbv
 refine X.loop1 (fun i:{i:Nat // i≤n3∧u1.take i=u2.take i}=>⟨[(2,.val (.own 0 0)),(3,.val (.own 1 0)),(124,.val (.int .i64 (.nat n3))),(125,.val (.int .i64 (.nat i.1)))],[⟨true,[.int .u8 (.v k1),.int .u64 (.v i1),.int .i64 (.v s1),.slv p1 n1 c1,.slv p2 n2 c2,.slv p3 n3 c3,.int .u64 (.v l1),.slv p4 n4 c4],none⟩,⟨true,[.int .u8 (.v k1),.int .u64 (.v i1),.int .i64 (.v s1),.slv r1 t1 d1,.slv r2 n2 d2,.slv r3 n3 d3,.int .u64 (.v l1),.slv r4 n4 d4],none⟩]⟩) (fun i=>n3-i.1) (fun N a w' hN hf hS=>⟨⟨0,Nat.zero_le _,rfl⟩,?_⟩) (fun i q' hq'=>?_)
 ·exact At.again hf hS (by repeat first | exact trivial | refine ⟨⟨_,rfl,.inl ⟨rfl,rfl⟩⟩,?_⟩ | refine ⟨⟨_,rfl,.inr ⟨_,rfl,rfl⟩⟩,?_⟩ | refine ⟨⟨_,rfl,.inr ⟨_,rfl,by simp (disch:=omega) [SV.den,SI.den,wrapU,wrapD]<;>omega⟩⟩,?_⟩) (by repeat first | exact trivial | refine ⟨fun h=>h,SubC.refl rfl,rfl,?_⟩)
 obtain ⟨i,hi,htk⟩:=i
 refine X.go T27_ok 400 _ rfl Tryz.results27 ?_
 conv=>arg 2;cbv
 refine X.cond rfl (fun hlt=>?_) (fun hge=>?_)
 ·simp only [SB.T,SI.den] at hlt
  have hlt:i<n3:=by omega
  obtain ⟨x1,hx1⟩:∃ x,u1[i]?=some x:=⟨_,List.getElem?_eq_getElem (by omega)⟩
  obtain ⟨x2,hx2⟩:∃ x,u2[i]?=some x:=⟨_,List.getElem?_eq_getElem (by omega)⟩
  obtain ⟨b1,y1,w1,hp1,hr1,hm1⟩:=sa3.his hx1
  obtain ⟨b2,y2,w2,hp2,hr2,hm2⟩:=sb3.his hx2
  rw [←hime] at hm1 hm2
  rw [CellP.open hr1] at hm1
  rw [CellP.open hr2] at hm2
  obtain ⟨xa1,xb1,xc1,xd1⟩:=x1
  obtain ⟨xa2,xb2,xc2,xd2⟩:=x2
  refine X.see b1 (y1+i*4) [.int .u64 (.v xa1),.int .u8 (.v xb1),.int .i64 (.v xc1),.int .i64 (.v xd1)] (see_of hm1 rfl) (by simp) (fun N1 hN1 hNl1=>?_)
  refine X.see b2 (y2+i*4) [.int .u64 (.v xa2),.int .u8 (.v xb2),.int .i64 (.v xc2),.int .i64 (.v xd2)] (see_of hm2 rfl) (by simp) (fun N2 hN2 hNl2=>?_)
  have hg1:(N2++[(⟨b2,y2+i*4,0⟩:Num)])[3]?=some ⟨b2,y2+i*4,0⟩:=num_last hNl2
  have hg0:(N2++[(⟨b2,y2+i*4,0⟩:Num)])[2]?=some ⟨b1,y1+i*4,0⟩:=num_old (hN2 2 _ (num_last hNl1))
  refine X.goP ([(131,.own 2 0),(136,.own 3 0)]) T27_ok 400 _ rfl Tryz.results27 (fun pr fin hpr hfin=>?_)
  conv=>cbv
  refine ⟨hpr _ (ValOk.row rfl rfl (fun _=>rfl) Tryz.underlying38 Tryz.sizeOf96 hlt hp2 hg1 rfl rfl),hpr _ (ValOk.row rfl rfl (fun _=>rfl) Tryz.underlying38 Tryz.sizeOf96 hlt hp1 hg0 rfl rfl),hfin _ _ ?_⟩
  refine X.cond rfl (fun hne=>?_) (fun heq=>?_)
  ·simp only [SB.T,SB.F,SI.den] at hne
   refine X.go T27_ok 400 _ rfl Tryz.results27 ?_
   conv=>arg 2;cbv
   refine X.done T27_ok rfl (fun N w' v hN hS hv=>⟨fin_bool hv ?_,hS.chg.mono fun k o _ h=>inR_nil h⟩)
   rw [hq]
   refine (B_neg fun h=>?_).symm
   cases h
   rw [hx1] at hx2
   have:=Option.some.inj hx2
   simp_all
  ·simp only [SB.T,SB.F,SI.den] at heq
   obtain ⟨rfl,rfl,rfl,rfl⟩:=heq
   refine X.go T27_ok 400 _ rfl Tryz.results27 ?_
   conv=>arg 2;cbv
   refine X.back (fun N a w' hN hf hS=>hq' ⟨i+1,by omega,take_next htk hx1 hx2⟩ a w' (by simp only;omega) ?_)
   exact At.again hf hS (by repeat first | exact trivial | refine ⟨⟨_,rfl,.inl ⟨rfl,rfl⟩⟩,?_⟩ | refine ⟨⟨_,rfl,.inr ⟨_,rfl,rfl⟩⟩,?_⟩ | refine ⟨⟨_,rfl,.inr ⟨_,rfl,by simp (disch:=omega) [SV.den,SI.den,wrapU,wrapD]<;>omega⟩⟩,?_⟩) (by repeat first | exact trivial | refine ⟨fun h=>h,SubC.refl rfl,rfl,?_⟩)
 simp only [SB.F,SI.den] at hge
 obtain rfl:n3=i:=by omega
 have halln3:=take_all htk hn3 ht3
 clear htk hi hge hq'
 refine X.go T27_ok 400 _ rfl Tryz.results27 ?_
 conv=>arg 2;cbv
 refine X.loop1 (fun i:{i:Nat // i≤n4∧m1.take i=m2.take i}=>⟨[(2,.val (.own 0 0)),(3,.val (.own 1 0)),(142,.val (.int .i64 (.nat n4))),(143,.val (.int .i64 (.nat i.1)))],[⟨true,[.int .u8 (.v k1),.int .u64 (.v i1),.int .i64 (.v s1),.slv p1 n1 c1,.slv p2 n2 c2,.slv p3 n3 c3,.int .u64 (.v l1),.slv p4 n4 c4],none⟩,⟨true,[.int .u8 (.v k1),.int .u64 (.v i1),.int .i64 (.v s1),.slv r1 t1 d1,.slv r2 n2 d2,.slv r3 n3 d3,.int .u64 (.v l1),.slv r4 n4 d4],none⟩]⟩) (fun i=>n4-i.1) (fun N a w' hN hf hS=>⟨⟨0,Nat.zero_le _,rfl⟩,?_⟩) (fun i q' hq'=>?_)
 ·exact At.again hf hS (by repeat first | exact trivial | refine ⟨⟨_,rfl,.inl ⟨rfl,rfl⟩⟩,?_⟩ | refine ⟨⟨_,rfl,.inr ⟨_,rfl,rfl⟩⟩,?_⟩ | refine ⟨⟨_,rfl,.inr ⟨_,rfl,by simp (disch:=omega) [SV.den,SI.den,wrapU,wrapD]<;>omega⟩⟩,?_⟩) (by repeat first | exact trivial | refine ⟨fun h=>h,SubC.refl rfl,rfl,?_⟩)
 obtain ⟨i,hi,htk⟩:=i
 refine X.go T27_ok 400 _ rfl Tryz.results27 ?_
 conv=>arg 2;cbv
 refine X.cond rfl (fun hlt=>?_) (fun hge=>?_)
 ·simp only [SB.T,SI.den] at hlt
  have hlt:i<n4:=by omega
  obtain ⟨x1,hx1⟩:∃ x,m1[i]?=some x:=⟨_,List.getElem?_eq_getElem (by omega)⟩
  obtain ⟨x2,hx2⟩:∃ x,m2[i]?=some x:=⟨_,List.getElem?_eq_getElem (by omega)⟩
  obtain ⟨b1,y1,w1,hp1,hr1,hm1⟩:=sa4.his hx1
  obtain ⟨b2,y2,w2,hp2,hr2,hm2⟩:=sb4.his hx2
  rw [←hime] at hm1 hm2
  rw [MarkP.open hr1] at hm1
  rw [MarkP.open hr2] at hm2
  obtain ⟨xa1,xb1,xc1⟩:=x1
  obtain ⟨xa2,xb2,xc2⟩:=x2
  refine X.see b1 (y1+i*3) [.int .u8 (.v xa1),.int .u64 (.v xb1),.int .u64 (.v xc1)] (see_of hm1 rfl) (by simp) (fun N1 hN1 hNl1=>?_)
  refine X.see b2 (y2+i*3) [.int .u8 (.v xa2),.int .u64 (.v xb2),.int .u64 (.v xc2)] (see_of hm2 rfl) (by simp) (fun N2 hN2 hNl2=>?_)
  have hg1:(N2++[(⟨b2,y2+i*3,0⟩:Num)])[3]?=some ⟨b2,y2+i*3,0⟩:=num_last hNl2
  have hg0:(N2++[(⟨b2,y2+i*3,0⟩:Num)])[2]?=some ⟨b1,y1+i*3,0⟩:=num_old (hN2 2 _ (num_last hNl1))
  refine X.goP ([(149,.own 2 0),(154,.own 3 0)]) T27_ok 400 _ rfl Tryz.results27 (fun pr fin hpr hfin=>?_)
  conv=>cbv
  refine ⟨hpr _ (ValOk.row rfl rfl (fun _=>rfl) Tryz.underlying39 Tryz.sizeOf99 hlt hp2 hg1 rfl rfl),hpr _ (ValOk.row rfl rfl (fun _=>rfl) Tryz.underlying39 Tryz.sizeOf99 hlt hp1 hg0 rfl rfl),hfin _ _ ?_⟩
  refine X.cond rfl (fun hne=>?_) (fun heq=>?_)
  ·simp only [SB.T,SB.F,SI.den] at hne
   refine X.go T27_ok 400 _ rfl Tryz.results27 ?_
   conv=>arg 2;cbv
   refine X.done T27_ok rfl (fun N w' v hN hS hv=>⟨fin_bool hv ?_,hS.chg.mono fun k o _ h=>inR_nil h⟩)
   rw [hq]
   refine (B_neg fun h=>?_).symm
   cases h
   rw [hx1] at hx2
   have:=Option.some.inj hx2
   simp_all
  ·simp only [SB.T,SB.F,SI.den] at heq
   obtain ⟨rfl,rfl,rfl⟩:=heq
   refine X.go T27_ok 400 _ rfl Tryz.results27 ?_
   conv=>arg 2;cbv
   refine X.back (fun N a w' hN hf hS=>hq' ⟨i+1,by omega,take_next htk hx1 hx2⟩ a w' (by simp only;omega) ?_)
   exact At.again hf hS (by repeat first | exact trivial | refine ⟨⟨_,rfl,.inl ⟨rfl,rfl⟩⟩,?_⟩ | refine ⟨⟨_,rfl,.inr ⟨_,rfl,rfl⟩⟩,?_⟩ | refine ⟨⟨_,rfl,.inr ⟨_,rfl,by simp (disch:=omega) [SV.den,SI.den,wrapU,wrapD]<;>omega⟩⟩,?_⟩) (by repeat first | exact trivial | refine ⟨fun h=>h,SubC.refl rfl,rfl,?_⟩)
 simp only [SB.F,SI.den] at hge
 obtain rfl:n4=i:=by omega
 have halln4:=take_all htk hn4 ht4
 clear htk hi hge hq'
 refine X.go T27_ok 400 _ rfl Tryz.results27 ?_
 conv=>arg 2;cbv
 refine X.done T27_ok rfl (fun N w' v hN hS hv=>⟨fin_bool hv ?_,hS.chg.mono fun k o _ h=>inR_nil h⟩)
 rw [hq]
 subst halln2 halln3 halln4
 exact (B_pos rfl).symm
end Go.Proofs.YthpbefahaghbjaaGreat
namespace Go.Proofs.YthpbefahaghbjaaGreat
open Go Go.Eng Go.Lib
def U8 (l:List Int):Prop:=∀ x∈l,0≤x∧x≤255
end Go.Proofs.YthpbefahaghbjaaGreat
namespace Go.Proofs.YthpbefahaghbjaaGreat
open Go Go.Eng
def DoneP.ok (d:DoneP):Prop:=1≤d.client∧d.client≤8∧d.seq≠0∧d.reply.may=true
def CellP.ok (last:Int) (c:CellP):Prop:=1≤c.n∧c.n≤last∧c.target≤15∧0≤c.action∧c.action≤31
def MarkP.ok (m:MarkP):Prop:=m.source≤15∧m.inc≠0∧m.cell≠0
def RiseR {α:Type} (ok:α→Prop) (key:α→Int) (l:List α):Prop:=∀ (i:Nat) (x:α),l[i]?=some x→ok x∧(0<i→∀ y,l[i-1]?=some y→key y<key x)
def RegP.lists (r:RegP):Prop:=(r.vars.length≤8∧r.done.length≤8∧r.out.length≤8∧r.marks.length≤16)∧RiseR DoneP.ok DoneP.client r.done∧RiseR (CellP.ok r.last) CellP.n r.out∧RiseR MarkP.ok MarkP.source r.marks
def RegP.may (r:RegP):Prop:=(r.kind=0→r.inc=0∧r.state=0∧r.last=0∧r.vars.length=0∧r.done.length=0∧r.out.length=0∧r.marks.length=0) ∧
 (r.kind≠0→r.kind≤2∧(r.kind=2→r.state=0∧r.vars.length=0∧r.out.length=0)∧r.inc≠0∧0≤r.state∧r.state<32∧r.lists)
def ConfP.may (c:ConfP):Prop:=c.new.length≠0∧mayNP c.new∧(c.c.tmod 2=0→c.old.length=0)∧(c.c.tmod 2≠0→0<c.old.length∧mayNP c.old∧othersN c.old c.new c.old.length+othersN c.new c.old c.new.length=1)
def RegP.zero:RegP:=⟨0,0,0,[],[],[],0,[]⟩
def ConfP.zero:ConfP:=⟨0,[],[]⟩
def BalP.zero:BalP:=⟨0,0,0⟩
def mayR (kind key fence life rk:Int) (np na rz cz ls rm cm:Bool):Prop :=
 (kind≠1→np=true∧na=true∧rz=true)∧(kind≠3→fence=0)∧(kind≠4→life=0)∧(kind≠5→cz=true)∧(2<kind→key=0)∧key≤15 ∧
  (kind=1∧np=false∧ls=false∧rm=true∧(rk=0∨na=false)∨kind=2∨kind=3∧fence≠0∨kind=4∧life≠0∨kind=5∧cm=true)
def RecP.may (r:RecP):Prop:=mayR r.kind r.key r.fence r.life r.reg.kind r.promise.none r.acc.none (B (r.reg=RegP.zero)) (B (r.conf=ConfP.zero)) (r.promise.less r.acc) (B r.reg.may) (B r.conf.may)
end Go.Proofs.YthpbefahaghbjaaGreat
namespace Go.Eng
open Go
end Go.Eng
namespace Go.Proofs.YthpbefahaghbjaaGreat
open Go Go.Eng
structure SlotC where
 (has:Bool) (pc pn pl ac an al k inc st:Int) (vp:Option Addr) (vn vc:Nat) (dp:Option Addr) (dn dc:Nat) (op:Option Addr) (on oc:Nat) (last:Int) (mp:Option Addr) (mn mc:Nat)
structure ConfC where
 (c:Int) (op:Option Addr) (on oc:Nat) (np:Option Addr) (nn nc:Nat)
structure StateC where
 (slots:Nat→SlotC) (fence life:Int) (cf:ConfC)
structure RecC where
 (kind key:Int) (sl:SlotC) (fence life:Int) (cf:ConfC)
def SlotC.vals (x:SlotC):List Value:=[.bool x.has,.int .u64 x.pc,.int .u8 x.pn,.int .u32 x.pl,.int .u64 x.ac,.int .u8 x.an,.int .u32 x.al,.int .u8 x.k,.int .u64 x.inc,.int .i64 x.st,.slice x.vp x.vn x.vc,.slice x.dp x.dn x.dc,.slice x.op x.on x.oc,.int .u64 x.last,.slice x.mp x.mn x.mc]
def ConfC.vals (x:ConfC):List Value:=[.int .u64 x.c,.slice x.op x.on x.oc,.slice x.np x.nn x.nc]
def cat {α:Type} (f:Nat→List α):Nat→Nat→List α
 | _,0=>[]
 | i,n+1=>f i++cat f (i+1) n
def StateC.vals (s:StateC):List Value:=cat (fun i=>(s.slots i).vals) 0 16++(.int .u64 s.fence::.int .u32 s.life::s.cf.vals)
def RecC.vals (r:RecC):List Value:=.int .u8 r.kind::.int .u8 r.key::(r.sl.vals.tail++(.int .u64 r.fence::.int .u32 r.life::r.cf.vals))
def upd {α:Type} (f:Nat→α) (k:Nat) (x:α):Nat→α:=fun i=>bif Nat.beq i k then x else f i
def SlotC.zero:SlotC:=⟨false,0,0,0,0,0,0,0,0,0,none,0,0,none,0,0,none,0,0,0,none,0,0⟩
def ConfC.zero:ConfC:=⟨0,none,0,0,none,0,0⟩
def StateC.zero:StateC:=⟨fun _=>SlotC.zero,0,0,ConfC.zero⟩
def SlotC.put (x:SlotC):SlotC:={ x with has:=true }
def RegP.great (r:RegP):Prop:=50<r.vars.length∨50<r.done.length∨50<r.out.length∨50<r.marks.length∨∃ (i:Nat) (d:DoneP),r.done[i]?=some d∧50<d.reply.vars.length
def great (l:List RecP):Prop:=60<l.length∨∃ (i:Nat) (r:RecP),l[i]?=some r∧(r.reg.great∨80<r.conf.old.length∨80<r.conf.new.length)
theorem great06_ok (a:RegP) (va:List Value) (w:World) (ha:RepL (wm w) a.toD va) :
  Calls Tryz.prog 18 #[.agg va.toArray] w fun e w'=>e=.returned (.bool (B a.great))∧Chg (fun _ _=>False) w w':=by
 obtain ⟨p1,c1,p2,c2,p3,c3,p4,c4,rfl,sa1,sa2,sa3,sa4⟩:=RegP.open ha
 clear ha
 obtain ⟨k1,i1,s1,v1,o1,u1,l1,m1⟩:=a
 simp only at sa1 sa2 sa3 sa4 ⊢
 obtain ⟨q,hq⟩:∃ q:Bool,q=B (RegP.great ⟨k1,i1,s1,v1,o1,u1,l1,m1⟩):=⟨_,rfl⟩
 rw [←hq]
 obtain ⟨n1,hn1⟩:∃ n,n=v1.length:=⟨_,rfl⟩
 obtain ⟨n2,hn2⟩:∃ n,n=o1.length:=⟨_,rfl⟩
 obtain ⟨n3,hn3⟩:∃ n,n=u1.length:=⟨_,rfl⟩
 obtain ⟨n4,hn4⟩:∃ n,n=m1.length:=⟨_,rfl⟩
 have hm:=maxLen_le
 have hl2:n2≤maxLen:=by rw [hn2];exact sa2.len
 rw [←hn1,←hn2,←hn3,←hn4]
 refine X.begin (rg:=[]) (N:=[]) (ss:=[.agg [.int .u8 (.v k1),.int .u64 (.v i1),.int .i64 (.v s1),.slv p1 n1 c1,.slv p2 n2 c2,.slv p3 n3 c3,.int .u64 (.v l1),.slv p4 n4 c4]]) Tryz.func18 rfl B18_ok rfl rfl Sat.std0 ?_
 obtain ⟨im,hime⟩:∃ im,im=elsewhere [] [] w:=⟨_,rfl⟩
 show X (mkE Tryz.prog Tryz.f18 _ w (InR [] []) (elsewhere [] [] w) (fun _ _=>False) (fun _=>True) [] B18) _ _
 rw [←hime]
 refine X.go T18_ok 400 _ rfl Tryz.results18 ?_
 conv=>arg 2;cbv
 refine X.cond rfl (fun hc=>?_) (fun hc=>?_)
 ·refine X.go T18_ok 400 _ rfl Tryz.results18 ?_
  conv=>arg 2;cbv
  refine X.done T18_ok rfl (fun N w' v hN hS hv=>⟨fin_bool hv ?_,hS.chg.mono fun k o _ h=>inR_nil h⟩)
  simp only [SB.T,SB.F,SI.den] at hc
  rw [hq]
  refine (B_pos ?_).symm
  simp only [RegP.great,←hn1,←hn2,←hn3,←hn4]
  omega
 simp only [SB.T,SB.F,SI.den] at hc
 refine X.go T18_ok 400 _ rfl Tryz.results18 ?_
 conv=>arg 2;cbv
 refine X.loop1 (fun i:{i:Nat // i≤n2∧∀ (j:Nat) (x:DoneP),j<i→o1[j]?=some x→x.reply.vars.length≤50}=>⟨[(1,.val (.own 0 0)),(28,.val (.int .i64 (.nat n2))),(29,.val (.int .i64 (.nat i.1)))],[⟨true,[.int .u8 (.v k1),.int .u64 (.v i1),.int .i64 (.v s1),.slv p1 n1 c1,.slv p2 n2 c2,.slv p3 n3 c3,.int .u64 (.v l1),.slv p4 n4 c4],none⟩]⟩) (fun i=>n2-i.1) (fun N a w' hN hf hS=>⟨⟨0,Nat.zero_le _,fun j x hj=>by omega⟩,?_⟩) (fun i q' hq'=>?_)
 ·exact At.again hf hS (by repeat first | exact trivial | refine ⟨⟨_,rfl,.inl ⟨rfl,rfl⟩⟩,?_⟩ | refine ⟨⟨_,rfl,.inr ⟨_,rfl,rfl⟩⟩,?_⟩ | refine ⟨⟨_,rfl,.inr ⟨_,rfl,by simp (disch:=omega) [SV.den,SI.den,wrapU,wrapD]<;>omega⟩⟩,?_⟩) (by repeat first | exact trivial | refine ⟨fun h=>h,SubC.refl rfl,rfl,?_⟩)
 obtain ⟨i,hi,hno⟩:=i
 refine X.go T18_ok 400 _ rfl Tryz.results18 ?_
 conv=>arg 2;cbv
 refine X.cond rfl (fun hlt=>?_) (fun hge=>?_)
 ·simp only [SB.T,SI.den] at hlt
  have hlt:i<n2:=by omega
  obtain ⟨x1,hx1⟩:∃ x,o1[i]?=some x:=⟨_,List.getElem?_eq_getElem (by omega)⟩
  obtain ⟨b1,y1,w1,hp1,hr1,hm1⟩:=sa2.his hx1
  rw [←hime] at hm1
  obtain ⟨pa,ca,rfl⟩:=DoneP.cells hr1
  obtain ⟨na,hna⟩:∃ n,n=x1.reply.vars.length:=⟨_,rfl⟩
  rw [←hna] at hm1
  refine X.see b1 (y1+i*6) [.int .u8 (.v x1.client),.int .u64 (.v x1.seq),.int .i64 (.v x1.reply.err),.int .u64 (.v x1.reply.inc),.int .i64 (.v x1.reply.state),.slv pa na ca] (see_of hm1 rfl) (by simp) (fun N1 hN1 hNl1=>?_)
  have hg1:(N1++[(⟨b1,y1+i*6,0⟩:Num)])[1]?=some ⟨b1,y1+i*6,0⟩:=num_last hNl1
  refine X.goP ([(35,.own 1 0)]) T18_ok 400 _ rfl Tryz.results18 (fun pr fin hpr hfin=>?_)
  conv=>cbv
  refine ⟨hpr _ (ValOk.row rfl rfl (fun _=>rfl) Tryz.underlying37 Tryz.sizeOf89 hlt hp1 hg1 rfl rfl),hfin _ _ ?_⟩
  refine X.cond rfl (fun hbad=>?_) (fun hok=>?_)
  ·simp only [SB.T,SB.F,SI.den] at hbad
   refine X.go T18_ok 400 _ rfl Tryz.results18 ?_
   conv=>arg 2;cbv
   refine X.done T18_ok rfl (fun N w' v hN hS hv=>⟨fin_bool hv ?_,hS.chg.mono fun k o _ h=>inR_nil h⟩)
   rw [hq]
   refine (B_pos ?_).symm
   exact .inr (.inr (.inr (.inr ⟨i,x1,hx1,by omega⟩)))
  ·simp only [SB.T,SB.F,SI.den] at hok
   refine X.go T18_ok 400 _ rfl Tryz.results18 ?_
   conv=>arg 2;cbv
   refine X.back (fun N a w' hN hf hS=>hq' ⟨i+1,by omega,fun j x' hj hj'=>?_⟩ a w' (by simp only;omega) ?_)
   ·by_cases e:j=i
    ·subst e
     rw [hx1] at hj'
     obtain rfl:=Option.some.inj hj'
     omega
    ·exact hno j x' (by omega) hj'
   exact At.again hf hS (by repeat first | exact trivial | refine ⟨⟨_,rfl,.inl ⟨rfl,rfl⟩⟩,?_⟩ | refine ⟨⟨_,rfl,.inr ⟨_,rfl,rfl⟩⟩,?_⟩ | refine ⟨⟨_,rfl,.inr ⟨_,rfl,by simp (disch:=omega) [SV.den,SI.den,wrapU,wrapD]<;>omega⟩⟩,?_⟩) (by repeat first | exact trivial | refine ⟨fun h=>h,SubC.refl rfl,rfl,?_⟩)
 simp only [SB.F,SI.den] at hge
 obtain rfl:n2=i:=by omega
 refine X.go T18_ok 400 _ rfl Tryz.results18 ?_
 conv=>arg 2;cbv
 refine X.done T18_ok rfl (fun N w' v hN hS hv=>⟨fin_bool hv ?_,hS.chg.mono fun k o _ h=>inR_nil h⟩)
 rw [hq]
 refine (B_neg fun h=>?_).symm
 simp only [RegP.great,←hn1,←hn2,←hn3,←hn4] at h
 rcases h with h | h | h | h | ⟨j,d,hj,hd⟩
 ·omega
 ·omega
 ·omega
 ·omega
 ·have:=hno j d (by have:=(List.getElem?_eq_some_iff.1 hj).1;omega) hj
  omega
theorem RecP.cells {x:RecP} {M:Mem} {vs:List Value} (h:RepL M x.toD vs):∃ r:RecC,vs=r.vals∧RepL M x.reg.toD (r.sl.vals.drop 7)∧RepL M x.conf.toD r.cf.vals∧r.kind=x.kind∧r.key=x.key:=by
 obtain ⟨rv,cv,rfl,hr,hc⟩:=RecP.open h
 obtain ⟨p1,c1,p2,c2,p3,c3,p4,c4,rfl,_⟩:=RegP.open hr
 obtain ⟨p5,c5,p6,c6,rfl,_⟩:=ConfP.open hc
 exact ⟨⟨x.kind,x.key,⟨true,x.promise.count,x.promise.node,x.promise.life,x.acc.count,x.acc.node,x.acc.life,x.reg.kind,x.reg.inc,x.reg.state,p1,_,c1,p2,_,c2,p3,_,c3,x.reg.last,p4,_,c4⟩,x.fence,x.life,⟨x.conf.c,p5,_,c5,p6,_,c6⟩⟩,rfl,hr,hc,rfl,rfl⟩
theorem SlotD.cells {x:SlotD} {M:Mem} {c:SlotC} (h:RepL M x.toD c.vals):c.has=x.has∧c.pc=x.promise.count∧c.pn=x.promise.node∧c.pl=x.promise.life∧c.ac=x.acc.count∧c.an=x.acc.node∧c.al=x.acc.life∧RepL M x.reg.toD (c.vals.drop 7):=by
 obtain ⟨rv,he,hr⟩:=SlotD.open h
 simp only [SlotC.vals,List.cons.injEq,Value.bool.injEq,Value.int.injEq,true_and] at he
 obtain ⟨h1,h2,h3,h4,h5,h6,h7,h8⟩:=he
 exact ⟨h1,h2,h3,h4,h5,h6,h7,by rw [←h8] at hr;exact hr⟩
structure StP where
 (slots:Nat→SlotD) (fence life:Int) (conf:ConfP)
def StP.same (x y:StP):Prop:=(∀ i,i<16→x.slots i=y.slots i)∧x.fence=y.fence∧x.life=y.life∧x.conf=y.conf
end Go.Proofs.YthpbefahaghbjaaGreat
namespace Go.Eng
open Go
end Go.Eng
namespace Go.Proofs.YthpbefahaghbjaaGreat
open Go Go.Eng
def StP.zero:StP:=⟨fun _=>⟨false,BalP.zero,BalP.zero,RegP.zero⟩,0,0,ConfP.zero⟩
end Go.Proofs.YthpbefahaghbjaaGreat
namespace Go.Proofs.YthpbefahaghbjaaGreat
open Go Go.Eng Go.Lib
end Go.Proofs.YthpbefahaghbjaaGreat
namespace Go.Proofs.YthpbefahaghbjaaGreat
open Go Go.Eng Go.ChangeShapes Go.WideShapes Go.ChangeAt Go.RowKit
theorem _root_.Go.Eng.FitL.cons {P:Program} {m:Nat} {k:CK} {ks:List CK} {ds:List Dt} (h:FitL P m (k::ks) ds):∃ d r,ds=d::r∧FitC P m k d∧FitL P m ks r:=by simpa only [FitL] using h
theorem _root_.Go.Eng.FitL.nil {P:Program} {m:Nat} {ds:List Dt} (h:FitL P m [] ds):ds=[]:=by simpa only [FitL] using h
theorem _root_.Go.Eng.FitC.int' {P:Program} {m:Nat} {k:IntKind} {d:Dt} (h:FitC P m (.int k) d):∃ z,d=.int k z∧(Lit.int k z).wf=true:=by
 cases m<;>simpa only [FitC] using h
theorem _root_.Go.Eng.FitC.slice' {P:Program} {m e:Nat} {ks:List CK} (hk:kindsOf P 8 e=some ks) {d:Dt} (h:FitC P (m+1) (.slice e) d):∃ rows,d=.list rows∧∀ r∈rows,FitL P m ks r:=by
 simp only [FitC] at h
 obtain ⟨rows,rfl,_,h⟩:=h
 exact ⟨rows,rfl,fun r hr=>by
  obtain ⟨ks',h1,h2⟩:=h r hr
  rw [hk] at h1
  cases h1
  exact h2⟩
theorem u8_wf {z:Int} (h:(Lit.int .u8 z).wf=true):0≤z∧z≤255:=by
 simp [Lit.wf,IntKind.min,IntKind.max,IntKind.bits,IntKind.signed] at h
 omega
def i64K:List CK:=[.int .i64]
def u8K:List CK:=[.int .u8]
def doneK:List CK:=[.int .u8,.int .u64,.int .i64,.int .u64,.int .i64,.slice 2]
def cellK:List CK:=[.int .u64,.int .u8,.int .i64,.int .i64]
def markK:List CK:=[.int .u8,.int .u64,.int .u64]
theorem k_i64:kindsOf Tryz.prog 8 2=some i64K:=by kernel_rfl
theorem k_u8:kindsOf Tryz.prog 8 5=some u8K:=by kernel_rfl
theorem k_done:kindsOf Tryz.prog 8 89=some doneK:=by kernel_rfl
theorem k_cell:kindsOf Tryz.prog 8 96=some cellK:=by kernel_rfl
theorem k_mark:kindsOf Tryz.prog 8 99=some markK:=by kernel_rfl
theorem fit_i64 {m:Nat} {d:Dt} (h:FitC Tryz.prog (m+1) (.slice 2) d):∃ l:List Int,d=.list (l.map i64D):=by
 obtain ⟨rows,rfl,hrows⟩:=h.slice' k_i64
 obtain ⟨xs,rfl,_⟩:=map_of (f:=i64D) (p:=fun _=>True) (rows:=rows) fun r hr=>by
  obtain ⟨_,_,rfl,h1,h2⟩:=FitL.cons (hrows r hr)
  obtain ⟨z,rfl,_⟩:=h1.int'
  cases FitL.nil h2
  exact ⟨z,rfl,trivial⟩
 exact ⟨xs,rfl⟩
theorem fit_u8 {m:Nat} {d:Dt} (h:FitC Tryz.prog (m+1) (.slice 5) d):∃ l:List Int,d=.list (l.map u8D)∧U8 l:=by
 obtain ⟨rows,rfl,hrows⟩:=h.slice' k_u8
 obtain ⟨xs,rfl,hx⟩:=map_of (f:=u8D) (p:=fun z=>0≤z∧z≤255) (rows:=rows) fun r hr=>by
  obtain ⟨_,_,rfl,h1,h2⟩:=FitL.cons (hrows r hr)
  obtain ⟨z,rfl,hz⟩:=h1.int'
  cases FitL.nil h2
  exact ⟨z,rfl,u8_wf hz⟩
 exact ⟨xs,rfl,hx⟩
theorem fit_done {m:Nat} {d:Dt} (h:FitC Tryz.prog (m+2) (.slice 89) d):∃ l:List DoneP,d=.list (l.map DoneP.toD):=by
 obtain ⟨rows,rfl,hrows⟩:=h.slice' k_done
 obtain ⟨xs,rfl,_⟩:=map_of (f:=DoneP.toD) (p:=fun _=>True) (rows:=rows) fun r hr=>by
  obtain ⟨_,_,rfl,h1,h⟩:=FitL.cons (hrows r hr)
  obtain ⟨_,_,rfl,h2,h⟩:=FitL.cons h
  obtain ⟨_,_,rfl,h3,h⟩:=FitL.cons h
  obtain ⟨_,_,rfl,h4,h⟩:=FitL.cons h
  obtain ⟨_,_,rfl,h5,h⟩:=FitL.cons h
  obtain ⟨_,_,rfl,h6,h⟩:=FitL.cons h
  cases FitL.nil h
  obtain ⟨z1,rfl,_⟩:=h1.int'
  obtain ⟨z2,rfl,_⟩:=h2.int'
  obtain ⟨z3,rfl,_⟩:=h3.int'
  obtain ⟨z4,rfl,_⟩:=h4.int'
  obtain ⟨z5,rfl,_⟩:=h5.int'
  obtain ⟨l,rfl⟩:=fit_i64 h6
  exact ⟨⟨z1,z2,⟨z3,z4,z5,l⟩⟩,rfl,trivial⟩
 exact ⟨xs,rfl⟩
theorem fit_cell {m:Nat} {d:Dt} (h:FitC Tryz.prog (m+1) (.slice 96) d):∃ l:List CellP,d=.list (l.map CellP.toD):=by
 obtain ⟨rows,rfl,hrows⟩:=h.slice' k_cell
 obtain ⟨xs,rfl,_⟩:=map_of (f:=CellP.toD) (p:=fun _=>True) (rows:=rows) fun r hr=>by
  obtain ⟨_,_,rfl,h1,h⟩:=FitL.cons (hrows r hr)
  obtain ⟨_,_,rfl,h2,h⟩:=FitL.cons h
  obtain ⟨_,_,rfl,h3,h⟩:=FitL.cons h
  obtain ⟨_,_,rfl,h4,h⟩:=FitL.cons h
  cases FitL.nil h
  obtain ⟨z1,rfl,_⟩:=h1.int'
  obtain ⟨z2,rfl,_⟩:=h2.int'
  obtain ⟨z3,rfl,_⟩:=h3.int'
  obtain ⟨z4,rfl,_⟩:=h4.int'
  exact ⟨⟨z1,z2,z3,z4⟩,rfl,trivial⟩
 exact ⟨xs,rfl⟩
theorem fit_mark {m:Nat} {d:Dt} (h:FitC Tryz.prog (m+1) (.slice 99) d):∃ l:List MarkP,d=.list (l.map MarkP.toD):=by
 obtain ⟨rows,rfl,hrows⟩:=h.slice' k_mark
 obtain ⟨xs,rfl,_⟩:=map_of (f:=MarkP.toD) (p:=fun _=>True) (rows:=rows) fun r hr=>by
  obtain ⟨_,_,rfl,h1,h⟩:=FitL.cons (hrows r hr)
  obtain ⟨_,_,rfl,h2,h⟩:=FitL.cons h
  obtain ⟨_,_,rfl,h3,h⟩:=FitL.cons h
  cases FitL.nil h
  obtain ⟨z1,rfl,_⟩:=h1.int'
  obtain ⟨z2,rfl,_⟩:=h2.int'
  obtain ⟨z3,rfl,_⟩:=h3.int'
  exact ⟨⟨z1,z2,z3⟩,rfl,trivial⟩
 exact ⟨xs,rfl⟩
structure MsgP where
 (kind sender to key conf:Int) (b:BalP) (ok:Bool) (acc:BalP) (reg:RegP) (next:BalP) (max:Int)
def MsgP.toD (x:MsgP):List Dt:=.int .u8 x.kind::.int .u8 x.sender::.int .u8 x.to::.int .u8 x.key::.int .u64 x.conf::(x.b.toD++.bool x.ok::(x.acc.toD++(x.reg.toD++(x.next.toD++[.int .u64 x.max]))))
theorem _root_.Go.Eng.FitC.bool' {P:Program} {m:Nat} {d:Dt} (h:FitC P m .bool d):∃ b,d=.bool b:=by
 cases m<;>simpa only [FitC] using h
theorem MsgP.open {x:MsgP} {M:Mem} {vs:List Value} (h:RepL M x.toD vs):∃ rv,vs=.int .u8 x.kind::.int .u8 x.sender::.int .u8 x.to::.int .u8 x.key::.int .u64 x.conf::.int .u64 x.b.count::.int .u8 x.b.node::.int .u32 x.b.life::.bool x.ok::.int .u64 x.acc.count::.int .u8 x.acc.node::.int .u32 x.acc.life::(rv++[.int .u64 x.next.count,.int .u8 x.next.node,.int .u32 x.next.life,.int .u64 x.max])∧RepL M x.reg.toD rv:=by
 unfold MsgP.toD at h
 obtain ⟨_,_,rfl,h1,h⟩:=RepL.cons h
 obtain ⟨_,_,rfl,h2,h⟩:=RepL.cons h
 obtain ⟨_,_,rfl,h3,h⟩:=RepL.cons h
 obtain ⟨_,_,rfl,h4,h⟩:=RepL.cons h
 obtain ⟨_,_,rfl,h5,h⟩:=RepL.cons h
 obtain ⟨bv,_,rfl,h6,h⟩:=h.split
 obtain ⟨_,_,rfl,h7,h⟩:=RepL.cons h
 obtain ⟨av,_,rfl,h8,h⟩:=h.split
 obtain ⟨rv,_,rfl,h9,h⟩:=h.split
 obtain ⟨nv,_,rfl,h10,h⟩:=h.split
 obtain ⟨_,_,rfl,h11,h⟩:=RepL.cons h
 have hn:=RepL.nil h;subst hn
 rw [RepC.int' h1,RepC.int' h2,RepC.int' h3,RepC.int' h4,RepC.int' h5,RepC.bool' h7,RepC.int' h11,BalP.open h6,BalP.open h8,BalP.open h10]
 exact ⟨rv,by simp,h9⟩
structure OpP where
 (kind key client seq action party arg source inc cell:Int)
def OpP.vals (o:OpP):List Value:=[.int .u8 o.kind,.int .u8 o.key,.int .u8 o.client,.int .u64 o.seq,.int .i64 o.action,.int .i64 o.party,.int .i64 o.arg,.int .u8 o.source,.int .u64 o.inc,.int .u64 o.cell]
end Go.Proofs.YthpbefahaghbjaaGreat
namespace Go.Eng
open Go
end Go.Eng
