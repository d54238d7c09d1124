import Derived.Test.YthpbefahaghbjaaGreatEC
import Derived.MapKept
import Derived.Conc.LoneCalls
import Derived.Deep.Slices
import Derived.ChangeArms
import Derived.KernelRfl
import Derived.Test.YthpbefahaghbjaaGreatEB
import Derived.ProofKit
namespace Go.Eng
def AllR (P:Num→Rg→Prop):Nums→List Rg→Prop
 | [],[]=>True
 | p::N,g::rg=>P p g∧AllR P N rg
 | _,_=>False
def SepR (p:Num) (g:Rg) (p':Num) (g':Rg):Prop:=g.own=true∨g'.own=true→∀ j j',j<g.wid p→j'<g'.wid p'→¬(p.b=p'.b∧p.o+j=p'.o+j')
def PairR:Nums→List Rg→Prop
 | [],[]=>True
 | p::N,g::rg=>AllR (fun p' g'=>SepR p g p' g') N rg∧PairR N rg
 | _,_=>False
structure RgAt (w:World) (N:Nums) (p:Num) (g:Rg):Prop where
 lt:p.b<w.heap.size
 ob:g.ob=none
 cell:∀ (j:Nat) (c:SV),g.cells[j]?=some c→∃ v,c.den N=some v∧w.cell? ⟨p.b,p.o+j,none⟩=some v
 ext:g.own=true→g.cells.length≤p.x
 room:g.own=true→∀ j,j<p.x→(w.cell? ⟨p.b,p.o+j,none⟩).isSome=true∧w.frozen? ⟨p.b,p.o+j,none⟩=false
theorem AllR.get {P:Num→Rg→Prop}:∀ {N:Nums} {rg:List Rg},AllR P N rg→N.length=rg.length∧∀ (r:Nat) (g:Rg) (p:Num),rg[r]?=some g→N[r]?=some p→P p g
 | [],[],_=>⟨rfl,fun r g p h=>by simp at h⟩
 | p::N,g::rg,h=>by
  obtain ⟨h1,h2⟩:=h
  obtain ⟨k1,k2⟩:=AllR.get h2
  refine ⟨by simp [k1],fun r g' p' hg hp=>?_⟩
  cases r with
  | zero=>simp at hg hp;subst hg;subst hp;exact h1
  | succ r=>exact k2 r g' p' (by simpa using hg) (by simpa using hp)
 | [],_::_,h=>h.elim
 | _::_,[],h=>h.elim
theorem SepR.symm {p p':Num} {g g':Rg} (h:SepR p g p' g'):SepR p' g' p g:=fun ho j j' hj hj' ⟨e1,e2⟩=>h ho.symm j' j hj' hj ⟨e1.symm,e2.symm⟩
theorem PairR.get:∀ {N:Nums} {rg:List Rg},PairR N rg→∀ (r r':Nat) (g g':Rg) (p p':Num),rg[r]?=some g→N[r]?=some p→rg[r']?=some g'→N[r']?=some p'→r≠r'→SepR p g p' g'
 | [],[],_,r,_,_,_,_,_,h,_,_,_,_=>by simp at h
 | p::N,g::rg,h,r,r',g1,g2,p1,p2,hg,hp,hg',hp',hne=>by
  obtain ⟨h1,h2⟩:=h
  cases r with
  | zero =>
   simp at hg hp;subst hg;subst hp
   cases r' with
   | zero=>exact absurd rfl hne
   | succ r'=>exact h1.get.2 r' g2 p2 (by simpa using hg') (by simpa using hp')
  | succ r =>
   cases r' with
   | zero =>
    simp at hg' hp';subst hg';subst hp'
    exact (h1.get.2 r g1 p1 (by simpa using hg) (by simpa using hp)).symm
   | succ r'=>exact PairR.get h2 r r' g1 g2 p1 p2 (by simpa using hg) (by simpa using hp) (by simpa using hg') (by simpa using hp') (by omega)
 | [],_::_,h,_,_,_,_,_,_,_,_,_,_,_=>h.elim
 | _::_,[],h,_,_,_,_,_,_,_,_,_,_,_=>h.elim
theorem Sat.stdL {P:Program} {fn:Func} {R:Ending→World→Prop} {w:World} {N:Nums} {rg:List Rg} {B:SchT} (h:AllR (RgAt w N) N rg) (hs:PairR N rg):Sat (Eng.std P fn R w N rg B).toEnv N rg w:=by
 obtain ⟨h1,h2⟩:=h.get
 have get:∀ {r:Nat} {p:Num},N[r]?=some p→∃ g,rg[r]?=some g:=fun {r p} hp=>⟨_,List.getElem?_eq_getElem (by have:=(List.getElem?_eq_some_iff.1 hp).1;omega)⟩
 have getN:∀ {r:Nat} {g:Rg},rg[r]?=some g→∃ p,N[r]?=some p:=fun {r p} hp=>⟨_,List.getElem?_eq_getElem (by have:=(List.getElem?_eq_some_iff.1 hp).1;omega)⟩
 refine Sat.std h1 (fun r p hp=>?_) (fun r g p hg hp=>(h2 r g p hg hp).cell) (fun r g p hg hp=>(h2 r g p hg hp).ext) (fun r g p hg hp=>(h2 r g p hg hp).room) (fun r r' g g' p p' hg hp hg' hp' ho hne j hj hb=>?_) (fun r g hg=>?_)
 ·obtain ⟨g,hg⟩:=get hp
  exact (h2 r g p hg hp).lt
 ·have:=hs.get r r' g g' p p' hg hp hg' hp' hne (.inl ho) (p'.o+j-p.o) j
  unfold Rg.wid at this
  rw [ho] at this
  simp only [cond_true] at this
  rcases Nat.lt_or_ge (p'.o+j) p.o with h3 | h3
  ·exact .inl h3
  ·refine .inr ?_
   rcases Nat.lt_or_ge (p'.o+j) (p.o+p.x) with h4 | h4
   ·exact absurd ⟨hb.symm,by omega⟩ (this (by omega) hj)
   ·exact h4
 ·obtain ⟨p,hp⟩:=getN hg
  exact (h2 r g p hg hp).ob
theorem inR_nil {rg:List Rg} {k o:Nat}:¬InR [] rg k o:=by
 rintro ⟨r,g,p,_,hp,_⟩
 simp at hp
theorem inR_cons {p:Num} {N:Nums} {g:Rg} {rg:List Rg} {k o:Nat} (h:InR (p::N) (g::rg) k o):(g.own=true∧k=p.b∧p.o≤o∧o<p.o+p.x)∨InR N rg k o:=by
 obtain ⟨r,g',p',hg,hp,h1,h2,h3,h4⟩:=h
 cases r with
 | zero=>simp at hg hp;subst hg;subst hp;exact .inl ⟨h1,h2,h3,h4⟩
 | succ r=>exact .inr ⟨r,g',p',by simpa using hg,by simpa using hp,h1,h2,h3,h4⟩
theorem elsewhere_not {N:Nums} {rg:List Rg} {w:World} {k o:Nat} (h:¬InR N rg k o):elsewhere N rg w k o=w.cell? ⟨k,o,none⟩:=by
 unfold elsewhere
 rw [if_neg h]
theorem some_of_chg {O:Nat→Nat→Prop} {w w':World} (h:Chg O w w') {k:Nat} (o:Nat) (hc:(w.cell? ⟨k,o,none⟩).isSome=true):(w'.cell? ⟨k,o,none⟩).isSome=true:=by
 cases hh:w.heap[k]? with
 | none=>simp [World.cell?,hh] at hc
 | some x =>
  cases x with
  | cells c e f =>
   obtain ⟨c',h1,h2,_⟩:=h.cells k c e f hh
   simp only [World.cell?,hh,h1] at hc ⊢
   have:o<c.size:=by
    have:=Option.isSome_iff_exists.1 hc
    obtain ⟨v,hv⟩:=this
    exact (Array.getElem?_eq_some_iff.1 hv).1
   rw [Array.getElem?_eq_getElem (by omega)];rfl
  | _=>simp [World.cell?,hh] at hc
section
variable {E:Ctx} {T:Tab} {all:Array Oper} {i:Nat} {rest:List Nat} {k:List It} {s:St} {o:Oper} {f:Fr}
theorem X.names (h:∀ N:Nums,E.N0.le N→N.length=s.rg.length→X { E with N0:=N } k s):X E k s:=by
 refine X.conv fun N a w hN hf hS=>?_
 exact ⟨{ E with N0:=N },s,rfl,rfl,rfl,rfl,⟨N,Nums.le.refl _,hf,hS.env rfl rfl rfl rfl rfl⟩,h N hN hS.len⟩
end
theorem Sat.recell {E:Env} {N:Nums} {rg:List Rg} {w:World} (h:Sat E N rg w) {r:Nat} {g:Rg} {cs':List SV} (hg:rg[r]?=some g) (hl:cs'.length=g.cells.length) (hd:∀ (j:Nat) (c c':SV),g.cells[j]?=some c→cs'[j]?=some c'→∀ v,c.den N=some v→c'.den N=some v):Sat E N (rg.set r { g with cells:=cs' }) w:=by
 have hrl:r<rg.length:=(List.getElem?_eq_some_iff.1 hg).1
 have old:∀ {i:Nat} {x:Rg},(rg.set r { g with cells:=cs' })[i]?=some x→∃ x0,rg[i]?=some x0∧x0.own=x.own∧x0.ob=x.ob∧x0.cells.length=x.cells.length∧∀ (j:Nat) (c:SV),x.cells[j]?=some c→∃ c0,x0.cells[j]?=some c0∧∀ v,c0.den N=some v→c.den N=some v:=by
  intro i x hx
  rcases get_set hrl hx with ⟨rfl,rfl⟩ | ⟨hi,hx⟩
  ·refine ⟨g,hg,rfl,rfl,hl.symm,fun j c hc=>?_⟩
   have hc:cs'[j]?=some c:=hc
   obtain ⟨c0,h0⟩:∃ c0,g.cells[j]?=some c0:=⟨_,List.getElem?_eq_getElem (by rw [←hl];exact (List.getElem?_eq_some_iff.1 hc).1)⟩
   exact ⟨c0,h0,hd j c0 c h0 hc⟩
  ·exact ⟨x,hx,rfl,rfl,rfl,fun j c hc=>⟨c,hc,fun v hv=>hv⟩⟩
 refine ⟨by simp [h.len],h.lt,?_,?_,?_,?_,?_,?_,h.imm,?_,?_,h.dlt,h.loc,h.res,h.chg,?_⟩
 ·intro i x q hx hq j c hc
  obtain ⟨x0,k1,_,_,_,k5⟩:=old hx
  obtain ⟨c0,k6,k7⟩:=k5 j c hc
  obtain ⟨v,k8,k9⟩:=h.cell i x0 q k1 hq j c0 k6
  exact ⟨v,k7 v k8,k9⟩
 ·intro i x q hx hq ho
  obtain ⟨x0,k1,k2,_,k4,_⟩:=old hx
  rw [←k4];exact h.ext i x0 q k1 hq (k2.trans ho)
 ·intro i x q hx hq ho
  obtain ⟨x0,k1,k2,_⟩:=old hx
  exact h.room i x0 q k1 hq (k2.trans ho)
 ·intro i i' x x' q q' hx hq hx' hq' ho hne j hj
  obtain ⟨x0,k1,k2,_⟩:=old hx
  obtain ⟨x1,m1,m2,_,m4,_⟩:=old hx'
  refine h.disj i i' x0 x1 q q' k1 hq m1 hq' (k2.trans ho) hne j ?_
  unfold Rg.wid at hj ⊢
  rw [m2,m4];exact hj
 ·intro i x q ob hx hq ho
  obtain ⟨x0,k1,_,k3,_⟩:=old hx
  exact h.obj i x0 q ob k1 hq (k3.trans ho)
 ·intro i i' x x' q q' hx hq hx' hq' ho ho' hne
  obtain ⟨x0,k1,_,k3,_⟩:=old hx
  obtain ⟨x1,m1,_,m3,_⟩:=old hx'
  exact h.odisj i i' x0 x1 q q' k1 hq m1 hq' (by rw [k3];exact ho) (by rw [m3];exact ho') hne
 ·intro i x q hx hq ho
  obtain ⟨x0,k1,k2,_⟩:=old hx
  exact h.imd i x0 q k1 hq (k2.trans ho)
 ·intro i x q hx hq ho
  obtain ⟨x0,k1,k2,_⟩:=old hx
  exact h.dd i x0 q k1 hq (k2.trans ho)
 ·intro i x q hx hq ho
  obtain ⟨x0,k1,k2,_⟩:=old hx
  exact h.foot i x0 q k1 hq (k2.trans ho)
theorem X.recell {E:Ctx} {k:List It} {s:St} (r:Nat) (g:Rg) (cs':List SV) (hg:s.rg[r]?=some g) (hl:cs'.length=g.cells.length) (hd:∀ N,E.N0.le N→∀ (j:Nat) (c c':SV),g.cells[j]?=some c→cs'[j]?=some c'→∀ v,c.den N=some v→c'.den N=some v) (h:X E k ⟨s.fr,s.rg.set r { g with cells:=cs' }⟩):X E k s:=by
 refine X.conv fun N a w hN hf hS=>?_
 exact ⟨E,⟨s.fr,s.rg.set r { g with cells:=cs' }⟩,rfl,rfl,rfl,rfl,⟨N,hN,hf,hS.recell hg hl (hd N hN)⟩,h⟩
theorem X.less {E:Ctx} {k:List It} {s:St} (ts:List Nat) (h:X E k ⟨s.fr.filter fun p=>ts.elem p.1,s.rg⟩):X E k s:=by
 refine X.conv fun N a w hN hf hS=>?_
 refine ⟨E,⟨s.fr.filter fun p=>ts.elem p.1,s.rg⟩,rfl,rfl,rfl,rfl,⟨N,hN,⟨hf.size,hf.defers,fun t=>?_⟩,hS⟩,h⟩
 have:=hf.ok t
 have key:∀ f:Fr,look (f.filter fun p=>ts.elem p.1) t=look f t∨look (f.filter fun p=>ts.elem p.1) t=.dead:=fun f=>by
  induction f with
  | nil=>exact .inl rfl
  | cons p f ih =>
   obtain ⟨k,v⟩:=p
   simp only [List.filter]
   cases he:ts.elem k with
   | true =>
    simp only [look]
    cases Nat.beq k t with
    | true=>exact .inl rfl
    | false=>exact ih
   | false =>
    simp only [look]
    cases hk:Nat.beq k t with
    | false=>exact ih
    | true =>
     have hk:=Nat.eq_of_beq_eq_true hk
     subst hk
     refine .inr ?_
     clear ih
     induction f with
     | nil=>rfl
     | cons p f ih =>
      obtain ⟨k',v'⟩:=p
      simp only [List.filter]
      cases he':ts.elem k' with
      | true =>
       simp only [look]
       cases hk':Nat.beq k' k with
       | false=>exact ih
       | true =>
        have hk':=Nat.eq_of_beq_eq_true hk'
        subst hk'
        rw [he] at he';cases he'
      | false=>exact ih
 rcases key s.fr with e | e
 ·rw [e];exact this
 ·rw [e];trivial
theorem X.drop {E:Ctx} {k:List It} {s:St} (r:Nat) (hr:r<s.rg.length) (h:X E k ⟨s.fr,s.rg.set r ⟨false,[],none⟩⟩):X E k s:=by
 refine X.conv fun N a w hN hf hS=>?_
 exact ⟨E,⟨s.fr,s.rg.set r ⟨false,[],none⟩⟩,rfl,rfl,rfl,rfl,⟨N,hN,hf,hS.retire hr⟩,h⟩
theorem nil_le (N:Nums):Nums.le [] N:=fun r p h=>by simp at h
theorem X.recell1 {E:Ctx} {k:List It} {s:St} (r j:Nat) {g:Rg} {c:SV} (c':SV) (hg:s.rg[r]?=some g) (hj:g.cells[j]?=some c) (hd:∀ N,E.N0.le N→∀ v,c.den N=some v→c'.den N=some v) (h:X E k ⟨s.fr,s.rg.set r { g with cells:=g.cells.set j c' }⟩):X E k s:=by
 refine X.recell r g (g.cells.set j c') hg (by simp) (fun N hN q d d' h1 h2 v hv=>?_) h
 have hjl:j<g.cells.length:=(List.getElem?_eq_some_iff.1 hj).1
 rcases get_set hjl h2 with ⟨rfl,rfl⟩ | ⟨_,h2⟩
 ·rw [hj] at h1;cases h1
  exact hd N hN v hv
 ·rw [h1] at h2;cases h2
  exact hv
structure Told (b:SB) (v:Bool):Prop where
 eq:b.den=v
def litO (T:Tab) (n:Nat) (all:Array Oper):List (Nat × Nat × Bool)→Nat→Fr→Option (Fr × Prop)
 | [],_,_=>none
 | (j,t,v)::l,i,f=>bif Nat.beq i j then
   match opQ T n all [] i f with
   | some f'=>match look f' t with
    | .val (.bool b)=>some (litF t v f',Told b v)
    | _=>none
   | none=>none
  else litO T n all l i f
structure SlcS where
 (j x lo hi d t zl zh:Nat) (sx r:SV)
def SlcS.ok (ops:Array Oper) (q:SlcS):Bool:=match nth ops.toList q.j with
 | some o=>(match o.op with | .slice t' (.tmp x) (some (.tmp lo)) (some (.tmp hi)) none=>Nat.beq t' q.t&&(Nat.beq x q.x&&(Nat.beq lo q.lo&&Nat.beq hi q.hi)) | _=>false)&&(match o.dst with | some d=>Nat.beq d q.d | none=>false)
 | none=>false
theorem X.join {E:Ctx} {ι:Type} (En:ι→Ctx) (S:ι→St) {c1 c2:Code} {k:List It} {s:St} (hEn:∀ i,(En i).P=E.P∧(En i).Q=E.Q∧(En i).B=E.B)
  (h1:∀ q:Act→World→Prop,(∀ i a w,At (En i) (S i) a w→q a w)→X E (.code c1::.lp q::k) s) (h2:∀ i,X (En i) (.code c2::k) (S i)):X E (.code c1::.code c2::k) s:=by
 have:=h1 (fun a w=>sem E.P E.B (.code c2::k) E.Q .normal a w) (fun i a w ⟨N,q1,q2,q3⟩=>by
  have:=h2 i N a w q1 q2 q3
  rw [(hEn i).1,(hEn i).2.1,(hEn i).2.2] at this
  exact this)
 exact this
end Go.Eng
namespace Go.Eng
open Go.MapKept
def notCells:Obj→Prop
 | .cells _ _ _=>False
 | _=>True
def putOb (w:World) (b:Nat) (x:Obj):World:={ w with heap:=w.heap.setIfInBounds b x }
theorem objAt_lt {w:World} {b:Nat} (h:(objAt w b).isSome=true):b<w.heap.size:=by
 obtain ⟨x,hx⟩:=Option.isSome_iff_exists.1 h
 exact (Array.getElem?_eq_some_iff.1 (heap_objAt hx)).1
theorem heap_put_same {w:World} {b:Nat} {x:Obj} (h:b<w.heap.size):(putOb w b x).heap[b]?=some x:=by simp [putOb,h]
theorem heap_put_ne {w:World} {b k:Nat} {x:Obj} (h:k≠b):(putOb w b x).heap[k]?=w.heap[k]?:=by
 simp only [putOb];rw [Array.getElem?_setIfInBounds_ne (fun e=>h e.symm)]
theorem size_put {w:World} {b:Nat} {x:Obj}:(putOb w b x).heap.size=w.heap.size:=by simp [putOb]
theorem objAt_of {w:World} {k:Nat} {x:Obj} (h:w.heap[k]?=some x) (hn:notCells x):objAt w k=some x :=
 objAt_some h (fun c e f e'=>by subst e';exact hn)
theorem objAt_put_same {w:World} {b:Nat} {x:Obj} (h:b<w.heap.size) (hn:notCells x):objAt (putOb w b x) b=some x:=objAt_of (heap_put_same h) hn
theorem objAt_put_ne {w:World} {b k:Nat} {x:Obj} (h:k≠b):objAt (putOb w b x) k=objAt w k:=objAt_same (heap_put_ne h)
theorem cell_obj {w:World} {b o:Nat} {x:Obj} (h:objAt w b=some x):w.cell? ⟨b,o,none⟩=none:=by
 unfold objAt at h
 unfold World.cell?
 split at h
 ·cases h
 ·simp only [h]
  cases x with
  | cells c e f=>rename_i hn;exact absurd h (fun h'=>hn c e f h')
  | _=>rfl
theorem cell_put {w:World} {b:Nat} {x:Obj} (h:(objAt w b).isSome=true) (hn:notCells x) (k o:Nat):(putOb w b x).cell? ⟨k,o,none⟩=w.cell? ⟨k,o,none⟩:=by
 by_cases e:k=b
 ·subst e
  obtain ⟨y,hy⟩:=Option.isSome_iff_exists.1 h
  rw [cell_obj (objAt_put_same (objAt_lt h) hn),cell_obj hy]
 ·unfold World.cell?;simp only [heap_put_ne e]
theorem There.put {w:World} {b:Nat} {x:Obj} (h:(objAt w b).isSome=true) (hn:notCells x) {k o:Nat} (ht:There w k o):There (putOb w b x) k o:=by
 rcases ht with ht | ht
 ·exact .inl (by rw [cell_put h hn];exact ht)
 ·right
  by_cases e:k=b
  ·subst e;rw [objAt_put_same (objAt_lt h) hn];rfl
  ·rw [objAt_put_ne e];exact ht
theorem Chg.put {O:Nat→Nat→Prop} {w:World} {b:Nat} {x:Obj} (h:(objAt w b).isSome=true) (ho:∃ o,O b o):Chg O w (putOb w b x):=by
 refine ⟨rfl,rfl,rfl,by rw [size_put];exact Nat.le_refl _,Nat.le_refl _,fun k hk hn=>?_,fun k c e f hc=>?_⟩
 ·refine heap_put_ne (fun e=>?_)
  subst e
  obtain ⟨o,ho⟩:=ho
  exact hn o ho
 ·have hne:k≠b:=fun e'=>by
   subst e'
   unfold objAt at h
   rw [hc] at h;cases h
  exact ⟨c,by rw [heap_put_ne hne];exact hc,rfl,fun _ _=>rfl⟩
theorem alloc_heap (w:World) (x:Obj):(w.alloc x).heap=w.heap.push x:=rfl
theorem objAt_new (w:World) (x:Obj) (hn:notCells x):objAt (w.alloc x) w.heap.size=some x:=objAt_of (by rw [alloc_heap];simp) hn
theorem objAt_chg {O:Nat→Nat→Prop} {w w':World} (h:Chg O w w') {k:Nat} (hk:(objAt w k).isSome=true) (ho:∀ o,¬O k o):objAt w' k=objAt w k :=
 objAt_same (h.same k (objAt_lt hk) ho)
section
variable {E:Ctx} {T:Tab} {all:Array Oper} {i:Nat} {rest:List Nat} {k:List It} {s:St} {o:Oper} {f:Fr}
theorem Sat.putR {N:Nums} {rg:List Rg} {w:World} {b:Nat} {x:Obj} {R':World→Prop} (h:Sat E.toEnv N rg w) (hb:(objAt w b).isSome=true) (hn:notCells x) (hD:∃ o,E.D b o) (hO:∀ k o,E.D k o→E.W.heap.size≤k∨E.O k o) (him:∀ k o,E.D k o→E.im k o=none)
  (hrg:∀ g∈rg,g.own=true∨g.cells=[]) (hl:Loc E.D R') (hR:R' (putOb w b x)):Sat (E.withR R').toEnv N rg (putOb w b x) :=
 h.turn (Chg.put hb hD) hO him hrg (fun _ _ hk=>⟨.inl hk,There.put hb hn (h.dlt _ _ hk)⟩) hl hR
theorem X.putR0 (R':World→Prop) (b:Nat) (ho:nth all.toList i=some o) (hg:o.guard=none) (hD:∃ o,E.D b o) (hO:∀ k o,E.D k o→E.W.heap.size≤k∨E.O k o) (him:∀ k o,E.D k o→E.im k o=none) (hrg:∀ g∈s.rg,g.own=true∨g.cells=[]) (hl:Loc E.D R')
  (hex:∀ N a w,E.N0.le N→FrOk E.n N s.fr a→Sat E.toEnv N s.rg w→∃ x,(execOp a.eval o).run E.P w=.ok .skip (putOb w b x)∧(objAt w b).isSome=true∧notCells x∧R' (putOb w b x))
  (hp:putO E.n s.fr o.dst (.val (.tup []))=some f) (hk:X (E.withR R') (.ops all rest::k) ⟨f,s.rg⟩):X E (.ops all (i::rest)::k) s:=by
 refine X.oper ho hg fun N a w hN hfr hS=>?_
 obtain ⟨x,h1,h2,h3,h4⟩:=hex N a w hN hfr hS
 unfold Oper.wp
 rw [h1]
 exact hk N _ _ hN (putO_sound (x:=undef) hfr rfl hp) (hS.putR h2 h3 hD hO him hrg hl h4)
theorem X.newR (x:Obj) (hn:notCells x) (mk:Nat→Value) (hmk:∀ b,one? (mk b)=true) (ho:nth all.toList i=some o) (hg:o.guard=none)
  (hex:∀ N a w,E.N0.le N→FrOk E.n N s.fr a→Sat E.toEnv N s.rg w→(execOp a.eval o).run E.P w=.ok (.value (mk w.heap.size)) (w.alloc x)) {F:Nat→Fr} (hp:∀ b,putO E.n s.fr o.dst (.val (.raw (mk b)))=some (F b))
  (hk:∀ b,E.W.heap.size≤b→(∀ o,E.im b o=none)→(∀ o,¬E.D b o)→X (E.withDR (fun k o=>E.D k o∨k=b) (fun w=>E.R w∧objAt w b=some x)) (.ops all rest::k) ⟨F b,s.rg⟩):X E (.ops all (i::rest)::k) s:=by
 refine X.oper ho hg fun N a w hN hfr hS=>?_
 unfold Oper.wp
 rw [hex N a w hN hfr hS]
 have hnim:∀ o,E.im w.heap.size o=none:=fun o=>by
  cases hi:E.im w.heap.size o with
  | none=>rfl
  | some v=>have:=World.block_lt_of_cell? _ _ (hS.imm _ _ _ hi);simp at this
 have hnd:∀ o,¬E.D w.heap.size o:=fun o hd=>Nat.lt_irrefl _ (hS.dlt _ _ hd).lt
 have hA:=hS.allocW x ⟨false,[],none⟩ 0 (fun j c hj=>by simp at hj) (fun h=>by cases h) (fun h=>by cases h) (fun ob h=>by cases h)
 have hle:N.le (N++[⟨w.heap.size,0,0⟩]):=Nums.le_append _ _
 have hS':Sat (E.withDR (fun k o=>E.D k o∨k=w.heap.size) (fun w'=>E.R w'∧objAt w' w.heap.size=some x)).toEnv N s.rg (w.alloc x):=by
  have hc:Chg (fun _ _=>False) w (w.alloc x):=(Chg.refl _ w).alloc x
  have h0:=hS.after0 hc
  refine { h0 with dd:=?_,dlt:=?_,obj:=?_,loc:=?_,res:=⟨h0.res,objAt_new w x hn⟩ }
  ·intro r g p ob hr hp hob
   obtain ⟨k1,k2,k3⟩:=h0.obj r g p ob hr hp hob
   refine ⟨k1,k2,fun o hd=>hd.elim (k3 o) (fun e=>?_)⟩
   have:=hS.lt r p hp
   omega
  ·intro r g p hr hp hown j hj hd
   rcases hd with hd | e
   ·exact h0.dd r g p hr hp hown j hj hd
   ·have:=hS.lt r p hp
    omega
  ·intro k o hd
   rcases hd with hd | rfl
   ·exact h0.dlt k o hd
   ·exact .inr (by rw [objAt_new w x hn];rfl)
  ·intro w1 w2 hs hle ⟨h1,h2⟩
   exact ⟨hS.loc w1 w2 (fun k o hd=>hs k o (.inl hd)) hle h1,by rw [(hs w.heap.size 0 (.inr rfl)).2];exact h2⟩
 exact hk w.heap.size hS.chg.size hnim hnd N _ _ hN (putO_sound hfr (by simp [SV.den,hmk]) (hp _)) hS'
def opsS (P:Program) (ops:Array Oper) (Q:Exit→Act→World→Prop) (l:List Nat) (a:Act) (w:World):Prop :=
 ∀ (b:Frame) (k:List Item) (cs:List Frame),∃ e a' w',Q e a' w'∧Arrives P (lone (b.at a (.inRegion ops l::k)) cs w) b k cs e a' w'
theorem opsS.region {P:Program} {ops:Array Oper} {Q:Exit→Act→World→Prop} {id:Nat} {a:Act} {w:World} (h:opsS P ops Q (List.range ops.size) a w):(Code.region id ops false).wp P Q a w :=
 fun b k cs=>let ⟨e,a',w',q,r⟩:=h b k cs;⟨e,a',w',q,.of_steps (.one step_region) r⟩
theorem wanted_none {o:Oper} {ops:Array Oper} {t:Array Value} (hg:o.guard=none):Region.wanted o (yielded ops t)=true:=by simp [Region.wanted,hg]
theorem opsS.value {P:Program} {ops:Array Oper} {Q:Exit→Act→World→Prop} {i:Nat} {rest:List Nat} {o:Oper} {a:Act} {w w':World} {v:Value} (ho:ops[i]?=some o) (hg:o.guard=none) (hr:(execOp a.eval o).run P w=.ok (.value v) w')
  (h:opsS P ops Q rest (a.put o.dst v) w'):opsS P ops Q (i::rest) a w:=by
 intro b k cs
 obtain ⟨e,a',w'',hq,harr⟩:=h b k cs
 refine ⟨e,a',w'',hq,.of_steps (.one (step_lone_go ?_)) harr⟩
 have hs:=stepG_op (P:=P) (b:=b) (k:=k) (cs:=cs) (w:=w) (rest:=rest) ho (wanted_none (t:=a.tmps) hg)
 have hfin:(b.at a (.inRegion ops (i::rest)::k)).finish v=b.at (a.put o.dst v) (.inRegion ops rest::k):=by
  rw [Frame.finish_at,ho];rfl
 rw [hs,←hfin]
 simp [stepG.apply,hr]
def XS (E:Ctx) (all:Array Oper) (rest:List Nat) (k:List It) (s:St):Prop :=
 ∀ (N:Nums) (a:Act) (w:World),E.N0.le N→FrOk E.n N s.fr a→Sat E.toEnv N s.rg w→opsS E.P all (sem E.P E.B k E.Q) rest a w
theorem X.reg {id:Nat} (h:XS E all (List.range all.size) k s):X E (.code (.region id all false)::k) s:=by
 intro N a w hN hf hS
 show _→Code.wp _ _ _ _ _
 intro _
 exact (h N a w hN hf hS).region
theorem nth_get {o:Oper} (ho:nth all.toList i=some o):all[i]?=some o:=by rw [nth_eq] at ho;simpa using ho
theorem XS.val (ho:nth all.toList i=some o) (hg:o.guard=none) (r:SV) (hp:putO E.n s.fr o.dst (.val r)=some f)
  (h:∀ (N:Nums) (a:Act) (w:World),E.N0.le N→FrOk E.n N s.fr a→Sat E.toEnv N s.rg w→∃ x,r.den N=some x∧(execOp a.eval o).run E.P w=.ok (.value x) w)
  (hk:XS E all rest k ⟨f,s.rg⟩):XS E all (i::rest) k s:=fun N a w hN hf hS=>by
 obtain ⟨x,h1,h2⟩:=h N a w hN hf hS
 exact .value (nth_get ho) hg h2 (hk N _ _ hN (putO_sound hf h1 hp) hS)
end
def IntKeys (es:List MapEntry):Prop:=∀ x∈es,∃ i,x.key=.int .i64 i
open Classical in
noncomputable def mget:List MapEntry→Int→Option Value
 | [],_=>none
 | e::es,i=>if e.key=.int .i64 i then some e.val else mget es i
def MapAt (m:Nat) (g:Int→Option Value) (w:World):Prop:=∃ es clock,w.heap[m]?=some (.map es clock)∧IntKeys es.toList∧∀ i,mget es.toList i=g i
theorem MapAt.at {m:Nat} {g:Int→Option Value} {w w':World} (h:MapAt m g w) (hs:objAt w' m=objAt w m):MapAt m g w':=by
 obtain ⟨es,clock,h1,h2⟩:=h
 rw [objAt_of h1 trivial] at hs
 exact ⟨es,clock,heap_objAt hs,h2⟩
section
variable {E:Ctx} {T:Tab} {all:Array Oper} {i:Nat} {rest:List Nat} {k:List It} {s:St} {o:Oper} {f:Fr}
end
end Go.Eng
namespace Go.Eng
theorem Sat.addFresh {E:Env} {N:Nums} {rg:List Rg} {w:World} (h:Sat E N rg w) {b o x s0:Nat} {cs:List SV} (hN:∀ (r:Nat) (p:Num),N[r]?=some p→p.b<s0) (hs0:s0≤b) (hE:E.W.heap.size≤s0) (hb:b<w.heap.size) (hx:cs.length≤x)
  (hcs:∀ (j:Nat) (c:SV),cs[j]?=some c→∃ v,c.den N=some v∧w.cell? ⟨b,o+j,none⟩=some v) (hro:∀ j,j<x→(w.cell? ⟨b,o+j,none⟩).isSome=true∧w.frozen? ⟨b,o+j,none⟩=false)
  (him:∀ i,E.im b i=none) (hD:∀ i,¬E.D b i):Sat E (N++[⟨b,o,x⟩]) (rg++[⟨true,cs,none⟩]) w:=by
 have hle:N.le (N++[⟨b,o,x⟩]):=Nums.le_append _ _
 refine ⟨by simp [h.len],?_,?_,?_,?_,?_,?_,?_,h.imm,?_,?_,h.dlt,h.loc,h.res,h.chg,?_⟩
 ·intro i q hq
  rcases Nat.lt_or_ge i N.length with hi | hi
  ·rw [List.getElem?_append_left hi] at hq;exact h.lt i q hq
  ·rw [List.getElem?_append_right hi] at hq
   have hz:i-N.length=0:=by
    have:=(List.getElem?_eq_some_iff.1 hq).1
    simp at this;omega
   rw [hz] at hq;simp at hq;subst hq;exact hb
 ·intro i g q hg hq j d hj
  rcases get_snoc h.len hg hq with ⟨a,b⟩ | ⟨_,rfl,rfl⟩
  ·obtain ⟨v,h1,h2⟩:=h.cell i g q a b j d hj
   exact ⟨v,SV.den_mono hle d h1,h2⟩
  ·obtain ⟨v,h1,h2⟩:=hcs j d hj
   exact ⟨v,SV.den_mono hle d h1,h2⟩
 ·intro i g q hg hq ho
  rcases get_snoc h.len hg hq with ⟨a,b⟩ | ⟨_,rfl,rfl⟩
  ·exact h.ext i g q a b ho
  ·exact hx
 ·intro i g q hg hq ho
  rcases get_snoc h.len hg hq with ⟨a,b⟩ | ⟨_,rfl,rfl⟩
  ·exact h.room i g q a b ho
  ·exact hro
 ·intro i i' g g' q q' hg hq hg' hq' ho hne j hj hb'
  rcases get_snoc h.len hg hq with ⟨a1,a2⟩ | ⟨a0,rfl,rfl⟩<;>rcases get_snoc h.len hg' hq' with ⟨b1,b2⟩ | ⟨b0,rfl,rfl⟩
  ·exact h.disj i i' g g' q q' a1 a2 b1 b2 ho hne j hj hb'
  ·have:=hN i q a2;simp at hb';omega
  ·have:=hN i' q' b2;simp at hb';omega
  ·omega
 ·intro i g q ob hg hq ho
  rcases get_snoc h.len hg hq with ⟨a,b⟩ | ⟨_,rfl,rfl⟩
  ·obtain ⟨⟨o',k1,k2⟩,k3⟩:=h.obj i g q ob a b ho
   exact ⟨⟨o',Ob.den_mono hle ob k1,k2⟩,k3⟩
  ·simp at ho
 ·intro i i' g g' q q' hg hq hg' hq' ho ho' hne
  rcases get_snoc h.len hg hq with ⟨a1,a2⟩ | ⟨a0,rfl,rfl⟩
  ·rcases get_snoc h.len hg' hq' with ⟨b1,b2⟩ | ⟨b0,rfl,rfl⟩
   ·exact h.odisj i i' g g' q q' a1 a2 b1 b2 ho ho' hne
   ·simp at ho'
  ·simp at ho
 ·intro i g q hg hq ho
  rcases get_snoc h.len hg hq with ⟨a,b⟩ | ⟨_,rfl,rfl⟩
  ·exact h.imd i g q a b ho
  ·exact fun j _=>him _
 ·intro i g q hg hq ho
  rcases get_snoc h.len hg hq with ⟨a,b⟩ | ⟨_,rfl,rfl⟩
  ·exact h.dd i g q a b ho
  ·exact fun j _=>hD _
 ·intro i g q hg hq ho
  rcases get_snoc h.len hg hq with ⟨a,b⟩ | ⟨_,rfl,rfl⟩
  ·exact h.foot i g q a b ho
  ·exact .inl (Nat.le_trans hE hs0)
def FreshRet (cs:List SV) (n sz:Nat) (w:World) (e:Ending) (w':World):Prop :=
 ∃ b o x:Nat,e=.returned (.slice (some ⟨b,o,none⟩) n (x / sz))∧w.heap.size≤b∧cs.length≤x∧0<x∧(∀ (j:Nat) (c:SV),cs[j]?=some c→∃ v,c.den []=some v∧w'.cell? ⟨b,o+j,none⟩=some v) ∧
  (∀ j,j<x→(w'.cell? ⟨b,o+j,none⟩).isSome=true∧w'.frozen? ⟨b,o+j,none⟩=false)∧Chg (fun _ _=>False) w w'
theorem FreshRet.sat {E:Env} {N:Nums} {rg:List Rg} {w w':World} {cs:List SV} {n sz:Nat} {e:Ending} (hf:FreshRet cs n sz w e w') (h:Sat E N rg w) :
  ∃ (p:Num) (v:Value),e=.returned v∧(SV.osl rg.length 0 n sz none).den (N++[p])=some v∧w.heap.size≤p.b∧Sat E (N++[p]) (rg++[⟨true,cs,none⟩]) w':=by
 obtain ⟨b,o,x,he,h1,h2,h3,h4,h5,hc⟩:=hf
 have hget:(N++[⟨b,o,x⟩])[rg.length]?=some ⟨b,o,x⟩:=by rw [←h.len];simp
 refine ⟨⟨b,o,x⟩,_,he,by simp only [SV.den,hget,Num.cap];simp,h1,?_⟩
 have h0:=h.after0 hc
 refine h0.addFresh (s0:=w.heap.size) (fun r p hp=>h.lt r p hp) h1 h.chg.size ?_ h2 (fun j c hj=>?_) h5 (fun i=>?_) (fun i hd=>?_)
 ·obtain ⟨v,hv⟩:=Option.isSome_iff_exists.1 (h5 0 h3).1
  exact World.block_lt_of_cell? _ _ hv
 ·obtain ⟨v,k1,k2⟩:=h4 j c hj
  exact ⟨v,SV.den_mono (N:=[]) (N':=N) (fun r p h=>by simp at h) c k1,k2⟩
 ·cases hi:E.im b i with
  | none=>rfl
  | some v=>have:=World.block_lt_of_cell? _ _ (h.imm _ _ _ hi);simp at this;omega
 ·have:=(h.dlt _ _ hd).lt
  omega
section
variable {E:Ctx} {T:Tab} {all:Array Oper} {i:Nat} {rest:List Nat} {k:List It} {s:St} {o:Oper} {f:Fr}
theorem Goes.fresh {N:Nums} {k:List It} {s:St} {d:Option Nat} {w w':World} {cs:List SV} {n sz:Nat} {e:Ending} (hN:E.N0.le N) (h:Sat E.toEnv N s.rg w) (hf:FreshRet cs n sz w e w') {f':Fr} (hp:putO E.n s.fr d (.val (.osl s.rg.length 0 n sz none))=some f')
  (hx:X E k ⟨f',s.rg++[⟨true,cs,none⟩]⟩):∃ v,e=.returned v∧Goes E N k s.fr d v w':=by
 obtain ⟨p,v,h1,h2,_,h3⟩:=hf.sat h
 exact ⟨v,h1,E,N++[p],_,_,f',rfl,rfl,rfl,rfl,Nums.le_append _ _,hN.trans (Nums.le_append _ _),h3,h2,hp,hx⟩
end
theorem X.reval {E:Ctx} {k:List It} {s:St} (t:Nat) {v:SV} (v':SV) (hl:look s.fr t=.val v) (hd:∀ N,E.N0.le N→∀ x,v.den N=some x→v'.den N=some x) (h:X E k ⟨(t,.val v')::s.fr,s.rg⟩):X E k s:=by
 refine X.conv fun N a w hN hf hS=>?_
 refine ⟨E,⟨(t,.val v')::s.fr,s.rg⟩,rfl,rfl,rfl,rfl,⟨N,hN,⟨hf.size,hf.defers,fun t'=>?_⟩,hS⟩,h⟩
 simp only [look]
 cases e:Nat.beq t t' with
 | false=>exact hf.ok t'
 | true =>
  have e:=Nat.eq_of_beq_eq_true e
  subst e
  have hok:=hf.ok t
  rw [hl] at hok
  obtain ⟨x,h1,h2⟩:=hok
  exact ⟨x,hd N hN x h1,h2⟩
theorem Goes.cells {E:Ctx} {N:Nums} {k:List It} {s:St} {d:Option Nat} {v:Value} {w w':World} {r:Nat} {g:Rg} {p:Num} (hN:E.N0.le N) (h:Sat E.toEnv N s.rg w) (hg:s.rg[r]?=some g) (hp:N[r]?=some p) (ho:g.own=true)
  (hc:Chg (fun k o=>k=p.b∧p.o≤o∧o<p.o+p.x) w w') (cs':List SV) (hl:cs'.length≤p.x) (hcs:∀ (j:Nat) (c:SV),cs'[j]?=some c→∃ v,c.den N=some v∧w'.cell? ⟨p.b,p.o+j,none⟩=some v)
  {rv:SV} (hr:rv.den N=some v) {f':Fr} (hpo:putO E.n s.fr d (.val rv)=some f') (hx:X E k ⟨f',s.rg.set r { g with cells:=cs' }⟩):Goes E N k s.fr d v w':=by
 refine ⟨E,N,rv,_,f',rfl,rfl,rfl,rfl,Nums.le.refl N,hN,?_,hr,hpo,hx⟩
 have hrl:r<s.rg.length:=(List.getElem?_eq_some_iff.1 hg).1
 have hnd:∀ k o,(k=p.b∧p.o≤o∧o<p.o+p.x)→¬E.D k o:=fun k o ⟨e1,e2,e3⟩ hd=>by
  subst e1
  have:=h.dd r g p hg hp ho (o-p.o) (by omega)
  rw [show p.o+(o-p.o)=o by omega] at this
  exact this hd
 have keepD:∀ k o,E.D k o→(w'.cell? ⟨k,o,none⟩=w.cell? ⟨k,o,none⟩∧w'.frozen? ⟨k,o,none⟩=w.frozen? ⟨k,o,none⟩)∧objAt w' k=objAt w k:=fun k o hd=>by
  have hlt:=(h.dlt k o hd).lt
  obtain ⟨x,hx⟩:∃ x,w.heap[k]?=some x:=⟨_,Array.getElem?_eq_getElem hlt⟩
  cases x with
  | cells c e f =>
   obtain ⟨c',h1,h2,h3⟩:=hc.cells k c e f hx
   have h4:=h3 o (fun e=>hnd k o e hd)
   refine ⟨⟨by simp [World.cell?,hx,h1,h4],by simp [World.frozen?,hx,h1]⟩,by simp [objAt,hx,h1]⟩
  | _ =>
   have hne:∀ o',¬(k=p.b∧p.o≤o'∧o'<p.o+p.x):=fun o' ⟨e1,e2,e3⟩=>by
    have:=(h.room r g p hg hp ho (o'-p.o) (by omega)).1
    rw [←e1] at this
    simp [World.cell?,hx] at this
   have e:=hc.same k hlt hne
   exact ⟨⟨by unfold World.cell?;simp only [e],by unfold World.frozen?;simp only [e]⟩,objAt_same e⟩
 refine h.after (m':=E.im) (D':=E.D) (R':=E.R) hc (fun k o _ ⟨e1,e2,e3⟩=>.inl ⟨r,g,p,hg,hp,ho,e1,e2,e3⟩) ⟨fun _ _ _ h=>h,fun k o v hv=>?_,fun _ _ _ h=>.inl h⟩
  (fun k o hd=>⟨.inl hd,(h.dlt k o hd).of (fun hs=>by rw [(keepD k o hd).1.1];exact hs) (keepD k o hd).2⟩) h.loc (h.loc w w' keepD hc.size h.res) (by simp) (fun q x x' pq hq1 hq2 hpq=>?_)
 ·refine cell_of_chg hc (fun ⟨e1,e2,e3⟩=>?_) (h.imm k o v hv)
  have:=h.imd r g p hg hp ho (o-p.o) (by omega)
  rw [show p.o+(o-p.o)=o by omega,←e1,hv] at this
  cases this
 ·rcases get_set hrl hq2 with ⟨rfl,rfl⟩ | ⟨hi,hq2⟩
  ·rw [hg] at hq1;cases hq1
   rw [hp] at hpq;cases hpq
   exact ⟨rfl,rfl,fun e=>(by rw [ho] at e;cases e),fun _=>hl,.inr hcs⟩
  ·rw [hq1] at hq2;cases hq2
   refine ⟨rfl,rfl,fun _=>rfl,fun e=>h.ext q x pq hq1 hpq e,.inl ⟨rfl,fun j hj ⟨e1,e2,e3⟩=>?_⟩⟩
   have hw:j<x.wid pq:=by
    unfold Rg.wid
    cases hxo:x.own with
    | true=>have:=h.ext q x pq hq1 hpq hxo;simp;omega
    | false=>simpa using hj
   rcases h.disj r q g x p pq hg hp hq1 hpq ho (fun e=>hi e.symm) j hw e1 with h1 | h1<;>omega
theorem X.namesP {E:Ctx} {k:List It} {s:St} (P:Nums→Prop) (hP:∀ (N:Nums) (w:World),E.N0.le N→Sat E.toEnv N s.rg w→P N) (h:∀ N:Nums,E.N0.le N→N.length=s.rg.length→P N→X { E with N0:=N } k s):X E k s:=by
 refine X.conv fun N a w hN hf hS=>?_
 exact ⟨{ E with N0:=N },s,rfl,rfl,rfl,rfl,⟨N,Nums.le.refl _,hf,hS.env rfl rfl rfl rfl rfl⟩,h N hN hS.len (hP N w hN hS)⟩
def wpOpsI (P:Program) (ops:Array Oper) (I:World→Prop) (Q:Exit→Act→World→Prop):List Nat→Act→World→Prop
 | [],a,w=>Q .normal a w
 | z::zs,a,w=>wpOp P ops Q z (fun a' w'=>I w'∧wpOpsI P ops I Q zs a' w') a w
def XI (rg0:List Rg) (ks:List Nat) (all:Array Oper) (k:List It):List Nat→Ctx→St→Prop
 | [],E,s=>X E k s
 | z::zs,E,s=>∀ (N:Nums) (a:Act) (w:World),E.N0.le N→FrOk E.n N s.fr a→Sat E.toEnv N s.rg w→wpOp E.P all (sem E.P E.B k E.Q) z (fun a' w'=>∃ (E':Ctx) (N':Nums) (s':St),E'.P=E.P∧E'.n=E.n∧E'.Q=E.Q∧E'.B=E.B∧N.le N'∧E'.N0.le N'∧FrOk E'.n N' s'.fr a'∧Sat E'.toEnv N' s'.rg w'∧Agree ks rg0 s'.rg∧XI rg0 ks all k zs E' s') a w
theorem XI.ops {rg0:List Rg} {ks:List Nat} {all:Array Oper} {k:List It} {Nf:Nums} {w0:World} (h0:Vis Nf (maskRg ks rg0 0) w0):∀ (zs:List Nat) (E:Ctx) (s:St),XI rg0 ks all k zs E s→∀ (N:Nums) (a:Act) (w:World),Nf.le N→E.N0.le N→FrOk E.n N s.fr a→Sat E.toEnv N s.rg w →
  wpOpsI E.P all (fun w'=>Vis Nf (maskRg ks rg0 0) w') (sem E.P E.B k E.Q) zs a w
 | [],E,s,h,N,a,w,_,hN,hf,hS=>h N a w hN hf hS
 | z::zs,E,s,h,N,a,w,hNf,hN,hf,hS=>by
  refine wpOp_mono (fun a' w' ⟨E',N',s',e1,e2,e3,e4,hN',hN0,hf',hS',ha,hx⟩=>⟨vis_of_agree h0 (hNf.trans hN') ha hS',?_⟩) (h N a w hN hf hS)
  have:=XI.ops h0 zs E' s' hx N' a' w' (hNf.trans hN') hN0 hf' hS'
  rw [e1,e3,e4] at this
  exact this
section
variable {E:Ctx} {T:Tab} {all:Array Oper} {zs:List Nat} {k:List It} {s:St} {o:Oper} {f:Fr} {rg0:List Rg} {ks:List Nat}
theorem XI.done (h:X E k s):XI rg0 ks all k [] E s:=h
theorem Sat.turn' {E:Env} {N:Nums} {rg:List Rg} {w w':World} {D':Nat→Nat→Prop} {R':World→Prop} (h:Sat E N rg w) (hc:Chg E.D w w') (hO:∀ k o,E.D k o→E.W.heap.size≤k∨E.O k o) (him:∀ k o,E.D k o→E.im k o=none)
  (hrg:∀ (r:Nat) (g:Rg) (p:Num),rg[r]?=some g→N[r]?=some p→g.own=true∨∀ j,j<g.cells.length→¬E.D p.b (p.o+j)) (hD:∀ k o,D' k o→(E.D k o∨w.heap.size≤k)∧There w' k o) (hl:Loc D' R') (hR:R' w'):Sat { E with D:=D',R:=R' } N rg w':=by
 refine h.after (rg':=rg) (m':=E.im) hc (fun k o _ hd=>.inr ⟨hd,hO k o hd⟩) ⟨fun _ _ _ h=>h,fun k o v hv=>?_,fun _ _ _ h=>.inl h⟩ hD hl hR rfl (fun r g g' p hg hg' hp=>?_)
 ·refine cell_of_chg hc (fun hd=>?_) (h.imm k o v hv)
  rw [him k o hd] at hv;cases hv
 ·rw [hg] at hg';cases hg'
  refine ⟨rfl,rfl,fun _=>rfl,fun ho=>h.ext r g p hg hp ho,.inl ⟨rfl,fun j hj=>?_⟩⟩
  rcases hrg r g p hg hp with ho | ho
  ·exact h.dd r g p hg hp ho j (Nat.lt_of_lt_of_le hj (h.ext r g p hg hp ho))
  ·exact ho j hj
end
structure ValS where
 (j d:Nat) (r:SV) (pre:Fr→Prop)
def ValS.ok (ops:Array Oper) (q:ValS):Bool:=match nth ops.toList q.j with
 | some o=>(match o.dst with | some d=>Nat.beq d q.d | none=>false)
 | none=>false
theorem putAt_at {α:Type}:∀ (l:List α) (c:Nat) (s:α) (j:Nat),c<l.length→(putAt l c s)[j]?=if j=c then some s else l[j]?
 | [],_,_,_,h=>by simp at h
 | x::l,0,s,j,_=>by cases j<;>simp [putAt]
 | x::l,c+1,s,j,h=>by
  cases j with
  | zero=>simp [putAt]
  | succ j=>simp [putAt,putAt_at l c s j (by simpa using h)]
theorem setRow_at (l:List SV) (c:Nat) (r:List SV) (j:Nat) (h:c+r.length≤l.length):(setRow l c r)[j]?=if c≤j∧j<c+r.length then r[j-c]? else l[j]?:=by
 induction r generalizing l c with
 | nil=>simp [setRow];omega
 | cons s r ih =>
  simp only [List.length_cons] at h
  rw [setRow,ih _ _ (by rw [putAt_length _ _ _ (by omega)];omega),putAt_at _ _ _ _ (by omega)]
  simp only [List.length_cons]
  by_cases h1:c+1≤j∧j<c+1+r.length
  ·rw [if_pos h1,if_pos (by omega),show j-c=j-(c+1)+1 by omega,List.getElem?_cons_succ]
  ·rw [if_neg h1]
   by_cases h2:j=c
   ·subst h2;rw [if_pos rfl,if_pos (by omega)];simp
   ·rw [if_neg h2,if_neg (by omega)]
section
variable {E:Ctx} {T:Tab} {all:Array Oper} {z:Nat} {zs:List Nat} {k:List It} {s:St} {o:Oper} {f:Fr} {rg0:List Rg} {ks:List Nat}
theorem XI.value (ho:nth all.toList z=some o) (hg:o.guard=none) (r:SV) (hp:putO E.n s.fr o.dst (.val r)=some f)
  (h:∀ (N:Nums) (a:Act) (w:World),E.N0.le N→FrOk E.n N s.fr a→Sat E.toEnv N s.rg w→∃ x,r.den N=some x∧(execOp a.eval o).run E.P w=.ok (.value x) w) (ha:Agree ks rg0 s.rg)
  (hk:XI rg0 ks all k zs E ⟨f,s.rg⟩):XI rg0 ks all k (z::zs) E s:=by
 intro N a w hN hfr hS
 have ho':all[z]?=some o:=by rw [nth_eq] at ho;simpa using ho
 obtain ⟨x,h1,h2⟩:=h N a w hN hfr hS
 unfold wpOp
 simp only [ho',Region.wanted,hg,if_true]
 refine .inl ?_
 unfold Oper.wp
 rw [h2]
 exact ⟨E,N,⟨f,s.rg⟩,rfl,rfl,rfl,rfl,Nums.le.refl N,hN,putO_sound hfr h1 hp,hS,ha,hk⟩
end
structure ValR where
 (j d:Nat) (r:SV) (pre:List Rg→Fr→Prop)
def ValR.ok (ops:Array Oper) (q:ValR):Bool:=match nth ops.toList q.j with
 | some o=>(match o.dst with | some d=>Nat.beq d q.d | none=>false)
 | none=>false
theorem Sat.tail {E:Env} {p0:Num} {N:Nums} {g0:Rg} {rg:List Rg} {w:World} (h:Sat E (p0::N) (g0::rg) w) (hc:∀ g∈rg,∀ c∈g.cells,∀ v,c.den (p0::N)=some v→c.den N=some v) (hob:∀ g∈rg,g.ob=none):Sat E N rg w:=by
 have gs:∀ {r:Nat} {g:Rg},rg[r]?=some g→(g0::rg)[r+1]?=some g:=fun h=>by simpa using h
 have ns:∀ {r:Nat} {p:Num},N[r]?=some p→(p0::N)[r+1]?=some p:=fun h=>by simpa using h
 refine ⟨by have:=h.len;simpa using this,fun r p hp=>h.lt (r+1) p (ns hp),fun r g p hg hp j c hj=>?_,fun r g p hg hp=>h.ext (r+1) g p (gs hg) (ns hp),fun r g p hg hp=>h.room (r+1) g p (gs hg) (ns hp),
  fun r r' g g' p p' hg hp hg' hp' ho hne=>h.disj (r+1) (r'+1) g g' p p' (gs hg) (ns hp) (gs hg') (ns hp') ho (by omega),fun r g p ob hg hp ho=>?_,fun r r' g g' p p' hg hp hg' hp' ho _ _=>?_,h.imm,fun r g p hg hp=>h.imd (r+1) g p (gs hg) (ns hp),fun r g p hg hp=>h.dd (r+1) g p (gs hg) (ns hp),h.dlt,h.loc,h.res,h.chg,fun r g p hg hp=>h.foot (r+1) g p (gs hg) (ns hp)⟩
 ·obtain ⟨v,h1,h2⟩:=h.cell (r+1) g p (gs hg) (ns hp) j c hj
  exact ⟨v,hc g (List.mem_of_getElem? hg) c (List.mem_of_getElem? hj) v h1,h2⟩
 ·rw [hob g (List.mem_of_getElem? hg)] at ho;cases ho
 ·rw [hob g (List.mem_of_getElem? hg)] at ho;cases ho
def Sh (N N':Nums):Fr→Fr→Prop
 | [],[]=>True
 | (t,.val v)::f,(t',.val v')::f'=>t=t'∧(∀ x,v.den N=some x→v'.den N'=some x)∧Sh N N' f f'
 | _,_=>False
theorem Sh.look {N N':Nums}:∀ {f f':Fr},Sh N N' f f'→∀ t,look f t=look [] t∧look f' t=look [] t∨∃ v v',look f t=.val v∧look f' t=.val v'∧∀ x,v.den N=some x→v'.den N'=some x
 | [],[],_,t=>.inl ⟨rfl,rfl⟩
 | (t0,.val v)::f,(t1,.val v')::f',h,t=>by
  obtain ⟨rfl,h1,h2⟩:=h
  simp only [Eng.look]
  cases Nat.beq t0 t with
  | true=>exact .inr ⟨v,v',rfl,rfl,h1⟩
  | false=>exact Sh.look h2 t
 | [],_::_,h,_=>by simp [Sh] at h
 | _::_,[],h,_=>by simp [Sh] at h
 | (_,.dead)::_,_::_,h,_=>by simp [Sh] at h
 | (_,.opt _ _ _)::_,_::_,h,_=>by simp [Sh] at h
 | (_,.val _)::_,(_,.dead)::_,h,_=>by simp [Sh] at h
 | (_,.val _)::_,(_,.opt _ _ _)::_,h,_=>by simp [Sh] at h
theorem FrOk.sh {n:Nat} {N N':Nums} {f f':Fr} {a:Act} (h:FrOk n N f a) (hs:Sh N N' f f'):FrOk n N' f' a:=by
 refine ⟨h.size,h.defers,fun t=>?_⟩
 have hok:=h.ok t
 rcases hs.look t with ⟨h1,h2⟩ | ⟨v,v',h1,h2,h3⟩
 ·rw [h2];rw [h1] at hok
  exact hok
 ·rw [h2];rw [h1] at hok
  obtain ⟨x,k1,k2⟩:=hok
  exact ⟨x,h3 x k1,k2⟩
theorem X.shift {E:Ctx} {k:List It} (h0:E.N0=[]) {f:Fr} (f':Fr) {g0:Rg} {rg:List Rg} (hs:∀ p0 N,Sh (p0::N) N f f') (hc:∀ g∈rg,∀ c∈g.cells,∀ (p0:Num) (N:Nums) (v:Value),c.den (p0::N)=some v→c.den N=some v) (hob:∀ g∈rg,g.ob=none) (h:X E k ⟨f',rg⟩):X E k ⟨f,g0::rg⟩:=by
 refine X.conv fun N a w hN hf hS=>?_
 cases N with
 | nil=>have:=hS.len;simp at this
 | cons p0 N=>exact ⟨E,⟨f',rg⟩,rfl,rfl,rfl,rfl,⟨N,by rw [h0];exact fun r p h=>by simp at h,hf.sh (hs p0 N),hS.tail (fun g hg c hc' v=>hc g hg c hc' p0 N v) hob⟩,h⟩
inductive CK where
 | int (k:IntKind)
 | bool
 | str
 | slice (e:Nat)
 | ptr (e:Nat)
def Rd (P:Program) (w:World) (base:Nat) (t:Nat) (cs:List Value):Prop :=
 ∃ (H:Type) (enc:TypeId × Value→H) (sp:Nat→Bool) (held:Bool) (fuel:Nat) (x:DataW H × List MemPlace),DataW.trod enc P w base sp held fuel t cs=some x
def RdAt (P:Program) (w:World) (base:Nat) (b y:Nat) (e:Nat):Prop :=
 base≤b∧∃ cs,cs.length=P.cellsOf e∧(∀ (j:Nat) (v:Value),cs[j]?=some v→w.cell? ⟨b,y+j,none⟩=some v)∧Rd P w base e cs
def CellOk (P:Program) (w:World) (base:Nat):CK→Value→Prop
 | .int k,v=>∃ n,v=.int k n∧(Lit.int k n).wf=true
 | .bool,v=>∃ b,v=.bool b
 | .str,v=>∃ s,v=.string s∧s.size≤maxLen
 | .slice e,v=>∃ p n c,v=.slice p n c∧n≤c∧c≤maxLen∧(0<P.cellsOf e→0<n→∃ b x,p=some ⟨b,x,none⟩∧∀ i,i<n→RdAt P w base b (x+i*P.cellsOf e) e)
 | .ptr e,v=>∃ p,v=.pointer p∧(0<P.cellsOf e→∀ a,p=some a→∃ b x,a=⟨b,x,none⟩∧RdAt P w base b x e)
def CellsOk (P:Program) (w:World) (base:Nat):List CK→List Value→Prop
 | [],[]=>True
 | k::ks,v::vs=>CellOk P w base k v∧CellsOk P w base ks vs
 | _,_=>False
def kindsFs (P:Program) (sh:Nat→Option (List CK)):List Field→Nat→Option (List CK)
 | [],_=>some []
 | f::fs,o=>bif Nat.beq f.offset o then
   match sh f.type with
   | some s=>bif Nat.beq (P.cellsOf f.type) s.length then
     match kindsFs P sh fs (o+s.length) with
     | some r=>some (s++r)
     | none=>none
    else none
   | none=>none
  else none
def kindsOf (P:Program):Nat→Nat→Option (List CK)
 | 0,_=>none
 | m+1,t=>match P.underlying t with
  | some (.int k)=>some [.int k]
  | some .bool=>some [.bool]
  | some .string=>some [.str]
  | some (.slice e)=>some [.slice e]
  | some (.pointer e)=>some [.ptr e]
  | some (.struct fs)=>match kindsFs P (kindsOf P m) fs.toList 0 with
   | some s=>bif Nat.beq (P.cellsOf t) s.length then some s else none
   | none=>none
  | _=>none
theorem CellsOk.append {P:Program} {w:World} {base:Nat}:∀ {ks ls:List CK} {us vs:List Value},CellsOk P w base ks us→CellsOk P w base ls vs→CellsOk P w base (ks++ls) (us++vs)
 | [],_,[],_,_,h=>h
 | _::_,_,_::_,_,h,k=>⟨h.1,CellsOk.append h.2 k⟩
 | [],_,_::_,_,h,_=>h.elim
 | _::_,_,[],_,h,_=>h.elim
theorem spot_none {w:World} {a:Addr} {v:Value} (h:w.cell? a=some v):a=⟨a.block,a.off,none⟩:=by
 unfold World.cell? at h
 split at h
 ·split at h
  ·cases h
  ·rename_i hs
   obtain ⟨b,o,s⟩:=a
   cases s<;>simp_all
 ·cases h
theorem spot_row {w:World} {base:Nat} {a:Addr} {q:Nat} {cs:List Value} (hp:0<q) (h:w.cells? base a q=some cs):a=⟨a.block,a.off,none⟩:=by
 obtain ⟨_,h2,h3⟩:=World.cells?_some h
 have h30:=h3 0 hp
 have hlt:0<cs.length:=by omega
 rw [List.getElem?_eq_getElem hlt] at h30
 have:a.add 0=a:=by simp [Addr.add]
 rw [this] at h30
 exact spot_none h30
theorem add_plain (b o j:Nat):(Addr.mk b o none).add j=⟨b,o+j,none⟩:=by
 unfold Addr.add
 by_cases h:j=0
 ·subst h;simp
 ·simp [h]
theorem rdAt_of {P:Program} {w:World} {base:Nat} {b x e:Nat} {cs:List Value} (h:w.cells? base ⟨b,x,none⟩ (P.cellsOf e)=some cs) (hr:Rd P w base e cs):RdAt P w base b x e:=by
 obtain ⟨h1,h2,h3⟩:=World.cells?_some h
 refine ⟨h1,cs,h2,fun j v hj=>?_,hr⟩
 have hj':j<P.cellsOf e:=by rw [←h2];exact (List.getElem?_eq_some_iff.1 hj).1
 have:=h3 j hj'
 rw [add_plain] at this
 rw [this,hj]
theorem kindsFs_sound {P:Program} {w:World} {base:Nat} {sh:Nat→Option (List CK)} (ih:∀ t ks cs,sh t=some ks→Rd P w base t cs→CellsOk P w base ks cs) (all:List Value) :
  ∀ (fs:List Field) (o:Nat) (ks:List CK),kindsFs P sh fs o=some ks→(all.drop o).length=ks.length→(∀ f∈fs,Rd P w base f.type ((all.drop f.offset).take (P.cellsOf f.type)))→CellsOk P w base ks (all.drop o)
 | [],o,ks,h,hl,_=>by
  simp only [kindsFs,Option.some.injEq] at h;subst h
  have:all.drop o=[]:=List.eq_nil_of_length_eq_zero (by rw [hl];rfl)
  rw [this];trivial
 | f::fs,o,ks,h,hl,hr=>by
  simp only [kindsFs] at h
  cases hb:Nat.beq f.offset o with
  | false=>rw [hb] at h;simp at h
  | true =>
   rw [hb] at h
   simp only [cond_true] at h
   have hoff:=Nat.eq_of_beq_eq_true hb
   split at h
   ·rename_i s hs
    cases hc:Nat.beq (P.cellsOf f.type) s.length with
    | false=>rw [hc] at h;simp at h
    | true =>
     rw [hc] at h
     simp only [cond_true] at h
     have hsz:=Nat.eq_of_beq_eq_true hc
     split at h
     ·rename_i r hrr
      simp only [Option.some.injEq] at h;subst h
      rw [List.length_append] at hl
      have h1:=hr f List.mem_cons_self
      rw [hoff,hsz] at h1
      have k1:=ih _ _ _ hs h1
      have k2:=kindsFs_sound ih all fs (o+s.length) r hrr (by rw [List.length_drop] at hl ⊢;omega) (fun g hg=>hr g (List.mem_cons_of_mem _ hg))
      have hsplit:all.drop o=(all.drop o).take s.length++all.drop (o+s.length):=by
       rw [←List.drop_drop,List.take_append_drop]
      rw [hsplit]
      exact k1.append k2
     ·cases h
   ·cases h
theorem kindsOf_sound {P:Program} {w:World} {base:Nat}:∀ (m t:Nat) (ks:List CK) (cs:List Value),kindsOf P m t=some ks→Rd P w base t cs→CellsOk P w base ks cs:=by
 intro m
 induction m with
 | zero=>intro t ks cs h;simp [kindsOf] at h
 | succ m ih =>
  intro t ks cs h hr
  obtain ⟨H,enc,sp,held,fuel,x,hx⟩:=hr
  simp only [kindsOf] at h
  split at h
  ·rename_i k hu
   simp only [Option.some.injEq] at h;subst h
   obtain ⟨n,rfl,_,hw⟩:=DataW.trod_int hu hx
   exact ⟨⟨n,rfl,hw⟩,trivial⟩
  ·rename_i hu
   simp only [Option.some.injEq] at h;subst h
   obtain ⟨b,rfl,_⟩:=DataW.trod_bool hu hx
   exact ⟨⟨b,rfl⟩,trivial⟩
  ·rename_i hu
   simp only [Option.some.injEq] at h;subst h
   obtain ⟨s,rfl,_,hs⟩:=DataW.trod_string hu hx
   exact ⟨⟨s,rfl,hs⟩,trivial⟩
  ·rename_i e hu
   simp only [Option.some.injEq] at h;subst h
   rcases Go.Deep.open_slice hu hx with ⟨rfl,_⟩ | ⟨a,len,cap,m',n,D,Pl,rfl,hb,hl,hm,hm',_,hel⟩
   ·exact ⟨⟨none,0,0,rfl,Nat.le_refl _,Nat.zero_le _,fun _ h=>absurd h (by omega)⟩,trivial⟩
   ·refine ⟨⟨some a,len,cap,rfl,hl,hm,fun hp hn=>?_⟩,trivial⟩
    have hle:len≤m':=by rw [hm'];split<;>omega
    obtain ⟨cs0,h0,_⟩:=hel 0 (by omega)
    have ha:a.add (0*P.cellsOf e)=a:=by simp [Addr.add]
    rw [ha] at h0
    have hs:=spot_row hp h0
    refine ⟨a.block,a.off,by rw [←hs],fun i hi=>?_⟩
    obtain ⟨cs',h1,h2⟩:=hel i (by omega)
    rw [hs,add_plain] at h1
    exact rdAt_of h1 ⟨H,enc,sp,held,n,_,h2⟩
  ·rename_i e hu
   simp only [Option.some.injEq] at h;subst h
   rcases DataW.trod_pointer hu hx with ⟨rfl,_⟩ | ⟨a,cs',y,n,_,rfl,_,hc,hy⟩
   ·exact ⟨⟨none,rfl,fun _ a h=>by cases h⟩,trivial⟩
   ·refine ⟨⟨some a,rfl,fun hp a' h=>?_⟩,trivial⟩
    cases h
    have hs:=spot_row hp hc
    refine ⟨a.block,a.off,hs,?_⟩
    rw [hs] at hc
    exact rdAt_of hc ⟨H,enc,sp,held,n,_,hy⟩
  ·rename_i fs hu
   split at h
   ·rename_i s hs
    cases hc:Nat.beq (P.cellsOf t) s.length with
    | false=>rw [hc] at h;simp at h
    | true =>
     rw [hc] at h
     simp only [cond_true,Option.some.injEq] at h;subst h
     have hsz:=Nat.eq_of_beq_eq_true hc
     obtain ⟨xs,n,_,_,hl,hxl,hel⟩:=DataW.trod_struct hu hx
     have:=kindsFs_sound (base:=base) ih cs fs.toList 0 s hs (by simp [hl,hsz]) (fun f hf=>by
      obtain ⟨i,hi⟩:=List.mem_iff_getElem?.1 hf
      have hi':fs[i]?=some f:=by simpa using hi
      have hlt:i<xs.length:=by rw [hxl];exact (Array.getElem?_eq_some_iff.1 hi').1
      have:=hel i f hi'
      rw [List.getElem?_eq_getElem hlt] at this
      exact ⟨H,enc,sp,held,n,_,this⟩)
     simpa using this
   ·cases h
  ·cases h
end Go.Eng
namespace Go.Eng
open Go.ChangeShapes Go.WideShapes Go.ChangeAt Go.RowKit
theorem Chg.below {w w':World} (h:Chg (fun _ _=>False) w w'):Below w.heap.size w w':=⟨h.os,h.tape,h.output,h.size,fun k hk=>h.same k hk (fun _ ho=>ho)⟩
section
variable {H:Type} {enc:TypeId × Value→H} {P:Program}
theorem trodAll_stays (hl:laidOutB P=true) {W W':World} {sp:Nat→Bool} (hb:Below W.heap.size W W'):∀ {ts:List TypeId} {vs:List Value} {ds:List (DataW H)} {ps:List MemPlace},DataW.TrodAll enc P W 0 (fun _=>true) true ts vs ds ps →
  (∀ t∈ts,P.readableRec t=true∧t<P.types.size)→(∀ p∈ps,p.block<W.heap.size)→(∀ p∈ps,sp p.block=true)→DataW.TrodAll enc P W' 0 sp true ts vs ds ps
 | [],[],[],_,h,_,_,_=>h
 | t::ts,v::vs,d::ds,ps,h,ht,hlt,hsp=>by
  obtain ⟨p,q,h1,h2,rfl⟩:=h
  refine ⟨p,q,?_,?_,rfl⟩
  ·exact WideElems.Trod_stays hl (ht t List.mem_cons_self).1 (ht t List.mem_cons_self).2 h1 (fun x hx=>hb.same (hlt x (by simp [hx]))) (fun x hx=>hsp x (by simp [hx]))
  ·exact trodAll_stays hl hb h2 (fun u hu=>ht u (List.mem_cons_of_mem _ hu)) (fun x hx=>hlt x (by simp [hx])) (fun x hx=>hsp x (by simp [hx]))
 | [],[],_::_,_,h,_,_,_=>h.elim
 | [],_::_,_,_,h,_,_,_=>h.elim
 | _::_,[],_,_,h,_,_,_=>h.elim
 | _::_,_::_,[],_,h,_,_,_=>h.elim
theorem law_post {f:Func} {s:ChangeSpec} {apart fresh handsOn again:Bool} {W W':World} {args:Array Value} {ds gs:List (DataW H)} {before:List MemPlace} {tb:TypeId} (hl:laidOutB P=true)
  (hW:DataW.Whole enc P f.params.toList s.vars apart W args.toList ds gs before) (hv:s.vars=[]) (hargs:(s.fn H (ds++gs)).args=ds) (hres:(s.fn H (ds++gs)).results=[.lit (.bool true)]) (hvars:(s.fn H (ds++gs)).vars=[])
  (hrt:f.resultTypes=#[tb]) (htb:P.underlying tb=some .bool) (hts:∀ t∈f.params.toList,P.readableRec t=true∧t<P.types.size) (hb:Below W.heap.size W W') :
  s.post enc P f apart fresh handsOn again W args (.bool true) W':=by
 have hlt:=hW.lt
 have hW0:=hW
 obtain ⟨p,q,hA,hV,rfl,hz,hn⟩:=hW
 rw [hv] at hV
 have hq:q=[]∧gs=[]:=by
  cases gs with
  | nil=>exact ⟨hV,rfl⟩
  | cons g gs=>exact hV.elim
 obtain ⟨rfl,rfl⟩:=hq
 have hr:∀ (b:Nat) (sp:Nat→Bool) (hd:Bool),DataW.TrodAll enc P W' b sp hd f.resultTypes.toList ((Value.bool true).resultList f.resultTypes.size) (s.fn H (ds++[])).results []:=by
  intro b sp hd
  rw [hrt,hres]
  exact trodAll_mk1 (shut_bool htb true)
 have ha:∀ sp:Nat→Bool,(∀ x∈p,sp x.block=true)→DataW.TrodAll enc P W' 0 sp true f.params.toList args.toList (s.fn H (ds++[])).args p:=by
  intro sp hsp
  rw [hargs]
  exact trodAll_stays hl hb hA hts (fun x hx=>hlt x (by simpa using hx)) hsp
 have hvv:∀ sp:Nat→Bool,DataW.TrodVars enc P W' sp s.vars (s.fn H (ds++[])).vars []:=by
  intro sp
  rw [hv,hvars]
  rfl
 refine ⟨ds,[],p++[],[],p,[],hW0,hr _ _ _,ha _ (fun x hx=>by simpa using hlt x (by simpa using hx)),hvv _,World.keptBut_mono (fun x hx=>⟨hx,.inr (by simpa using hx)⟩) (hb.frame _),fun _=>?_⟩
 refine ⟨?_,_,_,([]++p)++[],⟨[]++p,[],trodAll_append (ha _ (fun _ _=>rfl)) (hr _ _ _),hvv _,rfl,?_,?_⟩,?_⟩
 ·exact ok_one hrt rfl (okWide_bool_mk htb true)
 ·intro b off hp
  have hbl:b<W.heap.size:=hlt (.cell b off) (by simpa using hp)
  rw [hb.frozen (p:=⟨b,off,none⟩) hbl]
  exact hz b off (by simpa using hp)
 ·intro hap
  have:=hn hap
  simpa using this
 ·intro x hx _
  simpa using hx
def ArgOk (P:Program) (W:World) (t:Nat) (v:Value):Prop:=(∃ r base,Value.okWide P W r base t v)∧Rd P W 0 t v.cells.toList
theorem rd_all {W:World} {sp:Nat→Bool} {hd:Bool}:∀ {ts:List TypeId} {vs:List Value} {ds:List (DataW H)} {ps:List MemPlace},DataW.TrodAll enc P W 0 sp hd ts vs ds ps →
  ∀ (j:Nat) t v,ts[j]?=some t→vs[j]?=some v→Rd P W 0 t v.cells.toList
 | [],[],_,_,_,j,t,v,h,_=>by simp at h
 | t::ts,v::vs,d::ds,ps,h,j,t',v',ht,hv=>by
  obtain ⟨p,q,h1,h2,rfl⟩:=h
  cases j with
  | zero =>
   simp at ht hv;subst ht;subst hv
   obtain ⟨fuel,h⟩:=h1
   exact ⟨H,enc,_,_,fuel,_,h⟩
  | succ j=>exact rd_all h2 j t' v' (by simpa using ht) (by simpa using hv)
 | [],_::_,_,_,_,j,t,v,h,_=>by simp at h
 | _::_,[],_,_,_,j,t,v,_,h=>by simp at h
 | _::_,_::_,[],_,h,_,_,_,_,_=>h.elim
theorem trodAll_len {W:World} {sp:Nat→Bool} {hd:Bool}:∀ {ts:List TypeId} {vs:List Value} {ds:List (DataW H)} {ps:List MemPlace},DataW.TrodAll enc P W 0 sp hd ts vs ds ps→vs.length=ts.length∧ds.length=ts.length
 | [],[],[],_,_=>⟨rfl,rfl⟩
 | t::ts,v::vs,d::ds,ps,h=>by
  obtain ⟨p,q,_,h2,_⟩:=h
  have:=trodAll_len h2
  simp [this]
 | [],[],_::_,_,h=>h.elim
 | [],_::_,_,_,h=>h.elim
 | _::_,[],_,_,h=>h.elim
 | _::_,_::_,[],_,h=>h.elim
theorem ArgOk.int {W:World} {t:Nat} {k:IntKind} {v:Value} (h:ArgOk P W t v) (hu:P.underlying t=some (.int k)):∃ n,v=.int k n∧(Lit.int k n).wf=true:=by
 obtain ⟨⟨r,b,h1⟩,h2⟩:=h
 obtain ⟨n,rfl⟩:=okWide_int hu h1
 have:=kindsOf_sound 1 t [.int k] _ (by simp [kindsOf,hu]) h2
 obtain ⟨m,hm,hw⟩:=this.1
 simp at hm
 subst hm
 exact ⟨_,rfl,hw⟩
theorem ArgOk.bool {W:World} {t:Nat} {v:Value} (h:ArgOk P W t v) (hu:P.underlying t=some .bool):∃ b,v=.bool b :=
 let ⟨⟨_,_,h1⟩,_⟩:=h;okWide_bool hu h1
theorem ArgOk.slice {W:World} {t e:Nat} {v:Value} (h:ArgOk P W t v) (hu:P.underlying t=some (.slice e)):CellOk P W 0 (.slice e) v:=by
 obtain ⟨⟨r,b,h1⟩,h2⟩:=h
 obtain ⟨p,n,c,rfl⟩:=okWide_slice hu h1
 exact (kindsOf_sound 1 t [.slice e] _ (by simp [kindsOf,hu]) h2).1
theorem CellsOk.cons {P:Program} {w:World} {base:Nat} {k:CK} {ks:List CK} {cs:List Value} (h:CellsOk P w base (k::ks) cs):∃ v vs,cs=v::vs∧CellOk P w base k v∧CellsOk P w base ks vs:=by
 cases cs with
 | nil=>exact h.elim
 | cons v vs=>exact ⟨v,vs,rfl,h.1,h.2⟩
theorem CellsOk.nil {P:Program} {w:World} {base:Nat} {cs:List Value} (h:CellsOk P w base [] cs):cs=[]:=by
 cases cs with
 | nil=>rfl
 | cons v vs=>exact h.elim
end
end Go.Eng
