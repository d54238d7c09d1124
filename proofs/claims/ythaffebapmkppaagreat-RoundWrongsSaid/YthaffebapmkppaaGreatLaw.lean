import Derived.Test.YthaffebapmkppaaGreatEC
import Derived.MapKept
import Derived.Conc.LoneCalls
import Derived.Deep.Slices
import Derived.ChangeArms
import Derived.KernelRfl
import Derived.Test.YthaffebapmkppaaGreatEB
import Derived.ProofKit
namespace Go.Eng
def AllR (P:Num→Rg→Prop):Nums→List Rg→Prop
 | [],[]=>True
 | p::N,g::rg=>P p g∧AllR P N rg
 | _,_=>False
def SepR (p:Num) (g:Rg) (p':Num) (g':Rg):Prop:=g.own=true∨g'.own=true→∀ j j',j<g.wid p→j'<g'.wid p'→¬(p.b=p'.b∧p.o+j=p'.o+j')
structure RgAt (w:World) (N:Nums) (p:Num) (g:Rg):Prop where
 lt:p.b<w.heap.size
 ob:g.ob=none
 cell:∀ (j:Nat) (c:SV),g.cells[j]?=some c→∃ v,c.den N=some v∧w.cell? ⟨p.b,p.o+j,none⟩=some v
 ext:g.own=true→g.cells.length≤p.x
 room:g.own=true→∀ j,j<p.x→(w.cell? ⟨p.b,p.o+j,none⟩).isSome=true∧w.frozen? ⟨p.b,p.o+j,none⟩=false
theorem SepR.symm {p p':Num} {g g':Rg} (h:SepR p g p' g'):SepR p' g' p g:=fun ho j j' hj hj' ⟨e1,e2⟩=>h ho.symm j' j hj' hj ⟨e1.symm,e2.symm⟩
theorem inR_nil {rg:List Rg} {k o:Nat}:¬InR [] rg k o:=by
 rintro ⟨r,g,p,_,hp,_⟩
 simp at hp
theorem elsewhere_not {N:Nums} {rg:List Rg} {w:World} {k o:Nat} (h:¬InR N rg k o):elsewhere N rg w k o=w.cell? ⟨k,o,none⟩:=by
 unfold elsewhere
 rw [if_neg h]
theorem some_of_chg {O:Nat→Nat→Prop} {w w':World} (h:Chg O w w') {k:Nat} (o:Nat) (hc:(w.cell? ⟨k,o,none⟩).isSome=true):(w'.cell? ⟨k,o,none⟩).isSome=true:=by
 cases hh:w.heap[k]? with
 | none=>simp [World.cell?,hh] at hc
 | some x =>
  cases x with
  | cells c e f =>
   obtain ⟨c',h1,h2,_⟩:=h.cells k c e f hh
   simp only [World.cell?,hh,h1] at hc ⊢
   have:o<c.size:=by
    have:=Option.isSome_iff_exists.1 hc
    obtain ⟨v,hv⟩:=this
    exact (Array.getElem?_eq_some_iff.1 hv).1
   rw [Array.getElem?_eq_getElem (by omega)];rfl
  | _=>simp [World.cell?,hh] at hc
section
variable {E:Ctx} {T:Tab} {all:Array Oper} {i:Nat} {rest:List Nat} {k:List It} {s:St} {o:Oper} {f:Fr}
end
theorem Sat.recell {E:Env} {N:Nums} {rg:List Rg} {w:World} (h:Sat E N rg w) {r:Nat} {g:Rg} {cs':List SV} (hg:rg[r]?=some g) (hl:cs'.length=g.cells.length) (hd:∀ (j:Nat) (c c':SV),g.cells[j]?=some c→cs'[j]?=some c'→∀ v,c.den N=some v→c'.den N=some v):Sat E N (rg.set r { g with cells:=cs' }) w:=by
 have hrl:r<rg.length:=(List.getElem?_eq_some_iff.1 hg).1
 have old:∀ {i:Nat} {x:Rg},(rg.set r { g with cells:=cs' })[i]?=some x→∃ x0,rg[i]?=some x0∧x0.own=x.own∧x0.ob=x.ob∧x0.cells.length=x.cells.length∧∀ (j:Nat) (c:SV),x.cells[j]?=some c→∃ c0,x0.cells[j]?=some c0∧∀ v,c0.den N=some v→c.den N=some v:=by
  intro i x hx
  rcases get_set hrl hx with ⟨rfl,rfl⟩ | ⟨hi,hx⟩
  ·refine ⟨g,hg,rfl,rfl,hl.symm,fun j c hc=>?_⟩
   have hc:cs'[j]?=some c:=hc
   obtain ⟨c0,h0⟩:∃ c0,g.cells[j]?=some c0:=⟨_,List.getElem?_eq_getElem (by rw [←hl];exact (List.getElem?_eq_some_iff.1 hc).1)⟩
   exact ⟨c0,h0,hd j c0 c h0 hc⟩
  ·exact ⟨x,hx,rfl,rfl,rfl,fun j c hc=>⟨c,hc,fun v hv=>hv⟩⟩
 refine ⟨by simp [h.len],h.lt,?_,?_,?_,?_,?_,?_,h.imm,?_,?_,h.dlt,h.loc,h.res,h.chg,?_⟩
 ·intro i x q hx hq j c hc
  obtain ⟨x0,k1,_,_,_,k5⟩:=old hx
  obtain ⟨c0,k6,k7⟩:=k5 j c hc
  obtain ⟨v,k8,k9⟩:=h.cell i x0 q k1 hq j c0 k6
  exact ⟨v,k7 v k8,k9⟩
 ·intro i x q hx hq ho
  obtain ⟨x0,k1,k2,_,k4,_⟩:=old hx
  rw [←k4];exact h.ext i x0 q k1 hq (k2.trans ho)
 ·intro i x q hx hq ho
  obtain ⟨x0,k1,k2,_⟩:=old hx
  exact h.room i x0 q k1 hq (k2.trans ho)
 ·intro i i' x x' q q' hx hq hx' hq' ho hne j hj
  obtain ⟨x0,k1,k2,_⟩:=old hx
  obtain ⟨x1,m1,m2,_,m4,_⟩:=old hx'
  refine h.disj i i' x0 x1 q q' k1 hq m1 hq' (k2.trans ho) hne j ?_
  unfold Rg.wid at hj ⊢
  rw [m2,m4];exact hj
 ·intro i x q ob hx hq ho
  obtain ⟨x0,k1,_,k3,_⟩:=old hx
  exact h.obj i x0 q ob k1 hq (k3.trans ho)
 ·intro i i' x x' q q' hx hq hx' hq' ho ho' hne
  obtain ⟨x0,k1,_,k3,_⟩:=old hx
  obtain ⟨x1,m1,_,m3,_⟩:=old hx'
  exact h.odisj i i' x0 x1 q q' k1 hq m1 hq' (by rw [k3];exact ho) (by rw [m3];exact ho') hne
 ·intro i x q hx hq ho
  obtain ⟨x0,k1,k2,_⟩:=old hx
  exact h.imd i x0 q k1 hq (k2.trans ho)
 ·intro i x q hx hq ho
  obtain ⟨x0,k1,k2,_⟩:=old hx
  exact h.dd i x0 q k1 hq (k2.trans ho)
 ·intro i x q hx hq ho
  obtain ⟨x0,k1,k2,_⟩:=old hx
  exact h.foot i x0 q k1 hq (k2.trans ho)
theorem X.recell {E:Ctx} {k:List It} {s:St} (r:Nat) (g:Rg) (cs':List SV) (hg:s.rg[r]?=some g) (hl:cs'.length=g.cells.length) (hd:∀ N,E.N0.le N→∀ (j:Nat) (c c':SV),g.cells[j]?=some c→cs'[j]?=some c'→∀ v,c.den N=some v→c'.den N=some v) (h:X E k ⟨s.fr,s.rg.set r { g with cells:=cs' }⟩):X E k s:=by
 refine X.conv fun N a w hN hf hS=>?_
 exact ⟨E,⟨s.fr,s.rg.set r { g with cells:=cs' }⟩,rfl,rfl,rfl,rfl,⟨N,hN,hf,hS.recell hg hl (hd N hN)⟩,h⟩
theorem X.less {E:Ctx} {k:List It} {s:St} (ts:List Nat) (h:X E k ⟨s.fr.filter fun p=>ts.elem p.1,s.rg⟩):X E k s:=by
 refine X.conv fun N a w hN hf hS=>?_
 refine ⟨E,⟨s.fr.filter fun p=>ts.elem p.1,s.rg⟩,rfl,rfl,rfl,rfl,⟨N,hN,⟨hf.size,hf.defers,fun t=>?_⟩,hS⟩,h⟩
 have:=hf.ok t
 have key:∀ f:Fr,look (f.filter fun p=>ts.elem p.1) t=look f t∨look (f.filter fun p=>ts.elem p.1) t=.dead:=fun f=>by
  induction f with
  | nil=>exact .inl rfl
  | cons p f ih =>
   obtain ⟨k,v⟩:=p
   simp only [List.filter]
   cases he:ts.elem k with
   | true =>
    simp only [look]
    cases Nat.beq k t with
    | true=>exact .inl rfl
    | false=>exact ih
   | false =>
    simp only [look]
    cases hk:Nat.beq k t with
    | false=>exact ih
    | true =>
     have hk:=Nat.eq_of_beq_eq_true hk
     subst hk
     refine .inr ?_
     clear ih
     induction f with
     | nil=>rfl
     | cons p f ih =>
      obtain ⟨k',v'⟩:=p
      simp only [List.filter]
      cases he':ts.elem k' with
      | true =>
       simp only [look]
       cases hk':Nat.beq k' k with
       | false=>exact ih
       | true =>
        have hk':=Nat.eq_of_beq_eq_true hk'
        subst hk'
        rw [he] at he';cases he'
      | false=>exact ih
 rcases key s.fr with e | e
 ·rw [e];exact this
 ·rw [e];trivial
theorem X.drop {E:Ctx} {k:List It} {s:St} (r:Nat) (hr:r<s.rg.length) (h:X E k ⟨s.fr,s.rg.set r ⟨false,[],none⟩⟩):X E k s:=by
 refine X.conv fun N a w hN hf hS=>?_
 exact ⟨E,⟨s.fr,s.rg.set r ⟨false,[],none⟩⟩,rfl,rfl,rfl,rfl,⟨N,hN,hf,hS.retire hr⟩,h⟩
theorem nil_le (N:Nums):Nums.le [] N:=fun r p h=>by simp at h
theorem X.recell1 {E:Ctx} {k:List It} {s:St} (r j:Nat) {g:Rg} {c:SV} (c':SV) (hg:s.rg[r]?=some g) (hj:g.cells[j]?=some c) (hd:∀ N,E.N0.le N→∀ v,c.den N=some v→c'.den N=some v) (h:X E k ⟨s.fr,s.rg.set r { g with cells:=g.cells.set j c' }⟩):X E k s:=by
 refine X.recell r g (g.cells.set j c') hg (by simp) (fun N hN q d d' h1 h2 v hv=>?_) h
 have hjl:j<g.cells.length:=(List.getElem?_eq_some_iff.1 hj).1
 rcases get_set hjl h2 with ⟨rfl,rfl⟩ | ⟨_,h2⟩
 ·rw [hj] at h1;cases h1
  exact hd N hN v hv
 ·rw [h1] at h2;cases h2
  exact hv
def idxS (n:Nat) (ops:Array Oper):List IdxG→Nat→Fr→Option (Fr × Prop)
 | [],_,_=>none
 | q::l,i,f=>bif Nat.beq i q.j then
   match nth ops.toList q.j with
   | some o=>bif sure ops f o then
     match putO n f (some q.d) (.val q.r) with
     | some f'=>some (f',ev f (.tmp q.x)=some q.sx∧∃ kd e,ev f (.tmp q.ix)=some (.int kd e)∧e.den=(q.z:Int))
     | none=>none
    else none
   | none=>none
  else idxS n ops l i f
structure Told (b:SB) (v:Bool):Prop where
 eq:b.den=v
def litO (T:Tab) (n:Nat) (all:Array Oper):List (Nat × Nat × Bool)→Nat→Fr→Option (Fr × Prop)
 | [],_,_=>none
 | (j,t,v)::l,i,f=>bif Nat.beq i j then
   match opQ T n all [] i f with
   | some f'=>match look f' t with
    | .val (.bool b)=>some (litF t v f',Told b v)
    | _=>none
   | none=>none
  else litO T n all l i f
structure SlcS where
 (j x lo hi d t zl zh:Nat) (sx r:SV)
def SlcS.ok (ops:Array Oper) (q:SlcS):Bool:=match nth ops.toList q.j with
 | some o=>(match o.op with | .slice t' (.tmp x) (some (.tmp lo)) (some (.tmp hi)) none=>Nat.beq t' q.t&&(Nat.beq x q.x&&(Nat.beq lo q.lo&&Nat.beq hi q.hi)) | _=>false)&&(match o.dst with | some d=>Nat.beq d q.d | none=>false)
 | none=>false
theorem X.join {E:Ctx} {ι:Type} (En:ι→Ctx) (S:ι→St) {c1 c2:Code} {k:List It} {s:St} (hEn:∀ i,(En i).P=E.P∧(En i).Q=E.Q∧(En i).B=E.B)
  (h1:∀ q:Act→World→Prop,(∀ i a w,At (En i) (S i) a w→q a w)→X E (.code c1::.lp q::k) s) (h2:∀ i,X (En i) (.code c2::k) (S i)):X E (.code c1::.code c2::k) s:=by
 have:=h1 (fun a w=>sem E.P E.B (.code c2::k) E.Q .normal a w) (fun i a w ⟨N,q1,q2,q3⟩=>by
  have:=h2 i N a w q1 q2 q3
  rw [(hEn i).1,(hEn i).2.1,(hEn i).2.2] at this
  exact this)
 exact this
def anyC (oq:Orac) (T:Tab) (n:Nat) (all:Array Oper) (K:KW) (rg:List Rg) (call:CallerP) (fin:St→Prop):Sch→St→Prop
 | [],s=>fin s
 | (i,some blk)::r,s=>quietK K i=true ∧
   match oq (maskRg (flatK (memB blk) K) rg 0) i s.fr with
   | some (f,p)=>p∧anyC oq T n all K rg call fin r ⟨f,s.rg⟩
   | none=>False
 | (i,none)::r,s=>match oq s.rg i s.fr with
  | some (f,p)=>p∧anyC oq T n all K rg call fin r ⟨f,s.rg⟩
  | none=>match call i s with
   | some (s',ws,p)=>p∧allN (lookK K i) ws=true∧anyC oq T n all K rg call fin r s'
   | none=>match opE T n all i s with
    | some s'=>(match stR s.fr all i with | some k=>memN (lookK K i) k | none=>true)=true∧anyC oq T n all K rg call fin r s'
    | none=>False
theorem anyC_sound {E:Env} {T:Tab} (hT:TabOk E.P T) {all:Array Oper} (hsel:Region.noSelect all=true) {Q:Exit→Act→World→Prop} (hQ:PanicOk Q) {call:CallerP} (hc:CallerPOk E.P E.n all E.R E.im call) {oq:Orac} {N0:Nums} (hoq:OracOk E.P E.n all N0 oq) {K:KW} {rg:List Rg} {fin:St→Prop} {Nf:Nums} (wf:World) (hV:Vis Nf rg wf):∀ (sch:Sch) (listed:Array Bool) {s:St} {N:Nums} {a:Act} {w:World},
  schOk all sch listed=true→listed.size=all.size→anyC oq T E.n all K rg call fin sch s→Nf.le N→N0.le N→FrOk E.n N s.fr a→Sat E N s.rg w→Agree (wrL K listed) rg s.rg→rg.length≤s.rg.length →
  (∀ s' N' a' w',fin s'→N.le N'→FrOk E.n N' s'.fr a'→Sat E N' s'.rg w'→Q .normal a' w')→wpF E.P all Q (fun L=>Vis Nf (maskRg (wrL K L) rg 0)) sch.length listed a w:=by
 have emp:∀ {l:List Nat},l.isEmpty=true→l=[]:=by intro l h;cases l<;>simp at h ⊢
 have see:∀ (L:Array Bool) {N:Nums} {rg':List Rg} {w:World},Nf.le N→Agree (wrL K L) rg rg'→Sat E N rg' w→Vis Nf (maskRg (wrL K L) rg 0) w:=fun L _ _ _ hN ha hS=>vis_of_agree (hV.mask _) hN ha hS
 intro sch
 induction sch with
 | nil =>
  intro listed s N a w hs hn hg hN hN0 hf hS ha hl hk
  exact wpF.done (emp hs) (hk s N a w hg (Nums.le.refl N) hf hS)
 | cons p r ih =>
  obtain ⟨i,q⟩:=p
  intro listed s N a w hs hn hg hN hN0 hf hS ha hl hk
  have hS0:=see listed hN ha hS
  cases q with
  | some blk =>
   simp only [schOk,Bool.and_eq_true] at hs
   obtain ⟨⟨⟨⟨hr,hfree⟩,hclosed⟩,hwithin⟩,hs⟩:=hs
   simp only [anyC] at hg
   obtain ⟨hqk,hg⟩:=hg
   have hqk:=quietK_spec hqk
   have hrm:i∈Region.ready .any all listed:=by simpa using hr
   have hi0:listed.getD i false=false:=by
    have h1:=(mem_ready.1 hrm).1
    rcases Nat.lt_or_ge i listed.size with h' | h'
    ·simp [h'] at h1 ⊢;exact h1
    ·rw [Array.getD_eq_getD_getElem?,Array.getElem?_eq_none h'];rfl
   have same:∀ (L:Array Bool) (r:Nat),memN (wrL K (L.setIfInBounds i true)) r=true↔memN (wrL K L) r=true:=fun L r=>by
    simp only [wrL,memN_flat]
    constructor
    ·rintro ⟨p,h1,h2,h3⟩
     exact ⟨p,h1,by rwa [getD_set_ne false (fun e=>hqk p h1 e.symm)] at h2,h3⟩
    ·rintro ⟨p,h1,h2,h3⟩
     exact ⟨p,h1,by rwa [getD_set_ne false (fun e=>hqk p h1 e.symm)],h3⟩
   split at hg
   ·rename_i f hq
    obtain ⟨_,o,ho,_⟩:=mem_ready.1 hrm
    obtain ⟨hp,hg⟩:=hg
    -- whoever may have come up ahead of it is of blk
    have wide:∀ {L':Array Bool} {w':World},Up all i listed L'→Vis Nf (maskRg (wrL K L') rg 0) w'→Vis Nf (maskRg (flatK (memB blk) K) rg 0) w':=fun hup hv =>
     hv.more fun r hr=>by
      obtain ⟨p,h1,h2,h3⟩:=memN_flat.1 hr
      exact memN_flat.2 ⟨p,h1,(hup.within hclosed hn hi0 hwithin).2.2 _ h2,h3⟩
    obtain ⟨v,hv,hfr⟩:=hoq _ i _ _ _ _ _ _ _ ho hq hp hN0 hf ((wide .here hS0).mono hN)
    refine wpF.take ho hsel hfree hr (fun c a w h=>hQ c a o.dst v w h) (fun L w=>⟨fun h=>h.more fun r hr=>(same L r).1 hr,fun h=>h.more fun r hr=>(same L r).2 hr⟩) ?_ hS0
     (ih _ hs (by simpa using hn) hg hN hN0 hfr hS (fun r g hg hm=>ha r g hg (by
      cases hx:memN (wrL K listed) r with
      | true=>rw [(same listed r).2 hx] at hm;cases hm
      | false=>rfl)) hl hk)
    rcases hv with ⟨hw,hrun⟩ | ⟨hw,rfl⟩
    ·exact .inl ⟨hw,fun w ⟨L',hup,hw⟩=>hrun w ((wide hup hw).mono hN)⟩
    ·exact .inr ⟨hw,rfl⟩
   ·exact hg.elim
  | none =>
   simp only [schOk,Bool.and_eq_true] at hs
   obtain ⟨hr,hs⟩:=hs
   have hr:=only_spec hr
   have hrm:i∈Region.ready .any all listed:=by rw [hr];simp
   have hlt:i<listed.size:=by
    obtain ⟨_,o,ho,_⟩:=mem_ready.1 hrm
    rw [hn];exact (Array.getElem?_eq_some_iff.1 ho).1
   have hset:(listed.setIfInBounds i true).getD i false=true:=by simp [hlt]
   have grow:∀ r,memN (wrL K listed) r=true→memN (wrL K (listed.setIfInBounds i true)) r=true:=fun r h=>by
    obtain ⟨p,h1,h2,h3⟩:=memN_flat.1 h
    refine memN_flat.2 ⟨p,h1,?_,h3⟩
    by_cases e:i=p.1
    ·rw [←e];exact hset
    ·rw [getD_set_ne false e];exact h2
   have own:∀ k,memN (lookK K i) k=true→memN (wrL K (listed.setIfInBounds i true)) k=true:=fun k hk=>by
    obtain ⟨p,h1,h2,h3⟩:=lookK_mem hk
    exact memN_flat.2 ⟨p,h1,by rw [h2];exact hset,h3⟩
   have ha1:Agree (wrL K (listed.setIfInBounds i true)) rg s.rg:=ha.mono fun r hr=>by
    cases hx:memN (wrL K listed) r with
    | true=>rw [grow r hx] at hr;cases hr
    | false=>rfl
   simp only [anyC] at hg
   split at hg
   ·rename_i f hq
    obtain ⟨_,o,ho,_⟩:=mem_ready.1 hrm
    obtain ⟨hp,hg⟩:=hg
    obtain ⟨v,hv,hfr⟩:=hoq _ i _ _ _ _ _ _ _ ho hq hp hN0 hf hS.vis
    refine wpF.all hr (by simp) fun j hj=>?_
    simp only [List.mem_singleton] at hj;subst hj
    unfold wpOp
    simp only [ho]
    have hnext:=ih _ hs (by simpa using hn) hg hN hN0 hfr hS ha1 hl hk
    rcases hv with ⟨hw,hrun⟩ | ⟨hw,rfl⟩
    ·rw [hw,if_pos rfl]
     exact .inl (wp_of_yields (.inl (hrun w hS.vis)) ⟨see _ hN ha1 hS,hnext⟩)
    ·rw [hw]
     exact ⟨see _ hN ha1 hS,hnext⟩
   ·split at hg
    ·rename_i s1 ws p he
     obtain ⟨hp,hm,hg2⟩:=hg
     obtain ⟨h1,o,ho,h2⟩:=hc _ _ _ _ _ he hp
     obtain ⟨hw,h3⟩:=h2 E N a w rfl rfl rfl rfl hf hS
     refine wpF.all hr (by simp) fun j hj=>?_
     simp only [List.mem_singleton] at hj;subst hj
     unfold wpOp
     simp only [ho,hw,if_true]
     refine .inl (h3 _ _ fun N' x w' hN' hf' hS'=>?_)
     have ha':Agree (wrL K (listed.setIfInBounds j true)) rg s1.rg:=fun r g hg hr=>h1.agree r g (ha1 r g hg hr) (allN_spec hm r (by
      cases hx:memN (lookK K j) r with
      | true=>rw [own r hx] at hr;cases hr
      | false=>rfl))
     exact ⟨see _ (hN.trans hN') ha' hS',ih _ hs (by simpa using hn) hg2 (hN.trans hN') (hN0.trans hN') hf' hS' ha' (Nat.le_trans hl h1.len) (fun s2 N2 a2 w2 hs2 hN2=>hk s2 N2 a2 w2 hs2 (hN'.trans hN2))⟩
    ·split at hg
     ·rename_i s1 he
      obtain ⟨hm,hg2⟩:=hg
      have hoi:∃ o,all[i]?=some o:=by
       cases ho:all[i]? with
       | some o=>exact ⟨o,rfl⟩
       | none=>unfold opE at he;rw [nth_eq] at he;simp [ho] at he
      obtain ⟨o,ho⟩:=hoi
      obtain ⟨hw,N',x,w',h1,h2,h3,h4⟩:=opE_sound hT ho he hf hS
      obtain ⟨ha',hl'⟩:=stepE_agree ha1 hl (by cases hst:stR s.fr all i with | some k=>rw [hst] at hm;exact own k hm | none=>rfl) he
      refine wpF.all hr (by simp) fun j hj=>?_
      simp only [List.mem_singleton] at hj;subst hj
      unfold wpOp
      simp only [ho,hw,if_true]
      exact .inl (wp_of_yields h2 ⟨see _ (hN.trans h1) ha' h4,ih _ hs (by simpa using hn) hg2 (hN.trans h1) (hN0.trans h1) h3 h4 ha' hl' (fun s2 N2 a2 w2 hs2 hN2=>hk s2 N2 a2 w2 hs2 (h1.trans hN2))⟩)
     ·exact hg.elim
end Go.Eng
namespace Go.Eng
open Go.MapKept
def notCells:Obj→Prop
 | .cells _ _ _=>False
 | _=>True
def putOb (w:World) (b:Nat) (x:Obj):World:={ w with heap:=w.heap.setIfInBounds b x }
theorem objAt_lt {w:World} {b:Nat} (h:(objAt w b).isSome=true):b<w.heap.size:=by
 obtain ⟨x,hx⟩:=Option.isSome_iff_exists.1 h
 exact (Array.getElem?_eq_some_iff.1 (heap_objAt hx)).1
theorem heap_put_same {w:World} {b:Nat} {x:Obj} (h:b<w.heap.size):(putOb w b x).heap[b]?=some x:=by simp [putOb,h]
theorem heap_put_ne {w:World} {b k:Nat} {x:Obj} (h:k≠b):(putOb w b x).heap[k]?=w.heap[k]?:=by
 simp only [putOb];rw [Array.getElem?_setIfInBounds_ne (fun e=>h e.symm)]
theorem size_put {w:World} {b:Nat} {x:Obj}:(putOb w b x).heap.size=w.heap.size:=by simp [putOb]
theorem objAt_of {w:World} {k:Nat} {x:Obj} (h:w.heap[k]?=some x) (hn:notCells x):objAt w k=some x :=
 objAt_some h (fun c e f e'=>by subst e';exact hn)
theorem objAt_put_same {w:World} {b:Nat} {x:Obj} (h:b<w.heap.size) (hn:notCells x):objAt (putOb w b x) b=some x:=objAt_of (heap_put_same h) hn
theorem objAt_put_ne {w:World} {b k:Nat} {x:Obj} (h:k≠b):objAt (putOb w b x) k=objAt w k:=objAt_same (heap_put_ne h)
theorem cell_obj {w:World} {b o:Nat} {x:Obj} (h:objAt w b=some x):w.cell? ⟨b,o,none⟩=none:=by
 unfold objAt at h
 unfold World.cell?
 split at h
 ·cases h
 ·simp only [h]
  cases x with
  | cells c e f=>rename_i hn;exact absurd h (fun h'=>hn c e f h')
  | _=>rfl
theorem cell_put {w:World} {b:Nat} {x:Obj} (h:(objAt w b).isSome=true) (hn:notCells x) (k o:Nat):(putOb w b x).cell? ⟨k,o,none⟩=w.cell? ⟨k,o,none⟩:=by
 by_cases e:k=b
 ·subst e
  obtain ⟨y,hy⟩:=Option.isSome_iff_exists.1 h
  rw [cell_obj (objAt_put_same (objAt_lt h) hn),cell_obj hy]
 ·unfold World.cell?;simp only [heap_put_ne e]
theorem There.put {w:World} {b:Nat} {x:Obj} (h:(objAt w b).isSome=true) (hn:notCells x) {k o:Nat} (ht:There w k o):There (putOb w b x) k o:=by
 rcases ht with ht | ht
 ·exact .inl (by rw [cell_put h hn];exact ht)
 ·right
  by_cases e:k=b
  ·subst e;rw [objAt_put_same (objAt_lt h) hn];rfl
  ·rw [objAt_put_ne e];exact ht
theorem Chg.put {O:Nat→Nat→Prop} {w:World} {b:Nat} {x:Obj} (h:(objAt w b).isSome=true) (ho:∃ o,O b o):Chg O w (putOb w b x):=by
 refine ⟨rfl,rfl,rfl,by rw [size_put];exact Nat.le_refl _,Nat.le_refl _,fun k hk hn=>?_,fun k c e f hc=>?_⟩
 ·refine heap_put_ne (fun e=>?_)
  subst e
  obtain ⟨o,ho⟩:=ho
  exact hn o ho
 ·have hne:k≠b:=fun e'=>by
   subst e'
   unfold objAt at h
   rw [hc] at h;cases h
  exact ⟨c,by rw [heap_put_ne hne];exact hc,rfl,fun _ _=>rfl⟩
section
variable {E:Ctx} {T:Tab} {all:Array Oper} {i:Nat} {rest:List Nat} {k:List It} {s:St} {o:Oper} {f:Fr}
def opsS (P:Program) (ops:Array Oper) (Q:Exit→Act→World→Prop) (l:List Nat) (a:Act) (w:World):Prop :=
 ∀ (b:Frame) (k:List Item) (cs:List Frame),∃ e a' w',Q e a' w'∧Arrives P (lone (b.at a (.inRegion ops l::k)) cs w) b k cs e a' w'
theorem opsS.of {P:Program} {ops:Array Oper} {Q:Exit→Act→World→Prop} {l:List Nat} {a:Act} {w:World} (h:wpOps P ops Q l a w):opsS P ops Q l a w:=wp_ops l a w h
theorem opsS.region {P:Program} {ops:Array Oper} {Q:Exit→Act→World→Prop} {id:Nat} {a:Act} {w:World} (h:opsS P ops Q (List.range ops.size) a w):(Code.region id ops false).wp P Q a w :=
 fun b k cs=>let ⟨e,a',w',q,r⟩:=h b k cs;⟨e,a',w',q,.of_steps (.one step_region) r⟩
theorem wanted_none {o:Oper} {ops:Array Oper} {t:Array Value} (hg:o.guard=none):Region.wanted o (yielded ops t)=true:=by simp [Region.wanted,hg]
theorem opsS.value {P:Program} {ops:Array Oper} {Q:Exit→Act→World→Prop} {i:Nat} {rest:List Nat} {o:Oper} {a:Act} {w w':World} {v:Value} (ho:ops[i]?=some o) (hg:o.guard=none) (hr:(execOp a.eval o).run P w=.ok (.value v) w')
  (h:opsS P ops Q rest (a.put o.dst v) w'):opsS P ops Q (i::rest) a w:=by
 intro b k cs
 obtain ⟨e,a',w'',hq,harr⟩:=h b k cs
 refine ⟨e,a',w'',hq,.of_steps (.one (step_lone_go ?_)) harr⟩
 have hs:=stepG_op (P:=P) (b:=b) (k:=k) (cs:=cs) (w:=w) (rest:=rest) ho (wanted_none (t:=a.tmps) hg)
 have hfin:(b.at a (.inRegion ops (i::rest)::k)).finish v=b.at (a.put o.dst v) (.inRegion ops rest::k):=by
  rw [Frame.finish_at,ho];rfl
 rw [hs,←hfin]
 simp [stepG.apply,hr]
def XS (E:Ctx) (all:Array Oper) (rest:List Nat) (k:List It) (s:St):Prop :=
 ∀ (N:Nums) (a:Act) (w:World),E.N0.le N→FrOk E.n N s.fr a→Sat E.toEnv N s.rg w→opsS E.P all (sem E.P E.B k E.Q) rest a w
theorem X.reg {id:Nat} (h:XS E all (List.range all.size) k s):X E (.code (.region id all false)::k) s:=by
 intro N a w hN hf hS
 show _→Code.wp _ _ _ _ _
 intro _
 exact (h N a w hN hf hS).region
theorem nth_get {o:Oper} (ho:nth all.toList i=some o):all[i]?=some o:=by rw [nth_eq] at ho;simpa using ho
theorem XS.val (ho:nth all.toList i=some o) (hg:o.guard=none) (r:SV) (hp:putO E.n s.fr o.dst (.val r)=some f)
  (h:∀ (N:Nums) (a:Act) (w:World),E.N0.le N→FrOk E.n N s.fr a→Sat E.toEnv N s.rg w→∃ x,r.den N=some x∧(execOp a.eval o).run E.P w=.ok (.value x) w)
  (hk:XS E all rest k ⟨f,s.rg⟩):XS E all (i::rest) k s:=fun N a w hN hf hS=>by
 obtain ⟨x,h1,h2⟩:=h N a w hN hf hS
 exact .value (nth_get ho) hg h2 (hk N _ _ hN (putO_sound hf h1 hp) hS)
end
def IntKeys (es:List MapEntry):Prop:=∀ x∈es,∃ i,x.key=.int .i64 i
open Classical in
noncomputable def mget:List MapEntry→Int→Option Value
 | [],_=>none
 | e::es,i=>if e.key=.int .i64 i then some e.val else mget es i
def MapAt (m:Nat) (g:Int→Option Value) (w:World):Prop:=∃ es clock,w.heap[m]?=some (.map es clock)∧IntKeys es.toList∧∀ i,mget es.toList i=g i
theorem MapAt.at {m:Nat} {g:Int→Option Value} {w w':World} (h:MapAt m g w) (hs:objAt w' m=objAt w m):MapAt m g w':=by
 obtain ⟨es,clock,h1,h2⟩:=h
 rw [objAt_of h1 trivial] at hs
 exact ⟨es,clock,heap_objAt hs,h2⟩
section
variable {E:Ctx} {T:Tab} {all:Array Oper} {i:Nat} {rest:List Nat} {k:List It} {s:St} {o:Oper} {f:Fr}
end
end Go.Eng
namespace Go.Eng
theorem Sat.addFresh {E:Env} {N:Nums} {rg:List Rg} {w:World} (h:Sat E N rg w) {b o x s0:Nat} {cs:List SV} (hN:∀ (r:Nat) (p:Num),N[r]?=some p→p.b<s0) (hs0:s0≤b) (hE:E.W.heap.size≤s0) (hb:b<w.heap.size) (hx:cs.length≤x)
  (hcs:∀ (j:Nat) (c:SV),cs[j]?=some c→∃ v,c.den N=some v∧w.cell? ⟨b,o+j,none⟩=some v) (hro:∀ j,j<x→(w.cell? ⟨b,o+j,none⟩).isSome=true∧w.frozen? ⟨b,o+j,none⟩=false)
  (him:∀ i,E.im b i=none) (hD:∀ i,¬E.D b i):Sat E (N++[⟨b,o,x⟩]) (rg++[⟨true,cs,none⟩]) w:=by
 have hle:N.le (N++[⟨b,o,x⟩]):=Nums.le_append _ _
 refine ⟨by simp [h.len],?_,?_,?_,?_,?_,?_,?_,h.imm,?_,?_,h.dlt,h.loc,h.res,h.chg,?_⟩
 ·intro i q hq
  rcases Nat.lt_or_ge i N.length with hi | hi
  ·rw [List.getElem?_append_left hi] at hq;exact h.lt i q hq
  ·rw [List.getElem?_append_right hi] at hq
   have hz:i-N.length=0:=by
    have:=(List.getElem?_eq_some_iff.1 hq).1
    simp at this;omega
   rw [hz] at hq;simp at hq;subst hq;exact hb
 ·intro i g q hg hq j d hj
  rcases get_snoc h.len hg hq with ⟨a,b⟩ | ⟨_,rfl,rfl⟩
  ·obtain ⟨v,h1,h2⟩:=h.cell i g q a b j d hj
   exact ⟨v,SV.den_mono hle d h1,h2⟩
  ·obtain ⟨v,h1,h2⟩:=hcs j d hj
   exact ⟨v,SV.den_mono hle d h1,h2⟩
 ·intro i g q hg hq ho
  rcases get_snoc h.len hg hq with ⟨a,b⟩ | ⟨_,rfl,rfl⟩
  ·exact h.ext i g q a b ho
  ·exact hx
 ·intro i g q hg hq ho
  rcases get_snoc h.len hg hq with ⟨a,b⟩ | ⟨_,rfl,rfl⟩
  ·exact h.room i g q a b ho
  ·exact hro
 ·intro i i' g g' q q' hg hq hg' hq' ho hne j hj hb'
  rcases get_snoc h.len hg hq with ⟨a1,a2⟩ | ⟨a0,rfl,rfl⟩<;>rcases get_snoc h.len hg' hq' with ⟨b1,b2⟩ | ⟨b0,rfl,rfl⟩
  ·exact h.disj i i' g g' q q' a1 a2 b1 b2 ho hne j hj hb'
  ·have:=hN i q a2;simp at hb';omega
  ·have:=hN i' q' b2;simp at hb';omega
  ·omega
 ·intro i g q ob hg hq ho
  rcases get_snoc h.len hg hq with ⟨a,b⟩ | ⟨_,rfl,rfl⟩
  ·obtain ⟨⟨o',k1,k2⟩,k3⟩:=h.obj i g q ob a b ho
   exact ⟨⟨o',Ob.den_mono hle ob k1,k2⟩,k3⟩
  ·simp at ho
 ·intro i i' g g' q q' hg hq hg' hq' ho ho' hne
  rcases get_snoc h.len hg hq with ⟨a1,a2⟩ | ⟨a0,rfl,rfl⟩
  ·rcases get_snoc h.len hg' hq' with ⟨b1,b2⟩ | ⟨b0,rfl,rfl⟩
   ·exact h.odisj i i' g g' q q' a1 a2 b1 b2 ho ho' hne
   ·simp at ho'
  ·simp at ho
 ·intro i g q hg hq ho
  rcases get_snoc h.len hg hq with ⟨a,b⟩ | ⟨_,rfl,rfl⟩
  ·exact h.imd i g q a b ho
  ·exact fun j _=>him _
 ·intro i g q hg hq ho
  rcases get_snoc h.len hg hq with ⟨a,b⟩ | ⟨_,rfl,rfl⟩
  ·exact h.dd i g q a b ho
  ·exact fun j _=>hD _
 ·intro i g q hg hq ho
  rcases get_snoc h.len hg hq with ⟨a,b⟩ | ⟨_,rfl,rfl⟩
  ·exact h.foot i g q a b ho
  ·exact .inl (Nat.le_trans hE hs0)
def FreshRet (cs:List SV) (n sz:Nat) (w:World) (e:Ending) (w':World):Prop :=
 ∃ b o x:Nat,e=.returned (.slice (some ⟨b,o,none⟩) n (x / sz))∧w.heap.size≤b∧cs.length≤x∧0<x∧(∀ (j:Nat) (c:SV),cs[j]?=some c→∃ v,c.den []=some v∧w'.cell? ⟨b,o+j,none⟩=some v) ∧
  (∀ j,j<x→(w'.cell? ⟨b,o+j,none⟩).isSome=true∧w'.frozen? ⟨b,o+j,none⟩=false)∧Chg (fun _ _=>False) w w'
theorem FreshRet.sat {E:Env} {N:Nums} {rg:List Rg} {w w':World} {cs:List SV} {n sz:Nat} {e:Ending} (hf:FreshRet cs n sz w e w') (h:Sat E N rg w) :
  ∃ (p:Num) (v:Value),e=.returned v∧(SV.osl rg.length 0 n sz none).den (N++[p])=some v∧w.heap.size≤p.b∧Sat E (N++[p]) (rg++[⟨true,cs,none⟩]) w':=by
 obtain ⟨b,o,x,he,h1,h2,h3,h4,h5,hc⟩:=hf
 have hget:(N++[⟨b,o,x⟩])[rg.length]?=some ⟨b,o,x⟩:=by rw [←h.len];simp
 refine ⟨⟨b,o,x⟩,_,he,by simp only [SV.den,hget,Num.cap];simp,h1,?_⟩
 have h0:=h.after0 hc
 refine h0.addFresh (s0:=w.heap.size) (fun r p hp=>h.lt r p hp) h1 h.chg.size ?_ h2 (fun j c hj=>?_) h5 (fun i=>?_) (fun i hd=>?_)
 ·obtain ⟨v,hv⟩:=Option.isSome_iff_exists.1 (h5 0 h3).1
  exact World.block_lt_of_cell? _ _ hv
 ·obtain ⟨v,k1,k2⟩:=h4 j c hj
  exact ⟨v,SV.den_mono (N:=[]) (N':=N) (fun r p h=>by simp at h) c k1,k2⟩
 ·cases hi:E.im b i with
  | none=>rfl
  | some v=>have:=World.block_lt_of_cell? _ _ (h.imm _ _ _ hi);simp at this;omega
 ·have:=(h.dlt _ _ hd).lt
  omega
section
variable {E:Ctx} {T:Tab} {all:Array Oper} {i:Nat} {rest:List Nat} {k:List It} {s:St} {o:Oper} {f:Fr}
theorem Goes.fresh {N:Nums} {k:List It} {s:St} {d:Option Nat} {w w':World} {cs:List SV} {n sz:Nat} {e:Ending} (hN:E.N0.le N) (h:Sat E.toEnv N s.rg w) (hf:FreshRet cs n sz w e w') {f':Fr} (hp:putO E.n s.fr d (.val (.osl s.rg.length 0 n sz none))=some f')
  (hx:X E k ⟨f',s.rg++[⟨true,cs,none⟩]⟩):∃ v,e=.returned v∧Goes E N k s.fr d v w':=by
 obtain ⟨p,v,h1,h2,_,h3⟩:=hf.sat h
 exact ⟨v,h1,E,N++[p],_,_,f',rfl,rfl,rfl,rfl,Nums.le_append _ _,hN.trans (Nums.le_append _ _),h3,h2,hp,hx⟩
end
theorem X.reval {E:Ctx} {k:List It} {s:St} (t:Nat) {v:SV} (v':SV) (hl:look s.fr t=.val v) (hd:∀ N,E.N0.le N→∀ x,v.den N=some x→v'.den N=some x) (h:X E k ⟨(t,.val v')::s.fr,s.rg⟩):X E k s:=by
 refine X.conv fun N a w hN hf hS=>?_
 refine ⟨E,⟨(t,.val v')::s.fr,s.rg⟩,rfl,rfl,rfl,rfl,⟨N,hN,⟨hf.size,hf.defers,fun t'=>?_⟩,hS⟩,h⟩
 simp only [look]
 cases e:Nat.beq t t' with
 | false=>exact hf.ok t'
 | true =>
  have e:=Nat.eq_of_beq_eq_true e
  subst e
  have hok:=hf.ok t
  rw [hl] at hok
  obtain ⟨x,h1,h2⟩:=hok
  exact ⟨x,hd N hN x h1,h2⟩
theorem Goes.cells {E:Ctx} {N:Nums} {k:List It} {s:St} {d:Option Nat} {v:Value} {w w':World} {r:Nat} {g:Rg} {p:Num} (hN:E.N0.le N) (h:Sat E.toEnv N s.rg w) (hg:s.rg[r]?=some g) (hp:N[r]?=some p) (ho:g.own=true)
  (hc:Chg (fun k o=>k=p.b∧p.o≤o∧o<p.o+p.x) w w') (cs':List SV) (hl:cs'.length≤p.x) (hcs:∀ (j:Nat) (c:SV),cs'[j]?=some c→∃ v,c.den N=some v∧w'.cell? ⟨p.b,p.o+j,none⟩=some v)
  {rv:SV} (hr:rv.den N=some v) {f':Fr} (hpo:putO E.n s.fr d (.val rv)=some f') (hx:X E k ⟨f',s.rg.set r { g with cells:=cs' }⟩):Goes E N k s.fr d v w':=by
 refine ⟨E,N,rv,_,f',rfl,rfl,rfl,rfl,Nums.le.refl N,hN,?_,hr,hpo,hx⟩
 have hrl:r<s.rg.length:=(List.getElem?_eq_some_iff.1 hg).1
 have hnd:∀ k o,(k=p.b∧p.o≤o∧o<p.o+p.x)→¬E.D k o:=fun k o ⟨e1,e2,e3⟩ hd=>by
  subst e1
  have:=h.dd r g p hg hp ho (o-p.o) (by omega)
  rw [show p.o+(o-p.o)=o by omega] at this
  exact this hd
 have keepD:∀ k o,E.D k o→(w'.cell? ⟨k,o,none⟩=w.cell? ⟨k,o,none⟩∧w'.frozen? ⟨k,o,none⟩=w.frozen? ⟨k,o,none⟩)∧objAt w' k=objAt w k:=fun k o hd=>by
  have hlt:=(h.dlt k o hd).lt
  obtain ⟨x,hx⟩:∃ x,w.heap[k]?=some x:=⟨_,Array.getElem?_eq_getElem hlt⟩
  cases x with
  | cells c e f =>
   obtain ⟨c',h1,h2,h3⟩:=hc.cells k c e f hx
   have h4:=h3 o (fun e=>hnd k o e hd)
   refine ⟨⟨by simp [World.cell?,hx,h1,h4],by simp [World.frozen?,hx,h1]⟩,by simp [objAt,hx,h1]⟩
  | _ =>
   have hne:∀ o',¬(k=p.b∧p.o≤o'∧o'<p.o+p.x):=fun o' ⟨e1,e2,e3⟩=>by
    have:=(h.room r g p hg hp ho (o'-p.o) (by omega)).1
    rw [←e1] at this
    simp [World.cell?,hx] at this
   have e:=hc.same k hlt hne
   exact ⟨⟨by unfold World.cell?;simp only [e],by unfold World.frozen?;simp only [e]⟩,objAt_same e⟩
 refine h.after (m':=E.im) (D':=E.D) (R':=E.R) hc (fun k o _ ⟨e1,e2,e3⟩=>.inl ⟨r,g,p,hg,hp,ho,e1,e2,e3⟩) ⟨fun _ _ _ h=>h,fun k o v hv=>?_,fun _ _ _ h=>.inl h⟩
  (fun k o hd=>⟨.inl hd,(h.dlt k o hd).of (fun hs=>by rw [(keepD k o hd).1.1];exact hs) (keepD k o hd).2⟩) h.loc (h.loc w w' keepD hc.size h.res) (by simp) (fun q x x' pq hq1 hq2 hpq=>?_)
 ·refine cell_of_chg hc (fun ⟨e1,e2,e3⟩=>?_) (h.imm k o v hv)
  have:=h.imd r g p hg hp ho (o-p.o) (by omega)
  rw [show p.o+(o-p.o)=o by omega,←e1,hv] at this
  cases this
 ·rcases get_set hrl hq2 with ⟨rfl,rfl⟩ | ⟨hi,hq2⟩
  ·rw [hg] at hq1;cases hq1
   rw [hp] at hpq;cases hpq
   exact ⟨rfl,rfl,fun e=>(by rw [ho] at e;cases e),fun _=>hl,.inr hcs⟩
  ·rw [hq1] at hq2;cases hq2
   refine ⟨rfl,rfl,fun _=>rfl,fun e=>h.ext q x pq hq1 hpq e,.inl ⟨rfl,fun j hj ⟨e1,e2,e3⟩=>?_⟩⟩
   have hw:j<x.wid pq:=by
    unfold Rg.wid
    cases hxo:x.own with
    | true=>have:=h.ext q x pq hq1 hpq hxo;simp;omega
    | false=>simpa using hj
   rcases h.disj r q g x p pq hg hp hq1 hpq ho (fun e=>hi e.symm) j hw e1 with h1 | h1<;>omega
theorem X.namesP {E:Ctx} {k:List It} {s:St} (P:Nums→Prop) (hP:∀ (N:Nums) (w:World),E.N0.le N→Sat E.toEnv N s.rg w→P N) (h:∀ N:Nums,E.N0.le N→N.length=s.rg.length→P N→X { E with N0:=N } k s):X E k s:=by
 refine X.conv fun N a w hN hf hS=>?_
 exact ⟨{ E with N0:=N },s,rfl,rfl,rfl,rfl,⟨N,Nums.le.refl _,hf,hS.env rfl rfl rfl rfl rfl⟩,h N hN hS.len (hP N w hN hS)⟩
def wpOpsI (P:Program) (ops:Array Oper) (I:World→Prop) (Q:Exit→Act→World→Prop):List Nat→Act→World→Prop
 | [],a,w=>Q .normal a w
 | z::zs,a,w=>wpOp P ops Q z (fun a' w'=>I w'∧wpOpsI P ops I Q zs a' w') a w
theorem tailI_sound {P:Program} {all:Array Oper} {Q:Exit→Act→World→Prop} {K:KW} {rg:List Rg} {Nf:Nums} {ks:List Nat}:∀ (zs:List Nat) (L:Array Bool) (a:Act) (w:World),L.size=all.size→tailOk all zs L=true→(∀ r,memN ks r=true→memN (wrL K L) r=true) →
  wpOpsI P all (fun w'=>Vis Nf (maskRg ks rg 0) w') Q zs a w→wpF P all Q (fun L=>Vis Nf (maskRg (wrL K L) rg 0)) zs.length L a w
 | [],L,a,w,_,h,_,hk=>wpF.done (by unfold tailOk at h;cases hr:Region.ready .any all L with | nil=>rfl | cons _ _=>rw [hr] at h;cases h) hk
 | z::zs,L,a,w,hn,h,hm,hk=>by
  simp only [tailOk,Bool.and_eq_true] at h
  have hr:=only_spec h.1
  have hrm:z∈Region.ready .any all L:=by rw [hr];simp
  have hlt:z<L.size:=by
   obtain ⟨_,o,ho,_⟩:=mem_ready.1 hrm
   rw [hn];exact (Array.getElem?_eq_some_iff.1 ho).1
  have hm':∀ r,memN ks r=true→memN (wrL K (L.setIfInBounds z true)) r=true:=fun r hr=>wrL_grow hlt (hm r hr)
  refine wpF.all hr (by simp) fun j hj=>?_
  simp only [List.mem_singleton] at hj;subst hj
  exact wpOp_mono (fun a' w' h'=>⟨h'.1.more hm',tailI_sound zs _ a' w' (by simpa using hn) h.2 hm' h'.2⟩) hk
theorem anyI_sound {E:Env} {T:Tab} (hT:TabOk E.P T) {all:Array Oper} (hsel:Region.noSelect all=true) {Q:Exit→Act→World→Prop} (hQ:PanicOk Q) {call:CallerP} (hc:CallerPOk E.P E.n all E.R E.im call) {oq:Orac} {N0:Nums} (hoq:OracOk E.P E.n all N0 oq) {K:KW} {rg:List Rg} {fin:St→Prop} {Nf:Nums} (wf:World) (hV:Vis Nf rg wf) {z:Nat} {zs:List Nat} {ks:List Nat} (hK:∀ r,memN ks r=true→memN (lookK K z) r=true):∀ (sch:Sch) (listed:Array Bool) {s:St} {N:Nums} {a:Act} {w:World},
  schPre all sch listed=true→tailOk all (z::zs) (schEnd sch listed)=true→listed.size=all.size→anyO oq T E.n all K rg call fin sch s→Nf.le N→N0.le N→FrOk E.n N s.fr a→Sat E N s.rg w→Agree (wrL K listed) rg s.rg→rg.length≤s.rg.length →
  (∀ s' N' a' w',fin s'→N.le N'→FrOk E.n N' s'.fr a'→Sat E N' s'.rg w'→wpOpsI E.P all (fun w'=>Vis Nf (maskRg ks rg 0) w') Q (z::zs) a' w')→wpF E.P all Q (fun L=>Vis Nf (maskRg (wrL K L) rg 0)) (sch.length+(zs.length+1)) listed a w:=by
 have emp:∀ {l:List Nat},l.isEmpty=true→l=[]:=by intro l h;cases l<;>simp at h ⊢
 have see:∀ (L:Array Bool) {N:Nums} {rg':List Rg} {w:World},Nf.le N→Agree (wrL K L) rg rg'→Sat E N rg' w→Vis Nf (maskRg (wrL K L) rg 0) w:=fun L _ _ _ hN ha hS=>vis_of_agree (hV.mask _) hN ha hS
 intro sch
 induction sch with
 | nil =>
  intro listed s N a w hs ht hn hg hN hN0 hf hS ha hl hk
  simp only [schEnd,tailOk,Bool.and_eq_true] at ht
  obtain ⟨hr,ht⟩:=ht
  have hr:=only_spec hr
  have hrm:z∈Region.ready .any all listed:=by rw [hr];simp
  have hlt:z<listed.size:=by
   obtain ⟨_,o,ho,_⟩:=mem_ready.1 hrm
   rw [hn];exact (Array.getElem?_eq_some_iff.1 ho).1
  have hset:(listed.setIfInBounds z true).getD z false=true:=by simp [hlt]
  have hall:∀ r,memN ks r=true→memN (wrL K (listed.setIfInBounds z true)) r=true:=fun r hr=>by
   obtain ⟨p,h1,h2,h3⟩:=lookK_mem (hK r hr)
   exact memN_flat.2 ⟨p,h1,by rw [h2];exact hset,h3⟩
  have hk':=hk s N a w hg (Nums.le.refl N) hf hS
  rw [List.length_nil,Nat.zero_add]
  refine wpF.all hr (by simp) fun j hj=>?_
  simp only [List.mem_singleton] at hj;subst hj
  exact wpOp_mono (fun a' w' h=>⟨h.1.more hall,tailI_sound zs _ a' w' (by simpa using hn) ht hall h.2⟩) hk'
 | cons p r ih =>
  obtain ⟨i,q⟩:=p
  intro listed s N a w hs ht hn hg hN hN0 hf hS ha hl hk
  have hS0:=see listed hN ha hS
  cases q with
  | some blk =>
   simp only [schPre,Bool.and_eq_true] at hs
   rw [List.length_cons,Nat.add_right_comm]
   simp only [schEnd] at ht
   obtain ⟨⟨⟨⟨hr,hfree⟩,hclosed⟩,hwithin⟩,hs⟩:=hs
   simp only [anyO] at hg
   obtain ⟨hqk,hg⟩:=hg
   have hqk:=quietK_spec hqk
   have hrm:i∈Region.ready .any all listed:=by simpa using hr
   have hi0:listed.getD i false=false:=by
    have h1:=(mem_ready.1 hrm).1
    rcases Nat.lt_or_ge i listed.size with h' | h'
    ·simp [h'] at h1 ⊢;exact h1
    ·rw [Array.getD_eq_getD_getElem?,Array.getElem?_eq_none h'];rfl
   have same:∀ (L:Array Bool) (r:Nat),memN (wrL K (L.setIfInBounds i true)) r=true↔memN (wrL K L) r=true:=fun L r=>by
    simp only [wrL,memN_flat]
    constructor
    ·rintro ⟨p,h1,h2,h3⟩
     exact ⟨p,h1,by rwa [getD_set_ne false (fun e=>hqk p h1 e.symm)] at h2,h3⟩
    ·rintro ⟨p,h1,h2,h3⟩
     exact ⟨p,h1,by rwa [getD_set_ne false (fun e=>hqk p h1 e.symm)],h3⟩
   split at hg
   ·rename_i f hq
    obtain ⟨_,o,ho,_⟩:=mem_ready.1 hrm
    obtain ⟨hp,hg⟩:=hg
    -- whoever may have come up ahead of it is of blk
    have wide:∀ {L':Array Bool} {w':World},Up all i listed L'→Vis Nf (maskRg (wrL K L') rg 0) w'→Vis Nf (maskRg (flatK (memB blk) K) rg 0) w':=fun hup hv =>
     hv.more fun r hr=>by
      obtain ⟨p,h1,h2,h3⟩:=memN_flat.1 hr
      exact memN_flat.2 ⟨p,h1,(hup.within hclosed hn hi0 hwithin).2.2 _ h2,h3⟩
    obtain ⟨v,hv,hfr⟩:=hoq _ i _ _ _ _ _ _ _ ho hq hp hN0 hf ((wide .here hS0).mono hN)
    refine wpF.take ho hsel hfree hr (fun c a w h=>hQ c a o.dst v w h) (fun L w=>⟨fun h=>h.more fun r hr=>(same L r).1 hr,fun h=>h.more fun r hr=>(same L r).2 hr⟩) ?_ hS0
     (ih _ hs ht (by simpa using hn) hg hN hN0 hfr hS (fun r g hg hm=>ha r g hg (by
      cases hx:memN (wrL K listed) r with
      | true=>rw [(same listed r).2 hx] at hm;cases hm
      | false=>rfl)) hl hk)
    rcases hv with ⟨hw,hrun⟩ | ⟨hw,rfl⟩
    ·exact .inl ⟨hw,fun w ⟨L',hup,hw⟩=>hrun w ((wide hup hw).mono hN)⟩
    ·exact .inr ⟨hw,rfl⟩
   ·exact hg.elim
  | none =>
   simp only [schPre,Bool.and_eq_true] at hs
   rw [List.length_cons,Nat.add_right_comm]
   simp only [schEnd] at ht
   obtain ⟨hr,hs⟩:=hs
   have hr:=only_spec hr
   have hrm:i∈Region.ready .any all listed:=by rw [hr];simp
   have hlt:i<listed.size:=by
    obtain ⟨_,o,ho,_⟩:=mem_ready.1 hrm
    rw [hn];exact (Array.getElem?_eq_some_iff.1 ho).1
   have hset:(listed.setIfInBounds i true).getD i false=true:=by simp [hlt]
   have grow:∀ r,memN (wrL K listed) r=true→memN (wrL K (listed.setIfInBounds i true)) r=true:=fun r h=>by
    obtain ⟨p,h1,h2,h3⟩:=memN_flat.1 h
    refine memN_flat.2 ⟨p,h1,?_,h3⟩
    by_cases e:i=p.1
    ·rw [←e];exact hset
    ·rw [getD_set_ne false e];exact h2
   have own:∀ k,memN (lookK K i) k=true→memN (wrL K (listed.setIfInBounds i true)) k=true:=fun k hk=>by
    obtain ⟨p,h1,h2,h3⟩:=lookK_mem hk
    exact memN_flat.2 ⟨p,h1,by rw [h2];exact hset,h3⟩
   have ha1:Agree (wrL K (listed.setIfInBounds i true)) rg s.rg:=ha.mono fun r hr=>by
    cases hx:memN (wrL K listed) r with
    | true=>rw [grow r hx] at hr;cases hr
    | false=>rfl
   simp only [anyO] at hg
   split at hg
   ·rename_i f hq
    obtain ⟨_,o,ho,_⟩:=mem_ready.1 hrm
    obtain ⟨hp,hg⟩:=hg
    obtain ⟨v,hv,hfr⟩:=hoq _ i _ _ _ _ _ _ _ ho hq hp hN0 hf hS.vis
    refine wpF.all hr (by simp) fun j hj=>?_
    simp only [List.mem_singleton] at hj;subst hj
    unfold wpOp
    simp only [ho]
    have hnext:=ih _ hs ht (by simpa using hn) hg hN hN0 hfr hS ha1 hl hk
    rcases hv with ⟨hw,hrun⟩ | ⟨hw,rfl⟩
    ·rw [hw,if_pos rfl]
     exact .inl (wp_of_yields (.inl (hrun w hS.vis)) ⟨see _ hN ha1 hS,hnext⟩)
    ·rw [hw]
     exact ⟨see _ hN ha1 hS,hnext⟩
   ·split at hg
    ·rename_i s1 he
     obtain ⟨hm,hg2⟩:=hg
     have hoi:∃ o,all[i]?=some o:=by
      cases ho:all[i]? with
      | some o=>exact ⟨o,rfl⟩
      | none=>unfold opE at he;rw [nth_eq] at he;simp [ho] at he
     obtain ⟨o,ho⟩:=hoi
     obtain ⟨hw,N',x,w',h1,h2,h3,h4⟩:=opE_sound hT ho he hf hS
     obtain ⟨ha',hl'⟩:=stepE_agree ha1 hl (by cases hst:stR s.fr all i with | some k=>rw [hst] at hm;exact own k hm | none=>rfl) he
     refine wpF.all hr (by simp) fun j hj=>?_
     simp only [List.mem_singleton] at hj;subst hj
     unfold wpOp
     simp only [ho,hw,if_true]
     exact .inl (wp_of_yields h2 ⟨see _ (hN.trans h1) ha' h4,ih _ hs ht (by simpa using hn) hg2 (hN.trans h1) (hN0.trans h1) h3 h4 ha' hl' (fun s2 N2 a2 w2 hs2 hN2=>hk s2 N2 a2 w2 hs2 (h1.trans hN2))⟩)
    ·split at hg
     ·rename_i s1 ws p he
      obtain ⟨hp,hm,hg2⟩:=hg
      obtain ⟨h1,o,ho,h2⟩:=hc _ _ _ _ _ he hp
      obtain ⟨hw,h3⟩:=h2 E N a w rfl rfl rfl rfl hf hS
      refine wpF.all hr (by simp) fun j hj=>?_
      simp only [List.mem_singleton] at hj;subst hj
      unfold wpOp
      simp only [ho,hw,if_true]
      refine .inl (h3 _ _ fun N' x w' hN' hf' hS'=>?_)
      have ha':Agree (wrL K (listed.setIfInBounds j true)) rg s1.rg:=fun r g hg hr=>h1.agree r g (ha1 r g hg hr) (allN_spec hm r (by
       cases hx:memN (lookK K j) r with
       | true=>rw [own r hx] at hr;cases hr
       | false=>rfl))
      exact ⟨see _ (hN.trans hN') ha' hS',ih _ hs ht (by simpa using hn) hg2 (hN.trans hN') (hN0.trans hN') hf' hS' ha' (Nat.le_trans hl h1.len) (fun s2 N2 a2 w2 hs2 hN2=>hk s2 N2 a2 w2 hs2 (hN'.trans hN2))⟩
     ·exact hg.elim
def XI (rg0:List Rg) (ks:List Nat) (all:Array Oper) (k:List It):List Nat→Ctx→St→Prop
 | [],E,s=>X E k s
 | z::zs,E,s=>∀ (N:Nums) (a:Act) (w:World),E.N0.le N→FrOk E.n N s.fr a→Sat E.toEnv N s.rg w→wpOp E.P all (sem E.P E.B k E.Q) z (fun a' w'=>∃ (E':Ctx) (N':Nums) (s':St),E'.P=E.P∧E'.n=E.n∧E'.Q=E.Q∧E'.B=E.B∧N.le N'∧E'.N0.le N'∧FrOk E'.n N' s'.fr a'∧Sat E'.toEnv N' s'.rg w'∧Agree ks rg0 s'.rg∧XI rg0 ks all k zs E' s') a w
theorem XI.ops {rg0:List Rg} {ks:List Nat} {all:Array Oper} {k:List It} {Nf:Nums} {w0:World} (h0:Vis Nf (maskRg ks rg0 0) w0):∀ (zs:List Nat) (E:Ctx) (s:St),XI rg0 ks all k zs E s→∀ (N:Nums) (a:Act) (w:World),Nf.le N→E.N0.le N→FrOk E.n N s.fr a→Sat E.toEnv N s.rg w →
  wpOpsI E.P all (fun w'=>Vis Nf (maskRg ks rg0 0) w') (sem E.P E.B k E.Q) zs a w
 | [],E,s,h,N,a,w,_,hN,hf,hS=>h N a w hN hf hS
 | z::zs,E,s,h,N,a,w,hNf,hN,hf,hS=>by
  refine wpOp_mono (fun a' w' ⟨E',N',s',e1,e2,e3,e4,hN',hN0,hf',hS',ha,hx⟩=>⟨vis_of_agree h0 (hNf.trans hN') ha hS',?_⟩) (h N a w hN hf hS)
  have:=XI.ops h0 zs E' s' hx N' a' w' (hNf.trans hN') hN0 hf' hS'
  rw [e1,e3,e4] at this
  exact this
def drawnI (oq:Orac) (T:Tab) (n:Nat) (all:Array Oper) (call:CallerP) (ks:List Nat) (fin:St→Prop) (z:Nat) (sch:Sch) (s:St):Prop :=
 anyO oq T n all ((z,ks)::dryO oq T n all call sch s) s.rg call fin sch s
theorem drawnI_sound {E:Ctx} {T:Tab} (hT:TabOk E.P T) {id:Nat} {all:Array Oper} {call:CallerP} (hc:CallerPOk E.P E.n all E.R E.im call) {oq:Orac} {N0:Nums} (hoq:OracOk E.P E.n all N0 oq) {z:Nat} {zs:List Nat} {ks:List Nat} {sch sch2:Sch} (hok:anyOk all (sch++sch2)=true) (hz:tailOk all (z::zs) (schEnd sch (Array.replicate all.size false))=true) (hlz:sch2.length=zs.length+1) {k:List It} {s:St} (hN00:N0=E.N0) (hQ:PanicOk (sem E.P E.B k E.Q))
  (hd:drawnI oq T E.n all call ks (fun s'=>XI s.rg ks all k (z::zs) E s') z sch s) {N:Nums} {a:Act} {w:World} (hN0:N0.le N) (hf:FrOk E.n N s.fr a) (hS:Sat E.toEnv N s.rg w):(Code.region id all true).wp E.P (sem E.P E.B k E.Q) a w:=by
 have hS':Sat E.toEnv N s.rg { w with drawn:=w.drawn+1 }:=hS.drew
 simp only [anyOk,Bool.and_eq_true] at hok
 obtain ⟨⟨hn,hlen⟩,hsch⟩:=hok
 have hlen:=Nat.eq_of_beq_eq_true hlen
 have:=anyI_sound (E:=E.toEnv) hT hn hQ hc hoq _ hS'.vis (z:=z) (zs:=zs) (ks:=ks) (fun r hr=>by simp only [lookK,Nat.beq_refl,cond_true];exact hr) sch _ (schPre_of sch _ hsch) hz (by simp) hd (Nums.le.refl N) hN0 hf hS' (fun r g hg _=>hg) (Nat.le_refl _) (fun s' N' a' w' hx hN' hf' hS2=>XI.ops (hS'.vis.mask ks) _ E s' hx N' a' w' hN' (by rw [←hN00];exact hN0.trans hN') hf' hS2)
 rw [List.length_append,hlz] at hlen
 rw [hlen] at this
 exact wp_region_any hT.mixed this.any
theorem X.drawnI {P:Program} {fn:Func} {R:Ending→World→Prop} {W:World} {O:Nat→Nat→Prop} {im:Nat→Nat→Option Value} {D:Nat→Nat→Prop} {Rr:World→Prop} {N:Nums} {B:SchT} {T:Tab} (hT:TabOk P T) {id:Nat} {ops:Array Oper} {k:List It} {s:St} (call:CallerP) (ora:Nat→Fr→Option (Fr × Prop)) (z:Nat) (zs:List Nat) (ks:List Nat) {sch1:Sch} (j:Nat)
  (hl:lookS B id=some sch1) (hz:tailOk ops (z::zs) (schEnd (sch1.take j) (Array.replicate ops.size false))=true) (hj:(sch1.drop j).length=zs.length+1) (hc:CallerPOk P fn.ntmps ops Rr im call) (ho:OracOk P fn.ntmps ops N (fun _=>ora)) (n:Nat) (hn:fn.ntmps=n) (h:Eng.drawnI (oracQ ora T n ops) T n ops call ks (fun s'=>XI s.rg ks ops k (z::zs) (mkE P fn R W O im D Rr N B) s') z (sch1.take j) s):X (mkE P fn R W O im D Rr N B) (.code (.region id ops true)::k) s:=by
 subst hn
 intro N' a w hN hf hS
 show _→Code.wp _ _ _ _ _
 intro hreg
 simp only [regsB,hl] at hreg
 rw [←List.take_append_drop j sch1] at hreg
 exact drawnI_sound (E:=mkE P fn R W O im D Rr N B) hT hc (oracQ_ok hT ho) hreg hz hj rfl (PanicOk.sem (fun _ _ d _ _ h=>by cases d<;>exact h) k) h hN hf hS
section
variable {E:Ctx} {T:Tab} {all:Array Oper} {zs:List Nat} {k:List It} {s:St} {o:Oper} {f:Fr} {rg0:List Rg} {ks:List Nat}
def GoesI (rg0:List Rg) (ks:List Nat) (all:Array Oper) (k:List It) (zs:List Nat) (E:Ctx) (N:Nums) (f:Fr) (d:Option Nat) (v:Value) (w':World):Prop :=
 ∃ (E':Ctx) (N':Nums) (r:SV) (rg':List Rg) (f':Fr),E'.P=E.P∧E'.n=E.n∧E'.Q=E.Q∧E'.B=E.B∧N.le N'∧E'.N0.le N'∧Sat E'.toEnv N' rg' w'∧r.den N'=some v∧putO E.n f d (.val r)=some f'∧Agree ks rg0 rg'∧XI rg0 ks all k zs E' ⟨f',rg'⟩
theorem XI.call {z:Nat} {g:FuncId} {xs:Array Operand} {ts:Array TypeId} {l:List SV} (ho:nth all.toList z=some o) (hg:o.guard=none)
  (hop:o.op=.call { callee:=.value (.func g),args:=xs,argTypes:=ts }) (hl:evL s.fr xs.toList=some l) (hb:∀ args w,(callFunc g args).run E.P w=.ok (.enter g args) w)
  (h:∀ (N:Nums) (w:World) (args:List Value),E.N0.le N→Sat E.toEnv N s.rg w→SV.denL N l=some args →
   Calls E.P g args.toArray w fun e w'=>∃ v,e=.returned v∧GoesI rg0 ks all k zs E N s.fr o.dst v w'):XI rg0 ks all k (z::zs) E s:=by
 intro N a w hN hfr hS
 have ho':all[z]?=some o:=by rw [nth_eq] at ho;simpa using ho
 have hargs:=evL_sound hfr _ hl
 have hc:=h N w _ hN hS hargs
 have hrun:(execOp a.eval o).run E.P w=.ok (.enter g (xs.toList.map a.eval).toArray) w:=by
  simp only [execOp,hop,resolve,Act.eval,Deferred.ofValue,Sem.run_bind,Sem.run_pure,Result.andThen,invoke]
  rw [hb]
  congr 2
  apply Array.ext'
  simp
 unfold wpOp
 simp only [ho',Region.wanted,hg,if_true]
 refine .inl ?_
 unfold Oper.wp
 rw [hrun]
 refine Calls.mono hc fun e w' ⟨v,he,E',N',r,rg',f',h1,h2,h3,hB,h4,h5,h6,h7,h8,h9,h10⟩=>?_
 subst he
 exact ⟨E',N',⟨f',rg'⟩,h1,h2,h3,hB,h4,h5,by rw [h2];exact putO_sound (hfr.mono h4) h7 h8,h6,h9,h10⟩
theorem XI.step {z:Nat} (hT:TabOk E.P T) {f:Fr} (ho:opQ T E.n all s.rg z s.fr=some f) (ha:Agree ks rg0 s.rg) (h:XI rg0 ks all k zs E ⟨f,s.rg⟩):XI rg0 ks all k (z::zs) E s:=by
 intro N a w hN hfr hS
 obtain ⟨o,ho'⟩:∃ o,all[z]?=some o:=by
  cases hx:all[z]? with
  | some o=>exact ⟨o,rfl⟩
  | none=>unfold opQ at ho;rw [nth_eq] at ho;simp [hx] at ho
 obtain ⟨v,hv,hf'⟩:=opQ_sound hT ho' ho hfr hS.vis
 unfold wpOp
 simp only [ho']
 have hnext:∃ (E':Ctx) (N':Nums) (s':St),E'.P=E.P∧E'.n=E.n∧E'.Q=E.Q∧E'.B=E.B∧N.le N'∧E'.N0.le N'∧FrOk E'.n N' s'.fr (a.put o.dst v)∧Sat E'.toEnv N' s'.rg w∧Agree ks rg0 s'.rg∧XI rg0 ks all k zs E' s' :=
  ⟨E,N,⟨f,s.rg⟩,rfl,rfl,rfl,rfl,Nums.le.refl N,hN,hf',hS,ha,h⟩
 rcases hv with ⟨hw,hrun⟩ | ⟨hw,rfl⟩
 ·rw [hw,if_pos rfl]
  exact .inl (wp_of_yields (.inl (hrun w hS.vis)) hnext)
 ·rw [hw]
  exact hnext
def stepQ (o:Option Fr) (rg:List Rg) (fin:St→Prop):Prop:=match o with
 | some f=>fin ⟨f,rg⟩
 | none=>False
theorem XI.quiet {z:Nat} (hT:TabOk E.P T) (ha:Agree ks rg0 s.rg) (n:Nat) (hn:E.n=n) (h:stepQ (opQ T n all s.rg z s.fr) s.rg (fun s'=>XI rg0 ks all k zs E s')):XI rg0 ks all k (z::zs) E s:=by
 subst hn
 unfold stepQ at h
 split at h
 ·rename_i f hf
  exact XI.step hT hf ha h
 ·exact h.elim
theorem XI.done (h:X E k s):XI rg0 ks all k [] E s:=h
end
structure ValS where
 (j d:Nat) (r:SV) (pre:Fr→Prop)
def ValS.ok (ops:Array Oper) (q:ValS):Bool:=match nth ops.toList q.j with
 | some o=>(match o.dst with | some d=>Nat.beq d q.d | none=>false)
 | none=>false
theorem putAt_at {α:Type}:∀ (l:List α) (c:Nat) (s:α) (j:Nat),c<l.length→(putAt l c s)[j]?=if j=c then some s else l[j]?
 | [],_,_,_,h=>by simp at h
 | x::l,0,s,j,_=>by cases j<;>simp [putAt]
 | x::l,c+1,s,j,h=>by
  cases j with
  | zero=>simp [putAt]
  | succ j=>simp [putAt,putAt_at l c s j (by simpa using h)]
theorem setRow_at (l:List SV) (c:Nat) (r:List SV) (j:Nat) (h:c+r.length≤l.length):(setRow l c r)[j]?=if c≤j∧j<c+r.length then r[j-c]? else l[j]?:=by
 induction r generalizing l c with
 | nil=>simp [setRow];omega
 | cons s r ih =>
  simp only [List.length_cons] at h
  rw [setRow,ih _ _ (by rw [putAt_length _ _ _ (by omega)];omega),putAt_at _ _ _ _ (by omega)]
  simp only [List.length_cons]
  by_cases h1:c+1≤j∧j<c+1+r.length
  ·rw [if_pos h1,if_pos (by omega),show j-c=j-(c+1)+1 by omega,List.getElem?_cons_succ]
  ·rw [if_neg h1]
   by_cases h2:j=c
   ·subst h2;rw [if_pos rfl,if_pos (by omega)];simp
   ·rw [if_neg h2,if_neg (by omega)]
section
variable {E:Ctx} {T:Tab} {all:Array Oper} {z:Nat} {zs:List Nat} {k:List It} {s:St} {o:Oper} {f:Fr} {rg0:List Rg} {ks:List Nat}
theorem XI.value (ho:nth all.toList z=some o) (hg:o.guard=none) (r:SV) (hp:putO E.n s.fr o.dst (.val r)=some f)
  (h:∀ (N:Nums) (a:Act) (w:World),E.N0.le N→FrOk E.n N s.fr a→Sat E.toEnv N s.rg w→∃ x,r.den N=some x∧(execOp a.eval o).run E.P w=.ok (.value x) w) (ha:Agree ks rg0 s.rg)
  (hk:XI rg0 ks all k zs E ⟨f,s.rg⟩):XI rg0 ks all k (z::zs) E s:=by
 intro N a w hN hfr hS
 have ho':all[z]?=some o:=by rw [nth_eq] at ho;simpa using ho
 obtain ⟨x,h1,h2⟩:=h N a w hN hfr hS
 unfold wpOp
 simp only [ho',Region.wanted,hg,if_true]
 refine .inl ?_
 unfold Oper.wp
 rw [h2]
 exact ⟨E,N,⟨f,s.rg⟩,rfl,rfl,rfl,rfl,Nums.le.refl N,hN,putO_sound hfr h1 hp,hS,ha,hk⟩
theorem XI.opEq (hT:TabOk E.P T) {s1:St} (h:OpEq T E.n all z s s1) (ha:Agree ks rg0 s1.rg) (hk:XI rg0 ks all k zs E s1):XI rg0 ks all k (z::zs) E s:=by
 intro N a w hN hfr hS
 have hoi:∃ o,all[z]?=some o:=by
  cases ho:all[z]? with
  | some o=>exact ⟨o,rfl⟩
  | none=>have:=h.eq;unfold opE at this;rw [nth_eq] at this;simp [ho] at this
 obtain ⟨o,ho⟩:=hoi
 obtain ⟨hw,N',x,w',h1,h2,h3,h4⟩:=opE_sound hT ho h.eq hfr hS
 unfold wpOp
 simp only [ho,hw,if_true]
 exact .inl (wp_of_yields h2 ⟨E,N',s1,rfl,rfl,rfl,rfl,h1,hN.trans h1,h3,h4,ha,hk⟩)
end
structure ValR where
 (j d:Nat) (r:SV) (pre:List Rg→Fr→Prop)
def ValR.ok (ops:Array Oper) (q:ValR):Bool:=match nth ops.toList q.j with
 | some o=>(match o.dst with | some d=>Nat.beq d q.d | none=>false)
 | none=>false
theorem Sat.tail {E:Env} {p0:Num} {N:Nums} {g0:Rg} {rg:List Rg} {w:World} (h:Sat E (p0::N) (g0::rg) w) (hc:∀ g∈rg,∀ c∈g.cells,∀ v,c.den (p0::N)=some v→c.den N=some v) (hob:∀ g∈rg,g.ob=none):Sat E N rg w:=by
 have gs:∀ {r:Nat} {g:Rg},rg[r]?=some g→(g0::rg)[r+1]?=some g:=fun h=>by simpa using h
 have ns:∀ {r:Nat} {p:Num},N[r]?=some p→(p0::N)[r+1]?=some p:=fun h=>by simpa using h
 refine ⟨by have:=h.len;simpa using this,fun r p hp=>h.lt (r+1) p (ns hp),fun r g p hg hp j c hj=>?_,fun r g p hg hp=>h.ext (r+1) g p (gs hg) (ns hp),fun r g p hg hp=>h.room (r+1) g p (gs hg) (ns hp),
  fun r r' g g' p p' hg hp hg' hp' ho hne=>h.disj (r+1) (r'+1) g g' p p' (gs hg) (ns hp) (gs hg') (ns hp') ho (by omega),fun r g p ob hg hp ho=>?_,fun r r' g g' p p' hg hp hg' hp' ho _ _=>?_,h.imm,fun r g p hg hp=>h.imd (r+1) g p (gs hg) (ns hp),fun r g p hg hp=>h.dd (r+1) g p (gs hg) (ns hp),h.dlt,h.loc,h.res,h.chg,fun r g p hg hp=>h.foot (r+1) g p (gs hg) (ns hp)⟩
 ·obtain ⟨v,h1,h2⟩:=h.cell (r+1) g p (gs hg) (ns hp) j c hj
  exact ⟨v,hc g (List.mem_of_getElem? hg) c (List.mem_of_getElem? hj) v h1,h2⟩
 ·rw [hob g (List.mem_of_getElem? hg)] at ho;cases ho
 ·rw [hob g (List.mem_of_getElem? hg)] at ho;cases ho
def Sh (N N':Nums):Fr→Fr→Prop
 | [],[]=>True
 | (t,.val v)::f,(t',.val v')::f'=>t=t'∧(∀ x,v.den N=some x→v'.den N'=some x)∧Sh N N' f f'
 | _,_=>False
theorem Sh.look {N N':Nums}:∀ {f f':Fr},Sh N N' f f'→∀ t,look f t=look [] t∧look f' t=look [] t∨∃ v v',look f t=.val v∧look f' t=.val v'∧∀ x,v.den N=some x→v'.den N'=some x
 | [],[],_,t=>.inl ⟨rfl,rfl⟩
 | (t0,.val v)::f,(t1,.val v')::f',h,t=>by
  obtain ⟨rfl,h1,h2⟩:=h
  simp only [Eng.look]
  cases Nat.beq t0 t with
  | true=>exact .inr ⟨v,v',rfl,rfl,h1⟩
  | false=>exact Sh.look h2 t
 | [],_::_,h,_=>by simp [Sh] at h
 | _::_,[],h,_=>by simp [Sh] at h
 | (_,.dead)::_,_::_,h,_=>by simp [Sh] at h
 | (_,.opt _ _ _)::_,_::_,h,_=>by simp [Sh] at h
 | (_,.val _)::_,(_,.dead)::_,h,_=>by simp [Sh] at h
 | (_,.val _)::_,(_,.opt _ _ _)::_,h,_=>by simp [Sh] at h
theorem FrOk.sh {n:Nat} {N N':Nums} {f f':Fr} {a:Act} (h:FrOk n N f a) (hs:Sh N N' f f'):FrOk n N' f' a:=by
 refine ⟨h.size,h.defers,fun t=>?_⟩
 have hok:=h.ok t
 rcases hs.look t with ⟨h1,h2⟩ | ⟨v,v',h1,h2,h3⟩
 ·rw [h2];rw [h1] at hok
  exact hok
 ·rw [h2];rw [h1] at hok
  obtain ⟨x,k1,k2⟩:=hok
  exact ⟨x,h3 x k1,k2⟩
theorem X.shift {E:Ctx} {k:List It} (h0:E.N0=[]) {f:Fr} (f':Fr) {g0:Rg} {rg:List Rg} (hs:∀ p0 N,Sh (p0::N) N f f') (hc:∀ g∈rg,∀ c∈g.cells,∀ (p0:Num) (N:Nums) (v:Value),c.den (p0::N)=some v→c.den N=some v) (hob:∀ g∈rg,g.ob=none) (h:X E k ⟨f',rg⟩):X E k ⟨f,g0::rg⟩:=by
 refine X.conv fun N a w hN hf hS=>?_
 cases N with
 | nil=>have:=hS.len;simp at this
 | cons p0 N=>exact ⟨E,⟨f',rg⟩,rfl,rfl,rfl,rfl,⟨N,by rw [h0];exact fun r p h=>by simp at h,hf.sh (hs p0 N),hS.tail (fun g hg c hc' v=>hc g hg c hc' p0 N v) hob⟩,h⟩
inductive CK where
 | int (k:IntKind)
 | bool
 | str
 | slice (e:Nat)
 | ptr (e:Nat)
def Rd (P:Program) (w:World) (base:Nat) (t:Nat) (cs:List Value):Prop :=
 ∃ (H:Type) (enc:TypeId × Value→H) (sp:Nat→Bool) (held:Bool) (fuel:Nat) (x:DataW H × List MemPlace),DataW.trod enc P w base sp held fuel t cs=some x
def RdAt (P:Program) (w:World) (base:Nat) (b y:Nat) (e:Nat):Prop :=
 base≤b∧∃ cs,cs.length=P.cellsOf e∧(∀ (j:Nat) (v:Value),cs[j]?=some v→w.cell? ⟨b,y+j,none⟩=some v)∧Rd P w base e cs
def CellOk (P:Program) (w:World) (base:Nat):CK→Value→Prop
 | .int k,v=>∃ n,v=.int k n∧(Lit.int k n).wf=true
 | .bool,v=>∃ b,v=.bool b
 | .str,v=>∃ s,v=.string s∧s.size≤maxLen
 | .slice e,v=>∃ p n c,v=.slice p n c∧n≤c∧c≤maxLen∧(0<P.cellsOf e→0<n→∃ b x,p=some ⟨b,x,none⟩∧∀ i,i<n→RdAt P w base b (x+i*P.cellsOf e) e)
 | .ptr e,v=>∃ p,v=.pointer p∧(0<P.cellsOf e→∀ a,p=some a→∃ b x,a=⟨b,x,none⟩∧RdAt P w base b x e)
def CellsOk (P:Program) (w:World) (base:Nat):List CK→List Value→Prop
 | [],[]=>True
 | k::ks,v::vs=>CellOk P w base k v∧CellsOk P w base ks vs
 | _,_=>False
def kindsFs (P:Program) (sh:Nat→Option (List CK)):List Field→Nat→Option (List CK)
 | [],_=>some []
 | f::fs,o=>bif Nat.beq f.offset o then
   match sh f.type with
   | some s=>bif Nat.beq (P.cellsOf f.type) s.length then
     match kindsFs P sh fs (o+s.length) with
     | some r=>some (s++r)
     | none=>none
    else none
   | none=>none
  else none
def kindsOf (P:Program):Nat→Nat→Option (List CK)
 | 0,_=>none
 | m+1,t=>match P.underlying t with
  | some (.int k)=>some [.int k]
  | some .bool=>some [.bool]
  | some .string=>some [.str]
  | some (.slice e)=>some [.slice e]
  | some (.pointer e)=>some [.ptr e]
  | some (.struct fs)=>match kindsFs P (kindsOf P m) fs.toList 0 with
   | some s=>bif Nat.beq (P.cellsOf t) s.length then some s else none
   | none=>none
  | _=>none
theorem CellsOk.append {P:Program} {w:World} {base:Nat}:∀ {ks ls:List CK} {us vs:List Value},CellsOk P w base ks us→CellsOk P w base ls vs→CellsOk P w base (ks++ls) (us++vs)
 | [],_,[],_,_,h=>h
 | _::_,_,_::_,_,h,k=>⟨h.1,CellsOk.append h.2 k⟩
 | [],_,_::_,_,h,_=>h.elim
 | _::_,_,[],_,h,_=>h.elim
theorem spot_none {w:World} {a:Addr} {v:Value} (h:w.cell? a=some v):a=⟨a.block,a.off,none⟩:=by
 unfold World.cell? at h
 split at h
 ·split at h
  ·cases h
  ·rename_i hs
   obtain ⟨b,o,s⟩:=a
   cases s<;>simp_all
 ·cases h
theorem spot_row {w:World} {base:Nat} {a:Addr} {q:Nat} {cs:List Value} (hp:0<q) (h:w.cells? base a q=some cs):a=⟨a.block,a.off,none⟩:=by
 obtain ⟨_,h2,h3⟩:=World.cells?_some h
 have h30:=h3 0 hp
 have hlt:0<cs.length:=by omega
 rw [List.getElem?_eq_getElem hlt] at h30
 have:a.add 0=a:=by simp [Addr.add]
 rw [this] at h30
 exact spot_none h30
theorem add_plain (b o j:Nat):(Addr.mk b o none).add j=⟨b,o+j,none⟩:=by
 unfold Addr.add
 by_cases h:j=0
 ·subst h;simp
 ·simp [h]
theorem rdAt_of {P:Program} {w:World} {base:Nat} {b x e:Nat} {cs:List Value} (h:w.cells? base ⟨b,x,none⟩ (P.cellsOf e)=some cs) (hr:Rd P w base e cs):RdAt P w base b x e:=by
 obtain ⟨h1,h2,h3⟩:=World.cells?_some h
 refine ⟨h1,cs,h2,fun j v hj=>?_,hr⟩
 have hj':j<P.cellsOf e:=by rw [←h2];exact (List.getElem?_eq_some_iff.1 hj).1
 have:=h3 j hj'
 rw [add_plain] at this
 rw [this,hj]
theorem kindsFs_sound {P:Program} {w:World} {base:Nat} {sh:Nat→Option (List CK)} (ih:∀ t ks cs,sh t=some ks→Rd P w base t cs→CellsOk P w base ks cs) (all:List Value) :
  ∀ (fs:List Field) (o:Nat) (ks:List CK),kindsFs P sh fs o=some ks→(all.drop o).length=ks.length→(∀ f∈fs,Rd P w base f.type ((all.drop f.offset).take (P.cellsOf f.type)))→CellsOk P w base ks (all.drop o)
 | [],o,ks,h,hl,_=>by
  simp only [kindsFs,Option.some.injEq] at h;subst h
  have:all.drop o=[]:=List.eq_nil_of_length_eq_zero (by rw [hl];rfl)
  rw [this];trivial
 | f::fs,o,ks,h,hl,hr=>by
  simp only [kindsFs] at h
  cases hb:Nat.beq f.offset o with
  | false=>rw [hb] at h;simp at h
  | true =>
   rw [hb] at h
   simp only [cond_true] at h
   have hoff:=Nat.eq_of_beq_eq_true hb
   split at h
   ·rename_i s hs
    cases hc:Nat.beq (P.cellsOf f.type) s.length with
    | false=>rw [hc] at h;simp at h
    | true =>
     rw [hc] at h
     simp only [cond_true] at h
     have hsz:=Nat.eq_of_beq_eq_true hc
     split at h
     ·rename_i r hrr
      simp only [Option.some.injEq] at h;subst h
      rw [List.length_append] at hl
      have h1:=hr f List.mem_cons_self
      rw [hoff,hsz] at h1
      have k1:=ih _ _ _ hs h1
      have k2:=kindsFs_sound ih all fs (o+s.length) r hrr (by rw [List.length_drop] at hl ⊢;omega) (fun g hg=>hr g (List.mem_cons_of_mem _ hg))
      have hsplit:all.drop o=(all.drop o).take s.length++all.drop (o+s.length):=by
       rw [←List.drop_drop,List.take_append_drop]
      rw [hsplit]
      exact k1.append k2
     ·cases h
   ·cases h
theorem kindsOf_sound {P:Program} {w:World} {base:Nat}:∀ (m t:Nat) (ks:List CK) (cs:List Value),kindsOf P m t=some ks→Rd P w base t cs→CellsOk P w base ks cs:=by
 intro m
 induction m with
 | zero=>intro t ks cs h;simp [kindsOf] at h
 | succ m ih =>
  intro t ks cs h hr
  obtain ⟨H,enc,sp,held,fuel,x,hx⟩:=hr
  simp only [kindsOf] at h
  split at h
  ·rename_i k hu
   simp only [Option.some.injEq] at h;subst h
   obtain ⟨n,rfl,_,hw⟩:=DataW.trod_int hu hx
   exact ⟨⟨n,rfl,hw⟩,trivial⟩
  ·rename_i hu
   simp only [Option.some.injEq] at h;subst h
   obtain ⟨b,rfl,_⟩:=DataW.trod_bool hu hx
   exact ⟨⟨b,rfl⟩,trivial⟩
  ·rename_i hu
   simp only [Option.some.injEq] at h;subst h
   obtain ⟨s,rfl,_,hs⟩:=DataW.trod_string hu hx
   exact ⟨⟨s,rfl,hs⟩,trivial⟩
  ·rename_i e hu
   simp only [Option.some.injEq] at h;subst h
   rcases Go.Deep.open_slice hu hx with ⟨rfl,_⟩ | ⟨a,len,cap,m',n,D,Pl,rfl,hb,hl,hm,hm',_,hel⟩
   ·exact ⟨⟨none,0,0,rfl,Nat.le_refl _,Nat.zero_le _,fun _ h=>absurd h (by omega)⟩,trivial⟩
   ·refine ⟨⟨some a,len,cap,rfl,hl,hm,fun hp hn=>?_⟩,trivial⟩
    have hle:len≤m':=by rw [hm'];split<;>omega
    obtain ⟨cs0,h0,_⟩:=hel 0 (by omega)
    have ha:a.add (0*P.cellsOf e)=a:=by simp [Addr.add]
    rw [ha] at h0
    have hs:=spot_row hp h0
    refine ⟨a.block,a.off,by rw [←hs],fun i hi=>?_⟩
    obtain ⟨cs',h1,h2⟩:=hel i (by omega)
    rw [hs,add_plain] at h1
    exact rdAt_of h1 ⟨H,enc,sp,held,n,_,h2⟩
  ·rename_i e hu
   simp only [Option.some.injEq] at h;subst h
   rcases DataW.trod_pointer hu hx with ⟨rfl,_⟩ | ⟨a,cs',y,n,_,rfl,_,hc,hy⟩
   ·exact ⟨⟨none,rfl,fun _ a h=>by cases h⟩,trivial⟩
   ·refine ⟨⟨some a,rfl,fun hp a' h=>?_⟩,trivial⟩
    cases h
    have hs:=spot_row hp hc
    refine ⟨a.block,a.off,hs,?_⟩
    rw [hs] at hc
    exact rdAt_of hc ⟨H,enc,sp,held,n,_,hy⟩
  ·rename_i fs hu
   split at h
   ·rename_i s hs
    cases hc:Nat.beq (P.cellsOf t) s.length with
    | false=>rw [hc] at h;simp at h
    | true =>
     rw [hc] at h
     simp only [cond_true,Option.some.injEq] at h;subst h
     have hsz:=Nat.eq_of_beq_eq_true hc
     obtain ⟨xs,n,_,_,hl,hxl,hel⟩:=DataW.trod_struct hu hx
     have:=kindsFs_sound (base:=base) ih cs fs.toList 0 s hs (by simp [hl,hsz]) (fun f hf=>by
      obtain ⟨i,hi⟩:=List.mem_iff_getElem?.1 hf
      have hi':fs[i]?=some f:=by simpa using hi
      have hlt:i<xs.length:=by rw [hxl];exact (Array.getElem?_eq_some_iff.1 hi').1
      have:=hel i f hi'
      rw [List.getElem?_eq_getElem hlt] at this
      exact ⟨H,enc,sp,held,n,_,this⟩)
     simpa using this
   ·cases h
  ·cases h
end Go.Eng
namespace Go.Eng
open Go.ChangeShapes Go.WideShapes Go.ChangeAt Go.RowKit
theorem Chg.below {w w':World} (h:Chg (fun _ _=>False) w w'):Below w.heap.size w w':=⟨h.os,h.tape,h.output,h.size,fun k hk=>h.same k hk (fun _ ho=>ho)⟩
section
variable {H:Type} {enc:TypeId × Value→H} {P:Program}
theorem trodAll_stays (hl:laidOutB P=true) {W W':World} {sp:Nat→Bool} (hb:Below W.heap.size W W'):∀ {ts:List TypeId} {vs:List Value} {ds:List (DataW H)} {ps:List MemPlace},DataW.TrodAll enc P W 0 (fun _=>true) true ts vs ds ps →
  (∀ t∈ts,P.readableRec t=true∧t<P.types.size)→(∀ p∈ps,p.block<W.heap.size)→(∀ p∈ps,sp p.block=true)→DataW.TrodAll enc P W' 0 sp true ts vs ds ps
 | [],[],[],_,h,_,_,_=>h
 | t::ts,v::vs,d::ds,ps,h,ht,hlt,hsp=>by
  obtain ⟨p,q,h1,h2,rfl⟩:=h
  refine ⟨p,q,?_,?_,rfl⟩
  ·exact WideElems.Trod_stays hl (ht t List.mem_cons_self).1 (ht t List.mem_cons_self).2 h1 (fun x hx=>hb.same (hlt x (by simp [hx]))) (fun x hx=>hsp x (by simp [hx]))
  ·exact trodAll_stays hl hb h2 (fun u hu=>ht u (List.mem_cons_of_mem _ hu)) (fun x hx=>hlt x (by simp [hx])) (fun x hx=>hsp x (by simp [hx]))
 | [],[],_::_,_,h,_,_,_=>h.elim
 | [],_::_,_,_,h,_,_,_=>h.elim
 | _::_,[],_,_,h,_,_,_=>h.elim
 | _::_,_::_,[],_,h,_,_,_=>h.elim
theorem law_post {f:Func} {s:ChangeSpec} {apart fresh handsOn again:Bool} {W W':World} {args:Array Value} {ds gs:List (DataW H)} {before:List MemPlace} {tb:TypeId} (hl:laidOutB P=true)
  (hW:DataW.Whole enc P f.params.toList s.vars apart W args.toList ds gs before) (hv:s.vars=[]) (hargs:(s.fn H (ds++gs)).args=ds) (hres:(s.fn H (ds++gs)).results=[.lit (.bool true)]) (hvars:(s.fn H (ds++gs)).vars=[])
  (hrt:f.resultTypes=#[tb]) (htb:P.underlying tb=some .bool) (hts:∀ t∈f.params.toList,P.readableRec t=true∧t<P.types.size) (hb:Below W.heap.size W W') :
  s.post enc P f apart fresh handsOn again W args (.bool true) W':=by
 have hlt:=hW.lt
 have hW0:=hW
 obtain ⟨p,q,hA,hV,rfl,hz,hn⟩:=hW
 rw [hv] at hV
 have hq:q=[]∧gs=[]:=by
  cases gs with
  | nil=>exact ⟨hV,rfl⟩
  | cons g gs=>exact hV.elim
 obtain ⟨rfl,rfl⟩:=hq
 have hr:∀ (b:Nat) (sp:Nat→Bool) (hd:Bool),DataW.TrodAll enc P W' b sp hd f.resultTypes.toList ((Value.bool true).resultList f.resultTypes.size) (s.fn H (ds++[])).results []:=by
  intro b sp hd
  rw [hrt,hres]
  exact trodAll_mk1 (shut_bool htb true)
 have ha:∀ sp:Nat→Bool,(∀ x∈p,sp x.block=true)→DataW.TrodAll enc P W' 0 sp true f.params.toList args.toList (s.fn H (ds++[])).args p:=by
  intro sp hsp
  rw [hargs]
  exact trodAll_stays hl hb hA hts (fun x hx=>hlt x (by simpa using hx)) hsp
 have hvv:∀ sp:Nat→Bool,DataW.TrodVars enc P W' sp s.vars (s.fn H (ds++[])).vars []:=by
  intro sp
  rw [hv,hvars]
  rfl
 refine ⟨ds,[],p++[],[],p,[],hW0,hr _ _ _,ha _ (fun x hx=>by simpa using hlt x (by simpa using hx)),hvv _,World.keptBut_mono (fun x hx=>⟨hx,.inr (by simpa using hx)⟩) (hb.frame _),fun _=>?_⟩
 refine ⟨?_,_,_,([]++p)++[],⟨[]++p,[],trodAll_append (ha _ (fun _ _=>rfl)) (hr _ _ _),hvv _,rfl,?_,?_⟩,?_⟩
 ·exact ok_one hrt rfl (okWide_bool_mk htb true)
 ·intro b off hp
  have hbl:b<W.heap.size:=hlt (.cell b off) (by simpa using hp)
  rw [hb.frozen (p:=⟨b,off,none⟩) hbl]
  exact hz b off (by simpa using hp)
 ·intro hap
  have:=hn hap
  simpa using this
 ·intro x hx _
  simpa using hx
def ArgOk (P:Program) (W:World) (t:Nat) (v:Value):Prop:=(∃ r base,Value.okWide P W r base t v)∧Rd P W 0 t v.cells.toList
theorem rd_all {W:World} {sp:Nat→Bool} {hd:Bool}:∀ {ts:List TypeId} {vs:List Value} {ds:List (DataW H)} {ps:List MemPlace},DataW.TrodAll enc P W 0 sp hd ts vs ds ps →
  ∀ (j:Nat) t v,ts[j]?=some t→vs[j]?=some v→Rd P W 0 t v.cells.toList
 | [],[],_,_,_,j,t,v,h,_=>by simp at h
 | t::ts,v::vs,d::ds,ps,h,j,t',v',ht,hv=>by
  obtain ⟨p,q,h1,h2,rfl⟩:=h
  cases j with
  | zero =>
   simp at ht hv;subst ht;subst hv
   obtain ⟨fuel,h⟩:=h1
   exact ⟨H,enc,_,_,fuel,_,h⟩
  | succ j=>exact rd_all h2 j t' v' (by simpa using ht) (by simpa using hv)
 | [],_::_,_,_,_,j,t,v,h,_=>by simp at h
 | _::_,[],_,_,_,j,t,v,_,h=>by simp at h
 | _::_,_::_,[],_,h,_,_,_,_,_=>h.elim
theorem trodAll_len {W:World} {sp:Nat→Bool} {hd:Bool}:∀ {ts:List TypeId} {vs:List Value} {ds:List (DataW H)} {ps:List MemPlace},DataW.TrodAll enc P W 0 sp hd ts vs ds ps→vs.length=ts.length∧ds.length=ts.length
 | [],[],[],_,_=>⟨rfl,rfl⟩
 | t::ts,v::vs,d::ds,ps,h=>by
  obtain ⟨p,q,_,h2,_⟩:=h
  have:=trodAll_len h2
  simp [this]
 | [],[],_::_,_,h=>h.elim
 | [],_::_,_,_,h=>h.elim
 | _::_,[],_,_,h=>h.elim
 | _::_,_::_,[],_,h=>h.elim
theorem ArgOk.int {W:World} {t:Nat} {k:IntKind} {v:Value} (h:ArgOk P W t v) (hu:P.underlying t=some (.int k)):∃ n,v=.int k n∧(Lit.int k n).wf=true:=by
 obtain ⟨⟨r,b,h1⟩,h2⟩:=h
 obtain ⟨n,rfl⟩:=okWide_int hu h1
 have:=kindsOf_sound 1 t [.int k] _ (by simp [kindsOf,hu]) h2
 obtain ⟨m,hm,hw⟩:=this.1
 simp at hm
 subst hm
 exact ⟨_,rfl,hw⟩
theorem ArgOk.bool {W:World} {t:Nat} {v:Value} (h:ArgOk P W t v) (hu:P.underlying t=some .bool):∃ b,v=.bool b :=
 let ⟨⟨_,_,h1⟩,_⟩:=h;okWide_bool hu h1
theorem ArgOk.slice {W:World} {t e:Nat} {v:Value} (h:ArgOk P W t v) (hu:P.underlying t=some (.slice e)):CellOk P W 0 (.slice e) v:=by
 obtain ⟨⟨r,b,h1⟩,h2⟩:=h
 obtain ⟨p,n,c,rfl⟩:=okWide_slice hu h1
 exact (kindsOf_sound 1 t [.slice e] _ (by simp [kindsOf,hu]) h2).1
theorem ArgOk.struct {W:World} {t m:Nat} {fs:Array Field} {ks:List CK} {v:Value} (h:ArgOk P W t v) (hu:P.underlying t=some (.struct fs)) (hk:kindsOf P m t=some ks):∃ cs:List Value,v=.agg cs.toArray∧CellsOk P W 0 ks cs:=by
 obtain ⟨⟨r,b,h1⟩,h2⟩:=h
 obtain ⟨cs,rfl,_⟩:=okWide_struct hu h1
 exact ⟨cs.toList,by simp,kindsOf_sound m t ks _ hk h2⟩
theorem CellsOk.cons {P:Program} {w:World} {base:Nat} {k:CK} {ks:List CK} {cs:List Value} (h:CellsOk P w base (k::ks) cs):∃ v vs,cs=v::vs∧CellOk P w base k v∧CellsOk P w base ks vs:=by
 cases cs with
 | nil=>exact h.elim
 | cons v vs=>exact ⟨v,vs,rfl,h.1,h.2⟩
theorem CellsOk.nil {P:Program} {w:World} {base:Nat} {cs:List Value} (h:CellsOk P w base [] cs):cs=[]:=by
 cases cs with
 | nil=>rfl
 | cons v vs=>exact h.elim
end
end Go.Eng
