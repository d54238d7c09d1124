import Derived.Test.YthpbefahaghbjaaGreatWa7
import Derived.Test.YthpbefahaghbjaaGreatRi5
import Derived.Test.YthpbefahaghbjaaGreatOb1
set_option maxHeartbeats 16000000
set_option maxRecDepth 100000
set_option cbv.maxSteps 100000000
namespace Go.Eng
open Go
def anyN (pe:PE) (pr:Owe→Prop) (fin:St→Prop) (td:List (Nat × SV)) (tx:List (Nat × Ef)) (T:Tab) (n:Nat) (all:Array Oper) (K:KW) (rg:List Rg) (hzs:List Nat) (H:Nat→STree→St→Prop):STree→St→Prop
 | .nil,s=>fin s
 | .q i blk r,s=>quietK K i=true∧match qP td T n all (maskRg (flatK (memB blk) K) rg 0) i s.fr with
  | some (f,o)=>prL pr o (anyN pe pr fin td tx T n all K rg hzs H r ⟨f,s.rg⟩)
  | none=>False
 | .one i r,s=>bif memN hzs i then H i r s else stepX pe pr td tx T n all K i (fun s'=>anyN pe pr fin td tx T n all K rg hzs H r s') s
 | .two i j x y,s=>(bif memN hzs i then H i x s else stepX pe pr td tx T n all K i (fun s'=>anyN pe pr fin td tx T n all K rg hzs H x s') s)∧(bif memN hzs j then H j y s else stepX pe pr td tx T n all K j (fun s'=>anyN pe pr fin td tx T n all K rg hzs H y s') s)
theorem anyN_sound {E:Env} {T:Tab} (hT:TabOk E.P T) {td:List (Nat × SV)} {tx:List (Nat × Ef)} {all:Array Oper} (hsel:Region.noSelect all=true) {Q:Exit→Act→World→Prop} (hQ:PanicOk Q) {N0:Nums} {K:KW} {rg:List Rg} {fin:St→Prop} {hzs:List Nat} {H:Nat→STree→St→Prop} {Nf:Nums} (wf:World) (hV:Vis Nf rg wf)
  (hH:∀ (m:Nat) (listed:Array Bool) (hz:Nat) (r:STree) {s:St} {N:Nums} {a:Act} {w:World},treeOk all r m (listed.setIfInBounds hz true)=true→hz∈Region.ready .any all listed→listed.size=all.size→H hz r s→Nf.le N→N0.le N→FrOk E.n N s.fr a→Sat E N s.rg w→Agree (wrL K (listed.setIfInBounds hz true)) rg s.rg→rg.length≤s.rg.length →
   wpOp E.P all Q hz (fun a' w'=>VI E.im Nf (maskRg (wrL K (listed.setIfInBounds hz true)) rg 0) w'∧wpF E.P all Q (fun L=>VI E.im Nf (maskRg (wrL K L) rg 0)) m (listed.setIfInBounds hz true) a' w') a w):∀ (t:STree) (m:Nat) (listed:Array Bool) {s:St} {N:Nums} {a:Act} {w:World},
  treeOk all t m listed=true→listed.size=all.size→anyN (EffOk E N0) (Owe.Ok E N0) fin td tx T E.n all K rg hzs H t s→Nf.le N→N0.le N→FrOk E.n N s.fr a→Sat E N s.rg w→Agree (wrL K listed) rg s.rg→rg.length≤s.rg.length →
  (∀ s' N' a' w',fin s'→N.le N'→FrOk E.n N' s'.fr a'→Sat E N' s'.rg w'→Q .normal a' w')→wpF E.P all Q (fun L=>VI E.im Nf (maskRg (wrL K L) rg 0)) m listed a w:=by
 have emp:∀ {l:List Nat},l.isEmpty=true→l=[]:=by intro l h;cases l<;>simp at h ⊢
 have see:∀ (L:Array Bool) {N:Nums} {rg':List Rg} {w:World},Nf.le N→Agree (wrL K L) rg rg'→Sat E N rg' w→VI E.im Nf (maskRg (wrL K L) rg 0) w:=fun L _ _ _ hN ha hS=>⟨vis_of_agree (hV.mask _) hN ha hS,hS.imm⟩
 -- one operation that is ready
 have step:∀ (m:Nat) (listed:Array Bool) (i:Nat) (c:St→Prop) {s:St} {N:Nums} {a:Act} {w:World},i∈Region.ready .any all listed→listed.size=all.size→stepX (EffOk E N0) (Owe.Ok E N0) td tx T E.n all K i c s→Nf.le N→N0.le N→FrOk E.n N s.fr a→Sat E N s.rg w→Agree (wrL K listed) rg s.rg→rg.length≤s.rg.length →
   (∀ s' N' a' w',c s'→N.le N'→FrOk E.n N' s'.fr a'→Sat E N' s'.rg w'→Agree (wrL K (listed.setIfInBounds i true)) rg s'.rg→rg.length≤s'.rg.length→wpF E.P all Q (fun L=>VI E.im Nf (maskRg (wrL K L) rg 0)) m (listed.setIfInBounds i true) a' w') →
   wpOp E.P all Q i (fun a' w'=>VI E.im Nf (maskRg (wrL K (listed.setIfInBounds i true)) rg 0) w'∧wpF E.P all Q (fun L=>VI E.im Nf (maskRg (wrL K L) rg 0)) m (listed.setIfInBounds i true) a' w') a w:=by
  intro m listed i c s N a w hrm hn hg hN hN0 hf hS ha hl hk
  have hlt:i<listed.size:=by
   obtain ⟨_,o,ho,_⟩:=mem_ready.1 hrm
   rw [hn];exact (Array.getElem?_eq_some_iff.1 ho).1
  have hset:(listed.setIfInBounds i true).getD i false=true:=by simp [hlt]
  have grow:∀ r,memN (wrL K listed) r=true→memN (wrL K (listed.setIfInBounds i true)) r=true:=fun r h=>by
   obtain ⟨p,h1,h2,h3⟩:=memN_flat.1 h
   refine memN_flat.2 ⟨p,h1,?_,h3⟩
   by_cases e:i=p.1
   ·rw [←e];exact hset
   ·rw [getD_set_ne false e];exact h2
  have own:∀ k,memN (lookK K i) k=true→memN (wrL K (listed.setIfInBounds i true)) k=true:=fun k hk=>by
   obtain ⟨p,h1,h2,h3⟩:=lookK_mem hk
   exact memN_flat.2 ⟨p,h1,by rw [h2];exact hset,h3⟩
  have ha1:Agree (wrL K (listed.setIfInBounds i true)) rg s.rg:=ha.mono fun r hr=>by
   cases hx:memN (wrL K listed) r with
   | true=>rw [grow r hx] at hr;cases hr
   | false=>rfl
  obtain ⟨_,o,ho,_⟩:=mem_ready.1 hrm
  unfold stepX at hg
  unfold wpOp
  simp only [ho]
  split at hg
  ·rename_i f op e hq
   obtain ⟨hmk,hob,hg⟩:=hg
   obtain ⟨hw,hx⟩:=effQ_sound ho hq hob hN0 hf hS
   obtain ⟨hk1,hk2⟩:=e.keeps s.rg
   have ha2:Agree (wrL K (listed.setIfInBounds i true)) rg (e.up s.rg):=fun r g hg hr=>hk1 r g (ha1 r g hg hr) (allN_spec hmk r (by
    cases hx:memN (lookK K i) r with
    | true=>rw [own r hx] at hr;cases hr
    | false=>rfl))
   rw [hw,if_pos rfl]
   exact .inl (hx _ _ fun N' x w' hN' hf' hS'=>⟨see _ (hN.trans hN') ha2 hS',hk _ N' _ w' hg hN' hf' hS' ha2 (Nat.le_trans hl hk2)⟩)
  unfold stepT at hg
  split at hg
  ·rename_i f ob hq
   obtain ⟨hob,hg⟩:=prL_spec hg
   obtain ⟨v,hv,hfr⟩:=qP_sound hT ho hq hob hN0 hf hS.vi
   have hnext:=hk _ N _ w hg (Nums.le.refl N) hfr hS ha1 hl
   rcases hv with ⟨hw,hrun⟩ | ⟨hw,rfl⟩
   ·rw [hw,if_pos rfl]
    exact .inl (wp_of_yields (.inl (hrun w hS.vi)) ⟨see _ hN ha1 hS,hnext⟩)
   ·rw [hw]
    exact ⟨see _ hN ha1 hS,hnext⟩
  ·split at hg
   ·rename_i s1 he
    obtain ⟨hmk,hg2⟩:=hg
    obtain ⟨hw,N',x,w',hN',hy,hf',hS'⟩:=opE_sound hT (by simpa using ho) he hf hS
    have ha2:=stepE_agree (ks:=wrL K (listed.setIfInBounds i true)) ha1 hl (by
     split
     ·rename_i k hk'
      rw [hk'] at hmk
      exact own k hmk
     ·rfl) he
    rw [hw,if_pos rfl]
    exact .inl (wp_of_yields hy ⟨see _ (hN.trans hN') ha2.1 hS',hk _ N' _ _ hg2 hN' hf' hS' ha2.1 ha2.2⟩)
   ·split at hg
    ·rename_i f gk g l v hpc
     obtain ⟨hob,hg⟩:=hg
     rcases pcall_sound ho hpc hob hN0 hf hS with ⟨hw,hx⟩ | ⟨hw,hf'⟩
     ·rw [hw,if_pos rfl]
      exact .inl (hx _ _ fun x w' hf' hS'=>⟨see _ hN ha1 hS',hk _ N _ w' hg (Nums.le.refl N) hf' hS' ha1 hl⟩)
     ·rw [hw]
      exact ⟨see _ hN ha1 hS,hk _ N _ w hg (Nums.le.refl N) hf' hS ha1 hl⟩
    ·exact hg.elim
 have grow0:∀ (listed:Array Bool) (i:Nat),i<listed.size→∀ r,memN (wrL K listed) r=true→memN (wrL K (listed.setIfInBounds i true)) r=true:=fun listed i hlt r h=>by
  obtain ⟨p,h1,h2,h3⟩:=memN_flat.1 h
  refine memN_flat.2 ⟨p,h1,?_,h3⟩
  by_cases e:i=p.1
  ·rw [←e];simp [hlt]
  ·rw [getD_set_ne false e];exact h2
 have hand:∀ (m:Nat) (listed:Array Bool) (i:Nat) (r:STree) (c:St→Prop) {s:St} {N:Nums} {a:Act} {w:World},i∈Region.ready .any all listed→listed.size=all.size→treeOk all r m (listed.setIfInBounds i true)=true→(bif memN hzs i then H i r s else stepX (EffOk E N0) (Owe.Ok E N0) td tx T E.n all K i c s)→Nf.le N→N0.le N→FrOk E.n N s.fr a→Sat E N s.rg w→Agree (wrL K listed) rg s.rg→rg.length≤s.rg.length →
   (∀ s' N' a' w',c s'→N.le N'→FrOk E.n N' s'.fr a'→Sat E N' s'.rg w'→Agree (wrL K (listed.setIfInBounds i true)) rg s'.rg→rg.length≤s'.rg.length→wpF E.P all Q (fun L=>VI E.im Nf (maskRg (wrL K L) rg 0)) m (listed.setIfInBounds i true) a' w') →
   wpOp E.P all Q i (fun a' w'=>VI E.im Nf (maskRg (wrL K (listed.setIfInBounds i true)) rg 0) w'∧wpF E.P all Q (fun L=>VI E.im Nf (maskRg (wrL K L) rg 0)) m (listed.setIfInBounds i true) a' w') a w:=by
  intro m listed i r c s N a w hrm hn ht hg hN hN0 hf hS ha hl hk
  cases hb:memN hzs i with
  | true =>
   rw [hb] at hg
   have hlt:i<listed.size:=by
    obtain ⟨_,o,ho,_⟩:=mem_ready.1 hrm
    rw [hn];exact (Array.getElem?_eq_some_iff.1 ho).1
   exact hH m listed i r ht hrm hn hg hN hN0 hf hS (ha.mono fun r hr=>by
    cases hx:memN (wrL K listed) r with
    | true=>rw [grow0 listed i hlt r hx] at hr;cases hr
    | false=>rfl) hl
  | false =>
   rw [hb] at hg
   exact step m listed i c hrm hn hg hN hN0 hf hS ha hl hk
 intro t
 induction t with
 | nil =>
  intro m listed s N a w hs hn hg hN hN0 hf hS ha hl hk
  simp only [treeOk,Bool.and_eq_true] at hs
  obtain rfl:=Nat.eq_of_beq_eq_true hs.1
  exact wpF.done (emp hs.2) (hk s N a w hg (Nums.le.refl N) hf hS)
 | q i blk r ih =>
  intro m listed s N a w hs hn hg hN hN0 hf hS ha hl hk
  cases m with
  | zero=>simp [treeOk] at hs
  | succ m =>
   have hS0:=see listed hN ha hS
   simp only [treeOk,Bool.and_eq_true] at hs
   obtain ⟨⟨⟨⟨hr,hfree⟩,hclosed⟩,hwithin⟩,hs⟩:=hs
   simp only [anyN] at hg
   obtain ⟨hqk,hg⟩:=hg
   have hqk:=quietK_spec hqk
   have hrm:i∈Region.ready .any all listed:=by simpa using hr
   have hi0:listed.getD i false=false:=by
    have h1:=(mem_ready.1 hrm).1
    rcases Nat.lt_or_ge i listed.size with h' | h'
    ·simp [h'] at h1 ⊢;exact h1
    ·rw [Array.getD_eq_getD_getElem?,Array.getElem?_eq_none h'];rfl
   have same:∀ (L:Array Bool) (r:Nat),memN (wrL K (L.setIfInBounds i true)) r=true↔memN (wrL K L) r=true:=fun L r=>by
    simp only [wrL,memN_flat]
    constructor
    ·rintro ⟨p,h1,h2,h3⟩
     exact ⟨p,h1,by rwa [getD_set_ne false (fun e=>hqk p h1 e.symm)] at h2,h3⟩
    ·rintro ⟨p,h1,h2,h3⟩
     exact ⟨p,h1,by rwa [getD_set_ne false (fun e=>hqk p h1 e.symm)],h3⟩
   split at hg
   ·rename_i f ob hq
    obtain ⟨_,o,ho,_⟩:=mem_ready.1 hrm
    obtain ⟨hob,hg⟩:=prL_spec hg
    have wide:∀ {L':Array Bool} {w':World},Up all i listed L'→VI E.im Nf (maskRg (wrL K L') rg 0) w'→VI E.im Nf (maskRg (flatK (memB blk) K) rg 0) w':=fun hup hv =>
     ⟨hv.1.more fun r hr=>by
      obtain ⟨p,h1,h2,h3⟩:=memN_flat.1 hr
      exact memN_flat.2 ⟨p,h1,(hup.within hclosed hn hi0 hwithin).2.2 _ h2,h3⟩,hv.2⟩
    obtain ⟨v,hv,hfr⟩:=qP_sound hT ho hq hob hN0 hf ((wide .here hS0).mono hN)
    refine wpF.take (S:=fun L=>VI E.im Nf (maskRg (wrL K L) rg 0)) ho hsel hfree hr (fun c a w h=>hQ c a o.dst v w h) (fun L w=>⟨fun h=>⟨h.1.more fun r hr=>(same L r).1 hr,h.2⟩,fun h=>⟨h.1.more fun r hr=>(same L r).2 hr,h.2⟩⟩) ?_ hS0
     (ih m _ hs (by simpa using hn) hg hN hN0 hfr hS (fun r g hg hm=>ha r g hg (by
      cases hx:memN (wrL K listed) r with
      | true=>rw [(same listed r).2 hx] at hm;cases hm
      | false=>rfl)) hl hk)
    rcases hv with ⟨hw,hrun⟩ | ⟨hw,rfl⟩
    ·exact .inl ⟨hw,fun w ⟨L',hup,hw⟩=>hrun w ((wide hup hw).mono hN)⟩
    ·exact .inr ⟨hw,rfl⟩
   ·exact hg.elim
 | one i r ih =>
  intro m listed s N a w hs hn hg hN hN0 hf hS ha hl hk
  cases m with
  | zero=>simp [treeOk] at hs
  | succ m =>
   simp only [treeOk,Bool.and_eq_true] at hs
   have hr:=only_spec hs.1
   refine wpF.all hr (by simp) fun j hj=>?_
   simp only [List.mem_singleton] at hj;subst hj
   simp only [anyN] at hg
   refine hand m listed j _ _ (by rw [hr];simp) hn hs.2 hg hN hN0 hf hS ha hl fun s' N' a' w' hc hN' hf' hS' ha' hl'=>?_
   exact ih m _ hs.2 (by simpa using hn) hc (hN.trans hN') (hN0.trans hN') hf' hS' ha' hl' fun s2 N2 a2 w2 h1 h2=>hk s2 N2 a2 w2 h1 (hN'.trans h2)
 | two i j x y ihx ihy =>
  intro m listed s N a w hs hn hg hN hN0 hf hS ha hl hk
  cases m with
  | zero=>simp [treeOk] at hs
  | succ m =>
   simp only [treeOk,Bool.and_eq_true] at hs
   obtain ⟨⟨h2,hx⟩,hy⟩:=hs
   have hr:=only2_spec h2
   have hmi:i∈Region.ready .any all listed:=by rcases hr with h | h<;>rw [h]<;>simp
   have hmj:j∈Region.ready .any all listed:=by rcases hr with h | h<;>rw [h]<;>simp
   simp only [anyN] at hg
   have si:=hand m listed i _ _ hmi hn hx hg.1 hN hN0 hf hS ha hl fun s' N' a' w' hc hN' hf' hS' ha' hl'=>ihx m _ hx (by simpa using hn) hc (hN.trans hN') (hN0.trans hN') hf' hS' ha' hl' fun s2 N2 a2 w2 h1 h2=>hk s2 N2 a2 w2 h1 (hN'.trans h2)
   have sj:=hand m listed j _ _ hmj hn hy hg.2 hN hN0 hf hS ha hl fun s' N' a' w' hc hN' hf' hS' ha' hl'=>ihy m _ hy (by simpa using hn) hc (hN.trans hN') (hN0.trans hN') hf' hS' ha' hl' fun s2 N2 a2 w2 h1 h2=>hk s2 N2 a2 w2 h1 (hN'.trans h2)
   rcases hr with h | h
   ·exact wpF.all h (by simp) fun q hq=>by
     simp only [List.mem_cons,List.not_mem_nil,or_false] at hq
     rcases hq with rfl | rfl
     ·exact si
     ·exact sj
   ·exact wpF.all h (by simp) fun q hq=>by
     simp only [List.mem_cons,List.not_mem_nil,or_false] at hq
     rcases hq with rfl | rfl
     ·exact sj
     ·exact si
def HandN (P:Program) (n:Nat) (B:SchT) (Q:Exit→Act→World→Prop) (k:List It) (T:Tab) (all:Array Oper) (K:KW) (rg:List Rg) (hzs:List Nat):Nat→Ctx→Nat→STree→St→Prop
 | 0,_,_,_,_=>False
 | d+1,E,hz,r,s=>∃ (o:Oper) (g:FuncId) (xs:Array Operand) (ts:Array TypeId) (l:List SV),nth all.toList hz=some o∧o.guard=none∧o.op=.call { callee:=.value (.func g),args:=xs,argTypes:=ts }∧evL s.fr xs.toList=some l∧(∀ args w,(callFunc g args).run P w=.ok (.enter g args) w) ∧
  ∀ (N:Nums) (w:World) (args:List Value),E.N0.le N→Sat E.toEnv N s.rg w→SV.denL N l=some args→Calls P g args.toArray w fun e w'=>∃ v,e=.returned v ∧
   ∃ (E':Ctx) (rv:SV) (f':Fr) (td:List (Nat × SV)) (tx:List (Nat × Ef)),E'.P=P∧E'.n=n∧E'.B=B∧E'.Q=Q∧(∀ k o v,E.im k o=some v→E'.im k o=some v)∧E'.N0.le N∧Sat E'.toEnv N s.rg w'∧rv.den N=some v∧putO n s.fr o.dst (.val rv)=some f' ∧
    ∀ (pr:Owe→Prop) (pe:PE) (fin:St→Prop) (H:Nat→STree→St→Prop),(∀ q:Owe,q.Ok E'.toEnv E'.N0→pr q)→(∀ rg f op r rg',EffOk E'.toEnv E'.N0 rg f op r rg'→pe rg f op r rg')→(∀ s',X E' k s'→fin s')→(∀ hz r s',HandN P n B Q k T all K rg hzs d E' hz r s'→H hz r s') →
     anyN pe pr fin td tx T n all K rg hzs H r ⟨f',s.rg⟩
theorem handN_sound {P:Program} {n:Nat} {B:SchT} {Q:Exit→Act→World→Prop} {k:List It} {T:Tab} (hT:TabOk P T) {all:Array Oper} (hsel:Region.noSelect all=true) {K:KW} {rg:List Rg} {hzs:List Nat} (hQ:PanicOk (sem P B k Q)) {Nf:Nums} (wf:World) (hV:Vis Nf rg wf) :
  ∀ (d:Nat) {E:Ctx} (m:Nat) (listed:Array Bool) (hz:Nat) (r:STree) {s:St} {N:Nums} {a:Act} {w:World},E.P=P→E.n=n→E.B=B→E.Q=Q→treeOk all r m (listed.setIfInBounds hz true)=true→hz∈Region.ready .any all listed→listed.size=all.size→HandN P n B Q k T all K rg hzs d E hz r s→Nf.le N→E.N0.le N→FrOk n N s.fr a→Sat E.toEnv N s.rg w →
   Agree (wrL K (listed.setIfInBounds hz true)) rg s.rg→rg.length≤s.rg.length →
   wpOp P all (sem P B k Q) hz (fun a' w'=>VI E.im Nf (maskRg (wrL K (listed.setIfInBounds hz true)) rg 0) w'∧wpF P all (sem P B k Q) (fun L=>VI E.im Nf (maskRg (wrL K L) rg 0)) m (listed.setIfInBounds hz true) a' w') a w
 | 0,_,_,_,_,_,_,_,_,_,_,_,_,_,_,_,_,hh,_,_,_,_,_,_=>hh.elim
 | d+1,E,m,listed,hz,r,s,N1,a1,w1,eP,en,eB,eQ,htr,hrm,hnl,hh,hNf,hN1,hf1,hS1,ha1,hl1=>by
  obtain ⟨o,g,xs,ts,l,ho,hgd,hop,hl,hb,hc⟩:=hh
  have ho':all[hz]?=some o:=by rw [nth_eq] at ho;simpa using ho
  have hargs:=evL_sound hf1 _ hl
  have hc:=hc N1 w1 _ hN1 hS1 hargs
  have hrun:(execOp a1.eval o).run P w1=.ok (.enter g (xs.toList.map a1.eval).toArray) w1:=by
   simp only [execOp,hop,resolve,Act.eval,Deferred.ofValue,Sem.run_bind,Sem.run_pure,Result.andThen,invoke]
   rw [hb]
   congr 2
   apply Array.ext'
   simp
  unfold wpOp
  simp only [ho']
  have hw:Region.wanted o (yielded all a1.tmps)=true:=by simp [Region.wanted,hgd]
  rw [hw,if_pos rfl]
  refine .inl ?_
  unfold Oper.wp
  rw [hrun]
  refine Calls.mono hc fun e w' ⟨v,he,hv⟩=>?_
  subst he
  obtain ⟨⟨⟨P2,n2,Q2,W2,O2,im2,D2,R2⟩,N2,B2⟩,rv,f',td2,tx2,e1,e2,e3,e4,him,hN0',hS2,hr,hp,hx⟩:=hv
  change P2=P at e1
  change n2=n at e2
  change B2=B at e3
  change Q2=Q at e4
  subst e1
  subst e2
  subst e3
  subst e4
  have hx:=hx (Owe.Ok ⟨P2,n2,Q2,W2,O2,im2,D2,R2⟩ N2) (EffOk ⟨P2,n2,Q2,W2,O2,im2,D2,R2⟩ N2) (fun s'=>X ⟨⟨P2,n2,Q2,W2,O2,im2,D2,R2⟩,N2,B2⟩ k s') _ (fun _ h=>h) (fun _ _ _ _ _ h=>h) (fun _ h=>h) (fun _ _ _ h=>h)
  have hf':FrOk n2 N1 f' (a1.put o.dst v):=putO_sound hf1 hr hp
  have hwf:=anyN_sound (E:=⟨P2,n2,Q2,W2,O2,im2,D2,R2⟩) hT hsel hQ wf hV (fun m' listed' hz' r' {s'} {N'} {a'} {w''} t1 t2 t3 t4 t5 t6 t7 t8 t9 t10=>handN_sound hT hsel hQ wf hV d (E:=⟨⟨P2,n2,Q2,W2,O2,im2,D2,R2⟩,N2,B2⟩) m' listed' hz' r' rfl rfl rfl rfl t1 t2 t3 t4 t5 t6 t7 t8 t9 t10) r m _ htr (by simpa using hnl) hx hNf hN0' hf' hS2 ha1 hl1 (fun s3 N3 a3 w3 h1 h2 h3 h4=>h1 N3 a3 w3 (hN0'.trans h2) h3 h4)
  exact ⟨⟨vis_of_agree (hV.mask _) hNf ha1 hS2,fun k o v h=>hS2.imm k o v (him k o v h)⟩,wpF.weak (fun L w h=>⟨h.1,fun k o v hk=>h.2 k o v (him k o v hk)⟩) m _ _ _ hwf⟩
theorem X.goN {P:Program} {fn:Func} {R:Ending→World→Prop} {W:World} {O:Nat→Nat→Prop} {im:Nat→Nat→Option Value} {D:Nat→Nat→Prop} {Rr:World→Prop} {N0:Nums} {B:SchT} {T:Tab} (d:Nat) (td:List (Nat × SV)) (tx:List (Nat × Ef)) (hT:TabOk P T) (t:STree) (n:Nat) (hzs:List Nat) (K:KW) {id:Nat} {ops:Array Oper} {k:List It} {s:St}
  (hn:fn.ntmps=n) (hsel:Region.noSelect ops=true) (ht:treeOk ops t ops.size (Array.replicate ops.size false)=true)
  (h:∀ (pr:Owe→Prop) (pe:PE) (fin:St→Prop) (H:Nat→STree→St→Prop),(∀ q:Owe,q.Ok (mkE P fn R W O im D Rr N0 B).toEnv N0→pr q)→(∀ rg f op r rg',EffOk (mkE P fn R W O im D Rr N0 B).toEnv N0 rg f op r rg'→pe rg f op r rg')→(∀ s',X (mkE P fn R W O im D Rr N0 B) k s'→fin s') →
   (∀ hz r s',HandN P n B (bodyPost P fn R) k T ops K s.rg hzs d (mkE P fn R W O im D Rr N0 B) hz r s'→H hz r s')→anyN pe pr fin td tx T n ops K s.rg hzs H t s):X (mkE P fn R W O im D Rr N0 B) (.code (.region id ops true)::k) s:=by
 subst hn
 intro N a w hN hf hS
 show _→Code.wp _ _ _ _ _
 intro _
 have hg:=h (Owe.Ok (mkE P fn R W O im D Rr N0 B).toEnv N0) (EffOk (mkE P fn R W O im D Rr N0 B).toEnv N0) (fun s'=>X (mkE P fn R W O im D Rr N0 B) k s') (HandN P fn.ntmps B (bodyPost P fn R) k T ops K s.rg hzs d (mkE P fn R W O im D Rr N0 B)) (fun _ h=>h) (fun _ _ _ _ _ h=>h) (fun _ h=>h) (fun _ _ _ h=>h)
 have hS':Sat (mkE P fn R W O im D Rr N0 B).toEnv N s.rg { w with drawn:=w.drawn+1 }:=hS.drew
 have hQ:=PanicOk.sem (P:=P) (B:=B) (Q:=bodyPost P fn R) (fun _ _ d _ _ h=>by cases d<;>exact h) k
 have hwf:=anyN_sound (E:=(mkE P fn R W O im D Rr N0 B).toEnv) hT hsel hQ _ hS'.vis (fun m' listed' hz' r' {s'} {N'} {a'} {w''} t1 t2 t3 t4 t5 t6 t7 t8 t9 t10=>handN_sound hT hsel hQ _ hS'.vis d (E:=mkE P fn R W O im D Rr N0 B) m' listed' hz' r' rfl rfl rfl rfl t1 t2 t3 t4 t5 t6 t7 t8 t9 t10) t _ _ ht (by simp) hg (Nums.le.refl N) hN hf hS' (fun r g hg _=>hg) (Nat.le_refl _) (fun s' N' a' w' h1 h2 h3 h4=>h1 N' a' w' (hN.trans h2) h3 h4)
 exact wp_region_any hT.mixed hwf.any
end Go.Eng
namespace Go.Proofs.YthpbefahaghbjaaGreat
open Go Go.Eng Go.ChangeShapes Go.WideShapes
def CloU (l:List Int) (w:World) (e:Ending) (w':World):Prop :=
 ∃ p c,e=.returned (.slice p l.length c)∧(∀ M:Mem,(∀ k o v,w.heap.size≤k→w'.cell? ⟨k,o,none⟩=some v→M k o=some v)→SlR M p c 1 (l.map u8D))∧Chg (fun _ _=>False) w w'
theorem cloneU_ok (l:List Int) (po:Option Addr) (co:Nat) (w:World) (hs:SlR (wm w) po co 1 (l.map u8D)) (hle:l.length≤1000):Calls Tryz.prog 21 #[.slice po l.length co] w (CloU l w):=by
 have hm:l.length≤maxLen:=hs.len
 cases po with
 | none =>
  have hl:l=[]:=by
   rcases hs.2 with h | ⟨b,y,h,_⟩
   ·simpa using h
   ·cases h
  subst hl
  exact (clone8_nil co w).mono fun e w' ⟨he,hc⟩=>⟨none,0,he,fun M _=>⟨⟨by simp,by simp⟩,.inl (by simp)⟩,hc⟩
 | some a =>
  refine (clone8_any (some a) l.length co l.toArray w (by simp) hle (SlR.inB hs fun _ _ _ h=>h)).mono fun e w' ⟨b,y,c,he,hb,hc,hA,hch⟩=>?_
  refine ⟨some ⟨b,y,none⟩,c,by simpa using he,fun M hM=>?_,hch⟩
  refine SlR.of (K:=1) (vss:=l.map fun z=>[Value.int .u8 z]) (by simpa using hc) hm (by simp) (fun i z hz=>⟨[.int .u8 z],by simp [hz],by simp [u8D,RepL,RepC]⟩) (fun h0=>⟨b,y,rfl,fun i vs hi j v hj=>?_⟩)
  rw [List.getElem?_map,Option.map_eq_some_iff] at hi
  obtain ⟨z,hz,rfl⟩:=hi
  have hil:=(List.getElem?_eq_some_iff.1 hz).1
  obtain rfl:j=0:=by have:=(List.getElem?_eq_some_iff.1 hj).1;simp at this;omega
  simp only [List.getElem?_cons_zero,Option.some.injEq] at hj
  subst hj
  refine hM _ _ _ (hb (by simpa using h0)) ?_
  have:=(hA i (by simpa using hil)).1
  rw [Nat.mul_one,Nat.add_zero,this]
  simp [(List.getElem?_eq_some_iff.1 hz).2,hil]
theorem saw_new (wm:WM) (s:WP) (n:Nat) (Mo:Mem) (w:World) (t:TelC) (x:TelP) (e0:EntP) (h:WatchAt wm s Mo w) (ok:s.Ok n) (hn:n≤1000) (ht:t.Of Mo x) (hx:x.Ok) (hc:x.cnt) (hp:s.pos x.key x.s.acc=none) (he0:e0=⟨x.key,x.s.acc,x.c,x.s.reg,0,false⟩) :
  Calls Tryz.prog 9 (sawA (wm.P 0).b (wm.P 0).o t) w (SawRet wm s (WP.told ⟨s.seen++[e0],s.l,s.all++[⟨x.key,x.s.acc,x.s.reg,x.at'⟩],s.torn⟩ s.seen.length e0 x) Mo w):=by
 obtain ⟨Q,hQ⟩:∃ Q:Ending→World→Prop,Q=SawRet wm s (WP.told ⟨s.seen++[e0],s.l,s.all++[⟨x.key,x.s.acc,x.s.reg,x.at'⟩],s.torn⟩ s.seen.length e0 x) Mo w:=⟨_,rfl⟩
 rw [←hQ]
 obtain ⟨e1,e2,e3,e4,e5,e6,e7,e8⟩:=ht.e
 have ho:=SlR.inB (w:=w) ht.o h.mo
 have hnw:=SlR.inB (w:=w) ht.n h.mo
 have hcc:((x.c.c.toNat:Nat):Int)=t.cc:=by rw [e2];exact Int.toNat_of_nonneg hx.c0
 obtain ⟨vl,l1,l2,l3,l4,l5⟩:=h.l.cells
 obtain ⟨va,a1,a2,a3,a4,a5⟩:=h.a.cells
 obtain ⟨gm,m1,m2,m3⟩:=h.mp
 obtain ⟨hd1,hd2⟩:=h.hd
 obtain ⟨i,hi⟩:∃ i,i=s.seen.length:=⟨_,rfl⟩
 obtain ⟨O,hOe⟩:∃ O:Nat→Nat→Prop,O=fun k o=>k=wm.m∨∃ r,(r<3∨r=3+i∧i<s.seen.length)∧inN (wm.P r) k o:=⟨_,rfl⟩
 have hO:∀ k o,O k o→k=wm.m∨∃ r,(r<3∨r=3+i∧i<s.seen.length)∧inN (wm.P r) k o:=fun k o ho=>by rw [hOe] at ho;exact ho
 have hO2:∀ r,r<3→∀ k o,inN (wm.P r) k o→O k o:=fun r hr k o hi=>by rw [hOe];exact .inr ⟨r,by omega,hi⟩
 have hOD:∀ k o,O k o→wm.D s.seen.length k o:=fun k o ho=>by
  rcases hO k o ho with e | ⟨r,hr,hi'⟩
  ·exact .inl e
  ·exact .inr ⟨r,by omega,hi'⟩
 obtain ⟨im,hime⟩:∃ im,im=outside O w:=⟨_,rfl⟩
 have hMi:∀ k o v,Mo k o=some v→im k o=some v:=fun k o v hk=>by
  rw [hime,outside_out (fun hd=>by rw [h.md k o (hOD k o hd)] at hk;cases hk)];exact h.mo k o v hk
 obtain ⟨sl,hsl⟩:∃ sl,sl=gV 1 s.l.length 13:=⟨_,rfl⟩
 obtain ⟨sa,hsa⟩:∃ sl,sl=gV 2 s.all.length 13:=⟨_,rfl⟩
 obtain ⟨cl,hcl⟩:∃ c,c=rawL vl.flatten:=⟨_,rfl⟩
 obtain ⟨ca,hca⟩:∃ c,c=rawL va.flatten:=⟨_,rfl⟩
 obtain ⟨tn,htn⟩:∃ b,b=s.torn:=⟨_,rfl⟩
 obtain ⟨N0,hN0⟩:∃ N,N=[wm.P 0,wm.P 1,wm.P 2]:=⟨_,rfl⟩
 have gV_den:∀ (N:Nums) (r n:Nat) (p:Num),N[r]?=some p→(gV r n 13).den N=some (gC p n):=fun N r n p hp=>by
  by_cases h0:n=0
  ·subst h0;simp [gV,gC,SV.den,one?]
  ·have hb:Nat.beq n 0=false:=by cases h:Nat.beq n 0 with | false=>rfl | true=>exact absurd (Nat.eq_of_beq_eq_true h) h0
   simp only [gV,hb,cond_false,SV.den,hp,Num.cap,gC,if_neg h0,Nat.add_zero,Nat.sub_zero]
 have hhd:SV.denL N0 [.raw (.map (some wm.m)),sl,sa,.bool (.v tn)]=some [.map (some wm.m),gC (wm.P 1) s.l.length,gC (wm.P 2) s.all.length,.bool s.torn]:=by
  simp only [SV.denL,hsl,hsa,htn,gV_den N0 1 s.l.length (wm.P 1) (by rw [hN0];rfl),gV_den N0 2 s.all.length (wm.P 2) (by rw [hN0];rfl)]
  rfl
 have hrg:AllR (RgAt w N0) N0 [⟨true,[.raw (.map (some wm.m)),sl,sa,.bool (.v tn)],none⟩,⟨true,cl,none⟩,⟨true,ca,none⟩]:=by
  rw [hN0]
  refine ⟨rgAt_of (h.room 0 (by omega)) hd2 (by rw [←hN0];exact hhd) hd1,rgAt_of (h.room 1 (by omega)) l3 (by rw [hcl];exact rawL_denL l5 _) (by rw [l4];exact h.l.1),rgAt_of (h.room 2 (by omega)) a3 (by rw [hca];exact rawL_denL a5 _) (by rw [a4];exact h.a.1),trivial⟩
 have hpr:PairR N0 [⟨true,[.raw (.map (some wm.m)),sl,sa,.bool (.v tn)],none⟩,⟨true,cl,none⟩,⟨true,ca,none⟩]:=by
  rw [hN0]
  have q:=fun r r' h1 h2 h3=>h.sep r r' h1 h2 h3
  exact ⟨⟨sepR_of rfl rfl (q 0 1 (by omega) (by omega) (by omega)),sepR_of rfl rfl (q 0 2 (by omega) (by omega) (by omega)),trivial⟩,⟨sepR_of rfl rfl (q 1 2 (by omega) (by omega) (by omega)),trivial⟩,trivial,trivial⟩
 have hown:∀ (r:Nat) (g:Rg) (p:Num),([⟨true,[.raw (.map (some wm.m)),sl,sa,.bool (.v tn)],none⟩,⟨true,cl,none⟩,⟨true,ca,none⟩]:List Rg)[r]?=some g→N0[r]?=some p→∃ r',r'<3∧p=wm.P r':=fun r g p hg hp=>by
  rw [hN0] at hp
  match r,hp with
  | 0,hp=>cases hp;exact ⟨0,by omega,rfl⟩
  | 1,hp=>cases hp;exact ⟨1,by omega,rfl⟩
  | 2,hp=>cases hp;exact ⟨2,by omega,rfl⟩
  | r+3,hp=>simp at hp
 have hSt:Sat (mkE Tryz.prog Tryz.f9 Q w O im (fun k _=>k=wm.m) (MapK Tryz.prog placeT wm.m gm) N0 B9).toEnv N0 [⟨true,[.raw (.map (some wm.m)),sl,sa,.bool (.v tn)],none⟩,⟨true,cl,none⟩,⟨true,ca,none⟩] w:=by
  refine Sat.stdRR _ _ _ hrg hpr (fun k o e=>.inr (by subst e;exact m1.ob)) MapK.loc m1 (fun k o v hk=>?_) (fun r g p hg hp ho j hj=>?_) O (fun r g p hg hp ho j hj=>?_)
  ·rw [hime] at hk
   by_cases hd:O k o
   ·rw [outside_in hd] at hk;cases hk
   ·rw [outside_out hd] at hk;exact hk
  ·obtain ⟨r',h1,rfl⟩:=hown r g p hg hp
   have h2:inN (wm.P r') (wm.P r').b ((wm.P r').o+j):=⟨rfl,by omega,by omega⟩
   exact ⟨h.ne (by omega) h2,by rw [hime];exact outside_in (hO2 r' h1 _ _ h2)⟩
  ·obtain ⟨r',h1,rfl⟩:=hown r g p hg hp
   exact hO2 r' h1 _ _ ⟨rfl,by omega,by omega⟩
 obtain ⟨kl,hkl⟩:=placeKey hx.kw hx.a1 hx.a2 hx.a3
 have hkv:kvW x.key x.s.acc=.agg #[.int .u8 t.key,.int .u64 t.a1,.int .u8 t.a2,.int .u32 t.a3]:=by rw [e7,e5];rfl
 rw [hkv] at hkl
 have hgm:gm (.agg #[.int .u8 t.key,.int .u64 t.a1,.int .u8 t.a2,.int .u32 t.a3])=none:=by
  rw [←hkv];exact m3 _ _ hp
 have hP0:N0[0]?=some (wm.P 0):=by rw [hN0];rfl
 have hcR:=TelC.Of.conf ht
 have hn64:x.node.toNat<64:=by have:=hc.1;have:=hx.nd;omega
 have hndn:t.node=((x.node.toNat:Nat):Int):=by rw [e1];exact (Int.toNat_of_nonneg hx.nd).symm
 obtain ⟨t2,ht2⟩:∃ z,z=2 ^ x.node.toNat:=⟨_,rfl⟩
 have hp2:t2<2 ^ 64:=by rw [ht2];exact Nat.pow_lt_pow_right (by decide) hn64
 have hor:bitsI .or .u64 0 (t2:Int)=(t2:Int):=by
  have:=bits_or 0 t2 (by decide) hp2
  rw [Nat.zero_or] at this
  exact this
 obtain ⟨qb,hqb⟩:∃ b,b=B (x.c.quoW x.key t2):=⟨_,rfl⟩
 have hqb2:B (quoC x.c.c.toNat x.c.old.toArray x.c.new.toArray t.key t2)=qb:=by rw [e5];exact hqb.symm
 have hmay:=fun w1 (hi1:∀ k o v,im k o=some v→w1.cell? ⟨k,o,none⟩=some v)=>cmay_ok x.c.c.toNat t.op t.np x.c.old.length x.c.new.length t.oc t.nc x.c.old.toArray x.c.new.toArray w1 (by have:=hx.co.1;omega) (by have:=hx.cn.1;omega) (SlR.inB ht.o fun k o v hk=>hi1 _ _ _ (hMi _ _ _ hk)) (SlR.inB ht.n fun k o v hk=>hi1 _ _ _ (hMi _ _ _ hk)) (by simpa using hx.co.2) (by simpa using hx.cn.2)
 have hkvx:kvW x.key x.s.acc=.agg #[.int .u8 t.key,.int .u64 t.a1,.int .u8 t.a2,.int .u32 t.a3]:=hkv
 have hposn:∀ (j:Nat) (y:EntP),s.seen[j]?=some y→¬(y.key=x.key∧y.b=x.s.acc):=fun j y hj hz=>by
  unfold WP.pos at hp
  rw [List.findIdx?_eq_none_iff] at hp
  have:=hp y (List.mem_iff_getElem?.2 ⟨j,hj⟩)
  simp [EntP.at',hz] at this
 have hkvi:∀ (k1 k2:Int) (z1 z2:BalP),kvW k1 z1=kvW k2 z2→k1=k2∧z1=z2:=fun k1 k2 z1 z2 hz=>by
  obtain ⟨p1,p2,p3⟩:=z1
  obtain ⟨r1,r2,r3⟩:=z2
  simp only [kvW,Value.agg.injEq,Array.mk.injEq,List.cons.injEq,Value.int.injEq,true_and,and_true] at hz
  obtain ⟨k1,k2,k3,k4⟩:=hz
  exact ⟨k1,by rw [k2,k3,k4]⟩
 have finN:∀ (N:Nums) (w':World) (rg:List Rg) (im':Mem) (N1:Nums) (gm':Value→Option Value) (pt:Num) (rl:Nat) (sl':SV) (cl' ce newS:List SV) (pl:Num) (l':List VerP) (nd':Nat) (ag':Bool) (newV:List Value) (cv rv:List Value),Sat (mkE Tryz.prog Tryz.f9 Q w O im' (fun k _=>k=wm.m) (MapK Tryz.prog placeT wm.m gm') N1 B9).toEnv N rg w'→N[0]?=some (wm.P 0)→N[6]?=some pt→gm'=(fun q=>open Classical in if q=.agg #[.int .u8 t.key,.int .u64 t.a1,.int .u8 t.a2,.int .u32 t.a3] then some (ptrN pt) else gm q) →
   0<rl→rl≠8→rl≠6→rg[0]?=some ⟨true,[.raw (.map (some wm.m)),sl',.osl 8 0 (s.all.length+1) 13 none,.bool (.v tn)],none⟩→rg[rl]?=some ⟨true,cl',none⟩→N[rl]?=some pl→rg[8]?=some ⟨true,ca++newS,none⟩→rg[6]?=some ⟨true,ce,none⟩→sl'.den N=some (gC pl l'.length)→(∀ M:Mem,(∀ k o v,Mo k o=some v→M k o=some v)→(∀ k o v,w.heap.size≤k→im' k o=some v→M k o=some v)→RowsW M pl l' w') →
   SV.denL N newS=some newV→newV.length=13→(∀ M:Mem,(∀ k o v,Mo k o=some v→M k o=some v)→(∀ k o v,w.heap.size≤k→im' k o=some v→M k o=some v)→RepL M (VerP.toD ⟨x.key,x.s.acc,x.s.reg,x.at'⟩) newV)→(∀ M:Mem,(∀ k o v,Mo k o=some v→M k o=some v)→(∀ k o v,w.heap.size≤k→im' k o=some v→M k o=some v)→RepL M x.c.toD cv∧RepL M x.s.reg.toD rv) →
   SV.denL N ce=some (cv++(rv++[.int .u64 nd',.bool ag']))→SawRet wm s ⟨s.seen++[⟨x.key,x.s.acc,x.c,x.s.reg,nd',ag'⟩],l',s.all++[⟨x.key,x.s.acc,x.s.reg,x.at'⟩],tn⟩ Mo w (.returned (.tuple #[])) w':=by
  intro N w' rg im' N1 gm' pt rl sl' cl' ce newS pl l' nd' ag' newV cv rv hS q0 q6 hgm' z1 z2 z3 k0 k1 q1 k8 k6 hdl hrows hnd hnl hrepA hent kd
  obtain ⟨pa,q8⟩:∃ p,N[8]?=some p:=⟨_,List.getElem?_eq_getElem (by rw [hS.len];exact (List.getElem?_eq_some_iff.1 k8).1)⟩
  obtain ⟨Mo',c⟩:=saw_core h hS i (s.seen.length+1) (.inr ⟨hi,rfl⟩) hO rl 8 6 q0 q1 q8 q6 k0 k1 k8 k6 rfl rfl rfl rfl z1 (by omega) (by omega) z2 z3 (by omega)
  have hput2:∀ k o v,w.heap.size≤k→im' k o=some v→Mo' k o=some v:=fun k o v hk hv=>c.put k o v hk (fun hd=>by rw [c.imn k o hk hd] at hv;cases hv) (hS.imm k o v hv)
  have hcd:SV.denL N (ca++newS)=some (va.flatten++newV):=denL_append (by rw [hca];exact rawL_denL a5 _) hnd
  have hext:=hS.ext 8 _ pa k8 q8 rfl
  have hsz:(ca++newS).length=s.all.length*13+13:=by
   obtain ⟨y1,_⟩:=SV.denL_get _ hcd
   rw [←y1,List.length_append,a4,hnl]
  have hx6:=hS.ext 6 _ pt k6 q6 rfl
  obtain ⟨hcv,hrv⟩:=hent Mo' c.old hput2
  have hex:13≤pt.x:=by
   obtain ⟨y1,_⟩:=SV.denL_get _ kd
   rw [List.length_append,List.length_append,hcv.len,hrv.len] at y1
   have y1:13=ce.length:=y1
   simp only at hx6
   omega
  refine saw_end h c (by simp) (e':=⟨x.key,x.s.acc,x.c,x.s.reg,nd',ag'⟩) (by simp [hi]) (fun j y e1 hj=>?_) (hasC_of hS k0 q0 ?_) (hrows Mo' c.old hput2) (.snoc a1 (fun j y hj=>by obtain ⟨vs,y1,y2⟩:=a2 j y hj;exact ⟨vs,y1,y2.mono c.old⟩) (hrepA Mo' c.old hput2) (hasC_of hS k8 q8 hcd) (by simp only at hext;omega)) ⟨hex,cv,rv,hcv,hrv,hasC_of hS k6 q6 kd⟩ ⟨gm',hS.res,fun j y hj=>?_,fun key b hpp=>?_⟩
  ·rw [List.getElem?_append] at hj
   split at hj
   ·exact hj
   ·have:=(List.getElem?_eq_some_iff.1 hj).1
    simp at this
    omega
  ·have hgc:gC pa (s.all++[(⟨x.key,x.s.acc,x.s.reg,x.at'⟩:VerP)]).length=.slice (some ⟨pa.b,pa.o,none⟩) (s.all.length+1) (pa.x / 13):=by simp [gC]
   simp only [SV.denL,hdl,SV.den,q8,Num.cap,hgc]
   rfl
  ·rw [hgm']
   simp only
   rw [List.getElem?_append] at hj
   split at hj
   ·rename_i hjl
    rw [if_neg (fun hz=>hposn j y hj (by rw [←hkvx] at hz;exact hkvi _ _ _ _ hz)),m2 j y hj]
    simp only [WM.put]
    rw [if_neg (by omega),if_neg (by omega),if_neg (by omega)]
   ·rename_i hjl
    have hj0:j-s.seen.length=0:=by
     have:=(List.getElem?_eq_some_iff.1 hj).1
     simp at this;omega
    rw [hj0] at hj
    simp at hj
    subst hj
    rw [if_pos hkvx]
    have:j=i:=by omega
    subst this
    simp only [WM.put]
    rw [if_neg (by omega),if_neg (by omega),if_pos trivial]
  ·unfold WP.pos at hpp
   rw [List.findIdx?_eq_none_iff] at hpp
   have h1:=hpp ⟨x.key,x.s.acc,x.c,x.s.reg,nd',ag'⟩ (by simp)
   rw [hgm']
   simp only
   rw [if_neg (fun hz=>by
    rw [←hkvx] at hz
    obtain ⟨z4,z5⟩:=hkvi _ _ _ _ hz
    simp [EntP.at',z4,z5] at h1)]
   refine m3 key b ?_
   unfold WP.pos
   rw [List.findIdx?_eq_none_iff]
   exact fun y hy=>hpp y (by simp [hy])
 obtain ⟨y1,y2,y3,y4,y5⟩:=hc
 rw [show (mayC x.c.c.toNat x.c.old.toArray x.c.new.toArray)=x.c.mayW from rfl,B_pos y5,hcc,←e3,←e4] at hmay
 obtain ⟨nd,cc,op,on,oc,np,nn,nc,ky,hs,s1,s2,s3,a1',a2',a3',⟨gk,gi,gs,gl,q1,q2,q3,q4,m1',m2',m3',m4',fa,fb,fc,fd⟩,ta⟩:=t
 refine X.beginRR (ss:=sawS (.own 0 0) ⟨nd,cc,op,on,oc,np,nn,nc,ky,hs,s1,s2,s3,a1',a2',a3',⟨gk,gi,gs,gl,q1,q2,q3,q4,m1',m2',m3',m4',fa,fb,fc,fd⟩,ta⟩) O (fun k _=>k=wm.m) (MapK Tryz.prog placeT wm.m gm) im Tryz.func9 rfl B9_ok rfl (by simp only [sawS,SV.denL,SV.den,hP0];rfl) hSt ?_
 simp only at e1 e2 e3 e4 e5 e6 e7 e8 hgm hndn hqb2 hcc
 have hnone:¬(a1'=0∧a2'=0∧a3'=0):=fun ⟨z1,z2,z3⟩=>y4 (by rw [e7,z1,z2,z3])
 refine X.goX ([(33,.bool (.lit false)),(37,.bool (.lit true))]) ([]) T9_ok 400 _ rfl Tryz.results9 (fun pr pe fin hpr hpe hfin=>?_)
 conv=>cbv
 refine ⟨hpr _ (.of Tryz.call19 [.agg #[.int .u64 a1',.int .u8 a2',.int .u32 a3']] (.bool false) (fun _=>rfl) (fun _=>rfl) fun _ w1 _=>by have:=none_ok a1' a2' a3' w1;rwa [decide_eq_false hnone] at this),hpr _ (.of Tryz.call20 [.agg _] (.bool true) (fun _=>rfl) (fun _=>rfl) fun _ w1 hi1=>hmay w1 hi1),hfin _ _ ?_⟩
 clear hpr hpe hfin
 refine X.cond rfl (fun hT=>?_) (fun hF=>?_)
 ·exfalso
  simp only [SB.T,SB.F,SI.den] at hT
  rw [e6,y3] at hT
  simp at hT
  omega
 clear hF
 refine X.goX ([]) ([(50,⟨fun _=>.tup [.raw (.pointer none),.bool (.lit false)],[],[]⟩)]) T9_ok 14 _ rfl Tryz.results9 (fun pr pe fin hpr hpe hfin=>?_)
 conv=>cbv
 refine ⟨hpe _ _ _ _ _ (EffOk.lookupK placeLaw Tryz.underlying58 (fun w=>Tryz.zeroValue65 w) rfl rfl (fun _=>rfl) hkl (fun _ h=>h) (fun N hN=>?_) ?_),hfin _ _ ?_⟩
 ·show _=some ((gm (.agg #[.int .u8 ky,.int .u64 a1',.int .u8 a2',.int .u32 a3'])).getD (.pointer none))
  rw [hgm]
  rfl
 ·show false=(gm (.agg #[.int .u8 ky,.int .u64 a1',.int .u8 a2',.int .u32 a3'])).isSome
  rw [hgm];rfl
 clear hpr hpe hfin
 -- the entry's data: three calls that make memory
 refine X.go T9_ok 400 _ rfl Tryz.results9 ?_
 conv=>arg 2;cbv
 refine X.goN 3 [] [] T9_ok (.q 0 [2,3,4,5,6,7,9,10,11] (.q 2 [0,1,5,6,9,10] (.q 5 [0,1,2,3,4,9,10] (.q 9 [0,1,2,3,4,5,6,7,8] (.q 1 [0,2,3,4,5,6,7,9,10,11] (.q 3 [0,1,2,5,6,9,10] (.q 6 [0,1,2,3,4,5,9,10] (.q 10 [0,1,2,3,4,5,6,7,8,9] (.one 4 (.one 7 (.q 8 [0,1,2,3,4,5,6,7,9,10,11] (.one 11 (.q 12 [0,1,2,3,4,5,6,7,8,9,10,11] (.one 13 (.q 14 [0,1,2,3,4,5,6,7,8,9,10,11,12,13] (.nil)))))))))))))))) 157 [4,7,11] [] rfl (by kernel_rfl) (by kernel_rfl) (fun pr pe fin H hpr hpe hfin hH=>?_)
 conv=>cbv
 refine hH _ _ _ ⟨_,_,_,_,_,rfl,rfl,rfl,rfl,Tryz.call21,fun N w1 args hN hS ha=>?_⟩
 obtain rfl:args=[.slice op on oc]:=(Option.some.inj ha).symm
 have hcl1:=cloneU_ok x.c.old op oc w1 (ht.o.mono fun k o v hk=>hS.imm _ _ _ (hMi _ _ _ hk)) (by have:=hx.co.1;omega)
 rw [←e3] at hcl1
 refine hcl1.mono fun ea w2 ⟨b1,c1,hea,hm1,hch⟩=>?_
 rw [←e3] at hea
 have hws1:w.heap.size≤w1.heap.size:=hS.chg.size
 obtain ⟨im1,him1e⟩:∃ z,z=imNew im w1 w2:=⟨_,rfl⟩
 have him1:∀ k o v,im k o=some v→im1 k o=some v:=fun k o v h=>by rw [him1e];exact imNew_old h
 have hfr1:∀ k o v,w1.heap.size≤k→w2.cell? ⟨k,o,none⟩=some v→im1 k o=some v:=fun k o v hk hc=>by rw [him1e];exact imNew_new (fun k o v h=>(hS.after0 hch).imm _ _ _ h) hk hc
 have hsl1:∀ M:Mem,(∀ k o v,w.heap.size≤k→im1 k o=some v→M k o=some v)→SlR M b1 c1 1 (x.c.old.map u8D):=fun M hM=>hm1 M fun k o v hk hc=>hM k o v (Nat.le_trans hws1 hk) (hfr1 k o v hk hc)
 refine ⟨_,hea,mkE Tryz.prog Tryz.f9 Q w O im1 (fun k _=>k=wm.m) (MapK Tryz.prog placeT wm.m gm) N0 B9,.slv b1 on c1,_,[],[],rfl,rfl,rfl,rfl,him1,hN,by rw [him1e];exact Sat.newMem hS (hS.after0 hch),rfl,rfl,fun pr pe fin H hpr hpe hfin hH=>?_⟩
 clear hea hm1 hch ha hS hfr1 him1e hcl1
 conv=>cbv
 refine hH _ _ _ ⟨_,_,_,_,_,rfl,rfl,rfl,rfl,Tryz.call21,fun N w1 args hN hS ha=>?_⟩
 obtain rfl:args=[.slice np nn nc]:=(Option.some.inj ha).symm
 have hcl2:=cloneU_ok x.c.new np nc w1 (ht.n.mono fun k o v hk=>hS.imm _ _ _ (him1 _ _ _ (hMi _ _ _ hk))) (by have:=hx.cn.1;omega)
 rw [←e4] at hcl2
 refine hcl2.mono fun ea w2 ⟨b2,c2,hea,hm2,hch⟩=>?_
 rw [←e4] at hea
 have hws2:w.heap.size≤w1.heap.size:=hS.chg.size
 obtain ⟨im2,him2e⟩:∃ z,z=imNew im1 w1 w2:=⟨_,rfl⟩
 have him2:∀ k o v,im1 k o=some v→im2 k o=some v:=fun k o v h=>by rw [him2e];exact imNew_old h
 have hfr2:∀ k o v,w1.heap.size≤k→w2.cell? ⟨k,o,none⟩=some v→im2 k o=some v:=fun k o v hk hc=>by rw [him2e];exact imNew_new (fun k o v h=>(hS.after0 hch).imm _ _ _ h) hk hc
 have hsl2:∀ M:Mem,(∀ k o v,w.heap.size≤k→im2 k o=some v→M k o=some v)→SlR M b2 c2 1 (x.c.new.map u8D):=fun M hM=>hm2 M fun k o v hk hc=>hM k o v (Nat.le_trans hws2 hk) (hfr2 k o v hk hc)
 refine ⟨_,hea,mkE Tryz.prog Tryz.f9 Q w O im2 (fun k _=>k=wm.m) (MapK Tryz.prog placeT wm.m gm) N0 B9,.slv b2 nn c2,_,[],[],rfl,rfl,rfl,rfl,him2,hN,by rw [him2e];exact Sat.newMem hS (hS.after0 hch),rfl,rfl,fun pr pe fin H hpr hpe hfin hH=>?_⟩
 clear hea hm2 hch ha hS hfr2 him2e hcl2
 conv=>cbv
 refine hH _ _ _ ⟨_,_,_,_,_,rfl,rfl,rfl,rfl,Tryz.call22,fun N w1 args hN hS ha=>?_⟩
 obtain rfl:args=[.agg (RegS.vals ⟨gk,gi,gs,gl,q1,q2,q3,q4,m1',m2',m3',m4',fa,fb,fc,fd⟩).toArray]:=(Option.some.inj ha).symm
 refine (regClone_ok x.s.reg _ Mo w1 (fun k o v hk=>hS.imm _ _ _ (him2 _ _ _ (him1 _ _ _ (hMi _ _ _ hk)))) ht.g hx.reg).mono fun ea w2 ⟨⟨vb,hea,hm3⟩,hch⟩=>?_
 obtain ⟨g3,rfl⟩:=RegS.of (hm3 (fun k o=>w2.cell? ⟨k,o,none⟩) (fun k o v hk=>(hS.after0 hch).imm _ _ _ (him2 _ _ _ (him1 _ _ _ (hMi _ _ _ hk)))) (fun k o v _ h=>h))
 obtain ⟨gk3,gi3,gs3,gl3,u1_3,u2_3,u3_3,u4_3,v1_3,v2_3,v3_3,v4_3,w1_3,w2_3,w3_3,w4_3⟩:=g3
 have hws3:w.heap.size≤w1.heap.size:=hS.chg.size
 obtain ⟨im3,him3e⟩:∃ z,z=imNew im2 w1 w2:=⟨_,rfl⟩
 have him3:∀ k o v,im2 k o=some v→im3 k o=some v:=fun k o v h=>by rw [him3e];exact imNew_old h
 have hfr3:∀ k o v,w1.heap.size≤k→w2.cell? ⟨k,o,none⟩=some v→im3 k o=some v:=fun k o v hk hc=>by rw [him3e];exact imNew_new (fun k o v h=>(hS.after0 hch).imm _ _ _ h) hk hc
 have hrg3:∀ M:Mem,(∀ k o v,Mo k o=some v→M k o=some v)→(∀ k o v,w.heap.size≤k→im3 k o=some v→M k o=some v)→RepL M x.s.reg.toD (RegS.vals ⟨gk3,gi3,gs3,gl3,u1_3,u2_3,u3_3,u4_3,v1_3,v2_3,v3_3,v4_3,w1_3,w2_3,w3_3,w4_3⟩):=fun M h1 h2=>hm3 M h1 fun k o v hk hc=>h2 k o v (Nat.le_trans hws3 hk) (hfr3 k o v hk hc)
 have hmm3:∀ o,im3 wm.m o=none:=fun o=>by
  cases hv:im3 wm.m o with
  | none=>rfl
  | some v =>
   have h1:=(Sat.newMem hS (hS.after0 hch)).imm _ _ _ (by rw [him3e] at hv;exact hv)
   obtain ⟨z,hz⟩:=Option.isSome_iff_exists.1 (MapK.ob (Sat.newMem hS (hS.after0 hch)).res)
   rw [cell_obj hz] at h1;cases h1
 refine ⟨_,hea,mkE Tryz.prog Tryz.f9 Q w O im3 (fun k _=>k=wm.m) (MapK Tryz.prog placeT wm.m gm) N0 B9,.agg (RegS.svs ⟨gk3,gi3,gs3,gl3,u1_3,u2_3,u3_3,u4_3,v1_3,v2_3,v3_3,v4_3,w1_3,w2_3,w3_3,w4_3⟩),_,[],[],rfl,rfl,rfl,rfl,him3,hN,by rw [him3e];exact Sat.newMem hS (hS.after0 hch),rfl,rfl,fun pr pe fin H hpr hpe hfin hH=>?_⟩
 clear hea hm3 hch ha hS hfr3 him3e
 conv=>cbv
 refine ⟨rfl,hfin _ ?_⟩
 clear hpr hpe hfin hH
 refine X.names fun N1 hN1 hNl1=>?_
 have hq0:=hN1 0 _ hP0
 obtain ⟨pt,hpt⟩:∃ p,N1[6]?=some p:=⟨_,List.getElem?_eq_getElem (by rw [hNl1];show 6<7;omega)⟩
 obtain ⟨gm',hgm'⟩:∃ g:Value→Option Value,g=fun q=>open Classical in if q=.agg #[.int .u8 ky,.int .u64 a1',.int .u8 a2',.int .u32 a3'] then some (ptrN pt) else gm q:=⟨_,rfl⟩
 show X (mkE Tryz.prog Tryz.f9 Q w O im3 (fun k _=>k=wm.m) (MapK Tryz.prog placeT wm.m gm) N1 B9) _ _
 refine X.go T9_ok 400 _ rfl Tryz.results9 ?_
 conv=>arg 2;cbv
 refine X.drawnL (fn:=Tryz.f9) T9_ok noCall (idxG 157 []) 6 [] 6 rfl (by kernel_rfl) rfl noCall_ok (idxG_ok _ (by kernel_rfl) (fun q hq=>by simp at hq)) 157 rfl ?_
 generalize hfin:(fun s'=>X (mkE Tryz.prog Tryz.f9 Q w O im3 (fun k _=>k=wm.m) (MapK Tryz.prog placeT wm.m gm) N1 B9) _ s')=fin
 conv=>cbv
 repeat (first | refine ⟨rfl,?_⟩ | refine ⟨⟨_,_,rfl,rfl⟩,?_⟩ | refine ⟨⟨rfl,_,_,rfl,rfl⟩,?_⟩)
 subst hfin
 refine X.mapPutK (MapK Tryz.prog placeT wm.m gm') gm placeLaw rfl rfl rfl Tryz.underlying58 rfl rfl (fun _=>rfl) hkl hgm rfl ⟨0,rfl⟩ (fun k o e=>.inr (by subst e;show O _ _;rw [hOe];exact .inl rfl)) (fun k o e=>by subst e;exact hmm3 o) (fun g hg=>by simp at hg;rcases hg with rfl | rfl | rfl | rfl | rfl | rfl | rfl<;>exact .inl rfl) MapK.loc (fun w h=>h) (fun N w2 c ob hN hS hc _ hM=>?_) rfl ?_
 ·have:=hN 6 _ hpt
  simp only [SV.den,this,Option.some.injEq] at hc
  rw [hgm',ptrN]
  rw [←hc] at hM
  exact hM
 show X (mkE Tryz.prog Tryz.f9 Q w O im3 (fun k _=>k=wm.m) (MapK Tryz.prog placeT wm.m gm') N1 B9) _ _
 refine X.go T9_ok 400 _ rfl Tryz.results9 ?_
 conv=>arg 2;cbv
 refine X.goH [] [] T9_ok (.q 0 [1,2,3,4,5,6,7,8,9,10,11,12,13,14] (.q 1 [0,5,6,7,8,9,10,11,12,13] (.q 2 [0,1,5,6,7,8,9,10,11,12,13] (.q 3 [0,1,2,5,6,7,8,9,10,11,12,13] (.q 5 [0,1,2,3,4,6,7,8,9,10,11] (.q 6 [0,1,2,3,4,5,8,9,10,11] (.q 8 [0,1,2,3,4,5,6,7,11] (.q 11 [0,1,2,3,4,5,6,7,8,9,10] (.q 4 [0,1,2,3,5,6,7,8,9,10,11,12,13] (.q 7 [0,1,2,3,4,5,6,8,9,10,11] (.one 9 (.one 10 (.q 12 [0,1,2,3,4,5,6,7,8,9,10,11] (.one 13 (.one 14 (.q 15 [0,1,2,3,4,5,6,7,8,9,10,11,12,13,14] (.q 16 [0,1,2,3,4,5,6,7,8,9,10,11,12,13,14,15] (.one 17 (.nil))))))))))))))))))) 157 10 [(14,[2]),(17,[0])] rfl (by kernel_rfl) (by kernel_rfl) (fun pr pe fin H hpr hpe hfin hH=>?_)
 conv=>cbv
 refine hH _ _ ⟨_,_,_,_,_,rfl,rfl,rfl,rfl,Tryz.call22,fun N w1 args hN hS ha=>?_⟩
 obtain rfl:args=[.agg (RegS.vals ⟨gk,gi,gs,gl,q1,q2,q3,q4,m1',m2',m3',m4',fa,fb,fc,fd⟩).toArray]:=(Option.some.inj ha).symm
 refine (regClone_ok x.s.reg _ Mo w1 (fun k o v hk=>hS.imm _ _ _ (him3 _ _ _ (him2 _ _ _ (him1 _ _ _ (hMi _ _ _ hk))))) ht.g hx.reg).mono fun ea w2 ⟨⟨vb,hea,hm4⟩,hch⟩=>?_
 obtain ⟨g4,rfl⟩:=RegS.of (hm4 (fun k o=>w2.cell? ⟨k,o,none⟩) (fun k o v hk=>(hS.after0 hch).imm _ _ _ (him3 _ _ _ (him2 _ _ _ (him1 _ _ _ (hMi _ _ _ hk))))) (fun k o v _ h=>h))
 obtain ⟨gk4,gi4,gs4,gl4,u1_4,u2_4,u3_4,u4_4,v1_4,v2_4,v3_4,v4_4,w1_4,w2_4,w3_4,w4_4⟩:=g4
 have hws4:w.heap.size≤w1.heap.size:=hS.chg.size
 obtain ⟨im4,him4e⟩:∃ z,z=imNew im3 w1 w2:=⟨_,rfl⟩
 have him4:∀ k o v,im3 k o=some v→im4 k o=some v:=fun k o v h=>by rw [him4e];exact imNew_old h
 have hfr4:∀ k o v,w1.heap.size≤k→w2.cell? ⟨k,o,none⟩=some v→im4 k o=some v:=fun k o v hk hc=>by rw [him4e];exact imNew_new (fun k o v h=>(hS.after0 hch).imm _ _ _ h) hk hc
 have hrep4:∀ M:Mem,(∀ k o v,Mo k o=some v→M k o=some v)→(∀ k o v,w.heap.size≤k→im4 k o=some v→M k o=some v)→RepL M (VerP.toD ⟨x.key,x.s.acc,x.s.reg,x.at'⟩) (.int .u8 ky::.int .u64 a1'::.int .u8 a2'::.int .u32 a3'::(RegS.vals ⟨gk4,gi4,gs4,gl4,u1_4,u2_4,u3_4,u4_4,v1_4,v2_4,v3_4,v4_4,w1_4,w2_4,w3_4,w4_4⟩++[.int .i64 ta])):=fun M h1 h2=>by
  have:=VerP.shut (x:=⟨ky,⟨a1',a2',a3'⟩,x.s.reg,ta⟩) (hm4 M h1 fun k o v hk hc=>h2 k o v (Nat.le_trans hws4 hk) (hfr4 k o v hk hc))
  rw [e7,←e5,←e8]
  exact this
 obtain ⟨nl4,hnl4⟩:∃ z,z=s.all.length+1:=⟨_,rfl⟩
 obtain ⟨c4,hc4⟩:∃ c,c=ca++[.int .u8 (.v ky),.int .u64 (.v a1'),.int .u8 (.v a2'),.int .u32 (.v a3'),.int .u8 (.v gk4),.int .u64 (.v gi4),.int .i64 (.v gs4),.slv u1_4 v1_4 w1_4,.slv u2_4 v2_4 w2_4,.slv u3_4 v3_4 w3_4,.int .u64 (.v gl4),.slv u4_4 v4_4 w4_4,.int .i64 (.v ta)]:=⟨_,rfl⟩
 refine ⟨_,hea,mkE Tryz.prog Tryz.f9 Q w O im4 (fun k _=>k=wm.m) (MapK Tryz.prog placeT wm.m gm') N1 B9,.agg (RegS.svs ⟨gk4,gi4,gs4,gl4,u1_4,u2_4,u3_4,u4_4,v1_4,v2_4,v3_4,v4_4,w1_4,w2_4,w3_4,w4_4⟩),_,[],[(89,⟨fun rg=>.osl rg.length 0 nl4 13 none,[(2,⟨false,[],none⟩)],[⟨true,c4,none⟩]⟩)],rfl,rfl,rfl,rfl,him4,hN,by rw [him4e];exact Sat.newMem hS (hS.after0 hch),rfl,rfl,fun pr pe fin hpr hpe hfin=>?_⟩
 clear hea hm4 hch ha hS hfr4 him4e
 conv=>cbv
 refine ⟨rfl,hpe _ _ _ _ _ (EffOk.appG (te:=ti49) (r:=2) (n:=s.all.length) (m:=1) (cs:=ca) (new:=[.int .u8 (.v ky),.int .u64 (.v a1'),.int .u8 (.v a2'),.int .u32 (.v a3'),.int .u8 (.v gk4),.int .u64 (.v gi4),.int .i64 (.v gs4),.slv u1_4 v1_4 w1_4,.slv u2_4 v2_4 w2_4,.slv u3_4 v3_4 w3_4,.int .u64 (.v gl4),.slv u4_4 v4_4 w4_4,.int .i64 (.v ta)]) T9_ok rfl hsa rfl rfl rfl rfl rfl (by rw [hca,rawL_len];exact a4) (by decide) (appSrc_row (g:=⟨true,[.int .u8 (.v ky),.int .u64 (.v a1'),.int .u8 (.v a2'),.int .u32 (.v a3'),.int .u8 (.v gk4),.int .u64 (.v gi4),.int .i64 (.v gs4),.slv u1_4 v1_4 w1_4,.slv u2_4 v2_4 w2_4,.slv u3_4 v3_4 w3_4,.int .u64 (.v gl4),.slv u4_4 v4_4 w4_4,.int .i64 (.v ta)],none⟩) rfl rfl rfl rfl) (appOk_ok (by decide) rfl rfl rfl (by show (2*(s.all.length+1)+256)*_≤_;simp only [ti49];have:=ok.a;omega) (by have:=ok.a;omega)) hnl4 hc4),rfl,hfin _ ?_⟩
 clear hpr hpe hfin hH
 show X (mkE Tryz.prog Tryz.f9 Q w O im4 (fun k _=>k=wm.m) (MapK Tryz.prog placeT wm.m gm') N1 B9) _ _
 have hconf4:∀ M:Mem,(∀ k o v,w.heap.size≤k→im4 k o=some v→M k o=some v)→RepL M x.c.toD [.int .u64 cc,.slice b1 on c1,.slice b2 nn c2]:=fun M hM=>by
  unfold ConfP.toD
  simp only [RepL]
  exact ⟨_,_,rfl,by rw [e2];simp only [RepC],_,_,rfl,RepC.mk (by rw [e3];simp) sz_u8 (hsl1 M fun k o v hk hv=>hM k o v hk (him4 _ _ _ (him3 _ _ _ (him2 _ _ _ hv)))),_,_,rfl,RepC.mk (by rw [e4];simp) sz_u8 (hsl2 M fun k o v hk hv=>hM k o v hk (him4 _ _ _ (him3 _ _ _ hv))),rfl⟩
 have hreg4:∀ M:Mem,(∀ k o v,Mo k o=some v→M k o=some v)→(∀ k o v,w.heap.size≤k→im4 k o=some v→M k o=some v)→RepL M x.s.reg.toD (RegS.vals ⟨gk3,gi3,gs3,gl3,u1_3,u2_3,u3_3,u4_3,v1_3,v2_3,v3_3,v4_3,w1_3,w2_3,w3_3,w4_3⟩):=fun M h1 h2=>hrg3 M h1 fun k o v hk hv=>h2 k o v hk (him4 _ _ _ hv)
 have hMi4:∀ k o v,Mo k o=some v→im4 k o=some v:=fun k o v hk=>him4 _ _ _ (him3 _ _ _ (him2 _ _ _ (him1 _ _ _ (hMi _ _ _ hk))))
 refine X.goX ([(97,.bool (.lit true)),(106,.bool (.lit true)),(121,.int .u64 (.nat t2)),(122,.int .u64 (.nat t2)),(134,.bool (.v qb))]) ([]) T9_ok 400 _ rfl Tryz.results9 (fun pr pe fin hpr hpe hfin=>?_)
 conv=>cbv
 refine ⟨hpr _ (.of Tryz.call23 [.agg _,.agg _] (.bool true) (fun _=>rfl) (fun _=>rfl) fun _ w1 hi1=>?_),hpr _ (.of Tryz.call24 [.agg _,.agg _] (.bool true) (fun _=>rfl) (fun _=>rfl) fun _ w1 hi1=>?_),hpr _ (by rw [ht2];exact vk_shl1 rfl rfl rfl rfl (fun _=>hndn) hn64),hpr _ (vk_bin rfl rfl rfl fun _ N v hv=>by rw [←hv];simp only [SV.den,bitsS_den,SI.den,hor]),hpr _ (.of Tryz.call25 [.agg _,.int .u8 ky,.int .u64 t2] (.bool qb) (fun _=>rfl) (fun _=>rfl) fun _ w1 hi1=>?_),hfin _ _ ?_⟩
 ·have:=confSame_ok x.c x.c _ _ w1 (hconf4 (Eng.wm w1) fun k o v _ hk=>hi1 _ _ _ hk) (hcR.mono fun k o v hk=>hi1 _ _ _ (hMi4 _ _ _ hk))
  rwa [B_pos rfl] at this
 ·have:=regSame_ok x.s.reg x.s.reg _ _ w1 (hreg4 (Eng.wm w1) (fun k o v hk=>hi1 _ _ _ (hMi4 _ _ _ hk)) fun k o v _ hk=>hi1 _ _ _ hk) (ht.g.mono fun k o v hk=>hi1 _ _ _ (hMi4 _ _ _ hk))
  rwa [B_pos rfl] at this
 ·have:=quorum_ok x.c.c.toNat t2 b1 b2 x.c.old.length x.c.new.length c1 c2 x.c.old.toArray x.c.new.toArray ky w1 hx.co.1 hx.cn.1 hp2 (SlR.inB (hsl1 im4 fun k o v _ hk=>him4 _ _ _ (him3 _ _ _ (him2 _ _ _ hk))) hi1) (SlR.inB (hsl2 im4 fun k o v _ hk=>him4 _ _ _ (him3 _ _ _ hk)) hi1) (by simpa using hx.co.2) (by simpa using hx.cn.2)
  rwa [hcc,←e3,←e4,hqb2] at this
 clear hpr hpe hfin
 have htold:∀ nd' ag' l',(ag'=true↔qb=true)→l'=(if qb=true then s.l++[(⟨x.key,x.s.acc,x.s.reg,x.at'⟩:VerP)] else s.l)→nd'=t2→WP.told ⟨s.seen++[e0],s.l,s.all++[⟨x.key,x.s.acc,x.s.reg,x.at'⟩],s.torn⟩ s.seen.length e0 x=⟨s.seen++[⟨x.key,x.s.acc,x.c,x.s.reg,nd',ag'⟩],l',s.all++[⟨x.key,x.s.acc,x.s.reg,x.at'⟩],tn⟩:=fun nd' ag' l' h1 h2 h3=>by
  subst h2 he0
  rw [h3]
  unfold WP.told
  rw [if_neg (by simp)]
  simp only [Nat.zero_or,←ht2]
  have hB:(s.torn || B (¬(True∧True)))=tn:=by rw [B_neg (by simp),Bool.or_false,htn]
  rw [hB]
  have h02:(0:Nat) ||| 2 ^ x.node.toNat=t2:=by rw [Nat.zero_or,ht2]
  by_cases hq:x.c.quoW x.key t2
  ·rw [if_pos (by rw [h02];exact hq),if_pos (by rw [hqb];exact B_pos hq)]
   rw [h1.2 (by rw [hqb];exact B_pos hq)]
   simp
  ·rw [if_neg (by rw [h02];exact hq),if_neg (by rw [hqb,B_neg hq];simp)]
   have:ag'=false:=by
    cases ag' with
    | false=>rfl
    | true=>have:=h1.1 rfl;rw [hqb,B_neg hq] at this;cases this
   rw [this]
   simp
 refine X.cond rfl (fun hQu=>?_) (fun hQu=>?_)
 ·simp only [SB.T] at hQu
  refine X.go T9_ok 400 _ rfl Tryz.results9 ?_
  conv=>arg 2;cbv
  obtain ⟨Mf,hMf⟩:∃ M:Mem,M=fun k o=>if w.heap.size≤k then im4 k o else Mo k o:=⟨_,rfl⟩
  have hMf1:∀ k o v,Mf k o=some v→im4 k o=some v:=fun k o v hk=>by
   rw [hMf] at hk
   simp only at hk
   split at hk
   ·exact hk
   ·exact hMi4 _ _ _ hk
  have hMf2:∀ k o v,Mo k o=some v→Mf k o=some v:=fun k o v hk=>by
   have:=World.block_lt_of_cell? _ _ (h.mo k o v hk)
   simp only at this
   rw [hMf]
   simp only
   rw [if_neg (by omega)]
   exact hk
  have hMf3:∀ k o v,w.heap.size≤k→im4 k o=some v→Mf k o=some v:=fun k o v h1 h2=>by
   rw [hMf]
   simp only
   rw [if_pos h1]
   exact h2
  have hMf4:∀ (M:Mem),(∀ k o v,Mo k o=some v→M k o=some v)→(∀ k o v,w.heap.size≤k→im4 k o=some v→M k o=some v)→∀ k o v,Mf k o=some v→M k o=some v:=fun M h1 h2 k o v hk=>by
   rw [hMf] at hk
   simp only at hk
   split at hk
   ·exact h2 k o v (by assumption) hk
   ·exact h1 k o v hk
  clear hMf
  refine X.goH [] [] T9_ok (.q 0 [1,2,3,4,5,6,7,8,9,10,11,12,13,14,15,16] (.q 1 [0,5,6,7,8,9,10,11,12,13,14,15] (.q 2 [0,1,5,6,7,8,9,10,11,12,13,14,15] (.q 3 [0,1,2,5,6,7,8,9,10,11,12,13,14,15] (.q 5 [0,1,2,3,4,6,7,8,9,10,11,12,13] (.q 6 [0,1,2,3,4,5,8,9,10,11,12,13] (.q 8 [0,1,2,3,4,5,6,7,13] (.q 9 [0,1,2,3,4,5,6,7,8,13] (.q 10 [0,1,2,3,4,5,6,7,8,9,13] (.q 13 [0,1,2,3,4,5,6,7,8,9,10,11,12] (.q 4 [0,1,2,3,5,6,7,8,9,10,11,12,13,14,15] (.q 7 [0,1,2,3,4,5,6,8,9,10,11,12,13] (.one 11 (.one 12 (.q 14 [0,1,2,3,4,5,6,7,8,9,10,11,12,13] (.one 15 (.one 16 (.q 17 [0,1,2,3,4,5,6,7,8,9,10,11,12,13,14,15,16] (.q 18 [0,1,2,3,4,5,6,7,8,9,10,11,12,13,14,15,16,17] (.one 19 (.nil))))))))))))))))))))) 157 12 [(16,[1]),(19,[0])] rfl (by kernel_rfl) (by kernel_rfl) (fun pr pe fin H hpr hpe hfin hH=>?_)
  conv=>cbv
  refine hH _ _ ⟨_,_,_,_,_,rfl,rfl,rfl,rfl,Tryz.call22,fun N w1 args hN hS ha=>?_⟩
  obtain rfl:args=[.agg (RegS.vals ⟨gk3,gi3,gs3,gl3,u1_3,u2_3,u3_3,u4_3,v1_3,v2_3,v3_3,v4_3,w1_3,w2_3,w3_3,w4_3⟩).toArray]:=(Option.some.inj ha).symm
  refine (regClone_ok x.s.reg _ Mf w1 (fun k o v hk=>hS.imm _ _ _ (hMf1 _ _ _ hk)) (hreg4 Mf hMf2 hMf3) hx.reg).mono fun ea w2 ⟨⟨vb,hea,hm5⟩,hch⟩=>?_
  obtain ⟨g5,rfl⟩:=RegS.of (hm5 (fun k o=>w2.cell? ⟨k,o,none⟩) (fun k o v hk=>(hS.after0 hch).imm _ _ _ (hMf1 _ _ _ hk)) (fun k o v _ h=>h))
  obtain ⟨gk5,gi5,gs5,gl5,u1_5,u2_5,u3_5,u4_5,v1_5,v2_5,v3_5,v4_5,w1_5,w2_5,w3_5,w4_5⟩:=g5
  have hws5:w.heap.size≤w1.heap.size:=hS.chg.size
  obtain ⟨im5,him5e⟩:∃ z,z=imNew im4 w1 w2:=⟨_,rfl⟩
  have him5:∀ k o v,im4 k o=some v→im5 k o=some v:=fun k o v h=>by rw [him5e];exact imNew_old h
  have hfr5:∀ k o v,w1.heap.size≤k→w2.cell? ⟨k,o,none⟩=some v→im5 k o=some v:=fun k o v hk hc=>by rw [him5e];exact imNew_new (fun k o v h=>(hS.after0 hch).imm _ _ _ h) hk hc
  have hrep5:∀ M:Mem,(∀ k o v,Mf k o=some v→M k o=some v)→(∀ k o v,w.heap.size≤k→im5 k o=some v→M k o=some v)→RepL M (VerP.toD ⟨x.key,x.s.acc,x.s.reg,x.at'⟩) (.int .u8 ky::.int .u64 a1'::.int .u8 a2'::.int .u32 a3'::(RegS.vals ⟨gk5,gi5,gs5,gl5,u1_5,u2_5,u3_5,u4_5,v1_5,v2_5,v3_5,v4_5,w1_5,w2_5,w3_5,w4_5⟩++[.int .i64 ta])):=fun M h1 h2=>by
   have:=VerP.shut (x:=⟨ky,⟨a1',a2',a3'⟩,x.s.reg,ta⟩) (hm5 M h1 fun k o v hk hc=>h2 k o v (Nat.le_trans hws5 hk) (hfr5 k o v hk hc))
   rw [e7,←e5,←e8]
   exact this
  obtain ⟨nl5,hnl5⟩:∃ z,z=s.l.length+1:=⟨_,rfl⟩
  obtain ⟨c5,hc5⟩:∃ c,c=cl++[.int .u8 (.v ky),.int .u64 (.v a1'),.int .u8 (.v a2'),.int .u32 (.v a3'),.int .u8 (.v gk5),.int .u64 (.v gi5),.int .i64 (.v gs5),.slv u1_5 v1_5 w1_5,.slv u2_5 v2_5 w2_5,.slv u3_5 v3_5 w3_5,.int .u64 (.v gl5),.slv u4_5 v4_5 w4_5,.int .i64 (.v ta)]:=⟨_,rfl⟩
  refine ⟨_,hea,mkE Tryz.prog Tryz.f9 Q w O im5 (fun k _=>k=wm.m) (MapK Tryz.prog placeT wm.m gm') N1 B9,.agg (RegS.svs ⟨gk5,gi5,gs5,gl5,u1_5,u2_5,u3_5,u4_5,v1_5,v2_5,v3_5,v4_5,w1_5,w2_5,w3_5,w4_5⟩),_,[],[(154,⟨fun rg=>.osl rg.length 0 nl5 13 none,[(1,⟨false,[],none⟩)],[⟨true,c5,none⟩]⟩)],rfl,rfl,rfl,rfl,him5,hN,by rw [him5e];exact Sat.newMem hS (hS.after0 hch),rfl,rfl,fun pr pe fin hpr hpe hfin=>?_⟩
  clear hea hm5 hch ha hS hfr5 him5e
  conv=>cbv
  refine ⟨rfl,hpe _ _ _ _ _ (EffOk.appG (te:=ti49) (r:=1) (n:=s.l.length) (m:=1) (cs:=cl) (new:=[.int .u8 (.v ky),.int .u64 (.v a1'),.int .u8 (.v a2'),.int .u32 (.v a3'),.int .u8 (.v gk5),.int .u64 (.v gi5),.int .i64 (.v gs5),.slv u1_5 v1_5 w1_5,.slv u2_5 v2_5 w2_5,.slv u3_5 v3_5 w3_5,.int .u64 (.v gl5),.slv u4_5 v4_5 w4_5,.int .i64 (.v ta)]) T9_ok rfl hsl rfl rfl rfl rfl rfl (by rw [hcl,rawL_len];exact l4) (by decide) (appSrc_row (g:=⟨true,[.int .u8 (.v ky),.int .u64 (.v a1'),.int .u8 (.v a2'),.int .u32 (.v a3'),.int .u8 (.v gk5),.int .u64 (.v gi5),.int .i64 (.v gs5),.slv u1_5 v1_5 w1_5,.slv u2_5 v2_5 w2_5,.slv u3_5 v3_5 w3_5,.int .u64 (.v gl5),.slv u4_5 v4_5 w4_5,.int .i64 (.v ta)],none⟩) rfl rfl rfl rfl) (appOk_ok (by decide) rfl rfl rfl (by show (2*(s.l.length+1)+256)*_≤_;simp only [ti49];have:=ok.l;omega) (by have:=ok.l;omega)) hnl5 hc5),rfl,hfin _ ?_⟩
  clear hpr hpe hfin hH
  subst hc4 hnl4 hc5 hnl5
  refine X.over T9_ok rfl (fun N w' v hN hS hv=>?_)
  simp only [resV,SV.den,SV.denL,Option.some.injEq] at hv
  rw [hQ,←hv,htold t2 true (s.l++[⟨x.key,x.s.acc,x.s.reg,x.at'⟩]) (by rw [hQu]) (by rw [hQu];simp) rfl]
  obtain ⟨pl,q1⟩:∃ p,N[10]?=some p:=⟨_,List.getElem?_eq_getElem (by rw [hS.len];show 10<11;omega)⟩
  have hcd:SV.denL N (cl++([.int .u8 (.v ky),.int .u64 (.v a1'),.int .u8 (.v a2'),.int .u32 (.v a3'),.int .u8 (.v gk5),.int .u64 (.v gi5),.int .i64 (.v gs5),.slv u1_5 v1_5 w1_5,.slv u2_5 v2_5 w2_5,.slv u3_5 v3_5 w3_5,.int .u64 (.v gl5),.slv u4_5 v4_5 w4_5,.int .i64 (.v ta)]:List SV))=some (vl.flatten++((.int .u8 ky::.int .u64 a1'::.int .u8 a2'::.int .u32 a3'::(RegS.vals ⟨gk5,gi5,gs5,gl5,u1_5,u2_5,u3_5,u4_5,v1_5,v2_5,v3_5,v4_5,w1_5,w2_5,w3_5,w4_5⟩++[.int .i64 ta])):List Value)):=denL_append (by rw [hcl];exact rawL_denL l5 _) rfl
  have hext:=hS.ext 10 ⟨true,cl++[.int .u8 (.v ky),.int .u64 (.v a1'),.int .u8 (.v a2'),.int .u32 (.v a3'),.int .u8 (.v gk5),.int .u64 (.v gi5),.int .i64 (.v gs5),.slv u1_5 v1_5 w1_5,.slv u2_5 v2_5 w2_5,.slv u3_5 v3_5 w3_5,.int .u64 (.v gl5),.slv u4_5 v4_5 w4_5,.int .i64 (.v ta)],none⟩ pl rfl q1 rfl
  have hsz:(cl++([.int .u8 (.v ky),.int .u64 (.v a1'),.int .u8 (.v a2'),.int .u32 (.v a3'),.int .u8 (.v gk5),.int .u64 (.v gi5),.int .i64 (.v gs5),.slv u1_5 v1_5 w1_5,.slv u2_5 v2_5 w2_5,.slv u3_5 v3_5 w3_5,.int .u64 (.v gl5),.slv u4_5 v4_5 w4_5,.int .i64 (.v ta)]:List SV)).length=s.l.length*13+13:=by
   obtain ⟨z1,_⟩:=SV.denL_get _ hcd
   rw [←z1,List.length_append,l4]
   rfl
  have hgc:gC pl (s.l++[(⟨x.key,x.s.acc,x.s.reg,x.at'⟩:VerP)]).length=.slice (some ⟨pl.b,pl.o,none⟩) (s.l.length+1) (pl.x / 13):=by simp [gC]
  refine finN N w' _ im5 N1 gm' pt 10 (.osl 10 0 (s.l.length+1) 13 none) _ _ _ pl _ t2 true _ _ _ hS (hN 0 _ hq0) (hN 6 _ hpt) hgm' (by omega) (by omega) (by omega) rfl rfl q1 rfl rfl ?_ (fun M h1 h2=>.snoc l1 (fun j y hj=>by obtain ⟨vs,z1,z2⟩:=l2 j y hj;exact ⟨vs,z1,z2.mono h1⟩) (hrep5 M (hMf4 M h1 fun k o v hk hv=>h2 k o v hk (him5 _ _ _ hv)) h2) (hasC_of hS (r:=10) rfl q1 hcd) (by simp only at hext;omega)) rfl rfl (fun M h1 h2=>hrep4 M h1 fun k o v hk hv=>h2 k o v hk (him5 _ _ _ hv)) (fun M h1 h2=>⟨hconf4 M fun k o v hk hv=>h2 k o v hk (him5 _ _ _ hv),hreg4 M h1 fun k o v hk hv=>h2 k o v hk (him5 _ _ _ hv)⟩) rfl
  rw [hgc]
  simp only [SV.den,q1,Num.cap,Nat.add_zero,Nat.sub_zero]
 ·simp only [SB.F] at hQu
  refine X.go T9_ok 400 _ rfl Tryz.results9 ?_
  conv=>arg 2;cbv
  subst hc4 hnl4
  refine X.over T9_ok rfl (fun N w' v hN hS hv=>?_)
  simp only [resV,SV.den,SV.denL,Option.some.injEq] at hv
  rw [hQ,←hv,htold t2 false s.l (by rw [hQu]) (by rw [hQu];simp) rfl]
  have q1:=hN 1 _ (hN1 1 _ (by rw [hN0];rfl:N0[1]?=some (wm.P 1)))
  exact finN N w' _ im4 N1 gm' pt 1 sl cl _ _ (wm.P 1) s.l t2 false _ _ _ hS (hN 0 _ hq0) (hN 6 _ hpt) hgm' (by omega) (by omega) (by omega) rfl rfl q1 rfl rfl (by rw [hsl];exact gV_den N 1 s.l.length _ q1) (fun M h1 h2=>.same l1 (fun j y hj=>by obtain ⟨vs,z1,z2⟩:=l2 j y hj;exact ⟨vs,z1,z2.mono h1⟩) (hasC_of hS (r:=1) rfl q1 (by rw [hcl];exact rawL_denL l5 _)) h.l.1 h.l.2.1) rfl rfl hrep4 (fun M h1 h2=>⟨hconf4 M h2,hreg4 M h1 h2⟩) rfl
end Go.Proofs.YthpbefahaghbjaaGreat
namespace Go.Proofs.YthpbefahaghbjaaGreat
open Go Go.Eng
theorem TelC.Of.mono {M M':Mem} {t:TelC} {x:TelP} (h:t.Of M x) (hM:∀ k o v,M k o=some v→M' k o=some v):t.Of M' x:=⟨h.e,h.o.mono hM,h.n.mono hM,h.g.mono hM⟩
theorem saw_ok (wm:WM) (s:WP) (n:Nat) (Mo:Mem) (w:World) (t:TelC) (x:TelP) (h:WatchAt wm s Mo w) (ok:s.Ok n) (hn:n≤1000) (ht:t.Of Mo x) (hx:x.Ok) :
  Calls Tryz.prog 9 (sawA (wm.P 0).b (wm.P 0).o t) w (SawRet wm s (s.saw x) Mo w):=by
 unfold WP.saw
 by_cases hc:x.cnt
 ·rw [if_neg (not_not_intro hc)]
  cases hp:s.pos x.key x.s.acc with
  | none=>exact saw_new wm s n Mo w t x _ h ok hn ht hx hc hp rfl
  | some i =>
   simp only
   obtain ⟨e,he⟩:∃ e,s.seen[i]?=some e:=by
    unfold WP.pos at hp
    obtain ⟨h1,_⟩:=List.findIdx?_eq_some_iff_getElem.1 hp
    exact ⟨_,List.getElem?_eq_getElem h1⟩
   rw [he]
   exact saw_found wm s n Mo w t x i e h ok hn ht hx hc hp he
 ·rw [if_pos hc]
  exact (saw_none (wm.P 0).b (wm.P 0).o t x w (ht.mono h.mo) hx hc).mono fun e w' ⟨he,hch⟩=>⟨he,wm,Mo,h.chg hch (fun _ _ _ h=>h) (fun _ _ _ _ h=>h),rfl,hch.mono fun _ _ _ h=>h.elim,fun _ _ h=>.inl h,fun _ _ _ h=>h,fun _ _ _ h=>.inl h⟩
theorem WP.Ok.told {s:WP} {n i:Nat} {e:EntP} {x:TelP} (ok:s.Ok n) (he:e.Ok) (hx:x.Ok) (hn64:x.node<64):(s.told i e x).Ok (n+1):=by
 have hp:2 ^ x.node.toNat<2 ^ 64:=Nat.pow_lt_pow_right (by decide) (by have:=hx.nd;omega)
 have hno:e.nodes ||| 2 ^ x.node.toNat<2 ^ 64:=Nat.or_lt_two_pow he.nodes hp
 have hset:∀ (b:Bool) (y:EntP),y∈s.seen.set i ⟨e.key,e.b,e.c,e.reg,e.nodes ||| 2 ^ x.node.toNat,b⟩→y.Ok:=fun b y hy=>by
  rcases List.mem_or_eq_of_mem_set hy with h | rfl
  ·exact ok.en y h
  ·exact ⟨he.c0,he.co,he.cn,hno,he.reg⟩
 unfold WP.told
 split
 ·exact ⟨ok.en,Nat.le_succ_of_le ok.l,Nat.le_succ_of_le ok.a,ok.vl,ok.va⟩
 ·simp only
  split
  ·refine ⟨hset true,by simp only [List.length_append,List.length_singleton];exact Nat.succ_le_succ ok.l,Nat.le_succ_of_le ok.a,fun y hy=>?_,ok.va⟩
   rcases List.mem_append.1 hy with h | h
   ·exact ok.vl y h
   ·simp only [List.mem_singleton] at h;subst h;exact he.reg
  ·exact ⟨hset false,Nat.le_succ_of_le ok.l,Nat.le_succ_of_le ok.a,ok.vl,ok.va⟩
theorem WP.Ok.saw {s:WP} {n:Nat} {x:TelP} (ok:s.Ok n) (hx:x.Ok):(s.saw x).Ok (n+1):=by
 unfold WP.saw
 by_cases hc:x.cnt
 ·rw [if_neg (not_not_intro hc)]
  split
  ·split
   ·rename_i he
    exact ok.told (ok.en _ (List.mem_of_getElem? he)) hx hc.1
   ·exact ⟨ok.en,Nat.le_succ_of_le ok.l,Nat.le_succ_of_le ok.a,ok.vl,ok.va⟩
  ·have he:EntP.Ok ⟨x.key,x.s.acc,x.c,x.s.reg,0,false⟩:=⟨hx.c0,hx.co,hx.cn,by show (0:Nat)<2 ^ 64;decide,hx.reg⟩
   have ok':WP.Ok ⟨s.seen++[⟨x.key,x.s.acc,x.c,x.s.reg,0,false⟩],s.l,s.all++[⟨x.key,x.s.acc,x.s.reg,x.at'⟩],s.torn⟩ (n+1):=by
    refine ⟨fun y hy=>?_,Nat.le_succ_of_le ok.l,by simp only [List.length_append,List.length_singleton];exact Nat.succ_le_succ ok.a,ok.vl,fun y hy=>?_⟩
    ·rcases List.mem_append.1 hy with h | h
     ·exact ok.en y h
     ·simp only [List.mem_singleton] at h;subst h;exact he
    ·rcases List.mem_append.1 hy with h | h
     ·exact ok.va y h
     ·simp only [List.mem_singleton] at h;subst h;exact hx.reg
   have hp:2 ^ x.node.toNat<2 ^ 64:=Nat.pow_lt_pow_right (by decide) (by have:=hx.nd;have:=hc.1;omega)
   unfold WP.told
   rw [if_neg (by simp)]
   have hset:∀ (b:Bool) (y:EntP),y∈(s.seen++[(⟨x.key,x.s.acc,x.c,x.s.reg,0,false⟩:EntP)]).set s.seen.length ⟨x.key,x.s.acc,x.c,x.s.reg,0 ||| 2 ^ x.node.toNat,b⟩→y.Ok:=fun b y hy=>by
    rcases List.mem_or_eq_of_mem_set hy with h | rfl
    ·exact ok'.en y h
    ·exact ⟨hx.c0,hx.co,hx.cn,by rw [Nat.zero_or];exact hp,hx.reg⟩
   simp only
   split
   ·refine ⟨hset true,by simp only [List.length_append,List.length_singleton];exact Nat.succ_le_succ ok.l,ok'.a,fun y hy=>?_,ok'.va⟩
    rcases List.mem_append.1 hy with h | h
    ·exact ok.vl y h
    ·simp only [List.mem_singleton] at h;subst h;exact hx.reg
   ·exact ⟨hset false,Nat.le_succ_of_le ok.l,ok'.a,ok.vl,ok'.va⟩
 ·rw [if_pos hc]
  exact ⟨ok.en,Nat.le_succ_of_le ok.l,Nat.le_succ_of_le ok.a,ok.vl,ok.va⟩
structure VerC where
 (key b1 b2 b3:Int) (g:RegS) (at':Int)
def VerC.vals (t:VerC):List Value:=.int .u8 t.key::.int .u64 t.b1::.int .u8 t.b2::.int .u32 t.b3::(t.g.vals++[.int .i64 t.at'])
def VerC.svs (t:VerC):List SV:=.int .u8 (.v t.key)::.int .u64 (.v t.b1)::.int .u8 (.v t.b2)::.int .u32 (.v t.b3)::(t.g.svs++[.int .i64 (.v t.at')])
theorem VerP.cells {x:VerP} {M:Mem} {vs:List Value} (h:RepL M x.toD vs):∃ t:VerC,vs=t.vals∧x=⟨t.key,⟨t.b1,t.b2,t.b3⟩,x.reg,t.at'⟩∧RepL M x.reg.toD t.g.vals:=by
 obtain ⟨rv,rfl,hr⟩:=VerP.open h
 obtain ⟨g,rfl⟩:=RegS.of hr
 exact ⟨⟨x.key,x.b.count,x.b.node,x.b.life,g,x.at'⟩,rfl,rfl,hr⟩
theorem same24_ok (a b:List VerP) (pa pb:Option Addr) (ca cb:Nat) (w:World) (ha:SlR (wm w) pa ca 13 (a.map VerP.toD)) (hb:SlR (wm w) pb cb 13 (b.map VerP.toD)) :
  Calls Tryz.prog 11 #[.slice pa a.length ca,.slice pb b.length cb] w fun e w'=>e=.returned (.bool (B (a=b)))∧Chg (fun _ _=>False) w w':=by
 obtain ⟨q,hq⟩:∃ q,q=B (a=b):=⟨_,rfl⟩
 obtain ⟨n,hn⟩:∃ n,n=a.length:=⟨_,rfl⟩
 obtain ⟨n2,hn2⟩:∃ n,n=b.length:=⟨_,rfl⟩
 have hm:=maxLen_le
 have hl:n≤maxLen:=by rw [hn];exact ha.len
 rw [←hq,←hn,←hn2]
 refine X.begin (rg:=[]) (N:=[]) (ss:=[.slv pa n ca,.slv pb n2 cb]) Tryz.func11 rfl B11_ok rfl rfl Sat.std0 ?_
 obtain ⟨im,hime⟩:∃ im,im=elsewhere [] [] w:=⟨_,rfl⟩
 show X (mkE Tryz.prog Tryz.f11 _ w (InR [] []) (elsewhere [] [] w) (fun _ _=>False) (fun _=>True) [] B11) _ _
 rw [←hime]
 refine X.go T11_ok 400 _ rfl Tryz.results11 ?_
 conv=>arg 2;cbv
 refine X.cond rfl (fun hc=>?_) (fun hc=>?_)
 ·refine X.go T11_ok 400 _ rfl Tryz.results11 ?_
  conv=>arg 2;cbv
  refine X.done T11_ok rfl (fun N w' v hN hS hv=>⟨fin_bool hv ?_,hS.chg.mono fun k o _ h=>inR_nil h⟩)
  simp only [SB.T,SB.F,SI.den] at hc
  rw [hq]
  exact (B_neg (fun h=>by subst h;omega)).symm
 simp only [SB.T,SB.F,SI.den] at hc
 have hnn:n2=n:=by omega
 clear hc
 subst hnn
 refine X.go T11_ok 400 _ rfl Tryz.results11 ?_
 conv=>arg 2;cbv
 refine X.loop1 (fun i:{i:Nat // i≤n2∧a.take i=b.take i}=>⟨[(0,.val (.slv pa n2 ca)),(1,.val (.slv pb n2 cb)),(12,.val (.int .i64 (.nat n2))),(13,.val (.int .i64 (.nat i.1)))],[]⟩) (fun i=>n2-i.1) (fun N a w' hN hf hS=>⟨⟨0,Nat.zero_le _,rfl⟩,?_⟩) (fun i q' hq'=>?_)
 ·exact At.again hf hS (by repeat first | exact trivial | refine ⟨⟨_,rfl,.inl ⟨rfl,rfl⟩⟩,?_⟩ | refine ⟨⟨_,rfl,.inr ⟨_,rfl,rfl⟩⟩,?_⟩ | refine ⟨⟨_,rfl,.inr ⟨_,rfl,by simp (disch:=omega) [SV.den,SI.den,wrapU,wrapD]<;>omega⟩⟩,?_⟩) trivial
 obtain ⟨i,hi,hno⟩:=i
 refine X.go T11_ok 400 _ rfl Tryz.results11 ?_
 conv=>arg 2;cbv
 refine X.cond rfl (fun hlt=>?_) (fun hge=>?_)
 ·simp only [SB.T,SI.den] at hlt
  have hlt:i<n2:=by omega
  obtain ⟨x1,hx1⟩:∃ x,a[i]?=some x:=⟨_,List.getElem?_eq_getElem (by omega)⟩
  obtain ⟨x2,hx2⟩:∃ x,b[i]?=some x:=⟨_,List.getElem?_eq_getElem (by omega)⟩
  obtain ⟨b1,y1,w1,hp1,hr1,hm1⟩:=ha.his hx1
  obtain ⟨b2,y2,w2,hp2,hr2,hm2⟩:=hb.his hx2
  rw [←hime] at hm1 hm2
  obtain ⟨t1,rfl,e1,hg1⟩:=VerP.cells hr1
  obtain ⟨t2,rfl,e2,hg2⟩:=VerP.cells hr2
  obtain ⟨h,hh⟩:∃ h,h=B (x1.reg=x2.reg):=⟨_,rfl⟩
  have hc:=fun (w1:World) hi1=>regSameR_ok x1.reg x2.reg _ _ w1 (hg1.later hime hi1) (hg2.later hime hi1)
  rw [←hh] at hc
  obtain ⟨k1,c1,c2,c3,⟨gk,gi,gs,gl,q1,q2,q3,q4,m1,m2,m3,m4,f1,f2,f3,f4⟩,ta⟩:=t1
  obtain ⟨k2,d1,d2,d3,⟨hk,hi',hs,hl',r1,r2,r3,r4,o1,o2,o3,o4,j1,j2,j3,j4⟩,tb⟩:=t2
  obtain ⟨z1,hz1⟩:∃ z,z=y1+i*13:=⟨_,rfl⟩
  obtain ⟨z2,hz2⟩:∃ z,z=y2+i*13:=⟨_,rfl⟩
  rw [←hz1] at hm1
  rw [←hz2] at hm2
  refine X.see b1 z1 (VerC.svs ⟨k1,c1,c2,c3,⟨gk,gi,gs,gl,q1,q2,q3,q4,m1,m2,m3,m4,f1,f2,f3,f4⟩,ta⟩) (see_of hm1 rfl) (Nat.zero_lt_succ _) (fun N1 hN1 hNl1=>?_)
  have hgg1:(N1++[(⟨b1,z1,0⟩:Num)])[0]?=some ⟨b1,z1,0⟩:=num_last hNl1
  refine X.see b2 z2 (VerC.svs ⟨k2,d1,d2,d3,⟨hk,hi',hs,hl',r1,r2,r3,r4,o1,o2,o3,o4,j1,j2,j3,j4⟩,tb⟩) (see_of hm2 rfl) (Nat.zero_lt_succ _) (fun N2 hN2 hNl2=>?_)
  have hgg2:(N2++[(⟨b2,z2,0⟩:Num)])[1]?=some ⟨b2,z2,0⟩:=num_last hNl2
  have hgg1':(N2++[(⟨b2,z2,0⟩:Num)])[0]?=some ⟨b1,z1,0⟩:=num_old (hN2 0 _ hgg1)
  have vo:∀ {E:Env} {N0:Nums} {rg:List Rg} {f:Fr} {g:GK} {x ix:Operand} {kd:IntKind} {s:SI},evK f g x=some (.slv pa n2 ca)→evK f g ix=some (.int kd s)→E.P=Tryz.prog→N0=(N2++[(⟨b2,z2,0⟩:Num)])→s=.nat i→ValOk E N0 rg f g (.indexAddr 27 x ix) (.own 0 0):=fun k1 k2 k3 k4 k5=>by subst k4 k5;exact ValOk.row k1 k2 (fun _=>rfl) (by rw [k3];exact Tryz.underlying27) (by rw [k3];exact Tryz.sizeOf49) hlt hp1 hgg1' rfl hz1
  have vo2:∀ {E:Env} {N0:Nums} {rg:List Rg} {f:Fr} {g:GK} {x ix:Operand} {kd:IntKind} {s:SI},evK f g x=some (.slv pb n2 cb)→evK f g ix=some (.int kd s)→E.P=Tryz.prog→N0=(N2++[(⟨b2,z2,0⟩:Num)])→s=.nat i→ValOk E N0 rg f g (.indexAddr 27 x ix) (.own 1 0):=fun k1 k2 k3 k4 k5=>by subst k4 k5;exact ValOk.row k1 k2 (fun _=>rfl) (by rw [k3];exact Tryz.underlying27) (by rw [k3];exact Tryz.sizeOf49) hlt hp2 hgg2 rfl hz2
  refine X.goP ([(18,.own 0 0),(23,.own 1 0),(30,.own 0 0),(35,.own 1 0),(43,.own 0 0),(48,.own 1 0),(56,.own 0 0),(61,.own 1 0),(64,.bool (.v h))]) T11_ok 400 _ rfl Tryz.results11 (fun pr fin hpr hfin=>?_)
  conv=>cbv
  refine ⟨hpr _ (.of Tryz.call27 [.agg _,.agg _] (.bool h) (fun _=>rfl) (fun _=>rfl) fun _ w1 hi1=>hc w1 hi1),hpr _ (vo2 rfl rfl rfl rfl rfl),hpr _ (vo rfl rfl rfl rfl rfl),hpr _ (vo2 rfl rfl rfl rfl rfl),hpr _ (vo rfl rfl rfl rfl rfl),hpr _ (vo2 rfl rfl rfl rfl rfl),hpr _ (vo rfl rfl rfl rfl rfl),hpr _ (vo2 rfl rfl rfl rfl rfl),hpr _ (vo rfl rfl rfl rfl rfl),hfin _ _ ?_⟩
  clear hpr hfin vo vo2
  refine X.cond rfl (fun hbad=>?_) (fun hok=>?_)
  ·simp only [SB.T,SB.F,SI.den] at hbad
   refine X.go T11_ok 400 _ rfl Tryz.results11 ?_
   conv=>arg 2;cbv
   refine X.done T11_ok rfl (fun N w' v hN hS hv=>⟨fin_bool hv ?_,hS.chg.mono fun k o _ h=>inR_nil h⟩)
   rw [hq]
   refine (B_neg fun e=>?_).symm
   subst e
   rw [hx1] at hx2
   obtain rfl:=Option.some.inj hx2
   rw [e1] at e2
   simp only [VerP.mk.injEq,BalP.mk.injEq] at e2
   rw [B_pos rfl] at hh
   grind
  ·simp only [SB.T,SB.F,SI.den] at hok
   have hxx:x1=x2:=by
    rw [e1,e2]
    simp only [VerP.mk.injEq,BalP.mk.injEq]
    have:h=true:=by grind
    rw [hh,B_iff] at this
    grind
   refine X.go T11_ok 400 _ rfl Tryz.results11 ?_
   conv=>arg 2;cbv
   refine X.back (fun N a w' hN hf hS=>hq' ⟨i+1,by omega,?_⟩ a w' (by simp only;omega) ?_)
   ·rw [List.take_add_one,List.take_add_one,hno,hx1,hx2,hxx]
   exact At.again hf hS (by repeat first | exact trivial | refine ⟨⟨_,rfl,.inl ⟨rfl,rfl⟩⟩,?_⟩ | refine ⟨⟨_,rfl,.inr ⟨_,rfl,rfl⟩⟩,?_⟩ | refine ⟨⟨_,rfl,.inr ⟨_,rfl,by simp (disch:=omega) [SV.den,SI.den,wrapU,wrapD]<;>omega⟩⟩,?_⟩) trivial
 simp only [SB.F,SI.den] at hge
 obtain rfl:i=n2:=by omega
 refine X.go T11_ok 400 _ rfl Tryz.results11 ?_
 conv=>arg 2;cbv
 refine X.done T11_ok rfl (fun N w' v hN hS hv=>⟨fin_bool hv ?_,hS.chg.mono fun k o _ h=>inR_nil h⟩)
 rw [hq]
 refine (B_pos ?_).symm
 rw [List.take_of_length_le (by omega),List.take_of_length_le (by omega)] at hno
 exact hno
theorem cloneV_ok (b y n cp:Nat) (vs:List Value) (w:World) (hn:vs.length=n*13) (h0:n≠0) (hle:n≤1000) (h1:vs.all one?=true) (hA:∀ (j:Nat) (v:Value),vs[j]?=some v→w.cell? ⟨b,y+j,none⟩=some v) :
  Calls Tryz.prog 56 #[.slice (some ⟨b,y,none⟩) n cp] w (FreshRet (rawL vs) n 13 w):=by
 obtain ⟨cs,hcs⟩:∃ cs,cs=rawL vs:=⟨_,rfl⟩
 have hlen:cs.length=n*13:=by rw [hcs,rawL_len,hn]
 rw [←hcs]
 refine X.begin (rg:=[]) (N:=[]) (ss:=[.slv (some ⟨b,y,none⟩) n cp]) Tryz.func56 rfl B56_ok rfl rfl Sat.std0 ?_
 refine X.addIm [(0,.val (.osl 0 0 n 13 (some cp)))] b y (cs:=cs) (by omega) (fun j x hj=>?_) (fun N hN=>?_) ?_
 ·rw [hcs] at hj
  simp only [rawL,List.getElem?_map,Option.map_eq_some_iff] at hj
  obtain ⟨v,hv,rfl⟩:=hj
  have ho:one? v=true:=List.all_eq_true.1 h1 v (List.mem_of_getElem? hv)
  exact ⟨v,fun _=>by simp [SV.den,ho],his (hA j v hv)⟩
 ·obtain rfl:N=[]:=List.eq_nil_of_length_eq_zero hN
  refine ⟨rfl,fun x h=>?_,trivial⟩
  simpa [SV.den,Num.cap] using h
 refine X.go T56_ok 16 _ rfl Tryz.results56 ?_
 conv=>arg 2;cbv
 apply X.opEq (T:=T56) T56_ok
 ·exact opE_append (te:=ti49) (new:=cs) (m:=n) rfl rfl rfl rfl rfl rfl rfl rfl (appSrc_row (g:=⟨false,cs,none⟩) rfl rfl rfl (by show cs.length=n*13;omega))
   (appV_new (te:=ti49) rfl h0 (appOk_ok (by decide) rfl (by show cs.length=n*13;omega) (by rw [hcs];exact rawL_one h1) (by show (2*(0+n)+256)*_≤_;simp only [ti49];omega) (by omega))) rfl
 refine X.go T56_ok 400 _ rfl Tryz.results56 ?_
 conv=>arg 2;cbv
 refine X.done T56_ok rfl (fun N w' v hN hS hv=>?_)
 exact freshRet_of hS (r:=2) rfl (by rw [hlen];omega) (List.prefix_refl _) (fun c hc N N' v h=>rawL_den (by rw [←hcs];exact hc) h) hv
theorem cloneVN_ok (cp:Nat) (w:World):Calls Tryz.prog 56 #[.slice none 0 cp] w fun e w'=>e=.returned (.slice none 0 0)∧Chg (fun _ _=>False) w w':=by
 refine X.begin (rg:=[]) (N:=[]) (ss:=[.slv none 0 cp]) Tryz.func56 rfl B56_ok rfl rfl Sat.std0 ?_
 refine X.go T56_ok 400 _ rfl Tryz.results56 ?_
 conv=>arg 2;cbv
 refine X.eqNil true rfl rfl rfl rfl Tryz.underlying27 (fun N _ _=>⟨_,_,_,rfl,rfl⟩) rfl ?_
 refine X.go T56_ok 400 _ rfl Tryz.results56 ?_
 conv=>arg 2;cbv
 refine X.done T56_ok rfl (fun N w' v hN hS hv=>?_)
 simp [resV,SV.den,one?] at hv
 exact ⟨by rw [←hv],hS.chg.none⟩
def VersR (Mo:Mem) (l:List VerP) (w:World):Ending→World→Prop:=fun e w' =>
 (∃ p c,e=.returned (.slice p l.length c)∧∀ M:Mem,(∀ k o v,Mo k o=some v→M k o=some v)→(∀ k o v,w.heap.size≤k→w'.cell? ⟨k,o,none⟩=some v→M k o=some v)→SlR M p c 13 (l.map VerP.toD))∧Chg (fun _ _=>False) w w'
structure ClV (w:World) (Mo im:Mem) (l:List VerP) (im1:Mem) (vss:List (List Value)):Prop where
 him:∀ k o v,im k o=some v→im1 k o=some v
 len:vss.length=l.length
 row:∀ v∈vss,v.length=13∧v.all one?=true
 rep:∀ (j:Nat) (x:VerP),l[j]?=some x→∃ vs,vss[j]?=some vs∧RepL (mU w Mo im1) x.toD vs
theorem wcloneN_ok (Mo:Mem) (w:World):Calls Tryz.prog 26 #[.slice none 0 0] w (VersR Mo [] w):=by
 refine X.begin (rg:=[]) (N:=[]) (ss:=[.slv none 0 0]) Tryz.func26 rfl B26_ok rfl rfl Sat.std0 ?_
 refine X.go T26_ok 400 _ rfl Tryz.results26 ?_
 conv=>arg 2;cbv
 refine X.call rfl rfl rfl rfl Tryz.call56 (fun N w1 args hN hS ha=>?_)
 obtain rfl:args=[.slice none 0 0]:=(Option.some.inj ha).symm
 refine (cloneVN_ok 0 w1).mono fun e w2 ⟨he,hc⟩=>⟨_,he,Goes.same (r:=.slv none 0 0) hN hS hc rfl rfl ?_⟩
 refine X.go T26_ok 400 _ rfl Tryz.results26 ?_
 conv=>arg 2;cbv
 refine X.loop1 (fun _:Unit=>⟨[(3,.val (.slv none 0 0)),(8,.val (.int .i64 (.nat 0))),(9,.val (.int .i64 (.nat 0)))],[]⟩) (fun _=>0) (fun N a w' hN hf hS=>⟨(),?_⟩) (fun _ q' hq'=>?_)
 ·exact At.again hf hS (by repeat first | exact trivial | refine ⟨⟨_,rfl,.inl ⟨rfl,rfl⟩⟩,?_⟩ | refine ⟨⟨_,rfl,.inr ⟨_,rfl,rfl⟩⟩,?_⟩ | refine ⟨⟨_,rfl,.inr ⟨_,rfl,by simp (disch:=omega) [SV.den,SI.den,wrapU,wrapD]<;>omega⟩⟩,?_⟩) trivial
 refine X.go T26_ok 400 _ rfl Tryz.results26 ?_
 conv=>arg 2;cbv
 refine X.cond rfl (fun hlt=>?_) (fun hge=>?_)
 ·simp [SB.T,SI.den] at hlt
 refine X.go T26_ok 400 _ rfl Tryz.results26 ?_
 conv=>arg 2;cbv
 refine X.done T26_ok rfl (fun N w' v hN hS hv=>?_)
 simp only [resV,SV.den,Option.some.injEq] at hv
 exact ⟨⟨none,0,by rw [←hv];rfl,fun M _ _=>⟨⟨by simp,by simp⟩,.inl (by simp)⟩⟩,hS.chg.none⟩
theorem setRow_mid {A X Y B:List SV} (hl:X.length=Y.length):setRow (A++X++B) A.length Y=A++Y++B:=by
 rw [setRow_eq _ _ _ (by simp),←hl,←List.length_append,List.drop_left,List.append_assoc A X B,List.take_left]
theorem recell_mid {N:Nums} {A B X Y:List SV} (hl:X.length=Y.length) (h:∀ (j:Nat) (c c':SV),X[j]?=some c→Y[j]?=some c'→∀ v,c.den N=some v→c'.den N=some v) (j:Nat) (c c':SV) (h1:(A++X++B)[j]?=some c) (h2:(A++Y++B)[j]?=some c') (v:Value) (hv:c.den N=some v):c'.den N=some v:=by
 simp only [List.append_assoc,List.getElem?_append] at h1 h2
 split at h1
 ·rename_i hj
  rw [if_pos hj,h1] at h2;cases h2;exact hv
 ·rename_i hj
  rw [if_neg hj] at h2
  split at h1
  ·rename_i hx
   rw [if_pos (by omega)] at h2
   exact h _ c c' h1 h2 v hv
  ·rename_i hx
   rw [if_neg (by omega),←hl,h1] at h2;cases h2;exact hv
theorem rows_split {vss:List (List Value)} {i:Nat} {vs:List Value} (h:vss[i]?=some vs) (h13:∀ v∈vss,v.length=13):∃ A B:List Value,A.length=i*13∧∀ u,(vss.set i u).flatten=A++u++B:=by
 have hi:=(List.getElem?_eq_some_iff.1 h).1
 refine ⟨(vss.take i).flatten,(vss.drop (i+1)).flatten,?_,fun u=>?_⟩
 ·rw [flatten_len (K:=13) fun v hv=>h13 v (List.mem_of_mem_take hv),List.length_take,Nat.min_eq_left (by omega)]
 ·rw [List.set_eq_take_append_cons_drop,if_pos hi]
  simp
end Go.Proofs.YthpbefahaghbjaaGreat
namespace Go.Eng
open Go
def NoFr (D:Nat→Nat→Prop) (w:World):Prop:=∀ k o,D k o→w.frozen? ⟨k,o,none⟩=false
theorem NoFr.loc {D:Nat→Nat→Prop}:Loc D (NoFr D):=fun w w' hs _ h k o hd=>by rw [(hs k o hd).1.2];exact h k o hd
theorem X.noFr {P:Program} {fn:Func} {Q:Ending→World→Prop} {W:World} {O:Nat→Nat→Prop} {im:Mem} {B:SchT} {N0:Nums} {k:List It} {s:St} (h:X (mkE P fn Q W O im (fun _ _=>False) (NoFr fun _ _=>False) N0 B) k s):X (mkE P fn Q W O im (fun _ _=>False) (fun _=>True) N0 B) k s :=
 X.conv fun N a w hN hf hS=>⟨mkE P fn Q W O im (fun _ _=>False) (NoFr fun _ _=>False) N0 B,s,rfl,rfl,rfl,rfl,⟨N,hN,hf,⟨hS.len,hS.lt,hS.cell,hS.ext,hS.room,hS.disj,hS.obj,hS.odisj,hS.imm,hS.imd,hS.dd,hS.dlt,NoFr.loc,fun _ _ h=>h.elim,hS.chg,hS.foot⟩⟩,h⟩
theorem Goes.newMemD {E:Ctx} {N:Nums} {k:List It} {s:St} {d:Option Nat} {v:Value} {w w':World} (D':Nat→Nat→Prop) (R':World→Prop) (hN:E.N0.le N) (h:Sat E.toEnv N s.rg w) (hc:Chg (fun _ _=>False) w w') {r:SV} (hr:r.den N=some v) {f':Fr} (hp:putO E.n s.fr d (.val r)=some f')
  (hdd:∀ (r:Nat) (g:Rg) (p:Num),s.rg[r]?=some g→N[r]?=some p→g.own=true→∀ j,j<p.x→¬D' p.b (p.o+j)) (hob:∀ (r:Nat) (g:Rg),s.rg[r]?=some g→g.ob=none) (hdl:∀ k o,D' k o→There w' k o) (hl:Loc D' R') (hR:R' w')
  (hx:(∀ k o u,E.im k o=some u→imNew E.im w w' k o=some u)→(∀ k o u,w.heap.size≤k→w'.cell? ⟨k,o,none⟩=some u→imNew E.im w w' k o=some u)→X ({ E.withDR D' R' with im:=imNew E.im w w' }:Ctx) k ⟨f',s.rg⟩):Goes E N k s.fr d v w':=by
 have h':=h.after0 hc
 have h2:=Sat.newMem h h'
 refine ⟨{ E.withDR D' R' with im:=imNew E.im w w' },N,r,s.rg,f',rfl,rfl,rfl,rfl,fun _ _ h=>h,hN,⟨h2.len,h2.lt,h2.cell,h2.ext,h2.room,h2.disj,fun r g p ob hg _ ho=>?_,h2.odisj,h2.imm,h2.imd,hdd,hdl,hl,hR,h2.chg,h2.foot⟩,hr,hp,?_⟩
 ·rw [hob r g hg] at ho;cases ho
 ·exact hx (fun k o u hu=>imNew_old hu) (fun k o u hk hu=>imNew_new h'.imm hk hu)
end Go.Eng
namespace Go.Proofs.YthpbefahaghbjaaGreat
open Go Go.Eng
def VarA (p:Option Addr) (n:Nat) (k o:Nat):Prop:=∃ b y,p=some ⟨b,y,none⟩∧k=b∧y≤o∧o<y+n
structure ClN (w:World) (Mo im:Mem) (l:List VerP) (i:Nat) (im1:Mem) (vss:List (List Value)) (D:Nat→Nat→Prop):Prop extends ClV w Mo im l im1 vss where
 nv:∀ (j:Nat) (x:VerP),j<i→l[j]?=some x→∃ vs p c,vss[j]?=some vs∧vs[7]?=some (.slice p x.reg.vars.length c)∧(x.reg.vars≠[]→∃ b y,p=some ⟨b,y,none⟩∧w.heap.size≤b∧∀ (t:Nat) (z:Int),x.reg.vars[t]?=some z→im1 b (y+t)=some (.int .i64 z)∧D b (y+t))
def SepR (Mo:Mem) (w:World) (q:Num) (l:List VerP) (vss:List (List Value)) (w':World):Prop :=
 ∃ Mr:Mem,(∀ k o v,Mr k o=some v→w'.cell? ⟨k,o,none⟩=some v∧¬inN q k o∧(Mo k o=some v∨w.heap.size≤k))∧∀ (j:Nat) (x:VerP),l[j]?=some x→∃ vs,vss[j]?=some vs∧RepL Mr x.toD vs
def VersN (Mo:Mem) (l:List VerP) (w:World):Ending→World→Prop:=fun e w' =>
 (∃ p c,e=.returned (.slice p l.length c)∧(∀ M:Mem,(∀ k o v,Mo k o=some v→M k o=some v)→(∀ k o v,w.heap.size≤k→w'.cell? ⟨k,o,none⟩=some v→M k o=some v)→SlR M p c 13 (l.map VerP.toD)) ∧
  (l≠[]→∃ q:Num,p=some ⟨q.b,q.o,none⟩∧c=q.x / 13∧w.heap.size≤q.b∧Room q w'∧l.length*13≤q.x∧∃ vss:List (List Value),vss.length=l.length∧HasC q vss.flatten w'∧(∀ v∈vss,v.length=13∧v.all one?=true) ∧
   (∀ (j:Nat) (x:VerP),l[j]?=some x→∃ t:VerC,vss[j]?=some t.vals∧∃ p' c',t.vals[7]?=some (.slice p' x.reg.vars.length c')∧(x.reg.vars≠[]→∃ b y,p'=some ⟨b,y,none⟩∧w.heap.size≤b∧∀ (u:Nat) (z:Int),x.reg.vars[u]?=some z→w'.cell? ⟨b,y+u,none⟩=some (.int .i64 z)∧w'.frozen? ⟨b,y+u,none⟩=false∧¬inN q b (y+u)))∧SepR Mo w q l vss w'))∧Chg (fun _ _=>False) w w'
theorem wcloneF_ok (Mo:Mem) (p:Num) (l:List VerP) (cp:Nat) (w:World) (hMo:∀ k o v,Mo k o=some v→w.cell? ⟨k,o,none⟩=some v) (h:RowsW Mo p l w) (hl0:l≠[]) (hle:l.length≤1000) (hg:∀ x∈l,¬x.reg.great) :
  Calls Tryz.prog 26 #[.slice (some ⟨p.b,p.o,none⟩) l.length cp] w (VersN Mo l w):=by
 obtain ⟨Q,hQ⟩:∃ Q:Ending→World→Prop,Q=VersN Mo l w:=⟨_,rfl⟩
 rw [←hQ]
 obtain ⟨v0,l1,l2,l3,l4,l5⟩:=h.cells
 have hr13:∀ v∈v0,v.length=13∧v.all one?=true:=fun v hv=>by
  obtain ⟨i,hi⟩:=List.mem_iff_getElem?.1 hv
  obtain ⟨x,hx⟩:∃ x,l[i]?=some x:=⟨_,List.getElem?_eq_getElem (by rw [←l1];exact (List.getElem?_eq_some_iff.1 hi).1)⟩
  obtain ⟨vs',k1,k2⟩:=l2 i x hx
  rw [hi] at k1;cases k1
  exact ⟨k2.len,repl_one k2⟩
 obtain ⟨n,hn⟩:∃ n,n=l.length:=⟨_,rfl⟩
 have hn0:n≠0:=fun e=>hl0 (List.eq_nil_of_length_eq_zero (by omega))
 rw [←hn]
 refine X.begin (rg:=[]) (N:=[]) (ss:=[.slv (some ⟨p.b,p.o,none⟩) n cp]) Tryz.func26 rfl B26_ok rfl rfl Sat.std0 ?_
 obtain ⟨im,hime⟩:∃ im,im=elsewhere [] [] w:=⟨_,rfl⟩
 have hMi:∀ k o v,Mo k o=some v→im k o=some v:=fun k o v hk=>by rw [hime];exact his (hMo k o v hk)
 have hwi:∀ k o v,w.cell? ⟨k,o,none⟩=some v→im k o=some v:=fun k o v hk=>by rw [hime];exact his hk
 show X (mkE Tryz.prog Tryz.f26 Q w (InR [] []) (elsewhere [] [] w) (fun _ _=>False) (fun _=>True) [] B26) _ _
 rw [←hime]
 clear hime
 refine X.go T26_ok 400 _ rfl Tryz.results26 ?_
 conv=>arg 2;cbv
 refine X.call rfl rfl rfl rfl Tryz.call56 (fun N w1 args hN hS ha=>?_)
 obtain rfl:args=[.slice (some ⟨p.b,p.o,none⟩) n cp]:=(Option.some.inj ha).symm
 obtain ⟨cs,hcs⟩:∃ cs,cs=rawL v0.flatten:=⟨_,rfl⟩
 refine (cloneV_ok p.b p.o n cp v0.flatten w1 (by rw [l4,hn]) hn0 (by omega) l5 (fun j v hj=>hS.imm _ _ _ (hwi _ _ _ (l3 j v hj)))).mono fun e w2 hf=>Goes.fresh (cs:=cs) hN hS (by rw [hcs];exact hf) rfl ?_
 clear ha hN hS
 refine X.go T26_ok 400 _ rfl Tryz.results26 ?_
 conv=>arg 2;cbv
 refine X.noFr ?_
 refine X.loop (E:=mkE Tryz.prog Tryz.f26 Q w (InR [] []) im (fun _ _=>False) (NoFr fun _ _=>False) [] B26) (fun g:{g:Nat × Mem × List (List Value) × (Nat→Nat→Prop) // g.1≤n∧ClN w Mo im l g.1 g.2.1 g.2.2.1 g.2.2.2}=>mkE Tryz.prog Tryz.f26 Q w (InR [] []) g.1.2.1 g.1.2.2.2 (NoFr g.1.2.2.2) [] B26)
  (fun g=>⟨[(3,.val (.osl 0 0 n 13 none)),(8,.val (.int .i64 (.nat n))),(9,.val (.int .i64 (.nat g.1.1)))],[⟨true,rawL g.1.2.2.1.flatten,none⟩]⟩) (fun g=>n-g.1.1) (fun _=>⟨rfl,rfl,rfl,rfl⟩) (fun N a w' hN hf hS=>⟨⟨(0,im,v0,fun _ _=>False),Nat.zero_le _,⟨⟨fun _ _ _ h=>h,l1,hr13,fun j x hj=>?_⟩,fun j x h=>absurd h (Nat.not_lt_zero _)⟩⟩,?_⟩) (fun g q hq=>?_)
 ·obtain ⟨vs,k1,k2⟩:=l2 j x hj
  exact ⟨vs,k1,k2.mono mU_old⟩
 ·exact At.again hf hS (by repeat first | exact trivial | refine ⟨⟨_,rfl,.inl ⟨rfl,rfl⟩⟩,?_⟩ | refine ⟨⟨_,rfl,.inr ⟨_,rfl,rfl⟩⟩,?_⟩ | refine ⟨⟨_,rfl,.inr ⟨_,rfl,by simp (disch:=omega) [SV.den,SI.den,wrapU,wrapD]<;>omega⟩⟩,?_⟩) ⟨fun h=>h,(by rw [hcs];exact SubC.refl rawL_bd),rfl,trivial⟩
 obtain ⟨⟨i,im1,vss,D⟩,hi,hI⟩:=g
 simp only at hi hI
 show X (mkE Tryz.prog Tryz.f26 Q w (InR [] []) im1 D (NoFr D) [] B26) _ ⟨[(3,.val (.osl 0 0 n 13 none)),(8,.val (.int .i64 (.nat n))),(9,.val (.int .i64 (.nat i)))],[⟨true,rawL vss.flatten,none⟩]⟩
 obtain ⟨dl,hdl⟩:∃ d,d=rawL vss.flatten:=⟨_,rfl⟩
 rw [←hdl]
 refine X.go T26_ok 400 _ rfl Tryz.results26 ?_
 conv=>arg 2;cbv
 refine X.cond rfl (fun hlt=>?_) (fun hge=>?_)
 ·simp only [SB.T,SI.den] at hlt
  have hlt:i<n:=by omega
  obtain ⟨x,hx⟩:∃ x,l[i]?=some x:=⟨_,List.getElem?_eq_getElem (by omega)⟩
  obtain ⟨vsi,hvi,hri⟩:=hI.rep i x hx
  obtain ⟨t,hvt,hxe,hrg⟩:=VerP.cells hri
  obtain ⟨A,B',hA,hsp⟩:=rows_split hvi fun v hv=>(hI.row v hv).1
  obtain ⟨z,hz⟩:∃ z,z=i*13:=⟨_,rfl⟩
  obtain ⟨ky,b1,b2,b3,⟨gk,gi,gs,gl,q1,q2,q3,q4,m1',m2',m3',m4',fa,fb,fc,fd⟩,ta⟩:=t
  have hset:vss.set i vsi=vss:=by
   obtain ⟨y1,y2⟩:=List.getElem?_eq_some_iff.1 hvi
   rw [←y2];exact List.set_getElem_self y1
  have hpre:∀ g:RegS,(vss.set i (VerC.vals ⟨ky,b1,b2,b3,g,ta⟩)).flatten=(A++[.int .u8 ky,.int .u64 b1,.int .u8 b2,.int .u32 b3])++g.vals++(.int .i64 ta::B'):=fun g=>by rw [hsp];simp [VerC.vals]
  obtain ⟨A2,hA2⟩:∃ a,a=rawL (A++[.int .u8 ky,.int .u64 b1,.int .u8 b2,.int .u32 b3]):=⟨_,rfl⟩
  obtain ⟨B2,hB2⟩:∃ a,a=rawL (.int .i64 ta::B'):=⟨_,rfl⟩
  have hA2l:A2.length=z+4:=by rw [hA2,rawL_len,hz];simp [hA]
  have hdl2:dl=A2++rawL (RegS.vals ⟨gk,gi,gs,gl,q1,q2,q3,q4,m1',m2',m3',m4',fa,fb,fc,fd⟩)++B2:=by
   rw [hdl,hA2,hB2,←hset,hvt,hpre]
   simp [rawL]
  refine X.goX ([(16,.own 0 z),(18,.agg (RegS.svs ⟨gk,gi,gs,gl,q1,q2,q3,q4,m1',m2',m3',m4',fa,fb,fc,fd⟩))]) ([]) T26_ok 400 _ rfl Tryz.results26 (fun pr pe fin hpr hpe hfin=>?_)
  conv=>cbv
  refine ⟨hpr _ (vk_osl (sx:=.osl 0 0 n 13 none) rfl (.inr (.inr ⟨none,rfl⟩)) rfl (fun _=>rfl) Tryz.underlying27 Tryz.sizeOf49 (fun _=>hlt) hz (by simp)),hpr _ ((vk_loadRow (c:=z+4) (gg:=⟨true,dl,none⟩) (row:=rawL (RegS.vals ⟨gk,gi,gs,gl,q1,q2,q3,q4,m1',m2',m3',m4',fa,fb,fc,fd⟩)) rfl Tryz.isAgg41 Tryz.sizeOf41 rfl rfl (fun j d hj=>?_)).conv fun N v hv=>?_),hfin _ _ ?_⟩
  ·show dl[z+4+j]?=some d
   have hj8:j<8:=(List.getElem?_eq_some_iff.1 hj).1
   rw [hdl2,List.append_assoc,List.getElem?_append_right (by omega),hA2l,Nat.add_sub_cancel_left,List.getElem?_append_left (by rw [rawL_len];exact hj8)]
   exact hj
  ·have hd:SV.denL N (RegS.svs ⟨gk,gi,gs,gl,q1,q2,q3,q4,m1',m2',m3',m4',fa,fb,fc,fd⟩)=some (RegS.vals ⟨gk,gi,gs,gl,q1,q2,q3,q4,m1',m2',m3',m4',fa,fb,fc,fd⟩):=rfl
   simp only [SV.den,rawL_denL (vs:=RegS.vals ⟨gk,gi,gs,gl,q1,q2,q3,q4,m1',m2',m3',m4',fa,fb,fc,fd⟩) rfl N] at hv
   simp only [SV.den,hd]
   exact hv
  clear hpr hpe hfin
  refine X.call rfl rfl rfl rfl Tryz.call22 (fun N w1 args hN hS ha=>?_)
  obtain rfl:args=[.agg (RegS.vals ⟨gk,gi,gs,gl,q1,q2,q3,q4,m1',m2',m3',m4',fa,fb,fc,fd⟩).toArray]:=(Option.some.inj ha).symm
  have him1:∀ k o v,Mo k o=some v→im1 k o=some v:=fun k o v hk=>hI.him _ _ _ (hMi _ _ _ hk)
  refine (regCloneN_ok x.reg _ (mU w Mo im1) w1 (fun k o v hk=>hS.imm _ _ _ (mU_in him1 _ _ _ hk)) hrg (hg x (List.mem_of_getElem? hx))).mono fun e w2 hR=>?_
  obtain ⟨⟨vb,he,hmem,pq,cq,h3,hnv⟩,hch⟩:=hR
  obtain ⟨g2,rfl⟩:=RegS.of (hmem (fun k o=>w2.cell? ⟨k,o,none⟩) (fun k o v hk=>(hS.after0 hch).imm _ _ _ (mU_in him1 _ _ _ hk)) (fun k o v _ h=>h))
  have hws:w.heap.size≤w1.heap.size:=hS.chg.size
  obtain ⟨gk2,gi2,gs2,gl2,u1,u2,u3,u4,v1,v2,v3,v4,w1',w2',w3',w4'⟩:=g2
  obtain ⟨D',hD'⟩:∃ D':Nat→Nat→Prop,D'=fun k o=>D k o∨(x.reg.vars≠[]∧VarA pq x.reg.vars.length k o):=⟨_,rfl⟩
  have h':=hS.after0 hch
  refine ⟨_,he,Goes.newMemD D' (NoFr D') hN hS hch (r:=.agg (RegS.svs ⟨gk2,gi2,gs2,gl2,u1,u2,u3,u4,v1,v2,v3,v4,w1',w2',w3',w4'⟩)) rfl rfl (fun r g p hg hp ho j hj hd=>?_) (fun r g hg=>?_) (fun k o hd=>?_) NoFr.loc (fun k o hd=>?_) (fun hold hnew=>?_)⟩
  ·rw [hD'] at hd
   rcases hd with hd | ⟨hv0,b,y,e1,e2,_⟩
   ·exact hS.dd r g p hg hp ho j hj hd
   ·obtain ⟨b',y',e3,e4,_⟩:=hnv hv0
    rw [e1] at e3;cases e3
    have:=hS.lt r p hp
    omega
  ·match r,hg with
   | 0,hg=>cases hg;rfl
  ·rw [hD'] at hd
   rcases hd with hd | ⟨hv0,b,y,e1,rfl,e2,e3⟩
   ·exact h'.dlt k o hd
   ·obtain ⟨b',y',e4,_,e5⟩:=hnv hv0
    rw [e1] at e4;cases e4
    obtain ⟨z',hz'⟩:∃ z,x.reg.vars[o-y]?=some z:=⟨_,List.getElem?_eq_getElem (by omega)⟩
    have:=(e5 _ _ hz').1
    rw [show y+(o-y)=o by omega] at this
    exact .inl (by rw [this];rfl)
  ·rw [hD'] at hd
   rcases hd with hd | ⟨hv0,b,y,e1,rfl,e2,e3⟩
   ·exact h'.res k o hd
   ·obtain ⟨b',y',e4,_,e5⟩:=hnv hv0
    rw [e1] at e4;cases e4
    obtain ⟨z',hz'⟩:∃ z,x.reg.vars[o-y]?=some z:=⟨_,List.getElem?_eq_getElem (by omega)⟩
    have:=(e5 _ _ hz').2
    rwa [show y+(o-y)=o by omega] at this
  obtain ⟨im2,him2⟩:∃ im2,im2=imNew im1 w1 w2:=⟨_,rfl⟩
  have hrep2:RepL (mU w Mo im2) x.reg.toD (RegS.vals ⟨gk2,gi2,gs2,gl2,u1,u2,u3,u4,v1,v2,v3,v4,w1',w2',w3',w4'⟩):=hmem _ (mU_mono fun k o v hk=>by rw [him2];exact hold _ _ _ hk) fun k o v hk hc=>by
   unfold mU
   cases hMk:Mo k o with
   | some u =>
    have:=World.block_lt_of_cell? _ _ (hMo k o u hMk)
    simp only at this
    omega
   | none =>
    simp only
    rw [if_pos (by omega),him2]
    exact hnew _ _ _ hk hc
  have hnv2:x.reg.vars≠[]→∃ b y,pq=some ⟨b,y,none⟩∧w.heap.size≤b∧∀ (t:Nat) (z:Int),x.reg.vars[t]?=some z→im2 b (y+t)=some (.int .i64 z)∧D' b (y+t):=fun hv0=>by
   obtain ⟨b,y,e1,e2,e3⟩:=hnv hv0
   refine ⟨b,y,e1,by omega,fun t z ht=>⟨by rw [him2];exact hnew _ _ _ e2 (e3 t z ht).1,?_⟩⟩
   rw [hD']
   exact .inr ⟨hv0,b,y,e1,rfl,Nat.le_add_right _ _,by have:=(List.getElem?_eq_some_iff.1 ht).1;omega⟩
  have hDD:∀ k o,D k o→D' k o:=fun k o h=>by rw [hD'];exact .inl h
  have hold2:∀ k o v,im1 k o=some v→im2 k o=some v:=fun k o v hk=>by rw [him2];exact hold _ _ _ hk
  show X (mkE Tryz.prog Tryz.f26 Q w (InR [] []) (imNew im1 w1 w2) D' (NoFr D') [] B26) _ _
  rw [←him2]
  clear him2 hold hnew hch he ha hS hN hmem h' hnv hD'
  obtain ⟨dl',hdl'⟩:∃ d,d=setRow dl (z+4) (RegS.svs ⟨gk2,gi2,gs2,gl2,u1,u2,u3,u4,v1,v2,v3,v4,w1',w2',w3',w4'⟩):=⟨_,rfl⟩
  have hdll:z+12≤dl.length:=by rw [hdl2];simp [hA2l,rawL_len,RegS.vals];omega
  refine X.goX ([(20,.own 0 z)]) ([(1010,⟨fun _=>.tup [],[(0,⟨true,dl',none⟩)],[]⟩)]) T26_ok 400 _ rfl Tryz.results26 (fun pr pe fin hpr hpe hfin=>?_)
  conv=>cbv
  refine ⟨hpr _ (vk_osl (sx:=.osl 0 0 n 13 none) rfl (.inr (.inr ⟨none,rfl⟩)) rfl (fun _=>rfl) Tryz.underlying27 Tryz.sizeOf49 (fun _=>hlt) hz (by simp)),hpe _ _ _ _ _ ?_,hfin _ _ ?_⟩
  ·refine EffOk.step T26_ok ?_
   rw [stepE_store (c:=z+4) (v:=.agg (RegS.svs ⟨gk2,gi2,gs2,gl2,u1,u2,u3,u4,v1,v2,v3,v4,w1',w2',w3',w4'⟩)) (g:=⟨true,dl,none⟩) (ti:=ti41) rfl rfl rfl rfl rfl rfl (by show z+4+8≤dl.length;omega) rfl]
   rw [hdl']
   rfl
  clear hpr hpe hfin
  have hdl2':dl'=A2++RegS.svs ⟨gk2,gi2,gs2,gl2,u1,u2,u3,u4,v1,v2,v3,v4,w1',w2',w3',w4'⟩++B2:=by
   rw [hdl',hdl2,←hA2l]
   exact setRow_mid rfl
  obtain ⟨vss',hvss'⟩:∃ v,v=vss.set i (VerC.vals ⟨ky,b1,b2,b3,⟨gk2,gi2,gs2,gl2,u1,u2,u3,u4,v1,v2,v3,v4,w1',w2',w3',w4'⟩,ta⟩):=⟨_,rfl⟩
  have hnew:rawL vss'.flatten=A2++rawL (RegS.vals ⟨gk2,gi2,gs2,gl2,u1,u2,u3,u4,v1,v2,v3,v4,w1',w2',w3',w4'⟩)++B2:=by
   rw [hvss',hpre,hA2,hB2]
   simp [rawL]
  refine X.recell 0 ⟨true,dl',none⟩ (rawL vss'.flatten) rfl (by rw [hnew];show _=dl'.length;rw [hdl2'];simp [rawL_len];rfl) (fun N hN j c c' h1 h2 v hv=>?_) ?_
  ·rw [hnew] at h2
   have h1:dl'[j]?=some c:=h1
   rw [hdl2'] at h1
   refine recell_mid (N:=N) (by rfl) (fun j c c' y1 y2 v hv=>?_) j c c' h1 h2 v hv
   obtain ⟨_,y3⟩:=SV.denL_get (N:=N) (RegS.svs ⟨gk2,gi2,gs2,gl2,u1,u2,u3,u4,v1,v2,v3,v4,w1',w2',w3',w4'⟩) (rfl:SV.denL N (RegS.svs ⟨gk2,gi2,gs2,gl2,u1,u2,u3,u4,v1,v2,v3,v4,w1',w2',w3',w4'⟩)=some (RegS.vals ⟨gk2,gi2,gs2,gl2,u1,u2,u3,u4,v1,v2,v3,v4,w1',w2',w3',w4'⟩))
   obtain ⟨v',y4,y5⟩:=y3 j c y1
   rw [hv] at y4;cases y4
   have y5':(RegS.vals ⟨gk2,gi2,gs2,gl2,u1,u2,u3,u4,v1,v2,v3,v4,w1',w2',w3',w4'⟩)[j]?=some v:=y5
   rw [rawL,List.getElem?_map,y5'] at y2
   obtain rfl:=Option.some.inj y2
   have ho:one? v=true:=List.all_eq_true.1 (show (RegS.vals ⟨gk2,gi2,gs2,gl2,u1,u2,u3,u4,v1,v2,v3,v4,w1',w2',w3',w4'⟩).all one?=true from rfl) v (List.mem_of_getElem? y5)
   simp [SV.den,ho]
  have hI':ClN w Mo im l (i+1) im2 vss' D':=by
   refine ⟨⟨fun k o v hk=>hold2 _ _ _ (hI.him _ _ _ hk),by rw [hvss',List.length_set];exact hI.len,fun v hv=>?_,fun j y hy=>?_⟩,fun j y hj hy=>?_⟩
   ·rw [hvss'] at hv
    rcases List.mem_or_eq_of_mem_set hv with h1 | rfl
    ·exact hI.row v h1
    ·exact ⟨rfl,rfl⟩
   ·by_cases hj:i=j
    ·subst hj
     rw [hx] at hy;cases hy
     refine ⟨_,by rw [hvss',List.getElem?_set,if_pos rfl,if_pos (by rw [hI.len];omega)],?_⟩
     have:=VerP.shut (x:=⟨ky,⟨b1,b2,b3⟩,x.reg,ta⟩) hrep2
     rw [hxe]
     exact this
    ·obtain ⟨vs,h1,h2⟩:=hI.rep j y hy
     exact ⟨vs,by rw [hvss',List.getElem?_set,if_neg hj];exact h1,h2.mono (mU_mono hold2)⟩
   ·by_cases hij:i=j
    ·subst hij
     rw [hx] at hy;cases hy
     exact ⟨_,pq,cq,by rw [hvss',List.getElem?_set,if_pos rfl,if_pos (by rw [hI.len];omega)],h3,hnv2⟩
    ·obtain ⟨vs,p',c',h1,h2,h4⟩:=hI.nv j y (by omega) hy
     refine ⟨vs,p',c',by rw [hvss',List.getElem?_set,if_neg hij];exact h1,h2,fun h0=>?_⟩
     obtain ⟨b,y',e1,e2,e3⟩:=h4 h0
     exact ⟨b,y',e1,e2,fun t z ht=>⟨hold2 _ _ _ (e3 t z ht).1,hDD _ _ (e3 t z ht).2⟩⟩
  refine X.back (fun N a w' hN hf hS=>hq ⟨(i+1,im2,vss',D'),hlt,hI'⟩ a w' (by simp only;omega) ?_)
  exact At.again hf hS (by repeat first | exact trivial | refine ⟨⟨_,rfl,.inl ⟨rfl,rfl⟩⟩,?_⟩ | refine ⟨⟨_,rfl,.inr ⟨_,rfl,rfl⟩⟩,?_⟩ | refine ⟨⟨_,rfl,.inr ⟨_,rfl,by simp (disch:=omega) [SV.den,SI.den,wrapU,wrapD]<;>omega⟩⟩,?_⟩) ⟨fun h=>h,SubC.refl rawL_bd,rfl,trivial⟩
 ·simp only [SB.F,SI.den] at hge
  obtain rfl:i=n:=by omega
  refine X.go T26_ok 400 _ rfl Tryz.results26 ?_
  conv=>arg 2;cbv
  refine X.done T26_ok rfl (fun N w' v hN hS hv=>?_)
  obtain ⟨q0,hq0⟩:∃ p,N[0]?=some p:=⟨_,List.getElem?_eq_getElem (by rw [hS.len];show 0<1;omega)⟩
  simp only [resV,SV.den,hq0,Num.cap,Nat.add_zero,Nat.sub_zero,Option.some.injEq] at hv
  have hext:=hS.ext 0 ⟨true,dl,none⟩ q0 rfl hq0 rfl
  have hdlen:dl.length=i*13:=by rw [hdl,rawL_len,flatten_len (K:=13) fun v hv=>(hI.row v hv).1,hI.len,hn]
  simp only [hdlen] at hext
  have hfq:w.heap.size≤q0.b:=by
   rcases hS.foot 0 ⟨true,dl,none⟩ q0 rfl hq0 rfl with h1 | h1
   ·exact h1
   ·exact absurd (h1 0 (by omega)) inR_nil
  rw [hQ]
  have hall:vss.flatten.all one?=true:=by
   rw [List.all_flatten,List.all_eq_true]
   exact fun v hv=>(hI.row v hv).2
  have hhas:HasC q0 vss.flatten w':=hasC_of hS (r:=0) (vs:=vss.flatten) rfl hq0 (by show SV.denL N dl=_;rw [hdl];exact rawL_denL hall N)
  refine ⟨⟨some ⟨q0.b,q0.o,none⟩,q0.x / 13,by rw [←hv,←hn],fun M h1 h2=>?_,fun _=>⟨q0,rfl,rfl,hfq,⟨hS.lt 0 q0 hq0,hS.room 0 _ q0 rfl hq0 rfl⟩,by omega,vss,hI.len,hhas,fun v hv=>hI.row v hv,fun j x hj=>?_,mU w Mo im1,fun k o v hk=>?_,fun j x hj=>hI.rep j x hj⟩⟩,hS.chg.none⟩
  rotate_left
  ·obtain ⟨vs,p',c',y1,y2,y3⟩:=hI.nv j x (by have:=(List.getElem?_eq_some_iff.1 hj).1;omega) hj
   obtain ⟨vs',y4,y5⟩:=hI.rep j x hj
   rw [y1] at y4;cases y4
   obtain ⟨t,y6,y7,_⟩:=VerP.cells y5
   refine ⟨t,by rw [←y6];exact y1,p',c',by rw [←y6];exact y2,fun h0=>?_⟩
   obtain ⟨b,y',e1,e2,e3⟩:=y3 h0
   refine ⟨b,y',e1,e2,fun u z hu=>⟨hS.imm _ _ _ (e3 u z hu).1,hS.res _ _ (e3 u z hu).2,fun hin=>?_⟩⟩
   obtain ⟨i1,i2,i3⟩:=hin
   have:=hS.dd 0 _ q0 rfl hq0 rfl (y'+u-q0.o) (by omega)
   rw [show q0.o+(y'+u-q0.o)=y'+u by omega,←i1] at this
   exact this (e3 u z hu).2
  ·have him1:∀ k o v,Mo k o=some v→im1 k o=some v:=fun k o v hk=>hI.him _ _ _ (hMi _ _ _ hk)
   have hki:im1 k o=some v:=mU_in him1 _ _ _ hk
   refine ⟨hS.imm _ _ _ hki,fun ⟨i1,i2,i3⟩=>?_,?_⟩
   ·have:=hS.imd 0 _ q0 rfl hq0 rfl (o-q0.o) (by omega)
    rw [show q0.o+(o-q0.o)=o by omega,←i1] at this
    have hki':im1 k o=none:=this
    rw [hki] at hki';cases hki'
   ·unfold mU at hk
    split at hk
    ·rename_i u hu
     cases hk
     exact .inl hu
    ·split at hk
     ·rename_i h1;exact .inr h1
     ·cases hk
  refine SlR.of (K:=13) (vss:=vss) (by omega) (by rw [maxLen_le];omega) hI.len (fun j x hx=>?_) (fun _=>⟨q0.b,q0.o,rfl,fun j vs hj k v hk=>?_⟩)
  ·obtain ⟨vs,y1,y2⟩:=hI.rep j x hx
   refine ⟨vs,y1,y2.mono fun k o v hk=>?_⟩
   unfold mU at hk
   split at hk
   ·rename_i u hu
    cases hk
    exact h1 _ _ _ hu
   ·split at hk
    ·exact h2 _ _ _ (by assumption) (hS.imm _ _ _ hk)
    ·cases hk
  ·have hj13:=(hI.row vs (List.mem_of_getElem? hj)).1
   have hk13:k<13:=by rw [←hj13];exact (List.getElem?_eq_some_iff.1 hk).1
   have hfl:vss.flatten[j*13+k]?=some v:=by
    rw [flatten_get (by decide) fun v hv=>(hI.row v hv).1,show (j*13+k) / 13=j by omega,show (j*13+k) % 13=k by omega,hj]
    exact hk
   refine h2 _ _ _ hfq ?_
   have hall:vss.flatten.all one?=true:=by
    rw [List.all_flatten,List.all_eq_true]
    exact fun v hv=>(hI.row v hv).2
   have:=hasC_of hS (r:=0) (vs:=vss.flatten) rfl hq0 (by show SV.denL N dl=_;rw [hdl];exact rawL_denL hall N) (j*13+k) v hfl
   rwa [←Nat.add_assoc] at this
theorem wclone_ok (Mo:Mem) (p:Num) (l:List VerP) (cp:Nat) (w:World) (hMo:∀ k o v,Mo k o=some v→w.cell? ⟨k,o,none⟩=some v) (h:RowsW Mo p l w) (hl0:l≠[]) (hle:l.length≤1000) (hg:∀ x∈l,¬x.reg.great) :
  Calls Tryz.prog 26 #[.slice (some ⟨p.b,p.o,none⟩) l.length cp] w (VersR Mo l w) :=
 (wcloneF_ok Mo p l cp w hMo h hl0 hle hg).mono fun _ _ ⟨⟨p,c,h1,h2,_⟩,h3⟩=>⟨⟨p,c,h1,h2⟩,h3⟩
end Go.Proofs.YthpbefahaghbjaaGreat
