import Derived.Test.YthaffebapmkppaaGreatRwE
set_option maxHeartbeats 16000000
set_option maxRecDepth 100000
set_option cbv.maxSteps 100000000
namespace Go.Proofs.YthaffebapmkppaaGreat
open Go Go.Eng
theorem cloneI_cV {E:Env} {N0:Nums} {rg:List Rg} {f:Fr} {po:Option Addr} {n co:Nat} {vs:List Value} {t:Nat} {cl:List SV} {ow:Bool} (hP:E.P=Tryz.prog) (hcl:cl=rawL vs) (how:ow=decide (n≠0)) (hle:n≤1000) (hn:vs.length=n*1) (h1:vs.all one?=true) (hA:0<n→∃ b y,po=some ⟨b,y,none⟩∧∀ w:World,(∀ k o v,E.im k o=some v→w.cell? ⟨k,o,none⟩=some v)→∀ (j:Nat) (v:Value),vs[j]?=some v→w.cell? ⟨b,y+j,none⟩=some v) (hev:ev f (.tmp t)=some (.slv po n co)) (hne:0<rg.length) :
  EffOk E N0 rg f (.call { callee:=.value (.func 73),args:=#[.tmp t],argTypes:=#[29] }) (cV po rg.length n 1) (rg++[⟨ow,cl,none⟩]):=by
 subst how
 cases po with
 | some a=>exact cloneI_eff hP hcl (by simp) hle hn h1 hA hev
 | none =>
  have h0:n=0:=by
   rcases Nat.eq_zero_or_pos n with h | h
   ·exact h
   ·obtain ⟨b,y,hb,_⟩:=hA h
    cases hb
  subst h0
  have ho:vs=[]:=List.eq_nil_of_length_eq_zero (by omega)
  subst ho
  obtain rfl:cl=[]:=hcl
  refine EffOk.call (l:=[.slv none 0 co]) (by simp [evL,hev]) (by rw [hP];exact Tryz.call73) fun N w1 args hN hS ha=>?_
  simp only [SV.denL,SV.den,Option.some.injEq] at ha
  rw [←ha,hP]
  refine (cloneIN_ok co w1).mono fun e w' ⟨he,hc⟩=>?_
  obtain ⟨p0,hp0⟩:∃ p,N[0]?=some p:=⟨_,List.getElem?_eq_getElem (by rw [hS.len];exact hne)⟩
  have h':=hS.after0 hc
  exact ⟨_,he,N++[⟨p0.b,0,0⟩],Nums.le_append _ _,by simp [cV,SV.den,one?],Sat.addRoW h' (s0:=w'.heap.size) (fun r p hp=>h'.lt r p hp) (fun h=>absurd h (by simp)) (h'.lt 0 p0 hp0) (fun j c hj=>by simp at hj)⟩
theorem cloneCell_cV {E:Env} {N0:Nums} {rg:List Rg} {f:Fr} {po:Option Addr} {n co:Nat} {vs:List Value} {t:Nat} {cl:List SV} {ow:Bool} (hP:E.P=Tryz.prog) (hcl:cl=rawL vs) (how:ow=decide (n≠0)) (hle:n≤1000) (hn:vs.length=n*4) (h1:vs.all one?=true) (hA:0<n→∃ b y,po=some ⟨b,y,none⟩∧∀ w:World,(∀ k o v,E.im k o=some v→w.cell? ⟨k,o,none⟩=some v)→∀ (j:Nat) (v:Value),vs[j]?=some v→w.cell? ⟨b,y+j,none⟩=some v) (hev:ev f (.tmp t)=some (.slv po n co)) (hne:0<rg.length) :
  EffOk E N0 rg f (.call { callee:=.value (.func 74),args:=#[.tmp t],argTypes:=#[31] }) (cV po rg.length n 4) (rg++[⟨ow,cl,none⟩]):=by
 subst how
 cases po with
 | some a=>exact cloneCell_eff hP hcl (by simp) hle hn h1 hA hev
 | none =>
  have h0:n=0:=by
   rcases Nat.eq_zero_or_pos n with h | h
   ·exact h
   ·obtain ⟨b,y,hb,_⟩:=hA h
    cases hb
  subst h0
  have ho:vs=[]:=List.eq_nil_of_length_eq_zero (by omega)
  subst ho
  obtain rfl:cl=[]:=hcl
  refine EffOk.call (l:=[.slv none 0 co]) (by simp [evL,hev]) (by rw [hP];exact Tryz.call74) fun N w1 args hN hS ha=>?_
  simp only [SV.denL,SV.den,Option.some.injEq] at ha
  rw [←ha,hP]
  refine (cloneCellN_ok co w1).mono fun e w' ⟨he,hc⟩=>?_
  obtain ⟨p0,hp0⟩:∃ p,N[0]?=some p:=⟨_,List.getElem?_eq_getElem (by rw [hS.len];exact hne)⟩
  have h':=hS.after0 hc
  exact ⟨_,he,N++[⟨p0.b,0,0⟩],Nums.le_append _ _,by simp [cV,SV.den,one?],Sat.addRoW h' (s0:=w'.heap.size) (fun r p hp=>h'.lt r p hp) (fun h=>absurd h (by simp)) (h'.lt 0 p0 hp0) (fun j c hj=>by simp at hj)⟩
theorem cloneMark_cV {E:Env} {N0:Nums} {rg:List Rg} {f:Fr} {po:Option Addr} {n co:Nat} {vs:List Value} {t:Nat} {cl:List SV} {ow:Bool} (hP:E.P=Tryz.prog) (hcl:cl=rawL vs) (how:ow=decide (n≠0)) (hle:n≤1000) (hn:vs.length=n*3) (h1:vs.all one?=true) (hA:0<n→∃ b y,po=some ⟨b,y,none⟩∧∀ w:World,(∀ k o v,E.im k o=some v→w.cell? ⟨k,o,none⟩=some v)→∀ (j:Nat) (v:Value),vs[j]?=some v→w.cell? ⟨b,y+j,none⟩=some v) (hev:ev f (.tmp t)=some (.slv po n co)) (hne:0<rg.length) :
  EffOk E N0 rg f (.call { callee:=.value (.func 75),args:=#[.tmp t],argTypes:=#[32] }) (cV po rg.length n 3) (rg++[⟨ow,cl,none⟩]):=by
 subst how
 cases po with
 | some a=>exact cloneMark_eff hP hcl (by simp) hle hn h1 hA hev
 | none =>
  have h0:n=0:=by
   rcases Nat.eq_zero_or_pos n with h | h
   ·exact h
   ·obtain ⟨b,y,hb,_⟩:=hA h
    cases hb
  subst h0
  have ho:vs=[]:=List.eq_nil_of_length_eq_zero (by omega)
  subst ho
  obtain rfl:cl=[]:=hcl
  refine EffOk.call (l:=[.slv none 0 co]) (by simp [evL,hev]) (by rw [hP];exact Tryz.call75) fun N w1 args hN hS ha=>?_
  simp only [SV.denL,SV.den,Option.some.injEq] at ha
  rw [←ha,hP]
  refine (cloneMarkN_ok co w1).mono fun e w' ⟨he,hc⟩=>?_
  obtain ⟨p0,hp0⟩:∃ p,N[0]?=some p:=⟨_,List.getElem?_eq_getElem (by rw [hS.len];exact hne)⟩
  have h':=hS.after0 hc
  exact ⟨_,he,N++[⟨p0.b,0,0⟩],Nums.le_append _ _,by simp [cV,SV.den,one?],Sat.addRoW h' (s0:=w'.heap.size) (fun r p hp=>h'.lt r p hp) (fun h=>absurd h (by simp)) (h'.lt 0 p0 hp0) (fun j c hj=>by simp at hj)⟩
theorem cloneDone_cV {E:Env} {N0:Nums} {rg:List Rg} {f:Fr} {po:Option Addr} {n co:Nat} {vs:List Value} {t:Nat} {cl:List SV} {ow:Bool} (hP:E.P=Tryz.prog) (hcl:cl=rawL vs) (how:ow=decide (n≠0)) (hle:n≤1000) (hn:vs.length=n*6) (h1:vs.all one?=true) (hA:0<n→∃ b y,po=some ⟨b,y,none⟩∧∀ w:World,(∀ k o v,E.im k o=some v→w.cell? ⟨k,o,none⟩=some v)→∀ (j:Nat) (v:Value),vs[j]?=some v→w.cell? ⟨b,y+j,none⟩=some v) (hev:ev f (.tmp t)=some (.slv po n co)) (hne:0<rg.length) :
  EffOk E N0 rg f (.call { callee:=.value (.func 76),args:=#[.tmp t],argTypes:=#[30] }) (cV po rg.length n 6) (rg++[⟨ow,cl,none⟩]):=by
 subst how
 cases po with
 | some a=>exact cloneDone_eff hP hcl (by simp) hle hn h1 hA hev
 | none =>
  have h0:n=0:=by
   rcases Nat.eq_zero_or_pos n with h | h
   ·exact h
   ·obtain ⟨b,y,hb,_⟩:=hA h
    cases hb
  subst h0
  have ho:vs=[]:=List.eq_nil_of_length_eq_zero (by omega)
  subst ho
  obtain rfl:cl=[]:=hcl
  refine EffOk.call (l:=[.slv none 0 co]) (by simp [evL,hev]) (by rw [hP];exact Tryz.call76) fun N w1 args hN hS ha=>?_
  simp only [SV.denL,SV.den,Option.some.injEq] at ha
  rw [←ha,hP]
  refine (cloneDoneN_ok co w1).mono fun e w' ⟨he,hc⟩=>?_
  obtain ⟨p0,hp0⟩:∃ p,N[0]?=some p:=⟨_,List.getElem?_eq_getElem (by rw [hS.len];exact hne)⟩
  have h':=hS.after0 hc
  exact ⟨_,he,N++[⟨p0.b,0,0⟩],Nums.le_append _ _,by simp [cV,SV.den,one?],Sat.addRoW h' (s0:=w'.heap.size) (fun r p hp=>h'.lt r p hp) (fun h=>absurd h (by simp)) (h'.lt 0 p0 hp0) (fun j c hj=>by simp at hj)⟩
theorem ones_of {α:Type} {f:α→List Dt} {l:List α} {M:Mem} {vss:List (List Value)} (hl:vss.length=l.length) (hr:∀ (i:Nat) (x:α),l[i]?=some x→∃ vs,vss[i]?=some vs∧RepL M (f x) vs) (h1:∀ x vs,RepL M (f x) vs→vs.all one?=true):vss.flatten.all one?=true:=by
 rw [List.all_eq_true]
 intro v hv
 obtain ⟨vs,h2,h3⟩:=List.mem_flatten.1 hv
 obtain ⟨i,hi,rfl⟩:=List.getElem_of_mem h2
 obtain ⟨vs',h4,h5⟩:=hr i l[i] (List.getElem?_eq_getElem (by omega))
 rw [List.getElem?_eq_getElem hi] at h4
 cases h4
 exact List.all_eq_true.1 (h1 _ _ h5) v h3
def mU (w:World) (Mo im:Mem):Mem:=fun k o=>match Mo k o with
 | some v=>some v
 | none=>if w.heap.size≤k then im k o else none
theorem mU_old {w:World} {Mo im:Mem}:∀ k o v,Mo k o=some v→mU w Mo im k o=some v:=fun k o v h=>by simp [mU,h]
theorem mU_in {w:World} {Mo im:Mem} (h:∀ k o v,Mo k o=some v→im k o=some v):∀ k o v,mU w Mo im k o=some v→im k o=some v:=fun k o v hv=>by
 unfold mU at hv
 split at hv
 ·rename_i u hu
  cases hv
  exact h _ _ _ hu
 ·split at hv
  ·exact hv
  ·cases hv
theorem mU_mono {w:World} {Mo im im':Mem} (h:∀ k o v,im k o=some v→im' k o=some v):∀ k o v,mU w Mo im k o=some v→mU w Mo im' k o=some v:=fun k o v hv=>by
 unfold mU at hv ⊢
 split at hv
 ·rename_i u hu
  simp only [hv]
 ·rename_i hu
  split at hv
  ·rename_i hk
   simp only [hk,if_true]
   exact h _ _ _ hv
  ·cases hv
theorem cV_sl {p:Option Addr} {r n K:Nat} {N:Nums} {v:Value} (h0:p=none→n=0) (hv:(cV p r n K).den N=some v):∃ q c,v=.slice q n c:=by
 cases p with
 | none =>
  rw [h0 rfl] at hv ⊢
  simp [cV,SV.den,one?] at hv
  exact ⟨none,0,hv.symm⟩
 | some a =>
  simp only [cV,SV.den] at hv
  cases hp:N[r]? with
  | none=>simp [hp] at hv
  | some q =>
   simp only [hp,Option.some.injEq] at hv
   exact ⟨_,_,hv.symm⟩
structure ClI (w:World) (Mo im0:Mem) (l:List DoneP) (im:Mem) (vss:List (List Value)):Prop where
 him:∀ k o v,im0 k o=some v→im k o=some v
 len:vss.length=l.length
 six:∀ v∈vss,v.length=6
 rep:∀ (j:Nat) (x:DoneP),l[j]?=some x→∃ vs,vss[j]?=some vs∧RepL (mU w Mo im) x.toD vs
theorem rawL_bd {vs:List Value} {m:Nat}:(rawL vs).all (bd m)=true:=List.all_eq_true.2 fun c hc=>by
 obtain ⟨v,_,rfl⟩:=List.mem_map.1 hc
 rfl
theorem cV_cells (p:Option Addr) (r n K:Nat):(cV p r n K).cells=[cV p r n K]∧SV.one (cV p r n K)=true:=by
 cases p<;>exact ⟨rfl,rfl⟩
theorem flat_set {α:Type} {K:Nat} (hK:0<K) {vss:List (List α)} (h:∀ v∈vss,v.length=K) {i k:Nat} {vs:List α} (hi:vss[i]?=some vs) (hk:k<K) (u:α):(vss.set i (vs.set k u)).flatten=vss.flatten.set (i*K+k) u:=by
 have hil:=(List.getElem?_eq_some_iff.1 hi).1
 have hvs:vs.length=K:=h vs (List.mem_of_getElem? hi)
 have h':∀ v∈vss.set i (vs.set k u),v.length=K:=fun v hv=>by
  rcases List.mem_or_eq_of_mem_set hv with h1 | rfl
  ·exact h v h1
  ·rw [List.length_set,hvs]
 have hd:∀ j,(i*K+k=j↔i=j / K∧k=j % K):=fun j=>by
  constructor
  ·rintro rfl
   rw [Nat.mul_comm,Nat.mul_add_div hK,Nat.mul_add_mod,Nat.div_eq_of_lt hk,Nat.mod_eq_of_lt hk]
   exact ⟨rfl,rfl⟩
  ·rintro ⟨rfl,rfl⟩
   rw [Nat.mul_comm];exact Nat.div_add_mod j K
 refine List.ext_getElem? fun j=>?_
 rw [flatten_get hK h',List.getElem?_set,List.getElem?_set,flatten_get hK h,flatten_len h]
 by_cases hj:i*K+k=j
 ·obtain ⟨h1,h2⟩:=(hd j).1 hj
  rw [if_pos hj,if_pos h1,if_pos hil,if_pos]
  ·rw [Option.bind_some,List.getElem?_set,if_pos h2,if_pos (by omega)]
  ·have:i*K+K≤vss.length*K:=by rw [←Nat.succ_mul];exact Nat.mul_le_mul_right K hil
   omega
 ·rw [if_neg hj]
  by_cases h1:i=j / K
  ·rw [if_pos h1,if_pos hil,←h1,hi,Option.bind_some,Option.bind_some,List.getElem?_set,if_neg fun h2=>hj ((hd j).2 ⟨h1,h2⟩)]
  ·rw [if_neg h1]
theorem DoneP.rep {x:DoneP} {M:Mem} {p:Option Addr} {c:Nat} (h:SlR M p c 1 (x.reply.vars.map i64D)):RepL M x.toD [.int .u8 x.client,.int .u64 x.seq,.int .i64 x.reply.err,.int .u64 x.reply.inc,.int .i64 x.reply.state,.slice p x.reply.vars.length c]:=by
 simp only [DoneP.toD,RepP.toD,RepL]
 exact ⟨_,_,rfl,by simp [RepC],_,_,rfl,by simp [RepC],_,_,rfl,by simp [RepC],_,_,rfl,by simp [RepC],_,_,rfl,by simp [RepC],_,_,rfl,RepC.mk (by simp) sz_i64 h,rfl⟩
def capV (p:Option Addr) (c:Nat):Nat:=match p with
 | none=>0
 | some _=>c
theorem cV_val {p:Option Addr} {r n K:Nat} {N:Nums} {q:Num} (hq:N[r]?=some q) (h0:p=none→n=0):(cV p r n K).den N=some (.slice (p.map fun _=>⟨q.b,q.o,none⟩) n (capV p (q.x / K))):=by
 cases p with
 | none=>rw [h0 rfl];simp [cV,capV,SV.den,one?]
 | some a=>simp [cV,capV,SV.den,hq,Num.cap]
theorem cloned {α:Type} {f:α→List Dt} {l:List α} {P:Program} {fn:Func} {Q:Ending→World→Prop} {w w':World} {im:Mem} {D:Nat→Nat→Prop} {Rr:World→Prop} {N0 N:Nums} {B:SchT} {rg:List Rg} {r n K:Nat} {q:Num} {p:Option Addr} {vss:List (List Value)} {M:Mem}
  (hS:Sat (mkE P fn Q w (InR [] []) im D Rr N0 B).toEnv N rg w') (hr:rg[r]?=some ⟨decide (n≠0),rawL vss.flatten,none⟩) (hq:N[r]?=some q) (hK:0<K) (hn:n=l.length) (hle:n≤maxLen) (hl:vss.length=l.length) (hk:∀ v∈vss,v.length=K) (hp:p=none→n=0)
  (hrep:∀ (i:Nat) (x:α),l[i]?=some x→∃ vs,vss[i]?=some vs∧RepL M (f x) vs) (hM:∀ j v,w.heap.size≤q.b→w'.cell? ⟨q.b,q.o+j,none⟩=some v→j<n*K→M q.b (q.o+j)=some v):SlR M (p.map fun _=>⟨q.b,q.o,none⟩) (capV p (q.x / K)) K (l.map f):=by
 have hfl:(rawL vss.flatten).length=n*K:=by rw [rawL_len,flatten_len hk,hl,hn]
 cases p with
 | none =>
  have h0:=hp rfl
  have:l=[]:=List.eq_nil_of_length_eq_zero (by omega)
  subst this
  exact ⟨⟨by simp,by simp⟩,.inl rfl⟩
 | some a =>
  by_cases h0:n=0
  ·have:l=[]:=List.eq_nil_of_length_eq_zero (by omega)
   subst this
   exact ⟨⟨by simp,by simp⟩,.inl rfl⟩
  rw [decide_eq_true h0] at hr
  have hx:=hS.ext r _ q hr hq rfl
  rw [hfl] at hx
  refine SlR.of (vss:=vss) (by rw [←hn];exact (Nat.le_div_iff_mul_le hK).2 hx) (by omega) hl hrep fun _=>⟨q.b,q.o,rfl,fun i vs hi j v hj=>?_⟩
  have hb:w.heap.size≤q.b:=by
   rcases hS.foot r _ _ hr hq rfl with h | h
   ·exact h
   ·exact absurd (h 0 (by have:0<n*K:=Nat.mul_pos (by omega) hK;omega)) inR_nil
  have hil:=(List.getElem?_eq_some_iff.1 hi).1
  have hjK:j<K:=by
   have h1:=(List.getElem?_eq_some_iff.1 hj).1
   rwa [hk vs (List.mem_of_getElem? hi)] at h1
  have hf:vss.flatten[i*K+j]?=some v:=by
   rw [flatten_get hK hk,show (i*K+j) / K=i by rw [Nat.mul_comm i K,Nat.mul_add_div hK,Nat.div_eq_of_lt hjK,Nat.add_zero],show (i*K+j) % K=j by rw [Nat.mul_comm i K,Nat.mul_add_mod,Nat.mod_eq_of_lt hjK],hi]
   exact hj
  obtain ⟨u,h1,h2⟩:=hS.cell r _ q hr hq (i*K+j) (.raw v) (by show (rawL vss.flatten)[i*K+j]?=_;rw [rawL,List.getElem?_map,hf];rfl)
  have hu:u=v:=by
   simp only [SV.den] at h1
   split at h1
   ·exact (Option.some.inj h1).symm
   ·cases h1
  rw [Nat.add_assoc]
  refine hM _ _ hb (by rw [h2,hu]) ?_
  have:i*K+K≤n*K:=by rw [←Nat.succ_mul];exact Nat.mul_le_mul_right K (by omega)
  omega
theorem RegP.rep {k i s l:Int} {v:List Int} {o:List DoneP} {u:List CellP} {m:List MarkP} {M:Mem} {p1 p2 p3 p4:Option Addr} {c1 c2 c3 c4:Nat} (h1:SlR M p1 c1 1 (v.map i64D)) (h2:SlR M p2 c2 6 (o.map DoneP.toD)) (h3:SlR M p3 c3 4 (u.map CellP.toD)) (h4:SlR M p4 c4 3 (m.map MarkP.toD)) :
  RepL M (RegP.toD ⟨k,i,s,v,o,u,l,m⟩) [.int .u8 k,.int .u64 i,.int .i64 s,.slice p1 v.length c1,.slice p2 o.length c2,.slice p3 u.length c3,.int .u64 l,.slice p4 m.length c4]:=by
 simp only [RegP.toD,RepL]
 exact ⟨_,_,rfl,by simp [RepC],_,_,rfl,by simp [RepC],_,_,rfl,by simp [RepC],_,_,rfl,RepC.mk (by simp) sz_i64 h1,_,_,rfl,RepC.mk (by simp) sz_done h2,_,_,rfl,RepC.mk (by simp) sz_cell h3,_,_,rfl,by simp [RepC],_,_,rfl,RepC.mk (by simp) sz_mark h4,rfl⟩
def RegC (a:RegP) (Mo:Mem) (w:World):Ending→World→Prop:=fun e w' =>
 (∃ vb,e=.returned (.agg vb.toArray)∧∀ M:Mem,(∀ k o v,Mo k o=some v→M k o=some v)→(∀ k o v,w.heap.size≤k→w'.cell? ⟨k,o,none⟩=some v→M k o=some v)→RepL M a.toD vb)∧Chg (fun _ _=>False) w w'
theorem regClone_ok (a:RegP) (va:List Value) (Mo:Mem) (w:World) (hMo:∀ k o v,Mo k o=some v→w.cell? ⟨k,o,none⟩=some v) (ha:RepL Mo a.toD va) (hgr:¬a.great) :
  Calls Tryz.prog 42 #[.agg va.toArray] w (RegC a Mo w):=by
 obtain ⟨Q,hQ⟩:∃ Q:Ending→World→Prop,Q=RegC a Mo w:=⟨_,rfl⟩
 rw [←hQ]
 obtain ⟨p1,c1,p2,c2,p3,c3,p4,c4,rfl,sa1,sa2,sa3,sa4⟩:=RegP.open ha
 clear ha
 obtain ⟨k1,i1,s1,v1,o1,u1,l1,m1⟩:=a
 simp only [RegP.great,not_or,Nat.not_lt,not_exists,not_and] at hgr
 simp only at sa1 sa2 sa3 sa4 ⊢
 obtain ⟨g1,g2,g3,g4,g5⟩:=hgr
 obtain ⟨vs1,hl1,hk1,hr1,hm1⟩:=sa1.rows (K:=1) fun x vs h=>(i64_vals h).1
 obtain ⟨vs2,hl2,hk2,hr2,hm2⟩:=sa2.rows (K:=6) fun x vs h=>(done_vals h).1
 obtain ⟨vs3,hl3,hk3,hr3,hm3⟩:=sa3.rows (K:=4) fun x vs h=>(cell_vals h).1
 obtain ⟨vs4,hl4,hk4,hr4,hm4⟩:=sa4.rows (K:=3) fun x vs h=>(mark_vals h).1
 obtain ⟨n1,hn1⟩:∃ n,n=v1.length:=⟨_,rfl⟩
 obtain ⟨n2,hn2⟩:∃ n,n=o1.length:=⟨_,rfl⟩
 obtain ⟨n3,hn3⟩:∃ n,n=u1.length:=⟨_,rfl⟩
 obtain ⟨n4,hn4⟩:∃ n,n=m1.length:=⟨_,rfl⟩
 rw [←hn1,←hn2,←hn3,←hn4]
 obtain ⟨d1,hd1⟩:∃ c,c=rawL vs1.flatten:=⟨_,rfl⟩
 obtain ⟨d2,hd2⟩:∃ c,c=rawL vs2.flatten:=⟨_,rfl⟩
 obtain ⟨d3,hd3⟩:∃ c,c=rawL vs3.flatten:=⟨_,rfl⟩
 obtain ⟨d4,hd4⟩:∃ c,c=rawL vs4.flatten:=⟨_,rfl⟩
 obtain ⟨w1,hw1⟩:∃ b,b=decide (n1≠0):=⟨_,rfl⟩
 obtain ⟨w2,hw2⟩:∃ b,b=decide (n2≠0):=⟨_,rfl⟩
 obtain ⟨w3,hw3⟩:∃ b,b=decide (n3≠0):=⟨_,rfl⟩
 obtain ⟨w4,hw4⟩:∃ b,b=decide (n4≠0):=⟨_,rfl⟩
 refine X.begin (rg:=[]) (N:=[]) (ss:=[.agg [.int .u8 (.v k1),.int .u64 (.v i1),.int .i64 (.v s1),.slv p1 n1 c1,.slv p2 n2 c2,.slv p3 n3 c3,.int .u64 (.v l1),.slv p4 n4 c4]]) Tryz.func42 rfl B42_ok rfl rfl Sat.std0 ?_
 obtain ⟨im,hime⟩:∃ im,im=elsewhere [] [] w:=⟨_,rfl⟩
 have him:∀ k o v,Mo k o=some v→im k o=some v:=fun k o v h=>by rw [hime];exact his (hMo k o v h)
 have hA:∀ {p:Option Addr} {n K:Nat} {vss:List (List Value)} {m:Nat},0<K→(∀ v∈vss,v.length=K)→m=n→(0<m→∃ b y,p=some ⟨b,y,none⟩∧∀ (i:Nat) (vs:List Value),vss[i]?=some vs→∀ (j:Nat) (v:Value),vs[j]?=some v→Mo b (y+i*K+j)=some v) →
   (0<n→∃ b y,p=some ⟨b,y,none⟩∧∀ w':World,(∀ k o v,im k o=some v→w'.cell? ⟨k,o,none⟩=some v)→∀ (j:Nat) (v:Value),vss.flatten[j]?=some v→w'.cell? ⟨b,y+j,none⟩=some v):=fun {p n K vss m} hK hv hmn h hp=>by
  subst hmn
  obtain ⟨b,y,hb,h2⟩:=h hp
  refine ⟨b,y,hb,fun w' hw j v hj=>?_⟩
  rw [flatten_get hK hv,Option.bind_eq_some_iff] at hj
  obtain ⟨vs,h3,h4⟩:=hj
  have:=hw _ _ _ (him _ _ _ (h2 _ _ h3 _ _ h4))
  rwa [Nat.add_assoc,Nat.mul_comm,Nat.div_add_mod] at this
 show X (mkE Tryz.prog Tryz.f42 Q w (InR [] []) (elsewhere [] [] w) (fun _ _=>False) (fun _=>True) [] B42) _ _
 rw [←hime]
 refine X.go T42_ok 400 _ rfl Tryz.results42 ?_
 conv=>arg 2;cbv
 refine (fun (h:∀ k,X (mkE Tryz.prog Tryz.f42 Q w (InR [] []) im (fun _ _=>False) (fun _=>True) [] B42) k ⟨[(2,.val (.own 1 0)),(1,.val (.own 0 0))],[⟨true,[.int .u8 (.v k1),.int .u64 (.v i1),.int .i64 (.v s1),cV p1 2 n1 1,cV p2 5 n2 6,cV p3 3 n3 4,.int .u64 (.v l1),cV p4 4 n4 3],none⟩,⟨true,[.int .u8 (.lit 0),.int .u64 (.lit 0),.int .i64 (.lit 0),.raw (.slice none 0 0),.raw (.slice none 0 0),.raw (.slice none 0 0),.int .u64 (.lit 0),.raw (.slice none 0 0)],none⟩,⟨w1,d1,none⟩,⟨w3,d3,none⟩,⟨w4,d4,none⟩,⟨w2,d2,none⟩]⟩→X (mkE Tryz.prog Tryz.f42 Q w (InR [] []) im (fun _ _=>False) (fun _=>True) [] B42) (It.code _::k) _)=>h _ ?_) (fun k hk=>?_)
 rotate_left
 ·have e1:=fun {rg:List Rg} {f:Fr} {t:Nat}=>cloneI_cV (E:=(mkE Tryz.prog Tryz.f42 Q w (InR [] []) im (fun _ _=>False) (fun _=>True) [] B42).toEnv) (N0:=[]) (rg:=rg) (f:=f) (t:=t) (po:=p1) (co:=c1) rfl hd1 hw1 (by omega) (by rw [flatten_len hk1];omega) (ones_of hl1 hr1 fun x vs h=>(i64_vals h).2.1) (hA (by decide) hk1 hn1.symm hm1)
  have e2:=fun {rg:List Rg} {f:Fr} {t:Nat}=>cloneDone_cV (E:=(mkE Tryz.prog Tryz.f42 Q w (InR [] []) im (fun _ _=>False) (fun _=>True) [] B42).toEnv) (N0:=[]) (rg:=rg) (f:=f) (t:=t) (po:=p2) (co:=c2) rfl hd2 hw2 (by omega) (by rw [flatten_len hk2];omega) (ones_of hl2 hr2 fun x vs h=>(done_vals h).2) (hA (by decide) hk2 hn2.symm hm2)
  have e3:=fun {rg:List Rg} {f:Fr} {t:Nat}=>cloneCell_cV (E:=(mkE Tryz.prog Tryz.f42 Q w (InR [] []) im (fun _ _=>False) (fun _=>True) [] B42).toEnv) (N0:=[]) (rg:=rg) (f:=f) (t:=t) (po:=p3) (co:=c3) rfl hd3 hw3 (by omega) (by rw [flatten_len hk3];omega) (ones_of hl3 hr3 fun x vs h=>(cell_vals h).2.1) (hA (by decide) hk3 hn3.symm hm3)
  have e4:=fun {rg:List Rg} {f:Fr} {t:Nat}=>cloneMark_cV (E:=(mkE Tryz.prog Tryz.f42 Q w (InR [] []) im (fun _ _=>False) (fun _=>True) [] B42).toEnv) (N0:=[]) (rg:=rg) (f:=f) (t:=t) (po:=p4) (co:=c4) rfl hd4 hw4 (by omega) (by rw [flatten_len hk4];omega) (ones_of hl4 hr4 fun x vs h=>(mark_vals h).2.1) (hA (by decide) hk4 hn4.symm hm4)
  clear hA him hMo sa1 sa2 sa3 sa4 hr1 hr2 hr3 hr4 hm1 hm2 hm3 hm4 hQ hime
  rcases p1 with _ | a1<;>rcases p3 with _ | a3<;>rcases p4 with _ | a4<;>rcases p2 with _ | a2
  ·skip
   refine X.goX ([]) ([(6,⟨fun rg=>cV none rg.length n1 1,[],[⟨w1,d1,none⟩]⟩),(9,⟨fun rg=>cV none rg.length n3 4,[],[⟨w3,d3,none⟩]⟩),(12,⟨fun rg=>cV none rg.length n4 3,[],[⟨w4,d4,none⟩]⟩),(15,⟨fun rg=>cV none rg.length n2 6,[],[⟨w2,d2,none⟩]⟩)]) T42_ok 1 _ rfl Tryz.results42 (fun pr pe fin hpr hpe hfin=>?_)
   conv=>cbv
   refine ⟨hpe _ _ _ _ _ (e1 rfl (Nat.succ_pos _)),hpe _ _ _ _ _ (e3 rfl (Nat.succ_pos _)),hpe _ _ _ _ _ (e4 rfl (Nat.succ_pos _)),hpe _ _ _ _ _ (e2 rfl (Nat.succ_pos _)),?_⟩
   repeat refine ⟨rfl,?_⟩
   exact hfin _ _ (X.less [1,2] hk)
  ·skip
   refine X.goX ([]) ([(6,⟨fun rg=>cV none rg.length n1 1,[],[⟨w1,d1,none⟩]⟩),(9,⟨fun rg=>cV none rg.length n3 4,[],[⟨w3,d3,none⟩]⟩),(12,⟨fun rg=>cV none rg.length n4 3,[],[⟨w4,d4,none⟩]⟩),(15,⟨fun rg=>cV (some a2) rg.length n2 6,[],[⟨w2,d2,none⟩]⟩)]) T42_ok 1 _ rfl Tryz.results42 (fun pr pe fin hpr hpe hfin=>?_)
   conv=>cbv
   refine ⟨hpe _ _ _ _ _ (e1 rfl (Nat.succ_pos _)),hpe _ _ _ _ _ (e3 rfl (Nat.succ_pos _)),hpe _ _ _ _ _ (e4 rfl (Nat.succ_pos _)),hpe _ _ _ _ _ (e2 rfl (Nat.succ_pos _)),?_⟩
   repeat refine ⟨rfl,?_⟩
   exact hfin _ _ (X.less [1,2] hk)
  ·skip
   refine X.goX ([]) ([(6,⟨fun rg=>cV none rg.length n1 1,[],[⟨w1,d1,none⟩]⟩),(9,⟨fun rg=>cV none rg.length n3 4,[],[⟨w3,d3,none⟩]⟩),(12,⟨fun rg=>cV (some a4) rg.length n4 3,[],[⟨w4,d4,none⟩]⟩),(15,⟨fun rg=>cV none rg.length n2 6,[],[⟨w2,d2,none⟩]⟩)]) T42_ok 1 _ rfl Tryz.results42 (fun pr pe fin hpr hpe hfin=>?_)
   conv=>cbv
   refine ⟨hpe _ _ _ _ _ (e1 rfl (Nat.succ_pos _)),hpe _ _ _ _ _ (e3 rfl (Nat.succ_pos _)),hpe _ _ _ _ _ (e4 rfl (Nat.succ_pos _)),hpe _ _ _ _ _ (e2 rfl (Nat.succ_pos _)),?_⟩
   repeat refine ⟨rfl,?_⟩
   exact hfin _ _ (X.less [1,2] hk)
  ·skip
   refine X.goX ([]) ([(6,⟨fun rg=>cV none rg.length n1 1,[],[⟨w1,d1,none⟩]⟩),(9,⟨fun rg=>cV none rg.length n3 4,[],[⟨w3,d3,none⟩]⟩),(12,⟨fun rg=>cV (some a4) rg.length n4 3,[],[⟨w4,d4,none⟩]⟩),(15,⟨fun rg=>cV (some a2) rg.length n2 6,[],[⟨w2,d2,none⟩]⟩)]) T42_ok 1 _ rfl Tryz.results42 (fun pr pe fin hpr hpe hfin=>?_)
   conv=>cbv
   refine ⟨hpe _ _ _ _ _ (e1 rfl (Nat.succ_pos _)),hpe _ _ _ _ _ (e3 rfl (Nat.succ_pos _)),hpe _ _ _ _ _ (e4 rfl (Nat.succ_pos _)),hpe _ _ _ _ _ (e2 rfl (Nat.succ_pos _)),?_⟩
   repeat refine ⟨rfl,?_⟩
   exact hfin _ _ (X.less [1,2] hk)
  ·skip
   refine X.goX ([]) ([(6,⟨fun rg=>cV none rg.length n1 1,[],[⟨w1,d1,none⟩]⟩),(9,⟨fun rg=>cV (some a3) rg.length n3 4,[],[⟨w3,d3,none⟩]⟩),(12,⟨fun rg=>cV none rg.length n4 3,[],[⟨w4,d4,none⟩]⟩),(15,⟨fun rg=>cV none rg.length n2 6,[],[⟨w2,d2,none⟩]⟩)]) T42_ok 1 _ rfl Tryz.results42 (fun pr pe fin hpr hpe hfin=>?_)
   conv=>cbv
   refine ⟨hpe _ _ _ _ _ (e1 rfl (Nat.succ_pos _)),hpe _ _ _ _ _ (e3 rfl (Nat.succ_pos _)),hpe _ _ _ _ _ (e4 rfl (Nat.succ_pos _)),hpe _ _ _ _ _ (e2 rfl (Nat.succ_pos _)),?_⟩
   repeat refine ⟨rfl,?_⟩
   exact hfin _ _ (X.less [1,2] hk)
  ·skip
   refine X.goX ([]) ([(6,⟨fun rg=>cV none rg.length n1 1,[],[⟨w1,d1,none⟩]⟩),(9,⟨fun rg=>cV (some a3) rg.length n3 4,[],[⟨w3,d3,none⟩]⟩),(12,⟨fun rg=>cV none rg.length n4 3,[],[⟨w4,d4,none⟩]⟩),(15,⟨fun rg=>cV (some a2) rg.length n2 6,[],[⟨w2,d2,none⟩]⟩)]) T42_ok 1 _ rfl Tryz.results42 (fun pr pe fin hpr hpe hfin=>?_)
   conv=>cbv
   refine ⟨hpe _ _ _ _ _ (e1 rfl (Nat.succ_pos _)),hpe _ _ _ _ _ (e3 rfl (Nat.succ_pos _)),hpe _ _ _ _ _ (e4 rfl (Nat.succ_pos _)),hpe _ _ _ _ _ (e2 rfl (Nat.succ_pos _)),?_⟩
   repeat refine ⟨rfl,?_⟩
   exact hfin _ _ (X.less [1,2] hk)
  ·skip
   refine X.goX ([]) ([(6,⟨fun rg=>cV none rg.length n1 1,[],[⟨w1,d1,none⟩]⟩),(9,⟨fun rg=>cV (some a3) rg.length n3 4,[],[⟨w3,d3,none⟩]⟩),(12,⟨fun rg=>cV (some a4) rg.length n4 3,[],[⟨w4,d4,none⟩]⟩),(15,⟨fun rg=>cV none rg.length n2 6,[],[⟨w2,d2,none⟩]⟩)]) T42_ok 1 _ rfl Tryz.results42 (fun pr pe fin hpr hpe hfin=>?_)
   conv=>cbv
   refine ⟨hpe _ _ _ _ _ (e1 rfl (Nat.succ_pos _)),hpe _ _ _ _ _ (e3 rfl (Nat.succ_pos _)),hpe _ _ _ _ _ (e4 rfl (Nat.succ_pos _)),hpe _ _ _ _ _ (e2 rfl (Nat.succ_pos _)),?_⟩
   repeat refine ⟨rfl,?_⟩
   exact hfin _ _ (X.less [1,2] hk)
  ·skip
   refine X.goX ([]) ([(6,⟨fun rg=>cV none rg.length n1 1,[],[⟨w1,d1,none⟩]⟩),(9,⟨fun rg=>cV (some a3) rg.length n3 4,[],[⟨w3,d3,none⟩]⟩),(12,⟨fun rg=>cV (some a4) rg.length n4 3,[],[⟨w4,d4,none⟩]⟩),(15,⟨fun rg=>cV (some a2) rg.length n2 6,[],[⟨w2,d2,none⟩]⟩)]) T42_ok 1 _ rfl Tryz.results42 (fun pr pe fin hpr hpe hfin=>?_)
   conv=>cbv
   refine ⟨hpe _ _ _ _ _ (e1 rfl (Nat.succ_pos _)),hpe _ _ _ _ _ (e3 rfl (Nat.succ_pos _)),hpe _ _ _ _ _ (e4 rfl (Nat.succ_pos _)),hpe _ _ _ _ _ (e2 rfl (Nat.succ_pos _)),?_⟩
   repeat refine ⟨rfl,?_⟩
   exact hfin _ _ (X.less [1,2] hk)
  ·skip
   refine X.goX ([]) ([(6,⟨fun rg=>cV (some a1) rg.length n1 1,[],[⟨w1,d1,none⟩]⟩),(9,⟨fun rg=>cV none rg.length n3 4,[],[⟨w3,d3,none⟩]⟩),(12,⟨fun rg=>cV none rg.length n4 3,[],[⟨w4,d4,none⟩]⟩),(15,⟨fun rg=>cV none rg.length n2 6,[],[⟨w2,d2,none⟩]⟩)]) T42_ok 1 _ rfl Tryz.results42 (fun pr pe fin hpr hpe hfin=>?_)
   conv=>cbv
   refine ⟨hpe _ _ _ _ _ (e1 rfl (Nat.succ_pos _)),hpe _ _ _ _ _ (e3 rfl (Nat.succ_pos _)),hpe _ _ _ _ _ (e4 rfl (Nat.succ_pos _)),hpe _ _ _ _ _ (e2 rfl (Nat.succ_pos _)),?_⟩
   repeat refine ⟨rfl,?_⟩
   exact hfin _ _ (X.less [1,2] hk)
  ·skip
   refine X.goX ([]) ([(6,⟨fun rg=>cV (some a1) rg.length n1 1,[],[⟨w1,d1,none⟩]⟩),(9,⟨fun rg=>cV none rg.length n3 4,[],[⟨w3,d3,none⟩]⟩),(12,⟨fun rg=>cV none rg.length n4 3,[],[⟨w4,d4,none⟩]⟩),(15,⟨fun rg=>cV (some a2) rg.length n2 6,[],[⟨w2,d2,none⟩]⟩)]) T42_ok 1 _ rfl Tryz.results42 (fun pr pe fin hpr hpe hfin=>?_)
   conv=>cbv
   refine ⟨hpe _ _ _ _ _ (e1 rfl (Nat.succ_pos _)),hpe _ _ _ _ _ (e3 rfl (Nat.succ_pos _)),hpe _ _ _ _ _ (e4 rfl (Nat.succ_pos _)),hpe _ _ _ _ _ (e2 rfl (Nat.succ_pos _)),?_⟩
   repeat refine ⟨rfl,?_⟩
   exact hfin _ _ (X.less [1,2] hk)
  ·skip
   refine X.goX ([]) ([(6,⟨fun rg=>cV (some a1) rg.length n1 1,[],[⟨w1,d1,none⟩]⟩),(9,⟨fun rg=>cV none rg.length n3 4,[],[⟨w3,d3,none⟩]⟩),(12,⟨fun rg=>cV (some a4) rg.length n4 3,[],[⟨w4,d4,none⟩]⟩),(15,⟨fun rg=>cV none rg.length n2 6,[],[⟨w2,d2,none⟩]⟩)]) T42_ok 1 _ rfl Tryz.results42 (fun pr pe fin hpr hpe hfin=>?_)
   conv=>cbv
   refine ⟨hpe _ _ _ _ _ (e1 rfl (Nat.succ_pos _)),hpe _ _ _ _ _ (e3 rfl (Nat.succ_pos _)),hpe _ _ _ _ _ (e4 rfl (Nat.succ_pos _)),hpe _ _ _ _ _ (e2 rfl (Nat.succ_pos _)),?_⟩
   repeat refine ⟨rfl,?_⟩
   exact hfin _ _ (X.less [1,2] hk)
  ·skip
   refine X.goX ([]) ([(6,⟨fun rg=>cV (some a1) rg.length n1 1,[],[⟨w1,d1,none⟩]⟩),(9,⟨fun rg=>cV none rg.length n3 4,[],[⟨w3,d3,none⟩]⟩),(12,⟨fun rg=>cV (some a4) rg.length n4 3,[],[⟨w4,d4,none⟩]⟩),(15,⟨fun rg=>cV (some a2) rg.length n2 6,[],[⟨w2,d2,none⟩]⟩)]) T42_ok 1 _ rfl Tryz.results42 (fun pr pe fin hpr hpe hfin=>?_)
   conv=>cbv
   refine ⟨hpe _ _ _ _ _ (e1 rfl (Nat.succ_pos _)),hpe _ _ _ _ _ (e3 rfl (Nat.succ_pos _)),hpe _ _ _ _ _ (e4 rfl (Nat.succ_pos _)),hpe _ _ _ _ _ (e2 rfl (Nat.succ_pos _)),?_⟩
   repeat refine ⟨rfl,?_⟩
   exact hfin _ _ (X.less [1,2] hk)
  ·skip
   refine X.goX ([]) ([(6,⟨fun rg=>cV (some a1) rg.length n1 1,[],[⟨w1,d1,none⟩]⟩),(9,⟨fun rg=>cV (some a3) rg.length n3 4,[],[⟨w3,d3,none⟩]⟩),(12,⟨fun rg=>cV none rg.length n4 3,[],[⟨w4,d4,none⟩]⟩),(15,⟨fun rg=>cV none rg.length n2 6,[],[⟨w2,d2,none⟩]⟩)]) T42_ok 1 _ rfl Tryz.results42 (fun pr pe fin hpr hpe hfin=>?_)
   conv=>cbv
   refine ⟨hpe _ _ _ _ _ (e1 rfl (Nat.succ_pos _)),hpe _ _ _ _ _ (e3 rfl (Nat.succ_pos _)),hpe _ _ _ _ _ (e4 rfl (Nat.succ_pos _)),hpe _ _ _ _ _ (e2 rfl (Nat.succ_pos _)),?_⟩
   repeat refine ⟨rfl,?_⟩
   exact hfin _ _ (X.less [1,2] hk)
  ·skip
   refine X.goX ([]) ([(6,⟨fun rg=>cV (some a1) rg.length n1 1,[],[⟨w1,d1,none⟩]⟩),(9,⟨fun rg=>cV (some a3) rg.length n3 4,[],[⟨w3,d3,none⟩]⟩),(12,⟨fun rg=>cV none rg.length n4 3,[],[⟨w4,d4,none⟩]⟩),(15,⟨fun rg=>cV (some a2) rg.length n2 6,[],[⟨w2,d2,none⟩]⟩)]) T42_ok 1 _ rfl Tryz.results42 (fun pr pe fin hpr hpe hfin=>?_)
   conv=>cbv
   refine ⟨hpe _ _ _ _ _ (e1 rfl (Nat.succ_pos _)),hpe _ _ _ _ _ (e3 rfl (Nat.succ_pos _)),hpe _ _ _ _ _ (e4 rfl (Nat.succ_pos _)),hpe _ _ _ _ _ (e2 rfl (Nat.succ_pos _)),?_⟩
   repeat refine ⟨rfl,?_⟩
   exact hfin _ _ (X.less [1,2] hk)
  ·skip
   refine X.goX ([]) ([(6,⟨fun rg=>cV (some a1) rg.length n1 1,[],[⟨w1,d1,none⟩]⟩),(9,⟨fun rg=>cV (some a3) rg.length n3 4,[],[⟨w3,d3,none⟩]⟩),(12,⟨fun rg=>cV (some a4) rg.length n4 3,[],[⟨w4,d4,none⟩]⟩),(15,⟨fun rg=>cV none rg.length n2 6,[],[⟨w2,d2,none⟩]⟩)]) T42_ok 1 _ rfl Tryz.results42 (fun pr pe fin hpr hpe hfin=>?_)
   conv=>cbv
   refine ⟨hpe _ _ _ _ _ (e1 rfl (Nat.succ_pos _)),hpe _ _ _ _ _ (e3 rfl (Nat.succ_pos _)),hpe _ _ _ _ _ (e4 rfl (Nat.succ_pos _)),hpe _ _ _ _ _ (e2 rfl (Nat.succ_pos _)),?_⟩
   repeat refine ⟨rfl,?_⟩
   exact hfin _ _ (X.less [1,2] hk)
  ·skip
   refine X.goX ([]) ([(6,⟨fun rg=>cV (some a1) rg.length n1 1,[],[⟨w1,d1,none⟩]⟩),(9,⟨fun rg=>cV (some a3) rg.length n3 4,[],[⟨w3,d3,none⟩]⟩),(12,⟨fun rg=>cV (some a4) rg.length n4 3,[],[⟨w4,d4,none⟩]⟩),(15,⟨fun rg=>cV (some a2) rg.length n2 6,[],[⟨w2,d2,none⟩]⟩)]) T42_ok 1 _ rfl Tryz.results42 (fun pr pe fin hpr hpe hfin=>?_)
   conv=>cbv
   refine ⟨hpe _ _ _ _ _ (e1 rfl (Nat.succ_pos _)),hpe _ _ _ _ _ (e3 rfl (Nat.succ_pos _)),hpe _ _ _ _ _ (e4 rfl (Nat.succ_pos _)),hpe _ _ _ _ _ (e2 rfl (Nat.succ_pos _)),?_⟩
   repeat refine ⟨rfl,?_⟩
   exact hfin _ _ (X.less [1,2] hk)
 refine X.goX ([(22,.int .i64 (.nat n2))]) ([]) T42_ok 400 _ rfl Tryz.results42 (fun pr pe fin hpr hpe hfin=>?_)
 conv=>cbv
 have hcv2:∀ (N:Nums) (v:Value),(cV p2 5 n2 6).den N=some v→∃ p c,v=.slice p n2 c:=fun N v hv=>cV_sl (fun h=>by
  rcases Nat.eq_zero_or_pos n2 with h0 | h0
  ·exact h0
  ·obtain ⟨b,y,hb,_⟩:=hm2 (by omega)
   rw [h] at hb;cases hb) hv
 refine ⟨hpr _ (vk_lenV (sx:=cV p2 5 n2 6) rfl hcv2 Tryz.underlying30),hfin _ _ ?_⟩
 clear hpr hpe hfin
 refine X.loop (fun g:{g:Nat × Mem × List (List Value) // g.1≤n2∧ClI w Mo im o1 g.2.1 g.2.2}=>mkE Tryz.prog Tryz.f42 Q w (InR [] []) g.1.2.1 (fun _ _=>False) (fun _=>True) [] B42)
  (fun g=>⟨[(2,.val (.own 1 0)),(1,.val (.own 0 0)),(22,.val (.int .i64 (.nat n2))),(23,.val (.int .i64 (.nat g.1.1)))],[⟨true,[.int .u8 (.v k1),.int .u64 (.v i1),.int .i64 (.v s1),cV p1 2 n1 1,cV p2 5 n2 6,cV p3 3 n3 4,.int .u64 (.v l1),cV p4 4 n4 3],none⟩,⟨true,[.int .u8 (.lit 0),.int .u64 (.lit 0),.int .i64 (.lit 0),.raw (.slice none 0 0),.raw (.slice none 0 0),.raw (.slice none 0 0),.int .u64 (.lit 0),.raw (.slice none 0 0)],none⟩,⟨w1,d1,none⟩,⟨w3,d3,none⟩,⟨w4,d4,none⟩,⟨w2,rawL g.1.2.2.flatten,none⟩]⟩) (fun g=>n2-g.1.1) (fun _=>⟨rfl,rfl,rfl,rfl⟩) (fun N ac w' hN hf hS=>⟨⟨(0,im,vs2),Nat.zero_le _,⟨fun _ _ _ h=>h,hl2,hk2,fun j x hx=>?_⟩⟩,?_⟩) (fun g q hq=>?_)
 ·obtain ⟨vs,h1,h2⟩:=hr2 j x hx
  exact ⟨vs,h1,h2.mono mU_old⟩
 ·show At (mkE Tryz.prog Tryz.f42 Q w (InR [] []) im (fun _ _=>False) (fun _=>True) [] B42) ⟨[(2,.val (.own 1 0)),(1,.val (.own 0 0)),(22,.val (.int .i64 (.nat n2))),(23,.val (.int .i64 (.nat 0)))],[⟨true,[.int .u8 (.v k1),.int .u64 (.v i1),.int .i64 (.v s1),cV p1 2 n1 1,cV p2 5 n2 6,cV p3 3 n3 4,.int .u64 (.v l1),cV p4 4 n4 3],none⟩,⟨true,[.int .u8 (.lit 0),.int .u64 (.lit 0),.int .i64 (.lit 0),.raw (.slice none 0 0),.raw (.slice none 0 0),.raw (.slice none 0 0),.int .u64 (.lit 0),.raw (.slice none 0 0)],none⟩,⟨w1,d1,none⟩,⟨w3,d3,none⟩,⟨w4,d4,none⟩,⟨w2,rawL vs2.flatten,none⟩]⟩ ac w'
  have hR0:[SV.int .u8 (.v k1),.int .u64 (.v i1),.int .i64 (.v s1),cV p1 2 n1 1,cV p2 5 n2 6,cV p3 3 n3 4,.int .u64 (.v l1),cV p4 4 n4 3].all (bd 6)=true:=by cases p1<;>cases p2<;>cases p3<;>cases p4<;>rfl
  exact At.again hf hS (by repeat first | exact trivial | refine ⟨⟨_,rfl,.inl ⟨rfl,rfl⟩⟩,?_⟩ | refine ⟨⟨_,rfl,.inr ⟨_,rfl,rfl⟩⟩,?_⟩ | refine ⟨⟨_,rfl,.inr ⟨_,rfl,by simp (disch:=omega) [SV.den,SI.den,wrapU,wrapD]<;>omega⟩⟩,?_⟩) ⟨fun h=>h,SubC.refl hR0,rfl,fun h=>h,SubC.refl rfl,rfl,fun h=>h,SubC.refl (by rw [hd1];exact rawL_bd),rfl,fun h=>h,SubC.refl (by rw [hd3];exact rawL_bd),rfl,fun h=>h,SubC.refl (by rw [hd4];exact rawL_bd),rfl,fun h=>h,(by rw [hd2];exact SubC.refl rawL_bd),rfl,trivial⟩
 obtain ⟨⟨i,im1,vss⟩,hi,hI⟩:=g
 simp only at hi hI
 show X (mkE Tryz.prog Tryz.f42 Q w (InR [] []) im1 (fun _ _=>False) (fun _=>True) [] B42) _ ⟨[(2,.val (.own 1 0)),(1,.val (.own 0 0)),(22,.val (.int .i64 (.nat n2))),(23,.val (.int .i64 (.nat i)))],[⟨true,[.int .u8 (.v k1),.int .u64 (.v i1),.int .i64 (.v s1),cV p1 2 n1 1,cV p2 5 n2 6,cV p3 3 n3 4,.int .u64 (.v l1),cV p4 4 n4 3],none⟩,⟨true,[.int .u8 (.lit 0),.int .u64 (.lit 0),.int .i64 (.lit 0),.raw (.slice none 0 0),.raw (.slice none 0 0),.raw (.slice none 0 0),.int .u64 (.lit 0),.raw (.slice none 0 0)],none⟩,⟨w1,d1,none⟩,⟨w3,d3,none⟩,⟨w4,d4,none⟩,⟨w2,rawL vss.flatten,none⟩]⟩
 obtain ⟨dl,hdl⟩:∃ d,d=rawL vss.flatten:=⟨_,rfl⟩
 rw [←hdl]
 refine X.go T42_ok 400 _ rfl Tryz.results42 ?_
 conv=>arg 2;cbv
 refine X.cond rfl (fun hlt=>?_) (fun hge=>?_)
 ·simp only [SB.T,SI.den] at hlt
  have hlt:i<n2:=by omega
  obtain ⟨x,hx⟩:∃ x,o1[i]?=some x:=⟨_,List.getElem?_eq_getElem (by omega)⟩
  obtain ⟨vsi,hvi,hri⟩:=hI.rep i x hx
  obtain ⟨pa,ca,hvsi,hsv⟩:=DoneP.open hri
  obtain ⟨na,hna⟩:∃ n,n=x.reply.vars.length:=⟨_,rfl⟩
  have hna50:na≤50:=by rw [hna];exact g5 i x hx
  obtain ⟨b2,y2,hp2,_⟩:=hm2 (by omega)
  obtain rfl:w2=true:=by rw [hw2];exact decide_eq_true (by omega)
  obtain ⟨vsv,hlv,hkv,hrv,hmv⟩:=hsv.rows (K:=1) fun x vs h=>(i64_vals h).1
  obtain ⟨z,hz⟩:∃ z,z=i*6:=⟨_,rfl⟩
  have hcell:dl[z+2+3]?=some (.raw (.slice pa na ca)):=by
   rw [hdl,rawL,List.getElem?_map,flatten_get (by decide) hI.six,hz,show (i*6+2+3) / 6=i by omega,show (i*6+2+3) % 6=5 by omega,hvi,hvsi,←hna]
   rfl
  have hdll:z+2+3<dl.length:=(List.getElem?_eq_some_iff.1 hcell).1
  obtain ⟨dv,hdv⟩:∃ d,d=rawL vsv.flatten:=⟨_,rfl⟩
  obtain ⟨wv,hwv⟩:∃ b,b=decide (na≠0):=⟨_,rfl⟩
  obtain ⟨dl',hdl'⟩:∃ d,d=setRow dl (z+2+3) [cV pa 6 na 1]:=⟨_,rfl⟩
  have him1:∀ k o v,Mo k o=some v→im1 k o=some v:=fun k o v h=>hI.him _ _ _ (him _ _ _ h)
  have hAv:0<na→∃ b y,pa=some ⟨b,y,none⟩∧∀ w':World,(∀ k o v,im1 k o=some v→w'.cell? ⟨k,o,none⟩=some v)→∀ (j:Nat) (v:Value),vsv.flatten[j]?=some v→w'.cell? ⟨b,y+j,none⟩=some v:=fun hp=>by
   obtain ⟨b,y,hb,h2⟩:=hmv (by omega)
   refine ⟨b,y,hb,fun w' hw j v hj=>?_⟩
   rw [flatten_get (by decide) hkv,Option.bind_eq_some_iff] at hj
   obtain ⟨vs,h3,h4⟩:=hj
   have:=hw _ _ _ (mU_in him1 _ _ _ (h2 _ _ h3 _ _ h4))
   rwa [Nat.add_assoc,Nat.mul_comm,Nat.div_add_mod] at this
  have eV:=fun {rg:List Rg} {f:Fr} {t:Nat}=>cloneI_cV (E:=(mkE Tryz.prog Tryz.f42 Q w (InR [] []) im1 (fun _ _=>False) (fun _=>True) [] B42).toEnv) (N0:=[]) (rg:=rg) (f:=f) (t:=t) (po:=pa) (co:=ca) rfl hdv hwv (by omega) (by rw [flatten_len hkv];omega) (ones_of hlv hrv fun x vs h=>(i64_vals h).2.1) hAv
  refine X.goX ([(32,.own 5 z),(35,.slv pa na ca),(37,.own 5 z)]) ([(36,⟨fun rg=>cV pa rg.length na 1,[],[⟨wv,dv,none⟩]⟩),(1014,⟨fun _=>.tup [],[(5,⟨true,dl',none⟩)],[]⟩)]) T42_ok 400 _ rfl Tryz.results42 (fun pr pe fin hpr hpe hfin=>?_)
  conv=>cbv
  refine ⟨hpr _ (vk_osl (sx:=cV p2 5 n2 6) rfl (.inr (.inr ⟨none,by rw [hp2];rfl⟩)) rfl (fun _=>rfl) Tryz.underlying30 Tryz.sizeOf94 (fun _=>hlt) hz (by simp)),hpr _ ((vk_load1 (gg:=⟨true,dl,none⟩) rfl Tryz.isAgg29 rfl hcell).conv fun N v h=>by simpa [SV.den,one?] using h),hpe _ _ _ _ _ (eV rfl (Nat.succ_pos _)),hpr _ (vk_osl (sx:=cV p2 5 n2 6) rfl (.inr (.inr ⟨none,by rw [hp2];rfl⟩)) rfl (fun _=>rfl) Tryz.underlying30 Tryz.sizeOf94 (fun _=>hlt) hz (by simp)),hpe _ _ _ _ _ ?_,hfin _ _ ?_⟩
  ·have hc1:=cV_cells pa 6 na 1
   refine EffOk.step T42_ok ?_
   rw [stepE_store (v:=cV pa 6 na 1) (g:=⟨true,dl,none⟩) (ti:=ti29) rfl rfl rfl rfl rfl (by rw [hc1.1];rfl) hdll (by rw [hc1.1];simp [hc1.2]),hc1.1,←hdl']
   rfl
  clear hpr hpe hfin
  refine X.back (fun N ac w' hN hf hS=>?_)
  obtain ⟨q6,hq6⟩:∃ p,N[6]?=some p:=⟨_,List.getElem?_eq_getElem (by rw [hS.len];show 6<7;omega)⟩
  have hpna:pa=none→na=0:=fun h=>by
   rcases Nat.eq_zero_or_pos na with h0 | h0
   ·exact h0
   ·obtain ⟨b,y,hb,_⟩:=hAv h0
    rw [h] at hb;cases hb
  have hv5:=cV_val (K:=1) hq6 hpna
  obtain ⟨v5,hv5d⟩:∃ v:Value,v=.slice (pa.map fun _=>⟨q6.b,q6.o,none⟩) na (capV pa (q6.x / 1)):=⟨_,rfl⟩
  rw [←hv5d] at hv5
  obtain ⟨m',hm'⟩:∃ m':Mem,m'=fun k o=>match im1 k o with | some v=>some v | none=>if wv=true∧k=q6.b∧q6.o≤o∧o<q6.o+dv.length then w'.cell? ⟨k,o,none⟩ else none:=⟨_,rfl⟩
  have hmm:∀ k o v,im1 k o=some v→m' k o=some v:=fun k o v h=>by rw [hm'];simp only [h]
  have hvs6:vsi.length=6:=by rw [hvsi];rfl
  have hfs:=flat_set (K:=6) (by decide) hI.six hvi (k:=5) (by decide) v5
  have hI':ClI w Mo im o1 m' (vss.set i (vsi.set 5 v5)):=by
   refine ⟨fun k o v h=>hmm _ _ _ (hI.him _ _ _ h),by rw [List.length_set];exact hI.len,fun v hv=>?_,fun j y hy=>?_⟩
   ·rcases List.mem_or_eq_of_mem_set hv with h1 | rfl
    ·exact hI.six v h1
    ·rw [List.length_set,hvs6]
   ·by_cases hj:i=j
    ·subst hj
     rw [hx] at hy;cases hy
     refine ⟨_,by rw [List.getElem?_set,if_pos rfl,if_pos (by rw [hI.len];omega)],?_⟩
     rw [hvsi,hv5d,hna]
     refine DoneP.rep ?_
     refine cloned (M:=mU w Mo m') (vss:=vsv) (n:=na) hS (by rw [←hwv,←hdv];rfl) hq6 Nat.one_pos hna (by rw [maxLen_le];omega) hlv hkv hpna (fun k y hy=>?_) (fun k u hb hc hk=>?_)
     ·obtain ⟨vs,h1,h2⟩:=hrv k y hy
      exact ⟨vs,h1,(i64_vals h2).2.2 _⟩
     ·have hMo0:Mo q6.b (q6.o+k)=none:=by
       cases hMk:Mo q6.b (q6.o+k) with
       | none=>rfl
       | some u'=>have:=World.block_lt_of_cell? _ _ (hMo _ _ _ hMk);simp at this;omega
      have h0:na≠0:=fun h=>by subst h;omega
      have hwt:wv=true:=by rw [hwv];exact decide_eq_true h0
      have him0:im1 q6.b (q6.o+k)=none:=by
       have hx6:=hS.ext 6 ⟨wv,dv,none⟩ q6 rfl hq6 hwt
       simp only [hdv,rawL_len,flatten_len hkv] at hx6
       exact hS.imd 6 ⟨wv,dv,none⟩ q6 rfl hq6 hwt k (by omega)
      unfold mU
      simp only [hMo0,hb,if_true,hm',him0]
      rw [if_pos ⟨hwt,trivial,by omega,by rw [hdv,rawL_len,flatten_len hkv];omega⟩]
      exact hc
    ·obtain ⟨vs,h1,h2⟩:=hI.rep j y hy
     exact ⟨vs,by rw [List.getElem?_set,if_neg hj];exact h1,h2.mono (mU_mono hmm)⟩
  refine hq ⟨(i+1,m',vss.set i (vsi.set 5 v5)),hlt,hI'⟩ ac w' (by simp only;omega) ?_
  show At (mkE Tryz.prog Tryz.f42 Q w (InR [] []) m' (fun _ _=>False) (fun _=>True) [] B42) ⟨[(2,.val (.own 1 0)),(1,.val (.own 0 0)),(22,.val (.int .i64 (.nat n2))),(23,.val (.int .i64 (.nat (i+1))))],[⟨true,[.int .u8 (.v k1),.int .u64 (.v i1),.int .i64 (.v s1),cV p1 2 n1 1,cV p2 5 n2 6,cV p3 3 n3 4,.int .u64 (.v l1),cV p4 4 n4 3],none⟩,⟨true,[.int .u8 (.lit 0),.int .u64 (.lit 0),.int .i64 (.lit 0),.raw (.slice none 0 0),.raw (.slice none 0 0),.raw (.slice none 0 0),.int .u64 (.lit 0),.raw (.slice none 0 0)],none⟩,⟨w1,d1,none⟩,⟨w3,d3,none⟩,⟨w4,d4,none⟩,⟨true,rawL (vss.set i (vsi.set 5 v5)).flatten,none⟩]⟩ ac w'
  have hR0:[SV.int .u8 (.v k1),.int .u64 (.v i1),.int .i64 (.v s1),cV p1 2 n1 1,cV p2 5 n2 6,cV p3 3 n3 4,.int .u64 (.v l1),cV p4 4 n4 3].all (bd 6)=true:=by cases p1<;>cases p2<;>cases p3<;>cases p4<;>rfl
  have keep:∀ {cs:List SV},cs.all (bd 6)=true→∀ (j:Nat) (c:SV),cs[j]?=some c→∃ c0,cs[j]?=some c0∧∀ v,c0.den N=some v→c.den (N.take 6)=some v:=fun h j c hj=>⟨c,hj,fun v hv=>den_take (List.all_eq_true.1 h c (List.mem_of_getElem? hj)) hv⟩
  have hset:dl'=dl.set (z+2+3) (cV pa 6 na 1):=by
   rw [hdl',setRow_eq _ _ _ (by omega),List.set_eq_take_append_cons_drop,if_pos hdll]
   simp
  have hnew:rawL (vss.set i (vsi.set 5 v5)).flatten=dl.set (z+2+3) (.raw v5):=by
   rw [hfs,rawL,List.map_set,←rawL,←hdl,hz]
  refine At.seal (k:=6) (q:=q6) (ow:=wv) (cs:=dv) (rg0:=[⟨true,[.int .u8 (.v k1),.int .u64 (.v i1),.int .i64 (.v s1),cV p1 2 n1 1,cV p2 5 n2 6,cV p3 3 n3 4,.int .u64 (.v l1),cV p4 4 n4 3],none⟩,⟨true,[.int .u8 (.lit 0),.int .u64 (.lit 0),.int .i64 (.lit 0),.raw (.slice none 0 0),.raw (.slice none 0 0),.raw (.slice none 0 0),.int .u64 (.lit 0),.raw (.slice none 0 0)],none⟩,⟨w1,d1,none⟩,⟨w3,d3,none⟩,⟨w4,d4,none⟩,⟨true,dl',none⟩]) hf hS rfl rfl hq6 rfl (by repeat first | exact trivial | refine ⟨⟨_,rfl,.inl ⟨rfl,rfl⟩⟩,?_⟩ | refine ⟨⟨_,rfl,.inr ⟨_,rfl,rfl⟩⟩,?_⟩ | refine ⟨⟨_,rfl,.inr ⟨_,rfl,by simp (disch:=omega) [SV.den,SI.den,wrapU,wrapD]<;>omega⟩⟩,?_⟩) (fun r y p hy hp=>?_) hm'
  have hr6:r<6:=(List.getElem?_eq_some_iff.1 hy).1
  have:r=0∨r=1∨r=2∨r=3∨r=4∨r=5:=by omega
  rcases this with rfl | rfl | rfl | rfl | rfl | rfl
  ·cases hy;exact ⟨_,rfl,rfl,rfl,rfl,keep hR0⟩
  ·cases hy;exact ⟨_,rfl,rfl,rfl,rfl,keep rfl⟩
  ·cases hy;exact ⟨_,rfl,rfl,rfl,rfl,keep (by rw [hd1];exact rawL_bd)⟩
  ·cases hy;exact ⟨_,rfl,rfl,rfl,rfl,keep (by rw [hd3];exact rawL_bd)⟩
  ·cases hy;exact ⟨_,rfl,rfl,rfl,rfl,keep (by rw [hd4];exact rawL_bd)⟩
  ·cases hy
   refine ⟨_,rfl,rfl,by show (rawL _).length=dl'.length;rw [hnew,hset,List.length_set,List.length_set],rfl,fun j c hj=>?_⟩
   have hj:(rawL (vss.set i (vsi.set 5 v5)).flatten)[j]?=some c:=hj
   show ∃ c0,dl'[j]?=some c0∧_
   rw [hnew,List.getElem?_set] at hj
   rw [hset,List.getElem?_set]
   by_cases hzj:z+2+3=j
   ·rw [if_pos hzj,if_pos (by omega)] at hj ⊢
    cases hj
    refine ⟨_,rfl,fun v hv=>?_⟩
    rw [hv5] at hv;cases hv
    rw [hv5d]
    simp [SV.den,one?]
   ·rw [if_neg hzj] at hj ⊢
    refine ⟨c,hj,fun v hv=>den_take ?_ hv⟩
    have hall:dl.all (bd 6)=true:=by rw [hdl];exact rawL_bd
    exact List.all_eq_true.1 hall c (List.mem_of_getElem? hj)
 ·simp only [SB.F,SI.den] at hge
  obtain rfl:i=n2:=by omega
  refine X.goX ([]) ([(1001,⟨fun _=>.tup [],[(1,⟨true,[.int .u8 (.v k1),.int .u64 (.v i1),.int .i64 (.v s1),cV p1 2 n1 1,cV p2 5 i 6,cV p3 3 n3 4,.int .u64 (.v l1),cV p4 4 n4 3],none⟩)],[]⟩)]) T42_ok 400 _ rfl Tryz.results42 (fun pr pe fin hpr hpe hfin=>?_)
  conv=>cbv
  refine ⟨hpe _ _ _ _ _ ?_,hfin _ _ ?_⟩
  ·refine EffOk.step T42_ok ?_
   rw [stepE_store (v:=.agg [.int .u8 (.v k1),.int .u64 (.v i1),.int .i64 (.v s1),cV p1 2 n1 1,cV p2 5 i 6,cV p3 3 n3 4,.int .u64 (.v l1),cV p4 4 n4 3]) (g:=⟨true,[.int .u8 (.lit 0),.int .u64 (.lit 0),.int .i64 (.lit 0),.raw (.slice none 0 0),.raw (.slice none 0 0),.raw (.slice none 0 0),.int .u64 (.lit 0),.raw (.slice none 0 0)],none⟩) (ti:=ti34) rfl rfl rfl rfl rfl rfl (by decide) (by cases p1<;>cases p2<;>cases p3<;>cases p4<;>rfl)]
   rfl
  refine X.done T42_ok rfl (fun N w' v hN hS hv=>?_)
  rw [hQ]
  obtain ⟨q2,hq2⟩:∃ p,N[2]?=some p:=⟨_,List.getElem?_eq_getElem (by rw [hS.len];show 2<6;omega)⟩
  obtain ⟨q3,hq3⟩:∃ p,N[3]?=some p:=⟨_,List.getElem?_eq_getElem (by rw [hS.len];show 3<6;omega)⟩
  obtain ⟨q4,hq4⟩:∃ p,N[4]?=some p:=⟨_,List.getElem?_eq_getElem (by rw [hS.len];show 4<6;omega)⟩
  obtain ⟨q5,hq5⟩:∃ p,N[5]?=some p:=⟨_,List.getElem?_eq_getElem (by rw [hS.len];show 5<6;omega)⟩
  have hnil:∀ {p:Option Addr} {n m:Nat} {vss:List (List Value)} {K:Nat},n=m→(0<m→∃ b y,p=some ⟨b,y,none⟩∧∀ (i:Nat) (vs:List Value),vss[i]?=some vs→∀ (j:Nat) (v:Value),vs[j]?=some v→Mo b (y+i*K+j)=some v)→p=none→n=0:=fun hnm h hp=>by
   rcases Nat.eq_zero_or_pos _ with h0 | h0
   ·exact h0
   ·obtain ⟨b,y,hb,_⟩:=h (by omega)
    rw [hp] at hb;cases hb
  have z1:=hnil hn1 hm1
  have z2:=hnil hn2 hm2
  have z3:=hnil hn3 hm3
  have z4:=hnil hn4 hm4
  have hv:(resV [.agg [.int .u8 (.v k1),.int .u64 (.v i1),.int .i64 (.v s1),cV p1 2 n1 1,cV p2 5 i 6,cV p3 3 n3 4,.int .u64 (.v l1),cV p4 4 n4 3]]).den N=some v:=hv
  simp only [resV,SV.den,SV.denL,SI.den,cV_val hq2 z1,cV_val hq5 z2,cV_val hq3 z3,cV_val hq4 z4,Option.some.injEq] at hv
  refine ⟨⟨_,congrArg Ending.returned hv.symm,fun M hM hnew=>?_⟩,hS.chg.none⟩
  have hmx:=maxLen_le
  have hsub:∀ k o v,mU w Mo im1 k o=some v→M k o=some v:=fun k o v h=>by
   unfold mU at h
   split at h
   ·rename_i u hu
    cases h
    exact hM _ _ _ hu
   ·split at h
    ·rename_i hk
     exact hnew _ _ _ hk (hS.imm _ _ _ h)
    ·cases h
  have f1:=cloned (M:=M) (vss:=vs1) (n:=n1) (r:=2) hS (by rw [←hw1,←hd1];rfl) hq2 Nat.one_pos hn1 (by omega) hl1 hk1 z1 (fun k y hy=>by obtain ⟨vs,h1,h2⟩:=hr1 k y hy;exact ⟨vs,h1,(i64_vals h2).2.2 _⟩) (fun j v hb hc _=>hnew _ _ _ hb hc)
  have f3:=cloned (M:=M) (vss:=vs3) (n:=n3) (r:=3) (K:=4) hS (by rw [←hw3,←hd3];rfl) hq3 (by decide) hn3 (by omega) hl3 hk3 z3 (fun k y hy=>by obtain ⟨vs,h1,h2⟩:=hr3 k y hy;exact ⟨vs,h1,(cell_vals h2).2.2 _⟩) (fun j v hb hc _=>hnew _ _ _ hb hc)
  have f4:=cloned (M:=M) (vss:=vs4) (n:=n4) (r:=4) (K:=3) hS (by rw [←hw4,←hd4];rfl) hq4 (by decide) hn4 (by omega) hl4 hk4 z4 (fun k y hy=>by obtain ⟨vs,h1,h2⟩:=hr4 k y hy;exact ⟨vs,h1,(mark_vals h2).2.2 _⟩) (fun j v hb hc _=>hnew _ _ _ hb hc)
  have f2:=cloned (M:=M) (vss:=vss) (n:=i) (r:=5) (K:=6) hS (by rw [←hw2,←hdl];rfl) hq5 (by decide) hn2 (by omega) hI.len hI.six z2 (fun k y hy=>by obtain ⟨vs,h1,h2⟩:=hI.rep k y hy;exact ⟨vs,h1,h2.mono hsub⟩) (fun j v hb hc _=>hnew _ _ _ hb hc)
  have:=RegP.rep (k:=k1) (i:=i1) (s:=s1) (l:=l1) f1 f2 f3 f4
  rw [←hn1,←hn2,←hn3,←hn4] at this
  exact this
def cmp3 (a b:Int):Int:=if a<b then -1 else if b<a then 1 else 0
def or3 (a b c:Int):Int:=if a≠0 then a else if b≠0 then b else c
theorem nan_u64 (a:Int) (w:World):Calls Tryz.prog 101 #[.int .u64 a] w fun e w'=>e=.returned (.bool false)∧Chg (fun _ _=>False) w w':=by
 refine X.begin (rg:=[]) (N:=[]) (ss:=[.int .u64 (.v a)]) Tryz.func101 rfl B101_ok rfl rfl Sat.std0 ?_
 refine X.go T101_ok 400 _ rfl Tryz.results101 ?_
 conv=>arg 2;cbv
 refine X.done T101_ok rfl (fun N w' v hN hS hv=>⟨?_,hS.chg.none⟩)
 exact fin_bool hv (by simp [SB.den,SI.den])
theorem cmp_u64 (a b:Int) (w:World):Calls Tryz.prog 70 #[.int .u64 a,.int .u64 b] w fun e w'=>e=.returned (.int .i64 (cmp3 a b))∧Chg (fun _ _=>False) w w':=by
 refine X.begin (rg:=[]) (N:=[]) (ss:=[.int .u64 (.v a),.int .u64 (.v b)]) Tryz.func70 rfl B70_ok rfl rfl Sat.std0 ?_
 refine X.goX ([(8,.bool (.lit false)),(10,.bool (.lit false))]) ([]) T70_ok 400 _ rfl Tryz.results70 (fun pr pe fin hpr hpe hfin=>?_)
 conv=>cbv
 refine ⟨hpr _ (.of Tryz.call101 [.int .u64 a] (.bool false) (fun _=>rfl) (fun _=>rfl) fun _ w1 _=>nan_u64 a w1),hpr _ (.of Tryz.call101 [.int .u64 b] (.bool false) (fun _=>rfl) (fun _=>rfl) fun _ w1 _=>nan_u64 b w1),hfin _ _ ?_⟩
 clear hpr hpe hfin
 refine X.cond rfl (fun h1=>?_) (fun h1=>?_)
 ·simp only [SB.T,SI.den] at h1
  refine X.go T70_ok 400 _ rfl Tryz.results70 ?_
  conv=>arg 2;cbv
  refine X.done T70_ok rfl (fun N w' v hN hS hv=>⟨?_,hS.chg.none⟩)
  exact fin_int hv (by rw [cmp3,if_pos h1];rfl)
 simp only [SB.F,SI.den] at h1
 refine X.go T70_ok 400 _ rfl Tryz.results70 ?_
 conv=>arg 2;cbv
 refine X.cond rfl (fun h2=>?_) (fun h2=>?_)
 ·simp only [SB.T,SI.den] at h2
  refine X.go T70_ok 400 _ rfl Tryz.results70 ?_
  conv=>arg 2;cbv
  refine X.done T70_ok rfl (fun N w' v hN hS hv=>⟨?_,hS.chg.none⟩)
  exact fin_int hv (by rw [cmp3,if_neg (by omega),if_pos (by omega)];rfl)
 simp only [SB.F,SI.den] at h2
 refine X.go T70_ok 400 _ rfl Tryz.results70 ?_
 conv=>arg 2;cbv
 refine X.done T70_ok rfl (fun N w' v hN hS hv=>⟨?_,hS.chg.none⟩)
 exact fin_int hv (by rw [cmp3,if_neg (by omega),if_neg (by omega)];rfl)
theorem nan_u8 (a:Int) (w:World):Calls Tryz.prog 102 #[.int .u8 a] w fun e w'=>e=.returned (.bool false)∧Chg (fun _ _=>False) w w':=by
 refine X.begin (rg:=[]) (N:=[]) (ss:=[.int .u8 (.v a)]) Tryz.func102 rfl B102_ok rfl rfl Sat.std0 ?_
 refine X.go T102_ok 400 _ rfl Tryz.results102 ?_
 conv=>arg 2;cbv
 refine X.done T102_ok rfl (fun N w' v hN hS hv=>⟨?_,hS.chg.none⟩)
 exact fin_bool hv (by simp [SB.den,SI.den])
theorem cmp_u8 (a b:Int) (w:World):Calls Tryz.prog 71 #[.int .u8 a,.int .u8 b] w fun e w'=>e=.returned (.int .i64 (cmp3 a b))∧Chg (fun _ _=>False) w w':=by
 refine X.begin (rg:=[]) (N:=[]) (ss:=[.int .u8 (.v a),.int .u8 (.v b)]) Tryz.func71 rfl B71_ok rfl rfl Sat.std0 ?_
 refine X.goX ([(8,.bool (.lit false)),(10,.bool (.lit false))]) ([]) T71_ok 400 _ rfl Tryz.results71 (fun pr pe fin hpr hpe hfin=>?_)
 conv=>cbv
 refine ⟨hpr _ (.of Tryz.call102 [.int .u8 a] (.bool false) (fun _=>rfl) (fun _=>rfl) fun _ w1 _=>nan_u8 a w1),hpr _ (.of Tryz.call102 [.int .u8 b] (.bool false) (fun _=>rfl) (fun _=>rfl) fun _ w1 _=>nan_u8 b w1),hfin _ _ ?_⟩
 clear hpr hpe hfin
 refine X.cond rfl (fun h1=>?_) (fun h1=>?_)
 ·simp only [SB.T,SI.den] at h1
  refine X.go T71_ok 400 _ rfl Tryz.results71 ?_
  conv=>arg 2;cbv
  refine X.done T71_ok rfl (fun N w' v hN hS hv=>⟨?_,hS.chg.none⟩)
  exact fin_int hv (by rw [cmp3,if_pos h1];rfl)
 simp only [SB.F,SI.den] at h1
 refine X.go T71_ok 400 _ rfl Tryz.results71 ?_
 conv=>arg 2;cbv
 refine X.cond rfl (fun h2=>?_) (fun h2=>?_)
 ·simp only [SB.T,SI.den] at h2
  refine X.go T71_ok 400 _ rfl Tryz.results71 ?_
  conv=>arg 2;cbv
  refine X.done T71_ok rfl (fun N w' v hN hS hv=>⟨?_,hS.chg.none⟩)
  exact fin_int hv (by rw [cmp3,if_neg (by omega),if_pos (by omega)];rfl)
 simp only [SB.F,SI.den] at h2
 refine X.go T71_ok 400 _ rfl Tryz.results71 ?_
 conv=>arg 2;cbv
 refine X.done T71_ok rfl (fun N w' v hN hS hv=>⟨?_,hS.chg.none⟩)
 exact fin_int hv (by rw [cmp3,if_neg (by omega),if_neg (by omega)];rfl)
theorem nan_u32 (a:Int) (w:World):Calls Tryz.prog 103 #[.int .u32 a] w fun e w'=>e=.returned (.bool false)∧Chg (fun _ _=>False) w w':=by
 refine X.begin (rg:=[]) (N:=[]) (ss:=[.int .u32 (.v a)]) Tryz.func103 rfl B103_ok rfl rfl Sat.std0 ?_
 refine X.go T103_ok 400 _ rfl Tryz.results103 ?_
 conv=>arg 2;cbv
 refine X.done T103_ok rfl (fun N w' v hN hS hv=>⟨?_,hS.chg.none⟩)
 exact fin_bool hv (by simp [SB.den,SI.den])
theorem cmp_u32 (a b:Int) (w:World):Calls Tryz.prog 72 #[.int .u32 a,.int .u32 b] w fun e w'=>e=.returned (.int .i64 (cmp3 a b))∧Chg (fun _ _=>False) w w':=by
 refine X.begin (rg:=[]) (N:=[]) (ss:=[.int .u32 (.v a),.int .u32 (.v b)]) Tryz.func72 rfl B72_ok rfl rfl Sat.std0 ?_
 refine X.goX ([(8,.bool (.lit false)),(10,.bool (.lit false))]) ([]) T72_ok 400 _ rfl Tryz.results72 (fun pr pe fin hpr hpe hfin=>?_)
 conv=>cbv
 refine ⟨hpr _ (.of Tryz.call103 [.int .u32 a] (.bool false) (fun _=>rfl) (fun _=>rfl) fun _ w1 _=>nan_u32 a w1),hpr _ (.of Tryz.call103 [.int .u32 b] (.bool false) (fun _=>rfl) (fun _=>rfl) fun _ w1 _=>nan_u32 b w1),hfin _ _ ?_⟩
 clear hpr hpe hfin
 refine X.cond rfl (fun h1=>?_) (fun h1=>?_)
 ·simp only [SB.T,SI.den] at h1
  refine X.go T72_ok 400 _ rfl Tryz.results72 ?_
  conv=>arg 2;cbv
  refine X.done T72_ok rfl (fun N w' v hN hS hv=>⟨?_,hS.chg.none⟩)
  exact fin_int hv (by rw [cmp3,if_pos h1];rfl)
 simp only [SB.F,SI.den] at h1
 refine X.go T72_ok 400 _ rfl Tryz.results72 ?_
 conv=>arg 2;cbv
 refine X.cond rfl (fun h2=>?_) (fun h2=>?_)
 ·simp only [SB.T,SI.den] at h2
  refine X.go T72_ok 400 _ rfl Tryz.results72 ?_
  conv=>arg 2;cbv
  refine X.done T72_ok rfl (fun N w' v hN hS hv=>⟨?_,hS.chg.none⟩)
  exact fin_int hv (by rw [cmp3,if_neg (by omega),if_pos (by omega)];rfl)
 simp only [SB.F,SI.den] at h2
 refine X.go T72_ok 400 _ rfl Tryz.results72 ?_
 conv=>arg 2;cbv
 refine X.done T72_ok rfl (fun N w' v hN hS hv=>⟨?_,hS.chg.none⟩)
 exact fin_int hv (by rw [cmp3,if_neg (by omega),if_neg (by omega)];rfl)
theorem or3_ok (b y c:Nat) (z1 z2 z3:Int) (w:World) (h1:w.cell? ⟨b,y,none⟩=some (.int .i64 z1)) (h2:w.cell? ⟨b,y+1,none⟩=some (.int .i64 z2)) (h3:w.cell? ⟨b,y+2,none⟩=some (.int .i64 z3)):Calls Tryz.prog 69 #[.slice (some ⟨b,y,none⟩) 3 c] w fun e w'=>e=.returned (.int .i64 (or3 z1 z2 z3))∧Chg (fun _ _=>False) w w':=by
 refine X.begin (rg:=[]) (N:=[]) (ss:=[.slv (some ⟨b,y,none⟩) 3 c]) Tryz.func69 rfl B69_ok rfl rfl Sat.std0 ?_
 refine X.addIm [(0,.val (.osl 0 0 3 1 (some c)))] b y (cs:=[.int .i64 (.v z1),.int .i64 (.v z2),.int .i64 (.v z3)]) (by simp) (fun j x hj=>?_) (fun N hN=>?_) ?_
 ·match j,hj with
  | 0,hj=>cases hj;exact ⟨_,fun _=>rfl,his h1⟩
  | 1,hj=>cases hj;exact ⟨_,fun _=>rfl,his h2⟩
  | 2,hj=>cases hj;exact ⟨_,fun _=>rfl,his h3⟩
  | j+3,hj=>simp at hj
 ·obtain rfl:N=[]:=List.eq_nil_of_length_eq_zero hN
  refine ⟨rfl,fun x h=>?_,trivial⟩
  simpa [SV.den,Num.cap] using h
 refine X.goC FALL_ok true T69_ok 4000 _ rfl Tryz.results69 ?_
 conv=>arg 2;cbv
 refine X.cond rfl (fun h1=>?_) (fun h1=>?_)
 ·simp only [SB.T,SB.F,SI.den] at h1
  have h1:¬z1=0:=h1
  refine X.goC FALL_ok true T69_ok 4000 _ rfl Tryz.results69 ?_
  conv=>arg 2;cbv
  refine X.done T69_ok rfl (fun N w' v hN hS hv=>⟨fin_int hv ?_,hS.chg.none⟩)
  simp [SI.den,or3,h1]
 simp only [SB.T,SB.F,SI.den] at h1
 have h1:z1=0:=by omega
 refine X.goC FALL_ok true T69_ok 4000 _ rfl Tryz.results69 ?_
 conv=>arg 2;cbv
 refine X.cond rfl (fun h2=>?_) (fun h2=>?_)
 ·simp only [SB.T,SB.F,SI.den] at h2
  have h2:¬z2=0:=h2
  refine X.goC FALL_ok true T69_ok 4000 _ rfl Tryz.results69 ?_
  conv=>arg 2;cbv
  refine X.done T69_ok rfl (fun N w' v hN hS hv=>⟨fin_int hv ?_,hS.chg.none⟩)
  simp [SI.den,or3,h1,h2]
 simp only [SB.T,SB.F,SI.den] at h2
 have h2:z2=0:=by omega
 refine X.goC FALL_ok true T69_ok 4000 _ rfl Tryz.results69 ?_
 conv=>arg 2;cbv
 refine X.cond rfl (fun h3=>?_) (fun h3=>?_)
 ·simp only [SB.T,SB.F,SI.den] at h3
  have h3:¬z3=0:=h3
  refine X.goC FALL_ok true T69_ok 4000 _ rfl Tryz.results69 ?_
  conv=>arg 2;cbv
  refine X.done T69_ok rfl (fun N w' v hN hS hv=>⟨fin_int hv ?_,hS.chg.none⟩)
  simp [SI.den,or3,h1,h2,h3]
 simp only [SB.T,SB.F,SI.den] at h3
 have h3:z3=0:=by omega
 refine X.goC FALL_ok true T69_ok 4000 _ rfl Tryz.results69 ?_
 conv=>arg 2;cbv
 refine X.done T69_ok rfl (fun N w' v hN hS hv=>⟨fin_int hv ?_,hS.chg.none⟩)
 simp [SI.den,or3,h1,h2,h3]
theorem bcompare_ok (a1 a2 a3 b1 b2 b3:Int) (w:World):Calls Tryz.prog 41 #[.agg #[.int .u64 a1,.int .u8 a2,.int .u32 a3],.agg #[.int .u64 b1,.int .u8 b2,.int .u32 b3]] w fun e w'=>e=.returned (.int .i64 (or3 (cmp3 a1 b1) (cmp3 a2 b2) (cmp3 a3 b3)))∧Chg (fun _ _=>False) w w':=by
 obtain ⟨z1,h1⟩:∃ z,z=cmp3 a1 b1:=⟨_,rfl⟩
 obtain ⟨z2,h2⟩:∃ z,z=cmp3 a2 b2:=⟨_,rfl⟩
 obtain ⟨z3,h3⟩:∃ z,z=cmp3 a3 b3:=⟨_,rfl⟩
 obtain ⟨q,hq⟩:∃ z,z=or3 z1 z2 z3:=⟨_,rfl⟩
 rw [←h1,←h2,←h3,←hq]
 refine X.begin (rg:=[]) (N:=[]) (ss:=[.agg [.int .u64 (.v a1),.int .u8 (.v a2),.int .u32 (.v a3)],.agg [.int .u64 (.v b1),.int .u8 (.v b2),.int .u32 (.v b3)]]) Tryz.func41 rfl B41_ok rfl rfl Sat.std0 ?_
 refine X.goX ([(9,.int .i64 (.v z1)),(14,.int .i64 (.v z2)),(19,.int .i64 (.v z3)),(21,.int .i64 (.v q))]) ([]) T41_ok 400 _ rfl Tryz.results41 (fun pr pe fin hpr hpe hfin=>?_)
 conv=>cbv
 refine ⟨hpr _ (.of Tryz.call70 [.int .u64 a1,.int .u64 b1] (.int .i64 z1) (fun _=>rfl) (fun _=>rfl) fun _ w1 _=>h1 ▸ cmp_u64 a1 b1 w1),hpr _ (.of Tryz.call71 [.int .u8 a2,.int .u8 b2] (.int .i64 z2) (fun _=>rfl) (fun _=>rfl) fun _ w1 _=>h2 ▸ cmp_u8 a2 b2 w1),hpr _ (.of Tryz.call72 [.int .u32 a3,.int .u32 b3] (.int .i64 z3) (fun _=>rfl) (fun _=>rfl) fun _ w1 _=>h3 ▸ cmp_u32 a3 b3 w1),rfl,hpr _ fun _=>⟨Tryz.call69,fun N w1 args hN hS ha=>?_⟩,hfin _ _ ?_⟩
 ·obtain ⟨p,hp⟩:∃ p,N[2]?=some p:=⟨_,List.getElem?_eq_getElem (by rw [hS.len];show 2<3;omega)⟩
  have ha:args=[.slice (some ⟨p.b,p.o,none⟩) 3 3]:=by
   simp only [SV.denL,SV.den,hp,Num.cap,Nat.add_zero,Option.some.injEq] at ha
   exact ha.symm
  rw [ha]
  have hc:∀ (j:Nat) (z:Int),[SV.int .i64 (.v z1),.int .i64 (.v z2),.int .i64 (.v z3)][j]?=some (.int .i64 (.v z))→w1.cell? ⟨p.b,p.o+j,none⟩=some (.int .i64 z):=fun j z hj=>by
   obtain ⟨v,k1,k2⟩:=hS.cell 2 _ _ rfl hp j _ hj
   simp only [SV.den,SI.den,Option.some.injEq] at k1
   rw [k2,←k1]
  exact (or3_ok p.b p.o 3 z1 z2 z3 w1 (hc 0 z1 rfl) (hc 1 z2 rfl) (hc 2 z3 rfl)).mono fun e w' ⟨he,hch⟩=>⟨_,he,by rw [hq];rfl,hch⟩
 refine X.done T41_ok rfl (fun N w' v hN hS hv=>⟨fin_int hv rfl,hS.chg.none⟩)
noncomputable def nextB (a1 a2 a3 b1 b2 b3:Int):Bool:=B ((b1=0∧b2=0∧b3=0)∨b2=a2∧b3=a3∧0<or3 (cmp3 b1 a1) (cmp3 b2 a2) (cmp3 b3 a3))
theorem bnext_ok (a1 a2 a3 b1 b2 b3:Int) (w:World):Calls Tryz.prog 78 #[.agg #[.int .u64 a1,.int .u8 a2,.int .u32 a3],.agg #[.int .u64 b1,.int .u8 b2,.int .u32 b3]] w fun e w'=>e=.returned (.bool (nextB a1 a2 a3 b1 b2 b3))∧Chg (fun _ _=>False) w w':=by
 obtain ⟨nb,hnb⟩:∃ b,b=decide (b1=0∧b2=0∧b3=0):=⟨_,rfl⟩
 obtain ⟨z,hz⟩:∃ z,z=or3 (cmp3 b1 a1) (cmp3 b2 a2) (cmp3 b3 a3):=⟨_,rfl⟩
 obtain ⟨q,hq⟩:∃ q,q=nextB a1 a2 a3 b1 b2 b3:=⟨_,rfl⟩
 have hN:∀ w1:World,Calls Tryz.prog 33 #[.agg #[.int .u64 b1,.int .u8 b2,.int .u32 b3]] w1 fun e w'=>e=.returned (.bool nb)∧Chg (fun _ _=>False) w1 w':=fun w1=>by rw [hnb];exact none_ok b1 b2 b3 w1
 rw [←hq]
 refine X.begin (rg:=[]) (N:=[]) (ss:=[.agg [.int .u64 (.v a1),.int .u8 (.v a2),.int .u32 (.v a3)],.agg [.int .u64 (.v b1),.int .u8 (.v b2),.int .u32 (.v b3)]]) Tryz.func78 rfl B78_ok rfl rfl Sat.std0 ?_
 by_cases hn:b1=0∧b2=0∧b3=0
 ·rw [decide_eq_true hn] at hnb
  subst hnb
  refine X.goX ([(6,.bool (.lit true))]) ([]) T78_ok 400 _ rfl Tryz.results78 (fun pr pe fin hpr hpe hfin=>?_)
  conv=>cbv
  refine ⟨hpr _ (.of Tryz.call33 [.agg #[.int .u64 b1,.int .u8 b2,.int .u32 b3]] (.bool true) (fun _=>rfl) (fun _=>rfl) fun _ w1 _=>hN w1),hfin _ _ ?_⟩
  refine X.done T78_ok rfl (fun N w' v hN hS hv=>⟨fin_bool hv ?_,hS.chg.none⟩)
  rw [hq,nextB,B_pos (.inl hn)]
  rfl
 rw [decide_eq_false hn] at hnb
 subst hnb
 refine X.goX ([(6,.bool (.lit false)),(23,.int .i64 (.v z))]) ([]) T78_ok 400 _ rfl Tryz.results78 (fun pr pe fin hpr hpe hfin=>?_)
 conv=>cbv
 refine ⟨hpr _ (.of Tryz.call33 [.agg #[.int .u64 b1,.int .u8 b2,.int .u32 b3]] (.bool false) (fun _=>rfl) (fun _=>rfl) fun _ w1 _=>hN w1),hpr _ (.of Tryz.call41 [.agg #[.int .u64 b1,.int .u8 b2,.int .u32 b3],.agg #[.int .u64 a1,.int .u8 a2,.int .u32 a3]] (.int .i64 z) (fun _=>rfl) (fun _=>rfl) fun _ w1 _=>hz ▸ bcompare_ok b1 b2 b3 a1 a2 a3 w1),hfin _ _ ?_⟩
 refine X.done T78_ok rfl (fun N w' v hN hS hv=>⟨fin_bool hv ?_,hS.chg.mono fun k o _ h=>inR_nil h⟩)
 refine den_of ?_
 rw [hq,nextB]
 simp only [SB.T,SI.den,B_iff,←hz]
 constructor
 ·intro h
  exact .inr ⟨h.1.1,h.1.2,h.2⟩
 ·rintro (h | ⟨h1,h2,h3⟩)
  ·exact absurd h hn
  ·exact ⟨⟨h1,h2⟩,h3⟩
def regZP:RegP:=⟨0,0,0,[],[],[],0,[]⟩
theorem regZ_rep (M:Mem):RepL M regZP.toD [.int .u8 0,.int .u64 0,.int .i64 0,.slice none 0 0,.slice none 0 0,.slice none 0 0,.int .u64 0,.slice none 0 0] :=
 RegP.rep (v:=[]) (o:=[]) (u:=[]) (m:=[]) ⟨⟨by simp,by simp⟩,.inl rfl⟩ ⟨⟨by simp,by simp⟩,.inl rfl⟩ ⟨⟨by simp,by simp⟩,.inl rfl⟩ ⟨⟨by simp,by simp⟩,.inl rfl⟩
theorem zero_ok (a:RegP) (va:List Value) (w:World) (ha:RepL (wm w) a.toD va):Calls Tryz.prog 77 #[.agg va.toArray] w fun e w'=>e=.returned (.bool (B (a=regZP)))∧Chg (fun _ _=>False) w w':=by
 have e0:=fun (w1:World) hi1=>regSame_ok a regZP va _ w1 (ha.later (im:=elsewhere [] [] w) rfl hi1) (regZ_rep (wm w1))
 obtain ⟨h,hh⟩:∃ h,h=B (a=regZP):=⟨_,rfl⟩
 rw [←hh] at e0 ⊢
 obtain ⟨p1,c1,p2,c2,p3,c3,p4,c4,rfl,_⟩:=RegP.open ha
 clear ha hh
 obtain ⟨k1,i1,s1,v1,o1,u1,l1,m1⟩:=a
 simp only at e0 ⊢
 obtain ⟨n1,hn1⟩:∃ n,n=v1.length:=⟨_,rfl⟩
 obtain ⟨n2,hn2⟩:∃ n,n=o1.length:=⟨_,rfl⟩
 obtain ⟨n3,hn3⟩:∃ n,n=u1.length:=⟨_,rfl⟩
 obtain ⟨n4,hn4⟩:∃ n,n=m1.length:=⟨_,rfl⟩
 rw [←hn1,←hn2,←hn3,←hn4] at e0 ⊢
 refine X.begin (rg:=[]) (N:=[]) (ss:=[.agg [.int .u8 (.v k1),.int .u64 (.v i1),.int .i64 (.v s1),.slv p1 n1 c1,.slv p2 n2 c2,.slv p3 n3 c3,.int .u64 (.v l1),.slv p4 n4 c4]]) Tryz.func77 rfl B77_ok rfl rfl Sat.std0 ?_
 obtain ⟨im,hime⟩:∃ im,im=elsewhere [] [] w:=⟨_,rfl⟩
 show X (mkE Tryz.prog Tryz.f77 _ w (InR [] []) (elsewhere [] [] w) (fun _ _=>False) (fun _=>True) [] B77) _ _
 rw [←hime] at e0 ⊢
 refine X.goX ([(5,.bool (.v h))]) ([]) T77_ok 400 _ rfl Tryz.results77 (fun pr pe fin hpr hpe hfin=>?_)
 conv=>cbv
 refine ⟨hpr _ (.of Tryz.call104 [.agg _,.agg _] (.bool h) (fun _=>rfl) (fun _=>rfl) fun _ w1 hi1=>e0 w1 hi1),hfin _ _ ?_⟩
 refine X.done T77_ok rfl (fun N w' v hN hS hv=>⟨fin_bool hv ?_,hS.chg.mono fun k o _ h=>inR_nil h⟩)
 rfl
structure MsgA where
 (kind fr to key C b1 b2 b3:Int) (ok:Bool) (a1 a2 a3:Int) (reg:RegP) (x1 x2 x3 mx:Int)
def MsgA.vals (m:MsgA) (va:List Value):List Value:=[.int .u8 m.kind,.int .u8 m.fr,.int .u8 m.to,.int .u8 m.key,.int .u64 m.C,.int .u64 m.b1,.int .u8 m.b2,.int .u32 m.b3,.bool m.ok,.int .u64 m.a1,.int .u8 m.a2,.int .u32 m.a3]++(va++[.int .u64 m.x1,.int .u8 m.x2,.int .u32 m.x3,.int .u64 m.mx])
def no3 (a b c:Int):Bool:=decide (a=0∧b=0∧c=0)
noncomputable def MsgA.pmay (m:MsgA):Bool :=
 decide (m.fr<64)&&decide (m.to<64)&&decide (m.key<16)&&!no3 m.b1 m.b2 m.b3&&!(m.ok&&decide (0<m.mx)) &&
  (bif decide (m.kind=1) then !m.ok&&decide (m.mx=0)&&no3 m.a1 m.a2 m.a3&&no3 m.x1 m.x2 m.x3&&B (m.reg=regZP)
  else bif decide (m.kind=2) then (bif m.ok then no3 m.x1 m.x2 m.x3&&B m.reg.pmay&&(!no3 m.a1 m.a2 m.a3 || B (m.reg=regZP)) else no3 m.a1 m.a2 m.a3&&no3 m.x1 m.x2 m.x3&&B (m.reg=regZP))
  else bif decide (m.kind=3) then !m.ok&&decide (m.mx=0)&&no3 m.a1 m.a2 m.a3&&B m.reg.pmay&&nextB m.b1 m.b2 m.b3 m.x1 m.x2 m.x3
  else decide (m.kind=4)&&no3 m.a1 m.a2 m.a3&&no3 m.x1 m.x2 m.x3&&B (m.reg=regZP))
theorem msgMay_true (kind fr to key C b1 b2 b3 a1 a2 a3:Int) (a:RegP) (va:List Value) (x1 x2 x3 mx:Int) (w:World) (ha:RepL (wm w) a.toD va) :
  Calls Tryz.prog 43 #[.agg (MsgA.vals ⟨kind,fr,to,key,C,b1,b2,b3,true,a1,a2,a3,a,x1,x2,x3,mx⟩ va).toArray] w fun e w'=>e=.returned (.bool (MsgA.pmay ⟨kind,fr,to,key,C,b1,b2,b3,true,a1,a2,a3,a,x1,x2,x3,mx⟩))∧Chg (fun _ _=>False) w w':=by
 have e0:=fun (w1:World) hi1=>zero_ok a va w1 (ha.later (im:=elsewhere [] [] w) rfl hi1)
 have e1:=fun (w1:World) hi1=>pmay_ok a va w1 (ha.later (im:=elsewhere [] [] w) rfl hi1)
 obtain ⟨p1,c1,p2,c2,p3,c3,p4,c4,rfl,_⟩:=RegP.open ha
 clear ha
 obtain ⟨q,hq⟩:∃ q,q=MsgA.pmay ⟨kind,fr,to,key,C,b1,b2,b3,true,a1,a2,a3,a,x1,x2,x3,mx⟩:=⟨_,rfl⟩
 obtain ⟨zr,hzr⟩:∃ q,q=B (a=regZP):=⟨_,rfl⟩
 obtain ⟨mr,hmr⟩:∃ q,q=B a.pmay:=⟨_,rfl⟩
 obtain ⟨nb,hnb⟩:∃ q,q=decide (b1=0∧b2=0∧b3=0):=⟨_,rfl⟩
 obtain ⟨na,hna⟩:∃ q,q=decide (a1=0∧a2=0∧a3=0):=⟨_,rfl⟩
 obtain ⟨nx,hnx⟩:∃ q,q=decide (x1=0∧x2=0∧x3=0):=⟨_,rfl⟩
 obtain ⟨ne,hne⟩:∃ q,q=nextB b1 b2 b3 x1 x2 x3:=⟨_,rfl⟩
 rw [←hq]
 rw [←hzr] at e0
 rw [←hmr] at e1
 simp only [MsgA.pmay,no3,←hzr,←hmr,←hnb,←hna,←hnx,←hne] at hq
 clear hzr hmr
 have cB:∀ w1:World,Calls Tryz.prog 33 #[.agg #[.int .u64 b1,.int .u8 b2,.int .u32 b3]] w1 fun e w'=>e=.returned (.bool nb)∧Chg (fun _ _=>False) w1 w':=fun w1=>by rw [hnb];exact none_ok b1 b2 b3 w1
 have cA:∀ w1:World,Calls Tryz.prog 33 #[.agg #[.int .u64 a1,.int .u8 a2,.int .u32 a3]] w1 fun e w'=>e=.returned (.bool na)∧Chg (fun _ _=>False) w1 w':=fun w1=>by rw [hna];exact none_ok a1 a2 a3 w1
 have cX:∀ w1:World,Calls Tryz.prog 33 #[.agg #[.int .u64 x1,.int .u8 x2,.int .u32 x3]] w1 fun e w'=>e=.returned (.bool nx)∧Chg (fun _ _=>False) w1 w':=fun w1=>by rw [hnx];exact none_ok x1 x2 x3 w1
 have cE:∀ w1:World,Calls Tryz.prog 78 #[.agg #[.int .u64 b1,.int .u8 b2,.int .u32 b3],.agg #[.int .u64 x1,.int .u8 x2,.int .u32 x3]] w1 fun e w'=>e=.returned (.bool ne)∧Chg (fun _ _=>False) w1 w':=fun w1=>by rw [hne];exact bnext_ok b1 b2 b3 x1 x2 x3 w1
 clear hnb hna hnx hne
 obtain ⟨k1,i1,s1,v1,o1,u1,l1,m1⟩:=a
 simp only at e0 e1 ⊢
 obtain ⟨n1,hn1⟩:∃ n,n=v1.length:=⟨_,rfl⟩
 obtain ⟨n2,hn2⟩:∃ n,n=o1.length:=⟨_,rfl⟩
 obtain ⟨n3,hn3⟩:∃ n,n=u1.length:=⟨_,rfl⟩
 obtain ⟨n4,hn4⟩:∃ n,n=m1.length:=⟨_,rfl⟩
 rw [←hn1,←hn2,←hn3,←hn4] at e0 e1 ⊢
 refine X.begin (rg:=[]) (N:=[]) (ss:=[.agg [.int .u8 (.v kind),.int .u8 (.v fr),.int .u8 (.v to),.int .u8 (.v key),.int .u64 (.v C),.int .u64 (.v b1),.int .u8 (.v b2),.int .u32 (.v b3),.bool (.lit true),.int .u64 (.v a1),.int .u8 (.v a2),.int .u32 (.v a3),.int .u8 (.v k1),.int .u64 (.v i1),.int .i64 (.v s1),.slv p1 n1 c1,.slv p2 n2 c2,.slv p3 n3 c3,.int .u64 (.v l1),.slv p4 n4 c4,.int .u64 (.v x1),.int .u8 (.v x2),.int .u32 (.v x3),.int .u64 (.v mx)]]) Tryz.func43 rfl B43_ok rfl rfl Sat.std0 ?_
 obtain ⟨im,hime⟩:∃ im,im=elsewhere [] [] w:=⟨_,rfl⟩
 show X (mkE Tryz.prog Tryz.f43 _ w (InR [] []) (elsewhere [] [] w) (fun _ _=>False) (fun _=>True) [] B43) _ _
 rw [←hime] at e0 e1 ⊢
 refine X.goX ([(19,.bool (.v nb))]) ([]) T43_ok 400 _ rfl Tryz.results43 (fun pr pe fin hpr hpe hfin=>?_)
 conv=>cbv
 refine ⟨hpr _ (.of Tryz.call33 [.agg #[.int .u64 b1,.int .u8 b2,.int .u32 b3]] (.bool _) (fun _=>rfl) (fun _=>rfl) fun _ w1 _=>cB w1),hfin _ _ ?_⟩
 clear hpr hpe hfin
 refine X.cond rfl (fun h1=>?_) (fun h1=>?_)
 ·simp only [SB.T,SB.F,SI.den] at h1
  refine X.go T43_ok 400 _ rfl Tryz.results43 ?_
  conv=>arg 2;cbv
  refine X.done T43_ok rfl (fun N w' v hN hS hv=>⟨fin_bool hv ?_,hS.chg.mono fun k o _ h=>inR_nil h⟩)
  show false=q
  rw [hq]
  grind
 simp only [SB.T,SB.F,SI.den] at h1
 refine X.go T43_ok 400 _ rfl Tryz.results43 ?_
 conv=>arg 2;cbv
 refine X.cond rfl (fun h2=>?_) (fun h2=>?_)
 ·simp only [SB.T,SB.F,SI.den] at h2
  refine X.go T43_ok 400 _ rfl Tryz.results43 ?_
  conv=>arg 2;cbv
  refine X.done T43_ok rfl (fun N w' v hN hS hv=>⟨fin_bool hv ?_,hS.chg.mono fun k o _ h=>inR_nil h⟩)
  show false=q
  rw [hq]
  grind
 simp only [SB.T,SB.F,SI.den] at h2
 refine X.go T43_ok 400 _ rfl Tryz.results43 ?_
 conv=>arg 2;cbv
 refine X.cond rfl (fun h3=>?_) (fun h3=>?_)
 ·simp only [SB.T,SB.F,SI.den] at h3
  cases nx
  ·skip
   refine X.goX ([(77,.bool (.lit false))]) ([]) T43_ok 400 _ rfl Tryz.results43 (fun pr pe fin hpr hpe hfin=>?_)
   conv=>cbv
   refine ⟨hpr _ (.of Tryz.call33 [.agg #[.int .u64 x1,.int .u8 x2,.int .u32 x3]] (.bool _) (fun _=>rfl) (fun _=>rfl) fun _ w1 _=>cX w1),hfin _ _ ?_⟩
   clear hpr hpe hfin
   refine X.done T43_ok rfl (fun N w' v hN hS hv=>⟨fin_bool hv ?_,hS.chg.mono fun k o _ h=>inR_nil h⟩)
   show false=q
   rw [hq]
   grind
  cases mr
  ·skip
   refine X.goX ([(77,.bool (.lit true)),(81,.bool (.lit false))]) ([]) T43_ok 400 _ rfl Tryz.results43 (fun pr pe fin hpr hpe hfin=>?_)
   conv=>cbv
   refine ⟨hpr _ (.of Tryz.call33 [.agg #[.int .u64 x1,.int .u8 x2,.int .u32 x3]] (.bool _) (fun _=>rfl) (fun _=>rfl) fun _ w1 _=>cX w1),hpr _ (.of Tryz.call49 [.agg _] (.bool _) (fun _=>rfl) (fun _=>rfl) fun _ w1 hi1=>e1 w1 hi1),hfin _ _ ?_⟩
   clear hpr hpe hfin
   refine X.done T43_ok rfl (fun N w' v hN hS hv=>⟨fin_bool hv ?_,hS.chg.mono fun k o _ h=>inR_nil h⟩)
   show false=q
   rw [hq]
   grind
  refine X.goX ([(77,.bool (.lit true)),(81,.bool (.lit true)),(86,.bool (.v na)),(91,.bool (.v zr))]) ([]) T43_ok 400 _ rfl Tryz.results43 (fun pr pe fin hpr hpe hfin=>?_)
  conv=>cbv
  refine ⟨hpr _ (.of Tryz.call33 [.agg #[.int .u64 x1,.int .u8 x2,.int .u32 x3]] (.bool _) (fun _=>rfl) (fun _=>rfl) fun _ w1 _=>cX w1),hpr _ (.of Tryz.call49 [.agg _] (.bool _) (fun _=>rfl) (fun _=>rfl) fun _ w1 hi1=>e1 w1 hi1),hpr _ (.of Tryz.call33 [.agg #[.int .u64 a1,.int .u8 a2,.int .u32 a3]] (.bool _) (fun _=>rfl) (fun _=>rfl) fun _ w1 _=>cA w1),hpr _ (.of Tryz.call77 [.agg _] (.bool _) (fun _=>rfl) (fun _=>rfl) fun _ w1 hi1=>e0 w1 hi1),hfin _ _ ?_⟩
  clear hpr hpe hfin
  refine X.done T43_ok rfl (fun N w' v hN hS hv=>⟨fin_bool hv ?_,hS.chg.mono fun k o _ h=>inR_nil h⟩)
  refine den_of ?_
  simp only [SB.T,SB.F,SI.den]
  rw [hq]
  grind
 simp only [SB.T,SB.F,SI.den] at h3
 refine X.go T43_ok 400 _ rfl Tryz.results43 ?_
 conv=>arg 2;cbv
 refine X.cond rfl (fun h4=>?_) (fun h4=>?_)
 ·simp only [SB.T,SB.F,SI.den] at h4
  refine X.go T43_ok 400 _ rfl Tryz.results43 ?_
  conv=>arg 2;cbv
  refine X.done T43_ok rfl (fun N w' v hN hS hv=>⟨fin_bool hv ?_,hS.chg.mono fun k o _ h=>inR_nil h⟩)
  show false=q
  rw [hq]
  grind
 simp only [SB.T,SB.F,SI.den] at h4
 refine X.goX ([(127,.bool (.v na)),(132,.bool (.v nx)),(137,.bool (.v zr))]) ([]) T43_ok 400 _ rfl Tryz.results43 (fun pr pe fin hpr hpe hfin=>?_)
 conv=>cbv
 refine ⟨hpr _ (.of Tryz.call33 [.agg #[.int .u64 a1,.int .u8 a2,.int .u32 a3]] (.bool _) (fun _=>rfl) (fun _=>rfl) fun _ w1 _=>cA w1),hpr _ (.of Tryz.call33 [.agg #[.int .u64 x1,.int .u8 x2,.int .u32 x3]] (.bool _) (fun _=>rfl) (fun _=>rfl) fun _ w1 _=>cX w1),hpr _ (.of Tryz.call77 [.agg _] (.bool _) (fun _=>rfl) (fun _=>rfl) fun _ w1 hi1=>e0 w1 hi1),hfin _ _ ?_⟩
 clear hpr hpe hfin
 refine X.done T43_ok rfl (fun N w' v hN hS hv=>⟨fin_bool hv ?_,hS.chg.mono fun k o _ h=>inR_nil h⟩)
 refine den_of ?_
 simp only [SB.T,SB.F,SI.den]
 rw [hq]
 grind
theorem msgMay_false (kind fr to key C b1 b2 b3 a1 a2 a3:Int) (a:RegP) (va:List Value) (x1 x2 x3 mx:Int) (w:World) (ha:RepL (wm w) a.toD va) :
  Calls Tryz.prog 43 #[.agg (MsgA.vals ⟨kind,fr,to,key,C,b1,b2,b3,false,a1,a2,a3,a,x1,x2,x3,mx⟩ va).toArray] w fun e w'=>e=.returned (.bool (MsgA.pmay ⟨kind,fr,to,key,C,b1,b2,b3,false,a1,a2,a3,a,x1,x2,x3,mx⟩))∧Chg (fun _ _=>False) w w':=by
 have e0:=fun (w1:World) hi1=>zero_ok a va w1 (ha.later (im:=elsewhere [] [] w) rfl hi1)
 have e1:=fun (w1:World) hi1=>pmay_ok a va w1 (ha.later (im:=elsewhere [] [] w) rfl hi1)
 obtain ⟨p1,c1,p2,c2,p3,c3,p4,c4,rfl,_⟩:=RegP.open ha
 clear ha
 obtain ⟨q,hq⟩:∃ q,q=MsgA.pmay ⟨kind,fr,to,key,C,b1,b2,b3,false,a1,a2,a3,a,x1,x2,x3,mx⟩:=⟨_,rfl⟩
 obtain ⟨zr,hzr⟩:∃ q,q=B (a=regZP):=⟨_,rfl⟩
 obtain ⟨mr,hmr⟩:∃ q,q=B a.pmay:=⟨_,rfl⟩
 obtain ⟨nb,hnb⟩:∃ q,q=decide (b1=0∧b2=0∧b3=0):=⟨_,rfl⟩
 obtain ⟨na,hna⟩:∃ q,q=decide (a1=0∧a2=0∧a3=0):=⟨_,rfl⟩
 obtain ⟨nx,hnx⟩:∃ q,q=decide (x1=0∧x2=0∧x3=0):=⟨_,rfl⟩
 obtain ⟨ne,hne⟩:∃ q,q=nextB b1 b2 b3 x1 x2 x3:=⟨_,rfl⟩
 rw [←hq]
 rw [←hzr] at e0
 rw [←hmr] at e1
 simp only [MsgA.pmay,no3,←hzr,←hmr,←hnb,←hna,←hnx,←hne] at hq
 clear hzr hmr
 have cB:∀ w1:World,Calls Tryz.prog 33 #[.agg #[.int .u64 b1,.int .u8 b2,.int .u32 b3]] w1 fun e w'=>e=.returned (.bool nb)∧Chg (fun _ _=>False) w1 w':=fun w1=>by rw [hnb];exact none_ok b1 b2 b3 w1
 have cA:∀ w1:World,Calls Tryz.prog 33 #[.agg #[.int .u64 a1,.int .u8 a2,.int .u32 a3]] w1 fun e w'=>e=.returned (.bool na)∧Chg (fun _ _=>False) w1 w':=fun w1=>by rw [hna];exact none_ok a1 a2 a3 w1
 have cX:∀ w1:World,Calls Tryz.prog 33 #[.agg #[.int .u64 x1,.int .u8 x2,.int .u32 x3]] w1 fun e w'=>e=.returned (.bool nx)∧Chg (fun _ _=>False) w1 w':=fun w1=>by rw [hnx];exact none_ok x1 x2 x3 w1
 have cE:∀ w1:World,Calls Tryz.prog 78 #[.agg #[.int .u64 b1,.int .u8 b2,.int .u32 b3],.agg #[.int .u64 x1,.int .u8 x2,.int .u32 x3]] w1 fun e w'=>e=.returned (.bool ne)∧Chg (fun _ _=>False) w1 w':=fun w1=>by rw [hne];exact bnext_ok b1 b2 b3 x1 x2 x3 w1
 clear hnb hna hnx hne
 obtain ⟨k1,i1,s1,v1,o1,u1,l1,m1⟩:=a
 simp only at e0 e1 ⊢
 obtain ⟨n1,hn1⟩:∃ n,n=v1.length:=⟨_,rfl⟩
 obtain ⟨n2,hn2⟩:∃ n,n=o1.length:=⟨_,rfl⟩
 obtain ⟨n3,hn3⟩:∃ n,n=u1.length:=⟨_,rfl⟩
 obtain ⟨n4,hn4⟩:∃ n,n=m1.length:=⟨_,rfl⟩
 rw [←hn1,←hn2,←hn3,←hn4] at e0 e1 ⊢
 refine X.begin (rg:=[]) (N:=[]) (ss:=[.agg [.int .u8 (.v kind),.int .u8 (.v fr),.int .u8 (.v to),.int .u8 (.v key),.int .u64 (.v C),.int .u64 (.v b1),.int .u8 (.v b2),.int .u32 (.v b3),.bool (.lit false),.int .u64 (.v a1),.int .u8 (.v a2),.int .u32 (.v a3),.int .u8 (.v k1),.int .u64 (.v i1),.int .i64 (.v s1),.slv p1 n1 c1,.slv p2 n2 c2,.slv p3 n3 c3,.int .u64 (.v l1),.slv p4 n4 c4,.int .u64 (.v x1),.int .u8 (.v x2),.int .u32 (.v x3),.int .u64 (.v mx)]]) Tryz.func43 rfl B43_ok rfl rfl Sat.std0 ?_
 obtain ⟨im,hime⟩:∃ im,im=elsewhere [] [] w:=⟨_,rfl⟩
 show X (mkE Tryz.prog Tryz.f43 _ w (InR [] []) (elsewhere [] [] w) (fun _ _=>False) (fun _=>True) [] B43) _ _
 rw [←hime] at e0 e1 ⊢
 refine X.goX ([(19,.bool (.v nb))]) ([]) T43_ok 400 _ rfl Tryz.results43 (fun pr pe fin hpr hpe hfin=>?_)
 conv=>cbv
 refine ⟨hpr _ (.of Tryz.call33 [.agg #[.int .u64 b1,.int .u8 b2,.int .u32 b3]] (.bool _) (fun _=>rfl) (fun _=>rfl) fun _ w1 _=>cB w1),hfin _ _ ?_⟩
 clear hpr hpe hfin
 refine X.cond rfl (fun h1=>?_) (fun h1=>?_)
 ·simp only [SB.T,SB.F,SI.den] at h1
  refine X.go T43_ok 400 _ rfl Tryz.results43 ?_
  conv=>arg 2;cbv
  refine X.done T43_ok rfl (fun N w' v hN hS hv=>⟨fin_bool hv ?_,hS.chg.mono fun k o _ h=>inR_nil h⟩)
  show false=q
  rw [hq]
  grind
 simp only [SB.T,SB.F,SI.den] at h1
 refine X.go T43_ok 400 _ rfl Tryz.results43 ?_
 conv=>arg 2;cbv
 refine X.cond rfl (fun h2=>?_) (fun h2=>?_)
 ·simp only [SB.T,SB.F,SI.den] at h2
  refine X.goX ([(45,.bool (.v na)),(50,.bool (.v nx)),(55,.bool (.v zr))]) ([]) T43_ok 400 _ rfl Tryz.results43 (fun pr pe fin hpr hpe hfin=>?_)
  conv=>cbv
  refine ⟨hpr _ (.of Tryz.call33 [.agg #[.int .u64 a1,.int .u8 a2,.int .u32 a3]] (.bool _) (fun _=>rfl) (fun _=>rfl) fun _ w1 _=>cA w1),hpr _ (.of Tryz.call33 [.agg #[.int .u64 x1,.int .u8 x2,.int .u32 x3]] (.bool _) (fun _=>rfl) (fun _=>rfl) fun _ w1 _=>cX w1),hpr _ (.of Tryz.call77 [.agg _] (.bool _) (fun _=>rfl) (fun _=>rfl) fun _ w1 hi1=>e0 w1 hi1),hfin _ _ ?_⟩
  clear hpr hpe hfin
  refine X.done T43_ok rfl (fun N w' v hN hS hv=>⟨fin_bool hv ?_,hS.chg.mono fun k o _ h=>inR_nil h⟩)
  refine den_of ?_
  simp only [SB.T,SB.F,SI.den]
  rw [hq]
  grind
 simp only [SB.T,SB.F,SI.den] at h2
 refine X.go T43_ok 400 _ rfl Tryz.results43 ?_
 conv=>arg 2;cbv
 refine X.cond rfl (fun h3=>?_) (fun h3=>?_)
 ·simp only [SB.T,SB.F,SI.den] at h3
  refine X.goX ([(64,.bool (.v na)),(68,.bool (.v nx)),(73,.bool (.v zr))]) ([]) T43_ok 400 _ rfl Tryz.results43 (fun pr pe fin hpr hpe hfin=>?_)
  conv=>cbv
  refine ⟨hpr _ (.of Tryz.call33 [.agg #[.int .u64 a1,.int .u8 a2,.int .u32 a3]] (.bool _) (fun _=>rfl) (fun _=>rfl) fun _ w1 _=>cA w1),hpr _ (.of Tryz.call33 [.agg #[.int .u64 x1,.int .u8 x2,.int .u32 x3]] (.bool _) (fun _=>rfl) (fun _=>rfl) fun _ w1 _=>cX w1),hpr _ (.of Tryz.call77 [.agg _] (.bool _) (fun _=>rfl) (fun _=>rfl) fun _ w1 hi1=>e0 w1 hi1),hfin _ _ ?_⟩
  clear hpr hpe hfin
  refine X.done T43_ok rfl (fun N w' v hN hS hv=>⟨fin_bool hv ?_,hS.chg.mono fun k o _ h=>inR_nil h⟩)
  refine den_of ?_
  simp only [SB.T,SB.F,SI.den]
  rw [hq]
  grind
 simp only [SB.T,SB.F,SI.den] at h3
 refine X.go T43_ok 400 _ rfl Tryz.results43 ?_
 conv=>arg 2;cbv
 refine X.cond rfl (fun h4=>?_) (fun h4=>?_)
 ·simp only [SB.T,SB.F,SI.den] at h4
  refine X.goX ([(107,.bool (.v na)),(112,.bool (.v mr)),(119,.bool (.v ne))]) ([]) T43_ok 400 _ rfl Tryz.results43 (fun pr pe fin hpr hpe hfin=>?_)
  conv=>cbv
  refine ⟨hpr _ (.of Tryz.call33 [.agg #[.int .u64 a1,.int .u8 a2,.int .u32 a3]] (.bool _) (fun _=>rfl) (fun _=>rfl) fun _ w1 _=>cA w1),hpr _ (.of Tryz.call49 [.agg _] (.bool _) (fun _=>rfl) (fun _=>rfl) fun _ w1 hi1=>e1 w1 hi1),hpr _ (.of Tryz.call78 [.agg #[.int .u64 b1,.int .u8 b2,.int .u32 b3],.agg #[.int .u64 x1,.int .u8 x2,.int .u32 x3]] (.bool _) (fun _=>rfl) (fun _=>rfl) fun _ w1 _=>cE w1),hfin _ _ ?_⟩
  clear hpr hpe hfin
  refine X.done T43_ok rfl (fun N w' v hN hS hv=>⟨fin_bool hv ?_,hS.chg.mono fun k o _ h=>inR_nil h⟩)
  refine den_of ?_
  simp only [SB.T,SB.F,SI.den]
  rw [hq]
  grind
 simp only [SB.T,SB.F,SI.den] at h4
 refine X.goX ([(127,.bool (.v na)),(132,.bool (.v nx)),(137,.bool (.v zr))]) ([]) T43_ok 400 _ rfl Tryz.results43 (fun pr pe fin hpr hpe hfin=>?_)
 conv=>cbv
 refine ⟨hpr _ (.of Tryz.call33 [.agg #[.int .u64 a1,.int .u8 a2,.int .u32 a3]] (.bool _) (fun _=>rfl) (fun _=>rfl) fun _ w1 _=>cA w1),hpr _ (.of Tryz.call33 [.agg #[.int .u64 x1,.int .u8 x2,.int .u32 x3]] (.bool _) (fun _=>rfl) (fun _=>rfl) fun _ w1 _=>cX w1),hpr _ (.of Tryz.call77 [.agg _] (.bool _) (fun _=>rfl) (fun _=>rfl) fun _ w1 hi1=>e0 w1 hi1),hfin _ _ ?_⟩
 clear hpr hpe hfin
 refine X.done T43_ok rfl (fun N w' v hN hS hv=>⟨fin_bool hv ?_,hS.chg.mono fun k o _ h=>inR_nil h⟩)
 refine den_of ?_
 simp only [SB.T,SB.F,SI.den]
 rw [hq]
 grind
end Go.Proofs.YthaffebapmkppaaGreat
