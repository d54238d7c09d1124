import Derived.Test.YthpbefahaghbjaaGreatWaC
set_option maxHeartbeats 16000000
set_option maxRecDepth 100000
set_option cbv.maxSteps 100000000
namespace Go.Proofs.YthpbefahaghbjaaGreat
open Go Go.Eng Go.Sort
theorem telW_ok:(telW 3 [3] 5).Ok:=⟨by decide,⟨by decide,fun z hz=>by cases hz⟩,⟨by decide,fun z hz=>by
 obtain rfl:z=3:=by simpa [telW] using hz
 decide⟩,by rintro (h | h | h | h | ⟨i,d,h,_⟩)<;>first | exact absurd h (by decide) | (simp [telW,regW0] at h),by decide,by decide,by decide,by decide,by decide⟩
def telWC (n:Int) (b o c:Nat) (a:Int):TelC:=⟨n,0,none,0,0,some ⟨b,o,none⟩,1,c,1,true,0,0,0,1,0,0,regWS,a⟩
theorem telWC_of {M:Mem} {b o:Nat} (h:M b o=some (.int .u8 3)):(telWC 3 b o 1 5).Of M (telW 3 [3] 5):=by
 refine ⟨⟨rfl,rfl,rfl,rfl,rfl,rfl,rfl,rfl⟩,⟨⟨Nat.le_refl _,Nat.zero_le _⟩,.inl rfl⟩,⟨⟨Nat.le_refl _,by decide⟩,.inr ⟨b,o,rfl,fun i d hi=>?_⟩⟩,regW_rep M⟩
 have h0:i=0:=by
  have:=(List.getElem?_eq_some_iff.1 hi).1
  simp [telW] at this
  omega
 subst h0
 obtain rfl:u8D 3=d:=by simpa [telW] using hi
 refine ⟨[.int .u8 3],⟨_,_,rfl,rfl,rfl⟩,fun j v hj=>?_⟩
 have:j=0:=by
  have:=(List.getElem?_eq_some_iff.1 hj).1
  simp at this
  omega
 subst this
 obtain rfl:=Option.some.inj hj
 exact h
theorem zero_ok:WP.zero.Ok 0:=⟨fun _ h=>(by cases h),Nat.le_refl _,Nat.le_refl _,fun _ h=>(by cases h),fun _ h=>(by cases h)⟩
theorem awake24_ok (w:World):Calls Tryz.prog 7 #[] w fun e w'=>e=.returned (.bool true)∧Chg (fun _ _=>False) w w':=by
 obtain ⟨Q,hQ⟩:∃ Q:Ending→World→Prop,Q=fun e w'=>e=.returned (.bool true)∧Chg (fun _ _=>False) w w':=⟨_,rfl⟩
 rw [←hQ]
 refine X.begin (rg:=[]) (N:=[]) (ss:=[]) Tryz.func7 rfl B7_ok rfl rfl Sat.std0 ?_
 obtain ⟨im,hime⟩:∃ im,im=elsewhere [] [] w:=⟨_,rfl⟩
 have himl:∀ k o v,im k o=some v→k<w.heap.size:=fun k o v h=>by
  rw [hime] at h
  unfold elsewhere at h
  rw [if_neg inR_nil] at h
  have:=World.block_lt_of_cell? _ _ h
  simpa using this
 show X (mkE Tryz.prog Tryz.f7 Q w (InR [] []) (elsewhere [] [] w) (fun _ _=>False) (fun _=>True) [] B7) _ _
 rw [←hime]
 refine X.go T7_ok 400 _ rfl Tryz.results7 ?_
 conv=>arg 2;cbv
 refine X.call rfl rfl rfl rfl Tryz.call8 (fun N w1 args hN hS ha=>?_)
 obtain rfl:([]:List Value)=args:=Option.some.inj ha
 refine (wnew_ok im w1 hS.imm).mono fun e w2 ⟨wm,he,hat,hnew,hc⟩=>⟨_,he,?_⟩
 have hws:w.heap.size≤w1.heap.size:=hS.chg.size
 obtain ⟨pb,hpb⟩:∃ z,z=(wm.P 0).b:=⟨_,rfl⟩
 obtain ⟨py,hpy⟩:∃ z,z=(wm.P 0).o:=⟨_,rfl⟩
 refine Goes.turn (r:=.ext pb py 0) (wm.D 0) (WatchR wm WP.zero im) hN hS (hc.mono fun _ _ _ h=>h.elim) (fun _ _ h=>h.elim) (fun _ _ h=>h.elim) (fun g hg=>by simp at hg) (fun k o hk=>⟨.inr (hnew k o hk),hat.there hk⟩) (WatchR.loc (wm:=wm) (s:=WP.zero) (Mo:=im)) hat.r (by rw [hpb,hpy];rfl) rfl ?_
 have hO:∀ k o,wm.D 0 k o→w.heap.size≤k:=fun k o h=>Nat.le_trans hws (hnew k o h)
 clear ha he hc hS hN hat hnew hws
 show X (mkE Tryz.prog Tryz.f7 Q w (InR [] []) im (wm.D 0) (WatchR wm WP.zero im) [] B7) _ _
 refine X.go T7_ok 400 _ rfl Tryz.results7 ?_
 conv=>arg 2;cbv
 refine X.call rfl rfl rfl rfl Tryz.call9 (fun N w1 args hN hS ha=>?_)
 obtain ⟨p,hp⟩:=num_of hS (r:=0) rfl
 obtain rfl:=args_eq (vs:=(sawA pb py (telWC 3 p.b p.o 1 5)).toList) (by simp only [SV.denL,SV.den,SI.den,SB.den,hp];rfl) ha
 have hpw:=hS.lt 0 p hp
 have hpf:w.heap.size≤p.b:=by
  rcases hS.foot 0 _ p rfl hp rfl with h1 | h1
  ·exact h1
  ·exact absurd (h1 0 (by have:=hS.ext 0 _ p rfl hp rfl;simp at this;omega)) inR_nil
 have hrow:w1.cell? ⟨p.b,p.o,none⟩=some (.int .u8 3):=by
  obtain ⟨v,h1,h2⟩:=hS.cell 0 _ _ rfl hp 0 (.int .u8 (.lit 3)) rfl
  simp only [SV.den,SI.den,Option.some.injEq] at h1
  rw [h1];exact h2
 obtain ⟨Mo,hMo⟩:∃ M:Mem,M=fun k o=>if k=p.b then (if o=p.o then some (.int .u8 3) else none) else im k o:=⟨_,rfl⟩
 have hM0:Mo p.b p.o=some (.int .u8 3):=by rw [hMo];simp
 have hM1:∀ o v,Mo p.b o=some v→v=.int .u8 3:=fun o v h=>by
  rw [hMo] at h
  simp only [if_true] at h
  split at h
  ·exact (Option.some.inj h).symm
  ·cases h
 have hM2:∀ k o,k≠p.b→Mo k o=im k o:=fun k o h=>by rw [hMo];simp only [if_neg h]
 have hM3:∀ k o v,im k o=some v→Mo k o=some v:=fun k o v h=>by
  rw [hM2 k o fun e=>by have:=himl k o v h;omega]
  exact h
 have hdd:∀ k o,wm.D 0 k o→Mo k o=none:=fun k o hd=>by
  by_cases hk:k=p.b
  ·rw [hMo]
   simp only [if_pos hk]
   rw [if_neg fun ho=>?_]
   have:=hS.dd 0 _ p rfl hp rfl 0 (by have:=hS.ext 0 _ p rfl hp rfl;simp at this;omega)
   rw [hk,ho] at hd
   exact this hd
  ·rw [hM2 k o hk]
   exact hS.res.md k o hd
 have hat1:WatchAt wm WP.zero Mo w1:=(hS.res.mono hM3 hdd).at fun k o v hk=>by
  by_cases hkp:k=p.b
  ·subst hkp
   have h3:=hM1 o v hk
   rw [hMo] at hk
   simp only [if_true] at hk
   split at hk
   ·rename_i ho
    rw [ho,h3];exact hrow
   ·cases hk
  ·rw [hM2 k o hkp] at hk
   exact hS.imm k o v hk
 have hsaw:=saw_ok wm WP.zero 0 Mo w1 (telWC 3 p.b p.o 1 5) (telW 3 [3] 5) hat1 zero_ok (by omega) (telWC_of hM0) telW_ok
 have hok1:=zero_ok.saw telW_ok
 obtain ⟨hs1,hs2⟩:=zero_saw
 obtain ⟨s',hs'⟩:∃ s',s'=WP.zero.saw (telW 3 [3] 5):=⟨_,rfl⟩
 rw [←hs'] at hsaw hok1 hs1 hs2
 rw [←hpb,←hpy] at hsaw
 refine Calls.mono hsaw fun e w2 ⟨he,wm',Mo',hat',hP,hch,hD',he1,he2⟩=>⟨_,he,?_⟩
 have hN1:∀ o v,Mo' p.b o=some v→v=.int .u8 3:=fun o v h=>by
  rcases he2 _ _ _ h with h1 | h1
  ·exact hM1 o v h1
  ·omega
 obtain ⟨im',him'⟩:∃ M:Mem,M=fun k o=>if k=p.b then none else Mo' k o:=⟨_,rfl⟩
 have hi1:∀ k o v,im' k o=some v→k≠p.b∧Mo' k o=some v:=fun k o v h=>by
  rw [him'] at h
  simp only at h
  split at h
  ·cases h
  ·exact ⟨by assumption,h⟩
 have hi2:∀ k o v,k≠p.b→Mo' k o=some v→im' k o=some v:=fun k o v h1 h2=>by rw [him'];simp only [if_neg h1];exact h2
 refine ⟨mkE Tryz.prog Tryz.f7 Q w (InR [] []) im' (wm'.D s'.seen.length) (WatchR wm' s' Mo') N B7,N,.tup [],_,_,rfl,rfl,rfl,rfl,Nums.le.refl N,Nums.le.refl N,hS.turnMem (wm'.D s'.seen.length) (WatchR wm' s' Mo') im' hch (fun k o hk=>.inl (hO k o hk)) (fun k o hk=>hS.res.md k o hk) (fun r g q hg hq=>?_) (fun k o hk=>⟨hD' k o hk,hat'.there hk⟩) WatchR.loc hat'.r (fun k o v hk=>hat'.mo k o v (hi1 k o v hk).2) (fun k o v hk=>?_),rfl,rfl,?_⟩
 ·match r,hg with
  | 0,hg=>cases hg;exact .inl rfl
 ·rcases he2 _ _ _ (hi1 k o v hk).2 with h1 | h1
  ·rw [hM2 k o (hi1 k o v hk).1] at h1
   exact .inl h1
  ·exact .inr h1
 have hO':∀ k o,wm'.D s'.seen.length k o→w.heap.size≤k:=fun k o h=>by
  rcases hD' k o h with h1 | h1
  ·exact hO k o h1
  ·exact Nat.le_trans hS.chg.size h1
 have hrow':Mo' p.b p.o=some (.int .u8 3):=he1 _ _ _ hM0
 have hrow2:∀ o v,Mo' p.b o=some v→o=p.o:=fun o v h=>by
  rcases he2 _ _ _ h with h1 | h1
  ·rw [hMo] at h1
   simp only [if_true] at h1
   split at h1
   ·assumption
   ·cases h1
  ·omega
 have hpl:=hp
 clear ha he hN hat' hat1 hsaw hch hD' he1 he2 hM0 hM1 hM2 hM3 hdd hMo hO hS hrow himl
 refine X.go T7_ok 400 _ rfl Tryz.results7 ?_
 conv=>arg 2;cbv
 refine X.call rfl rfl rfl rfl Tryz.call10 (fun N2 w3 args hN hS ha=>?_)
 obtain rfl:=args_eq (vs:=[ptrN (wm'.P 0)]) (by rw [hP,ptrN,←hpb,←hpy];rfl) ha
 have hp2:=hN 0 _ hp
 have h3row:w3.cell? ⟨p.b,p.o,none⟩=some (.int .u8 3):=by
  obtain ⟨v,h1,h2⟩:=hS.cell 0 _ _ rfl hp2 0 (.int .u8 (.lit 3)) rfl
  simp only [SV.den,SI.den,Option.some.injEq] at h1
  rw [h1];exact h2
 have hat3:WatchAt wm' s' Mo' w3:=hS.res.at fun k o v hk=>by
  by_cases hkp:k=p.b
  ·subst hkp
   rw [hrow2 o v hk,hN1 o v hk]
   exact h3row
  ·exact hS.imm k o v (hi2 k o v hkp hk)
 have hv:=versions_ok wm' s' 1 Mo' w3 hat3 hok1 (by omega)
 rw [hs1] at hv
 refine Calls.mono hv fun e w4 ⟨⟨pv,cv,he,hm⟩,hch⟩=>?_
 refine ⟨_,he,Goes.newMem hN hS hch (r:=.slv pv 1 cv) rfl rfl (fun hold hnew=>?_)⟩
 obtain ⟨im2,him2⟩:∃ M,M=imNew im' w3 w4:=⟨_,rfl⟩
 show X (mkE Tryz.prog Tryz.f7 Q w (InR [] []) (imNew im' w3 w4) (wm'.D s'.seen.length) (WatchR wm' s' Mo') N B7) _ _
 rw [←him2] at hold hnew ⊢
 have hp3:p.b<w3.heap.size:=hS.lt 0 p hp2
 have hsl:=hm (fun k o=>if k=p.b then Mo' k o else im2 k o) (fun k o v hk=>by
  by_cases hkp:k=p.b
  ·simp only [if_pos hkp];exact hk
  ·simp only [if_neg hkp];exact hold _ _ _ (hi2 _ _ _ hkp hk)) (fun k o v hk hc=>by
  rw [if_neg (by omega)]
  exact hnew k o v hk hc)
 obtain ⟨b,y,vs,hpv,hrep,hcell⟩:=hsl.row (i:=0) rfl
 obtain ⟨rv,hvs,hreg⟩:=VerP.open hrep
 obtain ⟨g,hg⟩:=RegS.of hreg
 have hvs:vs=VerC.vals ⟨1,1,0,0,g,5⟩:=by rw [hvs,hg];rfl
 have hbp:b≠p.b:=fun e=>by
  have h:=hcell 0 (.int .u8 1) (by rw [hvs];rfl)
  simp only [if_pos e] at h
  rw [e] at h
  have:=hN1 _ _ h
  cases this
 obtain ⟨zz,hzz⟩:∃ z,z=y+0*13:=⟨_,rfl⟩
 rw [←hzz] at hcell
 have hdm:∀ k o,wm'.D s'.seen.length k o→im2 k o=none:=fun k o hk=>by
  rw [him2]
  exact imNew_none (by
   cases hm:im' k o with
   | none=>rfl
   | some v =>
    have:=hS.res.md k o hk
    rw [(hi1 k o v hm).2] at this;cases this) (hat3.lt hk)
 have hi2':∀ k o v,k≠p.b→Mo' k o=some v→im2 k o=some v:=fun k o v h1 h2=>hold _ _ _ (hi2 k o v h1 h2)
 clear him2 hold hnew hch he ha hS hN hm hv hat3 h3row hsl hrep hreg hi1 hi2 him' hp3 hp2
 obtain ⟨gk,gi,gs,gl,q1,q2,q3,q4,m1,m2,m3,m4,f1,f2,f3,f4⟩:=g
 refine X.go T7_ok 400 _ rfl Tryz.results7 ?_
 conv=>arg 2;cbv
 refine X.see b zz (VerC.svs ⟨1,1,0,0,⟨gk,gi,gs,gl,q1,q2,q3,q4,m1,m2,m3,m4,f1,f2,f3,f4⟩,5⟩) (fun j c hj=>?_) (by simp [VerC.svs]) (fun N1 hNN hNl1=>?_)
 ·obtain ⟨_,z2⟩:=SV.denL_get (N:=[]) (VerC.svs ⟨1,1,0,0,⟨gk,gi,gs,gl,q1,q2,q3,q4,m1,m2,m3,m4,f1,f2,f3,f4⟩,5⟩) (rfl:SV.denL [] _=some (VerC.vals ⟨1,1,0,0,⟨gk,gi,gs,gl,q1,q2,q3,q4,m1,m2,m3,m4,f1,f2,f3,f4⟩,5⟩))
  obtain ⟨v,z3,z4⟩:=z2 j c hj
  refine ⟨v,z3,?_⟩
  have h:=hcell j v (by rw [hvs];exact z4)
  simpa only [if_neg hbp] using h
 have hg1:(N1++[(⟨b,zz,0⟩:Num)])[1]?=some ⟨b,zz,0⟩:=num_last hNl1
 have hg0:(N1++[(⟨b,zz,0⟩:Num)])[0]?=some p:=num_old (hNN 0 _ hp)
 show X (mkE Tryz.prog Tryz.f7 Q w (InR [] []) im2 (wm'.D s'.seen.length) (WatchR wm' s' Mo') (N1++[⟨b,zz,0⟩]) B7) _ _
 refine X.goX ([(17,.own 1 0),(24,.own 1 0),(31,.bool (.lit false))]) ([]) T7_ok 400 _ rfl Tryz.results7 (fun pr pe fin hpr hpe hfin=>?_)
 conv=>cbv
 refine ⟨hpr _ (ValOk.row (z:=0) rfl rfl (fun _=>rfl) Tryz.underlying27 Tryz.sizeOf49 (by omega) hpv hg1 rfl hzz),hpr _ (ValOk.row (z:=0) rfl rfl (fun _=>rfl) Tryz.underlying27 Tryz.sizeOf49 (by omega) hpv hg1 rfl hzz),hpr _ (fun _=>⟨Tryz.call13,fun N w1 args hN hS ha=>?_⟩),hfin _ _ ?_⟩
 ·obtain rfl:=args_eq (vs:=[ptrN (wm'.P 0)]) (by rw [hP,ptrN,←hpb,←hpy];rfl) ha
  have hp2:=hN 0 _ hg0
  have h3row:w1.cell? ⟨p.b,p.o,none⟩=some (.int .u8 3):=by
   obtain ⟨v,h1,h2⟩:=hS.cell 0 _ _ rfl hp2 0 (.int .u8 (.lit 3)) rfl
   simp only [SV.den,SI.den,Option.some.injEq] at h1
   rw [h1];exact h2
  have hat3:WatchAt wm' s' Mo' w1:=hS.res.at fun k o v hk=>by
   by_cases hkp:k=p.b
   ·subst hkp
    rw [hrow2 o v hk,hN1 o v hk]
    exact h3row
   ·exact hS.imm k o v (hi2' k o v hkp hk)
  exact (torn_ok wm' s' Mo' w1 hat3).mono fun e w2 ⟨he,hc⟩=>⟨_,he,by rw [hs2];rfl,hc⟩
 refine X.done T7_ok rfl (fun N w' v hN hS hv=>?_)
 rw [hQ]
 exact ⟨fin_bool hv rfl,hS.chg.none⟩
end Go.Proofs.YthpbefahaghbjaaGreat
namespace Go.Proofs.YthpbefahaghbjaaGreat
open Go Go.Eng
def NewVars (w w':World) (p:Option Addr) (l:List Int):Prop:=l≠[]→∃ b y,p=some ⟨b,y,none⟩∧w.heap.size≤b∧∀ (j:Nat) (z:Int),l[j]?=some z→w'.cell? ⟨b,y+j,none⟩=some (.int .i64 z)∧w'.frozen? ⟨b,y+j,none⟩=false
def RegCN (a:RegP) (Mo:Mem) (w:World) (e:Ending) (w':World):Prop :=
 (∃ vb,e=.returned (.agg vb.toArray)∧(∀ M:Mem,(∀ k o v,Mo k o=some v→M k o=some v)→(∀ k o v,w.heap.size≤k→w'.cell? ⟨k,o,none⟩=some v→M k o=some v)→RepL M a.toD vb)∧∃ p c,vb[3]?=some (.slice p a.vars.length c)∧NewVars w w' p a.vars)∧Chg (fun _ _=>False) w w'
theorem regCloneN_ok (a:RegP) (va:List Value) (Mo:Mem) (w:World) (hMo:∀ k o v,Mo k o=some v→w.cell? ⟨k,o,none⟩=some v) (ha:RepL Mo a.toD va) (hgr:¬a.great) :
  Calls Tryz.prog 22 #[.agg va.toArray] w (RegCN a Mo w):=by
 obtain ⟨Q,hQ⟩:∃ Q:Ending→World→Prop,Q=RegCN a Mo w:=⟨_,rfl⟩
 rw [←hQ]
 obtain ⟨p1,c1,p2,c2,p3,c3,p4,c4,rfl,sa1,sa2,sa3,sa4⟩:=RegP.open ha
 clear ha
 obtain ⟨k1,i1,s1,v1,o1,u1,l1,m1⟩:=a
 simp only [RegP.great,not_or,Nat.not_lt,not_exists,not_and] at hgr
 simp only at sa1 sa2 sa3 sa4 ⊢
 obtain ⟨g1,g2,g3,g4,g5⟩:=hgr
 obtain ⟨vs1,hl1,hk1,hr1,hm1⟩:=sa1.rows (K:=1) fun x vs h=>(i64_vals h).1
 obtain ⟨vs2,hl2,hk2,hr2,hm2⟩:=sa2.rows (K:=6) fun x vs h=>(done_vals h).1
 obtain ⟨vs3,hl3,hk3,hr3,hm3⟩:=sa3.rows (K:=4) fun x vs h=>(cell_vals h).1
 obtain ⟨vs4,hl4,hk4,hr4,hm4⟩:=sa4.rows (K:=3) fun x vs h=>(mark_vals h).1
 obtain ⟨n1,hn1⟩:∃ n,n=v1.length:=⟨_,rfl⟩
 obtain ⟨n2,hn2⟩:∃ n,n=o1.length:=⟨_,rfl⟩
 obtain ⟨n3,hn3⟩:∃ n,n=u1.length:=⟨_,rfl⟩
 obtain ⟨n4,hn4⟩:∃ n,n=m1.length:=⟨_,rfl⟩
 rw [←hn1,←hn2,←hn3,←hn4]
 obtain ⟨d1,hd1⟩:∃ c,c=rawL vs1.flatten:=⟨_,rfl⟩
 obtain ⟨d2,hd2⟩:∃ c,c=rawL vs2.flatten:=⟨_,rfl⟩
 obtain ⟨d3,hd3⟩:∃ c,c=rawL vs3.flatten:=⟨_,rfl⟩
 obtain ⟨d4,hd4⟩:∃ c,c=rawL vs4.flatten:=⟨_,rfl⟩
 obtain ⟨w1,hw1⟩:∃ b,b=decide (n1≠0):=⟨_,rfl⟩
 obtain ⟨w2,hw2⟩:∃ b,b=decide (n2≠0):=⟨_,rfl⟩
 obtain ⟨w3,hw3⟩:∃ b,b=decide (n3≠0):=⟨_,rfl⟩
 obtain ⟨w4,hw4⟩:∃ b,b=decide (n4≠0):=⟨_,rfl⟩
 refine X.begin (rg:=[]) (N:=[]) (ss:=[.agg [.int .u8 (.v k1),.int .u64 (.v i1),.int .i64 (.v s1),.slv p1 n1 c1,.slv p2 n2 c2,.slv p3 n3 c3,.int .u64 (.v l1),.slv p4 n4 c4]]) Tryz.func22 rfl B22_ok rfl rfl Sat.std0 ?_
 obtain ⟨im,hime⟩:∃ im,im=elsewhere [] [] w:=⟨_,rfl⟩
 have him:∀ k o v,Mo k o=some v→im k o=some v:=fun k o v h=>by rw [hime];exact his (hMo k o v h)
 have hA:∀ {p:Option Addr} {n K:Nat} {vss:List (List Value)} {m:Nat},0<K→(∀ v∈vss,v.length=K)→m=n→(0<m→∃ b y,p=some ⟨b,y,none⟩∧∀ (i:Nat) (vs:List Value),vss[i]?=some vs→∀ (j:Nat) (v:Value),vs[j]?=some v→Mo b (y+i*K+j)=some v) →
   (0<n→∃ b y,p=some ⟨b,y,none⟩∧∀ w':World,(∀ k o v,im k o=some v→w'.cell? ⟨k,o,none⟩=some v)→∀ (j:Nat) (v:Value),vss.flatten[j]?=some v→w'.cell? ⟨b,y+j,none⟩=some v):=fun {p n K vss m} hK hv hmn h hp=>by
  subst hmn
  obtain ⟨b,y,hb,h2⟩:=h hp
  refine ⟨b,y,hb,fun w' hw j v hj=>?_⟩
  rw [flatten_get hK hv,Option.bind_eq_some_iff] at hj
  obtain ⟨vs,h3,h4⟩:=hj
  have:=hw _ _ _ (him _ _ _ (h2 _ _ h3 _ _ h4))
  rwa [Nat.add_assoc,Nat.mul_comm,Nat.div_add_mod] at this
 show X (mkE Tryz.prog Tryz.f22 Q w (InR [] []) (elsewhere [] [] w) (fun _ _=>False) (fun _=>True) [] B22) _ _
 rw [←hime]
 refine X.go T22_ok 400 _ rfl Tryz.results22 ?_
 conv=>arg 2;cbv
 refine (fun (h:∀ k,X (mkE Tryz.prog Tryz.f22 Q w (InR [] []) im (fun _ _=>False) (fun _=>True) [] B22) k ⟨[(2,.val (.own 1 0)),(1,.val (.own 0 0))],[⟨true,[.int .u8 (.v k1),.int .u64 (.v i1),.int .i64 (.v s1),cV p1 2 n1 1,cV p2 5 n2 6,cV p3 3 n3 4,.int .u64 (.v l1),cV p4 4 n4 3],none⟩,⟨true,[.int .u8 (.lit 0),.int .u64 (.lit 0),.int .i64 (.lit 0),.raw (.slice none 0 0),.raw (.slice none 0 0),.raw (.slice none 0 0),.int .u64 (.lit 0),.raw (.slice none 0 0)],none⟩,⟨w1,d1,none⟩,⟨w3,d3,none⟩,⟨w4,d4,none⟩,⟨w2,d2,none⟩]⟩→X (mkE Tryz.prog Tryz.f22 Q w (InR [] []) im (fun _ _=>False) (fun _=>True) [] B22) (It.code _::k) _)=>h _ ?_) (fun k hk=>?_)
 rotate_left
 ·have e1:=fun {rg:List Rg} {f:Fr} {t:Nat}=>cloneI_cV (E:=(mkE Tryz.prog Tryz.f22 Q w (InR [] []) im (fun _ _=>False) (fun _=>True) [] B22).toEnv) (N0:=[]) (rg:=rg) (f:=f) (t:=t) (po:=p1) (co:=c1) rfl hd1 hw1 (by omega) (by rw [flatten_len hk1];omega) (ones_of hl1 hr1 fun x vs h=>(i64_vals h).2.1) (hA (by decide) hk1 hn1.symm hm1)
  have e2:=fun {rg:List Rg} {f:Fr} {t:Nat}=>cloneDone_cV (E:=(mkE Tryz.prog Tryz.f22 Q w (InR [] []) im (fun _ _=>False) (fun _=>True) [] B22).toEnv) (N0:=[]) (rg:=rg) (f:=f) (t:=t) (po:=p2) (co:=c2) rfl hd2 hw2 (by omega) (by rw [flatten_len hk2];omega) (ones_of hl2 hr2 fun x vs h=>(done_vals h).2) (hA (by decide) hk2 hn2.symm hm2)
  have e3:=fun {rg:List Rg} {f:Fr} {t:Nat}=>cloneCell_cV (E:=(mkE Tryz.prog Tryz.f22 Q w (InR [] []) im (fun _ _=>False) (fun _=>True) [] B22).toEnv) (N0:=[]) (rg:=rg) (f:=f) (t:=t) (po:=p3) (co:=c3) rfl hd3 hw3 (by omega) (by rw [flatten_len hk3];omega) (ones_of hl3 hr3 fun x vs h=>(cell_vals h).2.1) (hA (by decide) hk3 hn3.symm hm3)
  have e4:=fun {rg:List Rg} {f:Fr} {t:Nat}=>cloneMark_cV (E:=(mkE Tryz.prog Tryz.f22 Q w (InR [] []) im (fun _ _=>False) (fun _=>True) [] B22).toEnv) (N0:=[]) (rg:=rg) (f:=f) (t:=t) (po:=p4) (co:=c4) rfl hd4 hw4 (by omega) (by rw [flatten_len hk4];omega) (ones_of hl4 hr4 fun x vs h=>(mark_vals h).2.1) (hA (by decide) hk4 hn4.symm hm4)
  clear hA him hMo sa1 sa2 sa3 sa4 hr1 hr2 hr3 hr4 hm1 hm2 hm3 hm4 hQ hime
  rcases p1 with _ | a1<;>rcases p3 with _ | a3<;>rcases p4 with _ | a4<;>rcases p2 with _ | a2
  ·skip
   refine X.goX ([]) ([(6,⟨fun rg=>cV none rg.length n1 1,[],[⟨w1,d1,none⟩]⟩),(9,⟨fun rg=>cV none rg.length n3 4,[],[⟨w3,d3,none⟩]⟩),(12,⟨fun rg=>cV none rg.length n4 3,[],[⟨w4,d4,none⟩]⟩),(15,⟨fun rg=>cV none rg.length n2 6,[],[⟨w2,d2,none⟩]⟩)]) T22_ok 1 _ rfl Tryz.results22 (fun pr pe fin hpr hpe hfin=>?_)
   conv=>cbv
   refine ⟨hpe _ _ _ _ _ (e1 rfl (Nat.succ_pos _)),hpe _ _ _ _ _ (e3 rfl (Nat.succ_pos _)),hpe _ _ _ _ _ (e4 rfl (Nat.succ_pos _)),hpe _ _ _ _ _ (e2 rfl (Nat.succ_pos _)),?_⟩
   repeat refine ⟨rfl,?_⟩
   exact hfin _ _ (X.less [1,2] hk)
  ·skip
   refine X.goX ([]) ([(6,⟨fun rg=>cV none rg.length n1 1,[],[⟨w1,d1,none⟩]⟩),(9,⟨fun rg=>cV none rg.length n3 4,[],[⟨w3,d3,none⟩]⟩),(12,⟨fun rg=>cV none rg.length n4 3,[],[⟨w4,d4,none⟩]⟩),(15,⟨fun rg=>cV (some a2) rg.length n2 6,[],[⟨w2,d2,none⟩]⟩)]) T22_ok 1 _ rfl Tryz.results22 (fun pr pe fin hpr hpe hfin=>?_)
   conv=>cbv
   refine ⟨hpe _ _ _ _ _ (e1 rfl (Nat.succ_pos _)),hpe _ _ _ _ _ (e3 rfl (Nat.succ_pos _)),hpe _ _ _ _ _ (e4 rfl (Nat.succ_pos _)),hpe _ _ _ _ _ (e2 rfl (Nat.succ_pos _)),?_⟩
   repeat refine ⟨rfl,?_⟩
   exact hfin _ _ (X.less [1,2] hk)
  ·skip
   refine X.goX ([]) ([(6,⟨fun rg=>cV none rg.length n1 1,[],[⟨w1,d1,none⟩]⟩),(9,⟨fun rg=>cV none rg.length n3 4,[],[⟨w3,d3,none⟩]⟩),(12,⟨fun rg=>cV (some a4) rg.length n4 3,[],[⟨w4,d4,none⟩]⟩),(15,⟨fun rg=>cV none rg.length n2 6,[],[⟨w2,d2,none⟩]⟩)]) T22_ok 1 _ rfl Tryz.results22 (fun pr pe fin hpr hpe hfin=>?_)
   conv=>cbv
   refine ⟨hpe _ _ _ _ _ (e1 rfl (Nat.succ_pos _)),hpe _ _ _ _ _ (e3 rfl (Nat.succ_pos _)),hpe _ _ _ _ _ (e4 rfl (Nat.succ_pos _)),hpe _ _ _ _ _ (e2 rfl (Nat.succ_pos _)),?_⟩
   repeat refine ⟨rfl,?_⟩
   exact hfin _ _ (X.less [1,2] hk)
  ·skip
   refine X.goX ([]) ([(6,⟨fun rg=>cV none rg.length n1 1,[],[⟨w1,d1,none⟩]⟩),(9,⟨fun rg=>cV none rg.length n3 4,[],[⟨w3,d3,none⟩]⟩),(12,⟨fun rg=>cV (some a4) rg.length n4 3,[],[⟨w4,d4,none⟩]⟩),(15,⟨fun rg=>cV (some a2) rg.length n2 6,[],[⟨w2,d2,none⟩]⟩)]) T22_ok 1 _ rfl Tryz.results22 (fun pr pe fin hpr hpe hfin=>?_)
   conv=>cbv
   refine ⟨hpe _ _ _ _ _ (e1 rfl (Nat.succ_pos _)),hpe _ _ _ _ _ (e3 rfl (Nat.succ_pos _)),hpe _ _ _ _ _ (e4 rfl (Nat.succ_pos _)),hpe _ _ _ _ _ (e2 rfl (Nat.succ_pos _)),?_⟩
   repeat refine ⟨rfl,?_⟩
   exact hfin _ _ (X.less [1,2] hk)
  ·skip
   refine X.goX ([]) ([(6,⟨fun rg=>cV none rg.length n1 1,[],[⟨w1,d1,none⟩]⟩),(9,⟨fun rg=>cV (some a3) rg.length n3 4,[],[⟨w3,d3,none⟩]⟩),(12,⟨fun rg=>cV none rg.length n4 3,[],[⟨w4,d4,none⟩]⟩),(15,⟨fun rg=>cV none rg.length n2 6,[],[⟨w2,d2,none⟩]⟩)]) T22_ok 1 _ rfl Tryz.results22 (fun pr pe fin hpr hpe hfin=>?_)
   conv=>cbv
   refine ⟨hpe _ _ _ _ _ (e1 rfl (Nat.succ_pos _)),hpe _ _ _ _ _ (e3 rfl (Nat.succ_pos _)),hpe _ _ _ _ _ (e4 rfl (Nat.succ_pos _)),hpe _ _ _ _ _ (e2 rfl (Nat.succ_pos _)),?_⟩
   repeat refine ⟨rfl,?_⟩
   exact hfin _ _ (X.less [1,2] hk)
  ·skip
   refine X.goX ([]) ([(6,⟨fun rg=>cV none rg.length n1 1,[],[⟨w1,d1,none⟩]⟩),(9,⟨fun rg=>cV (some a3) rg.length n3 4,[],[⟨w3,d3,none⟩]⟩),(12,⟨fun rg=>cV none rg.length n4 3,[],[⟨w4,d4,none⟩]⟩),(15,⟨fun rg=>cV (some a2) rg.length n2 6,[],[⟨w2,d2,none⟩]⟩)]) T22_ok 1 _ rfl Tryz.results22 (fun pr pe fin hpr hpe hfin=>?_)
   conv=>cbv
   refine ⟨hpe _ _ _ _ _ (e1 rfl (Nat.succ_pos _)),hpe _ _ _ _ _ (e3 rfl (Nat.succ_pos _)),hpe _ _ _ _ _ (e4 rfl (Nat.succ_pos _)),hpe _ _ _ _ _ (e2 rfl (Nat.succ_pos _)),?_⟩
   repeat refine ⟨rfl,?_⟩
   exact hfin _ _ (X.less [1,2] hk)
  ·skip
   refine X.goX ([]) ([(6,⟨fun rg=>cV none rg.length n1 1,[],[⟨w1,d1,none⟩]⟩),(9,⟨fun rg=>cV (some a3) rg.length n3 4,[],[⟨w3,d3,none⟩]⟩),(12,⟨fun rg=>cV (some a4) rg.length n4 3,[],[⟨w4,d4,none⟩]⟩),(15,⟨fun rg=>cV none rg.length n2 6,[],[⟨w2,d2,none⟩]⟩)]) T22_ok 1 _ rfl Tryz.results22 (fun pr pe fin hpr hpe hfin=>?_)
   conv=>cbv
   refine ⟨hpe _ _ _ _ _ (e1 rfl (Nat.succ_pos _)),hpe _ _ _ _ _ (e3 rfl (Nat.succ_pos _)),hpe _ _ _ _ _ (e4 rfl (Nat.succ_pos _)),hpe _ _ _ _ _ (e2 rfl (Nat.succ_pos _)),?_⟩
   repeat refine ⟨rfl,?_⟩
   exact hfin _ _ (X.less [1,2] hk)
  ·skip
   refine X.goX ([]) ([(6,⟨fun rg=>cV none rg.length n1 1,[],[⟨w1,d1,none⟩]⟩),(9,⟨fun rg=>cV (some a3) rg.length n3 4,[],[⟨w3,d3,none⟩]⟩),(12,⟨fun rg=>cV (some a4) rg.length n4 3,[],[⟨w4,d4,none⟩]⟩),(15,⟨fun rg=>cV (some a2) rg.length n2 6,[],[⟨w2,d2,none⟩]⟩)]) T22_ok 1 _ rfl Tryz.results22 (fun pr pe fin hpr hpe hfin=>?_)
   conv=>cbv
   refine ⟨hpe _ _ _ _ _ (e1 rfl (Nat.succ_pos _)),hpe _ _ _ _ _ (e3 rfl (Nat.succ_pos _)),hpe _ _ _ _ _ (e4 rfl (Nat.succ_pos _)),hpe _ _ _ _ _ (e2 rfl (Nat.succ_pos _)),?_⟩
   repeat refine ⟨rfl,?_⟩
   exact hfin _ _ (X.less [1,2] hk)
  ·skip
   refine X.goX ([]) ([(6,⟨fun rg=>cV (some a1) rg.length n1 1,[],[⟨w1,d1,none⟩]⟩),(9,⟨fun rg=>cV none rg.length n3 4,[],[⟨w3,d3,none⟩]⟩),(12,⟨fun rg=>cV none rg.length n4 3,[],[⟨w4,d4,none⟩]⟩),(15,⟨fun rg=>cV none rg.length n2 6,[],[⟨w2,d2,none⟩]⟩)]) T22_ok 1 _ rfl Tryz.results22 (fun pr pe fin hpr hpe hfin=>?_)
   conv=>cbv
   refine ⟨hpe _ _ _ _ _ (e1 rfl (Nat.succ_pos _)),hpe _ _ _ _ _ (e3 rfl (Nat.succ_pos _)),hpe _ _ _ _ _ (e4 rfl (Nat.succ_pos _)),hpe _ _ _ _ _ (e2 rfl (Nat.succ_pos _)),?_⟩
   repeat refine ⟨rfl,?_⟩
   exact hfin _ _ (X.less [1,2] hk)
  ·skip
   refine X.goX ([]) ([(6,⟨fun rg=>cV (some a1) rg.length n1 1,[],[⟨w1,d1,none⟩]⟩),(9,⟨fun rg=>cV none rg.length n3 4,[],[⟨w3,d3,none⟩]⟩),(12,⟨fun rg=>cV none rg.length n4 3,[],[⟨w4,d4,none⟩]⟩),(15,⟨fun rg=>cV (some a2) rg.length n2 6,[],[⟨w2,d2,none⟩]⟩)]) T22_ok 1 _ rfl Tryz.results22 (fun pr pe fin hpr hpe hfin=>?_)
   conv=>cbv
   refine ⟨hpe _ _ _ _ _ (e1 rfl (Nat.succ_pos _)),hpe _ _ _ _ _ (e3 rfl (Nat.succ_pos _)),hpe _ _ _ _ _ (e4 rfl (Nat.succ_pos _)),hpe _ _ _ _ _ (e2 rfl (Nat.succ_pos _)),?_⟩
   repeat refine ⟨rfl,?_⟩
   exact hfin _ _ (X.less [1,2] hk)
  ·skip
   refine X.goX ([]) ([(6,⟨fun rg=>cV (some a1) rg.length n1 1,[],[⟨w1,d1,none⟩]⟩),(9,⟨fun rg=>cV none rg.length n3 4,[],[⟨w3,d3,none⟩]⟩),(12,⟨fun rg=>cV (some a4) rg.length n4 3,[],[⟨w4,d4,none⟩]⟩),(15,⟨fun rg=>cV none rg.length n2 6,[],[⟨w2,d2,none⟩]⟩)]) T22_ok 1 _ rfl Tryz.results22 (fun pr pe fin hpr hpe hfin=>?_)
   conv=>cbv
   refine ⟨hpe _ _ _ _ _ (e1 rfl (Nat.succ_pos _)),hpe _ _ _ _ _ (e3 rfl (Nat.succ_pos _)),hpe _ _ _ _ _ (e4 rfl (Nat.succ_pos _)),hpe _ _ _ _ _ (e2 rfl (Nat.succ_pos _)),?_⟩
   repeat refine ⟨rfl,?_⟩
   exact hfin _ _ (X.less [1,2] hk)
  ·skip
   refine X.goX ([]) ([(6,⟨fun rg=>cV (some a1) rg.length n1 1,[],[⟨w1,d1,none⟩]⟩),(9,⟨fun rg=>cV none rg.length n3 4,[],[⟨w3,d3,none⟩]⟩),(12,⟨fun rg=>cV (some a4) rg.length n4 3,[],[⟨w4,d4,none⟩]⟩),(15,⟨fun rg=>cV (some a2) rg.length n2 6,[],[⟨w2,d2,none⟩]⟩)]) T22_ok 1 _ rfl Tryz.results22 (fun pr pe fin hpr hpe hfin=>?_)
   conv=>cbv
   refine ⟨hpe _ _ _ _ _ (e1 rfl (Nat.succ_pos _)),hpe _ _ _ _ _ (e3 rfl (Nat.succ_pos _)),hpe _ _ _ _ _ (e4 rfl (Nat.succ_pos _)),hpe _ _ _ _ _ (e2 rfl (Nat.succ_pos _)),?_⟩
   repeat refine ⟨rfl,?_⟩
   exact hfin _ _ (X.less [1,2] hk)
  ·skip
   refine X.goX ([]) ([(6,⟨fun rg=>cV (some a1) rg.length n1 1,[],[⟨w1,d1,none⟩]⟩),(9,⟨fun rg=>cV (some a3) rg.length n3 4,[],[⟨w3,d3,none⟩]⟩),(12,⟨fun rg=>cV none rg.length n4 3,[],[⟨w4,d4,none⟩]⟩),(15,⟨fun rg=>cV none rg.length n2 6,[],[⟨w2,d2,none⟩]⟩)]) T22_ok 1 _ rfl Tryz.results22 (fun pr pe fin hpr hpe hfin=>?_)
   conv=>cbv
   refine ⟨hpe _ _ _ _ _ (e1 rfl (Nat.succ_pos _)),hpe _ _ _ _ _ (e3 rfl (Nat.succ_pos _)),hpe _ _ _ _ _ (e4 rfl (Nat.succ_pos _)),hpe _ _ _ _ _ (e2 rfl (Nat.succ_pos _)),?_⟩
   repeat refine ⟨rfl,?_⟩
   exact hfin _ _ (X.less [1,2] hk)
  ·skip
   refine X.goX ([]) ([(6,⟨fun rg=>cV (some a1) rg.length n1 1,[],[⟨w1,d1,none⟩]⟩),(9,⟨fun rg=>cV (some a3) rg.length n3 4,[],[⟨w3,d3,none⟩]⟩),(12,⟨fun rg=>cV none rg.length n4 3,[],[⟨w4,d4,none⟩]⟩),(15,⟨fun rg=>cV (some a2) rg.length n2 6,[],[⟨w2,d2,none⟩]⟩)]) T22_ok 1 _ rfl Tryz.results22 (fun pr pe fin hpr hpe hfin=>?_)
   conv=>cbv
   refine ⟨hpe _ _ _ _ _ (e1 rfl (Nat.succ_pos _)),hpe _ _ _ _ _ (e3 rfl (Nat.succ_pos _)),hpe _ _ _ _ _ (e4 rfl (Nat.succ_pos _)),hpe _ _ _ _ _ (e2 rfl (Nat.succ_pos _)),?_⟩
   repeat refine ⟨rfl,?_⟩
   exact hfin _ _ (X.less [1,2] hk)
  ·skip
   refine X.goX ([]) ([(6,⟨fun rg=>cV (some a1) rg.length n1 1,[],[⟨w1,d1,none⟩]⟩),(9,⟨fun rg=>cV (some a3) rg.length n3 4,[],[⟨w3,d3,none⟩]⟩),(12,⟨fun rg=>cV (some a4) rg.length n4 3,[],[⟨w4,d4,none⟩]⟩),(15,⟨fun rg=>cV none rg.length n2 6,[],[⟨w2,d2,none⟩]⟩)]) T22_ok 1 _ rfl Tryz.results22 (fun pr pe fin hpr hpe hfin=>?_)
   conv=>cbv
   refine ⟨hpe _ _ _ _ _ (e1 rfl (Nat.succ_pos _)),hpe _ _ _ _ _ (e3 rfl (Nat.succ_pos _)),hpe _ _ _ _ _ (e4 rfl (Nat.succ_pos _)),hpe _ _ _ _ _ (e2 rfl (Nat.succ_pos _)),?_⟩
   repeat refine ⟨rfl,?_⟩
   exact hfin _ _ (X.less [1,2] hk)
  ·skip
   refine X.goX ([]) ([(6,⟨fun rg=>cV (some a1) rg.length n1 1,[],[⟨w1,d1,none⟩]⟩),(9,⟨fun rg=>cV (some a3) rg.length n3 4,[],[⟨w3,d3,none⟩]⟩),(12,⟨fun rg=>cV (some a4) rg.length n4 3,[],[⟨w4,d4,none⟩]⟩),(15,⟨fun rg=>cV (some a2) rg.length n2 6,[],[⟨w2,d2,none⟩]⟩)]) T22_ok 1 _ rfl Tryz.results22 (fun pr pe fin hpr hpe hfin=>?_)
   conv=>cbv
   refine ⟨hpe _ _ _ _ _ (e1 rfl (Nat.succ_pos _)),hpe _ _ _ _ _ (e3 rfl (Nat.succ_pos _)),hpe _ _ _ _ _ (e4 rfl (Nat.succ_pos _)),hpe _ _ _ _ _ (e2 rfl (Nat.succ_pos _)),?_⟩
   repeat refine ⟨rfl,?_⟩
   exact hfin _ _ (X.less [1,2] hk)
 refine X.goX ([(22,.int .i64 (.nat n2))]) ([]) T22_ok 400 _ rfl Tryz.results22 (fun pr pe fin hpr hpe hfin=>?_)
 conv=>cbv
 have hcv2:∀ (N:Nums) (v:Value),(cV p2 5 n2 6).den N=some v→∃ p c,v=.slice p n2 c:=fun N v hv=>cV_sl (fun h=>by
  rcases Nat.eq_zero_or_pos n2 with h0 | h0
  ·exact h0
  ·obtain ⟨b,y,hb,_⟩:=hm2 (by omega)
   rw [h] at hb;cases hb) hv
 refine ⟨hpr _ (vk_lenV (sx:=cV p2 5 n2 6) rfl hcv2 Tryz.underlying37),hfin _ _ ?_⟩
 clear hpr hpe hfin
 refine X.loop (fun g:{g:Nat × Mem × List (List Value) // g.1≤n2∧ClI w Mo im o1 g.2.1 g.2.2}=>mkE Tryz.prog Tryz.f22 Q w (InR [] []) g.1.2.1 (fun _ _=>False) (fun _=>True) [] B22)
  (fun g=>⟨[(2,.val (.own 1 0)),(1,.val (.own 0 0)),(22,.val (.int .i64 (.nat n2))),(23,.val (.int .i64 (.nat g.1.1)))],[⟨true,[.int .u8 (.v k1),.int .u64 (.v i1),.int .i64 (.v s1),cV p1 2 n1 1,cV p2 5 n2 6,cV p3 3 n3 4,.int .u64 (.v l1),cV p4 4 n4 3],none⟩,⟨true,[.int .u8 (.lit 0),.int .u64 (.lit 0),.int .i64 (.lit 0),.raw (.slice none 0 0),.raw (.slice none 0 0),.raw (.slice none 0 0),.int .u64 (.lit 0),.raw (.slice none 0 0)],none⟩,⟨w1,d1,none⟩,⟨w3,d3,none⟩,⟨w4,d4,none⟩,⟨w2,rawL g.1.2.2.flatten,none⟩]⟩) (fun g=>n2-g.1.1) (fun _=>⟨rfl,rfl,rfl,rfl⟩) (fun N ac w' hN hf hS=>⟨⟨(0,im,vs2),Nat.zero_le _,⟨fun _ _ _ h=>h,hl2,hk2,fun j x hx=>?_⟩⟩,?_⟩) (fun g q hq=>?_)
 ·obtain ⟨vs,h1,h2⟩:=hr2 j x hx
  exact ⟨vs,h1,h2.mono mU_old⟩
 ·show At (mkE Tryz.prog Tryz.f22 Q w (InR [] []) im (fun _ _=>False) (fun _=>True) [] B22) ⟨[(2,.val (.own 1 0)),(1,.val (.own 0 0)),(22,.val (.int .i64 (.nat n2))),(23,.val (.int .i64 (.nat 0)))],[⟨true,[.int .u8 (.v k1),.int .u64 (.v i1),.int .i64 (.v s1),cV p1 2 n1 1,cV p2 5 n2 6,cV p3 3 n3 4,.int .u64 (.v l1),cV p4 4 n4 3],none⟩,⟨true,[.int .u8 (.lit 0),.int .u64 (.lit 0),.int .i64 (.lit 0),.raw (.slice none 0 0),.raw (.slice none 0 0),.raw (.slice none 0 0),.int .u64 (.lit 0),.raw (.slice none 0 0)],none⟩,⟨w1,d1,none⟩,⟨w3,d3,none⟩,⟨w4,d4,none⟩,⟨w2,rawL vs2.flatten,none⟩]⟩ ac w'
  have hR0:[SV.int .u8 (.v k1),.int .u64 (.v i1),.int .i64 (.v s1),cV p1 2 n1 1,cV p2 5 n2 6,cV p3 3 n3 4,.int .u64 (.v l1),cV p4 4 n4 3].all (bd 6)=true:=by cases p1<;>cases p2<;>cases p3<;>cases p4<;>rfl
  exact At.again hf hS (by repeat first | exact trivial | refine ⟨⟨_,rfl,.inl ⟨rfl,rfl⟩⟩,?_⟩ | refine ⟨⟨_,rfl,.inr ⟨_,rfl,rfl⟩⟩,?_⟩ | refine ⟨⟨_,rfl,.inr ⟨_,rfl,by simp (disch:=omega) [SV.den,SI.den,wrapU,wrapD]<;>omega⟩⟩,?_⟩) ⟨fun h=>h,SubC.refl hR0,rfl,fun h=>h,SubC.refl rfl,rfl,fun h=>h,SubC.refl (by rw [hd1];exact rawL_bd),rfl,fun h=>h,SubC.refl (by rw [hd3];exact rawL_bd),rfl,fun h=>h,SubC.refl (by rw [hd4];exact rawL_bd),rfl,fun h=>h,(by rw [hd2];exact SubC.refl rawL_bd),rfl,trivial⟩
 obtain ⟨⟨i,im1,vss⟩,hi,hI⟩:=g
 simp only at hi hI
 show X (mkE Tryz.prog Tryz.f22 Q w (InR [] []) im1 (fun _ _=>False) (fun _=>True) [] B22) _ ⟨[(2,.val (.own 1 0)),(1,.val (.own 0 0)),(22,.val (.int .i64 (.nat n2))),(23,.val (.int .i64 (.nat i)))],[⟨true,[.int .u8 (.v k1),.int .u64 (.v i1),.int .i64 (.v s1),cV p1 2 n1 1,cV p2 5 n2 6,cV p3 3 n3 4,.int .u64 (.v l1),cV p4 4 n4 3],none⟩,⟨true,[.int .u8 (.lit 0),.int .u64 (.lit 0),.int .i64 (.lit 0),.raw (.slice none 0 0),.raw (.slice none 0 0),.raw (.slice none 0 0),.int .u64 (.lit 0),.raw (.slice none 0 0)],none⟩,⟨w1,d1,none⟩,⟨w3,d3,none⟩,⟨w4,d4,none⟩,⟨w2,rawL vss.flatten,none⟩]⟩
 obtain ⟨dl,hdl⟩:∃ d,d=rawL vss.flatten:=⟨_,rfl⟩
 rw [←hdl]
 refine X.go T22_ok 400 _ rfl Tryz.results22 ?_
 conv=>arg 2;cbv
 refine X.cond rfl (fun hlt=>?_) (fun hge=>?_)
 ·simp only [SB.T,SI.den] at hlt
  have hlt:i<n2:=by omega
  obtain ⟨x,hx⟩:∃ x,o1[i]?=some x:=⟨_,List.getElem?_eq_getElem (by omega)⟩
  obtain ⟨vsi,hvi,hri⟩:=hI.rep i x hx
  obtain ⟨pa,ca,hvsi,hsv⟩:=DoneP.open hri
  obtain ⟨na,hna⟩:∃ n,n=x.reply.vars.length:=⟨_,rfl⟩
  have hna50:na≤50:=by rw [hna];exact g5 i x hx
  obtain ⟨b2,y2,hp2,_⟩:=hm2 (by omega)
  obtain rfl:w2=true:=by rw [hw2];exact decide_eq_true (by omega)
  obtain ⟨vsv,hlv,hkv,hrv,hmv⟩:=hsv.rows (K:=1) fun x vs h=>(i64_vals h).1
  obtain ⟨z,hz⟩:∃ z,z=i*6:=⟨_,rfl⟩
  have hcell:dl[z+2+3]?=some (.raw (.slice pa na ca)):=by
   rw [hdl,rawL,List.getElem?_map,flatten_get (by decide) hI.six,hz,show (i*6+2+3) / 6=i by omega,show (i*6+2+3) % 6=5 by omega,hvi,hvsi,←hna]
   rfl
  have hdll:z+2+3<dl.length:=(List.getElem?_eq_some_iff.1 hcell).1
  obtain ⟨dv,hdv⟩:∃ d,d=rawL vsv.flatten:=⟨_,rfl⟩
  obtain ⟨wv,hwv⟩:∃ b,b=decide (na≠0):=⟨_,rfl⟩
  obtain ⟨dl',hdl'⟩:∃ d,d=setRow dl (z+2+3) [cV pa 6 na 1]:=⟨_,rfl⟩
  have him1:∀ k o v,Mo k o=some v→im1 k o=some v:=fun k o v h=>hI.him _ _ _ (him _ _ _ h)
  have hAv:0<na→∃ b y,pa=some ⟨b,y,none⟩∧∀ w':World,(∀ k o v,im1 k o=some v→w'.cell? ⟨k,o,none⟩=some v)→∀ (j:Nat) (v:Value),vsv.flatten[j]?=some v→w'.cell? ⟨b,y+j,none⟩=some v:=fun hp=>by
   obtain ⟨b,y,hb,h2⟩:=hmv (by omega)
   refine ⟨b,y,hb,fun w' hw j v hj=>?_⟩
   rw [flatten_get (by decide) hkv,Option.bind_eq_some_iff] at hj
   obtain ⟨vs,h3,h4⟩:=hj
   have:=hw _ _ _ (mU_in him1 _ _ _ (h2 _ _ h3 _ _ h4))
   rwa [Nat.add_assoc,Nat.mul_comm,Nat.div_add_mod] at this
  have eV:=fun {rg:List Rg} {f:Fr} {t:Nat}=>cloneI_cV (E:=(mkE Tryz.prog Tryz.f22 Q w (InR [] []) im1 (fun _ _=>False) (fun _=>True) [] B22).toEnv) (N0:=[]) (rg:=rg) (f:=f) (t:=t) (po:=pa) (co:=ca) rfl hdv hwv (by omega) (by rw [flatten_len hkv];omega) (ones_of hlv hrv fun x vs h=>(i64_vals h).2.1) hAv
  refine X.goX ([(32,.own 5 z),(35,.slv pa na ca),(37,.own 5 z)]) ([(36,⟨fun rg=>cV pa rg.length na 1,[],[⟨wv,dv,none⟩]⟩),(1014,⟨fun _=>.tup [],[(5,⟨true,dl',none⟩)],[]⟩)]) T22_ok 400 _ rfl Tryz.results22 (fun pr pe fin hpr hpe hfin=>?_)
  conv=>cbv
  refine ⟨hpr _ (vk_osl (sx:=cV p2 5 n2 6) rfl (.inr (.inr ⟨none,by rw [hp2];rfl⟩)) rfl (fun _=>rfl) Tryz.underlying37 Tryz.sizeOf89 (fun _=>hlt) hz (by simp)),hpr _ ((vk_load1 (gg:=⟨true,dl,none⟩) rfl Tryz.isAgg36 rfl hcell).conv fun N v h=>by simpa [SV.den,one?] using h),hpe _ _ _ _ _ (eV rfl (Nat.succ_pos _)),hpr _ (vk_osl (sx:=cV p2 5 n2 6) rfl (.inr (.inr ⟨none,by rw [hp2];rfl⟩)) rfl (fun _=>rfl) Tryz.underlying37 Tryz.sizeOf89 (fun _=>hlt) hz (by simp)),hpe _ _ _ _ _ ?_,hfin _ _ ?_⟩
  ·have hc1:=cV_cells pa 6 na 1
   refine EffOk.step T22_ok ?_
   rw [stepE_store (v:=cV pa 6 na 1) (g:=⟨true,dl,none⟩) (ti:=ti36) rfl rfl rfl rfl rfl (by rw [hc1.1];rfl) hdll (by rw [hc1.1];simp [hc1.2]),hc1.1,←hdl']
   rfl
  clear hpr hpe hfin
  refine X.back (fun N ac w' hN hf hS=>?_)
  obtain ⟨q6,hq6⟩:∃ p,N[6]?=some p:=⟨_,List.getElem?_eq_getElem (by rw [hS.len];show 6<7;omega)⟩
  have hpna:pa=none→na=0:=fun h=>by
   rcases Nat.eq_zero_or_pos na with h0 | h0
   ·exact h0
   ·obtain ⟨b,y,hb,_⟩:=hAv h0
    rw [h] at hb;cases hb
  have hv5:=cV_val (K:=1) hq6 hpna
  obtain ⟨v5,hv5d⟩:∃ v:Value,v=.slice (pa.map fun _=>⟨q6.b,q6.o,none⟩) na (capV pa (q6.x / 1)):=⟨_,rfl⟩
  rw [←hv5d] at hv5
  obtain ⟨m',hm'⟩:∃ m':Mem,m'=fun k o=>match im1 k o with | some v=>some v | none=>if wv=true∧k=q6.b∧q6.o≤o∧o<q6.o+dv.length then w'.cell? ⟨k,o,none⟩ else none:=⟨_,rfl⟩
  have hmm:∀ k o v,im1 k o=some v→m' k o=some v:=fun k o v h=>by rw [hm'];simp only [h]
  have hvs6:vsi.length=6:=by rw [hvsi];rfl
  have hfs:=flat_set (K:=6) (by decide) hI.six hvi (k:=5) (by decide) v5
  have hI':ClI w Mo im o1 m' (vss.set i (vsi.set 5 v5)):=by
   refine ⟨fun k o v h=>hmm _ _ _ (hI.him _ _ _ h),by rw [List.length_set];exact hI.len,fun v hv=>?_,fun j y hy=>?_⟩
   ·rcases List.mem_or_eq_of_mem_set hv with h1 | rfl
    ·exact hI.six v h1
    ·rw [List.length_set,hvs6]
   ·by_cases hj:i=j
    ·subst hj
     rw [hx] at hy;cases hy
     refine ⟨_,by rw [List.getElem?_set,if_pos rfl,if_pos (by rw [hI.len];omega)],?_⟩
     rw [hvsi,hv5d,hna]
     refine DoneP.rep ?_
     refine cloned (M:=mU w Mo m') (vss:=vsv) (n:=na) hS (by rw [←hwv,←hdv];rfl) hq6 Nat.one_pos hna (by rw [maxLen_le];omega) hlv hkv hpna (fun k y hy=>?_) (fun k u hb hc hk=>?_)
     ·obtain ⟨vs,h1,h2⟩:=hrv k y hy
      exact ⟨vs,h1,(i64_vals h2).2.2 _⟩
     ·have hMo0:Mo q6.b (q6.o+k)=none:=by
       cases hMk:Mo q6.b (q6.o+k) with
       | none=>rfl
       | some u'=>have:=World.block_lt_of_cell? _ _ (hMo _ _ _ hMk);simp at this;omega
      have h0:na≠0:=fun h=>by subst h;omega
      have hwt:wv=true:=by rw [hwv];exact decide_eq_true h0
      have him0:im1 q6.b (q6.o+k)=none:=by
       have hx6:=hS.ext 6 ⟨wv,dv,none⟩ q6 rfl hq6 hwt
       simp only [hdv,rawL_len,flatten_len hkv] at hx6
       exact hS.imd 6 ⟨wv,dv,none⟩ q6 rfl hq6 hwt k (by omega)
      unfold mU
      simp only [hMo0,hb,if_true,hm',him0]
      rw [if_pos ⟨hwt,trivial,by omega,by rw [hdv,rawL_len,flatten_len hkv];omega⟩]
      exact hc
    ·obtain ⟨vs,h1,h2⟩:=hI.rep j y hy
     exact ⟨vs,by rw [List.getElem?_set,if_neg hj];exact h1,h2.mono (mU_mono hmm)⟩
  refine hq ⟨(i+1,m',vss.set i (vsi.set 5 v5)),hlt,hI'⟩ ac w' (by simp only;omega) ?_
  show At (mkE Tryz.prog Tryz.f22 Q w (InR [] []) m' (fun _ _=>False) (fun _=>True) [] B22) ⟨[(2,.val (.own 1 0)),(1,.val (.own 0 0)),(22,.val (.int .i64 (.nat n2))),(23,.val (.int .i64 (.nat (i+1))))],[⟨true,[.int .u8 (.v k1),.int .u64 (.v i1),.int .i64 (.v s1),cV p1 2 n1 1,cV p2 5 n2 6,cV p3 3 n3 4,.int .u64 (.v l1),cV p4 4 n4 3],none⟩,⟨true,[.int .u8 (.lit 0),.int .u64 (.lit 0),.int .i64 (.lit 0),.raw (.slice none 0 0),.raw (.slice none 0 0),.raw (.slice none 0 0),.int .u64 (.lit 0),.raw (.slice none 0 0)],none⟩,⟨w1,d1,none⟩,⟨w3,d3,none⟩,⟨w4,d4,none⟩,⟨true,rawL (vss.set i (vsi.set 5 v5)).flatten,none⟩]⟩ ac w'
  have hR0:[SV.int .u8 (.v k1),.int .u64 (.v i1),.int .i64 (.v s1),cV p1 2 n1 1,cV p2 5 n2 6,cV p3 3 n3 4,.int .u64 (.v l1),cV p4 4 n4 3].all (bd 6)=true:=by cases p1<;>cases p2<;>cases p3<;>cases p4<;>rfl
  have keep:∀ {cs:List SV},cs.all (bd 6)=true→∀ (j:Nat) (c:SV),cs[j]?=some c→∃ c0,cs[j]?=some c0∧∀ v,c0.den N=some v→c.den (N.take 6)=some v:=fun h j c hj=>⟨c,hj,fun v hv=>den_take (List.all_eq_true.1 h c (List.mem_of_getElem? hj)) hv⟩
  have hset:dl'=dl.set (z+2+3) (cV pa 6 na 1):=by
   rw [hdl',setRow_eq _ _ _ (by omega),List.set_eq_take_append_cons_drop,if_pos hdll]
   simp
  have hnew:rawL (vss.set i (vsi.set 5 v5)).flatten=dl.set (z+2+3) (.raw v5):=by
   rw [hfs,rawL,List.map_set,←rawL,←hdl,hz]
  refine At.seal (k:=6) (q:=q6) (ow:=wv) (cs:=dv) (rg0:=[⟨true,[.int .u8 (.v k1),.int .u64 (.v i1),.int .i64 (.v s1),cV p1 2 n1 1,cV p2 5 n2 6,cV p3 3 n3 4,.int .u64 (.v l1),cV p4 4 n4 3],none⟩,⟨true,[.int .u8 (.lit 0),.int .u64 (.lit 0),.int .i64 (.lit 0),.raw (.slice none 0 0),.raw (.slice none 0 0),.raw (.slice none 0 0),.int .u64 (.lit 0),.raw (.slice none 0 0)],none⟩,⟨w1,d1,none⟩,⟨w3,d3,none⟩,⟨w4,d4,none⟩,⟨true,dl',none⟩]) hf hS rfl rfl hq6 rfl (by repeat first | exact trivial | refine ⟨⟨_,rfl,.inl ⟨rfl,rfl⟩⟩,?_⟩ | refine ⟨⟨_,rfl,.inr ⟨_,rfl,rfl⟩⟩,?_⟩ | refine ⟨⟨_,rfl,.inr ⟨_,rfl,by simp (disch:=omega) [SV.den,SI.den,wrapU,wrapD]<;>omega⟩⟩,?_⟩) (fun r y p hy hp=>?_) hm'
  have hr6:r<6:=(List.getElem?_eq_some_iff.1 hy).1
  have:r=0∨r=1∨r=2∨r=3∨r=4∨r=5:=by omega
  rcases this with rfl | rfl | rfl | rfl | rfl | rfl
  ·cases hy;exact ⟨_,rfl,rfl,rfl,rfl,keep hR0⟩
  ·cases hy;exact ⟨_,rfl,rfl,rfl,rfl,keep rfl⟩
  ·cases hy;exact ⟨_,rfl,rfl,rfl,rfl,keep (by rw [hd1];exact rawL_bd)⟩
  ·cases hy;exact ⟨_,rfl,rfl,rfl,rfl,keep (by rw [hd3];exact rawL_bd)⟩
  ·cases hy;exact ⟨_,rfl,rfl,rfl,rfl,keep (by rw [hd4];exact rawL_bd)⟩
  ·cases hy
   refine ⟨_,rfl,rfl,by show (rawL _).length=dl'.length;rw [hnew,hset,List.length_set,List.length_set],rfl,fun j c hj=>?_⟩
   have hj:(rawL (vss.set i (vsi.set 5 v5)).flatten)[j]?=some c:=hj
   show ∃ c0,dl'[j]?=some c0∧_
   rw [hnew,List.getElem?_set] at hj
   rw [hset,List.getElem?_set]
   by_cases hzj:z+2+3=j
   ·rw [if_pos hzj,if_pos (by omega)] at hj ⊢
    cases hj
    refine ⟨_,rfl,fun v hv=>?_⟩
    rw [hv5] at hv;cases hv
    rw [hv5d]
    simp [SV.den,one?]
   ·rw [if_neg hzj] at hj ⊢
    refine ⟨c,hj,fun v hv=>den_take ?_ hv⟩
    have hall:dl.all (bd 6)=true:=by rw [hdl];exact rawL_bd
    exact List.all_eq_true.1 hall c (List.mem_of_getElem? hj)
 ·simp only [SB.F,SI.den] at hge
  obtain rfl:i=n2:=by omega
  refine X.goX ([]) ([(1001,⟨fun _=>.tup [],[(1,⟨true,[.int .u8 (.v k1),.int .u64 (.v i1),.int .i64 (.v s1),cV p1 2 n1 1,cV p2 5 i 6,cV p3 3 n3 4,.int .u64 (.v l1),cV p4 4 n4 3],none⟩)],[]⟩)]) T22_ok 400 _ rfl Tryz.results22 (fun pr pe fin hpr hpe hfin=>?_)
  conv=>cbv
  refine ⟨hpe _ _ _ _ _ ?_,hfin _ _ ?_⟩
  ·refine EffOk.step T22_ok ?_
   rw [stepE_store (v:=.agg [.int .u8 (.v k1),.int .u64 (.v i1),.int .i64 (.v s1),cV p1 2 n1 1,cV p2 5 i 6,cV p3 3 n3 4,.int .u64 (.v l1),cV p4 4 n4 3]) (g:=⟨true,[.int .u8 (.lit 0),.int .u64 (.lit 0),.int .i64 (.lit 0),.raw (.slice none 0 0),.raw (.slice none 0 0),.raw (.slice none 0 0),.int .u64 (.lit 0),.raw (.slice none 0 0)],none⟩) (ti:=ti41) rfl rfl rfl rfl rfl rfl (by decide) (by cases p1<;>cases p2<;>cases p3<;>cases p4<;>rfl)]
   rfl
  refine X.done T22_ok rfl (fun N w' v hN hS hv=>?_)
  rw [hQ]
  obtain ⟨q2,hq2⟩:∃ p,N[2]?=some p:=⟨_,List.getElem?_eq_getElem (by rw [hS.len];show 2<6;omega)⟩
  obtain ⟨q3,hq3⟩:∃ p,N[3]?=some p:=⟨_,List.getElem?_eq_getElem (by rw [hS.len];show 3<6;omega)⟩
  obtain ⟨q4,hq4⟩:∃ p,N[4]?=some p:=⟨_,List.getElem?_eq_getElem (by rw [hS.len];show 4<6;omega)⟩
  obtain ⟨q5,hq5⟩:∃ p,N[5]?=some p:=⟨_,List.getElem?_eq_getElem (by rw [hS.len];show 5<6;omega)⟩
  have hnil:∀ {p:Option Addr} {n m:Nat} {vss:List (List Value)} {K:Nat},n=m→(0<m→∃ b y,p=some ⟨b,y,none⟩∧∀ (i:Nat) (vs:List Value),vss[i]?=some vs→∀ (j:Nat) (v:Value),vs[j]?=some v→Mo b (y+i*K+j)=some v)→p=none→n=0:=fun hnm h hp=>by
   rcases Nat.eq_zero_or_pos _ with h0 | h0
   ·exact h0
   ·obtain ⟨b,y,hb,_⟩:=h (by omega)
    rw [hp] at hb;cases hb
  have z1:=hnil hn1 hm1
  have z2:=hnil hn2 hm2
  have z3:=hnil hn3 hm3
  have z4:=hnil hn4 hm4
  have hv:(resV [.agg [.int .u8 (.v k1),.int .u64 (.v i1),.int .i64 (.v s1),cV p1 2 n1 1,cV p2 5 i 6,cV p3 3 n3 4,.int .u64 (.v l1),cV p4 4 n4 3]]).den N=some v:=hv
  simp only [resV,SV.den,SV.denL,SI.den,cV_val hq2 z1,cV_val hq5 z2,cV_val hq3 z3,cV_val hq4 z4,Option.some.injEq] at hv
  refine ⟨⟨_,congrArg Ending.returned hv.symm,fun M hM hnew=>?_,p1.map (fun _=>⟨q2.b,q2.o,none⟩),capV p1 (q2.x / 1),congrArg (fun n=>some (Value.slice (p1.map fun _=>⟨q2.b,q2.o,none⟩) n (capV p1 (q2.x / 1)))) hn1,fun h0=>?_⟩,hS.chg.none⟩
  rotate_left
  ·have h0:v1≠[]:=h0
   have hn0:n1≠0:=fun h=>h0 (List.eq_nil_of_length_eq_zero (by omega))
   have hp1:p1.map (fun _=>(⟨q2.b,q2.o,none⟩:Addr))=some ⟨q2.b,q2.o,none⟩:=by
    cases p1 with
    | none=>exact absurd (z1 rfl) hn0
    | some a=>rfl
   have hw1t:w1=true:=by rw [hw1];exact decide_eq_true hn0
   have hd1l:d1.length=n1*1:=by rw [hd1,rawL_len,flatten_len hk1,hl1,hn1]
   have hx2:=hS.ext 2 ⟨w1,d1,none⟩ q2 rfl hq2 hw1t
   simp only [hd1l] at hx2
   refine ⟨q2.b,q2.o,hp1,?_,fun j z hj=>?_⟩
   ·rcases hS.foot 2 ⟨w1,d1,none⟩ q2 rfl hq2 hw1t with h1 | h1
    ·exact h1
    ·exact absurd (h1 0 (by omega)) inR_nil
   ·have hjl:j<v1.length:=(List.getElem?_eq_some_iff.1 hj).1
    obtain ⟨vs,y1,y2⟩:=hr1 j z hj
    obtain rfl:vs=[.int .i64 z]:=i64D.open y2
    refine ⟨?_,(hS.room 2 ⟨w1,d1,none⟩ q2 rfl hq2 hw1t j (by omega)).2⟩
    have hcj:d1[j]?=some (.raw (.int .i64 z)):=by
     rw [hd1,rawL,List.getElem?_map,flatten_get (by decide) hk1,Nat.div_one,Nat.mod_one,y1]
     rfl
    obtain ⟨v,k1',k2⟩:=hS.cell 2 ⟨w1,d1,none⟩ q2 rfl hq2 j _ hcj
    have k1':some (Value.int .i64 z)=some v:=k1'
    rw [k2,←k1']
  have hmx:=maxLen_le
  have hsub:∀ k o v,mU w Mo im1 k o=some v→M k o=some v:=fun k o v h=>by
   unfold mU at h
   split at h
   ·rename_i u hu
    cases h
    exact hM _ _ _ hu
   ·split at h
    ·rename_i hk
     exact hnew _ _ _ hk (hS.imm _ _ _ h)
    ·cases h
  have f1:=cloned (M:=M) (vss:=vs1) (n:=n1) (r:=2) hS (by rw [←hw1,←hd1];rfl) hq2 Nat.one_pos hn1 (by omega) hl1 hk1 z1 (fun k y hy=>by obtain ⟨vs,h1,h2⟩:=hr1 k y hy;exact ⟨vs,h1,(i64_vals h2).2.2 _⟩) (fun j v hb hc _=>hnew _ _ _ hb hc)
  have f3:=cloned (M:=M) (vss:=vs3) (n:=n3) (r:=3) (K:=4) hS (by rw [←hw3,←hd3];rfl) hq3 (by decide) hn3 (by omega) hl3 hk3 z3 (fun k y hy=>by obtain ⟨vs,h1,h2⟩:=hr3 k y hy;exact ⟨vs,h1,(cell_vals h2).2.2 _⟩) (fun j v hb hc _=>hnew _ _ _ hb hc)
  have f4:=cloned (M:=M) (vss:=vs4) (n:=n4) (r:=4) (K:=3) hS (by rw [←hw4,←hd4];rfl) hq4 (by decide) hn4 (by omega) hl4 hk4 z4 (fun k y hy=>by obtain ⟨vs,h1,h2⟩:=hr4 k y hy;exact ⟨vs,h1,(mark_vals h2).2.2 _⟩) (fun j v hb hc _=>hnew _ _ _ hb hc)
  have f2:=cloned (M:=M) (vss:=vss) (n:=i) (r:=5) (K:=6) hS (by rw [←hw2,←hdl];rfl) hq5 (by decide) hn2 (by omega) hI.len hI.six z2 (fun k y hy=>by obtain ⟨vs,h1,h2⟩:=hI.rep k y hy;exact ⟨vs,h1,h2.mono hsub⟩) (fun j v hb hc _=>hnew _ _ _ hb hc)
  have:=RegP.rep (k:=k1) (i:=i1) (s:=s1) (l:=l1) f1 f2 f3 f4
  rw [←hn1,←hn2,←hn3,←hn4] at this
  exact this
end Go.Proofs.YthpbefahaghbjaaGreat
namespace Go.Eng
open Go
def NoFr (D:Nat→Nat→Prop) (w:World):Prop:=∀ k o,D k o→w.frozen? ⟨k,o,none⟩=false
theorem NoFr.loc {D:Nat→Nat→Prop}:Loc D (NoFr D):=fun w w' hs _ h k o hd=>by rw [(hs k o hd).1.2];exact h k o hd
theorem X.noFr {P:Program} {fn:Func} {Q:Ending→World→Prop} {W:World} {O:Nat→Nat→Prop} {im:Mem} {B:SchT} {N0:Nums} {k:List It} {s:St} (h:X (mkE P fn Q W O im (fun _ _=>False) (NoFr fun _ _=>False) N0 B) k s):X (mkE P fn Q W O im (fun _ _=>False) (fun _=>True) N0 B) k s :=
 X.conv fun N a w hN hf hS=>⟨mkE P fn Q W O im (fun _ _=>False) (NoFr fun _ _=>False) N0 B,s,rfl,rfl,rfl,rfl,⟨N,hN,hf,⟨hS.len,hS.lt,hS.cell,hS.ext,hS.room,hS.disj,hS.obj,hS.odisj,hS.imm,hS.imd,hS.dd,hS.dlt,NoFr.loc,fun _ _ h=>h.elim,hS.chg,hS.foot⟩⟩,h⟩
theorem Goes.newMemD {E:Ctx} {N:Nums} {k:List It} {s:St} {d:Option Nat} {v:Value} {w w':World} (D':Nat→Nat→Prop) (R':World→Prop) (hN:E.N0.le N) (h:Sat E.toEnv N s.rg w) (hc:Chg (fun _ _=>False) w w') {r:SV} (hr:r.den N=some v) {f':Fr} (hp:putO E.n s.fr d (.val r)=some f')
  (hdd:∀ (r:Nat) (g:Rg) (p:Num),s.rg[r]?=some g→N[r]?=some p→g.own=true→∀ j,j<p.x→¬D' p.b (p.o+j)) (hob:∀ (r:Nat) (g:Rg),s.rg[r]?=some g→g.ob=none) (hdl:∀ k o,D' k o→There w' k o) (hl:Loc D' R') (hR:R' w')
  (hx:(∀ k o u,E.im k o=some u→imNew E.im w w' k o=some u)→(∀ k o u,w.heap.size≤k→w'.cell? ⟨k,o,none⟩=some u→imNew E.im w w' k o=some u)→X ({ E.withDR D' R' with im:=imNew E.im w w' }:Ctx) k ⟨f',s.rg⟩):Goes E N k s.fr d v w':=by
 have h':=h.after0 hc
 have h2:=Sat.newMem h h'
 refine ⟨{ E.withDR D' R' with im:=imNew E.im w w' },N,r,s.rg,f',rfl,rfl,rfl,rfl,fun _ _ h=>h,hN,⟨h2.len,h2.lt,h2.cell,h2.ext,h2.room,h2.disj,fun r g p ob hg _ ho=>?_,h2.odisj,h2.imm,h2.imd,hdd,hdl,hl,hR,h2.chg,h2.foot⟩,hr,hp,?_⟩
 ·rw [hob r g hg] at ho;cases ho
 ·exact hx (fun k o u hu=>imNew_old hu) (fun k o u hk hu=>imNew_new h'.imm hk hu)
end Go.Eng
namespace Go.Proofs.YthpbefahaghbjaaGreat
open Go Go.Eng
def VarA (p:Option Addr) (n:Nat) (k o:Nat):Prop:=∃ b y,p=some ⟨b,y,none⟩∧k=b∧y≤o∧o<y+n
structure ClN (w:World) (Mo im:Mem) (l:List VerP) (i:Nat) (im1:Mem) (vss:List (List Value)) (D:Nat→Nat→Prop):Prop extends ClV w Mo im l im1 vss where
 nv:∀ (j:Nat) (x:VerP),j<i→l[j]?=some x→∃ vs p c,vss[j]?=some vs∧vs[7]?=some (.slice p x.reg.vars.length c)∧(x.reg.vars≠[]→∃ b y,p=some ⟨b,y,none⟩∧w.heap.size≤b∧∀ (t:Nat) (z:Int),x.reg.vars[t]?=some z→im1 b (y+t)=some (.int .i64 z)∧D b (y+t))
def SepR (Mo:Mem) (w:World) (q:Num) (l:List VerP) (vss:List (List Value)) (w':World):Prop :=
 ∃ Mr:Mem,(∀ k o v,Mr k o=some v→w'.cell? ⟨k,o,none⟩=some v∧¬inN q k o∧(Mo k o=some v∨w.heap.size≤k))∧∀ (j:Nat) (x:VerP),l[j]?=some x→∃ vs,vss[j]?=some vs∧RepL Mr x.toD vs
def VersN (Mo:Mem) (l:List VerP) (w:World):Ending→World→Prop:=fun e w' =>
 (∃ p c,e=.returned (.slice p l.length c)∧(∀ M:Mem,(∀ k o v,Mo k o=some v→M k o=some v)→(∀ k o v,w.heap.size≤k→w'.cell? ⟨k,o,none⟩=some v→M k o=some v)→SlR M p c 13 (l.map VerP.toD)) ∧
  (l≠[]→∃ q:Num,p=some ⟨q.b,q.o,none⟩∧c=q.x / 13∧w.heap.size≤q.b∧Room q w'∧l.length*13≤q.x∧∃ vss:List (List Value),vss.length=l.length∧HasC q vss.flatten w'∧(∀ v∈vss,v.length=13∧v.all one?=true) ∧
   (∀ (j:Nat) (x:VerP),l[j]?=some x→∃ t:VerC,vss[j]?=some t.vals∧∃ p' c',t.vals[7]?=some (.slice p' x.reg.vars.length c')∧(x.reg.vars≠[]→∃ b y,p'=some ⟨b,y,none⟩∧w.heap.size≤b∧∀ (u:Nat) (z:Int),x.reg.vars[u]?=some z→w'.cell? ⟨b,y+u,none⟩=some (.int .i64 z)∧w'.frozen? ⟨b,y+u,none⟩=false∧¬inN q b (y+u)))∧SepR Mo w q l vss w'))∧Chg (fun _ _=>False) w w'
theorem wcloneF_ok (Mo:Mem) (p:Num) (l:List VerP) (cp:Nat) (w:World) (hMo:∀ k o v,Mo k o=some v→w.cell? ⟨k,o,none⟩=some v) (h:RowsW Mo p l w) (hl0:l≠[]) (hle:l.length≤1000) (hg:∀ x∈l,¬x.reg.great) :
  Calls Tryz.prog 26 #[.slice (some ⟨p.b,p.o,none⟩) l.length cp] w (VersN Mo l w):=by
 obtain ⟨Q,hQ⟩:∃ Q:Ending→World→Prop,Q=VersN Mo l w:=⟨_,rfl⟩
 rw [←hQ]
 obtain ⟨v0,l1,l2,l3,l4,l5⟩:=h.cells
 have hr13:∀ v∈v0,v.length=13∧v.all one?=true:=fun v hv=>by
  obtain ⟨i,hi⟩:=List.mem_iff_getElem?.1 hv
  obtain ⟨x,hx⟩:∃ x,l[i]?=some x:=⟨_,List.getElem?_eq_getElem (by rw [←l1];exact (List.getElem?_eq_some_iff.1 hi).1)⟩
  obtain ⟨vs',k1,k2⟩:=l2 i x hx
  rw [hi] at k1;cases k1
  exact ⟨k2.len,repl_one k2⟩
 obtain ⟨n,hn⟩:∃ n,n=l.length:=⟨_,rfl⟩
 have hn0:n≠0:=fun e=>hl0 (List.eq_nil_of_length_eq_zero (by omega))
 rw [←hn]
 refine X.begin (rg:=[]) (N:=[]) (ss:=[.slv (some ⟨p.b,p.o,none⟩) n cp]) Tryz.func26 rfl B26_ok rfl rfl Sat.std0 ?_
 obtain ⟨im,hime⟩:∃ im,im=elsewhere [] [] w:=⟨_,rfl⟩
 have hMi:∀ k o v,Mo k o=some v→im k o=some v:=fun k o v hk=>by rw [hime];exact his (hMo k o v hk)
 have hwi:∀ k o v,w.cell? ⟨k,o,none⟩=some v→im k o=some v:=fun k o v hk=>by rw [hime];exact his hk
 show X (mkE Tryz.prog Tryz.f26 Q w (InR [] []) (elsewhere [] [] w) (fun _ _=>False) (fun _=>True) [] B26) _ _
 rw [←hime]
 clear hime
 refine X.go T26_ok 400 _ rfl Tryz.results26 ?_
 conv=>arg 2;cbv
 refine X.call rfl rfl rfl rfl Tryz.call56 (fun N w1 args hN hS ha=>?_)
 obtain rfl:args=[.slice (some ⟨p.b,p.o,none⟩) n cp]:=(Option.some.inj ha).symm
 obtain ⟨cs,hcs⟩:∃ cs,cs=rawL v0.flatten:=⟨_,rfl⟩
 refine (cloneV_ok p.b p.o n cp v0.flatten w1 (by rw [l4,hn]) hn0 (by omega) l5 (fun j v hj=>hS.imm _ _ _ (hwi _ _ _ (l3 j v hj)))).mono fun e w2 hf=>Goes.fresh (cs:=cs) hN hS (by rw [hcs];exact hf) rfl ?_
 clear ha hN hS
 refine X.go T26_ok 400 _ rfl Tryz.results26 ?_
 conv=>arg 2;cbv
 refine X.noFr ?_
 refine X.loop (E:=mkE Tryz.prog Tryz.f26 Q w (InR [] []) im (fun _ _=>False) (NoFr fun _ _=>False) [] B26) (fun g:{g:Nat × Mem × List (List Value) × (Nat→Nat→Prop) // g.1≤n∧ClN w Mo im l g.1 g.2.1 g.2.2.1 g.2.2.2}=>mkE Tryz.prog Tryz.f26 Q w (InR [] []) g.1.2.1 g.1.2.2.2 (NoFr g.1.2.2.2) [] B26)
  (fun g=>⟨[(3,.val (.osl 0 0 n 13 none)),(8,.val (.int .i64 (.nat n))),(9,.val (.int .i64 (.nat g.1.1)))],[⟨true,rawL g.1.2.2.1.flatten,none⟩]⟩) (fun g=>n-g.1.1) (fun _=>⟨rfl,rfl,rfl,rfl⟩) (fun N a w' hN hf hS=>⟨⟨(0,im,v0,fun _ _=>False),Nat.zero_le _,⟨⟨fun _ _ _ h=>h,l1,hr13,fun j x hj=>?_⟩,fun j x h=>absurd h (Nat.not_lt_zero _)⟩⟩,?_⟩) (fun g q hq=>?_)
 ·obtain ⟨vs,k1,k2⟩:=l2 j x hj
  exact ⟨vs,k1,k2.mono mU_old⟩
 ·exact At.again hf hS (by repeat first | exact trivial | refine ⟨⟨_,rfl,.inl ⟨rfl,rfl⟩⟩,?_⟩ | refine ⟨⟨_,rfl,.inr ⟨_,rfl,rfl⟩⟩,?_⟩ | refine ⟨⟨_,rfl,.inr ⟨_,rfl,by simp (disch:=omega) [SV.den,SI.den,wrapU,wrapD]<;>omega⟩⟩,?_⟩) ⟨fun h=>h,(by rw [hcs];exact SubC.refl rawL_bd),rfl,trivial⟩
 obtain ⟨⟨i,im1,vss,D⟩,hi,hI⟩:=g
 simp only at hi hI
 show X (mkE Tryz.prog Tryz.f26 Q w (InR [] []) im1 D (NoFr D) [] B26) _ ⟨[(3,.val (.osl 0 0 n 13 none)),(8,.val (.int .i64 (.nat n))),(9,.val (.int .i64 (.nat i)))],[⟨true,rawL vss.flatten,none⟩]⟩
 obtain ⟨dl,hdl⟩:∃ d,d=rawL vss.flatten:=⟨_,rfl⟩
 rw [←hdl]
 refine X.go T26_ok 400 _ rfl Tryz.results26 ?_
 conv=>arg 2;cbv
 refine X.cond rfl (fun hlt=>?_) (fun hge=>?_)
 ·simp only [SB.T,SI.den] at hlt
  have hlt:i<n:=by omega
  obtain ⟨x,hx⟩:∃ x,l[i]?=some x:=⟨_,List.getElem?_eq_getElem (by omega)⟩
  obtain ⟨vsi,hvi,hri⟩:=hI.rep i x hx
  obtain ⟨t,hvt,hxe,hrg⟩:=VerP.cells hri
  obtain ⟨A,B',hA,hsp⟩:=rows_split hvi fun v hv=>(hI.row v hv).1
  obtain ⟨z,hz⟩:∃ z,z=i*13:=⟨_,rfl⟩
  obtain ⟨ky,b1,b2,b3,⟨gk,gi,gs,gl,q1,q2,q3,q4,m1',m2',m3',m4',fa,fb,fc,fd⟩,ta⟩:=t
  have hset:vss.set i vsi=vss:=by
   obtain ⟨y1,y2⟩:=List.getElem?_eq_some_iff.1 hvi
   rw [←y2];exact List.set_getElem_self y1
  have hpre:∀ g:RegS,(vss.set i (VerC.vals ⟨ky,b1,b2,b3,g,ta⟩)).flatten=(A++[.int .u8 ky,.int .u64 b1,.int .u8 b2,.int .u32 b3])++g.vals++(.int .i64 ta::B'):=fun g=>by rw [hsp];simp [VerC.vals]
  obtain ⟨A2,hA2⟩:∃ a,a=rawL (A++[.int .u8 ky,.int .u64 b1,.int .u8 b2,.int .u32 b3]):=⟨_,rfl⟩
  obtain ⟨B2,hB2⟩:∃ a,a=rawL (.int .i64 ta::B'):=⟨_,rfl⟩
  have hA2l:A2.length=z+4:=by rw [hA2,rawL_len,hz];simp [hA]
  have hdl2:dl=A2++rawL (RegS.vals ⟨gk,gi,gs,gl,q1,q2,q3,q4,m1',m2',m3',m4',fa,fb,fc,fd⟩)++B2:=by
   rw [hdl,hA2,hB2,←hset,hvt,hpre]
   simp [rawL]
  refine X.goX ([(16,.own 0 z),(18,.agg (RegS.svs ⟨gk,gi,gs,gl,q1,q2,q3,q4,m1',m2',m3',m4',fa,fb,fc,fd⟩))]) ([]) T26_ok 400 _ rfl Tryz.results26 (fun pr pe fin hpr hpe hfin=>?_)
  conv=>cbv
  refine ⟨hpr _ (vk_osl (sx:=.osl 0 0 n 13 none) rfl (.inr (.inr ⟨none,rfl⟩)) rfl (fun _=>rfl) Tryz.underlying27 Tryz.sizeOf49 (fun _=>hlt) hz (by simp)),hpr _ ((vk_loadRow (c:=z+4) (gg:=⟨true,dl,none⟩) (row:=rawL (RegS.vals ⟨gk,gi,gs,gl,q1,q2,q3,q4,m1',m2',m3',m4',fa,fb,fc,fd⟩)) rfl Tryz.isAgg41 Tryz.sizeOf41 rfl rfl (fun j d hj=>?_)).conv fun N v hv=>?_),hfin _ _ ?_⟩
  ·show dl[z+4+j]?=some d
   have hj8:j<8:=(List.getElem?_eq_some_iff.1 hj).1
   rw [hdl2,List.append_assoc,List.getElem?_append_right (by omega),hA2l,Nat.add_sub_cancel_left,List.getElem?_append_left (by rw [rawL_len];exact hj8)]
   exact hj
  ·have hd:SV.denL N (RegS.svs ⟨gk,gi,gs,gl,q1,q2,q3,q4,m1',m2',m3',m4',fa,fb,fc,fd⟩)=some (RegS.vals ⟨gk,gi,gs,gl,q1,q2,q3,q4,m1',m2',m3',m4',fa,fb,fc,fd⟩):=rfl
   simp only [SV.den,rawL_denL (vs:=RegS.vals ⟨gk,gi,gs,gl,q1,q2,q3,q4,m1',m2',m3',m4',fa,fb,fc,fd⟩) rfl N] at hv
   simp only [SV.den,hd]
   exact hv
  clear hpr hpe hfin
  refine X.call rfl rfl rfl rfl Tryz.call22 (fun N w1 args hN hS ha=>?_)
  obtain rfl:args=[.agg (RegS.vals ⟨gk,gi,gs,gl,q1,q2,q3,q4,m1',m2',m3',m4',fa,fb,fc,fd⟩).toArray]:=(Option.some.inj ha).symm
  have him1:∀ k o v,Mo k o=some v→im1 k o=some v:=fun k o v hk=>hI.him _ _ _ (hMi _ _ _ hk)
  refine (regCloneN_ok x.reg _ (mU w Mo im1) w1 (fun k o v hk=>hS.imm _ _ _ (mU_in him1 _ _ _ hk)) hrg (hg x (List.mem_of_getElem? hx))).mono fun e w2 hR=>?_
  obtain ⟨⟨vb,he,hmem,pq,cq,h3,hnv⟩,hch⟩:=hR
  obtain ⟨g2,rfl⟩:=RegS.of (hmem (fun k o=>w2.cell? ⟨k,o,none⟩) (fun k o v hk=>(hS.after0 hch).imm _ _ _ (mU_in him1 _ _ _ hk)) (fun k o v _ h=>h))
  have hws:w.heap.size≤w1.heap.size:=hS.chg.size
  obtain ⟨gk2,gi2,gs2,gl2,u1,u2,u3,u4,v1,v2,v3,v4,w1',w2',w3',w4'⟩:=g2
  obtain ⟨D',hD'⟩:∃ D':Nat→Nat→Prop,D'=fun k o=>D k o∨(x.reg.vars≠[]∧VarA pq x.reg.vars.length k o):=⟨_,rfl⟩
  have h':=hS.after0 hch
  refine ⟨_,he,Goes.newMemD D' (NoFr D') hN hS hch (r:=.agg (RegS.svs ⟨gk2,gi2,gs2,gl2,u1,u2,u3,u4,v1,v2,v3,v4,w1',w2',w3',w4'⟩)) rfl rfl (fun r g p hg hp ho j hj hd=>?_) (fun r g hg=>?_) (fun k o hd=>?_) NoFr.loc (fun k o hd=>?_) (fun hold hnew=>?_)⟩
  ·rw [hD'] at hd
   rcases hd with hd | ⟨hv0,b,y,e1,e2,_⟩
   ·exact hS.dd r g p hg hp ho j hj hd
   ·obtain ⟨b',y',e3,e4,_⟩:=hnv hv0
    rw [e1] at e3;cases e3
    have:=hS.lt r p hp
    omega
  ·match r,hg with
   | 0,hg=>cases hg;rfl
  ·rw [hD'] at hd
   rcases hd with hd | ⟨hv0,b,y,e1,rfl,e2,e3⟩
   ·exact h'.dlt k o hd
   ·obtain ⟨b',y',e4,_,e5⟩:=hnv hv0
    rw [e1] at e4;cases e4
    obtain ⟨z',hz'⟩:∃ z,x.reg.vars[o-y]?=some z:=⟨_,List.getElem?_eq_getElem (by omega)⟩
    have:=(e5 _ _ hz').1
    rw [show y+(o-y)=o by omega] at this
    exact .inl (by rw [this];rfl)
  ·rw [hD'] at hd
   rcases hd with hd | ⟨hv0,b,y,e1,rfl,e2,e3⟩
   ·exact h'.res k o hd
   ·obtain ⟨b',y',e4,_,e5⟩:=hnv hv0
    rw [e1] at e4;cases e4
    obtain ⟨z',hz'⟩:∃ z,x.reg.vars[o-y]?=some z:=⟨_,List.getElem?_eq_getElem (by omega)⟩
    have:=(e5 _ _ hz').2
    rwa [show y+(o-y)=o by omega] at this
  obtain ⟨im2,him2⟩:∃ im2,im2=imNew im1 w1 w2:=⟨_,rfl⟩
  have hrep2:RepL (mU w Mo im2) x.reg.toD (RegS.vals ⟨gk2,gi2,gs2,gl2,u1,u2,u3,u4,v1,v2,v3,v4,w1',w2',w3',w4'⟩):=hmem _ (mU_mono fun k o v hk=>by rw [him2];exact hold _ _ _ hk) fun k o v hk hc=>by
   unfold mU
   cases hMk:Mo k o with
   | some u =>
    have:=World.block_lt_of_cell? _ _ (hMo k o u hMk)
    simp only at this
    omega
   | none =>
    simp only
    rw [if_pos (by omega),him2]
    exact hnew _ _ _ hk hc
  have hnv2:x.reg.vars≠[]→∃ b y,pq=some ⟨b,y,none⟩∧w.heap.size≤b∧∀ (t:Nat) (z:Int),x.reg.vars[t]?=some z→im2 b (y+t)=some (.int .i64 z)∧D' b (y+t):=fun hv0=>by
   obtain ⟨b,y,e1,e2,e3⟩:=hnv hv0
   refine ⟨b,y,e1,by omega,fun t z ht=>⟨by rw [him2];exact hnew _ _ _ e2 (e3 t z ht).1,?_⟩⟩
   rw [hD']
   exact .inr ⟨hv0,b,y,e1,rfl,Nat.le_add_right _ _,by have:=(List.getElem?_eq_some_iff.1 ht).1;omega⟩
  have hDD:∀ k o,D k o→D' k o:=fun k o h=>by rw [hD'];exact .inl h
  have hold2:∀ k o v,im1 k o=some v→im2 k o=some v:=fun k o v hk=>by rw [him2];exact hold _ _ _ hk
  show X (mkE Tryz.prog Tryz.f26 Q w (InR [] []) (imNew im1 w1 w2) D' (NoFr D') [] B26) _ _
  rw [←him2]
  clear him2 hold hnew hch he ha hS hN hmem h' hnv hD'
  obtain ⟨dl',hdl'⟩:∃ d,d=setRow dl (z+4) (RegS.svs ⟨gk2,gi2,gs2,gl2,u1,u2,u3,u4,v1,v2,v3,v4,w1',w2',w3',w4'⟩):=⟨_,rfl⟩
  have hdll:z+12≤dl.length:=by rw [hdl2];simp [hA2l,rawL_len,RegS.vals];omega
  refine X.goX ([(20,.own 0 z)]) ([(1010,⟨fun _=>.tup [],[(0,⟨true,dl',none⟩)],[]⟩)]) T26_ok 400 _ rfl Tryz.results26 (fun pr pe fin hpr hpe hfin=>?_)
  conv=>cbv
  refine ⟨hpr _ (vk_osl (sx:=.osl 0 0 n 13 none) rfl (.inr (.inr ⟨none,rfl⟩)) rfl (fun _=>rfl) Tryz.underlying27 Tryz.sizeOf49 (fun _=>hlt) hz (by simp)),hpe _ _ _ _ _ ?_,hfin _ _ ?_⟩
  ·refine EffOk.step T26_ok ?_
   rw [stepE_store (c:=z+4) (v:=.agg (RegS.svs ⟨gk2,gi2,gs2,gl2,u1,u2,u3,u4,v1,v2,v3,v4,w1',w2',w3',w4'⟩)) (g:=⟨true,dl,none⟩) (ti:=ti41) rfl rfl rfl rfl rfl rfl (by show z+4+8≤dl.length;omega) rfl]
   rw [hdl']
   rfl
  clear hpr hpe hfin
  have hdl2':dl'=A2++RegS.svs ⟨gk2,gi2,gs2,gl2,u1,u2,u3,u4,v1,v2,v3,v4,w1',w2',w3',w4'⟩++B2:=by
   rw [hdl',hdl2,←hA2l]
   exact setRow_mid rfl
  obtain ⟨vss',hvss'⟩:∃ v,v=vss.set i (VerC.vals ⟨ky,b1,b2,b3,⟨gk2,gi2,gs2,gl2,u1,u2,u3,u4,v1,v2,v3,v4,w1',w2',w3',w4'⟩,ta⟩):=⟨_,rfl⟩
  have hnew:rawL vss'.flatten=A2++rawL (RegS.vals ⟨gk2,gi2,gs2,gl2,u1,u2,u3,u4,v1,v2,v3,v4,w1',w2',w3',w4'⟩)++B2:=by
   rw [hvss',hpre,hA2,hB2]
   simp [rawL]
  refine X.recell 0 ⟨true,dl',none⟩ (rawL vss'.flatten) rfl (by rw [hnew];show _=dl'.length;rw [hdl2'];simp [rawL_len];rfl) (fun N hN j c c' h1 h2 v hv=>?_) ?_
  ·rw [hnew] at h2
   have h1:dl'[j]?=some c:=h1
   rw [hdl2'] at h1
   refine recell_mid (N:=N) (by rfl) (fun j c c' y1 y2 v hv=>?_) j c c' h1 h2 v hv
   obtain ⟨_,y3⟩:=SV.denL_get (N:=N) (RegS.svs ⟨gk2,gi2,gs2,gl2,u1,u2,u3,u4,v1,v2,v3,v4,w1',w2',w3',w4'⟩) (rfl:SV.denL N (RegS.svs ⟨gk2,gi2,gs2,gl2,u1,u2,u3,u4,v1,v2,v3,v4,w1',w2',w3',w4'⟩)=some (RegS.vals ⟨gk2,gi2,gs2,gl2,u1,u2,u3,u4,v1,v2,v3,v4,w1',w2',w3',w4'⟩))
   obtain ⟨v',y4,y5⟩:=y3 j c y1
   rw [hv] at y4;cases y4
   have y5':(RegS.vals ⟨gk2,gi2,gs2,gl2,u1,u2,u3,u4,v1,v2,v3,v4,w1',w2',w3',w4'⟩)[j]?=some v:=y5
   rw [rawL,List.getElem?_map,y5'] at y2
   obtain rfl:=Option.some.inj y2
   have ho:one? v=true:=List.all_eq_true.1 (show (RegS.vals ⟨gk2,gi2,gs2,gl2,u1,u2,u3,u4,v1,v2,v3,v4,w1',w2',w3',w4'⟩).all one?=true from rfl) v (List.mem_of_getElem? y5)
   simp [SV.den,ho]
  have hI':ClN w Mo im l (i+1) im2 vss' D':=by
   refine ⟨⟨fun k o v hk=>hold2 _ _ _ (hI.him _ _ _ hk),by rw [hvss',List.length_set];exact hI.len,fun v hv=>?_,fun j y hy=>?_⟩,fun j y hj hy=>?_⟩
   ·rw [hvss'] at hv
    rcases List.mem_or_eq_of_mem_set hv with h1 | rfl
    ·exact hI.row v h1
    ·exact ⟨rfl,rfl⟩
   ·by_cases hj:i=j
    ·subst hj
     rw [hx] at hy;cases hy
     refine ⟨_,by rw [hvss',List.getElem?_set,if_pos rfl,if_pos (by rw [hI.len];omega)],?_⟩
     have:=VerP.shut (x:=⟨ky,⟨b1,b2,b3⟩,x.reg,ta⟩) hrep2
     rw [hxe]
     exact this
    ·obtain ⟨vs,h1,h2⟩:=hI.rep j y hy
     exact ⟨vs,by rw [hvss',List.getElem?_set,if_neg hj];exact h1,h2.mono (mU_mono hold2)⟩
   ·by_cases hij:i=j
    ·subst hij
     rw [hx] at hy;cases hy
     exact ⟨_,pq,cq,by rw [hvss',List.getElem?_set,if_pos rfl,if_pos (by rw [hI.len];omega)],h3,hnv2⟩
    ·obtain ⟨vs,p',c',h1,h2,h4⟩:=hI.nv j y (by omega) hy
     refine ⟨vs,p',c',by rw [hvss',List.getElem?_set,if_neg hij];exact h1,h2,fun h0=>?_⟩
     obtain ⟨b,y',e1,e2,e3⟩:=h4 h0
     exact ⟨b,y',e1,e2,fun t z ht=>⟨hold2 _ _ _ (e3 t z ht).1,hDD _ _ (e3 t z ht).2⟩⟩
  refine X.back (fun N a w' hN hf hS=>hq ⟨(i+1,im2,vss',D'),hlt,hI'⟩ a w' (by simp only;omega) ?_)
  exact At.again hf hS (by repeat first | exact trivial | refine ⟨⟨_,rfl,.inl ⟨rfl,rfl⟩⟩,?_⟩ | refine ⟨⟨_,rfl,.inr ⟨_,rfl,rfl⟩⟩,?_⟩ | refine ⟨⟨_,rfl,.inr ⟨_,rfl,by simp (disch:=omega) [SV.den,SI.den,wrapU,wrapD]<;>omega⟩⟩,?_⟩) ⟨fun h=>h,SubC.refl rawL_bd,rfl,trivial⟩
 ·simp only [SB.F,SI.den] at hge
  obtain rfl:i=n:=by omega
  refine X.go T26_ok 400 _ rfl Tryz.results26 ?_
  conv=>arg 2;cbv
  refine X.done T26_ok rfl (fun N w' v hN hS hv=>?_)
  obtain ⟨q0,hq0⟩:∃ p,N[0]?=some p:=⟨_,List.getElem?_eq_getElem (by rw [hS.len];show 0<1;omega)⟩
  simp only [resV,SV.den,hq0,Num.cap,Nat.add_zero,Nat.sub_zero,Option.some.injEq] at hv
  have hext:=hS.ext 0 ⟨true,dl,none⟩ q0 rfl hq0 rfl
  have hdlen:dl.length=i*13:=by rw [hdl,rawL_len,flatten_len (K:=13) fun v hv=>(hI.row v hv).1,hI.len,hn]
  simp only [hdlen] at hext
  have hfq:w.heap.size≤q0.b:=by
   rcases hS.foot 0 ⟨true,dl,none⟩ q0 rfl hq0 rfl with h1 | h1
   ·exact h1
   ·exact absurd (h1 0 (by omega)) inR_nil
  rw [hQ]
  have hall:vss.flatten.all one?=true:=by
   rw [List.all_flatten,List.all_eq_true]
   exact fun v hv=>(hI.row v hv).2
  have hhas:HasC q0 vss.flatten w':=hasC_of hS (r:=0) (vs:=vss.flatten) rfl hq0 (by show SV.denL N dl=_;rw [hdl];exact rawL_denL hall N)
  refine ⟨⟨some ⟨q0.b,q0.o,none⟩,q0.x / 13,by rw [←hv,←hn],fun M h1 h2=>?_,fun _=>⟨q0,rfl,rfl,hfq,⟨hS.lt 0 q0 hq0,hS.room 0 _ q0 rfl hq0 rfl⟩,by omega,vss,hI.len,hhas,fun v hv=>hI.row v hv,fun j x hj=>?_,mU w Mo im1,fun k o v hk=>?_,fun j x hj=>hI.rep j x hj⟩⟩,hS.chg.none⟩
  rotate_left
  ·obtain ⟨vs,p',c',y1,y2,y3⟩:=hI.nv j x (by have:=(List.getElem?_eq_some_iff.1 hj).1;omega) hj
   obtain ⟨vs',y4,y5⟩:=hI.rep j x hj
   rw [y1] at y4;cases y4
   obtain ⟨t,y6,y7,_⟩:=VerP.cells y5
   refine ⟨t,by rw [←y6];exact y1,p',c',by rw [←y6];exact y2,fun h0=>?_⟩
   obtain ⟨b,y',e1,e2,e3⟩:=y3 h0
   refine ⟨b,y',e1,e2,fun u z hu=>⟨hS.imm _ _ _ (e3 u z hu).1,hS.res _ _ (e3 u z hu).2,fun hin=>?_⟩⟩
   obtain ⟨i1,i2,i3⟩:=hin
   have:=hS.dd 0 _ q0 rfl hq0 rfl (y'+u-q0.o) (by omega)
   rw [show q0.o+(y'+u-q0.o)=y'+u by omega,←i1] at this
   exact this (e3 u z hu).2
  ·have him1:∀ k o v,Mo k o=some v→im1 k o=some v:=fun k o v hk=>hI.him _ _ _ (hMi _ _ _ hk)
   have hki:im1 k o=some v:=mU_in him1 _ _ _ hk
   refine ⟨hS.imm _ _ _ hki,fun ⟨i1,i2,i3⟩=>?_,?_⟩
   ·have:=hS.imd 0 _ q0 rfl hq0 rfl (o-q0.o) (by omega)
    rw [show q0.o+(o-q0.o)=o by omega,←i1] at this
    have hki':im1 k o=none:=this
    rw [hki] at hki';cases hki'
   ·unfold mU at hk
    split at hk
    ·rename_i u hu
     cases hk
     exact .inl hu
    ·split at hk
     ·rename_i h1;exact .inr h1
     ·cases hk
  refine SlR.of (K:=13) (vss:=vss) (by omega) (by rw [maxLen_le];omega) hI.len (fun j x hx=>?_) (fun _=>⟨q0.b,q0.o,rfl,fun j vs hj k v hk=>?_⟩)
  ·obtain ⟨vs,y1,y2⟩:=hI.rep j x hx
   refine ⟨vs,y1,y2.mono fun k o v hk=>?_⟩
   unfold mU at hk
   split at hk
   ·rename_i u hu
    cases hk
    exact h1 _ _ _ hu
   ·split at hk
    ·exact h2 _ _ _ (by assumption) (hS.imm _ _ _ hk)
    ·cases hk
  ·have hj13:=(hI.row vs (List.mem_of_getElem? hj)).1
   have hk13:k<13:=by rw [←hj13];exact (List.getElem?_eq_some_iff.1 hk).1
   have hfl:vss.flatten[j*13+k]?=some v:=by
    rw [flatten_get (by decide) fun v hv=>(hI.row v hv).1,show (j*13+k) / 13=j by omega,show (j*13+k) % 13=k by omega,hj]
    exact hk
   refine h2 _ _ _ hfq ?_
   have hall:vss.flatten.all one?=true:=by
    rw [List.all_flatten,List.all_eq_true]
    exact fun v hv=>(hI.row v hv).2
   have:=hasC_of hS (r:=0) (vs:=vss.flatten) rfl hq0 (by show SV.denL N dl=_;rw [hdl];exact rawL_denL hall N) (j*13+k) v hfl
   rwa [←Nat.add_assoc] at this
end Go.Proofs.YthpbefahaghbjaaGreat
namespace Go.Eng
open Go
theorem Goes.rowsD {E:Ctx} {N:Nums} {k:List It} {s:St} {d:Option Nat} {w w':World} {cs:List SV} {n sz:Nat} {q:Num} (D':Nat→Nat→Prop) (R':World→Prop) (hN:E.N0.le N) (h:Sat E.toEnv N s.rg w) (hc:Chg (fun _ _=>False) w w') (h1:w.heap.size≤q.b) (h1':q.b<w'.heap.size) (h2:cs.length≤q.x) (h4:∀ (j:Nat) (c:SV),cs[j]?=some c→∃ v,c.den []=some v∧w'.cell? ⟨q.b,q.o+j,none⟩=some v)
  (h5:∀ j,j<q.x→(w'.cell? ⟨q.b,q.o+j,none⟩).isSome=true∧w'.frozen? ⟨q.b,q.o+j,none⟩=false) (hob:∀ (r:Nat) (g:Rg),s.rg[r]?=some g→g.ob=none) (hD:∀ k o,D' k o→There w' k o∧¬(k=q.b∧q.o≤o∧o<q.o+q.x)∧(E.D k o∨w.heap.size≤k)) (hl:Loc D' R') (hR:R' w')
  {f':Fr} (hp:putO E.n s.fr d (.val (.osl s.rg.length 0 n sz none))=some f') (hx:X (E.withDR D' R') k ⟨f',s.rg++[⟨true,cs,none⟩]⟩):Goes E N k s.fr d (.slice (some ⟨q.b,q.o,none⟩) n (q.x / sz)) w':=by
 have hget:(N++[q])[s.rg.length]?=some q:=by rw [←h.len];simp
 have h0:=h.after0 hc
 have h3:Sat E.toEnv (N++[q]) (s.rg++[⟨true,cs,none⟩]) w':=by
  refine h0.addFresh (s0:=w.heap.size) (fun r p hp=>h.lt r p hp) h1 h.chg.size h1' h2 (fun j c hj=>?_) h5 (fun i=>?_) (fun i hd=>?_)
  ·obtain ⟨v,k1,k2⟩:=h4 j c hj
   exact ⟨v,SV.den_mono (N:=[]) (N':=N) (fun r p h=>by simp at h) c k1,k2⟩
  ·cases hi:E.im q.b i with
   | none=>rfl
   | some v=>have:=World.block_lt_of_cell? _ _ (h.imm _ _ _ hi);simp at this;omega
  ·have:=(h.dlt _ _ hd).lt
   omega
 refine ⟨E.withDR D' R',N++[q],_,_,f',rfl,rfl,rfl,rfl,Nums.le_append _ _,hN.trans (Nums.le_append _ _),⟨h3.len,h3.lt,h3.cell,h3.ext,h3.room,h3.disj,fun r g p ob hg hp ho=>?_,h3.odisj,h3.imm,h3.imd,fun r g p hg hp ho j hj hd=>?_,fun k o hd=>(hD k o hd).1,hl,hR,h3.chg,h3.foot⟩,by simp only [SV.den,hget,Num.cap];simp,hp,hx⟩
 ·rcases get_snoc h.len hg hp with ⟨a,b⟩ | ⟨_,rfl,rfl⟩
  ·rw [hob r g a] at ho;cases ho
  ·cases ho
 ·obtain ⟨_,k2,k3⟩:=hD _ _ hd
  rcases get_snoc h.len hg hp with ⟨a,b⟩ | ⟨_,rfl,rfl⟩
  ·rcases k3 with k3 | k3
   ·exact h.dd r g p a b ho j hj k3
   ·have:=h.lt r p b
    omega
  ·exact k2 ⟨rfl,by omega,by omega⟩
end Go.Eng
namespace Go.Proofs.YthpbefahaghbjaaGreat
open Go Go.Eng
def SpV (l:List VerP) (vss:List (List Value)) (k o:Nat):Prop:=∃ (j:Nat) (x:VerP) (vs:List Value) (p':Option Addr) (c':Nat),l[j]?=some x∧vss[j]?=some vs∧vs[7]?=some (.slice p' x.reg.vars.length c')∧VarA p' x.reg.vars.length k o
def VarR (base:Nat) (q:Num) (l:List VerP) (vss:List (List Value)) (w:World):Prop :=
 ∀ (j:Nat) (x:VerP),l[j]?=some x→∃ t:VerC,vss[j]?=some t.vals∧∃ p' c',t.vals[7]?=some (.slice p' x.reg.vars.length c')∧(x.reg.vars≠[]→∃ b y,p'=some ⟨b,y,none⟩∧base≤b∧∀ u,u<x.reg.vars.length→(∃ z,w.cell? ⟨b,y+u,none⟩=some (.int .i64 z))∧w.frozen? ⟨b,y+u,none⟩=false∧¬inN q b (y+u))
theorem VarR.loc {base:Nat} {q:Num} {l:List VerP} {vss:List (List Value)}:Eng.Loc (SpV l vss) (VarR base q l vss):=fun w w' hs _ h j x hj=>by
 obtain ⟨t,h1,p',c',h2,h3⟩:=h j x hj
 refine ⟨t,h1,p',c',h2,fun h0=>?_⟩
 obtain ⟨b,y,e1,e2,e3⟩:=h3 h0
 refine ⟨b,y,e1,e2,fun u hu=>?_⟩
 obtain ⟨k1,k2⟩:=(hs b (y+u) ⟨j,x,_,p',c',hj,h1,h2,b,y,e1,rfl,Nat.le_add_right _ _,by omega⟩).1
 rw [k1,k2]
 exact e3 u hu
theorem VarR.there {base:Nat} {q:Num} {l:List VerP} {vss:List (List Value)} {w:World} (h:VarR base q l vss w) {k o:Nat} (hd:SpV l vss k o):There w k o∧base≤k∧¬inN q k o:=by
 obtain ⟨j,x,vs,p',c',hj,h1,h2,b,y,e1,rfl,e2,e3⟩:=hd
 obtain ⟨t,y1,p2,c2,y2,y3⟩:=h j x hj
 rw [h1] at y1;cases y1
 rw [h2] at y2
 simp only [Option.some.injEq,Value.slice.injEq] at y2
 obtain ⟨rfl,_,rfl⟩:=y2
 obtain ⟨b2,y',e4,e5,e6⟩:=y3 fun h0=>by rw [h0] at e3;simp at e3;omega
 rw [e1] at e4;cases e4
 obtain ⟨⟨z,k1⟩,_,k3⟩:=e6 (o-y) (by omega)
 rw [show y+(o-y)=o by omega] at k1 k3
 exact ⟨.inl (by rw [k1];rfl),e5,k3⟩
theorem VarR.mono {base base':Nat} {q:Num} {l:List VerP} {vss:List (List Value)} {w:World} (h:VarR base q l vss w) (hb:base'≤base):VarR base' q l vss w:=fun j x hj=>by
 obtain ⟨t,h1,p',c',h2,h3⟩:=h j x hj
 refine ⟨t,h1,p',c',h2,fun h0=>?_⟩
 obtain ⟨b,y,e1,e2,e3⟩:=h3 h0
 exact ⟨b,y,e1,Nat.le_trans hb e2,e3⟩
structure SpR (base:Nat) (q:Num) (l:List VerP) (vss:List (List Value)) (w:World):Prop where
 room:Room q w
 has:HasC q vss.flatten w
 var:VarR base q l vss w
structure SpOk (q:Num) (l:List VerP) (vss:List (List Value)):Prop where
 x:l.length*13≤q.x
 len:vss.length=l.length
 row:∀ v∈vss,v.length=13∧v.all one?=true
def SpD (q:Num) (l:List VerP) (vss:List (List Value)) (k o:Nat):Prop:=inN q k o∨SpV l vss k o
theorem SpOk.flat {q:Num} {l:List VerP} {vss:List (List Value)} (h:SpOk q l vss):vss.flatten.length≤q.x:=by
 rw [flatten_len (K:=13) fun v hv=>(h.row v hv).1,h.len]
 exact h.x
theorem SpR.loc {base:Nat} {q:Num} {l:List VerP} {vss:List (List Value)} (ok:SpOk q l vss):Eng.Loc (SpD q l vss) (SpR base q l vss):=fun w w' hs hle h=>by
 refine ⟨⟨Nat.lt_of_lt_of_le h.room.1 hle,fun j hj=>?_⟩,h.has.at ok.flat fun k o hi=>(hs k o (.inl hi)).1.1,VarR.loc w w' (fun k o hd=>hs k o (.inr hd)) hle h.var⟩
 obtain ⟨k1,k2⟩:=(hs q.b (q.o+j) (.inl ⟨rfl,by omega,by omega⟩)).1
 rw [k1,k2]
 exact h.room.2 j hj
theorem SpR.there {base:Nat} {q:Num} {l:List VerP} {vss:List (List Value)} {w:World} (h:SpR base q l vss w) {k o:Nat} (hd:SpD q l vss k o):There w k o:=by
 rcases hd with ⟨rfl,h1,h2⟩ | hd
 ·have:=(h.room.2 (o-q.o) (by omega)).1
  rw [show q.o+(o-q.o)=o by omega] at this
  exact .inl this
 ·exact (h.var.there hd).1
def VersS (Mo:Mem) (l:List VerP) (w:World):Ending→World→Prop:=fun e w' =>
 (∃ p c,e=.returned (.slice p l.length c)∧(∀ M:Mem,(∀ k o v,Mo k o=some v→M k o=some v)→(∀ k o v,w.heap.size≤k→w'.cell? ⟨k,o,none⟩=some v→M k o=some v)→SlR M p c 13 (l.map VerP.toD)) ∧
  ∃ (q:Num) (vss:List (List Value)),p=some ⟨q.b,q.o,none⟩∧c=q.x / 13∧w.heap.size≤q.b∧SpOk q l vss∧SpR w.heap.size q l vss w'∧SepR Mo w q l vss w')∧Chg (fun _ _=>False) w w'
theorem VersN.s {Mo:Mem} {l:List VerP} {w w':World} {e:Ending} (h0:l≠[]) (h:VersN Mo l w e w'):VersS Mo l w e w':=by
 obtain ⟨⟨p,c,h1,h2,h3⟩,hch⟩:=h
 obtain ⟨q,e1,e2,e3,e4,e5,vss,e6,e7,e8,e9,e10⟩:=h3 h0
 refine ⟨⟨p,c,h1,h2,q,vss,e1,e2,e3,⟨e5,e6,e8⟩,⟨e4,e7,fun j x hj=>?_⟩,e10⟩,hch⟩
 obtain ⟨t,y1,p',c',y2,y3⟩:=e9 j x hj
 refine ⟨t,y1,p',c',y2,fun hv=>?_⟩
 obtain ⟨b,y,z1,z2,z3⟩:=y3 hv
 refine ⟨b,y,z1,z2,fun u hu=>?_⟩
 obtain ⟨z,hz⟩:∃ z,x.reg.vars[u]?=some z:=⟨_,List.getElem?_eq_getElem hu⟩
 obtain ⟨k1,k2,k3⟩:=z3 u z hz
 exact ⟨⟨z,k1⟩,k2,k3⟩
theorem versionsS_ok (wm:WM) (s:WP) (n:Nat) (Mo:Mem) (w:World) (h:WatchAt wm s Mo w) (ok:s.Ok n) (hn:n≤1000) (h0:s.l≠[]):Calls Tryz.prog 10 #[ptrN (wm.P 0)] w (VersS Mo s.l w):=by
 obtain ⟨Q,hQ⟩:∃ Q:Ending→World→Prop,Q=VersS Mo s.l w:=⟨_,rfl⟩
 rw [←hQ]
 obtain ⟨pv,hpv⟩:∃ v:Option Addr × Nat × Nat,v=(some ⟨(wm.P 1).b,(wm.P 1).o,none⟩,s.l.length,(wm.P 1).x / 13):=⟨_,rfl⟩
 obtain ⟨pp,pn,pc⟩:=pv
 have hlt:=(h.room 0 (by omega)).1
 have hcell:∀ (j:Nat) (c:SV),(hdS wm s)[j]?=some c→∃ v,c.den [⟨(wm.P 0).b,(wm.P 0).o,4⟩]=some v∧w.cell? ⟨(wm.P 0).b,(wm.P 0).o+j,none⟩=some v:=fun j c hj=>by
  obtain ⟨z1,z2⟩:=SV.denL_get (N:=[⟨(wm.P 0).b,(wm.P 0).o,4⟩]) (hdS wm s) (hdS_den wm s _)
  obtain ⟨v,z3,z4⟩:=z2 j c hj
  exact ⟨v,z3,h.hd.2 j v z4⟩
 refine X.begin (rg:=[⟨false,hdS wm s,none⟩]) (N:=[⟨(wm.P 0).b,(wm.P 0).o,4⟩]) (ss:=[.own 0 0]) Tryz.func10 rfl B10_ok rfl rfl (Sat.std1 false hlt hcell (fun h=>(by cases h))) ?_
 show X (mkE Tryz.prog Tryz.f10 Q w (InR [⟨(wm.P 0).b,(wm.P 0).o,4⟩] [⟨false,hdS wm s,none⟩]) (elsewhere [⟨(wm.P 0).b,(wm.P 0).o,4⟩] [⟨false,hdS wm s,none⟩] w) (fun _ _=>False) (fun _=>True) [⟨(wm.P 0).b,(wm.P 0).o,4⟩] B10) _ _
 have hhd:hdS wm s=[.raw (.map (some wm.m)),.slv pp pn pc,hdV (wm.P 2) s.all,.bool (.v s.torn)]:=by
  unfold hdS
  have:hdV (wm.P 1) s.l=.slv pp pn pc:=by
   unfold hdV
   rw [if_neg h0]
   simp only [Prod.mk.injEq] at hpv
   rw [hpv.1,hpv.2.1,hpv.2.2]
  rw [this]
 rw [hhd]
 refine X.go T10_ok 400 _ rfl Tryz.results10 ?_
 conv=>arg 2;cbv
 refine X.call rfl rfl rfl rfl Tryz.call26 (fun N w1 args hN hS ha=>?_)
 obtain rfl:args=[.slice pp pn pc]:=(Option.some.inj ha).symm
 have hc1:Chg (fun _ _=>False) w w1:=hS.chg.mono fun k o _ h=>absurd h (ro_none _ _)
 have hvr:Calls Tryz.prog 26 #[.slice pp pn pc] w1 (VersN Mo s.l w1):=by
  obtain ⟨rfl,rfl,rfl⟩:pp=_∧pn=_∧pc=_:=by simpa using hpv
  exact wcloneF_ok Mo (wm.P 1) s.l _ w1 (fun k o v hk=>cell_of_chg hc1 (fun h=>h) (h.mo k o v hk)) (h.l.chg hc1 fun _ _ _ h=>h) h0 (by have:=ok.l;omega) ok.vl
 refine hvr.mono fun e w2 hvn=>?_
 obtain ⟨⟨p,c,he,hm,q,vss,hp,hc,hqb,hok,hsp,hsep⟩,hch⟩:=hvn.s h0
 have hws:w.heap.size≤w1.heap.size:=hS.chg.size
 obtain ⟨ln,hln⟩:∃ z,z=s.l.length:=⟨_,rfl⟩
 rw [←hln] at he
 refine ⟨_,he,Goes.newMemD (SpD q s.l vss) (SpR w1.heap.size q s.l vss) hN hS hch (r:=.slv p ln c) rfl rfl (fun r g p hg hp ho j hj hd=>?_) (fun r g hg=>?_) (fun k o hd=>hsp.there hd) (SpR.loc hok) hsp (fun hold hnew=>?_)⟩
 ·match r,hg with
  | 0,hg=>cases hg;cases ho
 ·match r,hg with
  | 0,hg=>cases hg;rfl
 obtain ⟨im2,him2⟩:∃ im2,im2=imNew (elsewhere [⟨(wm.P 0).b,(wm.P 0).o,4⟩] [⟨false,[.raw (.map (some wm.m)),.slv pp pn pc,hdV (wm.P 2) s.all,.bool (.v s.torn)],none⟩] w) w1 w2:=⟨_,rfl⟩
 have hm2:∀ M:Mem,(∀ k o v,Mo k o=some v→M k o=some v)→(∀ k o v,w.heap.size≤k→im2 k o=some v→M k o=some v)→SlR M p c 13 (s.l.map VerP.toD):=fun M h1 h2=>hm M h1 fun k o v hk hc=>h2 k o v (Nat.le_trans hws hk) (by rw [him2];exact imNew_new (fun k o v h=>(hS.after0 hch).imm _ _ _ h) hk hc)
 have hsep2:∃ Mr:Mem,(∀ k o v,Mr k o=some v→¬inN q k o∧(Mo k o=some v∨(w.heap.size≤k∧im2 k o=some v)))∧∀ (j:Nat) (x:VerP),s.l[j]?=some x→∃ vs,vss[j]?=some vs∧RepL Mr x.toD vs:=by
  obtain ⟨Mr,k1,k2⟩:=hsep
  refine ⟨Mr,fun k o v hk=>?_,k2⟩
  obtain ⟨k3,k4,k5⟩:=k1 k o v hk
  refine ⟨k4,k5.imp id fun h5=>⟨Nat.le_trans hws h5,?_⟩⟩
  rw [him2]
  exact imNew_new (fun k o v h=>(hS.after0 hch).imm _ _ _ h) h5 k3
 obtain ⟨bs,hbs⟩:∃ b,b=w1.heap.size:=⟨_,rfl⟩
 show X (mkE Tryz.prog Tryz.f10 Q w (InR [⟨(wm.P 0).b,(wm.P 0).o,4⟩] [⟨false,[.raw (.map (some wm.m)),.slv pp pn pc,hdV (wm.P 2) s.all,.bool (.v s.torn)],none⟩]) (imNew (elsewhere [⟨(wm.P 0).b,(wm.P 0).o,4⟩] [⟨false,[.raw (.map (some wm.m)),.slv pp pn pc,hdV (wm.P 2) s.all,.bool (.v s.torn)],none⟩] w) w1 w2) (SpD q s.l vss) (SpR w1.heap.size q s.l vss) [⟨(wm.P 0).b,(wm.P 0).o,4⟩] B10) _ _
 rw [←him2,←hbs]
 rw [←hbs] at hws hqb
 clear him2 hold hnew hch he ha hS hN hm hvr hc1 hsp hvn hbs hsep
 refine X.go T10_ok 400 _ rfl Tryz.results10 ?_
 conv=>arg 2;cbv
 refine X.done T10_ok rfl (fun N w' v hN hS hv=>?_)
 simp only [resV,SV.den,Option.some.injEq] at hv
 rw [hQ]
 refine ⟨⟨p,c,by rw [←hv,hln],fun M h1 h2=>hm2 M h1 fun k o v hk hv=>h2 k o v hk (hS.imm _ _ _ hv),q,vss,hp,hc,by omega,hok,?_,?_⟩,hS.chg.mono fun k o _ h=>absurd h (ro_none _ _)⟩
 ·exact ⟨hS.res.room,hS.res.has,hS.res.var.mono hws⟩
 ·have hcw:Chg (fun _ _=>False) w w':=hS.chg.mono fun k o _ h=>absurd h (ro_none _ _)
  obtain ⟨Mr,k1,k2⟩:=hsep2
  refine ⟨Mr,fun k o v hk=>?_,k2⟩
  obtain ⟨k4,k5⟩:=k1 k o v hk
  refine ⟨?_,k4,k5.imp id And.left⟩
  rcases k5 with h5 | ⟨_,h5⟩
  ·exact cell_of_chg hcw (fun h=>h) (h.mo k o v h5)
  ·exact hS.imm _ _ _ h5
end Go.Proofs.YthpbefahaghbjaaGreat
