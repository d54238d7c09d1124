import Derived.Test.YthaffebapmkppaaGreatRn6
import Derived.Test.YthaffebapmkppaaGreatPd1
set_option maxHeartbeats 16000000
set_option maxRecDepth 100000
set_option cbv.maxSteps 100000000
namespace Go.Proofs.YthaffebapmkppaaGreat
open Go Go.Eng Go.Sort
def otherG (r:RndG) (m:MsgA):Prop:=m.key≠r.key∨¬(m.b1=r.b1∧m.b2=r.b2∧m.b3=r.b3)∨m.to≠r.b2∨r.ph=4∨r.ph=5
theorem other_bel {r:RndG} {m:MsgA} {mb:Bool} {o n:Array Int} (h:otherG r m):belB r m mb o n=false:=by
 unfold belB
 refine B_neg ?_
 rintro ⟨⟨h1,_,h2,h3,h4⟩,_⟩
 unfold otherG at h
 rcases h with h | h | h | h | h
 ·exact h h2
 ·exact h h3
 ·exact h h4
 ·omega
 ·omega
structure WrI (im0:Mem) (key:Int) (C:Nat) (p1:Option Addr) (n1 c1:Nat) (p2:Option Addr) (n2 c2:Nat) (b1 b2 b3:Int) (al:Bool) (im:Mem) (r:RndG) (q:RegP):Prop where
 him:∀ k o v,im0 k o=some v→im k o=some v
 same:∃ ph got a1 a2 a3 g x1 x2 x3 mx,r=⟨key,C,p1,n1,c1,p2,n2,c2,b1,b2,b3,al,ph,got,a1,a2,a3,g,x1,x2,x3,mx⟩
 got:r.got<2 ^ 64
 small:¬q.great
 rep:RepL im q.toD r.reg.vals
theorem roundWrongs_ok (key:Int) (C:Nat) (po pn:Option Addr) (no nn co cn:Nat) (o n:Array Int) (b1 b2 b3:Int) (kn al:Bool) (a:RegP) (va:List Value) (l:List MsgP) (p:Option Addr) (c:Nat) (x:MsgP) (vm:List Value) (w:World) (ho:InB po no o w) (hn:InB pn nn n w) (hbo:∀ x∈o.toList,0≤x∧x<256) (hbn:∀ x∈n.toList,0≤x∧x<256) (ha:RepL (wm w) a.toD va) (hl:SlR (wm w) p c 24 (l.map MsgP.toD)) (hm:RepL (wm w) x.toD vm) :
  Calls Tryz.prog 4 #[startV C po no co pn nn cn key b1 b2 b3 kn va al,.slice p l.length c,.agg vm.toArray] w fun e w'=>e=.returned (.bool true)∧Chg (fun _ _=>False) w w':=by
 obtain ⟨Q,hQ⟩:∃ Q:Ending→World→Prop,Q=fun e w'=>e=.returned (.bool true)∧Chg (fun _ _=>False) w w':=⟨_,rfl⟩
 rw [←hQ]
 obtain ⟨g,rfl⟩:=RegS.of ha
 obtain ⟨mr,rfl,hmr⟩:=MsgP.row hm
 clear hm
 obtain ⟨m,hmx⟩:∃ m,m=x.toA:=⟨_,rfl⟩
 have hmreg:RepL (wm w) m.reg.toD mr.vals:=by rw [hmx];exact hmr
 have hxg:x.reg=m.reg:=by rw [hmx];rfl
 rw [←hmx]
 clear hmr hmx
 obtain ⟨nl,hnl⟩:∃ n,n=l.length:=⟨_,rfl⟩
 have hmx:=maxLen_le
 have hll:nl≤maxLen:=by rw [hnl];have:=hl.len;simpa using this
 have hgr1:=fun (w1:World) (hi1:∀ k o v,elsewhere [] [] w k o=some v→w1.cell? ⟨k,o,none⟩=some v)=>rgreat_ok C po no co pn nn cn key b1 b2 b3 kn a g al l p c w1 (ha.later (im:=elsewhere [] [] w) rfl hi1) (hl.mono fun k o v h=>hi1 _ _ _ (his h))
 have hgr2:=fun (w1:World) (hi1:∀ k o v,elsewhere [] [] w k o=some v→w1.cell? ⟨k,o,none⟩=some v)=>great06_ok m.reg _ w1 (hmreg.later (im:=elsewhere [] [] w) rfl hi1)
 rw [←hnl] at hgr1 ⊢
 obtain ⟨gb,hgb⟩:∃ b,b=B (greatR no nn a l):=⟨_,rfl⟩
 obtain ⟨hb,hhb⟩:∃ b,b=B m.reg.great:=⟨_,rfl⟩
 rw [←hgb] at hgr1
 rw [←hhb] at hgr2
 obtain ⟨rk,ri,rs,rl,q1,q2,q3,q4,m1,m2,m3,m4,e1,e2,e3,e4⟩:=g
 obtain ⟨kd,fr,to,mk,mC,d1,d2,d3,ok,f1,f2,f3,mreg,y1,y2,y3,my⟩:=m
 obtain ⟨sk,si,ss',sl,s1,s2,s3,s4,t1,t2,t3,t4,u1,u2,u3,u4⟩:=mr
 refine X.begin (rg:=[]) (N:=[]) (ss:=[.agg (startS C po no co pn nn cn key b1 b2 b3 (.v kn) ⟨rk,ri,rs,rl,q1,q2,q3,q4,m1,m2,m3,m4,e1,e2,e3,e4⟩ (.v al)),.slv p nl c,.agg (MsgA.svsV ⟨kd,fr,to,mk,mC,d1,d2,d3,ok,f1,f2,f3,mreg,y1,y2,y3,my⟩ ⟨sk,si,ss',sl,s1,s2,s3,s4,t1,t2,t3,t4,u1,u2,u3,u4⟩)]) Tryz.func4 rfl B4_ok rfl rfl Sat.std0 ?_
 refine X.goX ([(14,.bool (.v gb)),(18,.bool (.v hb))]) ([]) T4_ok 400 _ rfl Tryz.results4 (fun pr pe fin hpr hpe hfin=>?_)
 conv=>cbv
 refine ⟨hpr _ (.of Tryz.call16 [.agg _,.slice p nl c] (.bool gb) (fun _=>rfl) (fun _=>rfl) fun _ w1 hi1=>hgr1 w1 hi1),hpr _ (.of Tryz.call8 [.agg _] (.bool hb) (fun _=>rfl) (fun _=>rfl) fun _ w1 hi1=>hgr2 w1 hi1),hfin _ _ ?_⟩
 clear hpr hpe hfin
 have fin_ok:∀ {N:Nums} {w':World} {v:Value} {rg:List Rg} {im:Mem} {s:SB},Sat (mkE Tryz.prog Tryz.f4 Q w (InR [] []) im (fun _ _=>False) (fun _=>True) [] B4).toEnv N rg w'→s.den=true→(resV [.bool s]).den N=some v→Q (.returned v) w':=fun hS hs hv=>by rw [hQ];exact ⟨fin_bool hv hs,hS.chg.none⟩
 refine X.cond rfl (fun hc=>?_) (fun hc=>?_)
 ·clear hc
  refine X.goX ([(20,.bool (.lit true))]) ([]) T4_ok 400 _ rfl Tryz.results4 (fun pr pe fin hpr hpe hfin=>?_)
  conv=>cbv
  refine ⟨hpr _ (.of Tryz.call10 [] (.bool true) (fun _=>rfl) (fun _=>rfl) fun _ w1 him=>awake17_ok w1),hfin _ _ ?_⟩
  exact X.done T4_ok rfl (fun N w' v hN hS hv=>fin_ok hS rfl hv)
 simp only [SB.T,SB.F,SI.den,hgb,hhb] at hc
 have hng:¬greatR no nn a l:=fun h=>by simp [B_pos h] at hc
 have hnm:¬mreg.great:=fun h=>by simp [B_pos h] at hc
 clear hc hgb hhb hgr1 hgr2
 simp only [greatR,not_or,Nat.not_lt,not_exists,not_and] at hng
 obtain ⟨hno,hnn,hna,_,hnx⟩:=hng
 refine X.go T4_ok 400 _ rfl Tryz.results4 ?_
 conv=>arg 2;cbv
 refine X.call rfl rfl rfl rfl Tryz.call17 (fun N w1 args hN hS ha'=>?_)
 obtain rfl:args=[startV C po no co pn nn cn key b1 b2 b3 kn (RegS.vals ⟨rk,ri,rs,rl,q1,q2,q3,q4,m1,m2,m3,m4,e1,e2,e3,e4⟩) al]:=(Option.some.inj ha').symm
 refine (rbeg_ok C po no co pn nn cn o n key b1 b2 b3 kn a _ al (wm w) w1 (fun k o v h=>hS.imm _ _ _ (his h)) ha hna (by omega) (by omega) (ho.stays hS.chg.none) (hn.stays hS.chg.none) hbo hbn).mono fun e w2 hR=>?_
 obtain ⟨⟨hgood,p1,n1,c1,p2,n2,c2,ph,⟨gk,gi,gs',gl,g1,g2',g3,g4,k1,k2,k3,k4,l1,l2,l3,l4⟩,q,bb,he,hqs,hmem⟩ | ⟨bb,he⟩,hch⟩:=hR
 rotate_left
 ·refine ⟨_,he,Goes.same hN hS hch (r:=.tup [.agg rndZS,.int .i64 (.lit 1),.bool (.v bb)]) rfl rfl ?_⟩
  clear hch he ha' hS hN
  refine X.goX ([(29,.bool (.lit true))]) ([]) T4_ok 400 _ rfl Tryz.results4 (fun pr pe fin hpr hpe hfin=>?_)
  conv=>cbv
  refine ⟨hpr _ (.of Tryz.call10 [] (.bool true) (fun _=>rfl) (fun _=>rfl) fun _ w1 him=>awake17_ok w1),hfin _ _ ?_⟩
  exact X.done T4_ok rfl (fun N w' v hN hS hv=>fin_ok hS rfl hv)
 obtain ⟨hmay,hk16,hbn0,hb64⟩:=hgood
 refine ⟨_,he,Goes.newMem hN hS hch (r:=.tup [.agg (RndG.svs ⟨key,C,p1,n1,c1,p2,n2,c2,b1,b2,b3,al,ph,0,0,0,0,⟨gk,gi,gs',gl,g1,g2',g3,g4,k1,k2,k3,k4,l1,l2,l3,l4⟩,0,0,0,0⟩),.int .i64 (.lit 0),.bool (.v bb)]) rfl rfl (fun hold hnew=>?_)⟩
 obtain ⟨i1,i2,i3⟩:=hmem (imNew (elsewhere [] [] w) w1 w2) (fun k o v h=>hold _ _ _ (his h)) (fun k o v hk h=>hnew _ _ _ hk h)
 obtain ⟨im,him⟩:∃ im,im=imNew (elsewhere [] [] w) w1 w2:=⟨_,rfl⟩
 have hold':∀ k o v,elsewhere [] [] w k o=some v→im k o=some v:=by rw [him];exact hold
 show X (mkE Tryz.prog Tryz.f4 Q w (InR [] []) (imNew (elsewhere [] [] w) w1 w2) (fun _ _=>False) (fun _=>True) [] B4) _ _
 rw [←him] at i1 i2 i3 ⊢
 clear him hold hnew hch he ha' hS hN hmem
 refine X.go T4_ok 400 _ rfl Tryz.results4 ?_
 conv=>arg 2;cbv
 have hs1:n1≤100:=by have:=i1.1;have:=ho.1;simp at *;omega
 have hs2:n2≤100:=by have:=i2.1;have:=hn.1;simp at *;omega
 refine X.loop (fun g:{g:Nat × Mem × RndG × RegP // g.1≤nl∧WrI im key C p1 n1 c1 p2 n2 c2 b1 b2 b3 al g.2.1 g.2.2.1 g.2.2.2}=>mkE Tryz.prog Tryz.f4 Q w (InR [] []) g.1.2.1 (fun _ _=>False) (fun _=>True) [] B4)
  (fun g=>⟨[(1,.val (.slv p nl c)),(3,.val (.own 0 0)),(5,.val (.own 1 0)),(7,.val (.own 2 0)),(10,.val (.int .i64 (.nat g.1.1)))],[⟨true,startS C po no co pn nn cn key b1 b2 b3 (.v kn) ⟨rk,ri,rs,rl,q1,q2,q3,q4,m1,m2,m3,m4,e1,e2,e3,e4⟩ (.v al),none⟩,⟨true,MsgA.svsV ⟨kd,fr,to,mk,mC,d1,d2,d3,ok,f1,f2,f3,mreg,y1,y2,y3,my⟩ ⟨sk,si,ss',sl,s1,s2,s3,s4,t1,t2,t3,t4,u1,u2,u3,u4⟩,none⟩,⟨true,RndG.svs g.1.2.2.1,none⟩]⟩) (fun g=>nl-g.1.1) (fun _=>⟨rfl,rfl,rfl,rfl⟩) (fun N ac w' hN hf hS=>⟨⟨(0,im,⟨key,C,p1,n1,c1,p2,n2,c2,b1,b2,b3,al,ph,0,0,0,0,⟨gk,gi,gs',gl,g1,g2',g3,g4,k1,k2,k3,k4,l1,l2,l3,l4⟩,0,0,0,0⟩,q),Nat.zero_le _,⟨fun k o v h=>h,⟨_,_,_,_,_,_,_,_,_,_,rfl⟩,by show (0:Nat)<2 ^ 64;decide,hqs,i3⟩⟩,?_⟩) (fun g q' hq=>?_)
 ·exact At.again hf hS (by repeat first | exact trivial | refine ⟨⟨_,rfl,.inl ⟨rfl,rfl⟩⟩,?_⟩ | refine ⟨⟨_,rfl,.inr ⟨_,rfl,rfl⟩⟩,?_⟩ | refine ⟨⟨_,rfl,.inr ⟨_,rfl,by simp (disch:=omega) [SV.den,SI.den,wrapU,wrapD]<;>omega⟩⟩,?_⟩) (by repeat first | exact trivial | refine ⟨fun h=>h,SubC.refl rfl,rfl,?_⟩)
 clear i3 hqs
 obtain ⟨⟨i,im',r,q⟩,hi,hI⟩:=g
 simp only at hi hI
 have hsm:=hI.same
 obtain ⟨ph,got,a1,a2,a3,⟨gk,gi,gs',gl,g1,g2',g3,g4,k1,k2,k3,k4,l1,l2,l3,l4⟩,x1,x2,x3,mx,rfl⟩:=hsm
 have i1':=i1.mono hI.him
 have i2':=i2.mono hI.him
 have hold2:∀ k o v,elsewhere [] [] w k o=some v→im' k o=some v:=fun k o v h=>hI.him _ _ _ (hold' _ _ _ h)
 show X (mkE Tryz.prog Tryz.f4 Q w (InR [] []) im' (fun _ _=>False) (fun _=>True) [] B4) _ ⟨[(1,.val (.slv p nl c)),(3,.val (.own 0 0)),(5,.val (.own 1 0)),(7,.val (.own 2 0)),(10,.val (.int .i64 (.nat i)))],[⟨true,startS C po no co pn nn cn key b1 b2 b3 (.v kn) ⟨rk,ri,rs,rl,q1,q2,q3,q4,m1,m2,m3,m4,e1,e2,e3,e4⟩ (.v al),none⟩,⟨true,MsgA.svsV ⟨kd,fr,to,mk,mC,d1,d2,d3,ok,f1,f2,f3,mreg,y1,y2,y3,my⟩ ⟨sk,si,ss',sl,s1,s2,s3,s4,t1,t2,t3,t4,u1,u2,u3,u4⟩,none⟩,⟨true,RndG.svs ⟨key,C,p1,n1,c1,p2,n2,c2,b1,b2,b3,al,ph,got,a1,a2,a3,⟨gk,gi,gs',gl,g1,g2',g3,g4,k1,k2,k3,k4,l1,l2,l3,l4⟩,x1,x2,x3,mx⟩,none⟩]⟩
 refine X.go T4_ok 400 _ rfl Tryz.results4 ?_
 conv=>arg 2;cbv
 refine X.cond rfl (fun hlt=>?_) (fun hge=>?_)
 ·simp only [SB.T,SI.den] at hlt
  have hlt:i<nl:=by omega
  obtain ⟨x1',hx1⟩:∃ x,l[i]?=some x:=⟨_,List.getElem?_eq_getElem (by omega)⟩
  obtain ⟨b',y',r1,hp1,hr1,hm1⟩:=hl.his hx1
  have hm1:∀ (j:Nat) (v:Value),r1[j]?=some v→im' b' (y'+i*24+j)=some v:=fun j v h=>hold2 _ _ _ (hm1 j v h)
  obtain ⟨rl',rfl,hreg⟩:=MsgP.row hr1
  have hx1g:=hnx i x1' hx1
  clear hr1
  obtain ⟨xa,hxa⟩:∃ y,y=x1'.toA:=⟨_,rfl⟩
  have hxr:x1'.reg=xa.reg:=by rw [hxa];rfl
  rw [hxr] at hreg hx1g
  rw [←hxa] at hm1
  clear hxa hxr hx1
  obtain ⟨vk',vi,vs',vl,v1,v2,v3,v4,w1',w2',w3,w4,z1,z2,z3,z4⟩:=rl'
  obtain ⟨kd',fr',to',mk',mC',d1',d2',d3',ok',f1',f2',f3',mreg',y1',y2',y3',my'⟩:=xa
  obtain ⟨z',hz'⟩:∃ z,z=y'+i*24:=⟨_,rfl⟩
  rw [←hz'] at hm1
  refine X.go T4_ok 400 _ rfl Tryz.results4 ?_
  conv=>arg 2;cbv
  refine X.see b' z' (MsgA.svsV ⟨kd',fr',to',mk',mC',d1',d2',d3',ok',f1',f2',f3',mreg',y1',y2',y3',my'⟩ ⟨vk',vi,vs',vl,v1,v2,v3,v4,w1',w2',w3,w4,z1,z2,z3,z4⟩) (see_of hm1 rfl) (Nat.zero_lt_succ _) (fun N1 hN1 hNl1=>?_)
  have hg1:(N1++[(⟨b',z',0⟩:Num)])[3]?=some ⟨b',z',0⟩:=num_last hNl1
  refine X.drawnL (fn:=Tryz.f4) T4_ok noCall (idxG 94 [⟨3,37,38,39,53,i,.slv p nl c,.own 3 0⟩]) 5 [6] 5 rfl (by kernel_rfl) rfl noCall_ok (idxG_ok _ (by kernel_rfl) (fun q hq=>?_)) 94 rfl ?_
  ·simp only [List.mem_cons,List.not_mem_nil,or_false] at hq
   rcases hq with rfl
   exact good_slv Tryz.underlying53 Tryz.sizeOf56 hp1 hlt fun N hN=>by
    have:=hN 3 _ hg1
    simp only [SV.den,this,hz',Nat.add_zero]
  generalize hfin:(fun s'=>X (mkE Tryz.prog Tryz.f4 Q w (InR [] []) im' (fun _ _=>False) (fun _=>True) (N1++[⟨b',z',0⟩]) B4) _ s')=fin
  conv=>cbv
  repeat (first | refine ⟨rfl,?_⟩ | refine ⟨⟨_,_,rfl,rfl⟩,?_⟩ | refine ⟨⟨rfl,_,_,rfl,rfl⟩,?_⟩)
  subst hfin
  refine X.noNames ?_
  show X (mkE Tryz.prog Tryz.f4 Q w (InR [] []) im' (fun _ _=>False) (fun _=>True) [] B4) _ _
  refine X.go T4_ok 400 _ rfl Tryz.results4 ?_
  conv=>arg 2;cbv
  refine X.call rfl rfl rfl rfl Tryz.call14 (fun N w1 args hN hS ha'=>?_)
  obtain rfl:args=[.agg (RndG.vals ⟨key,C,p1,n1,c1,p2,n2,c2,b1,b2,b3,al,ph,got,a1,a2,a3,⟨gk,gi,gs',gl,g1,g2',g3,g4,k1,k2,k3,k4,l1,l2,l3,l4⟩,x1,x2,x3,mx⟩).toArray,.agg (MsgA.vals ⟨kd',fr',to',mk',mC',d1',d2',d3',ok',f1',f2',f3',mreg',y1',y2',y3',my'⟩ (RegS.vals ⟨vk',vi,vs',vl,v1,v2,v3,v4,w1',w2',w3,w4,z1,z2,z3,z4⟩)).toArray]:=(Option.some.inj ha').symm
  refine (told_any ⟨key,C,p1,n1,c1,p2,n2,c2,b1,b2,b3,al,ph,got,a1,a2,a3,⟨gk,gi,gs',gl,g1,g2',g3,g4,k1,k2,k3,k4,l1,l2,l3,l4⟩,x1,x2,x3,mx⟩ ⟨kd',fr',to',mk',mC',d1',d2',d3',ok',f1',f2',f3',mreg',y1',y2',y3',my'⟩ ⟨vk',vi,vs',vl,v1,v2,v3,v4,w1',w2',w3,w4,z1,z2,z3,z4⟩ im' o n w1 hS.imm (hreg.mono fun k o v h=>hold2 _ _ _ (his h)) hx1g hs1 hs2 (by simpa using i1'.inB hS.imm) (by simpa using i2'.inB hS.imm) hbo hbn hmay hI.got).mono fun e w2 hR=>?_
  obtain ⟨⟨ph',got',a1',a2',a3',⟨hk',hi',hs',hl',h1',h2',h3',h4',j1,j2,j3,j4,o1,o2,o3,o4⟩,mx',he,hgot',_,hgg⟩,hch⟩:=hR
  refine ⟨_,he,Goes.newMem hN hS hch (r:=.agg (RndG.svs ⟨key,C,p1,n1,c1,p2,n2,c2,b1,b2,b3,al,ph',got',a1',a2',a3',⟨hk',hi',hs',hl',h1',h2',h3',h4',j1,j2,j3,j4,o1,o2,o3,o4⟩,x1,x2,x3,mx'⟩)) rfl rfl (fun hold hnew=>?_)⟩
  obtain ⟨qn,hI2⟩:∃ qn,WrI im key C p1 n1 c1 p2 n2 c2 b1 b2 b3 al (imNew im' w1 w2) ⟨key,C,p1,n1,c1,p2,n2,c2,b1,b2,b3,al,ph',got',a1',a2',a3',⟨hk',hi',hs',hl',h1',h2',h3',h4',j1,j2,j3,j4,o1,o2,o3,o4⟩,x1,x2,x3,mx'⟩ qn:=by
   rcases hgg with hgg | hgg
   ·exact ⟨q,fun k o v h=>hold _ _ _ (hI.him _ _ _ h),⟨_,_,_,_,_,_,_,_,_,_,rfl⟩,hgot',hI.small,by have h:=hI.rep.mono hold;rw [←hgg] at h;exact h⟩
   ·exact ⟨mreg',fun k o v h=>hold _ _ _ (hI.him _ _ _ h),⟨_,_,_,_,_,_,_,_,_,_,rfl⟩,hgot',hx1g,hgg _ hold (fun k o v hk h=>hnew _ _ _ hk h)⟩
  obtain ⟨im2,him2⟩:∃ im2,im2=imNew im' w1 w2:=⟨_,rfl⟩
  show X (mkE Tryz.prog Tryz.f4 Q w (InR [] []) (imNew im' w1 w2) (fun _ _=>False) (fun _=>True) [] B4) _ _
  rw [←him2] at hI2 ⊢
  clear him2 hold hnew hgg hch he ha' hS hN hgot'
  refine X.go T4_ok 400 _ rfl Tryz.results4 ?_
  conv=>arg 2;cbv
  refine X.cond rfl (fun hT=>?_) (fun hF=>?_)
  ·simp only [SB.T,SI.den] at hT
   obtain rfl:ph'=2:=hT
   have hwr:=fun w1=>writeG_ok ⟨key,C,p1,n1,c1,p2,n2,c2,b1,b2,b3,al,2,got',a1',a2',a3',⟨hk',hi',hs',hl',h1',h2',h3',h4',j1,j2,j3,j4,o1,o2,o3,o4⟩,x1,x2,x3,mx'⟩ w1 hk16 hb64 hbn0 rfl
   refine X.goX ([(49,.tup [.agg (RndG.svs (RndG.wr ⟨key,C,p1,n1,c1,p2,n2,c2,b1,b2,b3,al,2,got',a1',a2',a3',⟨hk',hi',hs',hl',h1',h2',h3',h4',j1,j2,j3,j4,o1,o2,o3,o4⟩,x1,x2,x3,mx'⟩)),.int .i64 (.lit 0)])]) ([]) T4_ok 400 _ rfl Tryz.results4 (fun pr pe fin hpr hpe hfin=>?_)
   conv=>cbv
   refine ⟨hpr _ (.of Tryz.call15 [.agg _,regZV,balZV] (.tuple #[.agg _,.int .i64 0]) (fun _=>rfl) (fun _=>rfl) fun _ w1 him=>hwr w1),hfin _ _ ?_⟩
   clear hpr hpe hfin
   refine X.back (fun N ac w' hN hf hS=>hq ⟨(i+1,im2,RndG.wr ⟨key,C,p1,n1,c1,p2,n2,c2,b1,b2,b3,al,2,got',a1',a2',a3',⟨hk',hi',hs',hl',h1',h2',h3',h4',j1,j2,j3,j4,o1,o2,o3,o4⟩,x1,x2,x3,mx'⟩,regZP),hlt,⟨hI2.him,⟨_,_,_,_,_,_,_,_,_,_,rfl⟩,by show (0:Nat)<2 ^ 64;decide,regZ_small,gZ_rep _⟩⟩ ac w' (by simp only;omega) ?_)
   show At (mkE Tryz.prog Tryz.f4 Q w (InR [] []) im2 (fun _ _=>False) (fun _=>True) [] B4) ⟨[(1,.val (.slv p nl c)),(3,.val (.own 0 0)),(5,.val (.own 1 0)),(7,.val (.own 2 0)),(10,.val (.int .i64 (.nat (i+1))))],[⟨true,startS C po no co pn nn cn key b1 b2 b3 (.v kn) ⟨rk,ri,rs,rl,q1,q2,q3,q4,m1,m2,m3,m4,e1,e2,e3,e4⟩ (.v al),none⟩,⟨true,MsgA.svsV ⟨kd,fr,to,mk,mC,d1,d2,d3,ok,f1,f2,f3,mreg,y1,y2,y3,my⟩ ⟨sk,si,ss',sl,s1,s2,s3,s4,t1,t2,t3,t4,u1,u2,u3,u4⟩,none⟩,⟨true,RndG.svs (RndG.wr ⟨key,C,p1,n1,c1,p2,n2,c2,b1,b2,b3,al,2,got',a1',a2',a3',⟨hk',hi',hs',hl',h1',h2',h3',h4',j1,j2,j3,j4,o1,o2,o3,o4⟩,x1,x2,x3,mx'⟩),none⟩]⟩ ac w'
   exact At.again hf hS (by repeat first | exact trivial | refine ⟨⟨_,rfl,.inl ⟨rfl,rfl⟩⟩,?_⟩ | refine ⟨⟨_,rfl,.inr ⟨_,rfl,rfl⟩⟩,?_⟩ | refine ⟨⟨_,rfl,.inr ⟨_,rfl,by simp (disch:=omega) [SV.den,SI.den,wrapU,wrapD]<;>omega⟩⟩,?_⟩) (by repeat first | exact trivial | refine ⟨fun h=>h,SubC.refl rfl,rfl,?_⟩)
  ·clear hF
   refine X.go T4_ok 400 _ rfl Tryz.results4 ?_
   conv=>arg 2;cbv
   refine X.back (fun N ac w' hN hf hS=>hq ⟨(i+1,im2,⟨key,C,p1,n1,c1,p2,n2,c2,b1,b2,b3,al,ph',got',a1',a2',a3',⟨hk',hi',hs',hl',h1',h2',h3',h4',j1,j2,j3,j4,o1,o2,o3,o4⟩,x1,x2,x3,mx'⟩,qn),hlt,hI2⟩ ac w' (by simp only;omega) ?_)
   show At (mkE Tryz.prog Tryz.f4 Q w (InR [] []) im2 (fun _ _=>False) (fun _=>True) [] B4) ⟨[(1,.val (.slv p nl c)),(3,.val (.own 0 0)),(5,.val (.own 1 0)),(7,.val (.own 2 0)),(10,.val (.int .i64 (.nat (i+1))))],[⟨true,startS C po no co pn nn cn key b1 b2 b3 (.v kn) ⟨rk,ri,rs,rl,q1,q2,q3,q4,m1,m2,m3,m4,e1,e2,e3,e4⟩ (.v al),none⟩,⟨true,MsgA.svsV ⟨kd,fr,to,mk,mC,d1,d2,d3,ok,f1,f2,f3,mreg,y1,y2,y3,my⟩ ⟨sk,si,ss',sl,s1,s2,s3,s4,t1,t2,t3,t4,u1,u2,u3,u4⟩,none⟩,⟨true,RndG.svs ⟨key,C,p1,n1,c1,p2,n2,c2,b1,b2,b3,al,ph',got',a1',a2',a3',⟨hk',hi',hs',hl',h1',h2',h3',h4',j1,j2,j3,j4,o1,o2,o3,o4⟩,x1,x2,x3,mx'⟩,none⟩]⟩ ac w'
   exact At.again hf hS (by repeat first | exact trivial | refine ⟨⟨_,rfl,.inl ⟨rfl,rfl⟩⟩,?_⟩ | refine ⟨⟨_,rfl,.inr ⟨_,rfl,rfl⟩⟩,?_⟩ | refine ⟨⟨_,rfl,.inr ⟨_,rfl,by simp (disch:=omega) [SV.den,SI.den,wrapU,wrapD]<;>omega⟩⟩,?_⟩) (by repeat first | exact trivial | refine ⟨fun h=>h,SubC.refl rfl,rfl,?_⟩)
 ·clear hge
  have htold:=fun (w1:World) (hi1:∀ k o v,im' k o=some v→w1.cell? ⟨k,o,none⟩=some v)=>told_any ⟨key,C,p1,n1,c1,p2,n2,c2,b1,b2,b3,al,ph,got,a1,a2,a3,⟨gk,gi,gs',gl,g1,g2',g3,g4,k1,k2,k3,k4,l1,l2,l3,l4⟩,x1,x2,x3,mx⟩ ⟨kd,fr,to,mk,mC,d1,d2,d3,ok,f1,f2,f3,mreg,y1,y2,y3,my⟩ ⟨sk,si,ss',sl,s1,s2,s3,s4,t1,t2,t3,t4,u1,u2,u3,u4⟩ im' o n w1 hi1 (hmreg.mono fun k o v h=>hold2 _ _ _ (his h)) hnm hs1 hs2 (by simpa using i1'.inB hi1) (by simpa using i2'.inB hi1) hbo hbn hmay hI.got
  have hsame:=fun (w1:World) (hi1:∀ k o v,im' k o=some v→w1.cell? ⟨k,o,none⟩=some v)=>same_gen ⟨key,C,p1,n1,c1,p2,n2,c2,b1,b2,b3,al,ph,got,a1,a2,a3,⟨gk,gi,gs',gl,g1,g2',g3,g4,k1,k2,k3,k4,l1,l2,l3,l4⟩,x1,x2,x3,mx⟩ ⟨key,C,p1,n1,c1,p2,n2,c2,b1,b2,b3,al,ph,got,a1,a2,a3,⟨gk,gi,gs',gl,g1,g2',g3,g4,k1,k2,k3,k4,l1,l2,l3,l4⟩,x1,x2,x3,mx⟩ q q o n w1 rfl (by simpa using i1'.inB hi1) (by simpa using i2'.inB hi1) (by simpa using i1'.inB hi1) (by simpa using i2'.inB hi1) (hI.rep.mono hi1) (hI.rep.mono hi1)
  refine X.goX ([(87,.agg (RndG.svs ⟨key,C,p1,n1,c1,p2,n2,c2,b1,b2,b3,al,ph,got,a1,a2,a3,⟨gk,gi,gs',gl,g1,g2',g3,g4,k1,k2,k3,k4,l1,l2,l3,l4⟩,x1,x2,x3,mx⟩)),(89,.bool (.lit true)),(92,.bool (.lit true))]) ([]) T4_ok 400 _ rfl Tryz.results4 (fun pr pe fin hpr hpe hfin=>?_)
  conv=>cbv
  refine ⟨hpr _ (.of Tryz.call14 [.agg _,.agg _] (.agg _) (fun _=>rfl) (fun _=>rfl) fun hT w1 hi1=>?_),hpr _ (.of Tryz.call18 [.agg _,.agg _] (.bool true) (fun _=>rfl) (fun _=>rfl) fun _ w1 hi1=>?_),hpr _ (.of Tryz.call10 [] (.bool true) (fun _=>rfl) (fun _=>rfl) fun _ w1 him=>awake17_ok w1),hfin _ _ ?_⟩
  ·have hoth:otherG ⟨key,C,p1,n1,c1,p2,n2,c2,b1,b2,b3,al,ph,got,a1,a2,a3,⟨gk,gi,gs',gl,g1,g2',g3,g4,k1,k2,k3,k4,l1,l2,l3,l4⟩,x1,x2,x3,mx⟩ ⟨kd,fr,to,mk,mC,d1,d2,d3,ok,f1,f2,f3,mreg,y1,y2,y3,my⟩:=by
    simp only [GK.T,SB.T,SB.F,SB.den,SI.den] at hT
    unfold otherG
    simp only
    grind
   refine (htold w1 hi1).mono fun e w' ⟨⟨_,_,_,_,_,_,_,he,_,hs,_⟩,hch⟩=>⟨?_,hch⟩
   rw [he,hs (other_bel hoth)]
   rfl
  ·refine (hsame w1 hi1).mono fun e w' ⟨he,hch⟩=>⟨?_,hch⟩
   rw [he,B_pos]
   exact ⟨rfl,⟨rfl,rfl,rfl⟩,rfl,rfl,rfl,⟨rfl,rfl,rfl⟩,⟨rfl,rfl,rfl⟩,rfl,rfl,B_pos rfl⟩
  refine X.done T4_ok rfl (fun N w' v hN hS hv=>fin_ok hS ?_ hv)
  simp [SB.den,SI.den]
end Go.Proofs.YthaffebapmkppaaGreat
namespace Go.Proofs.YthaffebapmkppaaGreat
open Go Go.Eng
end Go.Proofs.YthaffebapmkppaaGreat
namespace Go.Proofs.YthaffebapmkppaaGreat
open Go Go.Eng Go.ChangeShapes Go.WideShapes Go.ChangeAt Go.RowKit
def startK:List CK:=[.int .u64,.slice 5,.slice 5,.int .u8,.int .u64,.int .u8,.int .u32,.bool,.int .u8,.int .u64,.int .i64,.slice 2,.slice 94,.slice 148,.int .u64,.slice 151,.bool]
theorem k_start:kindsOf Tryz.prog 8 63=some startK:=by kernel_rfl
theorem arg_start {W:World} {v:Value} (h:ArgOk Tryz.prog W 63 v):∃ (C:Nat) (po pn:Option Addr) (no nn co cn:Nat) (o n:Array Int) (key b1 b2 b3:Int) (kn al:Bool) (a:RegP) (va:List Value),
  v=.agg (.int .u64 C::.slice po no co::.slice pn nn cn::.int .u8 key::.int .u64 b1::.int .u8 b2::.int .u32 b3::.bool kn::(va++[.bool al])).toArray∧InB po no o W∧InB pn nn n W∧(∀ x∈o.toList,0≤x∧x<256)∧(∀ x∈n.toList,0≤x∧x<256)∧RepL (wm W) a.toD va:=by
 obtain ⟨cs,rfl,hc⟩:=h.struct Tryz.underlying63 k_start
 obtain ⟨ds,f,hr⟩:=h.rep k_start (m:=3) (by kernel_rfl)
 have hr:RepL (wm W) ds cs:=by simpa [Value.cells] using hr
 unfold startK at hc f
 obtain ⟨v0,r0,rfl,h0,hc⟩:=CellsOk.cons hc
 obtain ⟨v1,r1,rfl,h1,hc⟩:=CellsOk.cons hc
 obtain ⟨v2,r2,rfl,h2,hc⟩:=CellsOk.cons hc
 obtain ⟨z,rfl,hz⟩:=h0
 obtain ⟨C,rfl,_⟩:=nat_wf hz
 obtain ⟨po,no,co,o,rfl,ho,_,hbo⟩:=bytes_of h1
 obtain ⟨pn,nn,cn,n,rfl,hn,_,hbn⟩:=bytes_of h2
 clear hc hz h
 obtain ⟨_,_,rfl,_,f⟩:=FitL.cons f
 obtain ⟨_,_,rfl,_,f⟩:=FitL.cons f
 obtain ⟨_,_,rfl,_,f⟩:=FitL.cons f
 obtain ⟨_,_,e0,_,hr⟩:=RepL.cons hr
 cases e0
 obtain ⟨_,_,e1,_,hr⟩:=RepL.cons hr
 cases e1
 obtain ⟨_,_,e2,_,hr⟩:=RepL.cons hr
 cases e2
 obtain ⟨_,_,rfl,f4,f⟩:=FitL.cons f
 obtain ⟨_,_,rfl,f5,f⟩:=FitL.cons f
 obtain ⟨_,_,rfl,f6,f⟩:=FitL.cons f
 obtain ⟨_,_,rfl,f7,f⟩:=FitL.cons f
 obtain ⟨_,_,rfl,f8,f⟩:=FitL.cons f
 obtain ⟨_,_,rfl,f9,f⟩:=FitL.cons f
 obtain ⟨_,_,rfl,f10,f⟩:=FitL.cons f
 obtain ⟨_,_,rfl,f11,f⟩:=FitL.cons f
 obtain ⟨_,_,rfl,f12,f⟩:=FitL.cons f
 obtain ⟨_,_,rfl,f13,f⟩:=FitL.cons f
 obtain ⟨_,_,rfl,f14,f⟩:=FitL.cons f
 obtain ⟨_,_,rfl,f15,f⟩:=FitL.cons f
 obtain ⟨_,_,rfl,f16,f⟩:=FitL.cons f
 obtain ⟨_,_,rfl,f17,f⟩:=FitL.cons f
 cases FitL.nil f
 obtain ⟨z4,rfl,_⟩:=f4.int'
 obtain ⟨z5,rfl,_⟩:=f5.int'
 obtain ⟨z6,rfl,_⟩:=f6.int'
 obtain ⟨z7,rfl,_⟩:=f7.int'
 obtain ⟨z8,rfl⟩:=f8.bool'
 obtain ⟨z9,rfl,_⟩:=f9.int'
 obtain ⟨z10,rfl,_⟩:=f10.int'
 obtain ⟨z11,rfl,_⟩:=f11.int'
 obtain ⟨l1,rfl⟩:=fit_i64 f12
 obtain ⟨l2,rfl⟩:=fit_done f13
 obtain ⟨l3,rfl⟩:=fit_cell f14
 obtain ⟨z15,rfl,_⟩:=f15.int'
 obtain ⟨l4,rfl⟩:=fit_mark f16
 obtain ⟨z17,rfl⟩:=f17.bool'
 obtain ⟨_,_,rfl,h4,hr⟩:=RepL.cons hr
 obtain ⟨_,_,rfl,h5,hr⟩:=RepL.cons hr
 obtain ⟨_,_,rfl,h6,hr⟩:=RepL.cons hr
 obtain ⟨_,_,rfl,h7,hr⟩:=RepL.cons hr
 obtain ⟨_,_,rfl,h8,hr⟩:=RepL.cons hr
 have hr:RepL (wm W) (RegP.toD ⟨z9,z10,z11,l1,l2,l3,z15,l4⟩++[.bool z17]) _:=hr
 obtain ⟨va,_,rfl,h9,hr⟩:=hr.split
 obtain ⟨_,_,rfl,h10,hr⟩:=RepL.cons hr
 have hnil:=RepL.nil hr;subst hnil
 rw [RepC.int' h4,RepC.int' h5,RepC.int' h6,RepC.int' h7,RepC.bool' h8,RepC.bool' h10]
 exact ⟨C,po,pn,no,nn,co,cn,o,n,z4,z5,z6,z7,z8,z17,_,va,rfl,ho,hn,hbo,hbn,h9⟩
theorem sz_msg {l:List MsgP}:∀ d∈l.map MsgP.toD,d.length=24:=fun d hd=>by obtain ⟨x,_,rfl⟩:=List.mem_map.1 hd;rfl
theorem arg_msgs {W:World} {v:Value} (h:ArgOk Tryz.prog W 53 v):∃ (l:List MsgP) (p:Option Addr) (c:Nat),v=.slice p l.length c∧SlR (wm W) p c 24 (l.map MsgP.toD):=by
 obtain ⟨⟨r,b0,h1⟩,_⟩:=id h
 obtain ⟨po,n,cp,rfl⟩:=okWide_slice Tryz.underlying53 h1
 obtain ⟨ds,k1,k2⟩:=h.rep (ks:=[.slice 56]) (by kernel_rfl) (m:=4) (by kernel_rfl)
 obtain ⟨d,_,rfl,k3,k4⟩:=FitL.cons k1
 cases FitL.nil k4
 obtain ⟨rows,rfl,k5⟩:=k3.slice' k_msg
 obtain ⟨l,rfl,_⟩:=map_of (f:=MsgP.toD) (p:=fun _=>True) (rows:=rows) fun r hr=>by
  obtain ⟨x,rfl⟩:=fit_msg (k5 r hr)
  exact ⟨x,rfl,trivial⟩
 obtain ⟨v',_,k6,k7,k8⟩:=RepL.cons k2
 obtain ⟨p,c,rfl,hs⟩:=k7.list sz_msg
 simp only [Value.cells,List.cons.injEq,Value.slice.injEq] at k6
 obtain ⟨⟨rfl,rfl,rfl⟩,_⟩:=k6
 rw [List.length_map]
 exact ⟨l,po,cp,rfl,hs⟩
theorem roundWrongs_calls (W:World) (args:Array Value) (hn:args.size=3) (ha:∀ (j:Nat) t v,Tryz.f4.params[j]?=some t→args[j]?=some v→ArgOk Tryz.prog W t v) :
  Calls Tryz.prog 4 args W fun e w'=>e=.returned (.bool true)∧Chg (fun _ _=>False) W w':=by
 obtain ⟨a,b,c,rfl⟩:∃ a b c,args=#[a,b,c]:=⟨args[0],args[1],args[2],by apply Array.ext (by simp [hn]);intro i h1 h2;match i,h1 with | 0,_ | 1,_ | 2,_=>rfl⟩
 obtain ⟨C,po,pn,no,nn,co,cn,o,n,key,b1,b2,b3,kn,al,g,va,rfl,ho,hIn,hbo,hbn,hg⟩:=arg_start (ha 0 63 a rfl rfl)
 obtain ⟨l,p,cl,rfl,hl⟩:=arg_msgs (ha 1 53 b rfl rfl)
 obtain ⟨x,vm,rfl,hm⟩:=arg_msg (ha 2 56 c rfl rfl)
 exact roundWrongs_ok key C po pn no nn co cn o n b1 b2 b3 kn al g va l p cl x vm W ho hIn hbo hbn hg hl hm
end Go.Proofs.YthaffebapmkppaaGreat
