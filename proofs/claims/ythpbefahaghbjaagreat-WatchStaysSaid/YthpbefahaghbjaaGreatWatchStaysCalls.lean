import Derived.Test.YthpbefahaghbjaaGreatWaI
import Derived.Test.YthpbefahaghbjaaGreatRn5
set_option maxHeartbeats 16000000
set_option maxRecDepth 100000
set_option cbv.maxSteps 100000000
namespace Go.Proofs.YthpbefahaghbjaaGreat
open Go Go.Eng Go.Sort
theorem stays_far (l:List TelP) (po:Option Addr) (cp:Nat) (w:World) (hs:SlR (Eng.wm w) po cp 21 (l.map TelP.toD)) (hg:great24 l) :
  Calls Tryz.prog 3 #[.slice po l.length cp] w fun e w'=>e=.returned (.bool true)∧Chg (fun _ _=>False) w w':=by
 obtain ⟨n,hn⟩:∃ n,n=l.length:=⟨_,rfl⟩
 rw [←hn]
 refine X.begin (rg:=[]) (N:=[]) (ss:=[.slv po n cp]) Tryz.func3 rfl B3_ok rfl rfl Sat.std0 ?_
 refine X.go T3_ok 400 _ rfl Tryz.results3 ?_
 conv=>arg 2;cbv
 refine X.call rfl rfl rfl rfl Tryz.call6 (fun N w1 args hN hS ha=>?_)
 obtain rfl:[Value.slice po n cp]=args:=Option.some.inj ha
 have hgr:=great24_ok l po cp w1 (hs.mono fun k o v hk=>cell_of_chg hS.chg.none (fun h=>h) hk)
 rw [←hn] at hgr
 refine Calls.mono hgr fun e w2 ⟨he,hc⟩=>⟨_,he,?_⟩
 refine Goes.same (r:=.bool (.lit true)) hN hS hc (by rw [B_pos hg];rfl) rfl ?_
 clear ha he hc hS hN hgr
 refine X.go T3_ok 400 _ rfl Tryz.results3 ?_
 conv=>arg 2;cbv
 refine X.call rfl rfl rfl rfl Tryz.call7 (fun N w1 args hN hS ha=>?_)
 obtain rfl:([]:List Value)=args:=Option.some.inj ha
 refine (awake24_ok w1).mono fun e w2 ⟨he,hc⟩=>⟨_,he,Goes.same (r:=.bool (.lit true)) hN hS hc rfl rfl ?_⟩
 refine X.go T3_ok 400 _ rfl Tryz.results3 ?_
 conv=>arg 2;cbv
 refine X.done T3_ok rfl (fun N w' v hN hS hv=>?_)
 exact ⟨fin_bool hv rfl,hS.chg.none⟩
theorem SlR.take {M:Mem} {p:Option Addr} {c K:Nat} {l:List (List Dt)} (h:SlR M p c K l) (n:Nat):SlR M p c K (l.take n):=by
 obtain ⟨⟨h1,h2⟩,h3⟩:=h
 have hl:(l.take n).length≤l.length:=by simp;omega
 refine ⟨⟨by omega,by omega⟩,?_⟩
 rcases h3 with rfl | ⟨b,y,hp,h4⟩
 ·exact .inl (by simp)
 ·refine .inr ⟨b,y,hp,fun i d hi=>h4 i d ?_⟩
  rw [List.getElem?_take] at hi
  split at hi
  ·exact hi
  ·cases hi
theorem X.watchMore {fn:Func} {Q:Ending→World→Prop} {W:World} {O:Nat→Nat→Prop} {im:Mem} {B:SchT} {N0:Nums} {k:List It} {st:St} {wd:WM} {s:WP} {Mo Mo':Mem} (h1:∀ k o v,Mo k o=some v→Mo' k o=some v) (h2:∀ k o,wd.D s.seen.length k o→Mo' k o=none) (h:X (mkE Tryz.prog fn Q W O im (wd.D s.seen.length) (WatchR wd s Mo') N0 B) k st):X (mkE Tryz.prog fn Q W O im (wd.D s.seen.length) (WatchR wd s Mo) N0 B) k st :=
 X.conv fun N a w hN hf hS=>⟨mkE Tryz.prog fn Q W O im (wd.D s.seen.length) (WatchR wd s Mo') N0 B,st,rfl,rfl,rfl,rfl,⟨N,hN,hf,⟨hS.len,hS.lt,hS.cell,hS.ext,hS.room,hS.disj,hS.obj,hS.odisj,hS.imm,hS.imd,hS.dd,hS.dlt,WatchR.loc,hS.res.mono h1 h2,hS.chg,hS.foot⟩⟩,h⟩
theorem X.fewer {fn:Func} {Q:Ending→World→Prop} {W:World} {O D D':Nat→Nat→Prop} {R R':World→Prop} {im:Mem} {B:SchT} {N0:Nums} {k:List It} {st:St} (hD:∀ k o,D' k o→D k o) (hR:∀ w,R w→R' w) (hl:Eng.Loc D' R') (h:X (mkE Tryz.prog fn Q W O im D' R' N0 B) k st):X (mkE Tryz.prog fn Q W O im D R N0 B) k st :=
 X.conv fun N a w hN hf hS=>⟨mkE Tryz.prog fn Q W O im D' R' N0 B,st,rfl,rfl,rfl,rfl,⟨N,hN,hf,⟨hS.len,hS.lt,hS.cell,hS.ext,hS.room,hS.disj,fun r g p ob e1 e2 e3=>⟨(hS.obj r g p ob e1 e2 e3).1,(hS.obj r g p ob e1 e2 e3).2.1,fun o hd=>(hS.obj r g p ob e1 e2 e3).2.2 o (hD _ _ hd)⟩,hS.odisj,hS.imm,hS.imd,fun r g p e1 e2 e3 j hj hd=>hS.dd r g p e1 e2 e3 j hj (hD _ _ hd),fun k o hd=>hS.dlt k o (hD _ _ hd),hl,hR _ hS.res,hS.chg,hS.foot⟩⟩,h⟩
theorem X.fixZ {fn:Func} {Q:Ending→World→Prop} {W:World} {O D:Nat→Nat→Prop} {R:World→Prop} {im:Mem} {B:SchT} {N0:Nums} {k:List It} {st:St} {b o:Nat} (hR:∀ w,R w→∃ z,w.cell? ⟨b,o,none⟩=some (.int .i64 z)) (hD:D b o) (h:∀ z,X (mkE Tryz.prog fn Q W O im D (fun w=>R w∧w.cell? ⟨b,o,none⟩=some (.int .i64 z)) N0 B) k st):X (mkE Tryz.prog fn Q W O im D R N0 B) k st :=
 X.conv fun N a w hN hf hS=>by
  obtain ⟨z,hz⟩:=hR w hS.res
  exact ⟨mkE Tryz.prog fn Q W O im D (fun w=>R w∧w.cell? ⟨b,o,none⟩=some (.int .i64 z)) N0 B,st,rfl,rfl,rfl,rfl,⟨N,hN,hf,⟨hS.len,hS.lt,hS.cell,hS.ext,hS.room,hS.disj,hS.obj,hS.odisj,hS.imm,hS.imd,hS.dd,hS.dlt,fun u u' hs hle hu=>⟨hS.loc u u' hs hle hu.1,by rw [(hs b o hD).1.1];exact hu.2⟩,⟨hS.res,hz⟩,hS.chg,hS.foot⟩⟩,h z⟩
structure SpI (l:List VerP) (vss vss':List (List Value)):Prop where
 len:vss'.length=l.length
 row:∀ v∈vss',v.length=13∧v.all one?=true
 same:∀ (j:Nat) (x:VerP),l[j]?=some x→∃ t t0:VerC,vss[j]?=some t0.vals∧vss'[j]?=some t.vals∧t.vals[7]?=t0.vals[7]?
theorem vk_head {E:Env} {N0:Nums} {rg:List Rg} {f:Fr} {g:GK} {t e q:TypeId} {x hi:Operand} {kd:IntKind} {s:SI} {p:Option Addr} {n c m:Nat} (hx:evK f g x=some (.slv p n c)) (hhi:evK f g hi=some (.int kd s)) (hz:s.den=(m:Int)) (hm:m≤c) (hu:E.P.underlying t=some (.slice e)) (hq:∀ w,(sizeOf e).run E.P w=.ok q w):ValOk E N0 rg f g (.slice t x none (some hi) none) (.slv p m c):=by
 intro ht N ρ op w hN0 hop hρ hV
 have e1:=hρ _ _ hx
 have e2:=hρ _ _ hhi
 simp only [SV.den,Option.some.injEq] at e1 e2
 refine ⟨.slice p m c,rfl,fun w' _=>?_⟩
 have hb:=run_sliceBounds (P:=E.P) (w:=w') (ρ':=ρ) (b:=true) (len:=n) (cap:=c) (lo:=none) (hi:=some hi) (mx:=none) (l:=none) (h:=some m) (m:=none) (.inl ⟨rfl,rfl⟩) (.inr ⟨kd,m,by simp [←e2,hz],rfl⟩) (.inl ⟨rfl,rfl⟩)
  (by simp) (by simpa using hm) (by simp) (by simp)
 simp only [Option.map_none,Option.map_some,Option.getD_none,Option.getD_some] at hb
 cases p<;>simp [execOp,hop,←e1,Instr.sliceAt,run_underlying hu,Result.andThen,Instr.slice,hb,hq,Addr.add]
structure StayG (l:List TelP) (base pb py:Nat) (im0:Mem) where
 (i:Nat) (wd:WM) (s:WP) (Mo:Mem) (pw:Option Addr) (nw cw:Nat)
 hi:i≤l.length
 ok:s.Ok i
 far:∀ k o,wd.D s.seen.length k o→base≤k
 md:∀ k o,wd.D s.seen.length k o→Mo k o=none
 im:∀ k o v,im0 k o=some v→Mo k o=some v
 p0:pb=(wd.P 0).b∧py=(wd.P 0).o
 was:nw=s.l.length∧SlR Mo pw cw 13 (s.l.map VerP.toD)
theorem stays_in (l:List TelP) (po:Option Addr) (cp:Nat) (w:World) (hs:SlR (Eng.wm w) po cp 21 (l.map TelP.toD)) (hok:∀ x∈l,x.Ok) (hl60:l.length≤60) :
  Calls Tryz.prog 3 #[.slice po l.length cp] w fun e w'=>e=.returned (.bool true)∧Chg (fun _ _=>False) w w':=by
 obtain ⟨Q,hQ⟩:∃ Q:Ending→World→Prop,Q=fun e w'=>e=.returned (.bool true)∧Chg (fun _ _=>False) w w':=⟨_,rfl⟩
 rw [←hQ]
 obtain ⟨n,hn⟩:∃ n,n=l.length:=⟨_,rfl⟩
 rw [←hn]
 refine X.begin (rg:=[]) (N:=[]) (ss:=[.slv po n cp]) Tryz.func3 rfl B3_ok rfl rfl Sat.std0 ?_
 obtain ⟨im,hime⟩:∃ im,im=elsewhere [] [] w:=⟨_,rfl⟩
 have him:∀ k o v,Eng.wm w k o=some v→im k o=some v:=fun k o v h=>by rw [hime];exact his h
 have himn:∀ k o,w.heap.size≤k→im k o=none:=fun k o h=>by
  rw [hime];unfold elsewhere
  rw [if_neg inR_nil]
  cases hc:w.cell? ⟨k,o,none⟩ with
  | none=>rfl
  | some v=>have:=World.block_lt_of_cell? _ _ hc;simp only at this;omega
 show X (mkE Tryz.prog Tryz.f3 Q w (InR [] []) (elsewhere [] [] w) (fun _ _=>False) (fun _=>True) [] B3) _ _
 rw [←hime]
 refine X.go T3_ok 400 _ rfl Tryz.results3 ?_
 conv=>arg 2;cbv
 refine X.call rfl rfl rfl rfl Tryz.call6 (fun N w1 args hN hS ha=>?_)
 obtain rfl:[Value.slice po n cp]=args:=Option.some.inj ha
 have hgr:=great24_ok l po cp w1 (hs.mono fun k o v hk=>cell_of_chg hS.chg.none (fun h=>h) hk)
 rw [←hn] at hgr
 refine Calls.mono hgr fun e w2 ⟨he,hc⟩=>⟨_,he,?_⟩
 refine Goes.same (r:=.bool (.v (B (great24 l)))) hN hS hc rfl rfl ?_
 clear ha he hc hS hN hgr
 obtain ⟨gb,hgb⟩:∃ b,b=B (great24 l):=⟨_,rfl⟩
 rw [←hgb]
 refine X.go T3_ok 400 _ rfl Tryz.results3 ?_
 conv=>arg 2;cbv
 refine X.cond rfl (fun _=>?_) (fun _=>?_)
 ·refine X.go T3_ok 400 _ rfl Tryz.results3 ?_
  conv=>arg 2;cbv
  refine X.call rfl rfl rfl rfl Tryz.call7 (fun N w1 args hN hS ha=>?_)
  obtain rfl:([]:List Value)=args:=Option.some.inj ha
  refine (awake24_ok w1).mono fun e w2 ⟨he,hc⟩=>⟨_,he,Goes.same (r:=.bool (.lit true)) hN hS hc rfl rfl ?_⟩
  refine X.go T3_ok 400 _ rfl Tryz.results3 ?_
  conv=>arg 2;cbv
  refine X.done T3_ok rfl (fun N w' v hN hS hv=>?_)
  rw [hQ]
  exact ⟨fin_bool hv rfl,hS.chg.none⟩
 refine X.go T3_ok 400 _ rfl Tryz.results3 ?_
 conv=>arg 2;cbv
 refine X.call rfl rfl rfl rfl Tryz.call8 (fun N w1 args hN hS ha=>?_)
 obtain rfl:([]:List Value)=args:=Option.some.inj ha
 refine (wnew_ok im w1 hS.imm).mono fun e w2 ⟨wd,he,hat,hnew,hc⟩=>⟨_,he,?_⟩
 have hws:w.heap.size≤w1.heap.size:=hS.chg.size
 obtain ⟨pb,hpb⟩:∃ z,z=(wd.P 0).b:=⟨_,rfl⟩
 obtain ⟨py,hpy⟩:∃ z,z=(wd.P 0).o:=⟨_,rfl⟩
 refine Goes.turn (r:=.ext pb py 0) (wd.D 0) (WatchR wd WP.zero im) hN hS (hc.mono fun _ _ _ h=>h.elim) (fun _ _ h=>h.elim) (fun _ _ h=>h.elim) (fun g hg=>by simp at hg) (fun k o hk=>⟨.inr (hnew k o hk),hat.there hk⟩) (WatchR.loc (wm:=wd) (s:=WP.zero) (Mo:=im)) hat.r (by rw [hpb,hpy];rfl) rfl ?_
 have hO:∀ k o,wd.D 0 k o→w.heap.size≤k:=fun k o h=>Nat.le_trans hws (hnew k o h)
 have hmd0:∀ k o,wd.D 0 k o→im k o=none:=fun k o h=>himn k o (hO k o h)
 clear ha he hc hS hN hat hnew hws himn
 show X (mkE Tryz.prog Tryz.f3 Q w (InR [] []) im (wd.D 0) (WatchR wd WP.zero im) [] B3) _ _
 refine X.go T3_ok 400 _ rfl Tryz.results3 ?_
 conv=>arg 2;cbv
 refine X.loop (E:=mkE Tryz.prog Tryz.f3 Q w (InR [] []) im (wd.D 0) (WatchR wd WP.zero im) [] B3) (fun g:StayG l w.heap.size pb py im=>mkE Tryz.prog Tryz.f3 Q w (InR [] []) g.Mo (g.wd.D g.s.seen.length) (WatchR g.wd g.s g.Mo) [] B3)
  (fun g=>⟨[(0,.val (.slv po n cp)),(2,.val (.bool (.lit false))),(3,.val (.ext pb py 0)),(4,.val (.slv g.pw g.nw g.cw)),(5,.val (.int .i64 (.nat g.i)))],[⟨true,[],none⟩]⟩) (fun g=>n-g.i) (fun g=>⟨rfl,rfl,rfl,rfl⟩) (fun N a w' hN hf hS=>?_) (fun g q hq=>?_)
 ·obtain ⟨p0,hp0⟩:=num_of hS (r:=0) rfl
  refine ⟨⟨0,wd,WP.zero,im,some ⟨p0.b,p0.o+0,none⟩,0,0,Nat.zero_le _,zero_ok,hO,hmd0,fun _ _ _ h=>h,⟨hpb,hpy⟩,⟨rfl,⟨⟨Nat.le_refl _,Nat.zero_le _⟩,.inl rfl⟩⟩⟩,?_⟩
  exact At.again hf hS (by repeat first | exact trivial | refine ⟨⟨_,rfl,.inl ⟨rfl,rfl⟩⟩,?_⟩ | refine ⟨⟨_,rfl,.inr ⟨_,rfl,rfl⟩⟩,?_⟩ | refine ⟨⟨_,rfl,.inr ⟨.slice (some ⟨p0.b,p0.o+0,none⟩) 0 0,by simp [SV.den,hp0,Num.cap],rfl⟩⟩,?_⟩) (by repeat first | exact trivial | refine ⟨fun h=>h,SubC.refl rfl,rfl,?_⟩)
 clear hO hmd0 hpb hpy
 clear wd
 obtain ⟨i,wd,s,Mo,pw,nw,cw,hi,ok,hO,hmd,hold,hP,hnw,hwas⟩:=g
 show X (mkE Tryz.prog Tryz.f3 Q w (InR [] []) Mo (wd.D s.seen.length) (WatchR wd s Mo) [] B3) _ _
 refine X.go T3_ok 400 _ rfl Tryz.results3 ?_
 conv=>arg 2;cbv
 refine X.cond rfl (fun hlt=>?_) (fun hge=>?_)
 ·simp only [SB.T,SI.den] at hlt
  have hlt:i<n:=by omega
  refine X.go T3_ok 400 _ rfl Tryz.results3 ?_
  conv=>arg 2;cbv
  obtain ⟨x,hx⟩:∃ x,l[i]?=some x:=⟨_,List.getElem?_eq_getElem (by omega)⟩
  obtain ⟨b,y,vs,hpo,hrep,hcell⟩:=hs.row (i:=i) (d:=x.toD) (by simp [hx])
  obtain ⟨t,rfl,hof⟩:=TelP.cells hrep
  obtain ⟨z,hz⟩:∃ z,z=y+i*21:=⟨_,rfl⟩
  rw [←hz] at hcell
  have hofM:t.Of Mo x:=hof.mono fun k o v h=>hold _ _ _ (him _ _ _ h)
  have hlow:∀ j,j<21→b<w.heap.size:=fun j hj=>by
   obtain ⟨v,hv⟩:∃ v,t.vals[0]?=some v:=⟨_,rfl⟩
   have:=World.block_lt_of_cell? _ _ (hcell 0 v hv)
   simpa using this
  obtain ⟨nd,cc,op,on,oc,np,nn,nc,ky,hss,s1,s2,s3,a1,a2,a3,⟨gk,gi,gs,gl,q1,q2,q3,q4,m1,m2,m3,m4,f1,f2,f3,f4⟩,ta⟩:=t
  refine X.see b z (TelC.svs ⟨nd,cc,op,on,oc,np,nn,nc,ky,hss,s1,s2,s3,a1,a2,a3,⟨gk,gi,gs,gl,q1,q2,q3,q4,m1,m2,m3,m4,f1,f2,f3,f4⟩,ta⟩) (fun j c hj=>?_) (by simp [TelC.svs]) (fun N1 hN1 hNl1=>?_)
  ·obtain ⟨_,z2⟩:=SV.denL_get (N:=[]) (TelC.svs ⟨nd,cc,op,on,oc,np,nn,nc,ky,hss,s1,s2,s3,a1,a2,a3,⟨gk,gi,gs,gl,q1,q2,q3,q4,m1,m2,m3,m4,f1,f2,f3,f4⟩,ta⟩) (rfl:SV.denL [] _=some (TelC.vals ⟨nd,cc,op,on,oc,np,nn,nc,ky,hss,s1,s2,s3,a1,a2,a3,⟨gk,gi,gs,gl,q1,q2,q3,q4,m1,m2,m3,m4,f1,f2,f3,f4⟩,ta⟩))
   obtain ⟨v,z3,z4⟩:=z2 j c hj
   exact ⟨v,z3,hold _ _ _ (him _ _ _ (hcell j v z4))⟩
  have hg1:(N1++[(⟨b,z,0⟩:Num)])[1]?=some ⟨b,z,0⟩:=num_last hNl1
  show X (mkE Tryz.prog Tryz.f3 Q w (InR [] []) Mo (wd.D s.seen.length) (WatchR wd s Mo) (N1++[⟨b,z,0⟩]) B3) _ _
  refine X.goH [(25,.own 1 0),(30,.own 1 0),(35,.own 1 0),(40,.own 1 0),(45,.own 1 0)] [] T3_ok (.q 0 [1,2,3,4,5,6,7,8,9,10,11,12,13,14,15,16,17,18,19,20,21,22,23,24,25] (.q 1 [0,2,6,7,8,9,10,11,12,13,14,15,16,17,18,19,20,21,22,23,24,25] (.q 2 [0,1,6,7,8,9,10,11,12,13,14,15,16,17,18,19,20,21,22,23,24,25] (.q 3 [0,1,2,6,7,8,9,10,11,12,13,14,15,16,17,18,19,20,21,22,23,24,25] (.q 4 [0,1,2,3,6,7,8,9,10,11,12,13,14,15,16,17,18,19,20,21,22,23,24,25] (.q 6 [0,1,2,3,4,5,7,11,12,13,14,15,16,17,18,19,20,21,22,23,24,25] (.q 7 [0,1,2,3,4,5,6,11,12,13,14,15,16,17,18,19,20,21,22,23,24,25] (.q 8 [0,1,2,3,4,5,6,7,11,12,13,14,15,16,17,18,19,20,21,22,23,24,25] (.q 9 [0,1,2,3,4,5,6,7,8,11,12,13,14,15,16,17,18,19,20,21,22,23,24,25] (.q 11 [0,1,2,3,4,5,6,7,8,9,10,12,16,17,18,19,20,21,22,23,24,25] (.q 12 [0,1,2,3,4,5,6,7,8,9,10,11,16,17,18,19,20,21,22,23,24,25] (.q 13 [0,1,2,3,4,5,6,7,8,9,10,11,12,16,17,18,19,20,21,22,23,24,25] (.q 14 [0,1,2,3,4,5,6,7,8,9,10,11,12,13,16,17,18,19,20,21,22,23,24,25] (.q 16 [0,1,2,3,4,5,6,7,8,9,10,11,12,13,14,15,17,21,22,23,24,25] (.q 17 [0,1,2,3,4,5,6,7,8,9,10,11,12,13,14,15,16,21,22,23,24,25] (.q 18 [0,1,2,3,4,5,6,7,8,9,10,11,12,13,14,15,16,17,21,22,23,24,25] (.q 19 [0,1,2,3,4,5,6,7,8,9,10,11,12,13,14,15,16,17,18,21,22,23,24,25] (.q 21 [0,1,2,3,4,5,6,7,8,9,10,11,12,13,14,15,16,17,18,19,20,22] (.q 22 [0,1,2,3,4,5,6,7,8,9,10,11,12,13,14,15,16,17,18,19,20,21] (.q 23 [0,1,2,3,4,5,6,7,8,9,10,11,12,13,14,15,16,17,18,19,20,21,22] (.q 24 [0,1,2,3,4,5,6,7,8,9,10,11,12,13,14,15,16,17,18,19,20,21,22,23] (.q 5 [0,1,2,3,4,6,7,8,9,10,11,12,13,14,15,16,17,18,19,20,21,22,23,24,25] (.q 10 [0,1,2,3,4,5,6,7,8,9,11,12,13,14,15,16,17,18,19,20,21,22,23,24,25] (.q 15 [0,1,2,3,4,5,6,7,8,9,10,11,12,13,14,16,17,18,19,20,21,22,23,24,25] (.q 20 [0,1,2,3,4,5,6,7,8,9,10,11,12,13,14,15,16,17,18,19,21,22,23,24,25] (.one 25 (.one 26 (.nil)))))))))))))))))))))))))))) 130 26 [] rfl (by kernel_rfl) (by kernel_rfl) (fun pr pe fin H hpr hpe hfin hH=>?_)
  conv=>cbv
  have hat:∀ w1:World,WatchR wd s Mo w1→(∀ k o v,Mo k o=some v→w1.cell? ⟨k,o,none⟩=some v)→WatchAt wd s Mo w1:=fun w1 h1 h2=>h1.at h2
  have hreg:∀ j,j<21→¬wd.D s.seen.length b (z+j):=fun j hj hd=>by
   have h1:=hO _ _ hd
   have h2:=hlow j hj
   omega
  refine ⟨hpr _ (ValOk.row rfl rfl (fun _=>rfl) Tryz.underlying22 Tryz.sizeOf45 hlt hpo hg1 rfl hz),hpr _ (ValOk.row rfl rfl (fun _=>rfl) Tryz.underlying22 Tryz.sizeOf45 hlt hpo hg1 rfl hz),hpr _ (ValOk.row rfl rfl (fun _=>rfl) Tryz.underlying22 Tryz.sizeOf45 hlt hpo hg1 rfl hz),hpr _ (ValOk.row rfl rfl (fun _=>rfl) Tryz.underlying22 Tryz.sizeOf45 hlt hpo hg1 rfl hz),hpr _ (ValOk.row rfl rfl (fun _=>rfl) Tryz.underlying22 Tryz.sizeOf45 hlt hpo hg1 rfl hz),?_⟩
  refine hH _ _ ⟨_,_,_,_,_,rfl,rfl,rfl,rfl,Tryz.call9,fun N w1 args hN hS ha=>?_⟩
  obtain rfl:=args_eq (vs:=(sawA (wd.P 0).b (wd.P 0).o ⟨nd,cc,op,on,oc,np,nn,nc,ky,hss,s1,s2,s3,a1,a2,a3,⟨gk,gi,gs,gl,q1,q2,q3,q4,m1,m2,m3,m4,f1,f2,f3,f4⟩,ta⟩).toList) (by rw [←hP.1,←hP.2];rfl) ha
  have hsaw:=saw_ok wd s i Mo w1 _ x (hS.res.at hS.imm) ok (by omega) hofM (hok x (List.mem_of_getElem? hx))
  have hok1:=ok.saw (hok x (List.mem_of_getElem? hx))
  obtain ⟨rr,hrr⟩:=saw_stays s x
  obtain ⟨s',hs'⟩:∃ s',s'=s.saw x:=⟨_,rfl⟩
  rw [←hs'] at hsaw hok1 hrr
  refine Calls.mono hsaw fun e w2 ⟨he,wd',Mo',hat',hP',hch,hD',he1,he2⟩=>?_
  have hp1:=hN 1 _ hg1
  refine ⟨_,he,mkE Tryz.prog Tryz.f3 Q w (InR [] []) Mo' (wd'.D s'.seen.length) (WatchR wd' s' Mo') (N1++[⟨b,z,0⟩]) B3,.tup [],_,[],[],rfl,rfl,rfl,rfl,he1,hN,hS.turnMem (wd'.D s'.seen.length) (WatchR wd' s' Mo') Mo' hch (fun k o hk=>.inl (hO k o hk)) hmd (fun r g p hg hp=>?_) (fun k o hk=>⟨hD' k o hk,hat'.there hk⟩) WatchR.loc hat'.r hat'.mo he2,rfl,rfl,fun pr pe fin hpr hpe hfin=>?_⟩
  ·match r,hg with
   | 0,hg=>cases hg;exact .inl rfl
   | 1,hg =>
    cases hg
    rw [hp1] at hp;cases hp
    exact .inr fun j hj=>hreg j hj
  have hO':∀ k o,wd'.D s'.seen.length k o→w.heap.size≤k:=fun k o h=>by
   rcases hD' k o h with h1 | h1
   ·exact hO k o h1
   ·exact Nat.le_trans hS.chg.size h1
  have hmd':=hat'.md
  have hP1:pb=(wd'.P 0).b∧py=(wd'.P 0).o:=by rw [hP'];exact hP
  have hold':∀ k o v,im k o=some v→Mo' k o=some v:=fun k o v h=>he1 _ _ _ (hold _ _ _ h)
  have hwas':=hwas.mono he1
  clear ha he hS hN hp1 hat' hsaw hch hD' he1 he2 hP' hat hofM hreg
  conv=>cbv
  refine hfin _ ?_
  clear hpr hpe hfin hH
  refine X.noNames ?_
  show X (mkE Tryz.prog Tryz.f3 Q w (InR [] []) Mo' (wd'.D s'.seen.length) (WatchR wd' s' Mo') [] B3) _ _
  refine X.go T3_ok 400 _ rfl Tryz.results3 ?_
  conv=>arg 2;cbv
  refine X.call rfl rfl rfl rfl Tryz.call10 (fun N w1 args hN hS ha=>?_)
  obtain rfl:=args_eq (vs:=[ptrN (wd'.P 0)]) (by rw [ptrN,←hP1.1,←hP1.2];rfl) ha
  refine (versions_ok wd' s' (i+1) Mo' w1 (hS.res.at hS.imm) hok1 (by omega)).mono fun e w2 ⟨⟨pv,cv,he,hm⟩,hch⟩=>?_
  obtain ⟨nv,hnv⟩:∃ z,z=s'.l.length:=⟨_,rfl⟩
  rw [←hnv] at he
  refine ⟨_,he,Goes.newMem hN hS hch (r:=.slv pv nv cv) rfl rfl (fun hold2 hnew=>?_)⟩
  obtain ⟨Mv,hMv⟩:∃ M,M=imNew Mo' w1 w2:=⟨_,rfl⟩
  show X (mkE Tryz.prog Tryz.f3 Q w (InR [] []) (imNew Mo' w1 w2) (wd'.D s'.seen.length) (WatchR wd' s' Mo') [] B3) _ _
  rw [←hMv] at hold2 hnew ⊢
  have hsv:SlR Mv pv cv 13 (s'.l.map VerP.toD):=hm Mv hold2 hnew
  have hmdv:∀ k o,wd'.D s'.seen.length k o→Mv k o=none:=fun k o hk=>by rw [hMv];exact imNew_none (hmd' k o hk) ((hS.res.at hS.imm).lt hk)
  have hwasv:=hwas'.mono hold2
  have holdv:∀ k o v,im k o=some v→Mv k o=some v:=fun k o v h=>hold2 _ _ _ (hold' _ _ _ h)
  clear hMv hnew hch he ha hS hN hm
  refine X.watchMore hold2 hmdv ?_
  have hnn:nw≤nv:=by rw [hnw,hnv,hrr];simp
  have hnc:nv≤cv:=by have:=hsv.1.1;simp at this;omega
  refine X.goX ([(60,.slv pv nw cv),(62,.bool (.lit true))]) ([]) T3_ok 400 _ rfl Tryz.results3 (fun pr pe fin hpr hpe hfin=>?_)
  conv=>cbv
  refine ⟨hpr _ (vk_head rfl rfl rfl (by omega) Tryz.underlying27 Tryz.sizeOf49),hpr _ (.of Tryz.call11 [.slice pv nw cv,.slice pw nw cw] (.bool true) (fun _=>rfl) (fun _=>rfl) fun _ w1 hi1=>?_),hfin _ _ ?_⟩
  ·have h1:=SlR.take hsv nw
   rw [←List.map_take,hrr,List.take_left' hnw.symm] at h1
   have h:=same24_ok s.l s.l pv pw cv cw w1 (h1.mono hi1) (hwasv.mono hi1)
   rw [←hnw,B_pos rfl] at h
   exact h
  clear hpr hpe hfin
  refine X.cond rfl (fun h=>?_) (fun _=>?_)
  ·exfalso
   simp [SB.T,SB.den,SI.den] at h
   omega
  by_cases hnil:s'.l=[]
  ·refine X.go T3_ok 400 _ rfl Tryz.results3 ?_
   conv=>arg 2;cbv
   refine X.call rfl rfl rfl rfl Tryz.call10 (fun N w1 args hN hS ha=>?_)
   obtain rfl:=args_eq (vs:=[ptrN (wd'.P 0)]) (by rw [ptrN,←hP1.1,←hP1.2];rfl) ha
   refine (versions_ok wd' s' (i+1) Mv w1 (hS.res.at hS.imm) hok1 (by omega)).mono fun e w2 ⟨⟨p2,c2,he,_⟩,hch⟩=>?_
   have he:e=.returned (.slice p2 0 c2):=by rw [he,hnil];rfl
   refine ⟨_,he,Goes.same hN hS hch (r:=.slv p2 0 c2) rfl rfl ?_⟩
   clear ha he hS hN hch
   refine X.go T3_ok 400 _ rfl Tryz.results3 ?_
   conv=>arg 2;cbv
   refine X.loop1 (fun _:Unit=>⟨[(0,.val (.slv po n cp)),(2,.val (.bool (.lit false))),(3,.val (.ext pb py 0)),(4,.val (.slv pv nv cv)),(5,.val (.int .i64 (.nat i))),(7,.val (.slv p2 0 c2)),(8,.val (.int .i64 (.nat 0)))],[⟨true,[],none⟩]⟩) (fun _=>0) (fun N a w' hN hf hS=>⟨(),?_⟩) (fun _ q' hq'=>?_)
   ·exact At.again hf hS (by repeat first | exact trivial | refine ⟨⟨_,rfl,.inl ⟨rfl,rfl⟩⟩,?_⟩ | refine ⟨⟨_,rfl,.inr ⟨_,rfl,rfl⟩⟩,?_⟩ | refine ⟨⟨_,rfl,.inr ⟨_,rfl,by simp (disch:=omega) [SV.den,SI.den,wrapU,wrapD]<;>omega⟩⟩,?_⟩) (by repeat first | exact trivial | refine ⟨fun h=>h,SubC.refl rfl,rfl,?_⟩)
   refine X.go T3_ok 400 _ rfl Tryz.results3 ?_
   conv=>arg 2;cbv
   refine X.cond rfl (fun hlt2=>?_) (fun _=>?_)
   ·simp [SB.T,SI.den] at hlt2
   refine X.go T3_ok 400 _ rfl Tryz.results3 ?_
   conv=>arg 2;cbv
   refine X.back (fun N a w' hN hf hS=>hq ⟨i+1,wd',s',Mv,pv,nv,cv,by omega,hok1,hO',hmdv,holdv,hP1,⟨hnv,hsv⟩⟩ a w' (by simp only;omega) ?_)
   exact At.again hf hS (by repeat first | exact trivial | refine ⟨⟨_,rfl,.inl ⟨rfl,rfl⟩⟩,?_⟩ | refine ⟨⟨_,rfl,.inr ⟨_,rfl,rfl⟩⟩,?_⟩ | refine ⟨⟨_,rfl,.inr ⟨_,rfl,by simp (disch:=omega) [SV.den,SI.den,wrapU,wrapD]<;>omega⟩⟩,?_⟩) (by repeat first | exact trivial | refine ⟨fun h=>h,SubC.refl rfl,rfl,?_⟩)
  refine X.less [0,2,3,4,5,6] ?_
  refine X.drop 1 (by show 1<2;omega) ?_
  refine X.go T3_ok 400 _ rfl Tryz.results3 ?_
  conv=>arg 2;cbv
  refine X.call rfl rfl rfl rfl Tryz.call10 (fun N w1 args hN hS ha=>?_)
  obtain rfl:=args_eq (vs:=[ptrN (wd'.P 0)]) (by rw [ptrN,←hP1.1,←hP1.2];rfl) ha
  refine (versionsS_ok wd' s' (i+1) Mv w1 (hS.res.at hS.imm) hok1 (by omega) hnil).mono fun e w2 ⟨⟨p2,c2,he,_,q2,vss,hp2,hc2,hq2,hso,hsp,_⟩,hch⟩=>?_
  rw [hp2,hc2,←hnv] at he
  have hb2:w.heap.size≤w1.heap.size:=hS.chg.size
  refine ⟨_,he,Goes.rowsD (sz:=13) (cs:=rawL vss.flatten) (fun k o=>wd'.D s'.seen.length k o∨SpV s'.l vss k o) (fun w'=>WatchR wd' s' Mv w'∧VarR w.heap.size q2 s'.l vss w') hN hS hch hq2 hsp.room.1 (by rw [rawL_len];exact hso.flat) (fun j c hj=>?_) hsp.room.2 (fun r g hg=>?_) (fun k o hd=>?_) (fun u u' hs hle hR=>⟨WatchR.loc u u' (fun k o h=>hs k o (.inl h)) hle hR.1,VarR.loc u u' (fun k o h=>hs k o (.inr h)) hle hR.2⟩) ⟨(hS.after0 hch).res,hsp.var.mono hb2⟩ rfl ?_⟩
  ·rw [rawL,List.getElem?_map,Option.map_eq_some_iff] at hj
   obtain ⟨v,hv,rfl⟩:=hj
   have ho:one? v=true:=by
    obtain ⟨vs,h1,h2⟩:=List.mem_flatten.1 (List.mem_of_getElem? hv)
    exact List.all_eq_true.1 (hso.row vs h1).2 v h2
   exact ⟨v,by simp [SV.den,ho],hsp.has j v hv⟩
  ·match r,hg with
   | 0,hg=>cases hg;rfl
   | 1,hg=>cases hg;rfl
  ·rcases hd with hd | hd
   ·refine ⟨(hS.after0 hch).dlt k o hd,fun ⟨e1,_⟩=>?_,.inl hd⟩
    have:=(hS.dlt k o hd).lt
    omega
   ·obtain ⟨k1,k2,k3⟩:=hsp.var.there hd
    exact ⟨k1,k3,.inr k2⟩
  have hvr:∀ (j:Nat) (x:VerP),s'.l[j]?=some x→∃ t:VerC,vss[j]?=some t.vals:=fun j x hj=>by
   obtain ⟨t,ht,_⟩:=hsp.var j x hj
   exact ⟨t,ht⟩
  have hvv:∀ (j:Nat) (x:VerP),s'.l[j]?=some x→∃ t:VerC,vss[j]?=some t.vals∧∃ p' c',t.vals[7]?=some (.slice p' x.reg.vars.length c')∧(x.reg.vars≠[]→∃ b y,p'=some ⟨b,y,none⟩):=fun j x hj=>by
   obtain ⟨t,ht,p',c',k1,k2⟩:=hsp.var j x hj
   refine ⟨t,ht,p',c',k1,fun h0=>?_⟩
   obtain ⟨b,y,k3,_⟩:=k2 h0
   exact ⟨b,y,k3⟩
  have hmv:∀ k o,SpV s'.l vss k o→Mv k o=none∧w.heap.size≤k∧¬wd'.D s'.seen.length k o:=fun k o hd=>by
   obtain ⟨_,k2,_⟩:=hsp.var.there hd
   refine ⟨?_,by omega,fun hd'=>by have:=(hS.dlt k o hd').lt;omega⟩
   cases hm:Mv k o with
   | none=>rfl
   | some v=>have:=World.block_lt_of_cell? _ _ (hS.imm k o v hm);simp at this;omega
  clear ha he hS hN hch hsp hb2 hp2 hc2
  show X (mkE Tryz.prog Tryz.f3 Q w (InR [] []) Mv (fun k o=>wd'.D s'.seen.length k o∨SpV s'.l vss k o) (fun w'=>WatchR wd' s' Mv w'∧VarR w.heap.size q2 s'.l vss w') [] B3) _ _
  obtain ⟨dl0,hdl0⟩:∃ d,d=rawL vss.flatten:=⟨_,rfl⟩
  rw [←hdl0]
  refine X.go T3_ok 400 _ rfl Tryz.results3 ?_
  conv=>arg 2;cbv
  refine X.loop1 (fun g:{g:Nat × List (List Value) // g.1≤nv∧SpI s'.l vss g.2}=>⟨[(0,.val (.slv po n cp)),(2,.val (.bool (.lit false))),(3,.val (.ext pb py 0)),(4,.val (.slv pv nv cv)),(5,.val (.int .i64 (.nat i))),(7,.val (.osl 2 0 nv 13 none)),(8,.val (.int .i64 (.nat g.1.1)))],[⟨true,[],none⟩,⟨false,[],none⟩,⟨true,rawL g.1.2.flatten,none⟩]⟩) (fun g=>nv-g.1.1) (fun N a w' hN hf hS=>⟨⟨(0,vss),Nat.zero_le _,hso.len,hso.row,fun j x hj=>?_⟩,?_⟩) (fun g q' hq'=>?_)
  ·obtain ⟨t,ht⟩:=hvr j x hj
   exact ⟨t,t,ht,ht,rfl⟩
  ·exact At.again hf hS (by repeat first | exact trivial | refine ⟨⟨_,rfl,.inl ⟨rfl,rfl⟩⟩,?_⟩ | refine ⟨⟨_,rfl,.inr ⟨_,rfl,rfl⟩⟩,?_⟩ | refine ⟨⟨_,rfl,.inr ⟨_,rfl,by simp (disch:=omega) [SV.den,SI.den,wrapU,wrapD]<;>omega⟩⟩,?_⟩) ⟨fun h=>h,SubC.refl rfl,rfl,fun h=>h,SubC.refl rfl,rfl,fun h=>h,(by rw [hdl0];exact SubC.refl rawL_bd),rfl,trivial⟩
  obtain ⟨⟨j,vss'⟩,hj,hI⟩:=g
  simp only at hj hI
  show X (mkE Tryz.prog Tryz.f3 Q w (InR [] []) Mv (fun k o=>wd'.D s'.seen.length k o∨SpV s'.l vss k o) (fun w'=>WatchR wd' s' Mv w'∧VarR w.heap.size q2 s'.l vss w') [] B3) _ ⟨[(0,.val (.slv po n cp)),(2,.val (.bool (.lit false))),(3,.val (.ext pb py 0)),(4,.val (.slv pv nv cv)),(5,.val (.int .i64 (.nat i))),(7,.val (.osl 2 0 nv 13 none)),(8,.val (.int .i64 (.nat j)))],[⟨true,[],none⟩,⟨false,[],none⟩,⟨true,rawL vss'.flatten,none⟩]⟩
  obtain ⟨dl,hdl⟩:∃ d,d=rawL vss'.flatten:=⟨_,rfl⟩
  rw [←hdl]
  refine X.go T3_ok 400 _ rfl Tryz.results3 ?_
  conv=>arg 2;cbv
  refine X.cond rfl (fun hlt2=>?_) (fun hge2=>?_)
  ·simp only [SB.T,SI.den] at hlt2
   have hlt2:(j:Int)<(nv:Int):=hlt2
   have hlt2:j<nv:=by omega
   have hnv60:nv≤61:=by have:=hok1.l;omega
   obtain ⟨x2,hx2⟩:∃ x,s'.l[j]?=some x:=⟨_,List.getElem?_eq_getElem (by omega)⟩
   obtain ⟨t,t0,e0,e1,e2⟩:=hI.same j x2 hx2
   obtain ⟨A,B',hA,hspl⟩:=rows_split e1 fun v hv=>(hI.row v hv).1
   obtain ⟨z2,hz2⟩:∃ z,z=j*13:=⟨_,rfl⟩
   obtain ⟨vky,vb1,vb2,vb3,⟨vk,vi,vs,vl,r1,r2,r3,r4,o1,o2,o3,o4,j1,j2,j3,j4⟩,vta⟩:=t
   have hset:vss'.set j (VerC.vals ⟨vky,vb1,vb2,vb3,⟨vk,vi,vs,vl,r1,r2,r3,r4,o1,o2,o3,o4,j1,j2,j3,j4⟩,vta⟩)=vss':=by
    obtain ⟨y1,y2⟩:=List.getElem?_eq_some_iff.1 e1
    rw [←y2];exact List.set_getElem_self y1
   have hpre:∀ u:Int,(vss'.set j (VerC.vals ⟨vky,vb1,vb2,vb3,⟨vk,u,vs,vl,r1,r2,r3,r4,o1,o2,o3,o4,j1,j2,j3,j4⟩,vta⟩)).flatten=(A++[.int .u8 vky,.int .u64 vb1,.int .u8 vb2,.int .u32 vb3,.int .u8 vk])++[.int .u64 u]++([.int .i64 vs,.slice r1 o1 j1,.slice r2 o2 j2,.slice r3 o3 j3,.int .u64 vl,.slice r4 o4 j4,.int .i64 vta]++B'):=fun u=>by rw [hspl];simp [VerC.vals,RegS.vals]
   obtain ⟨A2,hA2⟩:∃ a,a=rawL (A++[.int .u8 vky,.int .u64 vb1,.int .u8 vb2,.int .u32 vb3,.int .u8 vk]):=⟨_,rfl⟩
   obtain ⟨B2,hB2⟩:∃ a,a=rawL ([.int .i64 vs,.slice r1 o1 j1,.slice r2 o2 j2,.slice r3 o3 j3,.int .u64 vl,.slice r4 o4 j4,.int .i64 vta]++B'):=⟨_,rfl⟩
   have hA2l:A2.length=z2+4+1:=by rw [hA2,rawL_len,hz2];simp [hA]
   have hB2l:7≤B2.length:=by rw [hB2,rawL_len];simp
   have hdl2:dl=A2++[.raw (.int .u64 vi)]++B2:=by
    rw [hdl,hA2,hB2,←hset,hpre]
    simp [rawL]
   have hcell5:dl[z2+4+1]?=some (.raw (.int .u64 vi)):=by rw [hdl2,←hA2l,List.append_assoc,List.getElem?_append_right (Nat.le_refl _)];simp
   obtain ⟨vi2,hvi2⟩:∃ z,z=IntKind.u64.wrap (vi+1):=⟨_,rfl⟩
   obtain ⟨dl',hdl'⟩:∃ d,d=setRow dl (z2+4+1) [.int .u64 (.v vi2)]:=⟨_,rfl⟩
   have hdll:z2+4+1<dl.length:=(List.getElem?_eq_some_iff.1 hcell5).1
   refine X.goX ([(76,.own 2 z2),(79,.int .u64 (.v vi)),(80,.int .u64 (.v vi2)),(81,.own 2 z2)]) ([(1010,⟨fun _=>.tup [],[(2,⟨true,dl',none⟩)],[]⟩)]) T3_ok 400 _ rfl Tryz.results3 (fun pr pe fin hpr hpe hfin=>?_)
   conv=>cbv
   refine ⟨hpr _ (vk_osl (sx:=.osl 2 0 nv 13 none) rfl (.inr (.inr ⟨none,rfl⟩)) rfl (fun _=>rfl) Tryz.underlying27 Tryz.sizeOf49 (fun _=>hlt2) hz2 (by simp)),hpr _ ((vk_load1 (gg:=⟨true,dl,none⟩) rfl Tryz.isAgg29 rfl hcell5).conv fun N v h=>by simpa [SV.den,SI.den,one?] using h),hpr _ (vk_bin rfl rfl rfl fun _ N v hv=>by rw [←hv,hvi2];rfl),hpr _ (vk_osl (sx:=.osl 2 0 nv 13 none) rfl (.inr (.inr ⟨none,rfl⟩)) rfl (fun _=>rfl) Tryz.underlying27 Tryz.sizeOf49 (fun _=>hlt2) hz2 (by simp)),hpe _ _ _ _ _ ?_,hfin _ _ ?_⟩
   ·refine EffOk.step T3_ok ?_
    rw [stepE_store (c:=z2+4+1) (v:=.int .u64 (.v vi2)) (g:=⟨true,dl,none⟩) (ti:=ti29) rfl rfl rfl rfl rfl rfl (by show z2+4+1+1≤dl.length;omega) rfl]
    rw [hdl']
    rfl
   clear hpr hpe hfin
   have hdl2':dl'=A2++[.int .u64 (.v vi2)]++B2:=by
    rw [hdl',hdl2,←hA2l]
    exact setRow_mid rfl
   obtain ⟨vss2,hvss2⟩:∃ v,v=vss'.set j (VerC.vals ⟨vky,vb1,vb2,vb3,⟨vk,vi2,vs,vl,r1,r2,r3,r4,o1,o2,o3,o4,j1,j2,j3,j4⟩,vta⟩):=⟨_,rfl⟩
   have hnew:rawL vss2.flatten=A2++[.raw (.int .u64 vi2)]++B2:=by
    rw [hvss2,hpre,hA2,hB2]
    simp [rawL]
   refine X.recell 2 ⟨true,dl',none⟩ (rawL vss2.flatten) rfl (by rw [hnew];show _=dl'.length;rw [hdl2'];simp) (fun N hN jj c c' h1 h2 v hv=>?_) ?_
   ·rw [hnew] at h2
    have h1:dl'[jj]?=some c:=h1
    rw [hdl2'] at h1
    refine recell_mid (N:=N) (by rfl) (fun u c c' y1 y2 v hv=>?_) jj c c' h1 h2 v hv
    have hu:u=0:=by
     have:=(List.getElem?_eq_some_iff.1 y1).1
     simp at this
     omega
    subst hu
    obtain rfl:=Option.some.inj y1
    obtain rfl:=Option.some.inj y2
    simpa [SV.den,SI.den,one?] using hv
   have hI2:SpI s'.l vss vss2:=by
    refine ⟨by rw [hvss2,List.length_set];exact hI.len,fun v hv=>?_,fun u y hy=>?_⟩
    ·rw [hvss2] at hv
     rcases List.mem_or_eq_of_mem_set hv with h1 | rfl
     ·exact hI.row v h1
     ·exact ⟨rfl,rfl⟩
    ·by_cases hju:j=u
     ·subst hju
      exact ⟨⟨vky,vb1,vb2,vb3,⟨vk,vi2,vs,vl,r1,r2,r3,r4,o1,o2,o3,o4,j1,j2,j3,j4⟩,vta⟩,t0,e0,by rw [hvss2,List.getElem?_set,if_pos rfl,if_pos (by rw [hI.len];omega)],e2⟩
     ·obtain ⟨t,t0,k1,k2,k3⟩:=hI.same u y hy
      exact ⟨t,t0,k1,by rw [hvss2,List.getElem?_set,if_neg hju];exact k2,k3⟩
   have hc7:(rawL vss2.flatten)[z2+4+3]?=some (.raw (.slice r1 o1 j1)):=by
    rw [hnew,List.append_assoc,List.getElem?_append_right (by omega),hA2l,hB2]
    rw [show z2+4+3-(z2+4+1)=2 by omega]
    rfl
   clear hcell5 hdll hdl2 hdl' hdl2' hpre hset hspl hA hA2l hB2l hA2 hB2 hdl hvi2 hnew
   obtain ⟨dk,hdk⟩:∃ d,d=rawL vss2.flatten:=⟨_,rfl⟩
   rw [←hdk] at hc7
   show X (mkE Tryz.prog Tryz.f3 Q w (InR [] []) Mv (fun k o=>wd'.D s'.seen.length k o∨SpV s'.l vss k o) (fun w'=>WatchR wd' s' Mv w'∧VarR w.heap.size q2 s'.l vss w') [] B3) _ _
   rw [←hdk]
   refine X.go T3_ok 400 _ rfl Tryz.results3 ?_
   conv=>arg 2;cbv
   refine X.loop1 (fun u:{u:Nat // u≤o1}=>⟨[(0,.val (.slv po n cp)),(2,.val (.bool (.lit false))),(3,.val (.ext pb py 0)),(4,.val (.slv pv nv cv)),(5,.val (.int .i64 (.nat i))),(7,.val (.osl 2 0 nv 13 none)),(8,.val (.int .i64 (.nat j))),(9,.val (.int .i64 (.nat u.1)))],[⟨true,[],none⟩,⟨false,[],none⟩,⟨true,dk,none⟩]⟩) (fun u=>o1-u.1) (fun N a w' hN hf hS=>⟨⟨0,Nat.zero_le _⟩,?_⟩) (fun u q'' hq''=>?_)
   ·exact At.again hf hS (by repeat first | exact trivial | refine ⟨⟨_,rfl,.inl ⟨rfl,rfl⟩⟩,?_⟩ | refine ⟨⟨_,rfl,.inr ⟨_,rfl,rfl⟩⟩,?_⟩ | refine ⟨⟨_,rfl,.inr ⟨_,rfl,by simp (disch:=omega) [SV.den,SI.den,wrapU,wrapD]<;>omega⟩⟩,?_⟩) ⟨fun h=>h,SubC.refl rfl,rfl,fun h=>h,SubC.refl rfl,rfl,fun h=>h,(by rw [hdk];exact SubC.refl rawL_bd),rfl,trivial⟩
   obtain ⟨u,hu⟩:=u
   show X (mkE Tryz.prog Tryz.f3 Q w (InR [] []) Mv (fun k o=>wd'.D s'.seen.length k o∨SpV s'.l vss k o) (fun w'=>WatchR wd' s' Mv w'∧VarR w.heap.size q2 s'.l vss w') [] B3) _ _
   refine X.goX ([(87,.own 2 z2),(90,.slv r1 o1 j1)]) ([]) T3_ok 400 _ rfl Tryz.results3 (fun pr pe fin hpr hpe hfin=>?_)
   conv=>cbv
   refine ⟨hpr _ (vk_osl (sx:=.osl 2 0 nv 13 none) rfl (.inr (.inr ⟨none,rfl⟩)) rfl (fun _=>rfl) Tryz.underlying27 Tryz.sizeOf49 (fun _=>hlt2) hz2 (by simp)),hpr _ ((vk_load1 (gg:=⟨true,dk,none⟩) rfl Tryz.isAgg36 rfl hc7).conv fun N v h=>by simpa [SV.den,SI.den,one?] using h),hfin _ _ ?_⟩
   clear hpr hpe hfin
   refine X.cond rfl (fun hlt3=>?_) (fun hge3=>?_)
   ·simp only [SB.T,SI.den] at hlt3
    have hlt3:u<o1:=by omega
    obtain ⟨t',w1',p',c',w2',w3'⟩:=hvv j x2 hx2
    have ht':t'.vals=t0.vals:=by rw [e0] at w1';exact (Option.some.inj w1').symm
    rw [ht',←e2] at w2'
    have w2'':some (Value.slice r1 o1 j1)=some (.slice p' x2.reg.vars.length c'):=w2'
    simp only [Option.some.injEq,Value.slice.injEq] at w2''
    obtain ⟨hr1,ho1,hj1⟩:=w2''
    obtain ⟨b',y',hb'⟩:=w3' fun h0=>by rw [h0] at ho1;simp at ho1;omega
    have hv50:o1≤50:=by
     have:=hok1.vl x2 (List.mem_of_getElem? hx2)
     simp only [RegP.great,not_or,Nat.not_lt] at this
     have:=this.1
     omega
    obtain ⟨a3',ha3⟩:∃ z,z=y'+u*1:=⟨_,rfl⟩
    have hSp:SpV s'.l vss b' a3':=⟨j,x2,t0.vals,p',c',hx2,e0,by rw [←e2];exact w2',b',y',hb',rfl,by omega,by omega⟩
    have hcellz:∀ w0,VarR w.heap.size q2 s'.l vss w0→(∃ z,w0.cell? ⟨b',a3',none⟩=some (.int .i64 z))∧w0.frozen? ⟨b',a3',none⟩=false:=fun w0 hv=>by
     obtain ⟨tt,k1,pp,cc',k2,k3⟩:=hv j x2 hx2
     rw [e0] at k1
     have k1:=Option.some.inj k1
     rw [←k1,←e2] at k2
     rw [w2'] at k2
     simp only [Option.some.injEq,Value.slice.injEq,true_and] at k2
     obtain ⟨b3,y3,k4,_,k5⟩:=k3 fun h0=>by rw [h0] at ho1;simp at ho1;omega
     rw [←k2.1,hb'] at k4
     simp only [Option.some.injEq,Addr.mk.injEq,and_true] at k4
     obtain ⟨rfl,rfl⟩:=k4
     obtain ⟨k6,k7,_⟩:=k5 u (by omega)
     rw [ha3,Nat.mul_one]
     exact ⟨k6,k7⟩
    refine X.fixZ (b:=b') (o:=a3') (fun w0 h=>(hcellz w0 h.2).1) (.inr hSp) (fun zz=>?_)
    obtain ⟨z3,hz3⟩:∃ z,z=IntKind.i64.wrap (zz+1):=⟨_,rfl⟩
    refine X.goX ([(97,.own 2 z2),(100,.slv r1 o1 j1),(102,.ext b' a3' 0)]) ([]) T3_ok 12 _ rfl Tryz.results3 (fun pr pe fin hpr hpe hfin=>?_)
    conv=>cbv
    refine ⟨hpr _ (vk_osl (sx:=.osl 2 0 nv 13 none) rfl (.inr (.inr ⟨none,rfl⟩)) rfl (fun _=>rfl) Tryz.underlying27 Tryz.sizeOf49 (fun _=>hlt2) hz2 (by simp)),hpr _ ((vk_load1 (gg:=⟨true,dk,none⟩) rfl Tryz.isAgg36 rfl hc7).conv fun N v h=>by simpa [SV.den,SI.den,one?] using h),hpr _ (ValOk.at (z:=u) rfl rfl (fun _=>rfl) Tryz.underlying36 Tryz.sizeOf2 (fun _=>hlt3) (hr1.trans hb') ha3),hfin _ _ ?_⟩
    clear hpr hpe hfin
    refine X.load1R T3_ok (r:=.int .i64 (.v zz)) rfl rfl rfl rfl rfl rfl (fun N w0 _ hw=>⟨_,rfl,hw.2⟩) rfl ?_
    refine X.goX ([(104,.int .i64 (.v z3)),(105,.ext b' a3' 0)]) ([]) T3_ok 2 _ rfl Tryz.results3 (fun pr pe fin hpr hpe hfin=>?_)
    conv=>cbv
    refine ⟨hpr _ (vk_bin rfl rfl rfl fun _ N v hv=>by rw [←hv,hz3];rfl),hpr _ (ValOk.at (z:=u) rfl rfl (fun _=>rfl) Tryz.underlying36 Tryz.sizeOf2 (fun _=>hlt3) (hr1.trans hb') ha3),hfin _ _ ?_⟩
    clear hpr hpe hfin
    refine X.storeR T3_ok (fun w'=>WatchR wd' s' Mv w'∧VarR w.heap.size q2 s'.l vss w') rfl rfl rfl rfl rfl rfl rfl rfl (fun jj hj=>?_) (fun k o h=>.inl (h.elim (hO' k o) fun h=>(hmv k o h).2.1)) (fun k o h=>h.elim (hmdv k o) fun h=>(hmv k o h).1) (fun g hg=>by simp at hg;rcases hg with rfl | rfl | rfl<;>simp) (fun w0 hw jj hj=>?_) (fun N w0 vs _ hw hvs=>?_) (fun u u' hs hle hR=>⟨WatchR.loc u u' (fun k o h=>hs k o (.inl h)) hle hR.1,VarR.loc u u' (fun k o h=>hs k o (.inr h)) hle hR.2⟩) rfl ?_
    ·obtain rfl:jj=0:=Nat.lt_one_iff.1 hj
     exact .inr hSp
    ·obtain rfl:jj=0:=Nat.lt_one_iff.1 hj
     exact ⟨by show (w0.cell? ⟨b',a3',none⟩).isSome=true;rw [hw.2];rfl,(hcellz w0 hw.1.2).2⟩
    ·obtain rfl:vs=[.int .i64 z3]:=(Option.some.inj hvs).symm
     refine ⟨WatchR.loc w0 _ (fun k o hd=>⟨⟨putRow_other b' _ _ w0 k o (fun e=>?_),putRow_frozen _ _ _ _ _⟩,putRow_objAt _ _ _ _ _⟩) (by simp [Eng.putRow,World.setCell]) hw.1.1,fun jj x hx=>?_⟩
     ·have:o≠a3':=fun h=>(hmv b' a3' hSp).2.2 (by rw [e,h] at hd;exact hd)
      show o<a3'∨a3'+1≤o
      omega
     ·obtain ⟨tt,k1,p2,c2,k2,k3⟩:=hw.1.2 jj x hx
      refine ⟨tt,k1,p2,c2,k2,fun h0=>?_⟩
      obtain ⟨b3,y3,f1,f2,f3⟩:=k3 h0
      refine ⟨b3,y3,f1,f2,fun u2 hu2=>?_⟩
      obtain ⟨⟨z4,g1⟩,g2,g3⟩:=f3 u2 hu2
      refine ⟨?_,by rw [putRow_frozen];exact g2,g3⟩
      by_cases heq:b3=b'∧y3+u2=a3'
      ·obtain ⟨rfl,h2⟩:=heq
       have:=putRow_same b3 [.int .i64 z3] a3' w0 (fun j2 hj2=>by
        obtain rfl:j2=0:=Nat.lt_one_iff.1 hj2
        rw [Nat.add_zero,hw.2];rfl) 0 _ rfl
       exact ⟨z3,by rw [h2];exact this⟩
      ·exact ⟨z4,by
        rw [putRow_other b' _ _ w0 b3 (y3+u2) (fun e=>by
         have:y3+u2≠a3':=fun h=>heq ⟨e,h⟩
         show y3+u2<a3'∨a3'+1≤y3+u2
         omega)]
        exact g1⟩
    show X (mkE Tryz.prog Tryz.f3 Q w (InR [] []) Mv (fun k o=>wd'.D s'.seen.length k o∨SpV s'.l vss k o) (fun w'=>WatchR wd' s' Mv w'∧VarR w.heap.size q2 s'.l vss w') [] B3) _ _
    refine X.go T3_ok 400 _ rfl Tryz.results3 ?_
    conv=>arg 2;cbv
    refine X.back (fun N a w' hN hf hS=>hq'' ⟨u+1,hlt3⟩ a w' (by simp only;omega) ?_)
    exact At.again hf hS (by repeat first | exact trivial | refine ⟨⟨_,rfl,.inl ⟨rfl,rfl⟩⟩,?_⟩ | refine ⟨⟨_,rfl,.inr ⟨_,rfl,rfl⟩⟩,?_⟩ | refine ⟨⟨_,rfl,.inr ⟨_,rfl,by simp (disch:=omega) [SV.den,SI.den,wrapU,wrapD]<;>omega⟩⟩,?_⟩) ⟨fun h=>h,SubC.refl rfl,rfl,fun h=>h,SubC.refl rfl,rfl,fun h=>h,(by rw [hdk];exact SubC.refl rawL_bd),rfl,trivial⟩
   refine X.go T3_ok 400 _ rfl Tryz.results3 ?_
   conv=>arg 2;cbv
   refine X.back (fun N a w' hN hf hS=>hq' ⟨(j+1,vss2),hlt2,hI2⟩ a w' (by simp only;omega) ?_)
   exact At.again hf hS (by repeat first | exact trivial | refine ⟨⟨_,rfl,.inl ⟨rfl,rfl⟩⟩,?_⟩ | refine ⟨⟨_,rfl,.inr ⟨_,rfl,rfl⟩⟩,?_⟩ | refine ⟨⟨_,rfl,.inr ⟨_,rfl,by simp (disch:=omega) [SV.den,SI.den,wrapU,wrapD]<;>omega⟩⟩,?_⟩) ⟨fun h=>h,SubC.refl rfl,rfl,fun h=>h,SubC.refl rfl,rfl,fun h=>h,(by rw [hdk];exact SubC.refl rawL_bd),rfl,trivial⟩
  refine X.fewer (D':=wd'.D s'.seen.length) (R':=WatchR wd' s' Mv) (fun k o h=>.inl h) (fun w h=>h.1) WatchR.loc ?_
  refine X.go T3_ok 400 _ rfl Tryz.results3 ?_
  conv=>arg 2;cbv
  refine X.back (fun N a w' hN hf hS=>hq ⟨i+1,wd',s',Mv,pv,nv,cv,by omega,hok1,hO',hmdv,holdv,hP1,⟨hnv,hsv⟩⟩ a w' (by simp only;omega) ?_)
  exact At.again hf hS (by repeat first | exact trivial | refine ⟨⟨_,rfl,.inl ⟨rfl,rfl⟩⟩,?_⟩ | refine ⟨⟨_,rfl,.inr ⟨_,rfl,rfl⟩⟩,?_⟩ | refine ⟨⟨_,rfl,.inr ⟨_,rfl,by simp (disch:=omega) [SV.den,SI.den,wrapU,wrapD]<;>omega⟩⟩,?_⟩) (by repeat first | exact trivial | refine ⟨fun h=>h,SubC.refl rfl,rfl,?_⟩)
 ·clear hge hq
  refine X.go T3_ok 400 _ rfl Tryz.results3 ?_
  conv=>arg 2;cbv
  refine X.call rfl rfl rfl rfl Tryz.call9 (fun N w1 args hN hS ha=>?_)
  obtain ⟨p,hp⟩:=num_of hS (r:=1) rfl
  obtain rfl:=args_eq (vs:=[.pointer none,.int .u8 1,.agg (telWC 1 p.b p.o 1 1).cV.toArray,.int .u8 1,.agg (telWC 1 p.b p.o 1 1).sV.toArray,.int .i64 1]) (by simp only [SV.denL,SV.den,SI.den,SB.den,hp];rfl) ha
  refine (sawNil_ok (telWC 1 p.b p.o 1 1) w1).mono fun e w2 ⟨he,hc⟩=>⟨_,he,Goes.same (r:=.tup []) hN hS hc rfl rfl ?_⟩
  clear ha he hc hS hN hp
  refine X.goX ([(113,.raw (.slice none 0 0)),(118,.raw (.slice none 0 0)),(124,.bool (.lit false)),(128,.bool (.lit true))]) ([]) T3_ok 400 _ rfl Tryz.results3 (fun pr pe fin hpr hpe hfin=>?_)
  conv=>cbv
  refine ⟨hpr _ (.of Tryz.call10 [.pointer none] (.slice none 0 0) (fun _=>rfl) (fun _=>rfl) fun _ w1 _=>versNil_ok w1),hpr _ (.of Tryz.call12 [.pointer none,.int .u8 1] (.slice none 0 0) (fun _=>rfl) (fun _=>rfl) fun _ w1 _=>chainNil_ok w1),hpr _ (.of Tryz.call13 [.pointer none] (.bool false) (fun _=>rfl) (fun _=>rfl) fun _ w1 _=>tornNil_ok w1),hpr _ (.of Tryz.call7 [] (.bool true) (fun _=>rfl) (fun _=>rfl) fun _ w1 _=>awake24_ok w1),hfin _ _ ?_⟩
  refine X.done T3_ok rfl (fun N w' v hN hS hv=>?_)
  rw [hQ]
  exact ⟨fin_bool hv rfl,hS.chg.none⟩
end Go.Proofs.YthpbefahaghbjaaGreat
namespace Go.Proofs.YthpbefahaghbjaaGreat
open Go Go.Eng Go.ChangeShapes Go.WideShapes Go.ChangeAt Go.RowKit
def telK:List CK:=[.int .u8,.int .u64,.slice 5,.slice 5,.int .u8,.bool,.int .u64,.int .u8,.int .u32,.int .u64,.int .u8,.int .u32,.int .u8,.int .u64,.int .i64,.slice 2,.slice 89,.slice 96,.int .u64,.slice 99,.int .i64]
theorem k_tel:kindsOf Tryz.prog 8 45=some telK:=by kernel_rfl
structure TelP.Wf (x:TelP):Prop where
 c0:0≤x.c.c
 co:U8 x.c.old
 cn:U8 x.c.new
 nd:0≤x.node
 kw:(Lit.int .u8 x.key).wf=true
 a1:(Lit.int .u64 x.s.acc.count).wf=true
 a2:(Lit.int .u8 x.s.acc.node).wf=true
 a3:(Lit.int .u32 x.s.acc.life).wf=true
theorem fit_tel {m:Nat} {r:List Dt} (h:FitL Tryz.prog (m+2) telK r):∃ x:TelP,r=x.toD∧x.Wf:=by
 unfold telK at h
 obtain ⟨_,_,rfl,h1,h⟩:=FitL.cons h
 obtain ⟨_,_,rfl,h2,h⟩:=FitL.cons h
 obtain ⟨_,_,rfl,h3,h⟩:=FitL.cons h
 obtain ⟨_,_,rfl,h4,h⟩:=FitL.cons h
 obtain ⟨_,_,rfl,h5,h⟩:=FitL.cons h
 obtain ⟨_,_,rfl,h6,h⟩:=FitL.cons h
 obtain ⟨_,_,rfl,h7,h⟩:=FitL.cons h
 obtain ⟨_,_,rfl,h8,h⟩:=FitL.cons h
 obtain ⟨_,_,rfl,h9,h⟩:=FitL.cons h
 obtain ⟨_,_,rfl,h10,h⟩:=FitL.cons h
 obtain ⟨_,_,rfl,h11,h⟩:=FitL.cons h
 obtain ⟨_,_,rfl,h12,h⟩:=FitL.cons h
 obtain ⟨_,_,rfl,h13,h⟩:=FitL.cons h
 obtain ⟨_,_,rfl,h14,h⟩:=FitL.cons h
 obtain ⟨_,_,rfl,h15,h⟩:=FitL.cons h
 obtain ⟨_,_,rfl,h16,h⟩:=FitL.cons h
 obtain ⟨_,_,rfl,h17,h⟩:=FitL.cons h
 obtain ⟨_,_,rfl,h18,h⟩:=FitL.cons h
 obtain ⟨_,_,rfl,h19,h⟩:=FitL.cons h
 obtain ⟨_,_,rfl,h20,h⟩:=FitL.cons h
 obtain ⟨_,_,rfl,h21,h⟩:=FitL.cons h
 cases FitL.nil h
 obtain ⟨z1,rfl,w1⟩:=h1.int'
 obtain ⟨z2,rfl,w2⟩:=h2.int'
 obtain ⟨l3,rfl,u3⟩:=fit_u8 h3
 obtain ⟨l4,rfl,u4⟩:=fit_u8 h4
 obtain ⟨z5,rfl,w5⟩:=h5.int'
 obtain ⟨z6,rfl⟩:=h6.bool'
 obtain ⟨z7,rfl,w7⟩:=h7.int'
 obtain ⟨z8,rfl,w8⟩:=h8.int'
 obtain ⟨z9,rfl,w9⟩:=h9.int'
 obtain ⟨z10,rfl,w10⟩:=h10.int'
 obtain ⟨z11,rfl,w11⟩:=h11.int'
 obtain ⟨z12,rfl,w12⟩:=h12.int'
 obtain ⟨z13,rfl,w13⟩:=h13.int'
 obtain ⟨z14,rfl,w14⟩:=h14.int'
 obtain ⟨z15,rfl,w15⟩:=h15.int'
 obtain ⟨l1,rfl⟩:=fit_i64 h16
 obtain ⟨l2,rfl⟩:=fit_done h17
 obtain ⟨l5,rfl⟩:=fit_cell h18
 obtain ⟨z19,rfl,w19⟩:=h19.int'
 obtain ⟨l6,rfl⟩:=fit_mark h20
 obtain ⟨z21,rfl,w21⟩:=h21.int'
 have c0:0≤z2:=by
  simp [Lit.wf,IntKind.min,IntKind.max,IntKind.bits,IntKind.signed] at w2
  omega
 exact ⟨⟨z1,⟨z2,l3,l4⟩,z5,⟨z6,⟨z7,z8,z9⟩,⟨z10,z11,z12⟩,⟨z13,z14,z15,l1,l2,l5,z19,l6⟩⟩,z21⟩,rfl,⟨c0,u3,u4,(u8_wf w1).1,w5,w10,w11,w12⟩⟩
theorem arg_tels {W:World} {v:Value} (h:ArgOk Tryz.prog W 22 v):∃ (l:List TelP) (p:Option Addr) (c:Nat),v=.slice p l.length c∧SlR (wm W) p c 21 (l.map TelP.toD)∧∀ x∈l,x.Wf:=by
 obtain ⟨⟨r,b0,h1⟩,_⟩:=id h
 obtain ⟨po,n,cp,rfl⟩:=okWide_slice Tryz.underlying22 h1
 obtain ⟨ds,k1,k2⟩:=h.rep (ks:=[.slice 45]) (by kernel_rfl) (m:=4) (by kernel_rfl)
 obtain ⟨d,_,rfl,k3,k4⟩:=FitL.cons k1
 cases FitL.nil k4
 obtain ⟨rows,rfl,k5⟩:=k3.slice' k_tel
 obtain ⟨l,rfl,hl⟩:=map_of (f:=TelP.toD) (p:=TelP.Wf) (rows:=rows) fun r hr=>fit_tel (k5 r hr)
 obtain ⟨v',_,k6,k7,k8⟩:=RepL.cons k2
 obtain ⟨p,c,rfl,hs⟩:=k7.list sz_tel
 simp only [Value.cells,List.cons.injEq,Value.slice.injEq] at k6
 obtain ⟨⟨rfl,rfl,rfl⟩,_⟩:=k6
 rw [List.length_map]
 exact ⟨l,po,cp,rfl,hs,hl⟩
theorem tels_ok {l:List TelP} (hl:∀ x∈l,x.Wf) (hg:¬great24 l):(∀ x∈l,x.Ok)∧l.length≤60:=by
 refine ⟨fun x hx=>?_,by have:¬60<l.length:=fun h=>hg (.inl h);omega⟩
 have hb:¬x.big:=fun h=>by
  obtain ⟨i,hi⟩:=List.mem_iff_getElem?.1 hx
  exact hg (.inr ⟨i,x,hi,h⟩)
 have b1:¬20<x.c.old.length:=fun h=>hb (.inl h)
 have b2:¬20<x.c.new.length:=fun h=>hb (.inr (.inl h))
 have b3:¬x.s.reg.great:=fun h=>hb (.inr (.inr h))
 have hw:=hl x hx
 exact ⟨hw.c0,⟨by omega,fun z hz=>by have:=hw.co z hz;omega⟩,⟨by omega,fun z hz=>by have:=hw.cn z hz;omega⟩,b3,hw.nd,hw.kw,hw.a1,hw.a2,hw.a3⟩
theorem watchStays_calls (W:World) (args:Array Value) (hn:args.size=1) (ha:∀ (j:Nat) t v,Tryz.f3.params[j]?=some t→args[j]?=some v→ArgOk Tryz.prog W t v) :
  Calls Tryz.prog 3 args W fun e w'=>e=.returned (.bool true)∧Chg (fun _ _=>False) W w':=by
 obtain ⟨a,rfl⟩:∃ a,args=#[a]:=⟨args[0],by apply Array.ext (by simp [hn]);intro i h1 h2;match i,h1 with | 0,_=>rfl⟩
 obtain ⟨l,p,c,rfl,hs,hu⟩:=arg_tels (ha 0 22 a rfl rfl)
 by_cases hg:great24 l
 ·exact stays_far l p c W hs hg
 ·exact stays_in l p c W hs (tels_ok hu hg).1 (tels_ok hu hg).2
end Go.Proofs.YthpbefahaghbjaaGreat
