import Derived.Test.YthpbefahaghbjaaGreatPd2
import Derived.Sort.AssemblyPlain
import Derived.Sort.WalkB3
set_option maxHeartbeats 16000000
set_option maxRecDepth 100000
set_option cbv.maxSteps 100000000
namespace Go.Proofs.YthpbefahaghbjaaGreat
open Go Go.Eng Go.Sort
theorem rev8_ok (b y n c a e:Nat) (d:Array Int) (w:World) (hA:AtA w b y d) (hn:d.size=n) (han:a≤n) (hen:e≤n) (he1:1≤e) (hbig:n<4611686018427387904) :
  Calls Tryz.prog 118 #[.slice (some ⟨b,y,none⟩) n c,.int .i64 a,.int .i64 e] w (PostA b y n w (reverseRange d a e)):=by
 obtain ⟨F,hF⟩:∃ F,F=reverseRange d a e:=⟨_,rfl⟩
 rw [←hF]
 obtain ⟨p,hp⟩:∃ p,p=some (Addr.mk b y none):=⟨_,rfl⟩
 rw [←hp]
 refine X.beginA hA hn (ss:=[.slv p n c,.int .i64 (.nat a),.int .i64 (.nat e)]) Tryz.func118 rfl B118_ok rfl rfl ?_
 refine X.go T118_ok 400 _ rfl Tryz.results118 ?_
 conv=>arg 2;cbv
 refine X.loop (fun g:{g:(Nat × Nat) × Array Int // g.2.size=n∧g.1.1≤n∧g.1.2<n∧reverseLoop g.1.1 g.1.2 g.2=F}=>aE Tryz.prog Tryz.f118 _ w b y n (wm w) g.1.2 [] B118)
  (fun g=>⟨[(0,.val (.slv p n c)),(6,.val (.int .i64 (.nat g.1.1.1))),(7,.val (.int .i64 (.nat g.1.1.2)))],[]⟩) (fun g=>n-g.1.1.1) (fun _=>⟨rfl,rfl,rfl,rfl⟩)
  (fun N ac w' hN hf hS=>⟨⟨((a,e-1),d),hn,han,by simp only;omega,hF.symm⟩,?_⟩) (fun g q hq=>?_)
 ·exact At.again hf hS (by repeat first | exact trivial | refine ⟨⟨_,rfl,.inl ⟨rfl,rfl⟩⟩,?_⟩ | refine ⟨⟨_,rfl,.inr ⟨_,rfl,rfl⟩⟩,?_⟩ | refine ⟨⟨_,rfl,.inr ⟨_,rfl,by simp (disch:=omega) [SV.den,SI.den,wrapU,wrapD]<;>omega⟩⟩,?_⟩) trivial
 obtain ⟨⟨⟨i,j⟩,d1⟩,hd1,hi,hj,hFi⟩:=g
 simp only at hd1 hi hj hFi
 obtain ⟨xi,hxi⟩:∃ x,d1[i]! = x:=⟨_,rfl⟩
 obtain ⟨xj,hxj⟩:∃ x,d1[j]! = x:=⟨_,rfl⟩
 show X (aE Tryz.prog Tryz.f118 _ w b y n (wm w) d1 [] B118) _ ⟨[(0,.val (.slv p n c)),(6,.val (.int .i64 (.nat i))),(7,.val (.int .i64 (.nat j)))],[]⟩
 refine X.go T118_ok 400 _ rfl Tryz.results118 ?_
 conv=>arg 2;cbv
 refine X.cond rfl (fun hlt=>?_) (fun hge=>?_)
 ·simp only [SB.T,SI.den] at hlt
  have hlt:i<j:=by omega
  refine X.take2 hA hn hd1 (i:=i) (j:=j) (by omega) (by omega) (by omega) hxi hxj (by simp) (fun N1 _ hN1=>?_)
  have g0:((N1++[⟨b,y+i,1⟩])++[⟨b,y+j,1⟩]:Nums)[0]?=some ⟨b,y+i,1⟩:=num_old (num_last hN1)
  have g1:((N1++[⟨b,y+i,1⟩])++[⟨b,y+j,1⟩]:Nums)[1]?=some ⟨b,y+j,1⟩:=num_last (by simp [hN1])
  refine X.goP ([(20,.own 1 0),(24,.own 0 0),(26,.own 0 0),(27,.own 1 0)]) T118_ok 400 _ rfl Tryz.results118 (fun pr fin hpr hfin=>?_)
  conv=>cbv
  refine ⟨hpr _ (ValOk.row (z:=j) rfl rfl (fun _=>by first | rfl | (simp (disch:=omega) only [SB.den,SI.den,wrapN]<;>omega)) Tryz.underlying30 Tryz.sizeOf5 (by omega) hp g1 rfl (by simp)),hpr _ (ValOk.row (z:=i) rfl rfl (fun _=>by first | rfl | (simp (disch:=omega) only [SB.den,SI.den,wrapN]<;>omega)) Tryz.underlying30 Tryz.sizeOf5 (by omega) hp g0 rfl (by simp)),hpr _ (ValOk.row (z:=i) rfl rfl (fun _=>by first | rfl | (simp (disch:=omega) only [SB.den,SI.den,wrapN]<;>omega)) Tryz.underlying30 Tryz.sizeOf5 (by omega) hp g0 rfl (by simp)),hpr _ (ValOk.row (z:=j) rfl rfl (fun _=>by first | rfl | (simp (disch:=omega) only [SB.den,SI.den,wrapN]<;>omega)) Tryz.underlying30 Tryz.sizeOf5 (by omega) hp g1 rfl (by simp)),hfin _ _ ?_⟩
  refine X.give2 (i:=i) (j:=j) (r:=0) hd1 (by omega) (by omega) (by omega) hxi hxj rfl rfl g0 g1 ?_
  refine X.back (fun N ac w' hN hf hS=>hq ⟨((i+1,j-1),swp d1 i j),by rw [swpZ_size];exact hd1,by simp only;omega,by simp only;omega,?_⟩ ac w' (by simp only;omega) ?_)
  ·rw [←hFi];conv=>rhs;rw [reverseLoop,if_pos hlt]
  ·exact At.again hf hS (by repeat first | exact trivial | refine ⟨⟨_,rfl,.inl ⟨rfl,rfl⟩⟩,?_⟩ | refine ⟨⟨_,rfl,.inr ⟨_,rfl,rfl⟩⟩,?_⟩ | refine ⟨⟨_,rfl,.inr ⟨_,rfl,by simp (disch:=omega) [SV.den,SI.den,wrapU,wrapD]<;>omega⟩⟩,?_⟩) trivial
 simp only [SB.F,SI.den] at hge
 refine X.go T118_ok 400 _ rfl Tryz.results118 ?_
 conv=>arg 2;cbv
 refine X.over T118_ok rfl (fun N w' v hN hS hv=>⟨?_,?_⟩)
 ·simp only [resV,SV.den,SV.denL,Option.some.injEq] at hv
  rw [←hv]
 ·rw [reverseLoop,if_neg (by omega)] at hFi
  rw [←hFi]
  exact Sat.arr hS hA hn hd1
theorem sift8_ok (b y n c r0 hi f:Nat) (d:Array Int) (w:World) (hA:AtA w b y d) (hn:d.size=n) (hr0:r0≤n) (hfh:f+hi≤n) (hbig:n<4611686018427387904) :
  Calls Tryz.prog 132 #[.slice (some ⟨b,y,none⟩) n c,.int .i64 r0,.int .i64 hi,.int .i64 f] w (PostA b y n w (siftDown ltInt hi f r0 d)):=by
 obtain ⟨F,hF⟩:∃ F,F=siftDown ltInt hi f r0 d:=⟨_,rfl⟩
 rw [←hF]
 obtain ⟨p,hp⟩:∃ p,p=some (Addr.mk b y none):=⟨_,rfl⟩
 rw [←hp]
 refine X.beginA hA hn (ss:=[.slv p n c,.int .i64 (.nat r0),.int .i64 (.nat hi),.int .i64 (.nat f)]) Tryz.func132 rfl B132_ok rfl rfl ?_
 refine X.go T132_ok 400 _ rfl Tryz.results132 ?_
 conv=>arg 2;cbv
 refine X.loop (fun g:{g:Nat × Array Int // g.2.size=n∧g.1≤n∧siftDown ltInt hi f g.1 g.2=F}=>aE Tryz.prog Tryz.f132 _ w b y n (wm w) g.1.2 [] B132)
  (fun g=>⟨[(0,.val (.slv p n c)),(2,.val (.int .i64 (.nat hi))),(3,.val (.int .i64 (.nat f))),(8,.val (.int .i64 (.nat g.1.1)))],[]⟩) (fun g=>n-g.1.1) (fun _=>⟨rfl,rfl,rfl,rfl⟩)
  (fun N ac w' hN hf hS=>⟨⟨(r0,d),hn,hr0,hF.symm⟩,?_⟩) (fun g q hq=>?_)
 ·exact At.again hf hS (by repeat first | exact trivial | refine ⟨⟨_,rfl,.inl ⟨rfl,rfl⟩⟩,?_⟩ | refine ⟨⟨_,rfl,.inr ⟨_,rfl,rfl⟩⟩,?_⟩ | refine ⟨⟨_,rfl,.inr ⟨_,rfl,by simp (disch:=omega) [SV.den,SI.den,wrapU,wrapD]<;>omega⟩⟩,?_⟩) trivial
 obtain ⟨⟨root,d1⟩,hd1,hroot,hFi⟩:=g
 simp only at hd1 hroot hFi
 show X (aE Tryz.prog Tryz.f132 _ w b y n (wm w) d1 [] B132) _ ⟨[(0,.val (.slv p n c)),(2,.val (.int .i64 (.nat hi))),(3,.val (.int .i64 (.nat f))),(8,.val (.int .i64 (.nat root)))],[]⟩
 refine X.go T132_ok 400 _ rfl Tryz.results132 ?_
 conv=>arg 2;cbv
 obtain ⟨ch,hch⟩:∃ k,k=2*root+1:=⟨_,rfl⟩
 refine X.reval 9 (.int .i64 (.nat ch)) rfl (fun N _ v hv=>by rw [←hv];simp (disch:=omega) only [SV.den,SI.den,wrapN,Int.tdiv_eq_ediv_of_nonneg,Option.some.injEq,Value.int.injEq,true_and]<;>omega) ?_
 rw [siftDown,←hch] at hFi
 refine X.cond rfl (fun hge=>?_) (fun hlt=>?_)
 ·simp (disch:=omega) only [SB.T,SI.den,wrapN] at hge
  refine X.go T132_ok 400 _ rfl Tryz.results132 ?_
  conv=>arg 2;cbv
  refine X.over T132_ok rfl (fun N w' v hN hS hv=>⟨?_,?_⟩)
  ·simp only [resV,SV.den,SV.denL,Option.some.injEq] at hv
   rw [←hv]
  ·rw [dif_pos (by omega)] at hFi
   rw [←hFi]
   exact Sat.arr hS hA hn hd1
 simp (disch:=omega) only [SB.F,SI.den,wrapN] at hlt
 have hlt:ch<hi:=by omega
 rw [dif_neg (by omega)] at hFi
 obtain ⟨x1,hx1⟩:∃ x,d1[f+ch]! = x:=⟨_,rfl⟩
 obtain ⟨x2,hx2⟩:∃ x,d1[f+ch+1]! = x:=⟨_,rfl⟩
 obtain ⟨t,ht⟩:∃ t,t=ltInt x1 x2:=⟨_,rfl⟩
 obtain ⟨o1,ho1⟩:∃ o,o=y+(f+ch):=⟨_,rfl⟩
 obtain ⟨o2,ho2⟩:∃ o,o=y+(f+ch+1):=⟨_,rfl⟩
 refine X.goP ([(26,.ext b o1 0),(27,.int .u8 (.v x1)),(33,.ext b o2 0),(34,.int .u8 (.v x2)),(35,.bool (.v t))]) T132_ok 400 _ rfl Tryz.results132 (fun pr fin hpr hfin=>?_)
 conv=>cbv
 refine ⟨hpr _ (less_call rfl ht),hpr _ (ValOk.im1 rfl Tryz.isAgg5 (fun _=>rfl) fun hT=>(by have hT:_=true:=hT;simp [SB.den,SI.den] at hT;(try replace hT:=of_decide_eq_true hT);(try simp (disch:=omega) only [SI.den,wrapN] at hT);rw [←hx2,ho2];exact arrM_in (by omega))),hpr _ (ValOk.im1 rfl Tryz.isAgg5 (fun _=>rfl) fun hT=>(by have hT:_=true:=hT;simp [SB.den,SI.den] at hT;(try replace hT:=of_decide_eq_true hT);(try simp (disch:=omega) only [SI.den,wrapN] at hT);rw [←hx1,ho1];exact arrM_in (by omega))),hpr _ (ValOk.at (z:=f+ch+1) rfl rfl (fun hT=>by have hT:_=true:=hT;simp [SB.den,SI.den] at hT;(try replace hT:=of_decide_eq_true hT);(try simp (disch:=omega) only [SI.den,wrapN] at hT);first | omega | (simp (disch:=omega) only [SI.den,wrapN]<;>omega)) Tryz.underlying30 Tryz.sizeOf5 (fun hT=>by have hT:_=true:=hT;simp [SB.den,SI.den] at hT;(try replace hT:=of_decide_eq_true hT);(try simp (disch:=omega) only [SI.den,wrapN] at hT);first | omega | (simp (disch:=omega) only [SI.den,wrapN]<;>omega)) hp (by omega)),hpr _ (ValOk.at (z:=f+ch) rfl rfl (fun hT=>by have hT:_=true:=hT;simp [SB.den,SI.den] at hT;(try replace hT:=of_decide_eq_true hT);(try simp (disch:=omega) only [SI.den,wrapN] at hT);first | omega | (simp (disch:=omega) only [SI.den,wrapN]<;>omega)) Tryz.underlying30 Tryz.sizeOf5 (fun hT=>by have hT:_=true:=hT;simp [SB.den,SI.den] at hT;(try replace hT:=of_decide_eq_true hT);(try simp (disch:=omega) only [SI.den,wrapN] at hT);first | omega | (simp (disch:=omega) only [SI.den,wrapN]<;>omega)) hp (by omega)),hfin _ _ ?_⟩
 refine X.cond rfl (fun hc=>?_) (fun hc=>?_)
 ·simp (disch:=omega) only [SB.T,SI.den,wrapN] at hc
  obtain ⟨hc1,hc2⟩:=hc
  rw [hx1,hx2,←ht,hc2,if_pos (by simp;omega),show 2*root+2=ch+1 by omega] at hFi
  have hFc:(if (!ltInt d1[f+root]! d1[f+(ch+1)]!)=true then d1 else siftDown ltInt hi f (ch+1) (swp d1 (f+root) (f+(ch+1))))=F:=by
   rw [←hFi]
   split
   ·rfl
   ·rw [dif_pos (by omega)]
  obtain ⟨c1,hc1'⟩:∃ k,k=ch+1:=⟨_,rfl⟩
  rw [←hc1'] at hFc
  refine X.go T132_ok 4 _ rfl Tryz.results132 ?_
  conv=>arg 2;cbv
  refine X.reval 9 (.int .i64 (.nat c1)) rfl (fun N _ v hv=>by rw [←hv];simp (disch:=omega) only [SV.den,SI.den,wrapN,Int.tdiv_eq_ediv_of_nonneg,Option.some.injEq,Value.int.injEq,true_and]<;>omega) ?_
  obtain ⟨xr,hxr⟩:∃ x,d1[f+root]! = x:=⟨_,rfl⟩
  obtain ⟨xc,hxc⟩:∃ x,d1[f+c1]! = x:=⟨_,rfl⟩
  obtain ⟨t2,ht2⟩:∃ t,t=ltInt xr xc:=⟨_,rfl⟩
  obtain ⟨or,hor⟩:∃ o,o=y+(f+root):=⟨_,rfl⟩
  obtain ⟨oc,hoc⟩:∃ o,o=y+(f+c1):=⟨_,rfl⟩
  refine X.goP ([(43,.ext b or 0),(44,.int .u8 (.v xr)),(49,.ext b oc 0),(50,.int .u8 (.v xc)),(51,.bool (.v t2))]) T132_ok 400 _ rfl Tryz.results132 (fun pr fin hpr hfin=>?_)
  conv=>cbv
  refine ⟨hpr _ (less_call rfl ht2),hpr _ (ValOk.im1 rfl Tryz.isAgg5 (fun _=>rfl) fun _=>(by rw [←hxc,hoc];exact arrM_in (by omega))),hpr _ (ValOk.im1 rfl Tryz.isAgg5 (fun _=>rfl) fun _=>(by rw [←hxr,hor];exact arrM_in (by omega))),hpr _ (ValOk.at (z:=f+c1) rfl rfl (fun _=>by first | rfl | (simp (disch:=omega) only [SB.den,SI.den,wrapN]<;>omega)) Tryz.underlying30 Tryz.sizeOf5 (fun _=>by omega) hp (by omega)),hpr _ (ValOk.at (z:=f+root) rfl rfl (fun _=>by first | rfl | (simp (disch:=omega) only [SB.den,SI.den,wrapN]<;>omega)) Tryz.underlying30 Tryz.sizeOf5 (fun _=>by omega) hp (by omega)),hfin _ _ ?_⟩
  refine X.cond rfl (fun hr=>?_) (fun hr=>?_)
  ·simp only [SB.T,SB.F] at hr
   subst hr
   refine X.go T132_ok 400 _ rfl Tryz.results132 ?_
   conv=>arg 2;cbv
   refine X.done T132_ok rfl (fun N w' v hN hS hv=>⟨?_,?_⟩)
   ·simp only [resV,SV.den,SV.denL,Option.some.injEq] at hv
    rw [←hv]
   ·rw [hxr,hxc,←ht2] at hFc
    simp only [Bool.not_false,if_true] at hFc
    rw [←hFc]
    exact Sat.arr hS hA hn hd1
  ·simp only [SB.T,SB.F] at hr
   subst hr
   refine X.take2 hA hn hd1 (i:=f+root) (j:=f+c1) (by omega) (by omega) (by omega) hxr hxc (by simp) (fun N1 _ hN1=>?_)
   have g0:((N1++[⟨b,y+(f+root),1⟩])++[⟨b,y+(f+c1),1⟩]:Nums)[0]?=some ⟨b,y+(f+root),1⟩:=num_old (num_last hN1)
   have g1:((N1++[⟨b,y+(f+root),1⟩])++[⟨b,y+(f+c1),1⟩]:Nums)[1]?=some ⟨b,y+(f+c1),1⟩:=num_last (by simp [hN1])
   refine X.goP ([(65,.own 1 0),(71,.own 0 0),(73,.own 0 0),(74,.own 1 0)]) T132_ok 400 _ rfl Tryz.results132 (fun pr fin hpr hfin=>?_)
   conv=>cbv
   refine ⟨hpr _ (ValOk.row (z:=f+c1) rfl rfl (fun _=>by first | rfl | (simp (disch:=omega) only [SB.den,SI.den,wrapN]<;>omega)) Tryz.underlying30 Tryz.sizeOf5 (by omega) hp g1 rfl (by simp)),hpr _ (ValOk.row (z:=f+root) rfl rfl (fun _=>by first | rfl | (simp (disch:=omega) only [SB.den,SI.den,wrapN]<;>omega)) Tryz.underlying30 Tryz.sizeOf5 (by omega) hp g0 rfl (by simp)),hpr _ (ValOk.row (z:=f+root) rfl rfl (fun _=>by first | rfl | (simp (disch:=omega) only [SB.den,SI.den,wrapN]<;>omega)) Tryz.underlying30 Tryz.sizeOf5 (by omega) hp g0 rfl (by simp)),hpr _ (ValOk.row (z:=f+c1) rfl rfl (fun _=>by first | rfl | (simp (disch:=omega) only [SB.den,SI.den,wrapN]<;>omega)) Tryz.underlying30 Tryz.sizeOf5 (by omega) hp g1 rfl (by simp)),hfin _ _ ?_⟩
   refine X.give2 (i:=f+root) (j:=f+c1) (r:=0) hd1 (by omega) (by omega) (by omega) hxr hxc rfl rfl g0 g1 ?_
   refine X.back (fun N ac w' hN hf hS=>hq ⟨(c1,swp d1 (f+root) (f+c1)),by rw [swpZ_size];exact hd1,by simp only;omega,?_⟩ ac w' (by simp only;omega) ?_)
   ·rw [hxr,hxc,←ht2] at hFc
    simp only [Bool.not_true,Bool.false_eq_true,if_false] at hFc
    exact hFc
   ·exact At.again hf hS (by repeat first | exact trivial | refine ⟨⟨_,rfl,.inl ⟨rfl,rfl⟩⟩,?_⟩ | refine ⟨⟨_,rfl,.inr ⟨_,rfl,rfl⟩⟩,?_⟩ | refine ⟨⟨_,rfl,.inr ⟨_,rfl,by simp (disch:=omega) [SV.den,SI.den,wrapU,wrapD]<;>omega⟩⟩,?_⟩) trivial
 ·simp (disch:=omega) only [SB.F,SI.den,wrapN] at hc
  rw [hx1,hx2,←ht,if_neg (by rcases hc with h | h;simp;omega;simp [h])] at hFi
  have hFc:(if (!ltInt d1[f+root]! d1[f+ch]!)=true then d1 else siftDown ltInt hi f ch (swp d1 (f+root) (f+ch)))=F:=by
   rw [hx1];exact hFi
  obtain ⟨xr,hxr⟩:∃ x,d1[f+root]! = x:=⟨_,rfl⟩
  obtain ⟨xc,hxc⟩:∃ x,d1[f+ch]! = x:=⟨_,rfl⟩
  obtain ⟨t2,ht2⟩:∃ t,t=ltInt xr xc:=⟨_,rfl⟩
  obtain ⟨or,hor⟩:∃ o,o=y+(f+root):=⟨_,rfl⟩
  obtain ⟨oc,hoc⟩:∃ o,o=y+(f+ch):=⟨_,rfl⟩
  refine X.goP ([(43,.ext b or 0),(44,.int .u8 (.v xr)),(49,.ext b oc 0),(50,.int .u8 (.v xc)),(51,.bool (.v t2))]) T132_ok 400 _ rfl Tryz.results132 (fun pr fin hpr hfin=>?_)
  conv=>cbv
  refine ⟨hpr _ (less_call rfl ht2),hpr _ (ValOk.im1 rfl Tryz.isAgg5 (fun _=>rfl) fun _=>(by rw [←hxc,hoc];exact arrM_in (by omega))),hpr _ (ValOk.im1 rfl Tryz.isAgg5 (fun _=>rfl) fun _=>(by rw [←hxr,hor];exact arrM_in (by omega))),hpr _ (ValOk.at (z:=f+ch) rfl rfl (fun _=>by first | rfl | (simp (disch:=omega) only [SB.den,SI.den,wrapN]<;>omega)) Tryz.underlying30 Tryz.sizeOf5 (fun _=>by omega) hp (by omega)),hpr _ (ValOk.at (z:=f+root) rfl rfl (fun _=>by first | rfl | (simp (disch:=omega) only [SB.den,SI.den,wrapN]<;>omega)) Tryz.underlying30 Tryz.sizeOf5 (fun _=>by omega) hp (by omega)),hfin _ _ ?_⟩
  refine X.cond rfl (fun hr=>?_) (fun hr=>?_)
  ·simp only [SB.T,SB.F] at hr
   subst hr
   refine X.go T132_ok 400 _ rfl Tryz.results132 ?_
   conv=>arg 2;cbv
   refine X.done T132_ok rfl (fun N w' v hN hS hv=>⟨?_,?_⟩)
   ·simp only [resV,SV.den,SV.denL,Option.some.injEq] at hv
    rw [←hv]
   ·rw [hxr,hxc,←ht2] at hFc
    simp only [Bool.not_false,if_true] at hFc
    rw [←hFc]
    exact Sat.arr hS hA hn hd1
  ·simp only [SB.T,SB.F] at hr
   subst hr
   refine X.take2 hA hn hd1 (i:=f+root) (j:=f+ch) (by omega) (by omega) (by omega) hxr hxc (by simp) (fun N1 _ hN1=>?_)
   have g0:((N1++[⟨b,y+(f+root),1⟩])++[⟨b,y+(f+ch),1⟩]:Nums)[0]?=some ⟨b,y+(f+root),1⟩:=num_old (num_last hN1)
   have g1:((N1++[⟨b,y+(f+root),1⟩])++[⟨b,y+(f+ch),1⟩]:Nums)[1]?=some ⟨b,y+(f+ch),1⟩:=num_last (by simp [hN1])
   refine X.goP ([(65,.own 1 0),(71,.own 0 0),(73,.own 0 0),(74,.own 1 0)]) T132_ok 400 _ rfl Tryz.results132 (fun pr fin hpr hfin=>?_)
   conv=>cbv
   refine ⟨hpr _ (ValOk.row (z:=f+ch) rfl rfl (fun _=>by first | rfl | (simp (disch:=omega) only [SB.den,SI.den,wrapN]<;>omega)) Tryz.underlying30 Tryz.sizeOf5 (by omega) hp g1 rfl (by simp)),hpr _ (ValOk.row (z:=f+root) rfl rfl (fun _=>by first | rfl | (simp (disch:=omega) only [SB.den,SI.den,wrapN]<;>omega)) Tryz.underlying30 Tryz.sizeOf5 (by omega) hp g0 rfl (by simp)),hpr _ (ValOk.row (z:=f+root) rfl rfl (fun _=>by first | rfl | (simp (disch:=omega) only [SB.den,SI.den,wrapN]<;>omega)) Tryz.underlying30 Tryz.sizeOf5 (by omega) hp g0 rfl (by simp)),hpr _ (ValOk.row (z:=f+ch) rfl rfl (fun _=>by first | rfl | (simp (disch:=omega) only [SB.den,SI.den,wrapN]<;>omega)) Tryz.underlying30 Tryz.sizeOf5 (by omega) hp g1 rfl (by simp)),hfin _ _ ?_⟩
   refine X.give2 (i:=f+root) (j:=f+ch) (r:=0) hd1 (by omega) (by omega) (by omega) hxr hxc rfl rfl g0 g1 ?_
   refine X.back (fun N ac w' hN hf hS=>hq ⟨(ch,swp d1 (f+root) (f+ch)),by rw [swpZ_size];exact hd1,by simp only;omega,?_⟩ ac w' (by simp only;omega) ?_)
   ·rw [hxr,hxc,←ht2] at hFc
    simp only [Bool.not_true,Bool.false_eq_true,if_false] at hFc
    exact hFc
   ·exact At.again hf hS (by repeat first | exact trivial | refine ⟨⟨_,rfl,.inl ⟨rfl,rfl⟩⟩,?_⟩ | refine ⟨⟨_,rfl,.inr ⟨_,rfl,rfl⟩⟩,?_⟩ | refine ⟨⟨_,rfl,.inr ⟨_,rfl,by simp (disch:=omega) [SV.den,SI.den,wrapU,wrapD]<;>omega⟩⟩,?_⟩) trivial
theorem heap8_ok (b y n c a e:Nat) (d:Array Int) (w:World) (hA:AtA w b y d) (hn:d.size=n) (hae:a≤e) (hen:e≤n) (hbig:n<4611686018427387904) :
  Calls Tryz.prog 115 #[.slice (some ⟨b,y,none⟩) n c,.int .i64 a,.int .i64 e] w (PostA b y n w (heapSort ltInt d a e)):=by
 obtain ⟨F,hF⟩:∃ F,F=heapSort ltInt d a e:=⟨_,rfl⟩
 rw [←hF]
 unfold heapSort at hF
 obtain ⟨p,hp⟩:∃ p,p=some (Addr.mk b y none):=⟨_,rfl⟩
 obtain ⟨hi,hhi⟩:∃ h,h=e-a:=⟨_,rfl⟩
 rw [←hhi] at hF
 rw [←hp]
 refine X.beginA hA hn (ss:=[.slv p n c,.int .i64 (.nat a),.int .i64 (.nat e)]) Tryz.func115 rfl B115_ok rfl rfl ?_
 refine X.go T115_ok 400 _ rfl Tryz.results115 ?_
 conv=>arg 2;cbv
 refine X.reval 8 (.int .i64 (.nat hi)) rfl (fun N _ v hv=>by rw [←hv];simp (disch:=omega) only [SV.den,SI.den,wrapN,Int.tdiv_eq_ediv_of_nonneg,Option.some.injEq,Value.int.injEq,true_and]<;>omega) ?_
 have hh:=half_start (a:=a) (b:=e) hae
 rw [←hhi] at hh
 refine X.reval 9 (.int .i64 (.v ((((hi-1) / 2+1:Nat):Int)-1))) rfl (fun N _ v hv=>by rw [←hv];simp (disch:=omega) only [SV.den,SI.den,wrapN];rw [hh]) ?_
 refine X.loop (fun g:{g:Nat × Array Int // g.2.size=n∧g.1≤n+1∧heapPop ltInt a hi (heapBuild ltInt hi a g.1 g.2)=F}=>aE Tryz.prog Tryz.f115 _ w b y n (wm w) g.1.2 [] B115)
  (fun g=>⟨[(0,.val (.slv p n c)),(6,.val (.int .i64 (.nat a))),(7,.val (.int .i64 (.lit 0))),(8,.val (.int .i64 (.nat hi))),(9,.val (.int .i64 (.v ((g.1.1:Int)-1))))],[]⟩) (fun g=>g.1.1) (fun _=>⟨rfl,rfl,rfl,rfl⟩)
  (fun N ac w' hN hf hS=>⟨⟨((hi-1) / 2+1,d),hn,by simp only;omega,hF.symm⟩,?_⟩) (fun g q hq=>?_)
 ·exact At.again hf hS (by repeat first | exact trivial | refine ⟨⟨_,rfl,.inl ⟨rfl,rfl⟩⟩,?_⟩ | refine ⟨⟨_,rfl,.inr ⟨_,rfl,rfl⟩⟩,?_⟩ | refine ⟨⟨_,rfl,.inr ⟨_,rfl,(by first | (simp (disch:=omega) only [SV.den,SI.den,wrapN,Option.some.injEq,Value.int.injEq,true_and];done) | (simp (disch:=omega) only [SV.den,SI.den,wrapN,Option.some.injEq,Value.int.injEq,true_and];omega))⟩⟩,?_⟩) trivial
 obtain ⟨⟨k,d1⟩,hd1,hk,hFi⟩:=g
 simp only at hd1 hk hFi
 obtain ⟨z,hz⟩:∃ z,z=(k:Int)-1:=⟨_,rfl⟩
 show X (aE Tryz.prog Tryz.f115 _ w b y n (wm w) d1 [] B115) _ ⟨[(0,.val (.slv p n c)),(6,.val (.int .i64 (.nat a))),(7,.val (.int .i64 (.lit 0))),(8,.val (.int .i64 (.nat hi))),(9,.val (.int .i64 (.v ((k:Int)-1))))],[]⟩
 rw [←hz]
 refine X.go T115_ok 400 _ rfl Tryz.results115 ?_
 conv=>arg 2;cbv
 refine X.cond rfl (fun hge=>?_) (fun hlt=>?_)
 ·simp only [SB.T,SI.den] at hge
  obtain ⟨m,rfl⟩:∃ m,k=m+1:=⟨k-1,by omega⟩
  refine X.go T115_ok 400 _ rfl Tryz.results115 ?_
  conv=>arg 2;cbv
  refine X.call rfl rfl rfl rfl Tryz.call132 (fun N w1 args hN hS ha=>?_)
  have ha:args=[.slice p n c,.int .i64 z,.int .i64 hi,.int .i64 a]:=(Option.some.inj ha).symm
  rw [ha]
  have key:=sift8_ok b y n c m hi a d1 w1 (Sat.arr hS hA hn hd1).1 hd1 (by omega) (by omega) hbig
  rw [←hp,←(show z=(m:Int) by omega)] at key
  refine Calls.mono key fun e w' ⟨he,hA',hc'⟩=>⟨_,he,Goes.arr hN hS hd1 (by rw [size_siftDown _ _ _ hi _ _ (by omega)];exact hd1) hA' hc' (by simp) (r:=.tup []) rfl rfl ?_⟩
  refine X.go T115_ok 400 _ rfl Tryz.results115 ?_
  conv=>arg 2;cbv
  refine X.back (fun N ac w' hN hf hS=>hq ⟨(m,siftDown ltInt hi a m d1),by simp only;rw [size_siftDown _ _ _ hi _ _ (by omega)];exact hd1,by simp only;omega,by rw [←hFi];rfl⟩ ac w' (by simp only;omega) ?_)
  exact At.again hf hS (by repeat first | exact trivial | refine ⟨⟨_,rfl,.inl ⟨rfl,rfl⟩⟩,?_⟩ | refine ⟨⟨_,rfl,.inr ⟨_,rfl,rfl⟩⟩,?_⟩ | refine ⟨⟨_,rfl,.inr ⟨_,rfl,(by first | (simp (disch:=omega) only [SV.den,SI.den,wrapN,Option.some.injEq,Value.int.injEq,true_and];done) | (simp (disch:=omega) only [SV.den,SI.den,wrapN,Option.some.injEq,Value.int.injEq,true_and];omega))⟩⟩,?_⟩) trivial
 simp only [SB.F,SI.den] at hlt
 obtain rfl:k=0:=by omega
 refine X.go T115_ok 400 _ rfl Tryz.results115 ?_
 conv=>arg 2;cbv
 have hFi:heapPop ltInt a hi d1=F:=hFi
 refine X.loop (fun g:{g:Nat × Array Int // g.2.size=n∧g.1≤hi∧heapPop ltInt a g.1 g.2=F}=>aE Tryz.prog Tryz.f115 _ w b y n (wm w) g.1.2 [] B115)
  (fun g=>⟨[(0,.val (.slv p n c)),(6,.val (.int .i64 (.nat a))),(7,.val (.int .i64 (.lit 0))),(10,.val (.int .i64 (.v ((g.1.1:Int)-1))))],[]⟩) (fun g=>g.1.1) (fun _=>⟨rfl,rfl,rfl,rfl⟩)
  (fun N ac w' hN hf hS=>⟨⟨(hi,d1),hd1,Nat.le_refl _,hFi⟩,?_⟩) (fun g q hq=>?_)
 ·exact At.again hf hS (by repeat first | exact trivial | refine ⟨⟨_,rfl,.inl ⟨rfl,rfl⟩⟩,?_⟩ | refine ⟨⟨_,rfl,.inr ⟨_,rfl,rfl⟩⟩,?_⟩ | refine ⟨⟨_,rfl,.inr ⟨_,rfl,(by first | (simp (disch:=omega) only [SV.den,SI.den,wrapN,Option.some.injEq,Value.int.injEq,true_and];done) | (simp (disch:=omega) only [SV.den,SI.den,wrapN,Option.some.injEq,Value.int.injEq,true_and];omega))⟩⟩,?_⟩) trivial
 obtain ⟨⟨k,d2⟩,hd2,hk2,hFj⟩:=g
 simp only at hd2 hk2 hFj
 obtain ⟨z2,hz2⟩:∃ z,z=(k:Int)-1:=⟨_,rfl⟩
 show X (aE Tryz.prog Tryz.f115 _ w b y n (wm w) d2 [] B115) _ ⟨[(0,.val (.slv p n c)),(6,.val (.int .i64 (.nat a))),(7,.val (.int .i64 (.lit 0))),(10,.val (.int .i64 (.v ((k:Int)-1))))],[]⟩
 rw [←hz2]
 refine X.go T115_ok 400 _ rfl Tryz.results115 ?_
 conv=>arg 2;cbv
 refine X.cond rfl (fun hge=>?_) (fun hlt2=>?_)
 ·simp only [SB.T,SI.den] at hge
  obtain ⟨m,rfl⟩:∃ m,k=m+1:=⟨k-1,by omega⟩
  obtain ⟨xi,hxi⟩:∃ x,d2[a]! = x:=⟨_,rfl⟩
  obtain ⟨xj,hxj⟩:∃ x,d2[a+m]! = x:=⟨_,rfl⟩
  by_cases hm:m=0
  ·refine X.take1 hA hn hd2 (i:=a) (by omega) hxi (by simp) (fun N1 _ hN1=>?_)
   have g0:(N1++[⟨b,y+a,1⟩]:Nums)[0]?=some ⟨b,y+a,1⟩:=num_last hN1
   refine X.goP ([(43,.own 0 0),(47,.own 0 0),(49,.own 0 0),(50,.own 0 0)]) T115_ok 400 _ rfl Tryz.results115 (fun pr fin hpr hfin=>?_)
   conv=>cbv
   refine ⟨hpr _ (ValOk.row (z:=a) rfl rfl (fun _=>by first | rfl | (simp (disch:=omega) only [SB.den,SI.den,wrapN]<;>omega)) Tryz.underlying30 Tryz.sizeOf5 (by omega) hp g0 rfl (by simp)),hpr _ (ValOk.row (z:=a) rfl rfl (fun _=>by first | rfl | (simp (disch:=omega) only [SB.den,SI.den,wrapN]<;>omega)) Tryz.underlying30 Tryz.sizeOf5 (by omega) hp g0 rfl (by simp)),hpr _ (ValOk.row (z:=a) rfl rfl (fun _=>by first | rfl | (simp (disch:=omega) only [SB.den,SI.den,wrapN]<;>omega)) Tryz.underlying30 Tryz.sizeOf5 (by omega) hp g0 rfl (by simp)),hpr _ (ValOk.row (z:=a) rfl rfl (fun _=>by first | rfl | (simp (disch:=omega) only [SB.den,SI.den,wrapN]<;>omega)) Tryz.underlying30 Tryz.sizeOf5 (by omega) hp g0 rfl (by simp)),hfin _ _ ?_⟩
   refine X.give1 (i:=a) (r:=0) hd2 (by omega) hxi rfl g0 ?_
   refine X.call rfl rfl rfl rfl Tryz.call132 (fun N w1 args hN hS ha=>?_)
   have ha:args=[.slice p n c,.int .i64 0,.int .i64 z2,.int .i64 a]:=(Option.some.inj ha).symm
   rw [ha]
   have hsf:swp d2 a (a+m)=d2:=by rw [hm];exact swpZ_self (by omega)
   have key:=sift8_ok b y n c 0 m a d2 w1 (Sat.arr hS hA hn hd2).1 hd2 (by omega) (by omega) hbig
   rw [←hp,←(show z2=(m:Int) by omega)] at key
   refine Calls.mono key fun e w' ⟨he,hA',hc'⟩=>⟨_,he,Goes.arr hN hS hd2 (by rw [size_siftDown _ _ _ m _ _ (by omega)];exact hd2) hA' hc' (by simp) (r:=.tup []) rfl rfl ?_⟩
   refine X.go T115_ok 400 _ rfl Tryz.results115 ?_
   conv=>arg 2;cbv
   refine X.back (fun N ac w' hN hf hS=>hq ⟨(m,siftDown ltInt m a 0 d2),by simp only;rw [size_siftDown _ _ _ m _ _ (by omega)];exact hd2,by simp only;omega,by rw [←hFj];show heapPop ltInt a m (siftDown ltInt m a 0 d2)=_;conv=>rhs;rw [heapPop,hsf]⟩ ac w' (by simp only;omega) ?_)
   exact At.again hf hS (by repeat first | exact trivial | refine ⟨⟨_,rfl,.inl ⟨rfl,rfl⟩⟩,?_⟩ | refine ⟨⟨_,rfl,.inr ⟨_,rfl,rfl⟩⟩,?_⟩ | refine ⟨⟨_,rfl,.inr ⟨_,rfl,(by first | (simp (disch:=omega) only [SV.den,SI.den,wrapN,Option.some.injEq,Value.int.injEq,true_and];done) | (simp (disch:=omega) only [SV.den,SI.den,wrapN,Option.some.injEq,Value.int.injEq,true_and];omega))⟩⟩,?_⟩) trivial
  ·refine X.take2 hA hn hd2 (i:=a) (j:=a+m) (by omega) (by omega) (by omega) hxi hxj (by simp) (fun N1 _ hN1=>?_)
   have g0:((N1++[⟨b,y+a,1⟩])++[⟨b,y+(a+m),1⟩]:Nums)[0]?=some ⟨b,y+a,1⟩:=num_old (num_last hN1)
   have g1:((N1++[⟨b,y+a,1⟩])++[⟨b,y+(a+m),1⟩]:Nums)[1]?=some ⟨b,y+(a+m),1⟩:=num_last (by simp [hN1])
   refine X.goP ([(43,.own 1 0),(47,.own 0 0),(49,.own 0 0),(50,.own 1 0)]) T115_ok 400 _ rfl Tryz.results115 (fun pr fin hpr hfin=>?_)
   conv=>cbv
   refine ⟨hpr _ (ValOk.row (z:=a+m) rfl rfl (fun _=>by first | rfl | (simp (disch:=omega) only [SB.den,SI.den,wrapN]<;>omega)) Tryz.underlying30 Tryz.sizeOf5 (by omega) hp g1 rfl (by simp)),hpr _ (ValOk.row (z:=a) rfl rfl (fun _=>by first | rfl | (simp (disch:=omega) only [SB.den,SI.den,wrapN]<;>omega)) Tryz.underlying30 Tryz.sizeOf5 (by omega) hp g0 rfl (by simp)),hpr _ (ValOk.row (z:=a) rfl rfl (fun _=>by first | rfl | (simp (disch:=omega) only [SB.den,SI.den,wrapN]<;>omega)) Tryz.underlying30 Tryz.sizeOf5 (by omega) hp g0 rfl (by simp)),hpr _ (ValOk.row (z:=a+m) rfl rfl (fun _=>by first | rfl | (simp (disch:=omega) only [SB.den,SI.den,wrapN]<;>omega)) Tryz.underlying30 Tryz.sizeOf5 (by omega) hp g1 rfl (by simp)),hfin _ _ ?_⟩
   refine X.give2 (i:=a) (j:=a+m) (r:=0) hd2 (by omega) (by omega) (by omega) hxi hxj rfl rfl g0 g1 ?_
   refine X.call rfl rfl rfl rfl Tryz.call132 (fun N w1 args hN hS ha=>?_)
   have ha:args=[.slice p n c,.int .i64 0,.int .i64 z2,.int .i64 a]:=(Option.some.inj ha).symm
   rw [ha]
   have hd3:(swp d2 a (a+m)).size=n:=by rw [swpZ_size];exact hd2
   have key:=sift8_ok b y n c 0 m a (swp d2 a (a+m)) w1 (Sat.arr hS hA hn hd3).1 hd3 (by omega) (by omega) hbig
   rw [←hp,←(show z2=(m:Int) by omega)] at key
   refine Calls.mono key fun e w' ⟨he,hA',hc'⟩=>⟨_,he,Goes.arr hN hS hd3 (by rw [size_siftDown _ _ _ m _ _ (by omega)];exact hd3) hA' hc' (by simp) (r:=.tup []) rfl rfl ?_⟩
   refine X.go T115_ok 400 _ rfl Tryz.results115 ?_
   conv=>arg 2;cbv
   refine X.back (fun N ac w' hN hf hS=>hq ⟨(m,siftDown ltInt m a 0 (swp d2 a (a+m))),by simp only;rw [size_siftDown _ _ _ m _ _ (by omega)];exact hd3,by simp only;omega,by rw [←hFj,heapPop]⟩ ac w' (by simp only;omega) ?_)
   exact At.again hf hS (by repeat first | exact trivial | refine ⟨⟨_,rfl,.inl ⟨rfl,rfl⟩⟩,?_⟩ | refine ⟨⟨_,rfl,.inr ⟨_,rfl,rfl⟩⟩,?_⟩ | refine ⟨⟨_,rfl,.inr ⟨_,rfl,(by first | (simp (disch:=omega) only [SV.den,SI.den,wrapN,Option.some.injEq,Value.int.injEq,true_and];done) | (simp (disch:=omega) only [SV.den,SI.den,wrapN,Option.some.injEq,Value.int.injEq,true_and];omega))⟩⟩,?_⟩) trivial
 simp only [SB.F,SI.den] at hlt2
 obtain rfl:k=0:=by omega
 refine X.go T115_ok 400 _ rfl Tryz.results115 ?_
 conv=>arg 2;cbv
 refine X.over T115_ok rfl (fun N w' v hN hS hv=>⟨?_,?_⟩)
 ·simp only [resV,SV.den,SV.denL,Option.some.injEq] at hv
  rw [←hv]
 ·have hFj:d2=F:=hFj
  rw [←hFj]
  exact Sat.arr hS hA hn hd2
theorem AtA.chg {w w':World} {b y:Nat} {d:Array Int} {O:Nat→Nat→Prop} (h:AtA w b y d) (hc:Chg O w w') (hO:∀ q,q<d.size→¬O b (y+q)):AtA w' b y d:=fun k hk=>by
 obtain ⟨h1,h2⟩:=h k hk
 exact ⟨cell_of_chg hc (hO k hk) h1,by rw [frozen_of_chg hc _ (by rw [h1];rfl)];exact h2⟩
theorem im_arr {w:World} {b y bs os q:Nat} {d:Array Int} {cs:List SV} (hA:AtA w b y d) (hb:bs≠b) (hq:q<d.size):elsewhere [⟨bs,os,1⟩] [⟨true,cs,none⟩] w b (y+q)=some (.int .u8 d[q]!):=by
 rw [elsewhere_not (fun ⟨r,g,p,hg,hp,_,h1,_⟩=>by
  cases r with
  | zero=>simp at hp;subst hp;exact hb h1.symm
  | succ r=>simp at hg)]
 exact (hA q hq).1
def PostC (bs os s:Nat) (w:World) (v:Value):Ending→World→Prop:=fun e w'=>e=.returned v∧w'.cell? ⟨bs,os,none⟩=some (.int .i64 s)∧Chg (fun k i=>k=bs∧os≤i∧i<os+1) w w'
theorem order2_lt {d:Array Int} {i j s n:Nat} (hi:i<n) (hj:j<n):(order2 ltInt d i j s).1<n∧(order2 ltInt d i j s).2.1<n∧(order2 ltInt d i j s).2.2≤s+1:=by
 unfold order2
 split<;>exact ⟨by assumption,by assumption,by simp⟩
theorem order8_ok (b y n c i j bs os s:Nat) (d:Array Int) (w:World) (hA:AtA w b y d) (hn:d.size=n) (hi:i<n) (hj:j<n) (hbig:n<4611686018427387904) (hb:bs≠b) (hs:s<1000) (h1:w.cell? ⟨bs,os,none⟩=some (.int .i64 s)) (h2:w.frozen? ⟨bs,os,none⟩=false) :
  Calls Tryz.prog 138 #[.slice (some ⟨b,y,none⟩) n c,.int .i64 i,.int .i64 j,.pointer (some ⟨bs,os,none⟩)] w (PostC bs os (order2 ltInt d i j s).2.2 w (.tuple #[.int .i64 (order2 ltInt d i j s).1,.int .i64 (order2 ltInt d i j s).2.1])):=by
 obtain ⟨p,hp⟩:∃ p,p=some (Addr.mk b y none):=⟨_,rfl⟩
 rw [←hp]
 refine X.begin (rg:=[⟨true,[.int .i64 (.nat s)],none⟩]) (N:=[⟨bs,os,1⟩]) (ss:=[.slv p n c,.int .i64 (.nat i),.int .i64 (.nat j),.own 0 0]) Tryz.func138 rfl B138_ok rfl rfl (Sat.std1 true (World.block_lt_of_cell? _ _ h1) (fun q c hq=>by cases q with
  | zero=>simp at hq;subst hq;exact ⟨_,rfl,h1⟩
  | succ q=>simp at hq) (fun _ q hq=>by simp at hq;subst hq;exact h2)) ?_
 obtain ⟨im,hime⟩:∃ im,im=elsewhere [⟨bs,os,1⟩] [⟨true,[.int .i64 (.nat s)],none⟩] w:=⟨_,rfl⟩
 have him:∀ q,q<d.size→im b (y+q)=some (.int .u8 d[q]!):=fun q hq=>by rw [hime];exact im_arr hA hb hq
 show X (mkE Tryz.prog Tryz.f138 _ w (InR [⟨bs,os,1⟩] [⟨true,[.int .i64 (.nat s)],none⟩]) (elsewhere [⟨bs,os,1⟩] [⟨true,[.int .i64 (.nat s)],none⟩] w) (fun _ _=>False) (fun _=>True) _ B138) _ _
 rw [←hime]
 obtain ⟨xi,hxi⟩:∃ x,d[i]! = x:=⟨_,rfl⟩
 obtain ⟨xj,hxj⟩:∃ x,d[j]! = x:=⟨_,rfl⟩
 obtain ⟨t,ht⟩:∃ t,t=ltInt xj xi:=⟨_,rfl⟩
 obtain ⟨oi,hoi⟩:∃ o,o=y+i:=⟨_,rfl⟩
 obtain ⟨oj,hoj⟩:∃ o,o=y+j:=⟨_,rfl⟩
 refine X.goP ([(12,.ext b oj 0),(13,.int .u8 (.v xj)),(16,.ext b oi 0),(17,.int .u8 (.v xi)),(18,.bool (.v t))]) T138_ok 400 _ rfl Tryz.results138 (fun pr fin hpr hfin=>?_)
 conv=>cbv
 refine ⟨hpr _ (less_call rfl ht),hpr _ (ValOk.im1 rfl Tryz.isAgg5 (fun _=>rfl) fun _=>(by rw [←hxi,hoi];exact him _ (by omega))),hpr _ (ValOk.im1 rfl Tryz.isAgg5 (fun _=>rfl) fun _=>(by rw [←hxj,hoj];exact him _ (by omega))),hpr _ (ValOk.at (z:=i) rfl rfl (fun _=>by first | rfl | (simp (disch:=omega) only [SB.den,SI.den,wrapN]<;>omega)) Tryz.underlying30 Tryz.sizeOf5 (fun _=>by omega) hp (by omega)),hpr _ (ValOk.at (z:=j) rfl rfl (fun _=>by first | rfl | (simp (disch:=omega) only [SB.den,SI.den,wrapN]<;>omega)) Tryz.underlying30 Tryz.sizeOf5 (fun _=>by omega) hp (by omega)),hfin _ _ ?_⟩
 have ho:order2 ltInt d i j s=if t=true then (j,i,s+1) else (i,j,s):=by unfold order2;rw [hxi,hxj,←ht]
 refine X.cond rfl (fun hT=>?_) (fun hT=>?_)
 ·simp only [SB.T] at hT
  rw [if_pos hT] at ho
  rw [ho]
  refine X.go T138_ok 400 _ rfl Tryz.results138 ?_
  conv=>arg 2;cbv
  refine X.done T138_ok rfl (fun N w' v hN hS hv=>⟨?_,?_,hS.chg.rw1⟩)
  ·simp only [resV,SV.den,SV.denL,SI.den,Option.some.injEq] at hv
   rw [←hv]
  ·obtain ⟨v0,k1,k2⟩:=hS.cell 0 _ _ rfl (hN 0 _ rfl) 0 _ rfl
   simp (disch:=omega) only [SV.den,SI.den,wrapN,Option.some.injEq] at k1
   subst k1
   exact k2
 ·simp only [SB.F] at hT
  rw [if_neg (by rw [hT];simp)] at ho
  rw [ho]
  refine X.go T138_ok 400 _ rfl Tryz.results138 ?_
  conv=>arg 2;cbv
  refine X.done T138_ok rfl (fun N w' v hN hS hv=>⟨?_,?_,hS.chg.rw1⟩)
  ·simp only [resV,SV.den,SV.denL,SI.den,Option.some.injEq] at hv
   rw [←hv]
  ·obtain ⟨v0,k1,k2⟩:=hS.cell 0 _ _ rfl (hN 0 _ rfl) 0 _ rfl
   simp only [SV.den,SI.den,Option.some.injEq] at k1
   subst k1
   exact k2
theorem median8_ok (b y n c i j k bs os s:Nat) (d:Array Int) (w:World) (hA:AtA w b y d) (hn:d.size=n) (hi:i<n) (hj:j<n) (hk:k<n) (hbig:n<4611686018427387904) (hb:bs≠b) (hs:s<900) (h1:w.cell? ⟨bs,os,none⟩=some (.int .i64 s)) (h2:w.frozen? ⟨bs,os,none⟩=false) :
  Calls Tryz.prog 134 #[.slice (some ⟨b,y,none⟩) n c,.int .i64 i,.int .i64 j,.int .i64 k,.pointer (some ⟨bs,os,none⟩)] w (PostC bs os (median ltInt d i j k s).2 w (.int .i64 (median ltInt d i j k s).1)):=by
 obtain ⟨p,hp⟩:∃ p,p=some (Addr.mk b y none):=⟨_,rfl⟩
 obtain ⟨r1,hr1⟩:∃ r,r=order2 ltInt d i j s:=⟨_,rfl⟩
 obtain ⟨r2,hr2⟩:∃ r,r=order2 ltInt d r1.2.1 k r1.2.2:=⟨_,rfl⟩
 obtain ⟨r3,hr3⟩:∃ r,r=order2 ltInt d r1.1 r2.1 r2.2.2:=⟨_,rfl⟩
 have hm:median ltInt d i j k s=(r3.2.1,r3.2.2):=by unfold median;simp only [←hr1,←hr2,←hr3]
 have b1:=order2_lt (d:=d) (s:=s) hi hj
 rw [←hr1] at b1
 have b2:=order2_lt (d:=d) (s:=r1.2.2) b1.2.1 hk
 rw [←hr2] at b2
 have b3:=order2_lt (d:=d) (s:=r2.2.2) b1.1 b2.1
 rw [←hr3] at b3
 have c1:∀ w1,AtA w1 b y d→_:=fun w1 hA1=>order8_ok b y n c i j bs os s d w1 hA1 hn hi hj hbig hb (by omega)
 have c2:∀ w1,AtA w1 b y d→_:=fun w1 hA1=>order8_ok b y n c r1.2.1 k bs os r1.2.2 d w1 hA1 hn b1.2.1 hk hbig hb (by omega)
 have c3:∀ w1,AtA w1 b y d→_:=fun w1 hA1=>order8_ok b y n c r1.1 r2.1 bs os r2.2.2 d w1 hA1 hn b1.1 b2.1 hbig hb (by omega)
 rw [←hr1] at c1
 rw [←hr2] at c2
 rw [←hr3] at c3
 rw [←hp] at c1 c2 c3
 rw [hm,←hp]
 clear hm hr1 hr2 hr3
 obtain ⟨i1,j1,s1⟩:=r1
 obtain ⟨i2,j2,s2⟩:=r2
 obtain ⟨i3,j3,s3⟩:=r3
 simp only at b1 b2 b3 c1 c2 c3 ⊢
 refine X.begin (rg:=[⟨true,[.int .i64 (.nat s)],none⟩]) (N:=[⟨bs,os,1⟩]) (ss:=[.slv p n c,.int .i64 (.nat i),.int .i64 (.nat j),.int .i64 (.nat k),.own 0 0]) Tryz.func134 rfl B134_ok rfl rfl (Sat.std1 true (World.block_lt_of_cell? _ _ h1) (fun q c hq=>by cases q with
  | zero=>simp at hq;subst hq;exact ⟨_,rfl,h1⟩
  | succ q=>simp at hq) (fun _ q hq=>by simp at hq;subst hq;exact h2)) ?_
 have inv:∀ {N:Nums} {rg:List Rg} {w1:World} {im:Mem},Sat (mkE Tryz.prog Tryz.f134 (PostC bs os s3 w (.int .i64 j3)) w (InR [⟨bs,os,1⟩] [⟨true,[.int .i64 (.nat s)],none⟩]) im (fun _ _=>False) (fun _=>True) [⟨bs,os,1⟩] B134).toEnv N rg w1→AtA w1 b y d∧w1.frozen? ⟨bs,os,none⟩=false:=fun hS=>⟨hA.chg hS.chg.rw1 (fun q _ h=>hb h.1.symm),frozen_stays hS.chg (by rw [h1];rfl) h2⟩
 refine X.go T134_ok 400 _ rfl Tryz.results134 ?_
 conv=>arg 2;cbv
 refine X.call rfl rfl rfl rfl Tryz.call138 (fun N w1 args hN hS ha=>?_)
 have hp0:N[0]?=some ⟨bs,os,1⟩:=hN 0 _ rfl
 have cell0:w1.cell? ⟨bs,os,none⟩=some (.int .i64 s):=by
  obtain ⟨v0,k1,k2⟩:=hS.cell 0 _ _ rfl hp0 0 _ rfl
  simp only [SV.den,SI.den,Option.some.injEq] at k1
  subst k1
  exact k2
 simp only [SV.denL,SV.den,hp0,SI.den,Option.some.injEq] at ha
 subst ha
 obtain ⟨hA1,hz1⟩:=inv hS
 refine Calls.mono (c1 w1 hA1 cell0 hz1) fun e w' ⟨he,hcell,hc'⟩=>⟨_,he,Goes.cells (r:=0) hN hS rfl hp0 rfl hc' [.int .i64 (.nat s1)] (by simp) (fun q c hq=>by cases q with
  | zero=>simp at hq;subst hq;exact ⟨_,rfl,hcell⟩
  | succ q=>simp at hq) (rv:=.tup [.int .i64 (.nat i1),.int .i64 (.nat j1)]) rfl rfl ?_⟩
 refine X.go T134_ok 400 _ rfl Tryz.results134 ?_
 conv=>arg 2;cbv
 refine X.call rfl rfl rfl rfl Tryz.call138 (fun N w1 args hN hS ha=>?_)
 have hp0:N[0]?=some ⟨bs,os,1⟩:=hN 0 _ rfl
 have cell0:w1.cell? ⟨bs,os,none⟩=some (.int .i64 s1):=by
  obtain ⟨v0,k1,k2⟩:=hS.cell 0 _ _ rfl hp0 0 _ rfl
  simp only [SV.den,SI.den,Option.some.injEq] at k1
  subst k1
  exact k2
 simp only [SV.denL,SV.den,hp0,SI.den,Option.some.injEq] at ha
 subst ha
 obtain ⟨hA1,hz1⟩:=inv hS
 refine Calls.mono (c2 w1 hA1 cell0 hz1) fun e w' ⟨he,hcell,hc'⟩=>⟨_,he,Goes.cells (r:=0) hN hS rfl hp0 rfl hc' [.int .i64 (.nat s2)] (by simp) (fun q c hq=>by cases q with
  | zero=>simp at hq;subst hq;exact ⟨_,rfl,hcell⟩
  | succ q=>simp at hq) (rv:=.tup [.int .i64 (.nat i2),.int .i64 (.nat j2)]) rfl rfl ?_⟩
 refine X.go T134_ok 400 _ rfl Tryz.results134 ?_
 conv=>arg 2;cbv
 refine X.call rfl rfl rfl rfl Tryz.call138 (fun N w1 args hN hS ha=>?_)
 have hp0:N[0]?=some ⟨bs,os,1⟩:=hN 0 _ rfl
 have cell0:w1.cell? ⟨bs,os,none⟩=some (.int .i64 s2):=by
  obtain ⟨v0,k1,k2⟩:=hS.cell 0 _ _ rfl hp0 0 _ rfl
  simp only [SV.den,SI.den,Option.some.injEq] at k1
  subst k1
  exact k2
 simp only [SV.denL,SV.den,hp0,SI.den,Option.some.injEq] at ha
 subst ha
 obtain ⟨hA1,hz1⟩:=inv hS
 refine Calls.mono (c3 w1 hA1 cell0 hz1) fun e w' ⟨he,hcell,hc'⟩=>⟨_,he,Goes.cells (r:=0) hN hS rfl hp0 rfl hc' [.int .i64 (.nat s3)] (by simp) (fun q c hq=>by cases q with
  | zero=>simp at hq;subst hq;exact ⟨_,rfl,hcell⟩
  | succ q=>simp at hq) (rv:=.tup [.int .i64 (.nat i3),.int .i64 (.nat j3)]) rfl rfl ?_⟩
 refine X.go T134_ok 400 _ rfl Tryz.results134 ?_
 conv=>arg 2;cbv
 refine X.done T134_ok rfl (fun N w' v hN hS hv=>⟨?_,?_,hS.chg.rw1⟩)
 ·simp only [resV,SV.den,SV.denL,SI.den,Option.some.injEq] at hv
  rw [←hv]
 ·obtain ⟨v0,k1,k2⟩:=hS.cell 0 _ _ rfl (hN 0 _ rfl) 0 _ rfl
  simp only [SV.den,SI.den,Option.some.injEq] at k1
  subst k1
  exact k2
theorem adj8_ok (b y n c i bs os s:Nat) (d:Array Int) (w:World) (hA:AtA w b y d) (hn:d.size=n) (hi1:1≤i) (hi:i+1<n) (hbig:n<4611686018427387904) (hb:bs≠b) (hs:s<900) (h1:w.cell? ⟨bs,os,none⟩=some (.int .i64 s)) (h2:w.frozen? ⟨bs,os,none⟩=false) :
  Calls Tryz.prog 133 #[.slice (some ⟨b,y,none⟩) n c,.int .i64 i,.pointer (some ⟨bs,os,none⟩)] w (PostC bs os (medianAdjacent ltInt d i s).2 w (.int .i64 (medianAdjacent ltInt d i s).1)):=by
 obtain ⟨p,hp⟩:∃ p,p=some (Addr.mk b y none):=⟨_,rfl⟩
 obtain ⟨r1,hr1⟩:∃ r,r=medianAdjacent ltInt d i s:=⟨_,rfl⟩
 obtain ⟨i0,hi0⟩:∃ r,r=i-1:=⟨_,rfl⟩
 obtain ⟨i2,hi2⟩:∃ r,r=i+1:=⟨_,rfl⟩
 have c1:∀ w1,AtA w1 b y d→_:=fun w1 hA1=>median8_ok b y n c i0 i i2 bs os s d w1 hA1 hn (by omega) (by omega) (by omega) hbig hb (by omega)
 rw [←hr1]
 unfold medianAdjacent at hr1
 rw [←hi0,←hi2] at hr1
 rw [←hr1,←hp] at c1
 rw [←hp]
 clear hr1
 obtain ⟨m1,s1⟩:=r1
 simp only at c1 ⊢
 refine X.begin (rg:=[⟨true,[.int .i64 (.nat s)],none⟩]) (N:=[⟨bs,os,1⟩]) (ss:=[.slv p n c,.int .i64 (.nat i),.own 0 0]) Tryz.func133 rfl B133_ok rfl rfl (Sat.std1 true (World.block_lt_of_cell? _ _ h1) (fun q c hq=>by cases q with
  | zero=>simp at hq;subst hq;exact ⟨_,rfl,h1⟩
  | succ q=>simp at hq) (fun _ q hq=>by simp at hq;subst hq;exact h2)) ?_
 refine X.go T133_ok 400 _ rfl Tryz.results133 ?_
 conv=>arg 2;cbv
 refine X.reval 9 (.int .i64 (.nat i0)) rfl (fun N _ v hv=>by rw [←hv];simp (disch:=omega) only [SV.den,SI.den,wrapN,Int.tdiv_eq_ediv_of_nonneg,Option.some.injEq,Value.int.injEq,true_and]<;>omega) ?_
 refine X.reval 12 (.int .i64 (.nat i2)) rfl (fun N _ v hv=>by rw [←hv];simp (disch:=omega) only [SV.den,SI.den,wrapN,Int.tdiv_eq_ediv_of_nonneg,Option.some.injEq,Value.int.injEq,true_and]<;>omega) ?_
 refine X.call rfl rfl rfl rfl Tryz.call134 (fun N w1 args hN hS ha=>?_)
 have hp0:N[0]?=some ⟨bs,os,1⟩:=hN 0 _ rfl
 have cell0:w1.cell? ⟨bs,os,none⟩=some (.int .i64 s):=by
  obtain ⟨v0,k1,k2⟩:=hS.cell 0 _ _ rfl hp0 0 _ rfl
  simp only [SV.den,SI.den,Option.some.injEq] at k1
  subst k1
  exact k2
 simp only [SV.denL,SV.den,hp0,SI.den,Option.some.injEq] at ha
 subst ha
 have hA1:=hA.chg hS.chg.rw1 (fun q _ h=>hb h.1.symm)
 have hz1:w1.frozen? ⟨bs,os,none⟩=false:=frozen_stays hS.chg (by rw [h1];rfl) h2
 refine Calls.mono (c1 w1 hA1 cell0 hz1) fun e w' ⟨he,hcell,hc'⟩=>⟨_,he,Goes.cells (r:=0) hN hS rfl hp0 rfl hc' [.int .i64 (.nat s1)] (by simp) (fun q c hq=>by cases q with
  | zero=>simp at hq;subst hq;exact ⟨_,rfl,hcell⟩
  | succ q=>simp at hq) (rv:=.int .i64 (.nat m1)) rfl rfl ?_⟩
 refine X.go T133_ok 400 _ rfl Tryz.results133 ?_
 conv=>arg 2;cbv
 refine X.done T133_ok rfl (fun N w' v hN hS hv=>⟨?_,?_,hS.chg.rw1⟩)
 ·simp only [resV,SV.den,SV.denL,SI.den,Option.some.injEq] at hv
  rw [←hv]
 ·obtain ⟨v0,k1,k2⟩:=hS.cell 0 _ _ rfl (hN 0 _ rfl) 0 _ rfl
  simp only [SV.den,SI.den,Option.some.injEq] at k1
  subst k1
  exact k2
theorem median_lt {d:Array Int} {i j k s n:Nat} (hi:i<n) (hj:j<n) (hk:k<n):(median ltInt d i j k s).1<n∧(median ltInt d i j k s).2≤s+3:=by
 have b1:=order2_lt (d:=d) (s:=s) hi hj
 have b2:=order2_lt (d:=d) (s:=(order2 ltInt d i j s).2.2) b1.2.1 hk
 have b3:=order2_lt (d:=d) (s:=(order2 ltInt d (order2 ltInt d i j s).2.1 k (order2 ltInt d i j s).2.2).2.2) b1.1 b2.1
 unfold median
 exact ⟨b3.2.1,Nat.le_trans b3.2.2 (Nat.le_trans (Nat.succ_le_succ b2.2.2) (Nat.succ_le_succ (Nat.succ_le_succ b1.2.2)))⟩
def hintZ:Hint→Int
 | .unknown=>0
 | .increasing=>1
 | .decreasing=>2
theorem pivot8_ok (b y n c a e:Nat) (d:Array Int) (w:World) (hA:AtA w b y d) (hn:d.size=n) (hae:a<e) (hen:e≤n) (hbig:n<4611686018427387904) :
  Calls Tryz.prog 117 #[.slice (some ⟨b,y,none⟩) n c,.int .i64 a,.int .i64 e] w fun en w'=>en=.returned (.tuple #[.int .i64 (choosePivot ltInt d a e).1,.int .i64 (hintZ (choosePivot ltInt d a e).2)])∧Chg (fun _ _=>False) w w':=by
 obtain ⟨p,hp⟩:∃ p,p=some (Addr.mk b y none):=⟨_,rfl⟩
 obtain ⟨l,hl⟩:∃ l,l=e-a:=⟨_,rfl⟩
 obtain ⟨i0,hi0⟩:∃ r,r=a+l / 4*1:=⟨_,rfl⟩
 obtain ⟨j0,hj0⟩:∃ r,r=a+l / 4*2:=⟨_,rfl⟩
 obtain ⟨k0,hk0⟩:∃ r,r=a+l / 4*3:=⟨_,rfl⟩
 have hbw:b<w.heap.size:=World.block_lt_of_cell? _ _ (hA 0 (by omega)).1
 unfold choosePivot
 simp only [←hl,←hi0,←hj0,←hk0]
 rw [←hp]
 obtain ⟨Q,hQ⟩:∃ Q:Ending→World→Prop,Q=fun en w'=>en=.returned (.tuple #[.int .i64 (if l ≥ 8 then if l ≥ 50 then median ltInt d (medianAdjacent ltInt d i0 0).1 (medianAdjacent ltInt d j0 (medianAdjacent ltInt d i0 0).2).1 (medianAdjacent ltInt d k0 (medianAdjacent ltInt d j0 (medianAdjacent ltInt d i0 0).2).2).1 (medianAdjacent ltInt d k0 (medianAdjacent ltInt d j0 (medianAdjacent ltInt d i0 0).2).2).2 else median ltInt d i0 j0 k0 0 else (j0,0)).1,
  .int .i64 (hintZ (if (if l ≥ 8 then if l ≥ 50 then median ltInt d (medianAdjacent ltInt d i0 0).1 (medianAdjacent ltInt d j0 (medianAdjacent ltInt d i0 0).2).1 (medianAdjacent ltInt d k0 (medianAdjacent ltInt d j0 (medianAdjacent ltInt d i0 0).2).2).1 (medianAdjacent ltInt d k0 (medianAdjacent ltInt d j0 (medianAdjacent ltInt d i0 0).2).2).2 else median ltInt d i0 j0 k0 0 else (j0,0)).2=0 then .increasing else if (if l ≥ 8 then if l ≥ 50 then median ltInt d (medianAdjacent ltInt d i0 0).1 (medianAdjacent ltInt d j0 (medianAdjacent ltInt d i0 0).2).1 (medianAdjacent ltInt d k0 (medianAdjacent ltInt d j0 (medianAdjacent ltInt d i0 0).2).2).1 (medianAdjacent ltInt d k0 (medianAdjacent ltInt d j0 (medianAdjacent ltInt d i0 0).2).2).2 else median ltInt d i0 j0 k0 0 else (j0,0)).2=12 then .decreasing else .unknown))])∧Chg (fun _ _=>False) w w':=⟨_,rfl⟩
 suffices hs:Calls Tryz.prog 117 #[.slice p n c,.int .i64 a,.int .i64 e] w Q by rw [hQ] at hs;exact hs
 have fin:∀ (m s:Nat),(if l ≥ 8 then if l ≥ 50 then median ltInt d (medianAdjacent ltInt d i0 0).1 (medianAdjacent ltInt d j0 (medianAdjacent ltInt d i0 0).2).1 (medianAdjacent ltInt d k0 (medianAdjacent ltInt d j0 (medianAdjacent ltInt d i0 0).2).2).1 (medianAdjacent ltInt d k0 (medianAdjacent ltInt d j0 (medianAdjacent ltInt d i0 0).2).2).2 else median ltInt d i0 j0 k0 0 else (j0,0))=(m,s)→Q=fun en w'=>en=.returned (.tuple #[.int .i64 m,.int .i64 (hintZ (if s=0 then .increasing else if s=12 then .decreasing else .unknown))])∧Chg (fun _ _=>False) w w':=fun m s h=>by rw [hQ,h]
 clear hQ
 refine X.begin (rg:=[]) (N:=[]) (ss:=[.slv p n c,.int .i64 (.nat a),.int .i64 (.nat e)]) Tryz.func117 rfl B117_ok rfl rfl Sat.std0 ?_
 refine X.go T117_ok 400 _ rfl Tryz.results117 ?_
 conv=>arg 2;cbv
 refine X.reval 8 (.int .i64 (.nat l)) rfl (fun N _ v hv=>by rw [←hv];simp (disch:=omega) only [SV.den,SI.den,wrapN,Int.tdiv_eq_ediv_of_nonneg,Option.some.injEq,Value.int.injEq,true_and]<;>omega) ?_
 refine X.reval 10 (.int .i64 (.nat i0)) rfl (fun N _ v hv=>by rw [←hv];simp (disch:=omega) only [SV.den,SI.den,wrapN,Int.tdiv_eq_ediv_of_nonneg,Option.some.injEq,Value.int.injEq,true_and]<;>omega) ?_
 refine X.reval 11 (.int .i64 (.nat j0)) rfl (fun N _ v hv=>by rw [←hv];simp (disch:=omega) only [SV.den,SI.den,wrapN,Int.tdiv_eq_ediv_of_nonneg,Option.some.injEq,Value.int.injEq,true_and]<;>omega) ?_
 refine X.reval 12 (.int .i64 (.nat k0)) rfl (fun N _ v hv=>by rw [←hv];simp (disch:=omega) only [SV.den,SI.den,wrapN,Int.tdiv_eq_ediv_of_nonneg,Option.some.injEq,Value.int.injEq,true_and]<;>omega) ?_
 refine X.namesP (fun N=>∃ pn:Num,N[0]?=some pn∧pn.b≠b∧1≤pn.x) (fun N w1 _ hS=>?_) (fun N1 _ _ hP=>?_)
 ·obtain ⟨pn,hpn⟩:∃ pn,N[0]?=some pn:=⟨_,List.getElem?_eq_getElem (by rw [hS.len];simp)⟩
  refine ⟨pn,hpn,?_,hS.ext 0 _ pn rfl hpn rfl⟩
  rcases hS.foot 0 _ pn rfl hpn rfl with h | h
  ·intro e
   have h:w.heap.size≤pn.b:=h
   omega
  ·exact (inR_nil (h 0 (hS.ext 0 _ pn rfl hpn rfl))).elim
 obtain ⟨pn,hpA,hpb,hx1⟩:=hP
 refine X.cond rfl (fun h8=>?_) (fun h8=>?_)
 ·simp (disch:=omega) only [SB.T,SI.den,wrapN] at h8
  refine X.go T117_ok 400 _ rfl Tryz.results117 ?_
  conv=>arg 2;cbv
  refine X.cond rfl (fun h50=>?_) (fun h50=>?_)
  ·simp (disch:=omega) only [SB.T,SI.den,wrapN] at h50
   have c1:∀ w1,AtA w1 b y d→_:=fun w1 hA1=>adj8_ok b y n c i0 pn.b pn.o 0 d w1 hA1 hn (by omega) (by omega) hbig hpb (by omega)
   obtain ⟨r1,hr1⟩:∃ r,r=medianAdjacent ltInt d i0 0:=⟨_,rfl⟩
   have b1:r1.1<n∧r1.2≤0+3:=by rw [hr1];exact median_lt (by omega) (by omega) (by omega)
   have c2:∀ w1,AtA w1 b y d→_:=fun w1 hA1=>adj8_ok b y n c j0 pn.b pn.o r1.2 d w1 hA1 hn (by omega) (by omega) hbig hpb (by omega)
   obtain ⟨r2,hr2⟩:∃ r,r=medianAdjacent ltInt d j0 r1.2:=⟨_,rfl⟩
   have b2:r2.1<n∧r2.2≤r1.2+3:=by rw [hr2];exact median_lt (by omega) (by omega) (by omega)
   have c3:∀ w1,AtA w1 b y d→_:=fun w1 hA1=>adj8_ok b y n c k0 pn.b pn.o r2.2 d w1 hA1 hn (by omega) (by omega) hbig hpb (by omega)
   obtain ⟨r3,hr3⟩:∃ r,r=medianAdjacent ltInt d k0 r2.2:=⟨_,rfl⟩
   have b3:r3.1<n∧r3.2≤r2.2+3:=by rw [hr3];exact median_lt (by omega) (by omega) (by omega)
   have c4:∀ w1,AtA w1 b y d→_:=fun w1 hA1=>median8_ok b y n c r1.1 r2.1 r3.1 pn.b pn.o r3.2 d w1 hA1 hn b1.1 b2.1 b3.1 hbig hpb (by omega)
   obtain ⟨r4,hr4⟩:∃ r,r=median ltInt d r1.1 r2.1 r3.1 r3.2:=⟨_,rfl⟩
   rw [←hr1,←hp] at c1
   rw [←hr2,←hp] at c2
   rw [←hr3,←hp] at c3
   rw [←hr4,←hp] at c4
   have fin:=fin r4.1 r4.2 (by rw [if_pos (by omega),if_pos (by omega),←hr1,←hr2,←hr3,←hr4])
   clear hr1 hr2 hr3 hr4
   obtain ⟨m1,s1⟩:=r1
   obtain ⟨m2,s2⟩:=r2
   obtain ⟨m3,s3⟩:=r3
   obtain ⟨m4,s4⟩:=r4
   simp only at c1 c2 c3 c4 fin b1 b2 b3
   rw [fin]
   refine X.go T117_ok 400 _ rfl Tryz.results117 ?_
   conv=>arg 2;cbv
   refine X.call rfl rfl rfl rfl Tryz.call133 (fun N w1 args hN hS ha=>?_)
   have hp0:N[0]?=some pn:=hN 0 _ hpA
   have cell0:w1.cell? ⟨pn.b,pn.o,none⟩=some (.int .i64 ((0:Nat):Int)):=by
    obtain ⟨v0,k1,k2⟩:=hS.cell 0 _ _ rfl hp0 0 _ rfl
    simp only [SV.den,SI.den,Option.some.injEq] at k1
    subst k1
    exact k2
   have hz1:w1.frozen? ⟨pn.b,pn.o,none⟩=false:=(hS.room 0 _ _ rfl hp0 rfl 0 hx1).2
   simp only [SV.denL,SV.den,hp0,SI.den,Option.some.injEq] at ha
   subst ha
   have hA1:=hA.chg hS.chg (fun q _ h=>inR_nil h)
   refine Calls.mono (c1 w1 hA1 cell0 hz1) fun e w' ⟨he,hcell,hc'⟩=>⟨_,he,Goes.cells (r:=0) hN hS rfl hp0 rfl (hc'.mono fun k o _ ⟨e1,e2,e3⟩=>⟨e1,e2,by omega⟩) [.int .i64 (.nat s1)] hx1 (fun q c hq=>by cases q with
    | zero=>simp at hq;subst hq;exact ⟨_,rfl,hcell⟩
    | succ q=>simp at hq) (rv:=.int .i64 (.nat m1)) rfl rfl ?_⟩
   refine X.go T117_ok 400 _ rfl Tryz.results117 ?_
   conv=>arg 2;cbv
   refine X.call rfl rfl rfl rfl Tryz.call133 (fun N w1 args hN hS ha=>?_)
   have hp0:N[0]?=some pn:=hN 0 _ hpA
   have cell0:w1.cell? ⟨pn.b,pn.o,none⟩=some (.int .i64 s1):=by
    obtain ⟨v0,k1,k2⟩:=hS.cell 0 _ _ rfl hp0 0 _ rfl
    simp only [SV.den,SI.den,Option.some.injEq] at k1
    subst k1
    exact k2
   have hz1:w1.frozen? ⟨pn.b,pn.o,none⟩=false:=(hS.room 0 _ _ rfl hp0 rfl 0 hx1).2
   simp only [SV.denL,SV.den,hp0,SI.den,Option.some.injEq] at ha
   subst ha
   have hA1:=hA.chg hS.chg (fun q _ h=>inR_nil h)
   refine Calls.mono (c2 w1 hA1 cell0 hz1) fun e w' ⟨he,hcell,hc'⟩=>⟨_,he,Goes.cells (r:=0) hN hS rfl hp0 rfl (hc'.mono fun k o _ ⟨e1,e2,e3⟩=>⟨e1,e2,by omega⟩) [.int .i64 (.nat s2)] hx1 (fun q c hq=>by cases q with
    | zero=>simp at hq;subst hq;exact ⟨_,rfl,hcell⟩
    | succ q=>simp at hq) (rv:=.int .i64 (.nat m2)) rfl rfl ?_⟩
   refine X.go T117_ok 400 _ rfl Tryz.results117 ?_
   conv=>arg 2;cbv
   refine X.call rfl rfl rfl rfl Tryz.call133 (fun N w1 args hN hS ha=>?_)
   have hp0:N[0]?=some pn:=hN 0 _ hpA
   have cell0:w1.cell? ⟨pn.b,pn.o,none⟩=some (.int .i64 s2):=by
    obtain ⟨v0,k1,k2⟩:=hS.cell 0 _ _ rfl hp0 0 _ rfl
    simp only [SV.den,SI.den,Option.some.injEq] at k1
    subst k1
    exact k2
   have hz1:w1.frozen? ⟨pn.b,pn.o,none⟩=false:=(hS.room 0 _ _ rfl hp0 rfl 0 hx1).2
   simp only [SV.denL,SV.den,hp0,SI.den,Option.some.injEq] at ha
   subst ha
   have hA1:=hA.chg hS.chg (fun q _ h=>inR_nil h)
   refine Calls.mono (c3 w1 hA1 cell0 hz1) fun e w' ⟨he,hcell,hc'⟩=>⟨_,he,Goes.cells (r:=0) hN hS rfl hp0 rfl (hc'.mono fun k o _ ⟨e1,e2,e3⟩=>⟨e1,e2,by omega⟩) [.int .i64 (.nat s3)] hx1 (fun q c hq=>by cases q with
    | zero=>simp at hq;subst hq;exact ⟨_,rfl,hcell⟩
    | succ q=>simp at hq) (rv:=.int .i64 (.nat m3)) rfl rfl ?_⟩
   refine X.go T117_ok 400 _ rfl Tryz.results117 ?_
   conv=>arg 2;cbv
   refine X.call rfl rfl rfl rfl Tryz.call134 (fun N w1 args hN hS ha=>?_)
   have hp0:N[0]?=some pn:=hN 0 _ hpA
   have cell0:w1.cell? ⟨pn.b,pn.o,none⟩=some (.int .i64 s3):=by
    obtain ⟨v0,k1,k2⟩:=hS.cell 0 _ _ rfl hp0 0 _ rfl
    simp only [SV.den,SI.den,Option.some.injEq] at k1
    subst k1
    exact k2
   have hz1:w1.frozen? ⟨pn.b,pn.o,none⟩=false:=(hS.room 0 _ _ rfl hp0 rfl 0 hx1).2
   simp only [SV.denL,SV.den,hp0,SI.den,Option.some.injEq] at ha
   subst ha
   have hA1:=hA.chg hS.chg (fun q _ h=>inR_nil h)
   refine Calls.mono (c4 w1 hA1 cell0 hz1) fun e w' ⟨he,hcell,hc'⟩=>⟨_,he,Goes.cells (r:=0) hN hS rfl hp0 rfl (hc'.mono fun k o _ ⟨e1,e2,e3⟩=>⟨e1,e2,by omega⟩) [.int .i64 (.nat s4)] hx1 (fun q c hq=>by cases q with
    | zero=>simp at hq;subst hq;exact ⟨_,rfl,hcell⟩
    | succ q=>simp at hq) (rv:=.int .i64 (.nat m4)) rfl rfl ?_⟩
   refine X.go T117_ok 400 _ rfl Tryz.results117 ?_
   conv=>arg 2;cbv
   refine X.cond rfl (fun hT=>?_) (fun hT=>?_)
   ·simp only [SB.T,SI.den] at hT
    refine X.go T117_ok 400 _ rfl Tryz.results117 ?_
    conv=>arg 2;cbv
    refine X.done T117_ok rfl (fun N w' v hN hS hv=>⟨?_,hS.chg.mono fun k o _ h=>inR_nil h⟩)
    simp only [resV,SV.den,SV.denL,SI.den,Option.some.injEq] at hv
    rw [←hv,if_pos (by omega)]
    rfl
   refine X.go T117_ok 400 _ rfl Tryz.results117 ?_
   conv=>arg 2;cbv
   refine X.cond rfl (fun hU=>?_) (fun hU=>?_)
   ·simp only [SB.T,SB.F,SI.den] at hT hU
    refine X.go T117_ok 400 _ rfl Tryz.results117 ?_
    conv=>arg 2;cbv
    refine X.done T117_ok rfl (fun N w' v hN hS hv=>⟨?_,hS.chg.mono fun k o _ h=>inR_nil h⟩)
    simp only [resV,SV.den,SV.denL,SI.den,Option.some.injEq] at hv
    rw [←hv,if_neg (by omega),if_pos (by omega)]
    rfl
   ·simp only [SB.F,SI.den] at hT hU
    refine X.go T117_ok 400 _ rfl Tryz.results117 ?_
    conv=>arg 2;cbv
    refine X.done T117_ok rfl (fun N w' v hN hS hv=>⟨?_,hS.chg.mono fun k o _ h=>inR_nil h⟩)
    simp only [resV,SV.den,SV.denL,SI.den,Option.some.injEq] at hv
    rw [←hv,if_neg (by omega),if_neg (by omega)]
    rfl
  ·simp (disch:=omega) only [SB.F,SI.den,wrapN] at h50
   have c4:∀ w1,AtA w1 b y d→_:=fun w1 hA1=>median8_ok b y n c i0 j0 k0 pn.b pn.o 0 d w1 hA1 hn (by omega) (by omega) (by omega) hbig hpb (by omega)
   obtain ⟨r4,hr4⟩:∃ r,r=median ltInt d i0 j0 k0 0:=⟨_,rfl⟩
   rw [←hr4,←hp] at c4
   have fin:=fin r4.1 r4.2 (by rw [if_pos (by omega),if_neg (by omega),←hr4])
   clear hr4
   obtain ⟨m4,s4⟩:=r4
   simp only at c4 fin
   rw [fin]
   refine X.go T117_ok 400 _ rfl Tryz.results117 ?_
   conv=>arg 2;cbv
   refine X.call rfl rfl rfl rfl Tryz.call134 (fun N w1 args hN hS ha=>?_)
   have hp0:N[0]?=some pn:=hN 0 _ hpA
   have cell0:w1.cell? ⟨pn.b,pn.o,none⟩=some (.int .i64 ((0:Nat):Int)):=by
    obtain ⟨v0,k1,k2⟩:=hS.cell 0 _ _ rfl hp0 0 _ rfl
    simp only [SV.den,SI.den,Option.some.injEq] at k1
    subst k1
    exact k2
   have hz1:w1.frozen? ⟨pn.b,pn.o,none⟩=false:=(hS.room 0 _ _ rfl hp0 rfl 0 hx1).2
   simp only [SV.denL,SV.den,hp0,SI.den,Option.some.injEq] at ha
   subst ha
   have hA1:=hA.chg hS.chg (fun q _ h=>inR_nil h)
   refine Calls.mono (c4 w1 hA1 cell0 hz1) fun e w' ⟨he,hcell,hc'⟩=>⟨_,he,Goes.cells (r:=0) hN hS rfl hp0 rfl (hc'.mono fun k o _ ⟨e1,e2,e3⟩=>⟨e1,e2,by omega⟩) [.int .i64 (.nat s4)] hx1 (fun q c hq=>by cases q with
    | zero=>simp at hq;subst hq;exact ⟨_,rfl,hcell⟩
    | succ q=>simp at hq) (rv:=.int .i64 (.nat m4)) rfl rfl ?_⟩
   refine X.go T117_ok 400 _ rfl Tryz.results117 ?_
   conv=>arg 2;cbv
   refine X.cond rfl (fun hT=>?_) (fun hT=>?_)
   ·simp only [SB.T,SI.den] at hT
    refine X.go T117_ok 400 _ rfl Tryz.results117 ?_
    conv=>arg 2;cbv
    refine X.done T117_ok rfl (fun N w' v hN hS hv=>⟨?_,hS.chg.mono fun k o _ h=>inR_nil h⟩)
    simp only [resV,SV.den,SV.denL,SI.den,Option.some.injEq] at hv
    rw [←hv,if_pos (by omega)]
    rfl
   refine X.go T117_ok 400 _ rfl Tryz.results117 ?_
   conv=>arg 2;cbv
   refine X.cond rfl (fun hU=>?_) (fun hU=>?_)
   ·simp only [SB.T,SB.F,SI.den] at hT hU
    refine X.go T117_ok 400 _ rfl Tryz.results117 ?_
    conv=>arg 2;cbv
    refine X.done T117_ok rfl (fun N w' v hN hS hv=>⟨?_,hS.chg.mono fun k o _ h=>inR_nil h⟩)
    simp only [resV,SV.den,SV.denL,SI.den,Option.some.injEq] at hv
    rw [←hv,if_neg (by omega),if_pos (by omega)]
    rfl
   ·simp only [SB.F,SI.den] at hT hU
    refine X.go T117_ok 400 _ rfl Tryz.results117 ?_
    conv=>arg 2;cbv
    refine X.done T117_ok rfl (fun N w' v hN hS hv=>⟨?_,hS.chg.mono fun k o _ h=>inR_nil h⟩)
    simp only [resV,SV.den,SV.denL,SI.den,Option.some.injEq] at hv
    rw [←hv,if_neg (by omega),if_neg (by omega)]
    rfl
 ·simp (disch:=omega) only [SB.F,SI.den,wrapN] at h8
  rw [fin j0 0 (by rw [if_neg (by omega)])]
  refine X.go T117_ok 400 _ rfl Tryz.results117 ?_
  conv=>arg 2;cbv
  refine X.done T117_ok rfl (fun N w' v hN hS hv=>⟨?_,hS.chg.mono fun k o _ h=>inR_nil h⟩)
  simp only [resV,SV.den,SV.denL,SI.den,Option.some.injEq] at hv
  rw [←hv,if_pos rfl]
  rfl
end Go.Proofs.YthpbefahaghbjaaGreat
